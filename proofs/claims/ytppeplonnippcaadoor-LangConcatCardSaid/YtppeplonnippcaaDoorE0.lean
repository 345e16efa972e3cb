/-
Layer 7: a list of codes as an argument bears it.
-/
import Derived.Test.YtppeplonnippcaaDoorD3
import Derived.Test.YtppeplonnippcaaDoorD5
set_option linter.unusedVariables false
set_option linter.unusedSimpArgs false
namespace Go.Proofs.YtppeplonnippcaaDoor
open Go.ChangeShapes Go.WideShapes Go.ChangeAt Go.RowKit Go.Deep

/-- a code of a list of the caller's -/
structure OkS (x : S24) : Prop where
  small : Small24 x
  name : x.f0.size ≤ 4611686018427387904
  lo : -9223372036854775808 ≤ x.f2
  hi : x.f2 ≤ 9223372036854775807

section
variable {H : Type} {enc : TypeId × Value → H}
set_option maxRecDepth 100000 in
theorem code_cells {w : World} {base fuel : Nat} {cs : List Value} {d : DataW H} {ps : List MemPlace} (hl : cs.length = 5) (hf : DataW.trod enc Tryd.prog w base (fun _ => true) true fuel 24 cs = some (d, ps))
    (hz : ∀ n ∈ DataW.weights Tryd.prog 24 d, n ≤ reachBytes) : ∃ c : CodeIn, cs = [.string c.name, .int .i64 c.field, .int .i64 c.data, .slice c.A c.rows.length c.cap, .int .i64 c.dom] ∧ c.Ok w ∧ -9223372036854775808 ≤ c.data ∧ c.data ≤ 9223372036854775807 := by
  obtain ⟨f0, f1, f2, f3, f4, hu, ⟨t0, o0⟩, ⟨t1, o1⟩, ⟨t2, o2⟩, ⟨t3, o3⟩, t4, o4⟩ := fields24
  obtain ⟨xs, n, _, hx, _, hlen, hg⟩ := DataW.trod_struct hu hf
  have h0 := hg 0 f0 rfl; have h1 := hg 1 f1 rfl; have h2 := hg 2 f2 rfl; have h3 := hg 3 f3 rfl; have h4 := hg 4 f4 rfl
  rw [t0, o0, cells9] at h0
  rw [t1, o1, cells3] at h1
  rw [t2, o2, cells3] at h2
  rw [t3, o3, cells22] at h3
  rw [t4, o4, cells3] at h4
  obtain ⟨c0, c1, c2, c3, c4, rfl⟩ : ∃ a b c d e, cs = [a, b, c, d, e] := by
    match cs, hl with
    | [a, b, c, d, e], _ => exact ⟨a, b, c, d, e, rfl⟩
  obtain ⟨y0, y1, y2, y3, y4, rfl⟩ : ∃ a b c d e, xs = [a, b, c, d, e] := by
    match xs, hlen with
    | [a, b, c, d, e], _ => exact ⟨a, b, c, d, e, rfl⟩
  have g0 : DataW.trod enc Tryd.prog w base (fun _ => true) true n 9 [c0] = some y0 := h0
  have g1 : DataW.trod enc Tryd.prog w base (fun _ => true) true n 3 [c1] = some y1 := h1
  have g2 : DataW.trod enc Tryd.prog w base (fun _ => true) true n 3 [c2] = some y2 := h2
  have g3 : DataW.trod enc Tryd.prog w base (fun _ => true) true n 22 [c3] = some y3 := h3
  have g4 : DataW.trod enc Tryd.prog w base (fun _ => true) true n 3 [c4] = some y4 := h4
  obtain ⟨s, e0, rfl, _⟩ := DataW.trod_string Tryd.underlying9 g0
  obtain ⟨i1, e1, rfl, _⟩ := DataW.trod_int Tryd.underlying3 g1
  obtain ⟨i2, e2, rfl, w2⟩ := DataW.trod_int Tryd.underlying3 g2
  obtain ⟨i4, e4, rfl, _⟩ := DataW.trod_int Tryd.underlying3 g4
  simp only [List.cons.injEq, and_true] at e0 e1 e2 e4
  subst e0 e1 e2 e4
  simp only [Prod.mk.injEq] at hx
  obtain ⟨rfl, rfl⟩ := hx
  have hw : DataW.weights (H := H) Tryd.prog 24 (.agg ([(DataW.lit (Lit.string s.data.toList), []), (.lit (.int .i64 i1), []), (.lit (.int .i64 i2), []), y3, (.lit (.int .i64 i4), [])].map (·.1))) = [s.data.toList.length] ++ ([] ++ ([] ++ (DataW.weights Tryd.prog 22 y3.1 ++ ([] ++ [])))) := by
    simp only [DataW.weights, hu, List.map_cons, List.map_nil, DataW.weightsEach, t0, t1, t2, t3, t4]
  rw [hw] at hz
  have hs : s.data.toList.length ≤ reachBytes := hz _ (by simp)
  have hsm : reachBytes ≤ 140737488351232 := by decide
  obtain ⟨A, lr, c, rfl, k1, k2, k3, k4⟩ := rows_at g3 (fun n hn => hz n (by simp [hn]))
  have hi : -9223372036854775808 ≤ i2 ∧ i2 ≤ 9223372036854775807 := (Lit.wf_int_iff .i64 i2).1 w2
  exact ⟨⟨s, i1, i2, A, lr, c, i4⟩, rfl, ⟨k3, k2, k4, by show s.data.toList.length ≤ _; omega, k1⟩, hi⟩

set_option maxRecDepth 100000 in
theorem open_codes {w : World} {base b0 : Nat} {v : Value} {d : DataW H} {ps : List MemPlace} {r : Reach} (hv : Value.okWide Tryd.prog w r b0 34 v) (h : DataW.Trod enc Tryd.prog w base (fun _ => true) true 34 v d ps)
    (hz : ∀ n ∈ DataW.weights Tryd.prog 34 d, n ≤ reachBytes) : ∃ (A : Option Addr) (l : List S24) (q : Nat), v = .slice A l.length q ∧ CodesAt w A l ∧ l.length ≤ q ∧ l.length ≤ 9223372036854775807 ∧ ∀ x ∈ l, OkS x := by
  obtain ⟨A, len, cap, rfl⟩ := okWide_slice Tryd.underlying34 hv
  obtain ⟨fuel, hf⟩ := h
  rcases open_slice Tryd.underlying34 hf with ⟨hcs, hx⟩ | ⟨a, len', cap', m, n, D, Pl, hcs, hb, hl, hm, hmm, hx, hel⟩
  · simp [Value.cells] at hcs
    obtain ⟨rfl, rfl, rfl⟩ := hcs
    exact ⟨none, [], 0, rfl, fun i hi => absurd hi (Nat.not_lt_zero _), Nat.le_refl _, Nat.zero_le _, fun x hx => by cases hx⟩
  · simp [Value.cells] at hcs
    obtain ⟨rfl, rfl, rfl⟩ := hcs
    simp only [Prod.mk.injEq] at hx
    obtain ⟨rfl, rfl⟩ := hx
    simp only [if_true] at hmm
    subst hmm
    have hwt : ∀ i, i < len → ∀ k ∈ DataW.weights Tryd.prog 24 (D i), k ≤ reachBytes := by
      intro i hi k hk
      apply hz
      have key : ∀ l : List Nat, i ∈ l → k ∈ DataW.weightsAll (H := H) Tryd.prog 24 (l.map D) := by
        intro l
        induction l with
        | nil => intro h; cases h
        | cons x l ih =>
          intro h
          simp only [List.map_cons, DataW.weightsAll, List.mem_append]
          rcases List.mem_cons.1 h with rfl | h
          · exact .inl hk
          · exact .inr (ih h)
      simp only [DataW.weights, Tryd.underlying34, List.mem_cons, List.mem_append]
      exact .inr (.inl (key _ (List.mem_range.2 hi)))
    haveI : Inhabited CodeIn := ⟨⟨⟨#[]⟩, 0, 0, none, [], 0, 0⟩⟩
    obtain ⟨C, hC⟩ := choose_lt (α := CodeIn) (n := len) (p := fun i c => (c.Ok w ∧ -9223372036854775808 ≤ c.data ∧ c.data ≤ 9223372036854775807) ∧
        ∀ k v, [Value.string c.name, .int .i64 c.field, .int .i64 c.data, .slice c.A c.rows.length c.cap, .int .i64 c.dom][k]? = some v → w.cell? (a.add (i * 5 + k)) = some v) (fun i hi => by
      obtain ⟨cs', h1, h2⟩ := hel i (by omega)
      rw [cells24] at h1
      obtain ⟨_, hlen, hg⟩ := World.cells?_some h1
      obtain ⟨c, rfl, h3, h4⟩ := code_cells hlen h2 (hwt i hi)
      refine ⟨c, ⟨h3, h4⟩, fun k v hk => ?_⟩
      have hk5 : k < 5 := (List.getElem?_eq_some_iff.1 hk).1
      rw [← hk, ← hg k hk5, add_add])
    have hlen : ((List.range len).map fun i => inS (C i)).length = len := by simp
    have hmx : m ≤ maxLen := hm
    unfold maxLen at hmx
    refine ⟨some a, (List.range len).map fun i => inS (C i), m, by rw [hlen], fun i hi => ?_, by rw [hlen]; exact hl, by rw [hlen]; omega, fun x hx => ?_⟩
    · have hi' : i < len := by simpa using hi
      obtain ⟨⟨h1, _⟩, h2⟩ := hC i hi'
      have hg : ((List.range len).map fun i => inS (C i))[i] = inS (C i) := by simp
      rw [hg]
      exact ⟨a, (C i).A, (C i).cap, rfl, h1.cap, h1.rows, h2⟩
    · obtain ⟨i, hi, rfl⟩ := List.mem_map.1 hx
      obtain ⟨⟨h1, h3, h4⟩, _⟩ := hC i (List.mem_range.1 hi)
      exact ⟨⟨h1.len, h1.each⟩, h1.name, h3, h4⟩
end
end Go.Proofs.YtppeplonnippcaaDoor
