/-
Layer 7: what the rows hand to the walks: codes as the arguments bear them; how a law that only reads leaves them.
-/
import Derived.Test.YtppeplonnippcaaDoorCards
import Derived.Test.YtppeplonnippcaaDoorTie
import Derived.Test.YtppeplonnippcaaDoorD2
import Derived.ProofKit
import Derived.OpenShut
import Derived.Deep.DeepHandedRow
import Derived.Deep.Matrix
import Derived.Carry
import Derived.DataShut
import Derived.Lib.LaidTab
set_option linter.unusedVariables false
set_option linter.unusedSimpArgs false
namespace Go.Proofs.YtppeplonnippcaaDoor
open Go.ChangeShapes Go.WideShapes Go.ChangeAt Go.RowKit Go.Deep

theorem own : ownKnob Tryd.prog.godebug = none := by kernel_rfl
theorem laidOut : laidOutB Tryd.prog = true := by kernel_rfl

section
variable {H : Type} {enc : TypeId × Value → H}
theorem stays_all {W W' : World} {sp : Nat → Bool} (hb : Below W.heap.size W W') : ∀ {ts : List TypeId} {vs : List Value} {ds : List (DataW H)} {ps : List MemPlace}, (∀ t ∈ ts, Tryd.prog.readableRec t = true ∧ t < Tryd.prog.types.size) →
    DataW.TrodAll enc Tryd.prog W 0 (fun _ => true) true ts vs ds ps → (∀ x ∈ ps, x.block < W.heap.size) → (∀ x ∈ ps, sp x.block = true) → DataW.TrodAll enc Tryd.prog W' 0 sp true ts vs ds ps
  | [], [], [], _, _, h, _, _ => h
  | t :: _, _ :: _, _ :: _, _, hT, ⟨p, q, h1, h2, e⟩, hl, hs => by
    have h0 := hT t (List.mem_cons_self ..)
    refine ⟨p, q, WideElems.Trod_stays laidOut h0.1 h0.2 h1 (fun x hx => hb.same (hl x (by rw [e]; exact List.mem_append_left _ hx))) (fun x hx => hs x (by rw [e]; exact List.mem_append_left _ hx)),
      stays_all hb (fun t ht => hT t (List.mem_cons_of_mem _ ht)) h2 (fun x hx => hl x (by rw [e]; exact List.mem_append_right _ hx)) (fun x hx => hs x (by rw [e]; exact List.mem_append_right _ hx)), e⟩

set_option maxRecDepth 100000 in
/-- a law that returned true, and left the caller's memory alone -/
theorem law_post {f : Func} {s : ChangeSpec} {apart fresh handsOn again : Bool} {W W' : World} {args : Array Value} {ds gs : List (DataW H)} {before : List MemPlace}
    (hr : f.resultTypes = #[4]) (hv : s.vars = []) (hs : s.fn H (ds ++ []) = { results := [.lit (.bool true)], args := ds })
    (hp : ∀ t ∈ f.params.toList, Tryd.prog.readableRec t = true ∧ t < Tryd.prog.types.size)
    (hW : DataW.Whole enc Tryd.prog f.params.toList s.vars apart W args.toList ds gs before) (hb : Below W.heap.size W W') :
    s.post enc Tryd.prog f apart fresh handsOn again W args (.bool true) W' := by
  have hlt : ∀ p ∈ before, p.block < W.heap.size := fun p hp => hW.lt p hp
  have hW' := hW
  obtain ⟨pa, pv, hA, hV, hpv, hz, hn⟩ := hW
  rw [hv] at hV
  obtain ⟨rfl, rfl⟩ := trodVars_none hV
  simp only [List.append_nil] at hpv
  subst hpv
  have hargs : ∀ sp : Nat → Bool, (∀ x ∈ before, sp x.block = true) → DataW.TrodAll enc Tryd.prog W' 0 sp true f.params.toList args.toList (s.fn H (ds ++ [])).args before := fun sp h => by
    rw [hs]; exact stays_all hb hp hA hlt h
  have hres : ∀ (b : Nat) (sp : Nat → Bool) (hd : Bool), DataW.TrodAll enc Tryd.prog W' b sp hd f.resultTypes.toList ((Value.bool true).resultList f.resultTypes.size) (s.fn H (ds ++ [])).results [] := fun b sp hd => by
    rw [hs, hr]; exact trodAll_mk1 (shut_bool Tryd.underlying4 true)
  have hvars : ∀ sp : Nat → Bool, DataW.TrodVars enc Tryd.prog W' sp s.vars (s.fn H (ds ++ [])).vars [] := fun sp => by rw [hs, hv]; rfl
  have hold : ∀ x ∈ before, (fun b => decide (b < W.heap.size)) x.block = true := fun x hx => by simpa using hlt x hx
  refine ⟨ds, [], before, [], before, [], hW', hres _ _ _, hargs _ hold, hvars _, World.keptBut_mono (fun x hx => ⟨hx, ?_⟩) (hb.frame (· ∈ before)), fun _ => ?_⟩
  · simpa using hx
  · refine ⟨ok_one hr rfl (okWide_bool_mk Tryd.underlying4 _), _, _, ([] ++ before) ++ [], ⟨[] ++ before, [], trodAll_append (hargs _ (fun _ _ => rfl)) (hres _ _ _), hvars _, rfl, ?_, ?_⟩, ?_⟩
    · intro b off hin
      simp only [List.nil_append, List.append_nil] at hin
      rw [hb.frozen (p := ⟨b, off, none⟩) (hlt _ hin)]
      exact hz b off hin
    · intro ha
      simpa using hn ha
    · intro x hx _
      simpa using hx

set_option maxRecDepth 100000 in
theorem fields24 : ∃ f0 f1 f2 f3 f4 : Field, Tryd.prog.underlying 24 = some (.struct #[f0, f1, f2, f3, f4]) ∧ (f0.type = 9 ∧ f0.offset = 0) ∧ (f1.type = 3 ∧ f1.offset = 1) ∧ (f2.type = 3 ∧ f2.offset = 2) ∧ (f3.type = 22 ∧ f3.offset = 3) ∧ (f4.type = 3 ∧ f4.offset = 4) :=
  ⟨_, _, _, _, _, Tryd.underlying24, ⟨rfl, rfl⟩, ⟨rfl, rfl⟩, ⟨rfl, rfl⟩, ⟨rfl, rfl⟩, ⟨rfl, rfl⟩⟩
theorem cells24 : Tryd.prog.cellsOf 24 = 5 := by kernel_rfl
theorem cells9 : Tryd.prog.cellsOf 9 = 1 := by kernel_rfl
theorem cells3 : Tryd.prog.cellsOf 3 = 1 := by kernel_rfl
theorem cells22 : Tryd.prog.cellsOf 22 = 1 := by kernel_rfl
theorem cells61 : Tryd.prog.cellsOf 61 = 1 := by kernel_rfl
theorem bytes61 : Tryd.prog.bytesOf 61 = 24 := by kernel_rfl
theorem bytes3 : Tryd.prog.bytesOf 3 = 8 := by kernel_rfl

set_option maxRecDepth 100000 in
theorem rows_at {w : World} {base fuel : Nat} {v : Value} {x : DataW H × List MemPlace} (h : DataW.trod enc Tryd.prog w base (fun _ => true) true fuel 22 [v] = some x) (hz : ∀ n ∈ DataW.weights Tryd.prog 22 x.1, n ≤ reachBytes) :
    ∃ (A : Option Addr) (l : List (List Int)) (c : Nat), v = .slice A l.length c ∧ l.length ≤ c ∧ l.length ≤ 4611686018427387904 ∧ RowsAt w A l ∧ ∀ r ∈ l, r.length ≤ 4611686018427387904 := by
  rcases open_int_rows Tryd.underlying22 Tryd.underlying61 Tryd.underlying3 cells61 cells3 h with ⟨hc, hx⟩ | ⟨a, len, cap, A, L, C, Z, hc, hb, hl, hm, hx, hr⟩
  · simp only [List.cons.injEq, and_true] at hc
    exact ⟨none, [], 0, hc, Nat.le_refl _, Nat.zero_le _, fun i hi => absurd hi (Nat.not_lt_zero _), fun r hr => by cases hr⟩
  · simp only [List.cons.injEq, and_true] at hc
    subst hc hx
    have hlen : ((List.range len).map fun r => (Z r).take (L r)).length = len := by simp
    have hL : ∀ r, r < cap → (Z r).length = C r ∧ L r ≤ C r := fun r h => ⟨(hr r h).2.2.2.1, (hr r h).2.1⟩
    have hsm : reachBytes ≤ 140737488351232 := by decide
    have hw0 : (len + (cap - len)) * 24 ≤ 140737488351232 := by
      refine Nat.le_trans (hz _ ?_) hsm
      simp only [DataW.weights, Tryd.underlying22, bytes61, List.length_map, List.length_range, List.mem_cons]
      exact .inl trivial
    have hin : ∀ r, r < len → C r ≤ 140737488351232 := by
      intro r hrl
      have h1 := hr r (by omega)
      rcases hA : A r with _ | a'
      · have := h1.2.2.2.2.2.1 hA; omega
      · have hmem : (Z r).length * 8 ∈ DataW.weights (H := H) Tryd.prog 22 (.slice ((List.range len).map fun r => intRow .i64 (A r) (L r) (Z r)) ((List.range (cap - len)).map fun j => intRow .i64 (A (len + j)) (L (len + j)) (Z (len + j)))) := by
          have key : ∀ l : List Nat, r ∈ l → (Z r).length * 8 ∈ DataW.weightsAll (H := H) Tryd.prog 61 (l.map fun r => intRow .i64 (A r) (L r) (Z r)) := by
            intro l
            induction l with
            | nil => intro h; cases h
            | cons i l ih =>
              intro h
              simp only [List.map_cons, DataW.weightsAll, List.mem_append]
              rcases List.mem_cons.1 h with rfl | h
              · left
                simp only [intRow, hA, DataW.weights, Tryd.underlying61, bytes3, List.mem_cons]
                left
                simp only [lits, List.length_map, List.length_take, List.length_drop]
                omega
              · exact .inr (ih h)
          simp only [DataW.weights, Tryd.underlying22, List.mem_cons, List.mem_append]
          exact .inr (.inl (key _ (List.mem_range.2 hrl)))
        have := Nat.le_trans (hz _ hmem) hsm
        have := h1.2.2.2.1
        omega
    refine ⟨some a, (List.range len).map fun r => (Z r).take (L r), cap, by rw [hlen], by rw [hlen]; exact hl, by rw [hlen]; omega, fun i hi => ?_, fun r hrm => ?_⟩
    · have hi' : i < len := by simpa using hi
      obtain ⟨h1, h2, h3, h4, h5, h6, h7⟩ := hr i (by omega)
      have hg : ((List.range len).map fun r => (Z r).take (L r))[i] = (Z i).take (L i) := by simp
      have hgl : ((Z i).take (L i)).length = L i := by rw [List.length_take]; omega
      refine ⟨a, A i, C i, rfl, by rw [hg, hgl]; exact h1, by rw [hg, hgl]; exact h2, ?_⟩
      rw [hg]
      intro j hj
      have hj' : j < L i := by omega
      rcases hA : A i with _ | a'
      · have := h6 hA; omega
      · refine ⟨a', rfl, ?_⟩
        have := (h7 a' hA).2 j (by omega)
        rw [this, List.getElem_take]
        simp [show j < (Z i).length by omega]
    · obtain ⟨i, hi, rfl⟩ := List.mem_map.1 hrm
      have hi' := List.mem_range.1 hi
      have h1 := hin i hi'
      have h2 := hL i (by omega)
      show ((Z i).take (L i)).length ≤ _
      rw [List.length_take]; omega

set_option maxRecDepth 100000 in
theorem open_code {w : World} {base b0 : Nat} {v : Value} {d : DataW H} {ps : List MemPlace} {r : Reach} (hv : Value.okWide Tryd.prog w r b0 24 v) (h : DataW.Trod enc Tryd.prog w base (fun _ => true) true 24 v d ps)
    (hz : ∀ n ∈ DataW.weights Tryd.prog 24 d, n ≤ reachBytes) : ∃ c : CodeIn, v = c.v ∧ c.Ok w ∧ -9223372036854775808 ≤ c.data ∧ c.data ≤ 9223372036854775807 := by
  obtain ⟨f0, f1, f2, f3, f4, hu, ⟨t0, o0⟩, ⟨t1, o1⟩, ⟨t2, o2⟩, ⟨t3, o3⟩, t4, o4⟩ := fields24
  obtain ⟨cs, rfl, hsz⟩ := okWide_struct hu hv
  rw [cells24] at hsz
  obtain ⟨fuel, hf⟩ := h
  obtain ⟨xs, n, _, hx, _, hlen, hg⟩ := DataW.trod_struct hu hf
  have h0 := hg 0 f0 rfl; have h1 := hg 1 f1 rfl; have h2 := hg 2 f2 rfl; have h3 := hg 3 f3 rfl; have h4 := hg 4 f4 rfl
  rw [t0, o0, cells9] at h0
  rw [t1, o1, cells3] at h1
  rw [t2, o2, cells3] at h2
  rw [t3, o3, cells22] at h3
  rw [t4, o4, cells3] at h4
  obtain ⟨l⟩ := cs
  obtain ⟨c0, c1, c2, c3, c4, rfl⟩ : ∃ a b c d e, l = [a, b, c, d, e] := by
    match l, hsz with
    | [a, b, c, d, e], _ => exact ⟨a, b, c, d, e, rfl⟩
  obtain ⟨y0, y1, y2, y3, y4, rfl⟩ : ∃ a b c d e, xs = [a, b, c, d, e] := by
    match xs, hlen with
    | [a, b, c, d, e], _ => exact ⟨a, b, c, d, e, rfl⟩
  have g0 : DataW.trod enc Tryd.prog w base (fun _ => true) true n 9 [c0] = some y0 := h0
  have g1 : DataW.trod enc Tryd.prog w base (fun _ => true) true n 3 [c1] = some y1 := h1
  have g2 : DataW.trod enc Tryd.prog w base (fun _ => true) true n 3 [c2] = some y2 := h2
  have g3 : DataW.trod enc Tryd.prog w base (fun _ => true) true n 22 [c3] = some y3 := h3
  have g4 : DataW.trod enc Tryd.prog w base (fun _ => true) true n 3 [c4] = some y4 := h4
  obtain ⟨s, e0, rfl, _⟩ := DataW.trod_string Tryd.underlying9 g0
  obtain ⟨i1, e1, rfl, _⟩ := DataW.trod_int Tryd.underlying3 g1
  obtain ⟨i2, e2, rfl, w2⟩ := DataW.trod_int Tryd.underlying3 g2
  obtain ⟨i4, e4, rfl, _⟩ := DataW.trod_int Tryd.underlying3 g4
  simp only [List.cons.injEq, and_true] at e0 e1 e2 e4
  subst e0 e1 e2 e4
  simp only [Prod.mk.injEq] at hx
  obtain ⟨rfl, rfl⟩ := hx
  have hw : DataW.weights (H := H) Tryd.prog 24 (.agg ([(DataW.lit (Lit.string s.data.toList), []), (.lit (.int .i64 i1), []), (.lit (.int .i64 i2), []), y3, (.lit (.int .i64 i4), [])].map (·.1))) = [s.data.toList.length] ++ ([] ++ ([] ++ (DataW.weights Tryd.prog 22 y3.1 ++ ([] ++ [])))) := by
    simp only [DataW.weights, hu, List.map_cons, List.map_nil, DataW.weightsEach, t0, t1, t2, t3, t4]
  rw [hw] at hz
  have hs : s.data.toList.length ≤ reachBytes := hz _ (by simp)
  have hsm : reachBytes ≤ 140737488351232 := by decide
  obtain ⟨A, lr, c, rfl, k1, k2, k3, k4⟩ := rows_at g3 (fun n hn => hz n (by simp [hn]))
  have hi : -9223372036854775808 ≤ i2 ∧ i2 ≤ 9223372036854775807 := (Lit.wf_int_iff .i64 i2).1 w2
  exact ⟨⟨s, i1, i2, A, lr, c, i4⟩, rfl, ⟨k3, k2, k4, by show s.data.toList.length ≤ _; omega, k1⟩, hi⟩
end
end Go.Proofs.YtppeplonnippcaaDoor
