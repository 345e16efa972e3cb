/-
Layer 7: lists of codes in memory; the reference's SameAll at two lists that are equal.
-/
import Derived.Test.YtppeplonnippcaaDoorR7
import Derived.Test.YtppeplonnippcaaDoorK1
set_option linter.unusedVariables false
set_option linter.unusedSimpArgs false
namespace Go.Proofs.YtppeplonnippcaaDoor
open Go.RowKit Go.Proofs.YtppeplonnippcaaDoorW.PrintWords Go.Proofs.YtppeplonnippcaaDoorW.PrintLast

abbrev S24 := Rf.S24
structure Small24 (x : S24) : Prop where
  len : x.f3.length ≤ 4611686018427387904
  each : ∀ r ∈ x.f3, r.length ≤ 4611686018427387904
theorem Rf.sameAll_l0 (l : List S24) (hl : l.length ≤ 4611686018427387904) (hs : ∀ x ∈ l, Small24 x) : ∀ (d i : Nat), i + d = l.length → Rf.EvR (fun k => Rf.solventref07_SameAll.l0 k l l (i : Int)) true := by
  intro d
  induction d with
  | zero =>
    intro i hi
    refine Rf.EvR.one fun k => ?_
    simp only [Rf.solventref07_SameAll.l0]
    rw [if_neg (by omega)]
  | succ d ih =>
    intro i hi
    have hlt : i < l.length := by omega
    have hx : Rf.rd_T24 l (i : Int) = l[i] := by
      show l.getD (i : Int).toNat _ = _
      simp [hlt]
    have hsm := hs l[i] (List.getElem_mem hlt)
    obtain ⟨K1, h1⟩ := (Rf.same_ev l[i].f0 l[i].f1 l[i].f2 l[i].f3 l[i].f4 l[i].f0 l[i].f1 l[i].f2 l[i].f3 l[i].f4 hsm.len hsm.each).get
    obtain ⟨K2, h2⟩ := (ih (i + 1) (by omega)).get
    refine Rf.EvR.mk' (K1 + K2 + 1) fun k hk => ?_
    obtain ⟨m, rfl⟩ : ∃ m, k = m + 1 := ⟨k - 1, by omega⟩
    simp only [Rf.solventref07_SameAll.l0]
    rw [if_pos (by omega), if_pos (by omega), if_pos (by omega), hx, h1 m (by omega), Rf.wrap_up i (by omega)]
    simp only [Option.bind_some, Sp.same, decide_true, Bool.and_true, if_true]
    exact h2 m (by omega)
theorem Rf.sameAll_ev (l : List S24) (hl : l.length ≤ 4611686018427387904) (hs : ∀ x ∈ l, Small24 x) : Rf.EvR (fun k => Rf.solventref07_SameAll.f k l l) true :=
  Rf.EvR.same (Rf.sameAll_l0 l hl hs l.length 0 (by omega)) fun k => by
    simp only [Rf.solventref07_SameAll.f, if_true]; rfl

/-- codes as they lie in memory -/
def CodesAt (w : World) (A : Option Addr) (l : List S24) : Prop := ∀ i (h : i < l.length), ∃ ad A3 c3, A = some ad ∧ l[i].f3.length ≤ c3 ∧ RowsAt w A3 l[i].f3 ∧
  ∀ k v, [Value.string l[i].f0, .int .i64 l[i].f1, .int .i64 l[i].f2, .slice A3 l[i].f3.length c3, .int .i64 l[i].f4][k]? = some v → w.cell? (ad.add (i * 5 + k)) = some v
theorem codes_kd {w : World} {A : Option Addr} {l : List S24} (h : CodesAt w A l) (hl : l.length ≤ 4611686018427387904) (hs : ∀ x ∈ l, Small24 x) : Kd.C Rf.k24 w A l.length l := by
  refine ⟨rfl, by omega, fun hn => ?_⟩
  obtain ⟨ad, _, _, hA, _⟩ := h 0 hn
  refine ⟨ad, hA, fun j p hp => ?_⟩
  obtain ⟨hj, hpj⟩ := List.getElem?_eq_some_iff.1 hp
  obtain ⟨ad', A3, c3, hA', hc0, hr, hc⟩ := h j hj
  rw [hA] at hA'
  obtain rfl := Option.some.inj hA'
  subst hpj
  have hsm := hs l[j] (List.getElem_mem hj)
  exact ⟨_, rfl, Rf.k24_mk w l[j] hc0 (rows_kd hr hsm.len hsm.each), hc⟩
theorem sameAll_any (A B : Option Addr) (c d : Nat) (l : List S24) (w : World) (ha : CodesAt w A l) (hb : CodesAt w B l) (hl : l.length ≤ 4611686018427387904) (hs : ∀ x ∈ l, Small24 x) (hc : l.length ≤ c) (hd : l.length ≤ d) :
    Calls Tryd.prog 22 #[.slice A l.length c, .slice B l.length d] w fun e w' => e = .returned (.bool true) ∧ Below w.heap.size w w' := by
  obtain ⟨k, hk⟩ := (Rf.sameAll_ev l hl hs).ex
  exact Rf.solventref07_SameAll.calls k A c l B d l true w (codes_kd ha hl hs) hc (codes_kd hb hl hs) hd hk

theorem CodesAt.below {w w' : World} {A : Option Addr} {l : List S24} (h : CodesAt w A l) (k : Below w.heap.size w w') : CodesAt w' A l := fun i hi => by
  obtain ⟨ad, A3, c3, h1, h2, h3, h4⟩ := h i hi
  exact ⟨ad, A3, c3, h1, h2, h3.below k, fun j v hv => (k.cell (World.block_lt_of_cell? w _ (h4 j v hv))).trans (h4 j v hv)⟩
def toS (c : Sp.Code) : S24 := ⟨bs c.name, c.field, c.data, c.parity, c.domain⟩
def inS (c : CodeIn) : S24 := ⟨c.name, c.field, c.data, c.rows, c.dom⟩
theorem CodesV.codesAt {b0 : Nat} {l : List Sp.Code} {w : World} {v : Value} (h : CodesV b0 l w v) : ∃ A q, v = .slice A (l.map toS).length q ∧ (l.map toS).length ≤ q ∧ CodesAt w A (l.map toS) := by
  have hm : (l.map toS).length = l.length := List.length_map ..
  obtain ⟨A, q, rfl⟩ := h.shape
  have h' := h
  obtain ⟨cs, ho, hin⟩ := h
  have hq : l.length ≤ q := by
    rcases ho.2 with ⟨hv, h0⟩ | ⟨g, cap, cur, hv, _, hg, hc, _⟩
    · omega
    · simp only [Value.slice.injEq] at hv
      omega
  refine ⟨A, q, by rw [hm], by omega, fun i hi => ?_⟩
  have hi' : i < l.length := by omega
  obtain ⟨g, vr, rfl, hp, hc⟩ := h'.at_ i hi'
  obtain ⟨cp, hop, hip⟩ := hp
  obtain ⟨A3, c3, rfl⟩ := own_slice hop
  obtain ⟨hr, hr2⟩ := par_rows ⟨cp, hop, hip⟩
  have he : (l.map toS)[i] = toS l[i] := by simp
  rw [he]
  refine ⟨⟨g, 0, none⟩, A3, c3, rfl, hr2, hr, fun k v hk => ?_⟩
  have add : ∀ k, (⟨g, 0, none⟩ : Addr).add k = ⟨g, k, none⟩ := by intro k; unfold Addr.add; split <;> simp_all
  rw [add]
  exact hc k v hk
end Go.Proofs.YtppeplonnippcaaDoor
