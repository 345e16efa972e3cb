/-
Layer 7: the reference's Same at a code that the caller holds; a parsed code as such a code.
-/
import Derived.Test.YtppeplonnippcaaDoorC5
import Derived.Test.YtppeplonnippcaaDoorK0
set_option linter.unusedVariables false
set_option linter.unusedSimpArgs false
namespace Go.Proofs.YtppeplonnippcaaDoor
open Go.RowKit Go.Proofs.YtppeplonnippcaaDoorW.PrintWords Go.Proofs.YtppeplonnippcaaDoorW.PrintLast

theorem ints_kd {w : World} {A : Option Addr} {xs : List Int} (h : IntsAt w A xs) (hl : xs.length ≤ 4611686018427387904) : Kd.C (Kd.int .i64) w A xs.length xs := by
  refine ⟨rfl, by omega, fun hn => ?_⟩
  obtain ⟨ad, hA, _⟩ := h 0 hn
  refine ⟨ad, hA, fun j p hp => ⟨[.int .i64 p], rfl, rfl, fun i u hu => ?_⟩⟩
  obtain ⟨hj, hpj⟩ := List.getElem?_eq_some_iff.1 hp
  obtain ⟨ad', hA', hc⟩ := h j hj
  rw [hA] at hA'
  obtain rfl := Option.some.inj hA'
  cases i with
  | zero =>
    simp only [List.getElem?_cons_zero, Option.some.injEq] at hu
    subst hu
    rw [hpj] at hc
    simpa [Kd.int, Kd.scalar] using hc
  | succ i => simp at hu
theorem rows_kd {w : World} {A : Option Addr} {l : List (List Int)} (h : RowsAt w A l) (hl : l.length ≤ 4611686018427387904) (he : ∀ x ∈ l, x.length ≤ 4611686018427387904) : Kd.C (Kd.slice 3 (Kd.int .i64)) w A l.length l := by
  refine ⟨rfl, by omega, fun hn => ?_⟩
  obtain ⟨ad, _, _, hA, _⟩ := h 0 hn
  refine ⟨ad, hA, fun j p hp => ?_⟩
  obtain ⟨hj, hpj⟩ := List.getElem?_eq_some_iff.1 hp
  obtain ⟨ad', A0, c0, hA', hc, hc0, hr⟩ := h j hj
  rw [hA] at hA'
  obtain rfl := Option.some.inj hA'
  subst hpj
  refine ⟨[.slice A0 l[j].length c0], rfl, ⟨A0, c0, rfl, hc0, ints_kd hr (he _ (List.getElem_mem hj))⟩, fun i u hu => ?_⟩
  cases i with
  | zero =>
    simp only [List.getElem?_cons_zero, Option.some.injEq] at hu
    subst hu
    simpa [Kd.slice] using hc
  | succ i => simp at hu

theorem own_ints {w : World} {b0 : Nat} {A : Option Addr} {q : Nat} {r : List Int} (h : RowV b0 r w (.slice A r.length q)) : IntsAt w A r ∧ r.length ≤ q := by
  rcases h.2 with ⟨hv, h0⟩ | ⟨g, cap, cur, hv, _, hg, hc, _⟩
  · simp only [Value.slice.injEq] at hv
    obtain ⟨rfl, h1, rfl⟩ := hv
    exact ⟨fun j hj => by omega, by omega⟩
  · simp only [Value.slice.injEq] at hv
    obtain ⟨rfl, _, rfl⟩ := hv
    refine ⟨fun j hj => ⟨_, rfl, ?_⟩, hc⟩
    refine World.ownsRow.cells h (g := g) rfl j _ ?_
    simp [ints, hj]
theorem ParIn.at_ {b0 : Nat} {w : World} {l : List (List Int)} {cs : List Value} (h : ParIn b0 w l cs) (j : Nat) (hj : j < l.length) : ∃ v, cs[j]? = some v ∧ RowV b0 l[j] w v := by
  induction l generalizing cs j with
  | nil => simp at hj
  | cons r l ih =>
    obtain ⟨v, rest, rfl, h2, h3⟩ := h
    cases j with
    | zero => exact ⟨v, by simp, h2⟩
    | succ j => simpa using ih h3 j (by simpa using hj)
theorem par_rows {w : World} {b0 : Nat} {A : Option Addr} {q : Nat} {l : List (List Int)} (h : ParV b0 l w (.slice A l.length q)) : RowsAt w A l ∧ l.length ≤ q := by
  obtain ⟨cs, ho, hin⟩ := h
  rcases ho.2 with ⟨hv, h0⟩ | ⟨g, cap, cur, hv, _, hg, hc, _⟩
  · simp only [Value.slice.injEq] at hv
    obtain ⟨rfl, h1, rfl⟩ := hv
    exact ⟨fun j hj => by omega, by omega⟩
  · simp only [Value.slice.injEq] at hv
    obtain ⟨rfl, _, rfl⟩ := hv
    refine ⟨fun j hj => ?_, hc⟩
    obtain ⟨v, hcs, hr⟩ := hin.at_ j hj
    obtain ⟨A0, c0, rfl⟩ := own_slice hr
    obtain ⟨hi, hc0⟩ := own_ints hr
    exact ⟨_, A0, c0, rfl, World.ownsRow.cells ho (g := g) rfl j _ hcs, hc0, hi⟩

/-- what bounds a code that was parsed or that Check likes -/
structure Small (c : Sp.Code) : Prop where
  name : c.name.length ≤ 4611686018427387904
  len : c.parity.length ≤ 4611686018427387904
  each : ∀ x ∈ c.parity, x.length ≤ 4611686018427387904
def inOf (c : Sp.Code) (A : Option Addr) (q : Nat) : CodeIn := ⟨bs c.name, c.field, c.data, A, c.parity, q, c.domain⟩
theorem CodeV.inOf {b0 : Nat} {c : Sp.Code} {w : World} {v : Value} (h : CodeV b0 c w v) (hs : Small c) : ∃ A q, v = (inOf c A q).v ∧ (inOf c A q).Ok w := by
  obtain ⟨vp, rfl, hp⟩ := h
  obtain ⟨cs, ho, hin⟩ := hp
  obtain ⟨A, q, rfl⟩ := own_slice ho
  obtain ⟨h1, h2⟩ := par_rows ⟨cs, ho, hin⟩
  exact ⟨A, q, rfl, h1, hs.len, hs.each, hs.name, h2⟩

theorem sameC_eq (a b : CodeIn) : Sp.same a.name.data.toList a.field a.data a.rows a.dom b.name.data.toList b.field b.data b.rows b.dom = sameC a b := by
  unfold Sp.same sameC
  cases decide (a.rows = b.rows) <;> cases decide (a.name.data.toList = b.name.data.toList) <;> cases decide (a.field = b.field) <;> cases decide (a.data = b.data) <;> cases decide (a.dom = b.dom) <;> rfl
theorem refSame_any (a b : CodeIn) (w : World) (ha : a.Ok w) (hb : b.Ok w) : Calls Tryd.prog 17 #[a.v, b.v] w fun e w' => e = .returned (.bool (sameC a b)) ∧ Below w.heap.size w w' := by
  obtain ⟨k, hk⟩ := (Rf.same_ev a.name a.field a.data a.rows a.dom b.name b.field b.data b.rows b.dom ha.len ha.each).ex
  rw [sameC_eq] at hk
  exact Rf.solventref07_Same.calls k a.name a.field a.data a.A a.cap a.rows a.dom b.name b.field b.data b.A b.cap b.rows b.dom (sameC a b) w (rows_kd ha.rows ha.len ha.each) ha.cap (rows_kd hb.rows hb.len hb.each) hb.cap hk
end Go.Proofs.YtppeplonnippcaaDoor
