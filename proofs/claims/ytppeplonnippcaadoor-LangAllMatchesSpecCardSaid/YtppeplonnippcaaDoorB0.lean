/-
Layer 7: words for a source that is built.
-/
import Derived.Test.YtppeplonnippcaaDoorA9
set_option linter.unusedVariables false
set_option linter.unusedSimpArgs false
namespace Go.Proofs.YtppeplonnippcaaDoor
open Go.RowKit

def isF (n : Nat) : Bool := decide (n = 8) || decide (n = 16)
theorem isField_any (n : Nat) (w : World) : Calls Tryd.prog 34 #[.int .i64 n] w fun e w' => e = .returned (.bool (isF n)) ∧ w = w' := by
  by_cases h1 : n = 8
  · have HF : Hid (isF n = true) := Lib.hid (by simp [isF, h1])
    have h1b : ((n : Int) == 8) = true := by rw [beq_iff_eq]; omega
    go_enter Tryd.func34, Tryd.ntmps34
    go_wp2
    all_goals (go_ret; exact ⟨by rw [HF.out]; rfl, rfl⟩)
  · have h1b : ((n : Int) == 8) = false := by rw [beq_eq_false_iff_ne]; omega
    by_cases h2 : n = 16
    · have HF : Hid (isF n = true) := Lib.hid (by simp [isF, h2])
      have h2b : ((n : Int) == 16) = true := by rw [beq_iff_eq]; omega
      clear h1
      go_enter Tryd.func34, Tryd.ntmps34
      go_wp2
      all_goals (go_ret; exact ⟨by rw [HF.out]; rfl, rfl⟩)
    · have HF : Hid (isF n = false) := Lib.hid (by simp [isF, h1, h2])
      have h2b : ((n : Int) == 16) = false := by rw [beq_eq_false_iff_ne]; omega
      clear h1 h2
      go_enter Tryd.func34, Tryd.ntmps34
      go_wp2
      all_goals (go_ret; exact ⟨by rw [HF.out]; rfl, rfl⟩)

theorem demand_any (b : Bool) (p er : Int) (w : World) : Calls Tryd.prog 60 #[.bool b, .int .i64 p, .int .i64 er] w fun e w' => (b = true ∧ e = .returned (.tuple #[]) ∧ w = w') ∨
    (b = false ∧ e = .panicked [{ v := .iface 69 (.agg #[.int .i64 p, .int .i64 er]), recovered := false }] ∧ w = w') := by
  cases b with
  | true => exact (demand_yes p er w).mono fun e w' h => .inl ⟨rfl, h⟩
  | false => exact (demand_no p er w).mono fun e w' h => .inr ⟨rfl, h⟩

theorem RowsV.at_ {b0 : Nat} {l : List Sp.Row} {w : World} {A : Option Addr} {q : Nat} (h : RowsV b0 l w (.slice A l.length q)) (j : Nat) (hj : j < l.length) :
    ∃ g vi vc, A = some ⟨g, 0, none⟩ ∧ w.cell? ⟨g, j * 4, none⟩ = some (.int .i64 l[j].at_) ∧ w.cell? ⟨g, j * 4 + 1, none⟩ = some (.bool l[j].loc) ∧ w.cell? ⟨g, j * 4 + 2, none⟩ = some vi ∧ w.cell? ⟨g, j * 4 + 3, none⟩ = some vc ∧
      MarksV b0 l[j].idx w vi ∧ MarksV b0 l[j].coef w vc := by
  obtain ⟨cs, ho, hin⟩ := h
  obtain ⟨g, cap, hv, hb, hlt⟩ := World.ownsRow.form ho (by omega)
  simp only [Value.slice.injEq, true_and] at hv
  obtain ⟨rfl, rfl⟩ := hv
  have key : ∀ (l : List Sp.Row) (cs : List Value) (j : Nat) (hj : j < l.length), RowsIn b0 w l cs → ∃ vi vc, cs[j * 4]? = some (.int .i64 l[j].at_) ∧ cs[j * 4 + 1]? = some (.bool l[j].loc) ∧ cs[j * 4 + 2]? = some vi ∧ cs[j * 4 + 3]? = some vc ∧ MarksV b0 l[j].idx w vi ∧ MarksV b0 l[j].coef w vc := by
    intro l
    induction l with
    | nil => intro cs j hj; simp at hj
    | cons a l ih =>
      intro cs j hj hr
      obtain ⟨vi, vc, rest, rfl, h2, h3, h4⟩ := hr
      cases j with
      | zero => exact ⟨vi, vc, by simp, by simp, by simp, by simp, h2, h3⟩
      | succ j =>
        obtain ⟨vi', vc', e0, e1, e2, e3, h5, h6⟩ := ih rest j (by simpa using hj) h4
        have e : ∀ k, (Value.int .i64 a.at_ :: .bool a.loc :: vi :: vc :: rest)[(j + 1) * 4 + k]? = rest[j * 4 + k]? := by
          intro k
          rw [show (j + 1) * 4 + k = (j * 4 + k) + 1 + 1 + 1 + 1 from by omega]
          simp only [List.getElem?_cons_succ]
        refine ⟨vi', vc', ?_, ?_, ?_, ?_, by simpa using h5, by simpa using h6⟩
        · have := e 0; simp only [Nat.add_zero] at this; rw [this, e0]; simp
        · rw [e 1, e1]; simp
        · rw [e 2, e2]
        · rw [e 3, e3]
  obtain ⟨vi, vc, e0, e1, e2, e3, h5, h6⟩ := key l cs j hj hin
  have add : ∀ k, (⟨g, 0, none⟩ : Addr).add k = ⟨g, k, none⟩ := by intro k; unfold Addr.add; split <;> simp_all
  have g0 := World.ownsRow.cells ho (g := g) rfl _ _ e0
  have g1 := World.ownsRow.cells ho (g := g) rfl _ _ e1
  have g2 := World.ownsRow.cells ho (g := g) rfl _ _ e2
  have g3 := World.ownsRow.cells ho (g := g) rfl _ _ e3
  rw [add] at g0 g1 g2 g3
  exact ⟨g, vi, vc, rfl, g0, g1, g2, g3, h5, h6⟩

theorem RowsV.below {w w' : World} {base : Nat} {l : List Sp.Row} {v : Value} (h : RowsV base l w v) (k : Below w.heap.size w w') : RowsV base l w' v := by
  obtain ⟨cs, h1, h2⟩ := h
  exact ⟨cs, own_below h1 k, h2.keep fun m v hm => own_below hm k⟩

/-- slices of ints, one behind the other -/
def ParIn (base : Nat) (w : World) : List (List Int) → List Value → Prop
  | [], cs => cs = []
  | r :: l, cs => ∃ v rest, cs = v :: rest ∧ RowV base r w v ∧ ParIn base w l rest
theorem ParIn.keep {base : Nat} {w w' : World} (hk : ∀ m v, RowV base m w v → RowV base m w' v) {l : List (List Int)} {cs : List Value} (h : ParIn base w l cs) : ParIn base w' l cs := by
  induction l generalizing cs with
  | nil => exact h
  | cons x l ih =>
    obtain ⟨v, rest, h1, h2, h4⟩ := h
    exact ⟨v, rest, h1, hk _ _ h2, ih h4⟩
theorem ParIn.drew {base : Nat} {w : World} {l : List (List Int)} {cs : List Value} (h : ParIn base w l cs) : ParIn base w.drew l cs := ParIn.keep (w := w) (w' := w.drew) (fun _ _ hm => hm) h
theorem ParIn.snoc {base : Nat} {w : World} {l : List (List Int)} {cs : List Value} (h : ParIn base w l cs) {x : List Int} {v : Value} (hv : RowV base x w v) : ParIn base w (l ++ [x]) (cs ++ [v]) := by
  induction l generalizing cs with
  | nil => rw [show cs = [] from h]; exact ⟨v, [], rfl, hv, rfl⟩
  | cons y l ih =>
    obtain ⟨v', rest, rfl, h2, h3⟩ := h
    exact ⟨v', _, rfl, h2, ih h3⟩
theorem ParIn.len {base : Nat} {w : World} {l : List (List Int)} {cs : List Value} (h : ParIn base w l cs) : cs.length = l.length := by
  induction l generalizing cs with
  | nil => rw [show cs = [] from h]; rfl
  | cons x l ih => obtain ⟨v, rest, rfl, _, h4⟩ := h; simp [ih h4]
theorem ParIn.mono {base base' : Nat} {w : World} (hb : base' ≤ base) {l : List (List Int)} {cs : List Value} (h : ParIn base w l cs) : ParIn base' w l cs := by
  induction l generalizing cs with
  | nil => exact h
  | cons x l ih => obtain ⟨v, rest, h1, h2, h4⟩ := h; exact ⟨v, rest, h1, own_mono h2 hb, ih h4⟩

def ParV (base : Nat) (l : List (List Int)) (w : World) (v : Value) : Prop := ∃ cs, w.ownsRow base 61 1 v l.length cs ∧ ParIn base w l cs

theorem ParV.below {w w' : World} {base : Nat} {l : List (List Int)} {v : Value} (h : ParV base l w v) (k : Below w.heap.size w w') : ParV base l w' v := by
  obtain ⟨cs, h1, h2⟩ := h
  exact ⟨cs, own_below h1 k, h2.keep fun m v hm => own_below hm k⟩
theorem ParV.far {w : World} {base : Nat} {l : List (List Int)} {v : Value} (h : ParV base l w v) {p : Addr} (hp : p.block < base) (u : Value) : ParV base l (w.setCell p u) v := by
  obtain ⟨cs, h1, h2⟩ := h
  exact ⟨cs, own_far h1 hp u, h2.keep fun m v hm => own_far hm hp u⟩
theorem ParV.mono {w : World} {base base' : Nat} {l : List (List Int)} {v : Value} (h : ParV base l w v) (hb : base' ≤ base) : ParV base' l w v := by
  obtain ⟨cs, h1, h2⟩ := h
  exact ⟨cs, own_mono h1 hb, h2.mono hb⟩
theorem ParV.alloc {w : World} {base : Nat} {l : List (List Int)} {v : Value} (h : ParV base l w v) (o : Obj) : ParV base l (w.alloc o) v :=
  h.below ((Below.refl _ _).alloc (Nat.le_refl _) _)

/-- a code -/
def codeV (c : Sp.Code) (vp : Value) : Value := .agg #[.string (bs c.name), .int .i64 c.field, .int .i64 c.data, vp, .int .i64 c.domain]
def CodeV (base : Nat) (c : Sp.Code) (w : World) (v : Value) : Prop := ∃ vp, v = codeV c vp ∧ ParV base c.parity w vp

theorem info61 : (Tryd.prog.info? 61).map (fun i => (i.zero, i.size, i.bytes)) = some (some (.slice none 0 0), 1, 24) := by kernel_rfl
end Go.Proofs.YtppeplonnippcaaDoor
