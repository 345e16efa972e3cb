/-
The reference's Same: its plain law (from some number of rounds on).
-/
import Derived.Test.YtppeplonnippcaaDoorR4
import Derived.Test.YtppeplonnippcaaDoorS
import Derived.Lib.Bytealg
set_option linter.unusedVariables false
set_option linter.unusedSimpArgs false
namespace Go.Proofs.YtppeplonnippcaaDoor.Rf
open Go.RowKit Go.Proofs.YtppeplonnippcaaDoorW.PrintWords Go.Proofs.YtppeplonnippcaaDoorW.PrintLast

/-- from some number of rounds on the answer is r -/
def EvR {α : Type} (F : Nat → Option α) (r : α) : Prop := ∃ K, ∀ k, K ≤ k → F k = some r
theorem EvR.step {α : Type} {F G : Nat → Option α} {r : α} (h : EvR G r) (e : ∀ k, F (k + 1) = G k) : EvR F r := by
  obtain ⟨K, h⟩ := h
  refine ⟨K + 1, fun k hk => ?_⟩
  obtain ⟨m, rfl⟩ : ∃ m, k = m + 1 := ⟨k - 1, by omega⟩
  rw [e]; exact h m (by omega)
theorem EvR.one {α : Type} {F : Nat → Option α} {r : α} (e : ∀ k, F (k + 1) = some r) : EvR F r :=
  EvR.step (G := fun _ => some r) ⟨0, fun _ _ => rfl⟩ e
theorem EvR.same {α : Type} {F G : Nat → Option α} {r : α} (h : EvR G r) (e : ∀ k, F k = G k) : EvR F r := by
  obtain ⟨K, h⟩ := h
  exact ⟨K, fun k hk => by rw [e]; exact h k hk⟩
theorem EvR.bind {α β : Type} {F : Nat → Option α} {G : Nat → α → Option β} {a : α} {r : β} (h : EvR F a) (h2 : EvR (fun k => G k a) r) : EvR (fun k => (F k).bind fun t => G k t) r := by
  obtain ⟨K, h⟩ := h
  obtain ⟨K2, h2⟩ := h2
  exact ⟨K + K2, fun k hk => by show (F k).bind _ = _; rw [h k (by omega)]; exact h2 k (by omega)⟩
theorem EvR.pure {α : Type} (r : α) : EvR (fun _ => some r) r := ⟨0, fun _ _ => rfl⟩
theorem EvR.ex {α : Type} {F : Nat → Option α} {r : α} (h : EvR F r) : ∃ k, F k = some r := by
  obtain ⟨K, h⟩ := h
  exact ⟨K, h K (Nat.le_refl _)⟩

theorem rd_at (xs : List Int) (j : Nat) (h : j < xs.length) : rd xs (j : Int) = xs[j] := by
  show xs.getD (j : Int).toNat 0 = _
  simp [h]
theorem rdl_at (xs : List (List Int)) (j : Nat) (h : j < xs.length) : rd_L1 xs (j : Int) = xs[j] := by
  show xs.getD (j : Int).toNat [] = _
  simp [h]
theorem wrap_up (j : Nat) (h : j ≤ 4611686018427387904) : wrap64 ((j : Int) + 1) = ((j + 1 : Nat) : Int) := by unfold wrap64; omega

section
variable (n1 : ByteArray) (f1 d1 : Int) (a : List (List Int)) (m1 : Int) (n2 : ByteArray) (f2 d2 : Int) (b : List (List Int)) (m2 : Int)
theorem same_l1 (r : Bool) (i : Nat) (ha : i < a.length) (hb : i < b.length) (hl : a[i].length = b[i].length) (hm : a[i].length ≤ 4611686018427387904) (him : i ≤ 4611686018427387904)
    (hr : a[i] = b[i] → EvR (fun k => solventref07_Same.l0 k ((i + 1 : Nat) : Int) n1 f1 d1 a m1 n2 f2 d2 b m2) r) (hf : a[i] ≠ b[i] → r = false) :
    ∀ (d j : Nat), j + d = a[i].length → (∀ t, t < j → a[i][t]? = b[i][t]?) → EvR (fun k => solventref07_Same.l1 k (i : Int) (j : Int) n1 f1 d1 a m1 n2 f2 d2 b m2) r := by
  intro d
  induction d with
  | zero =>
    intro j hj he
    have hab : a[i] = b[i] := by
      apply List.ext_getElem? fun t => ?_
      rcases Nat.lt_or_ge t j with h | h
      · exact he t h
      · rw [List.getElem?_eq_none (by omega), List.getElem?_eq_none (by omega)]
    refine (hr hab).step fun k => ?_
    simp only [solventref07_Same.l1]
    rw [if_pos (by omega), if_pos (by omega), if_neg (by rw [rdl_at a i ha]; omega), wrap_up i him]
  | succ d ih =>
    intro j hj he
    have e0 : ∀ k, solventref07_Same.l1 (k + 1) (i : Int) (j : Int) n1 f1 d1 a m1 n2 f2 d2 b m2 = if a[i][j]'(by omega) = b[i][j]'(by omega) then solventref07_Same.l1 k (i : Int) ((j + 1 : Nat) : Int) n1 f1 d1 a m1 n2 f2 d2 b m2 else some false := by
      intro k
      simp only [solventref07_Same.l1]
      rw [if_pos (by omega), if_pos (by omega), rdl_at a i ha, rdl_at b i hb, if_pos (by omega), if_pos (by omega), if_pos (by omega), if_pos (by omega), rd_at _ j (by omega), rd_at _ j (by omega), wrap_up j (by omega)]
    by_cases hx : a[i][j]'(by omega) = b[i][j]'(by omega)
    · refine (ih (j + 1) (by omega) (fun t ht => ?_)).step fun k => by rw [e0, if_pos hx]
      by_cases h : t = j
      · subst h; rw [List.getElem?_eq_getElem (by omega), List.getElem?_eq_getElem (by omega), hx]
      · exact he t (by omega)
    · have hr' : r = false := hf fun e => hx (by simp [e])
      subst hr'
      exact EvR.one fun k => by rw [e0, if_neg hx]

theorem same_l0 (hlen : a.length = b.length) (hm : a.length ≤ 4611686018427387904) (hme : ∀ x ∈ a, x.length ≤ 4611686018427387904) :
    ∀ (d i : Nat), i + d = a.length → EvR (fun k => solventref07_Same.l0 k (i : Int) n1 f1 d1 a m1 n2 f2 d2 b m2) (decide (a.drop i = b.drop i)) := by
  intro d
  induction d with
  | zero =>
    intro i hi
    rw [List.drop_eq_nil_of_le (by omega), List.drop_eq_nil_of_le (by omega)]
    refine EvR.one fun k => ?_
    simp only [solventref07_Same.l0]
    rw [if_neg (by omega)]; rfl
  | succ d ih =>
    intro i hi
    have ha : i < a.length := by omega
    have hb : i < b.length := by omega
    have e0 : ∀ k, solventref07_Same.l0 (k + 1) (i : Int) n1 f1 d1 a m1 n2 f2 d2 b m2 = if (a[i].length : Int) = (b[i].length : Int) then solventref07_Same.l1 k (i : Int) 0 n1 f1 d1 a m1 n2 f2 d2 b m2 else some false := by
      intro k
      simp only [solventref07_Same.l0]
      rw [if_pos (by omega), if_pos (by omega), if_pos (by omega), rdl_at a i ha, rdl_at b i hb]
    rw [List.drop_eq_getElem_cons ha, List.drop_eq_getElem_cons hb]
    by_cases hl : a[i].length = b[i].length
    · refine EvR.step (same_l1 n1 f1 d1 a m1 n2 f2 d2 b m2 _ i ha hb hl (hme _ (List.getElem_mem ha)) (by omega) (fun e => ?_) (fun e => ?_) a[i].length 0 (by omega) (fun t ht => absurd ht (Nat.not_lt_zero _))) (fun k => by rw [e0, if_pos (by omega)]; rfl)
      · have := ih (i + 1) (by omega)
        rwa [show decide (a[i] :: a.drop (i + 1) = b[i] :: b.drop (i + 1)) = decide (a.drop (i + 1) = b.drop (i + 1)) from decide_eq_decide.2 ⟨fun h => (List.cons.inj h).2, fun h => by rw [e, h]⟩]
      · rw [decide_eq_false_iff_not]
        intro h; injection h with h1; exact e h1
    · have : decide (a[i] :: a.drop (i + 1) = b[i] :: b.drop (i + 1)) = false := by
        rw [decide_eq_false_iff_not]
        intro h; injection h with h1; exact hl (by rw [h1])
      rw [this]
      exact EvR.one fun k => by rw [e0, if_neg (by omega)]

theorem same_ev (hm : a.length ≤ 4611686018427387904) (hme : ∀ x ∈ a, x.length ≤ 4611686018427387904) :
    EvR (fun k => solventref07_Same.f k n1 f1 d1 a m1 n2 f2 d2 b m2) (Sp.same n1.data.toList f1 d1 a m1 n2.data.toList f2 d2 b m2) := by
  have hj : ∀ k r, r = true → solventref07_Same.j0 (k + 1) r n1 f1 d1 a m1 n2 f2 d2 b m2 = some false := by
    intro k r hr; simp only [solventref07_Same.j0]; rw [if_pos hr]
  have hN : (n1.toList = n2.toList) ↔ n1.data.toList = n2.data.toList := by rw [Lib.toList_data, Lib.toList_data]
  unfold Sp.same solventref07_Same.f
  by_cases e1 : n1.data.toList = n2.data.toList
  · simp only [hN, e1, if_true, decide_true, Bool.true_and]
    by_cases e2 : f1 = f2
    · simp only [e2, if_true, decide_true, Bool.true_and]
      by_cases e3 : d1 = d2
      · simp only [e3, if_true, decide_true, Bool.true_and]
        by_cases e4 : m1 = m2
        · simp only [e4, if_true, decide_true, Bool.and_true]
          by_cases e5 : a.length = b.length
          · have h := same_l0 n1 f2 d2 a m2 n2 f2 d2 b m2 e5 hm hme a.length 0 (by omega)
            rw [List.drop_zero, List.drop_zero] at h
            refine h.step fun k => ?_
            subst e2 e3 e4
            simp only [solventref07_Same.j0]
            rw [if_neg (by simp [e5])]; rfl
          · have : decide (a = b) = false := decide_eq_false fun h => e5 (by rw [h])
            rw [this]
            exact EvR.one fun k => by subst e2 e3 e4; exact hj k _ (by simp; omega)
        · simp only [e4, if_false, decide_false, Bool.and_false]
          exact EvR.one fun k => by subst e2 e3; exact hj k _ rfl
      · simp only [e3, if_false, decide_false, Bool.false_and]
        exact EvR.one fun k => by subst e2; exact hj k _ rfl
    · simp only [e2, if_false, decide_false, Bool.false_and]
      exact EvR.one fun k => hj k _ rfl
  · simp only [hN, e1, if_false, decide_false, Bool.false_and]
    exact EvR.one fun k => hj k _ rfl
end
theorem EvR.get {α : Type} {F : Nat → Option α} {r : α} (h : EvR F r) : ∃ K, ∀ k, K ≤ k → F k = some r := h
theorem EvR.mk' {α : Type} {F : Nat → Option α} {r : α} (K : Nat) (h : ∀ k, K ≤ k → F k = some r) : EvR F r := ⟨K, h⟩
end Go.Proofs.YtppeplonnippcaaDoor.Rf
