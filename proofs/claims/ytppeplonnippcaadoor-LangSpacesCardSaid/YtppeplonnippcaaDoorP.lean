/-
Layer 7: what the reference's Same computes, in plain words.
Layer 7: what the reference's Check computes, in plain words.
Layer 7: what the reference's Print computes, in plain words.
-/
import Derived.Test.YtppeplonnippcaaDoorR4
import Derived.Test.YtppeplonnippcaaDoorS
import Derived.Lib.Bytealg
import Derived.Test.YtppeplonnippcaaDoorR2
import Derived.Test.YtppeplonnippcaaDoorB7
import Derived.Test.YtppeplonnippcaaDoorR3
set_option linter.unusedVariables false
set_option linter.unusedSimpArgs false
namespace Go.Proofs.YtppeplonnippcaaDoor.Rf
open Go.RowKit Go.Proofs.YtppeplonnippcaaDoorW.PrintWords Go.Proofs.YtppeplonnippcaaDoorW.PrintLast

/-- from some number of rounds on the answer is r -/
def EvR {α : Type} (F : Nat → Option α) (r : α) : Prop := ∃ K, ∀ k, K ≤ k → F k = some r
theorem EvR.step {α : Type} {F G : Nat → Option α} {r : α} (h : EvR G r) (e : ∀ k, F (k + 1) = G k) : EvR F r := by
  obtain ⟨K, h⟩ := h
  refine ⟨K + 1, fun k hk => ?_⟩
  obtain ⟨m, rfl⟩ : ∃ m, k = m + 1 := ⟨k - 1, by omega⟩
  rw [e]; exact h m (by omega)
theorem EvR.one {α : Type} {F : Nat → Option α} {r : α} (e : ∀ k, F (k + 1) = some r) : EvR F r :=
  EvR.step (G := fun _ => some r) ⟨0, fun _ _ => rfl⟩ e
theorem EvR.same {α : Type} {F G : Nat → Option α} {r : α} (h : EvR G r) (e : ∀ k, F k = G k) : EvR F r := by
  obtain ⟨K, h⟩ := h
  exact ⟨K, fun k hk => by rw [e]; exact h k hk⟩
theorem EvR.bind {α β : Type} {F : Nat → Option α} {G : Nat → α → Option β} {a : α} {r : β} (h : EvR F a) (h2 : EvR (fun k => G k a) r) : EvR (fun k => (F k).bind fun t => G k t) r := by
  obtain ⟨K, h⟩ := h
  obtain ⟨K2, h2⟩ := h2
  exact ⟨K + K2, fun k hk => by show (F k).bind _ = _; rw [h k (by omega)]; exact h2 k (by omega)⟩
theorem EvR.pure {α : Type} (r : α) : EvR (fun _ => some r) r := ⟨0, fun _ _ => rfl⟩
theorem EvR.ex {α : Type} {F : Nat → Option α} {r : α} (h : EvR F r) : ∃ k, F k = some r := by
  obtain ⟨K, h⟩ := h
  exact ⟨K, h K (Nat.le_refl _)⟩

theorem rd_at (xs : List Int) (j : Nat) (h : j < xs.length) : rd xs (j : Int) = xs[j] := by
  show xs.getD (j : Int).toNat 0 = _
  simp [h]
theorem rdl_at (xs : List (List Int)) (j : Nat) (h : j < xs.length) : rd_L1 xs (j : Int) = xs[j] := by
  show xs.getD (j : Int).toNat [] = _
  simp [h]
theorem wrap_up (j : Nat) (h : j ≤ 4611686018427387904) : wrap64 ((j : Int) + 1) = ((j + 1 : Nat) : Int) := by unfold wrap64; omega

section
variable (n1 : ByteArray) (f1 d1 : Int) (a : List (List Int)) (m1 : Int) (n2 : ByteArray) (f2 d2 : Int) (b : List (List Int)) (m2 : Int)
theorem same_l1 (r : Bool) (i : Nat) (ha : i < a.length) (hb : i < b.length) (hl : a[i].length = b[i].length) (hm : a[i].length ≤ 4611686018427387904) (him : i ≤ 4611686018427387904)
    (hr : a[i] = b[i] → EvR (fun k => solventref07_Same.l0 k ((i + 1 : Nat) : Int) n1 f1 d1 a m1 n2 f2 d2 b m2) r) (hf : a[i] ≠ b[i] → r = false) :
    ∀ (d j : Nat), j + d = a[i].length → (∀ t, t < j → a[i][t]? = b[i][t]?) → EvR (fun k => solventref07_Same.l1 k (i : Int) (j : Int) n1 f1 d1 a m1 n2 f2 d2 b m2) r := by
  intro d
  induction d with
  | zero =>
    intro j hj he
    have hab : a[i] = b[i] := by
      apply List.ext_getElem? fun t => ?_
      rcases Nat.lt_or_ge t j with h | h
      · exact he t h
      · rw [List.getElem?_eq_none (by omega), List.getElem?_eq_none (by omega)]
    refine (hr hab).step fun k => ?_
    simp only [solventref07_Same.l1]
    rw [if_pos (by omega), if_pos (by omega), if_neg (by rw [rdl_at a i ha]; omega), wrap_up i him]
  | succ d ih =>
    intro j hj he
    have e0 : ∀ k, solventref07_Same.l1 (k + 1) (i : Int) (j : Int) n1 f1 d1 a m1 n2 f2 d2 b m2 = if a[i][j]'(by omega) = b[i][j]'(by omega) then solventref07_Same.l1 k (i : Int) ((j + 1 : Nat) : Int) n1 f1 d1 a m1 n2 f2 d2 b m2 else some false := by
      intro k
      simp only [solventref07_Same.l1]
      rw [if_pos (by omega), if_pos (by omega), rdl_at a i ha, rdl_at b i hb, if_pos (by omega), if_pos (by omega), if_pos (by omega), if_pos (by omega), rd_at _ j (by omega), rd_at _ j (by omega), wrap_up j (by omega)]
    by_cases hx : a[i][j]'(by omega) = b[i][j]'(by omega)
    · refine (ih (j + 1) (by omega) (fun t ht => ?_)).step fun k => by rw [e0, if_pos hx]
      by_cases h : t = j
      · subst h; rw [List.getElem?_eq_getElem (by omega), List.getElem?_eq_getElem (by omega), hx]
      · exact he t (by omega)
    · have hr' : r = false := hf fun e => hx (by simp [e])
      subst hr'
      exact EvR.one fun k => by rw [e0, if_neg hx]

theorem same_l0 (hlen : a.length = b.length) (hm : a.length ≤ 4611686018427387904) (hme : ∀ x ∈ a, x.length ≤ 4611686018427387904) :
    ∀ (d i : Nat), i + d = a.length → EvR (fun k => solventref07_Same.l0 k (i : Int) n1 f1 d1 a m1 n2 f2 d2 b m2) (decide (a.drop i = b.drop i)) := by
  intro d
  induction d with
  | zero =>
    intro i hi
    rw [List.drop_eq_nil_of_le (by omega), List.drop_eq_nil_of_le (by omega)]
    refine EvR.one fun k => ?_
    simp only [solventref07_Same.l0]
    rw [if_neg (by omega)]; rfl
  | succ d ih =>
    intro i hi
    have ha : i < a.length := by omega
    have hb : i < b.length := by omega
    have e0 : ∀ k, solventref07_Same.l0 (k + 1) (i : Int) n1 f1 d1 a m1 n2 f2 d2 b m2 = if (a[i].length : Int) = (b[i].length : Int) then solventref07_Same.l1 k (i : Int) 0 n1 f1 d1 a m1 n2 f2 d2 b m2 else some false := by
      intro k
      simp only [solventref07_Same.l0]
      rw [if_pos (by omega), if_pos (by omega), if_pos (by omega), rdl_at a i ha, rdl_at b i hb]
    rw [List.drop_eq_getElem_cons ha, List.drop_eq_getElem_cons hb]
    by_cases hl : a[i].length = b[i].length
    · refine EvR.step (same_l1 n1 f1 d1 a m1 n2 f2 d2 b m2 _ i ha hb hl (hme _ (List.getElem_mem ha)) (by omega) (fun e => ?_) (fun e => ?_) a[i].length 0 (by omega) (fun t ht => absurd ht (Nat.not_lt_zero _))) (fun k => by rw [e0, if_pos (by omega)]; rfl)
      · have := ih (i + 1) (by omega)
        rwa [show decide (a[i] :: a.drop (i + 1) = b[i] :: b.drop (i + 1)) = decide (a.drop (i + 1) = b.drop (i + 1)) from decide_eq_decide.2 ⟨fun h => (List.cons.inj h).2, fun h => by rw [e, h]⟩]
      · rw [decide_eq_false_iff_not]
        intro h; injection h with h1; exact e h1
    · have : decide (a[i] :: a.drop (i + 1) = b[i] :: b.drop (i + 1)) = false := by
        rw [decide_eq_false_iff_not]
        intro h; injection h with h1; exact hl (by rw [h1])
      rw [this]
      exact EvR.one fun k => by rw [e0, if_neg (by omega)]

theorem same_ev (hm : a.length ≤ 4611686018427387904) (hme : ∀ x ∈ a, x.length ≤ 4611686018427387904) :
    EvR (fun k => solventref07_Same.f k n1 f1 d1 a m1 n2 f2 d2 b m2) (Sp.same n1.data.toList f1 d1 a m1 n2.data.toList f2 d2 b m2) := by
  have hj : ∀ k r, r = true → solventref07_Same.j0 (k + 1) r n1 f1 d1 a m1 n2 f2 d2 b m2 = some false := by
    intro k r hr; simp only [solventref07_Same.j0]; rw [if_pos hr]
  have hN : (n1.toList = n2.toList) ↔ n1.data.toList = n2.data.toList := by rw [Lib.toList_data, Lib.toList_data]
  unfold Sp.same solventref07_Same.f
  by_cases e1 : n1.data.toList = n2.data.toList
  · simp only [hN, e1, if_true, decide_true, Bool.true_and]
    by_cases e2 : f1 = f2
    · simp only [e2, if_true, decide_true, Bool.true_and]
      by_cases e3 : d1 = d2
      · simp only [e3, if_true, decide_true, Bool.true_and]
        by_cases e4 : m1 = m2
        · simp only [e4, if_true, decide_true, Bool.and_true]
          by_cases e5 : a.length = b.length
          · have h := same_l0 n1 f2 d2 a m2 n2 f2 d2 b m2 e5 hm hme a.length 0 (by omega)
            rw [List.drop_zero, List.drop_zero] at h
            refine h.step fun k => ?_
            subst e2 e3 e4
            simp only [solventref07_Same.j0]
            rw [if_neg (by simp [e5])]; rfl
          · have : decide (a = b) = false := decide_eq_false fun h => e5 (by rw [h])
            rw [this]
            exact EvR.one fun k => by subst e2 e3 e4; exact hj k _ (by simp; omega)
        · simp only [e4, if_false, decide_false, Bool.and_false]
          exact EvR.one fun k => by subst e2 e3; exact hj k _ rfl
      · simp only [e3, if_false, decide_false, Bool.false_and]
        exact EvR.one fun k => by subst e2; exact hj k _ rfl
    · simp only [e2, if_false, decide_false, Bool.false_and]
      exact EvR.one fun k => hj k _ rfl
  · simp only [hN, e1, if_false, decide_false, Bool.false_and]
    exact EvR.one fun k => hj k _ rfl
end
end Go.Proofs.YtppeplonnippcaaDoor.Rf

namespace Go.Proofs.YtppeplonnippcaaDoor.Rf
open Go.RowKit Go.Proofs.YtppeplonnippcaaDoorW.PrintWords Go.Proofs.YtppeplonnippcaaDoorW.PrintLast

theorem bt_get (s : ByteArray) (j : Nat) (h : j < s.size) : bt s (j : Int) = (s[j].toNat : Int) := by
  unfold bt
  rw [dif_pos (by omega)]
  simp
theorem letter_at (c : UInt8) : solventref07_letter.f (c.toNat : Int) = some (Sp.isL c) := by
  unfold solventref07_letter.f Sp.isL
  by_cases h : (c.toNat : Int) ≥ 97
  · rw [if_pos h, decide_eq_true (show 97 ≤ c.toNat by omega), Bool.true_and]
    congr 1
    exact decide_eq_decide.2 (by omega)
  · rw [if_neg h, decide_eq_false (show ¬ 97 ≤ c.toNat by omega), Bool.false_and]
theorem digit_at (c : UInt8) : solventref07_digit.f (c.toNat : Int) = some (Sp.isD c) := by
  unfold solventref07_digit.f Sp.isD
  by_cases h : (c.toNat : Int) ≥ 48
  · rw [if_pos h, decide_eq_true (show 48 ≤ c.toNat by omega), Bool.true_and]
    congr 1
    exact decide_eq_decide.2 (by omega)
  · rw [if_neg h, decide_eq_false (show ¬ 48 ≤ c.toNat by omega), Bool.false_and]

theorem word_l0 (s : ByteArray) (hs : s.size ≤ 4611686018427387904) : ∀ (d j : Nat), j + d = s.size → EvR (fun k => solventref07_word.l0 k s (j : Int)) ((rst s j).all wpb) := by
  intro d
  induction d with
  | zero =>
    intro j hj
    rw [rst_nil s j (by omega)]
    refine EvR.one fun k => ?_
    simp only [solventref07_word.l0]
    rw [if_neg (by omega)]; rfl
  | succ d ih =>
    intro j hj
    have hlt : j < s.size := by omega
    have e0 : ∀ k, solventref07_word.l0 (k + 1) s (j : Int) = if Sp.isL s[j] = true then solventref07_word.l0 k s ((j + 1 : Nat) : Int) else if Sp.isD s[j] = true then solventref07_word.l0 k s ((j + 1 : Nat) : Int) else some false := by
      intro k
      simp only [solventref07_word.l0]
      rw [if_pos (by omega), if_pos (by omega), bt_get s j hlt, letter_at, digit_at, wrap_up j (by omega)]
      rfl
    rw [rst_cons s j hlt, List.all_cons]
    by_cases h1 : Sp.isL s[j] = true
    · rw [show wpb s[j] = true from by simp [wpb, h1], Bool.true_and]
      exact (ih (j + 1) (by omega)).step fun k => by rw [e0, if_pos h1]
    · by_cases h2 : Sp.isD s[j] = true
      · rw [show wpb s[j] = true from by simp [wpb, h2], Bool.true_and]
        exact (ih (j + 1) (by omega)).step fun k => by rw [e0, if_neg h1, if_pos h2]
      · rw [show wpb s[j] = false from by simp [wpb, h1, h2], Bool.false_and]
        exact EvR.one fun k => by rw [e0, if_neg h1, if_neg h2]
theorem word_ev (s : ByteArray) (hs : s.size ≤ 4611686018427387904) : EvR (fun k => solventref07_word.f k s) (Sp.wd s.data.toList) := by
  unfold solventref07_word.f
  by_cases h0 : 0 < s.size
  · have hne : ¬ s.toList = ([] : List UInt8) := by
      rw [Lib.toList_data]; intro e
      have := congrArg List.length e
      have h1 : s.data.toList.length = s.size := rfl
      simp only [List.length_nil] at this; omega
    rw [wd_cons s h0]
    have hl := word_l0 s hs s.size 0 (by omega)
    have e1 := letter_at s[0]
    rw [← bt_get s 0 h0] at e1
    by_cases h1 : Sp.isL s[0] = true
    · have h2 : (rst s 0).all wpb = (rst s 1).all wpb := by
        rw [rst_cons s 0 h0, List.all_cons, show wpb s[0] = true from by simp [wpb, h1], Bool.true_and]
      rw [h2] at hl
      rw [h1, Bool.true_and]
      refine hl.step fun k => ?_
      rw [if_neg hne, if_pos (by omega), show (0 : Int) = ((0 : Nat) : Int) from rfl, e1, h1]
      rfl
    · simp only [Bool.not_eq_true] at h1
      rw [h1, Bool.false_and]
      refine EvR.one fun k => ?_
      rw [if_neg hne, if_pos (by omega), show (0 : Int) = ((0 : Nat) : Int) from rfl, e1, h1]
      rfl
  · have he : s.toList = ([] : List UInt8) := by
      rw [Lib.toList_data]
      exact List.eq_nil_of_length_eq_zero (by show s.size = 0; omega)
    rw [wd_nil s h0]
    refine EvR.one fun k => ?_
    rw [if_pos he]; rfl

def rng (f : Int) (x : Int) : Bool := decide (0 ≤ x) && decide (x ≤ 2 ^ f.toNat - 1)
section
variable (W : Int) (n1 : ByteArray) (f1 d1 : Int) (a : List (List Int)) (m1 : Int)
theorem top_at (hf : f1 = 8 ∨ f1 = 16) : solventref07_top.f f1 = some (2 ^ f1.toNat - 1) := by
  rcases hf with rfl | rfl <;> rfl
theorem check_l1 (hf : f1 = 8 ∨ f1 = 16) (res : Int) (i : Nat) (ha : i < a.length) (hl : (a[i].length : Int) = d1) (hd : d1 ≤ 31) (him : i ≤ 4611686018427387904)
    (hr : (a[i].all (rng f1) && a[i].any (fun x => decide (0 < x))) = true → EvR (fun k => solventref07_Check.l0 k W ((i + 1 : Nat) : Int) n1 f1 d1 a m1) res)
    (hb : (a[i].all (rng f1) && a[i].any (fun x => decide (0 < x))) = false → res = 1) :
    ∀ (d j : Nat) (s : Int), j + d = a[i].length → 0 ≤ s → s ≤ 65535 * j → (a[i].take j).all (rng f1) = true → (s = 0 ↔ (a[i].take j).any (fun x => decide (0 < x)) = false) →
      EvR (fun k => solventref07_Check.l1 k W (i : Int) s (j : Int) n1 f1 d1 a m1) res := by
  intro d
  induction d with
  | zero =>
    intro j s hj h0 h1 h2 h3
    rw [List.take_of_length_le (by omega)] at h2 h3
    have e0 : ∀ k, solventref07_Check.l1 (k + 1) W (i : Int) s (j : Int) n1 f1 d1 a m1 = if s = 0 then some 1 else solventref07_Check.l0 k W ((i + 1 : Nat) : Int) n1 f1 d1 a m1 := by
      intro k
      simp only [solventref07_Check.l1]
      rw [if_neg (by omega), wrap_up i him]
    by_cases hs : s = 0
    · have : res = 1 := hb (by rw [h3.1 hs, Bool.and_false])
      subst this
      exact EvR.one fun k => by rw [e0, if_pos hs]
    · refine (hr ?_).step fun k => by rw [e0, if_neg hs]
      rw [h2, Bool.true_and]
      cases h : a[i].any (fun x => decide (0 < x)) with
      | true => rfl
      | false => exact absurd (h3.2 h) hs
  | succ d ih =>
    intro j s hj h0 h1 h2 h3
    have hlt : j < a[i].length := by omega
    have htop : (2 : Int) ^ f1.toNat - 1 ≤ 65535 := by rcases hf with rfl | rfl <;> decide
    have e0 : ∀ k, solventref07_Check.l1 (k + 1) W (i : Int) s (j : Int) n1 f1 d1 a m1 = if a[i][j] < 0 then some 1 else if a[i][j] > 2 ^ f1.toNat - 1 then some 1 else solventref07_Check.l1 k W (i : Int) (wrap64 (s + a[i][j])) ((j + 1 : Nat) : Int) n1 f1 d1 a m1 := by
      intro k
      simp only [solventref07_Check.l1]
      rw [if_pos (by omega), if_pos (by omega), if_pos (by omega), if_pos (by omega), rdl_at a i ha, if_pos (by omega), rd_at _ j hlt, top_at f1 hf, wrap_up j (by omega)]
      rfl
    by_cases hx : rng f1 a[i][j] = true
    · simp only [rng, Bool.and_eq_true, decide_eq_true_eq] at hx
      have hw : wrap64 (s + a[i][j]) = s + a[i][j] := by unfold wrap64; omega
      refine (ih (j + 1) (s + a[i][j]) (by omega) (by omega) (by omega) ?_ ?_).step fun k => by rw [e0, if_neg (by omega), if_neg (by omega), hw]
      · rw [List.take_succ_eq_append_getElem hlt, List.all_append, h2]
        simp [rng, hx.1, hx.2]
      · rw [List.take_succ_eq_append_getElem hlt, List.any_append]
        simp only [List.any_cons, List.any_nil, Bool.or_false, Bool.or_eq_false_iff, decide_eq_false_iff_not]
        rw [← h3]
        omega
    · have hres : res = 1 := hb (by
        rw [show a[i].all (rng f1) = false from by
          rw [List.all_eq_false]
          exact ⟨_, List.getElem_mem hlt, hx⟩, Bool.false_and])
      subst hres
      simp only [rng, Bool.and_eq_true, decide_eq_true_eq] at hx
      refine EvR.one fun k => ?_
      rw [e0]
      by_cases hn : a[i][j] < 0
      · rw [if_pos hn]
      · rw [if_neg hn, if_pos (by omega)]

theorem rowOk_eq (r : List Int) : Sp.rowOk f1 d1 r = (decide ((r.length : Int) = d1) && (r.all (rng f1) && r.any (fun x => decide (0 < x)))) := by
  unfold Sp.rowOk rng
  rw [Bool.and_assoc]

theorem check_l0 (hf : f1 = 8 ∨ f1 = 16) (hd : d1 ≤ 31) (hm : a.length ≤ 4611686018427387904) :
    ∀ (d i : Nat), i + d = a.length → EvR (fun k => solventref07_Check.l0 k W (i : Int) n1 f1 d1 a m1) (if (a.drop i).all (Sp.rowOk f1 d1) = true then (if m1 < 1 ∨ W < m1 then 1 else 0) else 1) := by
  intro d
  induction d with
  | zero =>
    intro i hi
    rw [List.drop_eq_nil_of_le (by omega), if_pos (show ([] : List (List Int)).all (Sp.rowOk f1 d1) = true from rfl)]
    refine EvR.one fun k => ?_
    simp only [solventref07_Check.l0]
    rw [if_neg (by omega)]
    by_cases h1 : m1 < 1
    · rw [if_pos h1, if_pos (.inl h1)]
    · by_cases h2 : W < m1
      · rw [if_neg h1, if_pos (by omega), if_pos (.inr h2)]
      · rw [if_neg h1, if_neg (by omega), if_neg (by omega)]
  | succ d ih =>
    intro i hi
    have ha : i < a.length := by omega
    have e0 : ∀ k, solventref07_Check.l0 (k + 1) W (i : Int) n1 f1 d1 a m1 = if (a[i].length : Int) = d1 then solventref07_Check.l1 k W (i : Int) 0 0 n1 f1 d1 a m1 else some 1 := by
      intro k
      simp only [solventref07_Check.l0]
      rw [if_pos (by omega), if_pos (by omega), rdl_at a i ha]
    rw [List.drop_eq_getElem_cons ha, List.all_cons, rowOk_eq]
    by_cases hl : (a[i].length : Int) = d1
    · rw [decide_eq_true hl, Bool.true_and]
      refine EvR.step (check_l1 W n1 f1 d1 a m1 hf _ i ha hl hd (by omega) (fun h => ?_) (fun h => ?_) a[i].length 0 0 (by omega) (by omega) (by omega) (by simp) (by simp)) (fun k => by rw [e0, if_pos hl]; rfl)
      · rw [h, Bool.true_and]
        exact ih (i + 1) (by omega)
      · rw [h, Bool.false_and, if_neg (by decide)]
    · rw [decide_eq_false hl, Bool.false_and, Bool.false_and, if_neg (by decide)]
      exact EvR.one fun k => by rw [e0, if_neg hl]
end

theorem check_ev (n1 : ByteArray) (f1 d1 : Int) (a : List (List Int)) (m1 : Int) (hn : n1.size ≤ 4611686018427387904) (hm : a.length ≤ 4611686018427387904) (hd1 : -9223372036854775808 ≤ d1) (hd2 : d1 ≤ 9223372036854775807) :
    EvR (fun k => solventref07_Check.f k n1 f1 d1 a m1) ((Sp.ck n1.data.toList f1 d1 a m1 : Nat) : Int) := by
  unfold solventref07_Check.f
  refine EvR.bind (word_ev n1 hn) ?_
  have hN : n1.data.toList.length = n1.size := rfl
  unfold Sp.ck
  cases hw : Sp.wd n1.data.toList with
  | false => simp only [if_true]; exact EvR.one fun k => rfl
  | true =>
    simp only [if_true]
    rw [if_neg (show ¬ (true = false) by decide)]
    by_cases h12 : 12 < n1.size
    · rw [if_pos (by omega)]
      exact EvR.one fun k => by rw [if_pos (by omega)]; rfl
    · rw [if_neg (by omega)]
      have hJ : ∀ k, (if (n1.size : Int) > 12 then some 2 else if f1 = 8 then solventref07_Check.j0 k (wrap64 (d1 + (a.length : Int))) false n1 f1 d1 a m1 else solventref07_Check.j0 k (wrap64 (d1 + (a.length : Int))) (f1 != 16) n1 f1 d1 a m1) =
          solventref07_Check.j0 k (wrap64 (d1 + (a.length : Int))) (!(decide (f1 = 8 ∨ f1 = 16))) n1 f1 d1 a m1 := by
        intro k
        rw [if_neg (by omega)]
        by_cases h8 : f1 = 8
        · rw [if_pos h8, decide_eq_true (.inl h8)]; rfl
        · rw [if_neg h8]
          congr 1
          by_cases h16 : f1 = 16
          · subst h16; rfl
          · rw [decide_eq_false (fun h => h.elim h8 h16)]
            simp [h16]
      refine EvR.same ?_ hJ
      by_cases hf : f1 = 8 ∨ f1 = 16
      · rw [decide_eq_true hf]
        by_cases hd : d1 < 1
        · rw [if_pos (.inr (.inl hd))]
          refine EvR.step (G := fun k => solventref07_Check.j1 k (wrap64 (d1 + (a.length : Int))) true n1 f1 d1 a m1) (EvR.one fun k => rfl) fun k => ?_
          simp only [solventref07_Check.j0]
          rw [if_neg (by decide), if_pos hd]
        · by_cases hd31 : 31 < d1
          · rw [if_pos (.inr (.inr (.inl hd31)))]
            refine EvR.step (G := fun k => solventref07_Check.j1 k (wrap64 (d1 + (a.length : Int))) true n1 f1 d1 a m1) (EvR.one fun k => rfl) fun k => ?_
            simp only [solventref07_Check.j0]
            rw [if_neg (by decide), if_neg hd, if_pos (by omega)]
          · have e1 : ∀ k, solventref07_Check.j0 (k + 1) (wrap64 (d1 + (a.length : Int))) (!true) n1 f1 d1 a m1 = solventref07_Check.j1 k (wrap64 (d1 + (a.length : Int))) ((a.length : Int) == 0) n1 f1 d1 a m1 := by
              intro k
              simp only [solventref07_Check.j0]
              rw [if_neg (by decide), if_neg hd, if_neg (by omega)]
            by_cases ha : a = []
            · rw [if_pos (.inr (.inr (.inr ha)))]
              refine EvR.step (EvR.one fun k => ?_) e1
              subst ha; rfl
            · have hal : a.length ≠ 0 := fun h => ha (List.eq_nil_of_length_eq_zero h)
              rw [if_neg (fun hh => hh.elim (fun h => h hf) (fun h => h.elim hd (fun h => h.elim hd31 ha)))]
              have hw2 : wrap64 (d1 + (a.length : Int)) = d1 + (a.length : Int) := by unfold wrap64; omega
              rw [hw2] at e1 ⊢
              have e2 : ∀ k, solventref07_Check.j1 (k + 1) (d1 + (a.length : Int)) ((a.length : Int) == 0) n1 f1 d1 a m1 = if d1 + (a.length : Int) > 32 then some 2 else solventref07_Check.l0 k (d1 + (a.length : Int)) 0 n1 f1 d1 a m1 := by
                intro k
                simp only [solventref07_Check.j1]
                rw [if_neg (by simp; exact ha)]
              by_cases h32 : 32 < d1 + (a.length : Int)
              · rw [if_pos h32]
                exact EvR.step (EvR.one fun k => by rw [e2, if_pos (by omega)]; rfl) e1
              · rw [if_neg h32]
                refine EvR.step (EvR.step (G := fun k => solventref07_Check.l0 k (d1 + (a.length : Int)) ((0 : Nat) : Int) n1 f1 d1 a m1) ?_ (fun k => by rw [e2, if_neg (by omega)]; rfl)) e1
                have h := check_l0 (d1 + (a.length : Int)) n1 f1 d1 a m1 hf (by omega) hm a.length 0 (by omega)
                rw [List.drop_zero] at h
                cases hall : a.all (Sp.rowOk f1 d1) with
                | false => rw [hall] at h; simpa using h
                | true =>
                  rw [hall] at h
                  rw [if_neg (by decide)]
                  by_cases hmm : m1 < 1 ∨ d1 + (a.length : Int) < m1
                  · rw [if_pos hmm]; rw [if_pos rfl, if_pos hmm] at h; exact h
                  · rw [if_neg hmm]; rw [if_pos rfl, if_neg hmm] at h; exact h
      · rw [decide_eq_false hf, if_pos (.inl hf)]
        refine EvR.one fun k => ?_
        simp only [solventref07_Check.j0]
        rfl
end Go.Proofs.YtppeplonnippcaaDoor.Rf

namespace Go.Proofs.YtppeplonnippcaaDoor.Rf
open Go.RowKit Go.Proofs.YtppeplonnippcaaDoorW.PrintWords Go.Proofs.YtppeplonnippcaaDoorW.PrintLast

theorem EvR.get {α : Type} {F : Nat → Option α} {r : α} (h : EvR F r) : ∃ K, ∀ k, K ≤ k → F k = some r := h
theorem EvR.mk' {α : Type} {F : Nat → Option α} {r : α} (K : Nat) (h : ∀ k, K ≤ k → F k = some r) : EvR F r := ⟨K, h⟩
theorem bs_add (l m : List UInt8) : bs l ++ bs m = bs (l ++ m) := by
  apply ByteArray.ext
  simp [bs, ByteArray.data_append]
theorem dec_nat (n : Nat) : Sp.dec (n : Int) = Lib.decDigits n := by
  unfold Sp.dec Lib.itoa
  rw [if_neg (by omega)]; rfl
theorem digit_str (n : Nat) : strOfNums [(wrap64 (48 + (Int.tmod (n : Int) 10))) % 256] = bs [UInt8.ofNat (48 + n % 10)] := by
  have e : (wrap64 (48 + (Int.tmod (n : Int) 10))) % 256 = ((48 + n % 10 : Nat) : Int) := by
    rw [Int.tmod_eq_emod_of_nonneg (by omega)]
    unfold wrap64; omega
  rw [e]
  unfold strOfNums bs
  simp only [List.map_cons, List.map_nil, Int.toNat_natCast]
theorem number_ev (n : Nat) (h : n ≤ 99999) : EvR (fun k => solventref07_Number.f k (n : Int)) (bs (Sp.dec n)) := by
  induction n using Nat.strongRecOn with
  | _ n ih =>
    rw [dec_nat, Lib.decDigits]
    by_cases h10 : n < 10
    · rw [dif_pos h10]
      refine EvR.one fun k => ?_
      simp only [solventref07_Number.f, Option.bind_some]
      rw [if_pos (by omega), digit_str, Nat.mod_eq_of_lt h10]
    · rw [dif_neg h10]
      have h1 := ih (n / 10) (by omega) (by omega)
      rw [dec_nat] at h1
      have hl := Sp.decD_len 4 (n / 10) (by omega)
      have hd : wrap64 (Int.tdiv (n : Int) 10) = ((n / 10 : Nat) : Int) := by
        rw [Int.tdiv_eq_ediv_of_nonneg (by omega)]
        unfold wrap64; omega
      refine EvR.step (G := fun k => (solventref07_Number.f k ((n / 10 : Nat) : Int)).bind fun t => if t.size + (bs [UInt8.ofNat (48 + n % 10)]).size ≤ 9223372036854775807 then some (t ++ bs [UInt8.ofNat (48 + n % 10)]) else none) (EvR.bind h1 ?_) fun k => ?_
      · refine EvR.same (EvR.pure _) fun k => ?_
        rw [if_pos (by rw [bs_size, bs_size]; simp; omega), bs_add]
      · simp only [solventref07_Number.f, Option.bind_some]
        rw [if_neg (by omega), digit_str, hd]
theorem number_int (n : Int) (h0 : 0 ≤ n) (h : n ≤ 99999) : EvR (fun k => solventref07_Number.f k n) (bs (Sp.dec n)) := by
  obtain ⟨m, rfl⟩ := Int.eq_ofNat_of_zero_le h0
  exact number_ev m (by omega)

def allN : List Int → List UInt8
  | [] => []
  | x :: r => (32 :: Sp.dec x) ++ allN r
theorem allN_snoc (l : List Int) (x : Int) : allN (l ++ [x]) = allN l ++ (32 :: Sp.dec x) := by
  induction l with
  | nil => simp [allN]
  | cons a l ih => simp only [List.cons_append, allN]; rw [ih]; simp
theorem allN_len (l : List Int) (h : ∀ x ∈ l, 0 ≤ x ∧ x ≤ 99999) : (allN l).length ≤ 6 * l.length := by
  induction l with
  | nil => simp [allN]
  | cons a l ih =>
    have h1 := ih (fun x hx => h x (List.mem_cons_of_mem _ hx))
    have h3 := h a (List.mem_cons_self ..)
    have h2 := Sp.dec_len h3.1 h3.2
    simp only [allN, List.length_append, List.length_cons]; omega
theorem allN_coefs (l : List Int) (h : ∀ x ∈ l, 0 < x) : allN l = Sp.coefs l := by
  induction l with
  | nil => rfl
  | cons a l ih =>
    simp only [allN, Sp.coefs]
    rw [if_pos (h a (List.mem_cons_self ..)), ih (fun x hx => h x (List.mem_cons_of_mem _ hx))]

theorem row_l0 (r : List Int) (hl : r.length ≤ 99) (h : ∀ x ∈ r, 0 ≤ x ∧ x ≤ 99999) : ∀ (d j : Nat), j + d = r.length →
    EvR (fun k => solventref07_row.l0 k r (bs (allN (r.take j))) (bs (Sp.idxs 0 (r.take j))) (bs (Sp.coefs (r.take j))) (decide ((0 : Int) ∈ r.take j)) (j : Int)) (bs (Sp.prRow r ++ [59])) := by
  have e32 : (⟨#[32]⟩ : ByteArray) = bs [32] := rfl
  intro d
  induction d with
  | zero =>
    intro j hj
    rw [List.take_of_length_le (by omega)]
    have h1 := Sp.idxs_len r 0 (by omega)
    have h2 := Sp.coefs_len r (fun x hx => (h x hx).2)
    have h3 := allN_len r h
    refine EvR.one fun k => ?_
    simp only [solventref07_row.l0]
    rw [if_neg (by omega)]
    have e1 : (⟨#[108, 111, 99, 97, 108]⟩ : ByteArray) = bs Sp.kLocal := rfl
    have e2 : (⟨#[112, 97, 114, 105, 116, 121]⟩ : ByteArray) = bs Sp.kParity := rfl
    have e3 : (⟨#[58]⟩ : ByteArray) = bs [58] := rfl
    have e4 : (⟨#[59]⟩ : ByteArray) = bs [59] := rfl
    rw [e1, e2, e3, e4]
    simp only [bs_add, bs_size, List.length_append, Sp.kLocal, Sp.kParity, List.length_cons, List.length_nil]
    unfold Sp.prRow
    by_cases hz : (0 : Int) ∈ r
    · rw [if_pos (decide_eq_true hz), if_pos hz, if_pos (by omega), if_pos (by omega), if_pos (by omega), if_pos (by omega)]
      rfl
    · rw [if_neg (by rw [decide_eq_false hz]; decide), if_neg hz, if_pos (by omega), if_pos (by omega)]
      rw [allN_coefs r (fun x hx => by
        have := (h x hx).1
        rcases Int.lt_or_le 0 x with h' | h'
        · exact h'
        · exact absurd (show (0 : Int) ∈ r by rw [show (0 : Int) = x by omega]; exact hx) hz)]
      rfl
  | succ d ih =>
    intro j hj
    have hlt : j < r.length := by omega
    have hj1 := h r[j] (List.getElem_mem hlt)
    have ht : (r.take j).length = j := by rw [List.length_take]; omega
    have hb : ∀ x ∈ r.take j, 0 ≤ x ∧ x ≤ 99999 := fun x hx => h x (List.mem_of_mem_take hx)
    have h1 := Sp.idxs_len (r.take j) 0 (by omega)
    have h2 := Sp.coefs_len (r.take j) (fun x hx => (hb x hx).2)
    have h3 := allN_len (r.take j) hb
    have hdx := Sp.dec_len hj1.1 hj1.2
    have hdj := Sp.dec_len (n := (j : Int)) (by omega) (by omega)
    have ih1 := ih (j + 1) (by omega)
    rw [List.take_succ_eq_append_getElem hlt, allN_snoc, Sp.idxs_snoc, Sp.coefs_snoc, ht, Nat.zero_add] at ih1
    have hm : decide ((0 : Int) ∈ r.take j ++ [r[j]]) = (decide ((0 : Int) ∈ r.take j) || decide (r[j] = 0)) := by
      rw [← Bool.decide_or]
      refine decide_eq_decide.2 ?_
      rw [List.mem_append, List.mem_singleton]
      exact ⟨fun h => h.elim .inl fun h => .inr h.symm, fun h => h.elim .inl fun h => .inr h.symm⟩
    rw [hm] at ih1
    obtain ⟨K1, N1⟩ := EvR.get (number_int r[j] hj1.1 hj1.2)
    obtain ⟨K2, N2⟩ := EvR.get (number_int (j : Int) (by omega) (by omega))
    obtain ⟨K3, N3⟩ := EvR.get (ih1)
    refine EvR.mk' (K1 + K2 + K3 + 1) fun k hk => ?_
    obtain ⟨m, rfl⟩ : ∃ m, k = m + 1 := ⟨k - 1, by omega⟩
    have M3 := N3 m (by omega)
    simp only [solventref07_row.l0]
    rw [if_pos (by omega), if_pos (by rw [bs_size]; omega), if_pos (by omega), rd_at r j hlt, N1 m (by omega), N2 m (by omega), wrap_up j (by omega), e32]
    simp only [Option.bind_some, bs_add, bs_size, List.length_append, List.length_cons, List.length_nil]
    rw [if_pos (by omega)]
    by_cases hz : r[j] = 0
    · rw [if_pos hz]
      rw [if_neg (by omega), if_neg (by omega), List.append_nil, List.append_nil, decide_eq_true hz, Bool.or_true] at M3
      rw [← M3, List.append_assoc]; rfl
    · rw [if_neg hz, if_pos (by omega), if_pos (by omega), if_pos (by omega), if_pos (by omega)]
      rw [if_pos (by omega), if_pos (by omega), decide_eq_false hz, Bool.or_false] at M3
      rw [← M3, List.append_assoc, List.append_assoc, List.append_assoc]; rfl

theorem row_ev (r : List Int) (hl : r.length ≤ 99) (h : ∀ x ∈ r, 0 ≤ x ∧ x ≤ 99999) : EvR (fun k => solventref07_row.f k r) (bs (Sp.prRow r ++ [59])) :=
  EvR.same (row_l0 r hl h r.length 0 (by omega)) fun k => by rw [List.take_zero]; rfl

section
variable (n1 : ByteArray) (f1 d1 : Int) (a : List (List Int)) (m1 : Int)
def fin (L : List UInt8) (m : Int) : ByteArray × Int :=
  if 2000 < (L ++ Sp.ln ((Sp.kDomain ++ [32]) ++ Sp.dec m) ++ [125, 10]).length then (⟨#[]⟩, 2) else (bs (L ++ Sp.ln ((Sp.kDomain ++ [32]) ++ Sp.dec m) ++ [125, 10]), 0)
theorem print_l0 (L : List UInt8) (hL : L.length ≤ 1000) (hm0 : 0 ≤ m1) (hm1 : m1 ≤ 99999) (hal : a.length ≤ 99) (h : ∀ r ∈ a, r.length ≤ 99 ∧ ∀ x ∈ r, 0 ≤ x ∧ x ≤ 99999) :
    ∀ (d i : Nat), i + d = a.length → EvR (fun k => solventref07_Print.l0 k (bs (L ++ Sp.prRows (a.take i))) (i : Int) n1 f1 d1 a m1) (fin (L ++ Sp.prRows a) m1) := by
  intro d
  induction d with
  | zero =>
    intro i hi
    rw [List.take_of_length_le (by omega)]
    have h1 := Sp.prRows_len a (fun r hr => ⟨(h r hr).1, fun x hx => ((h r hr).2 x hx).2⟩)
    have hd := Sp.dec_len hm0 hm1
    obtain ⟨K1, N1⟩ := EvR.get (number_int m1 hm0 hm1)
    refine EvR.mk' (K1 + 1) fun k hk => ?_
    obtain ⟨m, rfl⟩ : ∃ m, k = m + 1 := ⟨k - 1, by omega⟩
    have e1 : (⟨#[9, 100, 111, 109, 97, 105, 110, 32]⟩ : ByteArray) = bs ([9] ++ (Sp.kDomain ++ [32])) := rfl
    have e2 : (⟨#[59, 10, 125, 10]⟩ : ByteArray) = bs ([59, 10] ++ [125, 10]) := rfl
    have e3 : L ++ Sp.prRows a ++ ([9] ++ (Sp.kDomain ++ [32])) ++ Sp.dec m1 ++ ([59, 10] ++ [125, 10]) = L ++ Sp.prRows a ++ Sp.ln ((Sp.kDomain ++ [32]) ++ Sp.dec m1) ++ [125, 10] := by simp [Sp.ln]
    have hll : (L ++ Sp.prRows a).length ≤ 300000 := by rw [List.length_append]; omega
    simp only [solventref07_Print.l0]
    rw [if_neg (by omega), if_pos (by rw [bs_size]; omega), N1 m (by omega), e1, e2]
    generalize L ++ Sp.prRows a = M at *
    simp only [Option.bind_some, bs_add]
    rw [if_pos (by rw [bs_size, bs_size]; simp [Sp.kDomain]; omega), if_pos (by rw [bs_size]; simp [Sp.kDomain]; omega), e3]
    unfold fin
    generalize M ++ Sp.ln ((Sp.kDomain ++ [32]) ++ Sp.dec m1) ++ [125, 10] = Z
    rw [bs_size]
    by_cases hz : 2000 < Z.length
    · rw [if_pos hz, if_pos (by omega)]
    · rw [if_neg hz, if_neg (by omega)]
  | succ d ih =>
    intro i hi
    have hlt : i < a.length := by omega
    have hr := h a[i] (List.getElem_mem hlt)
    have h1 := Sp.prRows_len (a.take i) (fun r hr => ⟨(h r (List.mem_of_mem_take hr)).1, fun x hx => ((h r (List.mem_of_mem_take hr)).2 x hx).2⟩)
    have h2 : (a.take i).length ≤ 99 := by rw [List.length_take]; omega
    have h3 := Sp.prRow_len hr.1 (fun x hx => (hr.2 x hx).2)
    have ih1 := ih (i + 1) (by omega)
    rw [List.take_succ_eq_append_getElem hlt, Sp.prRows_snoc] at ih1
    obtain ⟨K1, N1⟩ := EvR.get (row_ev a[i] hr.1 hr.2)
    obtain ⟨K3, N3⟩ := EvR.get (ih1)
    refine EvR.mk' (K1 + K3 + 1) fun k hk => ?_
    obtain ⟨m, rfl⟩ : ∃ m, k = m + 1 := ⟨k - 1, by omega⟩
    have M3 := N3 m (by omega)
    have e1 : (⟨#[9]⟩ : ByteArray) = bs [9] := rfl
    have e2 : (⟨#[10]⟩ : ByteArray) = bs [10] := rfl
    have e3 : L ++ Sp.prRows (a.take i) ++ [9] ++ (Sp.prRow a[i] ++ [59]) ++ [10] = L ++ (Sp.prRows (a.take i) ++ Sp.ln (Sp.prRow a[i])) := by simp [Sp.ln]
    have hll : (L ++ Sp.prRows (a.take i)).length ≤ 300000 := by rw [List.length_append]; omega
    simp only [solventref07_Print.l0]
    rw [if_pos (by omega), if_pos (by rw [bs_size]; omega), if_pos (by omega), rdl_at a i hlt, N1 m (by omega), wrap_up i (by omega), e1, e2]
    simp only [Option.bind_some, bs_add, bs_size, List.length_append, List.length_cons, List.length_nil]
    rw [List.length_append] at hll
    rw [if_pos (by omega), if_pos (by omega), e3]
    exact M3
end

def prR (n1 : ByteArray) (f1 d1 : Int) (a : List (List Int)) (m1 : Int) : ByteArray × Int :=
  match Sp.pr n1.data.toList f1 d1 a m1 with
  | .ok l => (bs l, 0)
  | .error e => (⟨#[]⟩, (e : Int))
theorem print_ev (n1 : ByteArray) (f1 d1 : Int) (a : List (List Int)) (m1 : Int) (hn : n1.size ≤ 4611686018427387904) (hm : a.length ≤ 4611686018427387904) (hd1 : -9223372036854775808 ≤ d1) (hd2 : d1 ≤ 9223372036854775807) :
    EvR (fun k => solventref07_Print.f k n1 f1 d1 a m1) (prR n1 f1 d1 a m1) := by
  obtain ⟨K0, N0⟩ := EvR.get (check_ev n1 f1 d1 a m1 hn hm hd1 hd2)
  unfold prR Sp.pr
  by_cases hc : Sp.ck n1.data.toList f1 d1 a m1 = 0
  · have hF := Sp.ck_fine hc
    have hf0 : 0 ≤ f1 ∧ f1 ≤ 99 := by rcases hF.fi with e | e <;> omega
    have hd0 := hF.d1; have hd1 := hF.d31; have hm0 := hF.m1; have hw := hF.width; have hmw := hF.mw
    have hn12 : n1.size ≤ 12 := hF.len
    have hnl : n1.data.toList.length = n1.size := rfl
    have hn1 : bs n1.data.toList = n1 := rfl
    obtain ⟨K1, N1⟩ := EvR.get (number_int f1 hf0.1 (by omega))
    obtain ⟨K2, N2⟩ := EvR.get (number_int d1 (by omega) (by omega))
    have l1 := Sp.dec_len (n := f1) hf0.1 (by omega)
    have l2 := Sp.dec_len (n := d1) (by omega) (by omega)
    obtain ⟨L, hL⟩ : ∃ L, L = (Sp.kCode ++ [32]) ++ n1.data.toList ++ [32, 123, 10] ++ Sp.ln ((Sp.kField ++ [32]) ++ Sp.dec f1) ++ Sp.ln ((Sp.kData ++ [32]) ++ Sp.dec d1) := ⟨_, rfl⟩
    have hLl : L.length ≤ 1000 := by rw [hL]; simp [Sp.kCode, Sp.kField, Sp.kData, Sp.ln]; omega
    obtain ⟨K3, N3⟩ := EvR.get (print_l0 n1 f1 d1 a m1 L hLl (by omega) (by omega) (by omega) (fun r hr => ⟨by have := (hF.row hr).1; omega, fun x hx => ⟨((hF.row hr).2 x hx).1, by have := ((hF.row hr).2 x hx).2; omega⟩⟩) a.length 0 (by omega))
    refine EvR.mk' (K0 + K1 + K2 + K3) fun k hk => ?_
    have M3 := N3 k (by omega)
    have e1 : (⟨#[99, 111, 100, 101, 32]⟩ : ByteArray) = bs (Sp.kCode ++ [32]) := rfl
    have e2 : (⟨#[32, 123, 10, 9, 102, 105, 101, 108, 100, 32]⟩ : ByteArray) = bs ([32, 123, 10] ++ [9] ++ (Sp.kField ++ [32])) := rfl
    have e3 : (⟨#[59, 10, 9, 100, 97, 116, 97, 32]⟩ : ByteArray) = bs ([59, 10] ++ [9] ++ (Sp.kData ++ [32])) := rfl
    have e4 : (⟨#[59, 10]⟩ : ByteArray) = bs [59, 10] := rfl
    have hLb : bs (Sp.kCode ++ [32]) ++ n1 ++ bs ([32, 123, 10] ++ [9] ++ (Sp.kField ++ [32])) ++ bs (Sp.dec f1) ++ bs ([59, 10] ++ [9] ++ (Sp.kData ++ [32])) ++ bs (Sp.dec d1) ++ bs [59, 10] = bs L := by
      rw [← hn1]; simp only [bs_add]; rw [hL]; simp [Sp.ln, hn1]
    simp only [solventref07_Print.f]
    rw [N0 k (by omega), hc, N1 k (by omega), N2 k (by omega), e1, e2, e3, e4]
    simp only [Option.bind_some]
    rw [if_pos (show ((0 : Nat) : Int) = 0 from rfl), hLb]
    have z1 : (bs (Sp.kCode ++ [32]) ++ n1).size ≤ 100 := by rw [← hn1, bs_add, bs_size]; simp [Sp.kCode]; omega
    have z2 : (bs (Sp.kCode ++ [32]) ++ n1 ++ bs ([32, 123, 10] ++ [9] ++ (Sp.kField ++ [32]))).size ≤ 200 := by rw [← hn1, bs_add, bs_add, bs_size]; simp [Sp.kCode, Sp.kField]; omega
    have z3 : (bs (Sp.kCode ++ [32]) ++ n1 ++ bs ([32, 123, 10] ++ [9] ++ (Sp.kField ++ [32])) ++ bs (Sp.dec f1)).size ≤ 300 := by rw [ByteArray.size_append, bs_size]; omega
    have z4 : (bs (Sp.kCode ++ [32]) ++ n1 ++ bs ([32, 123, 10] ++ [9] ++ (Sp.kField ++ [32])) ++ bs (Sp.dec f1) ++ bs ([59, 10] ++ [9] ++ (Sp.kData ++ [32]))).size ≤ 400 := by rw [ByteArray.size_append, bs_size]; simp only [Sp.kData, List.length_append, List.length_cons, List.length_nil]; omega
    have z5 : (bs (Sp.kCode ++ [32]) ++ n1 ++ bs ([32, 123, 10] ++ [9] ++ (Sp.kField ++ [32])) ++ bs (Sp.dec f1) ++ bs ([59, 10] ++ [9] ++ (Sp.kData ++ [32])) ++ bs (Sp.dec d1)).size ≤ 500 := by rw [ByteArray.size_append, bs_size]; omega
    rw [if_pos (by omega), if_pos (by omega), if_pos (by rw [bs_size]; omega), if_pos (by omega), if_pos (by rw [bs_size]; omega), if_pos (by omega)]
    rw [List.take_zero, show Sp.prRows [] = [] from rfl, List.append_nil] at M3
    refine Eq.trans M3 ?_
    unfold fin
    have hPS : L ++ Sp.prRows a ++ Sp.ln ((Sp.kDomain ++ [32]) ++ Sp.dec m1) ++ [125, 10] = Sp.prS n1.data.toList f1 d1 a m1 := by rw [hL]; rfl
    rw [hPS, if_pos True.intro]
    by_cases hz : 2000 < (Sp.prS n1.data.toList f1 d1 a m1).length
    · rw [if_pos hz, if_pos hz]; rfl
    · rw [if_neg hz, if_neg hz]
  · refine ⟨K0, fun k hk => ?_⟩
    simp only [solventref07_Print.f]
    rw [N0 k hk]
    simp only [Option.bind_some]
    rw [if_neg (by omega), if_neg hc]
end Go.Proofs.YtppeplonnippcaaDoor.Rf
