/-
Layer 7: what the reference's Check computes, in plain words.
-/
import Derived.Test.YtppeplonnippcaaDoorR2
import Derived.Test.YtppeplonnippcaaDoorP1
import Derived.Test.YtppeplonnippcaaDoorB7
set_option linter.unusedVariables false
set_option linter.unusedSimpArgs false
namespace Go.Proofs.YtppeplonnippcaaDoor.Rf
open Go.RowKit Go.Proofs.YtppeplonnippcaaDoorW.PrintWords Go.Proofs.YtppeplonnippcaaDoorW.PrintLast

theorem bt_get (s : ByteArray) (j : Nat) (h : j < s.size) : bt s (j : Int) = (s[j].toNat : Int) := by
  unfold bt
  rw [dif_pos (by omega)]
  simp
theorem letter_at (c : UInt8) : solventref07_letter.f (c.toNat : Int) = some (Sp.isL c) := by
  unfold solventref07_letter.f Sp.isL
  by_cases h : (c.toNat : Int) ≥ 97
  · rw [if_pos h, decide_eq_true (show 97 ≤ c.toNat by omega), Bool.true_and]
    congr 1
    exact decide_eq_decide.2 (by omega)
  · rw [if_neg h, decide_eq_false (show ¬ 97 ≤ c.toNat by omega), Bool.false_and]
theorem digit_at (c : UInt8) : solventref07_digit.f (c.toNat : Int) = some (Sp.isD c) := by
  unfold solventref07_digit.f Sp.isD
  by_cases h : (c.toNat : Int) ≥ 48
  · rw [if_pos h, decide_eq_true (show 48 ≤ c.toNat by omega), Bool.true_and]
    congr 1
    exact decide_eq_decide.2 (by omega)
  · rw [if_neg h, decide_eq_false (show ¬ 48 ≤ c.toNat by omega), Bool.false_and]

theorem word_l0 (s : ByteArray) (hs : s.size ≤ 4611686018427387904) : ∀ (d j : Nat), j + d = s.size → EvR (fun k => solventref07_word.l0 k s (j : Int)) ((rst s j).all wpb) := by
  intro d
  induction d with
  | zero =>
    intro j hj
    rw [rst_nil s j (by omega)]
    refine EvR.one fun k => ?_
    simp only [solventref07_word.l0]
    rw [if_neg (by omega)]; rfl
  | succ d ih =>
    intro j hj
    have hlt : j < s.size := by omega
    have e0 : ∀ k, solventref07_word.l0 (k + 1) s (j : Int) = if Sp.isL s[j] = true then solventref07_word.l0 k s ((j + 1 : Nat) : Int) else if Sp.isD s[j] = true then solventref07_word.l0 k s ((j + 1 : Nat) : Int) else some false := by
      intro k
      simp only [solventref07_word.l0]
      rw [if_pos (by omega), if_pos (by omega), bt_get s j hlt, letter_at, digit_at, wrap_up j (by omega)]
      rfl
    rw [rst_cons s j hlt, List.all_cons]
    by_cases h1 : Sp.isL s[j] = true
    · rw [show wpb s[j] = true from by simp [wpb, h1], Bool.true_and]
      exact (ih (j + 1) (by omega)).step fun k => by rw [e0, if_pos h1]
    · by_cases h2 : Sp.isD s[j] = true
      · rw [show wpb s[j] = true from by simp [wpb, h2], Bool.true_and]
        exact (ih (j + 1) (by omega)).step fun k => by rw [e0, if_neg h1, if_pos h2]
      · rw [show wpb s[j] = false from by simp [wpb, h1, h2], Bool.false_and]
        exact EvR.one fun k => by rw [e0, if_neg h1, if_neg h2]
theorem word_ev (s : ByteArray) (hs : s.size ≤ 4611686018427387904) : EvR (fun k => solventref07_word.f k s) (Sp.wd s.data.toList) := by
  unfold solventref07_word.f
  by_cases h0 : 0 < s.size
  · have hne : ¬ s.toList = ([] : List UInt8) := by
      rw [Lib.toList_data]; intro e
      have := congrArg List.length e
      have h1 : s.data.toList.length = s.size := rfl
      simp only [List.length_nil] at this; omega
    rw [wd_cons s h0]
    have hl := word_l0 s hs s.size 0 (by omega)
    have e1 := letter_at s[0]
    rw [← bt_get s 0 h0] at e1
    by_cases h1 : Sp.isL s[0] = true
    · have h2 : (rst s 0).all wpb = (rst s 1).all wpb := by
        rw [rst_cons s 0 h0, List.all_cons, show wpb s[0] = true from by simp [wpb, h1], Bool.true_and]
      rw [h2] at hl
      rw [h1, Bool.true_and]
      refine hl.step fun k => ?_
      rw [if_neg hne, if_pos (by omega), show (0 : Int) = ((0 : Nat) : Int) from rfl, e1, h1]
      rfl
    · simp only [Bool.not_eq_true] at h1
      rw [h1, Bool.false_and]
      refine EvR.one fun k => ?_
      rw [if_neg hne, if_pos (by omega), show (0 : Int) = ((0 : Nat) : Int) from rfl, e1, h1]
      rfl
  · have he : s.toList = ([] : List UInt8) := by
      rw [Lib.toList_data]
      exact List.eq_nil_of_length_eq_zero (by show s.size = 0; omega)
    rw [wd_nil s h0]
    refine EvR.one fun k => ?_
    rw [if_pos he]; rfl

def rng (f : Int) (x : Int) : Bool := decide (0 ≤ x) && decide (x ≤ 2 ^ f.toNat - 1)
section
variable (W : Int) (n1 : ByteArray) (f1 d1 : Int) (a : List (List Int)) (m1 : Int)
theorem top_at (hf : f1 = 8 ∨ f1 = 16) : solventref07_top.f f1 = some (2 ^ f1.toNat - 1) := by
  rcases hf with rfl | rfl <;> rfl
theorem check_l1 (hf : f1 = 8 ∨ f1 = 16) (res : Int) (i : Nat) (ha : i < a.length) (hl : (a[i].length : Int) = d1) (hd : d1 ≤ 31) (him : i ≤ 4611686018427387904)
    (hr : (a[i].all (rng f1) && a[i].any (fun x => decide (0 < x))) = true → EvR (fun k => solventref07_Check.l0 k W ((i + 1 : Nat) : Int) n1 f1 d1 a m1) res)
    (hb : (a[i].all (rng f1) && a[i].any (fun x => decide (0 < x))) = false → res = 1) :
    ∀ (d j : Nat) (s : Int), j + d = a[i].length → 0 ≤ s → s ≤ 65535 * j → (a[i].take j).all (rng f1) = true → (s = 0 ↔ (a[i].take j).any (fun x => decide (0 < x)) = false) →
      EvR (fun k => solventref07_Check.l1 k W (i : Int) s (j : Int) n1 f1 d1 a m1) res := by
  intro d
  induction d with
  | zero =>
    intro j s hj h0 h1 h2 h3
    rw [List.take_of_length_le (by omega)] at h2 h3
    have e0 : ∀ k, solventref07_Check.l1 (k + 1) W (i : Int) s (j : Int) n1 f1 d1 a m1 = if s = 0 then some 1 else solventref07_Check.l0 k W ((i + 1 : Nat) : Int) n1 f1 d1 a m1 := by
      intro k
      simp only [solventref07_Check.l1]
      rw [if_neg (by omega), wrap_up i him]
    by_cases hs : s = 0
    · have : res = 1 := hb (by rw [h3.1 hs, Bool.and_false])
      subst this
      exact EvR.one fun k => by rw [e0, if_pos hs]
    · refine (hr ?_).step fun k => by rw [e0, if_neg hs]
      rw [h2, Bool.true_and]
      cases h : a[i].any (fun x => decide (0 < x)) with
      | true => rfl
      | false => exact absurd (h3.2 h) hs
  | succ d ih =>
    intro j s hj h0 h1 h2 h3
    have hlt : j < a[i].length := by omega
    have htop : (2 : Int) ^ f1.toNat - 1 ≤ 65535 := by rcases hf with rfl | rfl <;> decide
    have e0 : ∀ k, solventref07_Check.l1 (k + 1) W (i : Int) s (j : Int) n1 f1 d1 a m1 = if a[i][j] < 0 then some 1 else if a[i][j] > 2 ^ f1.toNat - 1 then some 1 else solventref07_Check.l1 k W (i : Int) (wrap64 (s + a[i][j])) ((j + 1 : Nat) : Int) n1 f1 d1 a m1 := by
      intro k
      simp only [solventref07_Check.l1]
      rw [if_pos (by omega), if_pos (by omega), if_pos (by omega), if_pos (by omega), rdl_at a i ha, if_pos (by omega), rd_at _ j hlt, top_at f1 hf, wrap_up j (by omega)]
      rfl
    by_cases hx : rng f1 a[i][j] = true
    · simp only [rng, Bool.and_eq_true, decide_eq_true_eq] at hx
      have hw : wrap64 (s + a[i][j]) = s + a[i][j] := by unfold wrap64; omega
      refine (ih (j + 1) (s + a[i][j]) (by omega) (by omega) (by omega) ?_ ?_).step fun k => by rw [e0, if_neg (by omega), if_neg (by omega), hw]
      · rw [List.take_succ_eq_append_getElem hlt, List.all_append, h2]
        simp [rng, hx.1, hx.2]
      · rw [List.take_succ_eq_append_getElem hlt, List.any_append]
        simp only [List.any_cons, List.any_nil, Bool.or_false, Bool.or_eq_false_iff, decide_eq_false_iff_not]
        rw [← h3]
        omega
    · have hres : res = 1 := hb (by
        rw [show a[i].all (rng f1) = false from by
          rw [List.all_eq_false]
          exact ⟨_, List.getElem_mem hlt, hx⟩, Bool.false_and])
      subst hres
      simp only [rng, Bool.and_eq_true, decide_eq_true_eq] at hx
      refine EvR.one fun k => ?_
      rw [e0]
      by_cases hn : a[i][j] < 0
      · rw [if_pos hn]
      · rw [if_neg hn, if_pos (by omega)]

theorem rowOk_eq (r : List Int) : Sp.rowOk f1 d1 r = (decide ((r.length : Int) = d1) && (r.all (rng f1) && r.any (fun x => decide (0 < x)))) := by
  unfold Sp.rowOk rng
  rw [Bool.and_assoc]

theorem check_l0 (hf : f1 = 8 ∨ f1 = 16) (hd : d1 ≤ 31) (hm : a.length ≤ 4611686018427387904) :
    ∀ (d i : Nat), i + d = a.length → EvR (fun k => solventref07_Check.l0 k W (i : Int) n1 f1 d1 a m1) (if (a.drop i).all (Sp.rowOk f1 d1) = true then (if m1 < 1 ∨ W < m1 then 1 else 0) else 1) := by
  intro d
  induction d with
  | zero =>
    intro i hi
    rw [List.drop_eq_nil_of_le (by omega), if_pos (show ([] : List (List Int)).all (Sp.rowOk f1 d1) = true from rfl)]
    refine EvR.one fun k => ?_
    simp only [solventref07_Check.l0]
    rw [if_neg (by omega)]
    by_cases h1 : m1 < 1
    · rw [if_pos h1, if_pos (.inl h1)]
    · by_cases h2 : W < m1
      · rw [if_neg h1, if_pos (by omega), if_pos (.inr h2)]
      · rw [if_neg h1, if_neg (by omega), if_neg (by omega)]
  | succ d ih =>
    intro i hi
    have ha : i < a.length := by omega
    have e0 : ∀ k, solventref07_Check.l0 (k + 1) W (i : Int) n1 f1 d1 a m1 = if (a[i].length : Int) = d1 then solventref07_Check.l1 k W (i : Int) 0 0 n1 f1 d1 a m1 else some 1 := by
      intro k
      simp only [solventref07_Check.l0]
      rw [if_pos (by omega), if_pos (by omega), rdl_at a i ha]
    rw [List.drop_eq_getElem_cons ha, List.all_cons, rowOk_eq]
    by_cases hl : (a[i].length : Int) = d1
    · rw [decide_eq_true hl, Bool.true_and]
      refine EvR.step (check_l1 W n1 f1 d1 a m1 hf _ i ha hl hd (by omega) (fun h => ?_) (fun h => ?_) a[i].length 0 0 (by omega) (by omega) (by omega) (by simp) (by simp)) (fun k => by rw [e0, if_pos hl]; rfl)
      · rw [h, Bool.true_and]
        exact ih (i + 1) (by omega)
      · rw [h, Bool.false_and, if_neg (by decide)]
    · rw [decide_eq_false hl, Bool.false_and, Bool.false_and, if_neg (by decide)]
      exact EvR.one fun k => by rw [e0, if_neg hl]
end

theorem check_ev (n1 : ByteArray) (f1 d1 : Int) (a : List (List Int)) (m1 : Int) (hn : n1.size ≤ 4611686018427387904) (hm : a.length ≤ 4611686018427387904) (hd1 : -9223372036854775808 ≤ d1) (hd2 : d1 ≤ 9223372036854775807) :
    EvR (fun k => solventref07_Check.f k n1 f1 d1 a m1) ((Sp.ck n1.data.toList f1 d1 a m1 : Nat) : Int) := by
  unfold solventref07_Check.f
  refine EvR.bind (word_ev n1 hn) ?_
  have hN : n1.data.toList.length = n1.size := rfl
  unfold Sp.ck
  cases hw : Sp.wd n1.data.toList with
  | false => simp only [if_true]; exact EvR.one fun k => rfl
  | true =>
    simp only [if_true]
    rw [if_neg (show ¬ (true = false) by decide)]
    by_cases h12 : 12 < n1.size
    · rw [if_pos (by omega)]
      exact EvR.one fun k => by rw [if_pos (by omega)]; rfl
    · rw [if_neg (by omega)]
      have hJ : ∀ k, (if (n1.size : Int) > 12 then some 2 else if f1 = 8 then solventref07_Check.j0 k (wrap64 (d1 + (a.length : Int))) false n1 f1 d1 a m1 else solventref07_Check.j0 k (wrap64 (d1 + (a.length : Int))) (f1 != 16) n1 f1 d1 a m1) =
          solventref07_Check.j0 k (wrap64 (d1 + (a.length : Int))) (!(decide (f1 = 8 ∨ f1 = 16))) n1 f1 d1 a m1 := by
        intro k
        rw [if_neg (by omega)]
        by_cases h8 : f1 = 8
        · rw [if_pos h8, decide_eq_true (.inl h8)]; rfl
        · rw [if_neg h8]
          congr 1
          by_cases h16 : f1 = 16
          · subst h16; rfl
          · rw [decide_eq_false (fun h => h.elim h8 h16)]
            simp [h16]
      refine EvR.same ?_ hJ
      by_cases hf : f1 = 8 ∨ f1 = 16
      · rw [decide_eq_true hf]
        by_cases hd : d1 < 1
        · rw [if_pos (.inr (.inl hd))]
          refine EvR.step (G := fun k => solventref07_Check.j1 k (wrap64 (d1 + (a.length : Int))) true n1 f1 d1 a m1) (EvR.one fun k => rfl) fun k => ?_
          simp only [solventref07_Check.j0]
          rw [if_neg (by decide), if_pos hd]
        · by_cases hd31 : 31 < d1
          · rw [if_pos (.inr (.inr (.inl hd31)))]
            refine EvR.step (G := fun k => solventref07_Check.j1 k (wrap64 (d1 + (a.length : Int))) true n1 f1 d1 a m1) (EvR.one fun k => rfl) fun k => ?_
            simp only [solventref07_Check.j0]
            rw [if_neg (by decide), if_neg hd, if_pos (by omega)]
          · have e1 : ∀ k, solventref07_Check.j0 (k + 1) (wrap64 (d1 + (a.length : Int))) (!true) n1 f1 d1 a m1 = solventref07_Check.j1 k (wrap64 (d1 + (a.length : Int))) ((a.length : Int) == 0) n1 f1 d1 a m1 := by
              intro k
              simp only [solventref07_Check.j0]
              rw [if_neg (by decide), if_neg hd, if_neg (by omega)]
            by_cases ha : a = []
            · rw [if_pos (.inr (.inr (.inr ha)))]
              refine EvR.step (EvR.one fun k => ?_) e1
              subst ha; rfl
            · have hal : a.length ≠ 0 := fun h => ha (List.eq_nil_of_length_eq_zero h)
              rw [if_neg (fun hh => hh.elim (fun h => h hf) (fun h => h.elim hd (fun h => h.elim hd31 ha)))]
              have hw2 : wrap64 (d1 + (a.length : Int)) = d1 + (a.length : Int) := by unfold wrap64; omega
              rw [hw2] at e1 ⊢
              have e2 : ∀ k, solventref07_Check.j1 (k + 1) (d1 + (a.length : Int)) ((a.length : Int) == 0) n1 f1 d1 a m1 = if d1 + (a.length : Int) > 32 then some 2 else solventref07_Check.l0 k (d1 + (a.length : Int)) 0 n1 f1 d1 a m1 := by
                intro k
                simp only [solventref07_Check.j1]
                rw [if_neg (by simp; exact ha)]
              by_cases h32 : 32 < d1 + (a.length : Int)
              · rw [if_pos h32]
                exact EvR.step (EvR.one fun k => by rw [e2, if_pos (by omega)]; rfl) e1
              · rw [if_neg h32]
                refine EvR.step (EvR.step (G := fun k => solventref07_Check.l0 k (d1 + (a.length : Int)) ((0 : Nat) : Int) n1 f1 d1 a m1) ?_ (fun k => by rw [e2, if_neg (by omega)]; rfl)) e1
                have h := check_l0 (d1 + (a.length : Int)) n1 f1 d1 a m1 hf (by omega) hm a.length 0 (by omega)
                rw [List.drop_zero] at h
                cases hall : a.all (Sp.rowOk f1 d1) with
                | false => rw [hall] at h; simpa using h
                | true =>
                  rw [hall] at h
                  rw [if_neg (by decide)]
                  by_cases hmm : m1 < 1 ∨ d1 + (a.length : Int) < m1
                  · rw [if_pos hmm]; rw [if_pos rfl, if_pos hmm] at h; exact h
                  · rw [if_neg hmm]; rw [if_pos rfl, if_neg hmm] at h; exact h
      · rw [decide_eq_false hf, if_pos (.inl hf)]
        refine EvR.one fun k => ?_
        simp only [solventref07_Check.j0]
        rfl
end Go.Proofs.YtppeplonnippcaaDoor.Rf
