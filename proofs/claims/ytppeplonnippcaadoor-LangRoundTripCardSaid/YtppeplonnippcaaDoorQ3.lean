/-
Layer 7: a source that is a fine code is built as this code; the text of codes is parsed as these codes.
-/
import Derived.Test.YtppeplonnippcaaDoorQ2
set_option linter.unusedVariables false
set_option linter.unusedSimpArgs false
namespace Go.Proofs.YtppeplonnippcaaDoor.Sp

theorem badIdx_ok {data : Nat} {r : List Int} : ∀ {l : List Tok} {j : Nat} {last : Int}, l.map (·.n) = idxL j r → last < (j : Int) → j + r.length ≤ data → badIdx data last l = none := by
  induction r with
  | nil =>
    intro l j last h _ _
    have : l = [] := by simpa [idxL] using h
    subst this; rfl
  | cons a r ih =>
    intro l j last h hl hd
    simp only [List.length_cons] at hd
    simp only [idxL] at h
    split at h
    · cases l with
      | nil => simp at h
      | cons t l =>
        simp only [List.map_cons, List.cons.injEq] at h
        simp only [badIdx]
        rw [if_pos ⟨by omega, by omega⟩]
        exact ih h.2 (by omega) (by omega)
    · exact ih h (by omega) (by omega)
theorem badCoef_ok {top : Nat} {loc : Bool} {r : List Int} (h : ∀ x ∈ r, x ≤ (top : Int)) : ∀ {l : List Tok}, l.map (·.n) = coefL r → badCoef top loc l = none := by
  induction r with
  | nil =>
    intro l hl
    have : l = [] := by simpa [coefL] using hl
    subst this; rfl
  | cons a r ih =>
    intro l hl
    have ha := h a (List.mem_cons_self ..)
    simp only [coefL] at hl
    split at hl
    · rename_i h0
      cases l with
      | nil => simp at hl
      | cons t l =>
        simp only [List.map_cons, List.cons.injEq] at hl
        simp only [badCoef]
        rw [if_pos ⟨by omega, fun hh => by have := hh.2; omega⟩]
        exact ih (fun x hx => h x (List.mem_cons_of_mem _ hx)) hl.2
    · exact ih (fun x hx => h x (List.mem_cons_of_mem _ hx)) hl
theorem sum_coef {r : List Int} : ∀ {l : List Tok}, l.map (·.n) = coefL r → (∃ x ∈ r, 0 < x) → sumN l ≠ 0 := by
  induction r with
  | nil => intro l _ h; obtain ⟨x, hx, _⟩ := h; cases hx
  | cons a r ih =>
    intro l hl h
    simp only [coefL] at hl
    split at hl
    · rename_i h0
      cases l with
      | nil => simp at hl
      | cons t l =>
        simp only [List.map_cons, List.cons.injEq] at hl
        simp only [sumN, List.map_cons, List.sum_cons]; omega
    · rename_i h0
      obtain ⟨x, hx, hx0⟩ := h
      rcases List.mem_cons.1 hx with rfl | hx
      · exact absurd hx0 h0
      · exact ih hl ⟨x, hx, hx0⟩
theorem fill_par : ∀ (r : List Int) (l idx : List Tok) (pre : List Int), (∀ x ∈ r, 0 < x) → l.map (·.n) = coefL r → fillR false idx pre.length (pre ++ List.replicate r.length 0) l = pre ++ r := by
  intro r
  induction r with
  | nil =>
    intro l idx pre _ hl
    have : l = [] := by simpa [coefL] using hl
    subst this; simp [fillR]
  | cons a r ih =>
    intro l idx pre hp hl
    have ha := hp a (List.mem_cons_self ..)
    simp only [coefL, ha, if_true] at hl
    cases l with
    | nil => simp at hl
    | cons t l =>
      simp only [List.map_cons, List.cons.injEq] at hl
      simp only [fillR, Bool.false_eq_true, if_false, List.length_cons, List.replicate_succ]
      have hs : (pre ++ (0 : Int) :: List.replicate r.length 0).set pre.length (t.n : Int) = (pre ++ [a]) ++ List.replicate r.length 0 := by
        rw [List.set_append_right _ _ (Nat.le_refl _), Nat.sub_self]
        simp only [List.set_cons_zero, List.append_assoc, List.cons_append, List.nil_append]
        rw [hl.1, Int.toNat_of_nonneg (by omega)]
      rw [hs, show pre.length + 1 = (pre ++ [a]).length from by simp]
      rw [ih l idx (pre ++ [a]) (fun x hx => hp x (List.mem_cons_of_mem _ hx)) hl.2, List.append_assoc]; rfl
theorem fill_loc : ∀ (r : List Int) (l is ip : List Tok) (pre : List Int), (∀ x ∈ r, 0 ≤ x) → l.map (·.n) = coefL r → is.map (·.n) = idxL pre.length r →
    fillR true (ip ++ is) ip.length (pre ++ List.replicate r.length 0) l = pre ++ r := by
  intro r
  induction r with
  | nil =>
    intro l is ip pre _ hl _
    have : l = [] := by simpa [coefL] using hl
    subst this; simp [fillR]
  | cons a r ih =>
    intro l is ip pre hp hl hi
    have ha := hp a (List.mem_cons_self ..)
    simp only [coefL] at hl
    simp only [idxL] at hi
    by_cases h0 : 0 < a
    · rw [if_pos h0] at hl hi
      cases l with
      | nil => simp at hl
      | cons t l =>
        cases is with
        | nil => simp at hi
        | cons u is =>
          simp only [List.map_cons, List.cons.injEq] at hl hi
          simp only [fillR, if_true, List.length_cons, List.replicate_succ]
          have hg : ((ip ++ u :: is)[ip.length]?).getD ⟨0, 0, [], 0⟩ = u := by simp
          rw [hg, hi.1]
          have hs : (pre ++ (0 : Int) :: List.replicate r.length 0).set pre.length (t.n : Int) = (pre ++ [a]) ++ List.replicate r.length 0 := by
            rw [List.set_append_right _ _ (Nat.le_refl _), Nat.sub_self]
            simp only [List.set_cons_zero, List.append_assoc, List.cons_append, List.nil_append]
            rw [hl.1, Int.toNat_of_nonneg (by omega)]
          rw [hs, show ip ++ u :: is = (ip ++ [u]) ++ is from by simp, show ip.length + 1 = (ip ++ [u]).length from by simp]
          rw [ih l is (ip ++ [u]) (pre ++ [a]) (fun x hx => hp x (List.mem_cons_of_mem _ hx)) hl.2 (by rw [List.length_append]; exact hi.2), List.append_assoc]; rfl
    · rw [if_neg h0] at hl hi
      have : a = 0 := by omega
      subst this
      rw [List.length_cons, List.replicate_succ, show pre ++ (0 : Int) :: List.replicate r.length 0 = (pre ++ [0]) ++ List.replicate r.length 0 from by simp]
      rw [ih l is ip (pre ++ [0]) (fun x hx => hp x (List.mem_cons_of_mem _ hx)) hl (by rw [List.length_append]; exact hi), List.append_assoc]; rfl

theorem coef_all {r : List Int} (h : ∀ x ∈ r, 0 < x) : (coefL r).length = r.length := by
  induction r with
  | nil => rfl
  | cons a r ih => simp only [coefL, h a (List.mem_cons_self ..), if_true, List.length_cons, ih fun x hx => h x (List.mem_cons_of_mem _ hx)]
theorem bldRow_yes {x : Row} {r : List Int} {d top : Nat} (h : RowIs x r) (hl : r.length = d) (h0 : ∀ y ∈ r, 0 ≤ y ∧ y ≤ (top : Int)) (hp : ∃ y ∈ r, 0 < y) : bldRow x d top = .ok r := by
  unfold bldRow
  have hi := h.idx; have hc := h.coef; have hloc := h.loc
  have hbc : badCoef top x.loc x.coef = none := badCoef_ok (fun y hy => (h0 y hy).2) hc
  have hsum := sum_coef hc hp
  by_cases hz : (0 : Int) ∈ r
  · rw [if_pos hz] at hi
    rw [decide_eq_true hz] at hloc
    have hbi : badIdx d (-1) x.idx = none := badIdx_ok (j := 0) hi (by omega) (by omega)
    have hlen : x.coef.length = x.idx.length := by
      have e1 := congrArg List.length hc; have e2 := congrArg List.length hi
      simp only [List.length_map] at e1 e2
      rw [e1, e2, idx_coef_len]
    rw [hbi]
    simp only
    rw [if_neg (by rw [hloc, if_pos rfl]; omega), hbc]
    simp only
    rw [if_neg hsum, hloc]
    have := fill_loc r x.coef x.idx [] [] (fun y hy => (h0 y hy).1) hc hi
    simp only [List.nil_append, List.length_nil, hl] at this
    rw [this]
  · rw [if_neg hz] at hi
    rw [decide_eq_false hz] at hloc
    have hpos : ∀ y ∈ r, 0 < y := fun y hy => by
      have := (h0 y hy).1
      rcases Int.lt_or_le 0 y with h' | h'
      · exact h'
      · exact absurd (show (0 : Int) ∈ r by rw [show (0 : Int) = y by omega]; exact hy) hz
    have hidx : x.idx = [] := by simpa using hi
    have hlen : x.coef.length = d := by
      have e1 := congrArg List.length hc
      rw [List.length_map, coef_all hpos] at e1
      omega
    rw [hidx]
    simp only [badIdx]
    rw [if_neg (by rw [hloc]; simp [hlen]), hbc]
    simp only
    rw [if_neg hsum, hloc]
    have := fill_par r x.coef [] [] hpos hc
    simp only [List.nil_append, List.length_nil, hl] at this
    rw [this]
theorem bldRows_yes {d top : Nat} {rows : List (List Int)} : ∀ {xs : List Row} {acc : List (List Int)}, RowsAre xs rows → (∀ r ∈ rows, r.length = d ∧ (∀ y ∈ r, 0 ≤ y ∧ y ≤ (top : Int)) ∧ ∃ y ∈ r, 0 < y) →
    d + acc.length + rows.length ≤ 32 → bldRows d top acc xs = .ok (acc ++ rows) := by
  induction rows with
  | nil =>
    intro xs acc h _ _
    cases xs with
    | nil => simp [bldRows]
    | cons x xs => exact absurd h (by simp [RowsAre])
  | cons r rows ih =>
    intro xs acc h hr hw
    cases xs with
    | nil => exact absurd h (by simp [RowsAre])
    | cons x xs =>
      obtain ⟨h1, h2⟩ := h
      obtain ⟨e1, e2, e3⟩ := hr r (List.mem_cons_self ..)
      simp only [List.length_cons] at hw
      simp only [bldRows]
      rw [if_pos (by omega), bldRow_yes h1 e1 e2 e3]
      simp only
      rw [ih h2 (fun r hr' => hr r (List.mem_cons_of_mem _ hr')) (by rw [List.length_append]; simp; omega), List.append_assoc]; rfl

theorem topOf_int (f : Nat) (h : f = 8 ∨ f = 16) : (topOf f : Int) = 2 ^ (f : Int).toNat - 1 := by rcases h with rfl | rfl <;> rfl
theorem bld_yes {s : Src} {name : List UInt8} {f d : Nat} {rows : List (List Int)} {m : Nat} (h : SrcIs s name f d rows m) (hf : Fine name f d rows m) : bld s = .ok ⟨name, f, d, rows, m⟩ := by
  have hfi : f = 8 ∨ f = 16 := by have := hf.fi; omega
  have h1 := hf.len; have h2 := hf.d1; have h3 := hf.d31; have h4 := hf.width; have h5 := hf.m1; have h6 := hf.mw
  obtain ⟨t, hd, hn⟩ := h.dom
  unfold bld
  rw [h.name, h.field, h.data, if_neg (by omega), if_neg (by omega), if_neg (by omega)]
  rw [bldRows_yes h.rows (fun r hr => by
    obtain ⟨e1, e2, e3⟩ := rowOk_facts (hf.each r hr)
    exact ⟨by omega, fun y hy => ⟨(e2 y hy).1, by rw [topOf_int f hfi]; exact (e2 y hy).2⟩, e3⟩) (by simp; omega)]
  simp only [List.nil_append]
  unfold bldDom
  rw [hd]
  simp only
  rw [if_pos (by omega), hn]
end Go.Proofs.YtppeplonnippcaaDoor.Sp
