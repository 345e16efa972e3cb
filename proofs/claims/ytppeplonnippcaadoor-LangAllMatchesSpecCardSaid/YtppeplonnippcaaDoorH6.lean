/-
Layer 7: the reference's parser: what bounds its answers have (no program in sight).
-/
import Derived.Test.YtppeplonnippcaaDoorH0
set_option linter.unusedVariables false
set_option linter.unusedSimpArgs false
namespace Go.Proofs.YtppeplonnippcaaDoor.Rp
open Go.Proofs.YtppeplonnippcaaDoor.Sp

structure LineF (n : Nat) (x : Line) : Prop where
  a : x.a.length ≤ n + 1
  b : x.b.length ≤ n + 1
  ne : x.a ≠ []
theorem nums_f (L : List Tok) (s : St) : (nums L s).1.length ≤ L.length + 1 ∧ (nums L s).1 ≠ [] := by
  refine ⟨?_, by simp [nums]⟩
  simp only [nums, List.length_cons]
  unfold more
  split
  · have := takeWhile_le isN (L.drop (kind L 2 s).i)
    simp only [List.length_drop] at this
    omega
  · simp
theorem one_f (L : List Tok) (key : List UInt8) (s : St) : LineF L.length (one L key s).1 := ⟨by simp [one], by simp [one], by simp [one]⟩
theorem row_f (L : List Tok) (s : St) : LineF L.length (row L s).1 := by
  unfold row
  split
  · exact ⟨(nums_f _ _).1, (nums_f _ _).1, (nums_f _ _).2⟩
  · exact ⟨(nums_f _ _).1, by simp, (nums_f _ _).2⟩
theorem rows_f (L : List Tok) : ∀ (k : Nat) (f : Bool) (s : St) (acc : List Line), (∀ x ∈ acc, LineF L.length x) → (∀ x ∈ (rows L k f s acc).1, LineF L.length x) ∧ (rows L k f s acc).1.length ≤ acc.length + k := by
  intro k
  induction k with
  | zero => intro f s acc h; exact ⟨h, by simp [rows]⟩
  | succ k ih =>
    intro f s acc h
    simp only [rows]
    split
    · have := ih false (row L s).2 (acc ++ [(row L s).1]) (fun x hx => by
        rcases List.mem_append.1 hx with hx | hx
        · exact h x hx
        · rw [List.mem_singleton.1 hx]; exact row_f L s)
      refine ⟨this.1, ?_⟩
      have h2 := this.2
      simp only [List.length_append, List.length_singleton] at h2
      omega
    · exact ⟨h, by simp⟩
theorem tail_f (L : List Tok) (r : List Line × St) (h : ∀ x ∈ r.1, LineF L.length x) : (∀ x ∈ (tail L r).1, LineF L.length x) ∧ (tail L r).1.length ≤ r.1.length + 1 := by
  unfold tail
  split
  · refine ⟨fun x hx => ?_, by simp⟩
    rcases List.mem_append.1 hx with hx | hx
    · exact h x hx
    · rw [List.mem_singleton.1 hx]; exact one_f L _ _
  · exact ⟨h, by omega⟩
structure SrcF (n m : Nat) (x : Src) : Prop where
  name : x.name.txt.length ≤ m
  len : x.lines.length ≤ n + 5
  each : ∀ y ∈ x.lines, LineF n y
theorem code_f {L : List Tok} {m : Nat} (hm : ∀ t ∈ L, t.txt.length ≤ m) (s : St) : SrcF L.length m (code L s).1 := by
  have h2 : ∀ x ∈ twoL L s, LineF L.length x := by
    intro x hx
    unfold twoL at hx
    rcases List.mem_cons.1 hx with rfl | hx
    · exact one_f _ _ _
    · rw [List.mem_singleton.1 hx]; exact one_f _ _ _
  have h3 := rows_f L (L.length + 1) true (twoS L s) (twoL L s) h2
  have h4 := tail_f L _ h3.1
  have h5 : (twoL L s).length = 2 := rfl
  refine ⟨?_, ?_, h4.1⟩
  · show (tk L (must L kCode s).i).txt.length ≤ m
    unfold tk
    cases h : L[(must L kCode s).i]? with
    | none => simp
    | some t => exact hm t (List.mem_of_getElem? h)
  · show (tail L _).1.length ≤ _
    have := h4.2; have := h3.2
    omega

/-- the state keeps to the tokens -/
def StOk (L : List Tok) (s : St) : Prop := s.i < L.length ∧ (s.bad = -1 ∨ 0 ≤ s.bad)
theorem must_ok {L : List Tok} (h : LOk L) {t : List UInt8} {s : St} (hs : StOk L s) : StOk L (must L t s) := by
  unfold must
  split
  · rename_i hT
    simp only [isT, Bool.and_eq_true, Bool.or_eq_true, decide_eq_true_eq] at hT
    exact ⟨h.last s.i hs.1 (by omega), hs.2⟩
  · unfold fail
    split
    · exact ⟨hs.1, .inr (by simp)⟩
    · exact hs
theorem allS_f {L : List Tok} {m : Nat} (hm : ∀ t ∈ L, t.txt.length ≤ m) : ∀ (k : Nat) (s : St) (acc : List Src), (∀ x ∈ acc, SrcF L.length m x) → (∀ x ∈ (allS L k s acc).1, SrcF L.length m x) ∧ (allS L k s acc).1.length ≤ acc.length + k := by
  intro k
  induction k with
  | zero => intro s acc h; exact ⟨h, by simp [allS]⟩
  | succ k ih =>
    intro s acc h
    simp only [allS]
    split
    · have := ih (code L s).2 (acc ++ [(code L s).1]) (fun x hx => by
        rcases List.mem_append.1 hx with hx | hx
        · exact h x hx
        · rw [List.mem_singleton.1 hx]; exact code_f hm s)
      refine ⟨this.1, ?_⟩
      have h2 := this.2
      simp only [List.length_append, List.length_singleton] at h2
      omega
    · exact ⟨h, by simp⟩
theorem code_next {L : List Tok} (h : LOk L) {i : Nat} (hi : i < L.length) :
    (code L ⟨i, -1⟩).2.i < L.length ∧ ((0 ≤ (code L ⟨i, -1⟩).2.bad) ∨ ((code L ⟨i, -1⟩).2.bad = -1 ∧ i < (code L ⟨i, -1⟩).2.i)) := by
  have hs := code_sim h hi
  rcases e : pCode (L.drop i) with p | ⟨x, t⟩
  · rw [e] at hs
    obtain ⟨j, h1, hj⟩ := hs
    rw [h1]; exact ⟨hj, .inl (by simp)⟩
  · rw [e] at hs
    obtain ⟨j, rfl, h1, hij, hj, _⟩ := hs
    rw [h1]; exact ⟨hj, .inr ⟨rfl, by simp only; omega⟩⟩
theorem toks_txt {m : Nat} {l : List UInt8} (h : l.length ≤ m) : ∀ t ∈ toks 0 l, t.txt.length ≤ m := fun t ht => Nat.le_trans ((toks_G _ l 0 rfl).1 t ht).len h
end Go.Proofs.YtppeplonnippcaaDoor.Rp
