/-
Layer 7: the reference's parser as plain functions on its tokens (no program in sight), and that it answers as the parser over tokens.
-/
import Derived.Test.YtppeplonnippcaaDoorS
set_option linter.unusedVariables false
set_option linter.unusedSimpArgs false
namespace Go.Proofs.YtppeplonnippcaaDoor.Rp
open Go.Proofs.YtppeplonnippcaaDoor.Sp

/-- the place in the tokens, and the offset of a syntax error, or -1 -/
structure St where
  i : Nat
  bad : Int

def tk (L : List Tok) (i : Nat) : Tok := (L[i]?).getD ⟨0, 4, [], 0⟩
def isT (L : List Tok) (t : List UInt8) (s : St) : Bool := decide (s.bad < 0) && (decide ((tk L s.i).kind = 1) || decide ((tk L s.i).kind = 3)) && decide ((tk L s.i).txt = t)
def fail (L : List Tok) (s : St) : St := if s.bad < 0 then ⟨s.i, (tk L s.i).at_⟩ else s
def must (L : List Tok) (t : List UInt8) (s : St) : St := if isT L t s = true then ⟨s.i + 1, s.bad⟩ else fail L s
def kind (L : List Tok) (k : Nat) (s : St) : St := if s.bad < 0 ∧ (tk L s.i).kind = k then ⟨s.i + 1, s.bad⟩ else fail L s
def more (L : List Tok) (s : St) : List Tok := if s.bad < 0 then (L.drop s.i).takeWhile isN else []
def nums (L : List Tok) (s : St) : List Tok × St :=
  (tk L s.i :: more L (kind L 2 s), ⟨(kind L 2 s).i + (more L (kind L 2 s)).length, (kind L 2 s).bad⟩)

structure Line where
  key : Tok
  a : List Tok
  b : List Tok

def one (L : List Tok) (key : List UInt8) (s : St) : Line × St :=
  (⟨tk L s.i, [tk L (must L key s).i], []⟩, must L kSemi (kind L 2 (must L key s)))
def row (L : List Tok) (s : St) : Line × St :=
  if isT L kLocal s = true then
    (⟨tk L s.i, (nums L (must L kLocal s)).1, (nums L (must L kColon (nums L (must L kLocal s)).2)).1⟩,
      must L kSemi (nums L (must L kColon (nums L (must L kLocal s)).2)).2)
  else (⟨tk L s.i, (nums L (must L kParity s)).1, []⟩, must L kSemi (nums L (must L kParity s)).2)
def goes (L : List Tok) (first : Bool) (s : St) : Bool := decide (s.bad < 0) && (first || isT L kParity s || isT L kLocal s)
def rows (L : List Tok) : Nat → Bool → St → List Line → List Line × St
  | 0, _, s, acc => (acc, s)
  | k + 1, first, s, acc => if goes L first s = true then rows L k false (row L s).2 (acc ++ [(row L s).1]) else (acc, s)
structure Src where
  name : Tok
  lines : List Line
def tail (L : List Tok) (r : List Line × St) : List Line × St :=
  if isT L kDomain r.2 = true then (r.1 ++ [(one L kDomain r.2).1], (one L kDomain r.2).2) else r
def head (L : List Tok) (s : St) : St := must L kOpen (kind L 1 (must L kCode s))
def twoL (L : List Tok) (s : St) : List Line := [(one L kField (head L s)).1, (one L kData (one L kField (head L s)).2).1]
def twoS (L : List Tok) (s : St) : St := (one L kData (one L kField (head L s)).2).2
def code (L : List Tok) (s : St) : Src × St :=
  (⟨tk L (must L kCode s).i, (tail L (rows L (L.length + 1) true (twoS L s) (twoL L s))).1⟩,
    must L kShut (tail L (rows L (L.length + 1) true (twoS L s) (twoL L s))).2)

/-- the tokens of a text -/
def TkOk (t : Tok) : Prop := t.kind = 1 ∨ t.kind = 3 ∨ t.txt = [] ∨ ∃ c r, t.txt = c :: r ∧ isD c = true
structure LOk (L : List Tok) : Prop where
  each : ∀ t ∈ L, TkOk t
  last : ∀ i, i < L.length → (tk L i).kind ≤ 3 → i + 1 < L.length
  n2 : ∀ t ∈ L, t.kind = 2 → t.n ≤ 99999
  ne : 0 < L.length

theorem tk_hd (L : List Tok) (i : Nat) : tk L i = hd (L.drop i) := by
  unfold tk hd
  induction L generalizing i with
  | nil => simp
  | cons a l ih =>
    cases i with
    | zero => rfl
    | succ n => exact ih n
theorem tk_get {L : List Tok} {i : Nat} (h : i < L.length) : tk L i = L[i] := by simp [tk, h]
theorem drop_tail (L : List Tok) (i : Nat) : (L.drop i).tail = L.drop (i + 1) := by simp

/-- a word or sign, not a number -/
def Wd (t : List UInt8) : Prop := ∃ c r, t = c :: r ∧ isD c = false
theorem isT_iff {L : List Tok} (h : LOk L) {t : List UInt8} (ht : Wd t) {i : Nat} {b : Int} (hb : b < 0) (hi : i < L.length) : isT L t ⟨i, b⟩ = true ↔ (tk L i).txt = t := by
  simp only [isT, Bool.and_eq_true, Bool.or_eq_true, decide_eq_true_eq]
  constructor
  · exact fun hh => hh.2
  · intro e
    refine ⟨⟨hb, ?_⟩, e⟩
    rcases h.each (tk L i) (by rw [tk_get hi]; exact List.getElem_mem hi) with k | k | k | ⟨c, r, k1, k2⟩
    · exact .inl k
    · exact .inr k
    · obtain ⟨c, r, rfl, _⟩ := ht; rw [e] at k; cases k
    · obtain ⟨c', r', rfl, h2⟩ := ht
      rw [e] at k1
      injection k1 with k1 _
      subst k1
      rw [h2] at k2; cases k2
theorem isT_bad {L : List Tok} {t : List UInt8} {s : St} (h : ¬ s.bad < 0) : isT L t s = false := by simp [isT, h]
theorem fail_bad {L : List Tok} {s : St} (h : ¬ s.bad < 0) : fail L s = s := by simp [fail, h]
theorem must_bad {L : List Tok} {t : List UInt8} {s : St} (h : ¬ s.bad < 0) : must L t s = s := by simp [must, isT_bad h, fail_bad h]
theorem kind_bad {L : List Tok} {k : Nat} {s : St} (h : ¬ s.bad < 0) : kind L k s = s := by simp [kind, h, fail_bad h]
theorem nums_bad {L : List Tok} {s : St} (h : ¬ s.bad < 0) : (nums L s).2 = s := by simp [nums, kind_bad h, more, h]
theorem one_bad {L : List Tok} {key : List UInt8} {s : St} (h : ¬ s.bad < 0) : (one L key s).2 = s := by simp [one, must_bad h, kind_bad h]
theorem rows_bad {L : List Tok} {k : Nat} {f : Bool} {s : St} {acc : List Line} (h : ¬ s.bad < 0) : rows L k f s acc = (acc, s) := by
  cases k <;> simp [rows, goes, h]
theorem tail_bad {L : List Tok} {r : List Line × St} (h : ¬ r.2.bad < 0) : tail L r = r := by simp [tail, isT_bad h]

theorem le_of_drop {L : List Tok} {i : Nat} (hi : i < L.length) : L.drop i ≠ [] := by simp; omega

theorem nb (q : Nat) : ¬ ((q : Int) < 0) := by omega
/-- a step of the parser: by the specification, and by the reference -/
def Sim {α : Type} (L : List Tok) (i : Nat) (res : Except Nat (α × List Tok)) (s : St) (R : α → Prop) : Prop :=
  match res with
  | .error q => ∃ j, s = ⟨j, q⟩ ∧ j < L.length
  | .ok (a, ts') => ∃ j, ts' = L.drop j ∧ s = ⟨j, -1⟩ ∧ i ≤ j ∧ j < L.length ∧ R a

theorem must_sim {L : List Tok} (h : LOk L) {t : List UInt8} (ht : Wd t) {i : Nat} (hi : i < L.length) : Sim L i (pTok t (L.drop i)) (must L t ⟨i, -1⟩) (fun a => a = tk L i) := by
  unfold pTok
  rw [← tk_hd]
  by_cases e : (tk L i).txt = t
  · rw [if_pos e]
    have hT := (isT_iff h ht (b := -1) (by decide) hi).2 e
    have hk : (tk L i).kind ≤ 3 := by
      simp only [isT, Bool.and_eq_true, Bool.or_eq_true, decide_eq_true_eq] at hT
      omega
    exact ⟨i + 1, drop_tail L i, by simp [must, hT], by omega, h.last i hi hk, rfl⟩
  · rw [if_neg e]
    have hT : ¬ isT L t ⟨i, -1⟩ = true := fun hh => e ((isT_iff h ht (b := -1) (by decide) hi).1 hh)
    exact ⟨i, by simp [must, hT, fail], hi⟩
theorem kind_sim {L : List Tok} (h : LOk L) {k : Nat} (hk3 : k ≤ 3) {i : Nat} (hi : i < L.length) : Sim L i (pKind k (L.drop i)) (kind L k ⟨i, -1⟩) (fun a => a = tk L i) := by
  unfold pKind
  rw [← tk_hd]
  by_cases e : (tk L i).kind = k
  · rw [if_pos e]
    exact ⟨i + 1, drop_tail L i, by simp [kind, e], by omega, h.last i hi (by omega), rfl⟩
  · rw [if_neg e]
    exact ⟨i, by simp [kind, e, fail], hi⟩
theorem drop_tw (L : List Tok) (i : Nat) : (L.drop i).dropWhile isN = L.drop (i + ((L.drop i).takeWhile isN).length) := by
  rw [← List.drop_drop]
  generalize L.drop i = l
  induction l with
  | nil => rfl
  | cons a l ih => simp only [List.dropWhile_cons, List.takeWhile_cons]; split <;> simp [ih]
theorem more_lt {L : List Tok} (h : LOk L) : ∀ (n i : Nat), L.length - i = n → i < L.length → i + ((L.drop i).takeWhile isN).length < L.length := by
  intro n
  induction n with
  | zero => intro i h1 h2; omega
  | succ n ih =>
    intro i h1 hi
    rw [List.drop_eq_getElem_cons hi, List.takeWhile_cons]
    split
    · rename_i hn
      have h2 := h.last i hi (by rw [tk_get hi]; simp only [isN, decide_eq_true_eq] at hn; omega)
      have := ih (i + 1) (by omega) h2
      simp only [List.length_cons]; omega
    · simpa using hi
theorem nums_sim {L : List Tok} (h : LOk L) {i : Nat} (hi : i < L.length) : Sim L i (pNums (L.drop i)) (nums L ⟨i, -1⟩).2 (fun a => a = (nums L ⟨i, -1⟩).1) := by
  unfold pNums
  rw [← tk_hd]
  by_cases e : (tk L i).kind = 2
  · rw [if_pos e]
    have h1 := h.last i hi (by omega)
    have hk : kind L 2 ⟨i, -1⟩ = ⟨i + 1, -1⟩ := by simp [kind, e]
    have ht : (L.drop i).takeWhile isN = tk L i :: (L.drop (i + 1)).takeWhile isN := by
      rw [List.drop_eq_getElem_cons hi, List.takeWhile_cons, if_pos (by rw [← tk_get hi]; simp [isN, e]), tk_get hi]
    refine ⟨i + 1 + ((L.drop (i + 1)).takeWhile isN).length, ?_, ?_, by omega, more_lt h _ _ rfl h1, ?_⟩
    · rw [drop_tw, ht, List.length_cons]; congr 1; omega
    · simp [nums, hk, more]
    · rw [ht]; simp [nums, hk, more]
  · rw [if_neg e]
    exact ⟨i, by simp [nums, kind, e, fail, more, nb], hi⟩

theorem wCode : Wd kCode := ⟨_, _, rfl, by decide⟩
theorem wField : Wd kField := ⟨_, _, rfl, by decide⟩
theorem wData : Wd kData := ⟨_, _, rfl, by decide⟩
theorem wDomain : Wd kDomain := ⟨_, _, rfl, by decide⟩
theorem wLocal : Wd kLocal := ⟨_, _, rfl, by decide⟩
theorem wParity : Wd kParity := ⟨_, _, rfl, by decide⟩
theorem wOpen : Wd kOpen := ⟨_, _, rfl, by decide⟩
theorem wShut : Wd kShut := ⟨_, _, rfl, by decide⟩
theorem wSemi : Wd kSemi := ⟨_, _, rfl, by decide⟩
theorem wColon : Wd kColon := ⟨_, _, rfl, by decide⟩


theorem one_sim {L : List Tok} (h : LOk L) {key : List UInt8} (hk : Wd key) {i : Nat} (hi : i < L.length) :
    Sim L i (pOne key (L.drop i)) (one L key ⟨i, -1⟩).2 (fun a => (one L key ⟨i, -1⟩).1 = ⟨tk L i, [a], []⟩ ∧ (tk L i).txt = key) := by
  unfold pOne
  have h1 := must_sim h hk hi
  have hT := isT_iff h hk (b := -1) (by decide) hi
  rcases e1 : pTok key (L.drop i) with q | ⟨a1, t1⟩
  · rw [e1] at h1
    obtain ⟨j, h1, hj⟩ := h1
    exact ⟨j, by simp only [one, h1, kind_bad (s := ⟨j, (q : Int)⟩) (nb q), must_bad (s := ⟨j, (q : Int)⟩) (nb q)], hj⟩
  · rw [e1] at h1
    obtain ⟨j, rfl, h1, hij, hj, rfl⟩ := h1
    have htx : (tk L i).txt = key := by
      unfold pTok at e1
      rw [← tk_hd] at e1
      split at e1
      · assumption
      · cases e1
    have h2 := kind_sim h (k := 2) (by decide) hj
    dsimp only
    rcases e2 : pKind 2 (L.drop j) with q | ⟨a2, t2⟩
    · rw [e2] at h2
      obtain ⟨j2, h2, hj2⟩ := h2
      exact ⟨j2, by simp only [one, h1, h2, must_bad (s := ⟨j2, (q : Int)⟩) (nb q)], hj2⟩
    · rw [e2] at h2
      obtain ⟨j2, rfl, h2, hij2, hj2, rfl⟩ := h2
      have h3 := must_sim h wSemi hj2
      dsimp only
      rcases e3 : pTok kSemi (L.drop j2) with q | ⟨a3, t3⟩
      · rw [e3] at h3
        obtain ⟨j3, h3, hj3⟩ := h3
        exact ⟨j3, by simp only [one, h1, h2, h3], hj3⟩
      · rw [e3] at h3
        obtain ⟨j3, rfl, h3, hij3, hj3, rfl⟩ := h3
        exact ⟨j3, rfl, by simp only [one, h1, h2, h3], by omega, hj3, by simp only [one, h1], htx⟩

/-- a row as a line -/
structure RowIs (x : Row) (l : Line) : Prop where
  at_ : l.key.at_ = x.at_
  key : l.key.txt = if x.loc = true then kLocal else kParity
  a : l.a = if x.loc = true then x.idx else x.coef
  b : l.b = if x.loc = true then x.coef else []
  i0 : x.loc = false → x.idx = []
  c0 : x.coef ≠ []

theorem pNums_ne {ts : List Tok} {a : List Tok} {t' : List Tok} (h : pNums ts = .ok (a, t')) : a ≠ [] := by
  unfold pNums at h
  split at h
  · rename_i hk
    simp only [Except.ok.injEq, Prod.mk.injEq] at h
    rw [← h.1]
    cases ts with
    | nil => simp [hd] at hk
    | cons a l => simp [List.takeWhile_cons, isN]; simpa [hd] using hk
  · cases h

theorem row_sim {L : List Tok} (h : LOk L) {i : Nat} (hi : i < L.length) :
    Sim L i (pRow (L.drop i)) (row L ⟨i, -1⟩).2 (fun a => RowIs a (row L ⟨i, -1⟩).1) := by
  unfold pRow
  rw [← tk_hd]
  have hT := isT_iff h wLocal (b := -1) (by decide) hi
  by_cases e0 : (tk L i).txt = kLocal
  · rw [if_pos e0]
    have hT := hT.2 e0
    have hk : (tk L i).kind ≤ 3 := by
      simp only [isT, Bool.and_eq_true, Bool.or_eq_true, decide_eq_true_eq] at hT
      omega
    have hi1 := h.last i hi hk
    have hm : must L kLocal ⟨i, -1⟩ = ⟨i + 1, -1⟩ := by simp [must, hT]
    have hr : row L ⟨i, -1⟩ = (⟨tk L i, (nums L ⟨i + 1, -1⟩).1, (nums L (must L kColon (nums L ⟨i + 1, -1⟩).2)).1⟩, must L kSemi (nums L (must L kColon (nums L ⟨i + 1, -1⟩).2)).2) := by
      unfold row; rw [if_pos hT, hm]
    rw [hr, drop_tail]
    dsimp only
    have h1 := nums_sim h hi1
    rcases e1 : pNums (L.drop (i + 1)) with q | ⟨a1, t1⟩
    · rw [e1] at h1
      obtain ⟨j, h1, hj⟩ := h1
      exact ⟨j, by simp only [h1, must_bad (s := ⟨j, (q : Int)⟩) (nb q), nums_bad (s := ⟨j, (q : Int)⟩) (nb q)], hj⟩
    · rw [e1] at h1
      obtain ⟨j, rfl, h1, hij, hj, hv1⟩ := h1
      rw [h1]
      dsimp only
      have h2 := must_sim h wColon hj
      rcases e2 : pTok kColon (L.drop j) with q | ⟨a2, t2⟩
      · rw [e2] at h2
        obtain ⟨j2, h2, hj2⟩ := h2
        exact ⟨j2, by simp only [h2, must_bad (s := ⟨j2, (q : Int)⟩) (nb q), nums_bad (s := ⟨j2, (q : Int)⟩) (nb q)], hj2⟩
      · rw [e2] at h2
        obtain ⟨j2, rfl, h2, hij2, hj2, rfl⟩ := h2
        rw [h2]
        dsimp only
        have h3 := nums_sim h hj2
        rcases e3 : pNums (L.drop j2) with q | ⟨a3, t3⟩
        · rw [e3] at h3
          obtain ⟨j3, h3, hj3⟩ := h3
          exact ⟨j3, by simp only [h3, must_bad (s := ⟨j3, (q : Int)⟩) (nb q)], hj3⟩
        · rw [e3] at h3
          obtain ⟨j3, rfl, h3, hij3, hj3, hv3⟩ := h3
          rw [h3]
          dsimp only
          have h4 := must_sim h wSemi hj3
          rcases e4 : pTok kSemi (L.drop j3) with q | ⟨a4, t4⟩
          · rw [e4] at h4
            obtain ⟨j4, h4, hj4⟩ := h4
            exact ⟨j4, h4, hj4⟩
          · rw [e4] at h4
            obtain ⟨j4, rfl, h4, hij4, hj4, rfl⟩ := h4
            exact ⟨j4, rfl, h4, by omega, hj4, rfl, by simpa using e0, by simpa using hv1.symm, by simpa using hv3.symm, fun h => by simp at h, pNums_ne e3⟩
  · rw [if_neg e0]
    have hT : ¬ isT L kLocal ⟨i, -1⟩ = true := fun hh => e0 (hT.1 hh)
    have hr : row L ⟨i, -1⟩ = (⟨tk L i, (nums L (must L kParity ⟨i, -1⟩)).1, []⟩, must L kSemi (nums L (must L kParity ⟨i, -1⟩)).2) := by
      unfold row; rw [if_neg hT]
    rw [hr]
    dsimp only
    have h1 := must_sim h wParity hi
    rcases e1 : pTok kParity (L.drop i) with q | ⟨a1, t1⟩
    · rw [e1] at h1
      obtain ⟨j, h1, hj⟩ := h1
      exact ⟨j, by simp only [h1, must_bad (s := ⟨j, (q : Int)⟩) (nb q), nums_bad (s := ⟨j, (q : Int)⟩) (nb q)], hj⟩
    · rw [e1] at h1
      obtain ⟨j, rfl, h1, hij, hj, rfl⟩ := h1
      have htx : (tk L i).txt = kParity := by
        unfold pTok at e1
        rw [← tk_hd] at e1
        split at e1
        · assumption
        · cases e1
      rw [h1]
      dsimp only
      have h2 := nums_sim h hj
      rcases e2 : pNums (L.drop j) with q | ⟨a2, t2⟩
      · rw [e2] at h2
        obtain ⟨j2, h2, hj2⟩ := h2
        exact ⟨j2, by simp only [h2, must_bad (s := ⟨j2, (q : Int)⟩) (nb q)], hj2⟩
      · rw [e2] at h2
        obtain ⟨j2, rfl, h2, hij2, hj2, hv2⟩ := h2
        rw [h2]
        dsimp only
        have h3 := must_sim h wSemi hj2
        rcases e3 : pTok kSemi (L.drop j2) with q | ⟨a3, t3⟩
        · rw [e3] at h3
          obtain ⟨j3, h3, hj3⟩ := h3
          exact ⟨j3, h3, hj3⟩
        · rw [e3] at h3
          obtain ⟨j3, rfl, h3, hij3, hj3, rfl⟩ := h3
          exact ⟨j3, rfl, h3, by omega, hj3, rfl, by simpa using htx, by simpa using hv2.symm, by simp, fun _ => rfl, pNums_ne e2⟩

inductive RowsAre : List Row → List Line → Prop
  | nil : RowsAre [] []
  | cons {x : Row} {y : Line} {l : List Row} {m : List Line} : RowIs x y → RowsAre l m → RowsAre (x :: l) (y :: m)
theorem RowsAre.app {l1 l2 : List Row} {m1 m2 : List Line} (h : RowsAre l1 m1) (k : RowsAre l2 m2) : RowsAre (l1 ++ l2) (m1 ++ m2) := by
  induction h with
  | nil => exact k
  | cons h _ ih => exact .cons h ih

theorem rows_sim {L : List Tok} (h : LOk L) : ∀ (k i : Nat) (acc : List Line), i < L.length → L.length - i < k →
    match pRest (L.drop i) with
    | .error q => ∃ acc' j, rows L k false ⟨i, -1⟩ acc = (acc', ⟨j, q⟩) ∧ j < L.length
    | .ok (l, ts') => ∃ m j, ts' = L.drop j ∧ rows L k false ⟨i, -1⟩ acc = (acc ++ m, ⟨j, -1⟩) ∧ i ≤ j ∧ j < L.length ∧ RowsAre l m := by
  intro k
  induction k with
  | zero => intro i acc hi h1; omega
  | succ k ih =>
    intro i acc hi h1
    have hp := isT_iff h wParity (b := -1) (by decide) hi
    have hl := isT_iff h wLocal (b := -1) (by decide) hi
    have hg : goes L false ⟨i, -1⟩ = true ↔ ((hd (L.drop i)).txt = kParity ∨ (hd (L.drop i)).txt = kLocal) := by
      rw [← tk_hd, ← hp, ← hl]
      simp [goes]
    by_cases hgo : (hd (L.drop i)).txt = kParity ∨ (hd (L.drop i)).txt = kLocal
    · have hs := row_sim h hi
      simp only [rows, if_pos (hg.2 hgo)]
      rcases e1 : pRow (L.drop i) with q | ⟨x, t1⟩
      · rw [e1] at hs
        obtain ⟨j, h2, hj⟩ := hs
        rw [pRest_bad hgo e1]
        exact ⟨_, j, by rw [h2, rows_bad (s := ⟨j, (q : Int)⟩) (nb q)], hj⟩
      · rw [e1] at hs
        obtain ⟨j, rfl, h2, hij, hj, hx⟩ := hs
        have hlt := pRow_lt e1
        simp only [List.length_drop] at hlt
        rw [pRest_ok hgo e1, h2]
        have := ih j (acc ++ [(row L ⟨i, -1⟩).1]) hj (by omega)
        rcases e2 : pRest (L.drop j) with q | ⟨l, t2⟩
        · rw [e2] at this
          exact this
        · rw [e2] at this
          obtain ⟨m, j2, rfl, h3, hij2, hj2, hm⟩ := this
          exact ⟨(row L ⟨i, -1⟩).1 :: m, j2, rfl, by rw [h3]; simp, by omega, hj2, .cons hx hm⟩
    · rw [pRest_no hgo]
      have hn : ¬ goes L false ⟨i, -1⟩ = true := fun hh => hgo (hg.1 hh)
      simp only [rows, if_neg hn]
      exact ⟨[], i, rfl, by simp, Nat.le_refl _, hi, .nil⟩

/-- a source of the specification's as the reference holds it -/
structure SrcIs (x : Sp.Src) (y : Src) : Prop where
  name : y.name = x.name
  lines : ∃ kf kd rs ds, y.lines = ⟨kf, [x.field], []⟩ :: ⟨kd, [x.data], []⟩ :: (rs ++ ds) ∧ kf.txt = kField ∧ kd.txt = kData ∧ RowsAre x.rows rs ∧
    (match x.dom with | none => ds = [] | some t => ∃ k, ds = [⟨k, [t], []⟩] ∧ k.txt = kDomain)

theorem code_sim {L : List Tok} (h : LOk L) {i : Nat} (hi : i < L.length) :
    Sim L (i + 1) (pCode (L.drop i)) (code L ⟨i, -1⟩).2 (fun a => SrcIs a (code L ⟨i, -1⟩).1) := by
  have hco : (code L ⟨i, -1⟩).2 = must L kShut (tail L (rows L (L.length + 1) true (twoS L ⟨i, -1⟩) (twoL L ⟨i, -1⟩))).2 := rfl
  have hb : ∀ (j : Nat) (q : Nat), twoS L ⟨i, -1⟩ = ⟨j, q⟩ → j < L.length → Sim (α := Sp.Src) L (i + 1) (.error q) (code L ⟨i, -1⟩).2 (fun a => SrcIs a (code L ⟨i, -1⟩).1) := by
    intro j q e hj
    refine ⟨j, ?_, hj⟩
    rw [hco, e, rows_bad (s := ⟨j, (q : Int)⟩) (nb q), tail_bad (r := (_, ⟨j, (q : Int)⟩)) (nb q), must_bad (s := ⟨j, (q : Int)⟩) (nb q)]
  unfold pCode pHead
  have h1 := must_sim h wCode hi
  rcases e1 : pTok kCode (L.drop i) with q | ⟨a1, t1⟩
  · rw [e1] at h1
    obtain ⟨j, h1, hj⟩ := h1
    exact hb j q (by simp only [twoS, head, h1, must_bad (s := ⟨j, (q : Int)⟩) (nb q), kind_bad (s := ⟨j, (q : Int)⟩) (nb q), one_bad (s := ⟨j, (q : Int)⟩) (nb q)]) hj
  · rw [e1] at h1
    obtain ⟨j1, rfl, h1, hij1, hj1, rfl⟩ := h1
    have hlt1 : i + 1 ≤ j1 := by
      have := (pTok_lt e1).1
      rw [drop_tail] at this
      have hl := congrArg List.length this
      simp only [List.length_drop] at hl
      omega
    have h2 := kind_sim h (k := 1) (by decide) hj1
    dsimp only
    rcases e2 : pKind 1 (L.drop j1) with q | ⟨a2, t2⟩
    · rw [e2] at h2
      obtain ⟨j, h2, hj⟩ := h2
      exact hb j q (by simp only [twoS, head, h1, h2, must_bad (s := ⟨j, (q : Int)⟩) (nb q), kind_bad (s := ⟨j, (q : Int)⟩) (nb q), one_bad (s := ⟨j, (q : Int)⟩) (nb q)]) hj
    · rw [e2] at h2
      obtain ⟨j2, rfl, h2, hij2, hj2, ha2⟩ := h2
      have h3 := must_sim h wOpen hj2
      dsimp only
      rcases e3 : pTok kOpen (L.drop j2) with q | ⟨a3, t3⟩
      · rw [e3] at h3
        obtain ⟨j, h3, hj⟩ := h3
        exact hb j q (by simp only [twoS, head, h1, h2, h3, must_bad (s := ⟨j, (q : Int)⟩) (nb q), kind_bad (s := ⟨j, (q : Int)⟩) (nb q), one_bad (s := ⟨j, (q : Int)⟩) (nb q)]) hj
      · rw [e3] at h3
        obtain ⟨j3, rfl, h3, hij3, hj3, rfl⟩ := h3
        have hh : head L ⟨i, -1⟩ = ⟨j3, -1⟩ := by simp only [head, h1, h2, h3]
        have h4 := one_sim h wField hj3
        dsimp only
        rcases e4 : pOne kField (L.drop j3) with q | ⟨a4, t4⟩
        · rw [e4] at h4
          obtain ⟨j, h4, hj⟩ := h4
          exact hb j q (by simp only [twoS, hh, h4, one_bad (s := ⟨j, (q : Int)⟩) (nb q)]) hj
        · rw [e4] at h4
          obtain ⟨j4, rfl, h4, hij4, hj4, ha4, hk4⟩ := h4
          have h5 := one_sim h wData hj4
          dsimp only
          rcases e5 : pOne kData (L.drop j4) with q | ⟨a5, t5⟩
          · rw [e5] at h5
            obtain ⟨j, h5, hj⟩ := h5
            exact hb j q (by simp only [twoS, hh, h4, h5]) hj
          · rw [e5] at h5
            obtain ⟨j5, rfl, h5, hij5, hj5, ha5, hk5⟩ := h5
            have hS : twoS L ⟨i, -1⟩ = ⟨j5, -1⟩ := by simp only [twoS, hh, h4, h5]
            have hL : twoL L ⟨i, -1⟩ = [⟨tk L j3, [a4], []⟩, ⟨tk L j4, [a5], []⟩] := by simp only [twoL, hh, h4, ha4, ha5]
            have h6 := row_sim h hj5
            dsimp only
            have hr0 : rows L (L.length + 1) true ⟨j5, -1⟩ (twoL L ⟨i, -1⟩) = rows L L.length false (row L ⟨j5, -1⟩).2 (twoL L ⟨i, -1⟩ ++ [(row L ⟨j5, -1⟩).1]) := by
              simp [rows, goes]
            rcases e6 : pRow (L.drop j5) with q | ⟨x, t6⟩
            · rw [e6] at h6
              obtain ⟨j, h6, hj⟩ := h6
              refine ⟨j, ?_, hj⟩
              rw [hco, hS, hr0, h6, rows_bad (s := ⟨j, (q : Int)⟩) (nb q), tail_bad (r := (_, ⟨j, (q : Int)⟩)) (nb q), must_bad (s := ⟨j, (q : Int)⟩) (nb q)]
            · rw [e6] at h6
              obtain ⟨j6, rfl, h6, hij6, hj6, hx⟩ := h6
              have hlt := pRow_lt e6
              simp only [List.length_drop] at hlt
              have h7 := rows_sim h L.length j6 (twoL L ⟨i, -1⟩ ++ [(row L ⟨j5, -1⟩).1]) hj6 (by omega)
              rw [← h6, ← hr0, ← hS] at h7
              dsimp only
              change Sim L (i + 1) (match pRest (L.drop j6) with | .error p => _ | .ok (l, t7) => _) _ _
              rcases e7 : pRest (L.drop j6) with q | ⟨l, t7⟩
              · rw [e7] at h7
                obtain ⟨acc', j, h7, hj⟩ := h7
                refine ⟨j, ?_, hj⟩
                rw [hco, h7, tail_bad (r := (_, ⟨j, (q : Int)⟩)) (nb q), must_bad (s := ⟨j, (q : Int)⟩) (nb q)]
              · rw [e7] at h7
                obtain ⟨m, j7, rfl, h7, hij7, hj7, hm⟩ := h7
                have hla := hm
                dsimp only
                unfold pTail pDom
                rw [← tk_hd]
                have hD := isT_iff h wDomain (b := -1) (by decide) hj7
                have hre : rows L (L.length + 1) true (twoS L ⟨i, -1⟩) (twoL L ⟨i, -1⟩) = ((⟨tk L j3, [a4], []⟩ :: ⟨tk L j4, [a5], []⟩ :: ((row L ⟨j5, -1⟩).1 :: m)), ⟨j7, -1⟩) := by rw [h7, hL, hS]; rfl
                have hnm : (code L ⟨i, -1⟩).1.name = a2 := by simp only [code, h1, ha2]
                have hfin : ∀ (o : Option Tok) (ds : List Line) (j8 : Nat), tail L (rows L (L.length + 1) true (twoS L ⟨i, -1⟩) (twoL L ⟨i, -1⟩)) = ((⟨tk L j3, [a4], []⟩ :: ⟨tk L j4, [a5], []⟩ :: ((row L ⟨j5, -1⟩).1 :: m)) ++ ds, ⟨j8, -1⟩) → j7 ≤ j8 → j8 < L.length →
                    (match o with | none => ds = [] | some t => ∃ k, ds = [⟨k, [t], []⟩] ∧ k.txt = kDomain) →
                    Sim L (i + 1) (match (match pTok kShut (L.drop j8) with | .error p => (.error p : Except Nat (Option Tok × List Tok)) | .ok (_, t2) => .ok (o, t2)) with | .error p => (.error p : Except Nat (Sp.Src × List Tok)) | .ok (o, t8) => .ok (⟨a2, a4, a5, x :: l, o⟩, t8)) (code L ⟨i, -1⟩).2 (fun a => SrcIs a (code L ⟨i, -1⟩).1) := by
                  intro o ds j8 ht h78 hj8 ho
                  have h8 := must_sim h wShut hj8
                  rcases e8 : pTok kShut (L.drop j8) with q | ⟨a8, t8⟩
                  · rw [e8] at h8
                    obtain ⟨j, h8, hj⟩ := h8
                    exact ⟨j, by rw [hco, ht]; exact h8, hj⟩
                  · rw [e8] at h8
                    obtain ⟨j, rfl, h8, hij, hj, rfl⟩ := h8
                    refine ⟨j, rfl, by rw [hco, ht]; exact h8, by omega, hj, hnm, tk L j3, tk L j4, (row L ⟨j5, -1⟩).1 :: m, ds, ?_, hk4, hk5, .cons hx hm, ho⟩
                    show (tail L _).1 = _
                    rw [ht]; rfl
                by_cases e8 : (tk L j7).txt = kDomain
                · rw [if_pos e8]
                  have hT := hD.2 e8
                  have h9 := one_sim h wDomain hj7
                  have htl : tail L (rows L (L.length + 1) true (twoS L ⟨i, -1⟩) (twoL L ⟨i, -1⟩)) = ((⟨tk L j3, [a4], []⟩ :: ⟨tk L j4, [a5], []⟩ :: ((row L ⟨j5, -1⟩).1 :: m)) ++ [(one L kDomain ⟨j7, -1⟩).1], (one L kDomain ⟨j7, -1⟩).2) := by
                    rw [hre]; unfold tail; rw [if_pos hT]
                  rcases e9 : pOne kDomain (L.drop j7) with q | ⟨a9, t9⟩
                  · rw [e9] at h9
                    obtain ⟨j, h9, hj⟩ := h9
                    refine ⟨j, ?_, hj⟩
                    rw [hco, htl, h9, must_bad (s := ⟨j, (q : Int)⟩) (nb q)]
                  · rw [e9] at h9
                    obtain ⟨j9, rfl, h9, hij9, hj9, ha9, hk9⟩ := h9
                    rw [h9, ha9] at htl
                    exact hfin (some a9) _ j9 htl hij9 hj9 ⟨_, rfl, hk9⟩
                · rw [if_neg e8]
                  have hT : ¬ isT L kDomain ⟨j7, -1⟩ = true := fun hh => e8 (hD.1 hh)
                  have htl : tail L (rows L (L.length + 1) true (twoS L ⟨i, -1⟩) (twoL L ⟨i, -1⟩)) = ((⟨tk L j3, [a4], []⟩ :: ⟨tk L j4, [a5], []⟩ :: ((row L ⟨j5, -1⟩).1 :: m)) ++ [], ⟨j7, -1⟩) := by
                    rw [hre]; unfold tail; rw [if_neg hT, List.append_nil]
                  exact hfin none [] j7 htl (Nat.le_refl _) hj7 rfl

/-! ### what is built -/
def locR (x : Line) (data top : Nat) : Except Er (List Int) :=
  match badIdx data (-1) x.a with
  | some p => .error (p, 1)
  | none =>
    if x.a.length ≠ x.b.length then .error (x.key.at_, 1)
    else match badCoef top true x.b with
      | some p => .error (p, 1)
      | none => .ok (fillR true x.a 0 (List.replicate data 0) x.b)
def parR (x : Line) (data top : Nat) : Except Er (List Int) :=
  if x.a.length ≠ data then .error (x.key.at_, 1)
  else match badCoef top false x.a with
    | some p => .error (p, 1)
    | none => if sumN x.a = 0 then .error (x.key.at_, 1) else .ok (x.a.map fun t => (t.n : Int))
def rowR (x : Line) (data top : Nat) : Except Er (List Int) := if x.key.txt = kLocal then locR x data top else parR x data top
def topR (f : Nat) : Nat := if f = 8 then 255 else 65535
structure Cd where
  field : Nat
  data : Nat
  parity : List (List Int)
  domain : Nat
def step (c : Cd) (x : Line) : Except Er Cd :=
  if x.key.txt = kField then (if (hd x.a).n ≠ 8 ∧ (hd x.a).n ≠ 16 then .error ((hd x.a).at_, 1) else .ok { c with field := (hd x.a).n })
  else if x.key.txt = kData then (if (hd x.a).n < 1 ∨ 31 < (hd x.a).n then .error ((hd x.a).at_, 1) else .ok { c with data := (hd x.a).n })
  else if x.key.txt = kDomain then (if (hd x.a).n < 1 ∨ c.data + c.parity.length < (hd x.a).n then .error ((hd x.a).at_, 1) else .ok { c with domain := (hd x.a).n })
  else if 32 ≤ c.data + c.parity.length then .error (x.key.at_, 2)
  else match rowR x c.data (topR c.field) with
    | .error e => .error e
    | .ok r => .ok { c with parity := c.parity ++ [r] }
def steps : Cd → List Line → Except Er Cd
  | c, [] => .ok c
  | c, x :: l => match step c x with
    | .error e => .error e
    | .ok c' => steps c' l
def fin (name : List UInt8) (c : Cd) : Sp.Code := ⟨name, c.field, c.data, c.parity, if c.domain = 0 then c.data + c.parity.length else c.domain⟩
def bldS (s : Src) : Except Er Sp.Code :=
  if 12 < s.name.txt.length then .error (s.name.at_, 2)
  else match steps ⟨0, 0, [], 0⟩ s.lines with
    | .error e => .error e
    | .ok c => .ok (fin s.name.txt c)

theorem badCoef_pos {top : Nat} {l : List Tok} (h : badCoef top true l = none) (hn : l ≠ []) : sumN l ≠ 0 := by
  cases l with
  | nil => exact absurd rfl hn
  | cons c l =>
    simp only [badCoef] at h
    split at h
    · rename_i hc
      have h0 : c.n ≠ 0 := fun e => hc.2 (by simp [e])
      simp only [sumN, List.map_cons, List.sum_cons]
      omega
    · cases h
theorem fillR_map (l : List Tok) : ∀ (j : Nat) (row : List Int), row.length = j + l.length → fillR false [] j row l = row.take j ++ l.map fun t => (t.n : Int) := by
  induction l with
  | nil => intro j row h; simp [fillR] at h ⊢; rw [List.take_of_length_le (by omega)]
  | cons c l ih =>
    intro j row h
    simp only [List.length_cons] at h
    simp only [fillR, Bool.false_eq_true, if_false]
    rw [ih (j + 1) (row.set j (c.n : Int)) (by simp; omega)]
    rw [List.take_add_one, List.take_set_of_le (Nat.le_refl _), List.getElem?_set_self (by omega)]
    simp
theorem rowR_eq {x : Row} {y : Line} (h : RowIs x y) (data top : Nat) : rowR y data top = bldRow x data top := by
  obtain ⟨at_, loc, idx, coef⟩ := x
  obtain ⟨h1, h2, h3, h4, h5, h6⟩ := h
  dsimp only at h1 h2 h3 h4 h5 h6
  unfold rowR bldRow
  rcases loc with _ | _
  · simp only [Bool.false_eq_true, if_false] at h2 h3 h4
    have h5 := h5 rfl
    subst h5
    rw [if_neg (by rw [h2]; decide)]
    unfold parR
    simp only [badIdx, h3, h1, Bool.false_eq_true, if_false]
    split
    · rfl
    · rename_i hl
      rcases badCoef top false coef with _ | p
      · dsimp only
        split
        · rfl
        · rw [fillR_map coef 0 _ (by simp at hl ⊢; omega)]; simp
      · rfl
  · simp only [if_true] at h2 h3 h4
    rw [if_pos h2]
    unfold locR
    simp only [h3, h4, h1, if_true]
    rcases badIdx data (-1) idx with _ | p
    · by_cases hl : coef.length = idx.length
      · rw [if_neg (by omega), if_neg (by omega)]
        rcases hb : badCoef top true coef with _ | p
        · have := badCoef_pos hb h6
          simp only [this, if_false]
        · rfl
      · rw [if_pos (by omega), if_pos (by omega)]
    · rfl
theorem RowIs.key_ne {x : Row} {y : Line} (h : RowIs x y) : y.key.txt ≠ kField ∧ y.key.txt ≠ kData ∧ y.key.txt ≠ kDomain := by
  rw [h.key]
  rcases x.loc with _ | _ <;> simp [kLocal, kParity, kField, kData, kDomain]
theorem topR_eq {f : Nat} (h : f = 8 ∨ f = 16) : topR f = topOf f := by rcases h with rfl | rfl <;> decide
theorem steps_rows {l : List Row} {m : List Line} (h : RowsAre l m) : ∀ (c : Cd) (ds : List Line), (c.field = 8 ∨ c.field = 16) →
    steps c (m ++ ds) = match bldRows c.data (topOf c.field) c.parity l with
      | .error e => .error e
      | .ok rows => steps { c with parity := rows } ds := by
  induction h with
  | nil => intro c ds _; rfl
  | @cons x y l m hx hl ih =>
    intro c ds hf
    obtain ⟨k1, k2, k3⟩ := hx.key_ne
    simp only [List.cons_append, steps, step, bldRows]
    rw [if_neg k1, if_neg k2, if_neg k3, rowR_eq hx, topR_eq hf]
    by_cases hw : c.data + c.parity.length < 32
    · rw [if_neg (by omega), if_pos hw]
      rcases bldRow x c.data (topOf c.field) with e | r
      · rfl
      · exact ih _ ds hf
    · rw [if_pos (by omega), if_neg hw, hx.at_]
theorem step_f (c : Cd) (k t : Tok) (h : k.txt = kField) : step c ⟨k, [t], []⟩ = if t.n ≠ 8 ∧ t.n ≠ 16 then .error (t.at_, 1) else .ok { c with field := t.n } := by
  unfold step; rw [if_pos h]; rfl
theorem step_d (c : Cd) (k t : Tok) (h : k.txt = kData) : step c ⟨k, [t], []⟩ = if t.n < 1 ∨ 31 < t.n then .error (t.at_, 1) else .ok { c with data := t.n } := by
  unfold step; rw [if_neg (by rw [h]; decide), if_pos h]; rfl
theorem step_m (c : Cd) (k t : Tok) (h : k.txt = kDomain) : step c ⟨k, [t], []⟩ = if t.n < 1 ∨ c.data + c.parity.length < t.n then .error (t.at_, 1) else .ok { c with domain := t.n } := by
  unfold step; rw [if_neg (by rw [h]; decide), if_neg (by rw [h]; decide), if_pos h]; rfl
theorem bldS_eq {x : Sp.Src} {y : Src} (h : SrcIs x y) : bldS y = bld x := by
  obtain ⟨hn, kf, kd, rs, ds, hl, h1, h2, h3, h4⟩ := h
  unfold bldS bld
  rw [hn]
  split
  · rfl
  · rw [hl]
    simp only [steps, step_f _ _ _ h1, step_d _ _ _ h2]
    by_cases hf : x.field.n = 8 ∨ x.field.n = 16
    · rw [if_neg (by omega), if_neg (by omega)]
      dsimp only
      by_cases hdt : 1 ≤ x.data.n ∧ x.data.n ≤ 31
      · rw [if_neg (by omega), if_neg (by omega)]
        dsimp only
        rw [steps_rows h3 _ _ hf]
        dsimp only
        rcases bldRows x.data.n (topOf x.field.n) [] x.rows with e | rows
        · rfl
        · dsimp only
          unfold bldDom
          rcases hx : x.dom with _ | t
          · rw [hx] at h4
            subst h4
            simp [steps, fin]
          · rw [hx] at h4
            obtain ⟨k, rfl, hk⟩ := h4
            simp only [steps, step_m _ _ _ hk]
            by_cases hw : 1 ≤ t.n ∧ t.n ≤ x.data.n + rows.length
            · rw [if_neg (by omega), if_pos hw]
              simp only [fin]
              rw [if_neg (by omega)]
            · rw [if_pos (by omega), if_neg hw]
      · rw [if_pos (by omega), if_pos hdt]
    · rw [if_pos (by omega), if_pos hf]

/-! ### the whole parser -/
theorem tokAt_ok (p : Nat) (l : List UInt8) : TkOk (tokAt p l) := by
  cases l with
  | nil => exact .inr (.inr (.inl rfl))
  | cons c l =>
    unfold TkOk
    simp only [tokAt]
    split
    · exact .inl rfl
    · split
      · rename_i hD
        split
        · exact .inr (.inr (.inl rfl))
        · exact .inr (.inr (.inr ⟨c, l.takeWhile isD, by simp [List.takeWhile_cons, hD], hD⟩))
      · split
        · exact .inr (.inl rfl)
        · exact .inr (.inr (.inl rfl))
theorem toks_ok (n : Nat) : ∀ (l : List UInt8) (p : Nat), l.length = n → LOk (toks p l) := by
  induction n using Nat.strongRecOn with
  | ind n ih =>
    intro l p hn
    have hk := tokAt_ok (p + skpN false l) (l.drop (skpN false l))
    have hG := tokAt_G (p + skpN false l) (l.drop (skpN false l))
    rw [toks]
    split
    · rename_i h3
      refine ⟨fun t ht => by rw [List.mem_singleton.1 ht]; exact hk, fun i hi hk => ?_, fun t ht _ => by rw [List.mem_singleton.1 ht]; exact hG.n, by simp⟩
      have : i = 0 := by simpa using hi
      subst this
      exact absurd hk (by simp only [tk, List.getElem?_cons_zero, Option.getD_some]; omega)
    · rename_i h3
      have h1 := tokAt_pos (p + skpN false l) (l.drop (skpN false l)) (by omega)
      have h2 := tokAt_le (p + skpN false l) (l.drop (skpN false l))
      simp only [List.length_drop] at h2
      have h4 := ih _ (by rw [← hn, List.length_drop]; omega) (l.drop (skpN false l + (tokAt (p + skpN false l) (l.drop (skpN false l))).txt.length)) (p + skpN false l + (tokAt (p + skpN false l) (l.drop (skpN false l))).txt.length) rfl
      refine ⟨fun t ht => ?_, fun i hi hk => ?_, fun t ht h2 => ?_, by simp⟩
      · rcases List.mem_cons.1 ht with rfl | ht
        · exact hk
        · exact h4.each t ht
      · cases i with
        | zero => have := h4.ne; simp only [List.length_cons]; omega
        | succ i =>
          simp only [List.length_cons] at hi ⊢
          have := h4.last i (by omega) (by simpa [tk] using hk)
          omega
      · rcases List.mem_cons.1 ht with rfl | ht
        · exact hG.n
        · exact h4.n2 t ht h2

def parse1T (L : List Tok) : Except Er Sp.Code :=
  if 0 ≤ (kind L 4 (code L ⟨0, -1⟩).2).bad then .error ((kind L 4 (code L ⟨0, -1⟩).2).bad.toNat, 3) else bldS (code L ⟨0, -1⟩).1
def parse1 (text : List UInt8) : Except Er Sp.Code := if 2000 < text.length then .error (0, 2) else parse1T (toks 0 text)
def allS (L : List Tok) : Nat → St → List Src → List Src × St
  | 0, s, acc => (acc, s)
  | k + 1, s, acc => if s.bad < 0 ∧ (tk L s.i).kind ≠ 4 then allS L k (code L s).2 (acc ++ [(code L s).1]) else (acc, s)
def bAllR : List Sp.Code → List (List UInt8) → List Src → Except Er (List Sp.Code)
  | acc, _, [] => .ok acc
  | acc, names, s :: l =>
    if 8 ≤ acc.length then .error (s.name.at_, 2)
    else if s.name.txt ∈ names then .error (s.name.at_, 4)
    else match bldS s with
      | .error e => .error e
      | .ok c => bAllR (acc ++ [c]) (names ++ [s.name.txt]) l
def parseAllT (L : List Tok) : Except Er (List Sp.Code) :=
  if 0 ≤ (allS L (L.length + 1) ⟨0, -1⟩ []).2.bad then .error ((allS L (L.length + 1) ⟨0, -1⟩ []).2.bad.toNat, 3) else bAllR [] [] (allS L (L.length + 1) ⟨0, -1⟩ []).1
def parseAllR (text : List UInt8) : Except Er (List Sp.Code) := if 2000 < text.length then .error (0, 2) else parseAllT (toks 0 text)

theorem parse1_eq (text : List UInt8) : parse1 text = match parseL true text with
    | .error e => .error e
    | .ok l => .ok (l.headD ⟨[], 0, 0, [], 0⟩) := by
  unfold parse1 parseL
  split
  · rfl
  · have h := toks_ok _ text 0 rfl
    generalize toks 0 text = L at h
    unfold parse1T parseTs
    have hs := code_sim h h.ne
    rw [List.drop_zero] at hs
    have hg : Goes true [] L := ⟨fun hh => hh.2 ⟨rfl, rfl⟩, fun hh => hh.2 rfl⟩
    rcases hq : pCode L with q | ⟨x, t'⟩
    · rw [hq] at hs
      obtain ⟨j, h1, hj⟩ := hs
      rw [pAll_bad hg hq, h1, kind_bad (s := ⟨j, (q : Int)⟩) (nb q)]
      simp
    · rw [hq] at hs
      obtain ⟨j, rfl, h1, hij, hj, hx⟩ := hs
      rw [pAll_ok hg hq, h1, bldS_eq hx]
      by_cases hk : (tk L j).kind = 4
      · rw [pAll_end (by rw [← tk_hd]; exact hk) (by simp)]
        have : kind L 4 ⟨j, -1⟩ = ⟨j + 1, -1⟩ := by simp [kind, hk]
        rw [this]
        simp only [show ¬ (0 : Int) ≤ -1 by decide, if_false, List.nil_append, bAll, List.length_nil, List.not_mem_nil]
        rw [if_neg (by decide)]
        rcases bld x with e | c <;> rfl
      · rw [pAll_more (by rw [← tk_hd]; exact hk) ⟨rfl, by simp⟩, ← tk_hd]
        have : kind L 4 ⟨j, -1⟩ = ⟨j, (tk L j).at_⟩ := by simp [kind, hk, fail]
        rw [this]
        simp

inductive SrcsAre : List Sp.Src → List Src → Prop
  | nil : SrcsAre [] []
  | cons {x : Sp.Src} {y : Src} {l : List Sp.Src} {m : List Src} : SrcIs x y → SrcsAre l m → SrcsAre (x :: l) (y :: m)
theorem SrcsAre.snoc {l : List Sp.Src} {m : List Src} (h : SrcsAre l m) {x : Sp.Src} {y : Src} (k : SrcIs x y) : SrcsAre (l ++ [x]) (m ++ [y]) := by
  induction h with
  | nil => exact .cons k .nil
  | cons h _ ih => exact .cons h ih
theorem bAllR_eq {l : List Sp.Src} {m : List Src} (h : SrcsAre l m) : ∀ (acc : List Sp.Code) (names : List (List UInt8)), bAllR acc names m = bAll acc names l := by
  induction h with
  | nil => intro acc names; rfl
  | @cons x _ _ _ hx _ ih =>
    intro acc names
    simp only [bAllR, bAll, hx.name, bldS_eq hx]
    split
    · rfl
    · split
      · rfl
      · rcases bld x with e | c
        · rfl
        · exact ih _ _
theorem allS_bad {L : List Tok} {k : Nat} {s : St} {acc : List Src} (h : ¬ s.bad < 0) : allS L k s acc = (acc, s) := by
  cases k <;> simp [allS, h]
theorem all_sim {L : List Tok} (h : LOk L) : ∀ (k i : Nat) (acc : List Sp.Src) (acc' : List Src), i < L.length → L.length - i < k → SrcsAre acc acc' →
    match pAll false acc (L.drop i) with
    | .error q => ∃ m j, allS L k ⟨i, -1⟩ acc' = (m, ⟨j, q⟩)
    | .ok l => ∃ m j, allS L k ⟨i, -1⟩ acc' = (m, ⟨j, -1⟩) ∧ SrcsAre l m := by
  intro k
  induction k with
  | zero => intro i acc acc' hi h1; omega
  | succ k ih =>
    intro i acc acc' hi h1 hac
    simp only [allS]
    by_cases hk : (tk L i).kind = 4
    · rw [pAll_end (by rw [← tk_hd]; exact hk) (by simp), if_neg (fun hh => hh.2 hk)]
      exact ⟨acc', i, rfl, hac⟩
    · rw [if_pos ⟨by decide, hk⟩]
      have hg : Goes false acc (L.drop i) := ⟨fun hh => hk (by rw [tk_hd]; exact hh.1), by simp⟩
      have hs := code_sim h hi
      rcases hq : pCode (L.drop i) with q | ⟨x, t'⟩
      · rw [hq] at hs
        obtain ⟨j, h2, hj⟩ := hs
        rw [pAll_bad hg hq]
        exact ⟨_, j, by rw [h2, allS_bad (s := ⟨j, (q : Int)⟩) (nb q)]⟩
      · rw [hq] at hs
        obtain ⟨j, rfl, h2, hij, hj, hx⟩ := hs
        rw [pAll_ok hg hq, h2]
        exact ih j (acc ++ [x]) (acc' ++ [(code L ⟨i, -1⟩).1]) hj (by omega) (hac.snoc hx)
theorem parseAllR_eq (text : List UInt8) : parseAllR text = parseL false text := by
  unfold parseAllR parseL
  split
  · rfl
  · have h := toks_ok _ text 0 rfl
    generalize toks 0 text = L at h
    unfold parseAllT parseTs
    have hs := all_sim h (L.length + 1) 0 [] [] h.ne (by omega) .nil
    rw [List.drop_zero] at hs
    rcases hp : pAll false [] L with q | l
    · rw [hp] at hs
      obtain ⟨m, j, e⟩ := hs
      rw [e]
      simp
    · rw [hp] at hs
      obtain ⟨m, j, e, hl⟩ := hs
      rw [e]
      simp only [show ¬ (0 : Int) ≤ -1 by decide, if_false]
      exact bAllR_eq hl [] []
end Go.Proofs.YtppeplonnippcaaDoor.Rp
