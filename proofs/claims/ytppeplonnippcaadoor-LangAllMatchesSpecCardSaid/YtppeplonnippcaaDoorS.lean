/-
The words of the specification of layer 7 (tokens, the parser over tokens) and small lemmas on lists; no program in sight.
The words of the specification of layer 7: the parser over tokens.
Layer 7: what the parser over tokens eats.
The words of the specification of layer 7: a code as it is built from what is written.
Layer 7: the whole parser over tokens, and what bounds its parts have.
Layer 7: the errors of the parser have numbers 1 to 4.
Layer 7: Parse's list has one code.
The words of the specification of layer 7: the reason why a code is not valid.
The words of the specification of layer 7: the text of a code.
Layer 7: what Check's yes says of a code.
Layer 7: the parser over tokens, reckoned with fuel, so that closed texts can be evaluated; the texts that sanity asks for.
-/
import Derived.Lib.ItoaNum
import Derived.KernelRfl
set_option linter.unusedVariables false
set_option linter.unusedSimpArgs false
namespace Go.Proofs.YtppeplonnippcaaDoor.Sp

structure Tok where
  at_ : Nat
  kind : Nat
  txt : List UInt8
  n : Nat

def isL (c : UInt8) : Bool := decide (97 ≤ c.toNat) && decide (c.toNat ≤ 122)
def isD (c : UInt8) : Bool := decide (48 ≤ c.toNat) && decide (c.toNat ≤ 57)
def isB (c : UInt8) : Bool := decide (c.toNat = 32) || decide (c.toNat = 9) || decide (c.toNat = 10)
def isS (c : UInt8) : Bool := decide (c.toNat = 123) || decide (c.toNat = 125) || decide (c.toNat = 59) || decide (c.toNat = 58)

/-- how many bytes are skipped; true: within a comment -/
def skpN : Bool → List UInt8 → Nat
  | _, [] => 0
  | true, c :: l => if c.toNat = 10 then 1 + skpN false l else 1 + skpN true l
  | false, c :: l => if isB c then 1 + skpN false l else if c.toNat = 35 then 1 + skpN true l else 0

def valD (l : List UInt8) : Nat := l.foldl (fun a c => 10 * a + (c.toNat - 48)) 0

/-- the token that begins at the head of a list -/
def tokAt (p : Nat) : List UInt8 → Tok
  | [] => ⟨p, 4, [], 0⟩
  | c :: l =>
    if isL c then ⟨p, 1, (c :: l).takeWhile (fun x => isL x || isD x), 0⟩
    else if isD c then
      if 5 < ((c :: l).takeWhile isD).length ∨ (c.toNat = 48 ∧ 1 < ((c :: l).takeWhile isD).length) then ⟨p, 5, [], 0⟩
      else ⟨p, 2, (c :: l).takeWhile isD, valD ((c :: l).takeWhile isD)⟩
    else if isS c then ⟨p, 3, [c], 0⟩
    else ⟨p, 5, [], 0⟩

theorem skpN_le (b : Bool) (l : List UInt8) : skpN b l ≤ l.length := by
  induction l generalizing b with
  | nil => simp [skpN]
  | cons c l ih =>
    have h1 := ih true
    have h2 := ih false
    cases b <;> simp only [skpN, List.length_cons] <;> split <;> (try split) <;> omega

theorem takeWhile_le {α : Type} (p : α → Bool) (l : List α) : (l.takeWhile p).length ≤ l.length := by
  induction l with
  | nil => simp
  | cons a l ih => simp only [List.takeWhile_cons]; split <;> simp; omega

theorem takeWhile_take {α : Type} (p : α → Bool) (l : List α) : l.takeWhile p = l.take (l.takeWhile p).length := by
  induction l with
  | nil => simp
  | cons a l ih =>
    simp only [List.takeWhile_cons]
    split
    · simp only [List.length_cons, List.take_succ_cons]; rw [← ih]
    · simp

theorem tokAt_at (p : Nat) (l : List UInt8) : (tokAt p l).at_ = p := by
  cases l with
  | nil => rfl
  | cons c l => simp only [tokAt]; repeat' split
                all_goals rfl

/-- the text is the head of the list -/
theorem tokAt_take (p : Nat) (l : List UInt8) : (tokAt p l).txt = l.take (tokAt p l).txt.length := by
  cases l with
  | nil => rfl
  | cons c l =>
    simp only [tokAt]
    repeat' split
    all_goals first | exact takeWhile_take _ _ | rfl | simp

theorem tokAt_pos (p : Nat) (l : List UInt8) (h : (tokAt p l).kind ≤ 3) : 0 < (tokAt p l).txt.length := by
  cases l with
  | nil => simp [tokAt] at h
  | cons c l =>
    simp only [tokAt] at h ⊢
    by_cases h1 : isL c = true
    · rw [if_pos h1]; simp [List.takeWhile_cons, h1]
    · rw [if_neg h1] at h ⊢
      by_cases h2 : isD c = true
      · rw [if_pos h2] at h ⊢
        split at h
        · simp at h
        · rename_i h3
          rw [if_neg h3]; simp [List.takeWhile_cons, h2]
      · rw [if_neg h2] at h ⊢
        split at h
        · rename_i h3; rw [if_pos h3]; simp
        · simp at h

theorem tokAt_le (p : Nat) (l : List UInt8) : (tokAt p l).txt.length ≤ l.length := by
  have h := congrArg List.length (tokAt_take p l)
  rw [List.length_take] at h
  omega

/-- the tokens of a list that begins at the offset p; the last one has kind 4 or 5 -/
def toks (p : Nat) (l : List UInt8) : List Tok :=
  if _h : 3 < (tokAt (p + skpN false l) (l.drop (skpN false l))).kind then [tokAt (p + skpN false l) (l.drop (skpN false l))]
  else tokAt (p + skpN false l) (l.drop (skpN false l)) ::
    toks (p + skpN false l + (tokAt (p + skpN false l) (l.drop (skpN false l))).txt.length)
      (l.drop (skpN false l + (tokAt (p + skpN false l) (l.drop (skpN false l))).txt.length))
termination_by l.length
decreasing_by
  have h1 := tokAt_pos (p + skpN false l) (l.drop (skpN false l)) (by omega)
  have h2 := tokAt_le (p + skpN false l) (l.drop (skpN false l))
  simp only [List.length_drop] at h2 ⊢
  omega

def hd (ts : List Tok) : Tok := ts.headD ⟨0, 4, [], 0⟩

theorem toks_hd (p : Nat) (l : List UInt8) : hd (toks p l) = tokAt (p + skpN false l) (l.drop (skpN false l)) := by
  rw [toks]; split <;> rfl

theorem toks_ne (p : Nat) (l : List UInt8) : toks p l ≠ [] := by
  rw [toks]; split <;> simp

theorem toks_at (p : Nat) (l : List UInt8) : (hd (toks p l)).at_ = p + skpN false l := by rw [toks_hd, tokAt_at]

theorem toks_tail (p : Nat) (l : List UInt8) (h : (hd (toks p l)).kind ≤ 3) :
    (toks p l).tail = toks (p + skpN false l + (hd (toks p l)).txt.length) (l.drop (skpN false l + (hd (toks p l)).txt.length)) := by
  rw [toks_hd] at h ⊢
  rw [toks, dif_neg (by omega)]
  rfl

theorem skpN_idem (b : Bool) (l : List UInt8) : skpN false (l.drop (skpN b l)) = 0 := by
  induction l generalizing b with
  | nil => cases b <;> simp [skpN]
  | cons c l ih =>
    cases b with
    | true =>
      simp only [skpN]
      split <;> (rw [Nat.add_comm, List.drop_succ_cons]; exact ih _)
    | false =>
      simp only [skpN]
      split
      · rw [Nat.add_comm, List.drop_succ_cons]; exact ih _
      · split
        · rw [Nat.add_comm, List.drop_succ_cons]; exact ih _
        · rename_i h1 h2
          simp [skpN, h1, h2]

theorem toks_skip (p : Nat) (l : List UInt8) : toks (p + skpN false l) (l.drop (skpN false l)) = toks p l := by
  rw [toks, toks.eq_def p l]
  simp only [skpN_idem, Nat.add_zero, List.drop_zero, List.drop_drop, Nat.zero_add]

/-- within a comment one goes on to the next newline, or to the end -/
theorem skpN_comment (l : List UInt8) : skpN true l = l.findIdx (fun c => c.toNat = 10) + skpN false (l.drop (l.findIdx (fun c => c.toNat = 10))) := by
  induction l with
  | nil => simp [skpN]
  | cons c l ih =>
    simp only [skpN, List.findIdx_cons]
    by_cases h : c.toNat = 10
    · simp [h, skpN, isB]
    · simp only [h, if_false, decide_false, cond_false, List.drop_succ_cons]; omega

end Go.Proofs.YtppeplonnippcaaDoor.Sp

namespace Go.Proofs.YtppeplonnippcaaDoor.Sp

def isN (t : Tok) : Bool := decide (t.kind = 2)

def pTok (t : List UInt8) (ts : List Tok) : Except Nat (Tok × List Tok) := if (hd ts).txt = t then .ok (hd ts, ts.tail) else .error (hd ts).at_
def pKind (k : Nat) (ts : List Tok) : Except Nat (Tok × List Tok) := if (hd ts).kind = k then .ok (hd ts, ts.tail) else .error (hd ts).at_
def pNums (ts : List Tok) : Except Nat (List Tok × List Tok) := if (hd ts).kind = 2 then .ok (ts.takeWhile isN, ts.dropWhile isN) else .error (hd ts).at_

def kCode : List UInt8 := [99, 111, 100, 101]
def kField : List UInt8 := [102, 105, 101, 108, 100]
def kData : List UInt8 := [100, 97, 116, 97]
def kDomain : List UInt8 := [100, 111, 109, 97, 105, 110]
def kLocal : List UInt8 := [108, 111, 99, 97, 108]
def kParity : List UInt8 := [112, 97, 114, 105, 116, 121]
def kOpen : List UInt8 := [123]
def kShut : List UInt8 := [125]
def kSemi : List UInt8 := [59]
def kColon : List UInt8 := [58]

def pOne (key : List UInt8) (ts : List Tok) : Except Nat (Tok × List Tok) :=
  match pTok key ts with
  | .error p => .error p
  | .ok (_, t1) =>
    match pKind 2 t1 with
    | .error p => .error p
    | .ok (n, t2) =>
      match pTok kSemi t2 with
      | .error p => .error p
      | .ok (_, t3) => .ok (n, t3)

structure Row where
  at_ : Nat
  loc : Bool
  idx : List Tok
  coef : List Tok

def pRow (ts : List Tok) : Except Nat (Row × List Tok) :=
  if (hd ts).txt = kLocal then
    match pNums ts.tail with
    | .error p => .error p
    | .ok (i, t2) =>
      match pTok kColon t2 with
      | .error p => .error p
      | .ok (_, t3) =>
        match pNums t3 with
        | .error p => .error p
        | .ok (c, t4) =>
          match pTok kSemi t4 with
          | .error p => .error p
          | .ok (_, t5) => .ok (⟨(hd ts).at_, true, i, c⟩, t5)
  else
    match pTok kParity ts with
    | .error p => .error p
    | .ok (_, t1) =>
      match pNums t1 with
      | .error p => .error p
      | .ok (c, t2) =>
        match pTok kSemi t2 with
        | .error p => .error p
        | .ok (_, t3) => .ok (⟨(hd ts).at_, false, [], c⟩, t3)

/-- rows, as long as the next token begins one -/
def pMore : Nat → List Tok → Except Nat (List Row × List Tok)
  | 0, ts => .ok ([], ts)
  | k + 1, ts =>
    if (hd ts).txt = kParity ∨ (hd ts).txt = kLocal then
      match pRow ts with
      | .error p => .error p
      | .ok (x, t1) =>
        match pMore k t1 with
        | .error p => .error p
        | .ok (l, t2) => .ok (x :: l, t2)
    else .ok ([], ts)

structure Src where
  name : Tok
  field : Tok
  data : Tok
  rows : List Row
  dom : Option Tok

def pDom (ts : List Tok) : Except Nat (Option Tok × List Tok) :=
  if (hd ts).txt = kDomain then
    match pOne kDomain ts with
    | .error p => .error p
    | .ok (n, t1) => .ok (some n, t1)
  else .ok (none, ts)

def pHead (ts : List Tok) : Except Nat ((Tok × Tok × Tok) × List Tok) :=
  match pTok kCode ts with
  | .error p => .error p
  | .ok (_, t1) =>
    match pKind 1 t1 with
    | .error p => .error p
    | .ok (nm, t2) =>
      match pTok kOpen t2 with
      | .error p => .error p
      | .ok (_, t3) =>
        match pOne kField t3 with
        | .error p => .error p
        | .ok (f, t4) =>
          match pOne kData t4 with
          | .error p => .error p
          | .ok (d, t5) => .ok ((nm, f, d), t5)

def pTail (ts : List Tok) : Except Nat (Option Tok × List Tok) :=
  match pDom ts with
  | .error p => .error p
  | .ok (o, t1) =>
    match pTok kShut t1 with
    | .error p => .error p
    | .ok (_, t2) => .ok (o, t2)

def pCode (ts : List Tok) : Except Nat (Src × List Tok) :=
  match pHead ts with
  | .error p => .error p
  | .ok ((nm, f, d), t5) =>
    match pRow t5 with
    | .error p => .error p
    | .ok (x, t6) =>
      match pMore t6.length t6 with
      | .error p => .error p
      | .ok (l, t7) =>
        match pTail t7 with
        | .error p => .error p
        | .ok (o, t8) => .ok (⟨nm, f, d, x :: l, o⟩, t8)

end Go.Proofs.YtppeplonnippcaaDoor.Sp

namespace Go.Proofs.YtppeplonnippcaaDoor.Sp

theorem pTok_lt {t : List UInt8} {ts ts' : List Tok} {a : Tok} (h : pTok t ts = .ok (a, ts')) : ts' = ts.tail ∧ a = hd ts := by
  unfold pTok at h
  split at h
  · simp only [Except.ok.injEq, Prod.mk.injEq] at h; exact ⟨h.2.symm, h.1.symm⟩
  · cases h
theorem dropWhile_le {α : Type} (p : α → Bool) (l : List α) : (l.dropWhile p).length ≤ l.length := by
  induction l with
  | nil => simp
  | cons a l ih => simp only [List.dropWhile_cons]; split <;> simp; omega
theorem pNums_le {ts ts' : List Tok} {a : List Tok} (h : pNums ts = .ok (a, ts')) : ts'.length ≤ ts.length := by
  unfold pNums at h
  split at h
  · simp only [Except.ok.injEq, Prod.mk.injEq] at h
    rw [← h.2]; exact dropWhile_le _ _
  · cases h
theorem tail_le {α : Type} (l : List α) : l.tail.length ≤ l.length := by cases l <;> simp
theorem hd_nil : (hd []).txt = [] := rfl
theorem pRow_lt {ts ts' : List Tok} {x : Row} (h : pRow ts = .ok (x, ts')) : ts'.length < ts.length := by
  cases ts with
  | nil => simp [pRow, pTok, hd, kLocal, kParity] at h
  | cons a ts =>
    unfold pRow at h
    split at h
    · split at h
      · cases h
      · rename_i i t2 h1
        split at h
        · cases h
        · rename_i y t3 h2
          split at h
          · cases h
          · rename_i c t4 h3
            split at h
            · cases h
            · rename_i z t5 h4
              simp only [Except.ok.injEq, Prod.mk.injEq] at h
              rw [← h.2]
              have e1 := pNums_le h1
              have e2 := (pTok_lt h2).1
              have e3 := pNums_le h3
              have e4 := (pTok_lt h4).1
              subst e2 e4
              have e5 := tail_le t2
              have e6 := tail_le t4
              simp only [List.tail_cons, List.length_cons] at *
              omega
    · split at h
      · cases h
      · rename_i y t1 h1
        split at h
        · cases h
        · rename_i c t2 h2
          split at h
          · cases h
          · rename_i z t3 h3
            simp only [Except.ok.injEq, Prod.mk.injEq] at h
            rw [← h.2]
            have e1 := (pTok_lt h1).1
            have e2 := pNums_le h2
            have e3 := (pTok_lt h3).1
            subst e1 e3
            have e4 := tail_le t2
            simp only [List.tail_cons, List.length_cons] at *
            omega

theorem pMore_fuel (n : Nat) : ∀ (k : Nat) (ts : List Tok), ts.length ≤ n → ts.length ≤ k → pMore k ts = pMore n ts := by
  induction n with
  | zero =>
    intro k ts h1 h2
    have : ts = [] := List.eq_nil_of_length_eq_zero (by omega)
    subst this
    cases k with
    | zero => rfl
    | succ k => simp [pMore, hd, kParity, kLocal]
  | succ n ih =>
    intro k ts h1 h2
    cases k with
    | zero =>
      have : ts = [] := List.eq_nil_of_length_eq_zero (by omega)
      subst this
      simp [pMore, hd, kParity, kLocal]
    | succ k =>
      simp only [pMore]
      split
      · rcases h : pRow ts with p | ⟨x, t1⟩
        · rfl
        · have := pRow_lt h
          simp only
          rw [ih k t1 (by omega) (by omega)]
      · rfl

/-- the rows that are still to come -/
def pRest (ts : List Tok) : Except Nat (List Row × List Tok) := pMore ts.length ts

theorem pRest_no {ts : List Tok} (h : ¬ ((hd ts).txt = kParity ∨ (hd ts).txt = kLocal)) : pRest ts = .ok ([], ts) := by
  unfold pRest
  cases hn : ts.length with
  | zero => rfl
  | succ n => simp only [pMore, h, if_false]
theorem pRest_bad {ts : List Tok} {p : Nat} (h : (hd ts).txt = kParity ∨ (hd ts).txt = kLocal) (hr : pRow ts = .error p) : pRest ts = .error p := by
  unfold pRest
  cases ts with
  | nil => simp [hd, kParity, kLocal] at h
  | cons a ts => simp only [List.length_cons, pMore, h, if_true, hr]
theorem pRest_ok {ts t1 : List Tok} {x : Row} (h : (hd ts).txt = kParity ∨ (hd ts).txt = kLocal) (hr : pRow ts = .ok (x, t1)) :
    pRest ts = match pRest t1 with | .error p => .error p | .ok (l, t2) => .ok (x :: l, t2) := by
  have hlt := pRow_lt hr
  unfold pRest
  cases ts with
  | nil => simp [hd, kParity, kLocal] at h
  | cons a ts =>
    simp only [List.length_cons] at hlt
    simp only [List.length_cons, pMore, h, if_true, hr]
    rw [pMore_fuel t1.length ts.length t1 (Nat.le_refl _) (by omega)]

/-- rows l have been read; what the rest comes to -/
def addRows (l : List Row) : Except Nat (List Row × List Tok) → Except Nat (List Row × List Tok)
  | .error p => .error p
  | .ok (m, t) => .ok (l ++ m, t)
theorem addRows_step {l : List Row} {ts t1 : List Tok} {x : Row} (h : (hd ts).txt = kParity ∨ (hd ts).txt = kLocal) (hr : pRow ts = .ok (x, t1)) :
    addRows l (pRest ts) = addRows (l ++ [x]) (pRest t1) := by
  rw [pRest_ok h hr]
  rcases pRest t1 with p | ⟨m, t⟩
  · rfl
  · simp [addRows]
end Go.Proofs.YtppeplonnippcaaDoor.Sp

namespace Go.Proofs.YtppeplonnippcaaDoor.Sp

/-- the offset of the first index that is not permitted -/
def badIdx (data : Nat) : Int → List Tok → Option Nat
  | _, [] => none
  | last, t :: l => if t.n < data ∧ last < (t.n : Int) then badIdx data t.n l else some t.at_
/-- the offset of the first coefficient that is not permitted -/
def badCoef (top : Nat) (loc : Bool) : List Tok → Option Nat
  | [] => none
  | c :: l => if c.n ≤ top ∧ ¬ (loc = true ∧ c.n = 0) then badCoef top loc l else some c.at_
def sumN (l : List Tok) : Nat := (l.map (·.n)).sum
/-- the coefficients laid into a row, from the place j on -/
def fillR (loc : Bool) (idx : List Tok) : Nat → List Int → List Tok → List Int
  | _, row, [] => row
  | j, row, c :: l => fillR loc idx (j + 1) (row.set (if loc = true then ((idx[j]?).getD ⟨0, 0, [], 0⟩).n else j) (c.n : Int)) l

/-- an error: its offset and its number -/
abbrev Er := Nat × Nat

def bldRow (x : Row) (data top : Nat) : Except Er (List Int) :=
  match badIdx data (-1) x.idx with
  | some p => .error (p, 1)
  | none =>
    if x.coef.length ≠ (if x.loc = true then x.idx.length else data) then .error (x.at_, 1)
    else
      match badCoef top x.loc x.coef with
      | some p => .error (p, 1)
      | none => if sumN x.coef = 0 then .error (x.at_, 1) else .ok (fillR x.loc x.idx 0 (List.replicate data 0) x.coef)

structure Code where
  name : List UInt8
  field : Nat
  data : Nat
  parity : List (List Int)
  domain : Nat

def topOf (field : Nat) : Nat := 2 ^ field - 1

/-- the rows, behind those that are built already -/
def bldRows (data top : Nat) : List (List Int) → List Row → Except Er (List (List Int))
  | acc, [] => .ok acc
  | acc, x :: l =>
    if data + acc.length < 32 then
      match bldRow x data top with
      | .error e => .error e
      | .ok r => bldRows data top (acc ++ [r]) l
    else .error (x.at_, 2)

def bldDom (s : Src) (width : Nat) : Except Er Nat :=
  match s.dom with
  | none => .ok width
  | some t => if 1 ≤ t.n ∧ t.n ≤ width then .ok t.n else .error (t.at_, 1)

def bld (s : Src) : Except Er Code :=
  if 12 < s.name.txt.length then .error (s.name.at_, 2)
  else if ¬ (s.field.n = 8 ∨ s.field.n = 16) then .error (s.field.at_, 1)
  else if ¬ (1 ≤ s.data.n ∧ s.data.n ≤ 31) then .error (s.data.at_, 1)
  else
    match bldRows s.data.n (topOf s.field.n) [] s.rows with
    | .error e => .error e
    | .ok rows =>
      match bldDom s (s.data.n + rows.length) with
      | .error e => .error e
      | .ok d => .ok ⟨s.name.txt, s.field.n, s.data.n, rows, d⟩

theorem fillR_len (loc : Bool) (idx : List Tok) (l : List Tok) : ∀ (j : Nat) (row : List Int), (fillR loc idx j row l).length = row.length := by
  induction l with
  | nil => intro j row; rfl
  | cons c l ih => intro j row; simp only [fillR]; rw [ih]; simp
theorem badIdx_all {data : Nat} {l : List Tok} : ∀ {last : Int}, badIdx data last l = none → ∀ t ∈ l, t.n < data := by
  induction l with
  | nil => intro _ _ t ht; cases ht
  | cons a l ih =>
    intro last h t ht
    simp only [badIdx] at h
    split at h
    · rename_i hc
      rcases List.mem_cons.1 ht with rfl | ht
      · exact hc.1
      · exact ih h t ht
    · cases h
end Go.Proofs.YtppeplonnippcaaDoor.Sp

namespace Go.Proofs.YtppeplonnippcaaDoor.Sp

/-- a token of a text of at most m bytes -/
structure G (m : Nat) (t : Tok) : Prop where
  n : t.n ≤ 99999
  len : t.txt.length ≤ m
  two : t.kind = 2 → t.txt ≠ []
def AllG (m : Nat) (ts : List Tok) : Prop := ∀ t ∈ ts, G m t

theorem valD_snoc (l : List UInt8) (c : UInt8) : valD (l ++ [c]) = 10 * valD l + (c.toNat - 48) := by simp [valD]
theorem valD_lt : ∀ (n : Nat) (l : List UInt8), l.length = n → (∀ c ∈ l, isD c = true) → valD l < 10 ^ n := by
  intro n
  induction n with
  | zero => intro l h _; have : l = [] := List.eq_nil_of_length_eq_zero h; subst this; simp [valD]
  | succ n ih =>
    intro l h hd
    have hne : l ≠ [] := by intro e; subst e; simp at h
    rw [← List.dropLast_concat_getLast hne, valD_snoc]
    have h1 := ih l.dropLast (by simp [h]) (fun c hc => hd c (List.dropLast_subset l hc))
    have h2 := hd (l.getLast hne) (List.getLast_mem hne)
    simp only [isD, Bool.and_eq_true, decide_eq_true_eq] at h2
    rw [Nat.pow_succ]
    omega
theorem tokAt_G (p : Nat) (l : List UInt8) : G l.length (tokAt p l) := by
  refine ⟨?_, tokAt_le p l, fun h e => ?_⟩
  · cases l with
    | nil => simp [tokAt]
    | cons c l =>
      simp only [tokAt]
      split
      · simp
      · split
        · split
          · simp
          · rename_i h
            simp only [not_or, Nat.not_lt] at h
            have h1 := valD_lt _ _ rfl (fun x hx => List.all_eq_true.1 (List.all_takeWhile (p := isD) (l := c :: l)) x hx)
            have h2 : 10 ^ ((c :: l).takeWhile isD).length ≤ 10 ^ 5 := Nat.pow_le_pow_right (by omega) h.1
            show valD ((c :: l).takeWhile isD) ≤ 99999
            omega
        · split <;> simp
  · have := tokAt_pos p l (by omega)
    rw [e] at this
    simp at this
theorem G.mono {m k : Nat} {t : Tok} (h : G m t) (hk : m ≤ k) : G k t := ⟨h.n, Nat.le_trans h.len hk, h.two⟩
theorem toks_G (n : Nat) : ∀ (l : List UInt8) (p : Nat), l.length = n → AllG l.length (toks p l) ∧ (toks p l).length ≤ l.length + 1 := by
  induction n using Nat.strongRecOn with
  | ind n ih =>
    intro l p hn
    have hG := (tokAt_G (p + skpN false l) (l.drop (skpN false l))).mono (k := l.length) (by simp)
    rw [toks]
    split
    · refine ⟨fun t ht => ?_, by simp⟩
      rw [List.mem_singleton.1 ht]; exact hG
    · rename_i h
      have h1 := tokAt_pos (p + skpN false l) (l.drop (skpN false l)) (by omega)
      have h2 := tokAt_le (p + skpN false l) (l.drop (skpN false l))
      simp only [List.length_drop] at h2
      have h3 := ih (l.drop (skpN false l + (tokAt (p + skpN false l) (l.drop (skpN false l))).txt.length)).length (by simp only [List.length_drop]; omega)
        _ (p + skpN false l + (tokAt (p + skpN false l) (l.drop (skpN false l))).txt.length) rfl
      refine ⟨fun t ht => ?_, ?_⟩
      · rcases List.mem_cons.1 ht with rfl | ht
        · exact hG
        · exact (h3.1 t ht).mono (by simp)
      · have := h3.2
        simp only [List.length_drop, List.length_cons] at this ⊢
        omega

theorem hd_G {m : Nat} {ts : List Tok} (h : AllG m ts) : G m (hd ts) := by
  cases ts with
  | nil => exact ⟨by simp [hd], by simp [hd], by simp [hd]⟩
  | cons a l => exact h a (List.mem_cons_self ..)
theorem tail_G {m : Nat} {ts : List Tok} (h : AllG m ts) : AllG m ts.tail := fun t ht => h t (List.mem_of_mem_tail ht)

section
variable {m : Nat} {ts t' : List Tok}
theorem pTok_g {t : List UInt8} {a : Tok} (h : pTok t ts = .ok (a, t')) (g : AllG m ts) : G m a ∧ AllG m t' ∧ t'.length ≤ ts.length := by
  obtain ⟨rfl, rfl⟩ := pTok_lt h
  exact ⟨hd_G g, tail_G g, tail_le _⟩
theorem pKind_g {k : Nat} {a : Tok} (h : pKind k ts = .ok (a, t')) (g : AllG m ts) : G m a ∧ a.kind = k ∧ AllG m t' ∧ t'.length ≤ ts.length := by
  unfold pKind at h
  split at h
  · rename_i hk
    simp only [Except.ok.injEq, Prod.mk.injEq] at h
    rw [← h.1, ← h.2]
    exact ⟨hd_G g, hk, tail_G g, tail_le _⟩
  · cases h
theorem pNums_g {a : List Tok} (h : pNums ts = .ok (a, t')) (g : AllG m ts) : AllG m a ∧ a.length ≤ ts.length ∧ AllG m t' ∧ t'.length ≤ ts.length := by
  have hl := pNums_le h
  unfold pNums at h
  split at h
  · simp only [Except.ok.injEq, Prod.mk.injEq] at h
    rw [← h.1, ← h.2]
    refine ⟨fun t ht => g t (List.takeWhile_subset _ ht), takeWhile_le _ _, fun t ht => g t (List.dropWhile_subset _ ht), dropWhile_le _ _⟩
  · cases h
theorem pOne_g {key : List UInt8} {a : Tok} (h : pOne key ts = .ok (a, t')) (g : AllG m ts) : G m a ∧ a.kind = 2 ∧ AllG m t' ∧ t'.length ≤ ts.length := by
  unfold pOne at h
  split at h
  · cases h
  · rename_i h1
    split at h
    · cases h
    · rename_i h2
      split at h
      · cases h
      · rename_i h3
        simp only [Except.ok.injEq, Prod.mk.injEq] at h
        rw [← h.1, ← h.2]
        have g1 := pTok_g h1 g
        have g2 := pKind_g h2 g1.2.1
        have g3 := pTok_g h3 g2.2.2.1
        exact ⟨g2.1, g2.2.1, g3.2.1, by omega⟩

structure RowG (m k : Nat) (x : Row) : Prop where
  idx : AllG m x.idx
  coef : AllG m x.coef
  il : x.idx.length ≤ k
  cl : x.coef.length ≤ k
theorem pRow_g {x : Row} (h : pRow ts = .ok (x, t')) (g : AllG m ts) : RowG m ts.length x ∧ AllG m t' := by
  unfold pRow at h
  split at h
  · split at h
    · cases h
    · rename_i h1
      split at h
      · cases h
      · rename_i h2
        split at h
        · cases h
        · rename_i h3
          split at h
          · cases h
          · rename_i h4
            simp only [Except.ok.injEq, Prod.mk.injEq] at h
            rw [← h.1, ← h.2]
            have g1 := pNums_g h1 (tail_G g)
            have g2 := pTok_g h2 g1.2.2.1
            have g3 := pNums_g h3 g2.2.1
            have g4 := pTok_g h4 g3.2.2.1
            have := tail_le ts
            exact ⟨⟨g1.1, g3.1, by simp only; omega, by simp only; omega⟩, g4.2.1⟩
  · split at h
    · cases h
    · rename_i h1
      split at h
      · cases h
      · rename_i h2
        split at h
        · cases h
        · rename_i h3
          simp only [Except.ok.injEq, Prod.mk.injEq] at h
          rw [← h.1, ← h.2]
          have g1 := pTok_g h1 g
          have g2 := pNums_g h2 g1.2.1
          have g3 := pTok_g h3 g2.2.2.1
          exact ⟨⟨(fun t ht => by cases ht), g2.1, by simp, by simp only; omega⟩, g3.2.1⟩
end
theorem RowG.mono {m k k' : Nat} {x : Row} (h : RowG m k x) (hk : k ≤ k') : RowG m k' x := ⟨h.idx, h.coef, Nat.le_trans h.il hk, Nat.le_trans h.cl hk⟩
theorem pMore_g {m : Nat} : ∀ (k : Nat) {ts t' : List Tok} {l : List Row}, pMore k ts = .ok (l, t') → AllG m ts →
    (∀ x ∈ l, RowG m ts.length x) ∧ AllG m t' ∧ l.length + t'.length ≤ ts.length := by
  intro k
  induction k with
  | zero =>
    intro ts t' l h g
    simp only [pMore, Except.ok.injEq, Prod.mk.injEq] at h
    rw [← h.1, ← h.2]
    exact ⟨(fun x hx => by cases hx), g, by simp⟩
  | succ k ih =>
    intro ts t' l h g
    simp only [pMore] at h
    split at h
    · split at h
      · cases h
      · rename_i x t1 h1
        split at h
        · cases h
        · rename_i l2 t2 h2
          simp only [Except.ok.injEq, Prod.mk.injEq] at h
          rw [← h.1, ← h.2]
          have hlt := pRow_lt h1
          have g1 := pRow_g h1 g
          have g2 := ih h2 g1.2
          refine ⟨fun y hy => ?_, g2.2.1, by simp only [List.length_cons]; omega⟩
          rcases List.mem_cons.1 hy with rfl | hy
          · exact g1.1
          · exact (g2.1 y hy).mono (by omega)
    · simp only [Except.ok.injEq, Prod.mk.injEq] at h
      rw [← h.1, ← h.2]
      exact ⟨(fun x hx => by cases hx), g, by simp⟩
structure SrcG (m k : Nat) (s : Src) : Prop where
  name : G m s.name
  field : G m s.field
  data : G m s.data
  rl : s.rows.length ≤ k
  rows : ∀ x ∈ s.rows, RowG m k x
  dom : ∀ t, s.dom = some t → t.txt ≠ [] ∧ G m t
theorem pCode_g {m : Nat} {ts t' : List Tok} {s : Src} (h : pCode ts = .ok (s, t')) (g : AllG m ts) : SrcG m ts.length s ∧ AllG m t' ∧ t'.length < ts.length := by
  unfold pCode at h
  split at h
  · cases h
  · rename_i nm f d t5 h1
    split at h
    · cases h
    · rename_i x t6 h2
      split at h
      · cases h
      · rename_i l t7 h3
        split at h
        · cases h
        · rename_i o t8 h4
          simp only [Except.ok.injEq, Prod.mk.injEq] at h
          rw [← h.1, ← h.2]
          have g1 : G m nm ∧ G m f ∧ G m d ∧ AllG m t5 ∧ t5.length ≤ ts.length := by
            unfold pHead at h1
            split at h1
            · cases h1
            · rename_i a1
              split at h1
              · cases h1
              · rename_i a2
                split at h1
                · cases h1
                · rename_i a3
                  split at h1
                  · cases h1
                  · rename_i a4
                    split at h1
                    · cases h1
                    · rename_i a5
                      simp only [Except.ok.injEq, Prod.mk.injEq] at h1
                      obtain ⟨⟨rfl, rfl, rfl⟩, rfl⟩ := h1
                      have b1 := pTok_g a1 g
                      have b2 := pKind_g a2 b1.2.1
                      have b3 := pTok_g a3 b2.2.2.1
                      have b4 := pOne_g a4 b3.2.1
                      have b5 := pOne_g a5 b4.2.2.1
                      exact ⟨b2.1, b4.1, b5.1, b5.2.2.1, by omega⟩
          have g2 := pRow_g h2 g1.2.2.2.1
          have hlt := pRow_lt h2
          have g3 := pMore_g _ h3 g2.2
          have g4 : (∀ t, o = some t → t.txt ≠ [] ∧ G m t) ∧ AllG m t8 ∧ t8.length ≤ t7.length := by
            unfold pTail at h4
            split at h4
            · cases h4
            · rename_i o' t1 a1
              split at h4
              · cases h4
              · rename_i a2
                simp only [Except.ok.injEq, Prod.mk.injEq] at h4
                obtain ⟨rfl, rfl⟩ := h4
                unfold pDom at a1
                split at a1
                · split at a1
                  · cases a1
                  · rename_i a3
                    simp only [Except.ok.injEq, Prod.mk.injEq] at a1
                    obtain ⟨rfl, rfl⟩ := a1
                    have b1 := pOne_g a3 g3.2.1
                    have b2 := pTok_g a2 b1.2.2.1
                    refine ⟨fun t ht => ?_, b2.2.1, by omega⟩
                    rw [← Option.some.inj ht]
                    exact ⟨b1.1.two b1.2.1, b1.1⟩
                · simp only [Except.ok.injEq, Prod.mk.injEq] at a1
                  obtain ⟨rfl, rfl⟩ := a1
                  have b2 := pTok_g a2 g3.2.1
                  exact ⟨(fun t ht => by cases ht), b2.2.1, by omega⟩
          refine ⟨⟨g1.1, g1.2.1, g1.2.2.1, by simp only [List.length_cons]; omega, fun y hy => ?_, g4.1⟩, g4.2.1, by omega⟩
          rcases List.mem_cons.1 hy with rfl | hy
          · exact g2.1.mono (by omega)
          · exact (g3.1 y hy).mono (by omega)
theorem pTok_le {t : List UInt8} {ts t' : List Tok} {a : Tok} (h : pTok t ts = .ok (a, t')) : t'.length ≤ ts.length := by
  obtain ⟨rfl, rfl⟩ := pTok_lt h; exact tail_le _
theorem pKind_le {k : Nat} {ts t' : List Tok} {a : Tok} (h : pKind k ts = .ok (a, t')) : t'.length ≤ ts.length := by
  unfold pKind at h
  split at h
  · simp only [Except.ok.injEq, Prod.mk.injEq] at h
    rw [← h.2]; exact tail_le _
  · cases h
theorem pOne_le {key : List UInt8} {ts t' : List Tok} {a : Tok} (h : pOne key ts = .ok (a, t')) : t'.length ≤ ts.length := by
  unfold pOne at h
  split at h
  · cases h
  · rename_i h1
    split at h
    · cases h
    · rename_i h2
      split at h
      · cases h
      · rename_i h3
        simp only [Except.ok.injEq, Prod.mk.injEq] at h
        rw [← h.2]
        have := pTok_le h1; have := pKind_le h2; have := pTok_le h3
        omega
theorem pHead_le {ts t' : List Tok} {a : Tok × Tok × Tok} (h1 : pHead ts = .ok (a, t')) : t'.length ≤ ts.length := by
  unfold pHead at h1
  split at h1
  · cases h1
  · rename_i a1
    split at h1
    · cases h1
    · rename_i a2
      split at h1
      · cases h1
      · rename_i a3
        split at h1
        · cases h1
        · rename_i a4
          split at h1
          · cases h1
          · rename_i a5
            simp only [Except.ok.injEq, Prod.mk.injEq] at h1
            rw [← h1.2]
            have := pTok_le a1; have := pKind_le a2; have := pTok_le a3; have := pOne_le a4; have := pOne_le a5
            omega
theorem pMore_le : ∀ (k : Nat) {ts t' : List Tok} {l : List Row}, pMore k ts = .ok (l, t') → t'.length ≤ ts.length := by
  intro k
  induction k with
  | zero =>
    intro ts t' l h
    simp only [pMore, Except.ok.injEq, Prod.mk.injEq] at h
    rw [← h.2]; exact Nat.le_refl _
  | succ k ih =>
    intro ts t' l h
    simp only [pMore] at h
    split at h
    · split at h
      · cases h
      · rename_i x t1 h1
        split at h
        · cases h
        · rename_i l2 t2 h2
          simp only [Except.ok.injEq, Prod.mk.injEq] at h
          rw [← h.2]
          have hlt := pRow_lt h1
          have := ih h2
          omega
    · simp only [Except.ok.injEq, Prod.mk.injEq] at h
      rw [← h.2]; exact Nat.le_refl _
theorem pTail_le {ts t' : List Tok} {o : Option Tok} (h4 : pTail ts = .ok (o, t')) : t'.length ≤ ts.length := by
  unfold pTail at h4
  split at h4
  · cases h4
  · rename_i o' t1 a1
    split at h4
    · cases h4
    · rename_i a2
      simp only [Except.ok.injEq, Prod.mk.injEq] at h4
      obtain ⟨rfl, rfl⟩ := h4
      have := pTok_le a2
      unfold pDom at a1
      split at a1
      · split at a1
        · cases a1
        · rename_i a3
          simp only [Except.ok.injEq, Prod.mk.injEq] at a1
          obtain ⟨rfl, rfl⟩ := a1
          have := pOne_le a3
          omega
      · simp only [Except.ok.injEq, Prod.mk.injEq] at a1
        obtain ⟨rfl, rfl⟩ := a1
        exact this
theorem pCode_lt {ts t' : List Tok} {s : Src} (h : pCode ts = .ok (s, t')) : t'.length < ts.length := by
  unfold pCode at h
  split at h
  · cases h
  · rename_i nm f d t5 h1
    split at h
    · cases h
    · rename_i x t6 h2
      split at h
      · cases h
      · rename_i l t7 h3
        split at h
        · cases h
        · rename_i o t8 h4
          simp only [Except.ok.injEq, Prod.mk.injEq] at h
          rw [← h.2]
          have := pHead_le h1; have := pRow_lt h2; have := pMore_le _ h3; have := pTail_le h4
          omega

/-- all codes: exactly one, or any number; acc has been read -/
def pAll (single : Bool) (acc : List Src) (ts : List Tok) : Except Nat (List Src) :=
  if (hd ts).kind = 4 ∧ ¬ (single = true ∧ acc = []) then .ok acc
  else if single = true ∧ acc ≠ [] then .error (hd ts).at_
  else match h : pCode ts with
    | .error p => .error p
    | .ok (x, t') => pAll single (acc ++ [x]) t'
termination_by ts.length
decreasing_by exact pCode_lt h

/-- a further code is read -/
def Goes (single : Bool) (acc : List Src) (ts : List Tok) : Prop := ¬ ((hd ts).kind = 4 ∧ ¬ (single = true ∧ acc = [])) ∧ ¬ (single = true ∧ acc ≠ [])
theorem pAll_end {single : Bool} {acc : List Src} {ts : List Tok} (h : (hd ts).kind = 4) (hn : ¬ (single = true ∧ acc = [])) : pAll single acc ts = .ok acc := by
  rw [pAll, if_pos ⟨h, hn⟩]
theorem pAll_more {single : Bool} {acc : List Src} {ts : List Tok} (h : ¬ (hd ts).kind = 4) (hn : single = true ∧ acc ≠ []) : pAll single acc ts = .error (hd ts).at_ := by
  rw [pAll, if_neg (fun hh => h hh.1), if_pos hn]
theorem pAll_bad {single : Bool} {acc : List Src} {ts : List Tok} {p : Nat} (h : Goes single acc ts) (hc : pCode ts = .error p) : pAll single acc ts = .error p := by
  rw [pAll, if_neg h.1, if_neg h.2]
  split
  · rename_i q hq; rw [hc] at hq; injection hq with hq; rw [hq]
  · rename_i x t' hq; rw [hc] at hq; cases hq
theorem pAll_ok {single : Bool} {acc : List Src} {ts t' : List Tok} {x : Src} (h : Goes single acc ts) (hc : pCode ts = .ok (x, t')) : pAll single acc ts = pAll single (acc ++ [x]) t' := by
  rw [pAll, if_neg h.1, if_neg h.2]
  split
  · rename_i q hq; rw [hc] at hq; cases hq
  · rename_i y t2 hq; rw [hc] at hq; injection hq with hq; injection hq with h1 h2; rw [h1, h2]

/-- all codes are built; acc stands already, and names are its names -/
def bAll : List Code → List (List UInt8) → List Src → Except Er (List Code)
  | acc, _, [] => .ok acc
  | acc, names, s :: l =>
    if 8 ≤ acc.length then .error (s.name.at_, 2)
    else if s.name.txt ∈ names then .error (s.name.at_, 4)
    else match bld s with
      | .error e => .error e
      | .ok c => bAll (acc ++ [c]) (names ++ [s.name.txt]) l

theorem bAll_err {acc : List Code} {names : List (List UInt8)} {s : Src} {l : List Src} {e : Er} (h1 : ¬ 8 ≤ acc.length) (h2 : ¬ s.name.txt ∈ names) (h3 : bld s = .error e) : bAll acc names (s :: l) = .error e := by
  simp only [bAll]; rw [if_neg h1, if_neg h2, h3]
theorem bAll_ok {acc : List Code} {names : List (List UInt8)} {s : Src} {l : List Src} {c : Code} (h1 : ¬ 8 ≤ acc.length) (h2 : ¬ s.name.txt ∈ names) (h3 : bld s = .ok c) : bAll acc names (s :: l) = bAll (acc ++ [c]) (names ++ [s.name.txt]) l := by
  simp only [bAll]; rw [if_neg h1, if_neg h2, h3]

def parseTs (single : Bool) (ts : List Tok) : Except Er (List Code) :=
  match pAll single [] ts with
  | .error p => .error (p, 3)
  | .ok l => bAll [] [] l
def parseL (single : Bool) (text : List UInt8) : Except Er (List Code) :=
  if 2000 < text.length then .error (0, 2) else parseTs single (toks 0 text)
end Go.Proofs.YtppeplonnippcaaDoor.Sp

namespace Go.Proofs.YtppeplonnippcaaDoor.Sp

def ErOk (e : Er) : Prop := 1 ≤ e.2 ∧ e.2 ≤ 4
theorem bldRow_er {x : Row} {d t : Nat} {e : Er} (h : bldRow x d t = .error e) : ErOk e := by
  unfold bldRow at h
  repeat' split at h
  all_goals first | (injection h with h; subst h; exact ⟨by simp, by simp⟩) | cases h
theorem bldRows_er {d t : Nat} {l : List Row} : ∀ {acc : List (List Int)} {e : Er}, bldRows d t acc l = .error e → ErOk e := by
  induction l with
  | nil => intro acc e h; simp [bldRows] at h
  | cons x l ih =>
    intro acc e h
    simp only [bldRows] at h
    split at h
    · split at h
      · rename_i e' he; injection h with h; subst h; exact bldRow_er he
      · exact ih h
    · injection h with h; subst h; exact ⟨by simp, by simp⟩
theorem bld_er {s : Src} {e : Er} (h : bld s = .error e) : ErOk e := by
  unfold bld at h
  split at h
  · injection h with h; subst h; exact ⟨by simp, by simp⟩
  · split at h
    · injection h with h; subst h; exact ⟨by simp, by simp⟩
    · split at h
      · injection h with h; subst h; exact ⟨by simp, by simp⟩
      · split at h
        · rename_i e' he; injection h with h; subst h; exact bldRows_er he
        · split at h
          · rename_i e' he
            injection h with h; subst h
            unfold bldDom at he
            split at he
            · cases he
            · split at he
              · cases he
              · injection he with he; subst he; exact ⟨by simp, by simp⟩
          · cases h
theorem bAll_er {l : List Src} : ∀ {acc : List Code} {names : List (List UInt8)} {e : Er}, bAll acc names l = .error e → ErOk e := by
  induction l with
  | nil => intro acc names e h; simp [bAll] at h
  | cons x l ih =>
    intro acc names e h
    simp only [bAll] at h
    split at h
    · injection h with h; subst h; exact ⟨by simp, by simp⟩
    · split at h
      · injection h with h; subst h; exact ⟨by simp, by simp⟩
      · split at h
        · rename_i e' he; injection h with h; subst h; exact bld_er he
        · exact ih h
theorem parseTs_er {single : Bool} {ts : List Tok} {e : Er} (h : parseTs single ts = .error e) : ErOk e := by
  unfold parseTs at h
  split at h
  · injection h with h; subst h; exact ⟨by simp, by simp⟩
  · exact bAll_er h
end Go.Proofs.YtppeplonnippcaaDoor.Sp

namespace Go.Proofs.YtppeplonnippcaaDoor.Sp
theorem bAll_len {l : List Src} : ∀ {acc cs : List Code} {names : List (List UInt8)}, bAll acc names l = .ok cs → cs.length = acc.length + l.length := by
  induction l with
  | nil => intro acc cs names h; simp only [bAll, Except.ok.injEq] at h; subst h; simp
  | cons x l ih =>
    intro acc cs names h
    simp only [bAll] at h
    split at h
    · cases h
    · split at h
      · cases h
      · split at h
        · cases h
        · have := ih h
          simp only [List.length_append, List.length_cons, List.length_nil] at this ⊢
          omega
theorem pAll_one {ts : List Tok} {l : List Src} (h : pAll true [] ts = .ok l) : l.length = 1 := by
  rw [pAll, if_neg (fun hh => hh.2 ⟨rfl, rfl⟩), if_neg (fun hh => hh.2 rfl)] at h
  split at h
  · cases h
  · rename_i x t' hc
    rw [pAll] at h
    split at h
    · simp only [Except.ok.injEq] at h; subst h; rfl
    · split at h
      · cases h
      · rename_i h2; exact absurd ⟨rfl, by simp⟩ h2
theorem parseL_one {text : List UInt8} {l : List Code} (h : parseL true text = .ok l) : l.length = 1 := by
  unfold parseL at h
  split at h
  · cases h
  · unfold parseTs at h
    split at h
    · cases h
    · rename_i l' hp
      have := bAll_len h
      rw [pAll_one hp] at this
      simpa using this
theorem parseL_er {single : Bool} {text : List UInt8} {e : Er} (h : parseL single text = .error e) : ErOk e := by
  unfold parseL at h
  split at h
  · injection h with h; subst h; exact ⟨by simp, by simp⟩
  · exact parseTs_er h
end Go.Proofs.YtppeplonnippcaaDoor.Sp

namespace Go.Proofs.YtppeplonnippcaaDoor.Sp

/-- a word -/
def wd : List UInt8 → Bool
  | [] => false
  | c :: l => isL c && l.all (fun x => isL x || isD x)
def rowOk (field data : Int) (r : List Int) : Bool := decide ((r.length : Int) = data) && r.all (fun x => decide (0 ≤ x) && decide (x ≤ 2 ^ field.toNat - 1)) && r.any (fun x => decide (0 < x))
/-- 0: valid; else the error's number -/
def ck (name : List UInt8) (field data : Int) (rows : List (List Int)) (dom : Int) : Nat :=
  if wd name = false then 4
  else if 12 < name.length then 2
  else if ¬ (field = 8 ∨ field = 16) ∨ data < 1 ∨ 31 < data ∨ rows = [] then 1
  else if 32 < data + rows.length then 2
  else if rows.all (rowOk field data) = false then 1
  else if dom < 1 ∨ data + rows.length < dom then 1
  else 0
/-- two codes are equal -/
def same (n1 : List UInt8) (f1 d1 : Int) (r1 : List (List Int)) (m1 : Int) (n2 : List UInt8) (f2 d2 : Int) (r2 : List (List Int)) (m2 : Int) : Bool :=
  decide (n1 = n2) && decide (f1 = f2) && decide (d1 = d2) && decide (r1 = r2) && decide (m1 = m2)
end Go.Proofs.YtppeplonnippcaaDoor.Sp

namespace Go.Proofs.YtppeplonnippcaaDoor.Sp

/-- a number's digits -/
def dec (n : Int) : List UInt8 := Lib.itoa n
def idxs : Nat → List Int → List UInt8
  | _, [] => []
  | j, x :: r => (if 0 < x then 32 :: dec j else []) ++ idxs (j + 1) r
def coefs : List Int → List UInt8
  | [] => []
  | x :: r => (if 0 < x then 32 :: dec x else []) ++ coefs r
def prRow (r : List Int) : List UInt8 := if (0 : Int) ∈ r then kLocal ++ idxs 0 r ++ [58] ++ coefs r else kParity ++ coefs r
def ln (s : List UInt8) : List UInt8 := [9] ++ s ++ [59, 10]
def prRows (rows : List (List Int)) : List UInt8 := (rows.map fun r => ln (prRow r)).flatten
def prS (name : List UInt8) (field data : Int) (rows : List (List Int)) (dom : Int) : List UInt8 :=
  (kCode ++ [32]) ++ name ++ [32, 123, 10] ++ ln ((kField ++ [32]) ++ dec field) ++ ln ((kData ++ [32]) ++ dec data) ++ prRows rows ++ ln ((kDomain ++ [32]) ++ dec dom) ++ [125, 10]
def pr (name : List UInt8) (field data : Int) (rows : List (List Int)) (dom : Int) : Except Nat (List UInt8) :=
  if ck name field data rows dom = 0 then (if 2000 < (prS name field data rows dom).length then .error 2 else .ok (prS name field data rows dom))
  else .error (ck name field data rows dom)

theorem idxs_snoc (l : List Int) (x : Int) : ∀ i, idxs i (l ++ [x]) = idxs i l ++ (if 0 < x then 32 :: dec ((i + l.length : Nat) : Int) else []) := by
  induction l with
  | nil => intro i; simp [idxs]
  | cons a l ih => intro i; simp only [List.cons_append, idxs]; rw [ih]; simp only [List.append_assoc, List.length_cons]; rw [show i + 1 + l.length = i + (l.length + 1) from by omega]
theorem coefs_snoc (l : List Int) (x : Int) : coefs (l ++ [x]) = coefs l ++ (if 0 < x then 32 :: dec x else []) := by
  induction l with
  | nil => simp [coefs]
  | cons a l ih => simp only [List.cons_append, coefs]; rw [ih]; simp only [List.append_assoc]

theorem decD_len : ∀ (k n : Nat), n < 10 ^ (k + 1) → (Lib.decDigits n).length ≤ k + 1 := by
  intro k
  induction k with
  | zero => intro n h; rw [Lib.decDigits, dif_pos (by simpa using h)]; simp
  | succ k ih =>
    intro n h
    rw [Lib.decDigits]
    split
    · simp
    · rw [List.length_append]
      have := ih (n / 10) (by rw [Nat.pow_succ] at h; omega)
      simp; omega
theorem decD_ne (n : Nat) : Lib.decDigits n ≠ [] := by
  rw [Lib.decDigits]; split <;> simp
theorem dec_len {n : Int} (h0 : 0 ≤ n) (h1 : n ≤ 99999) : (dec n).length ≤ 5 := by
  unfold dec Lib.itoa
  rw [if_neg (by omega)]
  exact decD_len 4 _ (by omega)
theorem idxs_len (l : List Int) : ∀ i, i + l.length ≤ 99999 → (idxs i l).length ≤ 6 * l.length := by
  induction l with
  | nil => intro i _; simp [idxs]
  | cons a l ih =>
    intro i h
    simp only [List.length_cons] at h
    have h1 := ih (i + 1) (by omega)
    have h2 := dec_len (n := (i : Int)) (by omega) (by omega)
    simp only [idxs, List.length_append, List.length_cons]
    split <;> simp <;> omega
theorem coefs_len (l : List Int) (h : ∀ x ∈ l, x ≤ 99999) : (coefs l).length ≤ 6 * l.length := by
  induction l with
  | nil => simp [coefs]
  | cons a l ih =>
    have h1 := ih (fun x hx => h x (List.mem_cons_of_mem _ hx))
    have h3 := h a (List.mem_cons_self ..)
    simp only [coefs, List.length_append, List.length_cons]
    split
    · have h2 := dec_len (n := a) (by omega) h3
      simp; omega
    · simp; omega
theorem prRow_len {r : List Int} (hl : r.length ≤ 99) (h : ∀ x ∈ r, x ≤ 99999) : (prRow r).length ≤ 2000 := by
  have h1 := idxs_len r 0 (by omega)
  have h2 := coefs_len r h
  unfold prRow
  split <;> simp [kLocal, kParity] <;> omega
end Go.Proofs.YtppeplonnippcaaDoor.Sp

namespace Go.Proofs.YtppeplonnippcaaDoor.Sp

structure Fine (name : List UInt8) (field data : Int) (rows : List (List Int)) (dom : Int) : Prop where
  wd : wd name = true
  len : name.length ≤ 12
  fi : field = 8 ∨ field = 16
  d1 : 1 ≤ data
  d31 : data ≤ 31
  ne : rows ≠ []
  width : data + rows.length ≤ 32
  each : ∀ r ∈ rows, rowOk field data r = true
  m1 : 1 ≤ dom
  mw : dom ≤ data + rows.length
theorem ck_fine {name : List UInt8} {field data : Int} {rows : List (List Int)} {dom : Int} (h : ck name field data rows dom = 0) : Fine name field data rows dom := by
  unfold ck at h
  split at h
  · omega
  · rename_i h1
    split at h
    · omega
    · rename_i h2
      split at h
      · omega
      · rename_i h3
        split at h
        · omega
        · rename_i h4
          split at h
          · omega
          · rename_i h5
            split at h
            · omega
            · rename_i h6
              simp only [not_or, Decidable.not_not, Int.not_lt] at h3 h6
              simp only [Bool.not_eq_false] at h1 h5
              exact ⟨h1, by omega, by omega, by omega, by omega, h3.2.2.2, by omega, fun r hr => List.all_eq_true.1 h5 r hr, by omega, by omega⟩
theorem fine_ck {name : List UInt8} {field data : Int} {rows : List (List Int)} {dom : Int} (h : Fine name field data rows dom) : ck name field data rows dom = 0 := by
  unfold ck
  rw [if_neg (by rw [h.wd]; decide), if_neg (by have := h.len; omega), if_neg, if_neg (by have := h.width; omega), if_neg, if_neg (by have := h.m1; have := h.mw; omega)]
  · rw [List.all_eq_true.2 h.each]; decide
  · have := h.d1; have := h.d31
    exact fun hh => hh.elim (fun k => k h.fi) (fun k => k.elim (fun k => by omega) (fun k => k.elim (fun k => by omega) (fun k => h.ne k)))
theorem rowOk_facts {field data : Int} {r : List Int} (h : rowOk field data r = true) : (r.length : Int) = data ∧ (∀ x ∈ r, 0 ≤ x ∧ x ≤ 2 ^ field.toNat - 1) ∧ ∃ x ∈ r, 0 < x := by
  simp only [rowOk, Bool.and_eq_true, decide_eq_true_eq, List.all_eq_true, List.any_eq_true] at h
  exact ⟨h.1.1, h.1.2, h.2⟩
theorem Fine.top {name : List UInt8} {field data : Int} {rows : List (List Int)} {dom : Int} (h : Fine name field data rows dom) : (2 : Int) ^ field.toNat - 1 ≤ 65535 := by
  rcases h.fi with e | e <;> subst e <;> decide
theorem Fine.row {name : List UInt8} {field data : Int} {rows : List (List Int)} {dom : Int} (h : Fine name field data rows dom) {r : List Int} (hr : r ∈ rows) : r.length ≤ 31 ∧ ∀ x ∈ r, 0 ≤ x ∧ x ≤ 65535 := by
  obtain ⟨h1, h2, _⟩ := rowOk_facts (h.each r hr)
  have := h.d31; have ht := h.top
  exact ⟨by omega, fun x hx => ⟨(h2 x hx).1, by have := (h2 x hx).2; omega⟩⟩
theorem prRows_snoc (l : List (List Int)) (r : List Int) : prRows (l ++ [r]) = prRows l ++ ln (prRow r) := by simp [prRows]
theorem prRows_len (l : List (List Int)) (h : ∀ r ∈ l, r.length ≤ 99 ∧ ∀ x ∈ r, x ≤ 99999) : (prRows l).length ≤ 2003 * l.length := by
  induction l with
  | nil => simp [prRows]
  | cons r l ih =>
    have h1 := ih (fun r hr => h r (List.mem_cons_of_mem _ hr))
    have h2 := prRow_len (h r (List.mem_cons_self ..)).1 (h r (List.mem_cons_self ..)).2
    simp only [prRows, List.map_cons, List.flatten_cons, List.length_append, ln, List.length_cons, List.length_nil] at h1 ⊢
    omega
end Go.Proofs.YtppeplonnippcaaDoor.Sp

namespace Go.Proofs.YtppeplonnippcaaDoor.Sp

def toksF : Nat → Nat → List UInt8 → List Tok
  | 0, _, _ => []
  | f + 1, p, l =>
    if 3 < (tokAt (p + skpN false l) (l.drop (skpN false l))).kind then [tokAt (p + skpN false l) (l.drop (skpN false l))]
    else tokAt (p + skpN false l) (l.drop (skpN false l)) ::
      toksF f (p + skpN false l + (tokAt (p + skpN false l) (l.drop (skpN false l))).txt.length)
        (l.drop (skpN false l + (tokAt (p + skpN false l) (l.drop (skpN false l))).txt.length))
theorem toksF_eq : ∀ (f p : Nat) (l : List UInt8), l.length < f → toksF f p l = toks p l := by
  intro f
  induction f with
  | zero => intro p l h; omega
  | succ f ih =>
    intro p l h
    rw [toks, toksF]
    split
    · rfl
    · rename_i hk
      have h1 := tokAt_pos (p + skpN false l) (l.drop (skpN false l)) (by omega)
      have h2 := tokAt_le (p + skpN false l) (l.drop (skpN false l))
      simp only [List.length_drop] at h2
      rw [ih]
      simp only [List.length_drop]; omega

def pAllF (single : Bool) : Nat → List Src → List Tok → Except Nat (List Src)
  | 0, _, _ => .ok []
  | f + 1, acc, ts =>
    if (hd ts).kind = 4 ∧ ¬ (single = true ∧ acc.isEmpty = true) then .ok acc
    else if single = true ∧ acc.isEmpty = false then .error (hd ts).at_
    else match pCode ts with
      | .error p => .error p
      | .ok (x, t') => pAllF single f (acc ++ [x]) t'
theorem pAllF_eq (single : Bool) : ∀ (f : Nat) (acc : List Src) (ts : List Tok), ts.length < f → pAllF single f acc ts = pAll single acc ts := by
  intro f
  induction f with
  | zero => intro acc ts h; omega
  | succ f ih =>
    intro acc ts h
    have he : (acc.isEmpty = true) = (acc = []) := by simp
    have hn : (acc.isEmpty = false) = (acc ≠ []) := by cases acc <;> simp
    rw [pAll, pAllF]
    simp only [he, hn]
    split
    · rfl
    · split
      · rfl
      · split
        · rename_i p hp; split
          · rename_i q hq; rw [hp] at hq; injection hq with hq; rw [hq]
          · rename_i x t hq; rw [hp] at hq; cases hq
        · rename_i x t' hp; split
          · rename_i q hq; rw [hp] at hq; cases hq
          · rename_i y t2 hq
            rw [hp] at hq
            injection hq with hq
            injection hq with h1 h2
            subst h1 h2
            exact ih _ _ (by have := pCode_lt hp; omega)

def parseF (single : Bool) (text : List UInt8) : Except Er (List Code) :=
  if 2000 < text.length then .error (0, 2) else
    match pAllF single (text.length + 2) [] (toksF (text.length + 1) 0 text) with
    | .error p => .error (p, 3)
    | .ok l => bAll [] [] l
theorem parseF_eq (single : Bool) (text : List UInt8) : parseL single text = parseF single text := by
  unfold parseL parseF parseTs
  have h := (toks_G _ text 0 rfl).2
  rw [toksF_eq _ _ _ (Nat.lt_succ_self _), pAllF_eq _ _ _ _ (by omega)]

def tA : List UInt8 := [99, 111, 100, 101, 32, 97, 32, 123, 10, 9, 102, 105, 101, 108, 100, 32, 56, 59, 10, 9, 100, 97, 116, 97, 32, 51, 59, 10, 9, 108, 111, 99, 97, 108, 32, 48, 32, 50, 58, 32, 49, 32, 55, 59, 10, 9, 100, 111, 109, 97, 105, 110, 32, 50, 59, 10, 125, 10]
def tB : List UInt8 := [99, 111, 100, 101, 32, 98, 32, 123, 32, 102, 105, 101, 108, 100, 32, 56, 59, 32, 100, 97, 116, 97, 32, 49, 59, 32, 112, 97, 114, 105, 116, 121, 32, 57, 59, 32, 125]
def tC : List UInt8 := [99, 111, 100, 101, 32, 97, 32, 123, 32, 102, 105, 101, 108, 100, 32, 56, 59, 32, 100, 97, 116, 97, 32, 50, 59, 32, 112, 97, 114, 105, 116, 121, 32, 49, 59, 32, 125]
def tD : List UInt8 := [99, 111, 100, 101, 32, 97, 32, 123]
def cA : Code := ⟨[97], 8, 3, [[1, 0, 7]], 2⟩
def cB : Code := ⟨[98], 8, 1, [[9]], 2⟩
theorem ev1 : parseL true tA = .ok [cA] := by rw [parseF_eq]; kernel_rfl
theorem ev2 : parseL true tC = .error (26, 1) := by rw [parseF_eq]; kernel_rfl
theorem ev3 : parseL true tD = .error (8, 3) := by rw [parseF_eq]; kernel_rfl
theorem ev4 : parseL false (tA ++ tB) = .ok [cA, cB] := by rw [parseF_eq]; kernel_rfl
theorem ev5 : parseL false (tA ++ tA) = .error (tA.length + 5, 4) := by rw [parseF_eq]; kernel_rfl
theorem ev6 : ck [97] 8 3 [[1, 0, 7]] 2 = 0 := by kernel_rfl
theorem ev7 : ck [] 0 0 [] 0 = 4 := by kernel_rfl
theorem dec1 (n : Nat) (h : n < 10) : dec (n : Int) = [UInt8.ofNat (48 + n)] := by
  unfold dec Lib.itoa
  rw [if_neg (by omega), Int.toNat_natCast, Lib.decDigits, dif_pos h]
theorem ev8 : pr [97] 8 3 [[1, 0, 7]] 2 = .ok tA := by
  have e : prS [97] 8 3 [[1, 0, 7]] 2 = tA := by
    have d0 := dec1 0 (by omega); have d1 := dec1 1 (by omega); have d2 := dec1 2 (by omega); have d3 := dec1 3 (by omega); have d7 := dec1 7 (by omega); have d8 := dec1 8 (by omega)
    simp only [Int.cast_ofNat_Int] at d0 d1 d2 d3 d7 d8
    simp [prS, prRows, prRow, idxs, coefs, ln, d0, d1, d2, d3, d7, d8, kCode, kField, kData, kDomain, kLocal, kParity, tA]
  unfold pr
  rw [ev6, if_pos rfl, e, if_neg (by decide)]
end Go.Proofs.YtppeplonnippcaaDoor.Sp
