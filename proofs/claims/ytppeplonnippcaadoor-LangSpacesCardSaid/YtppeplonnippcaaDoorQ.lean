/-
Layer 7: a text that is made of gaps and tokens is parsed as these tokens.
Layer 7: the tokens of a printed code are parsed as the code.
Layer 7: a source that is a fine code is built as this code; the text of codes is parsed as these codes.
Layer 7: the text of codes that can be printed is parsed as these codes.
Layer 7: the texts of codes are parsed as the codes; what is parsed is a fine code; a text without the closing brace is no code.
Layer 7: what is parsed is a fine code; a text without the closing brace is no code.
Layer 7: where a text is refused; what Parse accepts is a fine code; a text without the closing brace is no code.
-/
import Derived.Test.YtppeplonnippcaaDoorS
set_option linter.unusedVariables false
set_option linter.unusedSimpArgs false
namespace Go.Proofs.YtppeplonnippcaaDoor.Sp

/-- what stands between two tokens -/
def Gap (g : List UInt8) : Prop := ∀ rest, skpN false (g ++ rest) = g.length + skpN false rest
theorem gap_nil : Gap [] := fun rest => by simp
theorem gap_app {a b : List UInt8} (ha : Gap a) (hb : Gap b) : Gap (a ++ b) := fun rest => by
  rw [List.append_assoc, ha, hb, List.length_append]; omega
theorem gap_b {c : UInt8} (h : isB c = true) : Gap [c] := fun rest => by
  simp only [List.cons_append, List.nil_append, skpN, h, if_true, List.length_cons, List.length_nil]

/-- a token, whatever its offset -/
inductive Lx where
  | word (w : List UInt8)
  | num (n : Nat)
  | sign (c : UInt8)
def Lx.txt : Lx → List UInt8
  | .word w => w
  | .num n => Lib.decDigits n
  | .sign c => [c]
def Lx.Ok : Lx → Prop
  | .word w => wd w = true
  | .num n => n ≤ 99999
  | .sign c => isS c = true
def Lx.tok (p : Nat) : Lx → Tok
  | .word w => ⟨p, 1, w, 0⟩
  | .num n => ⟨p, 2, Lib.decDigits n, n⟩
  | .sign c => ⟨p, 3, [c], 0⟩
/-- the text does not go on with a letter or a digit -/
def Ends (l : List UInt8) : Prop := ∀ c, l.head? = some c → isL c = false ∧ isD c = false
def Lx.glues : Lx → Bool
  | .sign _ => false
  | _ => true

theorem takeWhile_stop {α : Type} (p : α → Bool) (l r : List α) (hl : l.all p = true) (hr : ∀ c, r.head? = some c → p c = false) : (l ++ r).takeWhile p = l := by
  induction l with
  | nil =>
    cases r with
    | nil => rfl
    | cons c r => simp [List.takeWhile_cons, hr c rfl]
  | cons a l ih =>
    simp only [List.all_cons, Bool.and_eq_true] at hl
    simp only [List.cons_append, List.takeWhile_cons, hl.1, if_true, ih hl.2]

theorem isD_dec (n : Nat) : (Lib.decDigits n).all isD = true := by
  induction n using Nat.strongRecOn with
  | _ n ih =>
    have dg : ∀ k, k < 10 → isD (UInt8.ofNat (48 + k)) = true := fun k hk => by
      rcases (by omega : k = 0 ∨ k = 1 ∨ k = 2 ∨ k = 3 ∨ k = 4 ∨ k = 5 ∨ k = 6 ∨ k = 7 ∨ k = 8 ∨ k = 9) with h | h | h | h | h | h | h | h | h | h <;> subst h <;> rfl
    rw [Lib.decDigits]
    split
    · rename_i h; simp only [List.all_cons, List.all_nil, Bool.and_true]; exact dg n h
    · rw [List.all_append, ih (n / 10) (by omega)]
      simp only [List.all_cons, List.all_nil, Bool.and_true, Bool.true_and]
      exact dg _ (by omega)
theorem toNat_dg (k : Nat) (h : k < 10) : (UInt8.ofNat (48 + k)).toNat - 48 = k := by
  rcases (by omega : k = 0 ∨ k = 1 ∨ k = 2 ∨ k = 3 ∨ k = 4 ∨ k = 5 ∨ k = 6 ∨ k = 7 ∨ k = 8 ∨ k = 9) with h | h | h | h | h | h | h | h | h | h <;> subst h <;> rfl
theorem val_dec (n : Nat) : valD (Lib.decDigits n) = n := by
  induction n using Nat.strongRecOn with
  | _ n ih =>
    rw [Lib.decDigits]
    split
    · rename_i h
      have := toNat_dg n h
      show 10 * 0 + ((UInt8.ofNat (48 + n)).toNat - 48) = n
      omega
    · rw [valD_snoc, ih (n / 10) (by omega), toNat_dg _ (by omega)]
      omega
/-- no number begins with a 0 but 0 itself -/
theorem dec_head (n : Nat) (h : 10 ≤ n) : ∃ c r, Lib.decDigits n = c :: r ∧ c.toNat ≠ 48 := by
  induction n using Nat.strongRecOn with
  | _ n ih =>
    rw [Lib.decDigits, dif_neg (by omega)]
    by_cases h2 : n / 10 < 10
    · rw [Lib.decDigits, dif_pos h2]
      refine ⟨_, _, rfl, ?_⟩
      have h3 := toNat_dg (n / 10) h2
      intro e
      omega
    · obtain ⟨c, r, e, hc⟩ := ih (n / 10) (by omega) (by omega)
      rw [e]
      exact ⟨c, _, rfl, hc⟩

theorem tokAt_lx (p : Nat) (x : Lx) (rest : List UInt8) (hx : x.Ok) (hr : x.glues = true → Ends rest) : tokAt p (x.txt ++ rest) = x.tok p := by
  cases x with
  | word w =>
    cases w with
    | nil => simp [Lx.Ok, wd] at hx
    | cons c w =>
      simp only [Lx.Ok, wd, Bool.and_eq_true] at hx
      have he := hr rfl
      simp only [Lx.txt, List.cons_append, tokAt, hx.1, if_true, Lx.tok, Tok.mk.injEq, and_true, true_and]
      rw [← List.cons_append]
      exact takeWhile_stop _ _ _ (by simp only [List.all_cons, hx.1, Bool.true_or, Bool.true_and]; exact hx.2) (fun c hc => by have := he c hc; simp [this.1, this.2])
  | num n =>
    have he := hr rfl
    have hd := isD_dec n
    have hl := decD_len 4 n (by have : n ≤ 99999 := hx; omega)
    have hv := val_dec n
    have htw : (Lib.decDigits n ++ rest).takeWhile isD = Lib.decDigits n := takeWhile_stop _ _ _ hd (fun c hc => (he c hc).2)
    obtain ⟨c, r, hcr⟩ : ∃ c r, Lib.decDigits n = c :: r := by
      rcases h : Lib.decDigits n with _ | ⟨c, r⟩
      · exact absurd h (decD_ne n)
      · exact ⟨c, r, rfl⟩
    have hcd : isD c = true := by rw [hcr] at hd; simp only [List.all_cons, Bool.and_eq_true] at hd; exact hd.1
    have hcl : isL c = false := by
      simp only [isD, Bool.and_eq_true, decide_eq_true_eq] at hcd
      simp only [isL, Bool.and_eq_false_iff, decide_eq_false_iff_not]
      omega
    have hnz : ¬ (5 < (Lib.decDigits n).length ∨ (c.toNat = 48 ∧ 1 < (Lib.decDigits n).length)) := by
      rintro (h | ⟨h, h1⟩)
      · omega
      · by_cases h10 : n < 10
        · rw [Lib.decDigits, dif_pos h10] at h1; simp at h1
        · obtain ⟨c', r', e, hc'⟩ := dec_head n (by omega)
          rw [hcr] at e
          injection e with e1 e2
          subst e1
          exact hc' h
    show tokAt p (Lib.decDigits n ++ rest) = ⟨p, 2, Lib.decDigits n, n⟩
    rw [hcr] at htw hnz hv ⊢
    simp only [List.cons_append] at htw ⊢
    simp only [tokAt, hcl, hcd, Bool.false_eq_true, if_false, if_true, htw]
    rw [if_neg hnz, hv]
  | sign c =>
    have hc : isS c = true := hx
    have hcl : isL c = false ∧ isD c = false := by
      simp only [isS, Bool.or_eq_true, decide_eq_true_eq] at hc
      simp only [isL, isD, Bool.and_eq_false_iff, decide_eq_false_iff_not]
      omega
    simp only [Lx.txt, List.cons_append, List.nil_append, tokAt, hcl.1, hcl.2, hc, Bool.false_eq_true, if_false, if_true, Lx.tok]

theorem skp_lx (x : Lx) (rest : List UInt8) (hx : x.Ok) : skpN false (x.txt ++ rest) = 0 := by
  have key : ∀ c l, (isL c = true ∨ isD c = true ∨ isS c = true) → skpN false (c :: l) = 0 := fun c l h => by
    have h1 : isB c = false := by
      simp only [isL, isD, isS, Bool.and_eq_true, Bool.or_eq_true, decide_eq_true_eq] at h
      simp only [isB, Bool.or_eq_false_iff, decide_eq_false_iff_not]; omega
    have h2 : ¬ c.toNat = 35 := by
      simp only [isL, isD, isS, Bool.and_eq_true, Bool.or_eq_true, decide_eq_true_eq] at h
      omega
    simp only [skpN, h1, h2, Bool.false_eq_true, if_false]
  cases x with
  | word w =>
    cases w with
    | nil => simp [Lx.Ok, wd] at hx
    | cons c w =>
      simp only [Lx.Ok, wd, Bool.and_eq_true] at hx
      exact key c _ (.inl hx.1)
  | num n =>
    have hd := isD_dec n
    show skpN false (Lib.decDigits n ++ rest) = 0
    rcases h : Lib.decDigits n with _ | ⟨c, r⟩
    · exact absurd h (decD_ne n)
    · rw [h] at hd
      simp only [List.all_cons, Bool.and_eq_true] at hd
      exact key c _ (.inr (.inl hd.1))
  | sign c => exact key c _ (.inr (.inr hx))

theorem toks_cons (p : Nat) (g : List UInt8) (x : Lx) (rest : List UInt8) (hg : Gap g) (hx : x.Ok) (hr : x.glues = true → Ends rest) :
    toks p (g ++ (x.txt ++ rest)) = x.tok (p + g.length) :: toks (p + g.length + x.txt.length) rest := by
  have h1 : skpN false (g ++ (x.txt ++ rest)) = g.length := by rw [hg, skp_lx x rest hx]; omega
  have h2 : (g ++ (x.txt ++ rest)).drop g.length = x.txt ++ rest := List.drop_left
  have h3 : (x.tok (p + g.length)).txt = x.txt := by cases x <;> rfl
  have h4 : ¬ 3 < (x.tok (p + g.length)).kind := by cases x <;> simp [Lx.tok]
  rw [toks]
  simp only [h1, h2, tokAt_lx _ x rest hx hr]
  rw [dif_neg h4, h3]
  congr 1
  rw [← List.drop_drop, h2, List.drop_left]
theorem toks_end (p : Nat) (g : List UInt8) (hg : Gap g) : toks p g = [⟨p + g.length, 4, [], 0⟩] := by
  have h := hg []
  simp only [List.append_nil, skpN, Nat.add_zero] at h
  rw [toks]
  simp only [h, List.drop_length, tokAt]
  rw [dif_pos (by show 3 < 4; omega)]

/-- gaps and tokens, one behind the other -/
def render : List (List UInt8 × Lx) → List UInt8 → List UInt8
  | [], e => e
  | (g, x) :: l, e => g ++ (x.txt ++ render l e)
/-- each token is one; where two would run together a gap that begins with no letter and no digit stands between them -/
def Fits : List (List UInt8 × Lx) → List UInt8 → Prop
  | [], e => Gap e
  | (g, x) :: l, e => Gap g ∧ x.Ok ∧ (x.glues = true → Ends (render l e)) ∧ Fits l e
def toksOf (p : Nat) : List (List UInt8 × Lx) → List UInt8 → List Tok
  | [], e => [⟨p + e.length, 4, [], 0⟩]
  | (g, x) :: l, e => x.tok (p + g.length) :: toksOf (p + g.length + x.txt.length) l e
theorem toks_render : ∀ (l : List (List UInt8 × Lx)) (e : List UInt8) (p : Nat), Fits l e → toks p (render l e) = toksOf p l e
  | [], e, p, h => toks_end p e h
  | (g, x) :: l, e, p, h => by
    obtain ⟨h1, h2, h3, h4⟩ := h
    rw [render, toks_cons p g x _ h1 h2 h3, toksOf, toks_render l e _ h4]

/-- the tokens are these, whatever their offsets -/
def Is (t : Tok) (x : Lx) : Prop := ∃ p, t = x.tok p
def Mt : List Tok → List Lx → Prop
  | ts, [] => ts = []
  | ts, x :: l => ∃ t r, ts = t :: r ∧ Is t x ∧ Mt r l
theorem toksOf_split : ∀ (l : List (List UInt8 × Lx)) (e : List UInt8) (p : Nat), ∃ ts t, toksOf p l e = ts ++ [t] ∧ t.kind = 4 ∧ Mt ts (l.map (·.2))
  | [], e, p => ⟨[], _, rfl, rfl, rfl⟩
  | (g, x) :: l, e, p => by
    obtain ⟨ts, t, h1, h2, h3⟩ := toksOf_split l e (p + g.length + x.txt.length)
    exact ⟨_ :: ts, t, by rw [toksOf, h1]; rfl, h2, _, ts, rfl, ⟨_, rfl⟩, h3⟩
theorem Mt.app {ts us : List Tok} {l m : List Lx} (h : Mt ts l) (k : Mt us m) : Mt (ts ++ us) (l ++ m) := by
  induction l generalizing ts with
  | nil => rw [show ts = [] from h]; exact k
  | cons x l ih => obtain ⟨t, r, rfl, h1, h2⟩ := h; exact ⟨t, _, rfl, h1, ih h2⟩
theorem Mt.split {ts : List Tok} {l m : List Lx} (h : Mt ts (l ++ m)) : ∃ us vs, ts = us ++ vs ∧ Mt us l ∧ Mt vs m := by
  induction l generalizing ts with
  | nil => exact ⟨[], ts, rfl, rfl, h⟩
  | cons x l ih =>
    obtain ⟨t, r, rfl, h1, h2⟩ := h
    obtain ⟨us, vs, rfl, h3, h4⟩ := ih h2
    exact ⟨t :: us, vs, rfl, ⟨t, us, rfl, h1, h3⟩, h4⟩
end Go.Proofs.YtppeplonnippcaaDoor.Sp

namespace Go.Proofs.YtppeplonnippcaaDoor.Sp

def idxL : Nat → List Int → List Nat
  | _, [] => []
  | j, x :: r => if 0 < x then j :: idxL (j + 1) r else idxL (j + 1) r
def coefL : List Int → List Nat
  | [] => []
  | x :: r => if 0 < x then x.toNat :: coefL r else coefL r
def lxRow (r : List Int) : List Lx :=
  if (0 : Int) ∈ r then .word kLocal :: ((idxL 0 r).map .num ++ (.sign 58 :: ((coefL r).map .num ++ [.sign 59])))
  else .word kParity :: ((coefL r).map .num ++ [.sign 59])
def lxRows (rows : List (List Int)) : List Lx := rows.flatMap lxRow
def lxCode (name : List UInt8) (f d : Nat) (rows : List (List Int)) (m : Nat) : List Lx :=
  [.word kCode, .word name, .sign 123, .word kField, .num f, .sign 59, .word kData, .num d, .sign 59] ++ (lxRows rows ++ [.word kDomain, .num m, .sign 59, .sign 125])

theorem Is.txt {t : Tok} {x : Lx} (h : Is t x) : t.txt = x.txt := by obtain ⟨p, rfl⟩ := h; cases x <;> rfl
theorem Is.word {t : Tok} {w : List UInt8} (h : Is t (.word w)) : t.txt = w ∧ t.kind = 1 := by obtain ⟨p, rfl⟩ := h; exact ⟨rfl, rfl⟩
theorem Is.num {t : Tok} {n : Nat} (h : Is t (.num n)) : t.kind = 2 ∧ t.n = n := by obtain ⟨p, rfl⟩ := h; exact ⟨rfl, rfl⟩
theorem Is.sign {t : Tok} {c : UInt8} (h : Is t (.sign c)) : t.txt = [c] ∧ t.kind = 3 := by obtain ⟨p, rfl⟩ := h; exact ⟨rfl, rfl⟩

theorem pTok_yes {k : List UInt8} {t : Tok} {r : List Tok} (h : t.txt = k) : pTok k (t :: r) = .ok (t, r) := by unfold pTok; rw [if_pos (show (hd (t :: r)).txt = k from h)]; rfl
theorem pKind_yes {k : Nat} {t : Tok} {r : List Tok} (h : t.kind = k) : pKind k (t :: r) = .ok (t, r) := by unfold pKind; rw [if_pos (show (hd (t :: r)).kind = k from h)]; rfl
theorem pOne_yes {key : List UInt8} {a b c : Tok} {r : List Tok} (h1 : a.txt = key) (h2 : b.kind = 2) (h3 : c.txt = kSemi) : pOne key (a :: b :: c :: r) = .ok (b, r) := by
  unfold pOne
  rw [pTok_yes h1]
  simp only
  rw [pKind_yes h2]
  simp only
  rw [pTok_yes h3]
theorem Mt.nums {ts : List Tok} {ns : List Nat} (h : Mt ts (ns.map .num)) : ts.map (·.n) = ns ∧ ∀ t ∈ ts, isN t = true := by
  induction ns generalizing ts with
  | nil => rw [show ts = [] from h]; exact ⟨rfl, fun t ht => by cases ht⟩
  | cons n ns ih =>
    obtain ⟨t, r, rfl, h1, h2⟩ := h
    obtain ⟨h3, h4⟩ := ih h2
    have := h1.num
    refine ⟨by simp only [List.map_cons, h3, this.2], fun u hu => ?_⟩
    rcases List.mem_cons.1 hu with rfl | hu
    · simp [isN, this.1]
    · exact h4 u hu
theorem pNums_yes {ts : List Tok} {t : Tok} {r : List Tok} (h : ∀ u ∈ ts, isN u = true) (hne : ts ≠ []) (ht : t.kind ≠ 2) : pNums (ts ++ t :: r) = .ok (ts, t :: r) := by
  have htn : isN t = false := by simp [isN, ht]
  have h1 : (ts ++ t :: r).takeWhile isN = ts := takeWhile_stop isN ts (t :: r) (List.all_eq_true.2 h) (fun c hc => by injection hc with hc; subst hc; exact htn)
  have h2 : (ts ++ t :: r).dropWhile isN = t :: r := by
    clear h1 hne
    induction ts with
    | nil => simp [List.dropWhile_cons, htn]
    | cons a ts ih => simp only [List.cons_append, List.dropWhile_cons, h a (List.mem_cons_self ..), if_true]; exact ih fun u hu => h u (List.mem_cons_of_mem _ hu)
  unfold pNums
  rw [if_pos, h1, h2]
  cases ts with
  | nil => exact absurd rfl hne
  | cons a ts => have := h a (List.mem_cons_self ..); simpa [hd, isN] using this

/-- a row as it is written is this row -/
structure RowIs (x : Row) (r : List Int) : Prop where
  loc : x.loc = decide ((0 : Int) ∈ r)
  idx : x.idx.map (·.n) = if (0 : Int) ∈ r then idxL 0 r else []
  coef : x.coef.map (·.n) = coefL r
theorem coefL_ne {r : List Int} (h : ∃ x ∈ r, 0 < x) : coefL r ≠ [] := by
  induction r with
  | nil => obtain ⟨x, hx, _⟩ := h; cases hx
  | cons a r ih =>
    simp only [coefL]
    split
    · simp
    · rename_i ha
      obtain ⟨x, hx, h0⟩ := h
      rcases List.mem_cons.1 hx with rfl | hx
      · exact absurd h0 ha
      · exact ih ⟨x, hx, h0⟩
theorem idx_coef_len (r : List Int) : ∀ j, (idxL j r).length = (coefL r).length := by
  induction r with
  | nil => intro j; rfl
  | cons a r ih => intro j; simp only [idxL, coefL]; split <;> simp [ih]
theorem pRow_yes {ts rest : List Tok} {r : List Int} (h : Mt ts (lxRow r)) (hp : ∃ x ∈ r, 0 < x) : ∃ x, pRow (ts ++ rest) = .ok (x, rest) ∧ RowIs x r ∧ ((hd (ts ++ rest)).txt = kParity ∨ (hd (ts ++ rest)).txt = kLocal) := by
  have hc := coefL_ne hp
  unfold lxRow at h
  by_cases hz : (0 : Int) ∈ r
  · rw [if_pos hz] at h
    obtain ⟨t, u, rfl, h1, h2⟩ := h
    obtain ⟨is, v, rfl, h3, h4⟩ := h2.split
    obtain ⟨c, v2, rfl, h5, h6⟩ := h4
    obtain ⟨cs, v3, rfl, h7, h8⟩ := h6.split
    obtain ⟨s, v4, rfl, h9, h10⟩ := h8
    rw [show v4 = [] from h10]
    have hi : idxL 0 r ≠ [] := fun e => hc (List.eq_nil_of_length_eq_zero (by rw [← idx_coef_len r 0, e]; rfl))
    have n3 := h3.nums; have n7 := h7.nums
    have i3 : is ≠ [] := fun e => hi (by rw [← n3.1, e]; rfl)
    have i7 : cs ≠ [] := fun e => hc (by rw [← n7.1, e]; rfl)
    refine ⟨⟨t.at_, true, is, cs⟩, ?_, ⟨by rw [decide_eq_true hz], by rw [if_pos hz]; exact n3.1, n7.1⟩, .inr h1.word.1⟩
    simp only [List.cons_append, List.append_assoc, List.nil_append]
    unfold pRow
    rw [if_pos (show (hd (t :: (is ++ c :: (cs ++ s :: rest)))).txt = kLocal from h1.word.1)]
    show (match pNums (is ++ c :: (cs ++ s :: rest)) with | .error p => _ | .ok (i, t2) => _) = _
    rw [pNums_yes n3.2 i3 (by rw [h5.sign.2]; decide)]
    simp only
    rw [pTok_yes (show c.txt = kColon from h5.sign.1)]
    simp only
    rw [pNums_yes n7.2 i7 (by rw [h9.sign.2]; decide)]
    simp only
    rw [pTok_yes (show s.txt = kSemi from h9.sign.1)]
    rfl
  · rw [if_neg hz] at h
    obtain ⟨t, u, rfl, h1, h2⟩ := h
    obtain ⟨cs, v, rfl, h3, h4⟩ := h2.split
    obtain ⟨s, v4, rfl, h9, h10⟩ := h4
    rw [show v4 = [] from h10]
    have n3 := h3.nums
    have i3 : cs ≠ [] := fun e => hc (by rw [← n3.1, e]; rfl)
    refine ⟨⟨t.at_, false, [], cs⟩, ?_, ⟨by rw [decide_eq_false hz], by rw [if_neg hz]; rfl, n3.1⟩, .inl h1.word.1⟩
    simp only [List.cons_append, List.append_assoc, List.nil_append]
    unfold pRow
    rw [if_neg (show ¬ (hd (t :: (cs ++ s :: rest))).txt = kLocal from fun e => by
      have e2 : kParity = kLocal := h1.word.1.symm.trans e
      revert e2; decide)]
    rw [pTok_yes h1.word.1]
    simp only
    rw [pNums_yes n3.2 i3 (by rw [h9.sign.2]; decide)]
    simp only
    rw [pTok_yes (show s.txt = kSemi from h9.sign.1)]
    rfl

def RowsAre : List Row → List (List Int) → Prop
  | [], [] => True
  | x :: xs, r :: rs => RowIs x r ∧ RowsAre xs rs
  | _, _ => False
theorem pRest_yes {rows : List (List Int)} : ∀ {ts : List Tok} {rest : List Tok}, Mt ts (lxRows rows) → (∀ r ∈ rows, ∃ x ∈ r, 0 < x) → ¬ ((hd rest).txt = kParity ∨ (hd rest).txt = kLocal) →
    ∃ xs, pRest (ts ++ rest) = .ok (xs, rest) ∧ RowsAre xs rows := by
  induction rows with
  | nil =>
    intro ts rest h _ hr
    rw [show ts = [] from h]
    exact ⟨[], pRest_no hr, trivial⟩
  | cons r rows ih =>
    intro ts rest h hp hr
    obtain ⟨us, vs, rfl, h1, h2⟩ := Mt.split (show Mt ts (lxRow r ++ lxRows rows) from h)
    obtain ⟨x, hx, hi, hk⟩ := pRow_yes (rest := vs ++ rest) h1 (hp r (List.mem_cons_self ..))
    obtain ⟨xs, hxs, hj⟩ := ih h2 (fun r hr => hp r (List.mem_cons_of_mem _ hr)) hr
    refine ⟨x :: xs, ?_, hi, hj⟩
    rw [List.append_assoc, pRest_ok hk hx, hxs]

/-- a source is this code -/
structure SrcIs (s : Src) (name : List UInt8) (f d : Nat) (rows : List (List Int)) (m : Nat) : Prop where
  name : s.name.txt = name
  field : s.field.n = f
  data : s.data.n = d
  rows : RowsAre s.rows rows
  dom : ∃ t, s.dom = some t ∧ t.n = m
theorem pCode_yes {ts rest : List Tok} {name : List UInt8} {f d : Nat} {rows : List (List Int)} {m : Nat} (h : Mt ts (lxCode name f d rows m)) (hne : rows ≠ []) (hp : ∀ r ∈ rows, ∃ x ∈ r, 0 < x) :
    ∃ s, pCode (ts ++ rest) = .ok (s, rest) ∧ SrcIs s name f d rows m := by
  unfold lxCode at h
  obtain ⟨us, vs, rfl, h1, h2⟩ := h.split
  obtain ⟨t1, r1, rfl, i1, h1⟩ := h1
  obtain ⟨t2, r2, rfl, i2, h1⟩ := h1
  obtain ⟨t3, r3, rfl, i3, h1⟩ := h1
  obtain ⟨t4, r4, rfl, i4, h1⟩ := h1
  obtain ⟨t5, r5, rfl, i5, h1⟩ := h1
  obtain ⟨t6, r6, rfl, i6, h1⟩ := h1
  obtain ⟨t7, r7, rfl, i7, h1⟩ := h1
  obtain ⟨t8, r8, rfl, i8, h1⟩ := h1
  obtain ⟨t9, r9, rfl, i9, h1⟩ := h1
  rw [show r9 = [] from h1]
  obtain ⟨ws, vs, rfl, h3, h4⟩ := h2.split
  obtain ⟨u1, q1, rfl, j1, h4⟩ := h4
  obtain ⟨u2, q2, rfl, j2, h4⟩ := h4
  obtain ⟨u3, q3, rfl, j3, h4⟩ := h4
  obtain ⟨u4, q4, rfl, j4, h4⟩ := h4
  rw [show q4 = [] from h4]
  cases rows with
  | nil => exact absurd rfl hne
  | cons r rows =>
    obtain ⟨xs1, ws2, rfl, k1, k2⟩ := Mt.split (show Mt ws (lxRow r ++ lxRows rows) from h3)
    obtain ⟨x, hx, hxi, _⟩ := pRow_yes (rest := ws2 ++ (u1 :: u2 :: u3 :: u4 :: rest)) k1 (hp r (List.mem_cons_self ..))
    have hnd : ¬ ((hd (u1 :: u2 :: u3 :: u4 :: rest)).txt = kParity ∨ (hd (u1 :: u2 :: u3 :: u4 :: rest)).txt = kLocal) := by
      show ¬ (u1.txt = kParity ∨ u1.txt = kLocal)
      rw [j1.word.1]; decide
    obtain ⟨xs, hxs, hxr⟩ := pRest_yes (rest := u1 :: u2 :: u3 :: u4 :: rest) k2 (fun r hr => hp r (List.mem_cons_of_mem _ hr)) hnd
    refine ⟨⟨t2, t5, t8, x :: xs, some u2⟩, ?_, ⟨i2.word.1, i5.num.2, i8.num.2, ⟨hxi, hxr⟩, u2, rfl, j2.num.2⟩⟩
    have hh : pHead (t1 :: t2 :: t3 :: t4 :: t5 :: t6 :: t7 :: t8 :: t9 :: (xs1 ++ (ws2 ++ (u1 :: u2 :: u3 :: u4 :: rest)))) = .ok ((t2, t5, t8), xs1 ++ (ws2 ++ (u1 :: u2 :: u3 :: u4 :: rest))) := by
      unfold pHead
      rw [pTok_yes i1.word.1]
      simp only
      rw [pKind_yes i2.word.2]
      simp only
      rw [pTok_yes (show t3.txt = kOpen from i3.sign.1)]
      simp only
      rw [pOne_yes i4.word.1 i5.num.1 (show t6.txt = kSemi from i6.sign.1)]
      simp only
      rw [pOne_yes i7.word.1 i8.num.1 (show t9.txt = kSemi from i9.sign.1)]
    have ht : pTail (u1 :: u2 :: u3 :: u4 :: rest) = .ok (some u2, rest) := by
      unfold pTail pDom
      rw [if_pos (show (hd (u1 :: u2 :: u3 :: u4 :: rest)).txt = kDomain from j1.word.1), pOne_yes j1.word.1 j2.num.1 (show u3.txt = kSemi from j3.sign.1)]
      simp only
      rw [pTok_yes (show u4.txt = kShut from j4.sign.1)]
    simp only [List.cons_append, List.append_assoc, List.nil_append]
    unfold pCode
    rw [hh]
    simp only
    rw [hx]
    simp only
    rw [show pMore (ws2 ++ (u1 :: u2 :: u3 :: u4 :: rest)).length (ws2 ++ (u1 :: u2 :: u3 :: u4 :: rest)) = pRest (ws2 ++ (u1 :: u2 :: u3 :: u4 :: rest)) from rfl, hxs]
    simp only
    rw [ht]
end Go.Proofs.YtppeplonnippcaaDoor.Sp

namespace Go.Proofs.YtppeplonnippcaaDoor.Sp

theorem badIdx_ok {data : Nat} {r : List Int} : ∀ {l : List Tok} {j : Nat} {last : Int}, l.map (·.n) = idxL j r → last < (j : Int) → j + r.length ≤ data → badIdx data last l = none := by
  induction r with
  | nil =>
    intro l j last h _ _
    have : l = [] := by simpa [idxL] using h
    subst this; rfl
  | cons a r ih =>
    intro l j last h hl hd
    simp only [List.length_cons] at hd
    simp only [idxL] at h
    split at h
    · cases l with
      | nil => simp at h
      | cons t l =>
        simp only [List.map_cons, List.cons.injEq] at h
        simp only [badIdx]
        rw [if_pos ⟨by omega, by omega⟩]
        exact ih h.2 (by omega) (by omega)
    · exact ih h (by omega) (by omega)
theorem badCoef_ok {top : Nat} {loc : Bool} {r : List Int} (h : ∀ x ∈ r, x ≤ (top : Int)) : ∀ {l : List Tok}, l.map (·.n) = coefL r → badCoef top loc l = none := by
  induction r with
  | nil =>
    intro l hl
    have : l = [] := by simpa [coefL] using hl
    subst this; rfl
  | cons a r ih =>
    intro l hl
    have ha := h a (List.mem_cons_self ..)
    simp only [coefL] at hl
    split at hl
    · rename_i h0
      cases l with
      | nil => simp at hl
      | cons t l =>
        simp only [List.map_cons, List.cons.injEq] at hl
        simp only [badCoef]
        rw [if_pos ⟨by omega, fun hh => by have := hh.2; omega⟩]
        exact ih (fun x hx => h x (List.mem_cons_of_mem _ hx)) hl.2
    · exact ih (fun x hx => h x (List.mem_cons_of_mem _ hx)) hl
theorem sum_coef {r : List Int} : ∀ {l : List Tok}, l.map (·.n) = coefL r → (∃ x ∈ r, 0 < x) → sumN l ≠ 0 := by
  induction r with
  | nil => intro l _ h; obtain ⟨x, hx, _⟩ := h; cases hx
  | cons a r ih =>
    intro l hl h
    simp only [coefL] at hl
    split at hl
    · rename_i h0
      cases l with
      | nil => simp at hl
      | cons t l =>
        simp only [List.map_cons, List.cons.injEq] at hl
        simp only [sumN, List.map_cons, List.sum_cons]; omega
    · rename_i h0
      obtain ⟨x, hx, hx0⟩ := h
      rcases List.mem_cons.1 hx with rfl | hx
      · exact absurd hx0 h0
      · exact ih hl ⟨x, hx, hx0⟩
theorem fill_par : ∀ (r : List Int) (l idx : List Tok) (pre : List Int), (∀ x ∈ r, 0 < x) → l.map (·.n) = coefL r → fillR false idx pre.length (pre ++ List.replicate r.length 0) l = pre ++ r := by
  intro r
  induction r with
  | nil =>
    intro l idx pre _ hl
    have : l = [] := by simpa [coefL] using hl
    subst this; simp [fillR]
  | cons a r ih =>
    intro l idx pre hp hl
    have ha := hp a (List.mem_cons_self ..)
    simp only [coefL, ha, if_true] at hl
    cases l with
    | nil => simp at hl
    | cons t l =>
      simp only [List.map_cons, List.cons.injEq] at hl
      simp only [fillR, Bool.false_eq_true, if_false, List.length_cons, List.replicate_succ]
      have hs : (pre ++ (0 : Int) :: List.replicate r.length 0).set pre.length (t.n : Int) = (pre ++ [a]) ++ List.replicate r.length 0 := by
        rw [List.set_append_right _ _ (Nat.le_refl _), Nat.sub_self]
        simp only [List.set_cons_zero, List.append_assoc, List.cons_append, List.nil_append]
        rw [hl.1, Int.toNat_of_nonneg (by omega)]
      rw [hs, show pre.length + 1 = (pre ++ [a]).length from by simp]
      rw [ih l idx (pre ++ [a]) (fun x hx => hp x (List.mem_cons_of_mem _ hx)) hl.2, List.append_assoc]; rfl
theorem fill_loc : ∀ (r : List Int) (l is ip : List Tok) (pre : List Int), (∀ x ∈ r, 0 ≤ x) → l.map (·.n) = coefL r → is.map (·.n) = idxL pre.length r →
    fillR true (ip ++ is) ip.length (pre ++ List.replicate r.length 0) l = pre ++ r := by
  intro r
  induction r with
  | nil =>
    intro l is ip pre _ hl _
    have : l = [] := by simpa [coefL] using hl
    subst this; simp [fillR]
  | cons a r ih =>
    intro l is ip pre hp hl hi
    have ha := hp a (List.mem_cons_self ..)
    simp only [coefL] at hl
    simp only [idxL] at hi
    by_cases h0 : 0 < a
    · rw [if_pos h0] at hl hi
      cases l with
      | nil => simp at hl
      | cons t l =>
        cases is with
        | nil => simp at hi
        | cons u is =>
          simp only [List.map_cons, List.cons.injEq] at hl hi
          simp only [fillR, if_true, List.length_cons, List.replicate_succ]
          have hg : ((ip ++ u :: is)[ip.length]?).getD ⟨0, 0, [], 0⟩ = u := by simp
          rw [hg, hi.1]
          have hs : (pre ++ (0 : Int) :: List.replicate r.length 0).set pre.length (t.n : Int) = (pre ++ [a]) ++ List.replicate r.length 0 := by
            rw [List.set_append_right _ _ (Nat.le_refl _), Nat.sub_self]
            simp only [List.set_cons_zero, List.append_assoc, List.cons_append, List.nil_append]
            rw [hl.1, Int.toNat_of_nonneg (by omega)]
          rw [hs, show ip ++ u :: is = (ip ++ [u]) ++ is from by simp, show ip.length + 1 = (ip ++ [u]).length from by simp]
          rw [ih l is (ip ++ [u]) (pre ++ [a]) (fun x hx => hp x (List.mem_cons_of_mem _ hx)) hl.2 (by rw [List.length_append]; exact hi.2), List.append_assoc]; rfl
    · rw [if_neg h0] at hl hi
      have : a = 0 := by omega
      subst this
      rw [List.length_cons, List.replicate_succ, show pre ++ (0 : Int) :: List.replicate r.length 0 = (pre ++ [0]) ++ List.replicate r.length 0 from by simp]
      rw [ih l is ip (pre ++ [0]) (fun x hx => hp x (List.mem_cons_of_mem _ hx)) hl (by rw [List.length_append]; exact hi), List.append_assoc]; rfl

theorem coef_all {r : List Int} (h : ∀ x ∈ r, 0 < x) : (coefL r).length = r.length := by
  induction r with
  | nil => rfl
  | cons a r ih => simp only [coefL, h a (List.mem_cons_self ..), if_true, List.length_cons, ih fun x hx => h x (List.mem_cons_of_mem _ hx)]
theorem bldRow_yes {x : Row} {r : List Int} {d top : Nat} (h : RowIs x r) (hl : r.length = d) (h0 : ∀ y ∈ r, 0 ≤ y ∧ y ≤ (top : Int)) (hp : ∃ y ∈ r, 0 < y) : bldRow x d top = .ok r := by
  unfold bldRow
  have hi := h.idx; have hc := h.coef; have hloc := h.loc
  have hbc : badCoef top x.loc x.coef = none := badCoef_ok (fun y hy => (h0 y hy).2) hc
  have hsum := sum_coef hc hp
  by_cases hz : (0 : Int) ∈ r
  · rw [if_pos hz] at hi
    rw [decide_eq_true hz] at hloc
    have hbi : badIdx d (-1) x.idx = none := badIdx_ok (j := 0) hi (by omega) (by omega)
    have hlen : x.coef.length = x.idx.length := by
      have e1 := congrArg List.length hc; have e2 := congrArg List.length hi
      simp only [List.length_map] at e1 e2
      rw [e1, e2, idx_coef_len]
    rw [hbi]
    simp only
    rw [if_neg (by rw [hloc, if_pos rfl]; omega), hbc]
    simp only
    rw [if_neg hsum, hloc]
    have := fill_loc r x.coef x.idx [] [] (fun y hy => (h0 y hy).1) hc hi
    simp only [List.nil_append, List.length_nil, hl] at this
    rw [this]
  · rw [if_neg hz] at hi
    rw [decide_eq_false hz] at hloc
    have hpos : ∀ y ∈ r, 0 < y := fun y hy => by
      have := (h0 y hy).1
      rcases Int.lt_or_le 0 y with h' | h'
      · exact h'
      · exact absurd (show (0 : Int) ∈ r by rw [show (0 : Int) = y by omega]; exact hy) hz
    have hidx : x.idx = [] := by simpa using hi
    have hlen : x.coef.length = d := by
      have e1 := congrArg List.length hc
      rw [List.length_map, coef_all hpos] at e1
      omega
    rw [hidx]
    simp only [badIdx]
    rw [if_neg (by rw [hloc]; simp [hlen]), hbc]
    simp only
    rw [if_neg hsum, hloc]
    have := fill_par r x.coef [] [] hpos hc
    simp only [List.nil_append, List.length_nil, hl] at this
    rw [this]
theorem bldRows_yes {d top : Nat} {rows : List (List Int)} : ∀ {xs : List Row} {acc : List (List Int)}, RowsAre xs rows → (∀ r ∈ rows, r.length = d ∧ (∀ y ∈ r, 0 ≤ y ∧ y ≤ (top : Int)) ∧ ∃ y ∈ r, 0 < y) →
    d + acc.length + rows.length ≤ 32 → bldRows d top acc xs = .ok (acc ++ rows) := by
  induction rows with
  | nil =>
    intro xs acc h _ _
    cases xs with
    | nil => simp [bldRows]
    | cons x xs => exact absurd h (by simp [RowsAre])
  | cons r rows ih =>
    intro xs acc h hr hw
    cases xs with
    | nil => exact absurd h (by simp [RowsAre])
    | cons x xs =>
      obtain ⟨h1, h2⟩ := h
      obtain ⟨e1, e2, e3⟩ := hr r (List.mem_cons_self ..)
      simp only [List.length_cons] at hw
      simp only [bldRows]
      rw [if_pos (by omega), bldRow_yes h1 e1 e2 e3]
      simp only
      rw [ih h2 (fun r hr' => hr r (List.mem_cons_of_mem _ hr')) (by rw [List.length_append]; simp; omega), List.append_assoc]; rfl

theorem topOf_int (f : Nat) (h : f = 8 ∨ f = 16) : (topOf f : Int) = 2 ^ (f : Int).toNat - 1 := by rcases h with rfl | rfl <;> rfl
theorem bld_yes {s : Src} {name : List UInt8} {f d : Nat} {rows : List (List Int)} {m : Nat} (h : SrcIs s name f d rows m) (hf : Fine name f d rows m) : bld s = .ok ⟨name, f, d, rows, m⟩ := by
  have hfi : f = 8 ∨ f = 16 := by have := hf.fi; omega
  have h1 := hf.len; have h2 := hf.d1; have h3 := hf.d31; have h4 := hf.width; have h5 := hf.m1; have h6 := hf.mw
  obtain ⟨t, hd, hn⟩ := h.dom
  unfold bld
  rw [h.name, h.field, h.data, if_neg (by omega), if_neg (by omega), if_neg (by omega)]
  rw [bldRows_yes h.rows (fun r hr => by
    obtain ⟨e1, e2, e3⟩ := rowOk_facts (hf.each r hr)
    exact ⟨by omega, fun y hy => ⟨(e2 y hy).1, by rw [topOf_int f hfi]; exact (e2 y hy).2⟩, e3⟩) (by simp; omega)]
  simp only [List.nil_append]
  unfold bldDom
  rw [hd]
  simp only
  rw [if_pos (by omega), hn]
end Go.Proofs.YtppeplonnippcaaDoor.Sp

namespace Go.Proofs.YtppeplonnippcaaDoor.Sp

/-- a gap that may stand behind a word: it begins with no letter and no digit -/
def GapB (g : List UInt8) : Prop := Gap g ∧ Ends g
def nextSep (l : List (List UInt8 × Lx)) : Prop := match l with
  | [] => True
  | (g, y) :: _ => g ≠ [] ∨ y.glues = false
def Chain : List (List UInt8 × Lx) → List UInt8 → Prop
  | [], e => GapB e
  | (g, x) :: l, e => GapB g ∧ x.Ok ∧ (x.glues = true → nextSep l) ∧ Chain l e
theorem ends_app {a b : List UInt8} (h : Ends a) (hn : a ≠ []) : Ends (a ++ b) := by
  cases a with
  | nil => exact absurd rfl hn
  | cons c a => exact fun x hx => h x hx
theorem chain_ends : ∀ (l : List (List UInt8 × Lx)) (e : List UInt8), Chain l e → nextSep l → Ends (render l e)
  | [], e, h, _ => h.2
  | (g, y) :: l, e, ⟨h1, h2, _, _⟩, hn => by
    rcases List.eq_nil_or_concat g with hg | _
    · subst hg
      have hy : y.glues = false := by rcases hn with h | h; exact absurd rfl h; exact h
      cases y with
      | word w => cases hy
      | num n => cases hy
      | sign c =>
        intro x hx
        simp only [render, Lx.txt, List.nil_append, List.cons_append, List.head?_cons, Option.some.injEq] at hx
        subst hx
        have hc : isS c = true := h2
        simp only [isS, Bool.or_eq_true, decide_eq_true_eq] at hc
        simp only [isL, isD, Bool.and_eq_false_iff, decide_eq_false_iff_not]
        omega
    · by_cases hg : g = []
      · subst hg
        have hy : y.glues = false := by rcases hn with h | h; exact absurd rfl h; exact h
        cases y with
        | word w => cases hy
        | num n => cases hy
        | sign c =>
          intro x hx
          simp only [render, Lx.txt, List.nil_append, List.cons_append, List.head?_cons, Option.some.injEq] at hx
          subst hx
          have hc : isS c = true := h2
          simp only [isS, Bool.or_eq_true, decide_eq_true_eq] at hc
          simp only [isL, isD, Bool.and_eq_false_iff, decide_eq_false_iff_not]
          omega
      · exact ends_app h1.2 hg
theorem chain_fits : ∀ (l : List (List UInt8 × Lx)) (e : List UInt8), Chain l e → Fits l e
  | [], e, h => h.1
  | (g, x) :: l, e, ⟨h1, h2, h3, h4⟩ => ⟨h1.1, h2, fun hx => chain_ends l e h4 (h3 hx), chain_fits l e h4⟩
theorem render_app (l m : List (List UInt8 × Lx)) (e : List UInt8) : render (l ++ m) e = render l (render m e) := by
  induction l with
  | nil => rfl
  | cons a l ih => obtain ⟨g, x⟩ := a; simp only [List.cons_append, render, ih]
theorem nextSep_app {l m : List (List UInt8 × Lx)} (h : nextSep l) (hm : nextSep m) : nextSep (l ++ m) := by
  cases l with
  | nil => exact hm
  | cons a l => exact h
theorem chain_app {l m : List (List UInt8 × Lx)} {e : List UInt8} (hm : Chain m e) (hs : nextSep m) (hl : ∀ e', GapB e' → Chain l e') : Chain (l ++ m) e := by
  have key : ∀ l : List (List UInt8 × Lx), Chain l [] → Chain (l ++ m) e := by
    intro l
    induction l with
    | nil => intro _; exact hm
    | cons a l ih =>
      obtain ⟨g, x⟩ := a
      rintro ⟨h1, h2, h3, h4⟩
      exact ⟨h1, h2, fun hx => nextSep_app (h3 hx) hs, ih h4⟩
  exact key l (hl [] ⟨gap_nil, fun c h => by cases h⟩)

theorem gB (l : List UInt8) (h : ∀ c ∈ l, isB c = true) : GapB l := by
  constructor
  · induction l with
    | nil => exact gap_nil
    | cons c l ih => exact gap_app (a := [c]) (gap_b (h c (List.mem_cons_self ..))) (ih fun c hc => h c (List.mem_cons_of_mem _ hc))
  · intro c hc
    cases l with
    | nil => cases hc
    | cons a l =>
      injection hc with hc
      subst hc
      have := h a (List.mem_cons_self ..)
      simp only [isB, Bool.or_eq_true, decide_eq_true_eq] at this
      simp only [isL, isD, Bool.and_eq_false_iff, decide_eq_false_iff_not]
      omega
theorem g0 : GapB [] := gB [] fun c h => by cases h
theorem g1 : GapB [32] := gB _ (by decide)
theorem g2 : GapB [10, 9] := gB _ (by decide)
theorem g3 : GapB [10] := gB _ (by decide)

/-- the printed tokens with their gaps -/
def numsG (ns : List Nat) : List (List UInt8 × Lx) := ns.map fun n => ([32], .num n)
def rowG (r : List Int) : List (List UInt8 × Lx) :=
  if (0 : Int) ∈ r then ([10, 9], .word kLocal) :: (numsG (idxL 0 r) ++ (([], .sign 58) :: (numsG (coefL r) ++ [([], .sign 59)])))
  else ([10, 9], .word kParity) :: (numsG (coefL r) ++ [([], .sign 59)])
def rowsG (rows : List (List Int)) : List (List UInt8 × Lx) := rows.flatMap rowG
def headG (g : List UInt8) (name : List UInt8) (f d : Nat) : List (List UInt8 × Lx) :=
  [(g, .word kCode), ([32], .word name), ([32], .sign 123), ([10, 9], .word kField), ([32], .num f), ([], .sign 59), ([10, 9], .word kData), ([32], .num d), ([], .sign 59)]
def tailG (m : Nat) : List (List UInt8 × Lx) := [([10, 9], .word kDomain), ([32], .num m), ([], .sign 59), ([10], .sign 125)]
def codeG (g : List UInt8) (c : Code) : List (List UInt8 × Lx) := headG g c.name c.field c.data ++ (rowsG c.parity ++ tailG c.domain)
def lxC (c : Code) : List Lx := lxCode c.name c.field c.data c.parity c.domain
def prC (c : Code) : List UInt8 := prS c.name c.field c.data c.parity c.domain
def FineC (c : Code) : Prop := Fine c.name c.field c.data c.parity c.domain

theorem numsG_snd (ns : List Nat) : (numsG ns).map (·.2) = ns.map .num := by simp [numsG]
theorem rowG_snd (r : List Int) : (rowG r).map (·.2) = lxRow r := by
  unfold rowG lxRow
  split <;> simp only [List.map_cons, List.map_append, List.map_nil, numsG_snd]
theorem rowsG_snd (rows : List (List Int)) : (rowsG rows).map (·.2) = lxRows rows := by
  induction rows with
  | nil => rfl
  | cons r rows ih => simp only [rowsG, lxRows, List.flatMap_cons, List.map_append, rowG_snd] at ih ⊢; rw [ih]
theorem codeG_snd (g : List UInt8) (c : Code) : (codeG g c).map (·.2) = lxC c := by
  unfold codeG lxC lxCode
  rw [List.map_append, List.map_append, rowsG_snd]
  rfl

theorem render_idx (r : List Int) (e : List UInt8) : ∀ j, render (numsG (idxL j r)) e = idxs j r ++ e := by
  induction r with
  | nil => intro j; rfl
  | cons a r ih =>
    intro j
    simp only [idxL, idxs]
    split
    · have h1 := ih (j + 1)
      simp only [numsG, List.map_cons, render, Lx.txt] at h1 ⊢
      rw [h1]
      simp [dec, Lib.itoa]
    · rw [ih]; rfl
theorem render_coef (r : List Int) (e : List UInt8) : render (numsG (coefL r)) e = coefs r ++ e := by
  induction r with
  | nil => rfl
  | cons a r ih =>
    simp only [coefL, coefs]
    split
    · rename_i ha
      simp only [numsG, List.map_cons, render, Lx.txt] at ih ⊢
      rw [ih]
      unfold dec Lib.itoa
      rw [if_neg (by omega)]
      simp
    · rw [ih]; rfl
theorem render_row (r : List Int) (e : List UInt8) : render (rowG r) e = [10, 9] ++ prRow r ++ [59] ++ e := by
  unfold rowG prRow
  split
  · simp only [render, render_app, render_idx, render_coef, Lx.txt]
    simp [kLocal]
  · simp only [render, render_app, render_coef, Lx.txt]
    simp [kParity]
theorem render_rows (rows : List (List Int)) (e : List UInt8) : render (rowsG rows) (10 :: e) = 10 :: (prRows rows ++ e) := by
  induction rows with
  | nil => rfl
  | cons r rows ih =>
    simp only [rowsG, List.flatMap_cons] at ih ⊢
    rw [render_app, ih, render_row]
    simp [prRows, ln]
theorem dec_nat' (n : Nat) : dec (n : Int) = Lib.decDigits n := by
  unfold dec Lib.itoa
  rw [if_neg (by omega)]; rfl
theorem render_code (g : List UInt8) (c : Code) (e : List UInt8) : render (codeG g c) (10 :: e) = g ++ (prC c ++ e) := by
  have h : render (tailG c.domain) (10 :: e) = 10 :: (ln ((kDomain ++ [32]) ++ dec (c.domain : Int)) ++ ([125, 10] ++ e)) := by
    simp only [tailG, render, Lx.txt, dec_nat', ln]
    simp [kDomain]
  unfold codeG
  rw [render_app, render_app, h, render_rows]
  simp only [headG, render, Lx.txt, prC, prS, dec_nat', ln]
  simp [kCode, kField, kData]

theorem chain_nums (ns : List Nat) (hn : ∀ n ∈ ns, n ≤ 99999) : ∀ e', GapB e' → Chain (numsG ns) e' := by
  intro e' he
  induction ns with
  | nil => exact he
  | cons n ns ih =>
    refine ⟨g1, hn n (List.mem_cons_self ..), fun _ => ?_, ih fun n h => hn n (List.mem_cons_of_mem _ h)⟩
    cases ns with
    | nil => trivial
    | cons a ns => exact .inl (by simp)
theorem nextSep_nums (ns : List Nat) (m : List (List UInt8 × Lx)) (hm : nextSep m) : nextSep (numsG ns ++ m) := by
  cases ns with
  | nil => exact hm
  | cons a ns => exact .inl (by simp)
theorem idxL_le {r : List Int} : ∀ {j : Nat}, ∀ n ∈ idxL j r, n < j + r.length := by
  induction r with
  | nil => intro j n h; cases h
  | cons a r ih =>
    intro j n h
    simp only [idxL] at h
    simp only [List.length_cons]
    split at h
    · rcases List.mem_cons.1 h with rfl | h
      · omega
      · have := ih n h; omega
    · have := ih n h; omega
theorem coefL_le {r : List Int} {t : Int} (h : ∀ x ∈ r, x ≤ t) : ∀ n ∈ coefL r, (n : Int) ≤ t := by
  induction r with
  | nil => intro n h; cases h
  | cons a r ih =>
    intro n hn
    simp only [coefL] at hn
    have ha := h a (List.mem_cons_self ..)
    split at hn
    · rcases List.mem_cons.1 hn with rfl | hn
      · omega
      · exact ih (fun x hx => h x (List.mem_cons_of_mem _ hx)) n hn
    · exact ih (fun x hx => h x (List.mem_cons_of_mem _ hx)) n hn
theorem chain_row (r : List Int) (hl : r.length ≤ 99) (h : ∀ x ∈ r, x ≤ 65535) (e' : List UInt8) (he : GapB e') : Chain (rowG r) e' := by
  have hc : ∀ n ∈ coefL r, n ≤ 99999 := fun n hn => by have := coefL_le h n hn; omega
  have hi : ∀ n ∈ idxL 0 r, n ≤ 99999 := fun n hn => by have := idxL_le n hn; omega
  have s59 : Chain [([], .sign 59)] e' := ⟨g0, rfl, (fun h => by cases h), he⟩
  have c2 : Chain (numsG (coefL r) ++ [([], .sign 59)]) e' := chain_app s59 (.inr rfl) (chain_nums _ hc)
  unfold rowG
  split
  · refine ⟨g2, rfl, fun _ => nextSep_nums _ _ (.inr rfl), ?_⟩
    exact chain_app (m := ([], .sign 58) :: (numsG (coefL r) ++ [([], .sign 59)])) ⟨g0, rfl, (fun h => by cases h), c2⟩ (.inr rfl) (chain_nums _ hi)
  · exact ⟨g2, rfl, fun _ => nextSep_nums _ _ (.inr rfl), c2⟩
theorem nextSep_row (r : List Int) (m : List (List UInt8 × Lx)) : nextSep (rowG r ++ m) := by
  unfold rowG; split <;> exact .inl (by simp)
theorem chain_rows {m : List (List UInt8 × Lx)} {e : List UInt8} (hm : Chain m e) (hs : nextSep m) (rows : List (List Int)) (h : ∀ r ∈ rows, r.length ≤ 99 ∧ ∀ x ∈ r, x ≤ 65535) : Chain (rowsG rows ++ m) e ∧ nextSep (rowsG rows ++ m) := by
  induction rows with
  | nil => exact ⟨hm, hs⟩
  | cons r rows ih =>
    obtain ⟨i1, i2⟩ := ih fun r hr => h r (List.mem_cons_of_mem _ hr)
    obtain ⟨k1, k2⟩ := h r (List.mem_cons_self ..)
    simp only [rowsG, List.flatMap_cons, List.append_assoc] at i1 i2 ⊢
    exact ⟨chain_app i1 i2 (chain_row r k1 k2), nextSep_row r _⟩
theorem chain_code {m : List (List UInt8 × Lx)} {e : List UInt8} (hm : Chain m e) (g : List UInt8) (hg : GapB g) (c : Code) (hf : FineC c) : Chain (codeG g c ++ m) e := by
  have hfi := hf.fi; have h1 := hf.d31; have h2 := hf.width; have h3 := hf.mw
  have ht : Chain (tailG c.domain ++ m) e := ⟨g2, rfl, fun _ => .inl (by simp), g1, show c.domain ≤ 99999 by omega, fun _ => .inr rfl, g0, rfl, fun h => (by cases h), g3, rfl, fun h => (by cases h), hm⟩
  obtain ⟨hr, hs⟩ := chain_rows ht (.inl (by simp)) c.parity (fun r hr => ⟨by have := (hf.row hr).1; omega, fun x hx => ((hf.row hr).2 x hx).2⟩)
  have hw : (Lx.word c.name).Ok := hf.wd
  unfold codeG
  rw [List.append_assoc, List.append_assoc]
  exact ⟨hg, rfl, fun _ => .inl (by simp), g1, hw, fun _ => .inl (by simp), g1, rfl, fun h => (by cases h), g2, rfl, fun _ => .inl (by simp), g1, show c.field ≤ 99999 by omega, fun _ => .inr rfl, g0, rfl, fun h => (by cases h), g2, rfl, fun _ => .inl (by simp), g1,
    show c.data ≤ 99999 by omega, fun _ => .inr rfl, g0, rfl, fun h => (by cases h), hr⟩
end Go.Proofs.YtppeplonnippcaaDoor.Sp

namespace Go.Proofs.YtppeplonnippcaaDoor.Sp

/-! ### The texts of codes -/
def allG : List UInt8 → List Code → List (List UInt8 × Lx)
  | _, [] => []
  | g, c :: cs => codeG g c ++ allG [10] cs
def endG (g : List UInt8) : List Code → List UInt8
  | [] => g
  | _ => [10]
def prAll (cs : List Code) : List UInt8 := (cs.map prC).flatten
theorem endG_ten (cs : List Code) : endG [10] cs = [10] := by cases cs <;> rfl
theorem render_all (cs : List Code) : ∀ g, render (allG g cs) (endG g cs) = g ++ prAll cs := by
  induction cs with
  | nil => intro g; simp [allG, endG, render, prAll]
  | cons c cs ih =>
    intro g
    have h := ih [10]
    rw [endG_ten] at h
    simp only [allG, endG]
    rw [render_app, h]
    show render (codeG g c) (10 :: prAll cs) = _
    rw [render_code]
    simp [prAll]
theorem chain_all (cs : List Code) (hf : ∀ c ∈ cs, FineC c) : ∀ g, GapB g → Chain (allG g cs) (endG g cs) := by
  induction cs with
  | nil => intro g hg; exact hg
  | cons c cs ih =>
    intro g hg
    have h := ih (fun c hc => hf c (List.mem_cons_of_mem _ hc)) [10] g3
    rw [endG_ten] at h
    exact chain_code h g hg c (hf c (List.mem_cons_self ..))
theorem allG_snd (cs : List Code) : ∀ g, (allG g cs).map (·.2) = cs.flatMap lxC := by
  induction cs with
  | nil => intro g; rfl
  | cons c cs ih => intro g; simp only [allG, List.map_append, codeG_snd, ih, List.flatMap_cons]
/-- the tokens of the texts -/
theorem toks_all (cs : List Code) (hf : ∀ c ∈ cs, FineC c) : ∃ ts t, toks 0 (prAll cs) = ts ++ [t] ∧ t.kind = 4 ∧ Mt ts (cs.flatMap lxC) := by
  have h := toks_render (allG [] cs) (endG [] cs) 0 (chain_fits _ _ (chain_all cs hf [] g0))
  rw [render_all, List.nil_append] at h
  obtain ⟨ts, t, h1, h2, h3⟩ := toksOf_split (allG [] cs) (endG [] cs) 0
  rw [allG_snd] at h3
  exact ⟨ts, t, h.trans h1, h2, h3⟩

def SrcsAre : List Src → List Code → Prop
  | [], [] => True
  | s :: ss, c :: cs => SrcIs s c.name c.field c.data c.parity c.domain ∧ SrcsAre ss cs
  | _, _ => False
theorem FineC.pos {c : Code} (h : FineC c) : ∀ r ∈ c.parity, ∃ x ∈ r, 0 < x := fun r hr => (rowOk_facts (h.each r hr)).2.2
theorem Mt.head {ts : List Tok} {c : Code} {l : List Lx} (h : Mt ts (lxC c ++ l)) : (hd ts).kind = 1 := by
  unfold lxC lxCode at h
  obtain ⟨t, r, rfl, h1, _⟩ := h
  exact h1.word.2
theorem pAll_yes {cs : List Code} : ∀ {ts : List Tok} {t : Tok} {acc : List Src}, Mt ts (cs.flatMap lxC) → t.kind = 4 → (∀ c ∈ cs, FineC c) → ∃ ss, pAll false acc (ts ++ [t]) = .ok (acc ++ ss) ∧ SrcsAre ss cs := by
  induction cs with
  | nil =>
    intro ts t acc h ht _
    rw [show ts = [] from h]
    exact ⟨[], by rw [List.append_nil]; exact pAll_end ht (by simp), trivial⟩
  | cons c cs ih =>
    intro ts t acc h ht hf
    rw [List.flatMap_cons] at h
    have hk := h.head
    obtain ⟨us, vs, rfl, h1, h2⟩ := h.split
    have hfc := hf c (List.mem_cons_self ..)
    obtain ⟨s, hs, hi⟩ := pCode_yes (rest := vs ++ [t]) h1 hfc.ne hfc.pos
    obtain ⟨ss, hss, hj⟩ := ih (acc := acc ++ [s]) h2 ht (fun c hc => hf c (List.mem_cons_of_mem _ hc))
    refine ⟨s :: ss, ?_, hi, hj⟩
    have hk' : (hd (us ++ (vs ++ [t]))).kind = 1 := by
      cases us with
      | nil => exact absurd (show ([] : List Tok) = [] from rfl) (by unfold lxC lxCode at h1; obtain ⟨_, _, e, _⟩ := h1; cases e)
      | cons a us => exact hk
    rw [List.append_assoc, pAll_ok ⟨fun hh => (by rw [hk'] at hh; omega), fun hh => (by cases hh.1)⟩ hs, hss, List.append_assoc]; rfl
theorem pOne_code {c : Code} {ts : List Tok} {t : Tok} (h : Mt ts (lxC c)) (ht : t.kind = 4) (hf : FineC c) : ∃ s, pAll true [] (ts ++ [t]) = .ok [s] ∧ SrcIs s c.name c.field c.data c.parity c.domain := by
  obtain ⟨s, hs, hi⟩ := pCode_yes (rest := [t]) h hf.ne hf.pos
  refine ⟨s, ?_, hi⟩
  rw [pAll_ok ⟨fun hh => hh.2 ⟨rfl, rfl⟩, fun hh => hh.2 rfl⟩ hs]
  exact pAll_end ht (by simp)
theorem bAll_yes {cs : List Code} : ∀ {ss : List Src} {acc : List Code} {names : List (List UInt8)}, SrcsAre ss cs → (∀ c ∈ cs, FineC c) → acc.length + cs.length ≤ 8 → (cs.map (·.name)).Nodup → (∀ c ∈ cs, c.name ∉ names) →
    bAll acc names ss = .ok (acc ++ cs) := by
  induction cs with
  | nil =>
    intro ss acc names h _ _ _ _
    cases ss with
    | nil => simp [bAll]
    | cons s ss => exact absurd h (by simp [SrcsAre])
  | cons c cs ih =>
    intro ss acc names h hf hl hn hm
    cases ss with
    | nil => exact absurd h (by simp [SrcsAre])
    | cons s ss =>
      obtain ⟨h1, h2⟩ := h
      simp only [List.length_cons] at hl
      simp only [List.map_cons, List.nodup_cons] at hn
      have hb : bld s = .ok c := bld_yes h1 (hf c (List.mem_cons_self ..))
      rw [bAll_ok (by omega) (by rw [h1.name]; exact hm c (List.mem_cons_self ..)) hb]
      rw [ih h2 (fun c hc => hf c (List.mem_cons_of_mem _ hc)) (by rw [List.length_append]; simp; omega) hn.2 (fun c' hc' => ?_), List.append_assoc]; rfl
      rw [List.mem_append, not_or, h1.name]
      refine ⟨hm c' (List.mem_cons_of_mem _ hc'), ?_⟩
      intro e
      rw [List.mem_singleton] at e
      exact hn.1 (by rw [← e]; exact List.mem_map_of_mem hc')
theorem parse_all {cs : List Code} (hf : ∀ c ∈ cs, FineC c) (hl : cs.length ≤ 8) (hn : (cs.map (·.name)).Nodup) (ht : (prAll cs).length ≤ 2000) : parseL false (prAll cs) = .ok cs := by
  obtain ⟨ts, t, h1, h2, h3⟩ := toks_all cs hf
  obtain ⟨ss, h4, h5⟩ := pAll_yes (acc := []) h3 h2 hf
  unfold parseL
  rw [if_neg (by omega), h1]
  unfold parseTs
  rw [h4]
  simp only [List.nil_append]
  rw [bAll_yes h5 hf (by simpa using hl) hn (by simp)]
  rfl
theorem parse_one {c : Code} (hf : FineC c) (ht : (prC c).length ≤ 2000) : parseL true (prC c) = .ok [c] := by
  obtain ⟨ts, t, h1, h2, h3⟩ := toks_all [c] (by simpa using hf)
  simp only [List.flatMap_cons, List.flatMap_nil, List.append_nil] at h3
  obtain ⟨s, h4, h5⟩ := pOne_code h3 h2 hf
  have hp : prAll [c] = prC c := by simp [prAll]
  rw [hp] at h1
  unfold parseL
  rw [if_neg (by omega), h1]
  unfold parseTs
  rw [h4]
  simp only
  rw [bAll_yes (cs := [c]) (ss := [s]) ⟨h5, trivial⟩ (by simpa using hf) (by simp) (by simp) (by simp)]
  rfl

/-! ### A code that can be printed, as the parser returns it -/
def codeOf (name : List UInt8) (f d : Int) (rows : List (List Int)) (m : Int) : Code := ⟨name, f.toNat, d.toNat, rows, m.toNat⟩
theorem codeOf_fine {name : List UInt8} {f d : Int} {rows : List (List Int)} {m : Int} (h : Fine name f d rows m) :
    FineC (codeOf name f d rows m) ∧ ((codeOf name f d rows m).field : Int) = f ∧ ((codeOf name f d rows m).data : Int) = d ∧ ((codeOf name f d rows m).domain : Int) = m := by
  have h1 := h.d1; have h2 := h.m1; have h3 := h.fi
  have e1 : ((f.toNat : Nat) : Int) = f := Int.toNat_of_nonneg (by omega)
  have e2 : ((d.toNat : Nat) : Int) = d := Int.toNat_of_nonneg (by omega)
  have e3 : ((m.toNat : Nat) : Int) = m := Int.toNat_of_nonneg (by omega)
  refine ⟨?_, e1, e2, e3⟩
  show Fine name (f.toNat : Int) (d.toNat : Int) rows (m.toNat : Int)
  rw [e1, e2, e3]; exact h
theorem pr_ok {name : List UInt8} {f d : Int} {rows : List (List Int)} {m : Int} {t : List UInt8} (h : pr name f d rows m = .ok t) : Fine name f d rows m ∧ t = prC (codeOf name f d rows m) ∧ t.length ≤ 2000 := by
  unfold pr at h
  split at h
  · rename_i hc
    have hF := ck_fine hc
    split at h
    · cases h
    · rename_i hl
      injection h with h
      obtain ⟨_, e1, e2, e3⟩ := codeOf_fine hF
      refine ⟨hF, ?_, by rw [← h]; omega⟩
      rw [← h]
      unfold prC
      rw [e1, e2, e3]; rfl
  · cases h
end Go.Proofs.YtppeplonnippcaaDoor.Sp

namespace Go.Proofs.YtppeplonnippcaaDoor.Sp

/-! ### Every word among the tokens of a text is one -/
def W (t : Tok) : Prop := t.kind = 1 → wd t.txt = true
theorem tokAt_W (p : Nat) (l : List UInt8) : W (tokAt p l) := by
  intro h
  cases l with
  | nil => simp [tokAt] at h
  | cons c l =>
    simp only [tokAt] at h ⊢
    by_cases h1 : isL c = true
    · rw [if_pos h1]
      simp only [List.takeWhile_cons, h1, Bool.true_or, if_true, wd, Bool.true_and]
      exact List.all_takeWhile
    · rw [if_neg h1] at h
      exfalso
      split at h
      · split at h <;> simp at h
      · split at h <;> simp at h
theorem toks_W (n : Nat) : ∀ (l : List UInt8) (p : Nat), l.length = n → ∀ t ∈ toks p l, W t := by
  induction n using Nat.strongRecOn with
  | ind n ih =>
    intro l p hn t ht
    rw [toks] at ht
    split at ht
    · rw [List.mem_singleton.1 ht]; exact tokAt_W _ _
    · rename_i h
      have h1 := tokAt_pos (p + skpN false l) (l.drop (skpN false l)) (by omega)
      have h2 := tokAt_le (p + skpN false l) (l.drop (skpN false l))
      simp only [List.length_drop] at h2
      rcases List.mem_cons.1 ht with rfl | ht
      · exact tokAt_W _ _
      · exact ih _ (by simp only [List.length_drop]; omega) _ _ rfl t ht
theorem hd_mem {ts : List Tok} (h : ts ≠ []) : hd ts ∈ ts := by
  cases ts with
  | nil => exact absurd rfl h
  | cons a l => exact List.mem_cons_self ..
theorem pKind_mem {k : Nat} {ts t' : List Tok} {a : Tok} (h : pKind k ts = .ok (a, t')) (hk : k ≠ 4) : a ∈ ts ∧ a.kind = k ∧ t' = ts.tail := by
  unfold pKind at h
  split at h
  · rename_i hh
    simp only [Except.ok.injEq, Prod.mk.injEq] at h
    refine ⟨?_, by rw [← h.1]; exact hh, h.2.symm⟩
    rw [← h.1]
    exact hd_mem fun e => by subst e; exact hk hh.symm
  · cases h

/-! ### What is built -/
theorem fillR_range {loc : Bool} {idx : List Tok} {top : Nat} : ∀ {l : List Tok} {j : Nat} {row : List Int}, (∀ t ∈ l, t.n ≤ top) → (∀ x ∈ row, 0 ≤ x ∧ x ≤ (top : Int)) → ∀ x ∈ fillR loc idx j row l, 0 ≤ x ∧ x ≤ (top : Int) := by
  intro l
  induction l with
  | nil => intro j row _ hr; exact hr
  | cons c l ih =>
    intro j row hl hr
    refine ih (fun t ht => hl t (List.mem_cons_of_mem _ ht)) (fun x hx => ?_)
    have hc := hl c (List.mem_cons_self ..)
    rcases List.mem_or_eq_of_mem_set hx with h | h
    · exact hr x h
    · subst h; exact ⟨by omega, by omega⟩
theorem badCoef_all {top : Nat} {loc : Bool} {l : List Tok} (h : badCoef top loc l = none) : ∀ t ∈ l, t.n ≤ top ∧ ¬ (loc = true ∧ t.n = 0) := by
  induction l with
  | nil => intro t ht; cases ht
  | cons c l ih =>
    simp only [badCoef] at h
    split at h
    · rename_i hc
      intro t ht
      rcases List.mem_cons.1 ht with rfl | ht
      · exact hc
      · exact ih h t ht
    · cases h
/-- the last one that is laid stays -/
theorem fill_par_pos {idx : List Tok} : ∀ {l : List Tok} {j : Nat} {row : List Int}, j + l.length ≤ row.length → (∃ t ∈ l, t.n ≠ 0) ∨ (∃ i, i < j ∧ ∃ x, row[i]? = some x ∧ 0 < x) → ∃ x ∈ fillR false idx j row l, 0 < x := by
  intro l
  induction l with
  | nil =>
    intro j row _ h
    rcases h with ⟨t, ht, _⟩ | ⟨i, hi, x, hx, h0⟩
    · cases ht
    · exact ⟨x, List.mem_of_getElem? hx, h0⟩
  | cons c l ih =>
    intro j row hl h
    simp only [List.length_cons] at hl
    simp only [fillR, Bool.false_eq_true, if_false]
    refine ih (by rw [List.length_set]; omega) ?_
    rcases h with ⟨t, ht, h0⟩ | ⟨i, hi, x, hx, h0⟩
    · rcases List.mem_cons.1 ht with rfl | ht
      · right
        exact ⟨j, by omega, (t.n : Int), by rw [List.getElem?_set_self (by omega)], by omega⟩
      · exact .inl ⟨t, ht, h0⟩
    · right
      exact ⟨i, by omega, x, by rw [List.getElem?_set_ne (by omega)]; exact hx, h0⟩
theorem fill_loc_pos {idx : List Tok} : ∀ {l : List Tok} {j : Nat} {row : List Int}, (∀ t ∈ l, t.n ≠ 0) → (∀ t ∈ idx, t.n < row.length) → j + l.length ≤ idx.length → l ≠ [] → ∃ x ∈ fillR true idx j row l, 0 < x := by
  intro l
  induction l with
  | nil => intro j row _ _ _ h; exact absurd rfl h
  | cons c l ih =>
    intro j row h0 hi hl _
    simp only [List.length_cons] at hl
    have hj : j < idx.length := by omega
    have hn := hi idx[j] (List.getElem_mem hj)
    simp only [fillR, if_true]
    have hg : (idx[j]?).getD ⟨0, 0, [], 0⟩ = idx[j] := by rw [List.getElem?_eq_getElem hj]; rfl
    rw [hg]
    cases l with
    | nil =>
      refine ⟨(c.n : Int), ?_, by have := h0 c (List.mem_cons_self ..); omega⟩
      show (c.n : Int) ∈ row.set idx[j].n (c.n : Int)
      exact List.mem_set hn _
    | cons d l =>
      exact ih (fun t ht => h0 t (List.mem_cons_of_mem _ ht)) (by rw [List.length_set]; exact hi) (by simp only [List.length_cons] at hl ⊢; omega) (by simp)
theorem sumN_pos {l : List Tok} (h : sumN l ≠ 0) : ∃ t ∈ l, t.n ≠ 0 := by
  induction l with
  | nil => exact absurd rfl h
  | cons a l ih =>
    by_cases ha : a.n = 0
    · simp only [sumN, List.map_cons, List.sum_cons, ha, Nat.zero_add] at h
      obtain ⟨t, ht, h0⟩ := ih h
      exact ⟨t, List.mem_cons_of_mem _ ht, h0⟩
    · exact ⟨a, List.mem_cons_self .., ha⟩
theorem bldRow_ok {x : Row} {f data : Nat} {r : List Int} (hf : f = 8 ∨ f = 16) (h : bldRow x data (topOf f) = .ok r) : rowOk f data r = true := by
  unfold bldRow at h
  rcases hi : badIdx data (-1) x.idx with _ | p
  case some => rw [hi] at h; cases h
  rw [hi] at h
  simp only at h
  by_cases hl : x.coef.length ≠ (if x.loc = true then x.idx.length else data)
  · rw [if_pos hl] at h; cases h
  rw [if_neg hl] at h
  rcases hc : badCoef (topOf f) x.loc x.coef with _ | p
  case some => rw [hc] at h; cases h
  rw [hc] at h
  simp only at h
  by_cases hs : sumN x.coef = 0
  · rw [if_pos hs] at h; cases h
  rw [if_neg hs] at h
  injection h with h
  simp only [ne_eq, Decidable.not_not] at hl
  have hca := badCoef_all hc
  have hia := badIdx_all hi
  have hlen : r.length = data := by rw [← h, fillR_len, List.length_replicate]
  have hrng : ∀ y ∈ r, 0 ≤ y ∧ y ≤ (topOf f : Int) := by
    rw [← h]
    exact fillR_range (fun t ht => (hca t ht).1) (fun y hy => by rw [(List.mem_replicate.1 hy).2]; exact ⟨Int.le_refl _, by omega⟩)
  have hpos : ∃ y ∈ r, 0 < y := by
    obtain ⟨t, ht, h0⟩ := sumN_pos hs
    rw [← h]
    cases hloc : x.loc with
    | false =>
      rw [hloc] at hl
      exact fill_par_pos (by rw [List.length_replicate]; simp only [Bool.false_eq_true, if_false] at hl; omega) (.inl ⟨t, ht, h0⟩)
    | true =>
      rw [hloc] at hl hca
      simp only [if_true] at hl
      exact fill_loc_pos (fun u hu => fun e => (hca u hu).2 ⟨rfl, e⟩) (by rw [List.length_replicate]; exact hia) (by omega) (by intro e; rw [e] at ht; cases ht)
  simp only [rowOk, Bool.and_eq_true, decide_eq_true_eq, List.all_eq_true, List.any_eq_true]
  refine ⟨⟨by omega, fun y hy => ⟨(hrng y hy).1, by have := (hrng y hy).2; rw [topOf_int f hf] at this; exact this⟩⟩, hpos⟩
theorem bldRows_ok {f data : Nat} (hf : f = 8 ∨ f = 16) (hd : data ≤ 31) : ∀ {xs : List Row} {acc rows : List (List Int)}, bldRows data (topOf f) acc xs = .ok rows → data + acc.length ≤ 32 → (∀ r ∈ acc, rowOk f data r = true) →
    (∀ r ∈ rows, rowOk f data r = true) ∧ data + rows.length ≤ 32 ∧ rows.length = acc.length + xs.length := by
  intro xs
  induction xs with
  | nil => intro acc rows h hw ha; simp only [bldRows, Except.ok.injEq] at h; subst h; exact ⟨ha, hw, by simp⟩
  | cons x xs ih =>
    intro acc rows h hw ha
    simp only [bldRows] at h
    split at h
    · split at h
      · cases h
      · rename_i r hr
        obtain ⟨h1, h2, h3⟩ := ih h (by rw [List.length_append]; simp; omega) (fun q hq => by
          rcases List.mem_append.1 hq with hq | hq
          · exact ha q hq
          · rw [List.mem_singleton.1 hq]; exact bldRow_ok hf hr)
        refine ⟨h1, h2, ?_⟩
        rw [h3, List.length_append]; simp; omega
    · cases h
theorem bld_fine {s : Src} {c : Code} (h : bld s = .ok c) (hw : wd s.name.txt = true) (hr : s.rows ≠ []) : FineC c := by
  unfold bld at h
  split at h
  · cases h
  · rename_i h1
    split at h
    · cases h
    · rename_i h2
      split at h
      · cases h
      · rename_i h3
        simp only [Decidable.not_not] at h2 h3
        split at h
        · cases h
        · rename_i rows hb
          split at h
          · cases h
          · rename_i d hd
            injection h with h
            subst h
            obtain ⟨k1, k2, k3⟩ := bldRows_ok h2 h3.2 hb (by simp; omega) (fun r hr => by cases hr)
            have hdd : 1 ≤ d ∧ d ≤ s.data.n + rows.length := by
              unfold bldDom at hd
              split at hd
              · injection hd with hd; omega
              · split at hd
                · rename_i hh; injection hd with hd; omega
                · cases hd
            have hne : rows ≠ [] := by
              intro e
              rw [e] at k3
              simp only [List.length_nil] at k3
              exact hr (List.eq_nil_of_length_eq_zero (by omega))
            exact ⟨hw, by show s.name.txt.length ≤ 12; omega, by show ((s.field.n : Nat) : Int) = 8 ∨ ((s.field.n : Nat) : Int) = 16; omega, by show (1 : Int) ≤ (s.data.n : Nat); omega, by show ((s.data.n : Nat) : Int) ≤ 31; omega, hne,
              by show ((s.data.n : Nat) : Int) + (rows.length : Int) ≤ 32; omega, k1, by show (1 : Int) ≤ (d : Nat); omega, by show ((d : Nat) : Int) ≤ ((s.data.n : Nat) : Int) + (rows.length : Int); omega⟩
end Go.Proofs.YtppeplonnippcaaDoor.Sp

namespace Go.Proofs.YtppeplonnippcaaDoor.Sp

/-- the tokens begin at m at the latest -/
def AtLe (m : Nat) (ts : List Tok) : Prop := ∀ t ∈ ts, t.at_ ≤ m
theorem AtLe.hd {m : Nat} {ts : List Tok} (h : AtLe m ts) : (hd ts).at_ ≤ m := by
  cases ts with
  | nil => exact Nat.zero_le _
  | cons a l => exact h a (List.mem_cons_self ..)
theorem AtLe.sub {m : Nat} {ts us : List Tok} (h : AtLe m ts) (hs : ∀ t ∈ us, t ∈ ts) : AtLe m us := fun t ht => h t (hs t ht)
theorem toks_at_le (n : Nat) : ∀ (l : List UInt8) (p : Nat), l.length = n → AtLe (p + l.length) (toks p l) := by
  induction n using Nat.strongRecOn with
  | ind n ih =>
    intro l p hn t ht
    have hs := skpN_le false l
    rw [toks] at ht
    split at ht
    · rw [List.mem_singleton.1 ht, tokAt_at]; omega
    · rename_i h
      have h1 := tokAt_pos (p + skpN false l) (l.drop (skpN false l)) (by omega)
      have h2 := tokAt_le (p + skpN false l) (l.drop (skpN false l))
      simp only [List.length_drop] at h2
      rcases List.mem_cons.1 ht with rfl | ht
      · rw [tokAt_at]; omega
      · have := ih _ (by simp only [List.length_drop]; omega) _ (p + skpN false l + (tokAt (p + skpN false l) (l.drop (skpN false l))).txt.length) rfl t ht
        simp only [List.length_drop] at this
        omega

/-- what a part of the parser may do: refuse at a token, or go on with tokens that were there -/
def Gd {α : Type} (m : Nat) (ts : List Tok) : Except Nat (α × List Tok) → Prop
  | .error p => p ≤ m
  | .ok (_, t') => ∀ t ∈ t', t ∈ ts
theorem Gd.sub {α : Type} {m : Nat} {ts us : List Tok} {r : Except Nat (α × List Tok)} (hs : ∀ t ∈ us, t ∈ ts) (h : Gd m us r) : Gd m ts r := by
  rcases r with p | ⟨a, t'⟩
  · exact h
  · exact fun t ht => hs t (h t ht)
theorem gd_tok (k : List UInt8) {m : Nat} {ts : List Tok} (h : AtLe m ts) : Gd m ts (pTok k ts) := by
  unfold pTok
  split
  · exact fun t h => List.mem_of_mem_tail h
  · exact h.hd
theorem gd_kind (k : Nat) {m : Nat} {ts : List Tok} (h : AtLe m ts) : Gd m ts (pKind k ts) := by
  unfold pKind
  split
  · exact fun t h => List.mem_of_mem_tail h
  · exact h.hd
theorem gd_nums {m : Nat} {ts : List Tok} (h : AtLe m ts) : Gd m ts (pNums ts) := by
  unfold pNums
  split
  · exact fun t h => List.dropWhile_subset _ h
  · exact h.hd
theorem gd_one (key : List UInt8) {m : Nat} {ts : List Tok} (h : AtLe m ts) : Gd m ts (pOne key ts) := by
  unfold pOne
  have k1 := gd_tok key h
  revert k1
  rcases pTok key ts with p | ⟨a, t1⟩ <;> intro k1
  · exact k1
  refine Gd.sub (us := t1) k1 ?_
  have k2 := gd_kind 2 (h.sub k1)
  dsimp only
  revert k2
  rcases pKind 2 t1 with p | ⟨n, t2⟩ <;> intro k2
  · exact k2
  refine Gd.sub (us := t2) k2 ?_
  have k3 := gd_tok kSemi ((h.sub k1).sub k2)
  dsimp only
  revert k3
  rcases pTok kSemi t2 with p | ⟨a, t3⟩ <;> intro k3
  · exact k3
  · exact k3
theorem gd_row {m : Nat} {ts : List Tok} (h : AtLe m ts) : Gd m ts (pRow ts) := by
  unfold pRow
  split
  · have h0 : ∀ t ∈ ts.tail, t ∈ ts := fun t ht => List.mem_of_mem_tail ht
    refine Gd.sub h0 ?_
    have k1 := gd_nums (h.sub h0)
    revert k1
    rcases pNums ts.tail with p | ⟨i, t2⟩ <;> intro k1
    · exact k1
    refine Gd.sub (us := t2) k1 ?_
    have a1 := (h.sub h0).sub k1
    have k2 := gd_tok kColon a1
    dsimp only
    revert k2
    rcases pTok kColon t2 with p | ⟨_, t3⟩ <;> intro k2
    · exact k2
    refine Gd.sub (us := t3) k2 ?_
    have a2 := a1.sub k2
    have k3 := gd_nums a2
    dsimp only
    revert k3
    rcases pNums t3 with p | ⟨c, t4⟩ <;> intro k3
    · exact k3
    refine Gd.sub (us := t4) k3 ?_
    have k4 := gd_tok kSemi (a2.sub k3)
    dsimp only
    revert k4
    rcases pTok kSemi t4 with p | ⟨_, t5⟩ <;> intro k4
    · exact k4
    · exact k4
  · have k1 := gd_tok kParity h
    revert k1
    rcases pTok kParity ts with p | ⟨_, t1⟩ <;> intro k1
    · exact k1
    refine Gd.sub (us := t1) k1 ?_
    have a1 := h.sub k1
    have k2 := gd_nums a1
    dsimp only
    revert k2
    rcases pNums t1 with p | ⟨c, t2⟩ <;> intro k2
    · exact k2
    refine Gd.sub (us := t2) k2 ?_
    have k3 := gd_tok kSemi (a1.sub k2)
    dsimp only
    revert k3
    rcases pTok kSemi t2 with p | ⟨_, t3⟩ <;> intro k3
    · exact k3
    · exact k3
theorem gd_more (k : Nat) : ∀ {m : Nat} {ts : List Tok}, AtLe m ts → Gd m ts (pMore k ts) := by
  induction k with
  | zero => intro m ts h; exact fun t h => h
  | succ k ih =>
    intro m ts h
    simp only [pMore]
    split
    · have k1 := gd_row h
      revert k1
      rcases pRow ts with p | ⟨x, t1⟩ <;> intro k1
      · exact k1
      refine Gd.sub (us := t1) k1 ?_
      have k2 := ih (h.sub k1)
      dsimp only
      revert k2
      rcases pMore k t1 with p | ⟨l, t2⟩ <;> intro k2
      · exact k2
      · exact k2
    · exact fun t h => h
theorem gd_dom {m : Nat} {ts : List Tok} (h : AtLe m ts) : Gd m ts (pDom ts) := by
  unfold pDom
  split
  · have k1 := gd_one kDomain h
    revert k1
    rcases pOne kDomain ts with p | ⟨n, t1⟩ <;> intro k1
    · exact k1
    · exact k1
  · exact fun t h => h
/-- the last token that is read is the closing brace -/
theorem gd_last {m : Nat} {ts : List Tok} (h : AtLe m ts) : Gd m ts (pTail ts) ∧ ∀ o t', pTail ts = .ok (o, t') → ∃ t ∈ ts, t.txt = kShut := by
  unfold pTail
  have k1 := gd_dom h
  revert k1
  rcases pDom ts with p | ⟨o, t1⟩ <;> intro k1
  · exact ⟨k1, fun o t' e => by cases e⟩
  have k2 := gd_tok kShut (h.sub k1)
  dsimp only
  rcases h2 : pTok kShut t1 with p | ⟨a, t2⟩
  · rw [h2] at k2
    exact ⟨k2, fun o t' e => by cases e⟩
  · rw [h2] at k2
    refine ⟨Gd.sub (us := t1) k1 k2, fun o' t' _ => ?_⟩
    unfold pTok at h2
    split at h2
    · rename_i hh
      refine ⟨hd t1, k1 _ (hd_mem ?_), hh⟩
      intro e; subst e; revert hh; decide
    · cases h2
theorem gd_head {m : Nat} {ts : List Tok} (h : AtLe m ts) : Gd m ts (pHead ts) ∧ ∀ nm f d t', pHead ts = .ok ((nm, f, d), t') → nm ∈ ts ∧ nm.kind = 1 := by
  unfold pHead
  have k1 := gd_tok kCode h
  revert k1
  rcases pTok kCode ts with p | ⟨_, t1⟩ <;> intro k1
  · exact ⟨k1, fun _ _ _ _ e => by cases e⟩
  have a1 := h.sub k1
  have k2 := gd_kind 1 a1
  dsimp only
  rcases h2 : pKind 1 t1 with p | ⟨nm, t2⟩
  · rw [h2] at k2
    exact ⟨Gd.sub (us := t1) k1 k2, fun _ _ _ _ e => by cases e⟩
  have hnm := pKind_mem h2 (by decide)
  rw [h2] at k2
  have a2 := a1.sub k2
  have k3 := gd_tok kOpen a2
  have s2 : ∀ t ∈ t2, t ∈ ts := fun t ht => k1 t (k2 t ht)
  dsimp only
  revert k3
  rcases pTok kOpen t2 with p | ⟨_, t3⟩ <;> intro k3
  · exact ⟨Gd.sub (us := t2) s2 k3, fun _ _ _ _ e => by cases e⟩
  have a3 := a2.sub k3
  have s3 : ∀ t ∈ t3, t ∈ ts := fun t ht => s2 t (k3 t ht)
  have k4 := gd_one kField a3
  dsimp only
  revert k4
  rcases pOne kField t3 with p | ⟨f, t4⟩ <;> intro k4
  · exact ⟨Gd.sub (us := t3) s3 k4, fun _ _ _ _ e => by cases e⟩
  have a4 := a3.sub k4
  have s4 : ∀ t ∈ t4, t ∈ ts := fun t ht => s3 t (k4 t ht)
  have k5 := gd_one kData a4
  dsimp only
  revert k5
  rcases pOne kData t4 with p | ⟨d, t5⟩ <;> intro k5
  · exact ⟨Gd.sub (us := t4) s4 k5, fun _ _ _ _ e => by cases e⟩
  · refine ⟨Gd.sub (us := t4) s4 k5, fun nm' f' d' t' e => ?_⟩
    injection e with e
    injection e with e _
    injection e with e _
    subst e
    exact ⟨k1 _ hnm.1, hnm.2.1⟩
theorem gd_code {m : Nat} {ts : List Tok} (h : AtLe m ts) : Gd m ts (pCode ts) ∧ ∀ s t', pCode ts = .ok (s, t') → (s.name ∈ ts ∧ s.name.kind = 1) ∧ s.rows ≠ [] ∧ ∃ t ∈ ts, t.txt = kShut := by
  unfold pCode
  obtain ⟨k1, n1⟩ := gd_head h
  rcases h1 : pHead ts with p | ⟨⟨nm, f, d⟩, t5⟩
  · rw [h1] at k1
    exact ⟨k1, fun _ _ e => by cases e⟩
  have hn := n1 _ _ _ _ h1
  rw [h1] at k1
  have a1 := h.sub k1
  have k2 := gd_row a1
  dsimp only
  revert k2
  rcases pRow t5 with p | ⟨x, t6⟩ <;> intro k2
  · exact ⟨Gd.sub (us := t5) k1 k2, fun _ _ e => by cases e⟩
  have a2 := a1.sub k2
  have s2 : ∀ t ∈ t6, t ∈ ts := fun t ht => k1 t (k2 t ht)
  have k3 := gd_more t6.length a2
  dsimp only
  revert k3
  rcases pMore t6.length t6 with p | ⟨l, t7⟩ <;> intro k3
  · exact ⟨Gd.sub (us := t6) s2 k3, fun _ _ e => by cases e⟩
  have a3 := a2.sub k3
  have s3 : ∀ t ∈ t7, t ∈ ts := fun t ht => s2 t (k3 t ht)
  obtain ⟨k4, n4⟩ := gd_last a3
  dsimp only
  rcases h4 : pTail t7 with p | ⟨o, t8⟩
  · rw [h4] at k4
    exact ⟨Gd.sub (us := t7) s3 k4, fun _ _ e => by cases e⟩
  · obtain ⟨t, ht, hs⟩ := n4 _ _ h4
    rw [h4] at k4
    refine ⟨Gd.sub (us := t7) s3 k4, fun s t' e => ?_⟩
    injection e with e
    injection e with e _
    subst e
    exact ⟨hn, by simp, t, s3 t ht, hs⟩

/-- a text is refused within it or at its end -/
theorem pAll_le {single : Bool} (n : Nat) : ∀ {m : Nat} {ts : List Tok} {acc : List Src}, ts.length = n → AtLe m ts → ∀ p, pAll single acc ts = .error p → p ≤ m := by
  induction n using Nat.strongRecOn with
  | ind n ih =>
    intro m ts acc hn h p hp
    by_cases h4 : (hd ts).kind = 4 ∧ ¬ (single = true ∧ acc = [])
    · rw [pAll_end h4.1 h4.2] at hp; cases hp
    · by_cases h5 : single = true ∧ acc ≠ []
      · rw [pAll, if_neg h4, if_pos h5] at hp
        injection hp with hp; subst hp; exact h.hd
      · have k := (gd_code h).1
        rcases hc : pCode ts with q | ⟨x, t'⟩
        · rw [pAll_bad ⟨h4, h5⟩ hc] at hp
          rw [hc] at k
          injection hp with hp; subst hp; exact k
        · rw [hc] at k
          rw [pAll_ok ⟨h4, h5⟩ hc] at hp
          exact ih t'.length (by have := pCode_lt hc; omega) rfl (h.sub k) p hp
/-- the sources' names are words, and each has a row -/
theorem pAll_src {single : Bool} (n : Nat) : ∀ {ts : List Tok} {acc l : List Src}, ts.length = n → (∀ t ∈ ts, W t) → (∀ s ∈ acc, wd s.name.txt = true ∧ s.rows ≠ []) → pAll single acc ts = .ok l → ∀ s ∈ l, wd s.name.txt = true ∧ s.rows ≠ [] := by
  induction n using Nat.strongRecOn with
  | ind n ih =>
    intro ts acc l hn hW ha hp
    by_cases h4 : (hd ts).kind = 4 ∧ ¬ (single = true ∧ acc = [])
    · rw [pAll_end h4.1 h4.2] at hp
      injection hp with hp; subst hp; exact ha
    · by_cases h5 : single = true ∧ acc ≠ []
      · rw [pAll, if_neg h4, if_pos h5] at hp; cases hp
      · have hm : ∃ m, AtLe m ts := by
          clear hn ih hp h4 h5 hW
          induction ts with
          | nil => exact ⟨0, fun t ht => by cases ht⟩
          | cons a ts ih' =>
            obtain ⟨m, hm⟩ := ih'
            refine ⟨m + a.at_, fun t ht => ?_⟩
            rcases List.mem_cons.1 ht with rfl | ht
            · omega
            · have := hm t ht; omega
        obtain ⟨m, hm⟩ := hm
        obtain ⟨k, k2⟩ := gd_code hm
        rcases hc : pCode ts with q | ⟨x, t'⟩
        · rw [pAll_bad ⟨h4, h5⟩ hc] at hp; cases hp
        · obtain ⟨⟨h1, h2⟩, h3, _⟩ := k2 _ _ hc
          rw [hc] at k
          rw [pAll_ok ⟨h4, h5⟩ hc] at hp
          refine ih t'.length (by have := pCode_lt hc; omega) rfl (fun t ht => hW t (k t ht)) (fun s hs => ?_) hp
          rcases List.mem_append.1 hs with hs | hs
          · exact ha s hs
          · rw [List.mem_singleton.1 hs]; exact ⟨hW _ h1 h2, h3⟩
theorem bAll_fine {ss : List Src} : ∀ {acc cs : List Code} {names : List (List UInt8)}, (∀ s ∈ ss, wd s.name.txt = true ∧ s.rows ≠ []) → (∀ c ∈ acc, FineC c) → bAll acc names ss = .ok cs → ∀ c ∈ cs, FineC c := by
  induction ss with
  | nil => intro acc cs names _ ha h; simp only [bAll, Except.ok.injEq] at h; subst h; exact ha
  | cons s ss ih =>
    intro acc cs names hs ha h
    simp only [bAll] at h
    split at h
    · cases h
    · split at h
      · cases h
      · split at h
        · cases h
        · rename_i c hc
          refine ih (fun s h => hs s (List.mem_cons_of_mem _ h)) (fun c' hc' => ?_) h
          rcases List.mem_append.1 hc' with h' | h'
          · exact ha c' h'
          · rw [List.mem_singleton.1 h']
            have := hs s (List.mem_cons_self ..)
            exact bld_fine hc this.1 this.2
theorem parse_fine {single : Bool} {text : List UInt8} {cs : List Code} (h : parseL single text = .ok cs) : ∀ c ∈ cs, FineC c := by
  unfold parseL at h
  split at h
  · cases h
  · unfold parseTs at h
    split at h
    · cases h
    · rename_i l hl
      exact bAll_fine (pAll_src _ rfl (toks_W _ text 0 rfl) (fun s hs => by cases hs) hl) (fun c hc => by cases hc) h

theorem tok_chars (n : Nat) : ∀ (l : List UInt8) (p : Nat), l.length = n → ∀ t ∈ toks p l, ∀ c ∈ t.txt, c ∈ l := by
  induction n using Nat.strongRecOn with
  | ind n ih =>
    intro l p hn t ht c hc
    have key : ∀ q k, c ∈ (tokAt q (l.drop k)).txt → c ∈ l := fun q k h => by
      rw [tokAt_take] at h
      exact List.mem_of_mem_drop (List.mem_of_mem_take h)
    rw [toks] at ht
    split at ht
    · rw [List.mem_singleton.1 ht] at hc; exact key _ _ hc
    · rename_i h
      have h1 := tokAt_pos (p + skpN false l) (l.drop (skpN false l)) (by omega)
      have h2 := tokAt_le (p + skpN false l) (l.drop (skpN false l))
      simp only [List.length_drop] at h2
      rcases List.mem_cons.1 ht with rfl | ht
      · exact key _ _ hc
      · exact List.mem_of_mem_drop (ih _ (by simp only [List.length_drop]; omega) _ _ rfl t ht c hc)
/-- no code without its closing brace -/
theorem parse_no_brace {text : List UInt8} (hl : text.length ≤ 2000) (hb : (125 : UInt8) ∉ text) : ∃ p, parseL true text = .error (p, 3) ∧ p ≤ text.length := by
  have ha := toks_at_le _ text 0 rfl
  have hle := pAll_le (single := true) (acc := []) _ rfl ha
  rcases hc : pCode (toks 0 text) with p | ⟨s, t'⟩
  · have hp := pAll_bad (single := true) (acc := []) ⟨fun hh => hh.2 ⟨rfl, rfl⟩, fun hh => hh.2 rfl⟩ hc
    refine ⟨p, ?_, by have := hle p hp; omega⟩
    unfold parseL parseTs
    rw [if_neg (by omega), hp]
  · obtain ⟨_, _, t, ht, hs⟩ := (gd_code ha).2 _ _ hc
    have := tok_chars _ text 0 rfl t ht 125 (by rw [hs]; simp [kShut])
    exact absurd this hb
end Go.Proofs.YtppeplonnippcaaDoor.Sp
