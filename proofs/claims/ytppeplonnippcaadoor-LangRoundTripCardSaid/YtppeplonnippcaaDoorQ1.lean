/-
Layer 7: a text that is made of gaps and tokens is parsed as these tokens.
-/
import Derived.Test.YtppeplonnippcaaDoorS
set_option linter.unusedVariables false
set_option linter.unusedSimpArgs false
namespace Go.Proofs.YtppeplonnippcaaDoor.Sp

/-- what stands between two tokens -/
def Gap (g : List UInt8) : Prop := ∀ rest, skpN false (g ++ rest) = g.length + skpN false rest
theorem gap_nil : Gap [] := fun rest => by simp
theorem gap_app {a b : List UInt8} (ha : Gap a) (hb : Gap b) : Gap (a ++ b) := fun rest => by
  rw [List.append_assoc, ha, hb, List.length_append]; omega
theorem gap_b {c : UInt8} (h : isB c = true) : Gap [c] := fun rest => by
  simp only [List.cons_append, List.nil_append, skpN, h, if_true, List.length_cons, List.length_nil]

/-- a token, whatever its offset -/
inductive Lx where
  | word (w : List UInt8)
  | num (n : Nat)
  | sign (c : UInt8)
def Lx.txt : Lx → List UInt8
  | .word w => w
  | .num n => Lib.decDigits n
  | .sign c => [c]
def Lx.Ok : Lx → Prop
  | .word w => wd w = true
  | .num n => n ≤ 99999
  | .sign c => isS c = true
def Lx.tok (p : Nat) : Lx → Tok
  | .word w => ⟨p, 1, w, 0⟩
  | .num n => ⟨p, 2, Lib.decDigits n, n⟩
  | .sign c => ⟨p, 3, [c], 0⟩
/-- the text does not go on with a letter or a digit -/
def Ends (l : List UInt8) : Prop := ∀ c, l.head? = some c → isL c = false ∧ isD c = false
def Lx.glues : Lx → Bool
  | .sign _ => false
  | _ => true

theorem takeWhile_stop {α : Type} (p : α → Bool) (l r : List α) (hl : l.all p = true) (hr : ∀ c, r.head? = some c → p c = false) : (l ++ r).takeWhile p = l := by
  induction l with
  | nil =>
    cases r with
    | nil => rfl
    | cons c r => simp [List.takeWhile_cons, hr c rfl]
  | cons a l ih =>
    simp only [List.all_cons, Bool.and_eq_true] at hl
    simp only [List.cons_append, List.takeWhile_cons, hl.1, if_true, ih hl.2]

theorem isD_dec (n : Nat) : (Lib.decDigits n).all isD = true := by
  induction n using Nat.strongRecOn with
  | _ n ih =>
    have dg : ∀ k, k < 10 → isD (UInt8.ofNat (48 + k)) = true := fun k hk => by
      rcases (by omega : k = 0 ∨ k = 1 ∨ k = 2 ∨ k = 3 ∨ k = 4 ∨ k = 5 ∨ k = 6 ∨ k = 7 ∨ k = 8 ∨ k = 9) with h | h | h | h | h | h | h | h | h | h <;> subst h <;> rfl
    rw [Lib.decDigits]
    split
    · rename_i h; simp only [List.all_cons, List.all_nil, Bool.and_true]; exact dg n h
    · rw [List.all_append, ih (n / 10) (by omega)]
      simp only [List.all_cons, List.all_nil, Bool.and_true, Bool.true_and]
      exact dg _ (by omega)
theorem toNat_dg (k : Nat) (h : k < 10) : (UInt8.ofNat (48 + k)).toNat - 48 = k := by
  rcases (by omega : k = 0 ∨ k = 1 ∨ k = 2 ∨ k = 3 ∨ k = 4 ∨ k = 5 ∨ k = 6 ∨ k = 7 ∨ k = 8 ∨ k = 9) with h | h | h | h | h | h | h | h | h | h <;> subst h <;> rfl
theorem val_dec (n : Nat) : valD (Lib.decDigits n) = n := by
  induction n using Nat.strongRecOn with
  | _ n ih =>
    rw [Lib.decDigits]
    split
    · rename_i h
      have := toNat_dg n h
      show 10 * 0 + ((UInt8.ofNat (48 + n)).toNat - 48) = n
      omega
    · rw [valD_snoc, ih (n / 10) (by omega), toNat_dg _ (by omega)]
      omega
/-- no number begins with a 0 but 0 itself -/
theorem dec_head (n : Nat) (h : 10 ≤ n) : ∃ c r, Lib.decDigits n = c :: r ∧ c.toNat ≠ 48 := by
  induction n using Nat.strongRecOn with
  | _ n ih =>
    rw [Lib.decDigits, dif_neg (by omega)]
    by_cases h2 : n / 10 < 10
    · rw [Lib.decDigits, dif_pos h2]
      refine ⟨_, _, rfl, ?_⟩
      have h3 := toNat_dg (n / 10) h2
      intro e
      omega
    · obtain ⟨c, r, e, hc⟩ := ih (n / 10) (by omega) (by omega)
      rw [e]
      exact ⟨c, _, rfl, hc⟩

theorem tokAt_lx (p : Nat) (x : Lx) (rest : List UInt8) (hx : x.Ok) (hr : x.glues = true → Ends rest) : tokAt p (x.txt ++ rest) = x.tok p := by
  cases x with
  | word w =>
    cases w with
    | nil => simp [Lx.Ok, wd] at hx
    | cons c w =>
      simp only [Lx.Ok, wd, Bool.and_eq_true] at hx
      have he := hr rfl
      simp only [Lx.txt, List.cons_append, tokAt, hx.1, if_true, Lx.tok, Tok.mk.injEq, and_true, true_and]
      rw [← List.cons_append]
      exact takeWhile_stop _ _ _ (by simp only [List.all_cons, hx.1, Bool.true_or, Bool.true_and]; exact hx.2) (fun c hc => by have := he c hc; simp [this.1, this.2])
  | num n =>
    have he := hr rfl
    have hd := isD_dec n
    have hl := decD_len 4 n (by have : n ≤ 99999 := hx; omega)
    have hv := val_dec n
    have htw : (Lib.decDigits n ++ rest).takeWhile isD = Lib.decDigits n := takeWhile_stop _ _ _ hd (fun c hc => (he c hc).2)
    obtain ⟨c, r, hcr⟩ : ∃ c r, Lib.decDigits n = c :: r := by
      rcases h : Lib.decDigits n with _ | ⟨c, r⟩
      · exact absurd h (decD_ne n)
      · exact ⟨c, r, rfl⟩
    have hcd : isD c = true := by rw [hcr] at hd; simp only [List.all_cons, Bool.and_eq_true] at hd; exact hd.1
    have hcl : isL c = false := by
      simp only [isD, Bool.and_eq_true, decide_eq_true_eq] at hcd
      simp only [isL, Bool.and_eq_false_iff, decide_eq_false_iff_not]
      omega
    have hnz : ¬ (5 < (Lib.decDigits n).length ∨ (c.toNat = 48 ∧ 1 < (Lib.decDigits n).length)) := by
      rintro (h | ⟨h, h1⟩)
      · omega
      · by_cases h10 : n < 10
        · rw [Lib.decDigits, dif_pos h10] at h1; simp at h1
        · obtain ⟨c', r', e, hc'⟩ := dec_head n (by omega)
          rw [hcr] at e
          injection e with e1 e2
          subst e1
          exact hc' h
    show tokAt p (Lib.decDigits n ++ rest) = ⟨p, 2, Lib.decDigits n, n⟩
    rw [hcr] at htw hnz hv ⊢
    simp only [List.cons_append] at htw ⊢
    simp only [tokAt, hcl, hcd, Bool.false_eq_true, if_false, if_true, htw]
    rw [if_neg hnz, hv]
  | sign c =>
    have hc : isS c = true := hx
    have hcl : isL c = false ∧ isD c = false := by
      simp only [isS, Bool.or_eq_true, decide_eq_true_eq] at hc
      simp only [isL, isD, Bool.and_eq_false_iff, decide_eq_false_iff_not]
      omega
    simp only [Lx.txt, List.cons_append, List.nil_append, tokAt, hcl.1, hcl.2, hc, Bool.false_eq_true, if_false, if_true, Lx.tok]

theorem skp_lx (x : Lx) (rest : List UInt8) (hx : x.Ok) : skpN false (x.txt ++ rest) = 0 := by
  have key : ∀ c l, (isL c = true ∨ isD c = true ∨ isS c = true) → skpN false (c :: l) = 0 := fun c l h => by
    have h1 : isB c = false := by
      simp only [isL, isD, isS, Bool.and_eq_true, Bool.or_eq_true, decide_eq_true_eq] at h
      simp only [isB, Bool.or_eq_false_iff, decide_eq_false_iff_not]; omega
    have h2 : ¬ c.toNat = 35 := by
      simp only [isL, isD, isS, Bool.and_eq_true, Bool.or_eq_true, decide_eq_true_eq] at h
      omega
    simp only [skpN, h1, h2, Bool.false_eq_true, if_false]
  cases x with
  | word w =>
    cases w with
    | nil => simp [Lx.Ok, wd] at hx
    | cons c w =>
      simp only [Lx.Ok, wd, Bool.and_eq_true] at hx
      exact key c _ (.inl hx.1)
  | num n =>
    have hd := isD_dec n
    show skpN false (Lib.decDigits n ++ rest) = 0
    rcases h : Lib.decDigits n with _ | ⟨c, r⟩
    · exact absurd h (decD_ne n)
    · rw [h] at hd
      simp only [List.all_cons, Bool.and_eq_true] at hd
      exact key c _ (.inr (.inl hd.1))
  | sign c => exact key c _ (.inr (.inr hx))

theorem toks_cons (p : Nat) (g : List UInt8) (x : Lx) (rest : List UInt8) (hg : Gap g) (hx : x.Ok) (hr : x.glues = true → Ends rest) :
    toks p (g ++ (x.txt ++ rest)) = x.tok (p + g.length) :: toks (p + g.length + x.txt.length) rest := by
  have h1 : skpN false (g ++ (x.txt ++ rest)) = g.length := by rw [hg, skp_lx x rest hx]; omega
  have h2 : (g ++ (x.txt ++ rest)).drop g.length = x.txt ++ rest := List.drop_left
  have h3 : (x.tok (p + g.length)).txt = x.txt := by cases x <;> rfl
  have h4 : ¬ 3 < (x.tok (p + g.length)).kind := by cases x <;> simp [Lx.tok]
  rw [toks]
  simp only [h1, h2, tokAt_lx _ x rest hx hr]
  rw [dif_neg h4, h3]
  congr 1
  rw [← List.drop_drop, h2, List.drop_left]
theorem toks_end (p : Nat) (g : List UInt8) (hg : Gap g) : toks p g = [⟨p + g.length, 4, [], 0⟩] := by
  have h := hg []
  simp only [List.append_nil, skpN, Nat.add_zero] at h
  rw [toks]
  simp only [h, List.drop_length, tokAt]
  rw [dif_pos (by show 3 < 4; omega)]

/-- gaps and tokens, one behind the other -/
def render : List (List UInt8 × Lx) → List UInt8 → List UInt8
  | [], e => e
  | (g, x) :: l, e => g ++ (x.txt ++ render l e)
/-- each token is one; where two would run together a gap that begins with no letter and no digit stands between them -/
def Fits : List (List UInt8 × Lx) → List UInt8 → Prop
  | [], e => Gap e
  | (g, x) :: l, e => Gap g ∧ x.Ok ∧ (x.glues = true → Ends (render l e)) ∧ Fits l e
def toksOf (p : Nat) : List (List UInt8 × Lx) → List UInt8 → List Tok
  | [], e => [⟨p + e.length, 4, [], 0⟩]
  | (g, x) :: l, e => x.tok (p + g.length) :: toksOf (p + g.length + x.txt.length) l e
theorem toks_render : ∀ (l : List (List UInt8 × Lx)) (e : List UInt8) (p : Nat), Fits l e → toks p (render l e) = toksOf p l e
  | [], e, p, h => toks_end p e h
  | (g, x) :: l, e, p, h => by
    obtain ⟨h1, h2, h3, h4⟩ := h
    rw [render, toks_cons p g x _ h1 h2 h3, toksOf, toks_render l e _ h4]

/-- the tokens are these, whatever their offsets -/
def Is (t : Tok) (x : Lx) : Prop := ∃ p, t = x.tok p
def Mt : List Tok → List Lx → Prop
  | ts, [] => ts = []
  | ts, x :: l => ∃ t r, ts = t :: r ∧ Is t x ∧ Mt r l
theorem toksOf_split : ∀ (l : List (List UInt8 × Lx)) (e : List UInt8) (p : Nat), ∃ ts t, toksOf p l e = ts ++ [t] ∧ t.kind = 4 ∧ Mt ts (l.map (·.2))
  | [], e, p => ⟨[], _, rfl, rfl, rfl⟩
  | (g, x) :: l, e, p => by
    obtain ⟨ts, t, h1, h2, h3⟩ := toksOf_split l e (p + g.length + x.txt.length)
    exact ⟨_ :: ts, t, by rw [toksOf, h1]; rfl, h2, _, ts, rfl, ⟨_, rfl⟩, h3⟩
theorem Mt.app {ts us : List Tok} {l m : List Lx} (h : Mt ts l) (k : Mt us m) : Mt (ts ++ us) (l ++ m) := by
  induction l generalizing ts with
  | nil => rw [show ts = [] from h]; exact k
  | cons x l ih => obtain ⟨t, r, rfl, h1, h2⟩ := h; exact ⟨t, _, rfl, h1, ih h2⟩
theorem Mt.split {ts : List Tok} {l m : List Lx} (h : Mt ts (l ++ m)) : ∃ us vs, ts = us ++ vs ∧ Mt us l ∧ Mt vs m := by
  induction l generalizing ts with
  | nil => exact ⟨[], ts, rfl, rfl, h⟩
  | cons x l ih =>
    obtain ⟨t, r, rfl, h1, h2⟩ := h
    obtain ⟨us, vs, rfl, h3, h4⟩ := ih h2
    exact ⟨t :: us, vs, rfl, ⟨t, us, rfl, h1, h3⟩, h4⟩
end Go.Proofs.YtppeplonnippcaaDoor.Sp
