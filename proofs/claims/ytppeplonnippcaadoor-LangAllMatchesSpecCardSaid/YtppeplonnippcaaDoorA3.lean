/-
The reader of layer 7: may, must, read: what they tell of the tokens that are left.
-/
import Derived.Test.YtppeplonnippcaaDoorA2
import Derived.Lib.Atoi
import Derived.Lib.AtoiAll
import Derived.Lib.AtoiAllCases
set_option linter.unusedVariables false
set_option linter.unusedSimpArgs false
namespace Go.Proofs.YtppeplonnippcaaDoor
open Go.RowKit

theorem tokAt_kind (p : Nat) (l : List UInt8) (h : (Sp.tokAt p l).txt ≠ []) : (Sp.tokAt p l).kind ≤ 3 := by
  cases l with
  | nil => simp [Sp.tokAt] at h
  | cons c l =>
    simp only [Sp.tokAt] at h ⊢
    repeat' split
    all_goals first | omega | simp_all

/-- behind the token that was read -/
structure AtE (w : World) (r : Nat) (s : ByteArray) (ts : List Sp.Tok) : Prop where
  le : (Sp.hd ts).at_ + (Sp.hd ts).txt.length ≤ s.size
  rd : Rd w r s ((Sp.hd ts).at_ + (Sp.hd ts).txt.length)
  at_ : At w r s ts.tail

theorem AtP.txt_le {w : World} {r : Nat} {s : ByteArray} {ts : List Sp.Tok} (h : AtP w r s ts) : (Sp.hd ts).at_ + (Sp.hd ts).txt.length ≤ s.size := by
  have h1 := Sp.toks_hd (Sp.hd ts).at_ (rst s (Sp.hd ts).at_)
  rw [h.tk] at h1
  have h2 := Sp.tokAt_le ((Sp.hd ts).at_ + Sp.skpN false (rst s (Sp.hd ts).at_)) ((rst s (Sp.hd ts).at_).drop (Sp.skpN false (rst s (Sp.hd ts).at_)))
  rw [← h1, List.length_drop, rst_len] at h2
  have := h.le
  omega

theorem AtP.skp0 {w : World} {r : Nat} {s : ByteArray} {ts : List Sp.Tok} (h : AtP w r s ts) : Sp.skpN false (rst s (Sp.hd ts).at_) = 0 := by
  have h1 := Sp.toks_at (Sp.hd ts).at_ (rst s (Sp.hd ts).at_)
  rw [h.tk] at h1
  omega

theorem AtP.next {w w' : World} {r : Nat} {s : ByteArray} {ts : List Sp.Tok} (h : AtP w r s ts) (hn : (Sp.hd ts).txt ≠ [])
    (hr : Rd w' r s ((Sp.hd ts).at_ + (Sp.hd ts).txt.length)) : AtE w' r s ts := by
  refine ⟨h.txt_le, hr, _, h.txt_le, hr, ?_⟩
  have h1 := Sp.toks_hd (Sp.hd ts).at_ (rst s (Sp.hd ts).at_)
  have h2 := Sp.toks_tail (Sp.hd ts).at_ (rst s (Sp.hd ts).at_)
  rw [h.tk] at h1 h2
  have hk := tokAt_kind ((Sp.hd ts).at_ + Sp.skpN false (rst s (Sp.hd ts).at_)) ((rst s (Sp.hd ts).at_).drop (Sp.skpN false (rst s (Sp.hd ts).at_)))
  rw [← h1] at hk
  rw [h2 (hk hn), h.skp0, rst_drop]
  simp

def YesPost (v : Value) (r : Nat) (s : ByteArray) (ts : List Sp.Tok) (w : World) (e : Ending) (w' : World) : Prop :=
  e = .returned v ∧ AtE w' r s ts ∧ Kp r w w'
def NoPost (v : Value) (r : Nat) (s : ByteArray) (ts : List Sp.Tok) (w : World) (e : Ending) (w' : World) : Prop :=
  e = .returned v ∧ AtP w' r s ts ∧ Kp r w w'
/-- a panic of the parser -/
def Wrong (at_ : Nat) (er : Nat) : Ending := .panicked [{ v := .iface 69 (.agg #[.int .i64 at_, .int .i64 er]), recovered := false }]
def FailPost (r : Nat) (ts : List Sp.Tok) (w : World) (e : Ending) (w' : World) : Prop :=
  e = Wrong (Sp.hd ts).at_ 3 ∧ Kp r w w'

theorem bs_eq {l : List UInt8} {t : ByteArray} (h : l = t.data.toList) : bs l = t := by subst h; rfl
theorem bs_ne {l : List UInt8} {t : ByteArray} (h : l ≠ t.data.toList) : ((bs l).toList == t.toList) = false := by
  rw [beq_eq_false_iff_ne, Lib.toList_data, Lib.toList_data]; exact h

theorem bs_size (l : List UInt8) : (bs l).size = l.length := rfl

set_option maxHeartbeats 1000000 in
theorem may_yes (r : Nat) (s t : ByteArray) (ts : List Sp.Tok) (w : World) (hr : At w r s ts) (hs : s.size ≤ 9223372036854775806) (ht : 0 < t.size)
    (h : (Sp.hd ts).txt = t.data.toList) :
    Calls Tryd.prog 85 #[.pointer (some ⟨r, 0, none⟩), .string t] w (YesPost (.bool true) r s ts w) := by
  have hlen : (Sp.hd ts).txt.length = t.size := by rw [h]; rfl
  have hne : (Sp.hd ts).txt ≠ [] := by intro e; rw [e] at hlen; simp at hlen; omega
  have hb := bs_eq h
  have H1 := Lib.hid hlen; have H2 := Lib.hid hne; have H3 := Lib.hid hb
  clear hlen hne hb h
  go_enter Tryd.func85, Tryd.ntmps85
  go_wp2_with (go_at_call 79; refine (token_any _ _ _ _ hr hs).mono ?_; rintro e w1 hh; obtain ⟨rfl, hat, hkp⟩ := hh; rw [H3.out]; have hl1 := hat.txt_le; rw [H1.out] at hl1; have c1 := hat.rd.c1; have f1 := hat.rd.f1; have H4 := Lib.hid hat; have H5 := Lib.hid hkp; clear hat hkp)
  go_ret
  exact ⟨rfl, H4.out.next H2.out (H4.out.rd.set _ _ (by rw [H1.out]; omega)), H5.out.set _ _ _⟩

set_option maxHeartbeats 1000000 in
theorem may_no (r : Nat) (s t : ByteArray) (ts : List Sp.Tok) (w : World) (hr : At w r s ts) (hs : s.size ≤ 9223372036854775806)
    (h : (Sp.hd ts).txt ≠ t.data.toList) :
    Calls Tryd.prog 85 #[.pointer (some ⟨r, 0, none⟩), .string t] w (NoPost (.bool false) r s ts w) := by
  have hb := bs_ne h
  clear h
  go_enter Tryd.func85, Tryd.ntmps85
  go_wp2_with (go_at_call 79; refine (token_any _ _ _ _ hr hs).mono ?_; rintro e w1 hh; obtain ⟨rfl, hat, hkp⟩ := hh; have H4 := Lib.hid hat; have H5 := Lib.hid hkp; clear hat hkp)
  go_ret
  exact ⟨rfl, H4.out, H5.out⟩

set_option maxHeartbeats 1000000 in
theorem must_yes (r : Nat) (s t : ByteArray) (ts : List Sp.Tok) (w : World) (hr : At w r s ts) (hs : s.size ≤ 9223372036854775806) (ht : 0 < t.size)
    (h : (Sp.hd ts).txt = t.data.toList) :
    Calls Tryd.prog 75 #[.pointer (some ⟨r, 0, none⟩), .string t] w (YesPost (.int .i64 (Sp.hd ts).at_) r s ts w) := by
  have hlen : (Sp.hd ts).txt.length = t.size := by rw [h]; rfl
  have H1 := Lib.hid hlen; have H2 := Lib.hid h
  clear hlen h
  go_enter Tryd.func75, Tryd.ntmps75
  go_wp2_with (go_at_call 85; refine (may_yes _ _ _ _ _ hr hs ht H2.out).mono ?_; rintro e w1 hh; obtain ⟨rfl, hat, hkp⟩ := hh; have hl1 := hat.le; rw [H1.out] at hl1; have c1 := hat.rd.c1; rw [H1.out, Int.natCast_add] at c1; have H4 := Lib.hid hat; have H5 := Lib.hid hkp; clear hat hkp)
  go_ret
  exact ⟨rfl, H4.out, H5.out⟩

set_option maxHeartbeats 1000000 in
theorem must_no (r : Nat) (s t : ByteArray) (ts : List Sp.Tok) (w : World) (hr : At w r s ts) (hs : s.size ≤ 9223372036854775806)
    (h : (Sp.hd ts).txt ≠ t.data.toList) :
    Calls Tryd.prog 75 #[.pointer (some ⟨r, 0, none⟩), .string t] w (FailPost r ts w) := by
  have H2 := Lib.hid h
  clear h
  go_enter Tryd.func75, Tryd.ntmps75
  go_wp2_with (first | (go_at_call 85; refine (may_no _ _ _ _ _ hr hs H2.out).mono ?_; rintro e w1 hh; obtain ⟨rfl, hat, hkp⟩ := hh; have c1 := hat.rd.c1; have H5 := Lib.hid hkp; clear hat hkp) | (go_at_call 58; refine (fail_any _ _ _ c1).mono ?_; rintro e w2 ⟨rfl, rfl⟩))
  exact ⟨rfl, rfl, H5.out⟩

/-! ### what a token is, by its kind -/
theorem mem_tw {α : Type} {p : α → Bool} {l : List α} {x : α} (h : x ∈ l.takeWhile p) : p x = true := by
  induction l with
  | nil => simp at h
  | cons a l ih =>
    rw [List.takeWhile_cons] at h
    split at h
    · rename_i ha
      rcases List.mem_cons.1 h with rfl | h
      · exact ha
      · exact ih h
    · simp at h
theorem kd2 {p : Nat} {l : List UInt8} (h : (Sp.tokAt p l).kind = 2) : ∃ c r, (Sp.tokAt p l).txt = c :: r ∧ Sp.isD c = true ∧ (c :: r).length ≤ 5 ∧ (∀ x ∈ c :: r, Sp.isD x = true) ∧ (Sp.tokAt p l).n = Sp.valD (c :: r) := by
  cases l with
  | nil => simp [Sp.tokAt] at h
  | cons c l =>
    simp only [Sp.tokAt] at h ⊢
    by_cases h1 : Sp.isL c = true
    · rw [if_pos h1] at h; simp at h
    · rw [if_neg h1] at h ⊢
      by_cases h2 : Sp.isD c = true
      · rw [if_pos h2] at h ⊢
        split at h
        · simp at h
        · rename_i h3
          rw [if_neg h3]
          have e : (c :: l).takeWhile Sp.isD = c :: l.takeWhile Sp.isD := by simp [List.takeWhile_cons, h2]
          refine ⟨c, l.takeWhile Sp.isD, e, h2, ?_, ?_, by rw [← e]⟩
          · rw [← e]; omega
          · intro x hx
            rw [← e] at hx
            exact mem_tw hx
      · rw [if_neg h2] at h
        split at h <;> simp at h
theorem kd1 {p : Nat} {l : List UInt8} (h : (Sp.tokAt p l).kind = 1) : ∃ c r, (Sp.tokAt p l).txt = c :: r ∧ Sp.isL c = true ∧ (Sp.tokAt p l).n = 0 := by
  cases l with
  | nil => simp [Sp.tokAt] at h
  | cons c l =>
    simp only [Sp.tokAt] at h ⊢
    by_cases h1 : Sp.isL c = true
    · rw [if_pos h1]; exact ⟨c, l.takeWhile (fun x => Sp.isL x || Sp.isD x), by simp [List.takeWhile_cons, h1], h1, rfl⟩
    · rw [if_neg h1] at h
      repeat' split at h
      all_goals simp at h
theorem kdn2 {p : Nat} {l : List UInt8} (h : (Sp.tokAt p l).kind ≠ 2) : (Sp.tokAt p l).txt = [] ∨ ∃ c r, (Sp.tokAt p l).txt = c :: r ∧ Sp.isD c = false := by
  cases l with
  | nil => left; rfl
  | cons c l =>
    have hLD : Sp.isL c = true → Sp.isD c = false := by
      intro h; simp only [Sp.isL, Sp.isD, Bool.and_eq_true, decide_eq_true_eq, Bool.and_eq_false_iff, decide_eq_false_iff_not] at *; omega
    simp only [Sp.tokAt] at h ⊢
    by_cases h1 : Sp.isL c = true
    · rw [if_pos h1]; right; exact ⟨c, l.takeWhile (fun x => Sp.isL x || Sp.isD x), by simp [List.takeWhile_cons, h1], hLD h1⟩
    · rw [if_neg h1] at h ⊢
      by_cases h2 : Sp.isD c = true
      · rw [if_pos h2] at h ⊢
        split at h
        · rename_i h3; rw [if_pos h3]; left; rfl
        · simp at h
      · rw [if_neg h2]
        split
        · right; exact ⟨c, [], rfl, by simpa using h2⟩
        · left; rfl
theorem kdn1 {p : Nat} {l : List UInt8} (h : (Sp.tokAt p l).kind ≠ 1) : (Sp.tokAt p l).txt = [] ∨ ∃ c r, (Sp.tokAt p l).txt = c :: r ∧ Sp.isL c = false := by
  cases l with
  | nil => left; rfl
  | cons c l =>
    simp only [Sp.tokAt] at h ⊢
    by_cases h1 : Sp.isL c = true
    · rw [if_pos h1] at h; simp at h
    · have h1' : Sp.isL c = false := by simpa using h1
      rw [if_neg h1]
      by_cases h2 : Sp.isD c = true
      · rw [if_pos h2]
        split
        · left; rfl
        · right; exact ⟨c, l.takeWhile Sp.isD, by simp [List.takeWhile_cons, h2], h1'⟩
      · rw [if_neg h2]
        split
        · right; exact ⟨c, [], rfl, h1'⟩
        · left; rfl

/-- the head of the tokens that are left is the token at its offset -/
theorem At.hd_eq {w : World} {r : Nat} {s : ByteArray} {ts : List Sp.Tok} (h : At w r s ts) : ∃ p l, Sp.hd ts = Sp.tokAt p l := by
  obtain ⟨i, _, _, rfl⟩ := h
  exact ⟨_, _, Sp.toks_hd _ _⟩

theorem isD_val {b : UInt8} (h : Sp.isD b = true) : Lib.digitVal b = some (b.toNat - 48) := by
  simp only [Sp.isD, Bool.and_eq_true, decide_eq_true_eq] at h
  simp [Lib.digitVal, h]

theorem decFrom_val (l : List UInt8) (h : ∀ x ∈ l, Sp.isD x = true) (a : Nat) : Lib.decFrom a l = some (l.foldl (fun a c => 10 * a + (c.toNat - 48)) a) := by
  induction l generalizing a with
  | nil => rfl
  | cons c l ih =>
    simp only [Lib.decFrom, isD_val (h c (List.mem_cons_self ..)), List.foldl_cons]
    rw [ih (fun x hx => h x (List.mem_cons_of_mem _ hx))]
    congr 2; omega

theorem atoi_val {c : UInt8} {r : List UInt8} (h : ∀ x ∈ c :: r, Sp.isD x = true) : Lib.atoi (c :: r) = some (Sp.valD (c :: r) : Nat) := by
  have hc := h c (List.mem_cons_self ..)
  simp only [Sp.isD, Bool.and_eq_true, decide_eq_true_eq] at hc
  have h1 : (c == 45) = false := by rw [beq_eq_false_iff_ne]; rintro rfl; simp at hc
  have h2 : (c == 43) = false := by rw [beq_eq_false_iff_ne]; rintro rfl; simp at hc
  simp only [Lib.atoi, h1, h2, Bool.false_eq_true, if_false, Lib.decNat, List.isEmpty_cons]
  rw [decFrom_val _ h]
  rfl

theorem atoi_word {c : UInt8} {r : List UInt8} (h : Sp.isL c = true) : Lib.atoiAll (c :: r) = Lib.atoiAll [] := by
  simp only [Sp.isL, Bool.and_eq_true, decide_eq_true_eq] at h
  rw [Lib.atoiAll_plain c r (by omega) (by omega)]
  have : Lib.parseMag (c :: r) = Lib.parseMag [] := by
    simp only [Lib.parseMag, List.cons_ne_nil, if_false, Lib.parseUint10]
    rw [if_neg (by omega)]; rfl
  rw [this]; rfl
end Go.Proofs.YtppeplonnippcaaDoor
