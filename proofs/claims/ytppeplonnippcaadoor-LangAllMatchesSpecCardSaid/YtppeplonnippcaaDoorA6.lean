/-
The reader of layer 7: one.
-/
import Derived.Test.YtppeplonnippcaaDoorA5
import Derived.Test.YtppeplonnippcaaDoorS
set_option linter.unusedVariables false
set_option linter.unusedSimpArgs false
namespace Go.Proofs.YtppeplonnippcaaDoor
open Go.RowKit

/-- the parser's answer was handed back -/
def OkPost (V : World → Value → Prop) (r : Nat) (s : ByteArray) (ts' : List Sp.Tok) (w : World) (e : Ending) (w' : World) : Prop :=
  ∃ v, e = .returned v ∧ V w' v ∧ At w' r s ts' ∧ Kp r w w'
/-- it panicked with a syntax error at p -/
def BadPost (r : Nat) (p : Nat) (w : World) (e : Ending) (w' : World) : Prop := e = Wrong p 3 ∧ Kp r w w'

/-- what a call of the parser comes to, by the specification -/
def ResPost {α : Type} (V : α → World → Value → Prop) (r : Nat) (s : ByteArray) (res : Except Nat (α × List Sp.Tok)) (w : World) (e : Ending) (w' : World) : Prop :=
  match res with
  | .ok (a, ts') => OkPost (V a) r s ts' w e w'
  | .error p => BadPost r p w e w'

theorem must_any (r : Nat) (s t : ByteArray) (ts : List Sp.Tok) (w : World) (hr : At w r s ts) (hs : s.size ≤ 2000) (ht : 0 < t.size) :
    Calls Tryd.prog 75 #[.pointer (some ⟨r, 0, none⟩), .string t] w (ResPost (fun a _ v => v = .int .i64 (a : Sp.Tok).at_) r s (Sp.pTok t.data.toList ts) w) := by
  unfold Sp.pTok
  by_cases h : (Sp.hd ts).txt = t.data.toList
  · rw [if_pos h]
    exact (must_yes r s t ts w hr (by omega) ht h).mono fun e w' ⟨h1, h2, h3⟩ => ⟨_, h1, rfl, h2.at_, h3⟩
  · rw [if_neg h]
    exact (must_no r s t ts w hr (by omega) h).mono fun e w' h => h
theorem digit_any (r : Nat) (s : ByteArray) (ts : List Sp.Tok) (w : World) (hr : At w r s ts) (hs : s.size ≤ 2000) :
    Calls Tryd.prog 76 #[.pointer (some ⟨r, 0, none⟩), .func (.func 52) #[] #[]] w (ResPost (fun a _ v => v = tokV a) r s (Sp.pKind 2 ts) w) := by
  unfold Sp.pKind
  by_cases h : (Sp.hd ts).kind = 2
  · rw [if_pos h]
    exact (read_digit_yes r s ts w hr (by omega) h).mono fun e w' ⟨h1, h2, h3⟩ => ⟨_, h1, rfl, h2.at_, h3⟩
  · rw [if_neg h]
    exact (read_digit_no r s ts w hr (by omega) h).mono fun e w' h => h
theorem letter_any (r : Nat) (s : ByteArray) (ts : List Sp.Tok) (w : World) (hr : At w r s ts) (hs : s.size ≤ 2000) (he : Env w) :
    Calls Tryd.prog 76 #[.pointer (some ⟨r, 0, none⟩), .func (.func 51) #[] #[]] w (ResPost (fun a _ v => v = tokV a) r s (Sp.pKind 1 ts) w) := by
  unfold Sp.pKind
  by_cases h : (Sp.hd ts).kind = 1
  · rw [if_pos h]
    exact (read_letter_yes r s ts w hr (by omega) (by omega) h he).mono fun e w' ⟨h1, h2, h3⟩ => ⟨_, h1, rfl, h2.at_, h3⟩
  · rw [if_neg h]
    exact (read_letter_no r s ts w hr (by omega) h).mono fun e w' h => h

def MarksV (base : Nat) (l : List Sp.Tok) (w : World) (v : Value) : Prop := w.ownsRow base 92 3 v l.length (cells l)

theorem numbers_any (r : Nat) (s : ByteArray) (ts : List Sp.Tok) (w : World) (hr : At w r s ts) (hs : s.size ≤ 2000) :
    Calls Tryd.prog 87 #[.pointer (some ⟨r, 0, none⟩)] w (ResPost (MarksV w.heap.size) r s (Sp.pNums ts) w) := by
  unfold Sp.pNums
  by_cases h : (Sp.hd ts).kind = 2
  · rw [if_pos h]
    exact (numbers_yes r s ts w hr (by omega) h).mono fun e w' ⟨v, h1, h2, h3, h4⟩ => ⟨v, h1, h2, h3.at_, h4⟩
  · rw [if_neg h]
    exact (numbers_no r s ts w hr (by omega) h).mono fun e w' h => h

def z92 : Obj := .cells #[.int .i64 0, .int .i64 0, .string ⟨#[]⟩] 92

set_option maxRecDepth 100000 in
set_option maxHeartbeats 1000000 in
theorem one_any (r : Nat) (s t : ByteArray) (ts : List Sp.Tok) (w : World) (hr : At w r s ts) (hs : s.size ≤ 2000) (ht : 0 < t.size) :
    Calls Tryd.prog 77 #[.pointer (some ⟨r, 0, none⟩), .string t] w (ResPost (fun a _ v => v = tokV a) r s (Sp.pOne t.data.toList ts) w) := by
  have HR := Lib.hid (hr.alloc z92)
  have hlt := hr.lt
  have hne1 : ¬ w.heap.size = r := by omega
  have hne2 : ¬ r = w.heap.size := by omega
  have K0 : Hid (Kp r w (w.alloc z92)) := Lib.hid ((Kp.refl r w).alloc _)
  clear hr
  go_enter Tryd.func77, Tryd.ntmps77
  go_wp2_with fail
  have C1 := Lib.hid (must_any r s t ts _ HR.out hs ht)
  rcases h1 : Sp.pTok t.data.toList ts with p | ⟨a1, t1⟩
  · rw [h1] at C1
    refine C1.out.mono ?_
    rintro e w1 ⟨he, hk⟩
    unfold Wrong at he
    subst he
    exact ⟨rfl, by unfold Sp.pOne; rw [h1]; exact ⟨rfl, K0.out.trans hk⟩⟩
  · rw [h1] at C1
    refine C1.out.mono ?_
    have E1 := Lib.hid h1; clear h1 C1
    rintro e w1 ⟨v, rfl, rfl, hat1, hk1⟩
    have H1 := Lib.hid hat1
    have L1 := Lib.hid hk1
    clear hat1 hk1
    go_wp2_with fail
    have C1 := Lib.hid (digit_any r s t1 _ H1.out hs)
    rcases h1 : Sp.pKind 2 t1 with p | ⟨a2, t2⟩
    · rw [h1] at C1
      refine C1.out.mono ?_
      rintro e w2 ⟨he, hk⟩
      unfold Wrong at he
      subst he
      exact ⟨rfl, by unfold Sp.pOne; simp only [E1.out, h1]; exact ⟨rfl, K0.out.trans (L1.out.trans hk)⟩⟩
    · rw [h1] at C1
      refine C1.out.mono ?_
      have E2 := Lib.hid h1; clear h1 C1
      rintro e w2 ⟨v, rfl, rfl, hat2, hk2⟩
      have L2 := Lib.hid (L1.out.trans hk2)
      have H2 := Lib.hid hat2
      clear hat2 hk2
      unfold tokV
      go_wp2_with fail
      have C1 := Lib.hid (must_any r s ⟨#[59]⟩ t2 _ (H2.out.alloc (.cells #[.int .i64 a2.at_, .int .i64 a2.n, .string (bs a2.txt)] 92)) hs (by decide))
      rcases h1 : Sp.pTok Sp.kSemi t2 with p | ⟨a3, t3⟩
      · rw [show (⟨#[59]⟩ : ByteArray).data.toList = Sp.kSemi from rfl, h1] at C1
        refine C1.out.mono ?_
        rintro e w3 ⟨he, hk⟩
        unfold Wrong at he
        subst he
        exact ⟨rfl, by unfold Sp.pOne; simp only [E1.out, E2.out, h1]; exact ⟨rfl, K0.out.trans ((L2.out.alloc _).trans hk)⟩⟩
      · rw [show (⟨#[59]⟩ : ByteArray).data.toList = Sp.kSemi from rfl, h1] at C1
        refine C1.out.mono ?_
        have E3 := Lib.hid h1; clear h1 C1
        rintro e w3 ⟨v, rfl, rfl, hat3, hk3⟩
        have hlt2 : r < w2.heap.size := by have := H2.out.lt; exact this
        have hsz : w.heap.size < w2.heap.size := by have := L2.out.size; simp only [World.size_alloc] at this; omega
        have b5 : w3.heap[w2.heap.size]? = some (.cells #[.int .i64 a2.at_, .int .i64 a2.n, .string (bs a2.txt)] 92 (0, 0)) := (hk3.block _ (by simp) (by omega)).trans (heap_alloc_new w2 _)
        have L3 := Lib.hid ((L2.out.alloc (.cells #[.int .i64 a2.at_, .int .i64 a2.n, .string (bs a2.txt)] 92)).trans hk3)
        have b4 : w3.heap[w.heap.size]? = some (.cells #[.int .i64 0, .int .i64 0, .string ⟨#[]⟩] 92 (0, 0)) := (L3.out.block _ (by simp) hne1).trans (heap_alloc_new w _)
        have n0 := blk_c b4 0; have n1 := blk_c b4 1; have n2 := blk_c b4 2
        have m0 := blk_f b4 0; have m1 := blk_f b4 1; have m2 := blk_f b4 2
        have p0 := blk_c b5 0; have p1 := blk_c b5 1; have p2 := blk_c b5 2
        have H3 := Lib.hid hat3
        clear hat3 hk3 b4 b5
        go_wp2_with fail
        refine bodyPost_ret (v := tokV a2) (by simp [results, Tryd.results77, go_sem, n0, n1, n2, hne1, hne2, tokV]) rfl ?_
        unfold Sp.pOne
        simp only [E1.out, E2.out, E3.out]
        refine ⟨_, rfl, rfl, ?_, ?_⟩
        · exact ((H3.out.setNew (p := ⟨w.heap.size, 0, none⟩) hne2 _).setNew (p := ⟨w.heap.size, 1, none⟩) hne2 _).setNew (p := ⟨w.heap.size, 2, none⟩) hne2 _
        · exact (((K0.out.trans L3.out).setNew (p := ⟨w.heap.size, 0, none⟩) (Nat.le_refl _) _).setNew (p := ⟨w.heap.size, 1, none⟩) (Nat.le_refl _) _).setNew (p := ⟨w.heap.size, 2, none⟩) (Nat.le_refl _) _
end Go.Proofs.YtppeplonnippcaaDoor
