/-
The reader of layer 7: read.
-/
import Derived.Test.YtppeplonnippcaaDoorA3
import Derived.WalkSmall
import Derived.Lib.AtoiErrMem
set_option linter.unusedVariables false
set_option linter.unusedSimpArgs false
namespace Go.Proofs.YtppeplonnippcaaDoor
open Go.RowKit

theorem At.alloc {w : World} {r : Nat} {s : ByteArray} {ts : List Sp.Tok} (h : At w r s ts) (o : Obj) : At (w.alloc o) r s ts := by
  obtain ⟨i, h1, h2, h3⟩ := h; exact ⟨i, h1, h2.alloc o, h3⟩
theorem At.below {w w' : World} {r : Nat} {s : ByteArray} {ts : List Sp.Tok} (h : At w r s ts) (k : Below w.heap.size w w') : At w' r s ts := by
  obtain ⟨i, h1, h2, h3⟩ := h; exact ⟨i, h1, h2.below k, h3⟩
theorem At.setNew {w : World} {r : Nat} {s : ByteArray} {ts : List Sp.Tok} (h : At w r s ts) {p : Addr} (hp : r ≠ p.block) (u : Value) : At (w.setCell p u) r s ts := by
  obtain ⟨i, h1, h2, h3⟩ := h; exact ⟨i, h1, h2.setNew hp u, h3⟩
theorem At.drewN {w : World} {r : Nat} {s : ByteArray} {ts : List Sp.Tok} (h : At w r s ts) (n : Nat) : At (w.drewN n) r s ts := by
  obtain ⟨i, h1, h2, h3⟩ := h; exact ⟨i, h1, h2.drewN n, h3⟩
theorem At.txt_len0 {w : World} {r : Nat} {s : ByteArray} {ts : List Sp.Tok} (h : At w r s ts) : (Sp.hd ts).txt.length ≤ s.size := by
  obtain ⟨i, h1, _, rfl⟩ := h
  rw [Sp.toks_hd]
  have := Sp.tokAt_le (i + Sp.skpN false (rst s i)) ((rst s i).drop (Sp.skpN false (rst s i)))
  rw [List.length_drop, rst_len] at this
  omega
theorem At.txt_len {w : World} {r : Nat} {s : ByteArray} {ts : List Sp.Tok} (h : At w r s ts) {n : Nat} (hs : s.size ≤ n) : (Sp.hd ts).txt.length ≤ n := Nat.le_trans h.txt_len0 hs
theorem At.ng {w : World} {r : Nat} {s : ByteArray} {ts : List Sp.Tok} (h : At w r s ts) : NG ≤ r := by
  obtain ⟨i, h1, h2, h3⟩ := h; exact h2.ng
theorem At.lt {w : World} {r : Nat} {s : ByteArray} {ts : List Sp.Tok} (h : At w r s ts) : r < w.heap.size := by
  obtain ⟨i, h1, h2, h3⟩ := h; exact h2.lt
theorem AtE.setNew {w : World} {r : Nat} {s : ByteArray} {ts : List Sp.Tok} (h : AtE w r s ts) {p : Addr} (hp : r ≠ p.block) (u : Value) : AtE (w.setCell p u) r s ts :=
  ⟨h.le, h.rd.setNew hp u, h.at_.setNew hp u⟩
theorem AtP.below {w w' : World} {r : Nat} {s : ByteArray} {ts : List Sp.Tok} (h : AtP w r s ts) (k : Below w.heap.size w w') : AtP w' r s ts :=
  ⟨h.le, h.rd.below k, h.tk⟩

theorem blk_c {w : World} {b : Nat} {cs : Array Value} {t : TypeId} (h : w.heap[b]? = some (.cells cs t (0, 0))) (o : Nat) : w.cell? ⟨b, o, none⟩ = cs[o]? := by simp [World.cell?, h]
theorem blk_f {w : World} {b : Nat} {cs : Array Value} {t : TypeId} (h : w.heap[b]? = some (.cells cs t (0, 0))) (o : Nat) : w.frozen? ⟨b, o, none⟩ = false := by simp [World.frozen?, h]

/-- a token as the reader hands it on -/
def tokV (t : Sp.Tok) : Value := .agg #[.int .i64 t.at_, .int .i64 t.n, .string (bs t.txt)]

/-- Atoi at a token: a number or a word; what was there is as it was -/
def AtoiPost (n : Nat) (w : World) (e : Ending) (w' : World) : Prop := ∃ v, e = .returned (.tuple #[.int .i64 n, v]) ∧ Below w.heap.size w w'

theorem atoi_num {t : Sp.Tok} {c : UInt8} {r : List UInt8} (ht : t.txt = c :: r) (h : ∀ x ∈ c :: r, Sp.isD x = true) (hl : (c :: r).length ≤ 5) (hn : t.n = Sp.valD (c :: r)) (w : World) :
    Calls Tryd.prog 86 #[.string (bs t.txt)] w (AtoiPost t.n w) := by
  refine (Tryd.strconv_Atoi (bs t.txt) (t.n : Nat) (by rw [bs_size, ht]; omega) (by show Lib.atoi t.txt = _; rw [ht, hn]; exact atoi_val h) w).mono ?_
  rintro e w' ⟨rfl, u, rfl⟩
  exact ⟨_, rfl, Lib.bytesWorld_below _ _ _⟩

theorem atoi_let {t : Sp.Tok} {c : UInt8} {r : List UInt8} (ht : t.txt = c :: r) (h : Sp.isL c = true) (hl : t.txt.length ≤ 281474976710656) (hn : t.n = 0) (w : World) (he : Env w) :
    Calls Tryd.prog 86 #[.string (bs t.txt)] w (AtoiPost t.n w) := by
  obtain ⟨tp, p, hv⟩ := he.es
  refine (Tryd.strconv_Atoi_none (bs t.txt) (by rw [bs_size]; exact hl) (by show Lib.atoiAll t.txt = _; rw [ht]; exact atoi_word h) tp p w hv).mono ?_
  rintro e w' ⟨N, rfl, _, _, hb⟩
  exact ⟨_, by rw [hn]; rfl, hb⟩

set_option maxHeartbeats 1000000 in
theorem read_digit_yes (r : Nat) (s : ByteArray) (ts : List Sp.Tok) (w : World) (hr : At w r s ts) (hs : s.size ≤ 9223372036854775806)
    (h : (Sp.hd ts).kind = 2) :
    Calls Tryd.prog 76 #[.pointer (some ⟨r, 0, none⟩), .func (.func 52) #[] #[]] w (YesPost (tokV (Sp.hd ts)) r s ts w) := by
  obtain ⟨p, l, hpl⟩ := hr.hd_eq
  obtain ⟨c, rr, e1, e2, e3, e4, e5⟩ := kd2 (p := p) (l := l) (by rw [← hpl]; exact h)
  rw [← hpl] at e1 e5
  have hr' := hr.alloc (.cells #[.int .i64 0, .int .i64 0, .string ⟨#[]⟩] 92)
  have hlt := hr.lt
  obtain ⟨q, hq⟩ : ∃ q, q = bs (Sp.hd ts).txt := ⟨_, rfl⟩
  have HQ := Lib.hid hq
  have q0 : 0 < q.size := by rw [hq, bs_size, e1]; simp
  have hE := toList_n q0
  have hE2 := toList_n2 q0
  have qc : q[0] = c := by
    have : q.data.toList = c :: rr := by rw [hq]; exact e1
    have h2 : q.data.toList[0]? = some c := by rw [this]; rfl
    simp at h2
    have h3 := Array.getElem?_eq_getElem (xs := q.data) (i := 0) (by simpa using q0)
    rw [h2] at h3
    exact (Option.some.inj h3).symm
  have hD : Sp.isD q[0] = true := by rw [qc]; exact e2
  have hqs : q.size = (Sp.hd ts).txt.length := by rw [hq]; rfl
  have HQS := Lib.hid hqs
  have HC : Hid (∀ W : World, Calls Tryd.prog 86 #[.string q] W (AtoiPost (Sp.hd ts).n W)) := Lib.hid (by rw [hq]; exact atoi_num e1 e4 e3 e5)
  have hne1 : ¬ w.heap.size = r := by omega
  have hne2 : ¬ r = w.heap.size := by omega
  have HR := Lib.hid hr'
  have HNE : Hid ((Sp.hd ts).txt ≠ []) := Lib.hid (by rw [e1]; simp)
  have qsm : q.size ≤ 5 := by rw [hqs, e1]; exact e3
  clear hq qc hqs hr' hpl e1 e2 e3 e4 e5 h hr
  go_enter Tryd.func76, Tryd.ntmps76
  go_wp2_with (first | (go_at_call 79; refine (token_any _ _ _ _ HR.out hs).mono ?_; rintro e w1 hh; obtain ⟨rfl, hat, hkp⟩ := hh; rw [← HQ.out]; have H4 := Lib.hid hat; have H5 := Lib.hid hkp; clear hat hkp) | (go_at_call 52; refine (isDigit_any _ _).mono ?_; rintro e w' ⟨rfl, rfl⟩))
  refine (HC.out w1).mono ?_
  rintro e w2 hh
  obtain ⟨v, rfl, hb⟩ := hh
  have hat := H4.out.below hb
  have c1 := hat.rd.c1
  have f1 := hat.rd.f1
  have hk2 := H5.out.below hb
  have hnb : w2.heap[w.heap.size]? = some (.cells #[.int .i64 0, .int .i64 0, .string ⟨#[]⟩] 92 (0, 0)) := (hk2.block _ (by simp) hne1).trans (heap_alloc_new w _)
  have n0 := blk_c hnb 0; have n1 := blk_c hnb 1; have n2 := blk_c hnb 2
  have m0 := blk_f hnb 0; have m1 := blk_f hnb 1; have m2 := blk_f hnb 2
  have hle := hat.txt_le
  rw [← HQS.out] at hle
  have H6 := Lib.hid hat; have H7 := Lib.hid hk2; have H8 := Lib.hid hnb
  clear hat hk2 hnb hb
  go_wp2_with fail
  refine bodyPost_ret (v := .agg #[.int .i64 (Sp.hd ts).at_, .int .i64 (Sp.hd ts).n, .string q]) (by simp [results, Tryd.results76, go_sem, n0, n1, n2, hne1, hne2]) rfl ⟨?_, ?_, ?_⟩
  · rw [HQ.out]; rfl
  · exact ((((H6.out.next HNE.out (H6.out.rd.set _ _ (by rw [← HQS.out]; omega))).setNew (p := ⟨w.heap.size, 0, none⟩) hne2 _).setNew (p := ⟨w.heap.size, 1, none⟩) hne2 _).setNew (p := ⟨w.heap.size, 2, none⟩) hne2 _)
  · exact ((((((Kp.refl r w).alloc _).trans H7.out).set _ _ _).setNew (p := ⟨w.heap.size, 0, none⟩) (Nat.le_refl _) _).setNew (p := ⟨w.heap.size, 1, none⟩) (Nat.le_refl _) _).setNew (p := ⟨w.heap.size, 2, none⟩) (Nat.le_refl _) _

set_option maxHeartbeats 1000000 in
theorem read_letter_yes (r : Nat) (s : ByteArray) (ts : List Sp.Tok) (w : World) (hr : At w r s ts) (hs : s.size ≤ 9223372036854775806) (hs0 : s.size ≤ 281474976710656)
    (h : (Sp.hd ts).kind = 1) (hv : Env w) :
    Calls Tryd.prog 76 #[.pointer (some ⟨r, 0, none⟩), .func (.func 51) #[] #[]] w (YesPost (tokV (Sp.hd ts)) r s ts w) := by
  have HTL := Lib.hid (hr.txt_len hs); have HTL2 : Hid ((Sp.hd ts).txt.length ≤ 281474976710656) := Lib.hid (Nat.le_trans hr.txt_len0 hs0)
  have HV := Lib.hid (hv.alloc (.cells #[.int .i64 0, .int .i64 0, .string ⟨#[]⟩] 92)); have HNG := Lib.hid hr.ng
  obtain ⟨p, l, hpl⟩ := hr.hd_eq
  obtain ⟨c, rr, e1, e2, e5⟩ := kd1 (p := p) (l := l) (by rw [← hpl]; exact h)
  rw [← hpl] at e1 e5
  have hr' := hr.alloc (.cells #[.int .i64 0, .int .i64 0, .string ⟨#[]⟩] 92)
  have hlt := hr.lt
  obtain ⟨q, hq⟩ : ∃ q, q = bs (Sp.hd ts).txt := ⟨_, rfl⟩
  have HQ := Lib.hid hq
  have q0 : 0 < q.size := by rw [hq, bs_size, e1]; simp
  have hE := toList_n q0
  have hE2 := toList_n2 q0
  have qc : q[0] = c := by
    have : q.data.toList = c :: rr := by rw [hq]; exact e1
    have h2 : q.data.toList[0]? = some c := by rw [this]; rfl
    simp at h2
    have h3 := Array.getElem?_eq_getElem (xs := q.data) (i := 0) (by simpa using q0)
    rw [h2] at h3
    exact (Option.some.inj h3).symm
  have hD : Sp.isL q[0] = true := by rw [qc]; exact e2
  have hqs : q.size = (Sp.hd ts).txt.length := by rw [hq]; rfl
  have HQS := Lib.hid hqs
  have HC : Hid (∀ W : World, Env W → Calls Tryd.prog 86 #[.string q] W (AtoiPost (Sp.hd ts).n W)) := Lib.hid (by rw [hq]; exact fun W hW => atoi_let e1 e2 HTL2.out e5 W hW)
  have hne1 : ¬ w.heap.size = r := by omega
  have hne2 : ¬ r = w.heap.size := by omega
  have HR := Lib.hid hr'
  have HNE : Hid ((Sp.hd ts).txt ≠ []) := Lib.hid (by rw [e1]; simp)
  have qsm : q.size ≤ 9223372036854775806 := by rw [hqs]; exact HTL.out
  clear hq qc hqs hr' hpl e1 e2 e5 h hr hv
  go_enter Tryd.func76, Tryd.ntmps76
  go_wp2_with (first | (go_at_call 79; refine (token_any _ _ _ _ HR.out hs).mono ?_; rintro e w1 hh; obtain ⟨rfl, hat, hkp⟩ := hh; rw [← HQ.out]; have H4 := Lib.hid hat; have H5 := Lib.hid hkp; clear hat hkp) | (go_at_call 51; refine (isLetter_any _ _).mono ?_; rintro e w' ⟨rfl, rfl⟩))
  refine (HC.out w1 (HV.out.kp HNG.out H5.out)).mono ?_
  rintro e w2 hh
  obtain ⟨v, rfl, hb⟩ := hh
  have hat := H4.out.below hb
  have c1 := hat.rd.c1
  have f1 := hat.rd.f1
  have hk2 := H5.out.below hb
  have hnb : w2.heap[w.heap.size]? = some (.cells #[.int .i64 0, .int .i64 0, .string ⟨#[]⟩] 92 (0, 0)) := (hk2.block _ (by simp) hne1).trans (heap_alloc_new w _)
  have n0 := blk_c hnb 0; have n1 := blk_c hnb 1; have n2 := blk_c hnb 2
  have m0 := blk_f hnb 0; have m1 := blk_f hnb 1; have m2 := blk_f hnb 2
  have hle := hat.txt_le
  rw [← HQS.out] at hle
  have H6 := Lib.hid hat; have H7 := Lib.hid hk2; have H8 := Lib.hid hnb
  clear hat hk2 hnb hb
  go_wp2_with fail
  refine bodyPost_ret (v := .agg #[.int .i64 (Sp.hd ts).at_, .int .i64 (Sp.hd ts).n, .string q]) (by simp [results, Tryd.results76, go_sem, n0, n1, n2, hne1, hne2]) rfl ⟨?_, ?_, ?_⟩
  · rw [HQ.out]; rfl
  · exact ((((H6.out.next HNE.out (H6.out.rd.set _ _ (by rw [← HQS.out]; omega))).setNew (p := ⟨w.heap.size, 0, none⟩) hne2 _).setNew (p := ⟨w.heap.size, 1, none⟩) hne2 _).setNew (p := ⟨w.heap.size, 2, none⟩) hne2 _)
  · exact ((((((Kp.refl r w).alloc _).trans H7.out).set _ _ _).setNew (p := ⟨w.heap.size, 0, none⟩) (Nat.le_refl _) _).setNew (p := ⟨w.heap.size, 1, none⟩) (Nat.le_refl _) _).setNew (p := ⟨w.heap.size, 2, none⟩) (Nat.le_refl _) _

set_option maxHeartbeats 1000000 in
theorem read_digit_no (r : Nat) (s : ByteArray) (ts : List Sp.Tok) (w : World) (hr : At w r s ts) (hs : s.size ≤ 9223372036854775806)
    (h : (Sp.hd ts).kind ≠ 2) :
    Calls Tryd.prog 76 #[.pointer (some ⟨r, 0, none⟩), .func (.func 52) #[] #[]] w (FailPost r ts w) := by
  obtain ⟨p, l, hpl⟩ := hr.hd_eq
  have hc := kdn2 (p := p) (l := l) (by rw [← hpl]; exact h)
  rw [← hpl] at hc
  have HR := Lib.hid (hr.alloc (.cells #[.int .i64 0, .int .i64 0, .string ⟨#[]⟩] 92))
  obtain ⟨q, hq⟩ : ∃ q, q = bs (Sp.hd ts).txt := ⟨_, rfl⟩
  have HQ := Lib.hid hq
  rcases hc with e1 | ⟨c, rr, e1, e2⟩
  · have hE : q.toList = [] := toList_e (by rw [hq, bs_size, e1]; rfl)
    clear hq hpl e1 h hr
    go_enter Tryd.func76, Tryd.ntmps76
    go_wp2_with (first | (go_at_call 79; refine (token_any _ _ _ _ HR.out hs).mono ?_; rintro e w1 hh; obtain ⟨rfl, hat, hkp⟩ := hh; rw [← HQ.out]; have c1 := hat.rd.c1; have H5 := Lib.hid hkp; clear hat hkp) | (go_at_call 58; refine (fail_any _ _ _ c1).mono ?_; rintro e w2 ⟨rfl, rfl⟩))
    exact ⟨rfl, rfl, ((Kp.refl r w).alloc _).trans H5.out⟩
  · have q0 : 0 < q.size := by rw [hq, bs_size, e1]; simp
    have hE := toList_n q0
    have hE2 := toList_n2 q0
    have qc : q[0] = c := by
      have : q.data.toList = c :: rr := by rw [hq]; exact e1
      have h2 : q.data.toList[0]? = some c := by rw [this]; rfl
      simp at h2
      have h3 := Array.getElem?_eq_getElem (xs := q.data) (i := 0) (by simpa using q0)
      rw [h2] at h3
      exact (Option.some.inj h3).symm
    have hD : Sp.isD q[0] = false := by rw [qc]; exact e2
    clear hq hpl e1 e2 h hr qc
    go_enter Tryd.func76, Tryd.ntmps76
    go_wp2_with (first | (go_at_call 79; refine (token_any _ _ _ _ HR.out hs).mono ?_; rintro e w1 hh; obtain ⟨rfl, hat, hkp⟩ := hh; rw [← HQ.out]; have c1 := hat.rd.c1; have H5 := Lib.hid hkp; clear hat hkp) | (go_at_call 52; refine (isDigit_any _ _).mono ?_; rintro e w' ⟨rfl, rfl⟩) | (go_at_call 58; refine (fail_any _ _ _ c1).mono ?_; rintro e w2 ⟨rfl, rfl⟩))
    exact ⟨rfl, rfl, ((Kp.refl r w).alloc _).trans H5.out⟩

set_option maxHeartbeats 1000000 in
theorem read_letter_no (r : Nat) (s : ByteArray) (ts : List Sp.Tok) (w : World) (hr : At w r s ts) (hs : s.size ≤ 9223372036854775806)
    (h : (Sp.hd ts).kind ≠ 1) :
    Calls Tryd.prog 76 #[.pointer (some ⟨r, 0, none⟩), .func (.func 51) #[] #[]] w (FailPost r ts w) := by
  obtain ⟨p, l, hpl⟩ := hr.hd_eq
  have hc := kdn1 (p := p) (l := l) (by rw [← hpl]; exact h)
  rw [← hpl] at hc
  have HR := Lib.hid (hr.alloc (.cells #[.int .i64 0, .int .i64 0, .string ⟨#[]⟩] 92))
  obtain ⟨q, hq⟩ : ∃ q, q = bs (Sp.hd ts).txt := ⟨_, rfl⟩
  have HQ := Lib.hid hq
  rcases hc with e1 | ⟨c, rr, e1, e2⟩
  · have hE : q.toList = [] := toList_e (by rw [hq, bs_size, e1]; rfl)
    clear hq hpl e1 h hr
    go_enter Tryd.func76, Tryd.ntmps76
    go_wp2_with (first | (go_at_call 79; refine (token_any _ _ _ _ HR.out hs).mono ?_; rintro e w1 hh; obtain ⟨rfl, hat, hkp⟩ := hh; rw [← HQ.out]; have c1 := hat.rd.c1; have H5 := Lib.hid hkp; clear hat hkp) | (go_at_call 58; refine (fail_any _ _ _ c1).mono ?_; rintro e w2 ⟨rfl, rfl⟩))
    exact ⟨rfl, rfl, ((Kp.refl r w).alloc _).trans H5.out⟩
  · have q0 : 0 < q.size := by rw [hq, bs_size, e1]; simp
    have hE := toList_n q0
    have hE2 := toList_n2 q0
    have qc : q[0] = c := by
      have : q.data.toList = c :: rr := by rw [hq]; exact e1
      have h2 : q.data.toList[0]? = some c := by rw [this]; rfl
      simp at h2
      have h3 := Array.getElem?_eq_getElem (xs := q.data) (i := 0) (by simpa using q0)
      rw [h2] at h3
      exact (Option.some.inj h3).symm
    have hD : Sp.isL q[0] = false := by rw [qc]; exact e2
    clear hq hpl e1 e2 h hr qc
    go_enter Tryd.func76, Tryd.ntmps76
    go_wp2_with (first | (go_at_call 79; refine (token_any _ _ _ _ HR.out hs).mono ?_; rintro e w1 hh; obtain ⟨rfl, hat, hkp⟩ := hh; rw [← HQ.out]; have c1 := hat.rd.c1; have H5 := Lib.hid hkp; clear hat hkp) | (go_at_call 51; refine (isLetter_any _ _).mono ?_; rintro e w' ⟨rfl, rfl⟩) | (go_at_call 58; refine (fail_any _ _ _ c1).mono ?_; rintro e w2 ⟨rfl, rfl⟩))
    exact ⟨rfl, rfl, ((Kp.refl r w).alloc _).trans H5.out⟩

end Go.Proofs.YtppeplonnippcaaDoor
