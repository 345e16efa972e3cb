/-
The reader of layer 7: token, may, must, read: what they tell of the tokens that are left.
-/
import Derived.Test.YtppeplonnippcaaDoorA1
set_option linter.unusedVariables false
set_option linter.unusedSimpArgs false
namespace Go.Proofs.YtppeplonnippcaaDoor
open Go.RowKit

theorem isLetter_any (b : UInt8) (w : World) : Calls Tryd.prog 51 #[.int .u8 (b.toNat : Int)] w fun e w' => e = .returned (.bool (Sp.isL b)) ∧ w = w' := by
  have hb := b.toNat_lt
  by_cases h1 : 97 ≤ b.toNat
  all_goals
    by_cases h2 : b.toNat ≤ 122
    all_goals
      have HF : Hid (Sp.isL b = (decide (97 ≤ b.toNat) && decide (b.toNat ≤ 122))) := Lib.hid rfl
      go_enter Tryd.func51, Tryd.ntmps51
      go_wp2
      all_goals
        go_ret
        refine ⟨?_, rfl⟩
        rw [HF.out]
        simp [h1, h2]
        try omega

theorem isDigit_any (b : UInt8) (w : World) : Calls Tryd.prog 52 #[.int .u8 (b.toNat : Int)] w fun e w' => e = .returned (.bool (Sp.isD b)) ∧ w = w' := by
  have hb := b.toNat_lt
  by_cases h1 : 48 ≤ b.toNat
  all_goals
    by_cases h2 : b.toNat ≤ 57
    all_goals
      have HF : Hid (Sp.isD b = (decide (48 ≤ b.toNat) && decide (b.toNat ≤ 57))) := Lib.hid rfl
      go_enter Tryd.func52, Tryd.ntmps52
      go_wp2
      all_goals
        go_ret
        refine ⟨?_, rfl⟩
        rw [HF.out]
        simp [h1, h2]
        try omega

def bs (l : List UInt8) : ByteArray := ⟨l.toArray⟩

structure AtP (w : World) (r : Nat) (s : ByteArray) (ts : List Sp.Tok) : Prop where
  le : (Sp.hd ts).at_ ≤ s.size
  rd : Rd w r s (Sp.hd ts).at_
  tk : Sp.toks (Sp.hd ts).at_ (rst s (Sp.hd ts).at_) = ts

def At (w : World) (r : Nat) (s : ByteArray) (ts : List Sp.Tok) : Prop := ∃ i, i ≤ s.size ∧ Rd w r s i ∧ Sp.toks i (rst s i) = ts

theorem AtP.at_ {w : World} {r : Nat} {s : ByteArray} {ts : List Sp.Tok} (h : AtP w r s ts) : At w r s ts := ⟨_, h.le, h.rd, h.tk⟩

def TokPost (r : Nat) (s : ByteArray) (ts : List Sp.Tok) (w : World) (e : Ending) (w' : World) : Prop :=
  e = .returned (.string (bs (Sp.hd ts).txt)) ∧ AtP w' r s ts ∧ Kp r w w'

/-- the loop of token: what it counts -/
def tq (b0 : UInt8) (c : UInt8) : Bool := Sp.isD c || (Sp.isL b0 && Sp.isL c)

theorem take_ext (q : ByteArray) (n : Nat) : q.extract 0 n = bs (q.data.toList.take n) := by
  rw [ext_rst]; simp [rst, bs]

theorem cnt_step {L : List UInt8} {p : UInt8 → Bool} {n N : Nat} (h : N = n + ((L.drop n).takeWhile p).length) (hn : n < L.length) (hp : p L[n] = true) : N = (n + 1) + ((L.drop (n + 1)).takeWhile p).length := by
  rw [List.drop_eq_getElem_cons hn, List.takeWhile_cons, if_pos hp] at h
  simp only [List.length_cons] at h; omega
theorem cnt_stop {L : List UInt8} {p : UInt8 → Bool} {n N : Nat} (h : N = n + ((L.drop n).takeWhile p).length) (hp : (hn : n < L.length) → p L[n] = false) : N = n := by
  by_cases hn : n < L.length
  · rw [List.drop_eq_getElem_cons hn, List.takeWhile_cons, if_neg (by rw [hp hn]; simp)] at h
    simpa using h
  · rw [List.drop_eq_nil_of_le (by omega)] at h
    simpa using h

/-- how the token ends: the last count, by the first byte -/
theorem tail_cases (q : ByteArray) (p : Nat) (n : Nat) (hn : ∀ h0 : 0 < q.size, n = (q.data.toList.takeWhile (tq q[0])).length) (hle : n ≤ q.size) :
    (q.size = 0 ∧ n = 0 ∧ (Sp.tokAt p q.data.toList).txt = q.data.toList.take 0) ∨
    ∃ h0 : 0 < q.size,
      (Sp.isL q[0] = true ∧ Sp.isD q[0] = false ∧ 0 < n ∧ (Sp.tokAt p q.data.toList).txt = q.data.toList.take n) ∨
      (Sp.isL q[0] = false ∧ Sp.isD q[0] = true ∧ 0 < n ∧ 5 < n ∧ (Sp.tokAt p q.data.toList).txt = q.data.toList.take 0) ∨
      (Sp.isL q[0] = false ∧ Sp.isD q[0] = true ∧ 0 < n ∧ ¬ 5 < n ∧ 1 < n ∧ ((q[0].toNat : Int) == 48) = true ∧ (Sp.tokAt p q.data.toList).txt = q.data.toList.take 0) ∨
      (Sp.isL q[0] = false ∧ Sp.isD q[0] = true ∧ 0 < n ∧ ¬ 5 < n ∧ 1 < n ∧ ((q[0].toNat : Int) == 48) = false ∧ (Sp.tokAt p q.data.toList).txt = q.data.toList.take n) ∨
      (Sp.isL q[0] = false ∧ Sp.isD q[0] = true ∧ 0 < n ∧ ¬ 5 < n ∧ ¬ 1 < n ∧ (Sp.tokAt p q.data.toList).txt = q.data.toList.take n) ∨
      (Sp.isL q[0] = false ∧ Sp.isD q[0] = false ∧ n = 0 ∧ Sp.isS q[0] = true ∧ (Sp.tokAt p q.data.toList).txt = q.data.toList.take 1) ∨
      (Sp.isL q[0] = false ∧ Sp.isD q[0] = false ∧ n = 0 ∧ Sp.isS q[0] = false ∧ (Sp.tokAt p q.data.toList).txt = q.data.toList.take 0) := by
  by_cases h0 : 0 < q.size
  · right
    refine ⟨h0, ?_⟩
    have hn := hn h0
    obtain ⟨L, hL⟩ : ∃ L, q.data.toList = q[0] :: L := by
      have := List.drop_eq_getElem_cons (l := q.data.toList) (i := 0) (by simpa using h0)
      refine ⟨q.data.toList.tail, ?_⟩
      simp at this
      exact this
    have hget : (q[0] : UInt8) = q[0] := rfl
    rw [hL] at hn ⊢
    generalize q[0] = c at *
    have hLD : Sp.isL c = true → Sp.isD c = false := by
      intro h; simp only [Sp.isL, Sp.isD, Bool.and_eq_true, decide_eq_true_eq, Bool.and_eq_false_iff, decide_eq_false_iff_not] at *; omega
    by_cases h1 : Sp.isL c = true
    · left
      have ht : tq c = fun x => Sp.isL x || Sp.isD x := by funext x; simp [tq, h1, Bool.or_comm]
      rw [ht] at hn
      refine ⟨h1, hLD h1, ?_, ?_⟩
      · rw [hn]; simp [List.takeWhile_cons, h1]
      · simp only [Sp.tokAt, h1, if_true]; rw [hn]; exact Sp.takeWhile_take _ _
    · have h1' : Sp.isL c = false := by simpa using h1
      have ht : tq c = Sp.isD := by funext x; simp [tq, h1']
      rw [ht] at hn
      by_cases h2 : Sp.isD c = true
      · have hpos : 0 < n := by rw [hn]; simp [List.takeWhile_cons, h2]
        have e0 : (Sp.tokAt p (c :: L)) = if 5 < n ∨ (c.toNat = 48 ∧ 1 < n) then ⟨p, 5, [], 0⟩ else ⟨p, 2, (c :: L).takeWhile Sp.isD, Sp.valD ((c :: L).takeWhile Sp.isD)⟩ := by
          simp only [Sp.tokAt, h1', h2, Bool.false_eq_true, if_false, if_true, ← hn]
        by_cases h5 : 5 < n
        · right; left; refine ⟨h1', h2, hpos, h5, ?_⟩; rw [e0, if_pos (Or.inl h5)]; rfl
        · by_cases h6 : 1 < n
          · by_cases h7 : c.toNat = 48
            · right; right; left; refine ⟨h1', h2, hpos, h5, h6, by rw [h7]; rfl, ?_⟩; rw [e0, if_pos (Or.inr ⟨h7, h6⟩)]; rfl
            · right; right; right; left
              refine ⟨h1', h2, hpos, h5, h6, by rw [beq_eq_false_iff_ne]; omega, ?_⟩
              rw [e0, if_neg (by omega), hn]; exact Sp.takeWhile_take _ _
          · right; right; right; right; left
            refine ⟨h1', h2, hpos, h5, h6, ?_⟩
            rw [e0, if_neg (by omega), hn]; exact Sp.takeWhile_take _ _
      · have h2' : Sp.isD c = false := by simpa using h2
        have hz : n = 0 := by rw [hn]; simp [List.takeWhile_cons, h2']
        right; right; right; right; right
        by_cases h3 : Sp.isS c = true
        · left; refine ⟨h1', h2', hz, h3, ?_⟩; simp [Sp.tokAt, h1', h2', h3]
        · right; refine ⟨h1', h2', hz, by simpa using h3, ?_⟩; simp [Sp.tokAt, h1', h2', h3]
  · left
    have hz : q.size = 0 := by omega
    have hL : q.data.toList = [] := List.eq_nil_of_length_eq_zero (by simpa using hz)
    exact ⟨hz, by omega, by rw [hL]; rfl⟩

theorem toList_e {q : ByteArray} (h : q.size = 0) : q.toList = [] := by
  rw [Lib.toList_data]; exact List.eq_nil_of_length_eq_zero (by simpa using h)
theorem toList_n {q : ByteArray} (h : 0 < q.size) : ¬ q.toList = [] := by
  rw [Lib.toList_data]; intro e
  have h2 : q.data.toList.length = q.size := rfl
  rw [e, List.length_nil] at h2; omega
theorem toList_n2 {q : ByteArray} (h : 0 < q.size) : q.toList.isEmpty = false := by
  have := toList_n h; cases hh : q.toList <;> simp_all

theorem idxS_yes (c : UInt8) (h : Sp.isS c = true) (w : World) : Calls Tryd.prog 27 #[.string ⟨#[123, 125, 59, 58]⟩, .int .u8 (c.toNat : Int)] w fun e w' => (∃ x : Int, e = .returned (.int .i64 x) ∧ 0 ≤ x ∧ x ≤ 3) ∧ w = w' := by
  refine (Tryd.strings_IndexByte _ _ w).mono ?_
  rintro e w' ⟨rfl, rfl⟩
  refine ⟨⟨_, rfl, ?_⟩, rfl⟩
  have hc : ((c.toNat : Int).toNat.toUInt8) = c := by simp
  rw [hc]
  simp only [Sp.isS, Bool.or_eq_true, decide_eq_true_eq] at h
  have h' : c = 123 ∨ c = 125 ∨ c = 59 ∨ c = 58 := by
    rcases h with ((h | h) | h) | h
    · left; apply UInt8.toNat_inj.1; simpa using h
    · right; left; apply UInt8.toNat_inj.1; simpa using h
    · right; right; left; apply UInt8.toNat_inj.1; simpa using h
    · right; right; right; apply UInt8.toNat_inj.1; simpa using h
  rcases h' with rfl | rfl | rfl | rfl <;> decide

theorem idxS_no (c : UInt8) (h : Sp.isS c = false) (w : World) : Calls Tryd.prog 27 #[.string ⟨#[123, 125, 59, 58]⟩, .int .u8 (c.toNat : Int)] w fun e w' => e = .returned (.int .i64 (-1)) ∧ w = w' := by
  refine (Tryd.strings_IndexByte _ _ w).mono ?_
  rintro e w' ⟨rfl, rfl⟩
  refine ⟨?_, rfl⟩
  have hc : ((c.toNat : Int).toNat.toUInt8) = c := by simp
  rw [hc]
  simp only [Sp.isS, Bool.or_eq_false_iff, decide_eq_false_iff_not] at h
  have h1 : (123 == c) = false := by rw [beq_eq_false_iff_ne]; rintro rfl; simp at h
  have h2 : (125 == c) = false := by rw [beq_eq_false_iff_ne]; rintro rfl; simp at h
  have h3 : (59 == c) = false := by rw [beq_eq_false_iff_ne]; rintro rfl; simp at h
  have h4 : (58 == c) = false := by rw [beq_eq_false_iff_ne]; rintro rfl; simp at h
  simp [Lib.indexByte, h1, h2, h3, h4]

set_option maxHeartbeats 2000000 in
theorem token_any (r : Nat) (s : ByteArray) (ts : List Sp.Tok) (w : World) (hr : At w r s ts) (hs : s.size ≤ 9223372036854775806) :
    Calls Tryd.prog 79 #[.pointer (some ⟨r, 0, none⟩)] w (TokPost r s ts w) := by
  obtain ⟨i, hi, hrd, htk⟩ := hr
  obtain ⟨p, hp⟩ : ∃ p, p = i + Sp.skpN false (rst s i) := ⟨_, rfl⟩
  have hat : (Sp.hd ts).at_ = p := by rw [← htk, Sp.toks_at, hp]
  have hple : p ≤ s.size := by have := Sp.skpN_le false (rst s i); rw [rst_len] at this; omega
  have htk2 : Sp.toks p (rst s p) = ts := by rw [hp, ← rst_drop, Sp.toks_skip]; exact htk
  have htxt : Sp.hd ts = Sp.tokAt p (rst s p) := by rw [← htk, Sp.toks_hd, hp, rst_drop]
  have HP : Hid (∀ w' n, Rd w' r s p → Kp r w w' → (Sp.tokAt p (rst s p)).txt = (rst s p).take n → TokPost r s ts w (.returned (.string (bs ((rst s p).take n)))) w') :=
    Lib.hid fun w' n a b c => ⟨by rw [htxt, c], ⟨by rw [hat]; exact hple, by rw [hat]; exact a, by rw [hat]; exact htk2⟩, b⟩
  clear htxt htk2 hat
  have H1 := Lib.hid hp; clear hp htk
  go_enter Tryd.func79, Tryd.ntmps79
  go_wp2_with (go_at_call 57; refine (skip_any _ _ _ _ hrd hs hi).mono ?_; rintro e w1 hh; obtain ⟨rfl, hrd1, hkp⟩ := hh; rw [← H1.out] at hrd1; have d0 := hrd1.c0; have d1 := hrd1.c1)
  have H2 := Lib.hid hrd1; have H3 := Lib.hid hkp; clear hrd hrd1 hkp
  go_quiet (fail)
  obtain ⟨q, hq⟩ : ∃ q, q = s.extract p s.size := ⟨_, rfl⟩
  rw [← hq]
  have hL : q.data.toList = rst s p := by rw [hq, ext_list, List.take_of_length_le (by rw [rst_len]; omega)]
  have hqs : q.size = s.size - p := by rw [← rst_len, ← hL]; rfl
  have H4 := Lib.hid hL
  have hqm : q.size ≤ 9223372036854775806 := by omega
  have H5 := Lib.hid hqs
  clear hq hL hqs d0 d1
  have H2' : Hid (Rd (w1.drewN nq) r s p) := Lib.hid (H2.out.drewN _)
  have H3' : Hid (Kp r w (w1.drewN nq)) := Lib.hid (H3.out.drewN _)
  clear H2 H3
  generalize w1.drewN nq = w2 at *
  go_wp2_with fail
  obtain ⟨N, hN⟩ : ∃ N, ∀ h0 : 0 < q.size, N = ((rst s p).takeWhile (tq (q[0]'h0))).length := by
    by_cases h0 : 0 < q.size
    · exact ⟨((rst s p).takeWhile (tq (q[0]'h0))).length, fun _ => rfl⟩
    · exact ⟨0, fun h => absurd h h0⟩
  have H6 := Lib.hid hN
  clear hN
  go_loopg [4] q.size (fun k v wr => ∃ n, k = q.size - n ∧ n ≤ q.size ∧ v = .int .i64 (n : Nat) ∧ (∀ h0 : 0 < q.size, N = n + (((rst s p).drop n).takeWhile (tq (q[0]'h0))).length) ∧ wr = w2)
  case atStart => exact ⟨0, rfl, Nat.zero_le _, rfl, fun h0 => by rw [H6.out h0]; simp, rfl⟩
  case round =>
    obtain ⟨n, hk, hn, rfl, hNn, rfl⟩ := hrel
    have H7 := Lib.hid hk; have H8 := Lib.hid hNn; clear hk hNn
    by_cases hlt : n < q.size
    · have h0 : 0 < q.size := by omega
      have hlt' : n < (rst s p).length := by rw [← H4.out]; simpa using hlt
      have hget : (rst s p)[n]'hlt' = q[n] := by simp only [← H4.out]; rfl
      have H9 := Lib.hid hget; clear hget
      by_cases hD : Sp.isD q[n] = true
      · have HT : Hid (tq q[0] q[n] = true) := Lib.hid (by simp [tq, hD])
        go_wp2_with (first | (go_at_call 52; refine (isDigit_any _ _).mono ?_; rintro e w' ⟨rfl, rfl⟩) | (go_at_call 51; refine (isLetter_any _ _).mono ?_; rintro e w' ⟨rfl, rfl⟩))
        go_roundg (q.size - (n + 1))
        case measure => rw [H7.out]; omega
        case rel => exact ⟨n + 1, rfl, by omega, by go_num, fun h => cnt_step (H8.out h) hlt' (by rw [H9.out]; exact HT.out), rfl⟩
      · have hD' : Sp.isD q[n] = false := by simpa using hD
        clear hD
        by_cases hL : Sp.isL q[0] = true
        · by_cases hM : Sp.isL q[n] = true
          · have HT : Hid (tq q[0] q[n] = true) := Lib.hid (by simp [tq, hL, hM])
            go_wp2_with (first | (go_at_call 52; refine (isDigit_any _ _).mono ?_; rintro e w' ⟨rfl, rfl⟩) | (go_at_call 51; refine (isLetter_any _ _).mono ?_; rintro e w' ⟨rfl, rfl⟩))
            go_roundg (q.size - (n + 1))
            case measure => rw [H7.out]; omega
            case rel => exact ⟨n + 1, rfl, by omega, by go_num, fun h => cnt_step (H8.out h) hlt' (by rw [H9.out]; exact HT.out), rfl⟩
          · have hM' : Sp.isL q[n] = false := by simpa using hM
            clear hM
            have HS : Hid (∀ h0 : 0 < q.size, N = n) := Lib.hid fun h => cnt_stop (H8.out h) (fun _ => by rw [H9.out]; simp [tq, hD', hM'])
            have HE := tail_cases q p n (by intro h0; rw [H4.out]; exact (H6.out h0).symm.trans (HS.out h0) |>.symm) hn
            rw [H4.out] at HE
            rcases HE with ⟨z0, z1, zt⟩ | ⟨z0, ⟨z1, z2, z3, zt⟩ | ⟨z1, z2, z3, z4, zt⟩ | ⟨z1, z2, z3, z4, z5, z6, zt⟩ | ⟨z1, z2, z3, z4, z5, z6, zt⟩ | ⟨z1, z2, z3, z4, z5, zt⟩ | ⟨z1, z2, z3, z4, zt⟩ | ⟨z1, z2, z3, z4, zt⟩⟩
            all_goals
              have HZ := Lib.hid zt; clear zt
              first | have hE : q.toList = [] := toList_e z0 | (have hE := toList_n z0; have hE2 := toList_n2 z0)
              first
                | omega
                | exact absurd (z1.symm.trans hL') (by decide)
                | exact absurd (z1.symm.trans hL) (by decide)
                | (go_wp2_with (first | (go_at_call 52; refine (isDigit_any _ _).mono ?_; rintro e w' ⟨rfl, rfl⟩) | (go_at_call 51; refine (isLetter_any _ _).mono ?_; rintro e w' ⟨rfl, rfl⟩) | (go_at_call 27; refine (idxS_yes _ ‹_› _).mono ?_; rintro e w' ⟨⟨x, rfl, hx1, hx2⟩, rfl⟩) | (go_at_call 27; refine (idxS_no _ ‹_› _).mono ?_; rintro e w' ⟨rfl, rfl⟩))
                   all_goals
       go_ret
       first
         | (rw [take_ext, H4.out]; exact HP.out _ _ H2'.out H3'.out HZ.out)
         | exact HP.out _ 0 H2'.out H3'.out HZ.out)
        · have hL' : Sp.isL q[0] = false := by simpa using hL
          clear hL
          have HS : Hid (∀ h0 : 0 < q.size, N = n) := Lib.hid fun h => cnt_stop (H8.out h) (fun _ => by rw [H9.out]; simp [tq, hD', hL'])
          have HE := tail_cases q p n (by intro h0; rw [H4.out]; exact (H6.out h0).symm.trans (HS.out h0) |>.symm) hn
          rw [H4.out] at HE
          rcases HE with ⟨z0, z1, zt⟩ | ⟨z0, ⟨z1, z2, z3, zt⟩ | ⟨z1, z2, z3, z4, zt⟩ | ⟨z1, z2, z3, z4, z5, z6, zt⟩ | ⟨z1, z2, z3, z4, z5, z6, zt⟩ | ⟨z1, z2, z3, z4, z5, zt⟩ | ⟨z1, z2, z3, z4, zt⟩ | ⟨z1, z2, z3, z4, zt⟩⟩
          all_goals
            have HZ := Lib.hid zt; clear zt
            first | have hE : q.toList = [] := toList_e z0 | (have hE := toList_n z0; have hE2 := toList_n2 z0)
            first
              | omega
              | exact absurd (z1.symm.trans hL') (by decide)
              | exact absurd (z1.symm.trans hL) (by decide)
              | (go_wp2_with (first | (go_at_call 52; refine (isDigit_any _ _).mono ?_; rintro e w' ⟨rfl, rfl⟩) | (go_at_call 51; refine (isLetter_any _ _).mono ?_; rintro e w' ⟨rfl, rfl⟩) | (go_at_call 27; refine (idxS_yes _ ‹_› _).mono ?_; rintro e w' ⟨⟨x, rfl, hx1, hx2⟩, rfl⟩) | (go_at_call 27; refine (idxS_no _ ‹_› _).mono ?_; rintro e w' ⟨rfl, rfl⟩))
                 all_goals
       go_ret
       first
         | (rw [take_ext, H4.out]; exact HP.out _ _ H2'.out H3'.out HZ.out)
         | exact HP.out _ 0 H2'.out H3'.out HZ.out)
    · have HS : Hid (∀ h0 : 0 < q.size, N = n) := Lib.hid fun h => cnt_stop (H8.out h) (fun hh => absurd (by have h5 := H4.out; rw [← h5] at hh; simpa using hh) hlt)
      have HE := tail_cases q p n (by intro h0; rw [H4.out]; exact (H6.out h0).symm.trans (HS.out h0) |>.symm) hn
      rw [H4.out] at HE
      rcases HE with ⟨z0, z1, zt⟩ | ⟨z0, ⟨z1, z2, z3, zt⟩ | ⟨z1, z2, z3, z4, zt⟩ | ⟨z1, z2, z3, z4, z5, z6, zt⟩ | ⟨z1, z2, z3, z4, z5, z6, zt⟩ | ⟨z1, z2, z3, z4, z5, zt⟩ | ⟨z1, z2, z3, z4, zt⟩ | ⟨z1, z2, z3, z4, zt⟩⟩
      all_goals
        have HZ := Lib.hid zt; clear zt
        first | have hE : q.toList = [] := toList_e z0 | (have hE := toList_n z0; have hE2 := toList_n2 z0)
        first
          | omega
          | exact absurd (z1.symm.trans hL') (by decide)
          | exact absurd (z1.symm.trans hL) (by decide)
          | (go_wp2_with (first | (go_at_call 52; refine (isDigit_any _ _).mono ?_; rintro e w' ⟨rfl, rfl⟩) | (go_at_call 51; refine (isLetter_any _ _).mono ?_; rintro e w' ⟨rfl, rfl⟩) | (go_at_call 27; refine (idxS_yes _ ‹_› _).mono ?_; rintro e w' ⟨⟨x, rfl, hx1, hx2⟩, rfl⟩) | (go_at_call 27; refine (idxS_no _ ‹_› _).mono ?_; rintro e w' ⟨rfl, rfl⟩))
             all_goals
       go_ret
       first
         | (rw [take_ext, H4.out]; exact HP.out _ _ H2'.out H3'.out HZ.out)
         | exact HP.out _ 0 H2'.out H3'.out HZ.out)
end Go.Proofs.YtppeplonnippcaaDoor
