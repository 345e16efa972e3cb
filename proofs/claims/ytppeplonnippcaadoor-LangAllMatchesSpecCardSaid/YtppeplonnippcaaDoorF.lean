/-
Layer 7: the reference's skip.
Layer 7: the reference's next.
Layer 7: the reference's Tokens.
-/
import Derived.Test.YtppeplonnippcaaDoorA2
import Derived.Test.YtppeplonnippcaaDoorS
import Derived.Test.YtppeplonnippcaaDoorA7
import Derived.Test.YtppeplonnippcaaDoorB0
set_option linter.unusedVariables false
set_option linter.unusedSimpArgs false
namespace Go.Proofs.YtppeplonnippcaaDoor
open Go.RowKit

theorem skp_t0 {s : ByteArray} {j : Nat} {h : j < s.size} (hc : rst s j = s[j] :: rst s (j + 1)) (hb : ((s[j].toNat : Int) == 35) = true) : Sp.skpN false (rst s j) = Sp.skpN true (rst s j) := by
  rw [hc]
  simp only [beq_iff_eq] at hb
  have e1 : Sp.isB s[j] = false := by simp [Sp.isB]; omega
  have e2 : s[j].toNat = 35 := by omega
  have e3 : ¬ s[j].toNat = 10 := by omega
  simp only [Sp.skpN, e1, e2, if_true, if_false, Bool.false_eq_true]
  rw [if_neg (by decide)]
theorem skp_t1 {s : ByteArray} {j : Nat} {h : j < s.size} (hc : rst s j = s[j] :: rst s (j + 1)) (hb : ((s[j].toNat : Int) != 10) = true) : j + Sp.skpN true (rst s j) = j + 1 + Sp.skpN true (rst s (j + 1)) := by
  rw [hc]
  have e3 : ¬ s[j].toNat = 10 := by simp at hb; omega
  simp only [Sp.skpN, e3, if_false]; omega
theorem skp_t2 {s : ByteArray} {j : Nat} {h : j < s.size} (hc : rst s j = s[j] :: rst s (j + 1)) (hb : ((s[j].toNat : Int) != 10) = false) : Sp.skpN true (rst s j) = Sp.skpN false (rst s j) := by
  rw [hc]
  have e3 : s[j].toNat = 10 := by simp at hb; omega
  have e1 : Sp.isB s[j] = true := by simp [Sp.isB]; omega
  simp only [Sp.skpN, e1, e3, if_true]

set_option maxHeartbeats 1000000 in
theorem refSkip_any (i : Nat) (s : ByteArray) (w : World) (hs : s.size ≤ 9223372036854775806) (hi : i ≤ s.size) :
    Calls Tryd.prog 69 #[.string s, .int .i64 (i : Nat)] w fun e w' => e = .returned (.int .i64 ((i + Sp.skpN false (rst s i) : Nat) : Int)) ∧ w = w' := by
  obtain ⟨t, ht⟩ : ∃ t, t = i + Sp.skpN false (rst s i) := ⟨_, rfl⟩
  rw [← ht]
  have HT := Lib.hid ht
  clear ht
  go_enter Tryd.func69, Tryd.ntmps69
  go_wp2_with fail
  go_loopg [1] (s.size - i) (fun k v wr => ∃ j, k = s.size - j ∧ j ≤ s.size ∧ t = j + Sp.skpN false (rst s j) ∧ v = .int .i64 (j : Nat) ∧ wr = w)
  case atStart => exact ⟨i, rfl, hi, HT.out, rfl, rfl⟩
  case round =>
    obtain ⟨j, hk, hj, htj, rfl, rfl⟩ := hrel
    have H1 := Lib.hid hk; have H4 := Lib.hid htj
    clear hk htj HT
    by_cases hlt : j < s.size
    · have hc := rst_cons s j hlt
      have H6 := Lib.hid hc; clear hc
      go_wp2_with fail
      · go_roundg (s.size - (j + 1))
        case measure => rw [H1.out]; omega
        case rel => exact ⟨j + 1, rfl, by omega, H4.out.trans (skp_b H6.out (by simp only [beq_iff_eq, beq_eq_false_iff_ne, ne_eq] at *; omega)), by go_num, rfl⟩
      · go_roundg (s.size - (j + 1))
        case measure => rw [H1.out]; omega
        case rel => exact ⟨j + 1, rfl, by omega, H4.out.trans (skp_b H6.out (by simp only [beq_iff_eq, beq_eq_false_iff_ne, ne_eq] at *; omega)), by go_num, rfl⟩
      · go_roundg (s.size - (j + 1))
        case measure => rw [H1.out]; omega
        case rel => exact ⟨j + 1, rfl, by omega, H4.out.trans (skp_b H6.out (by simp only [beq_iff_eq, beq_eq_false_iff_ne, ne_eq] at *; omega)), by go_num, rfl⟩
      · go_ret
        refine ⟨?_, rfl⟩
        rw [H4.out, skp_0 H6.out (by simp only [beq_iff_eq, beq_eq_false_iff_ne, ne_eq] at *; omega) (by simp only [beq_iff_eq, beq_eq_false_iff_ne, ne_eq] at *; omega) (by simp only [beq_iff_eq, beq_eq_false_iff_ne, ne_eq] at *; omega) (by simpa using ‹((s[j].toNat : Int) != 35) = true›)]; rfl
      · have h35 : ((s[j].toNat : Int) == 35) = true := by simpa using ‹((s[j].toNat : Int) != 35) = false›
        have HS := Lib.hid (skp_t0 H6.out h35)
        have h10 : ((s[j].toNat : Int) != 10) = true := by simp at h35 ⊢; omega
        have HJ := Lib.hid h10
        clear h35 h10
        go_loopg [1] (s.size - j) (fun k v wr2 => ∃ m, k = s.size - m ∧ (m = j ∨ j < m) ∧ m ≤ s.size ∧ t = m + Sp.skpN true (rst s m) ∧ v = .int .i64 (m : Nat) ∧ wr2 = wr)
        case atStart => exact ⟨j, rfl, .inl rfl, by omega, by rw [← HS.out]; exact H4.out, rfl, rfl⟩
        case round =>
          obtain ⟨m, hk, hm, hms, htm, rfl, rfl⟩ := hrel
          have G1 := Lib.hid hk; have G2 := Lib.hid hm; have G4 := Lib.hid htm
          clear hk hm htm
          by_cases hlm : m < s.size
          · have G6 := Lib.hid (rst_cons s m hlm)
            by_cases hnl : ((s[m].toNat : Int) != 10) = true
            · go_wp2_with fail
              go_roundg (s.size - (m + 1))
              case measure => rw [G1.out]; omega
              case rel => exact ⟨m + 1, rfl, by have := G2.out; omega, by omega, G4.out.trans (skp_t1 G6.out hnl), by go_num, rfl⟩
            · have hnl' : ((s[m].toNat : Int) != 10) = false := by simpa using hnl
              clear hnl
              have hjm : j < m := by
                rcases G2.out with h | h
                · subst h; rw [HJ.out] at hnl'; cases hnl'
                · exact h
              go_wp2_with fail
              go_roundg (s.size - m)
              case measure => rw [H1.out]; omega
              case rel => exact ⟨m, rfl, by omega, by rw [← skp_t2 G6.out hnl']; exact G4.out, rfl, rfl⟩
          · go_wp2_with fail
            go_roundg (s.size - m)
            case measure => rw [H1.out]; omega
            case rel => exact ⟨m, rfl, by omega, by rw [G4.out, rst_nil s m (by omega)]; rfl, rfl, rfl⟩
    · go_wp2_with fail
      go_ret
      refine ⟨?_, rfl⟩
      rw [H4.out, rst_nil s j (by omega)]; rfl
end Go.Proofs.YtppeplonnippcaaDoor

namespace Go.Proofs.YtppeplonnippcaaDoor
open Go.RowKit

/-- a token of the reference's, as a value -/
def rtokC (t : Sp.Tok) : List Value := [.string (bs t.txt), .int .i64 t.at_, .int .i64 t.kind, .int .i64 t.n]
def rtokV (t : Sp.Tok) : Value := .agg #[.string (bs t.txt), .int .i64 t.at_, .int .i64 t.kind, .int .i64 t.n]
theorem set4 {V : World} {b : Nat} {a0 a1 a2 a3 : Value} {t : TypeId} (h : V.heap[b]? = some (.cells #[a0, a1, a2, a3] t (0, 0))) (q a k n : Value) :
    ((((V.setCell ⟨b, 0, none⟩ q).setCell ⟨b, 1, none⟩ a).setCell ⟨b, 2, none⟩ k).setCell ⟨b, 3, none⟩ n).heap[b]? = some (.cells #[q, a, k, n] t (0, 0)) :=
  blk_set (blk_set (blk_set (blk_set h 0 q) 1 a) 2 k) 3 n
theorem getl {s : ByteArray} {p m : Nat} (h : p ≤ m) (hm : m < s.size) (hl : m - p < (rst s p).length) : (rst s p)[m - p] = s[m] := by
  have h2 : (rst s p)[m - p]? = some s[m] := by
    unfold rst
    rw [List.getElem?_drop, show p + (m - p) = m by omega]
    exact List.getElem?_eq_getElem (show m < s.data.toList.length from hm)
  exact (List.getElem_eq_iff hl).2 h2
theorem rtw_all (f : UInt8 → Bool) : ∀ (l : List UInt8), ∀ c ∈ l.takeWhile f, f c = true := by
  intro l
  induction l with
  | nil => intro c h; cases h
  | cons a l ih =>
    intro c h
    rw [List.takeWhile_cons] at h
    split at h
    · rename_i ha
      rcases List.mem_cons.1 h with rfl | h
      · exact ha
      · exact ih c h
    · cases h
theorem tok_kinds {c : UInt8} {l : List UInt8} (p : Nat) : (Sp.isL c = true → Sp.tokAt p (c :: l) = ⟨p, 1, (c :: l).takeWhile (fun x => Sp.isL x || Sp.isD x), 0⟩) ∧
    (Sp.isL c = false → Sp.isD c = true → Sp.tokAt p (c :: l) = if 5 < ((c :: l).takeWhile Sp.isD).length ∨ (c.toNat = 48 ∧ 1 < ((c :: l).takeWhile Sp.isD).length) then ⟨p, 5, [], 0⟩ else ⟨p, 2, (c :: l).takeWhile Sp.isD, Sp.valD ((c :: l).takeWhile Sp.isD)⟩) ∧
    (Sp.isL c = false → Sp.isD c = false → Sp.isS c = true → Sp.tokAt p (c :: l) = ⟨p, 3, [c], 0⟩) ∧ (Sp.isL c = false → Sp.isD c = false → Sp.isS c = false → Sp.tokAt p (c :: l) = ⟨p, 5, [], 0⟩) := by
  refine ⟨fun h => ?_, fun h1 h2 => ?_, fun h1 h2 h3 => ?_, fun h1 h2 h3 => ?_⟩
  · simp only [Sp.tokAt, h, if_true]
  · simp only [Sp.tokAt, h1, h2, if_true, if_false, Bool.false_eq_true]
  · simp only [Sp.tokAt, h1, h2, h3, if_true, if_false, Bool.false_eq_true]
  · simp only [Sp.tokAt, h1, h2, h3, if_false, Bool.false_eq_true]

theorem refLetter_any (b : UInt8) (w : World) : Calls Tryd.prog 53 #[.int .u8 (b.toNat : Int)] w fun e w' => e = .returned (.bool (Sp.isL b)) ∧ w = w' := by
  have hb := b.toNat_lt
  by_cases h1 : 97 ≤ b.toNat
  all_goals
    by_cases h2 : b.toNat ≤ 122
    all_goals
      have HF : Hid (Sp.isL b = (decide (97 ≤ b.toNat) && decide (b.toNat ≤ 122))) := Lib.hid rfl
      go_enter Tryd.func53, Tryd.ntmps53
      go_wp2
      all_goals
        go_ret
        refine ⟨?_, rfl⟩
        rw [HF.out]
        simp [h1, h2]
        try omega

theorem refDigit_any (b : UInt8) (w : World) : Calls Tryd.prog 54 #[.int .u8 (b.toNat : Int)] w fun e w' => e = .returned (.bool (Sp.isD b)) ∧ w = w' := by
  have hb := b.toNat_lt
  by_cases h1 : 48 ≤ b.toNat
  all_goals
    by_cases h2 : b.toNat ≤ 57
    all_goals
      have HF : Hid (Sp.isD b = (decide (48 ≤ b.toNat) && decide (b.toNat ≤ 57))) := Lib.hid rfl
      go_enter Tryd.func54, Tryd.ntmps54
      go_wp2
      all_goals
        go_ret
        refine ⟨?_, rfl⟩
        rw [HF.out]
        simp [h1, h2]
        try omega

set_option maxHeartbeats 4000000 in
theorem refNext_any (i : Nat) (s : ByteArray) (w : World) (hs : s.size ≤ 9223372036854775806) (hi : i ≤ s.size) :
    Calls Tryd.prog 46 #[.string s, .int .i64 (i : Nat)] w fun e w' => e = .returned (rtokV (Sp.hd (Sp.toks i (rst s i)))) ∧ Below w.heap.size w w' := by
  rw [Sp.toks_hd]
  obtain ⟨p, hp⟩ : ∃ p, p = i + Sp.skpN false (rst s i) := ⟨_, rfl⟩
  have hple : p ≤ s.size := by have := Sp.skpN_le false (rst s i); rw [rst_len] at this; omega
  rw [rst_drop, ← hp]
  have CK := Lib.hid fun w => refSkip_any i s w hs hi
  rw [← hp] at CK
  clear hp
  go_enter Tryd.func46, Tryd.ntmps46
  go_wp2_with fail
  refine (CK.out _).mono ?_
  rintro e w1 ⟨rfl, rfl⟩
  have g1 : (w.alloc (.cells #[.string ⟨#[]⟩, .int .i64 0, .int .i64 0, .int .i64 0] 46)).heap[w.heap.size]? = some (.cells #[.string ⟨#[]⟩, .int .i64 0, .int .i64 0, .int .i64 0] 46 (0, 0)) := heap_alloc_new w _
  have hb0 : Below w.heap.size w (w.alloc (.cells #[.string ⟨#[]⟩, .int .i64 0, .int .i64 0, .int .i64 0] 46)) := (Below.refl _ _).alloc (Nat.le_refl _) _
  generalize w.alloc (.cells #[.string ⟨#[]⟩, .int .i64 0, .int .i64 0, .int .i64 0] 46) = V at *
  have hV1 := lt_of_block g1
  have B0 := Lib.hid hb0
  have c0 := blk_c g1 0; have c1 := blk_c g1 1; have c2 := blk_c g1 2; have c3 := blk_c g1 3; have f0 := blk_f g1 0; have f1 := blk_f g1 1; have f2 := blk_f g1 2; have f3 := blk_f g1 3
  have G1 := Lib.hid g1
  clear hb0 g1
  by_cases hpl : p = s.size
  · subst hpl
    have hb : ((s.size : Int) == (s.size : Int)) = true := by simp
    go_wp2_with fail
    have hz := set4 G1.out (.string (⟨#[]⟩ : ByteArray)) (.int .i64 s.size) (.int .i64 4) (.int .i64 0)
    have hbz : Below w.heap.size w ((((V.setCell ⟨w.heap.size, 0, none⟩ (.string (⟨#[]⟩ : ByteArray))).setCell ⟨w.heap.size, 1, none⟩ (.int .i64 s.size)).setCell ⟨w.heap.size, 2, none⟩ (.int .i64 4)).setCell ⟨w.heap.size, 3, none⟩ (.int .i64 0)) := (((B0.out.setCell (Nat.le_refl _) _).setCell (Nat.le_refl _) _).setCell (Nat.le_refl _) _).setCell (Nat.le_refl _) _
    generalize (((V.setCell ⟨w.heap.size, 0, none⟩ (.string (⟨#[]⟩ : ByteArray))).setCell ⟨w.heap.size, 1, none⟩ (.int .i64 s.size)).setCell ⟨w.heap.size, 2, none⟩ (.int .i64 4)).setCell ⟨w.heap.size, 3, none⟩ (.int .i64 0) = Z at hz hbz ⊢
    have e0 := blk_c hz 0; have e1 := blk_c hz 1; have e2 := blk_c hz 2; have e3 := blk_c hz 3
    have HBZ := Lib.hid hbz
    clear hz hbz
    refine bodyPost_ret (v := .agg #[.string (⟨#[]⟩ : ByteArray), .int .i64 s.size, .int .i64 4, .int .i64 0]) (by simp [results, Tryd.results46, go_sem, e0, e1, e2, e3]) rfl ⟨?_, HBZ.out⟩
    rw [rst_nil s s.size (Nat.le_refl _)]; rfl
  · have hb : ((p : Int) == (s.size : Int)) = false := by rw [beq_eq_false_iff_ne]; omega
    have hlt : p < s.size := by omega
    have HC := Lib.hid (rst_cons s p hlt)
    have HK := Lib.hid (tok_kinds (c := s[p]) (l := rst s (p + 1)) p)
    rw [← HC.out] at HK
    rcases hL : Sp.isL s[p] with _ | _
    · rcases hD : Sp.isD s[p] with _ | _
      · have HLD := Lib.hid (And.intro hL hD)
        go_wp2_with (first | (go_at_call 53; refine (refLetter_any _ _).mono ?_; rintro e w' ⟨rfl, rfl⟩) | (go_at_call 54; refine (refDigit_any _ _).mono ?_; rintro e w' ⟨rfl, rfl⟩))
        · have hz := set4 G1.out (.string (s.extract p (p + 1))) (.int .i64 p) (.int .i64 3) (.int .i64 0)
          have hbz : Below w.heap.size w ((((V.setCell ⟨w.heap.size, 0, none⟩ (.string (s.extract p (p + 1)))).setCell ⟨w.heap.size, 1, none⟩ (.int .i64 p)).setCell ⟨w.heap.size, 2, none⟩ (.int .i64 3)).setCell ⟨w.heap.size, 3, none⟩ (.int .i64 0)) := (((B0.out.setCell (Nat.le_refl _) _).setCell (Nat.le_refl _) _).setCell (Nat.le_refl _) _).setCell (Nat.le_refl _) _
          generalize (((V.setCell ⟨w.heap.size, 0, none⟩ (.string (s.extract p (p + 1)))).setCell ⟨w.heap.size, 1, none⟩ (.int .i64 p)).setCell ⟨w.heap.size, 2, none⟩ (.int .i64 3)).setCell ⟨w.heap.size, 3, none⟩ (.int .i64 0) = Z at hz hbz ⊢
          have e0 := blk_c hz 0; have e1 := blk_c hz 1; have e2 := blk_c hz 2; have e3 := blk_c hz 3
          have HBZ := Lib.hid hbz
          clear hz hbz
          refine bodyPost_ret (v := .agg #[.string (s.extract p (p + 1)), .int .i64 p, .int .i64 3, .int .i64 0]) (by simp [results, Tryd.results46, go_sem, e0, e1, e2, e3]) rfl ⟨?_, HBZ.out⟩
          have hS : Sp.isS s[p] = true := by simp only [Sp.isS, Bool.or_eq_true, decide_eq_true_eq]; simp only [beq_iff_eq, beq_eq_false_iff_ne, ne_eq] at *; omega
          rw [HK.out.2.2.1 HLD.out.1 HLD.out.2 hS, ext_rst, HC.out, show p + 1 - p = 1 by omega]; rfl
        · have hz := set4 G1.out (.string (s.extract p (p + 1))) (.int .i64 p) (.int .i64 3) (.int .i64 0)
          have hbz : Below w.heap.size w ((((V.setCell ⟨w.heap.size, 0, none⟩ (.string (s.extract p (p + 1)))).setCell ⟨w.heap.size, 1, none⟩ (.int .i64 p)).setCell ⟨w.heap.size, 2, none⟩ (.int .i64 3)).setCell ⟨w.heap.size, 3, none⟩ (.int .i64 0)) := (((B0.out.setCell (Nat.le_refl _) _).setCell (Nat.le_refl _) _).setCell (Nat.le_refl _) _).setCell (Nat.le_refl _) _
          generalize (((V.setCell ⟨w.heap.size, 0, none⟩ (.string (s.extract p (p + 1)))).setCell ⟨w.heap.size, 1, none⟩ (.int .i64 p)).setCell ⟨w.heap.size, 2, none⟩ (.int .i64 3)).setCell ⟨w.heap.size, 3, none⟩ (.int .i64 0) = Z at hz hbz ⊢
          have e0 := blk_c hz 0; have e1 := blk_c hz 1; have e2 := blk_c hz 2; have e3 := blk_c hz 3
          have HBZ := Lib.hid hbz
          clear hz hbz
          refine bodyPost_ret (v := .agg #[.string (s.extract p (p + 1)), .int .i64 p, .int .i64 3, .int .i64 0]) (by simp [results, Tryd.results46, go_sem, e0, e1, e2, e3]) rfl ⟨?_, HBZ.out⟩
          have hS : Sp.isS s[p] = true := by simp only [Sp.isS, Bool.or_eq_true, decide_eq_true_eq]; simp only [beq_iff_eq, beq_eq_false_iff_ne, ne_eq] at *; omega
          rw [HK.out.2.2.1 HLD.out.1 HLD.out.2 hS, ext_rst, HC.out, show p + 1 - p = 1 by omega]; rfl
        · have hz := set4 G1.out (.string (s.extract p (p + 1))) (.int .i64 p) (.int .i64 3) (.int .i64 0)
          have hbz : Below w.heap.size w ((((V.setCell ⟨w.heap.size, 0, none⟩ (.string (s.extract p (p + 1)))).setCell ⟨w.heap.size, 1, none⟩ (.int .i64 p)).setCell ⟨w.heap.size, 2, none⟩ (.int .i64 3)).setCell ⟨w.heap.size, 3, none⟩ (.int .i64 0)) := (((B0.out.setCell (Nat.le_refl _) _).setCell (Nat.le_refl _) _).setCell (Nat.le_refl _) _).setCell (Nat.le_refl _) _
          generalize (((V.setCell ⟨w.heap.size, 0, none⟩ (.string (s.extract p (p + 1)))).setCell ⟨w.heap.size, 1, none⟩ (.int .i64 p)).setCell ⟨w.heap.size, 2, none⟩ (.int .i64 3)).setCell ⟨w.heap.size, 3, none⟩ (.int .i64 0) = Z at hz hbz ⊢
          have e0 := blk_c hz 0; have e1 := blk_c hz 1; have e2 := blk_c hz 2; have e3 := blk_c hz 3
          have HBZ := Lib.hid hbz
          clear hz hbz
          refine bodyPost_ret (v := .agg #[.string (s.extract p (p + 1)), .int .i64 p, .int .i64 3, .int .i64 0]) (by simp [results, Tryd.results46, go_sem, e0, e1, e2, e3]) rfl ⟨?_, HBZ.out⟩
          have hS : Sp.isS s[p] = true := by simp only [Sp.isS, Bool.or_eq_true, decide_eq_true_eq]; simp only [beq_iff_eq, beq_eq_false_iff_ne, ne_eq] at *; omega
          rw [HK.out.2.2.1 HLD.out.1 HLD.out.2 hS, ext_rst, HC.out, show p + 1 - p = 1 by omega]; rfl
        · have hz := set4 G1.out (.string (s.extract p (p + 1))) (.int .i64 p) (.int .i64 3) (.int .i64 0)
          have hbz : Below w.heap.size w ((((V.setCell ⟨w.heap.size, 0, none⟩ (.string (s.extract p (p + 1)))).setCell ⟨w.heap.size, 1, none⟩ (.int .i64 p)).setCell ⟨w.heap.size, 2, none⟩ (.int .i64 3)).setCell ⟨w.heap.size, 3, none⟩ (.int .i64 0)) := (((B0.out.setCell (Nat.le_refl _) _).setCell (Nat.le_refl _) _).setCell (Nat.le_refl _) _).setCell (Nat.le_refl _) _
          generalize (((V.setCell ⟨w.heap.size, 0, none⟩ (.string (s.extract p (p + 1)))).setCell ⟨w.heap.size, 1, none⟩ (.int .i64 p)).setCell ⟨w.heap.size, 2, none⟩ (.int .i64 3)).setCell ⟨w.heap.size, 3, none⟩ (.int .i64 0) = Z at hz hbz ⊢
          have e0 := blk_c hz 0; have e1 := blk_c hz 1; have e2 := blk_c hz 2; have e3 := blk_c hz 3
          have HBZ := Lib.hid hbz
          clear hz hbz
          refine bodyPost_ret (v := .agg #[.string (s.extract p (p + 1)), .int .i64 p, .int .i64 3, .int .i64 0]) (by simp [results, Tryd.results46, go_sem, e0, e1, e2, e3]) rfl ⟨?_, HBZ.out⟩
          have hS : Sp.isS s[p] = true := by simp only [Sp.isS, Bool.or_eq_true, decide_eq_true_eq]; simp only [beq_iff_eq, beq_eq_false_iff_ne, ne_eq] at *; omega
          rw [HK.out.2.2.1 HLD.out.1 HLD.out.2 hS, ext_rst, HC.out, show p + 1 - p = 1 by omega]; rfl
        · have hz := set4 G1.out (.string (⟨#[]⟩ : ByteArray)) (.int .i64 p) (.int .i64 5) (.int .i64 0)
          have hbz : Below w.heap.size w ((((V.setCell ⟨w.heap.size, 0, none⟩ (.string (⟨#[]⟩ : ByteArray))).setCell ⟨w.heap.size, 1, none⟩ (.int .i64 p)).setCell ⟨w.heap.size, 2, none⟩ (.int .i64 5)).setCell ⟨w.heap.size, 3, none⟩ (.int .i64 0)) := (((B0.out.setCell (Nat.le_refl _) _).setCell (Nat.le_refl _) _).setCell (Nat.le_refl _) _).setCell (Nat.le_refl _) _
          generalize (((V.setCell ⟨w.heap.size, 0, none⟩ (.string (⟨#[]⟩ : ByteArray))).setCell ⟨w.heap.size, 1, none⟩ (.int .i64 p)).setCell ⟨w.heap.size, 2, none⟩ (.int .i64 5)).setCell ⟨w.heap.size, 3, none⟩ (.int .i64 0) = Z at hz hbz ⊢
          have e0 := blk_c hz 0; have e1 := blk_c hz 1; have e2 := blk_c hz 2; have e3 := blk_c hz 3
          have HBZ := Lib.hid hbz
          clear hz hbz
          refine bodyPost_ret (v := .agg #[.string (⟨#[]⟩ : ByteArray), .int .i64 p, .int .i64 5, .int .i64 0]) (by simp [results, Tryd.results46, go_sem, e0, e1, e2, e3]) rfl ⟨?_, HBZ.out⟩
          have hS : Sp.isS s[p] = false := by simp only [Sp.isS, Bool.or_eq_false_iff, decide_eq_false_iff_not]; simp only [beq_iff_eq, beq_eq_false_iff_ne, ne_eq] at *; omega
          rw [HK.out.2.2.2 HLD.out.1 HLD.out.2 hS]; rfl
      · have HT := Lib.hid (HK.out.2.1 hL hD)
        obtain ⟨N, hN⟩ : ∃ N, N = ((rst s p).takeWhile Sp.isD).length := ⟨_, rfl⟩
        rw [← hN] at HT
        have HTK := Lib.hid (Sp.takeWhile_take Sp.isD (rst s p))
        have HN := Lib.hid hN
        have HDD := Lib.hid hD
        have HALL : Hid (∀ c ∈ (rst s p).takeWhile Sp.isD, Sp.isD c = true) := Lib.hid fun c hc => rtw_all Sp.isD _ c hc
        clear hN
        go_wp2_with (first | (go_at_call 53; refine (refLetter_any _ _).mono ?_; rintro e w' ⟨rfl, rfl⟩) | (go_at_call 54; refine (refDigit_any _ _).mono ?_; rintro e w' ⟨rfl, rfl⟩))
        go_loopg [5, 7] (s.size - p) (fun k v5 v7 wr => ∃ m : Nat, k = s.size - m ∧ p ≤ m ∧ m ≤ s.size ∧ v5 = .int .i64 (m : Nat) ∧ N = (m - p) + (((rst s p).drop (m - p)).takeWhile Sp.isD).length ∧ v7 = .int .i64 (Sp.valD ((rst s p).take (min (m - p) 6)) : Nat) ∧ V = wr)
        case atStart => exact ⟨p, rfl, Nat.le_refl _, by omega, rfl, by rw [Nat.sub_self, List.drop_zero, Nat.zero_add]; exact HN.out, by simp [Sp.valD], rfl⟩
        case round =>
          obtain ⟨m, hk, hpm, hms, rfl, hNm, rfl, rfl⟩ := hrel
          have H1 := Lib.hid hk; have H2 := Lib.hid hNm
          have hNn : m - p ≤ N := by omega
          have hvl : Sp.valD ((rst s p).take (min (m - p) 6)) < 10 ^ 6 := by
            refine Nat.lt_of_lt_of_le (Sp.valD_lt _ _ rfl (fun c hc => HALL.out c ?_)) (Nat.pow_le_pow_right (by decide) ?_)
            · rw [HTK.out, ← HN.out]
              exact List.mem_of_mem_take (i := min (m - p) 6) (by rw [List.take_take, Nat.min_eq_left (by omega)]; exact hc)
            · rw [List.length_take]; omega
          clear hk hNm
          by_cases hlm : m < s.size
          · have hln : m - p < (rst s p).length := by rw [rst_len]; omega
            have HG := Lib.hid (getl hpm hlm hln)
            rcases hDm : Sp.isD s[m] with _ | _
            · have hNe : N = m - p := cnt_stop H2.out (fun _ => by rw [HG.out]; exact hDm)
              have HDM := Lib.hid hDm
              obtain ⟨nv, hnv⟩ : ∃ nv, nv = Sp.valD ((rst s p).take (min (m - p) 6)) := ⟨_, rfl⟩
              rw [← hnv] at hvl ⊢
              have HNV := Lib.hid hnv
              clear hnv
              by_cases h5 : m - p > 5
              · have h5b : decide ((m : Int) - (p : Int) > 5) = true := by rw [decide_eq_true_iff]; omega
                have h5c : decide (5 < (m : Int) - (p : Int)) = true := by rw [decide_eq_true_iff]; omega
                go_wp2_with (first | (go_at_call 53; refine (refLetter_any _ _).mono ?_; rintro e w' ⟨rfl, rfl⟩) | (go_at_call 54; refine (refDigit_any _ _).mono ?_; rintro e w' ⟨rfl, rfl⟩))
                have hz := set4 G1.out (.string (⟨#[]⟩ : ByteArray)) (.int .i64 p) (.int .i64 5) (.int .i64 0)
                have hbz : Below w.heap.size w ((((V.setCell ⟨w.heap.size, 0, none⟩ (.string (⟨#[]⟩ : ByteArray))).setCell ⟨w.heap.size, 1, none⟩ (.int .i64 p)).setCell ⟨w.heap.size, 2, none⟩ (.int .i64 5)).setCell ⟨w.heap.size, 3, none⟩ (.int .i64 0)) := (((B0.out.setCell (Nat.le_refl _) _).setCell (Nat.le_refl _) _).setCell (Nat.le_refl _) _).setCell (Nat.le_refl _) _
                generalize (((V.setCell ⟨w.heap.size, 0, none⟩ (.string (⟨#[]⟩ : ByteArray))).setCell ⟨w.heap.size, 1, none⟩ (.int .i64 p)).setCell ⟨w.heap.size, 2, none⟩ (.int .i64 5)).setCell ⟨w.heap.size, 3, none⟩ (.int .i64 0) = Z at hz hbz ⊢
                have e0 := blk_c hz 0; have e1 := blk_c hz 1; have e2 := blk_c hz 2; have e3 := blk_c hz 3
                have HBZ := Lib.hid hbz
                clear hz hbz
                refine bodyPost_ret (v := .agg #[.string (⟨#[]⟩ : ByteArray), .int .i64 p, .int .i64 5, .int .i64 0]) (by simp [results, Tryd.results46, go_sem, e0, e1, e2, e3]) rfl ⟨?_, HBZ.out⟩
                rw [HT.out, if_pos (by omega)]; rfl
              · have h5b : decide ((m : Int) - (p : Int) > 5) = false := by rw [decide_eq_false_iff_not]; omega
                have h5c : decide (5 < (m : Int) - (p : Int)) = false := by rw [decide_eq_false_iff_not]; omega
                by_cases h48 : s[p].toNat = 48
                · have h48b : ((s[p].toNat : Int) == 48) = true := by rw [beq_iff_eq]; omega
                  by_cases h1 : m - p > 1
                  · have h1b : decide ((m : Int) - (p : Int) > 1) = true := by rw [decide_eq_true_iff]; omega
                    have h1c : decide (1 < (m : Int) - (p : Int)) = true := by rw [decide_eq_true_iff]; omega
                    go_wp2_with (first | (go_at_call 53; refine (refLetter_any _ _).mono ?_; rintro e w' ⟨rfl, rfl⟩) | (go_at_call 54; refine (refDigit_any _ _).mono ?_; rintro e w' ⟨rfl, rfl⟩))
                    have hz := set4 G1.out (.string (⟨#[]⟩ : ByteArray)) (.int .i64 p) (.int .i64 5) (.int .i64 0)
                    have hbz : Below w.heap.size w ((((V.setCell ⟨w.heap.size, 0, none⟩ (.string (⟨#[]⟩ : ByteArray))).setCell ⟨w.heap.size, 1, none⟩ (.int .i64 p)).setCell ⟨w.heap.size, 2, none⟩ (.int .i64 5)).setCell ⟨w.heap.size, 3, none⟩ (.int .i64 0)) := (((B0.out.setCell (Nat.le_refl _) _).setCell (Nat.le_refl _) _).setCell (Nat.le_refl _) _).setCell (Nat.le_refl _) _
                    generalize (((V.setCell ⟨w.heap.size, 0, none⟩ (.string (⟨#[]⟩ : ByteArray))).setCell ⟨w.heap.size, 1, none⟩ (.int .i64 p)).setCell ⟨w.heap.size, 2, none⟩ (.int .i64 5)).setCell ⟨w.heap.size, 3, none⟩ (.int .i64 0) = Z at hz hbz ⊢
                    have e0 := blk_c hz 0; have e1 := blk_c hz 1; have e2 := blk_c hz 2; have e3 := blk_c hz 3
                    have HBZ := Lib.hid hbz
                    clear hz hbz
                    refine bodyPost_ret (v := .agg #[.string (⟨#[]⟩ : ByteArray), .int .i64 p, .int .i64 5, .int .i64 0]) (by simp [results, Tryd.results46, go_sem, e0, e1, e2, e3]) rfl ⟨?_, HBZ.out⟩
                    rw [HT.out, if_pos (by omega)]; rfl
                  · have h1b : decide ((m : Int) - (p : Int) > 1) = false := by rw [decide_eq_false_iff_not]; omega
                    have h1c : decide (1 < (m : Int) - (p : Int)) = false := by rw [decide_eq_false_iff_not]; omega
                    go_wp2_with (first | (go_at_call 53; refine (refLetter_any _ _).mono ?_; rintro e w' ⟨rfl, rfl⟩) | (go_at_call 54; refine (refDigit_any _ _).mono ?_; rintro e w' ⟨rfl, rfl⟩))
                    have hz := set4 G1.out (.string (s.extract p m)) (.int .i64 p) (.int .i64 2) (.int .i64 nv)
                    have hbz : Below w.heap.size w ((((V.setCell ⟨w.heap.size, 0, none⟩ (.string (s.extract p m))).setCell ⟨w.heap.size, 1, none⟩ (.int .i64 p)).setCell ⟨w.heap.size, 2, none⟩ (.int .i64 2)).setCell ⟨w.heap.size, 3, none⟩ (.int .i64 nv)) := (((B0.out.setCell (Nat.le_refl _) _).setCell (Nat.le_refl _) _).setCell (Nat.le_refl _) _).setCell (Nat.le_refl _) _
                    generalize (((V.setCell ⟨w.heap.size, 0, none⟩ (.string (s.extract p m))).setCell ⟨w.heap.size, 1, none⟩ (.int .i64 p)).setCell ⟨w.heap.size, 2, none⟩ (.int .i64 2)).setCell ⟨w.heap.size, 3, none⟩ (.int .i64 nv) = Z at hz hbz ⊢
                    have e0 := blk_c hz 0; have e1 := blk_c hz 1; have e2 := blk_c hz 2; have e3 := blk_c hz 3
                    have HBZ := Lib.hid hbz
                    clear hz hbz
                    refine bodyPost_ret (v := .agg #[.string (s.extract p m), .int .i64 p, .int .i64 2, .int .i64 nv]) (by simp [results, Tryd.results46, go_sem, e0, e1, e2, e3]) rfl ⟨?_, HBZ.out⟩
                    rw [HT.out, if_neg (by omega), HTK.out, ← HN.out, ext_rst, hNe]
                    rw [show min (m - p) 6 = m - p by omega] at HNV
                    rw [HNV.out]
                    rfl
                · have h48b : ((s[p].toNat : Int) == 48) = false := by rw [beq_eq_false_iff_ne]; omega
                  go_wp2_with (first | (go_at_call 53; refine (refLetter_any _ _).mono ?_; rintro e w' ⟨rfl, rfl⟩) | (go_at_call 54; refine (refDigit_any _ _).mono ?_; rintro e w' ⟨rfl, rfl⟩))
                  have hz := set4 G1.out (.string (s.extract p m)) (.int .i64 p) (.int .i64 2) (.int .i64 nv)
                  have hbz : Below w.heap.size w ((((V.setCell ⟨w.heap.size, 0, none⟩ (.string (s.extract p m))).setCell ⟨w.heap.size, 1, none⟩ (.int .i64 p)).setCell ⟨w.heap.size, 2, none⟩ (.int .i64 2)).setCell ⟨w.heap.size, 3, none⟩ (.int .i64 nv)) := (((B0.out.setCell (Nat.le_refl _) _).setCell (Nat.le_refl _) _).setCell (Nat.le_refl _) _).setCell (Nat.le_refl _) _
                  generalize (((V.setCell ⟨w.heap.size, 0, none⟩ (.string (s.extract p m))).setCell ⟨w.heap.size, 1, none⟩ (.int .i64 p)).setCell ⟨w.heap.size, 2, none⟩ (.int .i64 2)).setCell ⟨w.heap.size, 3, none⟩ (.int .i64 nv) = Z at hz hbz ⊢
                  have e0 := blk_c hz 0; have e1 := blk_c hz 1; have e2 := blk_c hz 2; have e3 := blk_c hz 3
                  have HBZ := Lib.hid hbz
                  clear hz hbz
                  refine bodyPost_ret (v := .agg #[.string (s.extract p m), .int .i64 p, .int .i64 2, .int .i64 nv]) (by simp [results, Tryd.results46, go_sem, e0, e1, e2, e3]) rfl ⟨?_, HBZ.out⟩
                  rw [HT.out, if_neg (by omega), HTK.out, ← HN.out, ext_rst, hNe]
                  rw [show min (m - p) 6 = m - p by omega] at HNV
                  rw [HNV.out]
                  rfl
            · have hstep := cnt_step H2.out hln (by rw [HG.out]; exact hDm)
              have HST := Lib.hid hstep
              have hd48 : 48 ≤ s[m].toNat ∧ s[m].toNat ≤ 57 := by simpa [Sp.isD] using hDm
              obtain ⟨nv, hnv⟩ : ∃ nv, nv = Sp.valD ((rst s p).take (min (m - p) 6)) := ⟨_, rfl⟩
              rw [← hnv] at hvl ⊢
              have HNV := Lib.hid hnv
              clear hstep hnv
              by_cases h6 : m - p < 6
              · have h6b : decide ((m : Int) - (p : Int) < 6) = true := by rw [decide_eq_true_iff]; omega
                have hs9 : ((s[m].toNat : Nat) : Int) ≤ 57 := by omega
                go_wp2_with (first | (go_at_call 53; refine (refLetter_any _ _).mono ?_; rintro e w' ⟨rfl, rfl⟩) | (go_at_call 54; refine (refDigit_any _ _).mono ?_; rintro e w' ⟨rfl, rfl⟩))
                go_roundg (s.size - (m + 1))
                case measure => rw [H1.out]; omega
                case rel =>
                  refine ⟨m + 1, rfl, by omega, by omega, by go_num, by rw [show m + 1 - p = m - p + 1 by omega]; exact HST.out, ?_, rfl⟩
                  rw [show min (m + 1 - p) 6 = (m - p) + 1 by omega, List.take_succ_eq_append_getElem hln, HG.out, Sp.valD_snoc, ← (show min (m - p) 6 = m - p by omega), ← HNV.out]
                  congr 1
                  omega
              · have h6b : decide ((m : Int) - (p : Int) < 6) = false := by rw [decide_eq_false_iff_not]; omega
                go_wp2_with (first | (go_at_call 53; refine (refLetter_any _ _).mono ?_; rintro e w' ⟨rfl, rfl⟩) | (go_at_call 54; refine (refDigit_any _ _).mono ?_; rintro e w' ⟨rfl, rfl⟩))
                go_roundg (s.size - (m + 1))
                case measure => rw [H1.out]; omega
                case rel =>
                  refine ⟨m + 1, rfl, by omega, by omega, by go_num, by rw [show m + 1 - p = m - p + 1 by omega]; exact HST.out, ?_, rfl⟩
                  rw [show min (m + 1 - p) 6 = min (m - p) 6 by omega, ← HNV.out]
          · have hNe : N = m - p := by
              have := H2.out
              rw [List.drop_eq_nil_of_le (by rw [rst_len]; omega)] at this
              simpa using this
            obtain ⟨nv, hnv⟩ : ∃ nv, nv = Sp.valD ((rst s p).take (min (m - p) 6)) := ⟨_, rfl⟩
            rw [← hnv] at hvl ⊢
            have HNV := Lib.hid hnv
            clear hnv
            by_cases h5 : m - p > 5
            · have h5b : decide ((m : Int) - (p : Int) > 5) = true := by rw [decide_eq_true_iff]; omega
              have h5c : decide (5 < (m : Int) - (p : Int)) = true := by rw [decide_eq_true_iff]; omega
              go_wp2_with (first | (go_at_call 53; refine (refLetter_any _ _).mono ?_; rintro e w' ⟨rfl, rfl⟩) | (go_at_call 54; refine (refDigit_any _ _).mono ?_; rintro e w' ⟨rfl, rfl⟩))
              have hz := set4 G1.out (.string (⟨#[]⟩ : ByteArray)) (.int .i64 p) (.int .i64 5) (.int .i64 0)
              have hbz : Below w.heap.size w ((((V.setCell ⟨w.heap.size, 0, none⟩ (.string (⟨#[]⟩ : ByteArray))).setCell ⟨w.heap.size, 1, none⟩ (.int .i64 p)).setCell ⟨w.heap.size, 2, none⟩ (.int .i64 5)).setCell ⟨w.heap.size, 3, none⟩ (.int .i64 0)) := (((B0.out.setCell (Nat.le_refl _) _).setCell (Nat.le_refl _) _).setCell (Nat.le_refl _) _).setCell (Nat.le_refl _) _
              generalize (((V.setCell ⟨w.heap.size, 0, none⟩ (.string (⟨#[]⟩ : ByteArray))).setCell ⟨w.heap.size, 1, none⟩ (.int .i64 p)).setCell ⟨w.heap.size, 2, none⟩ (.int .i64 5)).setCell ⟨w.heap.size, 3, none⟩ (.int .i64 0) = Z at hz hbz ⊢
              have e0 := blk_c hz 0; have e1 := blk_c hz 1; have e2 := blk_c hz 2; have e3 := blk_c hz 3
              have HBZ := Lib.hid hbz
              clear hz hbz
              refine bodyPost_ret (v := .agg #[.string (⟨#[]⟩ : ByteArray), .int .i64 p, .int .i64 5, .int .i64 0]) (by simp [results, Tryd.results46, go_sem, e0, e1, e2, e3]) rfl ⟨?_, HBZ.out⟩
              rw [HT.out, if_pos (by omega)]; rfl
            · have h5b : decide ((m : Int) - (p : Int) > 5) = false := by rw [decide_eq_false_iff_not]; omega
              have h5c : decide (5 < (m : Int) - (p : Int)) = false := by rw [decide_eq_false_iff_not]; omega
              by_cases h48 : s[p].toNat = 48
              · have h48b : ((s[p].toNat : Int) == 48) = true := by rw [beq_iff_eq]; omega
                by_cases h1 : m - p > 1
                · have h1b : decide ((m : Int) - (p : Int) > 1) = true := by rw [decide_eq_true_iff]; omega
                  have h1c : decide (1 < (m : Int) - (p : Int)) = true := by rw [decide_eq_true_iff]; omega
                  go_wp2_with (first | (go_at_call 53; refine (refLetter_any _ _).mono ?_; rintro e w' ⟨rfl, rfl⟩) | (go_at_call 54; refine (refDigit_any _ _).mono ?_; rintro e w' ⟨rfl, rfl⟩))
                  have hz := set4 G1.out (.string (⟨#[]⟩ : ByteArray)) (.int .i64 p) (.int .i64 5) (.int .i64 0)
                  have hbz : Below w.heap.size w ((((V.setCell ⟨w.heap.size, 0, none⟩ (.string (⟨#[]⟩ : ByteArray))).setCell ⟨w.heap.size, 1, none⟩ (.int .i64 p)).setCell ⟨w.heap.size, 2, none⟩ (.int .i64 5)).setCell ⟨w.heap.size, 3, none⟩ (.int .i64 0)) := (((B0.out.setCell (Nat.le_refl _) _).setCell (Nat.le_refl _) _).setCell (Nat.le_refl _) _).setCell (Nat.le_refl _) _
                  generalize (((V.setCell ⟨w.heap.size, 0, none⟩ (.string (⟨#[]⟩ : ByteArray))).setCell ⟨w.heap.size, 1, none⟩ (.int .i64 p)).setCell ⟨w.heap.size, 2, none⟩ (.int .i64 5)).setCell ⟨w.heap.size, 3, none⟩ (.int .i64 0) = Z at hz hbz ⊢
                  have e0 := blk_c hz 0; have e1 := blk_c hz 1; have e2 := blk_c hz 2; have e3 := blk_c hz 3
                  have HBZ := Lib.hid hbz
                  clear hz hbz
                  refine bodyPost_ret (v := .agg #[.string (⟨#[]⟩ : ByteArray), .int .i64 p, .int .i64 5, .int .i64 0]) (by simp [results, Tryd.results46, go_sem, e0, e1, e2, e3]) rfl ⟨?_, HBZ.out⟩
                  rw [HT.out, if_pos (by omega)]; rfl
                · have h1b : decide ((m : Int) - (p : Int) > 1) = false := by rw [decide_eq_false_iff_not]; omega
                  have h1c : decide (1 < (m : Int) - (p : Int)) = false := by rw [decide_eq_false_iff_not]; omega
                  go_wp2_with (first | (go_at_call 53; refine (refLetter_any _ _).mono ?_; rintro e w' ⟨rfl, rfl⟩) | (go_at_call 54; refine (refDigit_any _ _).mono ?_; rintro e w' ⟨rfl, rfl⟩))
                  have hz := set4 G1.out (.string (s.extract p m)) (.int .i64 p) (.int .i64 2) (.int .i64 nv)
                  have hbz : Below w.heap.size w ((((V.setCell ⟨w.heap.size, 0, none⟩ (.string (s.extract p m))).setCell ⟨w.heap.size, 1, none⟩ (.int .i64 p)).setCell ⟨w.heap.size, 2, none⟩ (.int .i64 2)).setCell ⟨w.heap.size, 3, none⟩ (.int .i64 nv)) := (((B0.out.setCell (Nat.le_refl _) _).setCell (Nat.le_refl _) _).setCell (Nat.le_refl _) _).setCell (Nat.le_refl _) _
                  generalize (((V.setCell ⟨w.heap.size, 0, none⟩ (.string (s.extract p m))).setCell ⟨w.heap.size, 1, none⟩ (.int .i64 p)).setCell ⟨w.heap.size, 2, none⟩ (.int .i64 2)).setCell ⟨w.heap.size, 3, none⟩ (.int .i64 nv) = Z at hz hbz ⊢
                  have e0 := blk_c hz 0; have e1 := blk_c hz 1; have e2 := blk_c hz 2; have e3 := blk_c hz 3
                  have HBZ := Lib.hid hbz
                  clear hz hbz
                  refine bodyPost_ret (v := .agg #[.string (s.extract p m), .int .i64 p, .int .i64 2, .int .i64 nv]) (by simp [results, Tryd.results46, go_sem, e0, e1, e2, e3]) rfl ⟨?_, HBZ.out⟩
                  rw [HT.out, if_neg (by omega), HTK.out, ← HN.out, ext_rst, hNe]
                  rw [show min (m - p) 6 = m - p by omega] at HNV
                  rw [HNV.out]
                  rfl
              · have h48b : ((s[p].toNat : Int) == 48) = false := by rw [beq_eq_false_iff_ne]; omega
                go_wp2_with (first | (go_at_call 53; refine (refLetter_any _ _).mono ?_; rintro e w' ⟨rfl, rfl⟩) | (go_at_call 54; refine (refDigit_any _ _).mono ?_; rintro e w' ⟨rfl, rfl⟩))
                have hz := set4 G1.out (.string (s.extract p m)) (.int .i64 p) (.int .i64 2) (.int .i64 nv)
                have hbz : Below w.heap.size w ((((V.setCell ⟨w.heap.size, 0, none⟩ (.string (s.extract p m))).setCell ⟨w.heap.size, 1, none⟩ (.int .i64 p)).setCell ⟨w.heap.size, 2, none⟩ (.int .i64 2)).setCell ⟨w.heap.size, 3, none⟩ (.int .i64 nv)) := (((B0.out.setCell (Nat.le_refl _) _).setCell (Nat.le_refl _) _).setCell (Nat.le_refl _) _).setCell (Nat.le_refl _) _
                generalize (((V.setCell ⟨w.heap.size, 0, none⟩ (.string (s.extract p m))).setCell ⟨w.heap.size, 1, none⟩ (.int .i64 p)).setCell ⟨w.heap.size, 2, none⟩ (.int .i64 2)).setCell ⟨w.heap.size, 3, none⟩ (.int .i64 nv) = Z at hz hbz ⊢
                have e0 := blk_c hz 0; have e1 := blk_c hz 1; have e2 := blk_c hz 2; have e3 := blk_c hz 3
                have HBZ := Lib.hid hbz
                clear hz hbz
                refine bodyPost_ret (v := .agg #[.string (s.extract p m), .int .i64 p, .int .i64 2, .int .i64 nv]) (by simp [results, Tryd.results46, go_sem, e0, e1, e2, e3]) rfl ⟨?_, HBZ.out⟩
                rw [HT.out, if_neg (by omega), HTK.out, ← HN.out, ext_rst, hNe]
                rw [show min (m - p) 6 = m - p by omega] at HNV
                rw [HNV.out]
                rfl
    · have HT := Lib.hid (HK.out.1 hL)
      obtain ⟨N, hN⟩ : ∃ N, N = ((rst s p).takeWhile (fun x => Sp.isL x || Sp.isD x)).length := ⟨_, rfl⟩
      have HTK := Lib.hid (Sp.takeWhile_take (fun x => Sp.isL x || Sp.isD x) (rst s p))
      have HN := Lib.hid hN
      clear hN
      go_wp2_with (first | (go_at_call 53; refine (refLetter_any _ _).mono ?_; rintro e w' ⟨rfl, rfl⟩) | (go_at_call 54; refine (refDigit_any _ _).mono ?_; rintro e w' ⟨rfl, rfl⟩))
      go_loopg [5] (s.size - p) (fun k v5 wr => ∃ m : Nat, k = s.size - m ∧ p ≤ m ∧ m ≤ s.size ∧ v5 = .int .i64 (m : Nat) ∧ N = (m - p) + (((rst s p).drop (m - p)).takeWhile (fun x => Sp.isL x || Sp.isD x)).length ∧ V = wr)
      case atStart => exact ⟨p, rfl, Nat.le_refl _, by omega, rfl, by rw [Nat.sub_self, List.drop_zero, Nat.zero_add]; exact HN.out, rfl⟩
      case round =>
        obtain ⟨m, hk, hpm, hms, rfl, hNm, rfl⟩ := hrel
        have H1 := Lib.hid hk; have H2 := Lib.hid hNm
        clear hk hNm
        by_cases hlm : m < s.size
        · have hln : m - p < (rst s p).length := by rw [rst_len]; omega
          have HG := Lib.hid (getl hpm hlm hln)
          rcases hLm : Sp.isL s[m] with _ | _
          · rcases hDm : Sp.isD s[m] with _ | _
            · have hNe : N = m - p := cnt_stop H2.out (fun _ => by rw [HG.out]; simp [hLm, hDm])
              go_wp2_with (first | (go_at_call 53; refine (refLetter_any _ _).mono ?_; rintro e w' ⟨rfl, rfl⟩) | (go_at_call 54; refine (refDigit_any _ _).mono ?_; rintro e w' ⟨rfl, rfl⟩))
              have hz := set4 G1.out (.string (s.extract p m)) (.int .i64 p) (.int .i64 1) (.int .i64 0)
              have hbz : Below w.heap.size w ((((V.setCell ⟨w.heap.size, 0, none⟩ (.string (s.extract p m))).setCell ⟨w.heap.size, 1, none⟩ (.int .i64 p)).setCell ⟨w.heap.size, 2, none⟩ (.int .i64 1)).setCell ⟨w.heap.size, 3, none⟩ (.int .i64 0)) := (((B0.out.setCell (Nat.le_refl _) _).setCell (Nat.le_refl _) _).setCell (Nat.le_refl _) _).setCell (Nat.le_refl _) _
              generalize (((V.setCell ⟨w.heap.size, 0, none⟩ (.string (s.extract p m))).setCell ⟨w.heap.size, 1, none⟩ (.int .i64 p)).setCell ⟨w.heap.size, 2, none⟩ (.int .i64 1)).setCell ⟨w.heap.size, 3, none⟩ (.int .i64 0) = Z at hz hbz ⊢
              have e0 := blk_c hz 0; have e1 := blk_c hz 1; have e2 := blk_c hz 2; have e3 := blk_c hz 3
              have HBZ := Lib.hid hbz
              clear hz hbz
              refine bodyPost_ret (v := .agg #[.string (s.extract p m), .int .i64 p, .int .i64 1, .int .i64 0]) (by simp [results, Tryd.results46, go_sem, e0, e1, e2, e3]) rfl ⟨?_, HBZ.out⟩
              rw [HT.out, HTK.out, ← HN.out, ext_rst, hNe]; rfl
            · have HST := Lib.hid (cnt_step H2.out hln (by rw [HG.out]; simp [hDm]))
              go_wp2_with (first | (go_at_call 53; refine (refLetter_any _ _).mono ?_; rintro e w' ⟨rfl, rfl⟩) | (go_at_call 54; refine (refDigit_any _ _).mono ?_; rintro e w' ⟨rfl, rfl⟩))
              go_roundg (s.size - (m + 1))
              case measure => rw [H1.out]; omega
              case rel => exact ⟨m + 1, rfl, by omega, by omega, by go_num, by rw [show m + 1 - p = m - p + 1 by omega]; exact HST.out, rfl⟩
          · have HST := Lib.hid (cnt_step H2.out hln (by rw [HG.out]; simp [hLm]))
            go_wp2_with (first | (go_at_call 53; refine (refLetter_any _ _).mono ?_; rintro e w' ⟨rfl, rfl⟩) | (go_at_call 54; refine (refDigit_any _ _).mono ?_; rintro e w' ⟨rfl, rfl⟩))
            go_roundg (s.size - (m + 1))
            case measure => rw [H1.out]; omega
            case rel => exact ⟨m + 1, rfl, by omega, by omega, by go_num, by rw [show m + 1 - p = m - p + 1 by omega]; exact HST.out, rfl⟩
        · have hNe : N = m - p := by
            have := H2.out
            rw [List.drop_eq_nil_of_le (by rw [rst_len]; omega)] at this
            simpa using this
          go_wp2_with (first | (go_at_call 53; refine (refLetter_any _ _).mono ?_; rintro e w' ⟨rfl, rfl⟩) | (go_at_call 54; refine (refDigit_any _ _).mono ?_; rintro e w' ⟨rfl, rfl⟩))
          have hz := set4 G1.out (.string (s.extract p m)) (.int .i64 p) (.int .i64 1) (.int .i64 0)
          have hbz : Below w.heap.size w ((((V.setCell ⟨w.heap.size, 0, none⟩ (.string (s.extract p m))).setCell ⟨w.heap.size, 1, none⟩ (.int .i64 p)).setCell ⟨w.heap.size, 2, none⟩ (.int .i64 1)).setCell ⟨w.heap.size, 3, none⟩ (.int .i64 0)) := (((B0.out.setCell (Nat.le_refl _) _).setCell (Nat.le_refl _) _).setCell (Nat.le_refl _) _).setCell (Nat.le_refl _) _
          generalize (((V.setCell ⟨w.heap.size, 0, none⟩ (.string (s.extract p m))).setCell ⟨w.heap.size, 1, none⟩ (.int .i64 p)).setCell ⟨w.heap.size, 2, none⟩ (.int .i64 1)).setCell ⟨w.heap.size, 3, none⟩ (.int .i64 0) = Z at hz hbz ⊢
          have e0 := blk_c hz 0; have e1 := blk_c hz 1; have e2 := blk_c hz 2; have e3 := blk_c hz 3
          have HBZ := Lib.hid hbz
          clear hz hbz
          refine bodyPost_ret (v := .agg #[.string (s.extract p m), .int .i64 p, .int .i64 1, .int .i64 0]) (by simp [results, Tryd.results46, go_sem, e0, e1, e2, e3]) rfl ⟨?_, HBZ.out⟩
          rw [HT.out, HTK.out, ← HN.out, ext_rst, hNe]; rfl
end Go.Proofs.YtppeplonnippcaaDoor

namespace Go.Proofs.YtppeplonnippcaaDoor
open Go.RowKit

def rcells (l : List Sp.Tok) : List Value := (l.map rtokC).flatten
theorem rcells_snoc (l : List Sp.Tok) (t : Sp.Tok) : rcells (l ++ [t]) = rcells l ++ rtokC t := by simp [rcells]
/-- tokens in memory, as the reference holds them -/
def RToksV (base : Nat) (l : List Sp.Tok) (w : World) (v : Value) : Prop := w.ownsRow base 46 4 v l.length (rcells l)
theorem info46 : (Tryd.prog.info? 46).map (fun i => (i.zero, i.size, i.bytes)) = some (some (.agg #[.string ⟨#[]⟩, .int .i64 0, .int .i64 0, .int .i64 0]), 4, 40) := by kernel_rfl
theorem toks_stop {p : Nat} {l : List UInt8} (h : 3 < (Sp.hd (Sp.toks p l)).kind) : Sp.toks p l = [Sp.hd (Sp.toks p l)] := by
  rw [Sp.toks_hd] at h ⊢
  rw [Sp.toks, dif_pos h]
theorem toks_go {p : Nat} {l : List UInt8} (h : (Sp.hd (Sp.toks p l)).kind ≤ 3) : Sp.toks p l = Sp.hd (Sp.toks p l) :: Sp.toks ((Sp.hd (Sp.toks p l)).at_ + (Sp.hd (Sp.toks p l)).txt.length) (l.drop (Sp.skpN false l + (Sp.hd (Sp.toks p l)).txt.length)) := by
  have h1 := Sp.toks_tail p l h
  rw [Sp.toks_at, ← h1]
  have := Sp.toks_ne p l
  cases hh : Sp.toks p l with
  | nil => exact absurd hh this
  | cons a b => rfl

set_option maxRecDepth 100000 in
set_option maxHeartbeats 2000000 in
theorem refTokens_any (s : ByteArray) (w : World) (hs : s.size ≤ 2000) :
    Calls Tryd.prog 23 #[.string s] w fun e w' => (∃ v, e = .returned v ∧ RToksV w.heap.size (Sp.toks 0 s.data.toList) w' v) ∧ Below w.heap.size w w' := by
  have CN := Lib.hid fun i hi W => refNext_any i s W (by omega) hi
  obtain ⟨T, hT⟩ : ∃ T, T = Sp.toks 0 s.data.toList := ⟨_, rfl⟩
  rw [← hT]
  have HT := Lib.hid hT
  clear hT
  obtain ⟨i0, hi, hz0, hz1, hz2⟩ := info_parts info46
  go_enter Tryd.func23, Tryd.ntmps23
  go_wp2_with fail
  go_loopg [3, 4, 5] (s.size - 0) (fun k v3 v4 v5 wr => ∃ (l : List Sp.Tok) (i : Nat), k = s.size - i ∧ i ≤ s.size ∧ l.length ≤ i ∧ v4 = .int .i64 (i : Nat) ∧ T = l ++ Sp.toks i (rst s i) ∧ RToksV w.heap.size l wr v3 ∧ Below w.heap.size w wr)
  case atStart => exact ⟨[], 0, rfl, Nat.zero_le _, Nat.le_refl _, rfl, HT.out, World.ownsRow_nil _ _ _ _, Below.refl _ _⟩
  case round =>
    obtain ⟨l, i, hk, his, hli, rfl, hTl, hown, hb⟩ := hrel
    obtain ⟨A, q, rfl⟩ := own_slice hown
    have hwr := hb.size
    have H1 := Lib.hid hk; have H2 := Lib.hid hTl; have H3 := Lib.hid hown; have H4 := Lib.hid hb
    have CN1 := CN.out i his wr
    obtain ⟨t, ht⟩ : ∃ t, t = Sp.hd (Sp.toks i (rst s i)) := ⟨_, rfl⟩
    rw [← ht] at CN1
    unfold rtokV at CN1
    have HTT := Lib.hid ht
    have htx : (bs t.txt).size = t.txt.length := by rw [bs_size]
    have hat : t.at_ = i + Sp.skpN false (rst s i) := by rw [ht, Sp.toks_at]
    have hle1 : t.at_ + t.txt.length ≤ s.size := by
      have h1 := Sp.skpN_le false (rst s i)
      have h2 := Sp.tokAt_le (i + Sp.skpN false (rst s i)) ((rst s i).drop (Sp.skpN false (rst s i)))
      rw [← Sp.toks_hd, ← ht, List.length_drop] at h2
      rw [rst_len] at h1 h2
      omega
    have hpos : t.kind ≤ 3 → 0 < t.txt.length := by
      intro h
      rw [ht, Sp.toks_hd] at h ⊢
      exact Sp.tokAt_pos _ _ h
    have HPOS := Lib.hid hpos; have HAT := Lib.hid hat
    clear hk hTl hown hb ht hpos hat
    go_upto_region 4 with (go_at_call 46; refine CN1.mono ?_; rintro e w2 ⟨rfl, hb2⟩; have H5 := Lib.hid hb2; clear hb2 CN1)
    have g1 : (w2.alloc (.cells #[.string (bs t.txt), .int .i64 t.at_, .int .i64 t.kind, .int .i64 t.n] 46)).heap[w2.heap.size]? = some (.cells #[.string (bs t.txt), .int .i64 t.at_, .int .i64 t.kind, .int .i64 t.n] 46 (0, 0)) := heap_alloc_new w2 _
    have hb0 : Below wr.heap.size wr (w2.alloc (.cells #[.string (bs t.txt), .int .i64 t.at_, .int .i64 t.kind, .int .i64 t.n] 46)) := H5.out.alloc H5.out.size _
    have hsb : wr.heap.size ≤ w2.heap.size := H5.out.size
    generalize w2.alloc (.cells #[.string (bs t.txt), .int .i64 t.at_, .int .i64 t.kind, .int .i64 t.n] 46) = V at *
    have B0 := Lib.hid hb0; have G1 := Lib.hid g1
    have hV1 := lt_of_block g1
    generalize w2.heap.size = S at *
    have c0 := blk_c g1 0; have c1 := blk_c g1 1; have c2 := blk_c g1 2; have c3 := blk_c g1 3
    have HV3 := Lib.hid (own_below H3.out hb0)
    clear hb0 g1 H5
    go_upto_region 5 with (at_builtin; refine wpList_append_own_at (V.alloc (.cells (rtokC t).toArray 46)) rfl _ _ 43 rfl w.heap.size 46 i0 _ 4 40 Tryd.underlying43 hi hz0 hz1 hz2 rfl (by decide) _ l.length (rcells l) rfl (HV3.out.alloc _) ⟨V.heap.size, 0, none⟩ 1 1 (rtokC t) rfl rfl ?c1 ?c2 ?c3 ?c4 ?c5 ?_)
    case c1 => exact World.news_of_block (cs := (rtokC t).toArray) (t := 46) (fr := (0, 0)) (heap_alloc_new V _)
    case c2 => intro u hu; simp only [rtokC, List.mem_cons, List.not_mem_nil, or_false] at hu; rcases hu with rfl | rfl | rfl | rfl <;> rfl
    case c3 => unfold maxLen; omega
    case c4 => omega
    case c5 => have h1 := H4.out.size; simp only [World.size_alloc]; omega
    intro v' w4 hown4 hg _ _
    have H6 := Lib.hid (show RToksV w.heap.size (l ++ [t]) w4 v' from by unfold RToksV; rw [rcells_snoc, List.length_append]; exact hown4)
    have hgS := (hg.block S (by rw [World.size_alloc]; omega) (fun e => by have := (H3.out.lt S e.symm).2; omega)).trans (blk_old G1.out _)
    have H7 := Lib.hid (show Below w.heap.size w w4 from ((H4.out.trans (B0.out.mono hwr)).alloc (by have := (H4.out.trans (B0.out.mono hwr)).size; exact this) (.cells (rtokC t).toArray 46)).grown hg (by have := (H4.out.trans (B0.out.mono hwr)).size; rw [World.size_alloc]; omega) (fun k e => (H3.out.lt k e).1))
    have d0 : w4.cell? ⟨S, 0, none⟩ = some (.string (bs t.txt)) := blk_c hgS 0
    have d1 : w4.cell? ⟨S, 1, none⟩ = some (.int .i64 t.at_) := blk_c hgS 1
    have d2 : w4.cell? ⟨S, 2, none⟩ = some (.int .i64 t.kind) := blk_c hgS 2
    clear hown4 hg hgS c0 c1 c2 c3
    by_cases hk3 : t.kind ≤ 3
    · have hb3 : decide ((t.kind : Int) > 3) = false := by rw [decide_eq_false_iff_not]; omega
      have hb3c : decide (3 < (t.kind : Int)) = false := by rw [decide_eq_false_iff_not]; omega
      have hps := HPOS.out hk3
      have HG := Lib.hid (toks_go (p := i) (l := rst s i) (by rw [← HTT.out]; exact hk3))
      have hlt : i < t.at_ + t.txt.length := by have := HAT.out; omega
      go_wp2_with fail
      go_roundg (s.size - (t.at_ + t.txt.length))
      case measure => rw [H1.out]; omega
      case rel =>
        refine ⟨l ++ [t], t.at_ + t.txt.length, rfl, hle1, by rw [List.length_append, List.length_singleton]; omega, by go_num, ?_, H6.out, H7.out⟩
        rw [List.append_assoc, List.singleton_append, H2.out, HG.out, ← HTT.out, rst_drop, ← Nat.add_assoc, ← HAT.out]
    · have hb3 : decide ((t.kind : Int) > 3) = true := by rw [decide_eq_true_iff]; omega
      have hb3c : decide (3 < (t.kind : Int)) = true := by rw [decide_eq_true_iff]; omega
      go_wp2_with fail
      go_ret
      refine ⟨⟨v', rfl, ?_⟩, H7.out⟩
      have : T = l ++ [t] := by rw [H2.out, toks_stop (by rw [← HTT.out]; omega), ← HTT.out]
      rw [this]
      exact H6.out
end Go.Proofs.YtppeplonnippcaaDoor
