/-
The reader of layer 7: skip moves to the next token, whatever the text.
-/
import Derived.Test.YtppeplonnippcaaDoorA0
import Derived.Test.YtppeplonnippcaaDoorShelf
set_option linter.unusedVariables false
set_option linter.unusedSimpArgs false
namespace Go.Proofs.YtppeplonnippcaaDoor
open Go.RowKit

theorem fail_any (r : Nat) (at_ : Nat) (w : World) (h1 : w.cell? ⟨r, 1, none⟩ = some (.int .i64 at_)) :
    Calls Tryd.prog 58 #[.pointer (some ⟨r, 0, none⟩)] w fun e w' => e = .panicked [{ v := .iface 69 (.agg #[.int .i64 at_, .int .i64 3]), recovered := false }] ∧ w = w' := by
  go_enter Tryd.func58, Tryd.ntmps58
  go_wp2
  exact ⟨rfl, rfl, rfl⟩

/-- how far the next newline is -/
theorem idx_nl (l : List UInt8) : (Lib.indexByte l 10 = -1 ∧ l.findIdx (fun c => c.toNat = 10) = l.length) ∨ Lib.indexByte l 10 = (l.findIdx (fun c => c.toNat = 10) : Nat) ∧ l.findIdx (fun c => c.toNat = 10) < l.length := by
  induction l with
  | nil => left; exact ⟨rfl, rfl⟩
  | cons c l ih =>
    unfold Lib.indexByte
    by_cases h : c = 10
    · right; subst h; simp [List.findIdx_cons]
    · have h' : ¬ c.toNat = 10 := fun e => h (by apply UInt8.toNat_inj.1; simpa using e)
      have hb : (c == 10) = false := by simpa using h
      simp only [hb, List.findIdx_cons, h', decide_false, cond_false, List.length_cons, Bool.false_eq_true, if_false]
      rcases ih with ⟨i1, i2⟩ | ⟨i1, i2⟩
      · left; rw [i1, i2]; simp
      · right; rw [i1]
        have : ((((l.findIdx (fun c => decide (c.toNat = 10)) : Nat) : Int) == -1)) = false := by rw [beq_eq_false_iff_ne]; omega
        simp only [this, Bool.false_eq_true, if_false]
        constructor <;> omega

theorem skp_b {s : ByteArray} {j : Nat} {h : j < s.size} (hc : rst s j = s[j] :: rst s (j + 1)) (hb : ((s[j].toNat : Int) == 32) = true ∨ ((s[j].toNat : Int) == 9) = true ∨ ((s[j].toNat : Int) == 10) = true) :
    j + Sp.skpN false (rst s j) = j + 1 + Sp.skpN false (rst s (j + 1)) := by
  rw [hc]
  have : Sp.isB s[j] = true := by simp only [beq_iff_eq] at hb; simp [Sp.isB]; omega
  simp only [Sp.skpN, this, if_true]; omega

theorem skp_0 {s : ByteArray} {j : Nat} {h : j < s.size} (hc : rst s j = s[j] :: rst s (j + 1)) (h1 : ((s[j].toNat : Int) == 32) = false) (h2 : ((s[j].toNat : Int) == 9) = false) (h3 : ((s[j].toNat : Int) == 10) = false)
    (h4 : ((s[j].toNat : Int) == 35) = false) : Sp.skpN false (rst s j) = 0 := by
  rw [hc]
  simp only [beq_eq_false_iff_ne, ne_eq] at h1 h2 h3 h4
  have e1 : Sp.isB s[j] = false := by simp [Sp.isB]; omega
  have e2 : ¬ s[j].toNat = 35 := by omega
  simp only [Sp.skpN, e1, e2, if_false, Bool.false_eq_true]

theorem skp_c {s : ByteArray} {j : Nat} {h : j < s.size} (hc : rst s j = s[j] :: rst s (j + 1)) (h4 : ((s[j].toNat : Int) == 35) = true) :
    (Lib.indexByte (s.extract j s.size).data.toList (10 : Int).toNat.toUInt8 = -1 ∧ j + Sp.skpN false (rst s j) = s.size) ∨
    ∃ k : Nat, 0 < k ∧ Lib.indexByte (s.extract j s.size).data.toList (10 : Int).toNat.toUInt8 = k ∧ j + k ≤ s.size ∧ j + Sp.skpN false (rst s j) = j + k + Sp.skpN false (rst s (j + k)) := by
  have e1 := ext_list s j s.size
  rw [List.take_of_length_le (by rw [rst_len]; omega)] at e1
  rw [e1, show (10 : Int).toNat.toUInt8 = 10 from rfl]
  simp only [beq_iff_eq] at h4
  have e2 : ¬ s[j].toNat = 10 := by omega
  have e3 : Sp.isB s[j] = false := by simp [Sp.isB]; omega
  have e5 : s[j].toNat = 35 := by omega
  have e6 : Sp.skpN false (rst s j) = (rst s j).findIdx (fun c => c.toNat = 10) + Sp.skpN false ((rst s j).drop ((rst s j).findIdx (fun c => c.toNat = 10))) := by
    rw [hc]
    simp only [List.findIdx_cons, e2, decide_false, cond_false, List.drop_succ_cons]
    simp only [Sp.skpN, e3, e5, if_true, Bool.false_eq_true, if_false]
    rw [Sp.skpN_comment]; omega
  have hp : 0 < (rst s j).findIdx (fun c => c.toNat = 10) := by
    rw [hc]; simp only [List.findIdx_cons, e2, decide_false, cond_false]; omega
  have hl := rst_len s j
  rcases idx_nl (rst s j) with ⟨i1, i2⟩ | ⟨i1, i2⟩
  · left
    refine ⟨i1, ?_⟩
    rw [e6, i2, List.drop_length]
    simp only [Sp.skpN]; omega
  · right
    refine ⟨_, hp, i1, by omega, ?_⟩
    rw [e6, rst_drop]; omega

def SkipPost (r : Nat) (s : ByteArray) (i : Nat) (w : World) (e : Ending) (w' : World) : Prop :=
  e = .returned (.tuple #[]) ∧ Rd w' r s (i + Sp.skpN false (rst s i)) ∧ Kp r w w'

set_option maxHeartbeats 1000000 in
theorem skip_any (r i : Nat) (s : ByteArray) (w : World) (hr : Rd w r s i) (hs : s.size ≤ 9223372036854775806) (hi : i ≤ s.size) :
    Calls Tryd.prog 57 #[.pointer (some ⟨r, 0, none⟩)] w (SkipPost r s i w) := by
  obtain ⟨t, ht⟩ : ∃ t, t = i + Sp.skpN false (rst s i) := ⟨_, rfl⟩
  have HP : Hid (∀ w', Rd w' r s t → Kp r w w' → SkipPost r s i w (.returned (.tuple #[])) w') := Lib.hid fun w' a b => ⟨rfl, ht ▸ a, b⟩
  go_enter Tryd.func57, Tryd.ntmps57
  go_wp2_with fail
  go_loopg [] (s.size - i) (fun k wr => ∃ j, k = s.size - j ∧ j ≤ s.size ∧ t = j + Sp.skpN false (rst s j) ∧ Rd wr r s j ∧ Kp r w wr)
  case atStart => exact ⟨i, rfl, hi, ht, hr, Kp.refl _ _⟩
  case round =>
    obtain ⟨j, hk, hj, htj, hrd, hkp⟩ := hrel
    have H1 := Lib.hid hk; have H2 := Lib.hid hrd; have H3 := Lib.hid hkp; have H4 := Lib.hid htj; have H5 := Lib.hid ht
    have c0 := hrd.c0; have c1 := hrd.c1; have f1 := hrd.f1
    clear hk hrd hkp htj ht hr
    by_cases hlt : j < s.size
    · have hc := rst_cons s j hlt
      have H6 := Lib.hid hc; clear hc
      go_wp2_with fail
      go_quiet (fail)
      go_wp2_with fail
      go_quiet (fail)
      go_wp2_with fail
      · go_roundg (s.size - (j + 1))
        case measure => rw [H1.out]; omega
        case rel => exact ⟨j + 1, rfl, by omega, H4.out.trans (skp_b H6.out (.inl ‹_›)), (H2.out.drewN _).set _ _ (by omega), (H3.out.drewN _).set _ _ _⟩
      · go_roundg (s.size - (j + 1))
        case measure => rw [H1.out]; omega
        case rel => exact ⟨j + 1, rfl, by omega, H4.out.trans (skp_b H6.out (.inr (.inl ‹_›))), (H2.out.drewN _).set _ _ (by omega), (H3.out.drewN _).set _ _ _⟩
      · go_roundg (s.size - (j + 1))
        case measure => rw [H1.out]; omega
        case rel => exact ⟨j + 1, rfl, by omega, H4.out.trans (skp_b H6.out (.inr (.inr ‹_›))), (H2.out.drewN _).set _ _ (by omega), (H3.out.drewN _).set _ _ _⟩
      · go_quiet ((go_at_call 27; exact quiet2 (Tryd.strings_IndexByte _ _ _)))
        rcases skp_c H6.out ‹_› with ⟨x1, x2⟩ | ⟨k, k0, x1, k1, x2⟩
        · have H7 := Lib.hid x2; clear x2
          rw [x1]; clear x1
          go_wp2_with fail
          go_quiet (fail)
          go_wp2_with fail
          go_roundg 0
          case measure => rw [H1.out]; omega
          case rel => exact ⟨s.size, by omega, by omega, by rw [H4.out, H7.out, rst_nil s _ (Nat.le_refl _)]; simp [Sp.skpN], ((H2.out.drewN _).set _ _ (by omega)), ((H3.out.drewN _).set _ _ _)⟩
        · have H7 := Lib.hid x2; clear x2
          rw [x1]; clear x1
          go_wp2_with fail
          go_roundg (s.size - (j + k))
          case measure => rw [H1.out]; omega
          case rel => exact ⟨j + k, rfl, k1, H4.out.trans H7.out, ((H2.out.drewN _).set _ _ (by omega)), ((H3.out.drewN _).set _ _ _)⟩
      · go_end0
        have e0 : Sp.skpN false (rst s j) = 0 := skp_0 H6.out ‹_› ‹_› ‹_› ‹_›
        exact HP.out _ (by rw [H4.out, e0]; exact H2.out.drewN _) (H3.out.drewN _)
    · go_wp2_with fail
      go_quiet (fail)
      go_wp2_with fail
      go_end0
      have e0 : rst s j = [] := rst_nil s j (by omega)
      exact HP.out _ (by rw [H4.out, e0]; exact H2.out.drewN _) (H3.out.drewN _)
end Go.Proofs.YtppeplonnippcaaDoor
