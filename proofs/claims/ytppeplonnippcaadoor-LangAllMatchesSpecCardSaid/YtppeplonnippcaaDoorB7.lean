/-
Layer 7: words and numbers of a code.
-/
import Derived.Test.YtppeplonnippcaaDoorA2
import Derived.Test.YtppeplonnippcaaDoorA3
import Derived.Test.YtppeplonnippcaaDoorS
set_option linter.unusedVariables false
set_option linter.unusedSimpArgs false
namespace Go.Proofs.YtppeplonnippcaaDoor
open Go.RowKit

def wpb (c : UInt8) : Bool := Sp.isL c || Sp.isD c
theorem wd_cons (s : ByteArray) (h : 0 < s.size) : Sp.wd s.data.toList = (Sp.isL s[0] && (rst s 1).all wpb) := by
  have hc : s.data.toList = s[0] :: rst s 1 := rst_cons s 0 h
  rw [hc]; rfl
theorem wd_nil (s : ByteArray) (h : ¬ 0 < s.size) : Sp.wd s.data.toList = false := by
  have : s.data.toList = [] := List.eq_nil_of_length_eq_zero (by show s.size = 0; omega)
  rw [this]; rfl
/-- what is left to be shown of a word from an offset on -/
def wdAt (s : ByteArray) (j : Nat) : Bool := if j = 0 then Sp.wd s.data.toList else (rst s j).all wpb
theorem wdAt_step {s : ByteArray} {j : Nat} (h : j < s.size) (hc : Sp.isL s[j] = true ∨ (j ≠ 0 ∧ Sp.isD s[j] = true)) : wdAt s j = wdAt s (j + 1) := by
  unfold wdAt
  rw [if_neg (by omega : ¬ j + 1 = 0)]
  by_cases h0 : j = 0
  · subst h0
    rw [if_pos rfl, wd_cons s h]
    rcases hc with hc | hc
    · rw [hc]; rfl
    · exact absurd rfl hc.1
  · rw [if_neg h0, rst_cons s j h, List.all_cons]
    have : wpb s[j] = true := by rcases hc with hc | hc <;> simp [wpb, hc]
    rw [this]; rfl
theorem wdAt_no {s : ByteArray} {j : Nat} (h : j < s.size) (h1 : Sp.isL s[j] = false) (hc : j = 0 ∨ Sp.isD s[j] = false) : wdAt s j = false := by
  unfold wdAt
  by_cases h0 : j = 0
  · subst h0
    rw [if_pos rfl, wd_cons s h, h1]; rfl
  · rw [if_neg h0, rst_cons s j h, List.all_cons]
    have : wpb s[j] = false := by rcases hc with hc | hc; exact absurd hc h0; simp [wpb, hc, h1]
    rw [this]; rfl

set_option maxRecDepth 100000 in
theorem isWord_any (s : ByteArray) (w : World) (hs : s.size ≤ 4611686018427387904) : Calls Tryd.prog 33 #[.string s] w fun e w' => e = .returned (.bool (Sp.wd s.data.toList)) ∧ w = w' := by
  obtain ⟨W, hW⟩ : ∃ W, W = Sp.wd s.data.toList := ⟨_, rfl⟩
  have HW := Lib.hid hW
  rw [← hW]; clear hW
  go_enter Tryd.func33, Tryd.ntmps33
  go_wp2_with fail
  go_loopg [3, 6] (s.size) (fun k v3 v wr => ∃ j : Nat, k = s.size - j ∧ j ≤ s.size ∧ v = .int .i64 j ∧ W = wdAt s j ∧ w = wr)
  case atStart => exact ⟨0, rfl, Nat.zero_le _, rfl, by rw [HW.out]; rfl, rfl⟩
  case round =>
    obtain ⟨j, hk, hj, rfl, hw, rfl⟩ := hrel
    have H1 := Lib.hid hk; have H2 := Lib.hid hw
    clear hk hw
    by_cases hlt : j < s.size
    · have hb : decide ((j : Int) < (s.size : Int)) = true := by rw [decide_eq_true_iff]; omega
      rcases Bool.eq_false_or_eq_true (Sp.isL s[j]) with hL | hL
      · go_wp2_with (go_at_call 51; refine (isLetter_any _ _).mono ?_; rintro e w' ⟨rfl, rfl⟩)
        go_roundg (s.size - (j + 1))
        case measure => rw [H1.out]; omega
        case rel => exact ⟨j + 1, rfl, by omega, by go_num, by rw [H2.out, wdAt_step hlt (.inl hL)], rfl⟩
      · by_cases h0 : j = 0
        · have h0b : ((j : Int) == 0) = true := by rw [beq_iff_eq]; omega
          have HN := Lib.hid (wdAt_no hlt hL (.inl h0))
          clear h0
          go_wp2_with (go_at_call 51; refine (isLetter_any _ _).mono ?_; rintro e w' ⟨rfl, rfl⟩)
          go_ret
          exact ⟨by rw [H2.out, HN.out]; rfl, rfl⟩
        · have h0b : ((j : Int) == 0) = false := by rw [beq_eq_false_iff_ne]; omega
          rcases Bool.eq_false_or_eq_true (Sp.isD s[j]) with hD | hD
          · have HS := Lib.hid (wdAt_step hlt (.inr ⟨h0, hD⟩))
            clear h0
            go_wp2_with (first | (go_at_call 51; refine (isLetter_any _ _).mono ?_; rintro e w' ⟨rfl, rfl⟩) | (go_at_call 52; refine (isDigit_any _ _).mono ?_; rintro e w' ⟨rfl, rfl⟩))
            go_roundg (s.size - (j + 1))
            case measure => rw [H1.out]; omega
            case rel => exact ⟨j + 1, rfl, by omega, by go_num, by rw [H2.out, HS.out], rfl⟩
          · have HN := Lib.hid (wdAt_no hlt hL (.inr hD))
            clear h0
            go_wp2_with (first | (go_at_call 51; refine (isLetter_any _ _).mono ?_; rintro e w' ⟨rfl, rfl⟩) | (go_at_call 52; refine (isDigit_any _ _).mono ?_; rintro e w' ⟨rfl, rfl⟩))
            go_ret
            exact ⟨by rw [H2.out, HN.out]; rfl, rfl⟩
    · have hb : decide ((j : Int) < (s.size : Int)) = false := by rw [decide_eq_false_iff_not]; omega
      by_cases h0 : 0 < s.size
      · have hE := toList_n h0
        have hE2 := toList_n2 h0
        have HN : Hid (wdAt s j = true) := Lib.hid (by unfold wdAt; rw [if_neg (by omega), rst_nil s j (by omega)]; rfl)
        go_wp2_with fail
        go_ret
        exact ⟨by rw [H2.out, HN.out]; rfl, rfl⟩
      · have hE : s.toList = [] := toList_e (by omega)
        have HN : Hid (wdAt s j = false) := Lib.hid (by unfold wdAt; rw [if_pos (by omega), wd_nil s h0])
        go_wp2_with fail
        go_ret
        exact ⟨by rw [H2.out, HN.out]; rfl, rfl⟩
end Go.Proofs.YtppeplonnippcaaDoor
