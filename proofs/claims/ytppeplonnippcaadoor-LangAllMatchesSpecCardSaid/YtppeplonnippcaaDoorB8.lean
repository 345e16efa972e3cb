/-
Layer 7: the least and the greatest of a row.
-/
import Derived.Test.YtppeplonnippcaaDoorB7
set_option linter.unusedVariables false
set_option linter.unusedSimpArgs false
namespace Go.Proofs.YtppeplonnippcaaDoor
open Go.RowKit

/-- the numbers of a slice, as they lie in memory -/
def IntsAt (w : World) (A : Option Addr) (xs : List Int) : Prop := ∀ j (h : j < xs.length), ∃ ad, A = some ad ∧ w.cell? (ad.add j) = some (.int .i64 xs[j])
/-- the rows of a slice of slices -/
def RowsAt (w : World) (A : Option Addr) (l : List (List Int)) : Prop := ∀ i (h : i < l.length), ∃ ad A0 c0, A = some ad ∧ w.cell? (ad.add i) = some (.slice A0 l[i].length c0) ∧ l[i].length ≤ c0 ∧ IntsAt w A0 l[i]

theorem add0 (ad : Addr) : ad.add 0 = ad := by
  cases ad; unfold Addr.add; split <;> simp_all

def fm (f : Int → Int → Int) : List Int → Int
  | [] => 0
  | x :: l => l.foldl f x
theorem fm_step (f : Int → Int → Int) (xs : List Int) (j : Nat) (h1 : 1 ≤ j) (h : j < xs.length) : fm f (xs.take (j + 1)) = f (fm f (xs.take j)) xs[j] := by
  cases xs with
  | nil => simp at h
  | cons x l =>
    obtain ⟨j, rfl⟩ : ∃ m, j = m + 1 := ⟨j - 1, by omega⟩
    simp only [List.length_cons] at h
    have hj : j < l.length := by omega
    rw [List.take_succ_cons, List.take_succ_cons, List.getElem_cons_succ]
    simp only [fm]
    rw [List.take_succ_eq_append_getElem hj, List.foldl_append]
    rfl

set_option maxRecDepth 100000 in
theorem min_any (A : Option Addr) (c : Nat) (xs : List Int) (w : World) (hx : IntsAt w A xs) (hn : 0 < xs.length) (hl : xs.length ≤ 4611686018427387904) :
    Calls Tryd.prog 35 #[.slice A xs.length c] w fun e w' => e = .returned (.int .i64 (fm min xs)) ∧ w = w' := by
  obtain ⟨ad, hA, h0⟩ := hx 0 hn
  subst hA
  have HX := Lib.hid hx
  have c0 : w.cell? ad = some (.int .i64 xs[0]) := by rw [add0] at h0; exact h0
  have hb : decide ((xs.length : Int) < 1) = false := by rw [decide_eq_false_iff_not]; omega
  have hi0 : (0 : Int) < (xs.length : Int) := by omega
  clear hx h0
  go_enter Tryd.func35, Tryd.ntmps35
  go_wp2_with fail
  go_loopg [3, 4] (xs.length - 1) (fun k v3 v4 wr => ∃ j : Nat, k = xs.length - j ∧ 1 ≤ j ∧ j ≤ xs.length ∧ v3 = .int .i64 (fm min (xs.take j)) ∧ v4 = .int .i64 j ∧ w = wr)
  case atStart =>
    refine ⟨1, rfl, Nat.le_refl _, hn, ?_, rfl, rfl⟩
    cases xs with
    | nil => simp at hn
    | cons x l => rfl
  case round =>
    obtain ⟨j, hk, h1, hj, rfl, rfl, rfl⟩ := hrel
    have HK := Lib.hid hk
    clear hk
    by_cases hlt : j < xs.length
    · have hb2 : decide ((j : Int) < (xs.length : Int)) = true := by rw [decide_eq_true_iff]; omega
      have hb3 : (j : Int) < (xs.length : Int) := by omega
      obtain ⟨ad', hA', hc⟩ := HX.out j hlt
      cases hA'
      have HS := Lib.hid (fm_step min xs j h1 hlt)
      generalize fm min (xs.take j) = m at *
      go_wp2_with fail
      go_roundg (xs.length - (j + 1))
      case measure => rw [HK.out]; omega
      case rel => exact ⟨j + 1, rfl, by omega, by omega, by rw [HS.out], by go_num, rfl⟩
    · have hb2 : decide ((j : Int) < (xs.length : Int)) = false := by rw [decide_eq_false_iff_not]; omega
      have HT : Hid (xs.take j = xs) := Lib.hid (List.take_of_length_le (by omega))
      go_wp2_with fail
      go_ret
      exact ⟨by rw [HT.out]; rfl, rfl⟩
set_option maxRecDepth 100000 in
theorem max_any (A : Option Addr) (c : Nat) (xs : List Int) (w : World) (hx : IntsAt w A xs) (hn : 0 < xs.length) (hl : xs.length ≤ 4611686018427387904) :
    Calls Tryd.prog 36 #[.slice A xs.length c] w fun e w' => e = .returned (.int .i64 (fm max xs)) ∧ w = w' := by
  obtain ⟨ad, hA, h0⟩ := hx 0 hn
  subst hA
  have HX := Lib.hid hx
  have c0 : w.cell? ad = some (.int .i64 xs[0]) := by rw [add0] at h0; exact h0
  have hb : decide ((xs.length : Int) < 1) = false := by rw [decide_eq_false_iff_not]; omega
  have hi0 : (0 : Int) < (xs.length : Int) := by omega
  clear hx h0
  go_enter Tryd.func36, Tryd.ntmps36
  go_wp2_with fail
  go_loopg [3, 4] (xs.length - 1) (fun k v3 v4 wr => ∃ j : Nat, k = xs.length - j ∧ 1 ≤ j ∧ j ≤ xs.length ∧ v3 = .int .i64 (fm max (xs.take j)) ∧ v4 = .int .i64 j ∧ w = wr)
  case atStart =>
    refine ⟨1, rfl, Nat.le_refl _, hn, ?_, rfl, rfl⟩
    cases xs with
    | nil => simp at hn
    | cons x l => rfl
  case round =>
    obtain ⟨j, hk, h1, hj, rfl, rfl, rfl⟩ := hrel
    have HK := Lib.hid hk
    clear hk
    by_cases hlt : j < xs.length
    · have hb2 : decide ((j : Int) < (xs.length : Int)) = true := by rw [decide_eq_true_iff]; omega
      have hb3 : (j : Int) < (xs.length : Int) := by omega
      obtain ⟨ad', hA', hc⟩ := HX.out j hlt
      cases hA'
      have HS := Lib.hid (fm_step max xs j h1 hlt)
      generalize fm max (xs.take j) = m at *
      go_wp2_with fail
      go_roundg (xs.length - (j + 1))
      case measure => rw [HK.out]; omega
      case rel => exact ⟨j + 1, rfl, by omega, by omega, by rw [HS.out], by go_num, rfl⟩
    · have hb2 : decide ((j : Int) < (xs.length : Int)) = false := by rw [decide_eq_false_iff_not]; omega
      have HT : Hid (xs.take j = xs) := Lib.hid (List.take_of_length_le (by omega))
      go_wp2_with fail
      go_ret
      exact ⟨by rw [HT.out]; rfl, rfl⟩
end Go.Proofs.YtppeplonnippcaaDoor
