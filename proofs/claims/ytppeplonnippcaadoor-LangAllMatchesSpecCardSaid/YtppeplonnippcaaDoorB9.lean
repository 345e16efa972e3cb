/-
Layer 7: slices that are equal.
-/
import Derived.Test.YtppeplonnippcaaDoorB8
set_option linter.unusedVariables false
set_option linter.unusedSimpArgs false
namespace Go.Proofs.YtppeplonnippcaaDoor
open Go.RowKit

theorem bel_drewN {B : Nat} {w W : World} (h : Below B w W) (n : Nat) : Below B w (W.drewN n) := ⟨h.os, h.tape, h.output, h.size, h.block⟩
theorem eq_take {α : Type} [DecidableEq α] {xs ys : List α} (hl : xs.length = ys.length) (h : ∀ j (h1 : j < xs.length) (h2 : j < ys.length), xs[j] = ys[j]) : xs = ys :=
  List.ext_getElem hl fun i h1 h2 => h i h1 h2

set_option maxRecDepth 100000 in
theorem equal_any (A A2 : Option Addr) (c c2 : Nat) (xs ys : List Int) (w : World) (hx : IntsAt w A xs) (hy : IntsAt w A2 ys) (hl : xs.length ≤ 4611686018427387904) (hl2 : ys.length ≤ 4611686018427387904) :
    Calls Tryd.prog 41 #[.slice A xs.length c, .slice A2 ys.length c2] w fun e w' => e = .returned (.bool (decide (xs = ys))) ∧ Below w.heap.size w w' := by
  obtain ⟨r, hr⟩ : ∃ r, r = decide (xs = ys) := ⟨_, rfl⟩
  have HR := Lib.hid hr
  rw [← hr]; clear hr
  have HX := Lib.hid hx; have HY := Lib.hid hy
  clear hx hy
  by_cases hll : xs.length = ys.length
  · have hb : ((xs.length : Int) != (ys.length : Int)) = false := by simp; omega
    have hb' : (xs.length == ys.length) = true := by rw [beq_iff_eq]; exact hll
    have hb2 : ((xs.length : Int) == (ys.length : Int)) = true := by rw [beq_iff_eq]; omega
    have HLL := Lib.hid hll
    clear hll
    go_enter Tryd.func41, Tryd.ntmps41
    go_wp2_with fail
    go_loopg [5, 13] xs.length (fun k v5 v wr => ∃ j : Nat, k = xs.length - j ∧ j ≤ xs.length ∧ v = .int .i64 j ∧ (∀ i (h1 : i < xs.length) (h2 : i < ys.length), i < j → xs[i] = ys[i]) ∧ Below w.heap.size w wr)
    case atStart => exact ⟨0, rfl, Nat.zero_le _, rfl, fun i _ _ h => absurd h (Nat.not_lt_zero _), Below.refl _ _⟩
    case round =>
      obtain ⟨j, hk, hj, rfl, he, hbl⟩ := hrel
      have H1 := Lib.hid hk; have H2 := Lib.hid he; have H3 := Lib.hid hbl
      clear hk he
      by_cases hlt : j < xs.length
      · have hlt2 : j < ys.length := by rw [← HLL.out]; exact hlt
        have hb3 : decide ((j : Int) < (xs.length : Int)) = true := by rw [decide_eq_true_iff]; omega
        obtain ⟨ad, hA, hc⟩ := HX.out j hlt
        obtain ⟨ad2, hA2, hc2⟩ := HY.out j hlt2
        subst hA hA2
        have hi1 : (j : Int) < (xs.length : Int) := by omega
        have hi2 : (j : Int) < (ys.length : Int) := by omega
        have d1 := (hbl.cell (World.block_lt_of_cell? w _ hc)).trans hc
        have d2 := (hbl.cell (World.block_lt_of_cell? w _ hc2)).trans hc2
        clear hbl hc hc2
        by_cases hxy : xs[j] = ys[j]
        · have hxb : (xs[j] == ys[j]) = true := by rw [beq_iff_eq]; exact hxy
          have HXY := Lib.hid hxy
          clear hxy
          go_wp2_with fail
          go_quiet (fail)
          go_wp2_with fail
          go_roundg (xs.length - (j + 1))
          case measure => rw [H1.out]; omega
          case rel =>
            refine ⟨j + 1, rfl, by omega, by go_num, fun i h1 h2 h3 => ?_, Below.trans H3.out (bel_drewN (Below.refl _ _) _)⟩
            by_cases hij : i = j
            · subst hij; exact HXY.out
            · exact H2.out i h1 h2 (by omega)
        · have hxb : (xs[j] == ys[j]) = false := by rw [beq_eq_false_iff_ne]; exact hxy
          have HN : Hid (r = false) := Lib.hid (by rw [HR.out, decide_eq_false_iff_not]; intro e; subst e; exact hxy rfl)
          clear hxy
          go_wp2_with fail
          go_quiet (fail)
          go_wp2_with fail
          go_ret
          exact ⟨by rw [HN.out]; rfl, Below.trans H3.out (bel_drewN (Below.refl _ _) _)⟩
      · have hb3 : decide ((j : Int) < (xs.length : Int)) = false := by rw [decide_eq_false_iff_not]; omega
        have HN : Hid (r = true) := Lib.hid (by rw [HR.out, decide_eq_true_iff]; exact eq_take HLL.out fun i h1 h2 => H2.out i h1 h2 (by omega))
        go_wp2_with fail
        go_ret
        exact ⟨by rw [HN.out]; rfl, H3.out⟩
  · have hb : ((xs.length : Int) != (ys.length : Int)) = true := by simp; omega
    have hb2 : ((xs.length : Int) == (ys.length : Int)) = false := by rw [beq_eq_false_iff_ne]; omega
    have HN : Hid (r = false) := Lib.hid (by rw [HR.out]; rw [decide_eq_false_iff_not]; intro e; exact hll (by rw [e]))
    go_enter Tryd.func41, Tryd.ntmps41
    go_wp2_with fail
    go_ret
    exact ⟨by rw [HN.out]; rfl, Below.refl _ _⟩
end Go.Proofs.YtppeplonnippcaaDoor
