/-
Layer 7: rows that are equal.
-/
import Derived.Test.YtppeplonnippcaaDoorB9
set_option linter.unusedVariables false
set_option linter.unusedSimpArgs false
namespace Go.Proofs.YtppeplonnippcaaDoor
open Go.RowKit

theorem same1_any (A A2 : Option Addr) (c c2 : Nat) (xs ys : List Int) (w : World) (hx : IntsAt w A xs) (hy : IntsAt w A2 ys) (hl : xs.length ≤ 4611686018427387904) (hl2 : ys.length ≤ 4611686018427387904) :
    Calls Tryd.prog 40 #[.slice A xs.length c, .slice A2 ys.length c2] w fun e w' => e = .returned (.bool (decide (xs = ys))) ∧ Below w.heap.size w w' := by
  have C := Lib.hid (equal_any A A2 c c2 xs ys w hx hy hl hl2)
  clear hx hy
  go_enter Tryd.func40, Tryd.ntmps40
  go_wp2_with (go_at_call 41; refine C.out.mono ?_; rintro e w2 ⟨rfl, hb⟩)
  go_ret
  exact ⟨rfl, hb⟩

theorem IntsAt.below {w w' : World} {A : Option Addr} {xs : List Int} (h : IntsAt w A xs) (k : Below w.heap.size w w') : IntsAt w' A xs := fun j hj => by
  obtain ⟨ad, hA, hc⟩ := h j hj
  exact ⟨ad, hA, (k.cell (World.block_lt_of_cell? w _ hc)).trans hc⟩
theorem RowsAt.below {w w' : World} {A : Option Addr} {l : List (List Int)} (h : RowsAt w A l) (k : Below w.heap.size w w') : RowsAt w' A l := fun i hi => by
  obtain ⟨ad, A0, c0, hA, hc, hl, hr⟩ := h i hi
  exact ⟨ad, A0, c0, hA, (k.cell (World.block_lt_of_cell? w _ hc)).trans hc, hl, hr.below k⟩

set_option maxRecDepth 100000 in
set_option maxHeartbeats 1000000 in
theorem eqf_any (A A2 : Option Addr) (c c2 : Nat) (xs ys : List (List Int)) (w : World) (hx : RowsAt w A xs) (hy : RowsAt w A2 ys) (hl : xs.length ≤ 4611686018427387904) (hl2 : ys.length ≤ 4611686018427387904)
    (hxl : ∀ x ∈ xs, x.length ≤ 4611686018427387904) (hyl : ∀ x ∈ ys, x.length ≤ 4611686018427387904) :
    Calls Tryd.prog 39 #[.slice A xs.length c, .slice A2 ys.length c2, .func (.func 40) #[] #[]] w fun e w' => e = .returned (.bool (decide (xs = ys))) ∧ Below w.heap.size w w' := by
  obtain ⟨r, hr⟩ : ∃ r, r = decide (xs = ys) := ⟨_, rfl⟩
  have HR := Lib.hid hr
  rw [← hr]; clear hr
  have HX := Lib.hid hx; have HY := Lib.hid hy; have HXL := Lib.hid hxl; have HYL := Lib.hid hyl
  clear hx hy hxl hyl
  by_cases hll : xs.length = ys.length
  · have hb : ((xs.length : Int) != (ys.length : Int)) = false := by simp; omega
    have hb2 : ((xs.length : Int) == (ys.length : Int)) = true := by rw [beq_iff_eq]; omega
    have HLL := Lib.hid hll
    clear hll
    go_enter Tryd.func39, Tryd.ntmps39
    go_wp2_with fail
    go_loopg [7, 8, 9, 17] xs.length (fun k v7 v8 v9 v wr => ∃ j : Nat, k = xs.length - j ∧ j ≤ xs.length ∧ v = .int .i64 j ∧ (∀ i (h1 : i < xs.length) (h2 : i < ys.length), i < j → xs[i] = ys[i]) ∧ Below w.heap.size w wr)
    case atStart => exact ⟨0, rfl, Nat.zero_le _, rfl, fun i _ _ h => absurd h (Nat.not_lt_zero _), Below.refl _ _⟩
    case round =>
      obtain ⟨j, hk, hj, rfl, he, hbl⟩ := hrel
      have H1 := Lib.hid hk; have H2 := Lib.hid he; have H3 := Lib.hid hbl
      clear hk he
      by_cases hlt : j < xs.length
      · have hlt2 : j < ys.length := by rw [← HLL.out]; exact hlt
        have hb3 : decide ((j : Int) < (xs.length : Int)) = true := by rw [decide_eq_true_iff]; omega
        obtain ⟨ad, A0, c0, hA, hc, _, hr0⟩ := HX.out.below hbl j hlt
        obtain ⟨ad2, B0, e0, hA2, hc2, _, hr2⟩ := HY.out.below hbl j hlt2
        subst hA hA2
        have hi1 : (j : Int) < (xs.length : Int) := by omega
        have hi2 : (j : Int) < (ys.length : Int) := by omega
        have CC := Lib.hid (same1_any A0 B0 c0 e0 xs[j] ys[j] wr hr0 hr2 (HXL.out _ (List.getElem_mem hlt)) (HYL.out _ (List.getElem_mem hlt2)))
        clear hbl hr0 hr2
        by_cases hxy : xs[j] = ys[j]
        · have hxb : decide (xs[j] = ys[j]) = true := decide_eq_true hxy
          have HXY := Lib.hid hxy
          clear hxy
          go_wp2_with (go_at_call 40; refine CC.out.mono ?_; rintro e w2 ⟨rfl, hb2'⟩; rw [hxb]; have HB2 := Lib.hid hb2'; clear hb2')
          go_roundg (xs.length - (j + 1))
          case measure => rw [H1.out]; omega
          case rel =>
            refine ⟨j + 1, rfl, by omega, by go_num, fun i h1 h2 h3 => ?_, H3.out.trans (HB2.out.mono H3.out.size)⟩
            by_cases hij : i = j
            · subst hij; exact HXY.out
            · exact H2.out i h1 h2 (by omega)
        · have hxb : decide (xs[j] = ys[j]) = false := decide_eq_false hxy
          have HN : Hid (r = false) := Lib.hid (by rw [HR.out, decide_eq_false_iff_not]; intro e; subst e; exact hxy rfl)
          clear hxy
          go_wp2_with (go_at_call 40; refine CC.out.mono ?_; rintro e w2 ⟨rfl, hb2'⟩; rw [hxb]; have HB2 := Lib.hid hb2'; clear hb2')
          go_ret
          exact ⟨by rw [HN.out]; rfl, H3.out.trans (HB2.out.mono H3.out.size)⟩
      · have hb3 : decide ((j : Int) < (xs.length : Int)) = false := by rw [decide_eq_false_iff_not]; omega
        have HN : Hid (r = true) := Lib.hid (by rw [HR.out, decide_eq_true_iff]; exact eq_take HLL.out fun i h1 h2 => H2.out i h1 h2 (by omega))
        go_wp2_with fail
        go_ret
        exact ⟨by rw [HN.out]; rfl, H3.out⟩
  · have hb : ((xs.length : Int) != (ys.length : Int)) = true := by simp; omega
    have hb2 : ((xs.length : Int) == (ys.length : Int)) = false := by rw [beq_eq_false_iff_ne]; omega
    have HN : Hid (r = false) := Lib.hid (by rw [HR.out]; rw [decide_eq_false_iff_not]; intro e; exact hll (by rw [e]))
    go_enter Tryd.func39, Tryd.ntmps39
    go_wp2_with fail
    go_ret
    exact ⟨by rw [HN.out]; rfl, Below.refl _ _⟩
end Go.Proofs.YtppeplonnippcaaDoor
