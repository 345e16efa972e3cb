/-
Layer 7, the reference: Number, row, Print (walks printed by print.sh, taken into one namespace).
-/
import Derived.Test.YtppeplonnippcaaDoorR2
namespace Go.Proofs.YtppeplonnippcaaDoor.Rf
open Go.RowKit Go.Proofs.YtppeplonnippcaaDoorW.PrintWords Go.Proofs.YtppeplonnippcaaDoorW.PrintLast
set_option linter.unusedVariables false
set_option linter.unusedSimpArgs false

/-! ### solventref07_Number: function 31 -/
def solventref07_Number.f : Nat → Int → Option (ByteArray)
  | 0, _ => none
  | k + 1, a0 => (some (([(wrap64 (48 + (Int.tmod a0 10))) % 256] : List Int) : List Int)).bind fun y138 => (if a0 < 10 then (some (strOfNums y138)) else ((solventref07_Number.f k (wrap64 (Int.tdiv a0 10))).bind fun t141 => (if t141.size + (strOfNums y138).size ≤ 9223372036854775807 then (some (t141 ++ (strOfNums y138))) else (none))))
theorem solventref07_Number.mono_l : ∀ k, (∀ y0, LeO (solventref07_Number.f k y0) (solventref07_Number.f (k + 1) y0))
  | 0 => fun _ r h => by simp [solventref07_Number.f] at h
  | k + 1 => by
    have ih0 := solventref07_Number.mono_l k
    · intro y0
      unfold solventref07_Number.f
      repeat' first
      | (with_reducible exact ih0 _)
      | (with_reducible exact LeO.refl _)
      | (with_reducible exact LeO.none _)
      | (with_reducible refine LeO.ite ?_ ?_)
      | (with_reducible refine LeO.bind ?_ (fun _ => ?_))
      | exact ih0 _
      | exact LeO.none _
      | refine LeO.ite ?_ ?_
      | refine LeO.bind ?_ (fun _ => ?_)
theorem solventref07_Number.mono : ∀ a0 k, LeO (solventref07_Number.f k a0) (solventref07_Number.f (k + 1) a0) := by
  intro a0 k
  have ih0 := solventref07_Number.mono_l k
  exact ih0 a0
set_option maxHeartbeats 8000000 in
set_option maxRecDepth 100000 in
theorem solventref07_Number.calls (k : Nat) : ∀ (a0 : Int) (r : ByteArray) (w : World) (h : solventref07_Number.f k a0 = some r),
    Calls Tryd.prog 31 #[.int .i64 a0] w fun e w' => e = .returned (.string r) ∧ Below w.heap.size w w' := by
  induction k using Nat.strongRecOn with
  | _ k ih =>
  intro a0 r w h
  cases k with
  | zero => exact absurd h (by simp [solventref07_Number.f])
  | succ k =>
  simp only [solventref07_Number.f] at h
  have HB := Aside0.mk (Below.refl w.heap.size w)
  have H : ((some (([(wrap64 (48 + (Int.tmod a0 10))) % 256] : List Int) : List Int)).bind fun y138 => (if a0 < 10 then (some (strOfNums y138)) else ((solventref07_Number.f k (wrap64 (Int.tdiv a0 10))).bind fun t141 => (if t141.size + (strOfNums y138).size ≤ 9223372036854775807 then (some (t141 ++ (strOfNums y138))) else (none))))) = some r := h
  clear h
  obtain ⟨y138, hy138⟩ : ∃ y_ : List Int, y_ = (([(wrap64 (48 + (Int.tmod a0 10))) % 256] : List Int)) := ⟨_, rfl⟩
  replace H : (if a0 < 10 then (some (strOfNums y138)) else ((solventref07_Number.f k (wrap64 (Int.tdiv a0 10))).bind fun t141 => (if t141.size + (strOfNums y138).size ≤ 9223372036854775807 then (some (t141 ++ (strOfNums y138))) else (none)))) = some r := by first | (rw [hy138]; with_reducible exact H) | (have H2_ := (Option.bind_some _ _).symm.trans H; rw [hy138]; with_reducible exact H2_) | (have H2_ := (Option.bind_some _ _).symm.trans H; with_reducible exact H2_) | with_reducible exact H | (rw [hy138]; exact H) | exact H
  have Ny138 := Aside0.mk hy138
  clear hy138
  by_cases c2 : a0 < 10
  · rw [if_pos c2] at H
    have c2b0 : decide (a0 < 10) = true := decide_eq_true c2
    clear c2
    obtain rfl := Option.some.inj H
    go_enter Tryd.func31, Tryd.ntmps31
    go_wp2_with (first | ((with_reducible refine gate_dst (N := 8) rfl ?_); refine Kd.R_lit (Kd.int .u8) _ 5 ?hg (N := 8) ?hd (xs := ([(wrap64 (48 + (Int.tmod a0 10))) % 256] : List Int)) (inner := [.int .u8 ((wrap64 (48 + (Int.tmod a0 10))) % 256)]) (ok := fun _ => True) (okp := fun _ => True) ?hr ?hp (fun _ hk => hk) trivial (Below.refl _ _) (Nat.le_refl _) (by simp) ?_; (case hd => rfl); (case hg => rfl); (case hr => first | (go_simp; done) | (go_simp; rfl)); (case hp => exact (Reps.one (show Kd.M (Kd.int .u8) _ _ _ ((wrap64 (48 + (Int.tmod a0 10))) % 256) [.int .u8 ((wrap64 (48 + (Int.tmod a0 10))) % 256)] from rfl) (Reps.none _ _))); intro v139 w3 ho4 hb hg_ hnew_; clear hg_ hnew_; (first | rw [← Ny138.out] at ho4 | (simp only [Int.reduceToNat] at ho4; rw [← Ny138.out] at ho4)); have n0_ := Aside0.mk (Kd.R_lower ho4 (below_size (by repeat (first | (with_reducible first | exact HB.out | apply below_alloc | apply pw_below_drewN | apply below_drew1) | exact HB.out)))); have n1_ := Aside0.mk (below_step (by repeat (first | (with_reducible first | exact HB.out | apply below_alloc | apply pw_below_drewN | apply below_drew1) | exact HB.out)) hb); clear HB; have HO140 := n0_; have HB := n1_; clear n0_ n1_; clear hb ho4; have hcv5 := own_string (P := Tryd.prog) Tryd.underlying39 Tryd.underlying5 Tryd.underlying9 (Kd.own_of_R HO140.out)))
    go_ret
    exact ⟨by first | rfl | (simp [errW_none, errW_some] <;> rfl) | (simp [*, errW_none, errW_some] <;> rfl), by repeat (first | (with_reducible first | exact HB.out | apply below_alloc | apply pw_below_drewN | apply below_drew1) | exact HB.out)⟩
  · rw [if_neg c2] at H
    have c2b0 : decide (a0 < 10) = false := decide_eq_false c2
    clear c2
    replace H := Option.bind_eq_some_iff.mp H
    obtain ⟨t141, A60, H⟩ := H
    replace H : (if t141.size + (strOfNums y138).size ≤ 9223372036854775807 then (some (t141 ++ (strOfNums y138))) else (none)) = some r := H
    have A6 := Aside0.mk A60
    clear A60
    by_cases c7 : t141.size + (strOfNums y138).size ≤ 9223372036854775807
    · rw [if_pos c7] at H
      have c7b0 := eq_true c7
      have c7b1 : decide (t141.size + (strOfNums y138).size ≤ 9223372036854775807) = true := decide_eq_true c7
      try have c7b2 : (9223372036854775807 < t141.size + (strOfNums y138).size) = False := eq_false (Nat.not_lt.2 c7)
      obtain rfl := Option.some.inj H
      go_enter Tryd.func31, Tryd.ntmps31
      go_wp2_with (first | ((with_reducible refine gate_dst (N := 8) rfl ?_); refine Kd.R_lit (Kd.int .u8) _ 5 ?hg (N := 8) ?hd (xs := ([(wrap64 (48 + (Int.tmod a0 10))) % 256] : List Int)) (inner := [.int .u8 ((wrap64 (48 + (Int.tmod a0 10))) % 256)]) (ok := fun _ => True) (okp := fun _ => True) ?hr ?hp (fun _ hk => hk) trivial (Below.refl _ _) (Nat.le_refl _) (by simp) ?_; (case hd => rfl); (case hg => rfl); (case hr => first | (go_simp; done) | (go_simp; rfl)); (case hp => exact (Reps.one (show Kd.M (Kd.int .u8) _ _ _ ((wrap64 (48 + (Int.tmod a0 10))) % 256) [.int .u8 ((wrap64 (48 + (Int.tmod a0 10))) % 256)] from rfl) (Reps.none _ _))); intro v139 w8 ho9 hb hg_ hnew_; clear hg_ hnew_; (first | rw [← Ny138.out] at ho9 | (simp only [Int.reduceToNat] at ho9; rw [← Ny138.out] at ho9)); have n0_ := Aside0.mk (Kd.R_lower ho9 (below_size (by repeat (first | (with_reducible first | exact HB.out | apply below_alloc | apply pw_below_drewN | apply below_drew1) | exact HB.out)))); have n1_ := Aside0.mk (below_step (by repeat (first | (with_reducible first | exact HB.out | apply below_alloc | apply pw_below_drewN | apply below_drew1) | exact HB.out)) hb); clear HB; have HO140 := n0_; have HB := n1_; clear n0_ n1_; clear hb ho9; have hcv10 := own_string (P := Tryd.prog) Tryd.underlying39 Tryd.underlying5 Tryd.underlying9 (Kd.own_of_R HO140.out)) | ((with_reducible refine gate_callee (f := 31) rfl ?_); refine goesL_ (some 15) rfl rfl Tryd.func31 (by kernel_rfl) rfl #[.int .i64 (wrap64 (Int.tdiv a0 10))] rfl (by (try simp only [List.map_toArray, List.map_cons, List.map_nil]); first | done | rfl | (simp only [List.length_drop, List.length_take]; rfl)) ?_; (with_reducible refine (ih k (by omega) (wrap64 (Int.tdiv a0 10)) t141 _ A6.out).mono ?_); rintro e w11 ⟨rfl, hb⟩; refine ⟨_, rfl, ?_⟩; have n0_ := Aside0.mk (Kd.R_below (by (with_reducible repeat (first | apply Kd.R_alloc | apply Kd.R_drewN | apply Kd.R_drew)); exact HO140.out) hb); have n1_ := Aside0.mk (below_step (by repeat (first | (with_reducible first | exact HB.out | apply below_alloc | apply pw_below_drewN | apply below_drew1) | exact HB.out)) hb); clear HO140; clear HB; have HO140 := n0_; have HB := n1_; clear n0_ n1_; (try clear hb); (try clear hb2); (try clear hk); (try clear hi)))
      go_ret
      exact ⟨by first | rfl | (simp [errW_none, errW_some] <;> rfl) | (simp [*, errW_none, errW_some] <;> rfl), by repeat (first | (with_reducible first | exact HB.out | apply below_alloc | apply pw_below_drewN | apply below_drew1) | exact HB.out)⟩
    · rw [if_neg c7] at H
      exact absurd H (by simp)


theorem bsz (l : List UInt8) : (ByteArray.mk l.toArray).size = l.length := rfl
/-! ### solventref07_row: function 32 -/
def solventref07_row.l0 : Nat → List Int → ByteArray → ByteArray → ByteArray → Bool → Int → Option (ByteArray)
  | 0, _, _, _, _, _, _ => none
  | k + 1, x0, x3, x4, x5, x6, x7 => if x7 < (x0.length : Int) then (if x3.size + 1 ≤ 9223372036854775807 then (if 0 ≤ x7 then ((solventref07_Number.f k (rd x0 x7)).bind fun t143 => (if (x3 ++ (⟨#[32]⟩ : ByteArray)).size + t143.size ≤ 9223372036854775807 then (if (rd x0 x7) = 0 then (solventref07_row.l0 k x0 ((x3 ++ (⟨#[32]⟩ : ByteArray)) ++ t143) x4 x5 true (wrap64 (x7 + 1))) else (if x4.size + 1 ≤ 9223372036854775807 then ((solventref07_Number.f k x7).bind fun t145 => (if (x4 ++ (⟨#[32]⟩ : ByteArray)).size + t145.size ≤ 9223372036854775807 then (if x5.size + 1 ≤ 9223372036854775807 then ((solventref07_Number.f k (rd x0 x7)).bind fun t147 => (if (x5 ++ (⟨#[32]⟩ : ByteArray)).size + t147.size ≤ 9223372036854775807 then (solventref07_row.l0 k x0 ((x3 ++ (⟨#[32]⟩ : ByteArray)) ++ t143) ((x4 ++ (⟨#[32]⟩ : ByteArray)) ++ t145) ((x5 ++ (⟨#[32]⟩ : ByteArray)) ++ t147) x6 (wrap64 (x7 + 1))) else (none))) else (none)) else (none))) else (none))) else (none))) else (none)) else (none)) else (if x6 = true then (if 5 + x4.size ≤ 9223372036854775807 then (if ((⟨#[108, 111, 99, 97, 108]⟩ : ByteArray) ++ x4).size + 1 ≤ 9223372036854775807 then (if (((⟨#[108, 111, 99, 97, 108]⟩ : ByteArray) ++ x4) ++ (⟨#[58]⟩ : ByteArray)).size + x5.size ≤ 9223372036854775807 then (if ((((⟨#[108, 111, 99, 97, 108]⟩ : ByteArray) ++ x4) ++ (⟨#[58]⟩ : ByteArray)) ++ x5).size + 1 ≤ 9223372036854775807 then (some (((((⟨#[108, 111, 99, 97, 108]⟩ : ByteArray) ++ x4) ++ (⟨#[58]⟩ : ByteArray)) ++ x5) ++ (⟨#[59]⟩ : ByteArray))) else (none)) else (none)) else (none)) else (none)) else (if 6 + x3.size ≤ 9223372036854775807 then (if ((⟨#[112, 97, 114, 105, 116, 121]⟩ : ByteArray) ++ x3).size + 1 ≤ 9223372036854775807 then (some (((⟨#[112, 97, 114, 105, 116, 121]⟩ : ByteArray) ++ x3) ++ (⟨#[59]⟩ : ByteArray))) else (none)) else (none)))
def solventref07_row.f (k : Nat) (l0 : List Int) : Option (ByteArray) := solventref07_row.l0 k l0 (⟨#[]⟩ : ByteArray) (⟨#[]⟩ : ByteArray) (⟨#[]⟩ : ByteArray) false 0
theorem solventref07_row.mono_l : ∀ k, (∀ y0 y1 y2 y3 y4 y5, LeO (solventref07_row.l0 k y0 y1 y2 y3 y4 y5) (solventref07_row.l0 (k + 1) y0 y1 y2 y3 y4 y5))
  | 0 => fun _ _ _ _ _ _ r h => by simp [solventref07_row.l0] at h
  | k + 1 => by
    have ih0 := solventref07_row.mono_l k
    · intro y0 y1 y2 y3 y4 y5
      unfold solventref07_row.l0
      repeat' first
      | (with_reducible exact ih0 _ _ _ _ _ _)
      | (with_reducible exact solventref07_Number.mono _ _)
      | (with_reducible exact LeO.refl _)
      | (with_reducible exact LeO.none _)
      | (with_reducible refine LeO.ite ?_ ?_)
      | (with_reducible refine LeO.bind ?_ (fun _ => ?_))
      | exact ih0 _ _ _ _ _ _
      | exact solventref07_Number.mono _ _
      | exact LeO.none _
      | refine LeO.ite ?_ ?_
      | refine LeO.bind ?_ (fun _ => ?_)
theorem solventref07_row.mono : ∀ a0 k, LeO (solventref07_row.f k a0) (solventref07_row.f (k + 1) a0) := by
  intro a0 k
  have ih0 := solventref07_row.mono_l k
  unfold solventref07_row.f
  repeat' first
      | (with_reducible exact ih0 _ _ _ _ _ _)
      | (with_reducible exact solventref07_Number.mono _ _)
      | (with_reducible exact LeO.refl _)
      | (with_reducible exact LeO.none _)
      | (with_reducible refine LeO.ite ?_ ?_)
      | (with_reducible refine LeO.bind ?_ (fun _ => ?_))
      | exact ih0 _ _ _ _ _ _
      | exact solventref07_Number.mono _ _
      | exact LeO.none _
      | refine LeO.ite ?_ ?_
      | refine LeO.bind ?_ (fun _ => ?_)
set_option maxHeartbeats 8000000 in
set_option maxRecDepth 100000 in
theorem solventref07_row.calls (k : Nat) (A0 : Option Addr) (c0 : Nat) (l0 : List Int) (r : ByteArray) (w : World) (hr0 : Kd.C (Kd.int .i64) w A0 l0.length l0) (hc0 : l0.length ≤ c0) (h : solventref07_row.f k l0 = some r) :
    Calls Tryd.prog 32 #[.slice A0 l0.length c0] w fun e w' => e = .returned (.string r) ∧ Below w.heap.size w w' := by
  have HR0 := Aside0.mk hr0
  have HC0 := Aside0.mk hc0
  clear hr0 hc0
  have HB := Aside0.mk (Below.refl w.heap.size w)
  have H : (solventref07_row.l0 k l0 (⟨#[]⟩ : ByteArray) (⟨#[]⟩ : ByteArray) (⟨#[]⟩ : ByteArray) false 0) = some r := h
  clear h
  have H' := Aside0.mk H
  clear H
  go_enter Tryd.func32, Tryd.ntmps32
  go_wp2
  go_loopg [3, 4, 5, 6, 7] k (fun kq v3 v4 v5 v6 v7 w' => ∃ (x3_1 : ByteArray) (x4_1 : ByteArray) (x5_1 : ByteArray) (x6_1 : Bool) (x7_1 : Int), v3 = .string x3_1 ∧ v4 = .string x4_1 ∧ v5 = .string x5_1 ∧ v6 = .bool x6_1 ∧ v7 = .int .i64 x7_1 ∧ Aside0 (solventref07_row.l0 kq l0 x3_1 x4_1 x5_1 x6_1 x7_1 = some r) ∧ Aside0 (kq ≤ k) ∧ Aside0 (Below w.heap.size w w'))
  case atStart => exact ⟨((⟨#[]⟩ : ByteArray)), ((⟨#[]⟩ : ByteArray)), ((⟨#[]⟩ : ByteArray)), (false), (0), (by first | rfl | (simp; done) | (simp [*]; done)), (by first | rfl | (simp; done) | (simp [*]; done)), (by first | rfl | (simp; done) | (simp [*]; done)), (by first | rfl | (simp; done) | (simp [*]; done)), (by first | rfl | (simp; done) | (simp [*]; done)), H', ⟨Nat.le_refl _⟩, ⟨by repeat (first | (with_reducible first | exact HB.out | apply below_alloc | apply pw_below_drewN | apply below_drew1) | exact HB.out)⟩⟩
  case round =>
    clear H'
    obtain ⟨x3_1, x4_1, x5_1, x6_1, x7_1, rfl, rfl, rfl, rfl, rfl, HA, HK1, HB⟩ := hrel
    cases gk with
    | zero => exact absurd HA.out (by simp [solventref07_row.l0])
    | succ k1 =>
      have H := HA.out
      clear HA
      simp only [solventref07_row.l0] at H
      by_cases c2 : x7_1 < (l0.length : Int)
      · rw [if_pos c2] at H
        have c2b0 : decide (x7_1 < (l0.length : Int)) = true := decide_eq_true c2
        clear c2
        by_cases c3 : x3_1.size + 1 ≤ 9223372036854775807
        · rw [if_pos c3] at H
          have c3b0 := eq_true c3
          have c3b1 : decide (x3_1.size + 1 ≤ 9223372036854775807) = true := decide_eq_true c3
          try have c3b2 : (9223372036854775807 < x3_1.size + 1) = False := eq_false (Nat.not_lt.2 c3)
          by_cases c4 : 0 ≤ x7_1
          · rw [if_pos c4] at H
            have c4b0 : decide (0 ≤ x7_1) = true := decide_eq_true c4
            clear c4
            replace H := Option.bind_eq_some_iff.mp H
            obtain ⟨t143, A50, H⟩ := H
            replace H : (if (x3_1 ++ (⟨#[32]⟩ : ByteArray)).size + t143.size ≤ 9223372036854775807 then (if (rd l0 x7_1) = 0 then (solventref07_row.l0 k1 l0 ((x3_1 ++ (⟨#[32]⟩ : ByteArray)) ++ t143) x4_1 x5_1 true (wrap64 (x7_1 + 1))) else (if x4_1.size + 1 ≤ 9223372036854775807 then ((solventref07_Number.f k1 x7_1).bind fun t145 => (if (x4_1 ++ (⟨#[32]⟩ : ByteArray)).size + t145.size ≤ 9223372036854775807 then (if x5_1.size + 1 ≤ 9223372036854775807 then ((solventref07_Number.f k1 (rd l0 x7_1)).bind fun t147 => (if (x5_1 ++ (⟨#[32]⟩ : ByteArray)).size + t147.size ≤ 9223372036854775807 then (solventref07_row.l0 k1 l0 ((x3_1 ++ (⟨#[32]⟩ : ByteArray)) ++ t143) ((x4_1 ++ (⟨#[32]⟩ : ByteArray)) ++ t145) ((x5_1 ++ (⟨#[32]⟩ : ByteArray)) ++ t147) x6_1 (wrap64 (x7_1 + 1))) else (none))) else (none)) else (none))) else (none))) else (none)) = some r := H
            have A5 := Aside0.mk A50
            clear A50
            by_cases c6 : (x3_1 ++ (⟨#[32]⟩ : ByteArray)).size + t143.size ≤ 9223372036854775807
            · rw [if_pos c6] at H
              have c6b0 := eq_true c6
              have c6b1 : decide ((x3_1 ++ (⟨#[32]⟩ : ByteArray)).size + t143.size ≤ 9223372036854775807) = true := decide_eq_true c6
              try have c6b2 : (9223372036854775807 < (x3_1 ++ (⟨#[32]⟩ : ByteArray)).size + t143.size) = False := eq_false (Nat.not_lt.2 c6)
              have c6b3 := eq_false (Nat.not_lt.2 c6); simp only [ByteArray.size_append, bsz, List.length_cons, List.length_nil, Nat.reduceAdd] at c6b3
              by_cases c7 : (rd l0 x7_1) = 0
              · rw [if_pos c7] at H
                have c7b0 : ((rd l0 x7_1) == 0) = true := beq_iff_eq.mpr c7
                have c7b1 : ((rd l0 x7_1) != 0) = false := bne_eq_false_iff_eq.mpr c7
                clear c7
                have H' := Aside0.mk H
                clear H
                have p142 : 0 ≤ (x7_1 : Int) := of_decide_eq_true (by first | (with_reducible assumption) | assumption)
                have q142 : x7_1 < (l0.length : Int) := of_decide_eq_true (by first | (with_reducible assumption) | assumption)
                obtain ⟨ad142, e142, hx142_0⟩ := Kd.at_int HR0.out x7_1 p142 q142
                cases e142
                replace hx142_0 := (HB.out.cell (World.block_lt_of_cell? w _ hx142_0)).trans hx142_0
                replace p142 := eq_true p142
                replace q142 := eq_true q142
                go_wp2_with (first | ((with_reducible refine gate_callee (f := 31) rfl ?_); refine goesL_ (some 20) rfl rfl Tryd.func31 (by kernel_rfl) rfl #[.int .i64 (rd l0 x7_1)] rfl (by (try simp only [List.map_toArray, List.map_cons, List.map_nil]); first | done | rfl | (simp only [List.length_drop, List.length_take]; rfl)) ?_; (with_reducible refine (solventref07_Number.calls k1 (rd l0 x7_1) t143 _ A5.out).mono ?_); rintro e w8 ⟨rfl, hb⟩; refine ⟨_, rfl, ?_⟩; have n0_ := Aside0.mk (below_step (by repeat (first | (with_reducible first | exact HB.out | apply below_alloc | apply pw_below_drewN | apply below_drew1) | exact HB.out)) hb); clear HB; have HB := n0_; clear n0_; (try clear hb); (try clear hb2); (try clear hk); (try clear hi); have p144 : 0 ≤ (x7_1 : Int) := of_decide_eq_true (by first | (with_reducible assumption) | assumption); have q144 : x7_1 < (l0.length : Int) := of_decide_eq_true (by first | (with_reducible assumption) | assumption); obtain ⟨ad144, e144, hx144_0⟩ := Kd.at_int HR0.out x7_1 p144 q144; obtain rfl : ad142 = ad144 := (by injection e144); replace hx144_0 := (HB.out.cell (World.block_lt_of_cell? w _ hx144_0)).trans hx144_0; replace p144 := eq_true p144; replace q144 := eq_true q144))
                go_roundg k1
                case measure => have := HK1.out; omega
                case rel => exact ⟨((x3_1 ++ (⟨#[32]⟩ : ByteArray)) ++ t143), (x4_1), (x5_1), (true), (wrap64 (x7_1 + 1)), (by first | rfl | (simp; done) | (simp [*]; done)), (by first | rfl | (simp; done) | (simp [*]; done)), (by first | rfl | (simp; done) | (simp [*]; done)), (by first | rfl | (simp; done) | (simp [*]; done)), (by first | rfl | (simp; done) | (simp [*]; done)), H', ⟨by have := HK1.out; omega⟩, ⟨by repeat (first | (with_reducible first | exact HB.out | apply below_alloc | apply pw_below_drewN | apply below_drew1) | exact HB.out)⟩⟩
              · rw [if_neg c7] at H
                have c7b0 : ((rd l0 x7_1) == 0) = false := beq_eq_false_iff_ne.mpr c7
                have c7b1 : ((rd l0 x7_1) != 0) = true := bne_iff_ne.mpr c7
                by_cases c9 : x4_1.size + 1 ≤ 9223372036854775807
                · rw [if_pos c9] at H
                  have c9b0 := eq_true c9
                  have c9b1 : decide (x4_1.size + 1 ≤ 9223372036854775807) = true := decide_eq_true c9
                  try have c9b2 : (9223372036854775807 < x4_1.size + 1) = False := eq_false (Nat.not_lt.2 c9)
                  replace H := Option.bind_eq_some_iff.mp H
                  obtain ⟨t145, A100, H⟩ := H
                  replace H : (if (x4_1 ++ (⟨#[32]⟩ : ByteArray)).size + t145.size ≤ 9223372036854775807 then (if x5_1.size + 1 ≤ 9223372036854775807 then ((solventref07_Number.f k1 (rd l0 x7_1)).bind fun t147 => (if (x5_1 ++ (⟨#[32]⟩ : ByteArray)).size + t147.size ≤ 9223372036854775807 then (solventref07_row.l0 k1 l0 ((x3_1 ++ (⟨#[32]⟩ : ByteArray)) ++ t143) ((x4_1 ++ (⟨#[32]⟩ : ByteArray)) ++ t145) ((x5_1 ++ (⟨#[32]⟩ : ByteArray)) ++ t147) x6_1 (wrap64 (x7_1 + 1))) else (none))) else (none)) else (none)) = some r := H
                  have A10 := Aside0.mk A100
                  clear A100
                  by_cases c11 : (x4_1 ++ (⟨#[32]⟩ : ByteArray)).size + t145.size ≤ 9223372036854775807
                  · rw [if_pos c11] at H
                    have c11b0 := eq_true c11
                    have c11b1 : decide ((x4_1 ++ (⟨#[32]⟩ : ByteArray)).size + t145.size ≤ 9223372036854775807) = true := decide_eq_true c11
                    try have c11b2 : (9223372036854775807 < (x4_1 ++ (⟨#[32]⟩ : ByteArray)).size + t145.size) = False := eq_false (Nat.not_lt.2 c11)
                    have c11b3 := eq_false (Nat.not_lt.2 c11); simp only [ByteArray.size_append, bsz, List.length_cons, List.length_nil, Nat.reduceAdd] at c11b3
                    by_cases c12 : x5_1.size + 1 ≤ 9223372036854775807
                    · rw [if_pos c12] at H
                      have c12b0 := eq_true c12
                      have c12b1 : decide (x5_1.size + 1 ≤ 9223372036854775807) = true := decide_eq_true c12
                      try have c12b2 : (9223372036854775807 < x5_1.size + 1) = False := eq_false (Nat.not_lt.2 c12)
                      replace H := Option.bind_eq_some_iff.mp H
                      obtain ⟨t147, A130, H⟩ := H
                      replace H : (if (x5_1 ++ (⟨#[32]⟩ : ByteArray)).size + t147.size ≤ 9223372036854775807 then (solventref07_row.l0 k1 l0 ((x3_1 ++ (⟨#[32]⟩ : ByteArray)) ++ t143) ((x4_1 ++ (⟨#[32]⟩ : ByteArray)) ++ t145) ((x5_1 ++ (⟨#[32]⟩ : ByteArray)) ++ t147) x6_1 (wrap64 (x7_1 + 1))) else (none)) = some r := H
                      have A13 := Aside0.mk A130
                      clear A130
                      by_cases c14 : (x5_1 ++ (⟨#[32]⟩ : ByteArray)).size + t147.size ≤ 9223372036854775807
                      · rw [if_pos c14] at H
                        have c14b0 := eq_true c14
                        have c14b1 : decide ((x5_1 ++ (⟨#[32]⟩ : ByteArray)).size + t147.size ≤ 9223372036854775807) = true := decide_eq_true c14
                        try have c14b2 : (9223372036854775807 < (x5_1 ++ (⟨#[32]⟩ : ByteArray)).size + t147.size) = False := eq_false (Nat.not_lt.2 c14)
                        have c14b3 := eq_false (Nat.not_lt.2 c14); simp only [ByteArray.size_append, bsz, List.length_cons, List.length_nil, Nat.reduceAdd] at c14b3
                        have H' := Aside0.mk H
                        clear H
                        have p142 : 0 ≤ (x7_1 : Int) := of_decide_eq_true (by first | (with_reducible assumption) | assumption)
                        have q142 : x7_1 < (l0.length : Int) := of_decide_eq_true (by first | (with_reducible assumption) | assumption)
                        obtain ⟨ad142, e142, hx142_0⟩ := Kd.at_int HR0.out x7_1 p142 q142
                        cases e142
                        replace hx142_0 := (HB.out.cell (World.block_lt_of_cell? w _ hx142_0)).trans hx142_0
                        replace p142 := eq_true p142
                        replace q142 := eq_true q142
                        go_wp2_with (first | ((with_reducible refine gate_callee (f := 31) rfl ?_); refine goesL_ (some 20) rfl rfl Tryd.func31 (by kernel_rfl) rfl #[.int .i64 (rd l0 x7_1)] rfl (by (try simp only [List.map_toArray, List.map_cons, List.map_nil]); first | done | rfl | (simp only [List.length_drop, List.length_take]; rfl)) ?_; (with_reducible refine (solventref07_Number.calls k1 (rd l0 x7_1) t143 _ A5.out).mono ?_); rintro e w15 ⟨rfl, hb⟩; refine ⟨_, rfl, ?_⟩; have n0_ := Aside0.mk (below_step (by repeat (first | (with_reducible first | exact HB.out | apply below_alloc | apply pw_below_drewN | apply below_drew1) | exact HB.out)) hb); clear HB; have HB := n0_; clear n0_; (try clear hb); (try clear hb2); (try clear hk); (try clear hi); have p144 : 0 ≤ (x7_1 : Int) := of_decide_eq_true (by first | (with_reducible assumption) | assumption); have q144 : x7_1 < (l0.length : Int) := of_decide_eq_true (by first | (with_reducible assumption) | assumption); obtain ⟨ad144, e144, hx144_0⟩ := Kd.at_int HR0.out x7_1 p144 q144; obtain rfl : ad142 = ad144 := (by injection e144); replace hx144_0 := (HB.out.cell (World.block_lt_of_cell? w _ hx144_0)).trans hx144_0; replace p144 := eq_true p144; replace q144 := eq_true q144) | ((with_reducible refine gate_callee (f := 31) rfl ?_); refine goesL_ (some 30) rfl rfl Tryd.func31 (by kernel_rfl) rfl #[.int .i64 x7_1] rfl (by (try simp only [List.map_toArray, List.map_cons, List.map_nil]); first | done | rfl | (simp only [List.length_drop, List.length_take]; rfl)) ?_; (with_reducible refine (solventref07_Number.calls k1 x7_1 t145 _ A10.out).mono ?_); rintro e w16 ⟨rfl, hb⟩; refine ⟨_, rfl, ?_⟩; have n0_ := Aside0.mk (below_step (by repeat (first | (with_reducible first | exact HB.out | apply below_alloc | apply pw_below_drewN | apply below_drew1) | exact HB.out)) hb); clear HB; have HB := n0_; clear n0_; (try clear hb); (try clear hb2); (try clear hk); (try clear hi); have p146 : 0 ≤ (x7_1 : Int) := of_decide_eq_true (by first | (with_reducible assumption) | assumption); have q146 : x7_1 < (l0.length : Int) := of_decide_eq_true (by first | (with_reducible assumption) | assumption); obtain ⟨ad146, e146, hx146_0⟩ := Kd.at_int HR0.out x7_1 p146 q146; obtain rfl : ad142 = ad146 := (by injection e146); replace hx146_0 := (HB.out.cell (World.block_lt_of_cell? w _ hx146_0)).trans hx146_0; replace p146 := eq_true p146; replace q146 := eq_true q146) | ((with_reducible refine gate_callee (f := 31) rfl ?_); refine goesL_ (some 38) rfl rfl Tryd.func31 (by kernel_rfl) rfl #[.int .i64 (rd l0 x7_1)] rfl (by (try simp only [List.map_toArray, List.map_cons, List.map_nil]); first | done | rfl | (simp only [List.length_drop, List.length_take]; rfl)) ?_; (with_reducible refine (solventref07_Number.calls k1 (rd l0 x7_1) t147 _ A13.out).mono ?_); rintro e w17 ⟨rfl, hb⟩; refine ⟨_, rfl, ?_⟩; have n0_ := Aside0.mk (below_step (by repeat (first | (with_reducible first | exact HB.out | apply below_alloc | apply pw_below_drewN | apply below_drew1) | exact HB.out)) hb); clear HB; have HB := n0_; clear n0_; (try clear hb); (try clear hb2); (try clear hk); (try clear hi)))
                        go_roundg k1
                        case measure => have := HK1.out; omega
                        case rel => exact ⟨((x3_1 ++ (⟨#[32]⟩ : ByteArray)) ++ t143), ((x4_1 ++ (⟨#[32]⟩ : ByteArray)) ++ t145), ((x5_1 ++ (⟨#[32]⟩ : ByteArray)) ++ t147), (x6_1), (wrap64 (x7_1 + 1)), (by first | rfl | (simp; done) | (simp [*]; done)), (by first | rfl | (simp; done) | (simp [*]; done)), (by first | rfl | (simp; done) | (simp [*]; done)), (by first | rfl | (simp; done) | (simp [*]; done)), (by first | rfl | (simp; done) | (simp [*]; done)), H', ⟨by have := HK1.out; omega⟩, ⟨by repeat (first | (with_reducible first | exact HB.out | apply below_alloc | apply pw_below_drewN | apply below_drew1) | exact HB.out)⟩⟩
                      · rw [if_neg c14] at H
                        exact absurd H (by simp)
                    · rw [if_neg c12] at H
                      exact absurd H (by simp)
                  · rw [if_neg c11] at H
                    exact absurd H (by simp)
                · rw [if_neg c9] at H
                  exact absurd H (by simp)
            · rw [if_neg c6] at H
              exact absurd H (by simp)
          · rw [if_neg c4] at H
            exact absurd H (by simp)
        · rw [if_neg c3] at H
          exact absurd H (by simp)
      · rw [if_neg c2] at H
        have c2b0 : decide (x7_1 < (l0.length : Int)) = false := decide_eq_false c2
        clear c2
        by_cases c18 : x6_1 = true
        · subst c18
          have H1 : (if 5 + x4_1.size ≤ 9223372036854775807 then (if ((⟨#[108, 111, 99, 97, 108]⟩ : ByteArray) ++ x4_1).size + 1 ≤ 9223372036854775807 then (if (((⟨#[108, 111, 99, 97, 108]⟩ : ByteArray) ++ x4_1) ++ (⟨#[58]⟩ : ByteArray)).size + x5_1.size ≤ 9223372036854775807 then (if ((((⟨#[108, 111, 99, 97, 108]⟩ : ByteArray) ++ x4_1) ++ (⟨#[58]⟩ : ByteArray)) ++ x5_1).size + 1 ≤ 9223372036854775807 then (some (((((⟨#[108, 111, 99, 97, 108]⟩ : ByteArray) ++ x4_1) ++ (⟨#[58]⟩ : ByteArray)) ++ x5_1) ++ (⟨#[59]⟩ : ByteArray))) else (none)) else (none)) else (none)) else (none)) = some r := by rw [if_pos rfl] at H; exact H
          clear H
          have H := H1
          clear H1
          by_cases c19 : 5 + x4_1.size ≤ 9223372036854775807
          · rw [if_pos c19] at H
            have c19b0 := eq_true c19
            have c19b1 : decide (5 + x4_1.size ≤ 9223372036854775807) = true := decide_eq_true c19
            try have c19b2 : (9223372036854775807 < 5 + x4_1.size) = False := eq_false (Nat.not_lt.2 c19)
            by_cases c20 : ((⟨#[108, 111, 99, 97, 108]⟩ : ByteArray) ++ x4_1).size + 1 ≤ 9223372036854775807
            · rw [if_pos c20] at H
              have c20b0 := eq_true c20
              have c20b1 : decide (((⟨#[108, 111, 99, 97, 108]⟩ : ByteArray) ++ x4_1).size + 1 ≤ 9223372036854775807) = true := decide_eq_true c20
              try have c20b2 : (9223372036854775807 < ((⟨#[108, 111, 99, 97, 108]⟩ : ByteArray) ++ x4_1).size + 1) = False := eq_false (Nat.not_lt.2 c20)
              have c20b3 := eq_false (Nat.not_lt.2 c20); simp only [ByteArray.size_append, bsz, List.length_cons, List.length_nil, Nat.reduceAdd] at c20b3
              by_cases c21 : (((⟨#[108, 111, 99, 97, 108]⟩ : ByteArray) ++ x4_1) ++ (⟨#[58]⟩ : ByteArray)).size + x5_1.size ≤ 9223372036854775807
              · rw [if_pos c21] at H
                have c21b0 := eq_true c21
                have c21b1 : decide ((((⟨#[108, 111, 99, 97, 108]⟩ : ByteArray) ++ x4_1) ++ (⟨#[58]⟩ : ByteArray)).size + x5_1.size ≤ 9223372036854775807) = true := decide_eq_true c21
                try have c21b2 : (9223372036854775807 < (((⟨#[108, 111, 99, 97, 108]⟩ : ByteArray) ++ x4_1) ++ (⟨#[58]⟩ : ByteArray)).size + x5_1.size) = False := eq_false (Nat.not_lt.2 c21)
                have c21b3 := eq_false (Nat.not_lt.2 c21); simp only [ByteArray.size_append, bsz, List.length_cons, List.length_nil, Nat.reduceAdd] at c21b3
                by_cases c22 : ((((⟨#[108, 111, 99, 97, 108]⟩ : ByteArray) ++ x4_1) ++ (⟨#[58]⟩ : ByteArray)) ++ x5_1).size + 1 ≤ 9223372036854775807
                · rw [if_pos c22] at H
                  have c22b0 := eq_true c22
                  have c22b1 : decide (((((⟨#[108, 111, 99, 97, 108]⟩ : ByteArray) ++ x4_1) ++ (⟨#[58]⟩ : ByteArray)) ++ x5_1).size + 1 ≤ 9223372036854775807) = true := decide_eq_true c22
                  try have c22b2 : (9223372036854775807 < ((((⟨#[108, 111, 99, 97, 108]⟩ : ByteArray) ++ x4_1) ++ (⟨#[58]⟩ : ByteArray)) ++ x5_1).size + 1) = False := eq_false (Nat.not_lt.2 c22)
                  have c22b3 := eq_false (Nat.not_lt.2 c22); simp only [ByteArray.size_append, bsz, List.length_cons, List.length_nil, Nat.reduceAdd] at c22b3
                  obtain rfl := Option.some.inj H
                  go_wp2
                  go_ret
                  exact ⟨by first | rfl | (simp [errW_none, errW_some] <;> rfl) | (simp [*, errW_none, errW_some] <;> rfl), by repeat (first | (with_reducible first | exact HB.out | apply below_alloc | apply pw_below_drewN | apply below_drew1) | exact HB.out)⟩
                · rw [if_neg c22] at H
                  exact absurd H (by simp)
              · rw [if_neg c21] at H
                exact absurd H (by simp)
            · rw [if_neg c20] at H
              exact absurd H (by simp)
          · rw [if_neg c19] at H
            exact absurd H (by simp)
        · replace c18 := Bool.eq_false_iff.mpr c18
          subst c18
          have H1 : (if 6 + x3_1.size ≤ 9223372036854775807 then (if ((⟨#[112, 97, 114, 105, 116, 121]⟩ : ByteArray) ++ x3_1).size + 1 ≤ 9223372036854775807 then (some (((⟨#[112, 97, 114, 105, 116, 121]⟩ : ByteArray) ++ x3_1) ++ (⟨#[59]⟩ : ByteArray))) else (none)) else (none)) = some r := by rw [if_neg (show ¬ (false = true) by decide)] at H; exact H
          clear H
          have H := H1
          clear H1
          by_cases c23 : 6 + x3_1.size ≤ 9223372036854775807
          · rw [if_pos c23] at H
            have c23b0 := eq_true c23
            have c23b1 : decide (6 + x3_1.size ≤ 9223372036854775807) = true := decide_eq_true c23
            try have c23b2 : (9223372036854775807 < 6 + x3_1.size) = False := eq_false (Nat.not_lt.2 c23)
            by_cases c24 : ((⟨#[112, 97, 114, 105, 116, 121]⟩ : ByteArray) ++ x3_1).size + 1 ≤ 9223372036854775807
            · rw [if_pos c24] at H
              have c24b0 := eq_true c24
              have c24b1 : decide (((⟨#[112, 97, 114, 105, 116, 121]⟩ : ByteArray) ++ x3_1).size + 1 ≤ 9223372036854775807) = true := decide_eq_true c24
              try have c24b2 : (9223372036854775807 < ((⟨#[112, 97, 114, 105, 116, 121]⟩ : ByteArray) ++ x3_1).size + 1) = False := eq_false (Nat.not_lt.2 c24)
              have c24b3 := eq_false (Nat.not_lt.2 c24); simp only [ByteArray.size_append, bsz, List.length_cons, List.length_nil, Nat.reduceAdd] at c24b3
              obtain rfl := Option.some.inj H
              go_wp2
              go_ret
              exact ⟨by first | rfl | (simp [errW_none, errW_some] <;> rfl) | (simp [*, errW_none, errW_some] <;> rfl), by repeat (first | (with_reducible first | exact HB.out | apply below_alloc | apply pw_below_drewN | apply below_drew1) | exact HB.out)⟩
            · rw [if_neg c24] at H
              exact absurd H (by simp)
          · rw [if_neg c23] at H
            exact absurd H (by simp)


/-! ### solventref07_Print: function 12 -/
def solventref07_Print.l0 : Nat → ByteArray → Int → ByteArray → Int → Int → List (List Int) → Int → Option (ByteArray × Int)
  | 0, _, _, _, _, _, _, _ => none
  | k + 1, x5, x6, x149000, x149001, x149002, x149003, x149004 => if x6 < (x149003.length : Int) then (if x5.size + 1 ≤ 9223372036854775807 then (if 0 ≤ x6 then ((solventref07_row.f k (rd_L1 x149003 x6)).bind fun t153 => (if (x5 ++ (⟨#[9]⟩ : ByteArray)).size + t153.size ≤ 9223372036854775807 then (if ((x5 ++ (⟨#[9]⟩ : ByteArray)) ++ t153).size + 1 ≤ 9223372036854775807 then (solventref07_Print.l0 k (((x5 ++ (⟨#[9]⟩ : ByteArray)) ++ t153) ++ (⟨#[10]⟩ : ByteArray)) (wrap64 (x6 + 1)) x149000 x149001 x149002 x149003 x149004) else (none)) else (none))) else (none)) else (none)) else (if x5.size + 8 ≤ 9223372036854775807 then ((solventref07_Number.f k x149004).bind fun t154 => (if (x5 ++ (⟨#[9, 100, 111, 109, 97, 105, 110, 32]⟩ : ByteArray)).size + t154.size ≤ 9223372036854775807 then (if ((x5 ++ (⟨#[9, 100, 111, 109, 97, 105, 110, 32]⟩ : ByteArray)) ++ t154).size + 4 ≤ 9223372036854775807 then (if ((((x5 ++ (⟨#[9, 100, 111, 109, 97, 105, 110, 32]⟩ : ByteArray)) ++ t154) ++ (⟨#[59, 10, 125, 10]⟩ : ByteArray)).size : Int) > 2000 then (some ((⟨#[]⟩ : ByteArray), 2)) else (some (((x5 ++ (⟨#[9, 100, 111, 109, 97, 105, 110, 32]⟩ : ByteArray)) ++ t154) ++ (⟨#[59, 10, 125, 10]⟩ : ByteArray), 0))) else (none)) else (none))) else (none))
def solventref07_Print.f (k : Nat) (a0_0 : ByteArray) (a0_1 : Int) (a0_2 : Int) (l0_3 : List (List Int)) (a0_4 : Int) : Option (ByteArray × Int) := (solventref07_Check.f k a0_0 a0_1 a0_2 l0_3 a0_4).bind fun t149 => (if t149 = 0 then (if 5 + a0_0.size ≤ 9223372036854775807 then (if ((⟨#[99, 111, 100, 101, 32]⟩ : ByteArray) ++ a0_0).size + 10 ≤ 9223372036854775807 then ((solventref07_Number.f k a0_1).bind fun t150 => (if (((⟨#[99, 111, 100, 101, 32]⟩ : ByteArray) ++ a0_0) ++ (⟨#[32, 123, 10, 9, 102, 105, 101, 108, 100, 32]⟩ : ByteArray)).size + t150.size ≤ 9223372036854775807 then (if ((((⟨#[99, 111, 100, 101, 32]⟩ : ByteArray) ++ a0_0) ++ (⟨#[32, 123, 10, 9, 102, 105, 101, 108, 100, 32]⟩ : ByteArray)) ++ t150).size + 8 ≤ 9223372036854775807 then ((solventref07_Number.f k a0_2).bind fun t151 => (if (((((⟨#[99, 111, 100, 101, 32]⟩ : ByteArray) ++ a0_0) ++ (⟨#[32, 123, 10, 9, 102, 105, 101, 108, 100, 32]⟩ : ByteArray)) ++ t150) ++ (⟨#[59, 10, 9, 100, 97, 116, 97, 32]⟩ : ByteArray)).size + t151.size ≤ 9223372036854775807 then (if ((((((⟨#[99, 111, 100, 101, 32]⟩ : ByteArray) ++ a0_0) ++ (⟨#[32, 123, 10, 9, 102, 105, 101, 108, 100, 32]⟩ : ByteArray)) ++ t150) ++ (⟨#[59, 10, 9, 100, 97, 116, 97, 32]⟩ : ByteArray)) ++ t151).size + 2 ≤ 9223372036854775807 then (solventref07_Print.l0 k (((((((⟨#[99, 111, 100, 101, 32]⟩ : ByteArray) ++ a0_0) ++ (⟨#[32, 123, 10, 9, 102, 105, 101, 108, 100, 32]⟩ : ByteArray)) ++ t150) ++ (⟨#[59, 10, 9, 100, 97, 116, 97, 32]⟩ : ByteArray)) ++ t151) ++ (⟨#[59, 10]⟩ : ByteArray)) 0 a0_0 a0_1 a0_2 l0_3 a0_4) else (none)) else (none))) else (none)) else (none))) else (none)) else (none)) else (some ((⟨#[]⟩ : ByteArray), t149)))
theorem solventref07_Print.mono_l : ∀ k, (∀ y0 y1 y2 y3 y4 y5 y6, LeO (solventref07_Print.l0 k y0 y1 y2 y3 y4 y5 y6) (solventref07_Print.l0 (k + 1) y0 y1 y2 y3 y4 y5 y6))
  | 0 => fun _ _ _ _ _ _ _ r h => by simp [solventref07_Print.l0] at h
  | k + 1 => by
    have ih0 := solventref07_Print.mono_l k
    · intro y0 y1 y2 y3 y4 y5 y6
      unfold solventref07_Print.l0
      repeat' first
      | (with_reducible exact ih0 _ _ _ _ _ _ _)
      | (with_reducible exact solventref07_Check.mono _ _ _ _ _ _)
      | (with_reducible exact solventref07_Number.mono _ _)
      | (with_reducible exact solventref07_row.mono _ _)
      | (with_reducible exact LeO.refl _)
      | (with_reducible exact LeO.none _)
      | (with_reducible refine LeO.ite ?_ ?_)
      | (with_reducible refine LeO.bind ?_ (fun _ => ?_))
      | exact ih0 _ _ _ _ _ _ _
      | exact solventref07_Check.mono _ _ _ _ _ _
      | exact solventref07_Number.mono _ _
      | exact solventref07_row.mono _ _
      | exact LeO.none _
      | refine LeO.ite ?_ ?_
      | refine LeO.bind ?_ (fun _ => ?_)
theorem solventref07_Print.mono : ∀ a0 a1 a2 a3 a4 k, LeO (solventref07_Print.f k a0 a1 a2 a3 a4) (solventref07_Print.f (k + 1) a0 a1 a2 a3 a4) := by
  intro a0 a1 a2 a3 a4 k
  have ih0 := solventref07_Print.mono_l k
  unfold solventref07_Print.f
  repeat' first
      | (with_reducible exact ih0 _ _ _ _ _ _ _)
      | (with_reducible exact solventref07_Check.mono _ _ _ _ _ _)
      | (with_reducible exact solventref07_Number.mono _ _)
      | (with_reducible exact solventref07_row.mono _ _)
      | (with_reducible exact LeO.refl _)
      | (with_reducible exact LeO.none _)
      | (with_reducible refine LeO.ite ?_ ?_)
      | (with_reducible refine LeO.bind ?_ (fun _ => ?_))
      | exact ih0 _ _ _ _ _ _ _
      | exact solventref07_Check.mono _ _ _ _ _ _
      | exact solventref07_Number.mono _ _
      | exact solventref07_row.mono _ _
      | exact LeO.none _
      | refine LeO.ite ?_ ?_
      | refine LeO.bind ?_ (fun _ => ?_)
def solventref07_Print.T4 : Bool × List (List Nat × List Nat) := (true, [([], []), ([0], [0]), ([1], [1]), ([2], [2]), ([], []), ([4], [4]), ([5], [5]), ([3, 6], [3, 6]), ([7], [7]), ([], []), ([9], [9]), ([10, 6], [10]), ([8, 11], [8, 11]), ([12], [12]), ([13, 11, 0, 1, 2, 3, 4, 5, 6, 7, 8, 9, 10, 11, 12, 13], [13])])
def solventref07_Print.B4 : List Nat := [0, 1, 3, 7, 0, 16, 48, 127, 255, 0, 512, 1648, 4095, 8191, 16383]
theorem solventref07_Print.tab4 : rtab .any (opsOf Tryd.f12 4) = solventref07_Print.T4 := by kernel_rfl
theorem solventref07_Print.bits4 : waitsOk solventref07_Print.T4.2 solventref07_Print.B4 = true := by kernel_rfl
set_option maxHeartbeats 8000000 in
set_option maxRecDepth 100000 in
theorem solventref07_Print.calls (k : Nat) (a0_0 : ByteArray) (a0_1 : Int) (a0_2 : Int) (A0_3 : Option Addr) (c0_3 : Nat) (l0_3 : List (List Int)) (a0_4 : Int) (r1 : ByteArray) (r2 : Int) (w : World) (hr0_3 : Kd.C (Kd.slice 3 (Kd.int .i64)) w A0_3 l0_3.length l0_3) (hc0_3 : l0_3.length ≤ c0_3) (h : solventref07_Print.f k a0_0 a0_1 a0_2 l0_3 a0_4 = some (r1, r2)) :
    Calls Tryd.prog 12 #[.agg #[.string a0_0, .int .i64 a0_1, .int .i64 a0_2, .slice A0_3 l0_3.length c0_3, .int .i64 a0_4]] w fun e w' => e = .returned (.tuple #[.string r1, .int .i64 r2]) ∧ Below w.heap.size w w' := by
  have hu24 := Tryd.underlying24
  have HR0_3 := Aside0.mk hr0_3
  have HC0_3 := Aside0.mk hc0_3
  clear hr0_3 hc0_3
  have HB := Aside0.mk (Below.refl w.heap.size w)
  have H : ((solventref07_Check.f k a0_0 a0_1 a0_2 l0_3 a0_4).bind fun t149 => (if t149 = 0 then (if 5 + a0_0.size ≤ 9223372036854775807 then (if ((⟨#[99, 111, 100, 101, 32]⟩ : ByteArray) ++ a0_0).size + 10 ≤ 9223372036854775807 then ((solventref07_Number.f k a0_1).bind fun t150 => (if (((⟨#[99, 111, 100, 101, 32]⟩ : ByteArray) ++ a0_0) ++ (⟨#[32, 123, 10, 9, 102, 105, 101, 108, 100, 32]⟩ : ByteArray)).size + t150.size ≤ 9223372036854775807 then (if ((((⟨#[99, 111, 100, 101, 32]⟩ : ByteArray) ++ a0_0) ++ (⟨#[32, 123, 10, 9, 102, 105, 101, 108, 100, 32]⟩ : ByteArray)) ++ t150).size + 8 ≤ 9223372036854775807 then ((solventref07_Number.f k a0_2).bind fun t151 => (if (((((⟨#[99, 111, 100, 101, 32]⟩ : ByteArray) ++ a0_0) ++ (⟨#[32, 123, 10, 9, 102, 105, 101, 108, 100, 32]⟩ : ByteArray)) ++ t150) ++ (⟨#[59, 10, 9, 100, 97, 116, 97, 32]⟩ : ByteArray)).size + t151.size ≤ 9223372036854775807 then (if ((((((⟨#[99, 111, 100, 101, 32]⟩ : ByteArray) ++ a0_0) ++ (⟨#[32, 123, 10, 9, 102, 105, 101, 108, 100, 32]⟩ : ByteArray)) ++ t150) ++ (⟨#[59, 10, 9, 100, 97, 116, 97, 32]⟩ : ByteArray)) ++ t151).size + 2 ≤ 9223372036854775807 then (solventref07_Print.l0 k (((((((⟨#[99, 111, 100, 101, 32]⟩ : ByteArray) ++ a0_0) ++ (⟨#[32, 123, 10, 9, 102, 105, 101, 108, 100, 32]⟩ : ByteArray)) ++ t150) ++ (⟨#[59, 10, 9, 100, 97, 116, 97, 32]⟩ : ByteArray)) ++ t151) ++ (⟨#[59, 10]⟩ : ByteArray)) 0 a0_0 a0_1 a0_2 l0_3 a0_4) else (none)) else (none))) else (none)) else (none))) else (none)) else (none)) else (some ((⟨#[]⟩ : ByteArray), t149)))) = some (r1, r2) := h
  clear h
  replace H := Option.bind_eq_some_iff.mp H
  obtain ⟨t149, A20, H⟩ := H
  replace H : (if t149 = 0 then (if 5 + a0_0.size ≤ 9223372036854775807 then (if ((⟨#[99, 111, 100, 101, 32]⟩ : ByteArray) ++ a0_0).size + 10 ≤ 9223372036854775807 then ((solventref07_Number.f k a0_1).bind fun t150 => (if (((⟨#[99, 111, 100, 101, 32]⟩ : ByteArray) ++ a0_0) ++ (⟨#[32, 123, 10, 9, 102, 105, 101, 108, 100, 32]⟩ : ByteArray)).size + t150.size ≤ 9223372036854775807 then (if ((((⟨#[99, 111, 100, 101, 32]⟩ : ByteArray) ++ a0_0) ++ (⟨#[32, 123, 10, 9, 102, 105, 101, 108, 100, 32]⟩ : ByteArray)) ++ t150).size + 8 ≤ 9223372036854775807 then ((solventref07_Number.f k a0_2).bind fun t151 => (if (((((⟨#[99, 111, 100, 101, 32]⟩ : ByteArray) ++ a0_0) ++ (⟨#[32, 123, 10, 9, 102, 105, 101, 108, 100, 32]⟩ : ByteArray)) ++ t150) ++ (⟨#[59, 10, 9, 100, 97, 116, 97, 32]⟩ : ByteArray)).size + t151.size ≤ 9223372036854775807 then (if ((((((⟨#[99, 111, 100, 101, 32]⟩ : ByteArray) ++ a0_0) ++ (⟨#[32, 123, 10, 9, 102, 105, 101, 108, 100, 32]⟩ : ByteArray)) ++ t150) ++ (⟨#[59, 10, 9, 100, 97, 116, 97, 32]⟩ : ByteArray)) ++ t151).size + 2 ≤ 9223372036854775807 then (solventref07_Print.l0 k (((((((⟨#[99, 111, 100, 101, 32]⟩ : ByteArray) ++ a0_0) ++ (⟨#[32, 123, 10, 9, 102, 105, 101, 108, 100, 32]⟩ : ByteArray)) ++ t150) ++ (⟨#[59, 10, 9, 100, 97, 116, 97, 32]⟩ : ByteArray)) ++ t151) ++ (⟨#[59, 10]⟩ : ByteArray)) 0 a0_0 a0_1 a0_2 l0_3 a0_4) else (none)) else (none))) else (none)) else (none))) else (none)) else (none)) else (some ((⟨#[]⟩ : ByteArray), t149))) = some (r1, r2) := H
  have A2 := Aside0.mk A20
  clear A20
  by_cases c3 : t149 = 0
  · rw [if_pos c3] at H
    have c3b0 : (t149 == 0) = true := beq_iff_eq.mpr c3
    have c3b1 : (t149 != 0) = false := bne_eq_false_iff_eq.mpr c3
    clear c3
    by_cases c4 : 5 + a0_0.size ≤ 9223372036854775807
    · rw [if_pos c4] at H
      have c4b0 := eq_true c4
      have c4b1 : decide (5 + a0_0.size ≤ 9223372036854775807) = true := decide_eq_true c4
      try have c4b2 : (9223372036854775807 < 5 + a0_0.size) = False := eq_false (Nat.not_lt.2 c4)
      by_cases c5 : ((⟨#[99, 111, 100, 101, 32]⟩ : ByteArray) ++ a0_0).size + 10 ≤ 9223372036854775807
      · rw [if_pos c5] at H
        have c5b0 := eq_true c5
        have c5b1 : decide (((⟨#[99, 111, 100, 101, 32]⟩ : ByteArray) ++ a0_0).size + 10 ≤ 9223372036854775807) = true := decide_eq_true c5
        try have c5b2 : (9223372036854775807 < ((⟨#[99, 111, 100, 101, 32]⟩ : ByteArray) ++ a0_0).size + 10) = False := eq_false (Nat.not_lt.2 c5)
        have c5b3 := eq_false (Nat.not_lt.2 c5); simp only [ByteArray.size_append, bsz, List.length_cons, List.length_nil, Nat.reduceAdd] at c5b3
        replace H := Option.bind_eq_some_iff.mp H
        obtain ⟨t150, A60, H⟩ := H
        replace H : (if (((⟨#[99, 111, 100, 101, 32]⟩ : ByteArray) ++ a0_0) ++ (⟨#[32, 123, 10, 9, 102, 105, 101, 108, 100, 32]⟩ : ByteArray)).size + t150.size ≤ 9223372036854775807 then (if ((((⟨#[99, 111, 100, 101, 32]⟩ : ByteArray) ++ a0_0) ++ (⟨#[32, 123, 10, 9, 102, 105, 101, 108, 100, 32]⟩ : ByteArray)) ++ t150).size + 8 ≤ 9223372036854775807 then ((solventref07_Number.f k a0_2).bind fun t151 => (if (((((⟨#[99, 111, 100, 101, 32]⟩ : ByteArray) ++ a0_0) ++ (⟨#[32, 123, 10, 9, 102, 105, 101, 108, 100, 32]⟩ : ByteArray)) ++ t150) ++ (⟨#[59, 10, 9, 100, 97, 116, 97, 32]⟩ : ByteArray)).size + t151.size ≤ 9223372036854775807 then (if ((((((⟨#[99, 111, 100, 101, 32]⟩ : ByteArray) ++ a0_0) ++ (⟨#[32, 123, 10, 9, 102, 105, 101, 108, 100, 32]⟩ : ByteArray)) ++ t150) ++ (⟨#[59, 10, 9, 100, 97, 116, 97, 32]⟩ : ByteArray)) ++ t151).size + 2 ≤ 9223372036854775807 then (solventref07_Print.l0 k (((((((⟨#[99, 111, 100, 101, 32]⟩ : ByteArray) ++ a0_0) ++ (⟨#[32, 123, 10, 9, 102, 105, 101, 108, 100, 32]⟩ : ByteArray)) ++ t150) ++ (⟨#[59, 10, 9, 100, 97, 116, 97, 32]⟩ : ByteArray)) ++ t151) ++ (⟨#[59, 10]⟩ : ByteArray)) 0 a0_0 a0_1 a0_2 l0_3 a0_4) else (none)) else (none))) else (none)) else (none)) = some (r1, r2) := H
        have A6 := Aside0.mk A60
        clear A60
        by_cases c7 : (((⟨#[99, 111, 100, 101, 32]⟩ : ByteArray) ++ a0_0) ++ (⟨#[32, 123, 10, 9, 102, 105, 101, 108, 100, 32]⟩ : ByteArray)).size + t150.size ≤ 9223372036854775807
        · rw [if_pos c7] at H
          have c7b0 := eq_true c7
          have c7b1 : decide ((((⟨#[99, 111, 100, 101, 32]⟩ : ByteArray) ++ a0_0) ++ (⟨#[32, 123, 10, 9, 102, 105, 101, 108, 100, 32]⟩ : ByteArray)).size + t150.size ≤ 9223372036854775807) = true := decide_eq_true c7
          try have c7b2 : (9223372036854775807 < (((⟨#[99, 111, 100, 101, 32]⟩ : ByteArray) ++ a0_0) ++ (⟨#[32, 123, 10, 9, 102, 105, 101, 108, 100, 32]⟩ : ByteArray)).size + t150.size) = False := eq_false (Nat.not_lt.2 c7)
          have c7b3 := eq_false (Nat.not_lt.2 c7); simp only [ByteArray.size_append, bsz, List.length_cons, List.length_nil, Nat.reduceAdd] at c7b3
          by_cases c8 : ((((⟨#[99, 111, 100, 101, 32]⟩ : ByteArray) ++ a0_0) ++ (⟨#[32, 123, 10, 9, 102, 105, 101, 108, 100, 32]⟩ : ByteArray)) ++ t150).size + 8 ≤ 9223372036854775807
          · rw [if_pos c8] at H
            have c8b0 := eq_true c8
            have c8b1 : decide (((((⟨#[99, 111, 100, 101, 32]⟩ : ByteArray) ++ a0_0) ++ (⟨#[32, 123, 10, 9, 102, 105, 101, 108, 100, 32]⟩ : ByteArray)) ++ t150).size + 8 ≤ 9223372036854775807) = true := decide_eq_true c8
            try have c8b2 : (9223372036854775807 < ((((⟨#[99, 111, 100, 101, 32]⟩ : ByteArray) ++ a0_0) ++ (⟨#[32, 123, 10, 9, 102, 105, 101, 108, 100, 32]⟩ : ByteArray)) ++ t150).size + 8) = False := eq_false (Nat.not_lt.2 c8)
            have c8b3 := eq_false (Nat.not_lt.2 c8); simp only [ByteArray.size_append, bsz, List.length_cons, List.length_nil, Nat.reduceAdd] at c8b3
            replace H := Option.bind_eq_some_iff.mp H
            obtain ⟨t151, A90, H⟩ := H
            replace H : (if (((((⟨#[99, 111, 100, 101, 32]⟩ : ByteArray) ++ a0_0) ++ (⟨#[32, 123, 10, 9, 102, 105, 101, 108, 100, 32]⟩ : ByteArray)) ++ t150) ++ (⟨#[59, 10, 9, 100, 97, 116, 97, 32]⟩ : ByteArray)).size + t151.size ≤ 9223372036854775807 then (if ((((((⟨#[99, 111, 100, 101, 32]⟩ : ByteArray) ++ a0_0) ++ (⟨#[32, 123, 10, 9, 102, 105, 101, 108, 100, 32]⟩ : ByteArray)) ++ t150) ++ (⟨#[59, 10, 9, 100, 97, 116, 97, 32]⟩ : ByteArray)) ++ t151).size + 2 ≤ 9223372036854775807 then (solventref07_Print.l0 k (((((((⟨#[99, 111, 100, 101, 32]⟩ : ByteArray) ++ a0_0) ++ (⟨#[32, 123, 10, 9, 102, 105, 101, 108, 100, 32]⟩ : ByteArray)) ++ t150) ++ (⟨#[59, 10, 9, 100, 97, 116, 97, 32]⟩ : ByteArray)) ++ t151) ++ (⟨#[59, 10]⟩ : ByteArray)) 0 a0_0 a0_1 a0_2 l0_3 a0_4) else (none)) else (none)) = some (r1, r2) := H
            have A9 := Aside0.mk A90
            clear A90
            by_cases c10 : (((((⟨#[99, 111, 100, 101, 32]⟩ : ByteArray) ++ a0_0) ++ (⟨#[32, 123, 10, 9, 102, 105, 101, 108, 100, 32]⟩ : ByteArray)) ++ t150) ++ (⟨#[59, 10, 9, 100, 97, 116, 97, 32]⟩ : ByteArray)).size + t151.size ≤ 9223372036854775807
            · rw [if_pos c10] at H
              have c10b0 := eq_true c10
              have c10b1 : decide ((((((⟨#[99, 111, 100, 101, 32]⟩ : ByteArray) ++ a0_0) ++ (⟨#[32, 123, 10, 9, 102, 105, 101, 108, 100, 32]⟩ : ByteArray)) ++ t150) ++ (⟨#[59, 10, 9, 100, 97, 116, 97, 32]⟩ : ByteArray)).size + t151.size ≤ 9223372036854775807) = true := decide_eq_true c10
              try have c10b2 : (9223372036854775807 < (((((⟨#[99, 111, 100, 101, 32]⟩ : ByteArray) ++ a0_0) ++ (⟨#[32, 123, 10, 9, 102, 105, 101, 108, 100, 32]⟩ : ByteArray)) ++ t150) ++ (⟨#[59, 10, 9, 100, 97, 116, 97, 32]⟩ : ByteArray)).size + t151.size) = False := eq_false (Nat.not_lt.2 c10)
              have c10b3 := eq_false (Nat.not_lt.2 c10); simp only [ByteArray.size_append, bsz, List.length_cons, List.length_nil, Nat.reduceAdd] at c10b3
              by_cases c11 : ((((((⟨#[99, 111, 100, 101, 32]⟩ : ByteArray) ++ a0_0) ++ (⟨#[32, 123, 10, 9, 102, 105, 101, 108, 100, 32]⟩ : ByteArray)) ++ t150) ++ (⟨#[59, 10, 9, 100, 97, 116, 97, 32]⟩ : ByteArray)) ++ t151).size + 2 ≤ 9223372036854775807
              · rw [if_pos c11] at H
                have c11b0 := eq_true c11
                have c11b1 : decide (((((((⟨#[99, 111, 100, 101, 32]⟩ : ByteArray) ++ a0_0) ++ (⟨#[32, 123, 10, 9, 102, 105, 101, 108, 100, 32]⟩ : ByteArray)) ++ t150) ++ (⟨#[59, 10, 9, 100, 97, 116, 97, 32]⟩ : ByteArray)) ++ t151).size + 2 ≤ 9223372036854775807) = true := decide_eq_true c11
                try have c11b2 : (9223372036854775807 < ((((((⟨#[99, 111, 100, 101, 32]⟩ : ByteArray) ++ a0_0) ++ (⟨#[32, 123, 10, 9, 102, 105, 101, 108, 100, 32]⟩ : ByteArray)) ++ t150) ++ (⟨#[59, 10, 9, 100, 97, 116, 97, 32]⟩ : ByteArray)) ++ t151).size + 2) = False := eq_false (Nat.not_lt.2 c11)
                have c11b3 := eq_false (Nat.not_lt.2 c11); simp only [ByteArray.size_append, bsz, List.length_cons, List.length_nil, Nat.reduceAdd] at c11b3
                have H' := Aside0.mk H
                clear H
                go_enter Tryd.func12, Tryd.ntmps12
                try go_wp2_with (first | ((with_reducible refine gate_dst (N := 1) rfl ?_); refine box_event ?hg (N := 1) ?hd (cs := #[.string a0_0, .int .i64 a0_1, .int .i64 a0_2, .slice A0_3 l0_3.length c0_3, .int .i64 a0_4]) (t := 24) ?hr ?_; (case hd => rfl); (case hg => rfl); (case hr => first | (go_simp; done) | (go_simp; rfl)); intro gb148 hg w12 hbox hb; have n0_ := Aside0.mk (below_step (by repeat (first | (with_reducible first | exact HB.out | apply below_alloc | apply pw_below_drewN | apply below_drew1) | exact HB.out)) hb); have n1_ := Aside0.mk (hbox); have n2_ := Aside0.mk ((by rw [hg]; exact (below_size (by repeat (first | (with_reducible first | exact HB.out | apply below_alloc | apply pw_below_drewN | apply below_drew1) | exact HB.out))) : w.heap.size ≤ gb148)); have n3_ := Aside0.mk ((by rw [hg]; exact (below_size (by repeat (first | (with_reducible first | exact HB.out | apply below_alloc | apply pw_below_drewN | apply below_drew1) | exact HB.out))) : w.heap.size ≤ gb148)); clear HB; have HB := n0_; have BK148 := n1_; have GW148 := n2_; have GE148 := n3_; clear n0_ n1_ n2_ n3_; clear hb hbox hg; have hcz13_0 : w12.cell? ⟨gb148, 0, none⟩ = some (.string a0_0) := (blk_cell BK148.out 0).trans rfl; have hcz13_1 : w12.cell? ⟨gb148, 1, none⟩ = some (.int .i64 a0_1) := (blk_cell BK148.out 1).trans rfl; have hcz13_2 : w12.cell? ⟨gb148, 2, none⟩ = some (.int .i64 a0_2) := (blk_cell BK148.out 2).trans rfl; have hcz13_3 : w12.cell? ⟨gb148, 3, none⟩ = some (.slice A0_3 l0_3.length c0_3) := (blk_cell BK148.out 3).trans rfl; have hcz13_4 : w12.cell? ⟨gb148, 4, none⟩ = some (.int .i64 a0_4) := (blk_cell BK148.out 4).trans rfl; have hfz13_0 := blk_frozen BK148.out 0; have hfz13_1 := blk_frozen BK148.out 1; have hfz13_2 := blk_frozen BK148.out 2; have hfz13_3 := blk_frozen BK148.out 3; have hfz13_4 := blk_frozen BK148.out 4) | ((with_reducible refine gate_callee (f := 15) rfl ?_); refine goesL_ (some 8) rfl rfl Tryd.func15 (by kernel_rfl) rfl #[.agg #[.string a0_0, .int .i64 a0_1, .int .i64 a0_2, .slice A0_3 l0_3.length c0_3, .int .i64 a0_4]] rfl (by (try simp only [List.map_toArray, List.map_cons, List.map_nil]); first | done | rfl | (simp only [List.length_drop, List.length_take]; rfl)) ?_; (with_reducible refine (solventref07_Check.calls k a0_0 a0_1 a0_2 _ _ l0_3 a0_4 t149 _ ?side1 ?side2 A2.out).mono ?_); (case side1 => repeat (first | exact (Kd.C_below HR0_3.out HB.out) | (with_reducible refine Kd.C_alloc ?_ _) | (with_reducible refine Kd.C_drewN ?_ _) | (with_reducible refine Kd.C_drew ?_))); (case side2 => exact HC0_3.out); rintro e w14 ⟨rfl, hb⟩; refine ⟨_, rfl, ?_⟩; have n0_ := Aside0.mk (blk_below (g := gb148) (o := .cells #[.string a0_0, .int .i64 a0_1, .int .i64 a0_2, .slice A0_3 l0_3.length c0_3, .int .i64 a0_4] 24 (0, 0)) (by (with_reducible repeat (first | refine blk_drewN ?_ _ | refine blk_drew ?_ | refine blk_alloc ?_ _)); exact BK148.out) hb); have n1_ := Aside0.mk (below_step (by repeat (first | (with_reducible first | exact HB.out | apply below_alloc | apply pw_below_drewN | apply below_drew1 | refine below_set ?_ GE148.out) | exact HB.out)) hb); clear BK148; clear HB; have BK148 := n0_; have HB := n1_; clear n0_ n1_; (try clear hb); (try clear hb2); (try clear hk); (try clear hi)))
                have n0_ := Aside0.mk (blk_drew BK148.out)
                have n1_ := Aside0.mk (below_drew1 HB.out)
                clear BK148
                clear HB
                have BK148 := n0_
                have HB := n1_
                clear n0_ n1_
                refine start_ (n := 15) (S := fun w' => w'.cell? ⟨gb148, 0, none⟩ = some (.string a0_0) ∧ w'.cell? ⟨gb148, 1, none⟩ = some (.int .i64 a0_1) ∧ w'.cell? ⟨gb148, 2, none⟩ = some (.int .i64 a0_2) ∧ w'.cell? ⟨gb148, 3, none⟩ = some (.slice A0_3 l0_3.length c0_3) ∧ w'.cell? ⟨gb148, 4, none⟩ = some (.int .i64 a0_4)) (ds := []) #[false, false, false, false, false, false, false, false, false, false, false, false, false, false, false] (by kernel_rfl) rfl rfl ⟨(blk_cell BK148.out 0).trans rfl, (blk_cell BK148.out 1).trans rfl, (blk_cell BK148.out 2).trans rfl, (blk_cell BK148.out 3).trans rfl, (blk_cell BK148.out 4).trans rfl⟩ (fun hHeld => ?_); refine with_tabW solventref07_Print.tab4 solventref07_Print.bits4 (fun HT_ HW_ => ?_)
                generalize w14.drew = w15 at BK148 HB hHeld ⊢
                refine pure_ (i := 0) (N := some 12) (v := ?_) (a' := ?_) #[true, false, false, false, false, false, false, false, false, false, false, false, false, false, false] rfl rfl (any_of HT_.out (by kernel_rfl)) (fun _ _ _ h => h) (Or.inl ⟨by rfl, ?_⟩) ?_ ?_
                rotate_left
                · intro w'
                  go_simp
                  with_reducible rfl
                rotate_left
                · simp only [Act.put, List.setIfInBounds_toArray, List.set_cons_zero, List.set_cons_succ, i64_w, i32_w]
                  rfl
                refine pure_ (i := 4) (N := some 16) (v := ?_) (a' := ?_) #[true, false, false, false, true, false, false, false, false, false, false, false, false, false, false] rfl rfl (any_of HT_.out (by kernel_rfl)) (fun _ _ _ h => h) (Or.inl ⟨by rfl, ?_⟩) ?_ ?_
                rotate_left
                · intro w'
                  go_simp
                  with_reducible rfl
                rotate_left
                · simp only [Act.put, List.setIfInBounds_toArray, List.set_cons_zero, List.set_cons_succ, i64_w, i32_w]
                  rfl
                refine pure_ (i := 9) (N := some 21) (v := ?_) (a' := ?_) #[true, false, false, false, true, false, false, false, false, true, false, false, false, false, false] rfl rfl (any_of HT_.out (by kernel_rfl)) (fun _ _ _ h => h) (Or.inl ⟨by rfl, ?_⟩) ?_ ?_
                rotate_left
                · intro w'
                  go_simp
                  with_reducible rfl
                rotate_left
                · simp only [Act.put, List.setIfInBounds_toArray, List.set_cons_zero, List.set_cons_succ, i64_w, i32_w]
                  rfl
                refine take_ (i := 1) (N := some 13) (v := ?_) (a' := ?_) #[true, true, false, false, true, false, false, false, false, true, false, false, false, false, false] rfl rfl (take_ofW HT_.out HW_.out (by kernel_rfl)) (fun _ _ _ h => h) (Or.inl ⟨by rfl, ?_⟩) hHeld ?_ ?_
                rotate_left
                · rintro w' ⟨s0, s1, s2, s3, s4⟩
                  go_simp
                  with_reducible rfl
                rotate_left
                · simp only [Act.put, List.setIfInBounds_toArray, List.set_cons_zero, List.set_cons_succ, i64_w, i32_w]
                  rfl
                refine pure_ (i := 2) (N := some 14) (v := ?_) (a' := ?_) #[true, true, true, false, true, false, false, false, false, true, false, false, false, false, false] rfl rfl (any_of HT_.out (by kernel_rfl)) (fun _ _ _ h => h) (Or.inl ⟨by rfl, ?_⟩) ?_ ?_
                rotate_left
                · intro w'
                  go_simp
                  with_reducible rfl
                rotate_left
                · simp only [Act.put, List.setIfInBounds_toArray, List.set_cons_zero, List.set_cons_succ, i64_w, i32_w]
                  rfl
                refine pure_ (i := 3) (N := some 15) (v := ?_) (a' := ?_) #[true, true, true, true, true, false, false, false, false, true, false, false, false, false, false] rfl rfl (any_of HT_.out (by kernel_rfl)) (fun _ _ _ h => h) (Or.inl ⟨by rfl, ?_⟩) ?_ ?_
                rotate_left
                · intro w'
                  go_simp
                  with_reducible rfl
                rotate_left
                · simp only [Act.put, List.setIfInBounds_toArray, List.set_cons_zero, List.set_cons_succ, i64_w, i32_w]
                  rfl
                refine take_ (i := 5) (N := some 17) (v := ?_) (a' := ?_) #[true, true, true, true, true, true, false, false, false, true, false, false, false, false, false] rfl rfl (take_ofW HT_.out HW_.out (by kernel_rfl)) (fun _ _ _ h => h) (Or.inl ⟨by rfl, ?_⟩) hHeld ?_ ?_
                rotate_left
                · rintro w' ⟨s0, s1, s2, s3, s4⟩
                  go_simp
                  with_reducible rfl
                rotate_left
                · simp only [Act.put, List.setIfInBounds_toArray, List.set_cons_zero, List.set_cons_succ, i64_w, i32_w]
                  rfl
                refine take_ (i := 10) (N := some 22) (v := ?_) (a' := ?_) #[true, true, true, true, true, true, false, false, false, true, true, false, false, false, false] rfl rfl (take_ofW HT_.out HW_.out (by kernel_rfl)) (fun _ _ _ h => h) (Or.inl ⟨by rfl, ?_⟩) hHeld ?_ ?_
                rotate_left
                · rintro w' ⟨s0, s1, s2, s3, s4⟩
                  go_simp
                  with_reducible rfl
                rotate_left
                · simp only [Act.put, List.setIfInBounds_toArray, List.set_cons_zero, List.set_cons_succ, i64_w, i32_w]
                  rfl
                refine one_ (i := 6) (N := some 18) #[true, true, true, true, true, true, true, false, false, true, true, false, false, false, false] rfl rfl (one_of HT_.out (by kernel_rfl)) (by decide) (fun K hK => ?_)
                refine goes_ Tryd.func31 (by kernel_rfl) rfl #[.int .i64 a0_1] (by rfl) rfl rfl (by (try simp only [List.map_toArray, List.map_cons, List.map_nil]); first | done | rfl | (simp only [List.length_drop, List.length_take]; rfl)) ?_
                with_reducible refine (solventref07_Number.calls k a0_1 t150 _ A6.out).mono ?_
                rintro e w16 ⟨rfl, hb⟩
                refine ⟨_, rfl, ?_⟩
                have n0_ := Aside0.mk (blk_below (g := gb148) (o := .cells #[.string a0_0, .int .i64 a0_1, .int .i64 a0_2, .slice A0_3 l0_3.length c0_3, .int .i64 a0_4] 24 (0, 0)) (by (with_reducible repeat (first | refine blk_drewN ?_ _ | refine blk_drew ?_ | refine blk_alloc ?_ _)); exact BK148.out) hb)
                have n1_ := Aside0.mk (below_step (by repeat (first | (with_reducible first | exact HB.out | apply below_alloc | apply pw_below_drewN | apply below_drew1 | refine below_set ?_ GE148.out) | exact HB.out)) hb)
                clear BK148
                clear HB
                have BK148 := n0_
                have HB := n1_
                clear n0_ n1_
                (try clear hb)
                (try clear hb2)
                (try clear hk)
                (try clear hi)
                refine hK.out _ _ ⟨(blk_cell BK148.out 0).trans rfl, (blk_cell BK148.out 1).trans rfl, (blk_cell BK148.out 2).trans rfl, (blk_cell BK148.out 3).trans rfl, (blk_cell BK148.out 4).trans rfl⟩ (fun hHeld => ?_)
                clear hK K
                refine norm_ (a' := ?_) ?_ ?_
                rotate_left
                · show Act.put _ (some 18) _ = _
                  simp only [Act.put, List.setIfInBounds_toArray, List.set_cons_zero, List.set_cons_succ, i64_w, i32_w]
                  rfl
                refine pure_ (i := 7) (N := some 19) (v := ?_) (a' := ?_) #[true, true, true, true, true, true, true, true, false, true, true, false, false, false, false] rfl rfl (any_of HT_.out (by kernel_rfl)) (fun _ _ _ h => h) (Or.inl ⟨by rfl, ?_⟩) ?_ ?_
                rotate_left
                · intro w'
                  go_simp
                  with_reducible rfl
                rotate_left
                · simp only [Act.put, List.setIfInBounds_toArray, List.set_cons_zero, List.set_cons_succ, i64_w, i32_w]
                  rfl
                refine pure_ (i := 8) (N := some 20) (v := ?_) (a' := ?_) #[true, true, true, true, true, true, true, true, true, true, true, false, false, false, false] rfl rfl (any_of HT_.out (by kernel_rfl)) (fun _ _ _ h => h) (Or.inl ⟨by rfl, ?_⟩) ?_ ?_
                rotate_left
                · intro w'
                  go_simp
                  with_reducible rfl
                rotate_left
                · simp only [Act.put, List.setIfInBounds_toArray, List.set_cons_zero, List.set_cons_succ, i64_w, i32_w]
                  rfl
                refine one_ (i := 11) (N := some 23) #[true, true, true, true, true, true, true, true, true, true, true, true, false, false, false] rfl rfl (one_of HT_.out (by kernel_rfl)) (by decide) (fun K hK => ?_)
                refine goes_ Tryd.func31 (by kernel_rfl) rfl #[.int .i64 a0_2] (by rfl) rfl rfl (by (try simp only [List.map_toArray, List.map_cons, List.map_nil]); first | done | rfl | (simp only [List.length_drop, List.length_take]; rfl)) ?_
                with_reducible refine (solventref07_Number.calls k a0_2 t151 _ A9.out).mono ?_
                rintro e w17 ⟨rfl, hb⟩
                refine ⟨_, rfl, ?_⟩
                have n0_ := Aside0.mk (blk_below (g := gb148) (o := .cells #[.string a0_0, .int .i64 a0_1, .int .i64 a0_2, .slice A0_3 l0_3.length c0_3, .int .i64 a0_4] 24 (0, 0)) (by (with_reducible repeat (first | refine blk_drewN ?_ _ | refine blk_drew ?_ | refine blk_alloc ?_ _)); exact BK148.out) hb)
                have n1_ := Aside0.mk (below_step (by repeat (first | (with_reducible first | exact HB.out | apply below_alloc | apply pw_below_drewN | apply below_drew1 | refine below_set ?_ GE148.out) | exact HB.out)) hb)
                clear BK148
                clear HB
                have BK148 := n0_
                have HB := n1_
                clear n0_ n1_
                (try clear hb)
                (try clear hb2)
                (try clear hk)
                (try clear hi)
                refine hK.out _ _ ⟨(blk_cell BK148.out 0).trans rfl, (blk_cell BK148.out 1).trans rfl, (blk_cell BK148.out 2).trans rfl, (blk_cell BK148.out 3).trans rfl, (blk_cell BK148.out 4).trans rfl⟩ (fun hHeld => ?_)
                clear hK K
                refine norm_ (a' := ?_) ?_ ?_
                rotate_left
                · show Act.put _ (some 23) _ = _
                  simp only [Act.put, List.setIfInBounds_toArray, List.set_cons_zero, List.set_cons_succ, i64_w, i32_w]
                  rfl
                refine pure_ (i := 12) (N := some 24) (v := ?_) (a' := ?_) #[true, true, true, true, true, true, true, true, true, true, true, true, true, false, false] rfl rfl (any_of HT_.out (by kernel_rfl)) (fun _ _ _ h => h) (Or.inl ⟨by rfl, ?_⟩) ?_ ?_
                rotate_left
                · intro w'
                  go_simp
                  with_reducible rfl
                rotate_left
                · simp only [Act.put, List.setIfInBounds_toArray, List.set_cons_zero, List.set_cons_succ, i64_w, i32_w]
                  rfl
                refine pure_ (i := 13) (N := some 25) (v := ?_) (a' := ?_) #[true, true, true, true, true, true, true, true, true, true, true, true, true, true, false] rfl rfl (any_of HT_.out (by kernel_rfl)) (fun _ _ _ h => h) (Or.inl ⟨by rfl, ?_⟩) ?_ ?_
                rotate_left
                · intro w'
                  go_simp
                  with_reducible rfl
                rotate_left
                · simp only [Act.put, List.setIfInBounds_toArray, List.set_cons_zero, List.set_cons_succ, i64_w, i32_w]
                  rfl
                refine pure_ (i := 14) (N := some 5) (v := ?_) (a' := ?_) #[true, true, true, true, true, true, true, true, true, true, true, true, true, true, true] rfl rfl (any_of HT_.out (by kernel_rfl)) (fun _ _ _ h => h) (Or.inl ⟨by rfl, ?_⟩) ?_ ?_
                rotate_left
                · intro w'
                  go_simp
                  with_reducible rfl
                rotate_left
                · simp only [Act.put, List.setIfInBounds_toArray, List.set_cons_zero, List.set_cons_succ, i64_w, i32_w]
                  rfl
                refine done_ (done_of HT_.out (by kernel_rfl)) ?_
                try go_wp2
                go_loopg [5, 6] k (fun kq v5 v6 w' => ∃ (x5_1 : ByteArray) (x6_1 : Int), v5 = .string x5_1 ∧ v6 = .int .i64 x6_1 ∧ Aside0 (solventref07_Print.l0 kq x5_1 x6_1 a0_0 a0_1 a0_2 l0_3 a0_4 = some (r1, r2)) ∧ Aside0 (kq ≤ k) ∧ Aside0 (w'.heap[gb148]? = some (.cells #[.string a0_0, .int .i64 a0_1, .int .i64 a0_2, (.slice A0_3 l0_3.length c0_3), .int .i64 a0_4] 24 (0, 0))) ∧ Aside0 (Below w.heap.size w w'))
                case atStart => exact ⟨(((((((⟨#[99, 111, 100, 101, 32]⟩ : ByteArray) ++ a0_0) ++ (⟨#[32, 123, 10, 9, 102, 105, 101, 108, 100, 32]⟩ : ByteArray)) ++ t150) ++ (⟨#[59, 10, 9, 100, 97, 116, 97, 32]⟩ : ByteArray)) ++ t151) ++ (⟨#[59, 10]⟩ : ByteArray)), (0), (by first | rfl | (simp; done) | (simp [*]; done)), (by first | rfl | (simp; done) | (simp [*]; done)), H', ⟨Nat.le_refl _⟩, ⟨by (with_reducible repeat (first | refine blk_drewN ?_ _ | refine blk_drew ?_ | refine blk_alloc ?_ _)); exact BK148.out⟩, ⟨by repeat (first | (with_reducible first | exact HB.out | apply below_alloc | apply pw_below_drewN | apply below_drew1 | refine below_set ?_ GE148.out) | exact HB.out)⟩⟩
                case round =>
                  clear H'
                  try clear c1
                  try clear p2
                  try clear c3
                  try clear c3b0
                  try clear c3b1
                  try clear c4
                  try clear c4b0
                  try clear c4b1
                  try clear c4b2
                  try clear c5
                  try clear c5b0
                  try clear c5b1
                  try clear c5b2
                  try clear c7
                  try clear c7b0
                  try clear c7b1
                  try clear c7b2
                  try clear c8
                  try clear c8b0
                  try clear c8b1
                  try clear c8b2
                  try clear c10
                  try clear c10b0
                  try clear c10b1
                  try clear c10b2
                  try clear c11
                  try clear c11b0
                  try clear c11b1
                  try clear c11b2
                  try clear c12
                  try clear c15
                  try clear hcz13_0
                  try clear hcz13_1
                  try clear hcz13_2
                  try clear hcz13_3
                  try clear hcz13_4
                  try clear hfz13_0
                  try clear hfz13_1
                  try clear hfz13_2
                  try clear hfz13_3
                  try clear hfz13_4
                  obtain ⟨x5_1, x6_1, rfl, rfl, HA, HK1, BK148, HB⟩ := hrel
                  cases gk with
                  | zero => exact absurd HA.out (by simp [solventref07_Print.l0])
                  | succ k1 =>
                    have H := HA.out
                    clear HA
                    simp only [solventref07_Print.l0] at H
                    by_cases c18 : x6_1 < (l0_3.length : Int)
                    · rw [if_pos c18] at H
                      have c18b0 : decide (x6_1 < (l0_3.length : Int)) = true := decide_eq_true c18
                      clear c18
                      by_cases c19 : x5_1.size + 1 ≤ 9223372036854775807
                      · rw [if_pos c19] at H
                        have c19b0 := eq_true c19
                        have c19b1 : decide (x5_1.size + 1 ≤ 9223372036854775807) = true := decide_eq_true c19
                        try have c19b2 : (9223372036854775807 < x5_1.size + 1) = False := eq_false (Nat.not_lt.2 c19)
                        by_cases c20 : 0 ≤ x6_1
                        · rw [if_pos c20] at H
                          have c20b0 : decide (0 ≤ x6_1) = true := decide_eq_true c20
                          clear c20
                          replace H := Option.bind_eq_some_iff.mp H
                          obtain ⟨t153, A210, H⟩ := H
                          replace H : (if (x5_1 ++ (⟨#[9]⟩ : ByteArray)).size + t153.size ≤ 9223372036854775807 then (if ((x5_1 ++ (⟨#[9]⟩ : ByteArray)) ++ t153).size + 1 ≤ 9223372036854775807 then (solventref07_Print.l0 k1 (((x5_1 ++ (⟨#[9]⟩ : ByteArray)) ++ t153) ++ (⟨#[10]⟩ : ByteArray)) (wrap64 (x6_1 + 1)) a0_0 a0_1 a0_2 l0_3 a0_4) else (none)) else (none)) = some (r1, r2) := H
                          have A21 := Aside0.mk A210
                          clear A210
                          by_cases c22 : (x5_1 ++ (⟨#[9]⟩ : ByteArray)).size + t153.size ≤ 9223372036854775807
                          · rw [if_pos c22] at H
                            have c22b0 := eq_true c22
                            have c22b1 : decide ((x5_1 ++ (⟨#[9]⟩ : ByteArray)).size + t153.size ≤ 9223372036854775807) = true := decide_eq_true c22
                            try have c22b2 : (9223372036854775807 < (x5_1 ++ (⟨#[9]⟩ : ByteArray)).size + t153.size) = False := eq_false (Nat.not_lt.2 c22)
                            have c22b3 := eq_false (Nat.not_lt.2 c22); simp only [ByteArray.size_append, bsz, List.length_cons, List.length_nil, Nat.reduceAdd] at c22b3
                            by_cases c23 : ((x5_1 ++ (⟨#[9]⟩ : ByteArray)) ++ t153).size + 1 ≤ 9223372036854775807
                            · rw [if_pos c23] at H
                              have c23b0 := eq_true c23
                              have c23b1 : decide (((x5_1 ++ (⟨#[9]⟩ : ByteArray)) ++ t153).size + 1 ≤ 9223372036854775807) = true := decide_eq_true c23
                              try have c23b2 : (9223372036854775807 < ((x5_1 ++ (⟨#[9]⟩ : ByteArray)) ++ t153).size + 1) = False := eq_false (Nat.not_lt.2 c23)
                              have c23b3 := eq_false (Nat.not_lt.2 c23); simp only [ByteArray.size_append, bsz, List.length_cons, List.length_nil, Nat.reduceAdd] at c23b3
                              have H' := Aside0.mk H
                              clear H
                              have hcz24_0 : wr.cell? ⟨gb148, 0, none⟩ = some (.string a0_0) := (blk_cell BK148.out 0).trans rfl
                              have hcz24_1 : wr.cell? ⟨gb148, 1, none⟩ = some (.int .i64 a0_1) := (blk_cell BK148.out 1).trans rfl
                              have hcz24_2 : wr.cell? ⟨gb148, 2, none⟩ = some (.int .i64 a0_2) := (blk_cell BK148.out 2).trans rfl
                              have hcz24_3 : wr.cell? ⟨gb148, 3, none⟩ = some (.slice A0_3 l0_3.length c0_3) := (blk_cell BK148.out 3).trans rfl
                              have hcz24_4 : wr.cell? ⟨gb148, 4, none⟩ = some (.int .i64 a0_4) := (blk_cell BK148.out 4).trans rfl
                              have hfz24_0 := blk_frozen BK148.out 0
                              have hfz24_1 := blk_frozen BK148.out 1
                              have hfz24_2 := blk_frozen BK148.out 2
                              have hfz24_3 := blk_frozen BK148.out 3
                              have hfz24_4 := blk_frozen BK148.out 4
                              have p152 : 0 ≤ (x6_1 : Int) := of_decide_eq_true (by first | (with_reducible assumption) | assumption)
                              have q152 : x6_1 < (l0_3.length : Int) := of_decide_eq_true (by first | (with_reducible assumption) | assumption)
                              obtain ⟨ad152, A152_0, c152_0, e152, hx152_0, hl152_0, hi152_0⟩ := at_L1 HR0_3.out x6_1 p152 q152
                              cases e152
                              replace hx152_0 := (HB.out.cell (World.block_lt_of_cell? w _ hx152_0)).trans hx152_0
                              have HR152_0 := Aside0.mk hi152_0
                              have HC152_0 := Aside0.mk hl152_0
                              clear hi152_0 hl152_0
                              replace p152 := eq_true p152
                              replace q152 := eq_true q152
                              go_wp2_with (first | ((with_reducible refine gate_callee (f := 32) rfl ?_); refine goesL_ (some 40) rfl rfl Tryd.func32 (by kernel_rfl) rfl #[.slice A152_0 (rd_L1 l0_3 x6_1).length c152_0] rfl (by (try simp only [List.map_toArray, List.map_cons, List.map_nil]); first | done | rfl | (simp only [List.length_drop, List.length_take]; rfl)) ?_; (with_reducible refine (solventref07_row.calls k1 _ _ (rd_L1 l0_3 x6_1) t153 _ ?side1 ?side2 A21.out).mono ?_); (case side1 => repeat (first | exact (Kd.C_below HR152_0.out HB.out) | (with_reducible refine Kd.C_alloc ?_ _) | (with_reducible refine Kd.C_drewN ?_ _) | (with_reducible refine Kd.C_drew ?_))); (case side2 => exact HC152_0.out); rintro e w25 ⟨rfl, hb⟩; refine ⟨_, rfl, ?_⟩; have n0_ := Aside0.mk (blk_below (g := gb148) (o := .cells #[.string a0_0, .int .i64 a0_1, .int .i64 a0_2, .slice (some ad152) l0_3.length c0_3, .int .i64 a0_4] 24 (0, 0)) (by (with_reducible repeat (first | refine blk_drewN ?_ _ | refine blk_drew ?_ | refine blk_alloc ?_ _)); exact BK148.out) hb); have n1_ := Aside0.mk (below_step (by repeat (first | (with_reducible first | exact HB.out | apply below_alloc | apply pw_below_drewN | apply below_drew1 | refine below_set ?_ GE148.out) | exact HB.out)) hb); clear BK148; clear HB; have BK148 := n0_; have HB := n1_; clear n0_ n1_; (try clear hb); (try clear hb2); (try clear hk); (try clear hi)))
                              go_roundg k1
                              case measure => have := HK1.out; omega
                              case rel => exact ⟨(((x5_1 ++ (⟨#[9]⟩ : ByteArray)) ++ t153) ++ (⟨#[10]⟩ : ByteArray)), (wrap64 (x6_1 + 1)), (by first | rfl | (simp; done) | (simp [*]; done)), (by first | rfl | (simp; done) | (simp [*]; done)), H', ⟨by have := HK1.out; omega⟩, ⟨by (with_reducible repeat (first | refine blk_drewN ?_ _ | refine blk_drew ?_ | refine blk_alloc ?_ _)); exact BK148.out⟩, ⟨by repeat (first | (with_reducible first | exact HB.out | apply below_alloc | apply pw_below_drewN | apply below_drew1 | refine below_set ?_ GE148.out) | exact HB.out)⟩⟩
                            · rw [if_neg c23] at H
                              exact absurd H (by simp)
                          · rw [if_neg c22] at H
                            exact absurd H (by simp)
                        · rw [if_neg c20] at H
                          exact absurd H (by simp)
                      · rw [if_neg c19] at H
                        exact absurd H (by simp)
                    · rw [if_neg c18] at H
                      have c18b0 : decide (x6_1 < (l0_3.length : Int)) = false := decide_eq_false c18
                      clear c18
                      by_cases c26 : x5_1.size + 8 ≤ 9223372036854775807
                      · rw [if_pos c26] at H
                        have c26b0 := eq_true c26
                        have c26b1 : decide (x5_1.size + 8 ≤ 9223372036854775807) = true := decide_eq_true c26
                        try have c26b2 : (9223372036854775807 < x5_1.size + 8) = False := eq_false (Nat.not_lt.2 c26)
                        replace H := Option.bind_eq_some_iff.mp H
                        obtain ⟨t154, A270, H⟩ := H
                        replace H : (if (x5_1 ++ (⟨#[9, 100, 111, 109, 97, 105, 110, 32]⟩ : ByteArray)).size + t154.size ≤ 9223372036854775807 then (if ((x5_1 ++ (⟨#[9, 100, 111, 109, 97, 105, 110, 32]⟩ : ByteArray)) ++ t154).size + 4 ≤ 9223372036854775807 then (if ((((x5_1 ++ (⟨#[9, 100, 111, 109, 97, 105, 110, 32]⟩ : ByteArray)) ++ t154) ++ (⟨#[59, 10, 125, 10]⟩ : ByteArray)).size : Int) > 2000 then (some ((⟨#[]⟩ : ByteArray), 2)) else (some (((x5_1 ++ (⟨#[9, 100, 111, 109, 97, 105, 110, 32]⟩ : ByteArray)) ++ t154) ++ (⟨#[59, 10, 125, 10]⟩ : ByteArray), 0))) else (none)) else (none)) = some (r1, r2) := H
                        have A27 := Aside0.mk A270
                        clear A270
                        by_cases c28 : (x5_1 ++ (⟨#[9, 100, 111, 109, 97, 105, 110, 32]⟩ : ByteArray)).size + t154.size ≤ 9223372036854775807
                        · rw [if_pos c28] at H
                          have c28b0 := eq_true c28
                          have c28b1 : decide ((x5_1 ++ (⟨#[9, 100, 111, 109, 97, 105, 110, 32]⟩ : ByteArray)).size + t154.size ≤ 9223372036854775807) = true := decide_eq_true c28
                          try have c28b2 : (9223372036854775807 < (x5_1 ++ (⟨#[9, 100, 111, 109, 97, 105, 110, 32]⟩ : ByteArray)).size + t154.size) = False := eq_false (Nat.not_lt.2 c28)
                          have c28b3 := eq_false (Nat.not_lt.2 c28); simp only [ByteArray.size_append, bsz, List.length_cons, List.length_nil, Nat.reduceAdd] at c28b3
                          by_cases c29 : ((x5_1 ++ (⟨#[9, 100, 111, 109, 97, 105, 110, 32]⟩ : ByteArray)) ++ t154).size + 4 ≤ 9223372036854775807
                          · rw [if_pos c29] at H
                            have c29b0 := eq_true c29
                            have c29b1 : decide (((x5_1 ++ (⟨#[9, 100, 111, 109, 97, 105, 110, 32]⟩ : ByteArray)) ++ t154).size + 4 ≤ 9223372036854775807) = true := decide_eq_true c29
                            try have c29b2 : (9223372036854775807 < ((x5_1 ++ (⟨#[9, 100, 111, 109, 97, 105, 110, 32]⟩ : ByteArray)) ++ t154).size + 4) = False := eq_false (Nat.not_lt.2 c29)
                            have c29b3 := eq_false (Nat.not_lt.2 c29); simp only [ByteArray.size_append, bsz, List.length_cons, List.length_nil, Nat.reduceAdd] at c29b3
                            by_cases c30 : ((((x5_1 ++ (⟨#[9, 100, 111, 109, 97, 105, 110, 32]⟩ : ByteArray)) ++ t154) ++ (⟨#[59, 10, 125, 10]⟩ : ByteArray)).size : Int) > 2000
                            · rw [if_pos c30] at H
                              have c30b0 : decide (2000 < ((((x5_1 ++ (⟨#[9, 100, 111, 109, 97, 105, 110, 32]⟩ : ByteArray)) ++ t154) ++ (⟨#[59, 10, 125, 10]⟩ : ByteArray)).size : Int)) = true := decide_eq_true c30
                              have c30b4 := c30b0; simp only [ByteArray.size_append, bsz, List.length_cons, List.length_nil, Nat.reduceAdd, Int.natCast_add, Int.cast_ofNat_Int] at c30b4
                              have c30b1 : decide (2000 < (((x5_1 ++ (⟨#[9, 100, 111, 109, 97, 105, 110, 32]⟩ : ByteArray)) ++ t154) ++ (⟨#[59, 10, 125, 10]⟩ : ByteArray)).size) = true := decide_eq_true (by omega)
                              clear c30
                              simp only [Option.some.injEq, Prod.mk.injEq] at H
                              obtain ⟨rfl, rfl⟩ := H
                              have hcz31_0 : wr.cell? ⟨gb148, 0, none⟩ = some (.string a0_0) := (blk_cell BK148.out 0).trans rfl
                              have hcz31_1 : wr.cell? ⟨gb148, 1, none⟩ = some (.int .i64 a0_1) := (blk_cell BK148.out 1).trans rfl
                              have hcz31_2 : wr.cell? ⟨gb148, 2, none⟩ = some (.int .i64 a0_2) := (blk_cell BK148.out 2).trans rfl
                              have hcz31_3 : wr.cell? ⟨gb148, 3, none⟩ = some (.slice A0_3 l0_3.length c0_3) := (blk_cell BK148.out 3).trans rfl
                              have hcz31_4 : wr.cell? ⟨gb148, 4, none⟩ = some (.int .i64 a0_4) := (blk_cell BK148.out 4).trans rfl
                              have hfz31_0 := blk_frozen BK148.out 0
                              have hfz31_1 := blk_frozen BK148.out 1
                              have hfz31_2 := blk_frozen BK148.out 2
                              have hfz31_3 := blk_frozen BK148.out 3
                              have hfz31_4 := blk_frozen BK148.out 4
                              go_wp2_with (first | ((with_reducible refine gate_callee (f := 31) rfl ?_); refine goesL_ (some 47) rfl rfl Tryd.func31 (by kernel_rfl) rfl #[.int .i64 a0_4] rfl (by (try simp only [List.map_toArray, List.map_cons, List.map_nil]); first | done | rfl | (simp only [List.length_drop, List.length_take]; rfl)) ?_; (with_reducible refine (solventref07_Number.calls k1 a0_4 t154 _ A27.out).mono ?_); rintro e w32 ⟨rfl, hb⟩; refine ⟨_, rfl, ?_⟩; have n0_ := Aside0.mk (blk_below (g := gb148) (o := .cells #[.string a0_0, .int .i64 a0_1, .int .i64 a0_2, .slice A0_3 l0_3.length c0_3, .int .i64 a0_4] 24 (0, 0)) (by (with_reducible repeat (first | refine blk_drewN ?_ _ | refine blk_drew ?_ | refine blk_alloc ?_ _)); exact BK148.out) hb); have n1_ := Aside0.mk (below_step (by repeat (first | (with_reducible first | exact HB.out | apply below_alloc | apply pw_below_drewN | apply below_drew1 | refine below_set ?_ GE148.out) | exact HB.out)) hb); clear BK148; clear HB; have BK148 := n0_; have HB := n1_; clear n0_ n1_; (try clear hb); (try clear hb2); (try clear hk); (try clear hi)))
                              go_ret2
                              exact ⟨by first | rfl | (simp [errW_none, errW_some] <;> rfl) | (simp [*, errW_none, errW_some] <;> rfl), by repeat (first | (with_reducible first | exact HB.out | apply below_alloc | apply pw_below_drewN | apply below_drew1 | refine below_set ?_ GE148.out) | exact HB.out)⟩
                            · rw [if_neg c30] at H
                              have c30b0 : decide (2000 < ((((x5_1 ++ (⟨#[9, 100, 111, 109, 97, 105, 110, 32]⟩ : ByteArray)) ++ t154) ++ (⟨#[59, 10, 125, 10]⟩ : ByteArray)).size : Int)) = false := decide_eq_false c30
                              have c30b4 := c30b0; simp only [ByteArray.size_append, bsz, List.length_cons, List.length_nil, Nat.reduceAdd, Int.natCast_add, Int.cast_ofNat_Int] at c30b4
                              have c30b1 : decide (2000 < (((x5_1 ++ (⟨#[9, 100, 111, 109, 97, 105, 110, 32]⟩ : ByteArray)) ++ t154) ++ (⟨#[59, 10, 125, 10]⟩ : ByteArray)).size) = false := decide_eq_false (by omega)
                              clear c30
                              simp only [Option.some.injEq, Prod.mk.injEq] at H
                              obtain ⟨rfl, rfl⟩ := H
                              have hcz33_0 : wr.cell? ⟨gb148, 0, none⟩ = some (.string a0_0) := (blk_cell BK148.out 0).trans rfl
                              have hcz33_1 : wr.cell? ⟨gb148, 1, none⟩ = some (.int .i64 a0_1) := (blk_cell BK148.out 1).trans rfl
                              have hcz33_2 : wr.cell? ⟨gb148, 2, none⟩ = some (.int .i64 a0_2) := (blk_cell BK148.out 2).trans rfl
                              have hcz33_3 : wr.cell? ⟨gb148, 3, none⟩ = some (.slice A0_3 l0_3.length c0_3) := (blk_cell BK148.out 3).trans rfl
                              have hcz33_4 : wr.cell? ⟨gb148, 4, none⟩ = some (.int .i64 a0_4) := (blk_cell BK148.out 4).trans rfl
                              have hfz33_0 := blk_frozen BK148.out 0
                              have hfz33_1 := blk_frozen BK148.out 1
                              have hfz33_2 := blk_frozen BK148.out 2
                              have hfz33_3 := blk_frozen BK148.out 3
                              have hfz33_4 := blk_frozen BK148.out 4
                              go_wp2_with (first | ((with_reducible refine gate_callee (f := 31) rfl ?_); refine goesL_ (some 47) rfl rfl Tryd.func31 (by kernel_rfl) rfl #[.int .i64 a0_4] rfl (by (try simp only [List.map_toArray, List.map_cons, List.map_nil]); first | done | rfl | (simp only [List.length_drop, List.length_take]; rfl)) ?_; (with_reducible refine (solventref07_Number.calls k1 a0_4 t154 _ A27.out).mono ?_); rintro e w34 ⟨rfl, hb⟩; refine ⟨_, rfl, ?_⟩; have n0_ := Aside0.mk (blk_below (g := gb148) (o := .cells #[.string a0_0, .int .i64 a0_1, .int .i64 a0_2, .slice A0_3 l0_3.length c0_3, .int .i64 a0_4] 24 (0, 0)) (by (with_reducible repeat (first | refine blk_drewN ?_ _ | refine blk_drew ?_ | refine blk_alloc ?_ _)); exact BK148.out) hb); have n1_ := Aside0.mk (below_step (by repeat (first | (with_reducible first | exact HB.out | apply below_alloc | apply pw_below_drewN | apply below_drew1 | refine below_set ?_ GE148.out) | exact HB.out)) hb); clear BK148; clear HB; have BK148 := n0_; have HB := n1_; clear n0_ n1_; (try clear hb); (try clear hb2); (try clear hk); (try clear hi)))
                              go_ret2
                              exact ⟨by first | rfl | (simp [errW_none, errW_some] <;> rfl) | (simp [*, errW_none, errW_some] <;> rfl), by repeat (first | (with_reducible first | exact HB.out | apply below_alloc | apply pw_below_drewN | apply below_drew1 | refine below_set ?_ GE148.out) | exact HB.out)⟩
                          · rw [if_neg c29] at H
                            exact absurd H (by simp)
                        · rw [if_neg c28] at H
                          exact absurd H (by simp)
                      · rw [if_neg c26] at H
                        exact absurd H (by simp)
              · rw [if_neg c11] at H
                exact absurd H (by simp)
            · rw [if_neg c10] at H
              exact absurd H (by simp)
          · rw [if_neg c8] at H
            exact absurd H (by simp)
        · rw [if_neg c7] at H
          exact absurd H (by simp)
      · rw [if_neg c5] at H
        exact absurd H (by simp)
    · rw [if_neg c4] at H
      exact absurd H (by simp)
  · rw [if_neg c3] at H
    have c3b0 : (t149 == 0) = false := beq_eq_false_iff_ne.mpr c3
    have c3b1 : (t149 != 0) = true := bne_iff_ne.mpr c3
    simp only [Option.some.injEq, Prod.mk.injEq] at H
    obtain ⟨rfl, rfl⟩ := H
    go_enter Tryd.func12, Tryd.ntmps12
    go_wp2_with (first | ((with_reducible refine gate_dst (N := 1) rfl ?_); refine box_event ?hg (N := 1) ?hd (cs := #[.string a0_0, .int .i64 a0_1, .int .i64 a0_2, .slice A0_3 l0_3.length c0_3, .int .i64 a0_4]) (t := 24) ?hr ?_; (case hd => rfl); (case hg => rfl); (case hr => first | (go_simp; done) | (go_simp; rfl)); intro gb148 hg w35 hbox hb; have n0_ := Aside0.mk (below_step (by repeat (first | (with_reducible first | exact HB.out | apply below_alloc | apply pw_below_drewN | apply below_drew1) | exact HB.out)) hb); have n1_ := Aside0.mk (hbox); have n2_ := Aside0.mk ((by rw [hg]; exact (below_size (by repeat (first | (with_reducible first | exact HB.out | apply below_alloc | apply pw_below_drewN | apply below_drew1) | exact HB.out))) : w.heap.size ≤ gb148)); have n3_ := Aside0.mk ((by rw [hg]; exact (below_size (by repeat (first | (with_reducible first | exact HB.out | apply below_alloc | apply pw_below_drewN | apply below_drew1) | exact HB.out))) : w.heap.size ≤ gb148)); clear HB; have HB := n0_; have BK148 := n1_; have GW148 := n2_; have GE148 := n3_; clear n0_ n1_ n2_ n3_; clear hb hbox hg; have hcz36_0 : w35.cell? ⟨gb148, 0, none⟩ = some (.string a0_0) := (blk_cell BK148.out 0).trans rfl; have hcz36_1 : w35.cell? ⟨gb148, 1, none⟩ = some (.int .i64 a0_1) := (blk_cell BK148.out 1).trans rfl; have hcz36_2 : w35.cell? ⟨gb148, 2, none⟩ = some (.int .i64 a0_2) := (blk_cell BK148.out 2).trans rfl; have hcz36_3 : w35.cell? ⟨gb148, 3, none⟩ = some (.slice A0_3 l0_3.length c0_3) := (blk_cell BK148.out 3).trans rfl; have hcz36_4 : w35.cell? ⟨gb148, 4, none⟩ = some (.int .i64 a0_4) := (blk_cell BK148.out 4).trans rfl; have hfz36_0 := blk_frozen BK148.out 0; have hfz36_1 := blk_frozen BK148.out 1; have hfz36_2 := blk_frozen BK148.out 2; have hfz36_3 := blk_frozen BK148.out 3; have hfz36_4 := blk_frozen BK148.out 4) | ((with_reducible refine gate_callee (f := 15) rfl ?_); refine goesL_ (some 8) rfl rfl Tryd.func15 (by kernel_rfl) rfl #[.agg #[.string a0_0, .int .i64 a0_1, .int .i64 a0_2, .slice A0_3 l0_3.length c0_3, .int .i64 a0_4]] rfl (by (try simp only [List.map_toArray, List.map_cons, List.map_nil]); first | done | rfl | (simp only [List.length_drop, List.length_take]; rfl)) ?_; (with_reducible refine (solventref07_Check.calls k a0_0 a0_1 a0_2 _ _ l0_3 a0_4 t149 _ ?side1 ?side2 A2.out).mono ?_); (case side1 => repeat (first | exact (Kd.C_below HR0_3.out HB.out) | (with_reducible refine Kd.C_alloc ?_ _) | (with_reducible refine Kd.C_drewN ?_ _) | (with_reducible refine Kd.C_drew ?_))); (case side2 => exact HC0_3.out); rintro e w37 ⟨rfl, hb⟩; refine ⟨_, rfl, ?_⟩; have n0_ := Aside0.mk (blk_below (g := gb148) (o := .cells #[.string a0_0, .int .i64 a0_1, .int .i64 a0_2, .slice A0_3 l0_3.length c0_3, .int .i64 a0_4] 24 (0, 0)) (by (with_reducible repeat (first | refine blk_drewN ?_ _ | refine blk_drew ?_ | refine blk_alloc ?_ _)); exact BK148.out) hb); have n1_ := Aside0.mk (below_step (by repeat (first | (with_reducible first | exact HB.out | apply below_alloc | apply pw_below_drewN | apply below_drew1 | refine below_set ?_ GE148.out) | exact HB.out)) hb); clear BK148; clear HB; have BK148 := n0_; have HB := n1_; clear n0_ n1_; (try clear hb); (try clear hb2); (try clear hk); (try clear hi)))
    go_ret2
    exact ⟨by first | rfl | (simp [errW_none, errW_some] <;> rfl) | (simp [*, errW_none, errW_some] <;> rfl), by repeat (first | (with_reducible first | exact HB.out | apply below_alloc | apply pw_below_drewN | apply below_drew1 | refine below_set ?_ GE148.out) | exact HB.out)⟩




end Go.Proofs.YtppeplonnippcaaDoor.Rf
