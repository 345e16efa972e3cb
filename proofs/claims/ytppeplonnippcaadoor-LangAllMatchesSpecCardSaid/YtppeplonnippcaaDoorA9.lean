/-
Layer 7: demand; a row is built.
-/
import Derived.Test.YtppeplonnippcaaDoorA8
import Derived.Test.YtppeplonnippcaaDoorS
import Derived.Deep.OwnRows
set_option linter.unusedVariables false
set_option linter.unusedSimpArgs false
namespace Go.Proofs.YtppeplonnippcaaDoor
open Go.RowKit

theorem demand_yes (p e : Int) (w : World) : Calls Tryd.prog 60 #[.bool true, .int .i64 p, .int .i64 e] w fun e w' => e = .returned (.tuple #[]) ∧ w = w' := by
  go_enter Tryd.func60, Tryd.ntmps60
  go_wp2
  go_end0
  exact ⟨rfl, rfl⟩
theorem demand_no (p er : Int) (w : World) : Calls Tryd.prog 60 #[.bool false, .int .i64 p, .int .i64 er] w fun e w' => e = .panicked [{ v := .iface 69 (.agg #[.int .i64 p, .int .i64 er]), recovered := false }] ∧ w = w' := by
  go_enter Tryd.func60, Tryd.ntmps60
  go_wp2
  exact ⟨rfl, rfl, rfl⟩

theorem info3 : (Tryd.prog.info? 3).map (fun i => (i.zero, i.size, i.bytes)) = some (some (.int .i64 0), 1, 8) := by kernel_rfl

def ints (l : List Int) : List Value := l.map fun x => .int .i64 x
/-- what was built, or where it failed -/
def BldPost {α : Type} (V : α → World → Value → Prop) (res : Except Sp.Er α) (w : World) (e : Ending) (w' : World) : Prop :=
  match res with
  | .ok a => ∃ v, e = .returned v ∧ V a w' v ∧ Below w.heap.size w w'
  | .error (p, er) => e = Wrong p er ∧ Below w.heap.size w w'

theorem own_below' {w w' : World} {base e size n : Nat} {v : Value} {xs : List Value} (h : w.ownsRow base e size v n xs) (k : Below w.heap.size w w') : w'.ownsRow base e size v n xs := own_below h k

theorem cells_at (l : List Sp.Tok) (j : Nat) (hj : j < l.length) : (cells l)[j * 3]? = some (.int .i64 l[j].at_) ∧ (cells l)[j * 3 + 1]? = some (.int .i64 l[j].n) ∧ (cells l)[j * 3 + 2]? = some (.string (bs l[j].txt)) := by
  induction l generalizing j with
  | nil => simp at hj
  | cons a l ih =>
    cases j with
    | zero => simp [cells, cellsOf]
    | succ j =>
      have h := ih j (by simpa using hj)
      have e : ∀ k, (cells (a :: l))[(j + 1) * 3 + k]? = (cells l)[j * 3 + k]? := by
        intro k
        have : cells (a :: l) = cellsOf a ++ cells l := rfl
        rw [this, List.getElem?_append_right (by simp [cellsOf]; omega)]
        congr 1
        simp [cellsOf]; omega
      have e0 := e 0
      simp only [Nat.add_zero] at e0
      rw [e0, e 1, e 2]
      simpa using h

theorem MarksV.at_ {b0 : Nat} {l : List Sp.Tok} {w : World} {A : Option Addr} {q : Nat} (h : MarksV b0 l w (.slice A l.length q)) (j : Nat) (hj : j < l.length) :
    ∃ g, A = some ⟨g, 0, none⟩ ∧ w.cell? ⟨g, j * 3, none⟩ = some (.int .i64 l[j].at_) ∧ w.cell? ⟨g, j * 3 + 1, none⟩ = some (.int .i64 l[j].n) ∧ w.cell? ⟨g, j * 3 + 2, none⟩ = some (.string (bs l[j].txt)) := by
  obtain ⟨g, cap, hv, hb, hlt⟩ := World.ownsRow.form h (by omega)
  simp only [Value.slice.injEq, true_and] at hv
  obtain ⟨rfl, rfl⟩ := hv
  have hc := cells_at l j hj
  have add : ∀ k, (⟨g, 0, none⟩ : Addr).add k = ⟨g, k, none⟩ := by intro k; unfold Addr.add; split <;> simp_all
  have h0 := World.ownsRow.cells h (g := g) rfl (j * 3) _ hc.1
  have h1 := World.ownsRow.cells h (g := g) rfl (j * 3 + 1) _ hc.2.1
  have h2 := World.ownsRow.cells h (g := g) rfl (j * 3 + 2) _ hc.2.2
  rw [add] at h0 h1 h2
  exact ⟨g, rfl, h0, h1, h2⟩

theorem made_ints (n : Nat) : madeCells #[.int .i64 0] n = (ints (List.replicate n 0)).toArray := by
  apply Array.toList_inj.1
  rw [toList_madeCells_one]
  simp [ints]
theorem ints_set (l : List Int) (j : Nat) (n : Int) : (ints l).toArray.setIfInBounds j (.int .i64 n) = (ints (l.set j n)).toArray := by
  simp [ints, List.map_set]

def RowV (base : Nat) (l : List Int) (w : World) (v : Value) : Prop := w.ownsRow base 3 1 v l.length (ints l)

set_option maxRecDepth 100000 in
set_option maxHeartbeats 2000000 in
theorem bldRow_any (x : Sp.Row) (vi vc : Value) (b0 data top : Nat) (w : World) (hi : MarksV b0 x.idx w vi) (hc : MarksV b0 x.coef w vc) (h1 : x.idx.length ≤ 3000) (h2 : x.coef.length ≤ 3000)
    (hd : 1 ≤ data) (hd2 : data ≤ 31) (ht : top ≤ 65535) :
    Calls Tryd.prog 80 #[.agg #[.int .i64 x.at_, .bool x.loc, vi, vc], .int .i64 data, .int .i64 top] w (BldPost (RowV w.heap.size) (Sp.bldRow x data top) w) := by
  obtain ⟨Ai, qi, rfl⟩ := own_slice hi
  obtain ⟨Ac, qc, rfl⟩ := own_slice hc
  have HI := Lib.hid hi; have HC := Lib.hid hc
  have hmk := fun W : World => run_make_row' (P := Tryd.prog) 61 3 (.int .i64 0) 8 Tryd.underlying61 info3 rfl .i64 .i64 data (by omega) (by omega) W
  clear hi hc
  go_enter Tryd.func80, Tryd.ntmps80
  go_wp2_with fail
  go_loopg [9, 21] x.idx.length (fun k v9 v21 wr => ∃ (j : Nat) (last : Int), k = x.idx.length - j ∧ j ≤ x.idx.length ∧ v21 = .int .i64 j ∧ v9 = .int .i64 last ∧ Sp.badIdx data last (x.idx.drop j) = Sp.badIdx data (-1) x.idx ∧ Below w.heap.size w wr ∧
    wr.heap[w.heap.size]? = some (.cells #[.int .i64 x.at_, .bool x.loc, .slice Ai x.idx.length qi, .slice Ac x.coef.length qc] 117 (0, 0)) ∧ wr.heap[w.heap.size + 1]? = some (.cells (madeCells #[.int .i64 0] data) 3 (0, 0)))
  case atStart =>
    refine ⟨0, -1, rfl, Nat.zero_le _, rfl, rfl, rfl, ((Below.refl _ _).alloc (Nat.le_refl _) _).alloc (by simp) _, blk_old (heap_alloc_new w _) _, ?_⟩
    have := heap_alloc_new (w.alloc (.cells #[.int .i64 x.at_, .bool x.loc, .slice Ai x.idx.length qi, .slice Ac x.coef.length qc] 117)) (.cells (madeCells #[.int .i64 0] data) 3)
    simpa using this
  case round =>
    obtain ⟨j, last, hk, hj, rfl, rfl, hbad, hbel, b0', b1'⟩ := hrel
    have K1 := Lib.hid hk; have K2 := Lib.hid hbad; have K3 := Lib.hid hbel; have K4 := Lib.hid b0'; have K5 := Lib.hid b1'
    have hlt' := lt_of_block b1'
    by_cases hlt : j < x.idx.length
    · have hi2 := own_below' HI.out K3.out
      obtain ⟨g, hA, c0, c1, c2⟩ := MarksV.at_ hi2 j hlt
      subst hA
      have hdrop := Lib.hid (List.drop_eq_getElem_cons hlt)
      clear hi2 hk hbad hbel b0' b1'
      by_cases h3 : x.idx[j].n < data
      · by_cases h4 : last < (x.idx[j].n : Int)
        · have h5 : decide (last < (x.idx[j].n : Int)) = true := by simpa using h4
          have HB : Hid (Sp.badIdx data x.idx[j].n (x.idx.drop (j + 1)) = Sp.badIdx data (-1) x.idx) := Lib.hid (by
            have := K2.out; rw [hdrop.out, Sp.badIdx, if_pos ⟨h3, h4⟩] at this; exact this)
          go_wp2_with (go_at_call 60; refine (demand_yes _ _ _).mono ?_; rintro e w' ⟨rfl, rfl⟩)
          go_roundg (x.idx.length - (j + 1))
          case measure => rw [K1.out]; omega
          case rel => exact ⟨j + 1, _, rfl, by omega, by go_num, rfl, HB.out, K3.out.alloc K3.out.size _, blk_old K4.out _, blk_old K5.out _⟩
        · have h5 : decide (last < (x.idx[j].n : Int)) = false := by simpa using h4
          have HB : Hid (Sp.badIdx data (-1) x.idx = some x.idx[j].at_) := Lib.hid (by
            have := K2.out; rw [hdrop.out, Sp.badIdx, if_neg (fun hh => h4 hh.2)] at this; exact this.symm)
          go_wp2_with (go_at_call 60; refine (demand_no _ _ _).mono ?_; rintro e w' ⟨rfl, rfl⟩)
          exact ⟨rfl, by unfold Sp.bldRow; rw [HB.out]; exact ⟨rfl, K3.out.alloc K3.out.size _⟩⟩
      · have HB : Hid (Sp.badIdx data (-1) x.idx = some x.idx[j].at_) := Lib.hid (by
            have := K2.out; rw [hdrop.out, Sp.badIdx, if_neg (fun hh => h3 hh.1)] at this; exact this.symm)
        go_wp2_with (go_at_call 60; refine (demand_no _ _ _).mono ?_; rintro e w' ⟨rfl, rfl⟩)
        exact ⟨rfl, by unfold Sp.bldRow; rw [HB.out]; exact ⟨rfl, K3.out.alloc K3.out.size _⟩⟩
    · have HB : Hid (Sp.badIdx data (-1) x.idx = none) := Lib.hid (by rw [← hbad, List.drop_eq_nil_of_le (by omega)]; rfl)
      have m0 := blk_c b0' 0; have m1 := blk_c b0' 1; have m2 := blk_c b0' 2; have m3 := blk_c b0' 3
      have hall := Lib.hid (Sp.badIdx_all HB.out)
      clear hk hbad hbel b0' b1' K1 K2
      rcases hloc : x.loc with _ | _
      · have HL := Lib.hid hloc
        by_cases hw : x.coef.length = data
        · have hwb : ((x.coef.length : Int) == ((data : Nat) : Int)) = true := by rw [beq_iff_eq]; omega
          have HW := Lib.hid hw
          clear hw
          go_wp2_with (go_at_call 60; refine (demand_yes _ _ _).mono ?_; rintro e w' ⟨rfl, rfl⟩)
          go_loopg [8, 58] x.coef.length (fun k v8 v58 wr => ∃ (j : Nat) (row : List Int) (sm : Nat), k = x.coef.length - j ∧ j ≤ x.coef.length ∧ v58 = .int .i64 j ∧ v8 = .int .i64 sm ∧
            Sp.badCoef top x.loc (x.coef.drop j) = Sp.badCoef top x.loc x.coef ∧ Sp.fillR x.loc x.idx j row (x.coef.drop j) = Sp.fillR x.loc x.idx 0 (List.replicate data 0) x.coef ∧ sm + Sp.sumN (x.coef.drop j) = Sp.sumN x.coef ∧ sm ≤ j * 65535 ∧ row.length = data ∧
            Below w.heap.size w wr ∧ wr.heap[w.heap.size]? = some (.cells #[.int .i64 x.at_, .bool x.loc, .slice Ai x.idx.length qi, .slice Ac x.coef.length qc] 117 (0, 0)) ∧ wr.heap[w.heap.size + 1]? = some (.cells (ints row).toArray 3 (0, 0)))
          case atStart =>
            refine ⟨0, List.replicate data 0, 0, rfl, Nat.zero_le _, rfl, rfl, rfl, rfl, by simp, Nat.zero_le _, by simp, K3.out, K4.out, ?_⟩
            rw [K5.out, made_ints]
          case round =>
            obtain ⟨j, row, sm, hk, hj, rfl, rfl, hbc, hfl, hsm, hsb, hrl, hbel, b0', b1'⟩ := hrel
            have J1 := Lib.hid hk; have J2 := Lib.hid hbc; have J3 := Lib.hid hbel; have J4 := Lib.hid b0'; have J5 := Lib.hid b1'; have J6 := Lib.hid hfl; have J7 := Lib.hid hsm; have J8 := Lib.hid hrl
            have hlt2 := lt_of_block b1'
            have hlt3 := lt_of_block b0'
            clear m0 m1 m2 m3 K3 K4 K5
            have m0 := blk_c b0' 0; have m1 := blk_c b0' 1; have m2 := blk_c b0' 2; have m3 := blk_c b0' 3
            by_cases hlt : j < x.coef.length
            · have hc2 := own_below' HC.out J3.out
              obtain ⟨gc, hA, c0, c1, c2⟩ := MarksV.at_ hc2 j hlt
              subst hA
              have hjd : j < row.length := by rw [hrl, ← HW.out]; exact hlt
              have AT : j < data := by omega
              have r0 := blk_c b1' j
              have r0' : (ints row).toArray[j]? = some (.int .i64 row[j]) := by simp [ints, List.getElem?_eq_getElem hjd]
              rw [r0'] at r0
              have r1 := blk_f b1' j
              have HD := Lib.hid (List.drop_eq_getElem_cons hlt)
              clear hc2 hk hbc hbel b0' b1' hfl hsm hrl r0'
              by_cases h3 : x.coef[j].n ≤ top
              · skip
                have HBC : Hid (Sp.badCoef top x.loc (x.coef.drop (j + 1)) = Sp.badCoef top x.loc x.coef) := Lib.hid (by
                  have := J2.out; rw [HD.out, Sp.badCoef, if_pos ⟨h3, by simp [HL.out]⟩] at this; exact this)
                have HFL : Hid (Sp.fillR x.loc x.idx (j + 1) (row.set j x.coef[j].n) (x.coef.drop (j + 1)) = Sp.fillR x.loc x.idx 0 (List.replicate data 0) x.coef) := Lib.hid (by
                  have := J6.out; rw [HD.out, Sp.fillR] at this; simpa [HL.out] using this)
                have HSM : Hid (sm + x.coef[j].n + Sp.sumN (x.coef.drop (j + 1)) = Sp.sumN x.coef) := Lib.hid (by
                  have := J7.out; rw [HD.out] at this; simp only [Sp.sumN, List.map_cons, List.sum_cons] at this ⊢; omega)
                have hnb : sm + x.coef[j].n ≤ (j + 1) * 65535 := by omega
                have hnb2 : sm + x.coef[j].n ≤ 300000000 := by omega
                go_wp2_with (go_at_call 60; refine (demand_yes _ _ _).mono ?_; rintro e w' ⟨rfl, rfl⟩)
                go_roundg (x.coef.length - (j + 1))
                case measure => rw [J1.out]; omega
                case rel =>
                  refine ⟨j + 1, row.set j x.coef[j].n, sm + x.coef[j].n, rfl, by omega, by go_num, by go_num, HBC.out, HFL.out, HSM.out, hnb, by rw [List.length_set]; exact J8.out, (J3.out.setCell (p := ⟨w.heap.size + 1, j, none⟩) (Nat.le_succ _) _).alloc (J3.out.setCell (p := ⟨w.heap.size + 1, j, none⟩) (Nat.le_succ _) (.int .i64 x.coef[j].n)).size _, blk_old (blk_far J4.out (p := ⟨w.heap.size + 1, j, none⟩) (by simp) _) _, ?_⟩
                  have hb5 := blk_set J5.out j (.int .i64 x.coef[j].n)
                  rw [ints_set] at hb5
                  exact blk_old hb5 _
              · have HBC : Hid (Sp.badCoef top x.loc x.coef = some x.coef[j].at_) := Lib.hid (by
                  have := J2.out; rw [HD.out, Sp.badCoef, if_neg (fun hh => h3 hh.1)] at this; exact this.symm)
                go_wp2_with (go_at_call 60; refine (demand_no _ _ _).mono ?_; rintro e w' ⟨rfl, rfl⟩)
                exact ⟨rfl, by unfold Sp.bldRow; rw [HB.out]; simp only [HL.out, Bool.false_eq_true, if_false]; rw [if_neg (fun hh => hh HW.out)]; rw [show Sp.badCoef top false x.coef = some x.coef[j].at_ from (by have h := HBC.out; rw [HL.out] at h; exact h)]; exact ⟨rfl, J3.out.alloc J3.out.size _⟩⟩
            · have HBC : Hid (Sp.badCoef top x.loc x.coef = none) := Lib.hid (by rw [← hbc, List.drop_eq_nil_of_le (by omega)]; rfl)
              have HFL : Hid (row = Sp.fillR x.loc x.idx 0 (List.replicate data 0) x.coef) := Lib.hid (by rw [← hfl, List.drop_eq_nil_of_le (by omega)]; rfl)
              have HSM : Hid (sm = Sp.sumN x.coef) := Lib.hid (by rw [← hsm, List.drop_eq_nil_of_le (by omega)]; simp [Sp.sumN])
              clear hk hbc hbel b0' b1' hfl hsm
              by_cases hs0 : 0 < sm
              · have hs0' : decide (0 < (sm : Int)) = true := by simpa using hs0
                have hdl : row.length ≤ 31 := by omega
                have H8 := Lib.hid hrl; clear hrl
                go_wp2_with (go_at_call 60; refine (demand_yes _ _ _).mono ?_; rintro e w' ⟨rfl, rfl⟩)
                go_ret
                unfold Sp.bldRow
                rw [HB.out]
                simp only [HL.out, Bool.false_eq_true, if_false]
                rw [if_neg (fun hh => hh HW.out), show Sp.badCoef top false x.coef = none from (by have h := HBC.out; rw [HL.out] at h; exact h)]
                simp only
                rw [if_neg (by rw [← HSM.out]; omega)]
                refine ⟨_, rfl, ?_, J3.out⟩
                rw [show Sp.fillR false x.idx 0 (List.replicate data 0) x.coef = row from (by have h := HFL.out; rw [HL.out] at h; exact h.symm)]
                have hll : (ints row).length = row.length := by simp [ints]
                exact ⟨by rw [hll]; omega, .inr ⟨w.heap.size + 1, data, (ints row).toArray, by rw [J8.out]; rfl, Nat.le_succ _, J5.out, by rw [J8.out]; exact Nat.le_refl _, by unfold maxLen; omega, by simp [ints, J8.out], List.take_of_length_le (by simp [ints])⟩⟩
              · have hs0' : decide (0 < (sm : Int)) = false := by simpa using hs0
                clear hrl
                go_wp2_with (go_at_call 60; refine (demand_no _ _ _).mono ?_; rintro e w' ⟨rfl, rfl⟩)
                refine ⟨rfl, ?_⟩
                unfold Sp.bldRow
                rw [HB.out]
                simp only [HL.out, Bool.false_eq_true, if_false]
                rw [if_neg (fun hh => hh HW.out), show Sp.badCoef top false x.coef = none from (by have h := HBC.out; rw [HL.out] at h; exact h)]
                simp only
                rw [if_pos (by rw [← HSM.out]; omega)]
                exact ⟨rfl, J3.out⟩
        · have hwb : ((x.coef.length : Int) == ((data : Nat) : Int)) = false := by rw [beq_eq_false_iff_ne]; omega
          have HW := Lib.hid hw
          clear hw
          go_wp2_with (go_at_call 60; refine (demand_no _ _ _).mono ?_; rintro e w' ⟨rfl, rfl⟩)
          exact ⟨rfl, by unfold Sp.bldRow; rw [HB.out]; simp only [HL.out, Bool.false_eq_true, if_false, if_true]; rw [if_pos HW.out]; exact ⟨rfl, K3.out⟩⟩
      · have HL := Lib.hid hloc
        by_cases hw : x.coef.length = x.idx.length
        · have hwb : ((x.coef.length : Int) == ((x.idx.length : Nat) : Int)) = true := by rw [beq_iff_eq]; omega
          have HW := Lib.hid hw
          clear hw
          go_wp2_with (go_at_call 60; refine (demand_yes _ _ _).mono ?_; rintro e w' ⟨rfl, rfl⟩)
          go_loopg [8, 58] x.coef.length (fun k v8 v58 wr => ∃ (j : Nat) (row : List Int) (sm : Nat), k = x.coef.length - j ∧ j ≤ x.coef.length ∧ v58 = .int .i64 j ∧ v8 = .int .i64 sm ∧
            Sp.badCoef top x.loc (x.coef.drop j) = Sp.badCoef top x.loc x.coef ∧ Sp.fillR x.loc x.idx j row (x.coef.drop j) = Sp.fillR x.loc x.idx 0 (List.replicate data 0) x.coef ∧ sm + Sp.sumN (x.coef.drop j) = Sp.sumN x.coef ∧ sm ≤ j * 65535 ∧ row.length = data ∧
            Below w.heap.size w wr ∧ wr.heap[w.heap.size]? = some (.cells #[.int .i64 x.at_, .bool x.loc, .slice Ai x.idx.length qi, .slice Ac x.coef.length qc] 117 (0, 0)) ∧ wr.heap[w.heap.size + 1]? = some (.cells (ints row).toArray 3 (0, 0)))
          case atStart =>
            refine ⟨0, List.replicate data 0, 0, rfl, Nat.zero_le _, rfl, rfl, rfl, rfl, by simp, Nat.zero_le _, by simp, K3.out, K4.out, ?_⟩
            rw [K5.out, made_ints]
          case round =>
            obtain ⟨j, row, sm, hk, hj, rfl, rfl, hbc, hfl, hsm, hsb, hrl, hbel, b0', b1'⟩ := hrel
            have J1 := Lib.hid hk; have J2 := Lib.hid hbc; have J3 := Lib.hid hbel; have J4 := Lib.hid b0'; have J5 := Lib.hid b1'; have J6 := Lib.hid hfl; have J7 := Lib.hid hsm; have J8 := Lib.hid hrl
            have hlt2 := lt_of_block b1'
            have hlt3 := lt_of_block b0'
            clear m0 m1 m2 m3 K3 K4 K5
            have m0 := blk_c b0' 0; have m1 := blk_c b0' 1; have m2 := blk_c b0' 2; have m3 := blk_c b0' 3
            by_cases hlt : j < x.coef.length
            · have hc2 := own_below' HC.out J3.out
              obtain ⟨gc, hA, c0, c1, c2⟩ := MarksV.at_ hc2 j hlt
              subst hA
              have hi2 := own_below' HI.out J3.out
              have hji : j < x.idx.length := by rw [← HW.out]; exact hlt
              obtain ⟨gi, hA, e0, e1, e2⟩ := MarksV.at_ hi2 j hji
              subst hA
              have hgi : gi < wr.heap.size := World.block_lt_of_cell? wr _ e1
              have AT : x.idx[j].n < data := hall.out _ (List.getElem_mem hji)
              have hjd : x.idx[j].n < row.length := by rw [hrl]; exact AT
              have r0 := blk_c b1' x.idx[j].n
              have r0' : (ints row).toArray[x.idx[j].n]? = some (.int .i64 row[x.idx[j].n]) := by simp [ints, List.getElem?_eq_getElem hjd]
              rw [r0'] at r0
              have r1 := blk_f b1' x.idx[j].n
              clear hi2
              have HD := Lib.hid (List.drop_eq_getElem_cons hlt)
              clear hc2 hk hbc hbel b0' b1' hfl hsm hrl r0'
              by_cases h3 : x.coef[j].n ≤ top
              · by_cases h4n : x.coef[j].n = 0
                · have h4 : ((x.coef[j].n : Int) == 0) = true := by rw [beq_iff_eq]; omega
                  have HBC : Hid (Sp.badCoef top x.loc x.coef = some x.coef[j].at_) := Lib.hid (by
                    have := J2.out; rw [HD.out, Sp.badCoef, if_neg (fun hh => hh.2 ⟨HL.out, h4n⟩)] at this; exact this.symm)
                  have H4 := Lib.hid h4n
                  clear h4n
                  go_wp2_with (go_at_call 60; refine (demand_no _ _ _).mono ?_; rintro e w' ⟨rfl, rfl⟩)
                  exact ⟨rfl, by unfold Sp.bldRow; rw [HB.out]; simp only [HL.out, if_true]; rw [if_neg (fun hh => hh HW.out)]; rw [show Sp.badCoef top true x.coef = some x.coef[j].at_ from (by have h := HBC.out; rw [HL.out] at h; exact h)]; exact ⟨rfl, J3.out.alloc J3.out.size _⟩⟩
                · have h4 : ((x.coef[j].n : Int) == 0) = false := by rw [beq_eq_false_iff_ne]; omega
                  have HBC : Hid (Sp.badCoef top x.loc (x.coef.drop (j + 1)) = Sp.badCoef top x.loc x.coef) := Lib.hid (by
                    have := J2.out; rw [HD.out, Sp.badCoef, if_pos ⟨h3, by simp [HL.out, h4n]⟩] at this; exact this)
                  have HFL : Hid (Sp.fillR x.loc x.idx (j + 1) (row.set x.idx[j].n x.coef[j].n) (x.coef.drop (j + 1)) = Sp.fillR x.loc x.idx 0 (List.replicate data 0) x.coef) := Lib.hid (by
                    have := J6.out; rw [HD.out, Sp.fillR] at this; simpa [HL.out, List.getElem?_eq_getElem hji] using this)
                  have HSM : Hid (sm + x.coef[j].n + Sp.sumN (x.coef.drop (j + 1)) = Sp.sumN x.coef) := Lib.hid (by
                    have := J7.out; rw [HD.out] at this; simp only [Sp.sumN, List.map_cons, List.sum_cons] at this ⊢; omega)
                  have hnb : sm + x.coef[j].n ≤ (j + 1) * 65535 := by omega
                  have hnb2 : sm + x.coef[j].n ≤ 300000000 := by omega
                  go_wp2_with (go_at_call 60; refine (demand_yes _ _ _).mono ?_; rintro e w' ⟨rfl, rfl⟩)
                  go_roundg (x.coef.length - (j + 1))
                  case measure => rw [J1.out]; omega
                  case rel =>
                    refine ⟨j + 1, row.set x.idx[j].n x.coef[j].n, sm + x.coef[j].n, rfl, by omega, by go_num, by go_num, HBC.out, HFL.out, HSM.out, hnb, by rw [List.length_set]; exact J8.out, (J3.out.setCell (p := ⟨w.heap.size + 1, x.idx[j].n, none⟩) (Nat.le_succ _) _).alloc (J3.out.setCell (p := ⟨w.heap.size + 1, x.idx[j].n, none⟩) (Nat.le_succ _) (.int .i64 x.coef[j].n)).size _, blk_old (blk_far J4.out (p := ⟨w.heap.size + 1, x.idx[j].n, none⟩) (by simp) _) _, ?_⟩
                    have hb5 := blk_set J5.out x.idx[j].n (.int .i64 x.coef[j].n)
                    rw [ints_set] at hb5
                    exact blk_old hb5 _
              · have HBC : Hid (Sp.badCoef top x.loc x.coef = some x.coef[j].at_) := Lib.hid (by
                  have := J2.out; rw [HD.out, Sp.badCoef, if_neg (fun hh => h3 hh.1)] at this; exact this.symm)
                go_wp2_with (go_at_call 60; refine (demand_no _ _ _).mono ?_; rintro e w' ⟨rfl, rfl⟩)
                exact ⟨rfl, by unfold Sp.bldRow; rw [HB.out]; simp only [HL.out, if_true]; rw [if_neg (fun hh => hh HW.out)]; rw [show Sp.badCoef top true x.coef = some x.coef[j].at_ from (by have h := HBC.out; rw [HL.out] at h; exact h)]; exact ⟨rfl, J3.out.alloc J3.out.size _⟩⟩
            · have HBC : Hid (Sp.badCoef top x.loc x.coef = none) := Lib.hid (by rw [← hbc, List.drop_eq_nil_of_le (by omega)]; rfl)
              have HFL : Hid (row = Sp.fillR x.loc x.idx 0 (List.replicate data 0) x.coef) := Lib.hid (by rw [← hfl, List.drop_eq_nil_of_le (by omega)]; rfl)
              have HSM : Hid (sm = Sp.sumN x.coef) := Lib.hid (by rw [← hsm, List.drop_eq_nil_of_le (by omega)]; simp [Sp.sumN])
              clear hk hbc hbel b0' b1' hfl hsm
              by_cases hs0 : 0 < sm
              · have hs0' : decide (0 < (sm : Int)) = true := by simpa using hs0
                have hdl : row.length ≤ 31 := by omega
                have H8 := Lib.hid hrl; clear hrl
                go_wp2_with (go_at_call 60; refine (demand_yes _ _ _).mono ?_; rintro e w' ⟨rfl, rfl⟩)
                go_ret
                unfold Sp.bldRow
                rw [HB.out]
                simp only [HL.out, if_true]
                rw [if_neg (fun hh => hh HW.out), show Sp.badCoef top true x.coef = none from (by have h := HBC.out; rw [HL.out] at h; exact h)]
                simp only
                rw [if_neg (by rw [← HSM.out]; omega)]
                refine ⟨_, rfl, ?_, J3.out⟩
                rw [show Sp.fillR true x.idx 0 (List.replicate data 0) x.coef = row from (by have h := HFL.out; rw [HL.out] at h; exact h.symm)]
                have hll : (ints row).length = row.length := by simp [ints]
                exact ⟨by rw [hll]; omega, .inr ⟨w.heap.size + 1, data, (ints row).toArray, by rw [J8.out]; rfl, Nat.le_succ _, J5.out, by rw [J8.out]; exact Nat.le_refl _, by unfold maxLen; omega, by simp [ints, J8.out], List.take_of_length_le (by simp [ints])⟩⟩
              · have hs0' : decide (0 < (sm : Int)) = false := by simpa using hs0
                clear hrl
                go_wp2_with (go_at_call 60; refine (demand_no _ _ _).mono ?_; rintro e w' ⟨rfl, rfl⟩)
                refine ⟨rfl, ?_⟩
                unfold Sp.bldRow
                rw [HB.out]
                simp only [HL.out, if_true]
                rw [if_neg (fun hh => hh HW.out), show Sp.badCoef top true x.coef = none from (by have h := HBC.out; rw [HL.out] at h; exact h)]
                simp only
                rw [if_pos (by rw [← HSM.out]; omega)]
                exact ⟨rfl, J3.out⟩
        · have hwb : ((x.coef.length : Int) == ((x.idx.length : Nat) : Int)) = false := by rw [beq_eq_false_iff_ne]; omega
          have HW := Lib.hid hw
          clear hw
          go_wp2_with (go_at_call 60; refine (demand_no _ _ _).mono ?_; rintro e w' ⟨rfl, rfl⟩)
          exact ⟨rfl, by unfold Sp.bldRow; rw [HB.out]; simp only [HL.out, Bool.false_eq_true, if_false, if_true]; rw [if_pos HW.out]; exact ⟨rfl, K3.out⟩⟩
end Go.Proofs.YtppeplonnippcaaDoor
