/-
Layer 7: Check.
-/
import Derived.Test.YtppeplonnippcaaDoorC1
import Derived.Deep.DeepCutAuto
set_option linter.unusedVariables false
set_option linter.unusedSimpArgs false
namespace Go.Proofs.YtppeplonnippcaaDoor
open Go.RowKit

def isFi (n : Int) : Bool := decide (n = 8) || decide (n = 16)
theorem isField_int (n : Int) (w : World) : Calls Tryd.prog 34 #[.int .i64 n] w fun e w' => e = .returned (.bool (isFi n)) ∧ w = w' := by
  by_cases h1 : n = 8
  · subst h1
    go_enter Tryd.func34, Tryd.ntmps34
    go_wp2
    all_goals (go_ret; exact ⟨rfl, rfl⟩)
  · have HF : Hid (isFi n = decide (n = 16)) := Lib.hid (by simp [isFi, h1])
    have h1b : (n == 8) = false := by rw [beq_eq_false_iff_ne]; exact h1
    clear h1
    by_cases h2 : n = 16
    · subst h2
      go_enter Tryd.func34, Tryd.ntmps34
      go_wp2
      all_goals (go_ret; exact ⟨rfl, rfl⟩)
    · have HF2 : Hid (isFi n = false) := Lib.hid (by rw [HF.out]; exact decide_eq_false h2)
      have h2b : (n == 16) = false := by rw [beq_eq_false_iff_ne]; exact h2
      clear h2
      go_enter Tryd.func34, Tryd.ntmps34
      go_wp2
      all_goals (go_ret; exact ⟨by rw [HF2.out]; rfl, rfl⟩)

theorem quiet3 {P : Program} {f : FuncId} {args : Array Value} {w : World} {a n : Nat} {v : Value}
    (h : Calls P f args (w.drewN (a + n)) fun e w' => e = .returned v ∧ w.drewN (a + n) = w') : Calls P f args (w.drewN (a + n)) fun e w'' => e = .returned v ∧ ∃ m, w'' = w.drewN (a + m) :=
  h.mono fun _ _ ⟨he, hm⟩ => ⟨he, n, hm.symm⟩
theorem rowOk_no {f d : Int} {x : List Int} (h : ¬ (x.length : Int) = d ∨ (∃ y ∈ x, y < 0) ∨ (¬ ∃ y ∈ x, 1 ≤ y) ∨ (∃ y ∈ x, 2 ^ f.toNat ≤ y)) : Sp.rowOk f d x = false := by
  rw [← Bool.not_eq_true]
  intro hh
  simp only [Sp.rowOk, Bool.and_eq_true, decide_eq_true_eq, List.all_eq_true, List.any_eq_true] at hh
  obtain ⟨⟨h1, h2⟩, y, hy, h3⟩ := hh
  rcases h with h | ⟨z, hz, h⟩ | h | ⟨z, hz, h⟩
  · exact h h1
  · have := (h2 z hz).1; omega
  · exact h ⟨y, hy, by omega⟩
  · have := (h2 z hz).2; omega
theorem rowOk_yes {f d : Int} {x : List Int} (h1 : (x.length : Int) = d) (h2 : ¬ ∃ y ∈ x, y < 0) (h3 : ∃ y ∈ x, 1 ≤ y) (h4 : ¬ ∃ y ∈ x, 2 ^ f.toNat ≤ y) : Sp.rowOk f d x = true := by
  simp only [Sp.rowOk, Bool.and_eq_true, decide_eq_true_eq, List.all_eq_true, List.any_eq_true]
  obtain ⟨z, hz, h3⟩ := h3
  refine ⟨⟨h1, fun y hy => ⟨?_, ?_⟩⟩, z, hz, by omega⟩
  · rcases Int.lt_or_le y 0 with h | h
    · exact absurd ⟨y, hy, h⟩ h2
    · exact h
  · rcases Int.lt_or_le y (2 ^ f.toNat) with h | h
    · omega
    · exact absurd ⟨y, hy, h⟩ h4
theorem all_no {α : Type} {p : α → Bool} {l : List α} {j : Nat} {x : α} (hj : j < l.length) (hx : x = l[j]) (h : p x = false) : l.all p = false := by
  subst hx
  rw [List.all_eq_false]
  exact ⟨_, List.getElem_mem hj, by rw [h]; decide⟩
theorem all_step {α : Type} {p : α → Bool} {l : List α} {j : Nat} {x : α} (hj : j < l.length) (hx : x = l[j]) (ha : (l.take j).all p = true) (h : p x = true) : (l.take (j + 1)).all p = true := by
  subst hx
  rw [List.take_succ_eq_append_getElem hj, List.all_append, ha]
  simp [h]
theorem fm_min_lt {xs : List Int} (hn : 0 < xs.length) : fm min xs < 0 ↔ ∃ x ∈ xs, x < 0 := by
  cases xs with
  | nil => simp at hn
  | cons a l =>
    clear hn
    simp only [fm, List.mem_cons]
    induction l generalizing a with
    | nil => simp
    | cons b l ih =>
      rw [List.foldl_cons, ih]
      constructor
      · rintro ⟨x, rfl | hx, h0⟩
        · rcases Int.lt_or_le a 0 with h | h
          · exact ⟨a, .inl rfl, h⟩
          · exact ⟨b, .inr (List.mem_cons_self ..), by omega⟩
        · exact ⟨x, .inr (List.mem_cons_of_mem _ hx), h0⟩
      · rintro ⟨x, rfl | hx, h0⟩
        · exact ⟨_, .inl rfl, by omega⟩
        · rcases List.mem_cons.1 hx with rfl | hx
          · exact ⟨_, .inl rfl, by omega⟩
          · exact ⟨x, .inr hx, h0⟩
theorem fm_max_ge {xs : List Int} (hn : 0 < xs.length) (t : Int) : t ≤ fm max xs ↔ ∃ x ∈ xs, t ≤ x := by
  cases xs with
  | nil => simp at hn
  | cons a l =>
    clear hn
    simp only [fm, List.mem_cons]
    induction l generalizing a with
    | nil => simp
    | cons b l ih =>
      rw [List.foldl_cons, ih]
      constructor
      · rintro ⟨x, rfl | hx, h0⟩
        · rcases Int.lt_or_le a t with h | h
          · exact ⟨b, .inr (List.mem_cons_self ..), by omega⟩
          · exact ⟨a, .inl rfl, h⟩
        · exact ⟨x, .inr (List.mem_cons_of_mem _ hx), h0⟩
      · rintro ⟨x, rfl | hx, h0⟩
        · exact ⟨_, .inl rfl, by omega⟩
        · rcases List.mem_cons.1 hx with rfl | hx
          · exact ⟨_, .inl rfl, by omega⟩
          · exact ⟨x, .inr hx, h0⟩

def CheckPost (c : CodeIn) (w : World) (e : Ending) (w' : World) : Prop :=
  e = .returned (.int .i64 (Sp.ck c.name.data.toList c.field c.data c.rows c.dom : Nat)) ∧ Below w.heap.size w w'

set_option maxRecDepth 100000 in
set_option maxHeartbeats 4000000 in
theorem Check_any (c : CodeIn) (w : World) (h : c.Ok w) (hi : -9223372036854775808 ≤ c.data ∧ c.data ≤ 9223372036854775807) : Calls Tryd.prog 14 #[c.v] w (CheckPost c w) := by
  obtain ⟨n1, f1, d1, A1, l1, c1, m1⟩ := c
  have HO := Lib.hid h
  have hl := h.len; have hn := h.name
  dsimp only at hl hn hi
  clear h
  unfold CodeIn.v
  dsimp only
  go_enter Tryd.func14, Tryd.ntmps14
  go_upto_region 1 with fail
  have g := heap_alloc_new w (.cells #[.string n1, .int .i64 f1, .int .i64 d1, .slice A1 l1.length c1, .int .i64 m1] 24)
  have HB : Hid (Below w.heap.size w (w.alloc (.cells #[.string n1, .int .i64 f1, .int .i64 d1, .slice A1 l1.length c1, .int .i64 m1] 24))) := Lib.hid ((Below.refl _ _).alloc (Nat.le_refl _) _)
  have HR := Lib.hid (HO.out.rows.below HB.out)
  have hL := lt_of_block g
  generalize w.alloc (.cells #[.string n1, .int .i64 f1, .int .i64 d1, .slice A1 l1.length c1, .int .i64 m1] 24) = W at *
  have a0 : W.cell? ⟨w.heap.size, 0, none⟩ = some (.string n1) := blk_c g 0
  have a1 : W.cell? ⟨w.heap.size, 1, none⟩ = some (.int .i64 f1) := blk_c g 1
  have a2 : W.cell? ⟨w.heap.size, 2, none⟩ = some (.int .i64 d1) := blk_c g 2
  have a3 : W.cell? ⟨w.heap.size, 3, none⟩ = some (.slice A1 l1.length c1) := blk_c g 3
  have a4 : W.cell? ⟨w.heap.size, 4, none⟩ = some (.int .i64 m1) := blk_c g 4
  have G := Lib.hid g; clear g
  obtain ⟨b, hb⟩ : ∃ b, b = Sp.wd n1.data.toList := ⟨_, rfl⟩
  have HBb := Lib.hid hb
  have HSZ : Hid (n1.data.toList.length = n1.size) := Lib.hid rfl
  obtain ⟨ff, hff⟩ : ∃ ff, ff = isFi f1 := ⟨_, rfl⟩
  have HF := Lib.hid hff
  clear hb hff
  go_upto_region 2 with fail
  obtain ⟨WD, hWD⟩ : ∃ WD, WD = wrap64 (d1 + (l1.length : Int)) := ⟨_, rfl⟩
  rw [← hWD]
  have HWD := Lib.hid hWD; clear hWD
  rcases Bool.eq_false_or_eq_true b with hbb | hbb
  · subst hbb
    by_cases e1 : n1.size ≤ 12
    · have e1b : decide ((n1.size : Int) > 12) = false := by rw [decide_eq_false_iff_not]; omega
      have e1c : decide (12 < n1.size) = false := by rw [decide_eq_false_iff_not]; omega
      rcases Bool.eq_false_or_eq_true ff with hf | hf
      · subst hf
        have HFF : Hid (f1 = 8 ∨ f1 = 16) := Lib.hid (by have := HF.out.symm; simpa [isFi] using this)
        by_cases e3 : d1 < 1
        · have e3b : decide (d1 < 1) = true := decide_eq_true e3
          go_wp2_with (first | (go_at_call 33; refine (isWord_any n1 _ hn).mono ?_; rintro e w' ⟨rfl, rfl⟩; rw [← HBb.out]) | (go_at_call 34; refine (isField_int _ _).mono ?_; rintro e w' ⟨rfl, rfl⟩; rw [← HF.out]))
          go_ret
          exact ⟨by rw [show Sp.ck n1.data.toList f1 d1 l1 m1 = _ from (by unfold Sp.ck; rw [if_neg (by rw [← HBb.out]; decide), if_neg (by rw [HSZ.out]; omega), if_pos (.inr (.inl e3))])]; rfl, HB.out⟩
        · have e3b : decide (d1 < 1) = false := decide_eq_false e3
          by_cases e4 : 31 < d1
          · have e4b : decide (d1 > 31) = true := decide_eq_true e4
            have e4c : decide (31 < d1) = true := decide_eq_true e4
            go_wp2_with (first | (go_at_call 33; refine (isWord_any n1 _ hn).mono ?_; rintro e w' ⟨rfl, rfl⟩; rw [← HBb.out]) | (go_at_call 34; refine (isField_int _ _).mono ?_; rintro e w' ⟨rfl, rfl⟩; rw [← HF.out]))
            go_ret
            exact ⟨by rw [show Sp.ck n1.data.toList f1 d1 l1 m1 = _ from (by unfold Sp.ck; rw [if_neg (by rw [← HBb.out]; decide), if_neg (by rw [HSZ.out]; omega), if_pos (.inr (.inr (.inl e4)))])]; rfl, HB.out⟩
          · have e4b : decide (d1 > 31) = false := decide_eq_false e4
            have e4c : decide (31 < d1) = false := decide_eq_false e4
            by_cases e5 : l1.length = 0
            · have e5b : ((l1.length : Int) == 0) = true := by rw [beq_iff_eq]; omega
              have HL0 := Lib.hid (List.eq_nil_of_length_eq_zero e5)
              clear e5
              go_wp2_with (first | (go_at_call 33; refine (isWord_any n1 _ hn).mono ?_; rintro e w' ⟨rfl, rfl⟩; rw [← HBb.out]) | (go_at_call 34; refine (isField_int _ _).mono ?_; rintro e w' ⟨rfl, rfl⟩; rw [← HF.out]))
              go_ret
              exact ⟨by rw [show Sp.ck n1.data.toList f1 d1 l1 m1 = _ from (by unfold Sp.ck; rw [if_neg (by rw [← HBb.out]; decide), if_neg (by rw [HSZ.out]; omega), if_pos (.inr (.inr (.inr HL0.out)))])]; rfl, HB.out⟩
            · have e5b : ((l1.length : Int) == 0) = false := by rw [beq_eq_false_iff_ne]; omega
              have HL0 : Hid (¬ l1 = []) := Lib.hid (fun e => e5 (by rw [e]; rfl))
              clear e5
              have hWd : WD = d1 + (l1.length : Int) := by rw [HWD.out]; unfold wrap64; omega
              by_cases e6 : 32 < WD
              · have e6b : decide (WD > 32) = true := decide_eq_true e6
                have e6c : decide (32 < WD) = true := decide_eq_true e6
                have HW6 := Lib.hid hWd
                clear hWd
                go_wp2_with (first | (go_at_call 33; refine (isWord_any n1 _ hn).mono ?_; rintro e w' ⟨rfl, rfl⟩; rw [← HBb.out]) | (go_at_call 34; refine (isField_int _ _).mono ?_; rintro e w' ⟨rfl, rfl⟩; rw [← HF.out]))
                go_ret
                exact ⟨by rw [show Sp.ck n1.data.toList f1 d1 l1 m1 = _ from (by unfold Sp.ck; rw [if_neg (by rw [← HBb.out]; decide), if_neg (by rw [HSZ.out]; omega), if_neg (fun hh => hh.elim (fun h => h HFF.out) (fun h => h.elim (fun h => absurd h (by omega)) (fun h => h.elim (fun h => absurd h (by omega)) (fun h => HL0.out h)))), if_pos (by rw [← HW6.out]; exact e6)])]; rfl, HB.out⟩
              · have e6b : decide (WD > 32) = false := decide_eq_false e6
                have e6c : decide (32 < WD) = false := decide_eq_false e6
                have HW6 := Lib.hid hWd
                have hll : l1.length ≤ 31 := by omega
                clear hWd
                go_wp2_with (first | (go_at_call 33; refine (isWord_any n1 _ hn).mono ?_; rintro e w' ⟨rfl, rfl⟩; rw [← HBb.out]) | (go_at_call 34; refine (isField_int _ _).mono ?_; rintro e w' ⟨rfl, rfl⟩; rw [← HF.out]))
                have HBAD : Hid (l1.all (Sp.rowOk f1 d1) = false → Sp.ck n1.data.toList f1 d1 l1 m1 = 1) := Lib.hid (fun h => by unfold Sp.ck; rw [if_neg (by rw [← HBb.out]; decide), if_neg (by rw [HSZ.out]; omega), if_neg (fun hh => hh.elim (fun h => h HFF.out) (fun h => h.elim (fun h => absurd h (by omega)) (fun h => h.elim (fun h => absurd h (by omega)) (fun h => HL0.out h)))), if_neg (by rw [← HW6.out]; omega), if_pos h])
                have HGOOD : Hid (l1.all (Sp.rowOk f1 d1) = true → Sp.ck n1.data.toList f1 d1 l1 m1 = if m1 < 1 ∨ WD < m1 then 1 else 0) := Lib.hid (fun h => by unfold Sp.ck; rw [if_neg (by rw [← HBb.out]; decide), if_neg (by rw [HSZ.out]; omega), if_neg (fun hh => hh.elim (fun h => h HFF.out) (fun h => h.elim (fun h => absurd h (by omega)) (fun h => h.elim (fun h => absurd h (by omega)) (fun h => HL0.out h)))), if_neg (by rw [← HW6.out]; omega), if_neg (by rw [h]; decide), ← HW6.out])
                go_loopg [5, 49] l1.length (fun k v5 v wr => ∃ j : Nat, k = l1.length - j ∧ j ≤ l1.length ∧ v = .int .i64 j ∧ (l1.take j).all (Sp.rowOk f1 d1) = true ∧ ∃ m, wr = W.drewN m)
                case atStart => exact ⟨0, rfl, Nat.zero_le _, rfl, rfl, 0, rfl⟩
                case round =>
                  obtain ⟨j, hk, hj, rfl, hall, m, rfl⟩ := hrel
                  have HKL := Lib.hid hk; have HAL := Lib.hid hall
                  clear hk hall
                  by_cases hlt : j < l1.length
                  · have hltb : decide ((j : Int) < (l1.length : Int)) = true := by rw [decide_eq_true_iff]; omega
                    obtain ⟨ad, A0, c0, hA, hc, hc0, hr0⟩ := HR.out j hlt
                    subst hA
                    obtain ⟨x, hx⟩ : ∃ x, x = l1[j] := ⟨_, rfl⟩
                    rw [← hx] at hc hc0 hr0
                    have HX := Lib.hid hx; have HR0 := Lib.hid hr0
                    have hi1 : (j : Int) < (l1.length : Int) := by omega
                    have hcc : (W.drewN m).cell? (ad.add j) = some (.slice A0 x.length c0) := hc
                    clear hx hr0 hc
                    by_cases e7 : (x.length : Int) = d1
                    · have e7b : ((x.length : Int) != d1) = false := by simp; exact e7
                      have e7c : ((x.length : Int) == d1) = true := by rw [beq_iff_eq]; exact e7
                      have hx0 : 0 < x.length := by omega
                      have hxl : x.length ≤ 4611686018427387904 := by omega
                      have E7 := Lib.hid e7; clear e7
                      go_upto_region 13 with fail
                      have QMIN := Lib.hid (fun V (h : IntsAt V A0 x) => min_any A0 c0 x V h hx0 hxl)
                      have QMAX := Lib.hid (fun V (h : IntsAt V A0 x) => max_any A0 c0 x V h hx0 hxl)
                      have HN := Lib.hid (fm_min_lt hx0); have HM1 := Lib.hid (fm_max_ge hx0 1); have HM2 := Lib.hid (fm_max_ge hx0 (2 ^ f1.toNat))
                      obtain ⟨mn, hmn⟩ : ∃ mn, mn = fm min x := ⟨_, rfl⟩
                      obtain ⟨mx, hmx⟩ : ∃ mx, mx = fm max x := ⟨_, rfl⟩
                      rw [← hmn] at QMIN HN; rw [← hmx] at QMAX HM1 HM2
                      clear hmn hmx hx0
                      by_cases c1 : mn < 0
                      · have c1b : decide (mn < 0) = true := decide_eq_true c1
                        go_quiet ((first | (go_at_call 35; exact quiet3 (QMIN.out _ HR0.out)) | (go_at_call 36; exact quiet3 (QMAX.out _ HR0.out))))
                        go_wp2_with fail
                        go_ret
                        exact ⟨by rw [HBAD.out (all_no hlt HX.out (rowOk_no (.inr (.inl (HN.out.1 c1)))))]; rfl, by first | exact bel_drewN HB.out _ | exact bel_drewN (bel_drewN HB.out _) _⟩
                      · have c1b : decide (mn < 0) = false := decide_eq_false c1
                        by_cases c2 : mx < 1
                        · have c2b : decide (mx < 1) = true := decide_eq_true c2
                          go_quiet ((first | (go_at_call 35; exact quiet3 (QMIN.out _ HR0.out)) | (go_at_call 36; exact quiet3 (QMAX.out _ HR0.out))))
                          go_wp2_with fail
                          go_ret
                          exact ⟨by rw [HBAD.out (all_no hlt HX.out (rowOk_no (.inr (.inr (.inl (fun h => absurd (HM1.out.2 h) (by omega)))))))]; rfl, by first | exact bel_drewN HB.out _ | exact bel_drewN (bel_drewN HB.out _) _⟩
                        · have c2b : decide (mx < 1) = false := decide_eq_false c2
                          rcases HFF.out with e8 | e8
                          · subst e8
                            go_quiet ((first | (go_at_call 35; exact quiet3 (QMIN.out _ HR0.out)) | (go_at_call 36; exact quiet3 (QMAX.out _ HR0.out))))
                            go_wp2_with fail
                            · go_ret
                              exact ⟨by rw [HBAD.out (all_no hlt HX.out (rowOk_no (.inr (.inr (.inr (HM2.out.1 (by show (256 : Int) ≤ mx; omega)))))))]; rfl, by first | exact bel_drewN HB.out _ | exact bel_drewN (bel_drewN HB.out _) _⟩
                            · have HOK := Lib.hid (all_step hlt HX.out HAL.out (rowOk_yes E7.out (fun h => absurd (HN.out.2 h) (by omega)) (HM1.out.1 (by omega)) (fun h => absurd (show (256 : Int) ≤ mx from HM2.out.2 h) (by omega))))
                              go_roundg (l1.length - (j + 1))
                              case measure => rw [HKL.out]; omega
                              case rel => exact ⟨j + 1, rfl, by omega, by go_num, HOK.out, _, rfl⟩
                          · subst e8
                            go_quiet ((first | (go_at_call 35; exact quiet3 (QMIN.out _ HR0.out)) | (go_at_call 36; exact quiet3 (QMAX.out _ HR0.out))))
                            go_wp2_with fail
                            · go_ret
                              exact ⟨by rw [HBAD.out (all_no hlt HX.out (rowOk_no (.inr (.inr (.inr (HM2.out.1 (by show (65536 : Int) ≤ mx; omega)))))))]; rfl, by first | exact bel_drewN HB.out _ | exact bel_drewN (bel_drewN HB.out _) _⟩
                            · have HOK := Lib.hid (all_step hlt HX.out HAL.out (rowOk_yes E7.out (fun h => absurd (HN.out.2 h) (by omega)) (HM1.out.1 (by omega)) (fun h => absurd (show (65536 : Int) ≤ mx from HM2.out.2 h) (by omega))))
                              go_roundg (l1.length - (j + 1))
                              case measure => rw [HKL.out]; omega
                              case rel => exact ⟨j + 1, rfl, by omega, by go_num, HOK.out, _, rfl⟩
                    · have e7b : ((x.length : Int) != d1) = true := by simp; exact e7
                      have e7c : ((x.length : Int) == d1) = false := by rw [beq_eq_false_iff_ne]; exact e7
                      have E7 := Lib.hid e7; clear e7
                      go_upto_region 13 with fail
                      go_quiet (fail)
                      go_wp2_with fail
                      go_ret
                      exact ⟨by rw [HBAD.out (all_no hlt HX.out (rowOk_no (.inl E7.out)))]; rfl, by first | exact bel_drewN HB.out _ | exact bel_drewN (bel_drewN HB.out _) _⟩
                  · have hltb : decide ((j : Int) < (l1.length : Int)) = false := by rw [decide_eq_false_iff_not]; omega
                    have HG := Lib.hid (HGOOD.out (by have := HAL.out; rwa [List.take_of_length_le (by omega)] at this))
                    by_cases c1 : m1 < 1
                    · have c1b : decide (m1 < 1) = true := decide_eq_true c1
                      go_wp2_with fail
                      go_ret
                      exact ⟨by rw [HG.out, if_pos (.inl c1)]; rfl, by first | exact bel_drewN HB.out _ | exact bel_drewN (bel_drewN HB.out _) _⟩
                    · have c1b : decide (m1 < 1) = false := decide_eq_false c1
                      by_cases c2 : WD < m1
                      · have c2b : decide (m1 > WD) = true := decide_eq_true c2
                        have c2c : decide (WD < m1) = true := decide_eq_true c2
                        go_wp2_with fail
                        go_ret
                        exact ⟨by rw [HG.out, if_pos (.inr c2)]; rfl, by first | exact bel_drewN HB.out _ | exact bel_drewN (bel_drewN HB.out _) _⟩
                      · have c2b : decide (m1 > WD) = false := decide_eq_false c2
                        have c2c : decide (WD < m1) = false := decide_eq_false c2
                        go_wp2_with fail
                        go_ret
                        exact ⟨by rw [HG.out, if_neg (by omega)]; rfl, by first | exact bel_drewN HB.out _ | exact bel_drewN (bel_drewN HB.out _) _⟩
      · subst hf
        have HFF : Hid (¬ (f1 = 8 ∨ f1 = 16)) := Lib.hid (by have := HF.out.symm; simp only [isFi, Bool.or_eq_false_iff, decide_eq_false_iff_not] at this; exact fun hh => hh.elim this.1 this.2)
        go_wp2_with (first | (go_at_call 33; refine (isWord_any n1 _ hn).mono ?_; rintro e w' ⟨rfl, rfl⟩; rw [← HBb.out]) | (go_at_call 34; refine (isField_int _ _).mono ?_; rintro e w' ⟨rfl, rfl⟩; rw [← HF.out]))
        go_ret
        exact ⟨by rw [show Sp.ck n1.data.toList f1 d1 l1 m1 = _ from (by unfold Sp.ck; rw [if_neg (by rw [← HBb.out]; decide), if_neg (by rw [HSZ.out]; omega), if_pos (.inl HFF.out)])]; rfl, HB.out⟩
    · have e1b : decide ((n1.size : Int) > 12) = true := by rw [decide_eq_true_iff]; omega
      have e1c : decide (12 < n1.size) = true := by rw [decide_eq_true_iff]; omega
      go_wp2_with (first | (go_at_call 33; refine (isWord_any n1 _ hn).mono ?_; rintro e w' ⟨rfl, rfl⟩; rw [← HBb.out]) | (go_at_call 34; refine (isField_int _ _).mono ?_; rintro e w' ⟨rfl, rfl⟩; rw [← HF.out]))
      go_ret
      exact ⟨by rw [show Sp.ck n1.data.toList f1 d1 l1 m1 = _ from (by unfold Sp.ck; rw [if_neg (by rw [← HBb.out]; decide), if_pos (by rw [HSZ.out]; omega)])]; rfl, HB.out⟩
  · subst hbb
    go_wp2_with (first | (go_at_call 33; refine (isWord_any n1 _ hn).mono ?_; rintro e w' ⟨rfl, rfl⟩; rw [← HBb.out]) | (go_at_call 34; refine (isField_int _ _).mono ?_; rintro e w' ⟨rfl, rfl⟩; rw [← HF.out]))
    go_ret
    exact ⟨by rw [show Sp.ck n1.data.toList f1 d1 l1 m1 = _ from (by unfold Sp.ck; rw [if_pos HBb.out.symm])]; rfl, HB.out⟩
end Go.Proofs.YtppeplonnippcaaDoor
