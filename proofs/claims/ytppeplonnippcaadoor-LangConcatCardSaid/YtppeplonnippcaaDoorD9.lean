/-
Layer 7: LangConcat is walked.
-/
import Derived.Test.YtppeplonnippcaaDoorD7
import Derived.Test.YtppeplonnippcaaDoorE0
set_option linter.unusedVariables false
set_option linter.unusedSimpArgs false
namespace Go.Proofs.YtppeplonnippcaaDoor
open Go.RowKit Go.Maps

set_option maxHeartbeats 4000000 in
set_option maxRecDepth 100000 in
theorem law10_any (A : Option Addr) (q : Nat) (l : List S24) (w : World) (he : Env w) (ha : CodesAt w A l) (hq : l.length ≤ q) (hl : l.length ≤ 9223372036854775807) (hx : ∀ x ∈ l, OkS x) :
    Calls Tryd.prog 10 #[.slice A l.length q] w fun e w' => e = .returned (.bool true) ∧ Below w.heap.size w w' := by
  have HE := Lib.hid he; have HA := Lib.hid ha; have HX := Lib.hid hx
  have CS : Hid (∀ W, Below w.heap.size w W → Calls Tryd.prog 13 #[] W fun e W' => e = .returned (.bool true) ∧ Below W.heap.size W W') := Lib.hid fun W h => sanity_any W (HE.out.below h)
  clear he ha hx
  go_enter Tryd.func10, Tryd.ntmps10
  by_cases hl8 : l.length ≤ 8
  · have hl8b : decide ((l.length : Int) > 8) = false := by rw [decide_eq_false_iff_not]; omega
    have hl8c : decide (8 < (l.length : Int)) = false := by rw [decide_eq_false_iff_not]; omega
    have hmm := @run_makeMap Tryd.prog
    go_wp2_with fail
    go_loopg [3, 6, 7, 8, 19] l.length (fun k v3 v6 v7 v8 v19 wr => ∃ (j : Nat) (cs : List Sp.Code) (t : ByteArray), k = l.length - j ∧ j ≤ l.length ∧ v19 = .int .i64 (j : Nat) ∧ v3 = .string t ∧ t.data.toList = Sp.prAll cs ∧ cs.map toS = l.take j ∧ (∀ c ∈ cs, Sp.FineC c) ∧ (cs.map (·.name)).Nodup ∧ NamesAt wr w.heap.size j (cs.map (·.name)) ∧ t.size ≤ 2000 ∧ Below w.heap.size w wr)
    case atStart =>
      exact ⟨0, [], ⟨#[]⟩, by omega, by omega, rfl, rfl, rfl, rfl, by simp, by simp, World.ownsMap_made _ _ _ _, by decide, (Below.refl _ _).alloc (Nat.le_refl _) _⟩
    case round =>
      obtain ⟨j, cs, t, hk, hj, rfl, rfl, ht, hcs, hf, hnd, hnm, htz, hbl⟩ := hrel
      have hwr := hbl.size
      have HKL := Lib.hid hk; have HT := Lib.hid ht; have HCS := Lib.hid hcs; have HF := Lib.hid hf; have HND := Lib.hid hnd; have HN := Lib.hid hnm; have HB := Lib.hid hbl
      clear hk ht hcs hf hnd hnm hbl
      by_cases hlt : j < l.length
      · have hltb : decide ((j : Int) < (l.length : Int)) = true := by rw [decide_eq_true_iff]; omega
        obtain ⟨ad, A1, c1, hA, hc1, hrows, hcell⟩ := (HA.out.below HB.out) j hlt
        have hxj := HX.out _ (List.getElem_mem hlt)
        obtain ⟨x, hx⟩ : ∃ x, x = l[j] := ⟨_, rfl⟩
        rw [← hx] at hc1 hrows hcell hxj
        have HXJ := Lib.hid hx
        clear hx
        subst hA
        obtain ⟨n1, f1, d1, l1, m1⟩ := x
        dsimp only at hc1 hrows hcell
        have HOK : Hid ((⟨n1, f1, d1, A1, l1, c1, m1⟩ : CodeIn).Ok wr) := Lib.hid ⟨hrows, hxj.small.len, hxj.small.each, hxj.name, hc1⟩
        have HXX := Lib.hid hxj
        have z0 : wr.cell? (ad.add (j * 5)) = some (.string n1) := hcell 0 _ rfl
        have z1 : wr.cell? ⟨(ad.add (j * 5)).block, (ad.add (j * 5)).off + 1, none⟩ = some (.int .i64 f1) := by have h := hcell 1 _ rfl; rw [← Deep.add_add] at h; exact h
        have z2 : wr.cell? ⟨(ad.add (j * 5)).block, (ad.add (j * 5)).off + 2, none⟩ = some (.int .i64 d1) := by have h := hcell 2 _ rfl; rw [← Deep.add_add] at h; exact h
        have z3 : wr.cell? ⟨(ad.add (j * 5)).block, (ad.add (j * 5)).off + 3, none⟩ = some (.slice A1 l1.length c1) := by have h := hcell 3 _ rfl; rw [← Deep.add_add] at h; exact h
        have z4 : wr.cell? ⟨(ad.add (j * 5)).block, (ad.add (j * 5)).off + 4, none⟩ = some (.int .i64 m1) := by have h := hcell 4 _ rfl; rw [← Deep.add_add] at h; exact h
        clear hcell hrows hxj
        go_wp2_with fail
        have g1 : (wr.alloc (.cells #[.string n1, .int .i64 f1, .int .i64 d1, .slice A1 l1.length c1, .int .i64 m1] 24)).heap[wr.heap.size]? = some (.cells #[.string n1, .int .i64 f1, .int .i64 d1, .slice A1 l1.length c1, .int .i64 m1] 24 (0, 0)) := heap_alloc_new wr _
        have hb0 : Below wr.heap.size wr (wr.alloc (.cells #[.string n1, .int .i64 f1, .int .i64 d1, .slice A1 l1.length c1, .int .i64 m1] 24)) := (Below.refl _ _).alloc (Nat.le_refl _) _
        generalize wr.alloc (.cells #[.string n1, .int .i64 f1, .int .i64 d1, .slice A1 l1.length c1, .int .i64 m1] 24) = V at *
        have hV1 := lt_of_block g1
        have EV := Lib.hid (HB.out.trans (hb0.mono hwr))
        have HNV := Lib.hid (HN.out.below hb0)
        have HOKV := Lib.hid (HOK.out.below hb0)
        have G1 := Lib.hid g1
        clear g1 hb0 HN HOK HB z0 z1 z2 z3 z4
        generalize hS : wr.heap.size = S at *
        clear hS
        refine (Print_any ⟨n1, f1, d1, A1, l1, c1, m1⟩ V (HE.out.below EV.out) HOKV.out ⟨HXX.out.lo, HXX.out.hi⟩).mono ?_
        rintro e w1 ⟨hh, hb⟩
        have E1 := Lib.hid (EV.out.trans (hb.mono EV.out.size))
        have HN1 := Lib.hid (HNV.out.below hb)
        have gb := (hb.block S hV1).trans G1.out
        have hw1 : S < w1.heap.size := lt_of_block gb
        have x0 : w1.cell? ⟨S, 0, none⟩ = some (.string n1) := blk_c gb 0
        have GB := Lib.hid gb
        clear hb HNV HOKV G1 gb EV
        dsimp only at hh
        rcases hp : Sp.pr n1.data.toList f1 d1 l1 m1 with er | lt
        · rw [hp] at hh
          dsimp only at hh
          subst hh
          have her : er ≠ 0 := by
            intro h0; subst h0
            unfold Sp.pr at hp
            split at hp
            · split at hp
              · injection hp with hp; omega
              · cases hp
            · rename_i hc; injection hp with hp; exact hc hp
          have hb1 : ((er : Int) != 0) = true := by simp; omega
          have hb2 : ((er : Int) == 0) = false := by rw [beq_eq_false_iff_ne]; omega
          clear hp her
          go_wp2_with fail
          refine (CS.out w1 E1.out).mono ?_
          rintro e w9 ⟨rfl, hb⟩
          have hfin := E1.out.trans (hb.mono E1.out.size)
          clear hb
          go_wp2_with fail
          go_ret
          exact ⟨rfl, hfin⟩
        · rw [hp] at hh
          dsimp only at hh
          subst hh
          obtain ⟨hFi, hle, hl2⟩ := Sp.pr_ok hp
          have HC := Lib.hid (Sp.codeOf_fine hFi).1
          have HCI := Lib.hid (cOf_inS (c := ⟨n1, f1, d1, A1, l1, c1, m1⟩) hFi)
          clear hp
          obtain ⟨sl, hsl⟩ : ∃ s, s = bs lt := ⟨_, rfl⟩
          have hsz : sl.size = lt.length := by rw [hsl]; rfl
          have hdl : sl.data.toList = Sp.prC (Sp.codeOf n1.data.toList f1 d1 l1 m1) := by rw [hsl, ← hle]; exact bs_list _
          rw [← hsl]
          have HDL := Lib.hid hdl
          have hs2 : sl.size ≤ 2000 := by omega
          have hn1 : n1.size ≤ maxLen := by have h : n1.size ≤ 4611686018427387904 := HXX.out.name; unfold maxLen; omega
          clear hsl hsz hdl hle hl2 hFi
          by_cases hin : n1.data.toList ∈ cs.map (·.name)
          · have hlk : (Instr.lookup 57 (.map (some w.heap.size)) (.string n1) false).run Tryd.prog w1 = .ok (.bool true) w1 := by
              rw [NamesAt.look HN1.out _ hn1, decide_eq_true hin]
            clear hin
            go_wp2_with fail
            refine (CS.out w1 E1.out).mono ?_
            rintro e w9 ⟨rfl, hb⟩
            have hfin := E1.out.trans (hb.mono E1.out.size)
            clear hb
            go_wp2_with fail
            go_ret
            exact ⟨rfl, hfin⟩
          · have hlk : (Instr.lookup 57 (.map (some w.heap.size)) (.string n1) false).run Tryd.prog w1 = .ok (.bool false) w1 := by
              rw [NamesAt.look HN1.out _ hn1, decide_eq_false hin]
            have HIN := Lib.hid hin
            clear hin
            by_cases h2k : t.size + sl.size > 2000
            · have h2b : decide (((t.size : Int) + (sl.size : Int)) > 2000) = true := by rw [decide_eq_true_iff]; omega
              have h2c : decide (2000 < ((t.size : Int) + (sl.size : Int))) = true := by rw [decide_eq_true_iff]; omega
              go_wp2_with fail
              refine (CS.out w1 E1.out).mono ?_
              rintro e w9 ⟨rfl, hb⟩
              have hfin := E1.out.trans (hb.mono E1.out.size)
              clear hb
              go_wp2_with fail
              go_ret
              exact ⟨rfl, hfin⟩
            · have h2b : decide (((t.size : Int) + (sl.size : Int)) > 2000) = false := by rw [decide_eq_false_iff_not]; omega
              have h2c : decide (2000 < ((t.size : Int) + (sl.size : Int))) = false := by rw [decide_eq_false_iff_not]; omega
              go_wp2_with (at_mapUpdate; refine wpList_mapUpdate_own _ rfl _ _ _ 57 rfl 9 4 law9 Tryd.underlying57 (plainElem Tryd.prog 4) w.heap.size j _ rfl HN1.out (by unfold maxLen; omega) _ _ _ rfl rfl (key9 _ hn1) _ [] (plainElem_bool Tryd.underlying4 true) ?_; intro w5 hown5 hgrow5)
              have UN : Hid (NamesAt w5 w.heap.size (j + 1) (cs.map (·.name) ++ [n1.data.toList])) := Lib.hid (by have h := hown5; rw [← setOf_snoc] at h; unfold NamesAt; rw [List.map_append, List.map_singleton]; exact h)
              have UB : Hid (Below w.heap.size w w5) := Lib.hid (E1.out.grown hgrow5 E1.out.size (fun k ek => by cases ek; omega))
              clear hown5 hgrow5 hlk x0
              go_roundg (l.length - (j + 1))
              case measure => rw [HKL.out]; omega
              case rel =>
                refine ⟨j + 1, cs ++ [Sp.codeOf n1.data.toList f1 d1 l1 m1], t ++ sl, rfl, by omega, by go_num, rfl, ?_, ?_, ?_, ?_, ?_, ?_, UB.out⟩
                · rw [ByteArray.data_append, Array.toList_append, HT.out, HDL.out]; simp [Sp.prAll]
                · rw [List.map_append, HCS.out, List.take_succ_eq_append_getElem hlt, ← HXJ.out]
                  congr 1
                  exact congrArg (fun y => [y]) HCI.out
                · intro c hc
                  rcases List.mem_append.1 hc with hc | hc
                  · exact HF.out c hc
                  · rw [List.mem_singleton.1 hc]; exact HC.out
                · rw [List.map_append, List.map_singleton, List.nodup_append]
                  exact ⟨HND.out, by simp, fun a ha b hb => by rw [List.mem_singleton.1 hb]; intro e; subst e; exact HIN.out ha⟩
                · rw [List.map_append, List.map_singleton]; exact UN.out
                · rw [ByteArray.size_append]; omega
      · have hltb : decide ((j : Int) < (l.length : Int)) = false := by rw [decide_eq_false_iff_not]; omega
        obtain rfl : j = l.length := by omega
        have hcl : cs.length = l.length := by have := congrArg List.length HCS.out; simpa using this
        have hmap : cs.map toS = l := by rw [HCS.out, List.take_length]
        have hpl : Sp.parseL false t.data.toList = .ok cs := by rw [HT.out]; exact Sp.parse_all HF.out (by omega) HND.out (by rw [← HT.out]; exact htz)
        have CA := Lib.hid (all_ok t cs wr (HE.out.below HB.out) hpl)
        clear hpl
        go_wp2_with fail
        refine CA.out.mono ?_
        rintro e w2 ⟨A3, q3, rfl, hq3, hc3, hb⟩
        rw [hmap] at hq3 hc3 ⊢
        have E2 := Lib.hid (HB.out.trans (hb.mono hwr))
        have HC3 := Lib.hid hc3
        clear hb hc3 CA
        go_wp2_with fail
        refine (CS.out w2 E2.out).mono ?_
        rintro e w3 ⟨rfl, hb⟩
        have E3 := Lib.hid (E2.out.trans (hb.mono E2.out.size))
        have HC4 := Lib.hid (HC3.out.below hb)
        clear hb
        go_wp2_with fail
        have CZ := Lib.hid (sameAll_any A A3 q q3 l _ (HA.out.below E3.out) HC4.out (by omega) (fun x hx => (HX.out x hx).small) hq hq3)
        refine CZ.out.mono ?_
        rintro e w4 ⟨rfl, hb⟩
        have hfin := E3.out.trans (hb.mono E3.out.size)
        clear hb
        go_wp2_with fail
        go_ret
        exact ⟨rfl, hfin⟩
  · have hl8b : decide ((l.length : Int) > 8) = true := by rw [decide_eq_true_iff]; omega
    have hl8c : decide (8 < (l.length : Int)) = true := by rw [decide_eq_true_iff]; omega
    go_wp2_with fail
    refine (CS.out w (Below.refl _ _)).mono ?_
    rintro e w2 ⟨rfl, hb⟩
    have hfin := hb
    clear hb
    go_wp2_with fail
    go_ret
    exact ⟨rfl, hfin⟩
end Go.Proofs.YtppeplonnippcaaDoor
