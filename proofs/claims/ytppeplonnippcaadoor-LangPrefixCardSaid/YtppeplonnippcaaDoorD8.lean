/-
Layer 7: LangPrefix is walked.
-/
import Derived.Test.YtppeplonnippcaaDoorD7
set_option linter.unusedVariables false
set_option linter.unusedSimpArgs false
namespace Go.Proofs.YtppeplonnippcaaDoor
open Go.RowKit

theorem idx_before (b : UInt8) : ∀ (l : List UInt8), Lib.indexByte l b = -1 ∨ ∃ k : Nat, Lib.indexByte l b = (k : Int) ∧ b ∉ l.take k ∧ k < l.length := by
  intro l
  induction l with
  | nil => left; rfl
  | cons c l ih =>
    unfold Lib.indexByte
    by_cases h : c = b
    · right; exact ⟨0, by simp [h], by simp, by simp⟩
    · have hb : (c == b) = false := by simpa using h
      simp only [hb, Bool.false_eq_true, if_false]
      rcases ih with i1 | ⟨k, i1, i2, i3⟩
      · left; rw [i1]; simp
      · right
        have : ((k : Int) == -1) = false := by rw [beq_eq_false_iff_ne]; omega
        rw [i1]
        simp only [this, Bool.false_eq_true, if_false]
        refine ⟨k + 1, by omega, ?_, by simp; omega⟩
        rw [List.take_succ_cons, List.mem_cons, not_or]
        exact ⟨fun e => h e.symm, i2⟩

set_option maxHeartbeats 4000000 in
set_option maxRecDepth 100000 in
theorem law9_any (a : CodeIn) (n : Int) (w : World) (he : Env w) (ha : a.Ok w) (hi : -9223372036854775808 ≤ a.data ∧ a.data ≤ 9223372036854775807) :
    Calls Tryd.prog 9 #[a.v, .int .i64 n] w fun e w' => e = .returned (.bool true) ∧ Below w.heap.size w w' := by
  have HE := Lib.hid he; have HA := Lib.hid ha
  have CP : Hid (∀ W, Below w.heap.size w W → Calls Tryd.prog 11 #[a.v] W (PrintPost a W)) := Lib.hid fun W h => Print_any a W (HE.out.below h) (HA.out.below h) hi
  have CS : Hid (∀ W, Below w.heap.size w W → Calls Tryd.prog 13 #[] W fun e W' => e = .returned (.bool true) ∧ Below W.heap.size W W') := Lib.hid fun W h => sanity_any W (HE.out.below h)
  clear he ha hi
  obtain ⟨n1, f1, d1, A1, l1, c1, m1⟩ := a
  unfold CodeIn.v at *
  dsimp only at *
  go_enter Tryd.func9, Tryd.ntmps9
  go_wp2_with fail
  have g1 : (w.alloc (.cells #[.string n1, .int .i64 f1, .int .i64 d1, .slice A1 l1.length c1, .int .i64 m1] 24)).heap[w.heap.size]? = some (.cells #[.string n1, .int .i64 f1, .int .i64 d1, .slice A1 l1.length c1, .int .i64 m1] 24 (0, 0)) := heap_alloc_new w _
  have hb0 : Below w.heap.size w (w.alloc (.cells #[.string n1, .int .i64 f1, .int .i64 d1, .slice A1 l1.length c1, .int .i64 m1] 24)) := (Below.refl _ _).alloc (Nat.le_refl _) _
  generalize w.alloc (.cells #[.string n1, .int .i64 f1, .int .i64 d1, .slice A1 l1.length c1, .int .i64 m1] 24) = V at *
  have G1 := Lib.hid g1; have B0 := Lib.hid hb0
  have hV1 := lt_of_block g1
  clear g1 hb0
  have KB : Hid (∀ W, Below V.heap.size V W → Below w.heap.size w W) := Lib.hid fun W h => B0.out.trans (h.mono (Nat.le_of_lt hV1))
  refine (CP.out V B0.out).mono ?_
  rintro e w1 ⟨hh, hb⟩
  have B1 := Lib.hid hb
  have hs1 : V.heap.size ≤ w1.heap.size := hb.size
  clear hb
  dsimp only at hh
  rcases hp : Sp.pr n1.data.toList f1 d1 l1 m1 with er | l
  · rw [hp] at hh
    dsimp only at hh
    subst hh
    have her : er ≠ 0 := by
      intro h0; subst h0
      unfold Sp.pr at hp
      split at hp
      · split at hp
        · injection hp with hp; omega
        · cases hp
      · rename_i hc; injection hp with hp; exact hc hp
    have hb1 : ((er : Int) != 0) = true := by simp; omega
    have hb2 : ((er : Int) == 0) = false := by rw [beq_eq_false_iff_ne]; omega
    clear hp her
    go_wp2_with fail
    refine (CS.out w1 (KB.out _ B1.out)).mono ?_
    rintro e w2 ⟨rfl, hb⟩
    have hfin := KB.out _ (B1.out.trans (hb.mono hs1))
    clear hb
    go_wp2_with fail
    go_ret
    exact ⟨rfl, hfin⟩
  · rw [hp] at hh
    dsimp only at hh
    subst hh
    have hl2 := (Sp.pr_ok hp).2.2
    clear hp
    obtain ⟨sl, hsl⟩ : ∃ s, s = bs l := ⟨_, rfl⟩
    have hsz : sl.size = l.length := by rw [hsl]; rfl
    have hdl : sl.data.toList = l := by rw [hsl]; exact bs_list _
    rw [← hsl]
    clear hsl
    have HSZ := Lib.hid hsz; have HDL := Lib.hid hdl
    have hs2 : sl.size ≤ 2000 := by omega
    clear hsz hdl hl2
    by_cases hn0 : n < 0
    · have hn0b : decide (n < 0) = true := decide_eq_true hn0
      go_wp2_with fail
      refine (CS.out w1 (KB.out _ B1.out)).mono ?_
      rintro e w2 ⟨rfl, hb⟩
      have hfin := KB.out _ (B1.out.trans (hb.mono hs1))
      clear hb
      go_wp2_with fail
      go_ret
      exact ⟨rfl, hfin⟩
    · have hn0b : decide (n < 0) = false := decide_eq_false hn0
      obtain ⟨ix, hix⟩ : ∃ ix, ix = Lib.indexByte sl.data.toList (125 : Int).toNat.toUInt8 := ⟨_, rfl⟩
      have HIX := Lib.hid hix
      have CI : Hid (∀ W, Calls Tryd.prog 27 #[.string sl, .int .u8 125] W fun e W' => e = .returned (.int .i64 ix) ∧ W' = W) := Lib.hid fun W => hix ▸ Tryd.strings_IndexByte sl 125 W
      clear hix
      by_cases hnx : n > ix
      · have hnxb : decide (n > ix) = true := decide_eq_true hnx
        have hnxc : decide (ix < n) = true := decide_eq_true hnx
        go_wp2_with fail
        refine (CI.out _).mono ?_
        rintro e w2 ⟨rfl, rfl⟩
        go_wp2_with fail
        refine (CS.out w2 (KB.out _ B1.out)).mono ?_
        rintro e w3 ⟨rfl, hb⟩
        have hfin := KB.out _ (B1.out.trans (hb.mono hs1))
        clear hb
        go_wp2_with fail
        go_ret
        exact ⟨rfl, hfin⟩
      · have hnxb : decide (n > ix) = false := decide_eq_false hnx
        have hnxc : decide (ix < n) = false := decide_eq_false hnx
        obtain ⟨m, rfl⟩ : ∃ m : Nat, n = m := ⟨n.toNat, by omega⟩
        have hk : m ≤ sl.size ∧ (125 : UInt8) ∉ l.take m := by
          have h1 := HIX.out
          rw [HDL.out, show (125 : Int).toNat.toUInt8 = (125 : UInt8) from rfl] at h1
          rcases idx_before 125 l with e | ⟨k, e, e2, e3⟩
          · rw [e] at h1; omega
          · rw [e] at h1
            have hmk : m ≤ k := by omega
            refine ⟨by rw [HSZ.out]; omega, fun hm => e2 ?_⟩
            have : l.take m = (l.take k).take m := by rw [List.take_take, Nat.min_eq_left hmk]
            rw [this] at hm
            exact List.mem_of_mem_take hm
        have hms := hk.1
        have hmi : (m : Int) ≤ (sl.size : Int) := by omega
        have hm0 : (0 : Int) ≤ (m : Int) := by omega
        have hext : (sl.extract 0 m).data.toList = l.take m := by
          rw [ext_list, ← HDL.out]; simp [rst]
        obtain ⟨p, hp1, hp2⟩ := Sp.parse_no_brace (text := l.take m) (by rw [List.length_take]; omega) hk.2
        rw [List.length_take] at hp2
        have hpm : p ≤ m := by omega
        have CE : Hid (∀ W, Env W → Calls Tryd.prog 18 #[.string (sl.extract 0 m)] W fun e W' => e = .returned (.tuple #[z24v, .int .i64 p, .int .i64 3]) ∧ Below W.heap.size W W') :=
          Lib.hid fun W h => parse_bad (sl.extract 0 m) p 3 p 3 W h (by rw [hext]; exact hp1) rfl rfl
        have hq1 : decide ((p : Int) ≥ 0) = true := by rw [decide_eq_true_iff]; omega
        have hq2 : decide ((p : Int) ≤ (m : Int)) = true := by rw [decide_eq_true_iff]; omega
        have hq3 : decide (p ≤ m) = true := decide_eq_true hpm
        clear hk hext hp1 hp2
        go_wp2_with fail
        refine (CI.out _).mono ?_
        rintro e w2 ⟨rfl, rfl⟩
        go_wp2_with fail
        refine (CE.out _ (HE.out.below (KB.out _ B1.out))).mono ?_
        rintro e w3 ⟨rfl, hb⟩
        have B3 := Lib.hid (B1.out.trans (hb.mono hs1))
        have hs3 : V.heap.size ≤ w3.heap.size := B3.out.size
        clear hb
        dsimp only [z24v]
        have gd : (w3.alloc (.cells #[.string ⟨#[]⟩, .int .i64 0, .int .i64 0, .slice none 0 0, .int .i64 0] 24)).heap[w3.heap.size]? = some (.cells #[.string ⟨#[]⟩, .int .i64 0, .int .i64 0, .slice none 0 0, .int .i64 0] 24 (0, 0)) := heap_alloc_new w3 _
        have HG := Lib.hid gd
        have HBD := Lib.hid (B3.out.alloc hs3 (.cells #[.string ⟨#[]⟩, .int .i64 0, .int .i64 0, .slice none 0 0, .int .i64 0] 24))
        clear gd
        go_wp2_with fail
        have gd := HG.out; have hbd := HBD.out
        clear HG HBD
        generalize w3.alloc (.cells #[.string ⟨#[]⟩, .int .i64 0, .int .i64 0, .slice none 0 0, .int .i64 0] 24) = U at *
        have hU := lt_of_block gd
        have GU := Lib.hid gd; have UB := Lib.hid hbd
        clear gd hbd
        refine (CS.out U (KB.out _ UB.out)).mono ?_
        rintro e w4 ⟨rfl, hb⟩
        have hx_ := (hb.block _ hU).trans GU.out
        have B4 := Lib.hid (UB.out.trans (hb.mono UB.out.size))
        clear hb
        have x0 : w4.cell? ⟨w3.heap.size, 0, none⟩ = some (.string ⟨#[]⟩) := blk_c hx_ 0
        have x1 : w4.cell? ⟨w3.heap.size, 1, none⟩ = some (.int .i64 0) := blk_c hx_ 1
        have x2 : w4.cell? ⟨w3.heap.size, 2, none⟩ = some (.int .i64 0) := blk_c hx_ 2
        have x3 : w4.cell? ⟨w3.heap.size, 3, none⟩ = some (.slice none 0 0) := blk_c hx_ 3
        have x4 : w4.cell? ⟨w3.heap.size, 4, none⟩ = some (.int .i64 0) := blk_c hx_ 4
        clear hx_
        have CM := Lib.hid (refSame_any zeroC zeroC w4 (zero_ok w4) (zero_ok w4))
        rw [show sameC zeroC zeroC = true from rfl] at CM
        go_wp2_with fail
        refine CM.out.mono ?_
        rintro e w5 ⟨rfl, hb⟩
        have hfin := KB.out _ (B4.out.trans (hb.mono B4.out.size))
        clear hb x0 x1 x2 x3 x4
        go_wp2_with fail
        go_ret
        exact ⟨rfl, hfin⟩
end Go.Proofs.YtppeplonnippcaaDoor
