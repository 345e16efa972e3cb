/-
Layer 7: LangCanonical is walked.
-/
import Derived.Test.YtppeplonnippcaaDoorD6
import Derived.Test.YtppeplonnippcaaDoorQ
set_option linter.unusedVariables false
set_option linter.unusedSimpArgs false
namespace Go.Proofs.YtppeplonnippcaaDoor
open Go.RowKit

/-- what Print and Parse make of a code that was parsed -/
theorem canon {c : Sp.Code} (h : Sp.FineC c) : Sp.ck c.name c.field c.data c.parity c.domain = 0 ∧ (Sp.pr c.name c.field c.data c.parity c.domain = .error 2 ∨ ∃ l, Sp.pr c.name c.field c.data c.parity c.domain = .ok l ∧ Sp.parseL true (bs l).data.toList = .ok [c]) := by
  have hc := Sp.fine_ck h
  refine ⟨hc, ?_⟩
  unfold Sp.pr
  rw [if_pos hc]
  by_cases hl : 2000 < (Sp.prS c.name c.field c.data c.parity c.domain).length
  · rw [if_pos hl]; exact .inl rfl
  · rw [if_neg hl]
    exact .inr ⟨_, rfl, by rw [bs_list]; exact Sp.parse_one h (by show (Sp.prS c.name c.field c.data c.parity c.domain).length ≤ 2000; omega)⟩
def InErr (c : Sp.Code) (w : World) (e : Ending) (w' : World) : Prop :=
  ((Sp.pr c.name c.field c.data c.parity c.domain = .error 2 ∧ e = .returned (.tuple #[.string ⟨#[]⟩, .int .i64 2])) ∨ ∃ l, Sp.pr c.name c.field c.data c.parity c.domain = .ok l ∧ Sp.parseL true (bs l).data.toList = .ok [c] ∧ e = .returned (.tuple #[.string (bs l), .int .i64 0])) ∧ Below w.heap.size w w'
theorem print_in {c : Sp.Code} (h : Sp.FineC c) (A : Option Addr) (q : Nat) (w : World) (he : Env w) (hok : (inOf c A q).Ok w) : Calls Tryd.prog 11 #[(inOf c A q).v] w (InErr c w) := by
  have hd := h.d1; have hd2 := h.d31
  refine (Print_any (inOf c A q) w he hok ⟨by show _ ≤ (c.data : Int); omega, by show (c.data : Int) ≤ _; omega⟩).mono ?_
  rintro e w' ⟨hh, hb⟩
  refine ⟨?_, hb⟩
  have hn : (inOf c A q).name.data.toList = c.name := bs_list _
  rw [hn] at hh
  change (match Sp.pr c.name c.field c.data c.parity c.domain with | .ok l => e = .returned (.tuple #[.string (bs l), .int .i64 0]) | .error er => e = .returned (.tuple #[.string ⟨#[]⟩, .int .i64 er])) at hh
  obtain ⟨_, h1 | ⟨l, h1, h2⟩⟩ := canon h
  · rw [h1] at hh; exact .inl ⟨h1, hh⟩
  · rw [h1] at hh; exact .inr ⟨l, h1, h2, hh⟩
theorem check_in {c : Sp.Code} (h : Sp.FineC c) (A : Option Addr) (q : Nat) (w : World) (hok : (inOf c A q).Ok w) : Calls Tryd.prog 14 #[(inOf c A q).v] w fun e w' => e = .returned (.int .i64 0) ∧ Below w.heap.size w w' := by
  have hd := h.d1; have hd2 := h.d31
  refine (Check_any (inOf c A q) w hok ⟨by show _ ≤ (c.data : Int); omega, by show (c.data : Int) ≤ _; omega⟩).mono ?_
  rintro e w' ⟨rfl, hb⟩
  refine ⟨?_, hb⟩
  have hn : (inOf c A q).name.data.toList = c.name := bs_list _
  rw [hn]
  rw [show Sp.ck c.name (inOf c A q).field (inOf c A q).data (inOf c A q).rows (inOf c A q).dom = 0 from (canon h).1]
  rfl
theorem same_in (c : Sp.Code) (A A2 : Option Addr) (q q2 : Nat) : sameC (inOf c A q) (inOf c A2 q2) = true := by
  unfold sameC inOf; simp

set_option maxHeartbeats 4000000 in
set_option maxRecDepth 100000 in
theorem law7_any (s : ByteArray) (w : World) (he : Env w) : Calls Tryd.prog 7 #[.string s] w fun e w' => e = .returned (.bool true) ∧ Below w.heap.size w w' := by
  have HE := Lib.hid he
  have CS : Hid (∀ W, Below w.heap.size w W → Calls Tryd.prog 13 #[] W fun e W' => e = .returned (.bool true) ∧ Below W.heap.size W W') := Lib.hid fun W h => sanity_any W (HE.out.below h)
  clear he
  rcases hp : Sp.parseL true s.data.toList with ⟨p, er⟩ | l
  · have her := (Sp.parseL_er hp).1
    have C := Lib.hid (parse_bad s p er p er w HE.out hp rfl rfl)
    have hb1 : ((er : Int) != 0) = true := by simp; dsimp only at her; omega
    have hb2 : ((er : Int) == 0) = false := by rw [beq_eq_false_iff_ne]; dsimp only at her; omega
    clear hp her
    go_enter Tryd.func7, Tryd.ntmps7
    go_wp2_with fail
    refine C.out.mono ?_
    rintro e w1 ⟨rfl, hb⟩
    have B1 := Lib.hid (hb.alloc hb.size (.cells #[.string ⟨#[]⟩, .int .i64 0, .int .i64 0, .slice none 0 0, .int .i64 0] 24))
    clear hb
    dsimp only [z24v]
    go_wp2_with fail
    refine (CS.out _ B1.out).mono ?_
    rintro e w2 ⟨rfl, hb⟩
    have hfin := B1.out.trans (hb.mono B1.out.size)
    clear hb
    go_wp2_with fail
    go_ret
    exact ⟨rfl, hfin⟩
  · obtain ⟨c, rfl⟩ := List.length_eq_one_iff.1 (Sp.parseL_one hp)
    have hF : Sp.FineC c := Sp.parse_fine hp c (List.mem_cons_self ..)
    have C := Lib.hid (parse_ok s c w HE.out hp (fine_small hF))
    have HF := Lib.hid hF
    clear hp hF
    go_enter Tryd.func7, Tryd.ntmps7
    go_wp2_with fail
    refine C.out.mono ?_
    rintro e w1 ⟨A, q, rfl, hok, hb⟩
    dsimp only [inOf, CodeIn.v]
    have gd : (w1.alloc (.cells #[.string (bs c.name), .int .i64 c.field, .int .i64 c.data, .slice A c.parity.length q, .int .i64 c.domain] 24)).heap[w1.heap.size]? = some (.cells #[.string (bs c.name), .int .i64 c.field, .int .i64 c.data, .slice A c.parity.length q, .int .i64 c.domain] 24 (0, 0)) := heap_alloc_new w1 _
    have hbd := hb.alloc hb.size (.cells #[.string (bs c.name), .int .i64 c.field, .int .i64 c.data, .slice A c.parity.length q, .int .i64 c.domain] 24)
    have hokd := hok.below ((Below.refl _ _).alloc (Nat.le_refl _) (.cells #[.string (bs c.name), .int .i64 c.field, .int .i64 c.data, .slice A c.parity.length q, .int .i64 c.domain] 24))
    have KO : Hid (∀ V : World, (w1.alloc (.cells #[.string (bs c.name), .int .i64 c.field, .int .i64 c.data, .slice A c.parity.length q, .int .i64 c.domain] 24)) = V → True) := Lib.hid fun _ _ => trivial
    go_wp2_with fail
    clear KO
    generalize w1.alloc (.cells #[.string (bs c.name), .int .i64 c.field, .int .i64 c.data, .slice A c.parity.length q, .int .i64 c.domain] 24) = V at *
    have hV := lt_of_block gd
    have hwV : w.heap.size ≤ V.heap.size := hbd.size
    have B0 := Lib.hid hbd; have GD := Lib.hid gd; have HD := Lib.hid hokd
    clear hbd gd hokd hok hb C
    have KB : Hid (∀ W, Below V.heap.size V W → Below w.heap.size w W) := Lib.hid fun W h => B0.out.trans (h.mono hwV)
    have KD : Hid (∀ W, Below V.heap.size V W → (inOf c A q).Ok W) := Lib.hid fun W h => HD.out.below h
    have KF : Hid (∀ W, Below V.heap.size V W → W.heap[w1.heap.size]? = some (.cells #[.string (bs c.name), .int .i64 c.field, .int .i64 c.data, .slice A c.parity.length q, .int .i64 c.domain] 24 (0, 0))) := Lib.hid fun W h => (h.block _ hV).trans GD.out
    have E0 : Hid (Below V.heap.size V V) := Lib.hid (Below.refl _ _)
    refine (print_in HF.out A q V (HE.out.below (KB.out _ E0.out)) (KD.out _ E0.out)).mono ?_
    rintro e w2 ⟨hh, hb⟩
    have E2 := Lib.hid hb
    clear hb
    rcases hh with ⟨hpr, rfl⟩ | ⟨l, hpr, hpa, rfl⟩
    · clear hpr
      go_wp2_with fail
      refine (CS.out _ (KB.out _ E2.out)).mono ?_
      rintro e w3 ⟨rfl, hb⟩
      have E3 := Lib.hid (E2.out.trans (hb.mono E2.out.size))
      clear hb
      have hx_ := KF.out w3 E3.out
      have x0 : w3.cell? ⟨w1.heap.size, 0, none⟩ = some (.string (bs c.name)) := blk_c hx_ 0
      have x1 : w3.cell? ⟨w1.heap.size, 1, none⟩ = some (.int .i64 c.field) := blk_c hx_ 1
      have x2 : w3.cell? ⟨w1.heap.size, 2, none⟩ = some (.int .i64 c.data) := blk_c hx_ 2
      have x3 : w3.cell? ⟨w1.heap.size, 3, none⟩ = some (.slice A c.parity.length q) := blk_c hx_ 3
      have x4 : w3.cell? ⟨w1.heap.size, 4, none⟩ = some (.int .i64 c.domain) := blk_c hx_ 4
      clear hx_
      go_wp2_with fail
      refine (check_in HF.out A q w3 (KD.out _ E3.out)).mono ?_
      rintro e w4 ⟨rfl, hb⟩
      have hfin := KB.out _ (E3.out.trans (hb.mono E3.out.size))
      clear hb x0 x1 x2 x3 x4
      go_wp2_with fail
      go_ret
      exact ⟨rfl, hfin⟩
    · have HPA := Lib.hid hpa; have HPR := Lib.hid hpr
      clear hpa hpr
      obtain ⟨sl, hsl⟩ : ∃ sl, sl = bs l := ⟨_, rfl⟩
      rw [← hsl] at HPA ⊢
      have HSL := Lib.hid hsl; clear hsl
      go_wp2_with fail
      refine (parse_ok sl c w2 (HE.out.below (KB.out _ E2.out)) HPA.out (fine_small HF.out)).mono ?_
      rintro e w3 ⟨A2, q2, rfl, hok, hb⟩
      dsimp only [inOf, CodeIn.v]
      have E3 := Lib.hid (E2.out.trans (hb.mono E2.out.size))
      have hs3 : V.heap.size ≤ w3.heap.size := E3.out.size
      have gd : (w3.alloc (.cells #[.string (bs c.name), .int .i64 c.field, .int .i64 c.data, .slice A2 c.parity.length q2, .int .i64 c.domain] 24)).heap[w3.heap.size]? = some (.cells #[.string (bs c.name), .int .i64 c.field, .int .i64 c.data, .slice A2 c.parity.length q2, .int .i64 c.domain] 24 (0, 0)) := heap_alloc_new w3 _
      have hbd := E3.out.alloc hs3 (.cells #[.string (bs c.name), .int .i64 c.field, .int .i64 c.data, .slice A2 c.parity.length q2, .int .i64 c.domain] 24)
      have hokd := hok.below ((Below.refl _ _).alloc (Nat.le_refl _) (.cells #[.string (bs c.name), .int .i64 c.field, .int .i64 c.data, .slice A2 c.parity.length q2, .int .i64 c.domain] 24))
      have HG := Lib.hid gd; have HBD := Lib.hid hbd; have HOK := Lib.hid hokd
      clear gd hbd hokd hok hb
      go_wp2_with fail
      have gd := HG.out; have hbd := HBD.out; have hokd := HOK.out
      clear HG HBD HOK
      generalize w3.alloc (.cells #[.string (bs c.name), .int .i64 c.field, .int .i64 c.data, .slice A2 c.parity.length q2, .int .i64 c.domain] 24) = U at *
      have hU := lt_of_block gd
      have hVU : V.heap.size ≤ U.heap.size := hbd.size
      have U0 := Lib.hid hbd; have GU := Lib.hid gd; have HU := Lib.hid hokd
      clear hbd gd hokd
      have KU : Hid (∀ W, Below U.heap.size U W → Below V.heap.size V W) := Lib.hid fun W h => U0.out.trans (h.mono hVU)
      have KD2 : Hid (∀ W, Below U.heap.size U W → (inOf c A2 q2).Ok W) := Lib.hid fun W h => HU.out.below h
      have KF2 : Hid (∀ W, Below U.heap.size U W → W.heap[w3.heap.size]? = some (.cells #[.string (bs c.name), .int .i64 c.field, .int .i64 c.data, .slice A2 c.parity.length q2, .int .i64 c.domain] 24 (0, 0))) := Lib.hid fun W h => (h.block _ hU).trans GU.out
      have F0 : Hid (Below U.heap.size U U) := Lib.hid (Below.refl _ _)
      refine (print_in HF.out A2 q2 U (HE.out.below (KB.out _ (KU.out _ F0.out))) (KD2.out _ F0.out)).mono ?_
      rintro e w4 ⟨hh, hb⟩
      have F4 := Lib.hid hb
      clear hb
      have hh2 : e = .returned (.tuple #[.string sl, .int .i64 0]) := by
        rcases hh with ⟨h1, _⟩ | ⟨l', h1, _, h2⟩
        · rw [HPR.out] at h1; cases h1
        · rw [HPR.out] at h1; injection h1 with h1; subst h1; rw [h2, HSL.out]
      subst hh2
      clear hh
      go_wp2_with fail
      refine (CS.out _ (KB.out _ (KU.out _ F4.out))).mono ?_
      rintro e w5 ⟨rfl, hb⟩
      have F5 := Lib.hid (F4.out.trans (hb.mono F4.out.size))
      clear hb
      have hx_ := KF.out w5 (KU.out _ F5.out)
      have x0 : w5.cell? ⟨w1.heap.size, 0, none⟩ = some (.string (bs c.name)) := blk_c hx_ 0
      have x1 : w5.cell? ⟨w1.heap.size, 1, none⟩ = some (.int .i64 c.field) := blk_c hx_ 1
      have x2 : w5.cell? ⟨w1.heap.size, 2, none⟩ = some (.int .i64 c.data) := blk_c hx_ 2
      have x3 : w5.cell? ⟨w1.heap.size, 3, none⟩ = some (.slice A c.parity.length q) := blk_c hx_ 3
      have x4 : w5.cell? ⟨w1.heap.size, 4, none⟩ = some (.int .i64 c.domain) := blk_c hx_ 4
      clear hx_
      go_wp2_with fail
      refine (check_in HF.out A q w5 (KD.out _ (KU.out _ F5.out))).mono ?_
      rintro e w6 ⟨rfl, hb⟩
      have F6 := Lib.hid (F5.out.trans (hb.mono F5.out.size))
      clear hb x0 x1 x2 x3 x4
      have hx_ := KF.out w6 (KU.out _ F6.out)
      have x0 : w6.cell? ⟨w1.heap.size, 0, none⟩ = some (.string (bs c.name)) := blk_c hx_ 0
      have x1 : w6.cell? ⟨w1.heap.size, 1, none⟩ = some (.int .i64 c.field) := blk_c hx_ 1
      have x2 : w6.cell? ⟨w1.heap.size, 2, none⟩ = some (.int .i64 c.data) := blk_c hx_ 2
      have x3 : w6.cell? ⟨w1.heap.size, 3, none⟩ = some (.slice A c.parity.length q) := blk_c hx_ 3
      have x4 : w6.cell? ⟨w1.heap.size, 4, none⟩ = some (.int .i64 c.domain) := blk_c hx_ 4
      clear hx_
      have hx_ := KF2.out w6 F6.out
      have z0 : w6.cell? ⟨w3.heap.size, 0, none⟩ = some (.string (bs c.name)) := blk_c hx_ 0
      have z1 : w6.cell? ⟨w3.heap.size, 1, none⟩ = some (.int .i64 c.field) := blk_c hx_ 1
      have z2 : w6.cell? ⟨w3.heap.size, 2, none⟩ = some (.int .i64 c.data) := blk_c hx_ 2
      have z3 : w6.cell? ⟨w3.heap.size, 3, none⟩ = some (.slice A2 c.parity.length q2) := blk_c hx_ 3
      have z4 : w6.cell? ⟨w3.heap.size, 4, none⟩ = some (.int .i64 c.domain) := blk_c hx_ 4
      clear hx_
      have CM := Lib.hid (refSame_any (inOf c A q) (inOf c A2 q2) w6 (KD.out _ (KU.out _ F6.out)) (KD2.out _ F6.out))
      rw [same_in] at CM
      go_wp2_with fail
      refine CM.out.mono ?_
      rintro e w7 ⟨rfl, hb⟩
      have hfin := KB.out _ (KU.out _ (F6.out.trans (hb.mono F6.out.size)))
      clear hb x0 x1 x2 x3 x4 z0 z1 z2 z3 z4
      go_wp2_with fail
      go_ret
      exact ⟨rfl, hfin⟩
end Go.Proofs.YtppeplonnippcaaDoor
