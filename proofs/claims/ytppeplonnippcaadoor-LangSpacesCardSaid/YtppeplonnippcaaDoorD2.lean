/-
Layer 7: LangPrintMatchesSpec is walked.
-/
import Derived.Test.YtppeplonnippcaaDoorD1
import Derived.Deep.RegionHeld3
set_option linter.unusedVariables false
set_option linter.unusedSimpArgs false
namespace Go.Proofs.YtppeplonnippcaaDoor
open Go.RowKit

/-- what Print returns -/
def prV (c : CodeIn) : Value × Int := match Sp.pr c.name.data.toList c.field c.data c.rows c.dom with
  | .ok l => (.string (bs l), 0)
  | .error er => (.string ⟨#[]⟩, er)
theorem PrintPost.ret {c : CodeIn} {w w' : World} {e : Ending} (h : PrintPost c w e w') : ∃ (s : ByteArray) (n : Int), (s, n) = Rf.prR c.name c.field c.data c.rows c.dom ∧ e = .returned (.tuple #[.string s, .int .i64 n]) ∧ Below w.heap.size w w' := by
  obtain ⟨h1, h2⟩ := h
  unfold Rf.prR
  rcases hp : Sp.pr c.name.data.toList c.field c.data c.rows c.dom with er | l
  · rw [hp] at h1; exact ⟨_, _, rfl, h1, h2⟩
  · rw [hp] at h1; exact ⟨_, _, rfl, h1, h2⟩

set_option maxHeartbeats 4000000 in
set_option maxRecDepth 100000 in
theorem law3_any (a b : CodeIn) (w : World) (he : Env w) (ha : a.Ok w) (hb : b.Ok w) (hi : -9223372036854775808 ≤ a.data ∧ a.data ≤ 9223372036854775807) :
    Calls Tryd.prog 3 #[a.v, b.v] w fun e w' => e = .returned (.bool true) ∧ Below w.heap.size w w' := by
  have HE := Lib.hid he; have HA := Lib.hid ha; have HB := Lib.hid hb; have HI := Lib.hid hi
  have CP : Hid (∀ W, Below w.heap.size w W → Calls Tryd.prog 11 #[a.v] W (PrintPost a W)) := Lib.hid fun W h => Print_any a W (HE.out.below h) (HA.out.below h) hi
  have CR : Hid (∀ W, Below w.heap.size w W → Calls Tryd.prog 12 #[a.v] W (PrintPost a W)) := Lib.hid fun W h => refPrint_any a W (HA.out.below h) hi
  have CS : Hid (∀ W, Below w.heap.size w W → Calls Tryd.prog 13 #[] W fun e W' => e = .returned (.bool true) ∧ Below W.heap.size W W') := Lib.hid fun W h => sanity_any W (HE.out.below h)
  obtain ⟨ck, hck⟩ : ∃ n : Int, n = ((Sp.ck a.name.data.toList a.field a.data a.rows a.dom : Nat) : Int) := ⟨_, rfl⟩
  obtain ⟨sm, hsm⟩ : ∃ s : Bool, s = sameC a b := ⟨_, rfl⟩
  have CC : Hid (∀ W, Below w.heap.size w W → Calls Tryd.prog 14 #[a.v] W fun e W' => e = .returned (.int .i64 ck) ∧ Below W.heap.size W W') := Lib.hid fun W h => hck ▸ Check_any a W (HA.out.below h) hi
  have CK : Hid (∀ W, Below w.heap.size w W → Calls Tryd.prog 15 #[a.v] W fun e W' => e = .returned (.int .i64 ck) ∧ Below W.heap.size W W') := Lib.hid fun W h => hck ▸ refCheck_any a W (HA.out.below h) hi
  have CM : Hid (∀ W, Below w.heap.size w W → Calls Tryd.prog 16 #[a.v, b.v] W fun e W' => e = .returned (.bool sm) ∧ Below W.heap.size W W') := Lib.hid fun W h => hsm ▸ Same_any a b W (HA.out.below h) (HB.out.below h)
  have CN : Hid (∀ W, Below w.heap.size w W → Calls Tryd.prog 17 #[a.v, b.v] W fun e W' => e = .returned (.bool sm) ∧ Below W.heap.size W W') := Lib.hid fun W h => hsm ▸ refSame_any a b W (HA.out.below h) (HB.out.below h)
  clear he ha hb hi hck hsm
  obtain ⟨n1, f1, d1, A1, l1, c1, m1⟩ := a
  obtain ⟨n2, f2, d2, A2, l2, c2, m2⟩ := b
  unfold CodeIn.v at *
  dsimp only at *
  go_enter Tryd.func3, Tryd.ntmps3
  go_wp2_with fail
  have g1 : ((w.alloc (.cells #[.string n1, .int .i64 f1, .int .i64 d1, .slice A1 l1.length c1, .int .i64 m1] 24)).alloc (.cells #[.string n2, .int .i64 f2, .int .i64 d2, .slice A2 l2.length c2, .int .i64 m2] 24)).heap[w.heap.size]? = some (.cells #[.string n1, .int .i64 f1, .int .i64 d1, .slice A1 l1.length c1, .int .i64 m1] 24 (0, 0)) := blk_old (heap_alloc_new w _) _
  have g2 : ((w.alloc (.cells #[.string n1, .int .i64 f1, .int .i64 d1, .slice A1 l1.length c1, .int .i64 m1] 24)).alloc (.cells #[.string n2, .int .i64 f2, .int .i64 d2, .slice A2 l2.length c2, .int .i64 m2] 24)).heap[w.heap.size + 1]? = some (.cells #[.string n2, .int .i64 f2, .int .i64 d2, .slice A2 l2.length c2, .int .i64 m2] 24 (0, 0)) := new_at _ _ _ (by simp)
  have hb0 : Below w.heap.size w ((w.alloc (.cells #[.string n1, .int .i64 f1, .int .i64 d1, .slice A1 l1.length c1, .int .i64 m1] 24)).alloc (.cells #[.string n2, .int .i64 f2, .int .i64 d2, .slice A2 l2.length c2, .int .i64 m2] 24)) := ((Below.refl _ _).alloc (Nat.le_refl _) _).alloc (by simp) _
  generalize (w.alloc (.cells #[.string n1, .int .i64 f1, .int .i64 d1, .slice A1 l1.length c1, .int .i64 m1] 24)).alloc (.cells #[.string n2, .int .i64 f2, .int .i64 d2, .slice A2 l2.length c2, .int .i64 m2] 24) = V at *
  have G1 := Lib.hid g1; have G2 := Lib.hid g2; have B0 := Lib.hid hb0
  have hV1 := lt_of_block g1; have hV2 := lt_of_block g2
  clear g1 g2 hb0
  have KB : Hid (∀ W, Below V.heap.size V W → Below w.heap.size w W) := Lib.hid fun W h => B0.out.trans (h.mono (by omega))
  have KX : Hid (∀ W, Below V.heap.size V W → W.heap[w.heap.size]? = some (.cells #[.string n1, .int .i64 f1, .int .i64 d1, .slice A1 l1.length c1, .int .i64 m1] 24 (0, 0))) := Lib.hid fun W h => (h.block _ hV1).trans G1.out
  have KY : Hid (∀ W, Below V.heap.size V W → W.heap[w.heap.size + 1]? = some (.cells #[.string n2, .int .i64 f2, .int .i64 d2, .slice A2 l2.length c2, .int .i64 m2] 24 (0, 0))) := Lib.hid fun W h => (h.block _ hV2).trans G2.out
  refine (CP.out V B0.out).mono ?_
  rintro e w1 hh
  obtain ⟨s, n, hsn, rfl, hb⟩ := hh.ret
  have HSN := Lib.hid hsn
  have B1 := Lib.hid hb
  clear hb hh hsn
  have hx := KX.out w1 B1.out
  have x0 : w1.cell? ⟨w.heap.size, 0, none⟩ = some (.string n1) := blk_c hx 0
  have x1 : w1.cell? ⟨w.heap.size, 1, none⟩ = some (.int .i64 f1) := blk_c hx 1
  have x2 : w1.cell? ⟨w.heap.size, 2, none⟩ = some (.int .i64 d1) := blk_c hx 2
  have x3 : w1.cell? ⟨w.heap.size, 3, none⟩ = some (.slice A1 l1.length c1) := blk_c hx 3
  have x4 : w1.cell? ⟨w.heap.size, 4, none⟩ = some (.int .i64 m1) := blk_c hx 4
  clear hx
  go_wp2_with fail
  refine (CR.out w1 (KB.out _ B1.out)).mono ?_
  rintro e w2 hh
  obtain ⟨s', n', hsn, rfl, hb⟩ := hh.ret
  have e1 := hsn.trans HSN.out.symm
  injection e1 with e1 e2
  subst e1 e2
  have B2 := Lib.hid (B1.out.trans (hb.mono B1.out.size))
  clear hb hh hsn HSN x0 x1 x2 x3 x4
  have hx := KX.out w2 B2.out
  have x0 : w2.cell? ⟨w.heap.size, 0, none⟩ = some (.string n1) := blk_c hx 0
  have x1 : w2.cell? ⟨w.heap.size, 1, none⟩ = some (.int .i64 f1) := blk_c hx 1
  have x2 : w2.cell? ⟨w.heap.size, 2, none⟩ = some (.int .i64 d1) := blk_c hx 2
  have x3 : w2.cell? ⟨w.heap.size, 3, none⟩ = some (.slice A1 l1.length c1) := blk_c hx 3
  have x4 : w2.cell? ⟨w.heap.size, 4, none⟩ = some (.int .i64 m1) := blk_c hx 4
  have hy := KY.out w2 B2.out
  have y0 : w2.cell? ⟨w.heap.size + 1, 0, none⟩ = some (.string n2) := blk_c hy 0
  have y1 : w2.cell? ⟨w.heap.size + 1, 1, none⟩ = some (.int .i64 f2) := blk_c hy 1
  have y2 : w2.cell? ⟨w.heap.size + 1, 2, none⟩ = some (.int .i64 d2) := blk_c hy 2
  have y3 : w2.cell? ⟨w.heap.size + 1, 3, none⟩ = some (.slice A2 l2.length c2) := blk_c hy 3
  have y4 : w2.cell? ⟨w.heap.size + 1, 4, none⟩ = some (.int .i64 m2) := blk_c hy 4
  clear hx hy
  go_wp2_with fail
  have LB := Lib.hid B2.out
  have HS : Hid (∀ W, Below V.heap.size V W → (W.cell? ⟨w.heap.size, 0, none⟩ = some (.string n1) ∧ W.cell? ⟨w.heap.size, 1, none⟩ = some (.int .i64 f1) ∧ W.cell? ⟨w.heap.size, 2, none⟩ = some (.int .i64 d1) ∧ W.cell? ⟨w.heap.size, 3, none⟩ = some (.slice A1 l1.length c1) ∧ W.cell? ⟨w.heap.size, 4, none⟩ = some (.int .i64 m1) ∧
      W.cell? ⟨w.heap.size + 1, 0, none⟩ = some (.string n2) ∧ W.cell? ⟨w.heap.size + 1, 1, none⟩ = some (.int .i64 f2) ∧ W.cell? ⟨w.heap.size + 1, 2, none⟩ = some (.int .i64 d2) ∧ W.cell? ⟨w.heap.size + 1, 3, none⟩ = some (.slice A2 l2.length c2) ∧ W.cell? ⟨w.heap.size + 1, 4, none⟩ = some (.int .i64 m2) ∧ Hid (Below V.heap.size V W))) :=
    Lib.hid fun W h => ⟨blk_c (KX.out W h) 0, blk_c (KX.out W h) 1, blk_c (KX.out W h) 2, blk_c (KX.out W h) 3, blk_c (KX.out W h) 4, blk_c (KY.out W h) 0, blk_c (KY.out W h) 1, blk_c (KY.out W h) 2, blk_c (KY.out W h) 3, blk_c (KY.out W h) 4, Lib.hid h⟩
  go_region_held3 (fun W => W.cell? ⟨w.heap.size, 0, none⟩ = some (.string n1) ∧ W.cell? ⟨w.heap.size, 1, none⟩ = some (.int .i64 f1) ∧ W.cell? ⟨w.heap.size, 2, none⟩ = some (.int .i64 d1) ∧ W.cell? ⟨w.heap.size, 3, none⟩ = some (.slice A1 l1.length c1) ∧ W.cell? ⟨w.heap.size, 4, none⟩ = some (.int .i64 m1) ∧
      W.cell? ⟨w.heap.size + 1, 0, none⟩ = some (.string n2) ∧ W.cell? ⟨w.heap.size + 1, 1, none⟩ = some (.int .i64 f2) ∧ W.cell? ⟨w.heap.size + 1, 2, none⟩ = some (.int .i64 d2) ∧ W.cell? ⟨w.heap.size + 1, 3, none⟩ = some (.slice A2 l2.length c2) ∧ W.cell? ⟨w.heap.size + 1, 4, none⟩ = some (.int .i64 m2) ∧ Hid (Below V.heap.size V W))
    (first | exact HS.out _ LB.out.drew | exact HS.out _ (Hid.out (by assumption)) | (trace_state; fail))
    (first | (go_at_call 13; have hS_ := ‹_ ∧ _ ∧ _ ∧ _ ∧ _ ∧ _ ∧ _ ∧ _ ∧ _ ∧ _ ∧ Hid _›; refine (CS.out _ (KB.out _ hS_.2.2.2.2.2.2.2.2.2.2.out)).mono ?_; rintro e W' ⟨rfl, hb⟩; have HN := Lib.hid (hS_.2.2.2.2.2.2.2.2.2.2.out.trans (hb.mono hS_.2.2.2.2.2.2.2.2.2.2.out.size)); clear hb hS_) | (go_at_call 14; have hS_ := ‹_ ∧ _ ∧ _ ∧ _ ∧ _ ∧ _ ∧ _ ∧ _ ∧ _ ∧ _ ∧ Hid _›; refine (CC.out _ (KB.out _ hS_.2.2.2.2.2.2.2.2.2.2.out)).mono ?_; rintro e W' ⟨rfl, hb⟩; have HN := Lib.hid (hS_.2.2.2.2.2.2.2.2.2.2.out.trans (hb.mono hS_.2.2.2.2.2.2.2.2.2.2.out.size)); clear hb hS_) | (go_at_call 15; have hS_ := ‹_ ∧ _ ∧ _ ∧ _ ∧ _ ∧ _ ∧ _ ∧ _ ∧ _ ∧ _ ∧ Hid _›; refine (CK.out _ (KB.out _ hS_.2.2.2.2.2.2.2.2.2.2.out)).mono ?_; rintro e W' ⟨rfl, hb⟩; have HN := Lib.hid (hS_.2.2.2.2.2.2.2.2.2.2.out.trans (hb.mono hS_.2.2.2.2.2.2.2.2.2.2.out.size)); clear hb hS_) | (go_at_call 16; have hS_ := ‹_ ∧ _ ∧ _ ∧ _ ∧ _ ∧ _ ∧ _ ∧ _ ∧ _ ∧ _ ∧ Hid _›; refine (CM.out _ (KB.out _ hS_.2.2.2.2.2.2.2.2.2.2.out)).mono ?_; rintro e W' ⟨rfl, hb⟩; have HN := Lib.hid (hS_.2.2.2.2.2.2.2.2.2.2.out.trans (hb.mono hS_.2.2.2.2.2.2.2.2.2.2.out.size)); clear hb hS_) | (go_at_call 17; have hS_ := ‹_ ∧ _ ∧ _ ∧ _ ∧ _ ∧ _ ∧ _ ∧ _ ∧ _ ∧ _ ∧ Hid _›; refine (CN.out _ (KB.out _ hS_.2.2.2.2.2.2.2.2.2.2.out)).mono ?_; rintro e W' ⟨rfl, hb⟩; have HN := Lib.hid (hS_.2.2.2.2.2.2.2.2.2.2.out.trans (hb.mono hS_.2.2.2.2.2.2.2.2.2.2.out.size)); clear hb hS_))
  all_goals
    have hS_ := ‹_ ∧ _ ∧ _ ∧ _ ∧ _ ∧ _ ∧ _ ∧ _ ∧ _ ∧ _ ∧ Hid _›
    have hfin := KB.out _ hS_.2.2.2.2.2.2.2.2.2.2.out
    clear hS_
    go_wp2_with fail
    go_ret
    exact ⟨rfl, hfin⟩
end Go.Proofs.YtppeplonnippcaaDoor
