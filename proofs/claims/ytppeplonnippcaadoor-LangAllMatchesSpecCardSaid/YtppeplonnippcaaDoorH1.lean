/-
Layer 7: the reference's parser: fail, is, must, kind.
-/
import Derived.Test.YtppeplonnippcaaDoorH0
import Derived.Test.YtppeplonnippcaaDoorF
import Derived.StillTailTactics
set_option linter.unusedVariables false
set_option linter.unusedSimpArgs false
namespace Go.Proofs.YtppeplonnippcaaDoor
open Go.RowKit

theorem bel_drewNr {B : Nat} {w W : World} (h : Below B w W) (n : Nat) : Below B w (W.drewN n) := ⟨h.os, h.tape, h.output, h.size, h.block⟩
/-- the parser's box, and the tokens that it reads -/
structure PA (w : World) (r g q : Nat) (L : List Sp.Tok) (s : Rp.St) : Prop where
  box : w.heap[r]? = some (.cells #[.slice (some ⟨g, 0, none⟩) L.length q, .int .i64 s.i, .int .i64 s.bad] 74 (0, 0))
  c0 : ∀ j (h : j < L.length), w.cell? ⟨g, j * 4, none⟩ = some (.string (bs L[j].txt))
  c1 : ∀ j (h : j < L.length), w.cell? ⟨g, j * 4 + 1, none⟩ = some (.int .i64 L[j].at_)
  c2 : ∀ j (h : j < L.length), w.cell? ⟨g, j * 4 + 2, none⟩ = some (.int .i64 L[j].kind)
  c3 : ∀ j (h : j < L.length), w.cell? ⟨g, j * 4 + 3, none⟩ = some (.int .i64 L[j].n)
  ne : g ≠ r
  lt : s.i < L.length
  lm : L.length ≤ 3000

theorem PA.kp {w w' : World} {r g q : Nat} {L : List Sp.Tok} {s s' : Rp.St} (h : PA w r g q L s) (k : Kp r w w') (hb : w'.heap[r]? = some (.cells #[.slice (some ⟨g, 0, none⟩) L.length q, .int .i64 s'.i, .int .i64 s'.bad] 74 (0, 0))) (hl : s'.i < L.length) : PA w' r g q L s' :=
  ⟨hb, fun j hj => k.cell (h.c0 j hj) h.ne, fun j hj => k.cell (h.c1 j hj) h.ne, fun j hj => k.cell (h.c2 j hj) h.ne, fun j hj => k.cell (h.c3 j hj) h.ne, h.ne, hl, h.lm⟩

set_option maxRecDepth 100000 in
set_option maxHeartbeats 1000000 in
theorem rfail_any (r g q : Nat) (L : List Sp.Tok) (s : Rp.St) (w : World) (h : PA w r g q L s) :
    Calls Tryd.prog 66 #[.pointer (some ⟨r, 0, none⟩)] w fun e w' => e = .returned (.tuple #[]) ∧ PA w' r g q L (Rp.fail L s) ∧ Kp r w w' := by
  have b0 : w.cell? ⟨r, 0, none⟩ = some (.slice (some ⟨g, 0, none⟩) L.length q) := blk_c h.box 0
  have b1 : w.cell? ⟨r, 1, none⟩ = some (.int .i64 s.i) := blk_c h.box 1
  have b2 : w.cell? ⟨r, 2, none⟩ = some (.int .i64 s.bad) := blk_c h.box 2
  have f2 := blk_f h.box 2
  have hl := h.lt
  have hm := h.lm
  have t1 := h.c1 s.i hl
  have H := Lib.hid h
  clear h
  go_enter Tryd.func66, Tryd.ntmps66
  go_wp2_with fail
  · go_still_tail 12, (by kernel_rfl)
    change wpList _ _ _ _ _ w.drew
    go_wp2_with fail
    go_end0
    rename_i hb
    have e : Rp.fail L s = ⟨s.i, L[s.i].at_⟩ := by unfold Rp.fail; rw [if_pos hb, Rp.tk_get hl]
    rw [e]
    have k : Kp r w (w.setCell ⟨r, 2, none⟩ (.int .i64 L[s.i].at_)).drew := ((Kp.refl r w).set _ _ _).drew
    exact ⟨rfl, H.out.kp k (blk_set H.out.box 2 _) hl, k⟩
  · go_end0
    rename_i hb
    have e : Rp.fail L s = s := by unfold Rp.fail; rw [if_neg (by omega)]
    rw [e]
    exact ⟨rfl, H.out, Kp.refl _ _⟩

set_option maxRecDepth 100000 in
set_option maxHeartbeats 1000000 in
theorem ris_any (r g q : Nat) (L : List Sp.Tok) (s : Rp.St) (t : ByteArray) (w : World) (h : PA w r g q L s) :
    Calls Tryd.prog 64 #[.pointer (some ⟨r, 0, none⟩), .string t] w fun e w' => e = .returned (.bool (Rp.isT L t.data.toList s)) ∧ Below w.heap.size w w' := by
  have b0 : w.cell? ⟨r, 0, none⟩ = some (.slice (some ⟨g, 0, none⟩) L.length q) := blk_c h.box 0
  have b1 : w.cell? ⟨r, 1, none⟩ = some (.int .i64 s.i) := blk_c h.box 1
  have b2 : w.cell? ⟨r, 2, none⟩ = some (.int .i64 s.bad) := blk_c h.box 2
  have hl := h.lt
  have hm := h.lm
  have t0 := h.c0 s.i hl
  have t1 := h.c1 s.i hl
  have t2 := h.c2 s.i hl
  have t3 := h.c3 s.i hl
  have hcase : (decide (s.bad < 0) = false ∧ Rp.isT L t.data.toList s = false) ∨
      (decide (s.bad < 0) = true ∧ ((L[s.i].kind : Int) == 1) = true ∧ Rp.isT L t.data.toList s = decide (L[s.i].txt = t.data.toList)) ∨
      (decide (s.bad < 0) = true ∧ ((L[s.i].kind : Int) == 1) = false ∧ ((L[s.i].kind : Int) == 3) = true ∧ Rp.isT L t.data.toList s = decide (L[s.i].txt = t.data.toList)) ∨
      (decide (s.bad < 0) = true ∧ ((L[s.i].kind : Int) == 1) = false ∧ ((L[s.i].kind : Int) == 3) = false ∧ Rp.isT L t.data.toList s = false) := by
    have e1 : ((L[s.i].kind : Int) == 1) = decide (L[s.i].kind = 1) := by
      by_cases k : L[s.i].kind = 1
      · simp [k]
      · simp only [k, decide_false, beq_eq_false_iff_ne]; omega
    have e3 : ((L[s.i].kind : Int) == 3) = decide (L[s.i].kind = 3) := by
      by_cases k : L[s.i].kind = 3
      · simp [k]
      · simp only [k, decide_false, beq_eq_false_iff_ne]; omega
    unfold Rp.isT
    rw [Rp.tk_get hl, e1, e3]
    rcases hb : decide (s.bad < 0) with _ | _
    · left; simp
    · right
      rcases h1 : decide (L[s.i].kind = 1) with _ | _
      · right
        rcases h3 : decide (L[s.i].kind = 3) with _ | _
        · right; simp
        · left; simp
      · left; simp
  have hteq : decide (L[s.i].txt = t.data.toList) = ((bs L[s.i].txt).toList == t.toList) := by
    rw [Lib.toList_data, Lib.toList_data]
    show decide (L[s.i].txt = t.data.toList) = (L[s.i].txt == t.data.toList)
    by_cases k : L[s.i].txt = t.data.toList
    · simp [k]
    · simp only [k, decide_false]; exact (beq_eq_false_iff_ne.2 k).symm
  rw [hteq] at hcase
  obtain ⟨R, hR⟩ : ∃ R, R = Rp.isT L t.data.toList s := ⟨_, rfl⟩
  rw [← hR] at hcase ⊢
  have HC := Lib.hid hcase
  have hrl : r < w.heap.size := lt_of_block h.box
  have hgl : g < w.heap.size := World.block_lt_of_cell? w _ t0
  clear hcase hteq hR
  go_enter Tryd.func64, Tryd.ntmps64
  go_wp2_with fail
  go_region
  have hb : Below w.heap.size w (w.alloc (.cells #[.string (bs L[s.i].txt), .int .i64 L[s.i].at_, .int .i64 L[s.i].kind, .int .i64 L[s.i].n] 46)).drew := ((Below.refl _ _).alloc (Nat.le_refl _) _).drew
  have hn : (w.alloc (.cells #[.string (bs L[s.i].txt), .int .i64 L[s.i].at_, .int .i64 L[s.i].kind, .int .i64 L[s.i].n] 46)).drew.heap[w.heap.size]? = some (.cells #[.string (bs L[s.i].txt), .int .i64 L[s.i].at_, .int .i64 L[s.i].kind, .int .i64 L[s.i].n] 46 (0, 0)) := heap_alloc_new w _
  generalize ((w.alloc (.cells #[.string (bs L[s.i].txt), .int .i64 L[s.i].at_, .int .i64 L[s.i].kind, .int .i64 L[s.i].n] 46))).drew = W at *
  clear b0 b1 t0 t1 t2 t3
  have b2 := (hb.cell (p := ⟨r, 2, none⟩) hrl).trans b2
  have HB := Lib.hid hb
  have n0 := blk_c hn 0; have n2 := blk_c hn 2
  have hnl := lt_of_block hn
  clear hb hn h hrl hgl
  rcases HC.out with ⟨c1, e⟩ | ⟨c1, c2, e⟩ | ⟨c1, c2, c3, e⟩ | ⟨c1, c2, c3, e⟩
  all_goals
    have HE := Lib.hid e
    clear e HC
    go_wp2_with fail
    go_ret
    exact ⟨by rw [HE.out]; rfl, HB.out⟩

theorem PA.below {w w' : World} {r g q : Nat} {L : List Sp.Tok} {s : Rp.St} (h : PA w r g q L s) (k : Below w.heap.size w w') : PA w' r g q L s := by
  have hr := lt_of_block h.box
  have hg : g < w.heap.size := World.block_lt_of_cell? w _ (h.c0 s.i h.lt)
  exact ⟨(k.block r hr).trans h.box, fun j hj => (k.cell (p := ⟨g, j * 4, none⟩) hg).trans (h.c0 j hj), fun j hj => (k.cell (p := ⟨g, j * 4 + 1, none⟩) hg).trans (h.c1 j hj), fun j hj => (k.cell (p := ⟨g, j * 4 + 2, none⟩) hg).trans (h.c2 j hj), fun j hj => (k.cell (p := ⟨g, j * 4 + 3, none⟩) hg).trans (h.c3 j hj), h.ne, h.lt, h.lm⟩

theorem cell_far {w : World} {p : Addr} {v : Value} (h : w.cell? p = some v) {a : Addr} (ha : p.block ≠ a.block) (u : Value) : (w.setCell a u).cell? p = some v :=
  (World.cell?_of_block (w := w) (Below.heap_setCell _ _ _ _ ha)).trans h
theorem PA.far {w : World} {r g q : Nat} {L : List Sp.Tok} {s : Rp.St} (h : PA w r g q L s) {p : Addr} (hr : r ≠ p.block) (hg : g ≠ p.block) (u : Value) : PA (w.setCell p u) r g q L s :=
  ⟨blk_far h.box hr u, fun j hj => cell_far (h.c0 j hj) hg u, fun j hj => cell_far (h.c1 j hj) hg u, fun j hj => cell_far (h.c2 j hj) hg u, fun j hj => cell_far (h.c3 j hj) hg u, h.ne, h.lt, h.lm⟩
theorem rfin {V w : World} {b r g q : Nat} {L : List Sp.Tok} {s' : Rp.St} {a0 a1 a2 a3 : Value} (t : Sp.Tok) (hz : V.heap[b]? = some (.cells #[a0, a1, a2, a3] 46 (0, 0))) (hp : PA V r g q L s') (hk : Kp r w V) (hb : b = w.heap.size) (hr : r < b) (hg : g < b) :
    ((((V.setCell ⟨b, 0, none⟩ (.string (bs t.txt))).setCell ⟨b, 1, none⟩ (.int .i64 t.at_)).setCell ⟨b, 2, none⟩ (.int .i64 t.kind)).setCell ⟨b, 3, none⟩ (.int .i64 t.n)).heap[b]? = some (.cells #[.string (bs t.txt), .int .i64 t.at_, .int .i64 t.kind, .int .i64 t.n] 46 (0, 0)) ∧
    PA ((((V.setCell ⟨b, 0, none⟩ (.string (bs t.txt))).setCell ⟨b, 1, none⟩ (.int .i64 t.at_)).setCell ⟨b, 2, none⟩ (.int .i64 t.kind)).setCell ⟨b, 3, none⟩ (.int .i64 t.n)) r g q L s' ∧
    Kp r w ((((V.setCell ⟨b, 0, none⟩ (.string (bs t.txt))).setCell ⟨b, 1, none⟩ (.int .i64 t.at_)).setCell ⟨b, 2, none⟩ (.int .i64 t.kind)).setCell ⟨b, 3, none⟩ (.int .i64 t.n)) := by
  have hr' : r ≠ b := by omega
  have hg' : g ≠ b := by omega
  refine ⟨set4 hz _ _ _ _, (((hp.far (p := ⟨b, 0, none⟩) hr' hg' _).far (p := ⟨b, 1, none⟩) hr' hg' _).far (p := ⟨b, 2, none⟩) hr' hg' _).far (p := ⟨b, 3, none⟩) hr' hg' _, ?_⟩
  have hl : w.heap.size ≤ b := by omega
  exact (((hk.setNew (p := ⟨b, 0, none⟩) hl _).setNew (p := ⟨b, 1, none⟩) hl _).setNew (p := ⟨b, 2, none⟩) hl _).setNew (p := ⟨b, 3, none⟩) hl _

set_option maxRecDepth 100000 in
set_option maxHeartbeats 1000000 in
theorem rmust_any (r g q : Nat) (L : List Sp.Tok) (s : Rp.St) (t : ByteArray) (w : World) (h : PA w r g q L s) (hL : Rp.LOk L) :
    Calls Tryd.prog 62 #[.pointer (some ⟨r, 0, none⟩), .string t] w fun e w' => e = .returned (rtokV (Rp.tk L s.i)) ∧ PA w' r g q L (Rp.must L t.data.toList s) ∧ Kp r w w' := by
  have b0 : w.cell? ⟨r, 0, none⟩ = some (.slice (some ⟨g, 0, none⟩) L.length q) := blk_c h.box 0
  have b1 : w.cell? ⟨r, 1, none⟩ = some (.int .i64 s.i) := blk_c h.box 1
  have b2 : w.cell? ⟨r, 2, none⟩ = some (.int .i64 s.bad) := blk_c h.box 2
  have hl := h.lt
  have hm := h.lm
  have t0 := h.c0 s.i hl
  have t1 := h.c1 s.i hl
  have t2 := h.c2 s.i hl
  have t3 := h.c3 s.i hl
  have hrl : r < w.heap.size := lt_of_block h.box
  have hgl : g < w.heap.size := World.block_lt_of_cell? w _ t0
  have H := Lib.hid h
  have HL := Lib.hid hL
  clear h hL
  rw [Rp.tk_get hl]
  go_enter Tryd.func62, Tryd.ntmps62
  go_wp2_with fail
  go_region
  have hb : Below w.heap.size w ((w.alloc (.cells #[.string ⟨#[]⟩, .int .i64 0, .int .i64 0, .int .i64 0] 46)).alloc (.cells #[.string (bs L[s.i].txt), .int .i64 L[s.i].at_, .int .i64 L[s.i].kind, .int .i64 L[s.i].n] 46)).drew := (((Below.refl _ _).alloc (Nat.le_refl _) _).alloc (by simp) _).drew
  have hz : ((w.alloc (.cells #[.string ⟨#[]⟩, .int .i64 0, .int .i64 0, .int .i64 0] 46)).alloc (.cells #[.string (bs L[s.i].txt), .int .i64 L[s.i].at_, .int .i64 L[s.i].kind, .int .i64 L[s.i].n] 46)).drew.heap[w.heap.size]? = some (.cells #[.string ⟨#[]⟩, .int .i64 0, .int .i64 0, .int .i64 0] 46 (0, 0)) := blk_old (heap_alloc_new w _) _
  have hn : ((w.alloc (.cells #[.string ⟨#[]⟩, .int .i64 0, .int .i64 0, .int .i64 0] 46)).alloc (.cells #[.string (bs L[s.i].txt), .int .i64 L[s.i].at_, .int .i64 L[s.i].kind, .int .i64 L[s.i].n] 46)).drew.heap[w.heap.size + 1]? = some (.cells #[.string (bs L[s.i].txt), .int .i64 L[s.i].at_, .int .i64 L[s.i].kind, .int .i64 L[s.i].n] 46 (0, 0)) := show ((w.alloc (.cells #[.string ⟨#[]⟩, .int .i64 0, .int .i64 0, .int .i64 0] 46)).alloc (.cells #[.string (bs L[s.i].txt), .int .i64 L[s.i].at_, .int .i64 L[s.i].kind, .int .i64 L[s.i].n] 46)).heap[w.heap.size + 1]? = some (.cells #[.string (bs L[s.i].txt), .int .i64 L[s.i].at_, .int .i64 L[s.i].kind, .int .i64 L[s.i].n] 46 (0, 0)) by have := heap_alloc_new (w.alloc (.cells #[.string ⟨#[]⟩, .int .i64 0, .int .i64 0, .int .i64 0] 46)) (.cells #[.string (bs L[s.i].txt), .int .i64 L[s.i].at_, .int .i64 L[s.i].kind, .int .i64 L[s.i].n] 46); simpa using this
  generalize ((w.alloc (.cells #[.string ⟨#[]⟩, .int .i64 0, .int .i64 0, .int .i64 0] 46)).alloc (.cells #[.string (bs L[s.i].txt), .int .i64 L[s.i].at_, .int .i64 L[s.i].kind, .int .i64 L[s.i].n] 46)).drew = W at *
  have HP := Lib.hid (H.out.below hb)
  have HB := Lib.hid hb; have HZ := Lib.hid hz; have HN := Lib.hid hn
  have hnl := lt_of_block hn
  clear b0 b1 b2 t0 t1 t2 t3 hb hz hn H
  go_wp2_with fail
  refine (ris_any r g q L s t W HP.out).mono ?_
  rintro e w2 ⟨rfl, hb2⟩
  have G0 := Lib.hid ((hb2.block w.heap.size (by omega)).trans HZ.out)
  have G1 := Lib.hid ((hb2.block (w.heap.size + 1) hnl).trans HN.out)
  have HP2 := Lib.hid (HP.out.below hb2)
  have HB2 := Lib.hid (HB.out.trans (hb2.mono HB.out.size))
  clear hb2 HP HB HZ HN
  have x0 : w2.cell? ⟨w.heap.size + 1, 0, none⟩ = some (.string (bs L[s.i].txt)) := blk_c G1.out 0
  have x1 : w2.cell? ⟨w.heap.size + 1, 1, none⟩ = some (.int .i64 L[s.i].at_) := blk_c G1.out 1
  have x2 : w2.cell? ⟨w.heap.size + 1, 2, none⟩ = some (.int .i64 L[s.i].kind) := blk_c G1.out 2
  have x3 : w2.cell? ⟨w.heap.size + 1, 3, none⟩ = some (.int .i64 L[s.i].n) := blk_c G1.out 3
  have z0 := blk_c G0.out 0; have z1 := blk_c G0.out 1; have z2 := blk_c G0.out 2; have z3 := blk_c G0.out 3
  have y0 := blk_f G0.out 0; have y1 := blk_f G0.out 1; have y2 := blk_f G0.out 2; have y3 := blk_f G0.out 3
  obtain ⟨R, hR⟩ : ∃ R, R = Rp.isT L t.data.toList s := ⟨_, rfl⟩
  rw [← hR]
  have HR := Lib.hid hR
  clear hR
  have u0 : w2.cell? ⟨r, 1, none⟩ = some (.int .i64 s.i) := blk_c HP2.out.box 1
  have u1 := blk_f HP2.out.box 1
  have hr1 : ¬ r = w.heap.size + 1 := by omega
  have hr2 : ¬ r = w.heap.size := by omega
  have hr3 : ¬ w.heap.size + 1 = r := by omega
  have hr4 : ¬ w.heap.size = r := by omega
  rcases R with _ | _
  · go_wp2_with fail
    refine (rfail_any r g q L s w2 HP2.out).mono ?_
    rintro e w3 ⟨rfl, hp3, hk3⟩
    have g0 := hk3.blk G0.out hr4
    have g1 := hk3.blk G1.out hr3
    have K3 := Lib.hid (((Kp.refl r w).below HB2.out).trans hk3)
    have HP3 := Lib.hid hp3
    clear x0 x1 x2 x3 z0 z1 z2 z3 y0 y1 y2 y3 u0 u1 G0 G1 hk3 hp3 HP2 HB2
    have x0 : w3.cell? ⟨w.heap.size + 1, 0, none⟩ = some (.string (bs L[s.i].txt)) := blk_c g1 0
    have x1 : w3.cell? ⟨w.heap.size + 1, 1, none⟩ = some (.int .i64 L[s.i].at_) := blk_c g1 1
    have x2 : w3.cell? ⟨w.heap.size + 1, 2, none⟩ = some (.int .i64 L[s.i].kind) := blk_c g1 2
    have x3 : w3.cell? ⟨w.heap.size + 1, 3, none⟩ = some (.int .i64 L[s.i].n) := blk_c g1 3
    have z0 := blk_c g0 0; have z1 := blk_c g0 1; have z2 := blk_c g0 2; have z3 := blk_c g0 3
    have y0 := blk_f g0 0; have y1 := blk_f g0 1; have y2 := blk_f g0 2; have y3 := blk_f g0 3
    have G0 := Lib.hid g0
    clear g0 g1
    go_wp2_with fail
    obtain ⟨hq, hP, hK⟩ := rfin L[s.i] G0.out HP3.out K3.out rfl hrl hgl
    generalize (((w3.setCell ⟨w.heap.size, 0, none⟩ (.string (bs L[s.i].txt))).setCell ⟨w.heap.size, 1, none⟩ (.int .i64 L[s.i].at_)).setCell ⟨w.heap.size, 2, none⟩ (.int .i64 L[s.i].kind)).setCell ⟨w.heap.size, 3, none⟩ (.int .i64 L[s.i].n) = Z at hq hP hK ⊢
    have e0 := blk_c hq 0; have e1 := blk_c hq 1; have e2 := blk_c hq 2; have e3 := blk_c hq 3
    refine bodyPost_ret (v := rtokV L[s.i]) (by simp [results, Tryd.results62, go_sem, e0, e1, e2, e3, rtokV]) rfl ⟨rfl, ?_, hK⟩
    rw [show Rp.must L t.data.toList s = Rp.fail L s from by unfold Rp.must; rw [← HR.out]; rfl]; exact hP
  · go_wp2_with fail
    have k : Kp r w (w2.setCell ⟨r, 1, none⟩ (.int .i64 (s.i + 1))) := ((Kp.refl r w).below HB2.out).set _ _ _
    have hs1 : s.i + 1 < L.length := HL.out.last s.i hl (by
      have := HR.out
      simp only [Rp.isT, Bool.true_eq, Bool.and_eq_true, Bool.or_eq_true, decide_eq_true_eq] at this
      omega)
    have hP2 := HP2.out.kp (s' := ⟨s.i + 1, s.bad⟩) ((Kp.refl r w2).set 1 none (.int .i64 (s.i + 1))) (blk_set HP2.out.box 1 _) hs1
    have g0 := blk_far G0.out (p := ⟨r, 1, none⟩) hr4 (.int .i64 (s.i + 1))
    generalize w2.setCell ⟨r, 1, none⟩ (.int .i64 (s.i + 1)) = w3 at *
    obtain ⟨hq, hP, hK⟩ := rfin L[s.i] g0 hP2 k rfl hrl hgl
    generalize (((w3.setCell ⟨w.heap.size, 0, none⟩ (.string (bs L[s.i].txt))).setCell ⟨w.heap.size, 1, none⟩ (.int .i64 L[s.i].at_)).setCell ⟨w.heap.size, 2, none⟩ (.int .i64 L[s.i].kind)).setCell ⟨w.heap.size, 3, none⟩ (.int .i64 L[s.i].n) = Z at hq hP hK ⊢
    have e0 := blk_c hq 0; have e1 := blk_c hq 1; have e2 := blk_c hq 2; have e3 := blk_c hq 3
    refine bodyPost_ret (v := rtokV L[s.i]) (by simp [results, Tryd.results62, go_sem, e0, e1, e2, e3, rtokV]) rfl ⟨rfl, ?_, hK⟩
    rw [show Rp.must L t.data.toList s = ⟨s.i + 1, s.bad⟩ from by unfold Rp.must; rw [← HR.out]; rfl]; exact hP

/-- the parser's box alone -/
def BoxAt (w : World) (r g q : Nat) (L : List Sp.Tok) (s : Rp.St) : Prop := w.heap[r]? = some (.cells #[.slice (some ⟨g, 0, none⟩) L.length q, .int .i64 s.i, .int .i64 s.bad] 74 (0, 0))

set_option maxRecDepth 100000 in
set_option maxHeartbeats 1000000 in
theorem rkind_box (r g q : Nat) (L : List Sp.Tok) (s : Rp.St) (n : Nat) (w : World) (h : PA w r g q L s) :
    Calls Tryd.prog 44 #[.pointer (some ⟨r, 0, none⟩), .int .i64 n] w fun e w' => e = .returned (rtokV (Rp.tk L s.i)) ∧ BoxAt w' r g q L (Rp.kind L n s) ∧ Kp r w w' := by
  have b0 : w.cell? ⟨r, 0, none⟩ = some (.slice (some ⟨g, 0, none⟩) L.length q) := blk_c h.box 0
  have b1 : w.cell? ⟨r, 1, none⟩ = some (.int .i64 s.i) := blk_c h.box 1
  have b2 : w.cell? ⟨r, 2, none⟩ = some (.int .i64 s.bad) := blk_c h.box 2
  have hl := h.lt
  have hm := h.lm
  have t0 := h.c0 s.i hl
  have t1 := h.c1 s.i hl
  have t2 := h.c2 s.i hl
  have t3 := h.c3 s.i hl
  have hrl : r < w.heap.size := lt_of_block h.box
  have hgl : g < w.heap.size := World.block_lt_of_cell? w _ t0
  have H := Lib.hid h
  clear h
  rw [Rp.tk_get hl]
  have hcase : (decide (s.bad ≥ 0) = true ∧ Rp.kind L n s = Rp.fail L s) ∨ (decide (s.bad ≥ 0) = false ∧ ((L[s.i].kind : Int) != (n : Int)) = true ∧ Rp.kind L n s = Rp.fail L s) ∨
      (decide (s.bad ≥ 0) = false ∧ ((L[s.i].kind : Int) != (n : Int)) = false ∧ Rp.kind L n s = ⟨s.i + 1, s.bad⟩) := by
    unfold Rp.kind
    rw [Rp.tk_get hl]
    by_cases hb : s.bad < 0
    · right
      by_cases hk : L[s.i].kind = n
      · right; refine ⟨by simp; omega, by simp [hk], by rw [if_pos ⟨hb, hk⟩]⟩
      · left; refine ⟨by simp; omega, by rw [bne_iff_ne]; omega, by rw [if_neg (fun hh => hk hh.2)]⟩
    · left; exact ⟨by simp; omega, by rw [if_neg (fun hh => hb hh.1)]⟩
  obtain ⟨S, hS⟩ : ∃ S, S = Rp.kind L n s := ⟨_, rfl⟩
  rw [← hS] at hcase ⊢
  have HCA := Lib.hid hcase
  clear hS hcase
  go_enter Tryd.func44, Tryd.ntmps44
  go_wp2_with fail
  go_region
  have hb : Below w.heap.size w ((w.alloc (.cells #[.string ⟨#[]⟩, .int .i64 0, .int .i64 0, .int .i64 0] 46)).alloc (.cells #[.string (bs L[s.i].txt), .int .i64 L[s.i].at_, .int .i64 L[s.i].kind, .int .i64 L[s.i].n] 46)).drew := (((Below.refl _ _).alloc (Nat.le_refl _) _).alloc (by simp) _).drew
  have hz : ((w.alloc (.cells #[.string ⟨#[]⟩, .int .i64 0, .int .i64 0, .int .i64 0] 46)).alloc (.cells #[.string (bs L[s.i].txt), .int .i64 L[s.i].at_, .int .i64 L[s.i].kind, .int .i64 L[s.i].n] 46)).drew.heap[w.heap.size]? = some (.cells #[.string ⟨#[]⟩, .int .i64 0, .int .i64 0, .int .i64 0] 46 (0, 0)) := blk_old (heap_alloc_new w _) _
  have hn : ((w.alloc (.cells #[.string ⟨#[]⟩, .int .i64 0, .int .i64 0, .int .i64 0] 46)).alloc (.cells #[.string (bs L[s.i].txt), .int .i64 L[s.i].at_, .int .i64 L[s.i].kind, .int .i64 L[s.i].n] 46)).drew.heap[w.heap.size + 1]? = some (.cells #[.string (bs L[s.i].txt), .int .i64 L[s.i].at_, .int .i64 L[s.i].kind, .int .i64 L[s.i].n] 46 (0, 0)) := show ((w.alloc (.cells #[.string ⟨#[]⟩, .int .i64 0, .int .i64 0, .int .i64 0] 46)).alloc (.cells #[.string (bs L[s.i].txt), .int .i64 L[s.i].at_, .int .i64 L[s.i].kind, .int .i64 L[s.i].n] 46)).heap[w.heap.size + 1]? = some (.cells #[.string (bs L[s.i].txt), .int .i64 L[s.i].at_, .int .i64 L[s.i].kind, .int .i64 L[s.i].n] 46 (0, 0)) by have := heap_alloc_new (w.alloc (.cells #[.string ⟨#[]⟩, .int .i64 0, .int .i64 0, .int .i64 0] 46)) (.cells #[.string (bs L[s.i].txt), .int .i64 L[s.i].at_, .int .i64 L[s.i].kind, .int .i64 L[s.i].n] 46); simpa using this
  generalize ((w.alloc (.cells #[.string ⟨#[]⟩, .int .i64 0, .int .i64 0, .int .i64 0] 46)).alloc (.cells #[.string (bs L[s.i].txt), .int .i64 L[s.i].at_, .int .i64 L[s.i].kind, .int .i64 L[s.i].n] 46)).drew = w2 at *
  have HP2 := Lib.hid (H.out.below hb)
  have HB2 := Lib.hid hb; have G0 := Lib.hid hz; have G1 := Lib.hid hn
  have hnl := lt_of_block hn
  clear b0 b1 b2 t0 t1 t2 t3 hb hz hn H
  have x0 : w2.cell? ⟨w.heap.size + 1, 0, none⟩ = some (.string (bs L[s.i].txt)) := blk_c G1.out 0
  have x1 : w2.cell? ⟨w.heap.size + 1, 1, none⟩ = some (.int .i64 L[s.i].at_) := blk_c G1.out 1
  have x2 : w2.cell? ⟨w.heap.size + 1, 2, none⟩ = some (.int .i64 L[s.i].kind) := blk_c G1.out 2
  have x3 : w2.cell? ⟨w.heap.size + 1, 3, none⟩ = some (.int .i64 L[s.i].n) := blk_c G1.out 3
  have z0 := blk_c G0.out 0; have z1 := blk_c G0.out 1; have z2 := blk_c G0.out 2; have z3 := blk_c G0.out 3
  have y0 := blk_f G0.out 0; have y1 := blk_f G0.out 1; have y2 := blk_f G0.out 2; have y3 := blk_f G0.out 3
  have u0 : w2.cell? ⟨r, 1, none⟩ = some (.int .i64 s.i) := blk_c HP2.out.box 1
  have u2 : w2.cell? ⟨r, 2, none⟩ = some (.int .i64 s.bad) := blk_c HP2.out.box 2
  have u1 := blk_f HP2.out.box 1
  have hr1 : ¬ r = w.heap.size + 1 := by omega
  have hr2 : ¬ r = w.heap.size := by omega
  have hr3 : ¬ w.heap.size + 1 = r := by omega
  have hr4 : ¬ w.heap.size = r := by omega
  rcases HCA.out with ⟨k1, e⟩ | ⟨k1, k2, e⟩ | ⟨k1, k2, e⟩
  · have HE := Lib.hid e; clear e
    go_wp2_with fail
    refine (rfail_any r g q L s w2 HP2.out).mono ?_
    rintro e w3 ⟨rfl, hp3, hk3⟩
    have g0 := hk3.blk G0.out hr4
    have g1 := hk3.blk G1.out hr3
    have K3 := Lib.hid (((Kp.refl r w).below HB2.out).trans hk3)
    have HP3 := Lib.hid hp3
    clear x0 x1 x2 x3 z0 z1 z2 z3 y0 y1 y2 y3 u0 u1 u2 G0 G1 hk3 hp3 HP2 HB2
    have x0 : w3.cell? ⟨w.heap.size + 1, 0, none⟩ = some (.string (bs L[s.i].txt)) := blk_c g1 0
    have x1 : w3.cell? ⟨w.heap.size + 1, 1, none⟩ = some (.int .i64 L[s.i].at_) := blk_c g1 1
    have x2 : w3.cell? ⟨w.heap.size + 1, 2, none⟩ = some (.int .i64 L[s.i].kind) := blk_c g1 2
    have x3 : w3.cell? ⟨w.heap.size + 1, 3, none⟩ = some (.int .i64 L[s.i].n) := blk_c g1 3
    have z0 := blk_c g0 0; have z1 := blk_c g0 1; have z2 := blk_c g0 2; have z3 := blk_c g0 3
    have y0 := blk_f g0 0; have y1 := blk_f g0 1; have y2 := blk_f g0 2; have y3 := blk_f g0 3
    have G0 := Lib.hid g0
    clear g0 g1
    go_wp2_with fail
    obtain ⟨hq, hP, hK⟩ := rfin L[s.i] G0.out HP3.out K3.out rfl hrl hgl
    generalize (((w3.setCell ⟨w.heap.size, 0, none⟩ (.string (bs L[s.i].txt))).setCell ⟨w.heap.size, 1, none⟩ (.int .i64 L[s.i].at_)).setCell ⟨w.heap.size, 2, none⟩ (.int .i64 L[s.i].kind)).setCell ⟨w.heap.size, 3, none⟩ (.int .i64 L[s.i].n) = Z at hq hP hK ⊢
    have e0 := blk_c hq 0; have e1 := blk_c hq 1; have e2 := blk_c hq 2; have e3 := blk_c hq 3
    refine bodyPost_ret (v := rtokV L[s.i]) (by simp [results, Tryd.results44, go_sem, e0, e1, e2, e3, rtokV]) rfl ⟨rfl, ?_, hK⟩
    rw [HE.out]; exact hP.box
  · have HE := Lib.hid e; clear e
    go_wp2_with fail
    refine (rfail_any r g q L s w2 HP2.out).mono ?_
    rintro e w3 ⟨rfl, hp3, hk3⟩
    have g0 := hk3.blk G0.out hr4
    have g1 := hk3.blk G1.out hr3
    have K3 := Lib.hid (((Kp.refl r w).below HB2.out).trans hk3)
    have HP3 := Lib.hid hp3
    clear x0 x1 x2 x3 z0 z1 z2 z3 y0 y1 y2 y3 u0 u1 u2 G0 G1 hk3 hp3 HP2 HB2
    have x0 : w3.cell? ⟨w.heap.size + 1, 0, none⟩ = some (.string (bs L[s.i].txt)) := blk_c g1 0
    have x1 : w3.cell? ⟨w.heap.size + 1, 1, none⟩ = some (.int .i64 L[s.i].at_) := blk_c g1 1
    have x2 : w3.cell? ⟨w.heap.size + 1, 2, none⟩ = some (.int .i64 L[s.i].kind) := blk_c g1 2
    have x3 : w3.cell? ⟨w.heap.size + 1, 3, none⟩ = some (.int .i64 L[s.i].n) := blk_c g1 3
    have z0 := blk_c g0 0; have z1 := blk_c g0 1; have z2 := blk_c g0 2; have z3 := blk_c g0 3
    have y0 := blk_f g0 0; have y1 := blk_f g0 1; have y2 := blk_f g0 2; have y3 := blk_f g0 3
    have G0 := Lib.hid g0
    clear g0 g1
    go_wp2_with fail
    obtain ⟨hq, hP, hK⟩ := rfin L[s.i] G0.out HP3.out K3.out rfl hrl hgl
    generalize (((w3.setCell ⟨w.heap.size, 0, none⟩ (.string (bs L[s.i].txt))).setCell ⟨w.heap.size, 1, none⟩ (.int .i64 L[s.i].at_)).setCell ⟨w.heap.size, 2, none⟩ (.int .i64 L[s.i].kind)).setCell ⟨w.heap.size, 3, none⟩ (.int .i64 L[s.i].n) = Z at hq hP hK ⊢
    have e0 := blk_c hq 0; have e1 := blk_c hq 1; have e2 := blk_c hq 2; have e3 := blk_c hq 3
    refine bodyPost_ret (v := rtokV L[s.i]) (by simp [results, Tryd.results44, go_sem, e0, e1, e2, e3, rtokV]) rfl ⟨rfl, ?_, hK⟩
    rw [HE.out]; exact hP.box
  · have HE := Lib.hid e; clear e
    go_wp2_with fail
    have k : Kp r w (w2.setCell ⟨r, 1, none⟩ (.int .i64 (s.i + 1))) := ((Kp.refl r w).below HB2.out).set _ _ _
    have hP2 := blk_set HP2.out.box 1 (.int .i64 (s.i + 1))
    have g0 := blk_far G0.out (p := ⟨r, 1, none⟩) hr4 (.int .i64 (s.i + 1))
    generalize w2.setCell ⟨r, 1, none⟩ (.int .i64 (s.i + 1)) = w3 at *
    have hq := set4 g0 (.string (bs L[s.i].txt)) (.int .i64 L[s.i].at_) (.int .i64 L[s.i].kind) (.int .i64 L[s.i].n)
    have hP : BoxAt ((((w3.setCell ⟨w.heap.size, 0, none⟩ (.string (bs L[s.i].txt))).setCell ⟨w.heap.size, 1, none⟩ (.int .i64 L[s.i].at_)).setCell ⟨w.heap.size, 2, none⟩ (.int .i64 L[s.i].kind)).setCell ⟨w.heap.size, 3, none⟩ (.int .i64 L[s.i].n)) r g q L ⟨s.i + 1, s.bad⟩ := blk_far (blk_far (blk_far (blk_far hP2 (p := ⟨w.heap.size, 0, none⟩) hr2 _) (p := ⟨w.heap.size, 1, none⟩) hr2 _) (p := ⟨w.heap.size, 2, none⟩) hr2 _) (p := ⟨w.heap.size, 3, none⟩) hr2 _
    have hK : Kp r w ((((w3.setCell ⟨w.heap.size, 0, none⟩ (.string (bs L[s.i].txt))).setCell ⟨w.heap.size, 1, none⟩ (.int .i64 L[s.i].at_)).setCell ⟨w.heap.size, 2, none⟩ (.int .i64 L[s.i].kind)).setCell ⟨w.heap.size, 3, none⟩ (.int .i64 L[s.i].n)) := (((k.setNew (p := ⟨w.heap.size, 0, none⟩) (Nat.le_refl _) _).setNew (p := ⟨w.heap.size, 1, none⟩) (Nat.le_refl _) _).setNew (p := ⟨w.heap.size, 2, none⟩) (Nat.le_refl _) _).setNew (p := ⟨w.heap.size, 3, none⟩) (Nat.le_refl _) _
    generalize (((w3.setCell ⟨w.heap.size, 0, none⟩ (.string (bs L[s.i].txt))).setCell ⟨w.heap.size, 1, none⟩ (.int .i64 L[s.i].at_)).setCell ⟨w.heap.size, 2, none⟩ (.int .i64 L[s.i].kind)).setCell ⟨w.heap.size, 3, none⟩ (.int .i64 L[s.i].n) = Z at hq hP hK ⊢
    have e0 := blk_c hq 0; have e1 := blk_c hq 1; have e2 := blk_c hq 2; have e3 := blk_c hq 3
    refine bodyPost_ret (v := rtokV L[s.i]) (by simp [results, Tryd.results44, go_sem, e0, e1, e2, e3, rtokV]) rfl ⟨rfl, ?_, hK⟩
    rw [HE.out]; exact hP
theorem rkind_any (r g q : Nat) (L : List Sp.Tok) (s : Rp.St) (n : Nat) (w : World) (h : PA w r g q L s) (hL : Rp.LOk L) (hn : n ≤ 3) :
    Calls Tryd.prog 44 #[.pointer (some ⟨r, 0, none⟩), .int .i64 n] w fun e w' => e = .returned (rtokV (Rp.tk L s.i)) ∧ PA w' r g q L (Rp.kind L n s) ∧ Kp r w w' := by
  refine (rkind_box r g q L s n w h).mono ?_
  rintro e w' ⟨rfl, hb, hk⟩
  refine ⟨rfl, h.kp hk hb ?_, hk⟩
  unfold Rp.kind
  split
  · rename_i hc
    exact hL.last s.i h.lt (by omega)
  · unfold Rp.fail; split <;> exact h.lt
end Go.Proofs.YtppeplonnippcaaDoor
