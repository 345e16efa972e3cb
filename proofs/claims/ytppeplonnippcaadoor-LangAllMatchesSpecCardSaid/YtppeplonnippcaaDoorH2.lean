/-
Layer 7: the reference's parser: numbers, one.
-/
import Derived.Test.YtppeplonnippcaaDoorH1
set_option linter.unusedVariables false
set_option linter.unusedSimpArgs false
namespace Go.Proofs.YtppeplonnippcaaDoor
open Go.RowKit

theorem PA.alloc {w : World} {r g q : Nat} {L : List Sp.Tok} {s : Rp.St} (h : PA w r g q L s) (o : Obj) : PA (w.alloc o) r g q L s := h.below ((Below.refl _ _).alloc (Nat.le_refl _) _)
theorem PA.drewN {w : World} {r g q : Nat} {L : List Sp.Tok} {s : Rp.St} (h : PA w r g q L s) (n : Nat) : PA (w.drewN n) r g q L s := h.below (bel_drewNr (Below.refl _ _) n)
theorem PA.grown {w w' : World} {r g q : Nat} {L : List Sp.Tok} {s : Rp.St} {row : Option Nat} (h : PA w r g q L s) (hg : w.grownBy w' row) (hr : row ≠ some r) (hr2 : row ≠ some g) : PA w' r g q L s := by
  have hrl := lt_of_block h.box
  have hgl : g < w.heap.size := World.block_lt_of_cell? w _ (h.c0 s.i h.lt)
  have hc : ∀ {p : Addr} {v : Value}, p.block = g → w.cell? p = some v → w'.cell? p = some v := fun {p v} hp hv =>
    (World.cell?_of_block (w := w) (hg.block p.block (by omega) (fun e => hr2 (by rw [← hp]; exact e.symm)))).trans hv
  exact ⟨(hg.block r hrl (fun e => hr e.symm)).trans h.box, fun j hj => hc rfl (h.c0 j hj), fun j hj => hc rfl (h.c1 j hj), fun j hj => hc rfl (h.c2 j hj), fun j hj => hc rfl (h.c3 j hj), h.ne, h.lt, h.lm⟩

theorem more_yes {L : List Sp.Tok} {s : Rp.St} (hl : s.i < L.length) (hb : s.bad < 0) (hk : L[s.i].kind = 2) : Rp.more L s = Rp.tk L s.i :: Rp.more L (Rp.kind L 2 s) ∧ Rp.kind L 2 s = ⟨s.i + 1, s.bad⟩ := by
  have e : Rp.kind L 2 s = ⟨s.i + 1, s.bad⟩ := by unfold Rp.kind; rw [if_pos ⟨hb, by rw [Rp.tk_get hl]; exact hk⟩]
  refine ⟨?_, e⟩
  rw [e]
  unfold Rp.more
  rw [if_pos hb, if_pos hb, List.drop_eq_getElem_cons hl, List.takeWhile_cons, if_pos (by simp [Sp.isN, hk]), Rp.tk_get hl]
theorem more_no {L : List Sp.Tok} {s : Rp.St} (hl : s.i < L.length) (hb : ¬ (s.bad < 0 ∧ L[s.i].kind = 2)) : Rp.more L s = [] := by
  unfold Rp.more
  split
  · rename_i h
    rw [List.drop_eq_getElem_cons hl, List.takeWhile_cons, if_neg]
    simp only [Sp.isN, decide_eq_true_eq]
    exact fun hk => hb ⟨h, hk⟩
  · rfl

/-- what a step of the reference's parser hands back -/
def RPost (V : World → Value → Prop) (r g q : Nat) (L : List Sp.Tok) (s : Rp.St) (w : World) (e : Ending) (w' : World) : Prop :=
  ∃ v, e = .returned v ∧ V w' v ∧ PA w' r g q L s ∧ Kp r w w'

set_option maxRecDepth 100000 in
set_option maxHeartbeats 2000000 in
theorem rnums_any (r g q : Nat) (L : List Sp.Tok) (s : Rp.St) (w : World) (h : PA w r g q L s) (hL : Rp.LOk L) :
    Calls Tryd.prog 65 #[.pointer (some ⟨r, 0, none⟩)] w (RPost (RToksV w.heap.size (Rp.nums L s).1) r g q L (Rp.nums L s).2 w) := by
  have hrl : r < w.heap.size := lt_of_block h.box
  have hgl : g < w.heap.size := World.block_lt_of_cell? w _ (h.c0 s.i h.lt)
  have HC := Lib.hid (rkind_any r g q L s 2 w h hL (by decide))
  have HL := Lib.hid hL
  obtain ⟨i0, hi, hz0, hz1, hz2⟩ := info_parts info46
  have HN : Hid (Rp.nums L s = ([Rp.tk L s.i] ++ Rp.more L (Rp.kind L 2 s), ⟨(Rp.kind L 2 s).i + (Rp.more L (Rp.kind L 2 s)).length, (Rp.kind L 2 s).bad⟩)) := Lib.hid rfl
  obtain ⟨R, hR⟩ : ∃ R, R = Rp.nums L s := ⟨_, rfl⟩
  rw [← hR] at HN ⊢
  obtain ⟨t0, ht0⟩ : ∃ t, t = Rp.tk L s.i := ⟨_, rfl⟩
  rw [← ht0] at HN HC
  clear h hL hR ht0
  go_enter Tryd.func65, Tryd.ntmps65
  go_wp2_with (go_at_call 44; refine HC.out.mono ?_; rintro e w1 hh; obtain ⟨rfl, hpa, hk⟩ := hh; unfold rtokV; have H1 := Lib.hid hpa; have H2 := Lib.hid hk; clear hpa hk)
  go_loopg [3] (L.length - (Rp.kind L 2 s).i) (fun k v wr => ∃ (l : List Sp.Tok) (s' : Rp.St), k = L.length - s'.i ∧ l.length ≤ s'.i + 1 ∧ R = (l ++ Rp.more L s', ⟨s'.i + (Rp.more L s').length, s'.bad⟩) ∧ PA wr r g q L s' ∧ RToksV w.heap.size l wr v ∧ Kp r w wr)
  case atStart =>
    refine ⟨[t0], Rp.kind L 2 s, rfl, by simp, HN.out, H1.out.alloc _, ?_, H2.out.alloc _⟩
    · exact World.ownsRow_lit (base := w.heap.size) (e := 46) (size := 4) w1 (rtokC t0).toArray 1 H2.out.size (by unfold maxLen; omega) rfl
  case round =>
    obtain ⟨l, s', hk, hll, hRl, hpa, hown, hkp⟩ := hrel
    have b0 : wr.cell? ⟨r, 0, none⟩ = some (.slice (some ⟨g, 0, none⟩) L.length q) := blk_c hpa.box 0
    have b1 : wr.cell? ⟨r, 1, none⟩ = some (.int .i64 s'.i) := blk_c hpa.box 1
    have b2 : wr.cell? ⟨r, 2, none⟩ = some (.int .i64 s'.bad) := blk_c hpa.box 2
    have hl := hpa.lt
    have hm := hpa.lm
    have t2 := hpa.c2 s'.i hl
    have CK := Lib.hid fun W (hW : PA W r g q L s') => rkind_any r g q L s' 2 W hW HL.out (by decide)
    have H3 := Lib.hid hk; have H4 := Lib.hid hRl; have H5 := Lib.hid hown; have H6 := Lib.hid hkp; have H7 := Lib.hid hpa
    clear hk hRl hown hkp hpa HN H1 H2 HC
    by_cases hc : s'.bad < 0 ∧ L[s'.i].kind = 2
    · have g1 : decide (s'.bad < 0) = true := by simpa using hc.1
      have g2 : ((L[s'.i].kind : Int) == 2) = true := by rw [hc.2]; rfl
      obtain ⟨hm1, hm2⟩ := more_yes hl hc.1 hc.2
      have M1 := Lib.hid hm1; have M2 := Lib.hid hm2
      clear hc hm1 hm2
      go_wp2_with fail
      go_quiet (fail)
      go_wp2_with fail
      refine (CK.out _ (H7.out.drewN _)).mono ?_
      rintro e w3 ⟨rfl, hpa3, hk3⟩
      unfold rtokV
      have hlt3 : r < w.heap.size := hrl
      have H8 := Lib.hid (H6.out.trans (((Kp.refl r wr).drewN nq).trans hk3))
      have H9 := Lib.hid hpa3
      have H10 := Lib.hid (own_kp (show (wr.drewN nq).ownsRow _ _ _ _ _ _ from H5.out) hk3 hrl)
      obtain ⟨t, ht⟩ : ∃ t, t = Rp.tk L s'.i := ⟨_, rfl⟩
      rw [← ht] at M1
      rw [← ht]
      have HT := Lib.hid ht
      clear hk3 hpa3 ht b0 b1 b2 t2 CK
      go_wp2_with (first | (at_builtin; refine wpList_append_own_at (w3.alloc (.cells (rtokC t).toArray 46)) rfl _ _ 43 rfl w.heap.size 46 i0 _ 4 40 Tryd.underlying43 hi hz0 hz1 hz2 rfl (by decide) _ l.length (rcells l) rfl (H10.out.alloc _) ⟨w3.heap.size, 0, none⟩ 1 1 (rtokC t) rfl rfl ?c1 ?c2 ?c3 ?c4 ?c5 ?_))
      case c1 => exact World.news_of_block (cs := (rtokC t).toArray) (t := 46) (fr := (0, 0)) (heap_alloc_new w3 _)
      case c2 => intro u hu; simp only [rtokC, List.mem_cons, List.not_mem_nil, or_false] at hu; rcases hu with rfl | rfl | rfl | rfl <;> rfl
      case c3 => unfold maxLen; omega
      case c4 => omega
      case c5 => have h1 := H8.out.size; simp only [World.size_alloc]; omega
      intro v' w4 hown4 hg _ _
      have hrow : u3.ownBlock ≠ some r := fun e => by have := (H5.out.lt r e).1; omega
      have hrow2 : u3.ownBlock ≠ some g := fun e => by have := (H5.out.lt g e).1; omega
      have hat4 := (H9.out.alloc (.cells (rtokC t).toArray 46)).grown hg hrow hrow2
      have hkp4 := (H8.out.alloc (.cells (rtokC t).toArray 46)).grown hg fun k e => (H5.out.lt k e).1
      have H14 := Lib.hid hat4; have H15 := Lib.hid hkp4; have H16 := Lib.hid hown4
      clear hown4 hg hrow hrow2 hat4 hkp4
      go_wp2_with fail
      go_roundg (L.length - (Rp.kind L 2 s').i)
      case measure => rw [H3.out, M2.out]; dsimp only; omega
      case rel =>
        refine ⟨l ++ [t], Rp.kind L 2 s', rfl, ?_, ?_, H14.out, ?_, H15.out⟩
        · rw [M2.out, List.length_append, List.length_singleton]; dsimp only; omega
        · rw [H4.out, M1.out, List.append_assoc, List.singleton_append, List.length_cons, M2.out]
          congr 2
          dsimp only
          omega
        · unfold RToksV; rw [rcells_snoc, List.length_append]; exact H16.out
    · have hm0 := Lib.hid (more_no hl hc)
      have hcase : decide (s'.bad < 0) = false ∨ (decide (s'.bad < 0) = true ∧ ((L[s'.i].kind : Int) == 2) = false) := by
        by_cases hb : s'.bad < 0
        · right; refine ⟨by simpa using hb, by rw [beq_eq_false_iff_ne]; intro e; exact hc ⟨hb, by omega⟩⟩
        · left; simpa using hb
      clear hc
      rcases hcase with g1 | ⟨g1, g2⟩
      all_goals
        go_wp2_with fail
        go_quiet (fail)
        go_wp2_with fail
        go_ret
        refine ⟨u3, rfl, ?_, ?_, ((Kp.refl r w).trans H6.out).drewN _⟩
        · rw [H4.out, hm0.out, List.append_nil]; exact H5.out
        · rw [H4.out, hm0.out]; exact H7.out.drewN _

/-- a line of the reference's -/
def RLineV (base : Nat) (x : Rp.Line) (w : World) (v : Value) : Prop :=
  ∃ va vb, v = .agg #[.string (bs x.key.txt), .int .i64 x.key.at_, .int .i64 x.key.kind, .int .i64 x.key.n, va, vb] ∧ RToksV base x.a w va ∧ RToksV base x.b w vb
def z101 : Obj := .cells #[.string ⟨#[]⟩, .int .i64 0, .int .i64 0, .int .i64 0, .slice none 0 0, .slice none 0 0] 101

set_option maxRecDepth 100000 in
set_option maxHeartbeats 2000000 in
theorem rone_any (r g q : Nat) (L : List Sp.Tok) (s : Rp.St) (key : ByteArray) (w : World) (h : PA w r g q L s) (hL : Rp.LOk L) :
    Calls Tryd.prog 63 #[.pointer (some ⟨r, 0, none⟩), .string key] w (RPost (RLineV w.heap.size (Rp.one L key.data.toList s).1) r g q L (Rp.one L key.data.toList s).2 w) := by
  have hrl : r < w.heap.size := lt_of_block h.box
  have hgl : g < w.heap.size := World.block_lt_of_cell? w _ (h.c0 s.i h.lt)
  have HL := Lib.hid hL
  have H0 := Lib.hid h
  have C1 := Lib.hid fun o W (hW : W = w.alloc o) => rmust_any r g q L s key W (hW ▸ h.alloc o) hL
  have C2 := Lib.hid fun s' W (hW : PA W r g q L s') => rkind_any r g q L s' 2 W hW hL (by decide)
  have C3 := Lib.hid fun s' W (hW : PA W r g q L s') => rmust_any r g q L s' ⟨#[59]⟩ W hW hL
  have HR : Hid (Rp.one L key.data.toList s = (⟨Rp.tk L s.i, [Rp.tk L (Rp.must L key.data.toList s).i], []⟩, Rp.must L Sp.kSemi (Rp.kind L 2 (Rp.must L key.data.toList s)))) := Lib.hid rfl
  obtain ⟨R, hR⟩ : ∃ R, R = Rp.one L key.data.toList s := ⟨_, rfl⟩
  rw [← hR] at HR ⊢
  clear h hL hR
  go_enter Tryd.func63, Tryd.ntmps63
  go_wp2_with fail
  refine (C1.out z101 _ rfl).mono ?_
  rintro e w1 ⟨rfl, hp1, hk1⟩
  obtain ⟨ta, hta⟩ : ∃ t, t = Rp.tk L s.i := ⟨_, rfl⟩
  obtain ⟨s1, hs1⟩ : ∃ t, t = Rp.must L key.data.toList s := ⟨_, rfl⟩
  rw [← hta, ← hs1] at HR
  rw [← hs1] at hp1
  rw [← hta]
  unfold rtokV
  have hr0 : w.heap.size ≠ r := by omega
  have X0 := Lib.hid (hk1.blk (heap_alloc_new w z101) hr0)
  have K1 := Lib.hid (((Kp.refl r w).alloc z101).trans hk1)
  have hl0 : w.heap.size < w1.heap.size := lt_of_block X0.out
  have C2' := Lib.hid (C2.out s1 _ (hp1.alloc (.cells (rtokC ta).toArray 46)))
  clear hp1 hk1 C1 C2 hta hs1
  go_wp2_with fail
  refine C2'.out.mono ?_
  rintro e w2 ⟨rfl, hp2, hk2⟩
  obtain ⟨tb, htb⟩ : ∃ t, t = Rp.tk L s1.i := ⟨_, rfl⟩
  obtain ⟨s2, hs2⟩ : ∃ t, t = Rp.kind L 2 s1 := ⟨_, rfl⟩
  rw [← htb, ← hs2] at HR
  rw [← hs2] at hp2
  rw [← htb]
  unfold rtokV
  have hr1 : w1.heap.size ≠ r := by omega
  have X1 := Lib.hid (hk2.blk (heap_alloc_new w1 (.cells (rtokC ta).toArray 46)) hr1)
  have X0' := Lib.hid (hk2.blk (blk_old X0.out (.cells (rtokC ta).toArray 46)) hr0)
  have K2 := Lib.hid ((K1.out.alloc (.cells (rtokC ta).toArray 46)).trans hk2)
  have hl1 : w1.heap.size < w2.heap.size := lt_of_block X1.out
  have C3' := Lib.hid (C3.out s2 _ (hp2.alloc (.cells (rtokC tb).toArray 46)))
  clear hp2 hk2 C2' C3 htb hs2 X0 K1
  go_wp2_with fail
  refine C3'.out.mono ?_
  rintro e w3 ⟨rfl, hp3, hk3⟩
  have hr2 : w2.heap.size ≠ r := by omega
  have x2 := hk3.blk (heap_alloc_new w2 (.cells (rtokC tb).toArray 46)) hr2
  have x1 := hk3.blk (blk_old X1.out (.cells (rtokC tb).toArray 46)) hr1
  have x0 := hk3.blk (blk_old X0'.out (.cells (rtokC tb).toArray 46)) hr0
  have K3 := Lib.hid ((K2.out.alloc (.cells (rtokC tb).toArray 46)).trans hk3)
  have hl2 := lt_of_block x2
  have HP3 := Lib.hid hp3
  obtain ⟨s3, hs3⟩ : ∃ t, t = Rp.must L [59] s2 := ⟨_, rfl⟩
  rw [show Rp.must L Sp.kSemi s2 = s3 from hs3.symm] at HR
  rw [← hs3] at HP3
  clear hp3 hk3 C3' hs3 X0' X1 K2
  unfold z101 at x0
  have a0 : w3.cell? ⟨w1.heap.size, 0, none⟩ = some (.string (bs ta.txt)) := blk_c x1 0
  have a1 : w3.cell? ⟨w1.heap.size, 1, none⟩ = some (.int .i64 ta.at_) := blk_c x1 1
  have a2 : w3.cell? ⟨w1.heap.size, 2, none⟩ = some (.int .i64 ta.kind) := blk_c x1 2
  have a3 : w3.cell? ⟨w1.heap.size, 3, none⟩ = some (.int .i64 ta.n) := blk_c x1 3
  have b0 : w3.cell? ⟨w2.heap.size, 0, none⟩ = some (.string (bs tb.txt)) := blk_c x2 0
  have b1 : w3.cell? ⟨w2.heap.size, 1, none⟩ = some (.int .i64 tb.at_) := blk_c x2 1
  have b2 : w3.cell? ⟨w2.heap.size, 2, none⟩ = some (.int .i64 tb.kind) := blk_c x2 2
  have b3 : w3.cell? ⟨w2.heap.size, 3, none⟩ = some (.int .i64 tb.n) := blk_c x2 3
  have z0 := blk_c x0 0; have z1 := blk_c x0 1; have z2 := blk_c x0 2; have z3 := blk_c x0 3; have z4 := blk_c x0 4; have z5 := blk_c x0 5
  have f0 := blk_f x0 0; have f1 := blk_f x0 1; have f2 := blk_f x0 2; have f3 := blk_f x0 3; have f4 := blk_f x0 4; have f5 := blk_f x0 5
  have X0 := Lib.hid x0
  clear x0 x1 x2
  have hl3 : w.heap.size < w3.heap.size := by omega
  go_wp2_with fail
  have hg0 : g ≠ w.heap.size := by omega
  have hsz : ((((((w3.setCell ⟨w.heap.size, 0, none⟩ (.string (bs ta.txt))).setCell ⟨w.heap.size, 1, none⟩ (.int .i64 ta.at_)).setCell ⟨w.heap.size, 2, none⟩ (.int .i64 ta.kind)).setCell ⟨w.heap.size, 3, none⟩ (.int .i64 ta.n)).setCell ⟨w.heap.size, 4, none⟩ (.slice (some ⟨w3.heap.size, 0, none⟩) 1 1)).setCell ⟨w.heap.size, 5, none⟩ (.slice none 0 0)).heap.size = w3.heap.size := by simp [World.setCell]
  have u0 : ((((((w3.setCell ⟨w.heap.size, 0, none⟩ (.string (bs ta.txt))).setCell ⟨w.heap.size, 1, none⟩ (.int .i64 ta.at_)).setCell ⟨w.heap.size, 2, none⟩ (.int .i64 ta.kind)).setCell ⟨w.heap.size, 3, none⟩ (.int .i64 ta.n)).setCell ⟨w.heap.size, 4, none⟩ (.slice (some ⟨w3.heap.size, 0, none⟩) 1 1)).setCell ⟨w.heap.size, 5, none⟩ (.slice none 0 0)).heap[w.heap.size]? = some (.cells #[.string (bs ta.txt), .int .i64 ta.at_, .int .i64 ta.kind, .int .i64 ta.n, .slice (some ⟨w3.heap.size, 0, none⟩) 1 1, .slice none 0 0] 101 (0, 0)) := (blk_set (blk_set (blk_set (blk_set (blk_set (blk_set X0.out 0 (.string (bs ta.txt))) 1 (.int .i64 ta.at_)) 2 (.int .i64 ta.kind)) 3 (.int .i64 ta.n)) 4 (.slice (some ⟨w3.heap.size, 0, none⟩) 1 1)) 5 (.slice none 0 0))
  have u1 : PA ((((((w3.setCell ⟨w.heap.size, 0, none⟩ (.string (bs ta.txt))).setCell ⟨w.heap.size, 1, none⟩ (.int .i64 ta.at_)).setCell ⟨w.heap.size, 2, none⟩ (.int .i64 ta.kind)).setCell ⟨w.heap.size, 3, none⟩ (.int .i64 ta.n)).setCell ⟨w.heap.size, 4, none⟩ (.slice (some ⟨w3.heap.size, 0, none⟩) 1 1)).setCell ⟨w.heap.size, 5, none⟩ (.slice none 0 0)) r g q L s3 := ((((((HP3.out.far (p := ⟨w.heap.size, 0, none⟩) hr0.symm hg0 _).far (p := ⟨w.heap.size, 1, none⟩) hr0.symm hg0 _).far (p := ⟨w.heap.size, 2, none⟩) hr0.symm hg0 _).far (p := ⟨w.heap.size, 3, none⟩) hr0.symm hg0 _).far (p := ⟨w.heap.size, 4, none⟩) hr0.symm hg0 _).far (p := ⟨w.heap.size, 5, none⟩) hr0.symm hg0 _)
  have u2 : Kp r w ((((((w3.setCell ⟨w.heap.size, 0, none⟩ (.string (bs ta.txt))).setCell ⟨w.heap.size, 1, none⟩ (.int .i64 ta.at_)).setCell ⟨w.heap.size, 2, none⟩ (.int .i64 ta.kind)).setCell ⟨w.heap.size, 3, none⟩ (.int .i64 ta.n)).setCell ⟨w.heap.size, 4, none⟩ (.slice (some ⟨w3.heap.size, 0, none⟩) 1 1)).setCell ⟨w.heap.size, 5, none⟩ (.slice none 0 0)) := ((((((K3.out.setNew (p := ⟨w.heap.size, 0, none⟩) (Nat.le_refl _) _).setNew (p := ⟨w.heap.size, 1, none⟩) (Nat.le_refl _) _).setNew (p := ⟨w.heap.size, 2, none⟩) (Nat.le_refl _) _).setNew (p := ⟨w.heap.size, 3, none⟩) (Nat.le_refl _) _).setNew (p := ⟨w.heap.size, 4, none⟩) (Nat.le_refl _) _).setNew (p := ⟨w.heap.size, 5, none⟩) (Nat.le_refl _) _)
  generalize (((((w3.setCell ⟨w.heap.size, 0, none⟩ (.string (bs ta.txt))).setCell ⟨w.heap.size, 1, none⟩ (.int .i64 ta.at_)).setCell ⟨w.heap.size, 2, none⟩ (.int .i64 ta.kind)).setCell ⟨w.heap.size, 3, none⟩ (.int .i64 ta.n)).setCell ⟨w.heap.size, 4, none⟩ (.slice (some ⟨w3.heap.size, 0, none⟩) 1 1)).setCell ⟨w.heap.size, 5, none⟩ (.slice none 0 0) = U at *
  have q0 := blk_old u0 (.cells (rtokC tb).toArray 46)
  have q1 := u1.alloc (.cells (rtokC tb).toArray 46)
  have q2 := u2.alloc (.cells (rtokC tb).toArray 46)
  have q3 : RToksV w.heap.size [tb] (U.alloc (.cells (rtokC tb).toArray 46)) (.slice (some ⟨U.heap.size, 0, none⟩) 1 1) :=
    World.ownsRow_lit (base := w.heap.size) (e := 46) (size := 4) U (rtokC tb).toArray 1 u2.size (by unfold maxLen; omega) rfl
  rw [hsz] at q3
  have Q0 := Lib.hid q0; have Q1 := Lib.hid q1; have Q2 := Lib.hid q2; have Q3 := Lib.hid q3
  clear q0 q1 q2 q3 u0 u1 u2
  change bodyPost _ _ _ _ _ (U.alloc (.cells (rtokC tb).toArray 46))
  generalize U.alloc (.cells (rtokC tb).toArray 46) = V at *
  have e0 := blk_c Q0.out 0; have e1 := blk_c Q0.out 1; have e2 := blk_c Q0.out 2; have e3 := blk_c Q0.out 3; have e4 := blk_c Q0.out 4; have e5 := blk_c Q0.out 5
  refine bodyPost_ret (v := .agg #[.string (bs ta.txt), .int .i64 ta.at_, .int .i64 ta.kind, .int .i64 ta.n, .slice (some ⟨w3.heap.size, 0, none⟩) 1 1, .slice none 0 0]) (by simp [results, Tryd.results63, go_sem, e0, e1, e2, e3, e4, e5]) rfl ?_
  rw [HR.out]
  exact ⟨_, rfl, ⟨_, _, rfl, Q3.out, World.ownsRow_nil _ _ _ _⟩, Q1.out, Q2.out⟩
end Go.Proofs.YtppeplonnippcaaDoor
