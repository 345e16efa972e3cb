/-
Layer 7: the reference's parser: code.
-/
import Derived.Test.YtppeplonnippcaaDoorH2
import Derived.Test.YtppeplonnippcaaDoorA8
set_option linter.unusedVariables false
set_option linter.unusedSimpArgs false
namespace Go.Proofs.YtppeplonnippcaaDoor
open Go.RowKit

theorem info101 : (Tryd.prog.info? 101).map (fun i => (i.zero, i.size, i.bytes)) = some (some (.agg #[.string ⟨#[]⟩, .int .i64 0, .int .i64 0, .int .i64 0, .slice none 0 0, .slice none 0 0]), 6, 88) := by kernel_rfl

/-- the cells of lines: each line's slices hold its tokens -/
def RLinesIn (base : Nat) (w : World) : List Rp.Line → List Value → Prop
  | [], cs => cs = []
  | x :: l, cs => ∃ va vb rest, cs = .string (bs x.key.txt) :: .int .i64 x.key.at_ :: .int .i64 x.key.kind :: .int .i64 x.key.n :: va :: vb :: rest ∧ RToksV base x.a w va ∧ RToksV base x.b w vb ∧ RLinesIn base w l rest
theorem RLinesIn.keep {base base' : Nat} {w w' : World} (hk : ∀ m v, RToksV base m w v → RToksV base' m w' v) {l : List Rp.Line} {cs : List Value} (h : RLinesIn base w l cs) : RLinesIn base' w' l cs := by
  induction l generalizing cs with
  | nil => exact h
  | cons x l ih =>
    obtain ⟨va, vb, rest, h1, h2, h3, h4⟩ := h
    exact ⟨va, vb, rest, h1, hk _ _ h2, hk _ _ h3, ih h4⟩
theorem RLinesIn.drew {base : Nat} {w : World} {l : List Rp.Line} {cs : List Value} (h : RLinesIn base w l cs) : RLinesIn base w.drew l cs := RLinesIn.keep (w := w) (w' := w.drew) (fun _ _ hm => hm) h
theorem RToksV.kp {r base : Nat} {w w' : World} {m : List Sp.Tok} {v : Value} (h : RToksV base m w v) (k : Kp r w w') (hr : r < base) : RToksV base m w' v := own_kp h k hr
theorem RToksV.nil (base : Nat) (w : World) : RToksV base [] w (.slice none 0 0) := World.ownsRow_nil _ _ _ _
theorem RToksV.alloc {base : Nat} {w : World} {m : List Sp.Tok} {v : Value} (h : RToksV base m w v) (o : Obj) : RToksV base m (w.alloc o) v := World.ownsRow.alloc h o
theorem RToksV.mono {base base' : Nat} {w : World} {m : List Sp.Tok} {v : Value} (h : RToksV base m w v) (hb : base' ≤ base) : RToksV base' m w v := own_mono h hb
theorem RLinesIn.snoc {base : Nat} {w : World} {l : List Rp.Line} {cs : List Value} (h : RLinesIn base w l cs) {x : Rp.Line} {va vb : Value} (ha : RToksV base x.a w va) (hb : RToksV base x.b w vb) :
    RLinesIn base w (l ++ [x]) (cs ++ [.string (bs x.key.txt), .int .i64 x.key.at_, .int .i64 x.key.kind, .int .i64 x.key.n, va, vb]) := by
  induction l generalizing cs with
  | nil => rw [show cs = [] from h]; exact ⟨va, vb, [], rfl, ha, hb, rfl⟩
  | cons y l ih =>
    obtain ⟨va', vb', rest, rfl, h2, h3, h4⟩ := h
    exact ⟨va', vb', _, rfl, h2, h3, ih h4⟩
/-- a slice of lines -/
def RLinesV (base : Nat) (l : List Rp.Line) (w : World) (v : Value) : Prop := ∃ cs, w.ownsRow base 101 6 v l.length cs ∧ RLinesIn base w l cs
theorem RLinesV.kp {w w' : World} {r base : Nat} {l : List Rp.Line} {v : Value} (h : RLinesV base l w v) (k : Kp r w w') (hr : r < base) : RLinesV base l w' v := by
  obtain ⟨cs, h1, h2⟩ := h
  exact ⟨cs, own_kp h1 k hr, h2.keep fun m v hm => own_kp hm k hr⟩
theorem RLinesV.far {w : World} {base : Nat} {l : List Rp.Line} {v : Value} (h : RLinesV base l w v) {p : Addr} (hp : p.block < base) (u : Value) : RLinesV base l (w.setCell p u) v := by
  obtain ⟨cs, h1, h2⟩ := h
  exact ⟨cs, own_far h1 hp u, h2.keep fun m v hm => own_far hm hp u⟩
theorem RLinesV.alloc {w : World} {base : Nat} {l : List Rp.Line} {v : Value} (h : RLinesV base l w v) (o : Obj) : RLinesV base l (w.alloc o) v := by
  obtain ⟨cs, h1, h2⟩ := h
  exact ⟨cs, h1.alloc o, h2.keep fun m v hm => World.ownsRow.alloc hm o⟩
theorem RLinesV.mono {w : World} {base base' : Nat} {l : List Rp.Line} {v : Value} (h : RLinesV base l w v) (hb : base' ≤ base) : RLinesV base' l w v := by
  obtain ⟨cs, h1, h2⟩ := h
  exact ⟨cs, own_mono h1 hb, h2.keep fun m v hm => own_mono hm hb⟩
theorem RLinesV.below {w w' : World} {base : Nat} {l : List Rp.Line} {v : Value} (h : RLinesV base l w v) (k : Below w.heap.size w w') : RLinesV base l w' v := by
  obtain ⟨cs, h1, h2⟩ := h
  exact ⟨cs, own_below h1 k, h2.keep fun m v hm => own_below hm k⟩
theorem RLinesV.nil (base : Nat) (w : World) : RLinesV base [] w (.slice none 0 0) := ⟨[], World.ownsRow_nil _ _ _ _, rfl⟩
/-- a line has been appended -/
theorem RLinesV.push {base : Nat} {w6 w7 : World} {l : List Rp.Line} {v v' : Value} {x : Rp.Line} {va vb : Value} {cs : List Value} (ho : w6.ownsRow base 101 6 v l.length cs) (hin : RLinesIn base w6 l cs) (ha : RToksV base x.a w6 va) (hb : RToksV base x.b w6 vb)
    (hown : w7.ownsRow base 101 6 v' (l.length + 1) (cs ++ [.string (bs x.key.txt), .int .i64 x.key.at_, .int .i64 x.key.kind, .int .i64 x.key.n, va, vb])) (hg : w6.grownBy w7 v.ownBlock) : RLinesV base (l ++ [x]) w7 v' := by
  have hk : ∀ m u, RToksV base m w6 u → RToksV base m w7 u := fun m u hm => World.ownsRow.kept hm hg (own_type_ne hm ho (by decide))
  refine ⟨_, by rw [List.length_append]; exact hown, (hin.keep hk).snoc (hk _ _ ha) (hk _ _ hb)⟩

/-- a source of the reference's -/
def RSrcV (base : Nat) (x : Rp.Src) (w : World) (v : Value) : Prop :=
  ∃ vl, v = .agg #[.string (bs x.name.txt), .int .i64 x.name.at_, .int .i64 x.name.kind, .int .i64 x.name.n, vl] ∧ RLinesV base x.lines w vl
def z77 : Obj := .cells #[.string ⟨#[]⟩, .int .i64 0, .int .i64 0, .int .i64 0, .slice none 0 0] 77

theorem row_next {L : List Sp.Tok} (h : Rp.LOk L) {i : Nat} (hi : i < L.length) :
    (0 ≤ (Rp.row L ⟨i, -1⟩).2.bad) ∨ ((Rp.row L ⟨i, -1⟩).2.bad = -1 ∧ i < (Rp.row L ⟨i, -1⟩).2.i) := by
  have hs := Rp.row_sim h hi
  rcases e : Sp.pRow (L.drop i) with p | ⟨x, t⟩
  · rw [e] at hs
    obtain ⟨j, h1, _⟩ := hs
    left; rw [h1]; simp
  · rw [e] at hs
    obtain ⟨j, rfl, h1, hij, hj, _⟩ := hs
    have := Sp.pRow_lt e
    simp only [List.length_drop] at this
    right; rw [h1]; exact ⟨rfl, by simp only; omega⟩
theorem st_eta (s : Rp.St) (h : s.bad = -1) : s = ⟨s.i, -1⟩ := by cases s; simp_all
theorem one_bad' {L : List Sp.Tok} (h : Rp.LOk L) {key : List UInt8} (hw : Rp.Wd key) {s : Rp.St} (hs : s.bad = -1 ∨ 0 ≤ s.bad) (hi : s.i < L.length) : (Rp.one L key s).2.bad = -1 ∨ 0 ≤ (Rp.one L key s).2.bad := by
  rcases hs with e | e
  · rw [st_eta s e]
    have := Rp.one_sim h hw hi
    rcases e1 : Sp.pOne key (L.drop s.i) with p | ⟨x, t⟩
    · rw [e1] at this; obtain ⟨j, h1, _⟩ := this; right; rw [h1]; simp
    · rw [e1] at this; obtain ⟨j, _, h1, _⟩ := this; left; rw [h1]
  · right; rw [Rp.one_bad (by omega)]; exact e
theorem head_bad {L : List Sp.Tok} {s : Rp.St} (hs : s.bad = -1 ∨ 0 ≤ s.bad) : (Rp.head L s).bad = -1 ∨ 0 ≤ (Rp.head L s).bad := by
  have hf : ∀ s : Rp.St, (s.bad = -1 ∨ 0 ≤ s.bad) → ((Rp.fail L s).bad = -1 ∨ 0 ≤ (Rp.fail L s).bad) := by
    intro s h; unfold Rp.fail; split
    · right; simp
    · exact h
  have hm : ∀ (t : List UInt8) (s : Rp.St), (s.bad = -1 ∨ 0 ≤ s.bad) → ((Rp.must L t s).bad = -1 ∨ 0 ≤ (Rp.must L t s).bad) := by
    intro t s h; unfold Rp.must; split
    · exact h
    · exact hf s h
  have hk : ∀ (n : Nat) (s : Rp.St), (s.bad = -1 ∨ 0 ≤ s.bad) → ((Rp.kind L n s).bad = -1 ∨ 0 ≤ (Rp.kind L n s).bad) := by
    intro t s h; unfold Rp.kind; split
    · exact h
    · exact hf s h
  exact hm _ _ (hk _ _ (hm _ _ hs))

set_option maxRecDepth 100000 in
set_option maxHeartbeats 40000000 in
theorem rcode_any (r g q : Nat) (L : List Sp.Tok) (s : Rp.St) (w : World) (h : PA w r g q L s) (hL : Rp.LOk L) (hs : s.bad = -1 ∨ 0 ≤ s.bad) :
    Calls Tryd.prog 43 #[.pointer (some ⟨r, 0, none⟩)] w (RPost (RSrcV w.heap.size (Rp.code L s).1) r g q L (Rp.code L s).2 w) := by
  have hrl : r < w.heap.size := lt_of_block h.box
  have hgl : g < w.heap.size := World.block_lt_of_cell? w _ (h.c0 s.i h.lt)
  have hlm := h.lm
  have HL := Lib.hid hL
  have HS := Lib.hid hs
  have H1 := Lib.hid (h.alloc z77)
  have L1 : Hid (Kp r w (w.alloc z77)) := Lib.hid ((Kp.refl r w).alloc _)
  have B2 : Hid ((w.alloc z77).heap[w.heap.size]? = some z77) := Lib.hid (heap_alloc_new w z77)
  have hne1 : w.heap.size ≠ r := by omega
  obtain ⟨R, hR⟩ : ∃ R, R = Rp.code L s := ⟨_, rfl⟩
  rw [← hR]
  have HR := Lib.hid hR
  clear h hL hs hR
  go_enter Tryd.func43, Tryd.ntmps43
  go_wp2_with fail
  refine (rmust_any r g q L s ⟨#[99, 111, 100, 101]⟩ _ H1.out HL.out).mono ?_
  rintro e w1 ⟨rfl, hp, hk⟩
  obtain ⟨s1, es1⟩ : ∃ t, t = Rp.must L Sp.kCode s := ⟨_, rfl⟩
  rw [show Rp.must L (⟨#[99, 111, 100, 101]⟩ : ByteArray).data.toList s = s1 from es1.symm] at hp
  have Es1 := Lib.hid es1; clear es1
  have b2 := hk.blk B2.out hne1; have l1 := L1.out.trans hk
  clear B2 L1 H1
  have B2 := Lib.hid b2; have L1 := Lib.hid l1; have H1 := Lib.hid hp
  clear b2 l1 hp hk
  unfold rtokV
  go_wp2_with fail
  refine (rkind_any r g q L s1 1 _ H1.out HL.out (by decide)).mono ?_
  rintro e w2 ⟨rfl, hp, hk⟩
  obtain ⟨s2, es2⟩ : ∃ t, t = Rp.kind L 1 s1 := ⟨_, rfl⟩
  rw [← es2] at hp
  have Es2 := Lib.hid es2; clear es2
  obtain ⟨nm, hnm⟩ : ∃ t, t = Rp.tk L s1.i := ⟨_, rfl⟩
  rw [← hnm]
  have HNM := Lib.hid hnm; clear hnm
  have b2 := hk.blk B2.out hne1; have l1 := L1.out.trans hk
  clear B2 L1 H1
  have B2 := Lib.hid b2; have L1 := Lib.hid l1; have H1 := Lib.hid hp
  clear b2 l1 hp hk
  unfold rtokV
  have b3 := heap_alloc_new w2 (.cells #[.string (bs nm.txt), .int .i64 nm.at_, .int .i64 nm.kind, .int .i64 nm.n, .slice none 0 0] 77)
  have hp := H1.out.alloc (.cells #[.string (bs nm.txt), .int .i64 nm.at_, .int .i64 nm.kind, .int .i64 nm.n, .slice none 0 0] 77)
  have b2 := blk_old B2.out (.cells #[.string (bs nm.txt), .int .i64 nm.at_, .int .i64 nm.kind, .int .i64 nm.n, .slice none 0 0] 77)
  have l1 := L1.out.alloc (.cells #[.string (bs nm.txt), .int .i64 nm.at_, .int .i64 nm.kind, .int .i64 nm.n, .slice none 0 0] 77)
  have hlt0 := lt_of_block B2.out
  have hrlt : r < w2.heap.size := lt_of_block H1.out.box
  have hglt : g < w2.heap.size := World.block_lt_of_cell? _ _ (H1.out.c0 _ H1.out.lt)
  clear B2 L1 H1
  go_wp2_with fail
  generalize w2.alloc (.cells #[.string (bs nm.txt), .int .i64 nm.at_, .int .i64 nm.kind, .int .i64 nm.n, .slice none 0 0] 77) = u0 at *
  generalize w2.heap.size = B at *
  have hBr : B ≠ r := by omega
  have hBr2 : ¬ B = r := hBr
  have hrB : ¬ r = B := by omega
  have hgB : ¬ g = B := by omega
  have hgB1 : g < B + 1 := by omega
  have hrB1 : r < B + 1 := by omega
  have hwB : ¬ w.heap.size = B := by omega
  have hwB2 : ¬ B = w.heap.size := by omega
  have B3 := Lib.hid b3; have B2 := Lib.hid b2; have L1 := Lib.hid l1; have H1 := Lib.hid hp
  clear b3 b2 l1 hp
  refine (rmust_any r g q L s2 ⟨#[123]⟩ _ H1.out HL.out).mono ?_
  rintro e w3 ⟨rfl, hp, hk⟩
  obtain ⟨s3, es3⟩ : ∃ t, t = Rp.must L Sp.kOpen s2 := ⟨_, rfl⟩
  rw [show Rp.must L (⟨#[123]⟩ : ByteArray).data.toList s2 = s3 from es3.symm] at hp
  have Es3 := Lib.hid es3; clear es3
  have b2 := hk.blk B2.out hne1; have l1 := L1.out.trans hk; have b3 := hk.blk B3.out hBr
  clear B2 L1 H1 B3
  have B2 := Lib.hid b2; have L1 := Lib.hid l1; have H1 := Lib.hid hp; have B3 := Lib.hid b3
  clear b2 l1 hp hk b3
  have ls3 := H1.out.lt
  unfold rtokV
  go_wp2_with fail
  have HV : Hid (RLinesV (B + 1) [] w3 (.slice none 0 0)) := Lib.hid (RLinesV.nil _ _)
  obtain ⟨R4, eR4⟩ : ∃ t, t = Rp.one L Sp.kField s3 := ⟨_, rfl⟩
  have C1 := Lib.hid (rone_any r g q L s3 ⟨#[102, 105, 101, 108, 100]⟩ w3.drew (H1.out.below ((Below.refl _ _).drew)) HL.out)
  rw [show Rp.one L (⟨#[102, 105, 101, 108, 100]⟩ : ByteArray).data.toList s3 = R4 from eR4.symm] at C1
  have ER4 := Lib.hid eR4; clear eR4
  have c4 := blk_c B3.out 4; have f4 := blk_f B3.out 4; have HB1 : Hid (B + 1 ≤ w3.drew.heap.size) := Lib.hid (Nat.succ_le_of_lt (lt_of_block (w := w3.drew) B3.out))
  obtain ⟨x0, hx0⟩ : ∃ t, t = R4.1 := ⟨_, rfl⟩
  rw [← hx0] at C1
  have HX0 := Lib.hid hx0; clear hx0
  go_cut [] (fun wx => ∃ v0, PA wx r g q L R4.2 ∧ wx.heap[B]? = some (.cells #[.string (bs nm.txt), .int .i64 nm.at_, .int .i64 nm.kind, .int .i64 nm.n, v0] 77 (0, 0)) ∧ wx.heap[w.heap.size]? = some z77 ∧ Kp r w wx ∧ RLinesV (B + 1) ([] ++ [R4.1]) wx v0)
  case first =>
    obtain ⟨i0, hi, hz0, hz1, hz2⟩ := info_parts info101
    obtain ⟨csr, hor, hin⟩ := HV.out
    have HOR := Lib.hid hor; have HIN := Lib.hid hin.drew
    clear hor hin
    go_region_law (first | (go_simp; go_at_call 63; refine C1.out.mono ?_; rintro e w6 hh; obtain ⟨vv, rfl, ⟨va, vb, rfl, hma, hmb⟩, hp, hk⟩ := hh; obtain ⟨Aa, qa, rfl⟩ := own_slice hma; obtain ⟨Ab, qb, rfl⟩ := own_slice hmb; have b3 := hk.blk B3.out hBr; have b2 := hk.blk B2.out hne1; have k4 := blk_c b3 4; have g4 := blk_f b3 4; have k4a := blk_c (blk_old b3 (.cells #[.string (bs x0.key.txt), .int .i64 x0.key.at_, .int .i64 x0.key.kind, .int .i64 x0.key.n, .slice Aa x0.a.length qa, .slice Ab x0.b.length qb] 101)) 4; have l1 := L1.out.drew.trans hk; have L2 := Lib.hid l1; have B6 := Lib.hid b3; have B7 := Lib.hid b2; have MA := Lib.hid hma; have MB := Lib.hid hmb; have H2 := Lib.hid hp; have HO := Lib.hid (own_kp (show w3.drew.ownsRow _ _ _ _ _ _ from HOR.out) hk hrB1); have HIN6 := Lib.hid (RLinesIn.keep (fun m v hm => RToksV.kp hm hk hrB1) HIN.out); have HN := Lib.hid (World.news_of_block (heap_alloc_new w6 (.cells #[.string (bs x0.key.txt), .int .i64 x0.key.at_, .int .i64 x0.key.kind, .int .i64 x0.key.n, .slice Aa x0.a.length qa, .slice Ab x0.b.length qb] 101))); have HLT := Lib.hid (lt_of_block b3); have HBA : Hid (B < (w6.alloc (.cells #[.string (bs x0.key.txt), .int .i64 x0.key.at_, .int .i64 x0.key.kind, .int .i64 x0.key.n, .slice Aa x0.a.length qa, .slice Ab x0.b.length qb] 101)).heap.size) := Lib.hid (Nat.lt_trans (lt_of_block b3) (by rw [World.size_alloc]; exact Nat.lt_succ_self _)); have HWA : Hid (w.heap.size < (w6.alloc (.cells #[.string (bs x0.key.txt), .int .i64 x0.key.at_, .int .i64 x0.key.kind, .int .i64 x0.key.n, .slice Aa x0.a.length qa, .slice Ab x0.b.length qb] 101)).heap.size) := Lib.hid (Nat.lt_trans hlt0 HBA.out); clear b3 b2 l1 hk hma hmb hp) | (refine step_append_lies (w6.alloc (.cells #[.string (bs x0.key.txt), .int .i64 x0.key.at_, .int .i64 x0.key.kind, .int .i64 x0.key.n, .slice Aa x0.a.length qa, .slice Ab x0.b.length qb] 101)) rfl (.tmp 18) (.tmp 21) 75 rfl (B + 1) 101 i0 _ 6 88 Tryd.underlying75 hi hz0 hz1 hz2 rfl (by decide) (.slice none 0 0) 0 (csr) rfl (HO.out.alloc _) ⟨w6.heap.size, 0, none⟩ 1 1 [.string (bs x0.key.txt), .int .i64 x0.key.at_, .int .i64 x0.key.kind, .int .i64 x0.key.n, .slice Aa x0.a.length qa, .slice Ab x0.b.length qb] rfl rfl HN.out (by intro u hu; simp only [List.mem_cons, List.not_mem_nil, or_false] at hu; rcases hu with rfl | rfl | rfl | rfl | rfl | rfl <;> rfl) (by decide) (by unfold maxLen; omega) (by omega) HBA.out _ rfl ?_; intro gg cap w7 hown hgrow hgat hglt'; have HNB := (own_ne HO.out (b := B) (Nat.lt_succ_self _)).symm; have HNW := (own_ne HO.out (b := w.heap.size) (Nat.lt_succ_of_lt hlt0)).symm; have HNR := own_ne HO.out (b := r) hrB1; have HNG := own_ne HO.out (b := g) hgB1; have b3 := (hgrow.block B HBA.out HNB).trans (blk_old B6.out _); have b2 := (hgrow.block w.heap.size HWA.out HNW).trans (blk_old B7.out _); have k4' := blk_c b3 4; have g4' := blk_f b3 4; have l7 := (L2.out.alloc (.cells #[.string (bs x0.key.txt), .int .i64 x0.key.at_, .int .i64 x0.key.kind, .int .i64 x0.key.n, .slice Aa x0.a.length qa, .slice Ab x0.b.length qb] 101)).grown hgrow (own_ge HO.out (Nat.le_succ_of_le (Nat.le_of_lt hlt0))); have at7 := (H2.out.alloc (.cells #[.string (bs x0.key.txt), .int .i64 x0.key.at_, .int .i64 x0.key.kind, .int .i64 x0.key.n, .slice Aa x0.a.length qa, .slice Ab x0.b.length qb] 101)).grown hgrow HNR HNG; have L7 := Lib.hid l7; have A7 := Lib.hid at7; have B8 := Lib.hid b3; have B9 := Lib.hid b2; have OW := Lib.hid hown; have GR := Lib.hid hgrow; clear b3 b2 l7 at7 hown hgrow hgat hglt' HNB HNW HNR HNG))
    all_goals
      have hpush := RLinesV.far (RLinesV.push (x := x0) (HO.out.alloc (.cells #[.string (bs x0.key.txt), .int .i64 x0.key.at_, .int .i64 x0.key.kind, .int .i64 x0.key.n, .slice Aa x0.a.length qa, .slice Ab x0.b.length qb] 101)) (RLinesIn.keep (fun m v hm => RToksV.alloc hm _) HIN6.out) ((MA.out.alloc (.cells #[.string (bs x0.key.txt), .int .i64 x0.key.at_, .int .i64 x0.key.kind, .int .i64 x0.key.n, .slice Aa x0.a.length qa, .slice Ab x0.b.length qb] 101)).mono HB1.out) ((MB.out.alloc (.cells #[.string (bs x0.key.txt), .int .i64 x0.key.at_, .int .i64 x0.key.kind, .int .i64 x0.key.n, .slice Aa x0.a.length qa, .slice Ab x0.b.length qb] 101)).mono HB1.out) OW.out GR.out) (p := ⟨B, 4, none⟩) (Nat.lt_succ_self _) (.slice (some ⟨gg, 0, none⟩) (0 + 1) cap)
      have HPU := Lib.hid hpush; clear hpush
      go_wp2_with fail
      go_meet
      case rel => exact ⟨.slice (some ⟨gg, 0, none⟩) (0 + 1) cap, A7.out.far (p := ⟨B, 4, none⟩) hrB hgB _, blk_set B8.out 4 _, blk_far B9.out (p := ⟨B, 4, none⟩) hwB _, L7.out.setNew (p := ⟨B, 4, none⟩) (Nat.le_of_lt hlt0) _, by rw [← HX0.out]; exact HPU.out⟩
  case rest =>
    obtain ⟨v0, hp, b3, b2, l1, hr⟩ := hcut
    clear B2 L1 H1 B3 HV C1 HB1 c4 f4 HX0
    have B2 := Lib.hid b2; have L1 := Lib.hid l1; have H1 := Lib.hid hp; have B3 := Lib.hid b3
    obtain ⟨A0, q0, rfl⟩ : ∃ A q, v0 = .slice A ([] ++ [R4.1]).length q := by obtain ⟨cs, ho, _⟩ := hr; exact own_slice ho
    have HV := Lib.hid hr
    have lR4 := H1.out.lt
    clear b2 l1 hp b3 hr
    simp only [List.nil_append, List.length_singleton] at B3 HV
    go_upto_region 5 with (fail)
    obtain ⟨R5, eR5⟩ : ∃ t, t = Rp.one L Sp.kData R4.2 := ⟨_, rfl⟩
    have C1 := Lib.hid (rone_any r g q L R4.2 ⟨#[100, 97, 116, 97]⟩ wc.drew (H1.out.below ((Below.refl _ _).drew)) HL.out)
    rw [show Rp.one L (⟨#[100, 97, 116, 97]⟩ : ByteArray).data.toList R4.2 = R5 from eR5.symm] at C1
    have ER5 := Lib.hid eR5; clear eR5
    have c4 := blk_c B3.out 4; have f4 := blk_f B3.out 4; have HB1 : Hid (B + 1 ≤ wc.drew.heap.size) := Lib.hid (Nat.succ_le_of_lt (lt_of_block (w := wc.drew) B3.out))
    obtain ⟨x0, hx0⟩ : ∃ t, t = R5.1 := ⟨_, rfl⟩
    rw [← hx0] at C1
    have HX0 := Lib.hid hx0; clear hx0
    go_cut [] (fun wx => ∃ v0, PA wx r g q L R5.2 ∧ wx.heap[B]? = some (.cells #[.string (bs nm.txt), .int .i64 nm.at_, .int .i64 nm.kind, .int .i64 nm.n, v0] 77 (0, 0)) ∧ wx.heap[w.heap.size]? = some z77 ∧ Kp r w wx ∧ RLinesV (B + 1) ([R4.1] ++ [R5.1]) wx v0)
    case first =>
      obtain ⟨i0, hi, hz0, hz1, hz2⟩ := info_parts info101
      obtain ⟨csr, hor, hin⟩ := HV.out
      have HOR := Lib.hid hor; have HIN := Lib.hid hin.drew
      clear hor hin
      go_region_law (first | (go_simp; go_at_call 63; refine C1.out.mono ?_; rintro e w6 hh; obtain ⟨vv, rfl, ⟨va, vb, rfl, hma, hmb⟩, hp, hk⟩ := hh; obtain ⟨Aa, qa, rfl⟩ := own_slice hma; obtain ⟨Ab, qb, rfl⟩ := own_slice hmb; have b3 := hk.blk B3.out hBr; have b2 := hk.blk B2.out hne1; have k4 := blk_c b3 4; have g4 := blk_f b3 4; have k4a := blk_c (blk_old b3 (.cells #[.string (bs x0.key.txt), .int .i64 x0.key.at_, .int .i64 x0.key.kind, .int .i64 x0.key.n, .slice Aa x0.a.length qa, .slice Ab x0.b.length qb] 101)) 4; have l1 := L1.out.drew.trans hk; have L2 := Lib.hid l1; have B6 := Lib.hid b3; have B7 := Lib.hid b2; have MA := Lib.hid hma; have MB := Lib.hid hmb; have H2 := Lib.hid hp; have HO := Lib.hid (own_kp (show wc.drew.ownsRow _ _ _ _ _ _ from HOR.out) hk hrB1); have HIN6 := Lib.hid (RLinesIn.keep (fun m v hm => RToksV.kp hm hk hrB1) HIN.out); have HN := Lib.hid (World.news_of_block (heap_alloc_new w6 (.cells #[.string (bs x0.key.txt), .int .i64 x0.key.at_, .int .i64 x0.key.kind, .int .i64 x0.key.n, .slice Aa x0.a.length qa, .slice Ab x0.b.length qb] 101))); have HLT := Lib.hid (lt_of_block b3); have HBA : Hid (B < (w6.alloc (.cells #[.string (bs x0.key.txt), .int .i64 x0.key.at_, .int .i64 x0.key.kind, .int .i64 x0.key.n, .slice Aa x0.a.length qa, .slice Ab x0.b.length qb] 101)).heap.size) := Lib.hid (Nat.lt_trans (lt_of_block b3) (by rw [World.size_alloc]; exact Nat.lt_succ_self _)); have HWA : Hid (w.heap.size < (w6.alloc (.cells #[.string (bs x0.key.txt), .int .i64 x0.key.at_, .int .i64 x0.key.kind, .int .i64 x0.key.n, .slice Aa x0.a.length qa, .slice Ab x0.b.length qb] 101)).heap.size) := Lib.hid (Nat.lt_trans hlt0 HBA.out); clear b3 b2 l1 hk hma hmb hp) | (refine step_append_lies (w6.alloc (.cells #[.string (bs x0.key.txt), .int .i64 x0.key.at_, .int .i64 x0.key.kind, .int .i64 x0.key.n, .slice Aa x0.a.length qa, .slice Ab x0.b.length qb] 101)) rfl (.tmp 25) (.tmp 28) 75 rfl (B + 1) 101 i0 _ 6 88 Tryd.underlying75 hi hz0 hz1 hz2 rfl (by decide) (.slice A0 1 q0) 1 (csr) rfl (HO.out.alloc _) ⟨w6.heap.size, 0, none⟩ 1 1 [.string (bs x0.key.txt), .int .i64 x0.key.at_, .int .i64 x0.key.kind, .int .i64 x0.key.n, .slice Aa x0.a.length qa, .slice Ab x0.b.length qb] rfl rfl HN.out (by intro u hu; simp only [List.mem_cons, List.not_mem_nil, or_false] at hu; rcases hu with rfl | rfl | rfl | rfl | rfl | rfl <;> rfl) (by decide) (by unfold maxLen; omega) (by omega) HBA.out _ rfl ?_; intro gg cap w7 hown hgrow hgat hglt'; have HNB := (own_ne HO.out (b := B) (Nat.lt_succ_self _)).symm; have HNW := (own_ne HO.out (b := w.heap.size) (Nat.lt_succ_of_lt hlt0)).symm; have HNR := own_ne HO.out (b := r) hrB1; have HNG := own_ne HO.out (b := g) hgB1; have b3 := (hgrow.block B HBA.out HNB).trans (blk_old B6.out _); have b2 := (hgrow.block w.heap.size HWA.out HNW).trans (blk_old B7.out _); have k4' := blk_c b3 4; have g4' := blk_f b3 4; have l7 := (L2.out.alloc (.cells #[.string (bs x0.key.txt), .int .i64 x0.key.at_, .int .i64 x0.key.kind, .int .i64 x0.key.n, .slice Aa x0.a.length qa, .slice Ab x0.b.length qb] 101)).grown hgrow (own_ge HO.out (Nat.le_succ_of_le (Nat.le_of_lt hlt0))); have at7 := (H2.out.alloc (.cells #[.string (bs x0.key.txt), .int .i64 x0.key.at_, .int .i64 x0.key.kind, .int .i64 x0.key.n, .slice Aa x0.a.length qa, .slice Ab x0.b.length qb] 101)).grown hgrow HNR HNG; have L7 := Lib.hid l7; have A7 := Lib.hid at7; have B8 := Lib.hid b3; have B9 := Lib.hid b2; have OW := Lib.hid hown; have GR := Lib.hid hgrow; clear b3 b2 l7 at7 hown hgrow hgat hglt' HNB HNW HNR HNG))
      all_goals
        have hpush := RLinesV.far (RLinesV.push (x := x0) (HO.out.alloc (.cells #[.string (bs x0.key.txt), .int .i64 x0.key.at_, .int .i64 x0.key.kind, .int .i64 x0.key.n, .slice Aa x0.a.length qa, .slice Ab x0.b.length qb] 101)) (RLinesIn.keep (fun m v hm => RToksV.alloc hm _) HIN6.out) ((MA.out.alloc (.cells #[.string (bs x0.key.txt), .int .i64 x0.key.at_, .int .i64 x0.key.kind, .int .i64 x0.key.n, .slice Aa x0.a.length qa, .slice Ab x0.b.length qb] 101)).mono HB1.out) ((MB.out.alloc (.cells #[.string (bs x0.key.txt), .int .i64 x0.key.at_, .int .i64 x0.key.kind, .int .i64 x0.key.n, .slice Aa x0.a.length qa, .slice Ab x0.b.length qb] 101)).mono HB1.out) OW.out GR.out) (p := ⟨B, 4, none⟩) (Nat.lt_succ_self _) (.slice (some ⟨gg, 0, none⟩) (1 + 1) cap)
        have HPU := Lib.hid hpush; clear hpush
        go_wp2_with fail
        go_meet
        case rel => exact ⟨.slice (some ⟨gg, 0, none⟩) (1 + 1) cap, A7.out.far (p := ⟨B, 4, none⟩) hrB hgB _, blk_set B8.out 4 _, blk_far B9.out (p := ⟨B, 4, none⟩) hwB _, L7.out.setNew (p := ⟨B, 4, none⟩) (Nat.le_of_lt hlt0) _, by rw [← HX0.out]; exact HPU.out⟩
    case rest =>
      obtain ⟨v0, hp, b3, b2, l1, hr⟩ := hcut
      clear B2 L1 H1 B3 HV C1 HB1 c4 f4 HX0
      have B2 := Lib.hid b2; have L1 := Lib.hid l1; have H1 := Lib.hid hp; have B3 := Lib.hid b3
      obtain ⟨A0, q0, rfl⟩ : ∃ A q, v0 = .slice A ([R4.1] ++ [R5.1]).length q := by obtain ⟨cs, ho, _⟩ := hr; exact own_slice ho
      have HV := Lib.hid hr
      have lR5 := H1.out.lt
      clear b2 l1 hp b3 hr
      simp only [List.singleton_append, List.length_cons, List.length_nil, Nat.zero_add, Nat.reduceAdd] at B3 HV
      go_upto_block 0 with (fail)
      obtain ⟨RR, eRR⟩ : ∃ t, t = Rp.rows L (L.length + 1) true R5.2 [R4.1, R5.1] := ⟨_, rfl⟩
      have ERR := Lib.hid eRR; clear eRR
      have HBD : Hid (R5.2.bad = -1 ∨ 0 ≤ R5.2.bad) := Lib.hid (by
        have h3 : s3 = Rp.head L s := by unfold Rp.head; rw [← Es1.out, ← Es2.out]; exact Es3.out
        have b3' : s3.bad = -1 ∨ 0 ≤ s3.bad := by rw [h3]; exact head_bad HS.out
        have b4' : R4.2.bad = -1 ∨ 0 ≤ R4.2.bad := by rw [ER4.out]; exact one_bad' HL.out Rp.wField b3' ls3
        rw [ER5.out]; exact one_bad' HL.out Rp.wData b4' lR4)
      clear HS
      go_cut [] (fun wx => ∃ v0, PA wx r g q L RR.2 ∧ wx.heap[B]? = some (.cells #[.string (bs nm.txt), .int .i64 nm.at_, .int .i64 nm.kind, .int .i64 nm.n, v0] 77 (0, 0)) ∧ wx.heap[w.heap.size]? = some z77 ∧ Kp r w wx ∧ RLinesV (B + 1) RR.1 wx v0 ∧ RR.1.length ≤ 3010)
      case first =>
        go_wp2_with fail
        go_loopg [4] (L.length + 1) (fun k v4 wr => ∃ (l : List Rp.Line) (s' : Rp.St) (n : Nat) (v : Value), v4 = .int .i64 n ∧ RR = Rp.rows L k (decide (n = 0)) s' l ∧ (s'.bad = -1 ∨ 0 ≤ s'.bad) ∧ (s'.bad < 0 → L.length - s'.i < k) ∧ n + k = L.length + 1 ∧ l.length = n + 2 ∧ PA wr r g q L s' ∧ wr.heap[B]? = some (.cells #[.string (bs nm.txt), .int .i64 nm.at_, .int .i64 nm.kind, .int .i64 nm.n, v] 77 (0, 0)) ∧ wr.heap[w.heap.size]? = some z77 ∧ Kp r w wr ∧ RLinesV (B + 1) l wr v)
        case atStart => exact ⟨[R4.1, R5.1], R5.2, 0, _, rfl, ERR.out, HBD.out, by intro _; omega, by omega, rfl, H1.out, B3.out, B2.out, L1.out, HV.out⟩
        case round =>
          obtain ⟨l, s', n, v, rfl, hRR, hbd, hms, hnk, hln, hp, b3, b2, l1, hr⟩ := hrel
          clear H1 B3 B2 L1 HV ERR HBD
          obtain ⟨Av, qv, rfl⟩ : ∃ A q, v = .slice A l.length q := by obtain ⟨cs, ho, _⟩ := hr; exact own_slice ho
          have hsl := hp.lt
          have hlb : l.length ≤ 3010 := by omega
          have hnb : n ≤ 3001 := by omega
          have F1 := Lib.hid hRR; have F2 := Lib.hid hbd; have F3 := Lib.hid hms; have F4 := Lib.hid hnk; have F5 := Lib.hid hln
          have u2 : wr.cell? ⟨r, 2, none⟩ = some (.int .i64 s'.bad) := blk_c hp.box 2
          have H1 := Lib.hid hp; have B3 := Lib.hid b3; have B2 := Lib.hid b2; have L1 := Lib.hid l1; have HV := Lib.hid hr
          have hp1 := Rp.isT_iff HL.out Rp.wParity (i := s'.i) (b := s'.bad)
          have hp2 := Rp.isT_iff HL.out Rp.wLocal (i := s'.i) (b := s'.bad)
          have HEX : Hid (Rp.goes L (decide (n = 0)) s' = false → RR = (l, s')) := Lib.hid (fun hg => by rw [F1.out]; cases gk <;> simp [Rp.rows, hg])
          have HGO : Hid (Rp.goes L (decide (n = 0)) s' = true → ∃ k', gk = k' + 1 ∧ RR = Rp.rows L k' false (Rp.row L s').2 (l ++ [(Rp.row L s').1])) := Lib.hid (fun hg => by
            have hb : s'.bad < 0 := by
              simp only [Rp.goes, Bool.and_eq_true, decide_eq_true_eq] at hg; exact hg.1
            have := F3.out hb
            obtain ⟨k', rfl⟩ : ∃ k', gk = k' + 1 := ⟨gk - 1, by omega⟩
            exact ⟨k', rfl, by rw [F1.out]; simp only [Rp.rows]; rw [if_pos hg]⟩)
          have hcase : (decide (s'.bad < 0) = false ∧ Rp.goes L (decide (n = 0)) s' = false) ∨
              (decide (s'.bad < 0) = true ∧ ((n : Int) == 0) = true ∧ Rp.goes L (decide (n = 0)) s' = true ∧ Rp.isT L Sp.kLocal s' = true) ∨
              (decide (s'.bad < 0) = true ∧ ((n : Int) == 0) = true ∧ Rp.goes L (decide (n = 0)) s' = true ∧ Rp.isT L Sp.kLocal s' = false) ∨
              (decide (s'.bad < 0) = true ∧ ((n : Int) == 0) = false ∧ Rp.isT L Sp.kParity s' = true ∧ Rp.goes L (decide (n = 0)) s' = true ∧ Rp.isT L Sp.kLocal s' = false) ∨
              (decide (s'.bad < 0) = true ∧ ((n : Int) == 0) = false ∧ Rp.isT L Sp.kParity s' = false ∧ Rp.isT L Sp.kLocal s' = true ∧ Rp.goes L (decide (n = 0)) s' = true) ∨
              (decide (s'.bad < 0) = true ∧ ((n : Int) == 0) = false ∧ Rp.isT L Sp.kParity s' = false ∧ Rp.isT L Sp.kLocal s' = false ∧ Rp.goes L (decide (n = 0)) s' = false) := by
            have en : ((n : Int) == 0) = decide (n = 0) := by
              by_cases k : n = 0
              · simp [k]
              · simp only [k, decide_false, beq_eq_false_iff_ne]; omega
            rw [en]
            unfold Rp.goes
            rcases hb : decide (s'.bad < 0) with _ | _
            · left; simp
            · right
              have hb' : s'.bad < 0 := of_decide_eq_true hb
              rcases h0 : decide (n = 0) with _ | _
              · right; right
                rcases hP : Rp.isT L Sp.kParity s' with _ | _
                · right
                  rcases hQ : Rp.isT L Sp.kLocal s' with _ | _
                  · right; simp
                  · left; simp
                · left
                  refine ⟨rfl, rfl, rfl, by simp, ?_⟩
                  rcases hQ : Rp.isT L Sp.kLocal s' with _ | _
                  · rfl
                  · have x1 := (hp1 hb' hsl).1 hP
                    have x2 := (hp2 hb' hsl).1 hQ
                    rw [x1] at x2
                    exact absurd x2 (by decide)
              · rcases hQ : Rp.isT L Sp.kLocal s' with _ | _
                · right; left; simp
                · left; simp
          have HCA := Lib.hid hcase
          clear hRR hbd hms hp b3 b2 l1 hr hp1 hp2 hcase hnk hln
          rcases HCA.out with ⟨c1, cg⟩ | ⟨c1, c2, cg, cl⟩ | ⟨c1, c2, cg, cl⟩ | ⟨c1, c2, cp, cg, cl⟩ | ⟨c1, c2, cp, cl, cg⟩ | ⟨c1, c2, cp, cl, cg⟩
          · have CG := Lib.hid cg; clear cg
            go_wp2_with fail
            go_meet
            case rel => rw [(HEX.out CG.out)]; exact ⟨_, H1.out, B3.out, B2.out, L1.out, HV.out, hlb⟩
          · have CG := Lib.hid cg; clear cg; have CL := Lib.hid cl; clear cl
            go_wp2_with fail
            go_wp2_with fail
            refine (ris_any r g q L s' ⟨#[108, 111, 99, 97, 108]⟩ _ H1.out).mono ?_
            rintro e w30 ⟨rfl, hb⟩
            rw [show Rp.isT L (⟨#[108, 111, 99, 97, 108]⟩ : ByteArray).data.toList s' = true from CL.out]
            have hp := H1.out.below hb; have b3 := (hb.block B (lt_of_block B3.out)).trans B3.out; have b2 := (hb.block w.heap.size (lt_of_block B2.out)).trans B2.out; have l1 := L1.out.below hb; have hr := HV.out.below hb
            clear H1 B3 B2 L1 HV hb
            have H1 := Lib.hid hp; have B3 := Lib.hid b3; have B2 := Lib.hid b2; have L1 := Lib.hid l1; have HV := Lib.hid hr
            clear hp b3 b2 l1 hr
            go_wp2_with fail
            refine (rmust_any r g q L s' ⟨#[108, 111, 99, 97, 108]⟩ _ H1.out HL.out).mono ?_
            rintro e w31 ⟨rfl, hp, hk⟩
            obtain ⟨m1, em1⟩ : ∃ t, t = Rp.must L Sp.kLocal s' := ⟨_, rfl⟩
            rw [show Rp.must L (⟨#[108, 111, 99, 97, 108]⟩ : ByteArray).data.toList s' = m1 from em1.symm] at hp
            have Em1 := Lib.hid em1; clear em1
            have b2 := hk.blk B2.out hne1; have l1 := L1.out.trans hk; have b3 := hk.blk B3.out hBr; have hr := HV.out.kp hk hrB1
            clear B2 L1 H1 B3 HV 
            have B2 := Lib.hid b2; have L1 := Lib.hid l1; have H1 := Lib.hid hp; have B3 := Lib.hid b3; have HV := Lib.hid hr
            clear b2 l1 hp hk b3 hr 
            obtain ⟨tt, htt⟩ : ∃ t, t = Rp.tk L s'.i := ⟨_, rfl⟩
            rw [← htt]
            have HTT := Lib.hid htt; clear htt
            unfold rtokV
            have hTr : w31.heap.size ≠ r := by have := lt_of_block H1.out.box; omega
            have hTw : B < w31.heap.size := lt_of_block B3.out
            have bt := heap_alloc_new w31 (.cells (rtokC tt).toArray 46)
            have hp := H1.out.alloc (.cells (rtokC tt).toArray 46); have b3 := blk_old B3.out (.cells (rtokC tt).toArray 46); have b2 := blk_old B2.out (.cells (rtokC tt).toArray 46); have l1 := L1.out.alloc (.cells (rtokC tt).toArray 46); have hr := HV.out.alloc (.cells (rtokC tt).toArray 46)
            clear H1 B3 B2 L1 HV
            have H1 := Lib.hid hp; have B3 := Lib.hid b3; have B2 := Lib.hid b2; have L1 := Lib.hid l1; have HV := Lib.hid hr; have BT := Lib.hid bt
            clear hp b3 b2 l1 hr bt
            go_wp2_with fail
            try change Calls _ _ _ (w31.alloc (.cells (rtokC tt).toArray 46)) _
            generalize w31.alloc (.cells (rtokC tt).toArray 46) = W31 at *
            generalize w31.heap.size = T at *
            have hbz := lt_of_block B3.out
            refine (rnums_any r g q L m1 _ H1.out HL.out).mono ?_
            rintro e w32 ⟨v32, rfl, ht, hp, hk⟩
            obtain ⟨N1, eN1⟩ : ∃ t, t = Rp.nums L m1 := ⟨_, rfl⟩
            rw [← eN1] at hp ht
            have EN1 := Lib.hid eN1; clear eN1
            obtain ⟨AMA, qMA, rfl⟩ := own_slice ht
            have ht := RToksV.mono (base' := B + 1) ht (Nat.succ_le_of_lt hbz)
            clear hbz
            have b2 := hk.blk B2.out hne1; have l1 := L1.out.trans hk; have b3 := hk.blk B3.out hBr; have hr := HV.out.kp hk hrB1; have bt := hk.blk BT.out hTr
            clear B2 L1 H1 B3 HV BT 
            have B2 := Lib.hid b2; have L1 := Lib.hid l1; have H1 := Lib.hid hp; have B3 := Lib.hid b3; have HV := Lib.hid hr; have BT := Lib.hid bt
            clear b2 l1 hp hk b3 hr bt 
            have MA : Hid (RToksV (B + 1) N1.1 w32 (.slice AMA N1.1.length qMA)) := Lib.hid ht; clear ht
            go_wp2_with fail
            refine (rmust_any r g q L N1.2 ⟨#[58]⟩ _ H1.out HL.out).mono ?_
            rintro e w33 ⟨rfl, hp, hk⟩
            obtain ⟨m2, em2⟩ : ∃ t, t = Rp.must L Sp.kColon N1.2 := ⟨_, rfl⟩
            rw [show Rp.must L (⟨#[58]⟩ : ByteArray).data.toList N1.2 = m2 from em2.symm] at hp
            have Em2 := Lib.hid em2; clear em2
            have b2 := hk.blk B2.out hne1; have l1 := L1.out.trans hk; have b3 := hk.blk B3.out hBr; have hr := HV.out.kp hk hrB1; have bt := hk.blk BT.out hTr; have ma := MA.out.kp hk hrB1
            clear B2 L1 H1 B3 HV BT MA
            have B2 := Lib.hid b2; have L1 := Lib.hid l1; have H1 := Lib.hid hp; have B3 := Lib.hid b3; have HV := Lib.hid hr; have BT := Lib.hid bt; have MA := Lib.hid ma
            clear b2 l1 hp hk b3 hr bt ma
            unfold rtokV
            go_wp2_with fail
            have hbz := lt_of_block B3.out
            refine (rnums_any r g q L m2 _ H1.out HL.out).mono ?_
            rintro e w34 ⟨v34, rfl, ht, hp, hk⟩
            obtain ⟨N2, eN2⟩ : ∃ t, t = Rp.nums L m2 := ⟨_, rfl⟩
            rw [← eN2] at hp ht
            have EN2 := Lib.hid eN2; clear eN2
            obtain ⟨AMB, qMB, rfl⟩ := own_slice ht
            have ht := RToksV.mono (base' := B + 1) ht (Nat.succ_le_of_lt hbz)
            clear hbz
            have b2 := hk.blk B2.out hne1; have l1 := L1.out.trans hk; have b3 := hk.blk B3.out hBr; have hr := HV.out.kp hk hrB1; have bt := hk.blk BT.out hTr; have ma := MA.out.kp hk hrB1
            clear B2 L1 H1 B3 HV BT MA
            have B2 := Lib.hid b2; have L1 := Lib.hid l1; have H1 := Lib.hid hp; have B3 := Lib.hid b3; have HV := Lib.hid hr; have BT := Lib.hid bt; have MA := Lib.hid ma
            clear b2 l1 hp hk b3 hr bt ma
            have MB : Hid (RToksV (B + 1) N2.1 w34 (.slice AMB N2.1.length qMB)) := Lib.hid ht; clear ht
            obtain ⟨csr, hor, hin⟩ := HV.out
            have HO := Lib.hid hor; have HIN := Lib.hid hin
            clear hor hin
            obtain ⟨i0, hi, hz0, hz1, hz2⟩ := info_parts info101
            have c4 := blk_c B3.out 4; have f4 := blk_f B3.out 4
            have t0 : w34.cell? ⟨T, 0, none⟩ = some (.string (bs tt.txt)) := blk_c BT.out 0
            have t1 : w34.cell? ⟨T, 1, none⟩ = some (.int .i64 tt.at_) := blk_c BT.out 1
            have t2 : w34.cell? ⟨T, 2, none⟩ = some (.int .i64 tt.kind) := blk_c BT.out 2
            have t3 : w34.cell? ⟨T, 3, none⟩ = some (.int .i64 tt.n) := blk_c BT.out 3
            have HBA : Hid (B < (w34.alloc (.cells #[.string (bs tt.txt), .int .i64 tt.at_, .int .i64 tt.kind, .int .i64 tt.n, .slice AMA N1.1.length qMA, .slice AMB N2.1.length qMB] 101)).heap.size) := Lib.hid (Nat.lt_trans (lt_of_block B3.out) (by rw [World.size_alloc]; exact Nat.lt_succ_self _))
            have HWA : Hid (w.heap.size < (w34.alloc (.cells #[.string (bs tt.txt), .int .i64 tt.at_, .int .i64 tt.kind, .int .i64 tt.n, .slice AMA N1.1.length qMA, .slice AMB N2.1.length qMB] 101)).heap.size) := Lib.hid (Nat.lt_trans hlt0 HBA.out)
            go_wp2_with (first | (at_builtin; refine wpList_append_own_at (w34.alloc (.cells #[.string (bs tt.txt), .int .i64 tt.at_, .int .i64 tt.kind, .int .i64 tt.n, .slice AMA N1.1.length qMA, .slice AMB N2.1.length qMB] 101)) rfl _ _ 75 rfl (B + 1) 101 i0 _ 6 88 Tryd.underlying75 hi hz0 hz1 hz2 rfl (by decide) _ l.length csr rfl (HO.out.alloc _) ⟨w34.heap.size, 0, none⟩ 1 1 [.string (bs tt.txt), .int .i64 tt.at_, .int .i64 tt.kind, .int .i64 tt.n, .slice AMA N1.1.length qMA, .slice AMB N2.1.length qMB] rfl rfl ?c1 ?c2 ?c3 ?c4 ?c5 ?_))
            case c1 => exact World.news_of_block (heap_alloc_new w34 (.cells #[.string (bs tt.txt), .int .i64 tt.at_, .int .i64 tt.kind, .int .i64 tt.n, .slice AMA N1.1.length qMA, .slice AMB N2.1.length qMB] 101))
            case c2 => intro u hu; simp only [List.mem_cons, List.not_mem_nil, or_false] at hu; rcases hu with rfl | rfl | rfl | rfl | rfl | rfl <;> rfl
            case c3 => unfold maxLen; omega
            case c4 => omega
            case c5 => exact HBA.out
            intro v' w35 hown hgrow _ _
            obtain ⟨A', q', rfl⟩ := own_slice hown
            have hnb := (own_ne HO.out (b := B) (Nat.lt_succ_self _)).symm; have hnw := (own_ne HO.out (b := w.heap.size) (Nat.lt_succ_of_lt hlt0)).symm; have hnr := own_ne HO.out (b := r) hrB1; have hng := own_ne HO.out (b := g) hgB1
            have b3 := (hgrow.block B HBA.out hnb).trans (blk_old B3.out (.cells #[.string (bs tt.txt), .int .i64 tt.at_, .int .i64 tt.kind, .int .i64 tt.n, .slice AMA N1.1.length qMA, .slice AMB N2.1.length qMB] 101)); have b2 := (hgrow.block w.heap.size HWA.out hnw).trans (blk_old B2.out (.cells #[.string (bs tt.txt), .int .i64 tt.at_, .int .i64 tt.kind, .int .i64 tt.n, .slice AMA N1.1.length qMA, .slice AMB N2.1.length qMB] 101)); have l1 := (L1.out.alloc (.cells #[.string (bs tt.txt), .int .i64 tt.at_, .int .i64 tt.kind, .int .i64 tt.n, .slice AMA N1.1.length qMA, .slice AMB N2.1.length qMB] 101)).grown hgrow (own_ge HO.out (Nat.le_succ_of_le (Nat.le_of_lt hlt0))); have hp := (H1.out.alloc (.cells #[.string (bs tt.txt), .int .i64 tt.at_, .int .i64 tt.kind, .int .i64 tt.n, .slice AMA N1.1.length qMA, .slice AMB N2.1.length qMB] 101)).grown hgrow hnr hng
            have hr := RLinesV.push (x := ⟨tt, N1.1, N2.1⟩) (HO.out.alloc (.cells #[.string (bs tt.txt), .int .i64 tt.at_, .int .i64 tt.kind, .int .i64 tt.n, .slice AMA N1.1.length qMA, .slice AMB N2.1.length qMB] 101)) (RLinesIn.keep (fun m v hm => RToksV.alloc hm _) HIN.out) (RToksV.alloc MA.out (.cells #[.string (bs tt.txt), .int .i64 tt.at_, .int .i64 tt.kind, .int .i64 tt.n, .slice AMA N1.1.length qMA, .slice AMB N2.1.length qMB] 101)) (RToksV.alloc MB.out (.cells #[.string (bs tt.txt), .int .i64 tt.at_, .int .i64 tt.kind, .int .i64 tt.n, .slice AMA N1.1.length qMA, .slice AMB N2.1.length qMB] 101)) hown hgrow
            clear H1 B3 B2 L1 HV BT HO HIN c4 f4 t0 t1 t2 t3 HBA HWA hown hgrow hnb hnw hnr hng
            have c4' := blk_c b3 4; have f4' := blk_f b3 4
            have H1 := Lib.hid hp; have B3 := Lib.hid b3; have B2 := Lib.hid b2; have L1 := Lib.hid l1; have HV := Lib.hid hr
            clear hp b3 b2 l1 hr
            go_wp2_with fail
            have hp := H1.out.far (p := ⟨B, 4, none⟩) hrB hgB (.slice A' (l.length + 1) q'); have b3 := blk_set B3.out 4 (.slice A' (l.length + 1) q'); have b2 := blk_far B2.out (p := ⟨B, 4, none⟩) hwB (.slice A' (l.length + 1) q'); have l1 := L1.out.setNew (p := ⟨B, 4, none⟩) (Nat.le_of_lt hlt0) (.slice A' (l.length + 1) q'); have hr := HV.out.far (p := ⟨B, 4, none⟩) (Nat.lt_succ_self _) (.slice A' (l.length + 1) q')
            clear H1 B3 B2 L1 HV c4' f4'
            have H1 := Lib.hid hp; have B3 := Lib.hid b3; have B2 := Lib.hid b2; have L1 := Lib.hid l1; have HV := Lib.hid hr
            clear hp b3 b2 l1 hr
            generalize w35.setCell ⟨B, 4, none⟩ (.slice A' (l.length + 1) q') = W35 at *
            refine (rmust_any r g q L N2.2 ⟨#[59]⟩ _ H1.out HL.out).mono ?_
            rintro e w36 ⟨rfl, hp, hk⟩
            obtain ⟨m3, em3⟩ : ∃ t, t = Rp.must L Sp.kSemi N2.2 := ⟨_, rfl⟩
            rw [show Rp.must L (⟨#[59]⟩ : ByteArray).data.toList N2.2 = m3 from em3.symm] at hp
            have Em3 := Lib.hid em3; clear em3
            have b2 := hk.blk B2.out hne1; have l1 := L1.out.trans hk; have b3 := hk.blk B3.out hBr; have hr := HV.out.kp hk hrB1
            clear B2 L1 H1 B3 HV 
            have B2 := Lib.hid b2; have L1 := Lib.hid l1; have H1 := Lib.hid hp; have B3 := Lib.hid b3; have HV := Lib.hid hr
            clear b2 l1 hp hk b3 hr 
            unfold rtokV
            obtain ⟨k', hk', hRR'⟩ := HGO.out CG.out
            have hrow : Rp.row L s' = (⟨tt, N1.1, N2.1⟩, m3) := by
              unfold Rp.row
              rw [if_pos CL.out, ← Em1.out, ← EN1.out, ← Em2.out, ← EN2.out, ← Em3.out, ← HTT.out]
            have hbl : s'.bad < 0 := of_decide_eq_true c1
            have hs1 : s'.bad = -1 := by rcases F2.out with e | e <;> omega
            have hnx := row_next HL.out hsl
            rw [← st_eta s' hs1, hrow] at hnx
            rw [hrow] at hRR'
            dsimp only at hnx hRR'
            have G1 := Lib.hid hRR'; have G2 := Lib.hid hnx; have G3 := Lib.hid hk'
            clear hRR' hnx hk' hrow
            go_wp2_with fail
            go_roundg k'
            case measure => rw [G3.out]; omega
            case rel =>
              have h1 := G3.out; have h2 := G2.out; have h3 := F3.out hbl; have h4 := F4.out; have h5 := F5.out
              refine ⟨_, m3, n + 1, _, by go_num, ?_, ?_, ?_, by omega, by rw [List.length_append, List.length_singleton]; omega, H1.out, B3.out, B2.out, L1.out, HV.out⟩
              · rw [G1.out]; simp
              · rcases h2 with e | e
                · right; exact e
                · left; exact e.1
              · intro hlt; rcases h2 with e | e <;> omega
          · have CG := Lib.hid cg; clear cg; have CL := Lib.hid cl; clear cl
            go_wp2_with fail
            go_wp2_with fail
            refine (ris_any r g q L s' ⟨#[108, 111, 99, 97, 108]⟩ _ H1.out).mono ?_
            rintro e w30 ⟨rfl, hb⟩
            rw [show Rp.isT L (⟨#[108, 111, 99, 97, 108]⟩ : ByteArray).data.toList s' = false from CL.out]
            have hp := H1.out.below hb; have b3 := (hb.block B (lt_of_block B3.out)).trans B3.out; have b2 := (hb.block w.heap.size (lt_of_block B2.out)).trans B2.out; have l1 := L1.out.below hb; have hr := HV.out.below hb
            clear H1 B3 B2 L1 HV hb
            have H1 := Lib.hid hp; have B3 := Lib.hid b3; have B2 := Lib.hid b2; have L1 := Lib.hid l1; have HV := Lib.hid hr
            clear hp b3 b2 l1 hr
            go_wp2_with fail
            refine (rmust_any r g q L s' ⟨#[112, 97, 114, 105, 116, 121]⟩ _ H1.out HL.out).mono ?_
            rintro e w31 ⟨rfl, hp, hk⟩
            obtain ⟨m1, em1⟩ : ∃ t, t = Rp.must L Sp.kParity s' := ⟨_, rfl⟩
            rw [show Rp.must L (⟨#[112, 97, 114, 105, 116, 121]⟩ : ByteArray).data.toList s' = m1 from em1.symm] at hp
            have Em1 := Lib.hid em1; clear em1
            have b2 := hk.blk B2.out hne1; have l1 := L1.out.trans hk; have b3 := hk.blk B3.out hBr; have hr := HV.out.kp hk hrB1
            clear B2 L1 H1 B3 HV 
            have B2 := Lib.hid b2; have L1 := Lib.hid l1; have H1 := Lib.hid hp; have B3 := Lib.hid b3; have HV := Lib.hid hr
            clear b2 l1 hp hk b3 hr 
            obtain ⟨tt, htt⟩ : ∃ t, t = Rp.tk L s'.i := ⟨_, rfl⟩
            rw [← htt]
            have HTT := Lib.hid htt; clear htt
            unfold rtokV
            have hTr : w31.heap.size ≠ r := by have := lt_of_block H1.out.box; omega
            have hTw : B < w31.heap.size := lt_of_block B3.out
            have bt := heap_alloc_new w31 (.cells (rtokC tt).toArray 46)
            have hp := H1.out.alloc (.cells (rtokC tt).toArray 46); have b3 := blk_old B3.out (.cells (rtokC tt).toArray 46); have b2 := blk_old B2.out (.cells (rtokC tt).toArray 46); have l1 := L1.out.alloc (.cells (rtokC tt).toArray 46); have hr := HV.out.alloc (.cells (rtokC tt).toArray 46)
            clear H1 B3 B2 L1 HV
            have H1 := Lib.hid hp; have B3 := Lib.hid b3; have B2 := Lib.hid b2; have L1 := Lib.hid l1; have HV := Lib.hid hr; have BT := Lib.hid bt
            clear hp b3 b2 l1 hr bt
            go_wp2_with fail
            try change Calls _ _ _ (w31.alloc (.cells (rtokC tt).toArray 46)) _
            generalize w31.alloc (.cells (rtokC tt).toArray 46) = W31 at *
            generalize w31.heap.size = T at *
            have hbz := lt_of_block B3.out
            refine (rnums_any r g q L m1 _ H1.out HL.out).mono ?_
            rintro e w32 ⟨v32, rfl, ht, hp, hk⟩
            obtain ⟨N1, eN1⟩ : ∃ t, t = Rp.nums L m1 := ⟨_, rfl⟩
            rw [← eN1] at hp ht
            have EN1 := Lib.hid eN1; clear eN1
            obtain ⟨AMA, qMA, rfl⟩ := own_slice ht
            have ht := RToksV.mono (base' := B + 1) ht (Nat.succ_le_of_lt hbz)
            clear hbz
            have b2 := hk.blk B2.out hne1; have l1 := L1.out.trans hk; have b3 := hk.blk B3.out hBr; have hr := HV.out.kp hk hrB1; have bt := hk.blk BT.out hTr
            clear B2 L1 H1 B3 HV BT 
            have B2 := Lib.hid b2; have L1 := Lib.hid l1; have H1 := Lib.hid hp; have B3 := Lib.hid b3; have HV := Lib.hid hr; have BT := Lib.hid bt
            clear b2 l1 hp hk b3 hr bt 
            have MA : Hid (RToksV (B + 1) N1.1 w32 (.slice AMA N1.1.length qMA)) := Lib.hid ht; clear ht
            obtain ⟨csr, hor, hin⟩ := HV.out
            have HO := Lib.hid hor; have HIN := Lib.hid hin
            clear hor hin
            obtain ⟨i0, hi, hz0, hz1, hz2⟩ := info_parts info101
            have c4 := blk_c B3.out 4; have f4 := blk_f B3.out 4
            have t0 : w32.cell? ⟨T, 0, none⟩ = some (.string (bs tt.txt)) := blk_c BT.out 0
            have t1 : w32.cell? ⟨T, 1, none⟩ = some (.int .i64 tt.at_) := blk_c BT.out 1
            have t2 : w32.cell? ⟨T, 2, none⟩ = some (.int .i64 tt.kind) := blk_c BT.out 2
            have t3 : w32.cell? ⟨T, 3, none⟩ = some (.int .i64 tt.n) := blk_c BT.out 3
            have HBA : Hid (B < (w32.alloc (.cells #[.string (bs tt.txt), .int .i64 tt.at_, .int .i64 tt.kind, .int .i64 tt.n, .slice AMA N1.1.length qMA, .slice none 0 0] 101)).heap.size) := Lib.hid (Nat.lt_trans (lt_of_block B3.out) (by rw [World.size_alloc]; exact Nat.lt_succ_self _))
            have HWA : Hid (w.heap.size < (w32.alloc (.cells #[.string (bs tt.txt), .int .i64 tt.at_, .int .i64 tt.kind, .int .i64 tt.n, .slice AMA N1.1.length qMA, .slice none 0 0] 101)).heap.size) := Lib.hid (Nat.lt_trans hlt0 HBA.out)
            go_wp2_with (first | (at_builtin; refine wpList_append_own_at (w32.alloc (.cells #[.string (bs tt.txt), .int .i64 tt.at_, .int .i64 tt.kind, .int .i64 tt.n, .slice AMA N1.1.length qMA, .slice none 0 0] 101)) rfl _ _ 75 rfl (B + 1) 101 i0 _ 6 88 Tryd.underlying75 hi hz0 hz1 hz2 rfl (by decide) _ l.length csr rfl (HO.out.alloc _) ⟨w32.heap.size, 0, none⟩ 1 1 [.string (bs tt.txt), .int .i64 tt.at_, .int .i64 tt.kind, .int .i64 tt.n, .slice AMA N1.1.length qMA, .slice none 0 0] rfl rfl ?c1 ?c2 ?c3 ?c4 ?c5 ?_))
            case c1 => exact World.news_of_block (heap_alloc_new w32 (.cells #[.string (bs tt.txt), .int .i64 tt.at_, .int .i64 tt.kind, .int .i64 tt.n, .slice AMA N1.1.length qMA, .slice none 0 0] 101))
            case c2 => intro u hu; simp only [List.mem_cons, List.not_mem_nil, or_false] at hu; rcases hu with rfl | rfl | rfl | rfl | rfl | rfl <;> rfl
            case c3 => unfold maxLen; omega
            case c4 => omega
            case c5 => exact HBA.out
            intro v' w35 hown hgrow _ _
            obtain ⟨A', q', rfl⟩ := own_slice hown
            have hnb := (own_ne HO.out (b := B) (Nat.lt_succ_self _)).symm; have hnw := (own_ne HO.out (b := w.heap.size) (Nat.lt_succ_of_lt hlt0)).symm; have hnr := own_ne HO.out (b := r) hrB1; have hng := own_ne HO.out (b := g) hgB1
            have b3 := (hgrow.block B HBA.out hnb).trans (blk_old B3.out (.cells #[.string (bs tt.txt), .int .i64 tt.at_, .int .i64 tt.kind, .int .i64 tt.n, .slice AMA N1.1.length qMA, .slice none 0 0] 101)); have b2 := (hgrow.block w.heap.size HWA.out hnw).trans (blk_old B2.out (.cells #[.string (bs tt.txt), .int .i64 tt.at_, .int .i64 tt.kind, .int .i64 tt.n, .slice AMA N1.1.length qMA, .slice none 0 0] 101)); have l1 := (L1.out.alloc (.cells #[.string (bs tt.txt), .int .i64 tt.at_, .int .i64 tt.kind, .int .i64 tt.n, .slice AMA N1.1.length qMA, .slice none 0 0] 101)).grown hgrow (own_ge HO.out (Nat.le_succ_of_le (Nat.le_of_lt hlt0))); have hp := (H1.out.alloc (.cells #[.string (bs tt.txt), .int .i64 tt.at_, .int .i64 tt.kind, .int .i64 tt.n, .slice AMA N1.1.length qMA, .slice none 0 0] 101)).grown hgrow hnr hng
            have hr := RLinesV.push (x := ⟨tt, N1.1, []⟩) (HO.out.alloc (.cells #[.string (bs tt.txt), .int .i64 tt.at_, .int .i64 tt.kind, .int .i64 tt.n, .slice AMA N1.1.length qMA, .slice none 0 0] 101)) (RLinesIn.keep (fun m v hm => RToksV.alloc hm _) HIN.out) (RToksV.alloc MA.out (.cells #[.string (bs tt.txt), .int .i64 tt.at_, .int .i64 tt.kind, .int .i64 tt.n, .slice AMA N1.1.length qMA, .slice none 0 0] 101)) (RToksV.alloc (RToksV.nil (B + 1) _) (.cells #[.string (bs tt.txt), .int .i64 tt.at_, .int .i64 tt.kind, .int .i64 tt.n, .slice AMA N1.1.length qMA, .slice none 0 0] 101)) hown hgrow
            clear H1 B3 B2 L1 HV BT HO HIN c4 f4 t0 t1 t2 t3 HBA HWA hown hgrow hnb hnw hnr hng
            have c4' := blk_c b3 4; have f4' := blk_f b3 4
            have H1 := Lib.hid hp; have B3 := Lib.hid b3; have B2 := Lib.hid b2; have L1 := Lib.hid l1; have HV := Lib.hid hr
            clear hp b3 b2 l1 hr
            go_wp2_with fail
            have hp := H1.out.far (p := ⟨B, 4, none⟩) hrB hgB (.slice A' (l.length + 1) q'); have b3 := blk_set B3.out 4 (.slice A' (l.length + 1) q'); have b2 := blk_far B2.out (p := ⟨B, 4, none⟩) hwB (.slice A' (l.length + 1) q'); have l1 := L1.out.setNew (p := ⟨B, 4, none⟩) (Nat.le_of_lt hlt0) (.slice A' (l.length + 1) q'); have hr := HV.out.far (p := ⟨B, 4, none⟩) (Nat.lt_succ_self _) (.slice A' (l.length + 1) q')
            clear H1 B3 B2 L1 HV c4' f4'
            have H1 := Lib.hid hp; have B3 := Lib.hid b3; have B2 := Lib.hid b2; have L1 := Lib.hid l1; have HV := Lib.hid hr
            clear hp b3 b2 l1 hr
            generalize w35.setCell ⟨B, 4, none⟩ (.slice A' (l.length + 1) q') = W35 at *
            refine (rmust_any r g q L N1.2 ⟨#[59]⟩ _ H1.out HL.out).mono ?_
            rintro e w36 ⟨rfl, hp, hk⟩
            obtain ⟨m3, em3⟩ : ∃ t, t = Rp.must L Sp.kSemi N1.2 := ⟨_, rfl⟩
            rw [show Rp.must L (⟨#[59]⟩ : ByteArray).data.toList N1.2 = m3 from em3.symm] at hp
            have Em3 := Lib.hid em3; clear em3
            have b2 := hk.blk B2.out hne1; have l1 := L1.out.trans hk; have b3 := hk.blk B3.out hBr; have hr := HV.out.kp hk hrB1
            clear B2 L1 H1 B3 HV 
            have B2 := Lib.hid b2; have L1 := Lib.hid l1; have H1 := Lib.hid hp; have B3 := Lib.hid b3; have HV := Lib.hid hr
            clear b2 l1 hp hk b3 hr 
            unfold rtokV
            obtain ⟨k', hk', hRR'⟩ := HGO.out CG.out
            have hrow : Rp.row L s' = (⟨tt, N1.1, []⟩, m3) := by
              unfold Rp.row
              rw [if_neg (by rw [CL.out]; decide), ← Em1.out, ← EN1.out, ← Em3.out, ← HTT.out]
            have hbl : s'.bad < 0 := of_decide_eq_true c1
            have hs1 : s'.bad = -1 := by rcases F2.out with e | e <;> omega
            have hnx := row_next HL.out hsl
            rw [← st_eta s' hs1, hrow] at hnx
            rw [hrow] at hRR'
            dsimp only at hnx hRR'
            have G1 := Lib.hid hRR'; have G2 := Lib.hid hnx; have G3 := Lib.hid hk'
            clear hRR' hnx hk' hrow
            go_wp2_with fail
            go_roundg k'
            case measure => rw [G3.out]; omega
            case rel =>
              have h1 := G3.out; have h2 := G2.out; have h3 := F3.out hbl; have h4 := F4.out; have h5 := F5.out
              refine ⟨_, m3, n + 1, _, by go_num, ?_, ?_, ?_, by omega, by rw [List.length_append, List.length_singleton]; omega, H1.out, B3.out, B2.out, L1.out, HV.out⟩
              · rw [G1.out]; simp
              · rcases h2 with e | e
                · right; exact e
                · left; exact e.1
              · intro hlt; rcases h2 with e | e <;> omega
          · have CG := Lib.hid cg; clear cg; have CL := Lib.hid cl; clear cl; have CP := Lib.hid cp; clear cp
            go_wp2_with fail
            refine (ris_any r g q L s' ⟨#[112, 97, 114, 105, 116, 121]⟩ _ H1.out).mono ?_
            rintro e w20 ⟨rfl, hb⟩
            rw [show Rp.isT L (⟨#[112, 97, 114, 105, 116, 121]⟩ : ByteArray).data.toList s' = true from CP.out]
            have hp := H1.out.below hb; have b3 := (hb.block B (lt_of_block B3.out)).trans B3.out; have b2 := (hb.block w.heap.size (lt_of_block B2.out)).trans B2.out; have l1 := L1.out.below hb; have hr := HV.out.below hb
            clear H1 B3 B2 L1 HV hb
            have H1 := Lib.hid hp; have B3 := Lib.hid b3; have B2 := Lib.hid b2; have L1 := Lib.hid l1; have HV := Lib.hid hr
            clear hp b3 b2 l1 hr
            go_wp2_with fail
            refine (ris_any r g q L s' ⟨#[108, 111, 99, 97, 108]⟩ _ H1.out).mono ?_
            rintro e w30 ⟨rfl, hb⟩
            rw [show Rp.isT L (⟨#[108, 111, 99, 97, 108]⟩ : ByteArray).data.toList s' = false from CL.out]
            have hp := H1.out.below hb; have b3 := (hb.block B (lt_of_block B3.out)).trans B3.out; have b2 := (hb.block w.heap.size (lt_of_block B2.out)).trans B2.out; have l1 := L1.out.below hb; have hr := HV.out.below hb
            clear H1 B3 B2 L1 HV hb
            have H1 := Lib.hid hp; have B3 := Lib.hid b3; have B2 := Lib.hid b2; have L1 := Lib.hid l1; have HV := Lib.hid hr
            clear hp b3 b2 l1 hr
            go_wp2_with fail
            refine (rmust_any r g q L s' ⟨#[112, 97, 114, 105, 116, 121]⟩ _ H1.out HL.out).mono ?_
            rintro e w31 ⟨rfl, hp, hk⟩
            obtain ⟨m1, em1⟩ : ∃ t, t = Rp.must L Sp.kParity s' := ⟨_, rfl⟩
            rw [show Rp.must L (⟨#[112, 97, 114, 105, 116, 121]⟩ : ByteArray).data.toList s' = m1 from em1.symm] at hp
            have Em1 := Lib.hid em1; clear em1
            have b2 := hk.blk B2.out hne1; have l1 := L1.out.trans hk; have b3 := hk.blk B3.out hBr; have hr := HV.out.kp hk hrB1
            clear B2 L1 H1 B3 HV 
            have B2 := Lib.hid b2; have L1 := Lib.hid l1; have H1 := Lib.hid hp; have B3 := Lib.hid b3; have HV := Lib.hid hr
            clear b2 l1 hp hk b3 hr 
            obtain ⟨tt, htt⟩ : ∃ t, t = Rp.tk L s'.i := ⟨_, rfl⟩
            rw [← htt]
            have HTT := Lib.hid htt; clear htt
            unfold rtokV
            have hTr : w31.heap.size ≠ r := by have := lt_of_block H1.out.box; omega
            have hTw : B < w31.heap.size := lt_of_block B3.out
            have bt := heap_alloc_new w31 (.cells (rtokC tt).toArray 46)
            have hp := H1.out.alloc (.cells (rtokC tt).toArray 46); have b3 := blk_old B3.out (.cells (rtokC tt).toArray 46); have b2 := blk_old B2.out (.cells (rtokC tt).toArray 46); have l1 := L1.out.alloc (.cells (rtokC tt).toArray 46); have hr := HV.out.alloc (.cells (rtokC tt).toArray 46)
            clear H1 B3 B2 L1 HV
            have H1 := Lib.hid hp; have B3 := Lib.hid b3; have B2 := Lib.hid b2; have L1 := Lib.hid l1; have HV := Lib.hid hr; have BT := Lib.hid bt
            clear hp b3 b2 l1 hr bt
            go_wp2_with fail
            try change Calls _ _ _ (w31.alloc (.cells (rtokC tt).toArray 46)) _
            generalize w31.alloc (.cells (rtokC tt).toArray 46) = W31 at *
            generalize w31.heap.size = T at *
            have hbz := lt_of_block B3.out
            refine (rnums_any r g q L m1 _ H1.out HL.out).mono ?_
            rintro e w32 ⟨v32, rfl, ht, hp, hk⟩
            obtain ⟨N1, eN1⟩ : ∃ t, t = Rp.nums L m1 := ⟨_, rfl⟩
            rw [← eN1] at hp ht
            have EN1 := Lib.hid eN1; clear eN1
            obtain ⟨AMA, qMA, rfl⟩ := own_slice ht
            have ht := RToksV.mono (base' := B + 1) ht (Nat.succ_le_of_lt hbz)
            clear hbz
            have b2 := hk.blk B2.out hne1; have l1 := L1.out.trans hk; have b3 := hk.blk B3.out hBr; have hr := HV.out.kp hk hrB1; have bt := hk.blk BT.out hTr
            clear B2 L1 H1 B3 HV BT 
            have B2 := Lib.hid b2; have L1 := Lib.hid l1; have H1 := Lib.hid hp; have B3 := Lib.hid b3; have HV := Lib.hid hr; have BT := Lib.hid bt
            clear b2 l1 hp hk b3 hr bt 
            have MA : Hid (RToksV (B + 1) N1.1 w32 (.slice AMA N1.1.length qMA)) := Lib.hid ht; clear ht
            obtain ⟨csr, hor, hin⟩ := HV.out
            have HO := Lib.hid hor; have HIN := Lib.hid hin
            clear hor hin
            obtain ⟨i0, hi, hz0, hz1, hz2⟩ := info_parts info101
            have c4 := blk_c B3.out 4; have f4 := blk_f B3.out 4
            have t0 : w32.cell? ⟨T, 0, none⟩ = some (.string (bs tt.txt)) := blk_c BT.out 0
            have t1 : w32.cell? ⟨T, 1, none⟩ = some (.int .i64 tt.at_) := blk_c BT.out 1
            have t2 : w32.cell? ⟨T, 2, none⟩ = some (.int .i64 tt.kind) := blk_c BT.out 2
            have t3 : w32.cell? ⟨T, 3, none⟩ = some (.int .i64 tt.n) := blk_c BT.out 3
            have HBA : Hid (B < (w32.alloc (.cells #[.string (bs tt.txt), .int .i64 tt.at_, .int .i64 tt.kind, .int .i64 tt.n, .slice AMA N1.1.length qMA, .slice none 0 0] 101)).heap.size) := Lib.hid (Nat.lt_trans (lt_of_block B3.out) (by rw [World.size_alloc]; exact Nat.lt_succ_self _))
            have HWA : Hid (w.heap.size < (w32.alloc (.cells #[.string (bs tt.txt), .int .i64 tt.at_, .int .i64 tt.kind, .int .i64 tt.n, .slice AMA N1.1.length qMA, .slice none 0 0] 101)).heap.size) := Lib.hid (Nat.lt_trans hlt0 HBA.out)
            go_wp2_with (first | (at_builtin; refine wpList_append_own_at (w32.alloc (.cells #[.string (bs tt.txt), .int .i64 tt.at_, .int .i64 tt.kind, .int .i64 tt.n, .slice AMA N1.1.length qMA, .slice none 0 0] 101)) rfl _ _ 75 rfl (B + 1) 101 i0 _ 6 88 Tryd.underlying75 hi hz0 hz1 hz2 rfl (by decide) _ l.length csr rfl (HO.out.alloc _) ⟨w32.heap.size, 0, none⟩ 1 1 [.string (bs tt.txt), .int .i64 tt.at_, .int .i64 tt.kind, .int .i64 tt.n, .slice AMA N1.1.length qMA, .slice none 0 0] rfl rfl ?c1 ?c2 ?c3 ?c4 ?c5 ?_))
            case c1 => exact World.news_of_block (heap_alloc_new w32 (.cells #[.string (bs tt.txt), .int .i64 tt.at_, .int .i64 tt.kind, .int .i64 tt.n, .slice AMA N1.1.length qMA, .slice none 0 0] 101))
            case c2 => intro u hu; simp only [List.mem_cons, List.not_mem_nil, or_false] at hu; rcases hu with rfl | rfl | rfl | rfl | rfl | rfl <;> rfl
            case c3 => unfold maxLen; omega
            case c4 => omega
            case c5 => exact HBA.out
            intro v' w35 hown hgrow _ _
            obtain ⟨A', q', rfl⟩ := own_slice hown
            have hnb := (own_ne HO.out (b := B) (Nat.lt_succ_self _)).symm; have hnw := (own_ne HO.out (b := w.heap.size) (Nat.lt_succ_of_lt hlt0)).symm; have hnr := own_ne HO.out (b := r) hrB1; have hng := own_ne HO.out (b := g) hgB1
            have b3 := (hgrow.block B HBA.out hnb).trans (blk_old B3.out (.cells #[.string (bs tt.txt), .int .i64 tt.at_, .int .i64 tt.kind, .int .i64 tt.n, .slice AMA N1.1.length qMA, .slice none 0 0] 101)); have b2 := (hgrow.block w.heap.size HWA.out hnw).trans (blk_old B2.out (.cells #[.string (bs tt.txt), .int .i64 tt.at_, .int .i64 tt.kind, .int .i64 tt.n, .slice AMA N1.1.length qMA, .slice none 0 0] 101)); have l1 := (L1.out.alloc (.cells #[.string (bs tt.txt), .int .i64 tt.at_, .int .i64 tt.kind, .int .i64 tt.n, .slice AMA N1.1.length qMA, .slice none 0 0] 101)).grown hgrow (own_ge HO.out (Nat.le_succ_of_le (Nat.le_of_lt hlt0))); have hp := (H1.out.alloc (.cells #[.string (bs tt.txt), .int .i64 tt.at_, .int .i64 tt.kind, .int .i64 tt.n, .slice AMA N1.1.length qMA, .slice none 0 0] 101)).grown hgrow hnr hng
            have hr := RLinesV.push (x := ⟨tt, N1.1, []⟩) (HO.out.alloc (.cells #[.string (bs tt.txt), .int .i64 tt.at_, .int .i64 tt.kind, .int .i64 tt.n, .slice AMA N1.1.length qMA, .slice none 0 0] 101)) (RLinesIn.keep (fun m v hm => RToksV.alloc hm _) HIN.out) (RToksV.alloc MA.out (.cells #[.string (bs tt.txt), .int .i64 tt.at_, .int .i64 tt.kind, .int .i64 tt.n, .slice AMA N1.1.length qMA, .slice none 0 0] 101)) (RToksV.alloc (RToksV.nil (B + 1) _) (.cells #[.string (bs tt.txt), .int .i64 tt.at_, .int .i64 tt.kind, .int .i64 tt.n, .slice AMA N1.1.length qMA, .slice none 0 0] 101)) hown hgrow
            clear H1 B3 B2 L1 HV BT HO HIN c4 f4 t0 t1 t2 t3 HBA HWA hown hgrow hnb hnw hnr hng
            have c4' := blk_c b3 4; have f4' := blk_f b3 4
            have H1 := Lib.hid hp; have B3 := Lib.hid b3; have B2 := Lib.hid b2; have L1 := Lib.hid l1; have HV := Lib.hid hr
            clear hp b3 b2 l1 hr
            go_wp2_with fail
            have hp := H1.out.far (p := ⟨B, 4, none⟩) hrB hgB (.slice A' (l.length + 1) q'); have b3 := blk_set B3.out 4 (.slice A' (l.length + 1) q'); have b2 := blk_far B2.out (p := ⟨B, 4, none⟩) hwB (.slice A' (l.length + 1) q'); have l1 := L1.out.setNew (p := ⟨B, 4, none⟩) (Nat.le_of_lt hlt0) (.slice A' (l.length + 1) q'); have hr := HV.out.far (p := ⟨B, 4, none⟩) (Nat.lt_succ_self _) (.slice A' (l.length + 1) q')
            clear H1 B3 B2 L1 HV c4' f4'
            have H1 := Lib.hid hp; have B3 := Lib.hid b3; have B2 := Lib.hid b2; have L1 := Lib.hid l1; have HV := Lib.hid hr
            clear hp b3 b2 l1 hr
            generalize w35.setCell ⟨B, 4, none⟩ (.slice A' (l.length + 1) q') = W35 at *
            refine (rmust_any r g q L N1.2 ⟨#[59]⟩ _ H1.out HL.out).mono ?_
            rintro e w36 ⟨rfl, hp, hk⟩
            obtain ⟨m3, em3⟩ : ∃ t, t = Rp.must L Sp.kSemi N1.2 := ⟨_, rfl⟩
            rw [show Rp.must L (⟨#[59]⟩ : ByteArray).data.toList N1.2 = m3 from em3.symm] at hp
            have Em3 := Lib.hid em3; clear em3
            have b2 := hk.blk B2.out hne1; have l1 := L1.out.trans hk; have b3 := hk.blk B3.out hBr; have hr := HV.out.kp hk hrB1
            clear B2 L1 H1 B3 HV 
            have B2 := Lib.hid b2; have L1 := Lib.hid l1; have H1 := Lib.hid hp; have B3 := Lib.hid b3; have HV := Lib.hid hr
            clear b2 l1 hp hk b3 hr 
            unfold rtokV
            obtain ⟨k', hk', hRR'⟩ := HGO.out CG.out
            have hrow : Rp.row L s' = (⟨tt, N1.1, []⟩, m3) := by
              unfold Rp.row
              rw [if_neg (by rw [CL.out]; decide), ← Em1.out, ← EN1.out, ← Em3.out, ← HTT.out]
            have hbl : s'.bad < 0 := of_decide_eq_true c1
            have hs1 : s'.bad = -1 := by rcases F2.out with e | e <;> omega
            have hnx := row_next HL.out hsl
            rw [← st_eta s' hs1, hrow] at hnx
            rw [hrow] at hRR'
            dsimp only at hnx hRR'
            have G1 := Lib.hid hRR'; have G2 := Lib.hid hnx; have G3 := Lib.hid hk'
            clear hRR' hnx hk' hrow
            go_wp2_with fail
            go_roundg k'
            case measure => rw [G3.out]; omega
            case rel =>
              have h1 := G3.out; have h2 := G2.out; have h3 := F3.out hbl; have h4 := F4.out; have h5 := F5.out
              refine ⟨_, m3, n + 1, _, by go_num, ?_, ?_, ?_, by omega, by rw [List.length_append, List.length_singleton]; omega, H1.out, B3.out, B2.out, L1.out, HV.out⟩
              · rw [G1.out]; simp
              · rcases h2 with e | e
                · right; exact e
                · left; exact e.1
              · intro hlt; rcases h2 with e | e <;> omega
          · have CG := Lib.hid cg; clear cg; have CL := Lib.hid cl; clear cl; have CP := Lib.hid cp; clear cp
            go_wp2_with fail
            refine (ris_any r g q L s' ⟨#[112, 97, 114, 105, 116, 121]⟩ _ H1.out).mono ?_
            rintro e w20 ⟨rfl, hb⟩
            rw [show Rp.isT L (⟨#[112, 97, 114, 105, 116, 121]⟩ : ByteArray).data.toList s' = false from CP.out]
            have hp := H1.out.below hb; have b3 := (hb.block B (lt_of_block B3.out)).trans B3.out; have b2 := (hb.block w.heap.size (lt_of_block B2.out)).trans B2.out; have l1 := L1.out.below hb; have hr := HV.out.below hb
            clear H1 B3 B2 L1 HV hb
            have H1 := Lib.hid hp; have B3 := Lib.hid b3; have B2 := Lib.hid b2; have L1 := Lib.hid l1; have HV := Lib.hid hr
            clear hp b3 b2 l1 hr
            go_wp2_with fail
            refine (ris_any r g q L s' ⟨#[108, 111, 99, 97, 108]⟩ _ H1.out).mono ?_
            rintro e w21 ⟨rfl, hb⟩
            rw [show Rp.isT L (⟨#[108, 111, 99, 97, 108]⟩ : ByteArray).data.toList s' = true from CL.out]
            have hp := H1.out.below hb; have b3 := (hb.block B (lt_of_block B3.out)).trans B3.out; have b2 := (hb.block w.heap.size (lt_of_block B2.out)).trans B2.out; have l1 := L1.out.below hb; have hr := HV.out.below hb
            clear H1 B3 B2 L1 HV hb
            have H1 := Lib.hid hp; have B3 := Lib.hid b3; have B2 := Lib.hid b2; have L1 := Lib.hid l1; have HV := Lib.hid hr
            clear hp b3 b2 l1 hr
            go_wp2_with fail
            refine (ris_any r g q L s' ⟨#[108, 111, 99, 97, 108]⟩ _ H1.out).mono ?_
            rintro e w30 ⟨rfl, hb⟩
            rw [show Rp.isT L (⟨#[108, 111, 99, 97, 108]⟩ : ByteArray).data.toList s' = true from CL.out]
            have hp := H1.out.below hb; have b3 := (hb.block B (lt_of_block B3.out)).trans B3.out; have b2 := (hb.block w.heap.size (lt_of_block B2.out)).trans B2.out; have l1 := L1.out.below hb; have hr := HV.out.below hb
            clear H1 B3 B2 L1 HV hb
            have H1 := Lib.hid hp; have B3 := Lib.hid b3; have B2 := Lib.hid b2; have L1 := Lib.hid l1; have HV := Lib.hid hr
            clear hp b3 b2 l1 hr
            go_wp2_with fail
            refine (rmust_any r g q L s' ⟨#[108, 111, 99, 97, 108]⟩ _ H1.out HL.out).mono ?_
            rintro e w31 ⟨rfl, hp, hk⟩
            obtain ⟨m1, em1⟩ : ∃ t, t = Rp.must L Sp.kLocal s' := ⟨_, rfl⟩
            rw [show Rp.must L (⟨#[108, 111, 99, 97, 108]⟩ : ByteArray).data.toList s' = m1 from em1.symm] at hp
            have Em1 := Lib.hid em1; clear em1
            have b2 := hk.blk B2.out hne1; have l1 := L1.out.trans hk; have b3 := hk.blk B3.out hBr; have hr := HV.out.kp hk hrB1
            clear B2 L1 H1 B3 HV 
            have B2 := Lib.hid b2; have L1 := Lib.hid l1; have H1 := Lib.hid hp; have B3 := Lib.hid b3; have HV := Lib.hid hr
            clear b2 l1 hp hk b3 hr 
            obtain ⟨tt, htt⟩ : ∃ t, t = Rp.tk L s'.i := ⟨_, rfl⟩
            rw [← htt]
            have HTT := Lib.hid htt; clear htt
            unfold rtokV
            have hTr : w31.heap.size ≠ r := by have := lt_of_block H1.out.box; omega
            have hTw : B < w31.heap.size := lt_of_block B3.out
            have bt := heap_alloc_new w31 (.cells (rtokC tt).toArray 46)
            have hp := H1.out.alloc (.cells (rtokC tt).toArray 46); have b3 := blk_old B3.out (.cells (rtokC tt).toArray 46); have b2 := blk_old B2.out (.cells (rtokC tt).toArray 46); have l1 := L1.out.alloc (.cells (rtokC tt).toArray 46); have hr := HV.out.alloc (.cells (rtokC tt).toArray 46)
            clear H1 B3 B2 L1 HV
            have H1 := Lib.hid hp; have B3 := Lib.hid b3; have B2 := Lib.hid b2; have L1 := Lib.hid l1; have HV := Lib.hid hr; have BT := Lib.hid bt
            clear hp b3 b2 l1 hr bt
            go_wp2_with fail
            try change Calls _ _ _ (w31.alloc (.cells (rtokC tt).toArray 46)) _
            generalize w31.alloc (.cells (rtokC tt).toArray 46) = W31 at *
            generalize w31.heap.size = T at *
            have hbz := lt_of_block B3.out
            refine (rnums_any r g q L m1 _ H1.out HL.out).mono ?_
            rintro e w32 ⟨v32, rfl, ht, hp, hk⟩
            obtain ⟨N1, eN1⟩ : ∃ t, t = Rp.nums L m1 := ⟨_, rfl⟩
            rw [← eN1] at hp ht
            have EN1 := Lib.hid eN1; clear eN1
            obtain ⟨AMA, qMA, rfl⟩ := own_slice ht
            have ht := RToksV.mono (base' := B + 1) ht (Nat.succ_le_of_lt hbz)
            clear hbz
            have b2 := hk.blk B2.out hne1; have l1 := L1.out.trans hk; have b3 := hk.blk B3.out hBr; have hr := HV.out.kp hk hrB1; have bt := hk.blk BT.out hTr
            clear B2 L1 H1 B3 HV BT 
            have B2 := Lib.hid b2; have L1 := Lib.hid l1; have H1 := Lib.hid hp; have B3 := Lib.hid b3; have HV := Lib.hid hr; have BT := Lib.hid bt
            clear b2 l1 hp hk b3 hr bt 
            have MA : Hid (RToksV (B + 1) N1.1 w32 (.slice AMA N1.1.length qMA)) := Lib.hid ht; clear ht
            go_wp2_with fail
            refine (rmust_any r g q L N1.2 ⟨#[58]⟩ _ H1.out HL.out).mono ?_
            rintro e w33 ⟨rfl, hp, hk⟩
            obtain ⟨m2, em2⟩ : ∃ t, t = Rp.must L Sp.kColon N1.2 := ⟨_, rfl⟩
            rw [show Rp.must L (⟨#[58]⟩ : ByteArray).data.toList N1.2 = m2 from em2.symm] at hp
            have Em2 := Lib.hid em2; clear em2
            have b2 := hk.blk B2.out hne1; have l1 := L1.out.trans hk; have b3 := hk.blk B3.out hBr; have hr := HV.out.kp hk hrB1; have bt := hk.blk BT.out hTr; have ma := MA.out.kp hk hrB1
            clear B2 L1 H1 B3 HV BT MA
            have B2 := Lib.hid b2; have L1 := Lib.hid l1; have H1 := Lib.hid hp; have B3 := Lib.hid b3; have HV := Lib.hid hr; have BT := Lib.hid bt; have MA := Lib.hid ma
            clear b2 l1 hp hk b3 hr bt ma
            unfold rtokV
            go_wp2_with fail
            have hbz := lt_of_block B3.out
            refine (rnums_any r g q L m2 _ H1.out HL.out).mono ?_
            rintro e w34 ⟨v34, rfl, ht, hp, hk⟩
            obtain ⟨N2, eN2⟩ : ∃ t, t = Rp.nums L m2 := ⟨_, rfl⟩
            rw [← eN2] at hp ht
            have EN2 := Lib.hid eN2; clear eN2
            obtain ⟨AMB, qMB, rfl⟩ := own_slice ht
            have ht := RToksV.mono (base' := B + 1) ht (Nat.succ_le_of_lt hbz)
            clear hbz
            have b2 := hk.blk B2.out hne1; have l1 := L1.out.trans hk; have b3 := hk.blk B3.out hBr; have hr := HV.out.kp hk hrB1; have bt := hk.blk BT.out hTr; have ma := MA.out.kp hk hrB1
            clear B2 L1 H1 B3 HV BT MA
            have B2 := Lib.hid b2; have L1 := Lib.hid l1; have H1 := Lib.hid hp; have B3 := Lib.hid b3; have HV := Lib.hid hr; have BT := Lib.hid bt; have MA := Lib.hid ma
            clear b2 l1 hp hk b3 hr bt ma
            have MB : Hid (RToksV (B + 1) N2.1 w34 (.slice AMB N2.1.length qMB)) := Lib.hid ht; clear ht
            obtain ⟨csr, hor, hin⟩ := HV.out
            have HO := Lib.hid hor; have HIN := Lib.hid hin
            clear hor hin
            obtain ⟨i0, hi, hz0, hz1, hz2⟩ := info_parts info101
            have c4 := blk_c B3.out 4; have f4 := blk_f B3.out 4
            have t0 : w34.cell? ⟨T, 0, none⟩ = some (.string (bs tt.txt)) := blk_c BT.out 0
            have t1 : w34.cell? ⟨T, 1, none⟩ = some (.int .i64 tt.at_) := blk_c BT.out 1
            have t2 : w34.cell? ⟨T, 2, none⟩ = some (.int .i64 tt.kind) := blk_c BT.out 2
            have t3 : w34.cell? ⟨T, 3, none⟩ = some (.int .i64 tt.n) := blk_c BT.out 3
            have HBA : Hid (B < (w34.alloc (.cells #[.string (bs tt.txt), .int .i64 tt.at_, .int .i64 tt.kind, .int .i64 tt.n, .slice AMA N1.1.length qMA, .slice AMB N2.1.length qMB] 101)).heap.size) := Lib.hid (Nat.lt_trans (lt_of_block B3.out) (by rw [World.size_alloc]; exact Nat.lt_succ_self _))
            have HWA : Hid (w.heap.size < (w34.alloc (.cells #[.string (bs tt.txt), .int .i64 tt.at_, .int .i64 tt.kind, .int .i64 tt.n, .slice AMA N1.1.length qMA, .slice AMB N2.1.length qMB] 101)).heap.size) := Lib.hid (Nat.lt_trans hlt0 HBA.out)
            go_wp2_with (first | (at_builtin; refine wpList_append_own_at (w34.alloc (.cells #[.string (bs tt.txt), .int .i64 tt.at_, .int .i64 tt.kind, .int .i64 tt.n, .slice AMA N1.1.length qMA, .slice AMB N2.1.length qMB] 101)) rfl _ _ 75 rfl (B + 1) 101 i0 _ 6 88 Tryd.underlying75 hi hz0 hz1 hz2 rfl (by decide) _ l.length csr rfl (HO.out.alloc _) ⟨w34.heap.size, 0, none⟩ 1 1 [.string (bs tt.txt), .int .i64 tt.at_, .int .i64 tt.kind, .int .i64 tt.n, .slice AMA N1.1.length qMA, .slice AMB N2.1.length qMB] rfl rfl ?c1 ?c2 ?c3 ?c4 ?c5 ?_))
            case c1 => exact World.news_of_block (heap_alloc_new w34 (.cells #[.string (bs tt.txt), .int .i64 tt.at_, .int .i64 tt.kind, .int .i64 tt.n, .slice AMA N1.1.length qMA, .slice AMB N2.1.length qMB] 101))
            case c2 => intro u hu; simp only [List.mem_cons, List.not_mem_nil, or_false] at hu; rcases hu with rfl | rfl | rfl | rfl | rfl | rfl <;> rfl
            case c3 => unfold maxLen; omega
            case c4 => omega
            case c5 => exact HBA.out
            intro v' w35 hown hgrow _ _
            obtain ⟨A', q', rfl⟩ := own_slice hown
            have hnb := (own_ne HO.out (b := B) (Nat.lt_succ_self _)).symm; have hnw := (own_ne HO.out (b := w.heap.size) (Nat.lt_succ_of_lt hlt0)).symm; have hnr := own_ne HO.out (b := r) hrB1; have hng := own_ne HO.out (b := g) hgB1
            have b3 := (hgrow.block B HBA.out hnb).trans (blk_old B3.out (.cells #[.string (bs tt.txt), .int .i64 tt.at_, .int .i64 tt.kind, .int .i64 tt.n, .slice AMA N1.1.length qMA, .slice AMB N2.1.length qMB] 101)); have b2 := (hgrow.block w.heap.size HWA.out hnw).trans (blk_old B2.out (.cells #[.string (bs tt.txt), .int .i64 tt.at_, .int .i64 tt.kind, .int .i64 tt.n, .slice AMA N1.1.length qMA, .slice AMB N2.1.length qMB] 101)); have l1 := (L1.out.alloc (.cells #[.string (bs tt.txt), .int .i64 tt.at_, .int .i64 tt.kind, .int .i64 tt.n, .slice AMA N1.1.length qMA, .slice AMB N2.1.length qMB] 101)).grown hgrow (own_ge HO.out (Nat.le_succ_of_le (Nat.le_of_lt hlt0))); have hp := (H1.out.alloc (.cells #[.string (bs tt.txt), .int .i64 tt.at_, .int .i64 tt.kind, .int .i64 tt.n, .slice AMA N1.1.length qMA, .slice AMB N2.1.length qMB] 101)).grown hgrow hnr hng
            have hr := RLinesV.push (x := ⟨tt, N1.1, N2.1⟩) (HO.out.alloc (.cells #[.string (bs tt.txt), .int .i64 tt.at_, .int .i64 tt.kind, .int .i64 tt.n, .slice AMA N1.1.length qMA, .slice AMB N2.1.length qMB] 101)) (RLinesIn.keep (fun m v hm => RToksV.alloc hm _) HIN.out) (RToksV.alloc MA.out (.cells #[.string (bs tt.txt), .int .i64 tt.at_, .int .i64 tt.kind, .int .i64 tt.n, .slice AMA N1.1.length qMA, .slice AMB N2.1.length qMB] 101)) (RToksV.alloc MB.out (.cells #[.string (bs tt.txt), .int .i64 tt.at_, .int .i64 tt.kind, .int .i64 tt.n, .slice AMA N1.1.length qMA, .slice AMB N2.1.length qMB] 101)) hown hgrow
            clear H1 B3 B2 L1 HV BT HO HIN c4 f4 t0 t1 t2 t3 HBA HWA hown hgrow hnb hnw hnr hng
            have c4' := blk_c b3 4; have f4' := blk_f b3 4
            have H1 := Lib.hid hp; have B3 := Lib.hid b3; have B2 := Lib.hid b2; have L1 := Lib.hid l1; have HV := Lib.hid hr
            clear hp b3 b2 l1 hr
            go_wp2_with fail
            have hp := H1.out.far (p := ⟨B, 4, none⟩) hrB hgB (.slice A' (l.length + 1) q'); have b3 := blk_set B3.out 4 (.slice A' (l.length + 1) q'); have b2 := blk_far B2.out (p := ⟨B, 4, none⟩) hwB (.slice A' (l.length + 1) q'); have l1 := L1.out.setNew (p := ⟨B, 4, none⟩) (Nat.le_of_lt hlt0) (.slice A' (l.length + 1) q'); have hr := HV.out.far (p := ⟨B, 4, none⟩) (Nat.lt_succ_self _) (.slice A' (l.length + 1) q')
            clear H1 B3 B2 L1 HV c4' f4'
            have H1 := Lib.hid hp; have B3 := Lib.hid b3; have B2 := Lib.hid b2; have L1 := Lib.hid l1; have HV := Lib.hid hr
            clear hp b3 b2 l1 hr
            generalize w35.setCell ⟨B, 4, none⟩ (.slice A' (l.length + 1) q') = W35 at *
            refine (rmust_any r g q L N2.2 ⟨#[59]⟩ _ H1.out HL.out).mono ?_
            rintro e w36 ⟨rfl, hp, hk⟩
            obtain ⟨m3, em3⟩ : ∃ t, t = Rp.must L Sp.kSemi N2.2 := ⟨_, rfl⟩
            rw [show Rp.must L (⟨#[59]⟩ : ByteArray).data.toList N2.2 = m3 from em3.symm] at hp
            have Em3 := Lib.hid em3; clear em3
            have b2 := hk.blk B2.out hne1; have l1 := L1.out.trans hk; have b3 := hk.blk B3.out hBr; have hr := HV.out.kp hk hrB1
            clear B2 L1 H1 B3 HV 
            have B2 := Lib.hid b2; have L1 := Lib.hid l1; have H1 := Lib.hid hp; have B3 := Lib.hid b3; have HV := Lib.hid hr
            clear b2 l1 hp hk b3 hr 
            unfold rtokV
            obtain ⟨k', hk', hRR'⟩ := HGO.out CG.out
            have hrow : Rp.row L s' = (⟨tt, N1.1, N2.1⟩, m3) := by
              unfold Rp.row
              rw [if_pos CL.out, ← Em1.out, ← EN1.out, ← Em2.out, ← EN2.out, ← Em3.out, ← HTT.out]
            have hbl : s'.bad < 0 := of_decide_eq_true c1
            have hs1 : s'.bad = -1 := by rcases F2.out with e | e <;> omega
            have hnx := row_next HL.out hsl
            rw [← st_eta s' hs1, hrow] at hnx
            rw [hrow] at hRR'
            dsimp only at hnx hRR'
            have G1 := Lib.hid hRR'; have G2 := Lib.hid hnx; have G3 := Lib.hid hk'
            clear hRR' hnx hk' hrow
            go_wp2_with fail
            go_roundg k'
            case measure => rw [G3.out]; omega
            case rel =>
              have h1 := G3.out; have h2 := G2.out; have h3 := F3.out hbl; have h4 := F4.out; have h5 := F5.out
              refine ⟨_, m3, n + 1, _, by go_num, ?_, ?_, ?_, by omega, by rw [List.length_append, List.length_singleton]; omega, H1.out, B3.out, B2.out, L1.out, HV.out⟩
              · rw [G1.out]; simp
              · rcases h2 with e | e
                · right; exact e
                · left; exact e.1
              · intro hlt; rcases h2 with e | e <;> omega
          · have CG := Lib.hid cg; clear cg; have CL := Lib.hid cl; clear cl; have CP := Lib.hid cp; clear cp
            go_wp2_with fail
            refine (ris_any r g q L s' ⟨#[112, 97, 114, 105, 116, 121]⟩ _ H1.out).mono ?_
            rintro e w20 ⟨rfl, hb⟩
            rw [show Rp.isT L (⟨#[112, 97, 114, 105, 116, 121]⟩ : ByteArray).data.toList s' = false from CP.out]
            have hp := H1.out.below hb; have b3 := (hb.block B (lt_of_block B3.out)).trans B3.out; have b2 := (hb.block w.heap.size (lt_of_block B2.out)).trans B2.out; have l1 := L1.out.below hb; have hr := HV.out.below hb
            clear H1 B3 B2 L1 HV hb
            have H1 := Lib.hid hp; have B3 := Lib.hid b3; have B2 := Lib.hid b2; have L1 := Lib.hid l1; have HV := Lib.hid hr
            clear hp b3 b2 l1 hr
            go_wp2_with fail
            refine (ris_any r g q L s' ⟨#[108, 111, 99, 97, 108]⟩ _ H1.out).mono ?_
            rintro e w21 ⟨rfl, hb⟩
            rw [show Rp.isT L (⟨#[108, 111, 99, 97, 108]⟩ : ByteArray).data.toList s' = false from CL.out]
            have hp := H1.out.below hb; have b3 := (hb.block B (lt_of_block B3.out)).trans B3.out; have b2 := (hb.block w.heap.size (lt_of_block B2.out)).trans B2.out; have l1 := L1.out.below hb; have hr := HV.out.below hb
            clear H1 B3 B2 L1 HV hb
            have H1 := Lib.hid hp; have B3 := Lib.hid b3; have B2 := Lib.hid b2; have L1 := Lib.hid l1; have HV := Lib.hid hr
            clear hp b3 b2 l1 hr
            go_wp2_with fail
            go_meet
            case rel => rw [(HEX.out CG.out)]; exact ⟨_, H1.out, B3.out, B2.out, L1.out, HV.out, hlb⟩
      case rest =>
        obtain ⟨v0, hp, b3, b2, l1, hr, hlb⟩ := hcut
        clear B2 L1 H1 B3 HV HBD lR4 lR5
        obtain ⟨A0, q0, rfl⟩ : ∃ A q, v0 = .slice A RR.1.length q := by obtain ⟨cs, ho, _⟩ := hr; exact own_slice ho
        have B2 := Lib.hid b2; have L1 := Lib.hid l1; have H1 := Lib.hid hp; have B3 := Lib.hid b3; have HV := Lib.hid hr
        clear b2 l1 hp b3 hr
        have HCO : Hid (∀ T : List Rp.Line × Rp.St, T = Rp.tail L RR → R = (⟨nm, T.1⟩, Rp.must L Sp.kShut T.2)) := Lib.hid (by
          intro T hT
          have h3 : s3 = Rp.head L s := by unfold Rp.head; rw [← Es1.out, ← Es2.out]; exact Es3.out
          have h4 : Rp.twoL L s = [R4.1, R5.1] := by unfold Rp.twoL; rw [← h3, ← ER4.out, ← ER5.out]
          have h5 : Rp.twoS L s = R5.2 := by unfold Rp.twoS; rw [← h3, ← ER4.out, ← ER5.out]
          rw [HR.out, hT]
          unfold Rp.code
          rw [h4, h5, ← ERR.out, ← Es1.out, ← HNM.out])
        clear HR Es1 Es2 Es3 ER4 ER5 ERR HNM
        go_wp2_with fail
        refine (ris_any r g q L RR.2 ⟨#[100, 111, 109, 97, 105, 110]⟩ _ H1.out).mono ?_
        rintro e w40 ⟨rfl, hb⟩
        have hp := H1.out.below hb; have b3 := (hb.block B (lt_of_block B3.out)).trans B3.out; have b2 := (hb.block w.heap.size (lt_of_block B2.out)).trans B2.out; have l1 := L1.out.below hb; have hr := HV.out.below hb
        clear H1 B3 B2 L1 HV hb
        have H1 := Lib.hid hp; have B3 := Lib.hid b3; have B2 := Lib.hid b2; have L1 := Lib.hid l1; have HV := Lib.hid hr
        clear hp b3 b2 l1 hr
        rcases hd : Rp.isT L Sp.kDomain RR.2 with _ | _
        · rw [show Rp.isT L (⟨#[100, 111, 109, 97, 105, 110]⟩ : ByteArray).data.toList RR.2 = false from hd]
          have HD := Lib.hid hd; clear hd
          go_wp2_with fail
          have HT : Hid (RR = Rp.tail L RR) := Lib.hid (by unfold Rp.tail; rw [if_neg (by rw [HD.out]; decide)])
          refine (rmust_any r g q L RR.2 ⟨#[125]⟩ _ H1.out HL.out).mono ?_
          rintro e w41 ⟨rfl, hp, hk⟩
          obtain ⟨s9, es9⟩ : ∃ t, t = Rp.must L Sp.kShut RR.2 := ⟨_, rfl⟩
          rw [show Rp.must L (⟨#[125]⟩ : ByteArray).data.toList RR.2 = s9 from es9.symm] at hp
          have HFI := Lib.hid (HCO.out RR HT.out)
          rw [show Rp.must L Sp.kShut (RR).2 = s9 from es9.symm] at HFI
          clear es9 HCO HT
          have b2 := hk.blk B2.out hne1; have l1 := L1.out.trans hk; have b3 := hk.blk B3.out hBr; have hr := HV.out.kp hk hrB1
          clear B2 L1 H1 B3 HV
          unfold z77 at b2
          have c0 := blk_c b3 0; have c1 := blk_c b3 1; have c2 := blk_c b3 2; have c3 := blk_c b3 3; have c4 := blk_c b3 4
          have z0 := blk_c b2 0; have z1 := blk_c b2 1; have z2 := blk_c b2 2; have z3 := blk_c b2 3; have z4 := blk_c b2 4
          have f0 := blk_f b2 0; have f1 := blk_f b2 1; have f2 := blk_f b2 2; have f3 := blk_f b2 3; have f4 := blk_f b2 4
          have B2 := Lib.hid b2; have L1 := Lib.hid l1; have H1 := Lib.hid hp; have HV := Lib.hid hr
          clear b2 l1 hp b3 hr hk
          unfold rtokV
          go_wp2_with fail
          have hgw : g ≠ w.heap.size := by omega
          have hwB1 : w.heap.size < B + 1 := Nat.lt_succ_of_lt hlt0
          have q0' : (((((w41.setCell ⟨w.heap.size, 0, none⟩ (.string (bs nm.txt))).setCell ⟨w.heap.size, 1, none⟩ (.int .i64 nm.at_)).setCell ⟨w.heap.size, 2, none⟩ (.int .i64 nm.kind)).setCell ⟨w.heap.size, 3, none⟩ (.int .i64 nm.n)).setCell ⟨w.heap.size, 4, none⟩ (.slice A0 RR.1.length q0)).heap[w.heap.size]? = some (.cells #[.string (bs nm.txt), .int .i64 nm.at_, .int .i64 nm.kind, .int .i64 nm.n, .slice A0 RR.1.length q0] 77 (0, 0)) := (blk_set (blk_set (blk_set (blk_set (blk_set B2.out 0 (.string (bs nm.txt))) 1 (.int .i64 nm.at_)) 2 (.int .i64 nm.kind)) 3 (.int .i64 nm.n)) 4 (.slice A0 RR.1.length q0))
          have q1 : PA (((((w41.setCell ⟨w.heap.size, 0, none⟩ (.string (bs nm.txt))).setCell ⟨w.heap.size, 1, none⟩ (.int .i64 nm.at_)).setCell ⟨w.heap.size, 2, none⟩ (.int .i64 nm.kind)).setCell ⟨w.heap.size, 3, none⟩ (.int .i64 nm.n)).setCell ⟨w.heap.size, 4, none⟩ (.slice A0 RR.1.length q0)) r g q L s9 := (((((H1.out.far (p := ⟨w.heap.size, 0, none⟩) hne1.symm hgw _).far (p := ⟨w.heap.size, 1, none⟩) hne1.symm hgw _).far (p := ⟨w.heap.size, 2, none⟩) hne1.symm hgw _).far (p := ⟨w.heap.size, 3, none⟩) hne1.symm hgw _).far (p := ⟨w.heap.size, 4, none⟩) hne1.symm hgw _)
          have q2 : Kp r w (((((w41.setCell ⟨w.heap.size, 0, none⟩ (.string (bs nm.txt))).setCell ⟨w.heap.size, 1, none⟩ (.int .i64 nm.at_)).setCell ⟨w.heap.size, 2, none⟩ (.int .i64 nm.kind)).setCell ⟨w.heap.size, 3, none⟩ (.int .i64 nm.n)).setCell ⟨w.heap.size, 4, none⟩ (.slice A0 RR.1.length q0)) := (((((L1.out.setNew (p := ⟨w.heap.size, 0, none⟩) (Nat.le_refl _) _).setNew (p := ⟨w.heap.size, 1, none⟩) (Nat.le_refl _) _).setNew (p := ⟨w.heap.size, 2, none⟩) (Nat.le_refl _) _).setNew (p := ⟨w.heap.size, 3, none⟩) (Nat.le_refl _) _).setNew (p := ⟨w.heap.size, 4, none⟩) (Nat.le_refl _) _)
          have q3 : RLinesV w.heap.size (RR).1 (((((w41.setCell ⟨w.heap.size, 0, none⟩ (.string (bs nm.txt))).setCell ⟨w.heap.size, 1, none⟩ (.int .i64 nm.at_)).setCell ⟨w.heap.size, 2, none⟩ (.int .i64 nm.kind)).setCell ⟨w.heap.size, 3, none⟩ (.int .i64 nm.n)).setCell ⟨w.heap.size, 4, none⟩ (.slice A0 RR.1.length q0)) (.slice A0 RR.1.length q0) := RLinesV.mono (((((HV.out.far (p := ⟨w.heap.size, 0, none⟩) hwB1 _).far (p := ⟨w.heap.size, 1, none⟩) hwB1 _).far (p := ⟨w.heap.size, 2, none⟩) hwB1 _).far (p := ⟨w.heap.size, 3, none⟩) hwB1 _).far (p := ⟨w.heap.size, 4, none⟩) hwB1 _) (Nat.le_of_lt hwB1)
          generalize (((((w41.setCell ⟨w.heap.size, 0, none⟩ (.string (bs nm.txt))).setCell ⟨w.heap.size, 1, none⟩ (.int .i64 nm.at_)).setCell ⟨w.heap.size, 2, none⟩ (.int .i64 nm.kind)).setCell ⟨w.heap.size, 3, none⟩ (.int .i64 nm.n)).setCell ⟨w.heap.size, 4, none⟩ (.slice A0 RR.1.length q0)) = V at *
          have e0 := blk_c q0' 0; have e1 := blk_c q0' 1; have e2 := blk_c q0' 2; have e3 := blk_c q0' 3; have e4 := blk_c q0' 4
          refine bodyPost_ret (v := .agg #[.string (bs nm.txt), .int .i64 nm.at_, .int .i64 nm.kind, .int .i64 nm.n, .slice A0 RR.1.length q0]) (by simp [results, Tryd.results43, go_sem, e0, e1, e2, e3, e4]) rfl ?_
          rw [HFI.out]
          exact ⟨_, rfl, ⟨_, rfl, q3⟩, q1, q2⟩
        · rw [show Rp.isT L (⟨#[100, 111, 109, 97, 105, 110]⟩ : ByteArray).data.toList RR.2 = true from hd]
          have HD := Lib.hid hd; clear hd
          go_upto_region 20 with (fail)
          obtain ⟨R9, eR9⟩ : ∃ t, t = Rp.one L Sp.kDomain RR.2 := ⟨_, rfl⟩
          have C1 := Lib.hid (rone_any r g q L RR.2 ⟨#[100, 111, 109, 97, 105, 110]⟩ w40.drew (H1.out.below ((Below.refl _ _).drew)) HL.out)
          rw [show Rp.one L (⟨#[100, 111, 109, 97, 105, 110]⟩ : ByteArray).data.toList RR.2 = R9 from eR9.symm] at C1
          have ER9 := Lib.hid eR9; clear eR9
          have c4 := blk_c B3.out 4; have f4 := blk_f B3.out 4; have HB1 : Hid (B + 1 ≤ w40.drew.heap.size) := Lib.hid (Nat.succ_le_of_lt (lt_of_block (w := w40.drew) B3.out))
          obtain ⟨x0, hx0⟩ : ∃ t, t = R9.1 := ⟨_, rfl⟩
          rw [← hx0] at C1
          have HX0 := Lib.hid hx0; clear hx0
          go_cut [] (fun wx => ∃ v0, PA wx r g q L R9.2 ∧ wx.heap[B]? = some (.cells #[.string (bs nm.txt), .int .i64 nm.at_, .int .i64 nm.kind, .int .i64 nm.n, v0] 77 (0, 0)) ∧ wx.heap[w.heap.size]? = some z77 ∧ Kp r w wx ∧ RLinesV (B + 1) (RR.1 ++ [R9.1]) wx v0)
          case first =>
            obtain ⟨i0, hi, hz0, hz1, hz2⟩ := info_parts info101
            obtain ⟨csr, hor, hin⟩ := HV.out
            have HOR := Lib.hid hor; have HIN := Lib.hid hin.drew
            clear hor hin
            go_region_law (first | (go_simp; go_at_call 63; refine C1.out.mono ?_; rintro e w6 hh; obtain ⟨vv, rfl, ⟨va, vb, rfl, hma, hmb⟩, hp, hk⟩ := hh; obtain ⟨Aa, qa, rfl⟩ := own_slice hma; obtain ⟨Ab, qb, rfl⟩ := own_slice hmb; have b3 := hk.blk B3.out hBr; have b2 := hk.blk B2.out hne1; have k4 := blk_c b3 4; have g4 := blk_f b3 4; have k4a := blk_c (blk_old b3 (.cells #[.string (bs x0.key.txt), .int .i64 x0.key.at_, .int .i64 x0.key.kind, .int .i64 x0.key.n, .slice Aa x0.a.length qa, .slice Ab x0.b.length qb] 101)) 4; have l1 := L1.out.drew.trans hk; have L2 := Lib.hid l1; have B6 := Lib.hid b3; have B7 := Lib.hid b2; have MA := Lib.hid hma; have MB := Lib.hid hmb; have H2 := Lib.hid hp; have HO := Lib.hid (own_kp (show w40.drew.ownsRow _ _ _ _ _ _ from HOR.out) hk hrB1); have HIN6 := Lib.hid (RLinesIn.keep (fun m v hm => RToksV.kp hm hk hrB1) HIN.out); have HN := Lib.hid (World.news_of_block (heap_alloc_new w6 (.cells #[.string (bs x0.key.txt), .int .i64 x0.key.at_, .int .i64 x0.key.kind, .int .i64 x0.key.n, .slice Aa x0.a.length qa, .slice Ab x0.b.length qb] 101))); have HLT := Lib.hid (lt_of_block b3); have HBA : Hid (B < (w6.alloc (.cells #[.string (bs x0.key.txt), .int .i64 x0.key.at_, .int .i64 x0.key.kind, .int .i64 x0.key.n, .slice Aa x0.a.length qa, .slice Ab x0.b.length qb] 101)).heap.size) := Lib.hid (Nat.lt_trans (lt_of_block b3) (by rw [World.size_alloc]; exact Nat.lt_succ_self _)); have HWA : Hid (w.heap.size < (w6.alloc (.cells #[.string (bs x0.key.txt), .int .i64 x0.key.at_, .int .i64 x0.key.kind, .int .i64 x0.key.n, .slice Aa x0.a.length qa, .slice Ab x0.b.length qb] 101)).heap.size) := Lib.hid (Nat.lt_trans hlt0 HBA.out); clear b3 b2 l1 hk hma hmb hp) | (refine step_append_lies (w6.alloc (.cells #[.string (bs x0.key.txt), .int .i64 x0.key.at_, .int .i64 x0.key.kind, .int .i64 x0.key.n, .slice Aa x0.a.length qa, .slice Ab x0.b.length qb] 101)) rfl (.tmp 86) (.tmp 89) 75 rfl (B + 1) 101 i0 _ 6 88 Tryd.underlying75 hi hz0 hz1 hz2 rfl (by decide) (.slice A0 RR.1.length q0) RR.1.length (csr) rfl (HO.out.alloc _) ⟨w6.heap.size, 0, none⟩ 1 1 [.string (bs x0.key.txt), .int .i64 x0.key.at_, .int .i64 x0.key.kind, .int .i64 x0.key.n, .slice Aa x0.a.length qa, .slice Ab x0.b.length qb] rfl rfl HN.out (by intro u hu; simp only [List.mem_cons, List.not_mem_nil, or_false] at hu; rcases hu with rfl | rfl | rfl | rfl | rfl | rfl <;> rfl) (by decide) (by unfold maxLen; omega) (by omega) HBA.out _ rfl ?_; intro gg cap w7 hown hgrow hgat hglt'; have HNB := (own_ne HO.out (b := B) (Nat.lt_succ_self _)).symm; have HNW := (own_ne HO.out (b := w.heap.size) (Nat.lt_succ_of_lt hlt0)).symm; have HNR := own_ne HO.out (b := r) hrB1; have HNG := own_ne HO.out (b := g) hgB1; have b3 := (hgrow.block B HBA.out HNB).trans (blk_old B6.out _); have b2 := (hgrow.block w.heap.size HWA.out HNW).trans (blk_old B7.out _); have k4' := blk_c b3 4; have g4' := blk_f b3 4; have l7 := (L2.out.alloc (.cells #[.string (bs x0.key.txt), .int .i64 x0.key.at_, .int .i64 x0.key.kind, .int .i64 x0.key.n, .slice Aa x0.a.length qa, .slice Ab x0.b.length qb] 101)).grown hgrow (own_ge HO.out (Nat.le_succ_of_le (Nat.le_of_lt hlt0))); have at7 := (H2.out.alloc (.cells #[.string (bs x0.key.txt), .int .i64 x0.key.at_, .int .i64 x0.key.kind, .int .i64 x0.key.n, .slice Aa x0.a.length qa, .slice Ab x0.b.length qb] 101)).grown hgrow HNR HNG; have L7 := Lib.hid l7; have A7 := Lib.hid at7; have B8 := Lib.hid b3; have B9 := Lib.hid b2; have OW := Lib.hid hown; have GR := Lib.hid hgrow; clear b3 b2 l7 at7 hown hgrow hgat hglt' HNB HNW HNR HNG))
            all_goals
              have hpush := RLinesV.far (RLinesV.push (x := x0) (HO.out.alloc (.cells #[.string (bs x0.key.txt), .int .i64 x0.key.at_, .int .i64 x0.key.kind, .int .i64 x0.key.n, .slice Aa x0.a.length qa, .slice Ab x0.b.length qb] 101)) (RLinesIn.keep (fun m v hm => RToksV.alloc hm _) HIN6.out) ((MA.out.alloc (.cells #[.string (bs x0.key.txt), .int .i64 x0.key.at_, .int .i64 x0.key.kind, .int .i64 x0.key.n, .slice Aa x0.a.length qa, .slice Ab x0.b.length qb] 101)).mono HB1.out) ((MB.out.alloc (.cells #[.string (bs x0.key.txt), .int .i64 x0.key.at_, .int .i64 x0.key.kind, .int .i64 x0.key.n, .slice Aa x0.a.length qa, .slice Ab x0.b.length qb] 101)).mono HB1.out) OW.out GR.out) (p := ⟨B, 4, none⟩) (Nat.lt_succ_self _) (.slice (some ⟨gg, 0, none⟩) (RR.1.length + 1) cap)
              have HPU := Lib.hid hpush; clear hpush
              go_wp2_with fail
              go_meet
              case rel => exact ⟨.slice (some ⟨gg, 0, none⟩) (RR.1.length + 1) cap, A7.out.far (p := ⟨B, 4, none⟩) hrB hgB _, blk_set B8.out 4 _, blk_far B9.out (p := ⟨B, 4, none⟩) hwB _, L7.out.setNew (p := ⟨B, 4, none⟩) (Nat.le_of_lt hlt0) _, by rw [← HX0.out]; exact HPU.out⟩
          case rest =>
            obtain ⟨v0, hp, b3, b2, l1, hr⟩ := hcut
            clear B2 L1 H1 B3 HV C1 HB1 c4 f4 HX0
            have B2 := Lib.hid b2; have L1 := Lib.hid l1; have H1 := Lib.hid hp; have B3 := Lib.hid b3
            obtain ⟨A0, q0, rfl⟩ : ∃ A q, v0 = .slice A (RR.1 ++ [R9.1]).length q := by obtain ⟨cs, ho, _⟩ := hr; exact own_slice ho
            have HV := Lib.hid hr
            have lR9 := H1.out.lt
            clear b2 l1 hp b3 hr
            simp only [List.length_append, List.length_singleton] at B3 HV
            go_wp2_with fail
            have HT : Hid ((RR.1 ++ [R9.1], R9.2) = Rp.tail L RR) := Lib.hid (by unfold Rp.tail; rw [if_pos HD.out, ← ER9.out])
            refine (rmust_any r g q L R9.2 ⟨#[125]⟩ _ H1.out HL.out).mono ?_
            rintro e w42 ⟨rfl, hp, hk⟩
            obtain ⟨s9, es9⟩ : ∃ t, t = Rp.must L Sp.kShut R9.2 := ⟨_, rfl⟩
            rw [show Rp.must L (⟨#[125]⟩ : ByteArray).data.toList R9.2 = s9 from es9.symm] at hp
            have HFI := Lib.hid (HCO.out (RR.1 ++ [R9.1], R9.2) HT.out)
            rw [show Rp.must L Sp.kShut ((RR.1 ++ [R9.1], R9.2)).2 = s9 from es9.symm] at HFI
            clear es9 HCO HT
            have b2 := hk.blk B2.out hne1; have l1 := L1.out.trans hk; have b3 := hk.blk B3.out hBr; have hr := HV.out.kp hk hrB1
            clear B2 L1 H1 B3 HV
            unfold z77 at b2
            have c0 := blk_c b3 0; have c1 := blk_c b3 1; have c2 := blk_c b3 2; have c3 := blk_c b3 3; have c4 := blk_c b3 4
            have z0 := blk_c b2 0; have z1 := blk_c b2 1; have z2 := blk_c b2 2; have z3 := blk_c b2 3; have z4 := blk_c b2 4
            have f0 := blk_f b2 0; have f1 := blk_f b2 1; have f2 := blk_f b2 2; have f3 := blk_f b2 3; have f4 := blk_f b2 4
            have B2 := Lib.hid b2; have L1 := Lib.hid l1; have H1 := Lib.hid hp; have HV := Lib.hid hr
            clear b2 l1 hp b3 hr hk
            unfold rtokV
            go_wp2_with fail
            have hgw : g ≠ w.heap.size := by omega
            have hwB1 : w.heap.size < B + 1 := Nat.lt_succ_of_lt hlt0
            have q0' : (((((w42.setCell ⟨w.heap.size, 0, none⟩ (.string (bs nm.txt))).setCell ⟨w.heap.size, 1, none⟩ (.int .i64 nm.at_)).setCell ⟨w.heap.size, 2, none⟩ (.int .i64 nm.kind)).setCell ⟨w.heap.size, 3, none⟩ (.int .i64 nm.n)).setCell ⟨w.heap.size, 4, none⟩ (.slice A0 (RR.1.length + 1) q0)).heap[w.heap.size]? = some (.cells #[.string (bs nm.txt), .int .i64 nm.at_, .int .i64 nm.kind, .int .i64 nm.n, .slice A0 (RR.1.length + 1) q0] 77 (0, 0)) := (blk_set (blk_set (blk_set (blk_set (blk_set B2.out 0 (.string (bs nm.txt))) 1 (.int .i64 nm.at_)) 2 (.int .i64 nm.kind)) 3 (.int .i64 nm.n)) 4 (.slice A0 (RR.1.length + 1) q0))
            have q1 : PA (((((w42.setCell ⟨w.heap.size, 0, none⟩ (.string (bs nm.txt))).setCell ⟨w.heap.size, 1, none⟩ (.int .i64 nm.at_)).setCell ⟨w.heap.size, 2, none⟩ (.int .i64 nm.kind)).setCell ⟨w.heap.size, 3, none⟩ (.int .i64 nm.n)).setCell ⟨w.heap.size, 4, none⟩ (.slice A0 (RR.1.length + 1) q0)) r g q L s9 := (((((H1.out.far (p := ⟨w.heap.size, 0, none⟩) hne1.symm hgw _).far (p := ⟨w.heap.size, 1, none⟩) hne1.symm hgw _).far (p := ⟨w.heap.size, 2, none⟩) hne1.symm hgw _).far (p := ⟨w.heap.size, 3, none⟩) hne1.symm hgw _).far (p := ⟨w.heap.size, 4, none⟩) hne1.symm hgw _)
            have q2 : Kp r w (((((w42.setCell ⟨w.heap.size, 0, none⟩ (.string (bs nm.txt))).setCell ⟨w.heap.size, 1, none⟩ (.int .i64 nm.at_)).setCell ⟨w.heap.size, 2, none⟩ (.int .i64 nm.kind)).setCell ⟨w.heap.size, 3, none⟩ (.int .i64 nm.n)).setCell ⟨w.heap.size, 4, none⟩ (.slice A0 (RR.1.length + 1) q0)) := (((((L1.out.setNew (p := ⟨w.heap.size, 0, none⟩) (Nat.le_refl _) _).setNew (p := ⟨w.heap.size, 1, none⟩) (Nat.le_refl _) _).setNew (p := ⟨w.heap.size, 2, none⟩) (Nat.le_refl _) _).setNew (p := ⟨w.heap.size, 3, none⟩) (Nat.le_refl _) _).setNew (p := ⟨w.heap.size, 4, none⟩) (Nat.le_refl _) _)
            have q3 : RLinesV w.heap.size ((RR.1 ++ [R9.1], R9.2)).1 (((((w42.setCell ⟨w.heap.size, 0, none⟩ (.string (bs nm.txt))).setCell ⟨w.heap.size, 1, none⟩ (.int .i64 nm.at_)).setCell ⟨w.heap.size, 2, none⟩ (.int .i64 nm.kind)).setCell ⟨w.heap.size, 3, none⟩ (.int .i64 nm.n)).setCell ⟨w.heap.size, 4, none⟩ (.slice A0 (RR.1.length + 1) q0)) (.slice A0 (RR.1.length + 1) q0) := RLinesV.mono (((((HV.out.far (p := ⟨w.heap.size, 0, none⟩) hwB1 _).far (p := ⟨w.heap.size, 1, none⟩) hwB1 _).far (p := ⟨w.heap.size, 2, none⟩) hwB1 _).far (p := ⟨w.heap.size, 3, none⟩) hwB1 _).far (p := ⟨w.heap.size, 4, none⟩) hwB1 _) (Nat.le_of_lt hwB1)
            generalize (((((w42.setCell ⟨w.heap.size, 0, none⟩ (.string (bs nm.txt))).setCell ⟨w.heap.size, 1, none⟩ (.int .i64 nm.at_)).setCell ⟨w.heap.size, 2, none⟩ (.int .i64 nm.kind)).setCell ⟨w.heap.size, 3, none⟩ (.int .i64 nm.n)).setCell ⟨w.heap.size, 4, none⟩ (.slice A0 (RR.1.length + 1) q0)) = V at *
            have e0 := blk_c q0' 0; have e1 := blk_c q0' 1; have e2 := blk_c q0' 2; have e3 := blk_c q0' 3; have e4 := blk_c q0' 4
            refine bodyPost_ret (v := .agg #[.string (bs nm.txt), .int .i64 nm.at_, .int .i64 nm.kind, .int .i64 nm.n, .slice A0 (RR.1.length + 1) q0]) (by simp [results, Tryd.results43, go_sem, e0, e1, e2, e3, e4]) rfl ?_
            rw [HFI.out]
            exact ⟨_, rfl, ⟨_, rfl, q3⟩, q1, q2⟩
end Go.Proofs.YtppeplonnippcaaDoor
