/-
Layer 7: the reference's Parse.
-/
import Derived.Test.YtppeplonnippcaaDoorH5
import Derived.Test.YtppeplonnippcaaDoorH6
set_option linter.unusedVariables false
set_option linter.unusedSimpArgs false
namespace Go.Proofs.YtppeplonnippcaaDoor
open Go.RowKit

/-- the parser's box behind Tokens -/
theorem PA.start {w2 : World} {b : Nat} {L : List Sp.Tok} {v : Value} (h : RToksV b L w2 v) (hne : 0 < L.length) (hm : L.length ≤ 3000) :
    ∃ g q, v = .slice (some ⟨g, 0, none⟩) L.length q ∧ g < w2.heap.size ∧ ∀ W, Below w2.heap.size (w2.alloc (.cells #[v, .int .i64 0, .int .i64 (-1)] 74)) W → PA (w2.alloc (.cells #[v, .int .i64 0, .int .i64 (-1)] 74)) w2.heap.size g q L ⟨0, -1⟩ := by
  obtain ⟨A, q, rfl⟩ := own_slice h
  obtain ⟨g, rfl, c0, _, _, _⟩ := h.at_ 0 hne
  have hg : g < w2.heap.size := World.block_lt_of_cell? w2 _ c0
  refine ⟨g, q, rfl, hg, fun W _ => ?_⟩
  have hb := heap_alloc_new w2 (.cells #[.slice (some ⟨g, 0, none⟩) L.length q, .int .i64 0, .int .i64 (-1)] 74)
  have hcell : ∀ {p : Addr} {v : Value}, p.block = g → w2.cell? p = some v → (w2.alloc (.cells #[.slice (some ⟨g, 0, none⟩) L.length q, .int .i64 0, .int .i64 (-1)] 74)).cell? p = some v := fun {p v} hp hv =>
    (World.cell?_of_block (w := w2) (Below.heap_alloc _ _ _ (by omega))).trans hv
  have key : ∀ j (hj : j < L.length), w2.cell? ⟨g, j * 4, none⟩ = some (.string (bs L[j].txt)) ∧ w2.cell? ⟨g, j * 4 + 1, none⟩ = some (.int .i64 L[j].at_) ∧ w2.cell? ⟨g, j * 4 + 2, none⟩ = some (.int .i64 L[j].kind) ∧ w2.cell? ⟨g, j * 4 + 3, none⟩ = some (.int .i64 L[j].n) := by
    intro j hj
    obtain ⟨g', hA, d⟩ := h.at_ j hj
    have : g' = g := by
      have h1 := Option.some.inj hA
      injection h1 with h1
      exact h1.symm
    subst this
    exact d
  exact ⟨hb, fun j hj => hcell rfl (key j hj).1, fun j hj => hcell rfl (key j hj).2.1, fun j hj => hcell rfl (key j hj).2.2.1, fun j hj => hcell rfl (key j hj).2.2.2, by omega, hne, hm⟩

set_option maxRecDepth 100000 in
set_option maxHeartbeats 8000000 in
theorem rParse_any (s : ByteArray) (w : World) : Calls Tryd.prog 19 #[.string s] w (BuildPost (Rp.parse1 s.data.toList) w) := by
  obtain ⟨RR, hRR⟩ : ∃ R, R = Rp.parse1 s.data.toList := ⟨_, rfl⟩
  have HRR := Lib.hid hRR
  rw [← hRR]
  clear hRR
  have hsz : s.data.toList.length = s.size := rfl
  have hRb := heap_alloc_new w (.cells #[.string ⟨#[]⟩, .int .i64 0, .int .i64 0, .slice none 0 0, .int .i64 0] 24)
  have hBe : Below w.heap.size w (w.alloc (.cells #[.string ⟨#[]⟩, .int .i64 0, .int .i64 0, .slice none 0 0, .int .i64 0] 24)) := (Below.refl _ _).alloc (Nat.le_refl _) _
  have HR := Lib.hid hRb; have HB := Lib.hid hBe
  clear hRb hBe
  by_cases hl : s.size ≤ 2000
  · have hlb : decide ((s.size : Int) > 2000) = false := by rw [decide_eq_false_iff_not]; omega
    have HT : Hid (RR = Rp.parse1T (Sp.toks 0 s.data.toList)) := Lib.hid (by rw [HRR.out]; unfold Rp.parse1; rw [if_neg (by omega)])
    have CT := Lib.hid (fun W => refTokens_any s W hl)
    have htl : (Sp.toks 0 s.data.toList).length ≤ 2001 := by have := toks_len 0 s.data.toList; omega
    have HLK := Lib.hid (Rp.toks_ok _ s.data.toList 0 rfl)
    have HTX := Lib.hid (Rp.toks_txt (m := 2000) (l := s.data.toList) (by omega))
    obtain ⟨L, hL⟩ : ∃ L, L = Sp.toks 0 s.data.toList := ⟨_, rfl⟩
    rw [← hL] at HT CT htl HLK HTX
    clear hL hsz
    go_enter Tryd.func19, Tryd.ntmps19
    go_wp2_with fail
    refine (CT.out _).mono ?_
    rintro e w2 ⟨⟨v, rfl, hv⟩, hb2⟩
    obtain ⟨g, q, rfl, hg, hpa⟩ := PA.start hv HLK.out.ne (by omega)
    have H1 := Lib.hid (hpa _ (Below.refl _ _))
    have hR2 := (hb2.block _ (lt_of_block HR.out)).trans HR.out
    have hB2 := HB.out.trans (hb2.mono HB.out.size)
    have hlt0 := lt_of_block hR2
    have HR2 := Lib.hid (blk_old hR2 (.cells #[.slice (some ⟨g, 0, none⟩) L.length q, .int .i64 0, .int .i64 (-1)] 74)); have HB2 := Lib.hid (hB2.alloc hB2.size (.cells #[.slice (some ⟨g, 0, none⟩) L.length q, .int .i64 0, .int .i64 (-1)] 74))
    have hrs : w2.heap.size < (w2.alloc (.cells #[.slice (some ⟨g, 0, none⟩) L.length q, .int .i64 0, .int .i64 (-1)] 74)).heap.size := by simp
    clear hv hb2 hpa hR2 hB2 HR HB CT
    go_wp2_with fail
    generalize w2.alloc (.cells #[.slice (some ⟨g, 0, none⟩) L.length q, .int .i64 0, .int .i64 (-1)] 74) = u2 at *
    generalize w2.heap.size = r at *
    have hrw : r ≠ w.heap.size := by omega
    have hrw2 : w.heap.size ≠ r := by omega
    refine (rcode_any r g q L ⟨0, -1⟩ u2 H1.out HLK.out (.inl rfl)).mono ?_
    rintro e w3 ⟨v3, rfl, hv3, hp3, hk3⟩
    obtain ⟨vl, rfl, hlv⟩ := hv3
    obtain ⟨Al, ql, rfl⟩ : ∃ A q, vl = .slice A (Rp.code L ⟨0, -1⟩).1.lines.length q := by obtain ⟨cs, ho, _⟩ := hlv; exact own_slice ho
    have HCF := Lib.hid (Rp.code_f HTX.out ⟨0, -1⟩)
    obtain ⟨R, hR⟩ : ∃ R, R = Rp.code L ⟨0, -1⟩ := ⟨_, rfl⟩
    have HPT : Hid (RR = if 0 ≤ (Rp.kind L 4 R.2).bad then .error ((Rp.kind L 4 R.2).bad.toNat, 3) else Rp.bldS R.1) := Lib.hid (by rw [HT.out, hR]; rfl)
    rw [← hR] at hlv hp3 HCF
    rw [← hR]
    have HBAD : Hid (R.2.bad = -1 ∨ 0 ≤ R.2.bad) := Lib.hid (by
      rw [hR]
      rcases (Rp.code_next HLK.out HLK.out.ne).2 with h | h
      · exact .inr h
      · exact .inl h.1)
    clear hR HT HRR
    have HR3 := Lib.hid (hk3.blk HR2.out hrw2)
    have HB3 : Hid (Below w.heap.size w w3) := Lib.hid ⟨hk3.os.trans HB2.out.os, hk3.tape.trans HB2.out.tape, hk3.output.trans HB2.out.output, Nat.le_trans HB2.out.size hk3.size, fun i hi => (hk3.block i (Nat.lt_of_lt_of_le hi HB2.out.size) (by omega)).trans (HB2.out.block i hi)⟩
    have hr3 : r < w3.heap.size := lt_of_block hp3.box
    have hru : r < u2.heap.size := hrs
    have CK := Lib.hid (rkind_box r g q L R.2 4 (w3.alloc (.cells #[.string (bs R.1.name.txt), .int .i64 R.1.name.at_, .int .i64 R.1.name.kind, .int .i64 R.1.name.n, .slice Al R.1.lines.length ql] 77)) (hp3.alloc _))
    have hx := heap_alloc_new w3 (.cells #[.string (bs R.1.name.txt), .int .i64 R.1.name.at_, .int .i64 R.1.name.kind, .int .i64 R.1.name.n, .slice Al R.1.lines.length ql] 77)
    have HX := Lib.hid hx; have HLV := Lib.hid (RLinesV.alloc hlv (.cells #[.string (bs R.1.name.txt), .int .i64 R.1.name.at_, .int .i64 R.1.name.kind, .int .i64 R.1.name.n, .slice Al R.1.lines.length ql] 77))
    have HR4 := Lib.hid (blk_old HR3.out (.cells #[.string (bs R.1.name.txt), .int .i64 R.1.name.at_, .int .i64 R.1.name.kind, .int .i64 R.1.name.n, .slice Al R.1.lines.length ql] 77))
    have HB4 := Lib.hid (HB3.out.alloc HB3.out.size (.cells #[.string (bs R.1.name.txt), .int .i64 R.1.name.at_, .int .i64 R.1.name.kind, .int .i64 R.1.name.n, .slice Al R.1.lines.length ql] 77))
    clear hx hlv hp3 hk3 HR2 HB2 H1 HR3 HB3
    go_wp2_with fail
    refine CK.out.mono ?_
    rintro e w5 ⟨rfl, hbx, hk5⟩
    have hrx : w3.heap.size ≠ r := by omega
    have HX5 := Lib.hid (hk5.blk HX.out hrx); have HR5 := Lib.hid (hk5.blk HR4.out hrw2); have HLV5 := Lib.hid (HLV.out.kp hk5 hru)
    have HB5 : Hid (Below w.heap.size w w5) := Lib.hid ⟨hk5.os.trans HB4.out.os, hk5.tape.trans HB4.out.tape, hk5.output.trans HB4.out.output, Nat.le_trans HB4.out.size hk5.size, fun i hi => (hk5.block i (Nat.lt_of_lt_of_le hi HB4.out.size) (by omega)).trans (HB4.out.block i hi)⟩
    obtain ⟨S, hS⟩ : ∃ S, S = Rp.kind L 4 R.2 := ⟨_, rfl⟩
    rw [← hS] at HPT hbx
    clear hS
    have u2b : w5.cell? ⟨r, 2, none⟩ = some (.int .i64 S.bad) := blk_c hbx 2
    have hr5 := lt_of_block hbx
    clear hbx hk5 CK HX HR4 HLV HB4
    unfold rtokV
    have z0 := blk_c HR5.out 0; have z1 := blk_c HR5.out 1; have z2 := blk_c HR5.out 2; have z3 := blk_c HR5.out 3; have z4 := blk_c HR5.out 4
    have f0 := blk_f HR5.out 0; have f1 := blk_f HR5.out 1; have f2 := blk_f HR5.out 2; have f3 := blk_f HR5.out 3; have f4 := blk_f HR5.out 4
    have hl5 := lt_of_block HR5.out
    by_cases hbad : 0 ≤ S.bad
    · have hbb : decide (S.bad ≥ 0) = true := by rw [decide_eq_true_iff]; omega
      obtain ⟨n, hn⟩ : ∃ n : Nat, S.bad = n := ⟨S.bad.toNat, by omega⟩
      have HE : Hid (RR = .error (n, 3)) := Lib.hid (by rw [HPT.out, if_pos hbad]; congr 2; omega)
      rw [hn] at u2b hbb
      clear hbad hn
      go_wp2_with fail
      go_region
      all_goals
        go_wp2_with fail
        have zb : (((((w5.setCell ⟨w.heap.size, 0, none⟩ (.string ⟨#[]⟩)).setCell ⟨w.heap.size, 1, none⟩ (.int .i64 0)).setCell ⟨w.heap.size, 2, none⟩ (.int .i64 0)).setCell ⟨w.heap.size, 3, none⟩ (.slice none 0 0)).setCell ⟨w.heap.size, 4, none⟩ (.int .i64 0)).drew.heap[w.heap.size]? = some (.cells #[.string ⟨#[]⟩, .int .i64 0, .int .i64 0, .slice none 0 0, .int .i64 0] 24 (0, 0)) := zero5 HR5.out
        have zl : Below w.heap.size w (((((w5.setCell ⟨w.heap.size, 0, none⟩ (.string ⟨#[]⟩)).setCell ⟨w.heap.size, 1, none⟩ (.int .i64 0)).setCell ⟨w.heap.size, 2, none⟩ (.int .i64 0)).setCell ⟨w.heap.size, 3, none⟩ (.slice none 0 0)).setCell ⟨w.heap.size, 4, none⟩ (.int .i64 0)).drew := (below5 HB5.out (Nat.le_refl _) _ _ _ _ _).drew
        generalize (((((w5.setCell ⟨w.heap.size, 0, none⟩ (.string ⟨#[]⟩)).setCell ⟨w.heap.size, 1, none⟩ (.int .i64 0)).setCell ⟨w.heap.size, 2, none⟩ (.int .i64 0)).setCell ⟨w.heap.size, 3, none⟩ (.slice none 0 0)).setCell ⟨w.heap.size, 4, none⟩ (.int .i64 0)).drew = Z at zb zl ⊢
        have e0 := blk_c zb 0; have e1 := blk_c zb 1; have e2 := blk_c zb 2; have e3 := blk_c zb 3; have e4 := blk_c zb 4
        refine bodyPost_ret (v := .tuple #[.agg #[.string ⟨#[]⟩, .int .i64 0, .int .i64 0, .slice none 0 0, .int .i64 0], .int .i64 n, .int .i64 3]) (by simp [results, Tryd.results19, go_sem, e0, e1, e2, e3, e4]) rfl ?_
        exact BuildPost.err HE.out zl
    · have hbb : decide (S.bad ≥ 0) = false := by rw [decide_eq_false_iff_not]; omega
      have HE : Hid (RR = Rp.bldS R.1) := Lib.hid (by rw [HPT.out, if_neg hbad])
      have hxl := lt_of_block HX5.out
      have x0 : w5.cell? ⟨w3.heap.size, 0, none⟩ = some (.string (bs R.1.name.txt)) := blk_c HX5.out 0
      have x1 : w5.cell? ⟨w3.heap.size, 1, none⟩ = some (.int .i64 R.1.name.at_) := blk_c HX5.out 1
      have x2 : w5.cell? ⟨w3.heap.size, 2, none⟩ = some (.int .i64 R.1.name.kind) := blk_c HX5.out 2
      have x3 : w5.cell? ⟨w3.heap.size, 3, none⟩ = some (.int .i64 R.1.name.n) := blk_c HX5.out 3
      have x4 : w5.cell? ⟨w3.heap.size, 4, none⟩ = some (.slice Al R.1.lines.length ql) := blk_c HX5.out 4
      have CB := Lib.hid (rbuild_any R.1 (.agg #[.string (bs R.1.name.txt), .int .i64 R.1.name.at_, .int .i64 R.1.name.kind, .int .i64 R.1.name.n, .slice Al R.1.lines.length ql]) u2.heap.size w5 ⟨_, rfl, HLV5.out⟩ (by have := HCF.out.name; omega) (by have := HCF.out.len; omega) (fun y hy => ⟨by have := (HCF.out.each y hy).a; omega, by have := (HCF.out.each y hy).b; omega, (HCF.out.each y hy).ne⟩))
      clear hbad z0 z1 z2 z3 z4 f0 f1 f2 f3 f4
      go_wp2_with fail
      refine CB.out.mono ?_
      rintro e w6 ⟨hh, hb6⟩
      have HR6 := Lib.hid ((hb6.block _ hl5).trans HR5.out)
      have HB6 := Lib.hid (HB5.out.trans (hb6.mono HB5.out.size))
      have hl6 := lt_of_block HR6.out
      clear x0 x1 x2 x3 x4 CB
      have z0 := blk_c HR6.out 0; have z1 := blk_c HR6.out 1; have z2 := blk_c HR6.out 2; have z3 := blk_c HR6.out 3; have z4 := blk_c HR6.out 4
      have f0 := blk_f HR6.out 0; have f1 := blk_f HR6.out 1; have f2 := blk_f HR6.out 2; have f3 := blk_f HR6.out 3; have f4 := blk_f HR6.out 4
      rcases hr : Rp.bldS R.1 with ⟨a, b⟩ | c
      · rw [hr] at hh
        dsimp only at hh
        subst hh
        have HE2 : Hid (RR = .error (a, b)) := Lib.hid (by rw [HE.out, hr])
        clear hr hb6
        go_wp2_with fail
        have zb : (((((w6.setCell ⟨w.heap.size, 0, none⟩ (.string ⟨#[]⟩)).setCell ⟨w.heap.size, 1, none⟩ (.int .i64 0)).setCell ⟨w.heap.size, 2, none⟩ (.int .i64 0)).setCell ⟨w.heap.size, 3, none⟩ (.slice none 0 0)).setCell ⟨w.heap.size, 4, none⟩ (.int .i64 0)).heap[w.heap.size]? = some (.cells #[.string ⟨#[]⟩, .int .i64 0, .int .i64 0, .slice none 0 0, .int .i64 0] 24 (0, 0)) := zero5 HR6.out
        have zl : Below w.heap.size w (((((w6.setCell ⟨w.heap.size, 0, none⟩ (.string ⟨#[]⟩)).setCell ⟨w.heap.size, 1, none⟩ (.int .i64 0)).setCell ⟨w.heap.size, 2, none⟩ (.int .i64 0)).setCell ⟨w.heap.size, 3, none⟩ (.slice none 0 0)).setCell ⟨w.heap.size, 4, none⟩ (.int .i64 0)) := below5 HB6.out (Nat.le_refl _) _ _ _ _ _
        generalize (((((w6.setCell ⟨w.heap.size, 0, none⟩ (.string ⟨#[]⟩)).setCell ⟨w.heap.size, 1, none⟩ (.int .i64 0)).setCell ⟨w.heap.size, 2, none⟩ (.int .i64 0)).setCell ⟨w.heap.size, 3, none⟩ (.slice none 0 0)).setCell ⟨w.heap.size, 4, none⟩ (.int .i64 0)) = Z at zb zl ⊢
        have e0 := blk_c zb 0; have e1 := blk_c zb 1; have e2 := blk_c zb 2; have e3 := blk_c zb 3; have e4 := blk_c zb 4
        refine bodyPost_ret (v := .tuple #[.agg #[.string ⟨#[]⟩, .int .i64 0, .int .i64 0, .slice none 0 0, .int .i64 0], .int .i64 a, .int .i64 b]) (by simp [results, Tryd.results19, go_sem, e0, e1, e2, e3, e4]) rfl ?_
        exact BuildPost.err HE2.out zl
      · rw [hr] at hh
        obtain ⟨v6, rfl, vp, rfl, hpv⟩ := hh
        obtain ⟨Ap, qp, rfl⟩ : ∃ A q, vp = .slice A c.parity.length q := by obtain ⟨cs, ho, _⟩ := hpv; exact own_slice ho
        have HE2 : Hid (RR = .ok c) := Lib.hid (by rw [HE.out, hr])
        have HPV := Lib.hid hpv
        clear hr hb6 hpv
        unfold codeV
        go_wp2_with fail
        have q0 : (((((w6.setCell ⟨w.heap.size, 0, none⟩ (.string (bs c.name))).setCell ⟨w.heap.size, 1, none⟩ (.int .i64 c.field)).setCell ⟨w.heap.size, 2, none⟩ (.int .i64 c.data)).setCell ⟨w.heap.size, 3, none⟩ (.slice Ap c.parity.length qp)).setCell ⟨w.heap.size, 4, none⟩ (.int .i64 c.domain)).heap[w.heap.size]? = some (.cells #[.string (bs c.name), .int .i64 c.field, .int .i64 c.data, .slice Ap c.parity.length qp, .int .i64 c.domain] 24 (0, 0)) := (blk_set (blk_set (blk_set (blk_set (blk_set HR6.out 0 (.string (bs c.name))) 1 (.int .i64 c.field)) 2 (.int .i64 c.data)) 3 (.slice Ap c.parity.length qp)) 4 (.int .i64 c.domain))
        have q1 : Below w.heap.size w (((((w6.setCell ⟨w.heap.size, 0, none⟩ (.string (bs c.name))).setCell ⟨w.heap.size, 1, none⟩ (.int .i64 c.field)).setCell ⟨w.heap.size, 2, none⟩ (.int .i64 c.data)).setCell ⟨w.heap.size, 3, none⟩ (.slice Ap c.parity.length qp)).setCell ⟨w.heap.size, 4, none⟩ (.int .i64 c.domain)) := (((((HB6.out.setCell (p := ⟨w.heap.size, 0, none⟩) (Nat.le_refl _) _).setCell (p := ⟨w.heap.size, 1, none⟩) (Nat.le_refl _) _).setCell (p := ⟨w.heap.size, 2, none⟩) (Nat.le_refl _) _).setCell (p := ⟨w.heap.size, 3, none⟩) (Nat.le_refl _) _).setCell (p := ⟨w.heap.size, 4, none⟩) (Nat.le_refl _) _)
        have q2 : ParV w.heap.size c.parity (((((w6.setCell ⟨w.heap.size, 0, none⟩ (.string (bs c.name))).setCell ⟨w.heap.size, 1, none⟩ (.int .i64 c.field)).setCell ⟨w.heap.size, 2, none⟩ (.int .i64 c.data)).setCell ⟨w.heap.size, 3, none⟩ (.slice Ap c.parity.length qp)).setCell ⟨w.heap.size, 4, none⟩ (.int .i64 c.domain)) (.slice Ap c.parity.length qp) := ParV.mono (((((HPV.out.far (p := ⟨w.heap.size, 0, none⟩) hl5 _).far (p := ⟨w.heap.size, 1, none⟩) hl5 _).far (p := ⟨w.heap.size, 2, none⟩) hl5 _).far (p := ⟨w.heap.size, 3, none⟩) hl5 _).far (p := ⟨w.heap.size, 4, none⟩) hl5 _) (Nat.le_of_lt hl5)
        generalize (((((w6.setCell ⟨w.heap.size, 0, none⟩ (.string (bs c.name))).setCell ⟨w.heap.size, 1, none⟩ (.int .i64 c.field)).setCell ⟨w.heap.size, 2, none⟩ (.int .i64 c.data)).setCell ⟨w.heap.size, 3, none⟩ (.slice Ap c.parity.length qp)).setCell ⟨w.heap.size, 4, none⟩ (.int .i64 c.domain)) = Z at q0 q1 q2 ⊢
        have e0 := blk_c q0 0; have e1 := blk_c q0 1; have e2 := blk_c q0 2; have e3 := blk_c q0 3; have e4 := blk_c q0 4
        refine bodyPost_ret (v := .tuple #[.agg #[.string (bs c.name), .int .i64 c.field, .int .i64 c.data, .slice Ap c.parity.length qp, .int .i64 c.domain], .int .i64 0, .int .i64 0]) (by simp [results, Tryd.results19, go_sem, e0, e1, e2, e3, e4]) rfl ?_
        unfold BuildPost
        rw [HE2.out]
        exact ⟨⟨_, rfl, .slice Ap c.parity.length qp, rfl, q2⟩, q1⟩
  · have hlb : decide ((s.size : Int) > 2000) = true := by rw [decide_eq_true_iff]; omega
    have HE : Hid (RR = .error (0, 2)) := Lib.hid (by rw [HRR.out]; unfold Rp.parse1; rw [if_pos (by omega)])
    go_enter Tryd.func19, Tryd.ntmps19
    go_wp2_with fail
    change bodyPost _ _ _ _ _ (w.alloc (.cells #[.string ⟨#[]⟩, .int .i64 0, .int .i64 0, .slice none 0 0, .int .i64 0] 24))
    have zb := HR.out
    have zl := HB.out
    generalize w.alloc (.cells #[.string ⟨#[]⟩, .int .i64 0, .int .i64 0, .slice none 0 0, .int .i64 0] 24) = Z at zb zl ⊢
    have e0 := blk_c zb 0; have e1 := blk_c zb 1; have e2 := blk_c zb 2; have e3 := blk_c zb 3; have e4 := blk_c zb 4
    refine bodyPost_ret (v := .tuple #[.agg #[.string ⟨#[]⟩, .int .i64 0, .int .i64 0, .slice none 0 0, .int .i64 0], .int .i64 (0 : Nat), .int .i64 (2 : Nat)]) (by simp [results, Tryd.results19, go_sem, e0, e1, e2, e3, e4]) rfl ?_
    exact BuildPost.err HE.out zl
end Go.Proofs.YtppeplonnippcaaDoor
