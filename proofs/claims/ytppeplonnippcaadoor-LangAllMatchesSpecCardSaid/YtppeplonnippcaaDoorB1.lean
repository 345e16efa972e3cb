/-
Layer 7: a source is built.
-/
import Derived.Test.YtppeplonnippcaaDoorB0
import Derived.Deep.DeepCutAuto
import Derived.Deep.RegionHeld2
set_option linter.unusedVariables false
set_option linter.unusedSimpArgs false
namespace Go.Proofs.YtppeplonnippcaaDoor
open Go.RowKit

theorem bel_then {w w1 w2 : World} (h : Below w.heap.size w w1) (k : Below w1.heap.size w1 w2) : Below w.heap.size w w2 := h.trans (k.mono h.size)

theorem isF_no {n : Nat} (h : isF n = false) : ¬ (n = 8 ∨ n = 16) := by
  simp only [isF, Bool.or_eq_false_iff, decide_eq_false_iff_not] at h; omega

theorem bld_bad {s : Sp.Src} {x : Sp.Row} {l : List Sp.Row} {acc : List (List Int)} {T p er : Nat} {V : Sp.Code → World → Value → Prop} {w w' : World} (h1 : ¬ 12 < s.name.txt.length) (h2 : s.field.n = 8 ∨ s.field.n = 16) (h3 : 1 ≤ s.data.n) (h4 : s.data.n ≤ 31)
    (hT : T = Sp.topOf s.field.n) {rest : List Sp.Row} (h5 : Sp.bldRows s.data.n T acc rest = Sp.bldRows s.data.n T [] s.rows) (h6 : rest = x :: l) (h7 : s.data.n + acc.length < 32) (h8 : Sp.bldRow x s.data.n T = .error (p, er)) (hb : Below w.heap.size w w') :
    BldPost V (Sp.bld s) w (Wrong p er) w' := by
  unfold Sp.bld
  rw [if_neg h1, if_neg (fun hh => hh h2), if_neg (fun hh => hh ⟨h3, h4⟩), ← hT, ← h5, h6, Sp.bldRows, if_pos h7, h8]
  exact ⟨rfl, hb⟩

theorem own_ne_type {w : World} {base e size n : Nat} {v : Value} {xs : List Value} (h : w.ownsRow base e size v n xs) {b : Nat} {cs : Array Value} {t : TypeId} {fr : Nat × Nat} (hb : w.heap[b]? = some (.cells cs t fr)) (ht : e ≠ t) : v.ownBlock ≠ some b := by
  intro ee
  rcases h.2 with ⟨rfl, _⟩ | ⟨g, cap, cur, rfl, _, hh, _⟩
  · simp [Value.ownBlock] at ee
  · have : g = b := by simpa [Value.ownBlock] using ee
    subst this
    rw [hh] at hb
    injection hb with hb
    injection hb with _ h2
    exact ht h2

theorem pw_below_drewN' {B : Nat} {w W : World} (h : Below B w W) (n : Nat) : Below B w (W.drewN n) := ⟨h.os, h.tape, h.output, h.size, h.block⟩

def z24 : Obj := .cells #[.string ⟨#[]⟩, .int .i64 0, .int .i64 0, .slice none 0 0, .int .i64 0] 24

set_option maxRecDepth 100000 in
set_option maxHeartbeats 4000000 in
theorem bldSrc_any (s : Sp.Src) (v : Value) (b0 : Nat) (w : World) (hv : SrcV b0 s w v) (hn : s.name.txt.length ≤ 3000) (hf : s.field.n ≤ 99999) (hdn : s.data.n ≤ 99999)
    (hrl : s.rows.length ≤ 3000) (hrr : ∀ x ∈ s.rows, x.idx.length ≤ 3000 ∧ x.coef.length ≤ 3000) (hdo : ∀ t, s.dom = some t → t.txt ≠ [] ∧ t.n ≤ 99999) :
    Calls Tryd.prog 61 #[v] w (BldPost (CodeV w.heap.size) (Sp.bld s) w) := by
  obtain ⟨vr, rfl, hrows⟩ := hv
  obtain ⟨Ar, qr, hvr⟩ : ∃ Ar qr, vr = .slice Ar s.rows.length qr := by obtain ⟨cs, ho, _⟩ := hrows; exact own_slice ho
  subst hvr
  have HR := Lib.hid hrows; have HRR := Lib.hid hrr; have HDO := Lib.hid hdo
  clear hrows hrr hdo
  obtain ⟨q, hq⟩ : ∃ q, q = bs s.name.txt := ⟨_, rfl⟩
  have hqs : q.size = s.name.txt.length := by rw [hq]; rfl
  have HQS := Lib.hid hqs
  have hq3 : q.size ≤ 3000 := by omega
  rw [← hq]
  have HQ := Lib.hid hq
  clear hq hqs
  by_cases h1 : q.size ≤ 12
  · have h1b : decide ((q.size : Int) ≤ 12) = true := by simp; omega
    go_enter Tryd.func61, Tryd.ntmps61
    go_wp2_with (go_at_call 60; refine (demand_yes _ _ _).mono ?_; rintro e w' ⟨rfl, rfl⟩)
    have HN : Hid (¬ 12 < s.name.txt.length) := Lib.hid (by rw [← HQS.out]; omega)
    go_cut [] (fun wx => ∃ n, wx = ((w.alloc (.cells #[.int .i64 s.name.at_, .int .i64 s.name.n, .string q, .int .i64 s.field.at_, .int .i64 s.field.n, .string (bs s.field.txt), .int .i64 s.data.at_, .int .i64 s.data.n, .string (bs s.data.txt), .slice Ar s.rows.length qr, .int .i64 (domV s.dom).at_, .int .i64 (domV s.dom).n, .string (bs (domV s.dom).txt)] 95)).alloc z24).drewN n ∧ isF s.field.n = true)
    case first =>
      go_region_law (first | (go_simp; go_at_call 34; refine (isField_any _ _).mono ?_; rintro e w' ⟨rfl, rfl⟩) | (go_simp; go_at_call 60; refine (demand_any _ _ _ _).mono ?_; rintro e w' hh; rcases hh with ⟨hb, rfl, rfl⟩ | ⟨hb, rfl, rfl⟩; rotate_left; (have hnn := isF_no hb; refine ⟨rfl, ?_⟩; unfold Sp.bld; rw [if_neg HN.out, if_pos hnn]; exact ⟨rfl, pw_below_drewN' (((Below.refl _ _).alloc (Nat.le_refl _) _).alloc (by simp) _) 1⟩); have HB := Lib.hid hb; clear hb))
      all_goals
        go_wp2_with fail
        go_meet
        case rel => exact ⟨1, rfl, HB.out⟩
    case rest =>
      obtain ⟨n, hwx, hF⟩ := hcut
      have hFN : s.field.n = 8 ∨ s.field.n = 16 := by simpa [isF] using hF
      have b1 : wc.heap[w.heap.size]? = some (.cells #[.int .i64 s.name.at_, .int .i64 s.name.n, .string q, .int .i64 s.field.at_, .int .i64 s.field.n, .string (bs s.field.txt), .int .i64 s.data.at_, .int .i64 s.data.n, .string (bs s.data.txt), .slice Ar s.rows.length qr, .int .i64 (domV s.dom).at_, .int .i64 (domV s.dom).n, .string (bs (domV s.dom).txt)] 95 (0, 0)) := by rw [hwx]; exact blk_old (heap_alloc_new w _) _
      have b2 : wc.heap[w.heap.size + 1]? = some z24 := by
        rw [hwx]
        have := heap_alloc_new (w.alloc (.cells #[.int .i64 s.name.at_, .int .i64 s.name.n, .string q, .int .i64 s.field.at_, .int .i64 s.field.n, .string (bs s.field.txt), .int .i64 s.data.at_, .int .i64 s.data.n, .string (bs s.data.txt), .slice Ar s.rows.length qr, .int .i64 (domV s.dom).at_, .int .i64 (domV s.dom).n, .string (bs (domV s.dom).txt)] 95)) z24
        simpa using this
      have hsz : wc.heap.size = w.heap.size + 2 := by rw [hwx]; show ((w.alloc _).alloc _).heap.size = _; simp only [World.size_alloc]
      have hbel : Below w.heap.size w wc := by rw [hwx]; exact pw_below_drewN' (((Below.refl _ _).alloc (Nat.le_refl _) _).alloc (by simp) _) n
      clear hwx hF
      have c7 := blk_c b1 7; have c6 := blk_c b1 6
      have B1 := Lib.hid b1; have B2 := Lib.hid b2; have BL := Lib.hid hbel; have HFN := Lib.hid hFN; have HSZ := Lib.hid hsz
      clear b1 b2 hbel hFN hsz
      by_cases h2 : 1 ≤ s.data.n
      · have h2b : decide ((1 : Int) ≤ (s.data.n : Int)) = true := by simp; omega
        by_cases h3 : s.data.n ≤ 31
        · have h3b : decide ((s.data.n : Int) ≤ 31) = true := by simp; omega
          have c2 := blk_c B1.out 2; have c4 := blk_c B1.out 4
          have c9 := blk_c B1.out 9
          have hC0 : w.heap.size < wc.heap.size := by rw [HSZ.out]; omega
          have hC1 : w.heap.size + 1 < wc.heap.size := by rw [HSZ.out]; omega
          go_wp2_with (go_at_call 60; refine (demand_yes _ _ _).mono ?_; rintro e w' ⟨rfl, rfl⟩)
          have b1 := blk_old B1.out (.cells #[.string q, .int .i64 s.field.n, .int .i64 s.data.n, .slice none 0 0, .int .i64 0] 24)
          have b2 := blk_old B2.out (.cells #[.string q, .int .i64 s.field.n, .int .i64 s.data.n, .slice none 0 0, .int .i64 0] 24)
          have b3 := heap_alloc_new wc (.cells #[.string q, .int .i64 s.field.n, .int .i64 s.data.n, .slice none 0 0, .int .i64 0] 24)
          have bl := BL.out.alloc BL.out.size (.cells #[.string q, .int .i64 s.field.n, .int .i64 s.data.n, .slice none 0 0, .int .i64 0] 24)
          generalize wc.alloc (.cells #[.string q, .int .i64 s.field.n, .int .i64 s.data.n, .slice none 0 0, .int .i64 0] 24) = u0 at *
          clear B1 B2 BL HSZ
          clear c2 c4 c9 c6 c7
          generalize wc.heap.size = C at *
          have B1 := Lib.hid b1; have B2 := Lib.hid b2; have B3 := Lib.hid b3; have BL := Lib.hid bl
          clear b1 b2 b3 bl
          obtain ⟨T, hT⟩ : ∃ T, T = Sp.topOf s.field.n := ⟨_, rfl⟩
          have hT2 : T ≤ 65535 := by rw [hT]; rcases HFN.out with h | h <;> rw [h] <;> decide
          have hTT : IntKind.i64.wrap (IntKind.i64.wrap ((2 : Int) ^ min s.field.n 64) - 1) = (T : Int) := by
            rw [hT]; rcases HFN.out with h | h <;> rw [h] <;> rfl
          have HTT := Lib.hid hTT
          clear hTT
          have HT := Lib.hid hT
          clear hT
          go_loopg [50] s.rows.length (fun k v50 wr => ∃ (j : Nat) (acc : List (List Int)) (vp : Value), k = s.rows.length - j ∧ j ≤ s.rows.length ∧ v50 = .int .i64 j ∧ acc.length = j ∧
            Sp.bldRows s.data.n T acc (s.rows.drop j) = Sp.bldRows s.data.n T [] s.rows ∧ Below w.heap.size w wr ∧ wr.heap[w.heap.size]? = some (.cells #[.int .i64 s.name.at_, .int .i64 s.name.n, .string q, .int .i64 s.field.at_, .int .i64 s.field.n, .string (bs s.field.txt), .int .i64 s.data.at_, .int .i64 s.data.n, .string (bs s.data.txt), .slice Ar s.rows.length qr, .int .i64 (domV s.dom).at_, .int .i64 (domV s.dom).n, .string (bs (domV s.dom).txt)] 95 (0, 0)) ∧ wr.heap[w.heap.size + 1]? = some z24 ∧
            wr.heap[C]? = some (.cells #[.string q, .int .i64 s.field.n, .int .i64 s.data.n, vp, .int .i64 0] 24 (0, 0)) ∧ ParV (C + 1) acc wr vp)
          case atStart => exact ⟨0, [], .slice none 0 0, rfl, Nat.zero_le _, rfl, rfl, rfl, BL.out, B1.out, B2.out, B3.out, [], World.ownsRow_nil _ _ _ _, rfl⟩
          case round =>
            obtain ⟨j, acc, vp, hk, hj, rfl, hal, hbr, hbel, b1, b2, b3, hpar⟩ := hrel
            obtain ⟨csp, hop, hip⟩ := hpar
            obtain ⟨Ap, qp, rfl⟩ := own_slice hop
            have J1 := Lib.hid hk; have J2 := Lib.hid hbr; have J3 := Lib.hid hbel; have J4 := Lib.hid b1; have J5 := Lib.hid b2; have J6 := Lib.hid b3; have J7 := Lib.hid hop; have J8 := Lib.hid hip; have JA := Lib.hid hal
            clear B1 B2 B3 BL
            by_cases hlt : j < s.rows.length
            · have hrw := HR.out.below J3.out
              obtain ⟨g, vi, vc, hA, c0, c1, c2, c3, hmi, hmc⟩ := RowsV.at_ hrw j hlt
              subst hA
              obtain ⟨Ai, qi, rfl⟩ := own_slice hmi
              obtain ⟨Ac, qc, rfl⟩ := own_slice hmc
              have HMI := Lib.hid hmi; have HMC := Lib.hid hmc
              have hdrop := Lib.hid (List.drop_eq_getElem_cons hlt)
              have hlens := HRR.out _ (List.getElem_mem hlt)
              have d1 := blk_c b3 1; have d2 := blk_c b3 2; have d3 := blk_c b3 3
              have hCl := lt_of_block b3
              have hlc : acc.length ≤ 3000 := by omega
              clear hk hbr hbel b1 b2 b3 hop hip hrw hmi hmc hal
              by_cases h5 : s.data.n + acc.length < 32
              · have h5b : decide ((s.data.n : Int) + (acc.length : Int) < 32) = true := by simp; omega
                go_wp2_with (go_at_call 60; refine (demand_yes _ _ _).mono ?_; rintro e w' ⟨rfl, rfl⟩)
                have b1 := blk_old J4.out (.cells #[.int .i64 s.rows[j].at_, .bool s.rows[j].loc, .slice Ai s.rows[j].idx.length qi, .slice Ac s.rows[j].coef.length qc] 117)
                have b2 := blk_old J5.out (.cells #[.int .i64 s.rows[j].at_, .bool s.rows[j].loc, .slice Ai s.rows[j].idx.length qi, .slice Ac s.rows[j].coef.length qc] 117)
                have b3 := blk_old J6.out (.cells #[.int .i64 s.rows[j].at_, .bool s.rows[j].loc, .slice Ai s.rows[j].idx.length qi, .slice Ac s.rows[j].coef.length qc] 117)
                have b4 := heap_alloc_new wr (.cells #[.int .i64 s.rows[j].at_, .bool s.rows[j].loc, .slice Ai s.rows[j].idx.length qi, .slice Ac s.rows[j].coef.length qc] 117)
                have bl := J3.out.alloc J3.out.size (.cells #[.int .i64 s.rows[j].at_, .bool s.rows[j].loc, .slice Ai s.rows[j].idx.length qi, .slice Ac s.rows[j].coef.length qc] 117)
                have hop := J7.out.alloc (.cells #[.int .i64 s.rows[j].at_, .bool s.rows[j].loc, .slice Ai s.rows[j].idx.length qi, .slice Ac s.rows[j].coef.length qc] 117)
                have hip := ParIn.keep (w := wr) (w' := wr.alloc (.cells #[.int .i64 s.rows[j].at_, .bool s.rows[j].loc, .slice Ai s.rows[j].idx.length qi, .slice Ac s.rows[j].coef.length qc] 117)) (fun m v hm => World.ownsRow.alloc hm (.cells #[.int .i64 s.rows[j].at_, .bool s.rows[j].loc, .slice Ai s.rows[j].idx.length qi, .slice Ac s.rows[j].coef.length qc] 117)) J8.out
                have hmi := World.ownsRow.alloc HMI.out (.cells #[.int .i64 s.rows[j].at_, .bool s.rows[j].loc, .slice Ai s.rows[j].idx.length qi, .slice Ac s.rows[j].coef.length qc] 117)
                have hmc := World.ownsRow.alloc HMC.out (.cells #[.int .i64 s.rows[j].at_, .bool s.rows[j].loc, .slice Ai s.rows[j].idx.length qi, .slice Ac s.rows[j].coef.length qc] 117)
                have hXw : w.heap.size < wr.heap.size := lt_of_block J4.out
                have hlX : (wr.alloc (.cells #[.int .i64 s.rows[j].at_, .bool s.rows[j].loc, .slice Ai s.rows[j].idx.length qi, .slice Ac s.rows[j].coef.length qc] 117)).heap.size = wr.heap.size + 1 := World.size_alloc _ _
                clear J3 J4 J5 J6 J7 J8 HMI HMC c0 c1 c2 c3 d1 d2 d3
                generalize wr.alloc (.cells #[.int .i64 s.rows[j].at_, .bool s.rows[j].loc, .slice Ai s.rows[j].idx.length qi, .slice Ac s.rows[j].coef.length qc] 117) = ur at *
                generalize wr.heap.size = X at *
                have hXC : ¬ X = C := by omega
                have hX1 : C < ur.heap.size := by omega
                clear hlX
                have d1 := blk_c b3 1; have d2 := blk_c b3 2; have d3 := blk_c b3 3
                have x0 := blk_c b4 0; have x1 := blk_c b4 1; have x2 := blk_c b4 2; have x3 := blk_c b4 3
                have J3 := Lib.hid bl; have J4 := Lib.hid b1; have J5 := Lib.hid b2; have J6 := Lib.hid b3; have J7 := Lib.hid hop; have J8 := Lib.hid hip
                have CB : Hid (Calls Tryd.prog 80 #[.agg #[.int .i64 s.rows[j].at_, .bool s.rows[j].loc, .slice Ai s.rows[j].idx.length qi, .slice Ac s.rows[j].coef.length qc], .int .i64 s.data.n, .int .i64 (IntKind.i64.wrap (IntKind.i64.wrap ((2 : Int) ^ min s.field.n 64) - 1))] ur.drew (BldPost (RowV ur.drew.heap.size) (Sp.bldRow s.rows[j] s.data.n T) ur.drew)) := Lib.hid (by rw [HTT.out]; exact bldRow_any s.rows[j] _ _ b0 s.data.n T ur.drew (show MarksV b0 s.rows[j].idx ur.drew _ from hmi) (show MarksV b0 s.rows[j].coef ur.drew _ from hmc) hlens.1 hlens.2 h2 h3 hT2)
                have J9 := Lib.hid b4; have hX2 : X < ur.drew.heap.size := lt_of_block b4
                clear bl b1 b2 b3 b4 hop hip hmi hmc
                obtain ⟨i0, hi, hz0, hz1, hz2⟩ := info_parts info61
                go_region_law (first | (go_simp; go_at_call 80; refine CB.out.mono ?_; rintro e w6 hh; rcases h1 : Sp.bldRow s.rows[j] s.data.n T with ⟨p, er⟩ | rr; (rw [h1] at hh; obtain ⟨he, hk⟩ := hh; unfold Wrong at he; subst he; exact ⟨rfl, bld_bad HN.out HFN.out h2 h3 HT.out J2.out hdrop.out h5 h1 (bel_then J3.out.drew hk)⟩); rw [h1] at hh; have E6 := Lib.hid h1; clear h1; obtain ⟨v6, rfl, hv6, hk⟩ := hh; obtain ⟨A6, q6, rfl⟩ := own_slice hv6; have HO := Lib.hid (own_below (show ur.drew.ownsRow _ _ _ _ _ _ from J7.out) hk); have R6 := Lib.hid hv6; have HK := Lib.hid hk; have b3 := (hk.block C hX1).trans J6.out; have B6 := Lib.hid b3; have HN6 := Lib.hid (World.news_of_block (heap_alloc_new w6 (.cells #[.slice A6 rr.length q6] 61))); have HC6 : Hid (C < (w6.alloc (.cells #[.slice A6 rr.length q6] 61)).heap.size) := Lib.hid (Nat.lt_trans (lt_of_block b3) (by rw [World.size_alloc]; exact Nat.lt_succ_self _)); have k3 := blk_c b3 3; have kf3 := blk_f b3 3; have k3a := blk_c (blk_old b3 (.cells #[.slice A6 rr.length q6] 61)) 3; have b4 := (hk.block X hX2).trans J9.out; have kS := And.intro (blk_c b3 1) (And.intro (blk_c b3 2) (And.intro (blk_c b3 3) (And.intro (blk_c b4 0) (And.intro (blk_c b4 1) (And.intro (blk_c b4 2) (blk_c b4 3)))))); have KS := Lib.hid kS; have HXB := Lib.hid b4; have hX3 := Lib.hid (lt_of_block b4); clear hv6 hk b3 b4 kS) | (refine step_append_lies (w6.alloc (.cells #[.slice A6 rr.length q6] 61)) rfl (.tmp 65) (.tmp 74) 22 rfl (C + 1) 61 i0 _ 1 24 Tryd.underlying22 hi hz0 hz1 hz2 rfl (by decide) (.slice Ap acc.length qp) acc.length csp rfl (HO.out.alloc _) ⟨w6.heap.size, 0, none⟩ 1 1 [.slice A6 rr.length q6] rfl rfl HN6.out (by intro u hu; rw [List.mem_singleton.1 hu]; rfl) (by decide) (by unfold maxLen; omega) (by omega) HC6.out _ rfl ?_; intro g2 cap w7 hown hgrow hgat hglt; have HNC := (own_ne HO.out (b := C) (Nat.lt_succ_self _)).symm; have b3 := (hgrow.block C HC6.out HNC).trans (blk_old B6.out _); have k3' := blk_c b3 3; have kf3' := blk_f b3 3; have HX6 := HXB.out; have b4 := (hgrow.block X (Nat.lt_trans hX3.out (by rw [World.size_alloc]; exact Nat.lt_succ_self _)) (own_ne_type (HO.out.alloc (.cells #[.slice A6 rr.length q6] 61)) (blk_old HX6 _) (by decide)).symm).trans (blk_old HX6 _); have KS2 := Lib.hid (And.intro (blk_c b3 1) (And.intro (blk_c b3 2) (And.intro (blk_c b3 3) (And.intro (blk_c b4 0) (And.intro (blk_c b4 1) (And.intro (blk_c b4 2) (blk_c b4 3))))))); clear b4 HX6; have B7 := Lib.hid b3; have OW := Lib.hid hown; have GR := Lib.hid hgrow; clear b3 hown hgrow hgat hglt HNC))
                all_goals
                  go_wp2_with fail
                  have hl7 : Below w.heap.size w (w6.alloc (.cells #[.slice A6 rr.length q6] 61)) := (bel_then J3.out.drew HK.out).alloc (bel_then J3.out.drew HK.out).size _
                  have hl8 : Below w.heap.size w (w7.setCell ⟨C, 3, none⟩ (.slice (some ⟨g2, 0, none⟩) (acc.length + 1) cap)) := (hl7.grown GR.out hl7.size (own_ge HO.out (b := w.heap.size) (Nat.le_succ_of_le (Nat.le_of_lt hC0)))).setCell (p := ⟨C, 3, none⟩) (Nat.le_of_lt hC0) _
                  have keepR : ∀ {base : Nat} {m : List Int} {v : Value}, C < base → RowV base m w6 v → RowV base m (w7.setCell ⟨C, 3, none⟩ (.slice (some ⟨g2, 0, none⟩) (acc.length + 1) cap)) v := fun hb hm => own_far (World.ownsRow.kept (World.ownsRow.alloc hm (.cells #[.slice A6 rr.length q6] 61)) GR.out (own_type_ne (World.ownsRow.alloc hm (.cells #[.slice A6 rr.length q6] 61)) (HO.out.alloc (.cells #[.slice A6 rr.length q6] 61)) (by decide))) (p := ⟨C, 3, none⟩) hb _
                  have hip2 : ParIn (C + 1) (w7.setCell ⟨C, 3, none⟩ (.slice (some ⟨g2, 0, none⟩) (acc.length + 1) cap)) acc csp := ParIn.keep (w := ur.drew) (fun m v hm => keepR (Nat.lt_succ_self _) (own_below hm HK.out)) J8.out.drew
                  have hrr := own_mono (keepR (show C < ur.drew.heap.size from hX1) R6.out) (show C + 1 ≤ ur.drew.heap.size from hX1)
                  have b1 := blk_far (((GR.out.block w.heap.size (Nat.lt_trans hC0 HC6.out) (own_ne HO.out (b := w.heap.size) (Nat.lt_succ_of_lt hC0)).symm).trans (blk_old ((HK.out.block w.heap.size (Nat.lt_trans hC0 hX1)).trans J4.out) _))) (p := ⟨C, 3, none⟩) (Nat.ne_of_lt hC0) (.slice (some ⟨g2, 0, none⟩) (acc.length + 1) cap)
                  have b2 := blk_far (((GR.out.block (w.heap.size + 1) (Nat.lt_trans hC1 HC6.out) (own_ne HO.out (b := w.heap.size + 1) (Nat.lt_succ_of_lt hC1)).symm).trans (blk_old ((HK.out.block (w.heap.size + 1) (Nat.lt_trans hC1 hX1)).trans J5.out) _))) (p := ⟨C, 3, none⟩) (Nat.ne_of_lt hC1) (.slice (some ⟨g2, 0, none⟩) (acc.length + 1) cap)
                  have P1 := Lib.hid hl8; have P2 := Lib.hid hip2; have P3 := Lib.hid hrr; have P4 := Lib.hid b1; have P5 := Lib.hid b2
                  clear hl7 hl8 keepR hip2 hrr b1 b2
                  go_roundg (s.rows.length - (j + 1))
                  case measure => rw [J1.out]; omega
                  case rel =>
                    refine ⟨j + 1, acc ++ [rr], .slice (some ⟨g2, 0, none⟩) (acc.length + 1) cap, rfl, by omega, by go_num, by rw [List.length_append, JA.out]; rfl, ?_, P1.out, P4.out, P5.out, blk_set B7.out 3 _, ⟨csp ++ [.slice A6 rr.length q6], ?_, P2.out.snoc (show RowV (C + 1) rr _ (.slice A6 rr.length q6) from P3.out)⟩⟩
                    · have h := J2.out; rw [hdrop.out, Sp.bldRows, if_pos h5, E6.out] at h; exact h
                    · rw [List.length_append]; exact own_far OW.out (p := ⟨C, 3, none⟩) (Nat.lt_succ_self _) _
              · have h5b : decide ((s.data.n : Int) + (acc.length : Int) < 32) = false := by simp; omega
                go_wp2_with (go_at_call 60; refine (demand_no _ _ _).mono ?_; rintro e w' ⟨rfl, rfl⟩)
                refine ⟨rfl, ?_⟩
                unfold Sp.bld
                rw [if_neg HN.out, if_neg (fun hh => hh HFN.out), if_neg (by omega), ← HT.out, ← J2.out, hdrop.out, Sp.bldRows, if_neg h5]
                exact ⟨rfl, J3.out.alloc J3.out.size _⟩
            · have HB5 : Hid (Sp.bldRows s.data.n T [] s.rows = .ok acc) := Lib.hid (by rw [← hbr, List.drop_eq_nil_of_le (by omega)]; rfl)
              have hlc : acc.length ≤ 3000 := by omega
              have d1 := blk_c b3 1; have d2 := blk_c b3 2; have d3 := blk_c b3 3; have d4 := blk_c b3 4; have d0 := blk_c b3 0
              have f4 := blk_f b3 4
              have m11 := blk_c b1 11; have m10 := blk_c b1 10; have m12 := blk_c b1 12
              have r0 := blk_c b2 0; have r1 := blk_c b2 1; have r2 := blk_c b2 2; have r3 := blk_c b2 3; have r4 := blk_c b2 4
              have s0 := blk_f b2 0; have s1 := blk_f b2 1; have s2 := blk_f b2 2; have s3 := blk_f b2 3; have s4 := blk_f b2 4
              have hC0' : ¬ w.heap.size = C := by omega
              have hC0'' : ¬ C = w.heap.size := by omega
              have hC1' : ¬ w.heap.size + 1 = C := by omega
              have hC1'' : ¬ C = w.heap.size + 1 := by omega
              have hCl := lt_of_block b3
              clear hk hbr hbel b1 b2 b3 hop hip hal
              by_cases hdt : (domV s.dom).txt = []
              · have hE : (bs (domV s.dom).txt).toList = [] := by rw [Lib.toList_data]; exact hdt
                have HDN : Hid (s.dom = none) := Lib.hid (by
                  rcases hdm : s.dom with _ | t
                  · rfl
                  · rw [hdm] at hdt; exact absurd hdt (HDO.out t hdm).1)
                clear hdt
                go_wp2_with fail
                refine bodyPost_ret (v := codeV ⟨s.name.txt, s.field.n, s.data.n, acc, s.data.n + acc.length⟩ (.slice Ap acc.length qp)) (by simp [results, Tryd.results61, go_sem, r0, r1, r2, r3, r4, codeV, HQ.out]) rfl ?_
                unfold Sp.bld
                rw [if_neg HN.out, if_neg (fun hh => hh HFN.out), if_neg (fun hh => hh ⟨h2, h3⟩), ← HT.out, HB5.out]
                simp only [Sp.bldDom, HDN.out]
                refine ⟨_, rfl, ⟨_, rfl, (ParV.mono (ParV.far (ParV.far (ParV.far (ParV.far (ParV.far (ParV.far (⟨csp, J7.out, J8.out⟩ : ParV (C + 1) acc wr (.slice Ap acc.length qp)) (p := ⟨C, 4, none⟩) (Nat.lt_succ_self _) _) (p := ⟨w.heap.size + 1, 0, none⟩) (Nat.lt_succ_of_lt hC1) _) (p := ⟨w.heap.size + 1, 1, none⟩) (Nat.lt_succ_of_lt hC1) _) (p := ⟨w.heap.size + 1, 2, none⟩) (Nat.lt_succ_of_lt hC1) _) (p := ⟨w.heap.size + 1, 3, none⟩) (Nat.lt_succ_of_lt hC1) _) (p := ⟨w.heap.size + 1, 4, none⟩) (Nat.lt_succ_of_lt hC1) _) (Nat.le_succ_of_le (Nat.le_of_lt hC0)))⟩, ((((((J3.out.setCell (p := ⟨C, 4, none⟩) (Nat.le_of_lt hC0) _).setCell (p := ⟨w.heap.size + 1, 0, none⟩) (Nat.le_succ _) _).setCell (p := ⟨w.heap.size + 1, 1, none⟩) (Nat.le_succ _) _).setCell (p := ⟨w.heap.size + 1, 2, none⟩) (Nat.le_succ _) _).setCell (p := ⟨w.heap.size + 1, 3, none⟩) (Nat.le_succ _) _).setCell (p := ⟨w.heap.size + 1, 4, none⟩) (Nat.le_succ _) _)⟩
              · have hE := toList_n (q := bs (domV s.dom).txt) (by rw [bs_size]; exact List.length_pos_iff.2 hdt)
                have hE2 := toList_n2 (q := bs (domV s.dom).txt) (by rw [bs_size]; exact List.length_pos_iff.2 hdt)
                have hDS : ∃ t, s.dom = some t ∧ domV s.dom = t := by
                  rcases hdm : s.dom with _ | t
                  · rw [hdm] at hdt; exact absurd rfl hdt
                  · exact ⟨t, rfl, rfl⟩
                have hDn : (domV s.dom).n ≤ 99999 := by obtain ⟨t, e1, e2⟩ := hDS; rw [e2]; exact (HDO.out t e1).2
                have HDS := Lib.hid hDS
                clear hDS hdt
                by_cases h5 : 1 ≤ (domV s.dom).n
                · have h5b : decide ((1 : Int) ≤ ((domV s.dom).n : Int)) = true := by simp; omega
                  by_cases h6 : (domV s.dom).n ≤ s.data.n + acc.length
                  · have h6b : decide (((domV s.dom).n : Int) ≤ (s.data.n : Int) + (acc.length : Int)) = true := by simp; omega
                    go_wp2_with (go_at_call 60; refine (demand_yes _ _ _).mono ?_; rintro e w' ⟨rfl, rfl⟩)
                    refine bodyPost_ret (v := codeV ⟨s.name.txt, s.field.n, s.data.n, acc, (domV s.dom).n⟩ (.slice Ap acc.length qp)) (by simp [results, Tryd.results61, go_sem, r0, r1, r2, r3, r4, codeV, HQ.out]) rfl ?_
                    unfold Sp.bld
                    rw [if_neg HN.out, if_neg (fun hh => hh HFN.out), if_neg (fun hh => hh ⟨h2, h3⟩), ← HT.out, HB5.out]
                    dsimp only
                    rw [show Sp.bldDom s (s.data.n + acc.length) = .ok (domV s.dom).n from by obtain ⟨t, e1, e2⟩ := HDS.out; rw [e2] at h5 h6 ⊢; simp only [Sp.bldDom, e1]; rw [if_pos ⟨h5, h6⟩]]
                    refine ⟨_, rfl, ⟨_, rfl, (ParV.mono (ParV.far (ParV.far (ParV.far (ParV.far (ParV.far (ParV.far (ParV.far (⟨csp, J7.out, J8.out⟩ : ParV (C + 1) acc wr (.slice Ap acc.length qp)) (p := ⟨C, 4, none⟩) (Nat.lt_succ_self _) _) (p := ⟨C, 4, none⟩) (Nat.lt_succ_self _) _) (p := ⟨w.heap.size + 1, 0, none⟩) (Nat.lt_succ_of_lt hC1) _) (p := ⟨w.heap.size + 1, 1, none⟩) (Nat.lt_succ_of_lt hC1) _) (p := ⟨w.heap.size + 1, 2, none⟩) (Nat.lt_succ_of_lt hC1) _) (p := ⟨w.heap.size + 1, 3, none⟩) (Nat.lt_succ_of_lt hC1) _) (p := ⟨w.heap.size + 1, 4, none⟩) (Nat.lt_succ_of_lt hC1) _) (Nat.le_succ_of_le (Nat.le_of_lt hC0)))⟩, (((((((J3.out.setCell (p := ⟨C, 4, none⟩) (Nat.le_of_lt hC0) _).setCell (p := ⟨C, 4, none⟩) (Nat.le_of_lt hC0) _).setCell (p := ⟨w.heap.size + 1, 0, none⟩) (Nat.le_succ _) _).setCell (p := ⟨w.heap.size + 1, 1, none⟩) (Nat.le_succ _) _).setCell (p := ⟨w.heap.size + 1, 2, none⟩) (Nat.le_succ _) _).setCell (p := ⟨w.heap.size + 1, 3, none⟩) (Nat.le_succ _) _).setCell (p := ⟨w.heap.size + 1, 4, none⟩) (Nat.le_succ _) _)⟩
                  · have h6b : decide (((domV s.dom).n : Int) ≤ (s.data.n : Int) + (acc.length : Int)) = false := by simp; omega
                    go_wp2_with (go_at_call 60; refine (demand_no _ _ _).mono ?_; rintro e w' ⟨rfl, rfl⟩)
                    refine ⟨rfl, ?_⟩
                    unfold Sp.bld
                    rw [if_neg HN.out, if_neg (fun hh => hh HFN.out), if_neg (fun hh => hh ⟨h2, h3⟩), ← HT.out, HB5.out]
                    dsimp only
                    rw [show Sp.bldDom s (s.data.n + acc.length) = .error ((domV s.dom).at_, 1) from by obtain ⟨t, e1, e2⟩ := HDS.out; rw [e2] at h5 h6 ⊢; simp only [Sp.bldDom, e1]; rw [if_neg (fun hh => h6 hh.2)]]
                    exact ⟨rfl, J3.out.setCell (p := ⟨C, 4, none⟩) (Nat.le_of_lt hC0) _⟩
                · have h5b : decide ((1 : Int) ≤ ((domV s.dom).n : Int)) = false := by simp; omega
                  go_wp2_with (go_at_call 60; refine (demand_no _ _ _).mono ?_; rintro e w' ⟨rfl, rfl⟩)
                  refine ⟨rfl, ?_⟩
                  unfold Sp.bld
                  rw [if_neg HN.out, if_neg (fun hh => hh HFN.out), if_neg (fun hh => hh ⟨h2, h3⟩), ← HT.out, HB5.out]
                  dsimp only
                  rw [show Sp.bldDom s (s.data.n + acc.length) = .error ((domV s.dom).at_, 1) from by obtain ⟨t, e1, e2⟩ := HDS.out; rw [e2] at h5 ⊢; simp only [Sp.bldDom, e1]; rw [if_neg (fun hh => h5 hh.1)]]
                  exact ⟨rfl, J3.out.setCell (p := ⟨C, 4, none⟩) (Nat.le_of_lt hC0) _⟩
        · have h3b : decide ((s.data.n : Int) ≤ 31) = false := by simp; omega
          go_wp2_with (go_at_call 60; refine (demand_no _ _ _).mono ?_; rintro e w' ⟨rfl, rfl⟩)
          refine ⟨rfl, ?_⟩
          unfold Sp.bld
          rw [if_neg HN.out, if_neg (fun hh => hh HFN.out), if_pos (by omega)]
          exact ⟨rfl, BL.out⟩
      · have h2b : decide ((1 : Int) ≤ (s.data.n : Int)) = false := by simp; omega
        go_wp2_with (go_at_call 60; refine (demand_no _ _ _).mono ?_; rintro e w' ⟨rfl, rfl⟩)
        refine ⟨rfl, ?_⟩
        unfold Sp.bld
        rw [if_neg HN.out, if_neg (fun hh => hh HFN.out), if_pos (by omega)]
        exact ⟨rfl, BL.out⟩
  · have h1b : decide ((q.size : Int) ≤ 12) = false := by simp; omega
    go_enter Tryd.func61, Tryd.ntmps61
    go_wp2_with (go_at_call 60; refine (demand_no _ _ _).mono ?_; rintro e w' ⟨rfl, rfl⟩)
    refine ⟨rfl, ?_⟩
    unfold Sp.bld
    rw [if_pos (by rw [← HQS.out]; omega)]
    exact ⟨rfl, ((Below.refl _ _).alloc (Nat.le_refl _) _).alloc (by simp) _⟩
end Go.Proofs.YtppeplonnippcaaDoor
