/-
Layer 7: the reference's ParseAll.
-/
import Derived.Test.YtppeplonnippcaaDoorH7
import Derived.Test.YtppeplonnippcaaDoorB6
set_option linter.unusedVariables false
set_option linter.unusedSimpArgs false
namespace Go.Proofs.YtppeplonnippcaaDoor
open Go.RowKit

theorem info77 : (Tryd.prog.info? 77).map (fun i => (i.zero, i.size, i.bytes)) = some (some (.agg #[.string ⟨#[]⟩, .int .i64 0, .int .i64 0, .int .i64 0, .slice none 0 0]), 5, 64) := by kernel_rfl
def rsrcCells (x : Rp.Src) (vl : Value) : List Value := [.string (bs x.name.txt), .int .i64 x.name.at_, .int .i64 x.name.kind, .int .i64 x.name.n, vl]
def RSrcE (base : Nat) (w : World) (x : Rp.Src) (c : List Value) : Prop := ∃ vl, c = rsrcCells x vl ∧ RLinesV base x.lines w vl
def RSrcsV (base : Nat) (l : List Rp.Src) (w : World) (v : Value) : Prop := ∃ cs, w.ownsRow base 77 5 v l.length cs ∧ Chunks (RSrcE base w) l cs
theorem RLinesV.all {w w' : World} {b : Nat} {l : List Rp.Line} {v : Value} (h : RLinesV b l w v) (k : ∀ e, e = 101 ∨ e = 46 → Keeps w w' b e) : RLinesV b l w' v := by
  obtain ⟨cs, h1, h2⟩ := h
  exact ⟨cs, k _ (.inl rfl) _ _ _ _ h1, h2.keep fun m v hm => k _ (.inr rfl) _ _ _ _ hm⟩
theorem RSrcsV.all {w w' : World} {b : Nat} {l : List Rp.Src} {v : Value} (h : RSrcsV b l w v) (k : ∀ e, e = 77 ∨ e = 101 ∨ e = 46 → Keeps w w' b e) : RSrcsV b l w' v := by
  obtain ⟨cs, h1, h2⟩ := h
  exact ⟨cs, k _ (.inl rfl) _ _ _ _ h1, h2.keep fun x c ⟨vl, e, hv⟩ => ⟨vl, e, hv.all fun e he => k e (.inr he)⟩⟩
theorem RSrcsV.at_ {b0 : Nat} {l : List Rp.Src} {w : World} {A : Option Addr} {q : Nat} (h : RSrcsV b0 l w (.slice A l.length q)) (j : Nat) (hj : j < l.length) :
    ∃ g vl, A = some ⟨g, 0, none⟩ ∧ RLinesV b0 l[j].lines w vl ∧ ∀ k v, (rsrcCells l[j] vl)[k]? = some v → w.cell? ⟨g, j * 5 + k, none⟩ = some v := by
  obtain ⟨cs, ho, hin⟩ := h
  obtain ⟨g, cap, hv, hb, hlt⟩ := World.ownsRow.form ho (by omega)
  simp only [Value.slice.injEq, true_and] at hv
  obtain ⟨rfl, rfl⟩ := hv
  obtain ⟨c, ⟨vl, rfl, hr⟩, hc⟩ := hin.at_ (n := 5) (fun x c ⟨vl, e, _⟩ => by subst e; rfl) j hj
  refine ⟨g, vl, rfl, hr, fun k v hk => ?_⟩
  have hk5 : k < 5 := (List.getElem?_eq_some_iff.1 hk).1
  have := World.ownsRow.cells ho (g := g) rfl _ _ ((hc k hk5).trans hk)
  have add : ∀ k, (⟨g, 0, none⟩ : Addr).add k = ⟨g, k, none⟩ := by intro k; unfold Addr.add; split <;> simp_all
  rwa [add] at this
theorem RSrcsV.below {w w' : World} {b : Nat} {l : List Rp.Src} {v : Value} (h : RSrcsV b l w v) (k : Below w.heap.size w w') : RSrcsV b l w' v := h.all fun e _ => Keeps.below b e k
theorem Kp.below0 {r : Nat} {w W : World} (k : Kp r w W) (hr : w.heap.size ≤ r) : Below w.heap.size w W := ⟨k.os, k.tape, k.output, k.size, fun i hi => k.block i hi (by omega)⟩
theorem Keeps.kp {r : Nat} {w w' : World} {b : Nat} (e : TypeId) (k : Kp r w w') (hr : r < b) : Keeps w w' b e := fun _ _ _ _ h => own_kp h k hr
theorem CodesV.below {w w' : World} {b : Nat} {l : List Sp.Code} {v : Value} (h : CodesV b l w v) (k : Below w.heap.size w w') : CodesV b l w' v := h.all fun e _ => Keeps.below b e k
theorem AllPost.err {res : Except Sp.Er (List Sp.Code)} {w w' : World} {p er : Nat} (h : res = .error (p, er)) (hb : Below w.heap.size w w') : AllPost res w (.returned (.tuple #[.slice none 0 0, .int .i64 p, .int .i64 er])) w' := by
  subst h; exact ⟨rfl, hb⟩
theorem bldS_er {x : Rp.Src} {a b : Nat} (h : Rp.bldS x = .error (a, b)) : 1 ≤ b := by
  have hs : ∀ (l : List Rp.Line) (c : Rp.Cd) (a b : Nat), Rp.steps c l = .error (a, b) → 1 ≤ b := by
    intro l
    induction l with
    | nil => intro c a b h; cases h
    | cons y l ih =>
      intro c a b h
      simp only [Rp.steps] at h
      split at h
      · rename_i e he
        injection h with h
        subst h
        unfold Rp.step at he
        repeat' split at he
        all_goals first
          | (injection he with he; injection he with h1 h2; omega)
          | (rename_i e' hr; injection he with he; subst he; have := rowR_er hr; omega)
          | cases he
      · exact ih _ a b h
  unfold Rp.bldS at h
  split at h
  · injection h with h; injection h with h1 h2; omega
  · split at h
    · rename_i e he; injection h with h; subst h; exact hs _ _ _ _ he
    · cases h
theorem code_ok' {L : List Sp.Tok} (h : Rp.LOk L) {s : Rp.St} (hs : s.i < L.length) (hb : s.bad = -1) : (Rp.code L s).2.i < L.length ∧ ((0 ≤ (Rp.code L s).2.bad) ∨ ((Rp.code L s).2.bad = -1 ∧ s.i < (Rp.code L s).2.i)) := by
  rw [st_eta s hb]; exact Rp.code_next h hs

set_option maxRecDepth 100000 in
set_option maxHeartbeats 16000000 in
theorem rParseAll_any (s : ByteArray) (w : World) : Calls Tryd.prog 21 #[.string s] w (AllPost (Rp.parseAllR s.data.toList) w) := by
  obtain ⟨RR, hRR⟩ : ∃ R, R = Rp.parseAllR s.data.toList := ⟨_, rfl⟩
  have HRR := Lib.hid hRR
  rw [← hRR]
  clear hRR
  have hsz : s.data.toList.length = s.size := rfl
  by_cases hl : s.size ≤ 2000
  · have hlb : decide ((s.size : Int) > 2000) = false := by rw [decide_eq_false_iff_not]; omega
    have HT : Hid (RR = Rp.parseAllT (Sp.toks 0 s.data.toList)) := Lib.hid (by rw [HRR.out]; unfold Rp.parseAllR; rw [if_neg (by omega)])
    have CT := Lib.hid (fun W => refTokens_any s W hl)
    have htl : (Sp.toks 0 s.data.toList).length ≤ 2001 := by have := toks_len 0 s.data.toList; omega
    have HLK := Lib.hid (Rp.toks_ok _ s.data.toList 0 rfl)
    have HTX := Lib.hid (Rp.toks_txt (m := 2000) (l := s.data.toList) (by omega))
    obtain ⟨L, hL⟩ : ∃ L, L = Sp.toks 0 s.data.toList := ⟨_, rfl⟩
    rw [← hL] at HT CT htl HLK HTX
    clear hL hsz HRR
    go_enter Tryd.func21, Tryd.ntmps21
    go_wp2_with fail
    refine (CT.out _).mono ?_
    rintro e w2 ⟨⟨v, rfl, hv⟩, hb2⟩
    obtain ⟨g, q, rfl, hg, hpa⟩ := PA.start hv HLK.out.ne (by omega)
    have H1 := Lib.hid (hpa _ (Below.refl _ _))
    have hlt0 := hb2.size
    have L1 : Hid (Kp w2.heap.size w (w2.alloc (.cells #[.slice (some ⟨g, 0, none⟩) L.length q, .int .i64 0, .int .i64 (-1)] 74))) := Lib.hid (((Kp.refl w2.heap.size w).below hb2).alloc _)
    have hrs : w2.heap.size < (w2.alloc (.cells #[.slice (some ⟨g, 0, none⟩) L.length q, .int .i64 0, .int .i64 (-1)] 74)).heap.size := by simp
    clear hv hb2 hpa CT
    obtain ⟨AS, hAS⟩ : ∃ R, R = Rp.allS L (L.length + 1) ⟨0, -1⟩ [] := ⟨_, rfl⟩
    have HPT : Hid (RR = if 0 ≤ AS.2.bad then .error (AS.2.bad.toNat, 3) else Rp.bAllR [] [] AS.1) := Lib.hid (by rw [HT.out, hAS]; rfl)
    have HAS := Lib.hid hAS
    have HSF : Hid ((∀ x ∈ AS.1, Rp.SrcF L.length 2000 x) ∧ AS.1.length ≤ L.length + 1) := Lib.hid (by
      have := Rp.allS_f HTX.out (L.length + 1) ⟨0, -1⟩ [] (fun x hx => by cases hx)
      rw [← hAS] at this
      exact ⟨this.1, by have := this.2; simpa using this⟩)
    clear hAS HT HTX
    obtain ⟨i0, hi, hz0, hz1, hz2⟩ := info_parts info77
    go_upto_block 0 with (fail)
    generalize w2.alloc (.cells #[.slice (some ⟨g, 0, none⟩) L.length q, .int .i64 0, .int .i64 (-1)] 74) = u2 at *
    generalize w2.heap.size = r at *
    obtain ⟨D, hD⟩ : ∃ D, D = r + 1 := ⟨_, rfl⟩
    have hrD : r < D := by omega
    have hgD : g < D := by omega
    have hDu : D ≤ u2.heap.size := by omega
    have hwD : w.heap.size ≤ D := by omega
    clear hD
    go_cut [6] (fun v6 wx => PA wx r g q L AS.2 ∧ Kp r w wx ∧ RSrcsV D AS.1 wx v6 ∧ D ≤ wx.heap.size)
    case first =>
      go_wp2_with fail
      go_loopg [6] (L.length + 1) (fun k v6 wr => ∃ (l : List Rp.Src) (s' : Rp.St), AS = Rp.allS L k s' l ∧ (s'.bad = -1 ∨ 0 ≤ s'.bad) ∧ (s'.bad < 0 → L.length - s'.i < k) ∧ l.length + k = L.length + 1 ∧ PA wr r g q L s' ∧ Kp r w wr ∧ RSrcsV D l wr v6 ∧ D ≤ wr.heap.size)
      case atStart => exact ⟨[], ⟨0, -1⟩, HAS.out, .inl rfl, by intro _; simp only; omega, by simp, H1.out, L1.out, ⟨[], World.ownsRow_nil _ _ _ _, rfl⟩, hDu⟩
      case round =>
        obtain ⟨l, s', hA, hbd, hms, hlk, hp, hk, hv, hDw⟩ := hrel
        clear H1 L1 HAS hDu
        obtain ⟨A6, q6, rfl⟩ : ∃ A q, u6 = .slice A l.length q := by obtain ⟨cs, ho, _⟩ := hv; exact own_slice ho
        have hsl := hp.lt
        have hlb6 : l.length ≤ 2002 := by omega
        have F1 := Lib.hid hA; have F2 := Lib.hid hbd; have F3 := Lib.hid hms; have F4 := Lib.hid hlk; have H1 := Lib.hid hp; have L1 := Lib.hid hk; have HV := Lib.hid hv
        have b0 : wr.cell? ⟨r, 0, none⟩ = some (.slice (some ⟨g, 0, none⟩) L.length q) := blk_c hp.box 0
        have b1 : wr.cell? ⟨r, 1, none⟩ = some (.int .i64 s'.i) := blk_c hp.box 1
        have b2 : wr.cell? ⟨r, 2, none⟩ = some (.int .i64 s'.bad) := blk_c hp.box 2
        have t2 := hp.c2 s'.i hsl
        have hm := hp.lm
        clear hA hbd hms hlk hp hk hv
        have hcase : (decide (s'.bad < 0) = false ∧ AS = (l, s')) ∨ (decide (s'.bad < 0) = true ∧ ((L[s'.i].kind : Int) != 4) = false ∧ AS = (l, s')) ∨
            (decide (s'.bad < 0) = true ∧ ((L[s'.i].kind : Int) != 4) = true ∧ s'.bad = -1 ∧ ∃ k', gk = k' + 1 ∧ AS = Rp.allS L k' (Rp.code L s').2 (l ++ [(Rp.code L s').1])) := by
          by_cases hb : s'.bad < 0
          · right
            have hk1 := F3.out hb
            obtain ⟨k', rfl⟩ : ∃ k', gk = k' + 1 := ⟨gk - 1, by omega⟩
            have h1 := F1.out
            simp only [Rp.allS] at h1
            rw [Rp.tk_get hsl] at h1
            by_cases h4 : L[s'.i].kind = 4
            · left; rw [if_neg (fun hh => hh.2 h4)] at h1; exact ⟨by simpa using hb, by simp [h4], h1⟩
            · right; rw [if_pos ⟨hb, h4⟩] at h1
              exact ⟨by simpa using hb, by rw [bne_iff_ne]; omega, by rcases F2.out with e | e <;> omega, k', rfl, h1⟩
          · left
            exact ⟨by simpa using hb, by rw [F1.out]; exact Rp.allS_bad hb⟩
        have HCA := Lib.hid hcase
        clear hcase
        rcases HCA.out with ⟨c1, e⟩ | ⟨c1, c2, e⟩ | ⟨c1, c2, hm1, k', ek, e⟩
        · have HE := Lib.hid e; clear e HCA
          go_wp2_with fail
          go_quiet (fail)
          go_wp2_with fail
          go_meet
          case rel => rw [HE.out]; exact ⟨H1.out.drewN _, L1.out.drewN _, HV.out.below (bel_drewNr (Below.refl _ _) _), hDw⟩
        · have HE := Lib.hid e; clear e HCA
          go_wp2_with fail
          go_quiet (fail)
          go_wp2_with fail
          go_meet
          case rel => rw [HE.out]; exact ⟨H1.out.drewN _, L1.out.drewN _, HV.out.below (bel_drewNr (Below.refl _ _) _), hDw⟩
        · have HE := Lib.hid e; have HEK := Lib.hid ek; have HM1 := Lib.hid hm1
          clear e ek hm1 HCA
          have HNX := Lib.hid (code_ok' HLK.out hsl HM1.out)
          have CC := Lib.hid fun W (hW : PA W r g q L s') => rcode_any r g q L s' W hW HLK.out (.inl HM1.out)
          obtain ⟨R, hR⟩ : ∃ R, R = Rp.code L s' := ⟨_, rfl⟩
          rw [← hR] at HE HNX CC
          clear hR
          go_wp2_with fail
          go_quiet (fail)
          go_wp2_with fail
          refine (CC.out _ (H1.out.drewN _)).mono ?_
          rintro e w3 ⟨v3, rfl, ⟨vl, rfl, hlv⟩, hp3, hk3⟩
          obtain ⟨Al, ql, rfl⟩ : ∃ A q, vl = .slice A R.1.lines.length q := by obtain ⟨cs, ho, _⟩ := hlv; exact own_slice ho
          have hwr3 : D ≤ (wr.drewN nq).heap.size := hDw
          have hk3' : Kp r wr w3 := ((Kp.refl r wr).drewN nq).trans hk3
          obtain ⟨cs, ho, hin⟩ := HV.out
          have HO := Lib.hid (own_kp ho hk3' hrD)
          have HIN := Lib.hid (Chunks.keep (fun x c ⟨vl, e, hv⟩ => (⟨vl, e, hv.kp hk3' hrD⟩ : RSrcE D w3 x c)) hin)
          have HLV := Lib.hid (hlv.mono hwr3)
          have L3 := Lib.hid (L1.out.trans hk3'); have H3 := Lib.hid hp3
          have hD3 : D ≤ w3.heap.size := Nat.le_trans hDw hk3'.size
          clear hlv hp3 hk3 hk3' ho hin hwr3 CC b0 b1 b2 t2
          go_wp2_with (first | (at_builtin; refine wpList_append_own_at (w3.alloc (.cells #[.string (bs R.1.name.txt), .int .i64 R.1.name.at_, .int .i64 R.1.name.kind, .int .i64 R.1.name.n, .slice Al R.1.lines.length ql] 77)) rfl _ _ 81 rfl D 77 i0 _ 5 64 Tryd.underlying81 hi hz0 hz1 hz2 rfl (by decide) _ l.length cs rfl (HO.out.alloc _) ⟨w3.heap.size, 0, none⟩ 1 1 [.string (bs R.1.name.txt), .int .i64 R.1.name.at_, .int .i64 R.1.name.kind, .int .i64 R.1.name.n, .slice Al R.1.lines.length ql] rfl rfl ?c1 ?c2 ?c3 ?c4 ?c5 ?_))
          case c1 => exact World.news_of_block (heap_alloc_new w3 (.cells #[.string (bs R.1.name.txt), .int .i64 R.1.name.at_, .int .i64 R.1.name.kind, .int .i64 R.1.name.n, .slice Al R.1.lines.length ql] 77))
          case c2 => intro u hu; simp only [List.mem_cons, List.not_mem_nil, or_false] at hu; rcases hu with rfl | rfl | rfl | rfl | rfl <;> rfl
          case c3 => unfold maxLen; omega
          case c4 => omega
          case c5 => simp only [World.size_alloc]; omega
          intro v' w4 hown hg _ _
          have hnr := own_ne HO.out (b := r) hrD; have hng := own_ne HO.out (b := g) hgD
          have G1 := Lib.hid ((H3.out.alloc (.cells #[.string (bs R.1.name.txt), .int .i64 R.1.name.at_, .int .i64 R.1.name.kind, .int .i64 R.1.name.n, .slice Al R.1.lines.length ql] 77)).grown hg hnr hng)
          have G2 := Lib.hid ((L3.out.alloc (.cells #[.string (bs R.1.name.txt), .int .i64 R.1.name.at_, .int .i64 R.1.name.kind, .int .i64 R.1.name.n, .slice Al R.1.lines.length ql] 77)).grown hg (own_ge HO.out hwD))
          have hkp : ∀ e, e = 101 ∨ e = 46 → Keeps w3 w4 D e := fun e he => (Keeps.alloc w3 D e (.cells #[.string (bs R.1.name.txt), .int .i64 R.1.name.at_, .int .i64 R.1.name.kind, .int .i64 R.1.name.n, .slice Al R.1.lines.length ql] 77)).trans (Keeps.grow (HO.out.alloc (.cells #[.string (bs R.1.name.txt), .int .i64 R.1.name.at_, .int .i64 R.1.name.kind, .int .i64 R.1.name.n, .slice Al R.1.lines.length ql] 77)) hg (by rcases he with rfl | rfl <;> decide))
          have G3 := Lib.hid (Chunks.snoc (Chunks.keep (fun x c ⟨vl, e, hv⟩ => (⟨vl, e, hv.all hkp⟩ : RSrcE D w4 x c)) HIN.out) (show RSrcE D w4 R.1 _ from ⟨_, rfl, HLV.out.all hkp⟩))
          have G4 := Lib.hid hown
          have hD4 : D ≤ w4.heap.size := Nat.le_trans hD3 (Nat.le_trans (by simp) hg.size)
          clear hown hg hnr hng hkp
          go_wp2_with fail
          go_roundg k'
          case measure => rw [HEK.out]; omega
          case rel =>
            have h1 := HEK.out; have h2 := HNX.out; have h3 := HM1.out; have h4 := F4.out; have h5 := F3.out (by omega)
            refine ⟨l ++ [R.1], R.2, HE.out, ?_, ?_, by rw [List.length_append, List.length_singleton]; omega, G1.out, G2.out, ⟨_, by rw [List.length_append]; exact G4.out, G3.out⟩, hD4⟩
            · rcases h2.2 with e | e
              · exact .inr e
              · exact .inl e.1
            · intro hlt; rcases h2.2 with e | e <;> omega
    case rest =>
      obtain ⟨hp, hk, hv, hDw⟩ := hcut
      clear H1 L1 HAS hDu
      obtain ⟨ls, hls⟩ : ∃ l, l = AS.1 := ⟨_, rfl⟩
      rw [← hls] at hv
      have hsf := HSF.out
      rw [← hls] at hsf
      have HSFE := Lib.hid hsf.1
      have hll : ls.length ≤ 2002 := by omega
      have u2b : wc.cell? ⟨r, 2, none⟩ = some (.int .i64 AS.2.bad) := blk_c hp.box 2
      have HB := Lib.hid (Kp.below0 hk hlt0)
      obtain ⟨A6, q6, hshape⟩ : ∃ A q, u6 = .slice A ls.length q := by obtain ⟨cs, ho, _⟩ := hv; exact own_slice ho
      subst hshape
      have HV := Lib.hid hv
      have HP2 : Hid (RR = if 0 ≤ AS.2.bad then .error (AS.2.bad.toNat, 3) else Rp.bAllR [] [] ls) := Lib.hid (by rw [HPT.out, hls])
      clear hv hp hk hsf HSF HPT hls
      obtain ⟨bad, hbad⟩ : ∃ b, b = AS.2.bad := ⟨_, rfl⟩
      rw [← hbad] at HP2 u2b
      clear hbad
      by_cases hb : 0 ≤ bad
      · obtain ⟨n, hn⟩ : ∃ n : Nat, bad = n := ⟨bad.toNat, by omega⟩
        have HE : Hid (RR = .error (n, 3)) := Lib.hid (by rw [HP2.out, if_pos hb]; congr 2; omega)
        have hbb : decide (bad ≥ 0) = true := by rw [decide_eq_true_iff]; omega
        rw [hn] at u2b hbb
        clear hb hn HP2
        go_wp2_with fail
        go_quiet (fail)
        go_wp2_with fail
        go_ret3
        exact AllPost.err HE.out (bel_drewNr HB.out _)
      · have HE : Hid (RR = Rp.bAllR [] [] ls) := Lib.hid (by rw [HP2.out, if_neg hb])
        have hbb : decide (bad ≥ 0) = false := by rw [decide_eq_false_iff_not]; omega
        clear hb HP2
        go_wp2_with fail
        go_loopg [7, 8] ls.length (fun k v7 v8 wr => ∃ (j : Nat) (acc : List Sp.Code), k = ls.length - j ∧ j ≤ ls.length ∧ v8 = .int .i64 j ∧ acc.length = j ∧ j ≤ 8 ∧ RR = Rp.bAllR acc ((ls.take j).map fun x => x.name.txt) (ls.drop j) ∧ CodesV w.heap.size acc wr v7 ∧ RSrcsV D ls wr (.slice A6 ls.length q6) ∧ Below w.heap.size w wr ∧ D ≤ wr.heap.size)
        case atStart => exact ⟨0, [], rfl, Nat.zero_le _, rfl, rfl, Nat.zero_le _, HE.out, ⟨[], World.ownsRow_nil _ _ _ _, rfl⟩, HV.out, HB.out, hDw⟩
        case round =>
          obtain ⟨j, acc, hk, hj, rfl, hac, hj8, hrr, hcv, hsv, hbe, hDr⟩ := hrel
          clear HE HV HB u2b hDw
          obtain ⟨A7, q7, rfl⟩ : ∃ A q, u7 = .slice A acc.length q := by obtain ⟨cs, ho, _⟩ := hcv; exact own_slice ho
          have J1 := Lib.hid hk; have J2 := Lib.hid hac; have J3 := Lib.hid hrr; have J4 := Lib.hid hcv; have J5 := Lib.hid hsv; have J6 := Lib.hid hbe
          have hac8 : acc.length ≤ 8 := by omega
          clear hk hac hrr hcv hsv hbe
          by_cases hlt : j < ls.length
          · obtain ⟨g6, vl, hA, hlv, hcs⟩ := J5.out.at_ j hlt
            subst hA
            have HD := Lib.hid (List.drop_eq_getElem_cons hlt)
            have HTK := Lib.hid (List.take_succ_eq_append_getElem hlt)
            have HFX := Lib.hid (HSFE.out ls[j] (List.getElem_mem hlt))
            obtain ⟨x, hx⟩ : ∃ x, x = ls[j] := ⟨_, rfl⟩
            rw [← hx] at hcs hlv HD HFX HTK
            have HX := Lib.hid hx
            clear hx
            obtain ⟨Al, ql, rfl⟩ : ∃ A q, vl = .slice A x.lines.length q := by obtain ⟨cs, ho, _⟩ := hlv; exact own_slice ho
            have y0 : wr.cell? ⟨g6, j * 5, none⟩ = some (.string (bs x.name.txt)) := hcs 0 _ rfl
            have y1 : wr.cell? ⟨g6, j * 5 + 1, none⟩ = some (.int .i64 x.name.at_) := hcs 1 _ rfl
            have y2 : wr.cell? ⟨g6, j * 5 + 2, none⟩ = some (.int .i64 x.name.kind) := hcs 2 _ rfl
            have y3 : wr.cell? ⟨g6, j * 5 + 3, none⟩ = some (.int .i64 x.name.n) := hcs 3 _ rfl
            have y4 : wr.cell? ⟨g6, j * 5 + 4, none⟩ = some (.slice Al x.lines.length ql) := hcs 4 _ rfl
            have HLV := Lib.hid hlv
            clear hcs hlv
            by_cases h8 : j = 8
            · have h8b : ((j : Int) == 8) = true := by rw [beq_iff_eq]; omega
              have HE : Hid (RR = .error (x.name.at_, 2)) := Lib.hid (by rw [J3.out, HD.out]; simp only [Rp.bAllR]; rw [if_pos (by rw [J2.out]; omega)])
              clear h8
              go_wp2_with fail
              go_quiet (fail)
              go_wp2_with fail
              go_ret3
              exact AllPost.err HE.out (bel_drewNr J6.out _)
            · have h8b : ((j : Int) == 8) = false := by rw [beq_eq_false_iff_ne]; omega
              have hj7 : j ≤ 7 := by omega
              have J7 : Hid (¬ 8 ≤ acc.length) := Lib.hid (by rw [J2.out]; omega)
              clear h8
              go_wp2_with fail
              generalize wr = W0 at *
              go_loopg [9] j (fun k v9 w3 => ∃ (i : Nat), k = j - i ∧ i ≤ j ∧ v9 = .int .i64 i ∧ (∀ m (hm : m < ls.length), m < i → ls[m].name.txt ≠ x.name.txt) ∧ Below W0.heap.size W0 w3)
              case atStart => exact ⟨0, rfl, Nat.zero_le _, rfl, fun m _ hm => by omega, Below.refl _ _⟩
              case round =>
                obtain ⟨i, hk, hij, rfl, hne, hb3⟩ := hrel
                have K1 := Lib.hid hk; have K2 := Lib.hid hne; have K3 := Lib.hid hb3
                have gg6 : g6 < W0.heap.size := World.block_lt_of_cell? W0 _ y0
                have z0 := (hb3.cell (p := ⟨g6, j * 5, none⟩) gg6).trans y0; have z1 := (hb3.cell (p := ⟨g6, j * 5 + 1, none⟩) gg6).trans y1; have z2 := (hb3.cell (p := ⟨g6, j * 5 + 2, none⟩) gg6).trans y2; have z3 := (hb3.cell (p := ⟨g6, j * 5 + 3, none⟩) gg6).trans y3; have z4 := (hb3.cell (p := ⟨g6, j * 5 + 4, none⟩) gg6).trans y4
                clear hk hne
                by_cases hi3 : i < j
                · have hil : i < ls.length := by omega
                  obtain ⟨g7, vl7, hA7, _, hcs7⟩ := J5.out.at_ i hil
                  have hg7 : g6 = g7 := by
                    have h1 := Option.some.inj hA7
                    injection h1 with h1
                  subst hg7
                  have p0 := (hb3.cell (p := ⟨g6, i * 5, none⟩) gg6).trans (hcs7 0 _ rfl)
                  clear hcs7 hA7 hb3
                  by_cases hq : ls[i].name.txt = x.name.txt
                  · have hqb : ((bs ls[i].name.txt).toList == (bs x.name.txt).toList) = true := by rw [beq_iff_eq, Lib.toList_data, Lib.toList_data]; exact hq
                    have HE : Hid (RR = .error (x.name.at_, 4)) := Lib.hid (by
                      rw [J3.out, HD.out]; simp only [Rp.bAllR]
                      rw [if_neg J7.out, if_pos]
                      rw [← hq]
                      exact List.mem_map.2 ⟨ls[i], List.mem_take_iff_getElem.2 ⟨i, by omega, rfl⟩, rfl⟩)
                    have HQ := Lib.hid hq
                    clear hq
                    go_wp2_with fail
                    go_quiet (fail)
                    go_wp2_with fail
                    go_quiet (fail)
                    go_wp2_with fail
                    go_ret3
                    exact AllPost.err HE.out (bel_drewNr (bel_drewNr (J6.out.trans (K3.out.mono J6.out.size)) _) _)
                  · have hqb : ((bs ls[i].name.txt).toList == (bs x.name.txt).toList) = false := by rw [beq_eq_false_iff_ne, ne_eq, Lib.toList_data, Lib.toList_data]; exact hq
                    have HNE : Hid (∀ m (hm : m < ls.length), m < i + 1 → ls[m].name.txt ≠ x.name.txt) := Lib.hid (fun m hm hm1 => by
                      by_cases e : m = i
                      · subst e; exact hq
                      · exact K2.out m hm (by omega))
                    clear hq
                    go_wp2_with fail
                    go_quiet (fail)
                    go_wp2_with fail
                    go_roundg (j - (i + 1))
                    case measure => rw [K1.out]; omega
                    case rel => exact ⟨i + 1, rfl, by omega, by go_num, HNE.out, bel_drewNr K3.out _⟩
                · have HNI : Hid (x.name.txt ∉ (ls.take j).map fun x => x.name.txt) := Lib.hid (fun hm => by
                    obtain ⟨y, hy, hyn⟩ := List.mem_map.1 hm
                    obtain ⟨m, hm1, hm2⟩ := List.mem_take_iff_getElem.1 hy
                    subst hm2
                    exact K2.out m (by omega) (by omega) hyn)
                  have HLV3 := Lib.hid (HLV.out.below hb3)
                  have HB3 := Lib.hid (J6.out.trans (hb3.mono J6.out.size))
                  have HS3 := Lib.hid (J5.out.below hb3)
                  have HC3 := Lib.hid (J4.out.below hb3)
                  have hDq : D ≤ wr.heap.size := Nat.le_trans hDr hb3.size
                  clear hb3
                  have CB := Lib.hid (rbuild_any x (.agg #[.string (bs x.name.txt), .int .i64 x.name.at_, .int .i64 x.name.kind, .int .i64 x.name.n, .slice Al x.lines.length ql]) D wr ⟨_, rfl, HLV3.out⟩ (by have := HFX.out.name; omega) (by have := HFX.out.len; omega) (fun y hy => ⟨by have := (HFX.out.each y hy).a; omega, by have := (HFX.out.each y hy).b; omega, (HFX.out.each y hy).ne⟩))
                  have HST : Hid (RR = match Rp.bldS x with | .error e => .error e | .ok c => Rp.bAllR (acc ++ [c]) ((ls.take (j + 1)).map fun x => x.name.txt) (ls.drop (j + 1))) := Lib.hid (by
                    rw [J3.out, HD.out]; simp only [Rp.bAllR]
                    rw [if_neg J7.out, if_neg HNI.out]
                    rcases Rp.bldS x with e | c
                    · rfl
                    · simp only; rw [HTK.out, List.map_append]; rfl)
                  go_wp2_with fail
                  refine CB.out.mono ?_
                  rintro e w6 ⟨hh, hb6⟩
                  have HB6 := Lib.hid (HB3.out.trans (hb6.mono HB3.out.size))
                  rcases hr : Rp.bldS x with ⟨a, b⟩ | c
                  · rw [hr] at hh
                    dsimp only at hh
                    subst hh
                    have her := bldS_er hr
                    have hbn : ((b : Int) != 0) = true := by rw [bne_iff_ne]; omega
                    have HE : Hid (RR = .error (a, b)) := Lib.hid (by rw [HST.out, hr])
                    clear hr her hb6
                    go_wp2_with fail
                    go_ret3
                    exact AllPost.err HE.out (HB6.out.alloc HB6.out.size _)
                  · rw [hr] at hh
                    obtain ⟨v6, rfl, vp, rfl, hpv⟩ := hh
                    obtain ⟨Ap, qp, rfl⟩ : ∃ A q, vp = .slice A c.parity.length q := by obtain ⟨cs, ho, _⟩ := hpv; exact own_slice ho
                    have HE : Hid (RR = Rp.bAllR (acc ++ [c]) ((ls.take (j + 1)).map fun x => x.name.txt) (ls.drop (j + 1))) := Lib.hid (by rw [HST.out, hr])
                    unfold codeV
                    have hC6 := HC3.out.below hb6
                    have hS6 := HS3.out.below hb6
                    have hD6 : D ≤ w6.heap.size := Nat.le_trans hDq hb6.size
                    have hx := heap_alloc_new w6 (.cells #[.string (bs c.name), .int .i64 c.field, .int .i64 c.data, .slice Ap c.parity.length qp, .int .i64 c.domain] 24)
                    have HC7 := Lib.hid (hC6.below ((Below.refl _ _).alloc (Nat.le_refl _) (.cells #[.string (bs c.name), .int .i64 c.field, .int .i64 c.data, .slice Ap c.parity.length qp, .int .i64 c.domain] 24)))
                    have HS7 := Lib.hid (hS6.below ((Below.refl _ _).alloc (Nat.le_refl _) (.cells #[.string (bs c.name), .int .i64 c.field, .int .i64 c.data, .slice Ap c.parity.length qp, .int .i64 c.domain] 24)))
                    have HP7 := Lib.hid (ParV.alloc (ParV.mono (base' := w.heap.size) hpv HB3.out.size) (.cells #[.string (bs c.name), .int .i64 c.field, .int .i64 c.data, .slice Ap c.parity.length qp, .int .i64 c.domain] 24))
                    have HB7 := Lib.hid (HB6.out.alloc HB6.out.size (.cells #[.string (bs c.name), .int .i64 c.field, .int .i64 c.data, .slice Ap c.parity.length qp, .int .i64 c.domain] 24))
                    have hD7 : D ≤ (w6.alloc (.cells #[.string (bs c.name), .int .i64 c.field, .int .i64 c.data, .slice Ap c.parity.length qp, .int .i64 c.domain] 24)).heap.size := Nat.le_trans hD6 (by simp)
                    have HX7 := Lib.hid hx
                    clear hr hb6 hpv hC6 hS6 hx hD6
                    go_upto_region 23 with (fail)
                    generalize w6.alloc (.cells #[.string (bs c.name), .int .i64 c.field, .int .i64 c.data, .slice Ap c.parity.length qp, .int .i64 c.domain] 24) = w7 at *
                    generalize w6.heap.size = X at *
                    have n0 : w7.cell? ⟨X, 0, none⟩ = some (.string (bs c.name)) := blk_c HX7.out 0
                    have n1 : w7.cell? ⟨X, 1, none⟩ = some (.int .i64 c.field) := blk_c HX7.out 1
                    have n2 : w7.cell? ⟨X, 2, none⟩ = some (.int .i64 c.data) := blk_c HX7.out 2
                    have n3 : w7.cell? ⟨X, 3, none⟩ = some (.slice Ap c.parity.length qp) := blk_c HX7.out 3
                    have n4 : w7.cell? ⟨X, 4, none⟩ = some (.int .i64 c.domain) := blk_c HX7.out 4
                    obtain ⟨cs, ho, hin⟩ := HC7.out
                    have HO := Lib.hid ho; have HIN := Lib.hid hin
                    clear ho hin
                    obtain ⟨i1, hi1, hz10, hz11, hz12⟩ := info_parts info24
                    have hw7 := HB7.out.size
                    go_wp2_with (first | (at_builtin; refine wpList_append_own_at (w7.alloc (.cells #[.string (bs c.name), .int .i64 c.field, .int .i64 c.data, .slice Ap c.parity.length qp, .int .i64 c.domain] 24)) rfl _ _ 34 rfl w.heap.size 24 i1 _ 5 64 Tryd.underlying34 hi1 hz10 hz11 hz12 rfl (by decide) _ acc.length cs rfl (HO.out.alloc _) ⟨w7.heap.size, 0, none⟩ 1 1 [.string (bs c.name), .int .i64 c.field, .int .i64 c.data, .slice Ap c.parity.length qp, .int .i64 c.domain] rfl rfl ?c1 ?c2 ?c3 ?c4 ?c5 ?_))
                    case c1 => exact World.news_of_block (heap_alloc_new w7 (.cells #[.string (bs c.name), .int .i64 c.field, .int .i64 c.data, .slice Ap c.parity.length qp, .int .i64 c.domain] 24))
                    case c2 => intro u hu; simp only [List.mem_cons, List.not_mem_nil, or_false] at hu; rcases hu with rfl | rfl | rfl | rfl | rfl <;> rfl
                    case c3 => unfold maxLen; omega
                    case c4 => omega
                    case c5 => simp only [World.size_alloc]; omega
                    intro v' w8 hown hg _ _
                    have hkc : ∀ e, e = 61 ∨ e = 3 → Keeps w7 w8 w.heap.size e := fun e he => (Keeps.alloc w7 w.heap.size e (.cells #[.string (bs c.name), .int .i64 c.field, .int .i64 c.data, .slice Ap c.parity.length qp, .int .i64 c.domain] 24)).trans (Keeps.grow (HO.out.alloc (.cells #[.string (bs c.name), .int .i64 c.field, .int .i64 c.data, .slice Ap c.parity.length qp, .int .i64 c.domain] 24)) hg (by rcases he with rfl | rfl <;> decide))
                    have hks : ∀ e, e = 77 ∨ e = 101 ∨ e = 46 → Keeps w7 w8 D e := fun e he => (Keeps.alloc w7 D e (.cells #[.string (bs c.name), .int .i64 c.field, .int .i64 c.data, .slice Ap c.parity.length qp, .int .i64 c.domain] 24)).trans (Keeps.grow (HO.out.alloc (.cells #[.string (bs c.name), .int .i64 c.field, .int .i64 c.data, .slice Ap c.parity.length qp, .int .i64 c.domain] 24)) hg (by rcases he with rfl | rfl | rfl <;> decide))
                    have G1 := Lib.hid (Chunks.snoc (Chunks.keep (fun x c ⟨vl, e, hv⟩ => (⟨vl, e, hv.all hkc⟩ : CodeE w.heap.size w8 x c)) HIN.out) (show CodeE w.heap.size w8 c _ from ⟨_, rfl, HP7.out.all hkc⟩))
                    have G2 := Lib.hid hown
                    have G3 := Lib.hid (HS7.out.all hks)
                    have G4 := Lib.hid ((HB7.out.alloc HB7.out.size (.cells #[.string (bs c.name), .int .i64 c.field, .int .i64 c.data, .slice Ap c.parity.length qp, .int .i64 c.domain] 24)).grown hg (by rw [World.size_alloc]; omega) (fun k e => (HO.out.lt k e).1))
                    have hD8 : D ≤ w8.heap.size := Nat.le_trans hD7 (Nat.le_trans (by simp) hg.size)
                    clear hown hg hkc hks
                    go_wp2_with fail
                    go_roundg (ls.length - (j + 1))
                    case measure => rw [J1.out]; omega
                    case rel => exact ⟨j + 1, acc ++ [c], rfl, by omega, by go_num, by rw [List.length_append, List.length_singleton, J2.out], by omega, HE.out, ⟨_, by rw [List.length_append]; exact G2.out, G1.out⟩, G3.out, G4.out, hD8⟩
          · have HE : Hid (RR = .ok acc) := Lib.hid (by rw [J3.out, List.drop_eq_nil_of_le (by omega)]; rfl)
            go_wp2_with fail
            go_ret3
            unfold AllPost
            rw [HE.out]
            exact ⟨⟨_, rfl, J4.out⟩, J6.out⟩
  · have hlb : decide ((s.size : Int) > 2000) = true := by rw [decide_eq_true_iff]; omega
    have HE : Hid (RR = .error ((0 : Nat), 2)) := Lib.hid (by rw [HRR.out]; unfold Rp.parseAllR; rw [if_pos (by omega)])
    go_enter Tryd.func21, Tryd.ntmps21
    go_wp2_with fail
    go_ret3
    exact AllPost.err HE.out (Below.refl _ _)
end Go.Proofs.YtppeplonnippcaaDoor
