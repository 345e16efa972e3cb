/-
The reader of layer 7: row.
-/
import Derived.Test.YtppeplonnippcaaDoorA6
set_option linter.unusedVariables false
set_option linter.unusedSimpArgs false
namespace Go.Proofs.YtppeplonnippcaaDoor
open Go.RowKit

theorem blk_set {w : World} {b : Nat} {cs : Array Value} {t : TypeId} {fr : Nat × Nat} (h : w.heap[b]? = some (.cells cs t fr)) (o : Nat) (v : Value) :
    (w.setCell ⟨b, o, none⟩ v).heap[b]? = some (.cells (cs.setIfInBounds o v) t fr) := by
  simp [World.setCell, Array.getElem?_modify, h]
theorem blk_far {w : World} {b : Nat} {ob : Obj} (h : w.heap[b]? = some ob) {p : Addr} (hp : b ≠ p.block) (v : Value) : (w.setCell p v).heap[b]? = some ob :=
  (Below.heap_setCell _ _ _ _ hp).trans h
theorem blk_old {w : World} {b : Nat} {ob : Obj} (h : w.heap[b]? = some ob) (o : Obj) : (w.alloc o).heap[b]? = some ob :=
  (Below.heap_alloc _ _ _ (lt_of_block h)).trans h
theorem Kp.blk {r : Nat} {w w' : World} (k : Kp r w w') {b : Nat} {ob : Obj} (h : w.heap[b]? = some ob) (hb : b ≠ r) : w'.heap[b]? = some ob :=
  (k.block b (lt_of_block h) hb).trans h
theorem own_mono {w : World} {base base' e size n : Nat} {v : Value} {xs : List Value} (h : w.ownsRow base e size v n xs) (hb : base' ≤ base) : w.ownsRow base' e size v n xs := by
  obtain ⟨h1, h2⟩ := h
  refine ⟨h1, ?_⟩
  rcases h2 with h2 | ⟨g, cap, cur, h3, h4, h5⟩
  · exact .inl h2
  · exact .inr ⟨g, cap, cur, h3, by omega, h5⟩
theorem own_slice {w : World} {base n : Nat} {e : TypeId} {size : Nat} {v : Value} {xs : List Value} (h : w.ownsRow base e size v n xs) : ∃ A c, v = .slice A n c := by
  rcases h.2 with ⟨rfl, rfl⟩ | ⟨g, cap, cur, rfl, _⟩
  · exact ⟨none, 0, rfl⟩
  · exact ⟨_, cap, rfl⟩
theorem own_far {w : World} {base e size n : Nat} {v : Value} {xs : List Value} (h : w.ownsRow base e size v n xs) {p : Addr} (hp : p.block < base) (u : Value) : (w.setCell p u).ownsRow base e size v n xs :=
  ownsRow_setCell_other h (a := p) (by
    cases hb : v.ownBlock with
    | none => simp
    | some g => intro e; have := (h.lt g hb).1; have e := Option.some.inj e; omega) u
theorem Kp.setOld {r : Nat} {a w : World} (h : Kp r a w) {p : Addr} (hp : a.heap.size ≤ p.block) (u : Value) : Kp r a (w.setCell p u) := h.setNew hp u

def z117 : Obj := .cells #[.int .i64 0, .bool false, .slice none 0 0, .slice none 0 0] 117

def LineV (base : Nat) (x : Sp.Row) (w : World) (v : Value) : Prop :=
  ∃ vi vc, v = .agg #[.int .i64 x.at_, .bool x.loc, vi, vc] ∧ MarksV base x.idx w vi ∧ MarksV base x.coef w vc

set_option maxRecDepth 100000 in
set_option maxHeartbeats 2000000 in
theorem row_any (r : Nat) (s : ByteArray) (ts : List Sp.Tok) (w : World) (hr : At w r s ts) (hs : s.size ≤ 2000) :
    Calls Tryd.prog 78 #[.pointer (some ⟨r, 0, none⟩)] w (ResPost (LineV w.heap.size) r s (Sp.pRow ts) w) := by
  have hlt := hr.lt
  have hat : (Sp.hd ts).at_ ≤ s.size ∧ ∃ i, i ≤ s.size ∧ Rd w r s i ∧ (Sp.hd ts).at_ = i + Sp.skpN false (rst s i) ∧ Sp.toks (Sp.hd ts).at_ (rst s (Sp.hd ts).at_) = ts := by
    obtain ⟨i, h1, h2, h3⟩ := hr
    have e1 : (Sp.hd ts).at_ = i + Sp.skpN false (rst s i) := by rw [← h3, Sp.toks_at]
    refine ⟨?_, i, h1, h2, e1, ?_⟩
    · have := Sp.skpN_le false (rst s i); rw [rst_len] at this; omega
    · rw [e1, ← rst_drop, Sp.toks_skip]; exact h3
  obtain ⟨hle, i, hi, hrd, hati, htk⟩ := hat
  have HR := Lib.hid ((hrd.alloc z117).alloc z117)
  have hne1 : ¬ w.heap.size = r := by omega
  have hne2 : ¬ r = w.heap.size := by omega
  have hne3 : ¬ w.heap.size + 1 = r := by omega
  have hne4 : ¬ r = w.heap.size + 1 := by omega
  have K0 : Hid (Kp r w ((w.alloc z117).alloc z117)) := Lib.hid (((Kp.refl r w).alloc _).alloc _)
  have HA := Lib.hid hati; have HT := Lib.hid htk
  clear hr hati htk hrd
  go_enter Tryd.func78, Tryd.ntmps78
  go_wp2_with fail
  refine (skip_any _ _ _ _ HR.out (by omega) hi).mono ?_
  rintro e w1 hh
  obtain ⟨rfl, hrd1, hk1⟩ := hh
  rw [← HA.out] at hrd1
  have c1 := hrd1.c1
  have b3 : w1.heap[w.heap.size + 1]? = some z117 := hk1.blk (by have := heap_alloc_new (w.alloc z117) z117; simpa using this) hne3
  have b2 : w1.heap[w.heap.size]? = some z117 := hk1.blk (blk_old (heap_alloc_new w z117) _) hne1
  unfold z117 at b2 b3
  have n0 := blk_c b3 0; have m0 := blk_f b3 0
  have L1 := Lib.hid (K0.out.trans hk1); have H1 := Lib.hid hrd1; have B2 := Lib.hid b2; have B3 := Lib.hid b3
  clear hk1 hrd1 b2 b3
  go_wp2_with fail
  have hatp : At (w1.setCell ⟨w.heap.size + 1, 0, none⟩ (.int .i64 (Sp.hd ts).at_)) r s ts := ⟨_, hle, H1.out.setNew (p := ⟨w.heap.size + 1, 0, none⟩) hne4 _, HT.out⟩
  have b3 := blk_set B3.out 0 (.int .i64 (Sp.hd ts).at_)
  have b2 := blk_far B2.out (p := ⟨w.heap.size + 1, 0, none⟩) (by simp) (.int .i64 (Sp.hd ts).at_)
  have l1 := L1.out.setNew (p := ⟨w.heap.size + 1, 0, none⟩) (Nat.le_succ _) (.int .i64 (Sp.hd ts).at_)
  generalize w1.setCell ⟨w.heap.size + 1, 0, none⟩ (.int .i64 (Sp.hd ts).at_) = u1 at *
  clear B3 B2 L1 H1 n0 m0 c1
  have B3 := Lib.hid b3; have B2 := Lib.hid b2; have L1 := Lib.hid l1; have H1 := Lib.hid hatp
  clear b3 b2 l1 hatp HR HA HT
  by_cases hl : (Sp.hd ts).txt = Sp.kLocal
  · have CM := Lib.hid (may_yes r s ⟨#[108, 111, 99, 97, 108]⟩ ts _ H1.out (by omega) (by decide) hl)
    have E1 := Lib.hid hl; clear hl
    refine CM.out.mono ?_
    rintro e w2 hh
    obtain ⟨rfl, hat, hk⟩ := hh
    have hat := hat.at_
    have b3 := hk.blk B3.out hne3
    have b2 := hk.blk B2.out hne1
    have l1 := L1.out.trans hk
    clear B3 B2 L1 H1 CM
    have B3 := Lib.hid b3; have B2 := Lib.hid b2; have L1 := Lib.hid l1; have H1 := Lib.hid hat
    clear b3 b2 l1 hat hk
    have f1 := blk_f B3.out 1; have c1 := blk_c B3.out 1
    go_wp2_with fail
    have b3 := blk_set B3.out 1 (.bool true)
    have b2 := blk_far B2.out (p := ⟨w.heap.size + 1, 1, none⟩) (by simp) (.bool true)
    have l1 := L1.out.setNew (p := ⟨w.heap.size + 1, 1, none⟩) (Nat.le_succ _) (.bool true)
    have hat := H1.out.setNew (p := ⟨w.heap.size + 1, 1, none⟩) hne4 (.bool true)
    
    have hsz : (w2.setCell ⟨w.heap.size + 1, 1, none⟩ (.bool true)).heap.size = w2.heap.size := by simp [World.setCell]
    generalize w2.setCell ⟨w.heap.size + 1, 1, none⟩ (.bool true) = u2 at *
    clear B3 B2 L1 H1
    have B3 := Lib.hid b3; have B2 := Lib.hid b2; have L1 := Lib.hid l1; have H1 := Lib.hid hat; have HSZ := Lib.hid hsz
    clear b3 b2 l1 hat hsz
    have ULT2 := lt_of_block B3.out
    have C1 := Lib.hid (numbers_any _ s ts.tail _ H1.out hs)
    rcases h1 : Sp.pNums ts.tail with p | ⟨i, t0⟩
    · rw [h1] at C1
      refine C1.out.mono ?_
      rintro e w' ⟨he, hk⟩
      unfold Wrong at he
      subst he
      exact ⟨rfl, by unfold Sp.pRow; simp only [E1.out, if_true, h1]; exact ⟨rfl, L1.out.trans hk⟩⟩
    · rw [h1] at C1
      refine C1.out.mono ?_
      have E2 := Lib.hid h1; clear h1 C1
      rintro e w3 ⟨v3, rfl, hv, hat, hk⟩
      have b3 := hk.blk B3.out hne3
      have b2 := hk.blk B2.out hne1
      have l1 := L1.out.trans hk
      clear B3 B2 L1 H1
      have B3 := Lib.hid b3; have B2 := Lib.hid b2; have L1 := Lib.hid l1; have H1 := Lib.hid hat
      clear b3 b2 l1 hat hk
      obtain ⟨A3, q3, rfl⟩ := own_slice hv
      have MI := Lib.hid (show MarksV _ i w3 (.slice A3 i.length q3) from hv); clear hv
      have MIP : w.heap.size + 1 < u2.heap.size := ULT2
      have MIR : r < u2.heap.size := by omega
      have f2 := blk_f B3.out 2; have c2 := blk_c B3.out 2
      go_wp2_with fail
      have b3 := blk_set B3.out 2 (.slice A3 i.length q3)
      have b2 := blk_far B2.out (p := ⟨w.heap.size + 1, 2, none⟩) (by simp) (.slice A3 i.length q3)
      have l1 := L1.out.setNew (p := ⟨w.heap.size + 1, 2, none⟩) (Nat.le_succ _) (.slice A3 i.length q3)
      have hat := H1.out.setNew (p := ⟨w.heap.size + 1, 2, none⟩) hne4 (.slice A3 i.length q3)
      have mi := own_far (p := ⟨w.heap.size + 1, 2, none⟩) MI.out MIP (.slice A3 i.length q3)
      have hsz : (w3.setCell ⟨w.heap.size + 1, 2, none⟩ (.slice A3 i.length q3)).heap.size = w3.heap.size := by simp [World.setCell]
      generalize w3.setCell ⟨w.heap.size + 1, 2, none⟩ (.slice A3 i.length q3) = u3 at *
      clear B3 B2 L1 H1
      have B3 := Lib.hid b3; have B2 := Lib.hid b2; have L1 := Lib.hid l1; have H1 := Lib.hid hat; have HSZ := Lib.hid hsz
      clear b3 b2 l1 hat hsz
      clear MI; have MI := Lib.hid mi; clear mi
      have ULT3 := lt_of_block B3.out
      have C1 := Lib.hid (must_any r s ⟨#[58]⟩ t0 _ H1.out hs (by decide))
      rw [show (⟨#[58]⟩ : ByteArray).data.toList = Sp.kColon from rfl] at C1
      rcases h1 : Sp.pTok Sp.kColon t0 with p | ⟨a3, t1⟩
      · rw [h1] at C1
        refine C1.out.mono ?_
        rintro e w' ⟨he, hk⟩
        unfold Wrong at he
        subst he
        exact ⟨rfl, by unfold Sp.pRow; simp only [E1.out, E2.out, if_true, h1]; exact ⟨rfl, L1.out.trans hk⟩⟩
      · rw [h1] at C1
        refine C1.out.mono ?_
        have E3 := Lib.hid h1; clear h1 C1
        rintro e w4 ⟨v4, rfl, hv, hat, hk⟩
        have MI' := Lib.hid (own_kp MI.out hk MIR); clear MI; have MI := MI'; clear MI'
        have b3 := hk.blk B3.out hne3
        have b2 := hk.blk B2.out hne1
        have l1 := L1.out.trans hk
        clear B3 B2 L1 H1
        have B3 := Lib.hid b3; have B2 := Lib.hid b2; have L1 := Lib.hid l1; have H1 := Lib.hid hat
        clear b3 b2 l1 hat hk
        go_wp2_with fail
        have ULT4 := lt_of_block B3.out
        have C1 := Lib.hid (numbers_any _ s t1 _ H1.out hs)
        rcases h1 : Sp.pNums t1 with p | ⟨c, t2⟩
        · rw [h1] at C1
          refine C1.out.mono ?_
          rintro e w' ⟨he, hk⟩
          unfold Wrong at he
          subst he
          exact ⟨rfl, by unfold Sp.pRow; simp only [E1.out, E2.out, E3.out, if_true, h1]; exact ⟨rfl, L1.out.trans hk⟩⟩
        · rw [h1] at C1
          refine C1.out.mono ?_
          have E7 := Lib.hid h1; clear h1 C1
          rintro e w7 ⟨v7, rfl, hv, hat, hk⟩
          have MI' := Lib.hid (own_kp MI.out hk MIR); clear MI; have MI := MI'; clear MI'
          have b3 := hk.blk B3.out hne3
          have b2 := hk.blk B2.out hne1
          have l1 := L1.out.trans hk
          clear B3 B2 L1 H1
          have B3 := Lib.hid b3; have B2 := Lib.hid b2; have L1 := Lib.hid l1; have H1 := Lib.hid hat
          clear b3 b2 l1 hat hk
          obtain ⟨A7, q7, rfl⟩ := own_slice hv
          have MC := Lib.hid (show MarksV _ c w7 (.slice A7 c.length q7) from hv); clear hv
          have MCP : w.heap.size + 1 < w4.heap.size := ULT4
          have MCR : r < w4.heap.size := by omega
          have f3 := blk_f B3.out 3; have c3 := blk_c B3.out 3
          go_wp2_with fail
          have b3 := blk_set B3.out 3 (.slice A7 c.length q7)
          have b2 := blk_far B2.out (p := ⟨w.heap.size + 1, 3, none⟩) (by simp) (.slice A7 c.length q7)
          have l1 := L1.out.setNew (p := ⟨w.heap.size + 1, 3, none⟩) (Nat.le_succ _) (.slice A7 c.length q7)
          have hat := H1.out.setNew (p := ⟨w.heap.size + 1, 3, none⟩) hne4 (.slice A7 c.length q7)
          have mc := own_far (p := ⟨w.heap.size + 1, 3, none⟩) MC.out MCP (.slice A7 c.length q7)
          have mi := own_far (p := ⟨w.heap.size + 1, 3, none⟩) MI.out MIP (.slice A7 c.length q7)
          have hsz : (w7.setCell ⟨w.heap.size + 1, 3, none⟩ (.slice A7 c.length q7)).heap.size = w7.heap.size := by simp [World.setCell]
          generalize w7.setCell ⟨w.heap.size + 1, 3, none⟩ (.slice A7 c.length q7) = u8 at *
          clear B3 B2 L1 H1
          have B3 := Lib.hid b3; have B2 := Lib.hid b2; have L1 := Lib.hid l1; have H1 := Lib.hid hat; have HSZ := Lib.hid hsz
          clear b3 b2 l1 hat hsz
          clear MC; have MC := Lib.hid mc; clear mc
          clear MI; have MI := Lib.hid mi; clear mi
          have ULT8 := lt_of_block B3.out
          have C1 := Lib.hid (must_any r s ⟨#[59]⟩ t2 _ H1.out hs (by decide))
          rw [show (⟨#[59]⟩ : ByteArray).data.toList = Sp.kSemi from rfl] at C1
          rcases h1 : Sp.pTok Sp.kSemi t2 with p | ⟨a9, t3⟩
          · rw [h1] at C1
            refine C1.out.mono ?_
            rintro e w' ⟨he, hk⟩
            unfold Wrong at he
            subst he
            exact ⟨rfl, by unfold Sp.pRow; simp only [E1.out, E2.out, E3.out, E7.out, if_true, h1]; exact ⟨rfl, L1.out.trans hk⟩⟩
          · rw [h1] at C1
            refine C1.out.mono ?_
            have E9 := Lib.hid h1; clear h1 C1
            rintro e w9 ⟨v9, rfl, hv, hat, hk⟩
            have MC' := Lib.hid (own_kp MC.out hk MCR); clear MC; have MC := MC'; clear MC'
            have MI' := Lib.hid (own_kp MI.out hk MIR); clear MI; have MI := MI'; clear MI'
            have b3 := hk.blk B3.out hne3
            have b2 := hk.blk B2.out hne1
            have l1 := L1.out.trans hk
            clear B3 B2 L1 H1
            have B3 := Lib.hid b3; have B2 := Lib.hid b2; have L1 := Lib.hid l1; have H1 := Lib.hid hat
            clear b3 b2 l1 hat hk
            have f0 := blk_f B3.out 0; have c0 := blk_c B3.out 0
            have f1 := blk_f B3.out 1; have c1 := blk_c B3.out 1
            have f2 := blk_f B3.out 2; have c2 := blk_c B3.out 2
            have f3 := blk_f B3.out 3; have c3 := blk_c B3.out 3
            have g0 := blk_f B2.out 0; have g1 := blk_f B2.out 1; have g2 := blk_f B2.out 2; have g3 := blk_f B2.out 3
            have d0 := blk_c B2.out 0; have d1 := blk_c B2.out 1; have d2 := blk_c B2.out 2; have d3 := blk_c B2.out 3
            go_wp2_with fail
            refine bodyPost_ret (v := .agg #[.int .i64 (Sp.hd ts).at_, .bool true, .slice A3 i.length q3, .slice A7 c.length q7]) (by simp [results, Tryd.results78, go_sem, d0, d1, d2, d3]) rfl ?_
            have PC : w.heap.size < w4.heap.size := by omega
            have PI : w.heap.size < u2.heap.size := by omega
            unfold Sp.pRow
            simp only [E1.out, E2.out, E3.out, E7.out, if_true, E9.out]
            refine ⟨_, rfl, ⟨_, _, rfl, ?_, ?_⟩, ?_, ?_⟩
            · exact own_mono (own_far (own_far (own_far (own_far MI.out (p := ⟨w.heap.size, 0, none⟩) PI _) (p := ⟨w.heap.size, 1, none⟩) PI _) (p := ⟨w.heap.size, 2, none⟩) PI _) (p := ⟨w.heap.size, 3, none⟩) PI _) (Nat.le_of_lt PI)
            · exact own_mono (own_far (own_far (own_far (own_far MC.out (p := ⟨w.heap.size, 0, none⟩) PC _) (p := ⟨w.heap.size, 1, none⟩) PC _) (p := ⟨w.heap.size, 2, none⟩) PC _) (p := ⟨w.heap.size, 3, none⟩) PC _) (Nat.le_of_lt PC)
            · exact (((H1.out.setNew (p := ⟨w.heap.size, 0, none⟩) hne2 _).setNew (p := ⟨w.heap.size, 1, none⟩) hne2 _).setNew (p := ⟨w.heap.size, 2, none⟩) hne2 _).setNew (p := ⟨w.heap.size, 3, none⟩) hne2 _
            · exact (((L1.out.setNew (p := ⟨w.heap.size, 0, none⟩) (Nat.le_refl _) _).setNew (p := ⟨w.heap.size, 1, none⟩) (Nat.le_refl _) _).setNew (p := ⟨w.heap.size, 2, none⟩) (Nat.le_refl _) _).setNew (p := ⟨w.heap.size, 3, none⟩) (Nat.le_refl _) _
  · have CM := Lib.hid (may_no r s ⟨#[108, 111, 99, 97, 108]⟩ ts _ H1.out (by omega) hl)
    have E1 := Lib.hid hl; clear hl
    refine CM.out.mono ?_
    rintro e w2 hh
    obtain ⟨rfl, hat, hk⟩ := hh
    have hat := hat.at_
    have b3 := hk.blk B3.out hne3
    have b2 := hk.blk B2.out hne1
    have l1 := L1.out.trans hk
    clear B3 B2 L1 H1 CM
    have B3 := Lib.hid b3; have B2 := Lib.hid b2; have L1 := Lib.hid l1; have H1 := Lib.hid hat
    clear b3 b2 l1 hat hk
    have f1 := blk_f B3.out 1; have c1 := blk_c B3.out 1
    go_wp2_with fail
    have b3 := blk_set B3.out 1 (.bool false)
    have b2 := blk_far B2.out (p := ⟨w.heap.size + 1, 1, none⟩) (by simp) (.bool false)
    have l1 := L1.out.setNew (p := ⟨w.heap.size + 1, 1, none⟩) (Nat.le_succ _) (.bool false)
    have hat := H1.out.setNew (p := ⟨w.heap.size + 1, 1, none⟩) hne4 (.bool false)
    
    have hsz : (w2.setCell ⟨w.heap.size + 1, 1, none⟩ (.bool false)).heap.size = w2.heap.size := by simp [World.setCell]
    generalize w2.setCell ⟨w.heap.size + 1, 1, none⟩ (.bool false) = u2 at *
    clear B3 B2 L1 H1
    have B3 := Lib.hid b3; have B2 := Lib.hid b2; have L1 := Lib.hid l1; have H1 := Lib.hid hat; have HSZ := Lib.hid hsz
    clear b3 b2 l1 hat hsz
    have ULT2 := lt_of_block B3.out
    have C1 := Lib.hid (must_any r s ⟨#[112, 97, 114, 105, 116, 121]⟩ ts _ H1.out hs (by decide))
    rw [show (⟨#[112, 97, 114, 105, 116, 121]⟩ : ByteArray).data.toList = Sp.kParity from rfl] at C1
    rcases h1 : Sp.pTok Sp.kParity ts with p | ⟨a3, t1⟩
    · rw [h1] at C1
      refine C1.out.mono ?_
      rintro e w' ⟨he, hk⟩
      unfold Wrong at he
      subst he
      exact ⟨rfl, by unfold Sp.pRow; simp only [if_neg E1.out, h1]; exact ⟨rfl, L1.out.trans hk⟩⟩
    · rw [h1] at C1
      refine C1.out.mono ?_
      have E3 := Lib.hid h1; clear h1 C1
      rintro e w4 ⟨v4, rfl, hv, hat, hk⟩
      have b3 := hk.blk B3.out hne3
      have b2 := hk.blk B2.out hne1
      have l1 := L1.out.trans hk
      clear B3 B2 L1 H1
      have B3 := Lib.hid b3; have B2 := Lib.hid b2; have L1 := Lib.hid l1; have H1 := Lib.hid hat
      clear b3 b2 l1 hat hk
      go_wp2_with fail
      have ULT4 := lt_of_block B3.out
      have C1 := Lib.hid (numbers_any _ s t1 _ H1.out hs)
      rcases h1 : Sp.pNums t1 with p | ⟨c, t2⟩
      · rw [h1] at C1
        refine C1.out.mono ?_
        rintro e w' ⟨he, hk⟩
        unfold Wrong at he
        subst he
        exact ⟨rfl, by unfold Sp.pRow; simp only [if_neg E1.out, E3.out, h1]; exact ⟨rfl, L1.out.trans hk⟩⟩
      · rw [h1] at C1
        refine C1.out.mono ?_
        have E7 := Lib.hid h1; clear h1 C1
        rintro e w7 ⟨v7, rfl, hv, hat, hk⟩
        have b3 := hk.blk B3.out hne3
        have b2 := hk.blk B2.out hne1
        have l1 := L1.out.trans hk
        clear B3 B2 L1 H1
        have B3 := Lib.hid b3; have B2 := Lib.hid b2; have L1 := Lib.hid l1; have H1 := Lib.hid hat
        clear b3 b2 l1 hat hk
        obtain ⟨A7, q7, rfl⟩ := own_slice hv
        have MC := Lib.hid (show MarksV _ c w7 (.slice A7 c.length q7) from hv); clear hv
        have MCP : w.heap.size + 1 < w4.heap.size := ULT4
        have MCR : r < w4.heap.size := by omega
        have f3 := blk_f B3.out 3; have c3 := blk_c B3.out 3
        go_wp2_with fail
        have b3 := blk_set B3.out 3 (.slice A7 c.length q7)
        have b2 := blk_far B2.out (p := ⟨w.heap.size + 1, 3, none⟩) (by simp) (.slice A7 c.length q7)
        have l1 := L1.out.setNew (p := ⟨w.heap.size + 1, 3, none⟩) (Nat.le_succ _) (.slice A7 c.length q7)
        have hat := H1.out.setNew (p := ⟨w.heap.size + 1, 3, none⟩) hne4 (.slice A7 c.length q7)
        have mc := own_far (p := ⟨w.heap.size + 1, 3, none⟩) MC.out MCP (.slice A7 c.length q7)
        have hsz : (w7.setCell ⟨w.heap.size + 1, 3, none⟩ (.slice A7 c.length q7)).heap.size = w7.heap.size := by simp [World.setCell]
        generalize w7.setCell ⟨w.heap.size + 1, 3, none⟩ (.slice A7 c.length q7) = u8 at *
        clear B3 B2 L1 H1
        have B3 := Lib.hid b3; have B2 := Lib.hid b2; have L1 := Lib.hid l1; have H1 := Lib.hid hat; have HSZ := Lib.hid hsz
        clear b3 b2 l1 hat hsz
        clear MC; have MC := Lib.hid mc; clear mc
        have ULT8 := lt_of_block B3.out
        have C1 := Lib.hid (must_any r s ⟨#[59]⟩ t2 _ H1.out hs (by decide))
        rw [show (⟨#[59]⟩ : ByteArray).data.toList = Sp.kSemi from rfl] at C1
        rcases h1 : Sp.pTok Sp.kSemi t2 with p | ⟨a9, t3⟩
        · rw [h1] at C1
          refine C1.out.mono ?_
          rintro e w' ⟨he, hk⟩
          unfold Wrong at he
          subst he
          exact ⟨rfl, by unfold Sp.pRow; simp only [if_neg E1.out, E3.out, E7.out, h1]; exact ⟨rfl, L1.out.trans hk⟩⟩
        · rw [h1] at C1
          refine C1.out.mono ?_
          have E9 := Lib.hid h1; clear h1 C1
          rintro e w9 ⟨v9, rfl, hv, hat, hk⟩
          have MC' := Lib.hid (own_kp MC.out hk MCR); clear MC; have MC := MC'; clear MC'
          have b3 := hk.blk B3.out hne3
          have b2 := hk.blk B2.out hne1
          have l1 := L1.out.trans hk
          clear B3 B2 L1 H1
          have B3 := Lib.hid b3; have B2 := Lib.hid b2; have L1 := Lib.hid l1; have H1 := Lib.hid hat
          clear b3 b2 l1 hat hk
          have f0 := blk_f B3.out 0; have c0 := blk_c B3.out 0
          have f1 := blk_f B3.out 1; have c1 := blk_c B3.out 1
          have f2 := blk_f B3.out 2; have c2 := blk_c B3.out 2
          have f3 := blk_f B3.out 3; have c3 := blk_c B3.out 3
          have g0 := blk_f B2.out 0; have g1 := blk_f B2.out 1; have g2 := blk_f B2.out 2; have g3 := blk_f B2.out 3
          have d0 := blk_c B2.out 0; have d1 := blk_c B2.out 1; have d2 := blk_c B2.out 2; have d3 := blk_c B2.out 3
          go_wp2_with fail
          refine bodyPost_ret (v := .agg #[.int .i64 (Sp.hd ts).at_, .bool false, .slice none 0 0, .slice A7 c.length q7]) (by simp [results, Tryd.results78, go_sem, d0, d1, d2, d3]) rfl ?_
          have PC : w.heap.size < w4.heap.size := by omega
          unfold Sp.pRow
          simp only [if_neg E1.out, E3.out, E7.out, E9.out]
          refine ⟨_, rfl, ⟨_, _, rfl, ?_, ?_⟩, ?_, ?_⟩
          · exact World.ownsRow_nil _ _ _ _
          · exact own_mono (own_far (own_far (own_far (own_far MC.out (p := ⟨w.heap.size, 0, none⟩) PC _) (p := ⟨w.heap.size, 1, none⟩) PC _) (p := ⟨w.heap.size, 2, none⟩) PC _) (p := ⟨w.heap.size, 3, none⟩) PC _) (Nat.le_of_lt PC)
          · exact (((H1.out.setNew (p := ⟨w.heap.size, 0, none⟩) hne2 _).setNew (p := ⟨w.heap.size, 1, none⟩) hne2 _).setNew (p := ⟨w.heap.size, 2, none⟩) hne2 _).setNew (p := ⟨w.heap.size, 3, none⟩) hne2 _
          · exact (((L1.out.setNew (p := ⟨w.heap.size, 0, none⟩) (Nat.le_refl _) _).setNew (p := ⟨w.heap.size, 1, none⟩) (Nat.le_refl _) _).setNew (p := ⟨w.heap.size, 2, none⟩) (Nat.le_refl _) _).setNew (p := ⟨w.heap.size, 3, none⟩) (Nat.le_refl _) _
end Go.Proofs.YtppeplonnippcaaDoor
