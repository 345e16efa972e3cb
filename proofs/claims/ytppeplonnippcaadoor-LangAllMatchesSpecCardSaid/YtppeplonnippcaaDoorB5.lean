/-
Layer 7: parse, Parse and ParseAll against the specification.
-/
import Derived.Test.YtppeplonnippcaaDoorB4
import Derived.Test.YtppeplonnippcaaDoorS
set_option linter.unusedVariables false
set_option linter.unusedSimpArgs false
namespace Go.Proofs.YtppeplonnippcaaDoor
open Go.RowKit Go.Maps

def ParsePost (res : Except Sp.Er (List Sp.Code)) (w : World) (e : Ending) (w' : World) : Prop :=
  (match res with
   | .ok l => ∃ vo, e = .returned (.tuple #[vo, .agg #[.int .i64 0, .int .i64 0]]) ∧ CodesV w.heap.size l w' vo
   | .error (p, er) => e = .returned (.tuple #[.slice none 0 0, .agg #[.int .i64 p, .int .i64 er]])) ∧ Below w.heap.size w w'

theorem CodesV.mono {w : World} {b b' : Nat} {l : List Sp.Code} {v : Value} (h : CodesV b l w v) (hb : b' ≤ b) : CodesV b' l w v := by
  obtain ⟨cs, h1, h2⟩ := h
  exact ⟨cs, own_mono h1 hb, h2.keep fun x c ⟨vr, e, hv⟩ => ⟨vr, e, hv.mono hb⟩⟩
theorem new_at (w : World) (o : Obj) (k : Nat) (h : w.heap.size = k) : (w.alloc o).heap[k]? = some o := h ▸ heap_alloc_new w o

theorem guard_parse (n : Nat) (s : ByteArray) (single : Bool) (w : World) (hsz : w.heap.size = n + 6) (hng : NG ≤ n) (hs : s.size ≤ 2000) (he : Env w)
    (h0 : w.heap[n]? = some (.cells #[.string s] 9 (0, 0))) (h1 : w.heap[n + 1]? = some (.cells #[.bool single] 4 (0, 0))) (h3 : w.heap[n + 3]? = some (.cells #[.string s, .int .i64 0] 88 (0, 0)))
    (h4 : w.heap[n + 4]? = some (.cells #[.pointer (some ⟨n + 3, 0, none⟩)] 86 (0, 0))) (h5 : w.heap[n + 5]? = some (.cells #[.slice none 0 0] 34 (0, 0))) :
    Calls Tryd.prog 55 #[.func (.func 56) #[] #[.pointer (some ⟨n + 4, 0, none⟩), .pointer (some ⟨n, 0, none⟩), .pointer (some ⟨n + 1, 0, none⟩), .pointer (some ⟨n + 5, 0, none⟩)]] w
      (GuardPost (n + 6) (fun W => ∃ l vo, Sp.parseTs single (Sp.toks 0 s.data.toList) = .ok l ∧ W.heap[n + 5]? = some (.cells #[vo] 34 (0, 0)) ∧ CodesV (n + 7) l W vo ∧ Below (n + 3) (w.alloc z69) W)
        (fun p er W => Sp.parseTs single (Sp.toks 0 s.data.toList) = .error (p, er) ∧ Below (n + 3) (w.alloc z69) W)) := by
  have hsz2 : (w.alloc z69).heap.size = n + 7 := by rw [World.size_alloc, hsz]
  rw [← hsz]
  refine guard_any _ _ _ _ w _ _ ?_
  have h6 : (w.alloc z69).heap[n + 6]? = some z69 := by rw [← hsz]; exact heap_alloc_new w z69
  refine (parse1_any n s single (Sp.toks 0 s.data.toList) (w.alloc z69) hsz2 ⟨0, Nat.zero_le _, ⟨blk_old h3 _, by omega⟩, rfl⟩ hs (he.alloc _) (blk_old h0 _) (blk_old h1 _) (blk_old h4 _) (blk_old h5 _) h6).mono ?_
  rintro e w' ⟨hh, hz, hb⟩
  rw [hsz2] at hh
  rw [hsz]
  refine ⟨?_, hz⟩
  rcases hp : Sp.parseTs single (Sp.toks 0 s.data.toList) with ⟨p, er⟩ | l
  · rw [hp] at hh
    exact .inr ⟨p, er, hh, rfl, hb⟩
  · rw [hp] at hh
    obtain ⟨he, vo, h1, h2⟩ := hh
    exact .inl ⟨he, l, vo, rfl, h1, h2, hb⟩

set_option maxRecDepth 100000 in
set_option maxHeartbeats 4000000 in
theorem parse_any (s : ByteArray) (single : Bool) (w : World) (he : Env w) :
    Calls Tryd.prog 42 #[.string s, .bool single] w (ParsePost (Sp.parseL single s.data.toList) w) := by
  have hmf : ∀ (fn : Fn) (first cap : Array Value) (w : World), (Instr.makeFunc fn first cap).run Tryd.prog w = .ok (.func fn first cap) w := fun _ _ _ _ => rfl
  have HE := Lib.hid he
  have hng := he.size
  clear he
  by_cases h : s.size ≤ 2000
  · have hb : decide ((s.size : Int) > 2000) = false := by rw [decide_eq_false_iff_not]; omega
    have hb2 : decide (2000 < s.size) = false := by rw [decide_eq_false_iff_not]; omega
    go_enter Tryd.func42, Tryd.ntmps42
    go_upto_region 5 with fail
    have g0 : ((((((w.alloc (.cells #[.string s] 9)).alloc (.cells #[.bool single] 4)).alloc z69).alloc (.cells #[.string s, .int .i64 0] 88)).alloc (.cells #[.pointer (some ⟨w.heap.size + 3, 0, none⟩)] 86)).alloc (.cells #[.slice none 0 0] 34)).heap[w.heap.size + 0]? = some (.cells #[.string s] 9) := blk_old (blk_old (blk_old (blk_old (blk_old (new_at w (.cells #[.string s] 9) (w.heap.size + 0) (by simp)) (.cells #[.bool single] 4)) z69) (.cells #[.string s, .int .i64 0] 88)) (.cells #[.pointer (some ⟨w.heap.size + 3, 0, none⟩)] 86)) (.cells #[.slice none 0 0] 34)
    have g1 : ((((((w.alloc (.cells #[.string s] 9)).alloc (.cells #[.bool single] 4)).alloc z69).alloc (.cells #[.string s, .int .i64 0] 88)).alloc (.cells #[.pointer (some ⟨w.heap.size + 3, 0, none⟩)] 86)).alloc (.cells #[.slice none 0 0] 34)).heap[w.heap.size + 1]? = some (.cells #[.bool single] 4) := blk_old (blk_old (blk_old (blk_old (new_at (w.alloc (.cells #[.string s] 9)) (.cells #[.bool single] 4) (w.heap.size + 1) (by simp)) z69) (.cells #[.string s, .int .i64 0] 88)) (.cells #[.pointer (some ⟨w.heap.size + 3, 0, none⟩)] 86)) (.cells #[.slice none 0 0] 34)
    have g2 : ((((((w.alloc (.cells #[.string s] 9)).alloc (.cells #[.bool single] 4)).alloc z69).alloc (.cells #[.string s, .int .i64 0] 88)).alloc (.cells #[.pointer (some ⟨w.heap.size + 3, 0, none⟩)] 86)).alloc (.cells #[.slice none 0 0] 34)).heap[w.heap.size + 2]? = some z69 := blk_old (blk_old (blk_old (new_at ((w.alloc (.cells #[.string s] 9)).alloc (.cells #[.bool single] 4)) z69 (w.heap.size + 2) (by simp)) (.cells #[.string s, .int .i64 0] 88)) (.cells #[.pointer (some ⟨w.heap.size + 3, 0, none⟩)] 86)) (.cells #[.slice none 0 0] 34)
    have g3 : ((((((w.alloc (.cells #[.string s] 9)).alloc (.cells #[.bool single] 4)).alloc z69).alloc (.cells #[.string s, .int .i64 0] 88)).alloc (.cells #[.pointer (some ⟨w.heap.size + 3, 0, none⟩)] 86)).alloc (.cells #[.slice none 0 0] 34)).heap[w.heap.size + 3]? = some (.cells #[.string s, .int .i64 0] 88) := blk_old (blk_old (new_at (((w.alloc (.cells #[.string s] 9)).alloc (.cells #[.bool single] 4)).alloc z69) (.cells #[.string s, .int .i64 0] 88) (w.heap.size + 3) (by simp)) (.cells #[.pointer (some ⟨w.heap.size + 3, 0, none⟩)] 86)) (.cells #[.slice none 0 0] 34)
    have g4 : ((((((w.alloc (.cells #[.string s] 9)).alloc (.cells #[.bool single] 4)).alloc z69).alloc (.cells #[.string s, .int .i64 0] 88)).alloc (.cells #[.pointer (some ⟨w.heap.size + 3, 0, none⟩)] 86)).alloc (.cells #[.slice none 0 0] 34)).heap[w.heap.size + 4]? = some (.cells #[.pointer (some ⟨w.heap.size + 3, 0, none⟩)] 86) := blk_old (new_at ((((w.alloc (.cells #[.string s] 9)).alloc (.cells #[.bool single] 4)).alloc z69).alloc (.cells #[.string s, .int .i64 0] 88)) (.cells #[.pointer (some ⟨w.heap.size + 3, 0, none⟩)] 86) (w.heap.size + 4) (by simp)) (.cells #[.slice none 0 0] 34)
    have g5 : ((((((w.alloc (.cells #[.string s] 9)).alloc (.cells #[.bool single] 4)).alloc z69).alloc (.cells #[.string s, .int .i64 0] 88)).alloc (.cells #[.pointer (some ⟨w.heap.size + 3, 0, none⟩)] 86)).alloc (.cells #[.slice none 0 0] 34)).heap[w.heap.size + 5]? = some (.cells #[.slice none 0 0] 34) := new_at (((((w.alloc (.cells #[.string s] 9)).alloc (.cells #[.bool single] 4)).alloc z69).alloc (.cells #[.string s, .int .i64 0] 88)).alloc (.cells #[.pointer (some ⟨w.heap.size + 3, 0, none⟩)] 86)) (.cells #[.slice none 0 0] 34) (w.heap.size + 5) (by simp)
    have hsz : ((((((w.alloc (.cells #[.string s] 9)).alloc (.cells #[.bool single] 4)).alloc z69).alloc (.cells #[.string s, .int .i64 0] 88)).alloc (.cells #[.pointer (some ⟨w.heap.size + 3, 0, none⟩)] 86)).alloc (.cells #[.slice none 0 0] 34)).heap.size = w.heap.size + 6 := by simp
    have hbl : Below w.heap.size w ((((((w.alloc (.cells #[.string s] 9)).alloc (.cells #[.bool single] 4)).alloc z69).alloc (.cells #[.string s, .int .i64 0] 88)).alloc (.cells #[.pointer (some ⟨w.heap.size + 3, 0, none⟩)] 86)).alloc (.cells #[.slice none 0 0] 34)) := ((((((Below.refl w.heap.size w).alloc (by simp <;> omega) (.cells #[.string s] 9)).alloc (by simp <;> omega) (.cells #[.bool single] 4)).alloc (by simp <;> omega) z69).alloc (by simp <;> omega) (.cells #[.string s, .int .i64 0] 88)).alloc (by simp <;> omega) (.cells #[.pointer (some ⟨w.heap.size + 3, 0, none⟩)] 86)).alloc (by simp <;> omega) (.cells #[.slice none 0 0] 34)
    have hev : Env ((((((w.alloc (.cells #[.string s] 9)).alloc (.cells #[.bool single] 4)).alloc z69).alloc (.cells #[.string s, .int .i64 0] 88)).alloc (.cells #[.pointer (some ⟨w.heap.size + 3, 0, none⟩)] 86)).alloc (.cells #[.slice none 0 0] 34)) := HE.out.below hbl
    change Code.wp _ _ _ { tmps := #[.string s, .bool single, .pointer (some ⟨w.heap.size, 0, none⟩), .pointer (some ⟨w.heap.size + 1, 0, none⟩), .slice none 0 0, .pointer (some ⟨w.heap.size + 2, 0, none⟩), .pointer (some ⟨w.heap.size + 4, 0, none⟩), .pointer (some ⟨w.heap.size + 5, 0, none⟩), undef, .string s, .int .i64 s.size, .bool false, undef, .string s, .agg #[.string s, .int .i64 0], .pointer (some ⟨w.heap.size + 3, 0, none⟩), undef, undef, undef, undef, undef, undef, undef, undef], defers := [] } ((((((w.alloc (.cells #[.string s] 9)).alloc (.cells #[.bool single] 4)).alloc z69).alloc (.cells #[.string s, .int .i64 0] 88)).alloc (.cells #[.pointer (some ⟨w.heap.size + 3, 0, none⟩)] 86)).alloc (.cells #[.slice none 0 0] 34))
    generalize ((((((w.alloc (.cells #[.string s] 9)).alloc (.cells #[.bool single] 4)).alloc z69).alloc (.cells #[.string s, .int .i64 0] 88)).alloc (.cells #[.pointer (some ⟨w.heap.size + 3, 0, none⟩)] 86)).alloc (.cells #[.slice none 0 0] 34)) = W at *
    have CG := Lib.hid (guard_parse w.heap.size s single W hsz hng h hev g0 g1 g3 g4 g5)
    have HL : Hid (Sp.parseL single s.data.toList = Sp.parseTs single (Sp.toks 0 s.data.toList)) := Lib.hid (by unfold Sp.parseL; rw [if_neg (by have : s.data.toList.length = s.size := rfl; omega)])
    have G2 := Lib.hid g2; have G5 := Lib.hid g5; have HSZ := Lib.hid hsz; have HBL := Lib.hid hbl
    have hlt2 : w.heap.size + 2 < W.heap.size := by omega
    clear g0 g1 g2 g3 g4 g5 hev hsz hbl
    generalize hn : w.heap.size = n at *
    have HN := Lib.hid hn
    clear hn
    go_wp2_with fail
    refine CG.out.mono ?_
    rintro e w2 hh
    have hsa : (W.alloc z69).heap.size = n + 7 := by rw [World.size_alloc, HSZ.out]
    rcases hh with ⟨rfl, W1, ⟨l, vo, hp, hb5, hcv, hbel⟩, hk⟩ | ⟨p, er, rfl, W1, ⟨hp, hbel⟩, hk⟩
    · have hs1 : n + 7 ≤ W1.heap.size := by have := hbel.size; omega
      have hs2 : n + 7 ≤ w2.heap.size := Nat.le_trans hs1 hk.size
      have i2 : w2.heap[n + 2]? = some z69 := (hk.block (n + 2) (by omega) (by omega)).trans ((hbel.block (n + 2) (by omega)).trans (blk_old G2.out _))
      have i5 : w2.heap[n + 5]? = some (.cells #[vo] 34 (0, 0)) := hk.blk hb5 (by omega)
      have hcv2 : CodesV (n + 7) l w2 vo := hcv.all fun e _ => fun _ _ _ _ ho => own_kp ho hk (by omega)
      have hbl2 : Below n w w2 := ((HBL.out.alloc (by have := HSZ.out; omega) z69).trans (hbel.mono (by omega))).trans ((hk.toBelow (by omega)).mono (by omega))
      have I2 := Lib.hid i2; have IC := Lib.hid hcv2; have IB := Lib.hid hbl2; have HPP := Lib.hid hp
      have e0 : w2.cell? ⟨n + 2, 0, none⟩ = some (.int .i64 0) := blk_c i2 0
      have e1 : w2.cell? ⟨n + 2, 1, none⟩ = some (.int .i64 0) := blk_c i2 1
      have f0 : w2.frozen? ⟨n + 2, 0, none⟩ = false := blk_f i2 0
      have f1 : w2.frozen? ⟨n + 2, 1, none⟩ = false := blk_f i2 1
      have e5 : w2.cell? ⟨n + 5, 0, none⟩ = some vo := blk_c i5 0
      have l2 : n + 2 < w2.heap.size := by omega
      have l5 : n + 5 < w2.heap.size := by omega
      have hT : ¬ w2.heap.size = n + 2 := by omega
      have hT2 : ¬ n + 2 = w2.heap.size := by omega
      clear hcv hb5 hbel hk i2 i5 hcv2 hbl2 hp hs1 hsa
      go_wp2_with fail
      go_region
      all_goals
        go_wp2_with fail
        have fb : ((((w2.setCell ⟨n + 2, 0, none⟩ (.int .i64 0)).setCell ⟨n + 2, 1, none⟩ (.int .i64 0)).alloc (.cells #[.int .i64 0, .int .i64 0] 69)).drew).heap[n + 2]? = some (.cells #[.int .i64 0, .int .i64 0] 69 (0, 0)) := blk_old (blk_set (blk_set I2.out 0 _) 1 _) _
        have fl : Below n w ((((w2.setCell ⟨n + 2, 0, none⟩ (.int .i64 0)).setCell ⟨n + 2, 1, none⟩ (.int .i64 0)).alloc (.cells #[.int .i64 0, .int .i64 0] 69)).drew) := (((IB.out.setCell (p := ⟨n + 2, 0, none⟩) (by show n ≤ n + 2; omega) _).setCell (p := ⟨n + 2, 1, none⟩) (by show n ≤ n + 2; omega) _).alloc (by simp [World.setCell]; omega) _).drew
        have fc : CodesV n l ((((w2.setCell ⟨n + 2, 0, none⟩ (.int .i64 0)).setCell ⟨n + 2, 1, none⟩ (.int .i64 0)).alloc (.cells #[.int .i64 0, .int .i64 0] 69)).drew) vo := CodesV.mono (b := n + 7) (IC.out.all fun e _ => ((Keeps.far w2 e (p := ⟨n + 2, 0, none⟩) (by show n + 2 < n + 7; omega) _).trans (Keeps.far _ e (p := ⟨n + 2, 1, none⟩) (by show n + 2 < n + 7; omega) _)).trans (Keeps.alloc _ _ e _)) (by omega)
        generalize (((w2.setCell ⟨n + 2, 0, none⟩ (.int .i64 0)).setCell ⟨n + 2, 1, none⟩ (.int .i64 0)).alloc (.cells #[.int .i64 0, .int .i64 0] 69)).drew = wf at *
        have r0 : wf.cell? ⟨n + 2, 0, none⟩ = some (.int .i64 0) := blk_c fb 0
        have r1 : wf.cell? ⟨n + 2, 1, none⟩ = some (.int .i64 0) := blk_c fb 1
        refine bodyPost_ret (v := .tuple #[vo, .agg #[.int .i64 0, .int .i64 0]]) (by simp [results, Tryd.results42, go_sem, r0, r1]) rfl ?_
        unfold ParsePost
        rw [HL.out, HPP.out, HN.out]
        exact ⟨⟨vo, rfl, fc⟩, fl⟩
    · have her := Sp.parseTs_er hp
      have hs1 : n + 7 ≤ W1.heap.size := by have := hbel.size; omega
      have hs2 : n + 7 ≤ w2.heap.size := Nat.le_trans hs1 hk.size
      have i2 : w2.heap[n + 2]? = some z69 := (hk.block (n + 2) (by omega) (by omega)).trans ((hbel.block (n + 2) (by omega)).trans (blk_old G2.out _))
      have hbl2 : Below n w w2 := ((HBL.out.alloc (by have := HSZ.out; omega) z69).trans (hbel.mono (by omega))).trans ((hk.toBelow (by omega)).mono (by omega))
      have I2 := Lib.hid i2; have IB := Lib.hid hbl2; have HPP := Lib.hid hp
      have e0 : w2.cell? ⟨n + 2, 0, none⟩ = some (.int .i64 0) := blk_c i2 0
      have e1 : w2.cell? ⟨n + 2, 1, none⟩ = some (.int .i64 0) := blk_c i2 1
      have f0 : w2.frozen? ⟨n + 2, 0, none⟩ = false := blk_f i2 0
      have f1 : w2.frozen? ⟨n + 2, 1, none⟩ = false := blk_f i2 1
      have l2 : n + 2 < w2.heap.size := by omega
      have hT : ¬ w2.heap.size = n + 2 := by omega
      have hT2 : ¬ n + 2 = w2.heap.size := by omega
      have hne : ((er : Int) != 0) = true := by have := her.1; simp only at this; simp; omega
      have hne2 : ((er : Int) == 0) = false := by have := her.1; simp only at this; rw [beq_eq_false_iff_ne]; omega
      clear hbel hk i2 hbl2 hp hs1 hsa her
      go_wp2_with fail
      go_region
      all_goals
        go_wp2_with fail
        have fb : ((((w2.setCell ⟨n + 2, 0, none⟩ (.int .i64 p)).setCell ⟨n + 2, 1, none⟩ (.int .i64 er)).alloc (.cells #[.int .i64 p, .int .i64 er] 69)).drew).heap[n + 2]? = some (.cells #[.int .i64 p, .int .i64 er] 69 (0, 0)) := blk_old (blk_set (blk_set I2.out 0 _) 1 _) _
        have fl : Below n w ((((w2.setCell ⟨n + 2, 0, none⟩ (.int .i64 p)).setCell ⟨n + 2, 1, none⟩ (.int .i64 er)).alloc (.cells #[.int .i64 p, .int .i64 er] 69)).drew) := (((IB.out.setCell (p := ⟨n + 2, 0, none⟩) (by show n ≤ n + 2; omega) _).setCell (p := ⟨n + 2, 1, none⟩) (by show n ≤ n + 2; omega) _).alloc (by simp [World.setCell]; omega) _).drew
        generalize (((w2.setCell ⟨n + 2, 0, none⟩ (.int .i64 p)).setCell ⟨n + 2, 1, none⟩ (.int .i64 er)).alloc (.cells #[.int .i64 p, .int .i64 er] 69)).drew = wf at *
        have r0 : wf.cell? ⟨n + 2, 0, none⟩ = some (.int .i64 p) := blk_c fb 0
        have r1 : wf.cell? ⟨n + 2, 1, none⟩ = some (.int .i64 er) := blk_c fb 1
        refine bodyPost_ret (v := .tuple #[.slice none 0 0, .agg #[.int .i64 p, .int .i64 er]]) (by simp [results, Tryd.results42, go_sem, r0, r1]) rfl ?_
        unfold ParsePost
        rw [HL.out, HPP.out, HN.out]
        exact ⟨rfl, fl⟩
  · have hb : decide ((s.size : Int) > 2000) = true := by rw [decide_eq_true_iff]; omega
    have hb2 : decide (2000 < s.size) = true := by rw [decide_eq_true_iff]; omega
    go_enter Tryd.func42, Tryd.ntmps42
    go_wp2_with fail
    refine bodyPost_ret (v := .tuple #[.slice none 0 0, .agg #[.int .i64 0, .int .i64 2]]) (by simp [results, Tryd.results42, go_sem]) rfl ?_
    unfold ParsePost Sp.parseL
    rw [if_pos (by have : s.data.toList.length = s.size := rfl; omega)]
    exact ⟨rfl, (((Below.refl _ _).alloc (Nat.le_refl _) _).alloc (by simp) _).alloc (by simp; omega) _⟩
end Go.Proofs.YtppeplonnippcaaDoor
