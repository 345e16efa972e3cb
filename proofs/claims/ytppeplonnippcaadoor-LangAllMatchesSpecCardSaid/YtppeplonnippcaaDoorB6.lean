/-
Layer 7: Parse and ParseAll against the specification.
-/
import Derived.Test.YtppeplonnippcaaDoorB5
import Derived.Test.YtppeplonnippcaaDoorS
set_option linter.unusedVariables false
set_option linter.unusedSimpArgs false
namespace Go.Proofs.YtppeplonnippcaaDoor
open Go.RowKit Go.Maps

theorem CodesV.shape {w : World} {b0 : Nat} {l : List Sp.Code} {v : Value} (h : CodesV b0 l w v) : ∃ A q, v = .slice A l.length q := by
  obtain ⟨cs, h1, _⟩ := h; exact own_slice h1
theorem CodesV.at_ {b0 : Nat} {l : List Sp.Code} {w : World} {A : Option Addr} {q : Nat} (h : CodesV b0 l w (.slice A l.length q)) (j : Nat) (hj : j < l.length) :
    ∃ g vr, A = some ⟨g, 0, none⟩ ∧ ParV b0 l[j].parity w vr ∧ ∀ k v, (codeCells l[j] vr)[k]? = some v → w.cell? ⟨g, j * 5 + k, none⟩ = some v := by
  obtain ⟨cs, ho, hin⟩ := h
  obtain ⟨g, cap, hv, hb, hlt⟩ := World.ownsRow.form ho (by omega)
  simp only [Value.slice.injEq, true_and] at hv
  obtain ⟨rfl, rfl⟩ := hv
  obtain ⟨c, ⟨vr, rfl, hr⟩, hc⟩ := hin.at_ (n := 5) (fun x c ⟨vr, e, _⟩ => by subst e; rfl) j hj
  refine ⟨g, vr, rfl, hr, fun k v hk => ?_⟩
  have hk5 : k < 5 := (List.getElem?_eq_some_iff.1 hk).1
  have := World.ownsRow.cells ho (g := g) rfl _ _ ((hc k hk5).trans hk)
  have add : ∀ k, (⟨g, 0, none⟩ : Addr).add k = ⟨g, k, none⟩ := by intro k; unfold Addr.add; split <;> simp_all
  rwa [add] at this

theorem CodesV.drewN {w : World} {b0 : Nat} {l : List Sp.Code} {v : Value} (h : CodesV b0 l w v) (n : Nat) : CodesV b0 l (w.drewN n) v := h.all fun e _ => fun _ _ _ _ ho => ho
def AllPost (res : Except Sp.Er (List Sp.Code)) (w : World) (e : Ending) (w' : World) : Prop :=
  (match res with
   | .ok l => ∃ vo, e = .returned (.tuple #[vo, .int .i64 0, .int .i64 0]) ∧ CodesV w.heap.size l w' vo
   | .error (p, er) => e = .returned (.tuple #[.slice none 0 0, .int .i64 p, .int .i64 er])) ∧ Below w.heap.size w w'
def z24v : Value := .agg #[.string ⟨#[]⟩, .int .i64 0, .int .i64 0, .slice none 0 0, .int .i64 0]
def OnePost (res : Except Sp.Er (List Sp.Code)) (w : World) (e : Ending) (w' : World) : Prop :=
  (match res with
   | .ok l => ∃ c vo, l = [c] ∧ e = .returned (.tuple #[vo, .int .i64 0, .int .i64 0]) ∧ CodeV w.heap.size c w' vo
   | .error (p, er) => e = .returned (.tuple #[z24v, .int .i64 p, .int .i64 er])) ∧ Below w.heap.size w w'

set_option maxRecDepth 100000 in
set_option maxHeartbeats 4000000 in
theorem ParseAll_any (s : ByteArray) (w : World) (he : Env w) : Calls Tryd.prog 20 #[.string s] w (AllPost (Sp.parseL false s.data.toList) w) := by
  have C := Lib.hid (parse_any s false w he)
  clear he
  go_enter Tryd.func20, Tryd.ntmps20
  go_wp2_with fail
  refine C.out.mono ?_
  rintro e w2 ⟨hh, hb⟩
  have HB := Lib.hid hb; clear hb
  rcases hp : Sp.parseL false s.data.toList with ⟨p, er⟩ | l
  · rw [hp] at hh
    dsimp only at hh
    subst hh
    go_wp2_with fail
    go_quiet (fail)
    go_wp2_with fail
    refine bodyPost_ret (v := .tuple #[.slice none 0 0, .int .i64 p, .int .i64 er]) (by simp [results, Tryd.results20, go_sem]) rfl ?_
    unfold AllPost; rw [hp]
    exact ⟨rfl, pw_below_drewN' (HB.out.alloc HB.out.size _) _⟩
  · rw [hp] at hh
    obtain ⟨vo, rfl, hcv⟩ := hh
    have HC := Lib.hid hcv; clear hcv
    go_wp2_with fail
    go_quiet (fail)
    go_wp2_with fail
    refine bodyPost_ret (v := .tuple #[vo, .int .i64 0, .int .i64 0]) (by simp [results, Tryd.results20, go_sem]) rfl ?_
    unfold AllPost; rw [hp]
    exact ⟨⟨vo, rfl, (HC.out.all fun e _ => Keeps.alloc w2 _ e _).drewN _⟩, pw_below_drewN' (HB.out.alloc HB.out.size _) _⟩

set_option maxRecDepth 100000 in
set_option maxHeartbeats 4000000 in
theorem Parse_any (s : ByteArray) (w : World) (he : Env w) : Calls Tryd.prog 18 #[.string s] w (OnePost (Sp.parseL true s.data.toList) w) := by
  have C := Lib.hid (show ∀ o, Calls Tryd.prog 42 #[.string s, .bool true] (w.alloc o) (ParsePost (Sp.parseL true s.data.toList) (w.alloc o)) from fun o => parse_any s true (w.alloc o) (he.alloc o))
  clear he
  go_enter Tryd.func18, Tryd.ntmps18
  go_wp2_with fail
  refine (C.out _).mono ?_
  rintro e w2 ⟨hh, hb⟩
  have HB := Lib.hid hb
  have hR : w2.heap[w.heap.size]? = some (.cells #[.string ⟨#[]⟩, .int .i64 0, .int .i64 0, .slice none 0 0, .int .i64 0] 24 (0, 0)) := (hb.block _ (by simp)).trans (heap_alloc_new w _)
  have hlt := lt_of_block hR
  have HR := Lib.hid hR
  have r0 : w2.cell? ⟨w.heap.size, 0, none⟩ = some (.string ⟨#[]⟩) := blk_c hR 0
  have r1 : w2.cell? ⟨w.heap.size, 1, none⟩ = some (.int .i64 0) := blk_c hR 1
  have r2 : w2.cell? ⟨w.heap.size, 2, none⟩ = some (.int .i64 0) := blk_c hR 2
  have r3 : w2.cell? ⟨w.heap.size, 3, none⟩ = some (.slice none 0 0) := blk_c hR 3
  have r4 : w2.cell? ⟨w.heap.size, 4, none⟩ = some (.int .i64 0) := blk_c hR 4
  have f0 := blk_f hR 0; have f1 := blk_f hR 1; have f2 := blk_f hR 2; have f3 := blk_f hR 3; have f4 := blk_f hR 4
  clear hb hR
  have hT : ¬ w2.heap.size = w.heap.size := by omega
  have hT2 : ¬ w.heap.size = w2.heap.size := by omega
  rcases hp : Sp.parseL true s.data.toList with ⟨p, er⟩ | l
  · have her := Sp.parseL_er hp
    have hne2 : ((er : Int) == 0) = false := by have := her.1; simp only at this; rw [beq_eq_false_iff_ne]; omega
    clear her
    rw [hp] at hh
    dsimp only at hh
    subst hh
    go_wp2_with fail
    go_region
    all_goals
      go_wp2_with fail
      have fb : (((((((w2.setCell ⟨w.heap.size, 0, none⟩ (.string ⟨#[]⟩)).setCell ⟨w.heap.size, 1, none⟩ (.int .i64 0)).setCell ⟨w.heap.size, 2, none⟩ (.int .i64 0)).setCell ⟨w.heap.size, 3, none⟩ (.slice none 0 0)).setCell ⟨w.heap.size, 4, none⟩ (.int .i64 0)).alloc (.cells #[.int .i64 p, .int .i64 er] 69)).drew).heap[w.heap.size]? = some (.cells #[.string ⟨#[]⟩, .int .i64 0, .int .i64 0, .slice none 0 0, .int .i64 0] 24 (0, 0)) := blk_old (blk_set (blk_set (blk_set (blk_set (blk_set HR.out 0 _) 1 _) 2 _) 3 _) 4 _) _
      have hb0 : Below w.heap.size w w2 := ((Below.refl w.heap.size w).alloc (Nat.le_refl _) _).trans (HB.out.mono (by simp))
      have fl : Below w.heap.size w (((((((w2.setCell ⟨w.heap.size, 0, none⟩ (.string ⟨#[]⟩)).setCell ⟨w.heap.size, 1, none⟩ (.int .i64 0)).setCell ⟨w.heap.size, 2, none⟩ (.int .i64 0)).setCell ⟨w.heap.size, 3, none⟩ (.slice none 0 0)).setCell ⟨w.heap.size, 4, none⟩ (.int .i64 0)).alloc (.cells #[.int .i64 p, .int .i64 er] 69)).drew) := ((((((hb0.setCell (p := ⟨w.heap.size, 0, none⟩) (Nat.le_refl _) _).setCell (p := ⟨w.heap.size, 1, none⟩) (Nat.le_refl _) _).setCell (p := ⟨w.heap.size, 2, none⟩) (Nat.le_refl _) _).setCell (p := ⟨w.heap.size, 3, none⟩) (Nat.le_refl _) _).setCell (p := ⟨w.heap.size, 4, none⟩) (Nat.le_refl _) _).alloc (by simp [World.setCell]; exact hb0.size) _).drew
      generalize ((((((w2.setCell ⟨w.heap.size, 0, none⟩ (.string ⟨#[]⟩)).setCell ⟨w.heap.size, 1, none⟩ (.int .i64 0)).setCell ⟨w.heap.size, 2, none⟩ (.int .i64 0)).setCell ⟨w.heap.size, 3, none⟩ (.slice none 0 0)).setCell ⟨w.heap.size, 4, none⟩ (.int .i64 0)).alloc (.cells #[.int .i64 p, .int .i64 er] 69)).drew = wf at *
      have q0 : wf.cell? ⟨w.heap.size, 0, none⟩ = some (.string ⟨#[]⟩) := blk_c fb 0
      have q1 : wf.cell? ⟨w.heap.size, 1, none⟩ = some (.int .i64 0) := blk_c fb 1
      have q2 : wf.cell? ⟨w.heap.size, 2, none⟩ = some (.int .i64 0) := blk_c fb 2
      have q3 : wf.cell? ⟨w.heap.size, 3, none⟩ = some (.slice none 0 0) := blk_c fb 3
      have q4 : wf.cell? ⟨w.heap.size, 4, none⟩ = some (.int .i64 0) := blk_c fb 4
      refine bodyPost_ret (v := .tuple #[z24v, .int .i64 p, .int .i64 er]) (by simp [results, Tryd.results18, go_sem, q0, q1, q2, q3, q4, z24v]) rfl ?_
      unfold OnePost
      rw [hp]
      exact ⟨rfl, fl⟩
  · rw [hp] at hh
    have hl := Sp.parseL_one hp
    obtain ⟨vo, rfl, hcv⟩ := hh
    obtain ⟨c, rfl⟩ := List.length_eq_one_iff.1 hl
    obtain ⟨A, q, rfl⟩ := hcv.shape
    obtain ⟨g, vp, hA, hpv, hc⟩ := hcv.at_ 0 (by simp)
    subst hA
    simp only [List.length_singleton, List.getElem_cons_zero, Nat.zero_mul, Nat.zero_add] at hc hpv ⊢
    have s0 : w2.cell? ⟨g, 0, none⟩ = some (.string (bs c.name)) := hc 0 _ rfl
    have s1 : w2.cell? ⟨g, 1, none⟩ = some (.int .i64 c.field) := hc 1 _ rfl
    have s2 : w2.cell? ⟨g, 2, none⟩ = some (.int .i64 c.data) := hc 2 _ rfl
    have s3 : w2.cell? ⟨g, 3, none⟩ = some vp := hc 3 _ rfl
    have s4 : w2.cell? ⟨g, 4, none⟩ = some (.int .i64 c.domain) := hc 4 _ rfl
    have hgl : g < w2.heap.size := World.block_lt_of_cell? w2 ⟨g, 0, none⟩ s0
    obtain ⟨cp, hop, hip⟩ := hpv
    obtain ⟨Ap, qp, rfl⟩ := own_slice hop
    have HPV := Lib.hid (show ParV _ c.parity w2 (.slice Ap c.parity.length qp) from ⟨cp, hop, hip⟩)
    clear hop hip hc hcv hl
    go_wp2_with fail
    have fb : (((((((w2.setCell ⟨w.heap.size, 0, none⟩ (.string (bs c.name))).setCell ⟨w.heap.size, 1, none⟩ (.int .i64 c.field)).setCell ⟨w.heap.size, 2, none⟩ (.int .i64 c.data)).setCell ⟨w.heap.size, 3, none⟩ (.slice Ap c.parity.length qp)).setCell ⟨w.heap.size, 4, none⟩ (.int .i64 c.domain)).alloc (.cells #[.int .i64 0, .int .i64 0] 69))).heap[w.heap.size]? = some (.cells #[.string (bs c.name), .int .i64 c.field, .int .i64 c.data, .slice Ap c.parity.length qp, .int .i64 c.domain] 24 (0, 0)) := blk_old (blk_set (blk_set (blk_set (blk_set (blk_set HR.out 0 _) 1 _) 2 _) 3 _) 4 _) _
    have hb0 : Below w.heap.size w w2 := ((Below.refl w.heap.size w).alloc (Nat.le_refl _) _).trans (HB.out.mono (by simp))
    have fl : Below w.heap.size w (((((((w2.setCell ⟨w.heap.size, 0, none⟩ (.string (bs c.name))).setCell ⟨w.heap.size, 1, none⟩ (.int .i64 c.field)).setCell ⟨w.heap.size, 2, none⟩ (.int .i64 c.data)).setCell ⟨w.heap.size, 3, none⟩ (.slice Ap c.parity.length qp)).setCell ⟨w.heap.size, 4, none⟩ (.int .i64 c.domain)).alloc (.cells #[.int .i64 0, .int .i64 0] 69))) := ((((((hb0.setCell (p := ⟨w.heap.size, 0, none⟩) (Nat.le_refl _) _).setCell (p := ⟨w.heap.size, 1, none⟩) (Nat.le_refl _) _).setCell (p := ⟨w.heap.size, 2, none⟩) (Nat.le_refl _) _).setCell (p := ⟨w.heap.size, 3, none⟩) (Nat.le_refl _) _).setCell (p := ⟨w.heap.size, 4, none⟩) (Nat.le_refl _) _).alloc (by simp [World.setCell]; exact hb0.size) _)
    have hR1 : ∀ k, (⟨w.heap.size, k, none⟩ : Addr).block < (w.alloc (.cells #[.string ⟨#[]⟩, .int .i64 0, .int .i64 0, .slice none 0 0, .int .i64 0] 24)).heap.size := fun k => by rw [World.size_alloc]; exact Nat.lt_succ_self _
    have fc : ParV w.heap.size c.parity (((((((w2.setCell ⟨w.heap.size, 0, none⟩ (.string (bs c.name))).setCell ⟨w.heap.size, 1, none⟩ (.int .i64 c.field)).setCell ⟨w.heap.size, 2, none⟩ (.int .i64 c.data)).setCell ⟨w.heap.size, 3, none⟩ (.slice Ap c.parity.length qp)).setCell ⟨w.heap.size, 4, none⟩ (.int .i64 c.domain)).alloc (.cells #[.int .i64 0, .int .i64 0] 69))) (.slice Ap c.parity.length qp) := ParV.mono (HPV.out.all fun e _ => (((((Keeps.far w2 e (hR1 0) _).trans (Keeps.far _ e (hR1 1) _)).trans (Keeps.far _ e (hR1 2) _)).trans (Keeps.far _ e (hR1 3) _)).trans (Keeps.far _ e (hR1 4) _)).trans (Keeps.alloc _ _ e _)) (by simp)
    generalize ((((((w2.setCell ⟨w.heap.size, 0, none⟩ (.string (bs c.name))).setCell ⟨w.heap.size, 1, none⟩ (.int .i64 c.field)).setCell ⟨w.heap.size, 2, none⟩ (.int .i64 c.data)).setCell ⟨w.heap.size, 3, none⟩ (.slice Ap c.parity.length qp)).setCell ⟨w.heap.size, 4, none⟩ (.int .i64 c.domain)).alloc (.cells #[.int .i64 0, .int .i64 0] 69)) = wf at *
    have q0 : wf.cell? ⟨w.heap.size, 0, none⟩ = some (.string (bs c.name)) := blk_c fb 0
    have q1 : wf.cell? ⟨w.heap.size, 1, none⟩ = some (.int .i64 c.field) := blk_c fb 1
    have q2 : wf.cell? ⟨w.heap.size, 2, none⟩ = some (.int .i64 c.data) := blk_c fb 2
    have q3 : wf.cell? ⟨w.heap.size, 3, none⟩ = some (.slice Ap c.parity.length qp) := blk_c fb 3
    have q4 : wf.cell? ⟨w.heap.size, 4, none⟩ = some (.int .i64 c.domain) := blk_c fb 4
    refine bodyPost_ret (v := .tuple #[codeV c (.slice Ap c.parity.length qp), .int .i64 0, .int .i64 0]) (by simp [results, Tryd.results18, go_sem, q0, q1, q2, q3, q4, codeV]) rfl ?_
    unfold OnePost; rw [hp]
    exact ⟨⟨c, _, rfl, rfl, _, rfl, fc⟩, fl⟩
end Go.Proofs.YtppeplonnippcaaDoor
