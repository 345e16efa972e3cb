/-
Layer 7: the reference's parser: top, parity, local.
-/
import Derived.Test.YtppeplonnippcaaDoorH2
import Derived.Test.YtppeplonnippcaaDoorA9
set_option linter.unusedVariables false
set_option linter.unusedSimpArgs false
namespace Go.Proofs.YtppeplonnippcaaDoor
open Go.RowKit

theorem rtop_any (f : Nat) (w : World) : Calls Tryd.prog 38 #[.int .i64 f] w fun e w' => e = .returned (.int .i64 (Rp.topR f)) ∧ w = w' := by
  by_cases h : f = 8
  · subst h
    go_enter Tryd.func38, Tryd.ntmps38
    go_wp2
    go_ret
    exact ⟨rfl, rfl⟩
  · have hb : ((f : Int) == 8) = false := by rw [beq_eq_false_iff_ne]; omega
    have H := Lib.hid h
    go_enter Tryd.func38, Tryd.ntmps38
    go_wp2
    go_ret
    exact ⟨by unfold Rp.topR; rw [if_neg H.out]; rfl, rfl⟩

theorem rcells_at (l : List Sp.Tok) (j : Nat) (hj : j < l.length) : (rcells l)[j * 4]? = some (.string (bs l[j].txt)) ∧ (rcells l)[j * 4 + 1]? = some (.int .i64 l[j].at_) ∧ (rcells l)[j * 4 + 2]? = some (.int .i64 l[j].kind) ∧ (rcells l)[j * 4 + 3]? = some (.int .i64 l[j].n) := by
  induction l generalizing j with
  | nil => simp at hj
  | cons a l ih =>
    cases j with
    | zero => simp [rcells, rtokC]
    | succ j =>
      have h := ih j (by simpa using hj)
      have e : ∀ k, (rcells (a :: l))[(j + 1) * 4 + k]? = (rcells l)[j * 4 + k]? := by
        intro k
        have : rcells (a :: l) = rtokC a ++ rcells l := by simp [rcells]
        rw [this, List.getElem?_append_right (by simp [rtokC]; omega)]
        congr 1
        simp [rtokC]; omega
      have e0 := e 0
      simp only [Nat.add_zero] at e0
      rw [e0, e 1, e 2, e 3]
      simpa using h
theorem RToksV.at_ {b0 : Nat} {l : List Sp.Tok} {w : World} {A : Option Addr} {q : Nat} (h : RToksV b0 l w (.slice A l.length q)) (j : Nat) (hj : j < l.length) :
    ∃ g, A = some ⟨g, 0, none⟩ ∧ w.cell? ⟨g, j * 4, none⟩ = some (.string (bs l[j].txt)) ∧ w.cell? ⟨g, j * 4 + 1, none⟩ = some (.int .i64 l[j].at_) ∧ w.cell? ⟨g, j * 4 + 2, none⟩ = some (.int .i64 l[j].kind) ∧ w.cell? ⟨g, j * 4 + 3, none⟩ = some (.int .i64 l[j].n) := by
  obtain ⟨g, cap, hv, hb, hlt⟩ := World.ownsRow.form h (by omega)
  simp only [Value.slice.injEq, true_and] at hv
  obtain ⟨rfl, rfl⟩ := hv
  have hc := rcells_at l j hj
  have add : ∀ k, (⟨g, 0, none⟩ : Addr).add k = ⟨g, k, none⟩ := by intro k; unfold Addr.add; split <;> simp_all
  have h0 := World.ownsRow.cells h (g := g) rfl (j * 4) _ hc.1
  have h1 := World.ownsRow.cells h (g := g) rfl (j * 4 + 1) _ hc.2.1
  have h2 := World.ownsRow.cells h (g := g) rfl (j * 4 + 2) _ hc.2.2.1
  have h3 := World.ownsRow.cells h (g := g) rfl (j * 4 + 3) _ hc.2.2.2
  rw [add] at h0 h1 h2 h3
  exact ⟨g, rfl, h0, h1, h2, h3⟩
theorem RToksV.below {b0 : Nat} {l : List Sp.Tok} {w w' : World} {v : Value} (h : RToksV b0 l w v) (k : Below w.heap.size w w') : RToksV b0 l w' v := own_below h k

/-- a row, or where it failed -/
def RRowPost (res : Except Sp.Er (List Int)) (w : World) (e : Ending) (w' : World) : Prop :=
  (match res with
   | .ok r => ∃ v, e = .returned (.tuple #[v, .int .i64 0, .int .i64 0]) ∧ RowV w.heap.size r w' v
   | .error (p, er) => e = .returned (.tuple #[.slice none 0 0, .int .i64 p, .int .i64 er])) ∧ Below w.heap.size w w'
theorem RRowPost.err {res : Except Sp.Er (List Int)} {w w' : World} {p er : Nat} (h : res = .error (p, er)) (hb : Below w.heap.size w w') : RRowPost res w (.returned (.tuple #[.slice none 0 0, .int .i64 p, .int .i64 er])) w' := by
  subst h; exact ⟨rfl, hb⟩
theorem bel_drewN' {B : Nat} {w W : World} (h : Below B w W) (n : Nat) : Below B w (W.drewN n) := ⟨h.os, h.tape, h.output, h.size, h.block⟩
theorem own_ne_type' {w : World} {base e size n : Nat} {v : Value} {xs : List Value} (h : w.ownsRow base e size v n xs) {b : Nat} {cs : Array Value} {t : TypeId} {fr : Nat × Nat} (hb : w.heap[b]? = some (.cells cs t fr)) (ht : e ≠ t) : v.ownBlock ≠ some b := by
  intro ee
  rcases h.2 with ⟨rfl, _⟩ | ⟨g, cap, cur, rfl, _, hh, _⟩
  · simp [Value.ownBlock] at ee
  · have : g = b := by simpa [Value.ownBlock] using ee
    subst this
    rw [hh] at hb
    injection hb with hb
    injection hb with _ h2
    exact ht h2
theorem ints_snoc (l : List Int) (x : Int) : ints (l ++ [x]) = ints l ++ [.int .i64 x] := by simp [ints]

set_option maxRecDepth 100000 in
set_option maxHeartbeats 4000000 in
theorem rparity_any (x : Rp.Line) (va vb : Value) (b0 data top : Nat) (w : World) (ha : RToksV b0 x.a w va) (hb : RToksV b0 x.b w vb) (h1 : x.a.length ≤ 3000) (h2 : x.b.length ≤ 3000) (hd : data ≤ 31) (ht : top ≤ 65535) :
    Calls Tryd.prog 67 #[.agg #[.string (bs x.key.txt), .int .i64 x.key.at_, .int .i64 x.key.kind, .int .i64 x.key.n, va, vb], .int .i64 data, .int .i64 top] w (RRowPost (Rp.parR x data top) w) := by
  obtain ⟨Aa, qa, rfl⟩ := own_slice ha
  obtain ⟨Ab, qb, rfl⟩ := own_slice hb
  have HA := Lib.hid ha; have HB := Lib.hid hb
  clear ha hb
  obtain ⟨R, hR⟩ : ∃ R, R = Rp.parR x data top := ⟨_, rfl⟩
  have HR := Lib.hid hR
  rw [← hR]
  clear hR
  have hbel : Below w.heap.size w (w.alloc (.cells #[.string (bs x.key.txt), .int .i64 x.key.at_, .int .i64 x.key.kind, .int .i64 x.key.n, .slice Aa x.a.length qa, .slice Ab x.b.length qb] 101)) := (Below.refl _ _).alloc (Nat.le_refl _) _
  have hbox := heap_alloc_new w (.cells #[.string (bs x.key.txt), .int .i64 x.key.at_, .int .i64 x.key.kind, .int .i64 x.key.n, .slice Aa x.a.length qa, .slice Ab x.b.length qb] 101)
  have HBE := Lib.hid hbel; have HBX := Lib.hid hbox
  clear hbel hbox
  by_cases hl : x.a.length = data
  · have hlb : ((x.a.length : Int) != (data : Int)) = false := by simp [hl]
    have HL := Lib.hid hl
    clear hl
    have HLA : Hid (Rp.parR x data top = match Sp.badCoef top false x.a with | some p => .error (p, 1) | none => if Sp.sumN x.a = 0 then .error (x.key.at_, 1) else .ok (x.a.map fun t => (t.n : Int))) := Lib.hid (by unfold Rp.parR; rw [if_neg (by rw [HL.out]; simp)]; rcases Sp.badCoef top false x.a with _ | p <;> rfl)
    obtain ⟨i0, hi, hz0, hz1, hz2⟩ := info_parts info3
    go_enter Tryd.func67, Tryd.ntmps67
    go_wp2_with fail
    go_loopg [9, 10, 11] data (fun k v9 v10 v11 wr => ∃ (j sm : Nat), k = data - j ∧ j ≤ data ∧ v11 = .int .i64 j ∧ v10 = .int .i64 sm ∧ RowV w.heap.size ((x.a.take j).map fun t => (t.n : Int)) wr v9 ∧
      Sp.badCoef top false (x.a.drop j) = Sp.badCoef top false x.a ∧ sm + Sp.sumN (x.a.drop j) = Sp.sumN x.a ∧ sm ≤ j * 65535 ∧ Below w.heap.size w wr ∧ wr.heap[w.heap.size]? = some (.cells #[.string (bs x.key.txt), .int .i64 x.key.at_, .int .i64 x.key.kind, .int .i64 x.key.n, .slice Aa x.a.length qa, .slice Ab x.b.length qb] 101 (0, 0)))
    case atStart => exact ⟨0, 0, rfl, Nat.zero_le _, rfl, rfl, World.ownsRow_nil _ _ _ _, rfl, by simp, Nat.zero_le _, HBE.out, HBX.out⟩
    case round =>
      obtain ⟨j, sm, hk, hj, rfl, rfl, hown, hbc, hsm, hsb, hbe, hbx⟩ := hrel
      have J1 := Lib.hid hk; have J2 := Lib.hid hown; have J3 := Lib.hid hbc; have J4 := Lib.hid hsm; have J5 := Lib.hid hbe; have J6 := Lib.hid hbx
      have hbl := lt_of_block hbx
      have k4 : wr.cell? ⟨w.heap.size, 4, none⟩ = some (.slice Aa x.a.length qa) := blk_c hbx 4
      have k1 : wr.cell? ⟨w.heap.size, 1, none⟩ = some (.int .i64 x.key.at_) := blk_c hbx 1
      clear HBE HBX
      by_cases hlt : j < data
      · have hja : j < x.a.length := by rw [HL.out]; exact hlt
        have ha2 := RToksV.below HA.out J5.out
        obtain ⟨g, hA, c0, c1, c2, c3⟩ := RToksV.at_ ha2 j hja
        subst hA
        have HD := Lib.hid (List.drop_eq_getElem_cons hja)
        have HT := Lib.hid (List.take_succ_eq_append_getElem hja)
        clear ha2 hk hown hbc hsm hbe hbx
        by_cases hn : x.a[j].n ≤ top
        · have hnb : decide ((x.a[j].n : Int) > (top : Int)) = false := by rw [decide_eq_false_iff_not]; omega
          have HBC : Hid (Sp.badCoef top false (x.a.drop (j + 1)) = Sp.badCoef top false x.a) := Lib.hid (by
            have := J3.out; rw [HD.out, Sp.badCoef, if_pos ⟨hn, by simp⟩] at this; exact this)
          have HSM : Hid (sm + x.a[j].n + Sp.sumN (x.a.drop (j + 1)) = Sp.sumN x.a) := Lib.hid (by
            have := J4.out; rw [HD.out] at this; simp only [Sp.sumN, List.map_cons, List.sum_cons] at this ⊢; omega)
          have hs1 : sm + x.a[j].n ≤ (j + 1) * 65535 := by omega
          have hs2 : sm + x.a[j].n ≤ 300000000 := by omega
          obtain ⟨Ar, qr, rfl⟩ := own_slice J2.out
          have hjl : ((x.a.take j).map fun t => (t.n : Int)).length = j := by simp; omega
          obtain ⟨row, hrow⟩ : ∃ row, row = (x.a.take j).map fun t => (t.n : Int) := ⟨_, rfl⟩
          rw [← hrow] at J2 hjl
          rw [← hrow]
          have HROW := Lib.hid hrow
          have hrl : row.length ≤ 31 := by omega
          have HJL := Lib.hid hjl
          clear hrow hjl
          go_wp2_with (first | (at_builtin; refine wpList_append_own_at (wr.alloc (.cells #[.int .i64 x.a[j].n] 3)) rfl _ _ 61 rfl w.heap.size 3 i0 _ 1 8 Tryd.underlying61 hi hz0 hz1 hz2 rfl (by decide) _ row.length (ints row) rfl (J2.out.alloc _) ⟨wr.heap.size, 0, none⟩ 1 1 [.int .i64 x.a[j].n] rfl rfl ?c1 ?c2 ?c3 ?c4 ?c5 ?_))
          case c1 => exact World.news_of_block (heap_alloc_new wr (.cells #[.int .i64 x.a[j].n] 3))
          case c2 => intro u hu; simp only [List.mem_cons, List.not_mem_nil, or_false] at hu; rcases hu with rfl; rfl
          case c3 => unfold maxLen; omega
          case c4 => omega
          case c5 => simp only [World.size_alloc]; omega
          intro v' w4 hown4 hg _ _
          have hne : (Value.slice Ar row.length qr).ownBlock ≠ some w.heap.size := own_ne_type' (J2.out.alloc (.cells #[.int .i64 x.a[j].n] 3)) (blk_old J6.out _) (by decide)
          have G1 := Lib.hid ((hg.block w.heap.size (by rw [World.size_alloc]; omega) hne.symm).trans (blk_old J6.out _))
          have G2 := Lib.hid ((J5.out.alloc J5.out.size (.cells #[.int .i64 x.a[j].n] 3)).grown hg (by rw [World.size_alloc]; omega) (fun k e => (J2.out.lt k e).1))
          have G3 := Lib.hid hown4
          clear hown4 hg hne k4 k1 c0 c1 c2 c3
          go_wp2_with fail
          go_roundg (data - (j + 1))
          case measure => rw [J1.out]; omega
          case rel =>
            refine ⟨j + 1, sm + x.a[j].n, rfl, by omega, by go_num, by go_num, ?_, HBC.out, HSM.out, hs1, G2.out, G1.out⟩
            have e : (x.a.take (j + 1)).map (fun t => (t.n : Int)) = row ++ [(x.a[j].n : Int)] := by rw [HT.out, List.map_append, ← HROW.out]; rfl
            rw [e]
            unfold RowV
            rw [ints_snoc, List.length_append]
            exact G3.out
        · have hnb : decide ((x.a[j].n : Int) > (top : Int)) = true := by rw [decide_eq_true_iff]; omega
          have hnb2 : decide ((top : Int) < (x.a[j].n : Int)) = true := by rw [decide_eq_true_iff]; omega
          have HE : Hid (R = .error (x.a[j].at_, 1)) := Lib.hid (by
            have := J3.out; rw [HD.out, Sp.badCoef, if_neg (fun hh => hn hh.1)] at this
            rw [HR.out, HLA.out, ← this])
          go_wp2_with fail
          go_quiet (fail)
          go_wp2_with fail
          go_ret3
          exact RRowPost.err HE.out (bel_drewN' J5.out _)
      · have hjd : j = data := by omega
        have HBC : Hid (Sp.badCoef top false x.a = none) := Lib.hid (by rw [← hbc, List.drop_eq_nil_of_le (by rw [HL.out]; omega)]; rfl)
        have HSM : Hid (sm = Sp.sumN x.a) := Lib.hid (by rw [← hsm, List.drop_eq_nil_of_le (by rw [HL.out]; omega)]; simp [Sp.sumN])
        have HTK : Hid (x.a.take j = x.a) := Lib.hid (List.take_of_length_le (by rw [HL.out]; omega))
        clear hk hown hbc hsm hbe hbx hjd
        by_cases hs : sm = 0
        · have hsb' : ((sm : Int) == 0) = true := by rw [beq_iff_eq]; omega
          have HE : Hid (R = .error (x.key.at_, 1)) := Lib.hid (by rw [HR.out, HLA.out, HBC.out]; simp only; rw [if_pos (by rw [← HSM.out]; exact hs)])
          clear hs
          go_wp2_with fail
          go_quiet (fail)
          go_wp2_with fail
          go_ret3
          exact RRowPost.err HE.out (bel_drewN' J5.out _)
        · have hsb' : ((sm : Int) == 0) = false := by rw [beq_eq_false_iff_ne]; omega
          have HE : Hid (R = .ok (x.a.map fun t => (t.n : Int))) := Lib.hid (by rw [HR.out, HLA.out, HBC.out]; simp only; rw [if_neg (by rw [← HSM.out]; exact hs)])
          clear hs
          go_wp2_with fail
          go_ret3
          unfold RRowPost
          rw [HE.out]
          refine ⟨⟨_, rfl, ?_⟩, J5.out⟩
          have := J2.out
          rw [HTK.out] at this
          exact this
  · have hlb : ((x.a.length : Int) != (data : Int)) = true := by rw [bne_iff_ne]; omega
    have HE : Hid (R = .error (x.key.at_, 1)) := Lib.hid (by rw [HR.out]; unfold Rp.parR; rw [if_pos hl])
    clear hl
    go_enter Tryd.func67, Tryd.ntmps67
    go_wp2_with fail
    go_quiet (fail)
    go_wp2_with fail
    go_ret3
    exact RRowPost.err HE.out (bel_drewN' HBE.out _)

set_option maxRecDepth 100000 in
set_option maxHeartbeats 4000000 in
theorem rlocal_any (x : Rp.Line) (va vb : Value) (b0 data top : Nat) (w : World) (ha : RToksV b0 x.a w va) (hb : RToksV b0 x.b w vb) (h1 : x.a.length ≤ 3000) (h2 : x.b.length ≤ 3000) (hd : data ≤ 31) (ht : top ≤ 65535) :
    Calls Tryd.prog 68 #[.agg #[.string (bs x.key.txt), .int .i64 x.key.at_, .int .i64 x.key.kind, .int .i64 x.key.n, va, vb], .int .i64 data, .int .i64 top] w (RRowPost (Rp.locR x data top) w) := by
  obtain ⟨Aa, qa, rfl⟩ := own_slice ha
  obtain ⟨Ab, qb, rfl⟩ := own_slice hb
  have HA := Lib.hid ha; have HB := Lib.hid hb
  clear ha hb
  obtain ⟨R, hR⟩ : ∃ R, R = Rp.locR x data top := ⟨_, rfl⟩
  have HR := Lib.hid hR
  rw [← hR]
  clear hR
  have hbel : Below w.heap.size w (w.alloc (.cells #[.string (bs x.key.txt), .int .i64 x.key.at_, .int .i64 x.key.kind, .int .i64 x.key.n, .slice Aa x.a.length qa, .slice Ab x.b.length qb] 101)) := (Below.refl _ _).alloc (Nat.le_refl _) _
  have hbox := heap_alloc_new w (.cells #[.string (bs x.key.txt), .int .i64 x.key.at_, .int .i64 x.key.kind, .int .i64 x.key.n, .slice Aa x.a.length qa, .slice Ab x.b.length qb] 101)
  have HBE := Lib.hid hbel; have HBX := Lib.hid hbox
  clear hbel hbox
  have hmk := fun W : World => run_make_row' (P := Tryd.prog) 61 3 (.int .i64 0) 8 Tryd.underlying61 info3 rfl .i64 .i64 data (by omega) (by omega) W
  go_enter Tryd.func68, Tryd.ntmps68
  go_wp2_with fail
  go_loopg [9] x.a.length (fun k v9 wr => ∃ (j : Nat) (last : Int), k = x.a.length - j ∧ j ≤ x.a.length ∧ v9 = .int .i64 j ∧ (j = 0 → last = -1) ∧ (∀ m (hm : m < x.a.length), j = m + 1 → last = x.a[m].n) ∧
      Sp.badIdx data last (x.a.drop j) = Sp.badIdx data (-1) x.a ∧ Below w.heap.size w wr ∧ wr.heap[w.heap.size]? = some (.cells #[.string (bs x.key.txt), .int .i64 x.key.at_, .int .i64 x.key.kind, .int .i64 x.key.n, .slice Aa x.a.length qa, .slice Ab x.b.length qb] 101 (0, 0)))
  case atStart => exact ⟨0, -1, rfl, Nat.zero_le _, rfl, fun _ => rfl, fun m hm e => by omega, rfl, HBE.out, HBX.out⟩
  case round =>
    obtain ⟨j, last, hk, hj, rfl, hl0, hl1, hbi, hbe, hbx⟩ := hrel
    have J1 := Lib.hid hk; have J2 := Lib.hid hl0; have J3 := Lib.hid hl1; have J4 := Lib.hid hbi; have J5 := Lib.hid hbe; have J6 := Lib.hid hbx
    have hbl := lt_of_block hbx
    have k4 : wr.cell? ⟨w.heap.size, 4, none⟩ = some (.slice Aa x.a.length qa) := blk_c hbx 4
    have k5 : wr.cell? ⟨w.heap.size, 5, none⟩ = some (.slice Ab x.b.length qb) := blk_c hbx 5
    have k1 : wr.cell? ⟨w.heap.size, 1, none⟩ = some (.int .i64 x.key.at_) := blk_c hbx 1
    clear HBE HBX
    by_cases hlt : j < x.a.length
    · have ha2 := RToksV.below HA.out J5.out
      obtain ⟨g, hA, c0, c1, c2, c3⟩ := RToksV.at_ ha2 j hlt
      have HA2 := Lib.hid ha2
      subst hA
      have HD := Lib.hid (List.drop_eq_getElem_cons hlt)
      clear ha2 hk hl0 hl1 hbi hbe hbx
      have HLX : Hid (∀ m (hm : m < x.a.length), j + 1 = m + 1 → ((x.a[j].n : Nat) : Int) = x.a[m].n) := Lib.hid (fun m hm e => by
        have e2 : m = j := by omega
        subst e2; rfl)
      have HERR : Hid (¬ (x.a[j].n < data ∧ last < (x.a[j].n : Int)) → R = .error (x.a[j].at_, 1)) := Lib.hid (fun hn => by
        have := J4.out; rw [HD.out, Sp.badIdx, if_neg hn] at this
        rw [HR.out]; unfold Rp.locR; rw [← this])
      have HOK : Hid (x.a[j].n < data ∧ last < (x.a[j].n : Int) → Sp.badIdx data x.a[j].n (x.a.drop (j + 1)) = Sp.badIdx data (-1) x.a) := Lib.hid (fun hn => by
        have := J4.out; rw [HD.out, Sp.badIdx, if_pos hn] at this; exact this)
      by_cases hn : x.a[j].n < data
      · have hnb : decide ((x.a[j].n : Int) ≥ (data : Int)) = false := by rw [decide_eq_false_iff_not]; omega
        have hnb2 : decide (data ≤ x.a[j].n) = false := by rw [decide_eq_false_iff_not]; omega
        by_cases hj0 : j = 0
        · have hz : decide (0 < j) = false := by rw [decide_eq_false_iff_not]; omega
          have HO2 := Lib.hid (HOK.out ⟨hn, by rw [J2.out hj0]; omega⟩)
          have HJ0 := Lib.hid hj0
          clear hj0
          go_wp2_with fail
          go_quiet (fail)
          go_wp2_with fail
          go_roundg (x.a.length - (j + 1))
          case measure => rw [J1.out]; omega
          case rel => exact ⟨j + 1, _, rfl, by omega, by go_num, fun e => by omega, HLX.out, HO2.out, bel_drewN' J5.out _, J6.out⟩
        · have hz : decide (0 < j) = true := by rw [decide_eq_true_iff]; omega
          obtain ⟨m, hm⟩ : ∃ m, m + 1 = j := ⟨j - 1, by omega⟩
          have hmj : (j : Int) - 1 = (m : Int) := by omega
          have hml : m < x.a.length := by omega
          obtain ⟨g2, hA2, d0, d1, d2, d3⟩ := RToksV.at_ HA2.out m hml
          have hg2 : g2 = g := by
            have h1 := Option.some.inj hA2
            injection h1 with h1
            exact h1.symm
          subst hg2
          have hlast := J3.out m hml (by omega)
          have HLA := Lib.hid hlast
          have HM := Lib.hid hm
          clear hlast hm hA2 d0 d1 d2
          by_cases hp : x.a[j].n ≤ x.a[m].n
          · have hp1 : decide (x.a[j].n ≤ x.a[m].n) = true := by rw [decide_eq_true_iff]; exact hp
            have HE := Lib.hid (HERR.out (fun hh => by have := hh.2; rw [HLA.out] at this; omega))
            go_wp2_with fail
            go_quiet (fail)
            go_wp2_with fail
            go_quiet (fail)
            go_wp2_with fail
            go_ret3
            exact RRowPost.err HE.out (bel_drewN' (bel_drewN' J5.out _) _)
          · have hp1 : decide (x.a[j].n ≤ x.a[m].n) = false := by rw [decide_eq_false_iff_not]; exact hp
            have HO2 := Lib.hid (HOK.out ⟨hn, by rw [HLA.out]; omega⟩)
            go_wp2_with fail
            go_quiet (fail)
            go_wp2_with fail
            go_roundg (x.a.length - (j + 1))
            case measure => rw [J1.out]; omega
            case rel => exact ⟨j + 1, _, rfl, by omega, by go_num, fun e => by omega, HLX.out, HO2.out, bel_drewN' J5.out _, J6.out⟩
      · have hnb2 : decide (data ≤ x.a[j].n) = true := by rw [decide_eq_true_iff]; omega
        have HE := Lib.hid (HERR.out (fun hh => hn hh.1))
        go_wp2_with fail
        go_quiet (fail)
        go_wp2_with fail
        go_quiet (fail)
        go_wp2_with fail
        go_ret3
        exact RRowPost.err HE.out (bel_drewN' (bel_drewN' J5.out _) _)
    · have HBI : Hid (Sp.badIdx data (-1) x.a = none) := Lib.hid (by rw [← hbi, List.drop_eq_nil_of_le (by omega)]; rfl)
      have hall := Lib.hid (Sp.badIdx_all HBI.out)
      clear hk hl0 hl1 hbi hbe hbx J1 J2 J3 J4
      by_cases hq : x.a.length = x.b.length
      · have hqb : ((x.a.length : Int) != (x.b.length : Int)) = false := by simp [hq]
        have HQ := Lib.hid hq
        have HLC : Hid (Rp.locR x data top = match Sp.badCoef top true x.b with | some p => .error (p, 1) | none => .ok (Sp.fillR true x.a 0 (List.replicate data 0) x.b)) := Lib.hid (by
          unfold Rp.locR; rw [HBI.out]; simp only; rw [if_neg (by rw [HQ.out]; simp)]; rcases Sp.badCoef top true x.b with _ | p <;> rfl)
        clear hq
        go_wp2_with fail
        obtain ⟨M, hM⟩ : ∃ M, M = wr.heap.size := ⟨_, rfl⟩
        have hMw : w.heap.size ≤ M := by rw [hM]; exact J5.out.size
        have hMl : w.heap.size < M := by rw [hM]; exact hbl
        have J7 : Hid (Below w.heap.size w (wr.alloc (.cells (madeCells #[.int .i64 0] data) 3))) := Lib.hid (J5.out.alloc J5.out.size _)
        have J8 : Hid ((wr.alloc (.cells (madeCells #[.int .i64 0] data) 3)).heap[w.heap.size]? = some (.cells #[.string (bs x.key.txt), .int .i64 x.key.at_, .int .i64 x.key.kind, .int .i64 x.key.n, .slice Aa x.a.length qa, .slice Ab x.b.length qb] 101 (0, 0))) := Lib.hid (blk_old J6.out _)
        have J9 : Hid ((wr.alloc (.cells (madeCells #[.int .i64 0] data) 3)).heap[M]? = some (.cells (ints (List.replicate data 0)).toArray 3 (0, 0))) := Lib.hid (by rw [hM, ← made_ints]; exact heap_alloc_new wr _)
        try rw [← hM]
        clear hM
        generalize wr.alloc (.cells (madeCells #[.int .i64 0] data) 3) = W1 at *
        clear J5 J6 k4 k5 k1 hbl
        go_loopg [11] x.b.length (fun k v11 w2 => ∃ (j : Nat) (row : List Int), k = x.b.length - j ∧ j ≤ x.b.length ∧ v11 = .int .i64 j ∧
          Sp.badCoef top true (x.b.drop j) = Sp.badCoef top true x.b ∧ Sp.fillR true x.a j row (x.b.drop j) = Sp.fillR true x.a 0 (List.replicate data 0) x.b ∧ row.length = data ∧
          Below w.heap.size w w2 ∧ w2.heap[w.heap.size]? = some (.cells #[.string (bs x.key.txt), .int .i64 x.key.at_, .int .i64 x.key.kind, .int .i64 x.key.n, .slice Aa x.a.length qa, .slice Ab x.b.length qb] 101 (0, 0)) ∧ w2.heap[M]? = some (.cells (ints row).toArray 3 (0, 0)))
        case atStart => exact ⟨0, List.replicate data 0, rfl, Nat.zero_le _, rfl, rfl, rfl, by simp, J7.out, J8.out, J9.out⟩
        case round =>
          obtain ⟨j, row, hk, hj, rfl, hbc, hfl, hrl, hbe, hbx, hbm⟩ := hrel
          clear J7 J8 J9
          have J1 := Lib.hid hk; have J2 := Lib.hid hbc; have J3 := Lib.hid hfl; have J4 := Lib.hid hrl; have J5 := Lib.hid hbe; have J6 := Lib.hid hbx; have J7 := Lib.hid hbm
          have hbl := lt_of_block hbx
          have hml := lt_of_block hbm
          have k4 : wr.cell? ⟨w.heap.size, 4, none⟩ = some (.slice Aa x.a.length qa) := blk_c hbx 4
          have k5 : wr.cell? ⟨w.heap.size, 5, none⟩ = some (.slice Ab x.b.length qb) := blk_c hbx 5
          by_cases hlt : j < x.b.length
          · have hb2 := RToksV.below HB.out J5.out
            obtain ⟨gb, hAb, c0, c1, c2, c3⟩ := RToksV.at_ hb2 j hlt
            subst hAb
            have hja : j < x.a.length := by rw [HQ.out]; exact hlt
            have ha2 := RToksV.below HA.out J5.out
            obtain ⟨ga, hAa, e0, e1, e2, e3⟩ := RToksV.at_ ha2 j hja
            subst hAa
            have HD := Lib.hid (List.drop_eq_getElem_cons hlt)
            have AT : x.a[j].n < data := hall.out _ (List.getElem_mem hja)
            have hjd : x.a[j].n < row.length := by rw [hrl]; exact AT
            have r0 := blk_c hbm x.a[j].n
            have r0' : (ints row).toArray[x.a[j].n]? = some (.int .i64 row[x.a[j].n]) := by simp [ints, List.getElem?_eq_getElem hjd]
            rw [r0'] at r0
            have r1 := blk_f hbm x.a[j].n
            clear hb2 ha2 hk hbc hfl hrl hbe hbx hbm r0' e0 e1 e2 c0 c2
            by_cases hz : x.b[j].n = 0
            · have hz1 : ((x.b[j].n : Int) == 0) = true := by rw [beq_iff_eq]; omega
              have HE : Hid (R = .error (x.b[j].at_, 1)) := Lib.hid (by
                have := J2.out; rw [HD.out, Sp.badCoef, if_neg (fun hh => hh.2 ⟨rfl, hz⟩)] at this
                rw [HR.out, HLC.out, ← this])
              clear hz
              go_wp2_with fail
              go_quiet (fail)
              go_wp2_with fail
              go_ret3
              exact RRowPost.err HE.out (bel_drewN' J5.out _)
            · have hz1 : ((x.b[j].n : Int) == 0) = false := by rw [beq_eq_false_iff_ne]; omega
              by_cases hn : x.b[j].n ≤ top
              · have hnb : decide ((x.b[j].n : Int) > (top : Int)) = false := by rw [decide_eq_false_iff_not]; omega
                have hnb2 : decide (top < x.b[j].n) = false := by rw [decide_eq_false_iff_not]; omega
                have HBC : Hid (Sp.badCoef top true (x.b.drop (j + 1)) = Sp.badCoef top true x.b) := Lib.hid (by
                  have := J2.out; rw [HD.out, Sp.badCoef, if_pos ⟨hn, fun hh => hz hh.2⟩] at this; exact this)
                have HFL : Hid (Sp.fillR true x.a (j + 1) (row.set x.a[j].n x.b[j].n) (x.b.drop (j + 1)) = Sp.fillR true x.a 0 (List.replicate data 0) x.b) := Lib.hid (by
                  have := J3.out; rw [HD.out, Sp.fillR] at this; simpa [List.getElem?_eq_getElem hja] using this)
                go_wp2_with fail
                go_roundg (x.b.length - (j + 1))
                case measure => rw [J1.out]; omega
                case rel =>
                  refine ⟨j + 1, row.set x.a[j].n x.b[j].n, rfl, by omega, by go_num, HBC.out, HFL.out, by rw [List.length_set]; exact J4.out, J5.out.setCell (p := ⟨M, x.a[j].n, none⟩) hMw _, blk_far J6.out (p := ⟨M, x.a[j].n, none⟩) (by simp only; omega) _, ?_⟩
                  have hb5 := blk_set J7.out x.a[j].n (.int .i64 x.b[j].n)
                  rw [ints_set] at hb5
                  exact hb5
              · have hnb : decide ((x.b[j].n : Int) > (top : Int)) = true := by rw [decide_eq_true_iff]; omega
                have hnb2 : decide (top < x.b[j].n) = true := by rw [decide_eq_true_iff]; omega
                have HE : Hid (R = .error (x.b[j].at_, 1)) := Lib.hid (by
                  have := J2.out; rw [HD.out, Sp.badCoef, if_neg (fun hh => hn hh.1)] at this
                  rw [HR.out, HLC.out, ← this])
                go_wp2_with fail
                go_quiet (fail)
                go_wp2_with fail
                go_ret3
                exact RRowPost.err HE.out (bel_drewN' J5.out _)
          · have HBC : Hid (Sp.badCoef top true x.b = none) := Lib.hid (by rw [← hbc, List.drop_eq_nil_of_le (by omega)]; rfl)
            have HFL : Hid (row = Sp.fillR true x.a 0 (List.replicate data 0) x.b) := Lib.hid (by rw [← hfl, List.drop_eq_nil_of_le (by omega)]; rfl)
            have HE : Hid (R = .ok row) := Lib.hid (by rw [HR.out, HLC.out, HBC.out]; simp only; rw [← HFL.out])
            have hdl : row.length ≤ 31 := by omega
            clear hk hbc hfl hrl hbe hbx hbm
            go_wp2_with fail
            go_ret3
            unfold RRowPost
            rw [HE.out]
            refine ⟨⟨_, rfl, ?_⟩, J5.out⟩
            have hll : (ints row).length = row.length := by simp [ints]
            exact ⟨by rw [hll]; omega, .inr ⟨M, data, (ints row).toArray, by rw [J4.out]; rfl, hMw, J7.out, by rw [J4.out]; exact Nat.le_refl _, by unfold maxLen; omega, by simp [ints, J4.out], List.take_of_length_le (by simp [ints])⟩⟩
      · have hqb : ((x.a.length : Int) != (x.b.length : Int)) = true := by rw [bne_iff_ne]; omega
        have HE : Hid (R = .error (x.key.at_, 1)) := Lib.hid (by rw [HR.out]; unfold Rp.locR; rw [HBI.out]; simp only; rw [if_pos hq])
        clear hq
        go_wp2_with fail
        go_quiet (fail)
        go_wp2_with fail
        go_ret3
        exact RRowPost.err HE.out (bel_drewN' J5.out _)
end Go.Proofs.YtppeplonnippcaaDoor
