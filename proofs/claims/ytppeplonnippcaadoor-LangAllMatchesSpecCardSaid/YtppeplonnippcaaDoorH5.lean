/-
Layer 7: the reference's parser: build.
-/
import Derived.Test.YtppeplonnippcaaDoorH3
import Derived.Test.YtppeplonnippcaaDoorH4
import Derived.Test.YtppeplonnippcaaDoorB0
import Derived.Deep.RegionHeld3
set_option linter.unusedVariables false
set_option linter.unusedSimpArgs false
namespace Go.Proofs.YtppeplonnippcaaDoor
open Go.RowKit

theorem RLinesV.at_ {b0 : Nat} {l : List Rp.Line} {w : World} {A : Option Addr} {q : Nat} (h : RLinesV b0 l w (.slice A l.length q)) (j : Nat) (hj : j < l.length) :
    ∃ g va vb, A = some ⟨g, 0, none⟩ ∧ (∀ k v, [Value.string (bs l[j].key.txt), .int .i64 l[j].key.at_, .int .i64 l[j].key.kind, .int .i64 l[j].key.n, va, vb][k]? = some v → w.cell? ⟨g, j * 6 + k, none⟩ = some v) ∧ RToksV b0 l[j].a w va ∧ RToksV b0 l[j].b w vb := by
  obtain ⟨cs, ho, hin⟩ := h
  obtain ⟨g, cap, hv, hb, hlt⟩ := World.ownsRow.form ho (by omega)
  simp only [Value.slice.injEq, true_and] at hv
  obtain ⟨rfl, rfl⟩ := hv
  have key : ∀ (l : List Rp.Line) (cs : List Value) (j : Nat) (hj : j < l.length), RLinesIn b0 w l cs → ∃ va vb, (∀ k, k < 6 → cs[j * 6 + k]? = [Value.string (bs l[j].key.txt), .int .i64 l[j].key.at_, .int .i64 l[j].key.kind, .int .i64 l[j].key.n, va, vb][k]?) ∧ RToksV b0 l[j].a w va ∧ RToksV b0 l[j].b w vb := by
    intro l
    induction l with
    | nil => intro cs j hj; simp at hj
    | cons a l ih =>
      intro cs j hj hr
      obtain ⟨va, vb, rest, rfl, h2, h3, h4⟩ := hr
      cases j with
      | zero =>
        refine ⟨va, vb, fun k hk => ?_, h2, h3⟩
        simp only [Nat.zero_mul, Nat.zero_add, List.getElem_cons_zero]
        rcases (by omega : k = 0 ∨ k = 1 ∨ k = 2 ∨ k = 3 ∨ k = 4 ∨ k = 5) with rfl | rfl | rfl | rfl | rfl | rfl <;> rfl
      | succ j =>
        obtain ⟨va', vb', e, h5, h6⟩ := ih rest j (by simpa using hj) h4
        refine ⟨va', vb', fun k hk => ?_, by simpa using h5, by simpa using h6⟩
        have := e k hk
        rw [show (j + 1) * 6 + k = (j * 6 + k) + 1 + 1 + 1 + 1 + 1 + 1 from by omega]
        simp only [List.getElem?_cons_succ, List.getElem_cons_succ]
        exact this
  obtain ⟨va, vb, e, h5, h6⟩ := key l cs j hj hin
  have add : ∀ k, (⟨g, 0, none⟩ : Addr).add k = ⟨g, k, none⟩ := by intro k; unfold Addr.add; split <;> simp_all
  refine ⟨g, va, vb, rfl, fun k v hk => ?_, h5, h6⟩
  have hk6 : k < 6 := (List.getElem?_eq_some_iff.1 hk).1
  have := World.ownsRow.cells ho (g := g) rfl _ _ ((e k hk6).trans hk)
  rwa [add] at this

theorem hd_get {l : List Sp.Tok} (h : 0 < l.length) : Sp.hd l = l[0] := by
  cases l with
  | nil => simp at h
  | cons a l => rfl
/-- a row that came back -/
def RowRel (base : Nat) (res : Except Sp.Er (List Int)) (v : Value) (p er : Int) (W : World) : Prop :=
  match res with
  | .ok r => RowV base r W v ∧ p = 0 ∧ er = 0
  | .error (a, b) => v = .slice none 0 0 ∧ p = a ∧ er = b
theorem RRowPost.form {res : Except Sp.Er (List Int)} {w w' : World} {e : Ending} (h : RRowPost res w e w') : ∃ v p er, e = .returned (.tuple #[v, .int .i64 p, .int .i64 er]) ∧ RowRel w.heap.size res v p er w' ∧ Below w.heap.size w w' := by
  obtain ⟨h1, h2⟩ := h
  unfold RowRel
  rcases res with ⟨a, b⟩ | r
  · exact ⟨_, _, _, h1, ⟨rfl, rfl, rfl⟩, h2⟩
  · obtain ⟨v, h1, h3⟩ := h1
    exact ⟨_, _, _, h1, ⟨h3, rfl, rfl⟩, h2⟩
theorem rowR_er {x : Rp.Line} {data top a b : Nat} (h : Rp.rowR x data top = .error (a, b)) : b = 1 := by
  unfold Rp.rowR Rp.locR Rp.parR at h
  repeat' split at h
  all_goals first | (injection h with h; injection h with h1 h2; exact h2.symm) | cases h

theorem RowRel.mono {base base' : Nat} {res : Except Sp.Er (List Int)} {v : Value} {p er : Int} {W : World} (h : RowRel base res v p er W) (hb : base' ≤ base) : RowRel base' res v p er W := by
  unfold RowRel at *
  rcases res with ⟨a, b⟩ | r
  · exact h
  · exact ⟨own_mono h.1 hb, h.2⟩
/-- what build returns -/
def BuildPost (res : Except Sp.Er Sp.Code) (w : World) (e : Ending) (w' : World) : Prop :=
  (match res with
   | .ok c => ∃ v, e = .returned (.tuple #[v, .int .i64 0, .int .i64 0]) ∧ CodeV w.heap.size c w' v
   | .error (p, er) => e = .returned (.tuple #[.agg #[.string ⟨#[]⟩, .int .i64 0, .int .i64 0, .slice none 0 0, .int .i64 0], .int .i64 p, .int .i64 er])) ∧ Below w.heap.size w w'
theorem BuildPost.err {res : Except Sp.Er Sp.Code} {w w' : World} {p er : Nat} (h : res = .error (p, er)) (hb : Below w.heap.size w w') : BuildPost res w (.returned (.tuple #[.agg #[.string ⟨#[]⟩, .int .i64 0, .int .i64 0, .slice none 0 0, .int .i64 0], .int .i64 p, .int .i64 er])) w' := by
  subst h; exact ⟨rfl, hb⟩
/-- the result's block is made zero -/
theorem zero5 {V : World} {R : Nat} {a0 a1 a2 a3 a4 : Value} (h : V.heap[R]? = some (.cells #[a0, a1, a2, a3, a4] 24 (0, 0))) :
    (((((V.setCell ⟨R, 0, none⟩ (.string ⟨#[]⟩)).setCell ⟨R, 1, none⟩ (.int .i64 0)).setCell ⟨R, 2, none⟩ (.int .i64 0)).setCell ⟨R, 3, none⟩ (.slice none 0 0)).setCell ⟨R, 4, none⟩ (.int .i64 0)).heap[R]? = some (.cells #[.string ⟨#[]⟩, .int .i64 0, .int .i64 0, .slice none 0 0, .int .i64 0] 24 (0, 0)) :=
  blk_set (blk_set (blk_set (blk_set (blk_set h 0 _) 1 _) 2 _) 3 _) 4 _
theorem below5 {B : Nat} {w V : World} {R : Nat} (h : Below B w V) (hR : B ≤ R) (u0 u1 u2 u3 u4 : Value) :
    Below B w (((((V.setCell ⟨R, 0, none⟩ u0).setCell ⟨R, 1, none⟩ u1).setCell ⟨R, 2, none⟩ u2).setCell ⟨R, 3, none⟩ u3).setCell ⟨R, 4, none⟩ u4) :=
  ((((h.setCell (p := ⟨R, 0, none⟩) hR _).setCell (p := ⟨R, 1, none⟩) hR _).setCell (p := ⟨R, 2, none⟩) hR _).setCell (p := ⟨R, 3, none⟩) hR _).setCell (p := ⟨R, 4, none⟩) hR _

set_option maxRecDepth 100000 in
set_option maxHeartbeats 16000000 in
theorem rbuild_any (s : Rp.Src) (v : Value) (b0 : Nat) (w : World) (hv : RSrcV b0 s w v) (hn : s.name.txt.length ≤ 3000) (hll : s.lines.length ≤ 3100) (hla : ∀ x ∈ s.lines, x.a.length ≤ 3000 ∧ x.b.length ≤ 3000 ∧ x.a ≠ []) :
    Calls Tryd.prog 45 #[v] w (BuildPost (Rp.bldS s) w) := by
  obtain ⟨vl, rfl, hlv⟩ := hv
  obtain ⟨Al, ql, rfl⟩ : ∃ A q, vl = .slice A s.lines.length q := by obtain ⟨cs, ho, _⟩ := hlv; exact own_slice ho
  have HV := Lib.hid hlv; have HLA := Lib.hid hla
  clear hlv hla
  obtain ⟨RR, hRR⟩ : ∃ R, R = Rp.bldS s := ⟨_, rfl⟩
  have HRR := Lib.hid hRR
  rw [← hRR]
  clear hRR
  obtain ⟨nq, hnq⟩ : ∃ q, q = bs s.name.txt := ⟨_, rfl⟩
  have hns : nq.size = s.name.txt.length := by rw [hnq]; rfl
  have HNS := Lib.hid hns
  have hn3 : nq.size ≤ 3000 := by omega
  have HNQ := Lib.hid hnq
  rw [← hnq]
  clear hnq hns
  have hbel : Below w.heap.size w (((w.alloc (.cells #[.string nq, .int .i64 s.name.at_, .int .i64 s.name.kind, .int .i64 s.name.n, .slice Al s.lines.length ql] 77)).alloc (.cells #[.string ⟨#[]⟩, .int .i64 0, .int .i64 0, .slice none 0 0, .int .i64 0] 24)).alloc (.cells #[.string nq, .int .i64 0, .int .i64 0, .slice none 0 0, .int .i64 0] 24)) := (((Below.refl _ _).alloc (Nat.le_refl _) _).alloc (by simp) _).alloc (by simp; omega) _
  have hS : (((w.alloc (.cells #[.string nq, .int .i64 s.name.at_, .int .i64 s.name.kind, .int .i64 s.name.n, .slice Al s.lines.length ql] 77)).alloc (.cells #[.string ⟨#[]⟩, .int .i64 0, .int .i64 0, .slice none 0 0, .int .i64 0] 24)).alloc (.cells #[.string nq, .int .i64 0, .int .i64 0, .slice none 0 0, .int .i64 0] 24)).heap[w.heap.size]? = some (.cells #[.string nq, .int .i64 s.name.at_, .int .i64 s.name.kind, .int .i64 s.name.n, .slice Al s.lines.length ql] 77 (0, 0)) := blk_old (blk_old (heap_alloc_new w (.cells #[.string nq, .int .i64 s.name.at_, .int .i64 s.name.kind, .int .i64 s.name.n, .slice Al s.lines.length ql] 77)) _) _
  have hR : (((w.alloc (.cells #[.string nq, .int .i64 s.name.at_, .int .i64 s.name.kind, .int .i64 s.name.n, .slice Al s.lines.length ql] 77)).alloc (.cells #[.string ⟨#[]⟩, .int .i64 0, .int .i64 0, .slice none 0 0, .int .i64 0] 24)).alloc (.cells #[.string nq, .int .i64 0, .int .i64 0, .slice none 0 0, .int .i64 0] 24)).heap[w.heap.size + 1]? = some (.cells #[.string ⟨#[]⟩, .int .i64 0, .int .i64 0, .slice none 0 0, .int .i64 0] 24 (0, 0)) := blk_old (by have := heap_alloc_new (w.alloc (.cells #[.string nq, .int .i64 s.name.at_, .int .i64 s.name.kind, .int .i64 s.name.n, .slice Al s.lines.length ql] 77)) (.cells #[.string ⟨#[]⟩, .int .i64 0, .int .i64 0, .slice none 0 0, .int .i64 0] 24); simpa using this) _
  have hC : (((w.alloc (.cells #[.string nq, .int .i64 s.name.at_, .int .i64 s.name.kind, .int .i64 s.name.n, .slice Al s.lines.length ql] 77)).alloc (.cells #[.string ⟨#[]⟩, .int .i64 0, .int .i64 0, .slice none 0 0, .int .i64 0] 24)).alloc (.cells #[.string nq, .int .i64 0, .int .i64 0, .slice none 0 0, .int .i64 0] 24)).heap[w.heap.size + 1 + 1]? = some (.cells #[.string nq, .int .i64 0, .int .i64 0, .slice none 0 0, .int .i64 0] 24 (0, 0)) := by have := heap_alloc_new ((w.alloc (.cells #[.string nq, .int .i64 s.name.at_, .int .i64 s.name.kind, .int .i64 s.name.n, .slice Al s.lines.length ql] 77)).alloc (.cells #[.string ⟨#[]⟩, .int .i64 0, .int .i64 0, .slice none 0 0, .int .i64 0] 24)) (.cells #[.string nq, .int .i64 0, .int .i64 0, .slice none 0 0, .int .i64 0] 24); simpa using this
  have HBE := Lib.hid hbel; have HS := Lib.hid hS; have HR := Lib.hid hR; have HC := Lib.hid hC
  clear hbel hS hR hC
  have hR0 : w.heap.size ≤ w.heap.size + 1 := by omega
  have hSR : w.heap.size ≠ w.heap.size + 1 := by omega
  have hSR2 : ¬ w.heap.size + 1 = w.heap.size := by omega
  have hSC : w.heap.size ≠ w.heap.size + 1 + 1 := by omega
  have hSC2 : ¬ w.heap.size + 1 + 1 = w.heap.size := by omega
  have hRC : w.heap.size + 1 ≠ w.heap.size + 1 + 1 := by omega
  have hRC2 : ¬ w.heap.size + 1 + 1 = w.heap.size + 1 := by omega
  have hC0 : w.heap.size ≤ w.heap.size + 1 + 1 := by omega
  have hwR : w.heap.size < w.heap.size + 1 := by omega
  have hRCl : w.heap.size + 1 < w.heap.size + 1 + 1 := by omega
  by_cases hlen : nq.size ≤ 12
  · have hlb : decide ((nq.size : Int) > 12) = false := by rw [decide_eq_false_iff_not]; omega
    have HST : Hid (RR = match Rp.steps ⟨0, 0, [], 0⟩ s.lines with | .error e => .error e | .ok c => .ok (Rp.fin s.name.txt c)) := Lib.hid (by rw [HRR.out]; unfold Rp.bldS; rw [if_neg (by rw [← HNS.out]; omega)]; rcases Rp.steps ⟨0, 0, [], 0⟩ s.lines with e | c <;> rfl)
    go_enter Tryd.func45, Tryd.ntmps45
    go_wp2_with fail
    change Code.wp _ _ _ _ (((w.alloc (.cells #[.string nq, .int .i64 s.name.at_, .int .i64 s.name.kind, .int .i64 s.name.n, .slice Al s.lines.length ql] 77)).alloc (.cells #[.string ⟨#[]⟩, .int .i64 0, .int .i64 0, .slice none 0 0, .int .i64 0] 24)).alloc (.cells #[.string nq, .int .i64 0, .int .i64 0, .slice none 0 0, .int .i64 0] 24))
    generalize (((w.alloc (.cells #[.string nq, .int .i64 s.name.at_, .int .i64 s.name.kind, .int .i64 s.name.n, .slice Al s.lines.length ql] 77)).alloc (.cells #[.string ⟨#[]⟩, .int .i64 0, .int .i64 0, .slice none 0 0, .int .i64 0] 24)).alloc (.cells #[.string nq, .int .i64 0, .int .i64 0, .slice none 0 0, .int .i64 0] 24)) = V at *
    generalize w.heap.size + 1 + 1 = C at *
    generalize w.heap.size + 1 = R0 at *
    go_loopg [6] s.lines.length (fun k v6 wr => ∃ (j : Nat) (cd : Rp.Cd) (v : Value), k = s.lines.length - j ∧ j ≤ s.lines.length ∧ v6 = .int .i64 j ∧ Rp.steps cd (s.lines.drop j) = Rp.steps ⟨0, 0, [], 0⟩ s.lines ∧ cd.data ≤ 31 ∧ cd.parity.length ≤ 32 ∧
        Below w.heap.size w wr ∧ wr.heap[w.heap.size]? = some (.cells #[.string nq, .int .i64 s.name.at_, .int .i64 s.name.kind, .int .i64 s.name.n, .slice Al s.lines.length ql] 77 (0, 0)) ∧ wr.heap[R0]? = some (.cells #[.string ⟨#[]⟩, .int .i64 0, .int .i64 0, .slice none 0 0, .int .i64 0] 24 (0, 0)) ∧ wr.heap[C]? = some (.cells #[.string nq, .int .i64 cd.field, .int .i64 cd.data, v, .int .i64 cd.domain] 24 (0, 0)) ∧ ParV (C + 1) cd.parity wr v)
    case atStart => exact ⟨0, ⟨0, 0, [], 0⟩, .slice none 0 0, rfl, Nat.zero_le _, rfl, rfl, Nat.zero_le _, Nat.zero_le _, HBE.out, HS.out, HR.out, HC.out, ⟨[], World.ownsRow_nil _ _ _ _, rfl⟩⟩
    case round =>
      obtain ⟨j, cd, v, hk, hj, rfl, hst, hdl, hpl, hbe, hS, hR, hC, hpv⟩ := hrel
      obtain ⟨Ap, qp, rfl⟩ : ∃ A q, v = .slice A cd.parity.length q := by obtain ⟨cs, ho, _⟩ := hpv; exact own_slice ho
      clear HBE HS HR HC
      have J1 := Lib.hid hk; have J2 := Lib.hid hst; have J3 := Lib.hid hbe; have HS := Lib.hid hS; have HR := Lib.hid hR; have HC := Lib.hid hC; have HP := Lib.hid hpv
      have hSl := lt_of_block hS; have hRl := lt_of_block hR; have hCl := lt_of_block hC
      have x4 : wr.cell? ⟨w.heap.size, 4, none⟩ = some (.slice Al s.lines.length ql) := blk_c hS 4
      have c0 : wr.cell? ⟨C, 0, none⟩ = some (.string nq) := blk_c hC 0
      have c1 : wr.cell? ⟨C, 1, none⟩ = some (.int .i64 cd.field) := blk_c hC 1
      have c2 : wr.cell? ⟨C, 2, none⟩ = some (.int .i64 cd.data) := blk_c hC 2
      have c3 : wr.cell? ⟨C, 3, none⟩ = some (.slice Ap cd.parity.length qp) := blk_c hC 3
      have c4 : wr.cell? ⟨C, 4, none⟩ = some (.int .i64 cd.domain) := blk_c hC 4
      have z0 := blk_c hR 0; have z1 := blk_c hR 1; have z2 := blk_c hR 2; have z3 := blk_c hR 3; have z4 := blk_c hR 4
      have f0 := blk_f hR 0; have f1 := blk_f hR 1; have f2 := blk_f hR 2; have f3 := blk_f hR 3; have f4 := blk_f hR 4
      have k1 := blk_f hC 1; have k2 := blk_f hC 2; have k3 := blk_f hC 3; have k4 := blk_f hC 4
      by_cases hlt : j < s.lines.length
      · clear hk hst hbe hS hR hC hpv
        have hv2 := HV.out.below J3.out
        obtain ⟨g, va, vb, hA, hcs, hta, htb⟩ := hv2.at_ j hlt
        subst hA
        have HD := Lib.hid (List.drop_eq_getElem_cons hlt)
        obtain ⟨hl1, hl2, hl3⟩ := HLA.out s.lines[j] (List.getElem_mem hlt)
        obtain ⟨x, hx⟩ : ∃ x, x = s.lines[j] := ⟨_, rfl⟩
        rw [← hx] at hcs hta htb HD hl1 hl2 hl3
        clear hx hv2
        obtain ⟨Aa, qa, rfl⟩ := own_slice hta
        obtain ⟨Ab, qb, rfl⟩ := own_slice htb
        have hax : 0 < x.a.length := by cases h : x.a with | nil => exact absurd h hl3 | cons a l => simp
        obtain ⟨t, ht⟩ : ∃ t, t = x.a[0] := ⟨_, rfl⟩
        have HH : Hid (Sp.hd x.a = t) := Lib.hid (by rw [ht]; exact hd_get hax)
        obtain ⟨ga, hA, d0, d1, d2, d3⟩ := hta.at_ 0 hax
        subst hA
        rw [← ht] at d1 d3
        simp only [Nat.zero_mul, Nat.zero_add] at d1 d3
        have HTA := Lib.hid hta; have HTB := Lib.hid htb
        have y0 : wr.cell? ⟨g, j * 6, none⟩ = some (.string (bs x.key.txt)) := hcs 0 _ rfl
        have y1 : wr.cell? ⟨g, j * 6 + 1, none⟩ = some (.int .i64 x.key.at_) := hcs 1 _ rfl
        have y2 : wr.cell? ⟨g, j * 6 + 2, none⟩ = some (.int .i64 x.key.kind) := hcs 2 _ rfl
        have y3 : wr.cell? ⟨g, j * 6 + 3, none⟩ = some (.int .i64 x.key.n) := hcs 3 _ rfl
        have y4 : wr.cell? ⟨g, j * 6 + 4, none⟩ = some (.slice (some ⟨ga, 0, none⟩) x.a.length qa) := hcs 4 _ rfl
        have y5 : wr.cell? ⟨g, j * 6 + 5, none⟩ = some (.slice Ab x.b.length qb) := hcs 5 _ rfl
        have hgal : ga < wr.heap.size := World.block_lt_of_cell? wr _ d1
        have HT0 := Lib.hid ht
        clear hcs hta htb ht hl3 d0 d2
        go_upto_region 8 with (fail)
        have hbe := J3.out.alloc J3.out.size (.cells #[.string (bs x.key.txt), .int .i64 x.key.at_, .int .i64 x.key.kind, .int .i64 x.key.n, .slice (some ⟨ga, 0, none⟩) x.a.length qa, .slice Ab x.b.length qb] 101); have hS := blk_old HS.out (.cells #[.string (bs x.key.txt), .int .i64 x.key.at_, .int .i64 x.key.kind, .int .i64 x.key.n, .slice (some ⟨ga, 0, none⟩) x.a.length qa, .slice Ab x.b.length qb] 101); have hR := blk_old HR.out (.cells #[.string (bs x.key.txt), .int .i64 x.key.at_, .int .i64 x.key.kind, .int .i64 x.key.n, .slice (some ⟨ga, 0, none⟩) x.a.length qa, .slice Ab x.b.length qb] 101); have hC := blk_old HC.out (.cells #[.string (bs x.key.txt), .int .i64 x.key.at_, .int .i64 x.key.kind, .int .i64 x.key.n, .slice (some ⟨ga, 0, none⟩) x.a.length qa, .slice Ab x.b.length qb] 101); have hP := HP.out.alloc (.cells #[.string (bs x.key.txt), .int .i64 x.key.at_, .int .i64 x.key.kind, .int .i64 x.key.n, .slice (some ⟨ga, 0, none⟩) x.a.length qa, .slice Ab x.b.length qb] 101); have hX := heap_alloc_new wr (.cells #[.string (bs x.key.txt), .int .i64 x.key.at_, .int .i64 x.key.kind, .int .i64 x.key.n, .slice (some ⟨ga, 0, none⟩) x.a.length qa, .slice Ab x.b.length qb] 101); have hta := HTA.out.below ((Below.refl _ _).alloc (Nat.le_refl _) (.cells #[.string (bs x.key.txt), .int .i64 x.key.at_, .int .i64 x.key.kind, .int .i64 x.key.n, .slice (some ⟨ga, 0, none⟩) x.a.length qa, .slice Ab x.b.length qb] 101)); have htb := HTB.out.below ((Below.refl _ _).alloc (Nat.le_refl _) (.cells #[.string (bs x.key.txt), .int .i64 x.key.at_, .int .i64 x.key.kind, .int .i64 x.key.n, .slice (some ⟨ga, 0, none⟩) x.a.length qa, .slice Ab x.b.length qb] 101))
        have hCX : C < wr.heap.size := hCl
        generalize wr.alloc (.cells #[.string (bs x.key.txt), .int .i64 x.key.at_, .int .i64 x.key.kind, .int .i64 x.key.n, .slice (some ⟨ga, 0, none⟩) x.a.length qa, .slice Ab x.b.length qb] 101) = V at *
        generalize wr.heap.size = X at *
        clear J3 HS HR HC HP HTA HTB x4 c0 c1 c2 c3 c4 z0 z1 z2 z3 z4 f0 f1 f2 f3 f4 k1 k2 k3 k4 d1 d3 y0 y1 y2 y3 y4 y5
        have J3 := Lib.hid hbe; have HS := Lib.hid hS; have HR := Lib.hid hR; have HC := Lib.hid hC; have HP := Lib.hid hP; have HX := Lib.hid hX; have HTA := Lib.hid hta; have HTB := Lib.hid htb
        clear hbe hS hR hC hP hX hta htb
        have c0 : V.cell? ⟨C, 0, none⟩ = some (.string nq) := blk_c HC.out 0
        have c1 : V.cell? ⟨C, 1, none⟩ = some (.int .i64 cd.field) := blk_c HC.out 1
        have c2 : V.cell? ⟨C, 2, none⟩ = some (.int .i64 cd.data) := blk_c HC.out 2
        have c3 : V.cell? ⟨C, 3, none⟩ = some (.slice Ap cd.parity.length qp) := blk_c HC.out 3
        have c4 : V.cell? ⟨C, 4, none⟩ = some (.int .i64 cd.domain) := blk_c HC.out 4
        have z0 := blk_c HR.out 0; have z1 := blk_c HR.out 1; have z2 := blk_c HR.out 2; have z3 := blk_c HR.out 3; have z4 := blk_c HR.out 4
        have f0 := blk_f HR.out 0; have f1 := blk_f HR.out 1; have f2 := blk_f HR.out 2; have f3 := blk_f HR.out 3; have f4 := blk_f HR.out 4
        have k1 := blk_f HC.out 1; have k2 := blk_f HC.out 2; have k3 := blk_f HC.out 3; have k4 := blk_f HC.out 4
        have y0 : V.cell? ⟨X, 0, none⟩ = some (.string (bs x.key.txt)) := blk_c HX.out 0
        have y1 : V.cell? ⟨X, 1, none⟩ = some (.int .i64 x.key.at_) := blk_c HX.out 1
        have y2 : V.cell? ⟨X, 2, none⟩ = some (.int .i64 x.key.kind) := blk_c HX.out 2
        have y3 : V.cell? ⟨X, 3, none⟩ = some (.int .i64 x.key.n) := blk_c HX.out 3
        have y4 : V.cell? ⟨X, 4, none⟩ = some (.slice (some ⟨ga, 0, none⟩) x.a.length qa) := blk_c HX.out 4
        have y5 : V.cell? ⟨X, 5, none⟩ = some (.slice Ab x.b.length qb) := blk_c HX.out 5
        obtain ⟨ga', hA', d0, d1, d2, d3⟩ := HTA.out.at_ 0 hax
        have hga : ga = ga' := by
          have h1 := Option.some.inj hA'
          injection h1 with h1
        subst hga
        rw [← HT0.out] at d1 d3
        simp only [Nat.zero_mul, Nat.zero_add] at d1 d3
        clear d0 d2 hA'
        by_cases kf : x.key.txt = Sp.kField
        · have e1 : (bs x.key.txt).toList = [102, 105, 101, 108, 100] := by rw [Lib.toList_data]; exact kf
          have STE : Hid (t.n ≠ 8 ∧ t.n ≠ 16 → RR = .error (t.at_, 1)) := Lib.hid (fun hh => by
            have := J2.out; rw [HD.out, Rp.steps, Rp.step, if_pos kf, HH.out, if_pos hh] at this
            rw [HST.out, ← this])
          have STO : Hid (¬ (t.n ≠ 8 ∧ t.n ≠ 16) → Rp.steps { cd with field := t.n } (s.lines.drop (j + 1)) = Rp.steps ⟨0, 0, [], 0⟩ s.lines) := Lib.hid (fun hh => by
            have := J2.out; rw [HD.out, Rp.steps, Rp.step, if_pos kf, HH.out, if_neg hh] at this; exact this)
          clear kf
          have hcase : (((t.n : Int) != 8) = true ∧ ((t.n : Int) != 16) = true ∧ t.n ≠ 8 ∧ t.n ≠ 16) ∨ (((t.n : Int) != 8) = false ∧ ¬ (t.n ≠ 8 ∧ t.n ≠ 16)) ∨ (((t.n : Int) != 8) = true ∧ ((t.n : Int) != 16) = false ∧ ¬ (t.n ≠ 8 ∧ t.n ≠ 16)) := by
            by_cases a : t.n = 8
            · right; left; exact ⟨by simp [a], fun hh => hh.1 a⟩
            · by_cases b : t.n = 16
              · right; right; exact ⟨by rw [bne_iff_ne]; omega, by simp [b], fun hh => hh.2 b⟩
              · left; exact ⟨by rw [bne_iff_ne]; omega, by rw [bne_iff_ne]; omega, a, b⟩
          rcases hcase with ⟨b1, b2, b3⟩ | ⟨b1, b3⟩ | ⟨b1, b2, b3⟩
          · have HE := Lib.hid (STE.out b3)
            clear b3
            go_wp2_with fail
            have zb : (((((V.setCell ⟨R0, 0, none⟩ (.string ⟨#[]⟩)).setCell ⟨R0, 1, none⟩ (.int .i64 0)).setCell ⟨R0, 2, none⟩ (.int .i64 0)).setCell ⟨R0, 3, none⟩ (.slice none 0 0)).setCell ⟨R0, 4, none⟩ (.int .i64 0)).heap[R0]? = some (.cells #[.string ⟨#[]⟩, .int .i64 0, .int .i64 0, .slice none 0 0, .int .i64 0] 24 (0, 0)) := zero5 HR.out
            have zl : Below w.heap.size w (((((V.setCell ⟨R0, 0, none⟩ (.string ⟨#[]⟩)).setCell ⟨R0, 1, none⟩ (.int .i64 0)).setCell ⟨R0, 2, none⟩ (.int .i64 0)).setCell ⟨R0, 3, none⟩ (.slice none 0 0)).setCell ⟨R0, 4, none⟩ (.int .i64 0)) := below5 J3.out hR0 _ _ _ _ _
            generalize (((((V.setCell ⟨R0, 0, none⟩ (.string ⟨#[]⟩)).setCell ⟨R0, 1, none⟩ (.int .i64 0)).setCell ⟨R0, 2, none⟩ (.int .i64 0)).setCell ⟨R0, 3, none⟩ (.slice none 0 0)).setCell ⟨R0, 4, none⟩ (.int .i64 0)) = Z at zb zl ⊢
            have e0 := blk_c zb 0; have e1 := blk_c zb 1; have e2 := blk_c zb 2; have e3 := blk_c zb 3; have e4 := blk_c zb 4
            refine bodyPost_ret (v := .tuple #[.agg #[.string ⟨#[]⟩, .int .i64 0, .int .i64 0, .slice none 0 0, .int .i64 0], .int .i64 t.at_, .int .i64 1]) (by simp [results, Tryd.results45, go_sem, e0, e1, e2, e3, e4]) rfl ?_
            exact BuildPost.err HE.out zl
          all_goals
            have STP := Lib.hid (STO.out b3)
            clear b3
            go_wp2_with fail
            go_roundg (s.lines.length - (j + 1))
            case measure => rw [J1.out]; omega
            case rel => exact ⟨j + 1, { cd with field := t.n }, .slice Ap cd.parity.length qp, rfl, by omega, by go_num, STP.out, hdl, hpl, J3.out.setCell (p := ⟨C, 1, none⟩) hC0 _, blk_far HS.out (p := ⟨C, 1, none⟩) hSC _, blk_far HR.out (p := ⟨C, 1, none⟩) hRC _, blk_set HC.out 1 _, HP.out.far (p := ⟨C, 1, none⟩) (Nat.lt_succ_self _) _⟩
        · have n1 : ¬ (bs x.key.txt).toList = [102, 105, 101, 108, 100] := by rw [Lib.toList_data]; exact kf
          have n1b : ((bs x.key.txt).toList == [102, 105, 101, 108, 100]) = false := by simpa using n1
          by_cases kd : x.key.txt = Sp.kData
          · have e1 : (bs x.key.txt).toList = [100, 97, 116, 97] := by rw [Lib.toList_data]; exact kd
            have STE : Hid (t.n < 1 ∨ 31 < t.n → RR = .error (t.at_, 1)) := Lib.hid (fun hh => by
              have := J2.out; rw [HD.out, Rp.steps, Rp.step, if_neg kf, if_pos kd, HH.out, if_pos hh] at this
              rw [HST.out, ← this])
            have STO : Hid (¬ (t.n < 1 ∨ 31 < t.n) → Rp.steps { cd with data := t.n } (s.lines.drop (j + 1)) = Rp.steps ⟨0, 0, [], 0⟩ s.lines) := Lib.hid (fun hh => by
              have := J2.out; rw [HD.out, Rp.steps, Rp.step, if_neg kf, if_pos kd, HH.out, if_neg hh] at this; exact this)
            clear kf kd
            by_cases b1 : t.n < 1
            · have b1' : decide ((t.n : Int) < 1) = true := by rw [decide_eq_true_iff]; omega
              have HE := Lib.hid (STE.out (.inl b1))
              clear b1
              go_wp2_with fail
              have zb : (((((V.setCell ⟨R0, 0, none⟩ (.string ⟨#[]⟩)).setCell ⟨R0, 1, none⟩ (.int .i64 0)).setCell ⟨R0, 2, none⟩ (.int .i64 0)).setCell ⟨R0, 3, none⟩ (.slice none 0 0)).setCell ⟨R0, 4, none⟩ (.int .i64 0)).heap[R0]? = some (.cells #[.string ⟨#[]⟩, .int .i64 0, .int .i64 0, .slice none 0 0, .int .i64 0] 24 (0, 0)) := zero5 HR.out
              have zl : Below w.heap.size w (((((V.setCell ⟨R0, 0, none⟩ (.string ⟨#[]⟩)).setCell ⟨R0, 1, none⟩ (.int .i64 0)).setCell ⟨R0, 2, none⟩ (.int .i64 0)).setCell ⟨R0, 3, none⟩ (.slice none 0 0)).setCell ⟨R0, 4, none⟩ (.int .i64 0)) := below5 J3.out hR0 _ _ _ _ _
              generalize (((((V.setCell ⟨R0, 0, none⟩ (.string ⟨#[]⟩)).setCell ⟨R0, 1, none⟩ (.int .i64 0)).setCell ⟨R0, 2, none⟩ (.int .i64 0)).setCell ⟨R0, 3, none⟩ (.slice none 0 0)).setCell ⟨R0, 4, none⟩ (.int .i64 0)) = Z at zb zl ⊢
              have e0 := blk_c zb 0; have e1 := blk_c zb 1; have e2 := blk_c zb 2; have e3 := blk_c zb 3; have e4 := blk_c zb 4
              refine bodyPost_ret (v := .tuple #[.agg #[.string ⟨#[]⟩, .int .i64 0, .int .i64 0, .slice none 0 0, .int .i64 0], .int .i64 t.at_, .int .i64 1]) (by simp [results, Tryd.results45, go_sem, e0, e1, e2, e3, e4]) rfl ?_
              exact BuildPost.err HE.out zl
            · have b1' : decide ((t.n : Int) < 1) = false := by rw [decide_eq_false_iff_not]; omega
              by_cases b2 : 31 < t.n
              · have b2' : decide ((t.n : Int) > 31) = true := by rw [decide_eq_true_iff]; omega
                have b2'' : decide (31 < (t.n : Int)) = true := by rw [decide_eq_true_iff]; omega
                have HE := Lib.hid (STE.out (.inr b2))
                go_wp2_with fail
                have zb : (((((V.setCell ⟨R0, 0, none⟩ (.string ⟨#[]⟩)).setCell ⟨R0, 1, none⟩ (.int .i64 0)).setCell ⟨R0, 2, none⟩ (.int .i64 0)).setCell ⟨R0, 3, none⟩ (.slice none 0 0)).setCell ⟨R0, 4, none⟩ (.int .i64 0)).heap[R0]? = some (.cells #[.string ⟨#[]⟩, .int .i64 0, .int .i64 0, .slice none 0 0, .int .i64 0] 24 (0, 0)) := zero5 HR.out
                have zl : Below w.heap.size w (((((V.setCell ⟨R0, 0, none⟩ (.string ⟨#[]⟩)).setCell ⟨R0, 1, none⟩ (.int .i64 0)).setCell ⟨R0, 2, none⟩ (.int .i64 0)).setCell ⟨R0, 3, none⟩ (.slice none 0 0)).setCell ⟨R0, 4, none⟩ (.int .i64 0)) := below5 J3.out hR0 _ _ _ _ _
                generalize (((((V.setCell ⟨R0, 0, none⟩ (.string ⟨#[]⟩)).setCell ⟨R0, 1, none⟩ (.int .i64 0)).setCell ⟨R0, 2, none⟩ (.int .i64 0)).setCell ⟨R0, 3, none⟩ (.slice none 0 0)).setCell ⟨R0, 4, none⟩ (.int .i64 0)) = Z at zb zl ⊢
                have e0 := blk_c zb 0; have e1 := blk_c zb 1; have e2 := blk_c zb 2; have e3 := blk_c zb 3; have e4 := blk_c zb 4
                refine bodyPost_ret (v := .tuple #[.agg #[.string ⟨#[]⟩, .int .i64 0, .int .i64 0, .slice none 0 0, .int .i64 0], .int .i64 t.at_, .int .i64 1]) (by simp [results, Tryd.results45, go_sem, e0, e1, e2, e3, e4]) rfl ?_
                exact BuildPost.err HE.out zl
              · have b2' : decide ((t.n : Int) > 31) = false := by rw [decide_eq_false_iff_not]; omega
                have b2'' : decide (31 < (t.n : Int)) = false := by rw [decide_eq_false_iff_not]; omega
                have STP := Lib.hid (STO.out (by omega))
                have hd31 : t.n ≤ 31 := by omega
                go_wp2_with fail
                go_roundg (s.lines.length - (j + 1))
                case measure => rw [J1.out]; omega
                case rel => exact ⟨j + 1, { cd with data := t.n }, .slice Ap cd.parity.length qp, rfl, by omega, by go_num, STP.out, hd31, hpl, J3.out.setCell (p := ⟨C, 2, none⟩) hC0 _, blk_far HS.out (p := ⟨C, 2, none⟩) hSC _, blk_far HR.out (p := ⟨C, 2, none⟩) hRC _, blk_set HC.out 2 _, HP.out.far (p := ⟨C, 2, none⟩) (Nat.lt_succ_self _) _⟩
          · have n2 : ¬ (bs x.key.txt).toList = [100, 97, 116, 97] := by rw [Lib.toList_data]; exact kd
            have n2b : ((bs x.key.txt).toList == [100, 97, 116, 97]) = false := by simpa using n2
            by_cases km : x.key.txt = Sp.kDomain
            · have e1 : (bs x.key.txt).toList = [100, 111, 109, 97, 105, 110] := by rw [Lib.toList_data]; exact km
              have STE : Hid (t.n < 1 ∨ cd.data + cd.parity.length < t.n → RR = .error (t.at_, 1)) := Lib.hid (fun hh => by
                have := J2.out; rw [HD.out, Rp.steps, Rp.step, if_neg kf, if_neg kd, if_pos km, HH.out, if_pos hh] at this
                rw [HST.out, ← this])
              have STO : Hid (¬ (t.n < 1 ∨ cd.data + cd.parity.length < t.n) → Rp.steps { cd with domain := t.n } (s.lines.drop (j + 1)) = Rp.steps ⟨0, 0, [], 0⟩ s.lines) := Lib.hid (fun hh => by
                have := J2.out; rw [HD.out, Rp.steps, Rp.step, if_neg kf, if_neg kd, if_pos km, HH.out, if_neg hh] at this; exact this)
              clear kf kd km
              by_cases b1 : t.n < 1
              · have b1' : decide ((t.n : Int) < 1) = true := by rw [decide_eq_true_iff]; omega
                have HE := Lib.hid (STE.out (.inl b1))
                clear b1
                go_wp2_with fail
                have zb : (((((V.setCell ⟨R0, 0, none⟩ (.string ⟨#[]⟩)).setCell ⟨R0, 1, none⟩ (.int .i64 0)).setCell ⟨R0, 2, none⟩ (.int .i64 0)).setCell ⟨R0, 3, none⟩ (.slice none 0 0)).setCell ⟨R0, 4, none⟩ (.int .i64 0)).heap[R0]? = some (.cells #[.string ⟨#[]⟩, .int .i64 0, .int .i64 0, .slice none 0 0, .int .i64 0] 24 (0, 0)) := zero5 HR.out
                have zl : Below w.heap.size w (((((V.setCell ⟨R0, 0, none⟩ (.string ⟨#[]⟩)).setCell ⟨R0, 1, none⟩ (.int .i64 0)).setCell ⟨R0, 2, none⟩ (.int .i64 0)).setCell ⟨R0, 3, none⟩ (.slice none 0 0)).setCell ⟨R0, 4, none⟩ (.int .i64 0)) := below5 J3.out hR0 _ _ _ _ _
                generalize (((((V.setCell ⟨R0, 0, none⟩ (.string ⟨#[]⟩)).setCell ⟨R0, 1, none⟩ (.int .i64 0)).setCell ⟨R0, 2, none⟩ (.int .i64 0)).setCell ⟨R0, 3, none⟩ (.slice none 0 0)).setCell ⟨R0, 4, none⟩ (.int .i64 0)) = Z at zb zl ⊢
                have e0 := blk_c zb 0; have e1 := blk_c zb 1; have e2 := blk_c zb 2; have e3 := blk_c zb 3; have e4 := blk_c zb 4
                refine bodyPost_ret (v := .tuple #[.agg #[.string ⟨#[]⟩, .int .i64 0, .int .i64 0, .slice none 0 0, .int .i64 0], .int .i64 t.at_, .int .i64 1]) (by simp [results, Tryd.results45, go_sem, e0, e1, e2, e3, e4]) rfl ?_
                exact BuildPost.err HE.out zl
              · have b1' : decide ((t.n : Int) < 1) = false := by rw [decide_eq_false_iff_not]; omega
                by_cases b2 : cd.data + cd.parity.length < t.n
                · have b2' : decide ((t.n : Int) > (cd.data : Int) + (cd.parity.length : Int)) = true := by rw [decide_eq_true_iff]; omega
                  have b2'' : decide ((cd.data : Int) + (cd.parity.length : Int) < (t.n : Int)) = true := by rw [decide_eq_true_iff]; omega
                  have HE := Lib.hid (STE.out (.inr b2))
                  go_wp2_with fail
                  have zb : (((((V.setCell ⟨R0, 0, none⟩ (.string ⟨#[]⟩)).setCell ⟨R0, 1, none⟩ (.int .i64 0)).setCell ⟨R0, 2, none⟩ (.int .i64 0)).setCell ⟨R0, 3, none⟩ (.slice none 0 0)).setCell ⟨R0, 4, none⟩ (.int .i64 0)).heap[R0]? = some (.cells #[.string ⟨#[]⟩, .int .i64 0, .int .i64 0, .slice none 0 0, .int .i64 0] 24 (0, 0)) := zero5 HR.out
                  have zl : Below w.heap.size w (((((V.setCell ⟨R0, 0, none⟩ (.string ⟨#[]⟩)).setCell ⟨R0, 1, none⟩ (.int .i64 0)).setCell ⟨R0, 2, none⟩ (.int .i64 0)).setCell ⟨R0, 3, none⟩ (.slice none 0 0)).setCell ⟨R0, 4, none⟩ (.int .i64 0)) := below5 J3.out hR0 _ _ _ _ _
                  generalize (((((V.setCell ⟨R0, 0, none⟩ (.string ⟨#[]⟩)).setCell ⟨R0, 1, none⟩ (.int .i64 0)).setCell ⟨R0, 2, none⟩ (.int .i64 0)).setCell ⟨R0, 3, none⟩ (.slice none 0 0)).setCell ⟨R0, 4, none⟩ (.int .i64 0)) = Z at zb zl ⊢
                  have e0 := blk_c zb 0; have e1 := blk_c zb 1; have e2 := blk_c zb 2; have e3 := blk_c zb 3; have e4 := blk_c zb 4
                  refine bodyPost_ret (v := .tuple #[.agg #[.string ⟨#[]⟩, .int .i64 0, .int .i64 0, .slice none 0 0, .int .i64 0], .int .i64 t.at_, .int .i64 1]) (by simp [results, Tryd.results45, go_sem, e0, e1, e2, e3, e4]) rfl ?_
                  exact BuildPost.err HE.out zl
                · have b2' : decide ((t.n : Int) > (cd.data : Int) + (cd.parity.length : Int)) = false := by rw [decide_eq_false_iff_not]; omega
                  have b2'' : decide ((cd.data : Int) + (cd.parity.length : Int) < (t.n : Int)) = false := by rw [decide_eq_false_iff_not]; omega
                  have STP := Lib.hid (STO.out (by omega))
                  go_wp2_with fail
                  go_roundg (s.lines.length - (j + 1))
                  case measure => rw [J1.out]; omega
                  case rel => exact ⟨j + 1, { cd with domain := t.n }, .slice Ap cd.parity.length qp, rfl, by omega, by go_num, STP.out, hdl, hpl, J3.out.setCell (p := ⟨C, 4, none⟩) hC0 _, blk_far HS.out (p := ⟨C, 4, none⟩) hSC _, blk_far HR.out (p := ⟨C, 4, none⟩) hRC _, blk_set HC.out 4 _, HP.out.far (p := ⟨C, 4, none⟩) (Nat.lt_succ_self _) _⟩
            · have n3 : ¬ (bs x.key.txt).toList = [100, 111, 109, 97, 105, 110] := by rw [Lib.toList_data]; exact km
              have n3b : ((bs x.key.txt).toList == [100, 111, 109, 97, 105, 110]) = false := by simpa using n3
              have STW : Hid (32 ≤ cd.data + cd.parity.length → RR = .error (x.key.at_, 2)) := Lib.hid (fun hh => by
                have := J2.out; rw [HD.out, Rp.steps, Rp.step, if_neg kf, if_neg kd, if_neg km, if_pos hh] at this
                rw [HST.out, ← this])
              have STR0 : Hid (¬ 32 ≤ cd.data + cd.parity.length → ∀ a b, Rp.rowR x cd.data (Rp.topR cd.field) = .error (a, b) → RR = .error (a, b)) := Lib.hid (fun hh a b hr => by
                have := J2.out; rw [HD.out, Rp.steps, Rp.step, if_neg kf, if_neg kd, if_neg km, if_neg hh, hr] at this
                rw [HST.out, ← this])
              have STO0 : Hid (¬ 32 ≤ cd.data + cd.parity.length → ∀ r, Rp.rowR x cd.data (Rp.topR cd.field) = .ok r → Rp.steps { cd with parity := cd.parity ++ [r] } (s.lines.drop (j + 1)) = Rp.steps ⟨0, 0, [], 0⟩ s.lines) := Lib.hid (fun hh r hr => by
                have := J2.out; rw [HD.out, Rp.steps, Rp.step, if_neg kf, if_neg kd, if_neg km, if_neg hh, hr] at this; exact this)
              clear kf kd km
              by_cases hw : 32 ≤ cd.data + cd.parity.length
              · have hw1 : decide ((cd.data : Int) + (cd.parity.length : Int) ≥ 32) = true := by rw [decide_eq_true_iff]; omega
                have hw2 : decide (32 ≤ (cd.data : Int) + (cd.parity.length : Int)) = true := by rw [decide_eq_true_iff]; omega
                have HE := Lib.hid (STW.out hw)
                clear hw
                have hXl : X < V.heap.size := lt_of_block HX.out
                go_wp2_with fail
                go_region
                all_goals
                  go_wp2_with fail
                  have zb : (((((V.setCell ⟨R0, 0, none⟩ (.string ⟨#[]⟩)).setCell ⟨R0, 1, none⟩ (.int .i64 0)).setCell ⟨R0, 2, none⟩ (.int .i64 0)).setCell ⟨R0, 3, none⟩ (.slice none 0 0)).setCell ⟨R0, 4, none⟩ (.int .i64 0)).drew.heap[R0]? = some (.cells #[.string ⟨#[]⟩, .int .i64 0, .int .i64 0, .slice none 0 0, .int .i64 0] 24 (0, 0)) := zero5 HR.out
                  have zl : Below w.heap.size w (((((V.setCell ⟨R0, 0, none⟩ (.string ⟨#[]⟩)).setCell ⟨R0, 1, none⟩ (.int .i64 0)).setCell ⟨R0, 2, none⟩ (.int .i64 0)).setCell ⟨R0, 3, none⟩ (.slice none 0 0)).setCell ⟨R0, 4, none⟩ (.int .i64 0)).drew := (below5 J3.out hR0 _ _ _ _ _).drew
                  generalize (((((V.setCell ⟨R0, 0, none⟩ (.string ⟨#[]⟩)).setCell ⟨R0, 1, none⟩ (.int .i64 0)).setCell ⟨R0, 2, none⟩ (.int .i64 0)).setCell ⟨R0, 3, none⟩ (.slice none 0 0)).setCell ⟨R0, 4, none⟩ (.int .i64 0)).drew = Z at zb zl ⊢
                  have e0 := blk_c zb 0; have e1 := blk_c zb 1; have e2 := blk_c zb 2; have e3 := blk_c zb 3; have e4 := blk_c zb 4
                  refine bodyPost_ret (v := .tuple #[.agg #[.string ⟨#[]⟩, .int .i64 0, .int .i64 0, .slice none 0 0, .int .i64 0], .int .i64 x.key.at_, .int .i64 2]) (by simp [results, Tryd.results45, go_sem, e0, e1, e2, e3, e4]) rfl ?_
                  exact BuildPost.err HE.out zl
              · have hw1 : decide ((cd.data : Int) + (cd.parity.length : Int) ≥ 32) = false := by rw [decide_eq_false_iff_not]; omega
                have hw2 : decide (32 ≤ (cd.data : Int) + (cd.parity.length : Int)) = false := by rw [decide_eq_false_iff_not]; omega
                have STR := Lib.hid (STR0.out hw); have STO := Lib.hid (STO0.out hw)
                have ht65 : Rp.topR cd.field ≤ 65535 := by unfold Rp.topR; split <;> omega
                have hXv : X < V.heap.size := lt_of_block HX.out
                have hVC : C + 1 ≤ V.heap.size := by omega
                have hSv := lt_of_block HS.out; have hRv := lt_of_block HR.out; have hCv := lt_of_block HC.out
                have CP : Hid (∀ W, Below V.heap.size V W → Calls Tryd.prog 67 #[.agg #[.string (bs x.key.txt), .int .i64 x.key.at_, .int .i64 x.key.kind, .int .i64 x.key.n, .slice (some ⟨ga, 0, none⟩) x.a.length qa, .slice Ab x.b.length qb], .int .i64 cd.data, .int .i64 (Rp.topR cd.field)] W (RRowPost (Rp.parR x cd.data (Rp.topR cd.field)) W)) := Lib.hid fun W h => rparity_any x _ _ b0 cd.data (Rp.topR cd.field) W (HTA.out.below h) (HTB.out.below h) hl1 hl2 hdl ht65
                have CL : Hid (∀ W, Below V.heap.size V W → Calls Tryd.prog 68 #[.agg #[.string (bs x.key.txt), .int .i64 x.key.at_, .int .i64 x.key.kind, .int .i64 x.key.n, .slice (some ⟨ga, 0, none⟩) x.a.length qa, .slice Ab x.b.length qb], .int .i64 cd.data, .int .i64 (Rp.topR cd.field)] W (RRowPost (Rp.locR x cd.data (Rp.topR cd.field)) W)) := Lib.hid fun W h => rlocal_any x _ _ b0 cd.data (Rp.topR cd.field) W (HTA.out.below h) (HTB.out.below h) hl1 hl2 hdl ht65
                have HSW : Hid (∀ W, Below V.heap.size V W → (W.cell? ⟨X, 0, none⟩ = some (.string (bs x.key.txt)) ∧ W.cell? ⟨X, 1, none⟩ = some (.int .i64 x.key.at_) ∧ W.cell? ⟨X, 2, none⟩ = some (.int .i64 x.key.kind) ∧ W.cell? ⟨X, 3, none⟩ = some (.int .i64 x.key.n) ∧ W.cell? ⟨X, 4, none⟩ = some (.slice (some ⟨ga, 0, none⟩) x.a.length qa) ∧ W.cell? ⟨X, 5, none⟩ = some (.slice Ab x.b.length qb) ∧ W.cell? ⟨C, 1, none⟩ = some (.int .i64 cd.field) ∧ W.cell? ⟨C, 2, none⟩ = some (.int .i64 cd.data) ∧ Hid (Below V.heap.size V W))) := Lib.hid fun W h => ⟨blk_c ((h.block _ hXv).trans HX.out) 0, blk_c ((h.block _ hXv).trans HX.out) 1, blk_c ((h.block _ hXv).trans HX.out) 2, blk_c ((h.block _ hXv).trans HX.out) 3, blk_c ((h.block _ hXv).trans HX.out) 4, blk_c ((h.block _ hXv).trans HX.out) 5, blk_c ((h.block _ hCv).trans HC.out) 1, blk_c ((h.block _ hCv).trans HC.out) 2, Lib.hid h⟩
                have LB := Lib.hid (Below.refl V.heap.size V)
                have hw32 : cd.data + cd.parity.length < 32 := by omega
                clear STW STR0 STO0 hw
                go_wp2_with fail
                go_region_held3 (fun W => W.cell? ⟨X, 0, none⟩ = some (.string (bs x.key.txt)) ∧ W.cell? ⟨X, 1, none⟩ = some (.int .i64 x.key.at_) ∧ W.cell? ⟨X, 2, none⟩ = some (.int .i64 x.key.kind) ∧ W.cell? ⟨X, 3, none⟩ = some (.int .i64 x.key.n) ∧ W.cell? ⟨X, 4, none⟩ = some (.slice (some ⟨ga, 0, none⟩) x.a.length qa) ∧ W.cell? ⟨X, 5, none⟩ = some (.slice Ab x.b.length qb) ∧ W.cell? ⟨C, 1, none⟩ = some (.int .i64 cd.field) ∧ W.cell? ⟨C, 2, none⟩ = some (.int .i64 cd.data) ∧ Hid (Below V.heap.size V W))
                  (first | exact HSW.out _ LB.out.drew | assumption | exact HSW.out _ (Hid.out (by assumption)))
                  (first | (go_at_call 38; refine (rtop_any _ _).mono ?_; rintro e Wt ⟨rfl, rfl⟩) | (go_at_call 67; have hS_ := ‹_ ∧ _ ∧ _ ∧ _ ∧ _ ∧ _ ∧ _ ∧ _ ∧ Hid _›; refine (CP.out _ hS_.2.2.2.2.2.2.2.2.out).mono ?_; rintro e WA hh; obtain ⟨v1, p1, er1, rfl, hrel, hb⟩ := hh.form; have HN1 := Lib.hid (hS_.2.2.2.2.2.2.2.2.out.trans (hb.mono hS_.2.2.2.2.2.2.2.2.out.size)); have HR1 := Lib.hid (RowRel.mono (base' := C + 1) hrel (Nat.le_trans hVC hS_.2.2.2.2.2.2.2.2.out.size)); clear hb hrel hS_))
                have hS_ := ‹_ ∧ _ ∧ _ ∧ _ ∧ _ ∧ _ ∧ _ ∧ _ ∧ Hid _›
                have HB1 := Lib.hid hS_.2.2.2.2.2.2.2.2.out
                obtain ⟨y0', y1', y2', y3', y4', y5', c1', c2', _⟩ := hS_
                clear c0 c1 c2 c3 c4 z0 z1 z2 z3 z4 f0 f1 f2 f3 f4 k1 k2 k3 k4 y0 y1 y2 y3 y4 y5 d1 d3
                by_cases kl : x.key.txt = Sp.kLocal
                · have l1 : (bs x.key.txt).toList = [108, 111, 99, 97, 108] := by rw [Lib.toList_data]; exact kl
                  have hRS : Rp.locR x cd.data (Rp.topR cd.field) = Rp.rowR x cd.data (Rp.topR cd.field) := by unfold Rp.rowR; rw [if_pos kl]
                  have HRS := Lib.hid hRS
                  clear kl hRS
                  go_wp2_with fail
                  go_region_held3 (fun W => W.cell? ⟨X, 0, none⟩ = some (.string (bs x.key.txt)) ∧ W.cell? ⟨X, 1, none⟩ = some (.int .i64 x.key.at_) ∧ W.cell? ⟨X, 2, none⟩ = some (.int .i64 x.key.kind) ∧ W.cell? ⟨X, 3, none⟩ = some (.int .i64 x.key.n) ∧ W.cell? ⟨X, 4, none⟩ = some (.slice (some ⟨ga, 0, none⟩) x.a.length qa) ∧ W.cell? ⟨X, 5, none⟩ = some (.slice Ab x.b.length qb) ∧ W.cell? ⟨C, 1, none⟩ = some (.int .i64 cd.field) ∧ W.cell? ⟨C, 2, none⟩ = some (.int .i64 cd.data) ∧ Hid (Below V.heap.size V W))
                    (first | exact HSW.out _ HB1.out.drew | assumption | exact HSW.out _ (Hid.out (by assumption)))
                    (first | (go_at_call 38; refine (rtop_any _ _).mono ?_; rintro e Wt ⟨rfl, rfl⟩) | (go_at_call 68; have hS_ := ‹_ ∧ _ ∧ _ ∧ _ ∧ _ ∧ _ ∧ _ ∧ _ ∧ Hid _›; refine (CL.out _ hS_.2.2.2.2.2.2.2.2.out).mono ?_; rintro e WB hh; obtain ⟨v2, p2, er2, rfl, hrel, hb⟩ := hh.form; have HN2 := Lib.hid (hS_.2.2.2.2.2.2.2.2.out.trans (hb.mono hS_.2.2.2.2.2.2.2.2.out.size)); have HR2 := Lib.hid (RowRel.mono (base' := C + 1) hrel (Nat.le_trans hVC hS_.2.2.2.2.2.2.2.2.out.size)); clear hb hrel hS_))
                  have hS_ := ‹_ ∧ _ ∧ _ ∧ _ ∧ _ ∧ _ ∧ _ ∧ _ ∧ Hid _›
                  have HB2 := Lib.hid hS_.2.2.2.2.2.2.2.2.out
                  clear hS_
                  clear y0' y1' y2' y3' y4' y5' c1' c2'
                  have hbW := HB2.out
                  have HBW := Lib.hid (J3.out.trans (hbW.mono J3.out.size))
                  have HSX := Lib.hid ((hbW.block _ hSv).trans HS.out); have HRX := Lib.hid ((hbW.block _ hRv).trans HR.out); have HCX := Lib.hid ((hbW.block _ hCv).trans HC.out); have HPX := Lib.hid (HP.out.below hbW)
                  clear hbW
                  have c3 : WB.cell? ⟨C, 3, none⟩ = some (.slice Ap cd.parity.length qp) := blk_c HCX.out 3
                  have k3 := blk_f HCX.out 3
                  have z0 := blk_c HRX.out 0; have z1 := blk_c HRX.out 1; have z2 := blk_c HRX.out 2; have z3 := blk_c HRX.out 3; have z4 := blk_c HRX.out 4
                  have f0 := blk_f HRX.out 0; have f1 := blk_f HRX.out 1; have f2 := blk_f HRX.out 2; have f3 := blk_f HRX.out 3; have f4 := blk_f HRX.out 4
                  have hCl2 := lt_of_block HCX.out; have hRl2 := lt_of_block HRX.out
                  rcases hres : Rp.rowR x cd.data (Rp.topR cd.field) with ⟨ea, eb⟩ | r
                  · have hrl := HR2.out
                    rw [HRS.out, hres] at hrl
                    obtain ⟨rfl, rfl, rfl⟩ := hrl
                    have hb1 := rowR_er hres
                    subst hb1
                    have HE := Lib.hid (STR.out ea 1 hres)
                    clear hres
                    go_wp2_with fail
                    have zb : (((((WB.setCell ⟨R0, 0, none⟩ (.string ⟨#[]⟩)).setCell ⟨R0, 1, none⟩ (.int .i64 0)).setCell ⟨R0, 2, none⟩ (.int .i64 0)).setCell ⟨R0, 3, none⟩ (.slice none 0 0)).setCell ⟨R0, 4, none⟩ (.int .i64 0)).heap[R0]? = some (.cells #[.string ⟨#[]⟩, .int .i64 0, .int .i64 0, .slice none 0 0, .int .i64 0] 24 (0, 0)) := zero5 HRX.out
                    have zl : Below w.heap.size w (((((WB.setCell ⟨R0, 0, none⟩ (.string ⟨#[]⟩)).setCell ⟨R0, 1, none⟩ (.int .i64 0)).setCell ⟨R0, 2, none⟩ (.int .i64 0)).setCell ⟨R0, 3, none⟩ (.slice none 0 0)).setCell ⟨R0, 4, none⟩ (.int .i64 0)) := below5 HBW.out hR0 _ _ _ _ _
                    generalize (((((WB.setCell ⟨R0, 0, none⟩ (.string ⟨#[]⟩)).setCell ⟨R0, 1, none⟩ (.int .i64 0)).setCell ⟨R0, 2, none⟩ (.int .i64 0)).setCell ⟨R0, 3, none⟩ (.slice none 0 0)).setCell ⟨R0, 4, none⟩ (.int .i64 0)) = Z at zb zl ⊢
                    have e0 := blk_c zb 0; have e1 := blk_c zb 1; have e2 := blk_c zb 2; have e3 := blk_c zb 3; have e4 := blk_c zb 4
                    refine bodyPost_ret (v := .tuple #[.agg #[.string ⟨#[]⟩, .int .i64 0, .int .i64 0, .slice none 0 0, .int .i64 0], .int .i64 ea, .int .i64 (1 : Nat)]) (by simp [results, Tryd.results45, go_sem, e0, e1, e2, e3, e4]) rfl ?_
                    exact BuildPost.err HE.out zl
                  · have hrl := HR2.out
                    rw [HRS.out, hres] at hrl
                    obtain ⟨hrow, rfl, rfl⟩ := hrl
                    have STP := Lib.hid (STO.out r hres)
                    clear hres
                    obtain ⟨Ar, qr, rfl⟩ := own_slice hrow
                    have HROW := Lib.hid hrow
                    clear hrow
                    obtain ⟨csp, hop, hip⟩ := HPX.out
                    have HO := Lib.hid hop; have HI := Lib.hid hip
                    clear hop hip
                    obtain ⟨i1, hi1, hz10, hz11, hz12⟩ := info_parts info61
                    go_wp2_with (first | (at_builtin; refine wpList_append_own_at (WB.alloc (.cells #[.slice Ar r.length qr] 61)) rfl _ _ 22 rfl (C + 1) 61 i1 _ 1 24 Tryd.underlying22 hi1 hz10 hz11 hz12 rfl (by decide) _ cd.parity.length csp rfl (HO.out.alloc _) ⟨WB.heap.size, 0, none⟩ 1 1 [.slice Ar r.length qr] rfl rfl ?c1 ?c2 ?c3 ?c4 ?c5 ?_))
                    case c1 => exact World.news_of_block (heap_alloc_new WB (.cells #[.slice Ar r.length qr] 61))
                    case c2 => intro u hu; simp only [List.mem_cons, List.not_mem_nil, or_false] at hu; rcases hu with rfl; rfl
                    case c3 => unfold maxLen; omega
                    case c4 => omega
                    case c5 => simp only [World.size_alloc]; omega
                    intro v' w4 hown hg _ _
                    obtain ⟨A4, q4, rfl⟩ := own_slice hown
                    have hnC := (own_ne HO.out (b := C) (Nat.lt_succ_self _)).symm; have hnR := (own_ne HO.out (b := R0) (Nat.lt_succ_of_lt hRCl)).symm; have hnS := (own_ne HO.out (b := w.heap.size) (Nat.lt_succ_of_lt (Nat.lt_trans hwR hRCl))).symm
                    have G1 := Lib.hid ((hg.block C (by rw [World.size_alloc]; omega) hnC).trans (blk_old HCX.out _))
                    have G2 := Lib.hid ((hg.block R0 (by rw [World.size_alloc]; omega) hnR).trans (blk_old HRX.out _))
                    have G3 := Lib.hid ((hg.block w.heap.size (by rw [World.size_alloc]; omega) hnS).trans (blk_old HSX.out _))
                    have G4 := Lib.hid ((HBW.out.alloc HBW.out.size (.cells #[.slice Ar r.length qr] 61)).grown hg (by rw [World.size_alloc]; have := HBW.out.size; omega) (own_ge HO.out (Nat.le_of_lt (Nat.lt_succ_of_lt (Nat.lt_trans hwR hRCl)))))
                    have hkp : ∀ m u, RowV (C + 1) m WB u → RowV (C + 1) m w4 u := fun m u hm => World.ownsRow.kept (World.ownsRow.alloc hm _) hg (own_type_ne (World.ownsRow.alloc hm _) (World.ownsRow.alloc HO.out (.cells #[.slice Ar r.length qr] 61)) (by decide))
                    have G5 := Lib.hid ((HI.out.keep hkp).snoc (hkp _ _ HROW.out))
                    have G6 := Lib.hid hown
                    have hkf := blk_f G1.out 3; have hkc := blk_c G1.out 3
                    have hCl4 := lt_of_block G1.out
                    clear hown hg hnC hnR hnS hkp
                    go_wp2_with fail
                    go_roundg (s.lines.length - (j + 1))
                    case measure => rw [J1.out]; omega
                    case rel =>
                      refine ⟨j + 1, { cd with parity := cd.parity ++ [r] }, .slice A4 (cd.parity.length + 1) q4, rfl, by omega, by go_num, STP.out, hdl, by simp only [List.length_append, List.length_singleton]; omega, G4.out.setCell (p := ⟨C, 3, none⟩) hC0 _, blk_far G3.out (p := ⟨C, 3, none⟩) hSC _, blk_far G2.out (p := ⟨C, 3, none⟩) hRC _, blk_set G1.out 3 _, csp ++ [.slice Ar r.length qr], ?_, ParIn.keep (fun m u hm => own_far hm (p := ⟨C, 3, none⟩) (Nat.lt_succ_self _) _) G5.out⟩
                      rw [List.length_append]
                      exact own_far G6.out (p := ⟨C, 3, none⟩) (Nat.lt_succ_self _) _
                · have l1 : ¬ (bs x.key.txt).toList = [108, 111, 99, 97, 108] := by rw [Lib.toList_data]; exact kl
                  have l2 : ((bs x.key.txt).toList == [108, 111, 99, 97, 108]) = false := by simpa using l1
                  have hRS : Rp.parR x cd.data (Rp.topR cd.field) = Rp.rowR x cd.data (Rp.topR cd.field) := by unfold Rp.rowR; rw [if_neg kl]
                  have HRS := Lib.hid hRS
                  clear kl hRS
                  have hbW := HB1.out
                  have HBW := Lib.hid (J3.out.trans (hbW.mono J3.out.size))
                  have HSX := Lib.hid ((hbW.block _ hSv).trans HS.out); have HRX := Lib.hid ((hbW.block _ hRv).trans HR.out); have HCX := Lib.hid ((hbW.block _ hCv).trans HC.out); have HPX := Lib.hid (HP.out.below hbW)
                  clear hbW
                  have c3 : WA.cell? ⟨C, 3, none⟩ = some (.slice Ap cd.parity.length qp) := blk_c HCX.out 3
                  have k3 := blk_f HCX.out 3
                  have z0 := blk_c HRX.out 0; have z1 := blk_c HRX.out 1; have z2 := blk_c HRX.out 2; have z3 := blk_c HRX.out 3; have z4 := blk_c HRX.out 4
                  have f0 := blk_f HRX.out 0; have f1 := blk_f HRX.out 1; have f2 := blk_f HRX.out 2; have f3 := blk_f HRX.out 3; have f4 := blk_f HRX.out 4
                  have hCl2 := lt_of_block HCX.out; have hRl2 := lt_of_block HRX.out
                  rcases hres : Rp.rowR x cd.data (Rp.topR cd.field) with ⟨ea, eb⟩ | r
                  · have hrl := HR1.out
                    rw [HRS.out, hres] at hrl
                    obtain ⟨rfl, rfl, rfl⟩ := hrl
                    have hb1 := rowR_er hres
                    subst hb1
                    have HE := Lib.hid (STR.out ea 1 hres)
                    clear hres
                    go_wp2_with fail
                    have zb : (((((WA.setCell ⟨R0, 0, none⟩ (.string ⟨#[]⟩)).setCell ⟨R0, 1, none⟩ (.int .i64 0)).setCell ⟨R0, 2, none⟩ (.int .i64 0)).setCell ⟨R0, 3, none⟩ (.slice none 0 0)).setCell ⟨R0, 4, none⟩ (.int .i64 0)).heap[R0]? = some (.cells #[.string ⟨#[]⟩, .int .i64 0, .int .i64 0, .slice none 0 0, .int .i64 0] 24 (0, 0)) := zero5 HRX.out
                    have zl : Below w.heap.size w (((((WA.setCell ⟨R0, 0, none⟩ (.string ⟨#[]⟩)).setCell ⟨R0, 1, none⟩ (.int .i64 0)).setCell ⟨R0, 2, none⟩ (.int .i64 0)).setCell ⟨R0, 3, none⟩ (.slice none 0 0)).setCell ⟨R0, 4, none⟩ (.int .i64 0)) := below5 HBW.out hR0 _ _ _ _ _
                    generalize (((((WA.setCell ⟨R0, 0, none⟩ (.string ⟨#[]⟩)).setCell ⟨R0, 1, none⟩ (.int .i64 0)).setCell ⟨R0, 2, none⟩ (.int .i64 0)).setCell ⟨R0, 3, none⟩ (.slice none 0 0)).setCell ⟨R0, 4, none⟩ (.int .i64 0)) = Z at zb zl ⊢
                    have e0 := blk_c zb 0; have e1 := blk_c zb 1; have e2 := blk_c zb 2; have e3 := blk_c zb 3; have e4 := blk_c zb 4
                    refine bodyPost_ret (v := .tuple #[.agg #[.string ⟨#[]⟩, .int .i64 0, .int .i64 0, .slice none 0 0, .int .i64 0], .int .i64 ea, .int .i64 (1 : Nat)]) (by simp [results, Tryd.results45, go_sem, e0, e1, e2, e3, e4]) rfl ?_
                    exact BuildPost.err HE.out zl
                  · have hrl := HR1.out
                    rw [HRS.out, hres] at hrl
                    obtain ⟨hrow, rfl, rfl⟩ := hrl
                    have STP := Lib.hid (STO.out r hres)
                    clear hres
                    obtain ⟨Ar, qr, rfl⟩ := own_slice hrow
                    have HROW := Lib.hid hrow
                    clear hrow
                    obtain ⟨csp, hop, hip⟩ := HPX.out
                    have HO := Lib.hid hop; have HI := Lib.hid hip
                    clear hop hip
                    obtain ⟨i1, hi1, hz10, hz11, hz12⟩ := info_parts info61
                    go_wp2_with (first | (at_builtin; refine wpList_append_own_at (WA.alloc (.cells #[.slice Ar r.length qr] 61)) rfl _ _ 22 rfl (C + 1) 61 i1 _ 1 24 Tryd.underlying22 hi1 hz10 hz11 hz12 rfl (by decide) _ cd.parity.length csp rfl (HO.out.alloc _) ⟨WA.heap.size, 0, none⟩ 1 1 [.slice Ar r.length qr] rfl rfl ?c1 ?c2 ?c3 ?c4 ?c5 ?_))
                    case c1 => exact World.news_of_block (heap_alloc_new WA (.cells #[.slice Ar r.length qr] 61))
                    case c2 => intro u hu; simp only [List.mem_cons, List.not_mem_nil, or_false] at hu; rcases hu with rfl; rfl
                    case c3 => unfold maxLen; omega
                    case c4 => omega
                    case c5 => simp only [World.size_alloc]; omega
                    intro v' w4 hown hg _ _
                    obtain ⟨A4, q4, rfl⟩ := own_slice hown
                    have hnC := (own_ne HO.out (b := C) (Nat.lt_succ_self _)).symm; have hnR := (own_ne HO.out (b := R0) (Nat.lt_succ_of_lt hRCl)).symm; have hnS := (own_ne HO.out (b := w.heap.size) (Nat.lt_succ_of_lt (Nat.lt_trans hwR hRCl))).symm
                    have G1 := Lib.hid ((hg.block C (by rw [World.size_alloc]; omega) hnC).trans (blk_old HCX.out _))
                    have G2 := Lib.hid ((hg.block R0 (by rw [World.size_alloc]; omega) hnR).trans (blk_old HRX.out _))
                    have G3 := Lib.hid ((hg.block w.heap.size (by rw [World.size_alloc]; omega) hnS).trans (blk_old HSX.out _))
                    have G4 := Lib.hid ((HBW.out.alloc HBW.out.size (.cells #[.slice Ar r.length qr] 61)).grown hg (by rw [World.size_alloc]; have := HBW.out.size; omega) (own_ge HO.out (Nat.le_of_lt (Nat.lt_succ_of_lt (Nat.lt_trans hwR hRCl)))))
                    have hkp : ∀ m u, RowV (C + 1) m WA u → RowV (C + 1) m w4 u := fun m u hm => World.ownsRow.kept (World.ownsRow.alloc hm _) hg (own_type_ne (World.ownsRow.alloc hm _) (World.ownsRow.alloc HO.out (.cells #[.slice Ar r.length qr] 61)) (by decide))
                    have G5 := Lib.hid ((HI.out.keep hkp).snoc (hkp _ _ HROW.out))
                    have G6 := Lib.hid hown
                    have hkf := blk_f G1.out 3; have hkc := blk_c G1.out 3
                    have hCl4 := lt_of_block G1.out
                    clear hown hg hnC hnR hnS hkp
                    go_wp2_with fail
                    go_roundg (s.lines.length - (j + 1))
                    case measure => rw [J1.out]; omega
                    case rel =>
                      refine ⟨j + 1, { cd with parity := cd.parity ++ [r] }, .slice A4 (cd.parity.length + 1) q4, rfl, by omega, by go_num, STP.out, hdl, by simp only [List.length_append, List.length_singleton]; omega, G4.out.setCell (p := ⟨C, 3, none⟩) hC0 _, blk_far G3.out (p := ⟨C, 3, none⟩) hSC _, blk_far G2.out (p := ⟨C, 3, none⟩) hRC _, blk_set G1.out 3 _, csp ++ [.slice Ar r.length qr], ?_, ParIn.keep (fun m u hm => own_far hm (p := ⟨C, 3, none⟩) (Nat.lt_succ_self _) _) G5.out⟩
                      rw [List.length_append]
                      exact own_far G6.out (p := ⟨C, 3, none⟩) (Nat.lt_succ_self _) _
      · clear hk
        have HDN : Hid (Rp.steps ⟨0, 0, [], 0⟩ s.lines = .ok cd) := Lib.hid (by rw [← hst, List.drop_eq_nil_of_le (by omega)]; rfl)
        clear hst hbe hS hR hC hpv
        have HE : Hid (RR = .ok (Rp.fin s.name.txt cd)) := Lib.hid (by rw [HST.out, HDN.out])
        have HNQ2 := Lib.hid HNQ.out
        by_cases hm0 : cd.domain = 0
        · have hmb : ((cd.domain : Int) == 0) = true := by rw [beq_iff_eq]; omega
          have hFM : Hid ((Rp.fin s.name.txt cd).domain = cd.data + cd.parity.length) := Lib.hid (by unfold Rp.fin; simp [hm0])
          clear hm0
          go_wp2_with fail
          have hC2 := blk_set HC.out 4 (.int .i64 ((cd.data : Int) + (cd.parity.length : Int)))
          have hR2 := blk_far HR.out (p := ⟨C, 4, none⟩) hRC (.int .i64 ((cd.data : Int) + (cd.parity.length : Int)))
          have hB2 := J3.out.setCell (p := ⟨C, 4, none⟩) hC0 (.int .i64 ((cd.data : Int) + (cd.parity.length : Int)))
          have hP2 := HP.out.far (p := ⟨C, 4, none⟩) (Nat.lt_succ_self _) (.int .i64 ((cd.data : Int) + (cd.parity.length : Int)))
          generalize wr.setCell ⟨C, 4, none⟩ (.int .i64 ((cd.data : Int) + (cd.parity.length : Int))) = V2 at *
          have q0 : (((((V2.setCell ⟨R0, 0, none⟩ (.string nq)).setCell ⟨R0, 1, none⟩ (.int .i64 cd.field)).setCell ⟨R0, 2, none⟩ (.int .i64 cd.data)).setCell ⟨R0, 3, none⟩ (.slice Ap cd.parity.length qp)).setCell ⟨R0, 4, none⟩ (.int .i64 ((cd.data : Int) + (cd.parity.length : Int)))).heap[R0]? = some (.cells #[.string nq, .int .i64 cd.field, .int .i64 cd.data, .slice Ap cd.parity.length qp, .int .i64 ((cd.data : Int) + (cd.parity.length : Int))] 24 (0, 0)) := (blk_set (blk_set (blk_set (blk_set (blk_set hR2 0 (.string nq)) 1 (.int .i64 cd.field)) 2 (.int .i64 cd.data)) 3 (.slice Ap cd.parity.length qp)) 4 (.int .i64 ((cd.data : Int) + (cd.parity.length : Int))))
          have q1 : Below w.heap.size w (((((V2.setCell ⟨R0, 0, none⟩ (.string nq)).setCell ⟨R0, 1, none⟩ (.int .i64 cd.field)).setCell ⟨R0, 2, none⟩ (.int .i64 cd.data)).setCell ⟨R0, 3, none⟩ (.slice Ap cd.parity.length qp)).setCell ⟨R0, 4, none⟩ (.int .i64 ((cd.data : Int) + (cd.parity.length : Int)))) := (((((hB2.setCell (p := ⟨R0, 0, none⟩) hR0 _).setCell (p := ⟨R0, 1, none⟩) hR0 _).setCell (p := ⟨R0, 2, none⟩) hR0 _).setCell (p := ⟨R0, 3, none⟩) hR0 _).setCell (p := ⟨R0, 4, none⟩) hR0 _)
          have q2 : ParV w.heap.size cd.parity (((((V2.setCell ⟨R0, 0, none⟩ (.string nq)).setCell ⟨R0, 1, none⟩ (.int .i64 cd.field)).setCell ⟨R0, 2, none⟩ (.int .i64 cd.data)).setCell ⟨R0, 3, none⟩ (.slice Ap cd.parity.length qp)).setCell ⟨R0, 4, none⟩ (.int .i64 ((cd.data : Int) + (cd.parity.length : Int)))) (.slice Ap cd.parity.length qp) := ParV.mono (((((hP2.far (p := ⟨R0, 0, none⟩) (Nat.lt_succ_of_lt hRCl) _).far (p := ⟨R0, 1, none⟩) (Nat.lt_succ_of_lt hRCl) _).far (p := ⟨R0, 2, none⟩) (Nat.lt_succ_of_lt hRCl) _).far (p := ⟨R0, 3, none⟩) (Nat.lt_succ_of_lt hRCl) _).far (p := ⟨R0, 4, none⟩) (Nat.lt_succ_of_lt hRCl) _) (Nat.le_of_lt (Nat.lt_succ_of_lt (Nat.lt_trans hwR hRCl)))
          generalize (((((V2.setCell ⟨R0, 0, none⟩ (.string nq)).setCell ⟨R0, 1, none⟩ (.int .i64 cd.field)).setCell ⟨R0, 2, none⟩ (.int .i64 cd.data)).setCell ⟨R0, 3, none⟩ (.slice Ap cd.parity.length qp)).setCell ⟨R0, 4, none⟩ (.int .i64 ((cd.data : Int) + (cd.parity.length : Int)))) = Z at q0 q1 q2 ⊢
          have e0 := blk_c q0 0; have e1 := blk_c q0 1; have e2 := blk_c q0 2; have e3 := blk_c q0 3; have e4 := blk_c q0 4
          refine bodyPost_ret (v := .tuple #[.agg #[.string nq, .int .i64 cd.field, .int .i64 cd.data, .slice Ap cd.parity.length qp, .int .i64 ((cd.data : Int) + (cd.parity.length : Int))], .int .i64 0, .int .i64 0]) (by simp [results, Tryd.results45, go_sem, e0, e1, e2, e3, e4]) rfl ?_
          unfold BuildPost
          rw [HE.out]
          refine ⟨⟨_, rfl, .slice Ap cd.parity.length qp, ?_, q2⟩, q1⟩
          unfold codeV
          rw [hFM.out, HNQ2.out]
          rfl
        · have hmb : ((cd.domain : Int) == 0) = false := by rw [beq_eq_false_iff_ne]; omega
          have hFM : Hid ((Rp.fin s.name.txt cd).domain = cd.domain) := Lib.hid (by unfold Rp.fin; simp [hm0])
          clear hm0
          go_wp2_with fail
          have hR2 := HR.out; have hB2 := J3.out; have hP2 := HP.out
          have q0 : (((((wr.setCell ⟨R0, 0, none⟩ (.string nq)).setCell ⟨R0, 1, none⟩ (.int .i64 cd.field)).setCell ⟨R0, 2, none⟩ (.int .i64 cd.data)).setCell ⟨R0, 3, none⟩ (.slice Ap cd.parity.length qp)).setCell ⟨R0, 4, none⟩ (.int .i64 cd.domain)).heap[R0]? = some (.cells #[.string nq, .int .i64 cd.field, .int .i64 cd.data, .slice Ap cd.parity.length qp, .int .i64 cd.domain] 24 (0, 0)) := (blk_set (blk_set (blk_set (blk_set (blk_set hR2 0 (.string nq)) 1 (.int .i64 cd.field)) 2 (.int .i64 cd.data)) 3 (.slice Ap cd.parity.length qp)) 4 (.int .i64 cd.domain))
          have q1 : Below w.heap.size w (((((wr.setCell ⟨R0, 0, none⟩ (.string nq)).setCell ⟨R0, 1, none⟩ (.int .i64 cd.field)).setCell ⟨R0, 2, none⟩ (.int .i64 cd.data)).setCell ⟨R0, 3, none⟩ (.slice Ap cd.parity.length qp)).setCell ⟨R0, 4, none⟩ (.int .i64 cd.domain)) := (((((hB2.setCell (p := ⟨R0, 0, none⟩) hR0 _).setCell (p := ⟨R0, 1, none⟩) hR0 _).setCell (p := ⟨R0, 2, none⟩) hR0 _).setCell (p := ⟨R0, 3, none⟩) hR0 _).setCell (p := ⟨R0, 4, none⟩) hR0 _)
          have q2 : ParV w.heap.size cd.parity (((((wr.setCell ⟨R0, 0, none⟩ (.string nq)).setCell ⟨R0, 1, none⟩ (.int .i64 cd.field)).setCell ⟨R0, 2, none⟩ (.int .i64 cd.data)).setCell ⟨R0, 3, none⟩ (.slice Ap cd.parity.length qp)).setCell ⟨R0, 4, none⟩ (.int .i64 cd.domain)) (.slice Ap cd.parity.length qp) := ParV.mono (((((hP2.far (p := ⟨R0, 0, none⟩) (Nat.lt_succ_of_lt hRCl) _).far (p := ⟨R0, 1, none⟩) (Nat.lt_succ_of_lt hRCl) _).far (p := ⟨R0, 2, none⟩) (Nat.lt_succ_of_lt hRCl) _).far (p := ⟨R0, 3, none⟩) (Nat.lt_succ_of_lt hRCl) _).far (p := ⟨R0, 4, none⟩) (Nat.lt_succ_of_lt hRCl) _) (Nat.le_of_lt (Nat.lt_succ_of_lt (Nat.lt_trans hwR hRCl)))
          generalize (((((wr.setCell ⟨R0, 0, none⟩ (.string nq)).setCell ⟨R0, 1, none⟩ (.int .i64 cd.field)).setCell ⟨R0, 2, none⟩ (.int .i64 cd.data)).setCell ⟨R0, 3, none⟩ (.slice Ap cd.parity.length qp)).setCell ⟨R0, 4, none⟩ (.int .i64 cd.domain)) = Z at q0 q1 q2 ⊢
          have e0 := blk_c q0 0; have e1 := blk_c q0 1; have e2 := blk_c q0 2; have e3 := blk_c q0 3; have e4 := blk_c q0 4
          refine bodyPost_ret (v := .tuple #[.agg #[.string nq, .int .i64 cd.field, .int .i64 cd.data, .slice Ap cd.parity.length qp, .int .i64 cd.domain], .int .i64 0, .int .i64 0]) (by simp [results, Tryd.results45, go_sem, e0, e1, e2, e3, e4]) rfl ?_
          unfold BuildPost
          rw [HE.out]
          refine ⟨⟨_, rfl, .slice Ap cd.parity.length qp, ?_, q2⟩, q1⟩
          unfold codeV
          rw [hFM.out, HNQ2.out]
          rfl
  · have hlb : decide ((nq.size : Int) > 12) = true := by rw [decide_eq_true_iff]; omega
    have HE : Hid (RR = .error (s.name.at_, 2)) := Lib.hid (by rw [HRR.out]; unfold Rp.bldS; rw [if_pos (by rw [← HNS.out]; omega)])
    go_enter Tryd.func45, Tryd.ntmps45
    go_wp2_with fail
    change Code.wp _ _ _ _ (((w.alloc (.cells #[.string nq, .int .i64 s.name.at_, .int .i64 s.name.kind, .int .i64 s.name.n, .slice Al s.lines.length ql] 77)).alloc (.cells #[.string ⟨#[]⟩, .int .i64 0, .int .i64 0, .slice none 0 0, .int .i64 0] 24)).alloc (.cells #[.string nq, .int .i64 0, .int .i64 0, .slice none 0 0, .int .i64 0] 24))
    generalize (((w.alloc (.cells #[.string nq, .int .i64 s.name.at_, .int .i64 s.name.kind, .int .i64 s.name.n, .slice Al s.lines.length ql] 77)).alloc (.cells #[.string ⟨#[]⟩, .int .i64 0, .int .i64 0, .slice none 0 0, .int .i64 0] 24)).alloc (.cells #[.string nq, .int .i64 0, .int .i64 0, .slice none 0 0, .int .i64 0] 24)) = V at *
    generalize w.heap.size + 1 + 1 = C at *
    generalize w.heap.size + 1 = R0 at *
    have x1 : V.cell? ⟨w.heap.size, 1, none⟩ = some (.int .i64 s.name.at_) := blk_c HS.out 1
    have z0 := blk_c HR.out 0; have z1 := blk_c HR.out 1; have z2 := blk_c HR.out 2; have z3 := blk_c HR.out 3; have z4 := blk_c HR.out 4
    have f0 := blk_f HR.out 0; have f1 := blk_f HR.out 1; have f2 := blk_f HR.out 2; have f3 := blk_f HR.out 3; have f4 := blk_f HR.out 4
    go_region
    all_goals
      go_wp2_with fail
      have zb : (((((V.setCell ⟨R0, 0, none⟩ (.string ⟨#[]⟩)).setCell ⟨R0, 1, none⟩ (.int .i64 0)).setCell ⟨R0, 2, none⟩ (.int .i64 0)).setCell ⟨R0, 3, none⟩ (.slice none 0 0)).setCell ⟨R0, 4, none⟩ (.int .i64 0)).drew.heap[R0]? = some (.cells #[.string ⟨#[]⟩, .int .i64 0, .int .i64 0, .slice none 0 0, .int .i64 0] 24 (0, 0)) := zero5 HR.out
      have zl : Below w.heap.size w (((((V.setCell ⟨R0, 0, none⟩ (.string ⟨#[]⟩)).setCell ⟨R0, 1, none⟩ (.int .i64 0)).setCell ⟨R0, 2, none⟩ (.int .i64 0)).setCell ⟨R0, 3, none⟩ (.slice none 0 0)).setCell ⟨R0, 4, none⟩ (.int .i64 0)).drew := (below5 HBE.out hR0 _ _ _ _ _).drew
      generalize (((((V.setCell ⟨R0, 0, none⟩ (.string ⟨#[]⟩)).setCell ⟨R0, 1, none⟩ (.int .i64 0)).setCell ⟨R0, 2, none⟩ (.int .i64 0)).setCell ⟨R0, 3, none⟩ (.slice none 0 0)).setCell ⟨R0, 4, none⟩ (.int .i64 0)).drew = Z at zb zl ⊢
      have e0 := blk_c zb 0; have e1 := blk_c zb 1; have e2 := blk_c zb 2; have e3 := blk_c zb 3; have e4 := blk_c zb 4
      refine bodyPost_ret (v := .tuple #[.agg #[.string ⟨#[]⟩, .int .i64 0, .int .i64 0, .slice none 0 0, .int .i64 0], .int .i64 s.name.at_, .int .i64 2]) (by simp [results, Tryd.results45, go_sem, e0, e1, e2, e3, e4]) rfl ?_
      exact BuildPost.err HE.out zl
end Go.Proofs.YtppeplonnippcaaDoor
