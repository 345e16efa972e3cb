/-
Layer 7: Same.
-/
import Derived.Test.YtppeplonnippcaaDoorC0
import Derived.Test.YtppeplonnippcaaDoorA7
set_option linter.unusedVariables false
set_option linter.unusedSimpArgs false
namespace Go.Proofs.YtppeplonnippcaaDoor
open Go.RowKit

/-- a code of the caller's -/
structure CodeIn where
  name : ByteArray
  field : Int
  data : Int
  A : Option Addr
  rows : List (List Int)
  cap : Nat
  dom : Int
def CodeIn.v (c : CodeIn) : Value := .agg #[.string c.name, .int .i64 c.field, .int .i64 c.data, .slice c.A c.rows.length c.cap, .int .i64 c.dom]
structure CodeIn.Ok (w : World) (c : CodeIn) : Prop where
  rows : RowsAt w c.A c.rows
  len : c.rows.length ≤ 4611686018427387904
  each : ∀ x ∈ c.rows, x.length ≤ 4611686018427387904
  name : c.name.size ≤ 4611686018427387904
  cap : c.rows.length ≤ c.cap
theorem CodeIn.Ok.below {w w' : World} {c : CodeIn} (h : c.Ok w) (k : Below w.heap.size w w') : c.Ok w' := ⟨h.rows.below k, h.len, h.each, h.name, h.cap⟩
def sameC (a b : CodeIn) : Bool := decide (a.rows = b.rows) && decide (a.name.data.toList = b.name.data.toList) && decide (a.field = b.field) && decide (a.data = b.data) && decide (a.dom = b.dom)

set_option maxRecDepth 100000 in
set_option maxHeartbeats 2000000 in
theorem Same_any (a b : CodeIn) (w : World) (ha : a.Ok w) (hb : b.Ok w) : Calls Tryd.prog 16 #[a.v, b.v] w fun e w' => e = .returned (.bool (sameC a b)) ∧ Below w.heap.size w w' := by
  obtain ⟨n1, f1, d1, A1, l1, c1, m1⟩ := a
  obtain ⟨n2, f2, d2, A2, l2, c2, m2⟩ := b
  have hbel : ∀ o1 o2, Below w.heap.size w ((w.alloc o1).alloc o2) := fun o1 o2 => ((Below.refl _ _).alloc (Nat.le_refl _) _).alloc (by simp) _
  have CC := Lib.hid (fun o1 o2 => eqf_any A1 A2 c1 c2 l1 l2 ((w.alloc o1).alloc o2) ((ha.below (hbel o1 o2)).rows) ((hb.below (hbel o1 o2)).rows) ha.len hb.len ha.each hb.each)
  have HB := Lib.hid hbel
  clear ha hb hbel
  unfold CodeIn.v
  dsimp only
  go_enter Tryd.func16, Tryd.ntmps16
  go_wp2_with fail
  refine (CC.out (.cells #[.string n1, .int .i64 f1, .int .i64 d1, .slice A1 l1.length c1, .int .i64 m1] 24) (.cells #[.string n2, .int .i64 f2, .int .i64 d2, .slice A2 l2.length c2, .int .i64 m2] 24)).mono ?_
  rintro e w2 ⟨rfl, hk⟩
  have g1 : w2.heap[w.heap.size]? = some (.cells #[.string n1, .int .i64 f1, .int .i64 d1, .slice A1 l1.length c1, .int .i64 m1] 24) := (hk.block _ (by simp; omega)).trans (blk_old (heap_alloc_new w _) _)
  have g2 : w2.heap[w.heap.size + 1]? = some (.cells #[.string n2, .int .i64 f2, .int .i64 d2, .slice A2 l2.length c2, .int .i64 m2] 24) := (hk.block _ (by simp)).trans (by have := heap_alloc_new (w.alloc (.cells #[.string n1, .int .i64 f1, .int .i64 d1, .slice A1 l1.length c1, .int .i64 m1] 24)) (.cells #[.string n2, .int .i64 f2, .int .i64 d2, .slice A2 l2.length c2, .int .i64 m2] 24); simpa using this)
  have HK : Hid (Below w.heap.size w w2) := Lib.hid ((HB.out (.cells #[.string n1, .int .i64 f1, .int .i64 d1, .slice A1 l1.length c1, .int .i64 m1] 24) (.cells #[.string n2, .int .i64 f2, .int .i64 d2, .slice A2 l2.length c2, .int .i64 m2] 24)).trans (hk.mono (by simp; omega)))
  have hL1 := lt_of_block g1; have hL2 := lt_of_block g2
  have a0 : w2.cell? ⟨w.heap.size, 0, none⟩ = some (.string n1) := blk_c g1 0
  have a1 : w2.cell? ⟨w.heap.size, 1, none⟩ = some (.int .i64 f1) := blk_c g1 1
  have a2 : w2.cell? ⟨w.heap.size, 2, none⟩ = some (.int .i64 d1) := blk_c g1 2
  have a4 : w2.cell? ⟨w.heap.size, 4, none⟩ = some (.int .i64 m1) := blk_c g1 4
  have b0 : w2.cell? ⟨w.heap.size + 1, 0, none⟩ = some (.string n2) := blk_c g2 0
  have b1 : w2.cell? ⟨w.heap.size + 1, 1, none⟩ = some (.int .i64 f2) := blk_c g2 1
  have b2 : w2.cell? ⟨w.heap.size + 1, 2, none⟩ = some (.int .i64 d2) := blk_c g2 2
  have b4 : w2.cell? ⟨w.heap.size + 1, 4, none⟩ = some (.int .i64 m2) := blk_c g2 4
  obtain ⟨r, hr⟩ : ∃ r, r = decide (l1 = l2) := ⟨_, rfl⟩
  have HR := Lib.hid hr
  rw [← hr]
  clear hk g1 g2 hr CC HB
  have HF : ∀ x : Bool, x = sameC ⟨n1, f1, d1, A1, l1, c1, m1⟩ ⟨n2, f2, d2, A2, l2, c2, m2⟩ → (Ending.returned (.bool x) = Ending.returned (.bool (sameC ⟨n1, f1, d1, A1, l1, c1, m1⟩ ⟨n2, f2, d2, A2, l2, c2, m2⟩)) ∧ Below w.heap.size w w2) := fun x h => ⟨by rw [h], HK.out⟩
  have HF := Lib.hid HF
  rcases Bool.eq_false_or_eq_true r with h | h
  · subst h
    have R1 : Hid (l1 = l2) := Lib.hid (of_decide_eq_true HR.out.symm)
    by_cases e1 : n1.data.toList = n2.data.toList
    · have e1b : (n1.toList == n2.toList) = true := by rw [beq_iff_eq, Lib.toList_data, Lib.toList_data]; exact e1
      have E1 := Lib.hid e1; clear e1
      by_cases e2 : f1 = f2
      · have e2b : (f1 == f2) = true := by rw [beq_iff_eq]; exact e2
        have E2 := Lib.hid e2; clear e2
        by_cases e3 : d1 = d2
        · have e3b : (d1 == d2) = true := by rw [beq_iff_eq]; exact e3
          have E3 := Lib.hid e3; clear e3
          by_cases e4 : m1 = m2
          · have e4b : (m1 == m2) = true := by rw [beq_iff_eq]; exact e4
            have E4 := Lib.hid e4; clear e4
            go_wp2_with fail
            go_ret
            exact HF.out true (by simp [sameC, R1.out, E1.out, E2.out, E3.out, E4.out])
          · have e4b : (m1 == m2) = false := by rw [beq_eq_false_iff_ne]; exact e4
            have E4 := Lib.hid e4; clear e4
            go_wp2_with fail
            go_ret
            exact HF.out false (by simp [sameC, R1.out, E1.out, E2.out, E3.out, E4.out])
        · have e3b : (d1 == d2) = false := by rw [beq_eq_false_iff_ne]; exact e3
          have E3 := Lib.hid e3; clear e3
          go_wp2_with fail
          go_ret
          exact HF.out false (by simp [sameC, R1.out, E1.out, E2.out, E3.out])
      · have e2b : (f1 == f2) = false := by rw [beq_eq_false_iff_ne]; exact e2
        have E2 := Lib.hid e2; clear e2
        go_wp2_with fail
        go_ret
        exact HF.out false (by simp [sameC, R1.out, E1.out, E2.out])
    · have e1b : (n1.toList == n2.toList) = false := by rw [beq_eq_false_iff_ne, ne_eq, Lib.toList_data, Lib.toList_data]; exact e1
      have E1 := Lib.hid e1; clear e1
      go_wp2_with fail
      go_ret
      exact HF.out false (by simp [sameC, R1.out, E1.out])
  · subst h
    have R1 : Hid (¬ l1 = l2) := Lib.hid (of_decide_eq_false HR.out.symm)
    go_wp2_with fail
    go_ret
    exact HF.out false (by simp [sameC, R1.out])
end Go.Proofs.YtppeplonnippcaaDoor
