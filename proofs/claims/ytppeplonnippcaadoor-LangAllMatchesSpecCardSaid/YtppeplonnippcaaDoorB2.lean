/-
Layer 7: guard: a panic of the parser becomes its result.
-/
import Derived.Test.YtppeplonnippcaaDoorB0
import Derived.Defers
import Derived.Recover
set_option linter.unusedVariables false
set_option linter.unusedSimpArgs false
namespace Go.Proofs.YtppeplonnippcaaDoor
open Go.RowKit

theorem as69 (v : Value) (w : World) : (Instr.typeAssert (.iface 69 v) 20 69 true).run Tryd.prog w = .ok (.tuple #[v, .bool true]) w := by kernel_rfl
theorem asNil (w : World) : (Instr.typeAssert .nilIface 20 69 true).run Tryd.prog w = .ok (.tuple #[.agg #[.int .i64 0, .int .i64 0], .bool false]) w := by kernel_rfl
theorem nilNil (w : World) : (binOp BinOp.neq 20 .nilIface .nilIface).run Tryd.prog w = .ok (.bool false) w := by kernel_rfl
attribute [local go_sem] as69 asNil nilNil

set_option maxRecDepth 100000 in
theorem g1_idle (p : Addr) (w : World) :
    CallsD Tryd.prog 74 #[.pointer (some p)] .returning w fun e u' w' => e = .returned (.tuple #[]) ∧ u' = .returning ∧ (∃ o, w' = w.alloc o) := by
  refine callsD_of_wpS Tryd.func74 rfl fun c₀ cs hu => ?_
  apply wpS_seq
  apply wpS_region
  simp [wpOpsS, go_sem, recoverD, hu, Tryd.ntmps74, Exit.thenS]
  change Code.wpS _ _ _ { tmps := #[.pointer (some p), .nilIface, undef, undef, .nilIface, undef, undef, undef, undef, undef, undef, undef, undef, undef, undef], defers := [] } _ _
  refine wpS_of_wp ?_
  go_wp2
  cases c₀
  simp_all [bodyPostS, results, Tryd.results74]
  exact ⟨_, rfl⟩

set_option maxRecDepth 100000 in
theorem g1_panic (b : Nat) (at_ er a0 e0 : Int) (older : List PanicEntry) (w : World) (hc : w.heap[b]? = some (.cells #[.int .i64 a0, .int .i64 e0] 69 (0, 0))) :
    CallsD Tryd.prog 74 #[.pointer (some ⟨b, 0, none⟩)] (.panicking ({ v := .iface 69 (.agg #[.int .i64 at_, .int .i64 er]), recovered := false } :: older)) w fun e u' w' =>
      e = .returned (.tuple #[]) ∧ u' = .panicking ({ v := .iface 69 (.agg #[.int .i64 at_, .int .i64 er]), recovered := true } :: older) ∧ Kp b w w' ∧ w'.heap[b]? = some (.cells #[.int .i64 at_, .int .i64 er] 69 (0, 0)) := by
  refine callsD_of_wpS Tryd.func74 rfl fun c₀ cs hu => ?_
  apply wpS_seq
  apply wpS_region
  simp [wpOpsS, go_sem, recoverD, hu, Tryd.ntmps74, Exit.thenS]
  change Code.wpS _ _ _ { tmps := #[.pointer (some ⟨b, 0, none⟩), .iface 69 (.agg #[.int .i64 at_, .int .i64 er]), undef, undef, .iface 69 (.agg #[.int .i64 at_, .int .i64 er]), undef, undef, undef, undef, undef, undef, undef, undef, undef, undef], defers := [] } _ _
  have hcc : w.cell? ⟨b, 0, none⟩ = some (.int .i64 a0) := blk_c hc 0
  have hff : w.frozen? ⟨b, 0, none⟩ = false := blk_f hc 0
  have hcd : w.cell? ⟨b, 1, none⟩ = some (.int .i64 e0) := blk_c hc 1
  have hfd : w.frozen? ⟨b, 1, none⟩ = false := blk_f hc 1
  have hbl := lt_of_block hc
  have hbn : ¬ w.heap.size = b := by omega
  refine wpS_of_wp ?_
  go_wp2
  simp [bodyPostS, results, Tryd.results74]
  exact ⟨(((Kp.refl _ _).set _ _ _).set _ _ _).alloc _, blk_old (blk_set (blk_set hc 0 _) 1 _) _⟩

def z69 : Obj := .cells #[.int .i64 0, .int .i64 0] 69
/-- what a guarded function may do: it ends, or it panics as the parser does; the result's block is as it was -/
def Guarded (b : Nat) (Ok : World → Prop) (Bad : Nat → Nat → World → Prop) (e : Ending) (w' : World) : Prop :=
  ((e = .returned (.tuple #[]) ∧ Ok w') ∨ ∃ p er, e = Wrong p er ∧ Bad p er w') ∧ w'.heap[b]? = some z69
def GuardPost (b : Nat) (Ok : World → Prop) (Bad : Nat → Nat → World → Prop) (e : Ending) (w' : World) : Prop :=
  (e = .returned (.agg #[.int .i64 0, .int .i64 0]) ∧ ∃ W, Ok W ∧ Kp b W w') ∨ ∃ (p er : Nat), e = .returned (.agg #[.int .i64 p, .int .i64 er]) ∧ ∃ W, Bad p er W ∧ Kp b W w'

set_option maxRecDepth 100000 in
theorem guard_any (p1 p2 p3 p4 : Addr) (w : World) (Ok : World → Prop) (Bad : Nat → Nat → World → Prop)
    (h : Calls Tryd.prog 56 #[.pointer (some p1), .pointer (some p2), .pointer (some p3), .pointer (some p4)] (w.alloc z69) (Guarded w.heap.size Ok Bad)) :
    Calls Tryd.prog 55 #[.func (.func 56) #[] #[.pointer (some p1), .pointer (some p2), .pointer (some p3), .pointer (some p4)]] w (GuardPost w.heap.size Ok Bad) := by
  have hmf : ∀ (fn : Fn) (first cap : Array Value) (w : World), (Instr.makeFunc fn first cap).run Tryd.prog w = .ok (.func fn first cap) w := fun _ _ _ _ => rfl
  have H := Lib.hid h
  clear h
  go_enter_defers Tryd.func55, Tryd.ntmps55
  go_wp2_with fail
  refine H.out.mono ?_
  rintro e w1 ⟨hh, hz⟩
  have c0 : w1.cell? ⟨w.heap.size, 0, none⟩ = some (.int .i64 0) := blk_c hz 0
  have c1 : w1.cell? ⟨w.heap.size, 1, none⟩ = some (.int .i64 0) := blk_c hz 1
  have f0 : w1.frozen? ⟨w.heap.size, 0, none⟩ = false := blk_f hz 0
  have f1 : w1.frozen? ⟨w.heap.size, 1, none⟩ = false := blk_f hz 1
  have hbl := lt_of_block hz
  have HZ := Lib.hid hz; clear hz
  generalize w.heap.size = B at *
  have hbn : ¬ w1.heap.size = B := by omega
  rcases hh with ⟨rfl, ho⟩ | ⟨p, er, rfl, hb⟩
  · have HO := Lib.hid ho; clear ho
    go_wp2_with fail
    refine leaves_cons (f := 74) (args := #[.pointer (some ⟨B, 0, none⟩)]) (by simp) (by simp [go_sem]) ?_
    refine (g1_idle ⟨B, 0, none⟩ _).mono ?_
    rintro e u' w'' ⟨rfl, rfl, o, rfl⟩
    have hb : ((((w1.setCell ⟨B, 0, none⟩ (.int .i64 0)).setCell ⟨B, 1, none⟩ (.int .i64 0)).alloc o).heap[B]? = some (.cells #[.int .i64 0, .int .i64 0] 69 (0, 0))) := blk_old (blk_set (blk_set HZ.out 0 _) 1 _) o
    have hk : Kp B w1 (((w1.setCell ⟨B, 0, none⟩ (.int .i64 0)).setCell ⟨B, 1, none⟩ (.int .i64 0)).alloc o) := (((Kp.refl _ _).set _ _ _).set _ _ _).alloc _
    generalize (((w1.setCell ⟨B, 0, none⟩ (.int .i64 0)).setCell ⟨B, 1, none⟩ (.int .i64 0)).alloc o) = w2 at *
    have d0 : w2.cell? ⟨B, 0, none⟩ = some (.int .i64 0) := blk_c hb 0
    have d1 : w2.cell? ⟨B, 1, none⟩ = some (.int .i64 0) := blk_c hb 1
    simp [Leaves, settle, results, Tryd.results55, go_sem, d0, d1]
    exact .inl ⟨rfl, w1, HO.out, hk⟩
  · have HO := Lib.hid hb; clear hb
    unfold Wrong
    simp only [bodyPostD]
    refine leaves_cons (f := 74) (args := #[.pointer (some ⟨B, 0, none⟩)]) (by simp) (by simp [go_sem]) ?_
    refine (g1_panic B p er 0 0 [] _ HZ.out).mono ?_
    rintro e u' w'' ⟨rfl, rfl, hk, hb⟩
    have d0 : w''.cell? ⟨B, 0, none⟩ = some (.int .i64 p) := blk_c hb 0
    have d1 : w''.cell? ⟨B, 1, none⟩ = some (.int .i64 er) := blk_c hb 1
    simp [Leaves, settle, results, Tryd.results55, go_sem, d0, d1]
    exact .inr ⟨p, er, rfl, w1, HO.out, hk⟩
end Go.Proofs.YtppeplonnippcaaDoor
