/-
Small words of the walks of layer 7: a world that is another one but for one block; the reader's two cells.
-/
import Derived.Test.YtppeplonnippcaaDoorProg
import Derived.Test.YtppeplonnippcaaDoorS
import Derived.WalkKit
import Derived.WalkSpells
import Derived.WalkLawsBesides
import Derived.Deep.QuietTactic
import Derived.Deep.LoopGhost
import Derived.BigQuiet
import Derived.Lib.Hide
import Derived.Lib.Bytealg
import Derived.Lib.LaidTab
import Derived.Lib.ItoaNum
import Derived.KernelRfl
set_option linter.unusedVariables false
set_option linter.unusedSimpArgs false
namespace Go.Proofs.YtppeplonnippcaaDoor
open Go.RowKit

/-- what was there is as it was, but for block r -/
structure Kp (r : Nat) (w w' : World) : Prop where
  os : w'.os = w.os
  tape : w'.tape = w.tape
  output : w'.output = w.output
  size : w.heap.size ≤ w'.heap.size
  block : ∀ k, k < w.heap.size → k ≠ r → w'.heap[k]? = w.heap[k]?

theorem Kp.refl (r : Nat) (w : World) : Kp r w w := ⟨rfl, rfl, rfl, Nat.le_refl _, fun _ _ _ => rfl⟩
theorem Kp.trans {r : Nat} {a b c : World} (h : Kp r a b) (k : Kp r b c) : Kp r a c :=
  ⟨k.os.trans h.os, k.tape.trans h.tape, k.output.trans h.output, Nat.le_trans h.size k.size,
    fun i hi hn => (k.block i (Nat.lt_of_lt_of_le hi h.size) hn).trans (h.block i hi hn)⟩
theorem Kp.drew {r : Nat} {a w : World} (h : Kp r a w) : Kp r a w.drew := ⟨h.os, h.tape, h.output, h.size, h.block⟩
theorem Kp.drewN {r : Nat} {a w : World} (h : Kp r a w) (n : Nat) : Kp r a (w.drewN n) := ⟨h.os, h.tape, h.output, h.size, h.block⟩
theorem Kp.set {r : Nat} {a w : World} (h : Kp r a w) (o : Nat) (sp : Option Nat) (u : Value) : Kp r a (w.setCell ⟨r, o, sp⟩ u) :=
  h.trans ⟨rfl, rfl, rfl, by simp [World.setCell], fun k hk hn => Below.heap_setCell _ _ _ _ hn⟩
theorem Kp.alloc {r : Nat} {a w : World} (h : Kp r a w) (o : Obj) : Kp r a (w.alloc o) :=
  h.trans ⟨rfl, rfl, rfl, by simp, fun k hk _ => Below.heap_alloc _ _ _ hk⟩
theorem Kp.setNew {r : Nat} {a w : World} (h : Kp r a w) {p : Addr} (hp : a.heap.size ≤ p.block) (u : Value) : Kp r a (w.setCell p u) :=
  ⟨h.os, h.tape, h.output, by simpa [World.setCell] using h.size, fun k hk hn => (Below.heap_setCell _ _ _ _ (by omega)).trans (h.block k hk hn)⟩
theorem Kp.below {r : Nat} {a w w' : World} (h : Kp r a w) (k : Below w.heap.size w w') : Kp r a w' :=
  ⟨k.os.trans h.os, k.tape.trans h.tape, k.output.trans h.output, Nat.le_trans h.size k.size,
    fun i hi hn => (k.block i (Nat.lt_of_lt_of_le hi h.size)).trans (h.block i hi hn)⟩
theorem Kp.cell {r : Nat} {w w' : World} (h : Kp r w w') {p : Addr} {v : Value} (hc : w.cell? p = some v) (hp : p.block ≠ r) : w'.cell? p = some v :=
  (World.cell?_of_block (w := w) (h.block p.block (World.block_lt_of_cell? w p hc) hp)).trans hc

/-- a contract met in a region behind another one that drew -/
theorem quiet2 {P : Program} {f : FuncId} {args : Array Value} {w : World} {a n : Nat} {v : Value}
    (h : Calls P f args (w.drewN (a + n)) fun e w' => e = .returned v ∧ w' = w.drewN (a + n)) : Calls P f args (w.drewN (a + n)) fun e w'' => e = .returned v ∧ ∃ m, w'' = w.drewN (a + m) :=
  h.mono fun _ _ ⟨he, hm⟩ => ⟨he, n, hm⟩

/-- the package-level variables lie in the blocks below this number -/
def NG : Nat := 7
theorem ng_es : Tryd.prog.globalNamed "strconv.ErrSyntax" = some 5 := by kernel_rfl
theorem ng_tab : Tryd.prog.globalNamed "internal/strconv.uint64pow10" = some 2 := by kernel_rfl

/-- what the library reads of the package-level variables -/
structure Env (w : World) : Prop where
  es : ∃ tp p, w.var? Tryd.prog "strconv.ErrSyntax" = some #[.iface tp p]
  tab : Lib.TabIs Tryd.prog w "internal/strconv.uint64pow10" .u64 Lib.pow10Tab
  size : NG ≤ w.heap.size

theorem Env.of_blocks {w w' : World} (h : Env w) (hs : NG ≤ w'.heap.size) (hb : ∀ k, k < NG → w'.heap[k]? = w.heap[k]?) : Env w' := by
  refine ⟨?_, ?_, hs⟩
  · obtain ⟨tp, p, h1⟩ := h.es
    refine ⟨tp, p, ?_⟩
    unfold World.var? at h1 ⊢
    simp only [ng_es, Option.bind_some] at h1 ⊢
    rw [hb 5 (by unfold NG; omega)]; exact h1
  · have h1 := h.tab
    unfold Lib.TabIs World.var? at h1 ⊢
    simp only [ng_tab, Option.bind_some] at h1 ⊢
    rw [hb 2 (by unfold NG; omega)]; exact h1

theorem Env.kp {w w' : World} {r : Nat} (h : Env w) (hr : NG ≤ r) (k : Kp r w w') : Env w' :=
  h.of_blocks (Nat.le_trans h.size k.size) fun i hi => k.block i (Nat.lt_of_lt_of_le hi h.size) (by omega)
theorem Env.below {w w' : World} (h : Env w) (k : Below w.heap.size w w') : Env w' :=
  h.of_blocks (Nat.le_trans h.size k.size) fun i hi => k.block i (Nat.lt_of_lt_of_le hi h.size)
theorem Env.alloc {w : World} (h : Env w) (o : Obj) : Env (w.alloc o) := h.below ((Below.refl _ _).alloc (Nat.le_refl _) _)
theorem Env.drewN {w : World} (h : Env w) (n : Nat) : Env (w.drewN n) := h.of_blocks h.size fun _ _ => rfl
theorem Env.drew {w : World} (h : Env w) : Env w.drew := h.of_blocks h.size fun _ _ => rfl

/-- the reader's cells -/
structure Rd (w : World) (r : Nat) (s : ByteArray) (i : Nat) : Prop where
  blk : w.heap[r]? = some (.cells #[.string s, .int .i64 i] 88 (0, 0))
  ng : NG ≤ r

theorem Rd.c0 {w : World} {r i : Nat} {s : ByteArray} (h : Rd w r s i) : w.cell? ⟨r, 0, none⟩ = some (.string s) := by simp [World.cell?, h.blk]
theorem Rd.c1 {w : World} {r i : Nat} {s : ByteArray} (h : Rd w r s i) : w.cell? ⟨r, 1, none⟩ = some (.int .i64 i) := by simp [World.cell?, h.blk]
theorem Rd.f1 {w : World} {r i : Nat} {s : ByteArray} (h : Rd w r s i) : w.frozen? ⟨r, 1, none⟩ = false := by simp [World.frozen?, h.blk]
theorem Rd.lt {w : World} {r i : Nat} {s : ByteArray} (h : Rd w r s i) : r < w.heap.size := lt_of_block h.blk
theorem Rd.drew {w : World} {r i : Nat} {s : ByteArray} (h : Rd w r s i) : Rd w.drew r s i := ⟨h.blk, h.ng⟩
theorem Rd.drewN {w : World} {r i : Nat} {s : ByteArray} (h : Rd w r s i) (n : Nat) : Rd (w.drewN n) r s i := ⟨h.blk, h.ng⟩
theorem Rd.alloc {w : World} {r i : Nat} {s : ByteArray} (h : Rd w r s i) (o : Obj) : Rd (w.alloc o) r s i := ⟨(Below.heap_alloc _ _ _ h.lt).trans h.blk, h.ng⟩
theorem Rd.below {w w' : World} {r i : Nat} {s : ByteArray} (h : Rd w r s i) (k : Below w.heap.size w w') : Rd w' r s i := ⟨(k.block r h.lt).trans h.blk, h.ng⟩
theorem Rd.set {w : World} {r i : Nat} {s : ByteArray} (h : Rd w r s i) (j : Nat) (n : Int) (hn : n = j) : Rd (w.setCell ⟨r, 1, none⟩ (.int .i64 n)) r s j := by
  subst hn
  refine ⟨?_, h.ng⟩
  have hb := h.blk
  simp [World.setCell, Array.getElem?_modify, hb]
theorem Rd.setNew {w : World} {r i : Nat} {s : ByteArray} (h : Rd w r s i) {p : Addr} (hp : r ≠ p.block) (u : Value) : Rd (w.setCell p u) r s i :=
  ⟨(Below.heap_setCell _ _ _ _ hp).trans h.blk, h.ng⟩

/-- what is left of a text from an offset on -/
def rst (s : ByteArray) (i : Nat) : List UInt8 := s.data.toList.drop i

theorem rst_len (s : ByteArray) (i : Nat) : (rst s i).length = s.size - i := by
  unfold rst; rw [List.length_drop]; rfl
theorem rst_cons (s : ByteArray) (i : Nat) (h : i < s.size) : rst s i = s[i] :: rst s (i + 1) := by
  unfold rst
  rw [List.drop_eq_getElem_cons (by simpa using h)]
  rfl
theorem rst_drop (s : ByteArray) (i k : Nat) : (rst s i).drop k = rst s (i + k) := by
  unfold rst; rw [List.drop_drop]
theorem rst_nil (s : ByteArray) (i : Nat) (h : s.size ≤ i) : rst s i = [] := by
  apply List.eq_nil_of_length_eq_zero
  rw [rst_len]; omega
theorem ext_rst (s : ByteArray) (a b : Nat) : s.extract a b = ⟨((rst s a).take (b - a)).toArray⟩ := by
  apply ByteArray.ext
  apply Array.toList_inj.1
  rw [Lib.extract_data]
  simp [rst, List.take_drop]
theorem ext_list (s : ByteArray) (a b : Nat) : (s.extract a b).data.toList = (rst s a).take (b - a) := by
  rw [ext_rst]

end Go.Proofs.YtppeplonnippcaaDoor
