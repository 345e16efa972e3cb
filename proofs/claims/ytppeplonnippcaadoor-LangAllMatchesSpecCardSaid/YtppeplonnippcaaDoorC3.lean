/-
Layer 7: strings.Builder, with two builders side by side: WriteString and String leave all blocks but the builder's own.
-/
import Derived.Test.YtppeplonnippcaaDoorC2
import Derived.Test.YtppeplonnippcaaDoorB6
set_option linter.unusedVariables false
set_option linter.unusedSimpArgs false
namespace Go.Proofs.YtppeplonnippcaaDoor
open Go.RowKit

theorem str_lies {P : Program} (w : World) (base : Nat) (t u ty e : TypeId) (i : TypeInfo) (ht : P.underlying t = some (.slice e)) (hu : P.underlying u = some .string) (hi : P.info? e = some i) (hz : i.zero = some (.int .u8 0))
    (hsize : i.size = 1) (hby : i.bytes = 1) (v : Value) (n : Nat) (xs : List Value) (hown : w.ownsRow base e 1 v n xs) (s : ByteArray) (h63 : n + s.size ≤ maxLen) (hbytes : n + s.size ≤ 140737488355328)
    (h0 : 0 < s.size) {v' : Value} {w' : World} (hr : (Builtin.append_ #[t, u] ty #[v, .string s]).run P w = .ok v' w') : v'.ownBlock = v.ownBlock ∨ v'.ownBlock = some w.heap.size := by
  have hsmall : n + s.size ≤ 9223372036854775807 := by simp only [maxLen] at h63; omega
  rcases hown.2 with ⟨rfl, rfl⟩ | ⟨g, cap, cur, rfl, hbg, hg, hnc, hcm, hcs, htake⟩
  · have h1 := run_append_nil_string (P := P) w t u ty e i (.int .u8 0) ht hu hi hz s h0 (by omega) (by rw [hby]; omega)
    rw [h1] at hr
    injection hr with a b
    right; rw [← a]; rfl
  · by_cases hroom : n + s.size ≤ cap
    · have h1 := Lib.run_append_room_string (P := P) w t u ty e i ht hu hi hsize g n cap cur hg s hroom (by omega)
      rw [h1] at hr
      injection hr with a b
      left; rw [← a]; rfl
    · have holds : ∀ j u, xs[j]? = some u → w.cell? ((⟨g, 0, none⟩ : Addr).add j) = some u := hown.cells (g := g) rfl
      have h1 := Lib.run_append_grow_string (P := P) w t u ty e i (.int .u8 0) ht hu hi hz ⟨g, 0, none⟩ n cap xs (by rw [hsize]; simpa using hown.1) holds s (by omega) (by omega) (by rw [hby]; exact growslice_fits (by omega) (by omega))
      rw [h1] at hr
      injection hr with a b
      right; rw [← a]; rfl

/-- the operation, for the walk: and where the new row lies -/
theorem wpList_append_str {P : Program} {w : World} {ops : Array Oper} {rest : List Oper} {o : Oper} {a : Act} {Q : Exit → Act → World → Prop} (hgd : o.guard = none) (sl x : Operand) (t u : TypeId)
    (ho : o.op = .call { callee := .builtin .append, args := #[sl, x], argTypes := #[t, u] })
    (base : Nat) (e : TypeId) (i : TypeInfo) (ht : P.underlying t = some (.slice e)) (hu : P.underlying u = some .string) (hi : P.info? e = some i) (hz : i.zero = some (.int .u8 0))
    (hsize : i.size = 1) (hby : i.bytes = 1)
    (v : Value) (n : Nat) (xs : List Value) (hs : a.eval sl = v) (hown : w.ownsRow base e 1 v n xs) (s : ByteArray) (hx : a.eval x = .string s) (h0 : 0 < s.size)
    (h63 : n + s.size ≤ maxLen) (hbytes : n + s.size ≤ 140737488355328) (hbase : base ≤ w.heap.size)
    (h : ∀ v' w', w'.ownsRow base e 1 v' (n + s.size) (xs ++ Lib.strCells s) → w.grownBy w' v.ownBlock → (v'.ownBlock = v.ownBlock ∨ v'.ownBlock = some w.heap.size) → wpList P ops Q rest (a.put o.dst v') w') : wpList P ops Q (o :: rest) a w := by
  refine wpList_plain hgd fun K hK => ?_
  obtain ⟨v', w', hr, h2, h3, h4⟩ := Lib.run_append_own_string (P := P) w base t u o.type e i ht hu hi hz hsize hby v n xs hown s h63 hbytes hbase
  have h5 := str_lies w base t u o.type e i ht hu hi hz hsize hby v n xs hown s h63 hbytes h0 hr
  unfold Oper.wp execOp
  simp only [ho, resolve, invoke, builtin, Sem.run_bind, Sem.run_pure, Result.andThen_ok, List.map_toArray, List.map_cons, List.map_nil, hs, hx, hr]
  exact hK _ _ (h v' w' h2 h3 h5)

/-- a builder of the call's own: block b, its buffer v, its bytes l -/
structure Bld (B b : Nat) (v : Value) (l : List UInt8) (w : World) : Prop where
  lo : B ≤ b
  blk : w.heap[b]? = some (.cells #[.pointer none, v] 42 (0, 0)) ∨ w.heap[b]? = some (.cells #[.pointer (some ⟨b, 0, none⟩), v] 42 (0, 0))
  own : w.ownsRow B 5 1 v l.length (Lib.byteCells l)
  nil : l = [] → v = .slice none 0 0
/-- what a builder's method leaves: all but the builder's block and its row -/
structure Fr (b : Nat) (v : Value) (w w' : World) : Prop where
  os : w'.os = w.os
  tape : w'.tape = w.tape
  output : w'.output = w.output
  size : w.heap.size ≤ w'.heap.size
  block : ∀ k, k < w.heap.size → k ≠ b → v.ownBlock ≠ some k → w'.heap[k]? = w.heap[k]?

theorem Bld.ne {B b : Nat} {v : Value} {l : List UInt8} {w : World} (h : Bld B b v l w) : v.ownBlock ≠ some b := by
  rcases h.blk with h1 | h1 <;> exact Lib.ownBlock_ne h.own h1 (by decide)
theorem Bld.lt {B b : Nat} {v : Value} {l : List UInt8} {w : World} (h : Bld B b v l w) : b < w.heap.size := by
  rcases h.blk with h1 | h1 <;> exact lt_of_block h1
theorem Bld.row {B b : Nat} {v : Value} {l : List UInt8} {w : World} (h : Bld B b v l w) {g : Nat} (hg : v.ownBlock = some g) : B ≤ g ∧ g < w.heap.size := by
  rcases h.own.2 with ⟨rfl, _⟩ | ⟨g', cap, cur, rfl, hbg, hg', _⟩
  · simp [Value.ownBlock] at hg
  · simp only [Value.ownBlock, Option.some.injEq] at hg
    subst hg
    exact ⟨hbg, lt_of_block hg'⟩
theorem Bld.keep {B b : Nat} {v : Value} {l : List UInt8} {w w' : World} (h : Bld B b v l w) (hb : w'.heap[b]? = w.heap[b]?) (ho : w'.ownsRow B 5 1 v l.length (Lib.byteCells l)) : Bld B b v l w' :=
  ⟨h.lo, by rw [hb]; exact h.blk, ho, h.nil⟩
theorem Bld.below {B b : Nat} {v : Value} {l : List UInt8} {w w' : World} (h : Bld B b v l w) (k : Below w.heap.size w w') : Bld B b v l w' :=
  h.keep (k.block b h.lt) (own_below h.own k)
/-- another builder's method -/
theorem Bld.other {B b c : Nat} {v u : Value} {l m : List UInt8} {w w' : World} (h : Bld B b v l w) (hc : Bld B c u m w) (hf : Fr c u w w') (hbc : b ≠ c) (hr : v.ownBlock = none ∨ v.ownBlock ≠ u.ownBlock) : Bld B b v l w' := by
  have hub : u.ownBlock ≠ some b := by
    rcases h.blk with h1 | h1 <;> exact Lib.ownBlock_ne hc.own h1 (by decide)
  have hvc : v.ownBlock ≠ some c := by
    rcases hc.blk with h1 | h1 <;> exact Lib.ownBlock_ne h.own h1 (by decide)
  refine h.keep (hf.block b h.lt hbc hub) ?_
  rcases h.own with ⟨hl, ⟨hv, h0⟩ | ⟨g, cap, cur, hv, hbg, hg, r⟩⟩
  · exact ⟨hl, .inl ⟨hv, h0⟩⟩
  · subst hv
    refine ⟨hl, .inr ⟨g, cap, cur, rfl, hbg, ?_, r⟩⟩
    have hgu : u.ownBlock ≠ some g := by
      rcases hr with hr | hr
      · simp [Value.ownBlock] at hr
      · intro e; exact hr (by rw [e]; rfl)
    exact (hf.block g (lt_of_block hg) (fun e => hvc (by subst e; rfl)) hgu).trans hg
theorem Fr.below {b B : Nat} {v : Value} {l : List UInt8} {w w' : World} (h : Fr b v w w') (hb : Bld B b v l w) : Below B w w' :=
  ⟨h.os, h.tape, h.output, h.size, fun k hk => by
    rcases Nat.lt_or_ge k w.heap.size with h1 | h1
    · exact h.block k h1 (by have := hb.lo; omega) (fun e => by have := (hb.row e).1; omega)
    · have := hb.lo; have := hb.lt; omega⟩

theorem byteCells_str (s : ByteArray) : Lib.byteCells s.data.toList = Lib.strCells s := rfl
theorem info5 : (Tryd.prog.info? 5).map (fun i => (i.zero, i.size, i.bytes)) = some (some (.int .u8 0), 1, 1) := by kernel_rfl
theorem liesB : liesAt Tryd.prog Tryd.prog.depth 42 (2 / Tryd.prog.cellsOf 42) 0 42 1 = true := by kernel_rfl
theorem info42 : (Tryd.prog.info? 42).map (fun i => i.size) = some 2 := by kernel_rfl

set_option maxHeartbeats 1000000 in
set_option maxRecDepth 100000 in
theorem copy_used (b : Nat) (w : World) (h0 : w.cell? ⟨b, 0, none⟩ = some (.pointer (some ⟨b, 0, none⟩))) :
    Calls Tryd.prog 47 #[.pointer (some ⟨b, 0, none⟩)] w fun e w' => e = .returned (.tuple #[]) ∧ w = w' := by
  obtain ⟨j, hj, _⟩ := Option.map_eq_some_iff.1 info42
  go_enter Tryd.func47, Tryd.ntmps47
  go_wp2_with fail
  rw [Lib.run_neq_ptr_same w _ Tryd.underlying40 hj]
  go_wp2_with fail
  go_end0
  exact ⟨rfl, rfl⟩
set_option maxHeartbeats 1000000 in
set_option maxRecDepth 100000 in
theorem copy_fresh (b : Nat) (w : World) (h0 : w.cell? ⟨b, 0, none⟩ = some (.pointer none)) (hsh : w.shape? b = some (42, 2)) (hfz : w.frozen? ⟨b, 0, none⟩ = false) :
    Calls Tryd.prog 47 #[.pointer (some ⟨b, 0, none⟩)] w fun e w' => e = .returned (.tuple #[]) ∧ w.setCell ⟨b, 0, none⟩ (.pointer (some ⟨b, 0, none⟩)) = w' := by
  obtain ⟨j, hj, hjs⟩ := Option.map_eq_some_iff.1 info42
  go_enter Tryd.func47, Tryd.ntmps47
  go_wp2_with fail
  rw [Lib.run_to_unsafe w ⟨b, 0, none⟩ Tryd.underlying40 Tryd.underlying107 hj (by rw [hjs]; decide) hsh (Nat.zero_lt_succ 1)]
  simp only [Result.andThen]
  rw [Oper.upon_value]
  go_wp2_with fail
  rw [run_callFunc_extern Tryd.func70 (by kernel_rfl) (by kernel_rfl) (by kernel_rfl) (e := Extern.AbiNoEscape.same) (by kernel_rfl)]
  rw [Lib.run_noEscape]
  simp only [Result.andThen]
  rw [Oper.upon_value]
  go_wp2_with fail
  rw [Lib.run_from_unsafe w ⟨b, 0, none⟩ Tryd.underlying107 Tryd.underlying40 hj hsh liesB]
  simp only [Result.andThen]
  rw [Oper.upon_value]
  go_wp2_with fail
  go_end0
  exact ⟨rfl, rfl⟩

theorem copy_any {B b : Nat} {v : Value} {l : List UInt8} (w : World) (h : Bld B b v l w) :
    Calls Tryd.prog 47 #[.pointer (some ⟨b, 0, none⟩)] w fun e w' => e = .returned (.tuple #[]) ∧ w'.heap[b]? = some (.cells #[.pointer (some ⟨b, 0, none⟩), v] 42 (0, 0)) ∧ Bld B b v l w' ∧ Fr b v w w' := by
  rcases h.blk with h1 | h1
  · have hsh : w.shape? b = some (42, 2) := by simp [World.shape?, h1]
    refine (copy_fresh b w (blk_c h1 0) hsh (blk_f h1 0)).mono ?_
    rintro e w' ⟨rfl, rfl⟩
    have h2 : (w.setCell ⟨b, 0, none⟩ (.pointer (some ⟨b, 0, none⟩))).heap[b]? = some (.cells #[.pointer (some ⟨b, 0, none⟩), v] 42 (0, 0)) := blk_set h1 0 _
    exact ⟨rfl, h2, ⟨h.lo, .inr h2, h.own.kept (row := some b) (grown_setCell w ⟨b, 0, none⟩ _) (.inr h.ne), h.nil⟩,
      ⟨rfl, rfl, rfl, by simp [World.setCell], fun k _ hk _ => Below.heap_setCell _ _ _ _ hk⟩⟩
  · refine (copy_used b w (blk_c h1 0)).mono ?_
    rintro e w' ⟨rfl, rfl⟩
    exact ⟨rfl, h1, h, ⟨rfl, rfl, rfl, Nat.le_refl _, fun _ _ _ _ => rfl⟩⟩

def WrPost (B b : Nat) (v : Value) (l : List UInt8) (s : ByteArray) (w : World) (e : Ending) (w' : World) : Prop :=
  e = .returned (.tuple #[.int .i64 s.size, .nilIface]) ∧ ∃ v', Bld B b v' (l ++ s.data.toList) w' ∧ Fr b v w w' ∧ (v'.ownBlock = v.ownBlock ∨ ∃ g, v'.ownBlock = some g ∧ w.heap.size ≤ g)

set_option maxHeartbeats 2000000 in
set_option maxRecDepth 100000 in
theorem write_any (B b : Nat) (v : Value) (l : List UInt8) (s : ByteArray) (w : World) (h : Bld B b v l w) (h0 : 0 < s.size) (hlen : l.length + s.size ≤ 140737488355328) (hBw : B ≤ w.heap.size) :
    Calls Tryd.prog 24 #[.pointer (some ⟨b, 0, none⟩), .string s] w (WrPost B b v l s w) := by
  obtain ⟨i0, hi, hz0, hz1, hz2⟩ := info_parts info5
  have C := Lib.hid (copy_any w h)
  have HV := Lib.hid h.ne
  have HB := Lib.hid h
  clear h
  go_enter Tryd.func24, Tryd.ntmps24
  go_wp2_with fail
  refine C.out.mono ?_
  rintro e w1 ⟨rfl, hbk, hb1, hfr⟩
  have HF := Lib.hid hfr
  have hown := hb1.own
  have H1 := Lib.hid hb1
  have hsz := hfr.size
  have hlt : b < w1.heap.size := lt_of_block hbk
  have c0 : w1.cell? ⟨b, 0, none⟩ = some (.pointer (some ⟨b, 0, none⟩)) := blk_c hbk 0
  have c1 : w1.cell? ⟨b, 1, none⟩ = some v := blk_c hbk 1
  have HK := Lib.hid hbk
  clear hfr hb1 hbk
  go_wp2_with (at_builtin; refine wpList_append_str rfl _ _ 39 9 rfl B 5 i0 Tryd.underlying39 Tryd.underlying9 hi hz0 hz1 hz2 _ _ _ rfl hown s rfl h0 ?c3 ?c4 ?c5 ?_)
  case c3 => unfold maxLen; omega
  case c4 => omega
  case c5 => omega
  intro v' w2 hown' hgrow hlies
  have hb2 : w2.heap[b]? = some (.cells #[.pointer (some ⟨b, 0, none⟩), v] 42 (0, 0)) := by
    rw [hgrow.block b hlt (fun e => HV.out e.symm)]
    exact HK.out
  have d0 : w2.cell? ⟨b, 0, none⟩ = some (.pointer (some ⟨b, 0, none⟩)) := blk_c hb2 0
  have d1 : w2.cell? ⟨b, 1, none⟩ = some v := blk_c hb2 1
  have f1 : w2.frozen? ⟨b, 1, none⟩ = false := blk_f hb2 1
  obtain ⟨ao, n', cap, rfl⟩ : ∃ ao n' cap, v' = .slice ao n' cap := by
    rcases hown'.2 with ⟨hv, _⟩ | ⟨g, cap, cur, hv, _⟩
    · exact ⟨_, _, _, hv⟩
    · exact ⟨_, _, _, hv⟩
  have HG := Lib.hid hgrow; have HO := Lib.hid hown'; have HL := Lib.hid hlies; have H2 := Lib.hid hb2
  clear hgrow hown' hlies hb2 hown
  go_wp2_with fail
  go_ret2
  have hsl : s.data.toList.length = s.size := rfl
  have hne : (Value.slice ao n' cap).ownBlock ≠ some b := Lib.ownBlock_ne HO.out H2.out (by decide)
  refine ⟨rfl, .slice ao n' cap, ⟨HB.out.lo, .inr (blk_set H2.out 1 _), ?_, fun e => ?_⟩, ?_, ?_⟩
  · have := HO.out
    rw [List.length_append, hsl, show Lib.byteCells (l ++ s.data.toList) = Lib.byteCells l ++ Lib.strCells s from by unfold Lib.byteCells; rw [List.map_append]; rfl]
    exact this.kept (row := some b) (grown_setCell w2 ⟨b, 1, none⟩ _) (.inr hne)
  · have := congrArg List.length e
    simp only [List.length_append, List.length_nil] at this; omega
  · have hf := HF.out
    exact ⟨HG.out.os.trans hf.os, HG.out.tape.trans hf.tape, HG.out.output.trans hf.output, by have := HG.out.size; simp [World.setCell]; omega,
      fun k hk hn hv => (Below.heap_setCell _ _ _ _ hn).trans ((HG.out.block k (by omega) (fun e => hv e.symm)).trans (hf.block k hk hn hv))⟩
  · rcases HL.out with h | h
    · exact .inl h
    · exact .inr ⟨_, h, hsz⟩

theorem fr_freeze {b : Nat} {v : Value} {w : World} (g n : Nat) (hg : v.ownBlock = some g) : Fr b v w (w.drew.freeze ⟨g, 0, none⟩ n) := by
  unfold World.freeze
  split
  · exact ⟨rfl, rfl, rfl, Nat.le_refl _, fun _ _ _ _ => rfl⟩
  · refine ⟨rfl, rfl, rfl, by simp, fun k _ _ hk => ?_⟩
    simp only [Array.getElem?_modify]
    rw [if_neg (fun e => hk (by rw [hg]; exact congrArg some e))]
    rfl
theorem fr_drew (b : Nat) (v : Value) (w : World) : Fr b v w w.drew := ⟨rfl, rfl, rfl, Nat.le_refl _, fun _ _ _ _ => rfl⟩

def StPost (b : Nat) (v : Value) (l : List UInt8) (w : World) (e : Ending) (w' : World) : Prop := e = .returned (.string ⟨l.toArray⟩) ∧ Fr b v w w'
theorem StPost.mk {b : Nat} {v : Value} {l : List UInt8} {w w' : World} (h : Fr b v w w') : StPost b v l w (.returned (.string ⟨l.toArray⟩)) w' := ⟨rfl, h⟩
theorem cells5 : Tryd.prog.cellsOf 5 = 1 := by kernel_rfl

set_option maxHeartbeats 2000000 in
set_option maxRecDepth 100000 in
theorem string_any (B b : Nat) (v : Value) (l : List UInt8) (w : World) (h : Bld B b v l w) : Calls Tryd.prog 26 #[.pointer (some ⟨b, 0, none⟩)] w (StPost b v l w) := by
  obtain ⟨p, hbk⟩ : ∃ p, w.heap[b]? = some (.cells #[p, v] 42 (0, 0)) := by rcases h.blk with h | h; exact ⟨_, h⟩; exact ⟨_, h⟩
  have hc1 : w.cell? ⟨b, 1, none⟩ = some v := blk_c hbk 1
  have hown := h.own; have hnil := h.nil
  clear h hbk
  cases l with
  | nil =>
    obtain rfl := hnil rfl
    have hUS : ∀ W : World, (Builtin.unsafeString_ #[83, 3] 9 #[.pointer none, .int .i64 0]).run Tryd.prog W = .ok (.string .empty) W := fun W => Lib.run_unsafeString_none W _ _ _ none
    have hSD : ∀ W : World, (Builtin.unsafeSliceData_ #[39] 83 #[.slice none 0 0]).run Tryd.prog W = .ok (.pointer none) W := fun W => rfl
    have HP : Hid (∀ w', Fr b (.slice none 0 0) w w' → StPost b (.slice none 0 0) [] w (.returned (.string ⟨[].toArray⟩)) w') := Lib.hid fun w' h => StPost.mk h
    clear hown hnil
    go_enter Tryd.func26, Tryd.ntmps26
    go_wp2_with fail
    go_region
    all_goals (go_wp2_with fail; go_ret; exact HP.out _ (fr_drew _ _ _))
  | cons x r =>
    have hl0 : (x :: r).length ≠ 0 := by simp
    obtain ⟨g, cap, cur, rfl, hg, hnc, hcm, hcs⟩ : ∃ g cap cur, v = .slice (some ⟨g, 0, none⟩) (x :: r).length cap ∧ w.heap[g]? = some (.cells cur 5 (0, 0)) ∧ (x :: r).length ≤ cap ∧ cap ≤ maxLen ∧ cur.size = cap * 1 := by
      rcases hown.2 with ⟨_, hz⟩ | ⟨g, cap, cur, hv, _, h1, h2, h3, h4, _⟩
      · exact absurd hz hl0
      · exact ⟨g, cap, cur, hv, h1, h2, h3, h4⟩
    have hSD : ∀ W : World, (Builtin.unsafeSliceData_ #[39] 83 #[.slice (some ⟨g, 0, none⟩) (x :: r).length cap]).run Tryd.prog W = .ok (.pointer (some ⟨g, 0, none⟩)) W := fun W =>
      Lib.run_unsafeSliceData_row _ _ _ _ _ _ (by omega)
    have hUS : (Builtin.unsafeString_ #[83, 3] 9 #[.pointer (some ⟨g, 0, none⟩), .int .i64 (x :: r).length]).run Tryd.prog w.drew = .ok (.string ⟨(x :: r).toArray⟩) (w.drew.freeze ⟨g, 0, none⟩ (x :: r).length) := by
      refine Lib.run_unsafeString_row w.drew 83 3 9 5 Tryd.underlying83 cells5 g cur.size (by have hg' : w.drew.heap[g]? = some (.cells cur 5 (0, 0)) := hg; simp [World.shape?, hg']) (x :: r) (by simp) (by omega) (by unfold maxLen at hcm; omega) ?_
      intro j y hy
      have := hown.cells (g := g) rfl j (.int .u8 y.toNat) (by simp only [Lib.byteCells, List.getElem?_map, hy, Option.map_some])
      exact this
    have HP : Hid (∀ w', Fr b (.slice (some ⟨g, 0, none⟩) (x :: r).length cap) w w' → StPost b (.slice (some ⟨g, 0, none⟩) (x :: r).length cap) (x :: r) w (.returned (.string ⟨(x :: r).toArray⟩)) w') := Lib.hid fun w' h => StPost.mk h
    have HFZ := Lib.hid (fun n => fr_freeze (b := b) (v := .slice (some ⟨g, 0, none⟩) (x :: r).length cap) (w := w) g n rfl)
    clear hown hnil hg hnc hcm hcs hl0
    generalize hL : (x :: r).length = L at *
    generalize hA : (x :: r).toArray = Ar at *
    have HL := Lib.hid hL; have HA := Lib.hid hA
    clear hL hA
    go_enter Tryd.func26, Tryd.ntmps26
    go_wp2_with fail
    go_region
    all_goals (go_wp2_with fail; go_ret; exact HP.out _ (HFZ.out _))

end Go.Proofs.YtppeplonnippcaaDoor
