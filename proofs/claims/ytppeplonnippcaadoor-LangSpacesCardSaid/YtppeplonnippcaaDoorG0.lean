/-
Layer 7: other gaps between the tokens of a code's text: the same code is parsed.
Layer 7: WriteString of any text; the tokens of a printed code have texts.
-/
import Derived.Test.YtppeplonnippcaaDoorQ
import Derived.Test.YtppeplonnippcaaDoorC4
import Derived.Lib.AppendStr
set_option linter.unusedVariables false
set_option linter.unusedSimpArgs false
namespace Go.Proofs.YtppeplonnippcaaDoor.Sp

/-- the texts that may stand between tokens -/
def gapL : List (List UInt8) := [[32], [9], [10], [32, 32, 10], [32, 35, 32, 99, 111, 100, 101, 32, 125, 10]]
def gapAt (n : Nat) : List UInt8 := gapL.getD (n / 2 % 5) []
/-- what the law writes ahead of a token -/
def gapOf (last kind n : Nat) : List UInt8 := if (last < 3 ∧ kind < 3) ∨ n % 2 = 1 then gapAt n else []
def chAt (ch : List UInt8) (k : Nat) : Nat := (ch[k]?.getD 0).toNat
/-- what the law writes -/
def spc (ch : List UInt8) : Nat → Nat → List Tok → List UInt8
  | _, _, [] => []
  | last, k, t :: ts => gapOf last t.kind (chAt ch k) ++ (t.txt ++ spc ch t.kind (k + 1) ts)
theorem gap5 : GapB [32, 35, 32, 99, 111, 100, 101, 32, 125, 10] := by
  refine ⟨fun rest => ?_, fun c hc => ?_⟩
  · simp [skpN, isB]; omega
  · simp only [List.head?_cons, Option.some.injEq] at hc; subst hc; decide
theorem gapAt_ok (n : Nat) : GapB (gapAt n) ∧ gapAt n ≠ [] := by
  unfold gapAt gapL
  rcases (by omega : n / 2 % 5 = 0 ∨ n / 2 % 5 = 1 ∨ n / 2 % 5 = 2 ∨ n / 2 % 5 = 3 ∨ n / 2 % 5 = 4) with h | h | h | h | h <;> rw [h]
  · exact ⟨gB _ (by decide), by simp⟩
  · exact ⟨gB _ (by decide), by simp⟩
  · exact ⟨gB _ (by decide), by simp⟩
  · exact ⟨gB _ (by decide), by simp⟩
  · exact ⟨gap5, by simp⟩
theorem gapOf_ok (last kind n : Nat) : GapB (gapOf last kind n) := by
  unfold gapOf
  split
  · exact (gapAt_ok n).1
  · exact g0
theorem Is.kind {t : Tok} {x : Lx} (h : Is t x) : t.kind < 3 ↔ x.glues = true := by
  obtain ⟨p, rfl⟩ := h
  cases x <;> simp [Lx.tok, Lx.glues]
theorem spc_render (ch : List UInt8) (t4 : Tok) (hk : t4.kind = 4) (ht : t4.txt = []) : ∀ (lx : List Lx) (ts : List Tok) (last k : Nat), Mt ts lx → (∀ x ∈ lx, x.Ok) →
    ∃ l e, spc ch last k (ts ++ [t4]) = render l e ∧ Chain l e ∧ l.map (·.2) = lx ∧ (last < 3 → nextSep l) := by
  intro lx
  induction lx with
  | nil =>
    intro ts last k h _
    rw [show ts = [] from h]
    exact ⟨[], gapOf last t4.kind (chAt ch k), by simp [spc, render, ht], gapOf_ok _ _ _, rfl, fun _ => trivial⟩
  | cons x lx ih =>
    intro ts last k h hok
    obtain ⟨t, r, rfl, h1, h2⟩ := h
    obtain ⟨l, e, i1, i2, i3, i4⟩ := ih r t.kind (k + 1) h2 (fun y hy => hok y (List.mem_cons_of_mem _ hy))
    refine ⟨(gapOf last t.kind (chAt ch k), x) :: l, e, ?_, ⟨gapOf_ok _ _ _, hok x (List.mem_cons_self ..), fun hg => i4 (h1.kind.2 hg), i2⟩, by rw [List.map_cons, i3], fun hl => ?_⟩
    · rw [List.cons_append, spc, i1, render, h1.txt]
    · show gapOf last t.kind (chAt ch k) ≠ [] ∨ x.glues = false
      by_cases hg : x.glues = true
      · left
        unfold gapOf
        rw [if_pos (.inl ⟨hl, h1.kind.2 hg⟩)]
        exact (gapAt_ok _).2
      · right; simpa using hg
theorem chain_ok : ∀ (l : List (List UInt8 × Lx)) (e : List UInt8), Chain l e → ∀ x ∈ l.map (·.2), x.Ok
  | [], e, _, x, hx => by cases hx
  | (g, y) :: l, e, ⟨_, h2, _, h4⟩, x, hx => by
    rcases List.mem_cons.1 hx with rfl | hx
    · exact h2
    · exact chain_ok l e h4 x hx
theorem kind4_txt {p : Nat} {l : List UInt8} (h : (tokAt p l).kind = 4) : (tokAt p l).txt = [] := by
  cases l with
  | nil => rfl
  | cons c l =>
    simp only [tokAt] at h ⊢
    repeat' split at h
    all_goals first | (simp at h; done) | rfl
theorem toks_last (n : Nat) : ∀ (l : List UInt8) (p : Nat), l.length = n → ∀ t ∈ toks p l, t.kind = 4 → t.txt = [] := by
  induction n using Nat.strongRecOn with
  | _ n ih =>
    intro l p hl t ht hk
    rw [toks] at ht
    split at ht
    · rw [List.mem_singleton.1 ht] at hk ⊢; exact kind4_txt hk
    · rename_i hk3
      rcases List.mem_cons.1 ht with h | h
      · rw [h] at hk ⊢; exact kind4_txt hk
      · refine ih _ ?_ _ _ rfl t h hk
        have h1 := tokAt_pos (p + skpN false l) (l.drop (skpN false l)) (by omega)
        have h2 := tokAt_le (p + skpN false l) (l.drop (skpN false l))
        simp only [List.length_drop] at h2 ⊢
        omega
/-- the law -/
theorem parse_spaced {c : Code} (hf : FineC c) (ch : List UInt8) (hl : (spc ch 3 0 (toks 0 (prC c))).length ≤ 2000) : parseL true (spc ch 3 0 (toks 0 (prC c))) = .ok [c] := by
  obtain ⟨ts, t, h1, h2, h3⟩ := toks_all [c] (by simpa using hf)
  simp only [List.flatMap_cons, List.flatMap_nil, List.append_nil] at h3
  have hp : prAll [c] = prC c := by simp [prAll]
  rw [hp] at h1
  have ht : t.txt = [] := toks_last _ _ _ rfl t (by rw [h1]; simp) h2
  have hch := chain_ok _ _ (chain_all [c] (by simpa using hf) [] g0)
  rw [allG_snd] at hch
  simp only [List.flatMap_cons, List.flatMap_nil, List.append_nil] at hch
  obtain ⟨l, e, i1, i2, i3, _⟩ := spc_render ch t h2 ht (lxC c) ts 3 0 h3 hch
  rw [h1, i1] at hl ⊢
  obtain ⟨us, u, j1, j2, j3⟩ := toksOf_split l e 0
  rw [i3] at j3
  obtain ⟨s, h4, h5⟩ := pOne_code j3 j2 hf
  unfold parseL
  rw [if_neg (by omega), toks_render l e 0 (chain_fits _ _ i2), j1]
  unfold parseTs
  rw [h4]
  simp only
  rw [bAll_yes (cs := [c]) (ss := [s]) ⟨h5, trivial⟩ (by simpa using hf) (by simp) (by simp) (by simp)]
  rfl
/-- the kind of the last token that was written -/
def lastK : Nat → List Tok → Nat
  | last, [] => last
  | _, t :: ts => lastK t.kind ts
theorem lastK_snoc (t : Tok) : ∀ (ts : List Tok) (last : Nat), lastK last (ts ++ [t]) = t.kind := by
  intro ts
  induction ts with
  | nil => intro last; rfl
  | cons a ts ih => intro last; exact ih _
theorem spc_snoc (ch : List UInt8) (t : Tok) : ∀ (ts : List Tok) (last k : Nat), spc ch last k (ts ++ [t]) = spc ch last k ts ++ (gapOf (lastK last ts) t.kind (chAt ch (k + ts.length)) ++ t.txt) := by
  intro ts
  induction ts with
  | nil => intro last k; simp [spc, lastK]
  | cons a ts ih =>
    intro last k
    simp only [List.cons_append, spc, ih, List.length_cons, List.append_assoc, lastK]
    rw [show k + (ts.length + 1) = k + 1 + ts.length by omega]
end Go.Proofs.YtppeplonnippcaaDoor.Sp

namespace Go.Proofs.YtppeplonnippcaaDoor
open Go.RowKit

def WrP (B b : Nat) (v : Value) (l : List UInt8) (s : ByteArray) (w : World) (e : Ending) (w' : World) : Prop :=
  e = .returned (.tuple #[.int .i64 s.size, .nilIface]) ∧ ∃ v', Bld B b v' (l ++ s.data.toList) w' ∧ Fr b v w w'
set_option maxHeartbeats 2000000 in
set_option maxRecDepth 100000 in
theorem write0_any (B b : Nat) (v : Value) (l : List UInt8) (s : ByteArray) (w : World) (h : Bld B b v l w) (h0 : s.size = 0) (hlen : l.length ≤ 140737488355328) (hBw : B ≤ w.heap.size) :
    Calls Tryd.prog 24 #[.pointer (some ⟨b, 0, none⟩), .string s] w (WrP B b v l s w) := by
  obtain ⟨i0, hi, hz0, hz1, hz2⟩ := info_parts info5
  have C := Lib.hid (copy_any w h)
  have HV := Lib.hid h.ne
  have HB := Lib.hid h
  have H0 := Lib.hid h0
  have hs0 : s.size ≤ 0 := by omega
  clear h h0
  go_enter Tryd.func24, Tryd.ntmps24
  go_wp2_with fail
  refine C.out.mono ?_
  rintro e w1 ⟨rfl, hbk, hb1, hfr⟩
  have HF := Lib.hid hfr
  have hown := hb1.own
  have H1 := Lib.hid hb1
  have hsz := hfr.size
  have hlt : b < w1.heap.size := lt_of_block hbk
  have c0 : w1.cell? ⟨b, 0, none⟩ = some (.pointer (some ⟨b, 0, none⟩)) := blk_c hbk 0
  have c1 : w1.cell? ⟨b, 1, none⟩ = some v := blk_c hbk 1
  have HK := Lib.hid hbk
  clear hfr hb1 hbk
  go_wp2_with (at_builtin; refine Lib.wpList_append_own_string _ rfl _ _ 39 9 rfl B 5 i0 Tryd.underlying39 Tryd.underlying9 hi hz0 hz1 hz2 _ _ _ rfl hown s rfl ?c3 ?c4 ?c5 ?_)
  case c3 => unfold maxLen; omega
  case c4 => omega
  case c5 => omega
  intro v' w2 hown' hgrow hlies
  have hb2 : w2.heap[b]? = some (.cells #[.pointer (some ⟨b, 0, none⟩), v] 42 (0, 0)) := by
    rw [hgrow.block b hlt (fun e => HV.out e.symm)]
    exact HK.out
  have d0 : w2.cell? ⟨b, 0, none⟩ = some (.pointer (some ⟨b, 0, none⟩)) := blk_c hb2 0
  have d1 : w2.cell? ⟨b, 1, none⟩ = some v := blk_c hb2 1
  have f1 : w2.frozen? ⟨b, 1, none⟩ = false := blk_f hb2 1
  obtain ⟨ao, n', cap, rfl⟩ : ∃ ao n' cap, v' = .slice ao n' cap := by
    rcases hown'.2 with ⟨hv, _⟩ | ⟨g, cap, cur, hv, _⟩
    · exact ⟨_, _, _, hv⟩
    · exact ⟨_, _, _, hv⟩
  have HG := Lib.hid hgrow; have HO := Lib.hid hown'; have HL := Lib.hid hlies; have H2 := Lib.hid hb2
  clear hgrow hown' hlies hb2 hown
  go_wp2_with fail
  go_ret2
  have hsl : s.data.toList.length = s.size := rfl
  have hne : (Value.slice ao n' cap).ownBlock ≠ some b := Lib.ownBlock_ne HO.out H2.out (by decide)
  refine ⟨rfl, .slice ao n' cap, ⟨HB.out.lo, .inr (blk_set H2.out 1 _), ?_, fun e => ?_⟩, ?_⟩
  · have := HO.out
    rw [List.length_append, hsl, show Lib.byteCells (l ++ s.data.toList) = Lib.byteCells l ++ Lib.strCells s from by unfold Lib.byteCells; rw [List.map_append]; rfl]
    exact this.kept (row := some b) (grown_setCell w2 ⟨b, 1, none⟩ _) (.inr hne)
  · have hl0 : l = [] := (List.append_eq_nil_iff.1 e).1
    exact HL.out.2 ⟨HB.out.nil hl0, by have := H0.out; simpa using this⟩
  · have hf := HF.out
    exact ⟨HG.out.os.trans hf.os, HG.out.tape.trans hf.tape, HG.out.output.trans hf.output, by have := HG.out.size; simp [World.setCell]; omega,
      fun k hk hn hv => (Below.heap_setCell _ _ _ _ hn).trans ((HG.out.block k (by omega) (fun e => hv e.symm)).trans (hf.block k hk hn hv))⟩

theorem writeAll_any (B b : Nat) (v : Value) (l : List UInt8) (s : ByteArray) (w : World) (h : Bld B b v l w) (hlen : l.length + s.size ≤ 140737488355328) (hBw : B ≤ w.heap.size) :
    Calls Tryd.prog 24 #[.pointer (some ⟨b, 0, none⟩), .string s] w (WrP B b v l s w) := by
  by_cases h0 : s.size = 0
  · exact write0_any B b v l s w h h0 (by omega) hBw
  · exact (write_any B b v l s w h (by omega) hlen hBw).mono fun e w' ⟨h1, v', h2, h3, _⟩ => ⟨h1, v', h2, h3⟩
end Go.Proofs.YtppeplonnippcaaDoor
