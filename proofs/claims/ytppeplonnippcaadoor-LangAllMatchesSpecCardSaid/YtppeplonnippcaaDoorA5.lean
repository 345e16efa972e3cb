/-
The reader of layer 7: numbers.
-/
import Derived.Test.YtppeplonnippcaaDoorA4
import Derived.Maps.AppendAt
import Derived.Test.YtppeplonnippcaaDoorS
import Derived.Deep.AppendLies
import Derived.OwnWalk
set_option linter.unusedVariables false
set_option linter.unusedSimpArgs false
namespace Go.Proofs.YtppeplonnippcaaDoor
open Go.RowKit

theorem info92 : (Tryd.prog.info? 92).map (fun i => (i.zero, i.size, i.bytes)) = some (some (.agg #[.int .i64 0, .int .i64 0, .string ⟨#[]⟩]), 3, 32) := by kernel_rfl

theorem Kp.grownBy {r : Nat} {w w' : World} (h : Kp r w w') : w.grownBy w' (some r) :=
  ⟨h.os, h.tape, h.output, h.size, fun k hk hn => h.block k hk (fun e => hn (by rw [e]))⟩
theorem own_kp {w w' : World} {r base e size n : Nat} {v : Value} {xs : List Value} (h : w.ownsRow base e size v n xs) (k : Kp r w w') (hr : r < base) : w'.ownsRow base e size v n xs :=
  h.kept k.grownBy (by
    cases hb : v.ownBlock with
    | none => exact .inl rfl
    | some g => right; intro e; have := (h.lt g hb).1; have e := Option.some.inj e; omega)
theorem own_below {w w' : World} {base e size n : Nat} {v : Value} {xs : List Value} (h : w.ownsRow base e size v n xs) (k : Below w.heap.size w w') : w'.ownsRow base e size v n xs :=
  h.kept (row := none) ⟨k.os, k.tape, k.output, k.size, fun i hi _ => k.block i hi⟩ (by cases v.ownBlock <;> simp)
theorem Kp.grown {r : Nat} {a w w' : World} {row : Option Nat} (h : Kp r a w) (hg : w.grownBy w' row) (hr : ∀ k, row = some k → a.heap.size ≤ k) : Kp r a w' :=
  ⟨hg.os.trans h.os, hg.tape.trans h.tape, hg.output.trans h.output, Nat.le_trans h.size hg.size,
    fun i hi hn => (hg.block i (Nat.lt_of_lt_of_le hi h.size) (fun e => by have := hr i e.symm; omega)).trans (h.block i hi hn)⟩
theorem Rd.grown {w w' : World} {r i : Nat} {s : ByteArray} {row : Option Nat} (h : Rd w r s i) (hg : w.grownBy w' row) (hr : row ≠ some r) : Rd w' r s i :=
  ⟨(hg.block r h.lt (fun e => hr e.symm)).trans h.blk, h.ng⟩
theorem At.grown {w w' : World} {r : Nat} {s : ByteArray} {ts : List Sp.Tok} {row : Option Nat} (h : At w r s ts) (hg : w.grownBy w' row) (hr : row ≠ some r) : At w' r s ts := by
  obtain ⟨i, h1, h2, h3⟩ := h; exact ⟨i, h1, h2.grown hg hr, h3⟩

theorem toks_len (p : Nat) (l : List UInt8) : (Sp.toks p l).length ≤ l.length + 1 := by
  induction hn : l.length using Nat.strongRecOn generalizing p l with
  | _ n ih =>
    rw [Sp.toks]
    split
    · simp
    · rename_i hk
      have h1 := Sp.tokAt_pos (p + Sp.skpN false l) (l.drop (Sp.skpN false l)) (by omega)
      have h2 := Sp.tokAt_le (p + Sp.skpN false l) (l.drop (Sp.skpN false l))
      rw [List.length_drop] at h2
      have h3 := ih _ (by rw [List.length_drop]; omega) (p + Sp.skpN false l + (Sp.tokAt (p + Sp.skpN false l) (l.drop (Sp.skpN false l))).txt.length)
        (l.drop (Sp.skpN false l + (Sp.tokAt (p + Sp.skpN false l) (l.drop (Sp.skpN false l))).txt.length)) rfl
      rw [List.length_drop] at h3
      simp only [List.length_cons]; omega
theorem At.len {w : World} {r : Nat} {s : ByteArray} {ts : List Sp.Tok} (h : At w r s ts) : ts.length ≤ s.size + 1 := by
  obtain ⟨i, h1, h2, rfl⟩ := h
  have := toks_len i (rst s i)
  rw [rst_len] at this; omega
theorem At.ne {w : World} {r : Nat} {s : ByteArray} {ts : List Sp.Tok} (h : At w r s ts) : ts ≠ [] := by
  obtain ⟨i, h1, h2, rfl⟩ := h
  exact Sp.toks_ne _ _

def cellsOf (t : Sp.Tok) : List Value := [.int .i64 t.at_, .int .i64 t.n, .string (bs t.txt)]
def cells (l : List Sp.Tok) : List Value := l.flatMap cellsOf
theorem cells_snoc (l : List Sp.Tok) (t : Sp.Tok) : cells (l ++ [t]) = cells l ++ cellsOf t := by simp [cells]


theorem tw_all {α : Type} {p : α → Bool} (l m : List α) (h : ∀ x ∈ l, p x = true) : (l ++ m).takeWhile p = l ++ m.takeWhile p ∧ (l ++ m).dropWhile p = m.dropWhile p := by
  induction l with
  | nil => exact ⟨rfl, rfl⟩
  | cons a l ih =>
    have ha := h a (List.mem_cons_self ..)
    have := ih fun x hx => h x (List.mem_cons_of_mem _ hx)
    simp only [List.cons_append, List.takeWhile_cons, List.dropWhile_cons, ha, if_true]
    exact ⟨by rw [this.1], this.2⟩

theorem q_hd {q : ByteArray} {c : UInt8} {rr : List UInt8} (q0 : 0 < q.size) (h : q.data.toList = c :: rr) : q[0] = c := by
  have h2 : q.data.toList[0]? = some c := by rw [h]; rfl
  simp at h2
  have h3 := Array.getElem?_eq_getElem (xs := q.data) (i := 0) (by simpa using q0)
  rw [h2] at h3
  exact (Option.some.inj h3).symm

def NumsPost (r : Nat) (s : ByteArray) (ts : List Sp.Tok) (w : World) (e : Ending) (w' : World) : Prop :=
  ∃ v, e = .returned v ∧ w'.ownsRow w.heap.size 92 3 v (ts.takeWhile Sp.isN).length (cells (ts.takeWhile Sp.isN)) ∧ AtP w' r s (ts.dropWhile Sp.isN) ∧ Kp r w w'

set_option maxHeartbeats 1000000 in
theorem numbers_no (r : Nat) (s : ByteArray) (ts : List Sp.Tok) (w : World) (hr : At w r s ts) (hs : s.size ≤ 2000) (h : (Sp.hd ts).kind ≠ 2) :
    Calls Tryd.prog 87 #[.pointer (some ⟨r, 0, none⟩)] w (FailPost r ts w) := by
  have HC := Lib.hid (read_digit_no r s ts w hr (by omega) h)
  clear hr h
  go_enter Tryd.func87, Tryd.ntmps87
  go_wp2_with (go_at_call 76; refine HC.out.mono ?_; rintro e w' hh; obtain ⟨he, hk⟩ := hh; unfold Wrong at he; subst he)
  exact ⟨rfl, rfl, hk⟩

theorem hd_cons {ts : List Sp.Tok} (h : ts ≠ []) : ts = Sp.hd ts :: ts.tail := by
  cases ts with
  | nil => exact absurd rfl h
  | cons a l => rfl

set_option maxRecDepth 100000 in
set_option maxHeartbeats 2000000 in
theorem numbers_yes (r : Nat) (s : ByteArray) (ts : List Sp.Tok) (w : World) (hr : At w r s ts) (hs : s.size ≤ 2000) (h : (Sp.hd ts).kind = 2) :
    Calls Tryd.prog 87 #[.pointer (some ⟨r, 0, none⟩)] w (NumsPost r s ts w) := by
  have HC := Lib.hid (read_digit_yes r s ts w hr (by omega) h)
  have hlt := hr.lt
  have hlen := hr.len
  have HTS := Lib.hid (hd_cons hr.ne)
  have HN : Hid (Sp.isN (Sp.hd ts) = true) := Lib.hid (by simp [Sp.isN, h])
  obtain ⟨i0, hi, hz0, hz1, hz2⟩ := info_parts info92
  clear hr h
  go_enter Tryd.func87, Tryd.ntmps87
  go_wp2_with (go_at_call 76; refine HC.out.mono ?_; rintro e w1 hh; obtain ⟨rfl, hat, hk⟩ := hh; unfold tokV; have H1 := Lib.hid hat; have H2 := Lib.hid hk; clear hat hk)
  go_loopg [3] ts.tail.length (fun k v wr => ∃ l ts', k = ts'.length ∧ ts = l ++ ts' ∧ (∀ x ∈ l, Sp.isN x = true) ∧ At wr r s ts' ∧ wr.ownsRow w.heap.size 92 3 v l.length (cells l) ∧ Kp r w wr)
  case atStart =>
    refine ⟨[Sp.hd ts], ts.tail, rfl, HTS.out, ?_, H1.out.at_.alloc _, ?_, H2.out.alloc _⟩
    · intro x hx; rw [List.mem_singleton.1 hx]; exact HN.out
    · exact World.ownsRow_lit (base := w.heap.size) (e := 92) (size := 3) w1 (cellsOf (Sp.hd ts)).toArray 1 H2.out.size (by unfold maxLen; omega) rfl
  case round =>
    obtain ⟨l, ts', hk, hts, hl, hat, hown, hkp⟩ := hrel
    have hlen' := hat.len
    have hll : l.length + ts'.length = ts.length := by rw [hts, List.length_append]
    have H3 := Lib.hid hk; have H4 := Lib.hid hts; have H5 := Lib.hid hl; have H6 := Lib.hid hown; have H7 := Lib.hid hkp; have H8 := Lib.hid hat
    have HLL := Lib.hid hll
    have hlb : l.length ≤ 2001 := by omega
    have hltr : r < wr.heap.size := hat.lt
    obtain ⟨q, hq⟩ : ∃ q, q = bs (Sp.hd ts').txt := ⟨_, rfl⟩
    have HQ := Lib.hid hq
    by_cases hk2 : (Sp.hd ts').kind = 2
    · obtain ⟨p, ll, hpl⟩ := hat.hd_eq
      obtain ⟨c, rr, e1, e2, e3, e4, e5⟩ := kd2 (p := p) (l := ll) (by rw [← hpl]; exact hk2)
      rw [← hpl] at e1
      have q0 : 0 < q.size := by rw [hq, bs_size, e1]; simp
      have hE := toList_n q0
      have hE2 := toList_n2 q0
      have hD : Sp.isD q[0] = true := by rw [q_hd q0 (by rw [hq]; exact e1)]; exact e2
      have HK2 := Lib.hid hk2
      clear hk hts hl hat hown hkp hq e1 e2 e3 e4 e5 hpl hk2 hll
      go_wp2_with (first | (go_at_call 79; refine (token_any _ _ _ _ H8.out (by omega)).mono ?_; rintro e w2 hh; obtain ⟨rfl, hat2, hkp2⟩ := hh; rw [← HQ.out]; have H9 := Lib.hid hat2; have H10 := Lib.hid hkp2; clear hat2 hkp2) | (go_at_call 52; refine (isDigit_any _ _).mono ?_; rintro e w' ⟨rfl, rfl⟩) | (go_at_call 76; refine (read_digit_yes _ _ _ _ H9.out.at_ (by omega) HK2.out).mono ?_; rintro e w3 hh; obtain ⟨rfl, hat3, hkp3⟩ := hh; unfold tokV; have H11 := Lib.hid hat3; have H12 := Lib.hid hkp3; have H13 := Lib.hid (own_kp (own_kp H6.out H10.out hlt) H12.out hlt); clear hat3 hkp3) | (at_builtin; refine wpList_append_own_at (w3.alloc (.cells (cellsOf (Sp.hd ts')).toArray 92)) rfl _ _ 115 rfl w.heap.size 92 i0 _ 3 32 Tryd.underlying115 hi hz0 hz1 hz2 rfl (by decide) _ l.length (cells l) rfl (H13.out.alloc _) ⟨w3.heap.size, 0, none⟩ 1 1 (cellsOf (Sp.hd ts')) rfl rfl ?c1 ?c2 ?c3 ?c4 ?c5 ?_))
      case c1 => exact World.news_of_block (cs := (cellsOf (Sp.hd ts')).toArray) (t := 92) (fr := (0, 0)) (heap_alloc_new w3 _)
      case c2 => intro u hu; simp only [cellsOf, List.mem_cons, List.not_mem_nil, or_false] at hu; rcases hu with rfl | rfl | rfl <;> rfl
      case c3 => unfold maxLen; omega
      case c4 => omega
      case c5 => have h1 := H12.out.size; have h2 := H10.out.size; have h3 := H7.out.size; simp only [World.size_alloc]; omega
      intro v' w4 hown4 hg _ _
      have hrow : u3.ownBlock ≠ some r := fun e => by have := (H6.out.lt r e).1; omega
      have hat4 := (H11.out.at_.alloc (.cells (cellsOf (Sp.hd ts')).toArray 92)).grown hg hrow
      have hkp4 := ((((H7.out.trans H10.out).trans H12.out).alloc (.cells (cellsOf (Sp.hd ts')).toArray 92)).grown hg fun k e => (H6.out.lt k e).1)
      have H14 := Lib.hid hat4; have H15 := Lib.hid hkp4; have H16 := Lib.hid hown4
      clear hown4 hg hrow hat4 hkp4
      go_wp2_with fail
      go_roundg ts'.tail.length
      case measure =>
        have := H8.out.ne
        rw [H3.out]
        cases ts' with
        | nil => exact absurd rfl this
        | cons a b => simp
      case rel =>
        refine ⟨l ++ [Sp.hd ts'], ts'.tail, rfl, ?_, ?_, H14.out, ?_, H15.out⟩
        · rw [List.append_assoc, List.singleton_append, ← hd_cons H8.out.ne]; exact H4.out
        · intro x hx
          rcases List.mem_append.1 hx with hx | hx
          · exact H5.out x hx
          · rw [List.mem_singleton.1 hx]; simp [Sp.isN, HK2.out]
        · rw [cells_snoc, List.length_append]; exact H16.out
    · obtain ⟨p, ll, hpl⟩ := hat.hd_eq
      have hc := kdn2 (p := p) (l := ll) (by rw [← hpl]; exact hk2)
      rw [← hpl] at hc
      have hfin : ts.takeWhile Sp.isN = l ∧ ts.dropWhile Sp.isN = ts' := by
        have := tw_all (p := Sp.isN) l ts' hl
        rw [hts, this.1, this.2]
        have e := hd_cons hat.ne
        rw [e]
        simp [List.takeWhile_cons, List.dropWhile_cons, Sp.isN, hk2]
      have H9 := Lib.hid hfin
      have hqe : (q.toList = [] ∧ True) ∨ ∃ q0 : 0 < q.size, ¬ q.toList = [] ∧ q.toList.isEmpty = false ∧ Sp.isD q[0] = false := by
        rcases hc with e1 | ⟨c, rr, e1, e2⟩
        · left; exact ⟨toList_e (by rw [hq, bs_size, e1]; rfl), trivial⟩
        · right
          have q0 : 0 < q.size := by rw [hq, bs_size, e1]; simp
          exact ⟨q0, toList_n q0, toList_n2 q0, by rw [q_hd q0 (by rw [hq]; exact e1)]; exact e2⟩
      clear hk hts hl hat hown hkp hq hpl hk2 hll hc hfin
      rcases hqe with ⟨hE, _⟩ | ⟨q0, hE, hE2, hD⟩
      all_goals
        go_wp2_with (first | (go_at_call 79; refine (token_any _ _ _ _ H8.out (by omega)).mono ?_; rintro e w2 hh; obtain ⟨rfl, hat2, hkp2⟩ := hh; rw [← HQ.out]; have HA := Lib.hid hat2; have HB := Lib.hid hkp2; clear hat2 hkp2) | (go_at_call 52; refine (isDigit_any _ _).mono ?_; rintro e w' ⟨rfl, rfl⟩))
        go_ret
        exact ⟨u3, rfl, by rw [H9.out.1]; exact own_kp H6.out HB.out hlt, by rw [H9.out.2]; exact HA.out, H7.out.trans HB.out⟩
end Go.Proofs.YtppeplonnippcaaDoor
