/-
Layer 7: words for lists of sources and of codes, and for the names that a parse has seen.
-/
import Derived.Test.YtppeplonnippcaaDoorB0
import Derived.Test.YtppeplonnippcaaDoorS
import Derived.Maps.OwnOps
import Derived.Maps.Views
import Derived.StringKeys
set_option linter.unusedVariables false
set_option linter.unusedSimpArgs false
namespace Go.Proofs.YtppeplonnippcaaDoor
open Go.RowKit Go.Maps

def YesAt (r : Nat) (s : ByteArray) (ts : List Sp.Tok) (w : World) (e : Ending) (w' : World) : Prop :=
  e = .returned (.tuple #[]) ∧ AtP w' r s ts ∧ Kp r w w'

theorem skip_at (r : Nat) (s : ByteArray) (ts : List Sp.Tok) (w : World) (hr : At w r s ts) (hs : s.size ≤ 9223372036854775806) :
    Calls Tryd.prog 57 #[.pointer (some ⟨r, 0, none⟩)] w (YesAt r s ts w) := by
  obtain ⟨i, hi, hrd, htk⟩ := hr
  refine (skip_any r i s w hrd hs hi).mono ?_
  rintro e w' ⟨he, hrd', hk⟩
  have hat : (Sp.hd ts).at_ = i + Sp.skpN false (rst s i) := by rw [← htk, Sp.toks_at]
  have hple : i + Sp.skpN false (rst s i) ≤ s.size := by have := Sp.skpN_le false (rst s i); rw [rst_len] at this; omega
  have htk2 : Sp.toks (i + Sp.skpN false (rst s i)) (rst s (i + Sp.skpN false (rst s i))) = ts := by rw [← rst_drop, Sp.toks_skip]; exact htk
  exact ⟨he, ⟨by rw [hat]; exact hple, by rw [hat]; exact hrd', by rw [hat]; exact htk2⟩, hk⟩

theorem tokAt_four (p : Nat) (l : List UInt8) : (Sp.tokAt p l).kind = 4 ↔ l = [] := by
  cases l with
  | nil => simp [Sp.tokAt]
  | cons c l => simp only [Sp.tokAt]; repeat' split
                all_goals simp
/-- the text is at its end where the next token says so -/
theorem AtP.four {w : World} {r : Nat} {s : ByteArray} {ts : List Sp.Tok} (h : AtP w r s ts) : (Sp.hd ts).kind = 4 ↔ (Sp.hd ts).at_ = s.size := by
  have h1 := Sp.toks_hd (Sp.hd ts).at_ (rst s (Sp.hd ts).at_)
  rw [h.tk, h.skp0, Nat.add_zero, List.drop_zero] at h1
  have h2 : (Sp.hd ts).kind = (Sp.tokAt (Sp.hd ts).at_ (rst s (Sp.hd ts).at_)).kind := by rw [← h1]
  rw [h2, tokAt_four]
  have := h.le
  have hl := rst_len s (Sp.hd ts).at_
  constructor
  · intro e; rw [e] at hl; simp at hl; omega
  · intro e; exact List.eq_nil_of_length_eq_zero (by omega)

/-- chunks of cells, one for each element -/
def Chunks {α : Type} (E : α → List Value → Prop) : List α → List Value → Prop
  | [], cs => cs = []
  | x :: l, cs => ∃ c rest, cs = c ++ rest ∧ E x c ∧ Chunks E l rest
theorem Chunks.keep {α : Type} {E E' : α → List Value → Prop} (hk : ∀ x c, E x c → E' x c) {l : List α} {cs : List Value} (h : Chunks E l cs) : Chunks E' l cs := by
  induction l generalizing cs with
  | nil => exact h
  | cons x l ih => obtain ⟨c, rest, h1, h2, h3⟩ := h; exact ⟨c, rest, h1, hk _ _ h2, ih h3⟩
theorem Chunks.snoc {α : Type} {E : α → List Value → Prop} {l : List α} {cs c : List Value} {x : α} (h : Chunks E l cs) (hx : E x c) : Chunks E (l ++ [x]) (cs ++ c) := by
  induction l generalizing cs with
  | nil => rw [show cs = [] from h]; exact ⟨c, [], by simp, hx, rfl⟩
  | cons y l ih => obtain ⟨c', rest, rfl, h2, h3⟩ := h; exact ⟨c', _, by rw [List.append_assoc], h2, ih h3⟩
theorem Chunks.at_ {α : Type} {E : α → List Value → Prop} {n : Nat} (hn : ∀ x c, E x c → c.length = n) {l : List α} {cs : List Value} (h : Chunks E l cs) (j : Nat) (hj : j < l.length) :
    ∃ c, E l[j] c ∧ ∀ k, k < n → cs[j * n + k]? = c[k]? := by
  induction l generalizing cs j with
  | nil => simp at hj
  | cons x l ih =>
    obtain ⟨c, rest, rfl, h2, h3⟩ := h
    have hc := hn _ _ h2
    cases j with
    | zero => exact ⟨c, h2, fun k hk => by rw [Nat.zero_mul, Nat.zero_add, List.getElem?_append_left (by omega)]⟩
    | succ j =>
      obtain ⟨c', e1, e2⟩ := ih h3 j (by simpa using hj)
      refine ⟨c', e1, fun k hk => ?_⟩
      rw [List.getElem?_append_right (by rw [Nat.succ_mul]; omega), ← e2 k hk]
      congr 1
      rw [Nat.succ_mul]; omega

/-- the cells of a source -/
def srcCells (x : Sp.Src) (vr : Value) : List Value := [.int .i64 x.name.at_, .int .i64 x.name.n, .string (bs x.name.txt), .int .i64 x.field.at_, .int .i64 x.field.n, .string (bs x.field.txt),
    .int .i64 x.data.at_, .int .i64 x.data.n, .string (bs x.data.txt), vr, .int .i64 (domV x.dom).at_, .int .i64 (domV x.dom).n, .string (bs (domV x.dom).txt)]
def SrcE (base : Nat) (w : World) (x : Sp.Src) (c : List Value) : Prop := ∃ vr, c = srcCells x vr ∧ RowsV base x.rows w vr
def SrcsV (base : Nat) (l : List Sp.Src) (w : World) (v : Value) : Prop := ∃ cs, w.ownsRow base 95 13 v l.length cs ∧ Chunks (SrcE base w) l cs
/-- the cells of a code -/
def codeCells (c : Sp.Code) (vp : Value) : List Value := [.string (bs c.name), .int .i64 c.field, .int .i64 c.data, vp, .int .i64 c.domain]
def CodeE (base : Nat) (w : World) (x : Sp.Code) (c : List Value) : Prop := ∃ vp, c = codeCells x vp ∧ ParV base x.parity w vp
def CodesV (base : Nat) (l : List Sp.Code) (w : World) (v : Value) : Prop := ∃ cs, w.ownsRow base 24 5 v l.length cs ∧ Chunks (CodeE base w) l cs

theorem SrcV.cells {base : Nat} {x : Sp.Src} {w : World} {v : Value} (h : SrcV base x w v) : ∃ vr, v = .agg (srcCells x vr).toArray ∧ RowsV base x.rows w vr := h
theorem CodeV.cells {base : Nat} {x : Sp.Code} {w : World} {v : Value} (h : CodeV base x w v) : ∃ vp, v = .agg (codeCells x vp).toArray ∧ ParV base x.parity w vp := h

theorem SrcsV.at_ {b0 : Nat} {l : List Sp.Src} {w : World} {A : Option Addr} {q : Nat} (h : SrcsV b0 l w (.slice A l.length q)) (j : Nat) (hj : j < l.length) :
    ∃ g vr, A = some ⟨g, 0, none⟩ ∧ RowsV b0 l[j].rows w vr ∧ ∀ k v, (srcCells l[j] vr)[k]? = some v → w.cell? ⟨g, j * 13 + k, none⟩ = some v := by
  obtain ⟨cs, ho, hin⟩ := h
  obtain ⟨g, cap, hv, hb, hlt⟩ := World.ownsRow.form ho (by omega)
  simp only [Value.slice.injEq, true_and] at hv
  obtain ⟨rfl, rfl⟩ := hv
  obtain ⟨c, ⟨vr, rfl, hr⟩, hc⟩ := hin.at_ (n := 13) (fun x c ⟨vr, e, _⟩ => by subst e; rfl) j hj
  refine ⟨g, vr, rfl, hr, fun k v hk => ?_⟩
  have hk13 : k < 13 := (List.getElem?_eq_some_iff.1 hk).1
  have := World.ownsRow.cells ho (g := g) rfl _ _ ((hc k hk13).trans hk)
  have add : ∀ k, (⟨g, 0, none⟩ : Addr).add k = ⟨g, k, none⟩ := by intro k; unfold Addr.add; split <;> simp_all
  rwa [add] at this

/-! ### The names that were seen -/
abbrev ld : DataW Unit := .lit (.bool true)
def NamesAt (w : World) (M n : Nat) (names : List (List UInt8)) : Prop := w.ownsMap Tryd.prog 9 (plainElem Tryd.prog 4) M n (setOf ld (names.map Lit.string))
theorem law9 : Keyed Tryd.prog 9 := string_keyed Tryd.underlying9
theorem zero4 (w : World) : (zeroValue 4).run Tryd.prog w = .ok (.bool false) w := by kernel_rfl
theorem key9 (q : ByteArray) (hq : q.size ≤ maxLen) : keyOf Tryd.prog 9 (.string q) = some (.string q.data.toList) := Go.WideMaps.keyOf_string_mk Tryd.underlying9 hq

theorem setOf_at (l : List (List UInt8)) (k : List UInt8) : (setOf ld (l.map Lit.string)).atKey (.string k) (.lit (.bool false)) = .lit (.bool (decide (k ∈ l))) := by
  have hIs : ∀ l : List (List UInt8), IsMap (setOf ld (l.map Lit.string)) := fun l => (tidy_setOf ld _ (by intro x hx; obtain ⟨y, _, rfl⟩ := List.mem_map.1 hx; trivial)).isMap
  have key : ∀ n (l : List (List UInt8)), l.length = n → (setOf ld (l.map Lit.string)).atKey (.string k) (.lit (.bool false)) = .lit (.bool (decide (k ∈ l))) := by
    intro n
    induction n with
    | zero => intro l hl; have : l = [] := List.eq_nil_of_length_eq_zero hl; subst this; rfl
    | succ n ih =>
      intro l hl
      have hne : l ≠ [] := by intro e; subst e; simp at hl
      have h1 := ih l.dropLast (by simp [hl])
      rw [← List.dropLast_concat_getLast hne, List.map_append, List.map_singleton, setOf_snoc]
      by_cases hk : k = l.getLast hne
      · rw [← hk, atKey_put_same (hIs _) (k := .string k) trivial]
        simp
      · rw [atKey_put_other (by intro e; exact hk (by injection e)), h1]
        simp [hk]
  exact key _ _ rfl

theorem NamesAt.look {w : World} {M n : Nat} {names : List (List UInt8)} (h : NamesAt w M n names) (q : ByteArray) (hq : q.size ≤ maxLen) :
    (Instr.lookup 57 (.map (some M)) (.string q) false).run Tryd.prog w = .ok (.bool (decide (q.data.toList ∈ names))) w := by
  obtain ⟨v, ps, hrun, hv⟩ := World.ownsMap.lookup (t := 57) (e := 4) h law9 Tryd.underlying57 (zero4 w) (plainElem_bool Tryd.underlying4 false) (key9 q hq)
  rw [setOf_at] at hv
  rw [hrun]
  have hu : Tryd.prog.underlying 4 = some .bool := Tryd.underlying4
  have : v = .bool (decide (q.data.toList ∈ names)) := by
    unfold plainElem at hv
    rw [hu] at hv
    cases v <;> simp at hv
    · rw [hv.1]
  rw [this]
end Go.Proofs.YtppeplonnippcaaDoor
