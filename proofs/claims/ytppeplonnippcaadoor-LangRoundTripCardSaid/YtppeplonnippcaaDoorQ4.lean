/-
Layer 7: the text of codes that can be printed is parsed as these codes.
-/
import Derived.Test.YtppeplonnippcaaDoorQ3
set_option linter.unusedVariables false
set_option linter.unusedSimpArgs false
namespace Go.Proofs.YtppeplonnippcaaDoor.Sp

/-- a gap that may stand behind a word: it begins with no letter and no digit -/
def GapB (g : List UInt8) : Prop := Gap g ∧ Ends g
def nextSep (l : List (List UInt8 × Lx)) : Prop := match l with
  | [] => True
  | (g, y) :: _ => g ≠ [] ∨ y.glues = false
def Chain : List (List UInt8 × Lx) → List UInt8 → Prop
  | [], e => GapB e
  | (g, x) :: l, e => GapB g ∧ x.Ok ∧ (x.glues = true → nextSep l) ∧ Chain l e
theorem ends_app {a b : List UInt8} (h : Ends a) (hn : a ≠ []) : Ends (a ++ b) := by
  cases a with
  | nil => exact absurd rfl hn
  | cons c a => exact fun x hx => h x hx
theorem chain_ends : ∀ (l : List (List UInt8 × Lx)) (e : List UInt8), Chain l e → nextSep l → Ends (render l e)
  | [], e, h, _ => h.2
  | (g, y) :: l, e, ⟨h1, h2, _, _⟩, hn => by
    rcases List.eq_nil_or_concat g with hg | _
    · subst hg
      have hy : y.glues = false := by rcases hn with h | h; exact absurd rfl h; exact h
      cases y with
      | word w => cases hy
      | num n => cases hy
      | sign c =>
        intro x hx
        simp only [render, Lx.txt, List.nil_append, List.cons_append, List.head?_cons, Option.some.injEq] at hx
        subst hx
        have hc : isS c = true := h2
        simp only [isS, Bool.or_eq_true, decide_eq_true_eq] at hc
        simp only [isL, isD, Bool.and_eq_false_iff, decide_eq_false_iff_not]
        omega
    · by_cases hg : g = []
      · subst hg
        have hy : y.glues = false := by rcases hn with h | h; exact absurd rfl h; exact h
        cases y with
        | word w => cases hy
        | num n => cases hy
        | sign c =>
          intro x hx
          simp only [render, Lx.txt, List.nil_append, List.cons_append, List.head?_cons, Option.some.injEq] at hx
          subst hx
          have hc : isS c = true := h2
          simp only [isS, Bool.or_eq_true, decide_eq_true_eq] at hc
          simp only [isL, isD, Bool.and_eq_false_iff, decide_eq_false_iff_not]
          omega
      · exact ends_app h1.2 hg
theorem chain_fits : ∀ (l : List (List UInt8 × Lx)) (e : List UInt8), Chain l e → Fits l e
  | [], e, h => h.1
  | (g, x) :: l, e, ⟨h1, h2, h3, h4⟩ => ⟨h1.1, h2, fun hx => chain_ends l e h4 (h3 hx), chain_fits l e h4⟩
theorem render_app (l m : List (List UInt8 × Lx)) (e : List UInt8) : render (l ++ m) e = render l (render m e) := by
  induction l with
  | nil => rfl
  | cons a l ih => obtain ⟨g, x⟩ := a; simp only [List.cons_append, render, ih]
theorem nextSep_app {l m : List (List UInt8 × Lx)} (h : nextSep l) (hm : nextSep m) : nextSep (l ++ m) := by
  cases l with
  | nil => exact hm
  | cons a l => exact h
theorem chain_app {l m : List (List UInt8 × Lx)} {e : List UInt8} (hm : Chain m e) (hs : nextSep m) (hl : ∀ e', GapB e' → Chain l e') : Chain (l ++ m) e := by
  have key : ∀ l : List (List UInt8 × Lx), Chain l [] → Chain (l ++ m) e := by
    intro l
    induction l with
    | nil => intro _; exact hm
    | cons a l ih =>
      obtain ⟨g, x⟩ := a
      rintro ⟨h1, h2, h3, h4⟩
      exact ⟨h1, h2, fun hx => nextSep_app (h3 hx) hs, ih h4⟩
  exact key l (hl [] ⟨gap_nil, fun c h => by cases h⟩)

theorem gB (l : List UInt8) (h : ∀ c ∈ l, isB c = true) : GapB l := by
  constructor
  · induction l with
    | nil => exact gap_nil
    | cons c l ih => exact gap_app (a := [c]) (gap_b (h c (List.mem_cons_self ..))) (ih fun c hc => h c (List.mem_cons_of_mem _ hc))
  · intro c hc
    cases l with
    | nil => cases hc
    | cons a l =>
      injection hc with hc
      subst hc
      have := h a (List.mem_cons_self ..)
      simp only [isB, Bool.or_eq_true, decide_eq_true_eq] at this
      simp only [isL, isD, Bool.and_eq_false_iff, decide_eq_false_iff_not]
      omega
theorem g0 : GapB [] := gB [] fun c h => by cases h
theorem g1 : GapB [32] := gB _ (by decide)
theorem g2 : GapB [10, 9] := gB _ (by decide)
theorem g3 : GapB [10] := gB _ (by decide)

/-- the printed tokens with their gaps -/
def numsG (ns : List Nat) : List (List UInt8 × Lx) := ns.map fun n => ([32], .num n)
def rowG (r : List Int) : List (List UInt8 × Lx) :=
  if (0 : Int) ∈ r then ([10, 9], .word kLocal) :: (numsG (idxL 0 r) ++ (([], .sign 58) :: (numsG (coefL r) ++ [([], .sign 59)])))
  else ([10, 9], .word kParity) :: (numsG (coefL r) ++ [([], .sign 59)])
def rowsG (rows : List (List Int)) : List (List UInt8 × Lx) := rows.flatMap rowG
def headG (g : List UInt8) (name : List UInt8) (f d : Nat) : List (List UInt8 × Lx) :=
  [(g, .word kCode), ([32], .word name), ([32], .sign 123), ([10, 9], .word kField), ([32], .num f), ([], .sign 59), ([10, 9], .word kData), ([32], .num d), ([], .sign 59)]
def tailG (m : Nat) : List (List UInt8 × Lx) := [([10, 9], .word kDomain), ([32], .num m), ([], .sign 59), ([10], .sign 125)]
def codeG (g : List UInt8) (c : Code) : List (List UInt8 × Lx) := headG g c.name c.field c.data ++ (rowsG c.parity ++ tailG c.domain)
def lxC (c : Code) : List Lx := lxCode c.name c.field c.data c.parity c.domain
def prC (c : Code) : List UInt8 := prS c.name c.field c.data c.parity c.domain
def FineC (c : Code) : Prop := Fine c.name c.field c.data c.parity c.domain

theorem numsG_snd (ns : List Nat) : (numsG ns).map (·.2) = ns.map .num := by simp [numsG]
theorem rowG_snd (r : List Int) : (rowG r).map (·.2) = lxRow r := by
  unfold rowG lxRow
  split <;> simp only [List.map_cons, List.map_append, List.map_nil, numsG_snd]
theorem rowsG_snd (rows : List (List Int)) : (rowsG rows).map (·.2) = lxRows rows := by
  induction rows with
  | nil => rfl
  | cons r rows ih => simp only [rowsG, lxRows, List.flatMap_cons, List.map_append, rowG_snd] at ih ⊢; rw [ih]
theorem codeG_snd (g : List UInt8) (c : Code) : (codeG g c).map (·.2) = lxC c := by
  unfold codeG lxC lxCode
  rw [List.map_append, List.map_append, rowsG_snd]
  rfl

theorem render_idx (r : List Int) (e : List UInt8) : ∀ j, render (numsG (idxL j r)) e = idxs j r ++ e := by
  induction r with
  | nil => intro j; rfl
  | cons a r ih =>
    intro j
    simp only [idxL, idxs]
    split
    · have h1 := ih (j + 1)
      simp only [numsG, List.map_cons, render, Lx.txt] at h1 ⊢
      rw [h1]
      simp [dec, Lib.itoa]
    · rw [ih]; rfl
theorem render_coef (r : List Int) (e : List UInt8) : render (numsG (coefL r)) e = coefs r ++ e := by
  induction r with
  | nil => rfl
  | cons a r ih =>
    simp only [coefL, coefs]
    split
    · rename_i ha
      simp only [numsG, List.map_cons, render, Lx.txt] at ih ⊢
      rw [ih]
      unfold dec Lib.itoa
      rw [if_neg (by omega)]
      simp
    · rw [ih]; rfl
theorem render_row (r : List Int) (e : List UInt8) : render (rowG r) e = [10, 9] ++ prRow r ++ [59] ++ e := by
  unfold rowG prRow
  split
  · simp only [render, render_app, render_idx, render_coef, Lx.txt]
    simp [kLocal]
  · simp only [render, render_app, render_coef, Lx.txt]
    simp [kParity]
theorem render_rows (rows : List (List Int)) (e : List UInt8) : render (rowsG rows) (10 :: e) = 10 :: (prRows rows ++ e) := by
  induction rows with
  | nil => rfl
  | cons r rows ih =>
    simp only [rowsG, List.flatMap_cons] at ih ⊢
    rw [render_app, ih, render_row]
    simp [prRows, ln]
theorem dec_nat' (n : Nat) : dec (n : Int) = Lib.decDigits n := by
  unfold dec Lib.itoa
  rw [if_neg (by omega)]; rfl
theorem render_code (g : List UInt8) (c : Code) (e : List UInt8) : render (codeG g c) (10 :: e) = g ++ (prC c ++ e) := by
  have h : render (tailG c.domain) (10 :: e) = 10 :: (ln ((kDomain ++ [32]) ++ dec (c.domain : Int)) ++ ([125, 10] ++ e)) := by
    simp only [tailG, render, Lx.txt, dec_nat', ln]
    simp [kDomain]
  unfold codeG
  rw [render_app, render_app, h, render_rows]
  simp only [headG, render, Lx.txt, prC, prS, dec_nat', ln]
  simp [kCode, kField, kData]

theorem chain_nums (ns : List Nat) (hn : ∀ n ∈ ns, n ≤ 99999) : ∀ e', GapB e' → Chain (numsG ns) e' := by
  intro e' he
  induction ns with
  | nil => exact he
  | cons n ns ih =>
    refine ⟨g1, hn n (List.mem_cons_self ..), fun _ => ?_, ih fun n h => hn n (List.mem_cons_of_mem _ h)⟩
    cases ns with
    | nil => trivial
    | cons a ns => exact .inl (by simp)
theorem nextSep_nums (ns : List Nat) (m : List (List UInt8 × Lx)) (hm : nextSep m) : nextSep (numsG ns ++ m) := by
  cases ns with
  | nil => exact hm
  | cons a ns => exact .inl (by simp)
theorem idxL_le {r : List Int} : ∀ {j : Nat}, ∀ n ∈ idxL j r, n < j + r.length := by
  induction r with
  | nil => intro j n h; cases h
  | cons a r ih =>
    intro j n h
    simp only [idxL] at h
    simp only [List.length_cons]
    split at h
    · rcases List.mem_cons.1 h with rfl | h
      · omega
      · have := ih n h; omega
    · have := ih n h; omega
theorem coefL_le {r : List Int} {t : Int} (h : ∀ x ∈ r, x ≤ t) : ∀ n ∈ coefL r, (n : Int) ≤ t := by
  induction r with
  | nil => intro n h; cases h
  | cons a r ih =>
    intro n hn
    simp only [coefL] at hn
    have ha := h a (List.mem_cons_self ..)
    split at hn
    · rcases List.mem_cons.1 hn with rfl | hn
      · omega
      · exact ih (fun x hx => h x (List.mem_cons_of_mem _ hx)) n hn
    · exact ih (fun x hx => h x (List.mem_cons_of_mem _ hx)) n hn
theorem chain_row (r : List Int) (hl : r.length ≤ 99) (h : ∀ x ∈ r, x ≤ 65535) (e' : List UInt8) (he : GapB e') : Chain (rowG r) e' := by
  have hc : ∀ n ∈ coefL r, n ≤ 99999 := fun n hn => by have := coefL_le h n hn; omega
  have hi : ∀ n ∈ idxL 0 r, n ≤ 99999 := fun n hn => by have := idxL_le n hn; omega
  have s59 : Chain [([], .sign 59)] e' := ⟨g0, rfl, (fun h => by cases h), he⟩
  have c2 : Chain (numsG (coefL r) ++ [([], .sign 59)]) e' := chain_app s59 (.inr rfl) (chain_nums _ hc)
  unfold rowG
  split
  · refine ⟨g2, rfl, fun _ => nextSep_nums _ _ (.inr rfl), ?_⟩
    exact chain_app (m := ([], .sign 58) :: (numsG (coefL r) ++ [([], .sign 59)])) ⟨g0, rfl, (fun h => by cases h), c2⟩ (.inr rfl) (chain_nums _ hi)
  · exact ⟨g2, rfl, fun _ => nextSep_nums _ _ (.inr rfl), c2⟩
theorem nextSep_row (r : List Int) (m : List (List UInt8 × Lx)) : nextSep (rowG r ++ m) := by
  unfold rowG; split <;> exact .inl (by simp)
theorem chain_rows {m : List (List UInt8 × Lx)} {e : List UInt8} (hm : Chain m e) (hs : nextSep m) (rows : List (List Int)) (h : ∀ r ∈ rows, r.length ≤ 99 ∧ ∀ x ∈ r, x ≤ 65535) : Chain (rowsG rows ++ m) e ∧ nextSep (rowsG rows ++ m) := by
  induction rows with
  | nil => exact ⟨hm, hs⟩
  | cons r rows ih =>
    obtain ⟨i1, i2⟩ := ih fun r hr => h r (List.mem_cons_of_mem _ hr)
    obtain ⟨k1, k2⟩ := h r (List.mem_cons_self ..)
    simp only [rowsG, List.flatMap_cons, List.append_assoc] at i1 i2 ⊢
    exact ⟨chain_app i1 i2 (chain_row r k1 k2), nextSep_row r _⟩
theorem chain_code {m : List (List UInt8 × Lx)} {e : List UInt8} (hm : Chain m e) (g : List UInt8) (hg : GapB g) (c : Code) (hf : FineC c) : Chain (codeG g c ++ m) e := by
  have hfi := hf.fi; have h1 := hf.d31; have h2 := hf.width; have h3 := hf.mw
  have ht : Chain (tailG c.domain ++ m) e := ⟨g2, rfl, fun _ => .inl (by simp), g1, show c.domain ≤ 99999 by omega, fun _ => .inr rfl, g0, rfl, fun h => (by cases h), g3, rfl, fun h => (by cases h), hm⟩
  obtain ⟨hr, hs⟩ := chain_rows ht (.inl (by simp)) c.parity (fun r hr => ⟨by have := (hf.row hr).1; omega, fun x hx => ((hf.row hr).2 x hx).2⟩)
  have hw : (Lx.word c.name).Ok := hf.wd
  unfold codeG
  rw [List.append_assoc, List.append_assoc]
  exact ⟨hg, rfl, fun _ => .inl (by simp), g1, hw, fun _ => .inl (by simp), g1, rfl, fun h => (by cases h), g2, rfl, fun _ => .inl (by simp), g1, show c.field ≤ 99999 by omega, fun _ => .inr rfl, g0, rfl, fun h => (by cases h), g2, rfl, fun _ => .inl (by simp), g1,
    show c.data ≤ 99999 by omega, fun _ => .inr rfl, g0, rfl, fun h => (by cases h), hr⟩
end Go.Proofs.YtppeplonnippcaaDoor.Sp
