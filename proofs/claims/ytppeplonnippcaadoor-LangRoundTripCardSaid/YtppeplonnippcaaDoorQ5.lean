/-
Layer 7: the texts of codes are parsed as the codes; what is parsed is a fine code; a text without the closing brace is no code.
-/
import Derived.Test.YtppeplonnippcaaDoorQ4
set_option linter.unusedVariables false
set_option linter.unusedSimpArgs false
namespace Go.Proofs.YtppeplonnippcaaDoor.Sp

/-! ### The texts of codes -/
def allG : List UInt8 → List Code → List (List UInt8 × Lx)
  | _, [] => []
  | g, c :: cs => codeG g c ++ allG [10] cs
def endG (g : List UInt8) : List Code → List UInt8
  | [] => g
  | _ => [10]
def prAll (cs : List Code) : List UInt8 := (cs.map prC).flatten
theorem endG_ten (cs : List Code) : endG [10] cs = [10] := by cases cs <;> rfl
theorem render_all (cs : List Code) : ∀ g, render (allG g cs) (endG g cs) = g ++ prAll cs := by
  induction cs with
  | nil => intro g; simp [allG, endG, render, prAll]
  | cons c cs ih =>
    intro g
    have h := ih [10]
    rw [endG_ten] at h
    simp only [allG, endG]
    rw [render_app, h]
    show render (codeG g c) (10 :: prAll cs) = _
    rw [render_code]
    simp [prAll]
theorem chain_all (cs : List Code) (hf : ∀ c ∈ cs, FineC c) : ∀ g, GapB g → Chain (allG g cs) (endG g cs) := by
  induction cs with
  | nil => intro g hg; exact hg
  | cons c cs ih =>
    intro g hg
    have h := ih (fun c hc => hf c (List.mem_cons_of_mem _ hc)) [10] g3
    rw [endG_ten] at h
    exact chain_code h g hg c (hf c (List.mem_cons_self ..))
theorem allG_snd (cs : List Code) : ∀ g, (allG g cs).map (·.2) = cs.flatMap lxC := by
  induction cs with
  | nil => intro g; rfl
  | cons c cs ih => intro g; simp only [allG, List.map_append, codeG_snd, ih, List.flatMap_cons]
/-- the tokens of the texts -/
theorem toks_all (cs : List Code) (hf : ∀ c ∈ cs, FineC c) : ∃ ts t, toks 0 (prAll cs) = ts ++ [t] ∧ t.kind = 4 ∧ Mt ts (cs.flatMap lxC) := by
  have h := toks_render (allG [] cs) (endG [] cs) 0 (chain_fits _ _ (chain_all cs hf [] g0))
  rw [render_all, List.nil_append] at h
  obtain ⟨ts, t, h1, h2, h3⟩ := toksOf_split (allG [] cs) (endG [] cs) 0
  rw [allG_snd] at h3
  exact ⟨ts, t, h.trans h1, h2, h3⟩

def SrcsAre : List Src → List Code → Prop
  | [], [] => True
  | s :: ss, c :: cs => SrcIs s c.name c.field c.data c.parity c.domain ∧ SrcsAre ss cs
  | _, _ => False
theorem FineC.pos {c : Code} (h : FineC c) : ∀ r ∈ c.parity, ∃ x ∈ r, 0 < x := fun r hr => (rowOk_facts (h.each r hr)).2.2
theorem Mt.head {ts : List Tok} {c : Code} {l : List Lx} (h : Mt ts (lxC c ++ l)) : (hd ts).kind = 1 := by
  unfold lxC lxCode at h
  obtain ⟨t, r, rfl, h1, _⟩ := h
  exact h1.word.2
theorem pAll_yes {cs : List Code} : ∀ {ts : List Tok} {t : Tok} {acc : List Src}, Mt ts (cs.flatMap lxC) → t.kind = 4 → (∀ c ∈ cs, FineC c) → ∃ ss, pAll false acc (ts ++ [t]) = .ok (acc ++ ss) ∧ SrcsAre ss cs := by
  induction cs with
  | nil =>
    intro ts t acc h ht _
    rw [show ts = [] from h]
    exact ⟨[], by rw [List.append_nil]; exact pAll_end ht (by simp), trivial⟩
  | cons c cs ih =>
    intro ts t acc h ht hf
    rw [List.flatMap_cons] at h
    have hk := h.head
    obtain ⟨us, vs, rfl, h1, h2⟩ := h.split
    have hfc := hf c (List.mem_cons_self ..)
    obtain ⟨s, hs, hi⟩ := pCode_yes (rest := vs ++ [t]) h1 hfc.ne hfc.pos
    obtain ⟨ss, hss, hj⟩ := ih (acc := acc ++ [s]) h2 ht (fun c hc => hf c (List.mem_cons_of_mem _ hc))
    refine ⟨s :: ss, ?_, hi, hj⟩
    have hk' : (hd (us ++ (vs ++ [t]))).kind = 1 := by
      cases us with
      | nil => exact absurd (show ([] : List Tok) = [] from rfl) (by unfold lxC lxCode at h1; obtain ⟨_, _, e, _⟩ := h1; cases e)
      | cons a us => exact hk
    rw [List.append_assoc, pAll_ok ⟨fun hh => (by rw [hk'] at hh; omega), fun hh => (by cases hh.1)⟩ hs, hss, List.append_assoc]; rfl
theorem pOne_code {c : Code} {ts : List Tok} {t : Tok} (h : Mt ts (lxC c)) (ht : t.kind = 4) (hf : FineC c) : ∃ s, pAll true [] (ts ++ [t]) = .ok [s] ∧ SrcIs s c.name c.field c.data c.parity c.domain := by
  obtain ⟨s, hs, hi⟩ := pCode_yes (rest := [t]) h hf.ne hf.pos
  refine ⟨s, ?_, hi⟩
  rw [pAll_ok ⟨fun hh => hh.2 ⟨rfl, rfl⟩, fun hh => hh.2 rfl⟩ hs]
  exact pAll_end ht (by simp)
theorem bAll_yes {cs : List Code} : ∀ {ss : List Src} {acc : List Code} {names : List (List UInt8)}, SrcsAre ss cs → (∀ c ∈ cs, FineC c) → acc.length + cs.length ≤ 8 → (cs.map (·.name)).Nodup → (∀ c ∈ cs, c.name ∉ names) →
    bAll acc names ss = .ok (acc ++ cs) := by
  induction cs with
  | nil =>
    intro ss acc names h _ _ _ _
    cases ss with
    | nil => simp [bAll]
    | cons s ss => exact absurd h (by simp [SrcsAre])
  | cons c cs ih =>
    intro ss acc names h hf hl hn hm
    cases ss with
    | nil => exact absurd h (by simp [SrcsAre])
    | cons s ss =>
      obtain ⟨h1, h2⟩ := h
      simp only [List.length_cons] at hl
      simp only [List.map_cons, List.nodup_cons] at hn
      have hb : bld s = .ok c := bld_yes h1 (hf c (List.mem_cons_self ..))
      rw [bAll_ok (by omega) (by rw [h1.name]; exact hm c (List.mem_cons_self ..)) hb]
      rw [ih h2 (fun c hc => hf c (List.mem_cons_of_mem _ hc)) (by rw [List.length_append]; simp; omega) hn.2 (fun c' hc' => ?_), List.append_assoc]; rfl
      rw [List.mem_append, not_or, h1.name]
      refine ⟨hm c' (List.mem_cons_of_mem _ hc'), ?_⟩
      intro e
      rw [List.mem_singleton] at e
      exact hn.1 (by rw [← e]; exact List.mem_map_of_mem hc')
theorem parse_all {cs : List Code} (hf : ∀ c ∈ cs, FineC c) (hl : cs.length ≤ 8) (hn : (cs.map (·.name)).Nodup) (ht : (prAll cs).length ≤ 2000) : parseL false (prAll cs) = .ok cs := by
  obtain ⟨ts, t, h1, h2, h3⟩ := toks_all cs hf
  obtain ⟨ss, h4, h5⟩ := pAll_yes (acc := []) h3 h2 hf
  unfold parseL
  rw [if_neg (by omega), h1]
  unfold parseTs
  rw [h4]
  simp only [List.nil_append]
  rw [bAll_yes h5 hf (by simpa using hl) hn (by simp)]
  rfl
theorem parse_one {c : Code} (hf : FineC c) (ht : (prC c).length ≤ 2000) : parseL true (prC c) = .ok [c] := by
  obtain ⟨ts, t, h1, h2, h3⟩ := toks_all [c] (by simpa using hf)
  simp only [List.flatMap_cons, List.flatMap_nil, List.append_nil] at h3
  obtain ⟨s, h4, h5⟩ := pOne_code h3 h2 hf
  have hp : prAll [c] = prC c := by simp [prAll]
  rw [hp] at h1
  unfold parseL
  rw [if_neg (by omega), h1]
  unfold parseTs
  rw [h4]
  simp only
  rw [bAll_yes (cs := [c]) (ss := [s]) ⟨h5, trivial⟩ (by simpa using hf) (by simp) (by simp) (by simp)]
  rfl

/-! ### A code that can be printed, as the parser returns it -/
def codeOf (name : List UInt8) (f d : Int) (rows : List (List Int)) (m : Int) : Code := ⟨name, f.toNat, d.toNat, rows, m.toNat⟩
theorem codeOf_fine {name : List UInt8} {f d : Int} {rows : List (List Int)} {m : Int} (h : Fine name f d rows m) :
    FineC (codeOf name f d rows m) ∧ ((codeOf name f d rows m).field : Int) = f ∧ ((codeOf name f d rows m).data : Int) = d ∧ ((codeOf name f d rows m).domain : Int) = m := by
  have h1 := h.d1; have h2 := h.m1; have h3 := h.fi
  have e1 : ((f.toNat : Nat) : Int) = f := Int.toNat_of_nonneg (by omega)
  have e2 : ((d.toNat : Nat) : Int) = d := Int.toNat_of_nonneg (by omega)
  have e3 : ((m.toNat : Nat) : Int) = m := Int.toNat_of_nonneg (by omega)
  refine ⟨?_, e1, e2, e3⟩
  show Fine name (f.toNat : Int) (d.toNat : Int) rows (m.toNat : Int)
  rw [e1, e2, e3]; exact h
theorem pr_ok {name : List UInt8} {f d : Int} {rows : List (List Int)} {m : Int} {t : List UInt8} (h : pr name f d rows m = .ok t) : Fine name f d rows m ∧ t = prC (codeOf name f d rows m) ∧ t.length ≤ 2000 := by
  unfold pr at h
  split at h
  · rename_i hc
    have hF := ck_fine hc
    split at h
    · cases h
    · rename_i hl
      injection h with h
      obtain ⟨_, e1, e2, e3⟩ := codeOf_fine hF
      refine ⟨hF, ?_, by rw [← h]; omega⟩
      rw [← h]
      unfold prC
      rw [e1, e2, e3]; rfl
  · cases h
end Go.Proofs.YtppeplonnippcaaDoor.Sp
