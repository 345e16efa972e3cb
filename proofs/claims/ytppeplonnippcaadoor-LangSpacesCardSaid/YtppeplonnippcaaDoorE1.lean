/-
Layer 7: bytes as an argument bears them; the law's gaps as its row hands them over.
-/
import Derived.Test.YtppeplonnippcaaDoorD4
import Derived.Test.YtppeplonnippcaaDoorG1
set_option linter.unusedVariables false
set_option linter.unusedSimpArgs false
namespace Go.Proofs.YtppeplonnippcaaDoor
open Go.ChangeShapes Go.WideShapes Go.ChangeAt Go.RowKit Go.Deep

theorem ng_gaps : Tryd.prog.globalNamed "solvent/solventlaw07.gaps" = some 0 := by kernel_rfl
theorem gType0 : (Tryd.prog.globals[0]?).map (·.type) = some 51 := by kernel_rfl
theorem cells51 : Tryd.prog.cellsOf 51 = 5 := by kernel_rfl
theorem cells5' : Tryd.prog.cellsOf 5 = 1 := by kernel_rfl

section
variable {H : Type} {enc : TypeId × Value → H}
set_option maxRecDepth 100000 in
theorem open_bytes {w : World} {base b0 : Nat} {v : Value} {d : DataW H} {ps : List MemPlace} {r : Reach} (hv : Value.okWide Tryd.prog w r b0 39 v) (h : DataW.Trod enc Tryd.prog w base (fun _ => true) true 39 v d ps) :
    ∃ (A : Option Addr) (l : List UInt8) (q : Nat), v = .slice A l.length q ∧ BytesAt w A l ∧ l.length ≤ 9223372036854775807 := by
  obtain ⟨A, len, cap, rfl⟩ := okWide_slice Tryd.underlying39 hv
  obtain ⟨fuel, hf⟩ := h
  rcases open_slice1 Tryd.underlying39 cells5' hf with ⟨hcs, hx⟩ | ⟨a, len', cap', m, n, V, D, Pl, hcs, hb, hl, hm, hmm, hx, hel⟩
  · simp [Value.cells] at hcs
    obtain ⟨rfl, rfl, rfl⟩ := hcs
    exact ⟨none, [], 0, rfl, fun i hi => absurd hi (Nat.not_lt_zero _), Nat.zero_le _⟩
  · simp [Value.cells] at hcs
    obtain ⟨rfl, rfl, rfl⟩ := hcs
    simp only [if_true] at hmm
    subst hmm
    obtain ⟨C, hC⟩ := choose_lt (α := UInt8) (n := len) (p := fun i c => w.cell? (a.add i) = some (.int .u8 (c.toNat : Int))) (fun i hi => by
      obtain ⟨h1, h2⟩ := hel i (by omega)
      obtain ⟨z, e, _, hw⟩ := DataW.trod_int Tryd.underlying5 h2
      simp only [List.cons.injEq, and_true] at e
      have hz : 0 ≤ z ∧ z ≤ 255 := (Lit.wf_int_iff .u8 z).1 hw
      refine ⟨UInt8.ofNat z.toNat, ?_⟩
      rw [h1, e]
      have : (UInt8.ofNat z.toNat).toNat = z.toNat := by simp; omega
      rw [this]
      congr 2
      omega)
    have hlen : ((List.range len).map C).length = len := by simp
    have hmx : m ≤ maxLen := hm
    unfold maxLen at hmx
    refine ⟨some a, (List.range len).map C, m, by rw [hlen], fun i hi => ?_, by rw [hlen]; omega⟩
    have hi' : i < len := by simpa using hi
    exact ⟨a, rfl, by rw [hC i hi']; simp⟩
end

set_option maxRecDepth 100000 in
theorem gaps_of {W : World} {L : List (String × DataW Unit)} (h : laidMetH Tryd.prog L W) (hp : (L.all fun x => x.2.handleName?.isNone) = true)
    (h0 : ("solvent/solventlaw07.gaps", Rows.laid_solvent_solventlaw07_gaps) ∈ L) : GapsAt W := by
  rw [MakeChecks.laidMetH_plain _ _ _ hp] at h
  obtain ⟨g, t, cs, fuel, p, hg, ht, hv, hd⟩ := Lib.laidMet.reads h h0
  obtain rfl := Option.some.inj (ng_gaps.symm.trans hg)
  obtain rfl := Option.some.inj (gType0.symm.trans ht)
  obtain ⟨xs, m, _, hx, hcl, hxl, hat⟩ := DataW.trod_array Tryd.underlying51 hd
  rw [cells51] at hcl
  unfold World.var? at hv
  simp only [ng_gaps, Option.bind_some] at hv
  have hcell : ∀ i c, cs.toList[i]? = some c → W.cell? ⟨0, i, none⟩ = some c := by
    intro i c hi
    unfold World.cell?
    revert hv
    cases hh : W.heap[0]? with
    | none => intro hv; simp at hv
    | some o =>
      cases o <;> intro hv <;> simp_all
  have hval : ∀ i, i < 5 → ∃ s : ByteArray, cs.toList[i]? = some (.string s) ∧ (xs.map (·.1))[i]? = some (.lit (.string s.data.toList)) := by
    intro i hi
    have h1 := hat i hi
    rw [cells9, Nat.mul_one] at h1
    have hd1 : (cs.toList.drop i).take 1 = [cs.toList[i]'(by omega)] := by rw [List.drop_eq_getElem_cons (by omega)]; rfl
    rw [hd1, List.getElem?_eq_getElem (by omega)] at h1
    obtain ⟨s, e, hx1, _⟩ := DataW.trod_string Tryd.underlying9 h1
    simp only [List.cons.injEq, and_true] at e
    refine ⟨s, by rw [List.getElem?_eq_getElem (by omega), e], ?_⟩
    rw [List.getElem?_map, List.getElem?_eq_getElem (by omega), hx1]
    rfl
  have hx2 : xs.map (·.1) = [.lit (.string [32]), .lit (.string [9]), .lit (.string [10]), .lit (.string [32, 32, 10]), .lit (.string [32, 35, 32, 99, 111, 100, 101, 32, 125, 10])] := by
    have := congrArg Prod.fst hx
    unfold Rows.laid_solvent_solventlaw07_gaps at this
    simp only [DataW.agg.injEq] at this
    exact this.symm
  intro i hi
  obtain ⟨s, h1, h2⟩ := hval i hi
  rw [hcell i _ h1]
  rw [hx2] at h2
  have : s = bs s.data.toList := by apply ByteArray.ext; simp [bs]
  rcases (by omega : i = 0 ∨ i = 1 ∨ i = 2 ∨ i = 3 ∨ i = 4) with rfl | rfl | rfl | rfl | rfl
  all_goals
    simp only [List.getElem?_cons_zero, List.getElem?_cons_succ, Option.some.injEq, DataW.lit.injEq, Lit.string.injEq] at h2
    rw [this, ← h2]
    rfl
end Go.Proofs.YtppeplonnippcaaDoor
