/-
Layer 7: the world that a row hands to its walk: what the listed variables hold.
-/
import Derived.Test.YtppeplonnippcaaDoorD3
import Derived.LaidMore
import Derived.Lay
import Derived.SevenTiedAt
import Derived.Stop.Joined
import Derived.Lib.LaidU8
set_option linter.unusedVariables false
set_option linter.unusedSimpArgs false
namespace Go.Proofs.YtppeplonnippcaaDoor
open Go.ChangeShapes Go.WideShapes Go.ChangeAt Go.RowKit Go.Deep

theorem gErrR : Tryd.prog.globalNamed "strconv.ErrRange" = some 6 := by kernel_rfl
theorem gType5 : (Tryd.prog.globals[5]?).map (·.type) = some 48 := by kernel_rfl
theorem gType2 : (Tryd.prog.globals[2]?).map (·.type) = some 128 := by kernel_rfl
theorem row3 : Rows.laid_internal_strconv_uint64pow10 = (Lib.tabData .u64 Lib.pow10Tab : DataW Unit) := by kernel_rfl

set_option maxRecDepth 100000 in
theorem env_of {W : World} {L : List (String × DataW Unit)} (h : laidMetH Tryd.prog L W) (hp : (L.all fun x => x.2.handleName?.isNone) = true)
    (h2 : ("internal/strconv.uint64pow10", Rows.laid_internal_strconv_uint64pow10) ∈ L) (h5 : ("strconv.ErrSyntax", Rows.laid_strconv_ErrSyntax) ∈ L) (h6 : ("strconv.ErrRange", Rows.laid_strconv_ErrRange) ∈ L) : Env W := by
  rw [MakeChecks.laidMetH_plain _ _ _ hp] at h
  refine ⟨?_, ?_, ?_⟩
  · obtain ⟨g, t, cs, fuel, p, hg, ht, hv, hd⟩ := Lib.laidMet.reads h h5
    obtain rfl := Option.some.inj (ng_es.symm.trans hg)
    obtain rfl := Option.some.inj (gType5.symm.trans ht)
    obtain ⟨_, u, v, hc, _, _⟩ := iface_of_trod Tryd.underlying48 hd
    refine ⟨u, v, hv.trans ?_⟩
    congr 1
    exact Array.toList_inj.1 hc
  · obtain ⟨g, t, cs, fuel, p, hg, ht, hv, hd⟩ := Lib.laidMet.reads h h2
    obtain rfl := Option.some.inj (ng_tab.symm.trans hg)
    obtain rfl := Option.some.inj (gType2.symm.trans ht)
    rw [row3] at hd
    unfold Lib.TabIs
    rw [hv, ← Lib.cells_of_tab Tryd.underlying128 Tryd.underlying121 (by kernel_rfl) (by kernel_rfl) hd]
  · obtain ⟨g, t, cs, fuel, p, hg, ht, hv, hd⟩ := Lib.laidMet.reads h h6
    unfold World.var? at hv
    simp only [gErrR, Option.bind_some] at hv
    have : 6 < W.heap.size := by
      rcases Nat.lt_or_ge 6 W.heap.size with h | h
      · exact h
      · rw [Array.getElem?_eq_none h] at hv; cases hv
    unfold NG; omega
theorem params_good (l : List TypeId) (h : (l.all fun t => Tryd.prog.readableRec t && decide (t < Tryd.prog.types.size)) = true) : ∀ t ∈ l, Tryd.prog.readableRec t = true ∧ t < Tryd.prog.types.size := fun t ht => by
  have := List.all_eq_true.1 h t ht
  simpa using this
theorem stand_good (l : List TypeId) (h : (l.all fun t => !Tryd.prog.wantsStandIn t) = true) : ∀ t ∈ l, Tryd.prog.wantsStandIn t = false := fun t ht => by
  have := List.all_eq_true.1 h t ht
  simpa using this
end Go.Proofs.YtppeplonnippcaaDoor
