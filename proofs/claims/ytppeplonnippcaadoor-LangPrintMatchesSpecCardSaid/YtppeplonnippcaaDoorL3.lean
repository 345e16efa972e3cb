/-
LangPrintMatchesSpec holds of every two codes: Check and Print of the first one, and Same of both, are those of the reference. The given card, for every input: its row lists five variables of the library, tied to the program's text.
-/
import Derived.Test.YtppeplonnippcaaDoorD4
set_option linter.unusedVariables false
set_option linter.unusedSimpArgs false
namespace Go.Proofs.YtppeplonnippcaaDoor
open Go.ChangeShapes Go.WideShapes Go.ChangeAt Go.RowKit Go.Deep

set_option maxRecDepth 100000 in
theorem lifted3 (os : Os) (started : os.Started) (H : Type) (enc : TypeId × Value → H) :
    ReturnsInHanded {} Tryd.checked os 3 .any (fun w args => (Rows.langPrintMatchesSpecSpec.pre enc Tryd.prog Tryd.f3 Rows.langPrintMatchesSpecRow.domain false w args ∧ laidMetH Tryd.prog Rows.langPrintMatchesSpecRow.laid w) ∧ sizedMet enc Tryd.prog Tryd.f3 (OpenSpec.ofChange Rows.langPrintMatchesSpecSpec) false w args)
      (Rows.langPrintMatchesSpecSpec.post enc Tryd.prog Tryd.f3 false true false false) := by
  refine returnsInHanded_of_change_and (C := Tryd.checked) (X := fun w _ => laidMetH Tryd.prog Rows.langPrintMatchesSpecRow.laid w) (fun _ _ _ hh h => h.of_heap hh) own started (by kernel_rfl) Tryd.func3
    (ChangeSpec.witness_shaped (enc := enc) (C := Tryd.checked) (os := os) (X := fun w _ => laidMetH Tryd.prog Rows.langPrintMatchesSpecRow.laid w) false (World.laidAll Tryd.prog os Rows.langPrintMatchesSpecRow.laid) #[z24v, z24v] 8 (World.laidAll_os _ _ _)
      (World.shaped_of_ZipB (by kernel_rfl) (by kernel_rfl)) (by kernel_rfl) (by kernel_rfl) (by kernel_rfl)
      (by rw [MakeChecks.laidMetH_plain _ _ _ (by kernel_rfl)]; exact laidMet_laidAll _ (by kernel_rfl) (by kernel_rfl))) ?_
  intro W base args ds gs before hval0 hW hc hz hL _
  have hval : ∀ (j : Nat) t v, Tryd.f3.params[j]? = some t → args[j]? = some v → Value.okWide Tryd.prog W .any base t v := hval0
  have hW' := hW
  obtain ⟨p, q, hA0, hV, rfl, _, _⟩ := hW
  have hA : DataW.TrodAll enc Tryd.prog W 0 (fun _ => true) true Tryd.f3.params.toList args.toList ds p := hA0
  rw [Tryd.params3] at hA hval
  obtain ⟨v0, v1, d0, d1, p0, p1, rfl, rfl, rfl, h0, h1⟩ := trodAll_two hA
  obtain ⟨rfl, rfl⟩ := trodVars_none hV
  have hz' : ∀ n ∈ DataW.weights Tryd.prog 24 d0 ++ (DataW.weights Tryd.prog 24 d1 ++ []), n ≤ reachBytes := by
    have : (DataW.weights Tryd.prog 24 d0 ++ (DataW.weights Tryd.prog 24 d1 ++ [])).all (· ≤ reachBytes) = true := by rw [Tryd.params3] at hz; exact hz
    intro n hn
    simpa using List.all_eq_true.1 this n hn
  obtain ⟨a, rfl, oka, ia⟩ := open_code (hval 0 24 _ rfl rfl) h0 (fun n hn => hz' n (List.mem_append_left _ hn))
  obtain ⟨b, rfl, okb, _⟩ := open_code (hval 1 24 _ rfl rfl) h1 (fun n hn => hz' n (List.mem_append_right _ (List.mem_append_left _ hn)))
  have hE : Env W := env_of hL (by kernel_rfl) (by simp [Rows.langPrintMatchesSpecRow]) (by simp [Rows.langPrintMatchesSpecRow]) (by simp [Rows.langPrintMatchesSpecRow])
  refine (law3_any a b W hE oka okb ia).mono fun e W' ⟨he, hb⟩ => ?_
  subst he
  exact ⟨_, rfl, law_post (by kernel_rfl) rfl rfl (by rw [Tryd.params3]; intro t ht; have ht' : t = 24 := by simpa using ht
                                                      subst ht'; exact ⟨by kernel_rfl, of_decide_eq_true (by kernel_rfl)⟩) hW' hb⟩

theorem said3 : Rows.LangPrintMatchesSpecSaid :=
  OpenClaim.holds_of_wide 3 Tryd.f3 rfl rfl rfl rfl rfl rfl rfl ⟨rfl, rfl, rfl, rfl, rfl⟩ rfl rfl rfl rfl rfl (by kernel_rfl) Tryd.func3 (by kernel_rfl)
    (of_decide_eq_true (by kernel_rfl)) (by unfold Func.isWrapper; first | (rw [if_pos (by decide +kernel)]; kernel_rfl) | (rw [if_neg (by decide +kernel)]; exact ⟨rfl, rfl⟩))
    (fun os started H enc _ => lifted3 os started H enc)

theorem plain3 (f : FuncId) (fn : Func) (hf : Tryd.pinned.checked.prog.funcNamed "solvent/solventlaw07.LangPrintMatchesSpec" = some f) (hfn : Tryd.pinned.checked.prog.funcs[f]? = some fn) :
    true = Tryd.pinned.checked.prog.looks [] ∧ ∀ (j : Nat) t, fn.params[j]? = some t → Tryd.pinned.checked.prog.wantsStandIn t = false := by
  obtain rfl : f = 3 := Option.some.inj ((show Tryd.prog.funcNamed "solvent/solventlaw07.LangPrintMatchesSpec" = some 3 by kernel_rfl).symm.trans hf) |>.symm
  obtain rfl : fn = Tryd.f3 := (Option.some.inj (Tryd.func3.symm.trans hfn)).symm
  refine ⟨by kernel_rfl, fun j t ht => ?_⟩
  rw [Tryd.params3] at ht
  have ht' : t = 24 := by simpa using Array.mem_of_getElem? ht
  subst ht'
  exact (show Tryd.prog.wantsStandIn 24 = false by kernel_rfl)

theorem langPrintMatchesSpec_card : Rows.LangPrintMatchesSpecCardSaid :=
  Claim7.holds_tied_plain_at .later [] _ _ _ _ said3 (fun _ h => by cases h) (by kernel_rfl) (fun _ h => by cases h) langPrintMatchesSpec_row_tie rfl ⟨rfl, rfl⟩ (by kernel_rfl) rfl plain3 (by kernel_rfl)
#print axioms langPrintMatchesSpec_card
end Go.Proofs.YtppeplonnippcaaDoor
