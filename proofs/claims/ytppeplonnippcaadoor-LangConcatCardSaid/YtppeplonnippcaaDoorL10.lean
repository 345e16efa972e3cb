/-
The texts of at most eight codes of different names, one after another, are parsed as these codes. The given card, for every input: its row lists variables of the library, tied to the program's text.
-/
import Derived.ChangeMaps5
import Derived.Test.YtppeplonnippcaaDoorD4
import Derived.Test.YtppeplonnippcaaDoorD9
set_option linter.unusedVariables false
set_option linter.unusedSimpArgs false
namespace Go.Proofs.YtppeplonnippcaaDoor
open Go.ChangeShapes Go.WideShapes Go.ChangeAt Go.RowKit Go.Deep

set_option maxRecDepth 100000 in
theorem lifted10 (os : Os) (started : os.Started) (H : Type) (enc : TypeId × Value → H) :
    ReturnsInHanded {} Tryd.checked os 10 .any (fun w args => (Rows.langConcatSpec.pre enc Tryd.prog Tryd.f10 Rows.langConcatRow.domain false w args ∧ laidMetH Tryd.prog Rows.langConcatRow.laid w) ∧ sizedMet enc Tryd.prog Tryd.f10 (OpenSpec.ofChange Rows.langConcatSpec) false w args)
      (Rows.langConcatSpec.post enc Tryd.prog Tryd.f10 false true false false) := by
  refine returnsInHanded_of_change_and (C := Tryd.checked) (X := fun w _ => laidMetH Tryd.prog Rows.langConcatRow.laid w) (fun _ _ _ hh h => h.of_heap hh) own started (by kernel_rfl) Tryd.func10
    (ChangeSpec.witness_shaped (enc := enc) (C := Tryd.checked) (os := os) (X := fun w _ => laidMetH Tryd.prog Rows.langConcatRow.laid w) false (World.laidAll Tryd.prog os Rows.langConcatRow.laid) #[.slice none 0 0] 8 (World.laidAll_os _ _ _)
      (World.shaped_of_ZipB (by kernel_rfl) (by kernel_rfl)) (by kernel_rfl) (by kernel_rfl) (by kernel_rfl)
      (by rw [MakeChecks.laidMetH_plain _ _ _ (by kernel_rfl)]; exact laidMet_laidAll _ (by kernel_rfl) (by kernel_rfl))) ?_
  intro W base args ds gs before hval0 hW hc hz hL _
  have hval : ∀ (j : Nat) t v, Tryd.f10.params[j]? = some t → args[j]? = some v → Value.okWide Tryd.prog W .any base t v := hval0
  have hW' := hW
  obtain ⟨p, q, hA0, hV, rfl, _, _⟩ := hW
  have hA : DataW.TrodAll enc Tryd.prog W 0 (fun _ => true) true Tryd.f10.params.toList args.toList ds p := hA0
  rw [Tryd.params10] at hA hval
  obtain ⟨v0, d0, rfl, rfl, h0⟩ := trodAll_one hA
  obtain ⟨rfl, rfl⟩ := trodVars_none hV
  have hz' : ∀ n ∈ DataW.weights Tryd.prog 34 d0 ++ ([]), n ≤ reachBytes := by
    have : (DataW.weights Tryd.prog 34 d0 ++ ([])).all (· ≤ reachBytes) = true := by rw [Tryd.params10] at hz; exact hz
    intro n hn
    simpa using List.all_eq_true.1 this n hn
  obtain ⟨A0, l0, c0, rfl, ca0, cq0, cl0, cx0⟩ := open_codes (hval 0 34 _ rfl rfl) h0 (fun n hn => hz' n (List.mem_append_left _ hn))
  have hE : Env W := env_of hL (by kernel_rfl) (by simp [Rows.langConcatRow]) (by simp [Rows.langConcatRow]) (by simp [Rows.langConcatRow])
  refine (law10_any A0 c0 l0 W hE ca0 cq0 cl0 cx0).mono fun e W' ⟨he, hb⟩ => ?_
  subst he
  exact ⟨_, rfl, law_post (by kernel_rfl) rfl rfl (by rw [Tryd.params10]; intro t ht; exact params_good [34] (by kernel_rfl) t (by simpa using ht)) hW' hb⟩

theorem said10 : Rows.LangConcatSaid :=
  OpenClaim.holds_of_wide 10 Tryd.f10 rfl rfl rfl rfl rfl rfl rfl ⟨rfl, rfl, rfl, rfl, rfl⟩ rfl rfl rfl rfl rfl (by kernel_rfl) Tryd.func10 (by kernel_rfl)
    (of_decide_eq_true (by kernel_rfl)) (by unfold Func.isWrapper; first | (rw [if_pos (by decide +kernel)]; kernel_rfl) | (rw [if_neg (by decide +kernel)]; exact ⟨rfl, rfl⟩))
    (fun os started H enc _ => lifted10 os started H enc)

theorem plain10 (f : FuncId) (fn : Func) (hf : Tryd.pinned.checked.prog.funcNamed "solvent/solventlaw07.LangConcat" = some f) (hfn : Tryd.pinned.checked.prog.funcs[f]? = some fn) :
    true = Tryd.pinned.checked.prog.looks [] ∧ ∀ (j : Nat) t, fn.params[j]? = some t → Tryd.pinned.checked.prog.wantsStandIn t = false := by
  obtain rfl : f = 10 := Option.some.inj ((show Tryd.prog.funcNamed "solvent/solventlaw07.LangConcat" = some 10 by kernel_rfl).symm.trans hf) |>.symm
  obtain rfl : fn = Tryd.f10 := (Option.some.inj (Tryd.func10.symm.trans hfn)).symm
  refine ⟨by kernel_rfl, fun j t ht => ?_⟩
  rw [Tryd.params10] at ht
  exact stand_good [34] (by kernel_rfl) t (by simpa using Array.mem_of_getElem? ht)

theorem langConcat_card : Rows.LangConcatCardSaid :=
  Claim7.holds_tied_plain_at .later [] _ _ _ _ said10 (fun _ h => by cases h) (by kernel_rfl) (fun _ h => by cases h) langConcat_row_tie rfl ⟨rfl, rfl⟩ (by kernel_rfl) rfl plain10 (by kernel_rfl)
#print axioms langConcat_card
end Go.Proofs.YtppeplonnippcaaDoor
