/-
Other gaps between the tokens of a printed code do not change the code that is parsed. The given card, for every input: its row lists variables of the library, tied to the program's text.
-/
import Derived.ChangeMaps5
import Derived.Test.YtppeplonnippcaaDoorD4
import Derived.Test.YtppeplonnippcaaDoorE1
set_option linter.unusedVariables false
set_option linter.unusedSimpArgs false
namespace Go.Proofs.YtppeplonnippcaaDoor
open Go.ChangeShapes Go.WideShapes Go.ChangeAt Go.RowKit Go.Deep

set_option maxRecDepth 100000 in
theorem lifted8 (os : Os) (started : os.Started) (H : Type) (enc : TypeId × Value → H) :
    ReturnsInHanded {} Tryd.checked os 8 .any (fun w args => (Rows.langSpacesSpec.pre enc Tryd.prog Tryd.f8 Rows.langSpacesRow.domain false w args ∧ laidMetH Tryd.prog Rows.langSpacesRow.laid w) ∧ sizedMet enc Tryd.prog Tryd.f8 (OpenSpec.ofChange Rows.langSpacesSpec) false w args)
      (Rows.langSpacesSpec.post enc Tryd.prog Tryd.f8 false true false false) := by
  refine returnsInHanded_of_change_and (C := Tryd.checked) (X := fun w _ => laidMetH Tryd.prog Rows.langSpacesRow.laid w) (fun _ _ _ hh h => h.of_heap hh) own started (by kernel_rfl) Tryd.func8
    (ChangeSpec.witness_shaped (enc := enc) (C := Tryd.checked) (os := os) (X := fun w _ => laidMetH Tryd.prog Rows.langSpacesRow.laid w) false (World.laidAll Tryd.prog os Rows.langSpacesRow.laid) #[z24v, .slice none 0 0] 8 (World.laidAll_os _ _ _)
      (World.shaped_of_ZipB (by kernel_rfl) (by kernel_rfl)) (by kernel_rfl) (by kernel_rfl) (by kernel_rfl)
      (by rw [MakeChecks.laidMetH_plain _ _ _ (by kernel_rfl)]; exact laidMet_laidAll _ (by kernel_rfl) (by kernel_rfl))) ?_
  intro W base args ds gs before hval0 hW hc hz hL _
  have hval : ∀ (j : Nat) t v, Tryd.f8.params[j]? = some t → args[j]? = some v → Value.okWide Tryd.prog W .any base t v := hval0
  have hW' := hW
  obtain ⟨p, q, hA0, hV, rfl, _, _⟩ := hW
  have hA : DataW.TrodAll enc Tryd.prog W 0 (fun _ => true) true Tryd.f8.params.toList args.toList ds p := hA0
  rw [Tryd.params8] at hA hval
  obtain ⟨v0, v1, d0, d1, p0, p1, rfl, rfl, rfl, h0, h1⟩ := trodAll_two hA
  obtain ⟨rfl, rfl⟩ := trodVars_none hV
  have hz' : ∀ n ∈ DataW.weights Tryd.prog 24 d0 ++ (DataW.weights Tryd.prog 39 d1 ++ ([])), n ≤ reachBytes := by
    have : (DataW.weights Tryd.prog 24 d0 ++ (DataW.weights Tryd.prog 39 d1 ++ ([]))).all (· ≤ reachBytes) = true := by rw [Tryd.params8] at hz; exact hz
    intro n hn
    simpa using List.all_eq_true.1 this n hn
  obtain ⟨a0, rfl, ok0, ia0⟩ := open_code (hval 0 24 _ rfl rfl) h0 (fun n hn => hz' n (List.mem_append_left _ hn))
  obtain ⟨A1, l1, c1, rfl, ba1, bl1⟩ := open_bytes (hval 1 39 _ rfl rfl) h1
  have hG : GapsAt W := gaps_of hL (by kernel_rfl) (by simp [Rows.langSpacesRow])
  have hE : Env W := env_of hL (by kernel_rfl) (by simp [Rows.langSpacesRow]) (by simp [Rows.langSpacesRow]) (by simp [Rows.langSpacesRow])
  refine (law8_any a0 A1 c1 l1 W hE ok0 ia0 ba1 bl1 hG).mono fun e W' ⟨he, hb⟩ => ?_
  subst he
  exact ⟨_, rfl, law_post (by kernel_rfl) rfl rfl (by rw [Tryd.params8]; intro t ht; exact params_good [24, 39] (by kernel_rfl) t (by simpa using ht)) hW' hb⟩

theorem said8 : Rows.LangSpacesSaid :=
  OpenClaim.holds_of_wide 8 Tryd.f8 rfl rfl rfl rfl rfl rfl rfl ⟨rfl, rfl, rfl, rfl, rfl⟩ rfl rfl rfl rfl rfl (by kernel_rfl) Tryd.func8 (by kernel_rfl)
    (of_decide_eq_true (by kernel_rfl)) (by unfold Func.isWrapper; first | (rw [if_pos (by decide +kernel)]; kernel_rfl) | (rw [if_neg (by decide +kernel)]; exact ⟨rfl, rfl⟩))
    (fun os started H enc _ => lifted8 os started H enc)

theorem plain8 (f : FuncId) (fn : Func) (hf : Tryd.pinned.checked.prog.funcNamed "solvent/solventlaw07.LangSpaces" = some f) (hfn : Tryd.pinned.checked.prog.funcs[f]? = some fn) :
    true = Tryd.pinned.checked.prog.looks [] ∧ ∀ (j : Nat) t, fn.params[j]? = some t → Tryd.pinned.checked.prog.wantsStandIn t = false := by
  obtain rfl : f = 8 := Option.some.inj ((show Tryd.prog.funcNamed "solvent/solventlaw07.LangSpaces" = some 8 by kernel_rfl).symm.trans hf) |>.symm
  obtain rfl : fn = Tryd.f8 := (Option.some.inj (Tryd.func8.symm.trans hfn)).symm
  refine ⟨by kernel_rfl, fun j t ht => ?_⟩
  rw [Tryd.params8] at ht
  exact stand_good [24, 39] (by kernel_rfl) t (by simpa using Array.mem_of_getElem? ht)

theorem langSpaces_card : Rows.LangSpacesCardSaid :=
  Claim7.holds_tied_plain_at .later [] _ _ _ _ said8 (fun _ h => by cases h) (by kernel_rfl) (fun _ h => by cases h) langSpaces_row_tie rfl ⟨rfl, rfl⟩ (by kernel_rfl) rfl plain8 (by kernel_rfl)
#print axioms langSpaces_card
end Go.Proofs.YtppeplonnippcaaDoor
