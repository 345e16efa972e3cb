/-
A text that is cut before its last brace is no code. The given card, for every input: its row lists variables of the library, tied to the program's text.
-/
import Derived.Test.YtppeplonnippcaaDoorD4
import Derived.Test.YtppeplonnippcaaDoorD8
set_option linter.unusedVariables false
set_option linter.unusedSimpArgs false
namespace Go.Proofs.YtppeplonnippcaaDoor
open Go.ChangeShapes Go.WideShapes Go.ChangeAt Go.RowKit Go.Deep

set_option maxRecDepth 100000 in
theorem lifted9 (os : Os) (started : os.Started) (H : Type) (enc : TypeId × Value → H) :
    ReturnsInHanded {} Tryd.checked os 9 .any (fun w args => (Rows.langPrefixSpec.pre enc Tryd.prog Tryd.f9 Rows.langPrefixRow.domain false w args ∧ laidMetH Tryd.prog Rows.langPrefixRow.laid w) ∧ sizedMet enc Tryd.prog Tryd.f9 (OpenSpec.ofChange Rows.langPrefixSpec) false w args)
      (Rows.langPrefixSpec.post enc Tryd.prog Tryd.f9 false true false false) := by
  refine returnsInHanded_of_change_and (C := Tryd.checked) (X := fun w _ => laidMetH Tryd.prog Rows.langPrefixRow.laid w) (fun _ _ _ hh h => h.of_heap hh) own started (by kernel_rfl) Tryd.func9
    (ChangeSpec.witness_shaped (enc := enc) (C := Tryd.checked) (os := os) (X := fun w _ => laidMetH Tryd.prog Rows.langPrefixRow.laid w) false (World.laidAll Tryd.prog os Rows.langPrefixRow.laid) #[z24v, .int .i64 0] 8 (World.laidAll_os _ _ _)
      (World.shaped_of_ZipB (by kernel_rfl) (by kernel_rfl)) (by kernel_rfl) (by kernel_rfl) (by kernel_rfl)
      (by rw [MakeChecks.laidMetH_plain _ _ _ (by kernel_rfl)]; exact laidMet_laidAll _ (by kernel_rfl) (by kernel_rfl))) ?_
  intro W base args ds gs before hval0 hW hc hz hL _
  have hval : ∀ (j : Nat) t v, Tryd.f9.params[j]? = some t → args[j]? = some v → Value.okWide Tryd.prog W .any base t v := hval0
  have hW' := hW
  obtain ⟨p, q, hA0, hV, rfl, _, _⟩ := hW
  have hA : DataW.TrodAll enc Tryd.prog W 0 (fun _ => true) true Tryd.f9.params.toList args.toList ds p := hA0
  rw [Tryd.params9] at hA hval
  obtain ⟨v0, v1, d0, d1, p0, p1, rfl, rfl, rfl, h0, h1⟩ := trodAll_two hA
  obtain ⟨rfl, rfl⟩ := trodVars_none hV
  have hz' : ∀ n ∈ DataW.weights Tryd.prog 24 d0 ++ (DataW.weights Tryd.prog 3 d1 ++ ([])), n ≤ reachBytes := by
    have : (DataW.weights Tryd.prog 24 d0 ++ (DataW.weights Tryd.prog 3 d1 ++ ([]))).all (· ≤ reachBytes) = true := by rw [Tryd.params9] at hz; exact hz
    intro n hn
    simpa using List.all_eq_true.1 this n hn
  obtain ⟨a0, rfl, ok0, ia0⟩ := open_code (hval 0 24 _ rfl rfl) h0 (fun n hn => hz' n (List.mem_append_left _ hn))
  obtain ⟨a1, rfl, _⟩ := open_int Tryd.underlying3 (hval 1 3 _ rfl rfl) h1
  have hE : Env W := env_of hL (by kernel_rfl) (by simp [Rows.langPrefixRow]) (by simp [Rows.langPrefixRow]) (by simp [Rows.langPrefixRow])
  refine (law9_any a0 a1 W hE ok0 ia0).mono fun e W' ⟨he, hb⟩ => ?_
  subst he
  exact ⟨_, rfl, law_post (by kernel_rfl) rfl rfl (by rw [Tryd.params9]; intro t ht; exact params_good [24, 3] (by kernel_rfl) t (by simpa using ht)) hW' hb⟩

theorem said9 : Rows.LangPrefixSaid :=
  OpenClaim.holds_of_wide 9 Tryd.f9 rfl rfl rfl rfl rfl rfl rfl ⟨rfl, rfl, rfl, rfl, rfl⟩ rfl rfl rfl rfl rfl (by kernel_rfl) Tryd.func9 (by kernel_rfl)
    (of_decide_eq_true (by kernel_rfl)) (by unfold Func.isWrapper; first | (rw [if_pos (by decide +kernel)]; kernel_rfl) | (rw [if_neg (by decide +kernel)]; exact ⟨rfl, rfl⟩))
    (fun os started H enc _ => lifted9 os started H enc)

theorem plain9 (f : FuncId) (fn : Func) (hf : Tryd.pinned.checked.prog.funcNamed "solvent/solventlaw07.LangPrefix" = some f) (hfn : Tryd.pinned.checked.prog.funcs[f]? = some fn) :
    true = Tryd.pinned.checked.prog.looks [] ∧ ∀ (j : Nat) t, fn.params[j]? = some t → Tryd.pinned.checked.prog.wantsStandIn t = false := by
  obtain rfl : f = 9 := Option.some.inj ((show Tryd.prog.funcNamed "solvent/solventlaw07.LangPrefix" = some 9 by kernel_rfl).symm.trans hf) |>.symm
  obtain rfl : fn = Tryd.f9 := (Option.some.inj (Tryd.func9.symm.trans hfn)).symm
  refine ⟨by kernel_rfl, fun j t ht => ?_⟩
  rw [Tryd.params9] at ht
  exact stand_good [24, 3] (by kernel_rfl) t (by simpa using Array.mem_of_getElem? ht)

theorem langPrefix_card : Rows.LangPrefixCardSaid :=
  Claim7.holds_tied_plain_at .later [] _ _ _ _ said9 (fun _ h => by cases h) (by kernel_rfl) (fun _ h => by cases h) langPrefix_row_tie rfl ⟨rfl, rfl⟩ (by kernel_rfl) rfl plain9 (by kernel_rfl)
#print axioms langPrefix_card
end Go.Proofs.YtppeplonnippcaaDoor
