/-
Layer 7: LangAllMatchesSpec is walked.
-/
import Derived.Test.YtppeplonnippcaaDoorH8
import Derived.Test.YtppeplonnippcaaDoorK2
import Derived.Test.YtppeplonnippcaaDoorK5
import Derived.Test.YtppeplonnippcaaDoorM4
set_option linter.unusedVariables false
set_option linter.unusedSimpArgs false
namespace Go.Proofs.YtppeplonnippcaaDoor
open Go.RowKit

theorem bAll_eight {l : List Sp.Src} : ∀ {acc cs : List Sp.Code} {names : List (List UInt8)}, Sp.bAll acc names l = .ok cs → acc.length ≤ 8 → cs.length ≤ 8 := by
  induction l with
  | nil => intro acc cs names h ha; simp only [Sp.bAll, Except.ok.injEq] at h; subst h; exact ha
  | cons x l ih =>
    intro acc cs names h ha
    simp only [Sp.bAll] at h
    split at h
    · cases h
    · split at h
      · cases h
      · split at h
        · cases h
        · exact ih h (by simp only [List.length_append, List.length_singleton]; omega)
theorem parseL_eight {single : Bool} {text : List UInt8} {l : List Sp.Code} (h : Sp.parseL single text = .ok l) : l.length ≤ 8 := by
  unfold Sp.parseL at h
  split at h
  · cases h
  · unfold Sp.parseTs at h
    split at h
    · cases h
    · exact bAll_eight h (Nat.zero_le _)
theorem small24' {c : Sp.Code} (h : Small c) : Small24 (toS c) := ⟨h.len, h.each⟩

set_option maxHeartbeats 8000000 in
set_option maxRecDepth 100000 in
theorem law5_any (s : ByteArray) (w : World) (he : Env w) : Calls Tryd.prog 5 #[.string s] w fun e w' => e = .returned (.bool true) ∧ Below w.heap.size w w' := by
  have HE := Lib.hid he
  have CS : Hid (∀ W, Below w.heap.size w W → Calls Tryd.prog 13 #[] W fun e W' => e = .returned (.bool true) ∧ Below W.heap.size W W') := Lib.hid fun W h => sanity_any W (HE.out.below h)
  have CR := Lib.hid fun W => rParseAll_any s W
  rw [Rp.parseAllR_eq] at CR
  have CA := Lib.hid (ParseAll_any s w he)
  clear he
  rcases hp : Sp.parseL false s.data.toList with ⟨p, er⟩ | l
  · rw [hp] at CR CA
    have CZ : Hid (∀ W, Calls Tryd.prog 22 #[.slice none 0 0, .slice none 0 0] W fun e W' => e = .returned (.bool true) ∧ Below W.heap.size W W') := Lib.hid fun W =>
      sameAll_any none none 0 0 [] W (fun i h => absurd h (Nat.not_lt_zero _)) (fun i h => absurd h (Nat.not_lt_zero _)) (Nat.zero_le _) (fun x hx => by cases hx) (Nat.le_refl _) (Nat.le_refl _)
    clear hp
    go_enter Tryd.func5, Tryd.ntmps5
    go_wp2_with fail
    refine CA.out.mono ?_
    rintro e w1 ⟨hh, hb1⟩
    dsimp only at hh
    subst hh
    have HB1 := Lib.hid hb1
    clear hb1 CA
    go_wp2_with fail
    refine (CR.out _).mono ?_
    rintro e w2 ⟨hh, hb2⟩
    dsimp only at hh
    subst hh
    have HB2 := Lib.hid (HB1.out.trans (hb2.mono HB1.out.size))
    have CS2 := Lib.hid (CS.out _ HB2.out)
    clear hb2 CR CS
    go_wp2_with fail
    refine CS2.out.mono ?_
    rintro e w3 ⟨rfl, hb3⟩
    have HB3 := Lib.hid (HB2.out.trans (hb3.mono HB2.out.size))
    clear hb3
    go_wp2_with fail
    refine (CZ.out _).mono ?_
    rintro e w4 ⟨rfl, hb4⟩
    have HB4 := Lib.hid (HB3.out.trans (hb4.mono HB3.out.size))
    clear hb4
    go_wp2_with fail
    go_ret
    exact ⟨rfl, HB4.out⟩
  · rw [hp] at CR CA
    have hl8 := parseL_eight hp
    have hsm : ∀ x ∈ l.map toS, Small24 x := fun x hx => by
      obtain ⟨c, hc, rfl⟩ := List.mem_map.1 hx
      exact small24' (parseL_small hp c hc)
    have HSM := Lib.hid hsm
    have hm8 : (l.map toS).length ≤ 8 := by rw [List.length_map]; exact hl8
    clear hp hsm hl8
    go_enter Tryd.func5, Tryd.ntmps5
    go_wp2_with fail
    refine CA.out.mono ?_
    rintro e w1 ⟨⟨v1, hret, hcv⟩, hb1⟩
    obtain ⟨A1, q1, hv1, hq1, hca1⟩ := hcv.codesAt
    rw [List.length_map] at hv1
    subst hv1
    subst hret
    have HB1 := Lib.hid hb1; have HC1 := Lib.hid hca1
    clear hb1 hca1 hcv CA
    go_wp2_with fail
    refine (CR.out _).mono ?_
    rintro e w2 ⟨⟨v2, hret, hcv⟩, hb2⟩
    obtain ⟨A2, q2, hv2, hq2, hca2⟩ := hcv.codesAt
    rw [List.length_map] at hv2
    subst hv2
    subst hret
    have HB2 := Lib.hid (HB1.out.trans (hb2.mono HB1.out.size))
    have HC1' := Lib.hid (HC1.out.below hb2); have HC2 := Lib.hid hca2
    have CS2 := Lib.hid (CS.out _ HB2.out)
    clear hb2 hca2 hcv CR CS HC1
    go_wp2_with fail
    refine CS2.out.mono ?_
    rintro e w3 ⟨rfl, hb3⟩
    have HB3 := Lib.hid (HB2.out.trans (hb3.mono HB2.out.size))
    have CZ := Lib.hid (sameAll_any A1 A2 q1 q2 (l.map toS) w3 (HC1'.out.below hb3) (HC2.out.below hb3) (by omega) HSM.out hq1 hq2)
    simp only [List.length_map] at CZ
    clear hb3
    go_wp2_with fail
    refine CZ.out.mono ?_
    rintro e w4 ⟨rfl, hb4⟩
    have HB4 := Lib.hid (HB3.out.trans (hb4.mono HB3.out.size))
    clear hb4
    go_wp2_with fail
    go_ret
    exact ⟨rfl, HB4.out⟩
end Go.Proofs.YtppeplonnippcaaDoor
