/-
Layer 7: LangParseMatchesSpec is walked.
-/
import Derived.Test.YtppeplonnippcaaDoorH7
import Derived.Test.YtppeplonnippcaaDoorK2
set_option linter.unusedVariables false
set_option linter.unusedSimpArgs false
namespace Go.Proofs.YtppeplonnippcaaDoor
open Go.RowKit

theorem bldRow_len {x : Sp.Row} {data top : Nat} {r : List Int} (h : Sp.bldRow x data top = .ok r) : r.length = data := by
  unfold Sp.bldRow at h
  repeat' split at h
  all_goals first | (injection h with h; rw [← h, Sp.fillR_len, List.length_replicate]) | cases h
theorem bldRows_fine {data top : Nat} {l : List Sp.Row} : ∀ {acc rows : List (List Int)}, Sp.bldRows data top acc l = .ok rows → acc.length ≤ 32 → (∀ r ∈ acc, r.length ≤ data) → rows.length ≤ 32 ∧ ∀ r ∈ rows, r.length ≤ data := by
  induction l with
  | nil => intro acc rows h h1 h2; simp only [Sp.bldRows, Except.ok.injEq] at h; subst h; exact ⟨h1, h2⟩
  | cons x l ih =>
    intro acc rows h h1 h2
    simp only [Sp.bldRows] at h
    split at h
    · rename_i hw
      split at h
      · cases h
      · rename_i r hr
        refine ih h (by simp only [List.length_append, List.length_singleton]; omega) (fun y hy => ?_)
        rcases List.mem_append.1 hy with hy | hy
        · exact h2 y hy
        · rw [List.mem_singleton.1 hy]
          exact Nat.le_of_eq (bldRow_len hr)
    · cases h
theorem bld_small {s : Sp.Src} {c : Sp.Code} (h : Sp.bld s = .ok c) : Small c := by
  unfold Sp.bld at h
  split at h
  · cases h
  · rename_i h1
    split at h
    · cases h
    · split at h
      · cases h
      · rename_i h3
        split at h
        · cases h
        · rename_i rows hr
          split at h
          · cases h
          · injection h with h
            subst h
            obtain ⟨a, b⟩ := bldRows_fine hr (Nat.zero_le _) (fun r hr => by cases hr)
            simp only [Decidable.not_not] at h3
            exact ⟨by simp only; omega, by simp only; omega, fun x hx => by have := b x hx; omega⟩
theorem bAll_small {l : List Sp.Src} : ∀ {acc cs : List Sp.Code} {names : List (List UInt8)}, Sp.bAll acc names l = .ok cs → (∀ c ∈ acc, Small c) → ∀ c ∈ cs, Small c := by
  induction l with
  | nil => intro acc cs names h ha; simp only [Sp.bAll, Except.ok.injEq] at h; subst h; exact ha
  | cons x l ih =>
    intro acc cs names h ha
    simp only [Sp.bAll] at h
    split at h
    · cases h
    · split at h
      · cases h
      · split at h
        · cases h
        · rename_i c hc
          refine ih h (fun y hy => ?_)
          rcases List.mem_append.1 hy with hy | hy
          · exact ha y hy
          · rw [List.mem_singleton.1 hy]; exact bld_small hc
theorem parseL_small {single : Bool} {text : List UInt8} {l : List Sp.Code} (h : Sp.parseL single text = .ok l) : ∀ c ∈ l, Small c := by
  unfold Sp.parseL at h
  split at h
  · cases h
  · unfold Sp.parseTs at h
    split at h
    · cases h
    · exact bAll_small h (fun c hc => by cases hc)
theorem same_in' (c : Sp.Code) (A A2 : Option Addr) (q q2 : Nat) : sameC (inOf c A q) (inOf c A2 q2) = true := by
  unfold sameC inOf; simp

set_option maxHeartbeats 8000000 in
set_option maxRecDepth 100000 in
theorem law4_any (s : ByteArray) (w : World) (he : Env w) : Calls Tryd.prog 4 #[.string s] w fun e w' => e = .returned (.bool true) ∧ Below w.heap.size w w' := by
  have HE := Lib.hid he
  have CS : Hid (∀ W, Below w.heap.size w W → Calls Tryd.prog 13 #[] W fun e W' => e = .returned (.bool true) ∧ Below W.heap.size W W') := Lib.hid fun W h => sanity_any W (HE.out.below h)
  have CR := Lib.hid fun W => rParse_any s W
  clear he
  rcases hp : Sp.parseL true s.data.toList with ⟨p, er⟩ | l
  · have C := Lib.hid (parse_bad s p er p er w HE.out hp rfl rfl)
    have H1 : Rp.parse1 s.data.toList = .error (p, er) := by rw [Rp.parse1_eq, hp]
    rw [H1] at CR
    have CZ : Hid (∀ W, Calls Tryd.prog 17 #[z24v, z24v] W fun e W' => e = .returned (.bool true) ∧ Below W.heap.size W W') := Lib.hid fun W => refSame_any zeroC zeroC W (zero_ok W) (zero_ok W)
    clear hp H1
    unfold z24v at C CZ
    go_enter Tryd.func4, Tryd.ntmps4
    go_wp2_with fail
    refine C.out.mono ?_
    rintro e w1 ⟨rfl, hb1⟩
    have HB1 := Lib.hid hb1
    have hx := heap_alloc_new w1 (.cells #[.string ⟨#[]⟩, .int .i64 0, .int .i64 0, .slice none 0 0, .int .i64 0] 24)
    have hb1' := hb1.alloc hb1.size (.cells #[.string ⟨#[]⟩, .int .i64 0, .int .i64 0, .slice none 0 0, .int .i64 0] 24)
    have HX := Lib.hid hx; have HB1' := Lib.hid hb1'
    clear hb1 hx hb1' C
    go_wp2_with fail
    refine (CR.out _).mono ?_
    rintro e w2 ⟨hh, hb2⟩
    dsimp only at hh
    subst hh
    have hX2 := (hb2.block _ (lt_of_block HX.out)).trans HX.out
    have hlt := lt_of_block hX2
    have hx2 := blk_old hX2 (.cells #[.string ⟨#[]⟩, .int .i64 0, .int .i64 0, .slice none 0 0, .int .i64 0] 24)
    have hy2 := heap_alloc_new w2 (.cells #[.string ⟨#[]⟩, .int .i64 0, .int .i64 0, .slice none 0 0, .int .i64 0] 24)
    have hB2 := (HB1'.out.trans (hb2.mono HB1'.out.size))
    have hB2' := hB2.alloc hB2.size (.cells #[.string ⟨#[]⟩, .int .i64 0, .int .i64 0, .slice none 0 0, .int .i64 0] 24)
    have CS2 := Lib.hid (CS.out _ hB2')
    have HX2 := Lib.hid hx2; have HY2 := Lib.hid hy2; have HB2 := Lib.hid hB2'
    clear hb2 hX2 hx2 hy2 hB2 hB2' CS CR HX HB1 HB1'
    go_wp2_with fail
    refine CS2.out.mono ?_
    rintro e w3 ⟨rfl, hb3⟩
    have hX3 := (hb3.block _ (lt_of_block HX2.out)).trans HX2.out
    have hY3 := (hb3.block _ (lt_of_block HY2.out)).trans HY2.out
    have HB3 := Lib.hid (HB2.out.trans (hb3.mono HB2.out.size))
    have hxl := lt_of_block hX3; have hyl := lt_of_block hY3
    have x0 := blk_c hX3 0; have x1 := blk_c hX3 1; have x2 := blk_c hX3 2; have x3 := blk_c hX3 3; have x4 := blk_c hX3 4
    have y0 := blk_c hY3 0; have y1 := blk_c hY3 1; have y2 := blk_c hY3 2; have y3 := blk_c hY3 3; have y4 := blk_c hY3 4
    clear hb3 hX3 hY3
    go_wp2_with fail
    refine (CZ.out _).mono ?_
    rintro e w4 ⟨rfl, hb4⟩
    have HB4 := Lib.hid (HB3.out.trans (hb4.mono HB3.out.size))
    clear hb4
    go_wp2_with fail
    go_ret
    exact ⟨rfl, HB4.out⟩
  · have hl := Sp.parseL_one hp
    obtain ⟨c, rfl⟩ := List.length_eq_one_iff.1 hl
    have hsm := parseL_small hp c (by simp)
    have C := Lib.hid (parse_ok s c w HE.out hp hsm)
    have H1 : Rp.parse1 s.data.toList = .ok c := by rw [Rp.parse1_eq, hp]; rfl
    rw [H1] at CR
    have HSM := Lib.hid hsm
    clear hp H1 hl hsm
    go_enter Tryd.func4, Tryd.ntmps4
    go_wp2_with fail
    refine C.out.mono ?_
    rintro e w1 ⟨A1, q1, rfl, hok1, hb1⟩
    have HO1 := Lib.hid hok1
    unfold CodeIn.v inOf
    dsimp only
    have hx := heap_alloc_new w1 (.cells #[.string (bs c.name), .int .i64 c.field, .int .i64 c.data, .slice A1 c.parity.length q1, .int .i64 c.domain] 24)
    have hb1' := hb1.alloc hb1.size (.cells #[.string (bs c.name), .int .i64 c.field, .int .i64 c.data, .slice A1 c.parity.length q1, .int .i64 c.domain] 24)
    have HO1' := Lib.hid (hok1.below ((Below.refl _ _).alloc (Nat.le_refl _) (.cells #[.string (bs c.name), .int .i64 c.field, .int .i64 c.data, .slice A1 c.parity.length q1, .int .i64 c.domain] 24)))
    have HX := Lib.hid hx; have HB1' := Lib.hid hb1'
    clear hb1 hx hb1' C hok1
    go_wp2_with fail
    refine (CR.out _).mono ?_
    rintro e w2 ⟨⟨v2, hret, hcv⟩, hb2⟩
    obtain ⟨A2, q2, hv2, hok2⟩ := hcv.inOf HSM.out
    subst hv2
    subst hret
    unfold CodeIn.v inOf
    dsimp only
    have hX2 := (hb2.block _ (lt_of_block HX.out)).trans HX.out
    have hlt := lt_of_block hX2
    have hx2 := blk_old hX2 (.cells #[.string (bs c.name), .int .i64 c.field, .int .i64 c.data, .slice A2 c.parity.length q2, .int .i64 c.domain] 24)
    have hy2 := heap_alloc_new w2 (.cells #[.string (bs c.name), .int .i64 c.field, .int .i64 c.data, .slice A2 c.parity.length q2, .int .i64 c.domain] 24)
    have hB2 := (HB1'.out.trans (hb2.mono HB1'.out.size))
    have hB2' := hB2.alloc hB2.size (.cells #[.string (bs c.name), .int .i64 c.field, .int .i64 c.data, .slice A2 c.parity.length q2, .int .i64 c.domain] 24)
    have CS2 := Lib.hid (CS.out _ hB2')
    have HO1b := Lib.hid ((HO1'.out.below hb2).below ((Below.refl _ _).alloc (Nat.le_refl _) (.cells #[.string (bs c.name), .int .i64 c.field, .int .i64 c.data, .slice A2 c.parity.length q2, .int .i64 c.domain] 24)))
    have HO2b := Lib.hid (hok2.below ((Below.refl _ _).alloc (Nat.le_refl _) (.cells #[.string (bs c.name), .int .i64 c.field, .int .i64 c.data, .slice A2 c.parity.length q2, .int .i64 c.domain] 24)))
    have HX2 := Lib.hid hx2; have HY2 := Lib.hid hy2; have HB2 := Lib.hid hB2'
    clear hb2 hX2 hx2 hy2 hB2 hB2' CS CR HX HB1' HO1 HO1' hok2 hcv
    go_wp2_with fail
    refine CS2.out.mono ?_
    rintro e w3 ⟨rfl, hb3⟩
    have hX3 := (hb3.block _ (lt_of_block HX2.out)).trans HX2.out
    have hY3 := (hb3.block _ (lt_of_block HY2.out)).trans HY2.out
    have HB3 := Lib.hid (HB2.out.trans (hb3.mono HB2.out.size))
    have hxl := lt_of_block hX3; have hyl := lt_of_block hY3
    have x0 := blk_c hX3 0; have x1 := blk_c hX3 1; have x2 := blk_c hX3 2; have x3 := blk_c hX3 3; have x4 := blk_c hX3 4
    have y0 := blk_c hY3 0; have y1 := blk_c hY3 1; have y2 := blk_c hY3 2; have y3 := blk_c hY3 3; have y4 := blk_c hY3 4
    have CZ := Lib.hid (refSame_any (inOf c A1 q1) (inOf c A2 q2) w3 (HO1b.out.below hb3) (HO2b.out.below hb3))
    rw [same_in'] at CZ
    unfold CodeIn.v inOf at CZ
    dsimp only at CZ
    clear hb3 hX3 hY3
    go_wp2_with fail
    refine CZ.out.mono ?_
    rintro e w4 ⟨rfl, hb4⟩
    have HB4 := Lib.hid (HB3.out.trans (hb4.mono HB3.out.size))
    clear hb4
    go_wp2_with fail
    go_ret
    exact ⟨rfl, HB4.out⟩
end Go.Proofs.YtppeplonnippcaaDoor
