/-
Layer 7: LangSpaces is walked.
-/
import Derived.Test.YtppeplonnippcaaDoorD7
import Derived.Test.YtppeplonnippcaaDoorF
import Derived.Test.YtppeplonnippcaaDoorG0
set_option linter.unusedVariables false
set_option linter.unusedSimpArgs false
namespace Go.Proofs.YtppeplonnippcaaDoor
open Go.RowKit

/-- bytes of the caller's -/
def BytesAt (w : World) (A : Option Addr) (l : List UInt8) : Prop := ∀ i (h : i < l.length), ∃ ad, A = some ad ∧ w.cell? (ad.add i) = some (.int .u8 (l[i].toNat : Int))
theorem BytesAt.below {w w' : World} {A : Option Addr} {l : List UInt8} (h : BytesAt w A l) (k : Below w.heap.size w w') : BytesAt w' A l := fun i hi => by
  obtain ⟨ad, h1, h2⟩ := h i hi
  exact ⟨ad, h1, (k.cell (World.block_lt_of_cell? w _ h2)).trans h2⟩

/-- the law's gaps -/
def GapsAt (w : World) : Prop := ∀ i (h : i < 5), w.cell? ⟨0, i, none⟩ = some (.string (bs (Sp.gapL.getD i [])))
theorem GapsAt.below {w w' : World} (h : GapsAt w) (k : Below w.heap.size w w') : GapsAt w' := fun i hi => (k.cell (World.block_lt_of_cell? w _ (h i hi))).trans (h i hi)
theorem own_fr {w w' : World} {b base e size n : Nat} {v u : Value} {xs : List Value} (h : w.ownsRow base e size u n xs) (hf : Fr b v w w') (h1 : u.ownBlock ≠ some b) (h2 : ∀ g, u.ownBlock = some g → v.ownBlock ≠ some g) : w'.ownsRow base e size u n xs := by
  obtain ⟨h0, h⟩ := h
  refine ⟨h0, ?_⟩
  rcases h with h | ⟨g, cap, cur, rfl, hb, hh, hr⟩
  · exact .inl h
  · have hg : (Value.slice (some ⟨g, 0, none⟩) n cap).ownBlock = some g := rfl
    refine .inr ⟨g, cap, cur, rfl, hb, ?_, hr⟩
    rw [hf.block g (lt_of_block hh) (fun e => h1 (by rw [hg, e])) (h2 g hg)]
    exact hh
theorem rcells_at : ∀ (l : List Sp.Tok) (j : Nat) (hj : j < l.length) (k : Nat), k < 4 → (rcells l)[j * 4 + k]? = (rtokC l[j])[k]? := by
  intro l
  induction l with
  | nil => intro j hj; cases hj
  | cons t l ih =>
    intro j hj k hk
    have e : rcells (t :: l) = rtokC t ++ rcells l := by simp [rcells]
    rw [e]
    cases j with
    | zero => rw [Nat.zero_mul, Nat.zero_add, List.getElem?_append_left (by show k < 4; exact hk)]; rfl
    | succ j =>
      rw [List.getElem?_append_right (by show 4 ≤ _; omega)]
      have : (j + 1) * 4 + k - (rtokC t).length = j * 4 + k := by show (j + 1) * 4 + k - 4 = _; omega
      rw [this]
      exact ih j (by simpa using hj) k hk

theorem bld_ne {B b base n : Nat} {v u : Value} {l : List UInt8} {w : World} {xs : List Value} (h : Bld B b v l w) (k : w.ownsRow base 46 4 u n xs) : u.ownBlock ≠ some b := by
  rcases h.blk with h1 | h1
  · exact own_ne_type k h1 (by decide)
  · exact own_ne_type k h1 (by decide)
theorem rows_ne {B b base n : Nat} {v u : Value} {l : List UInt8} {w : World} {xs : List Value} (h : Bld B b v l w) (k : w.ownsRow base 46 4 u n xs) : ∀ g, u.ownBlock = some g → v.ownBlock ≠ some g := by
  intro g hg hv
  rcases k.2 with ⟨rfl, _⟩ | ⟨g', cap, cur, rfl, _, hh, _⟩
  · simp [Value.ownBlock] at hg
  · have : g' = g := by simpa [Value.ownBlock] using hg
    subst this
    exact own_ne_type h.own hh (by decide) hv
theorem Sp.gapAt_len (n : Nat) : (Sp.gapAt n).length ≤ 10 := by
  unfold Sp.gapAt Sp.gapL
  rcases (by omega : n / 2 % 5 = 0 ∨ n / 2 % 5 = 1 ∨ n / 2 % 5 = 2 ∨ n / 2 % 5 = 3 ∨ n / 2 % 5 = 4) with h | h | h | h | h <;> rw [h] <;> decide

set_option maxHeartbeats 4000000 in
set_option maxRecDepth 100000 in
theorem law8_any (a : CodeIn) (A2 : Option Addr) (c2 : Nat) (ch : List UInt8) (w : World) (he : Env w) (ha : a.Ok w) (hi : -9223372036854775808 ≤ a.data ∧ a.data ≤ 9223372036854775807) (hch : BytesAt w A2 ch) (hcl : ch.length ≤ 9223372036854775807) (hga : GapsAt w) :
    Calls Tryd.prog 8 #[a.v, .slice A2 ch.length c2] w fun e w' => e = .returned (.bool true) ∧ Below w.heap.size w w' := by
  have HE := Lib.hid he; have HA := Lib.hid ha; have HCH := Lib.hid hch
  have CP : Hid (∀ W, Below w.heap.size w W → Calls Tryd.prog 11 #[a.v] W (PrintPost a W)) := Lib.hid fun W h => Print_any a W (HE.out.below h) (HA.out.below h) hi
  have CS : Hid (∀ W, Below w.heap.size w W → Calls Tryd.prog 13 #[] W fun e W' => e = .returned (.bool true) ∧ Below W.heap.size W W') := Lib.hid fun W h => sanity_any W (HE.out.below h)
  have PS := Lib.hid fun h A q => cOf_same (c := a) h A q
  have HGA := Lib.hid hga
  clear he ha hi hch hga
  obtain ⟨n1, f1, d1, A1, l1, c1, m1⟩ := a
  unfold CodeIn.v at *
  dsimp only at *
  go_enter Tryd.func8, Tryd.ntmps8
  go_wp2_with fail
  have g1 : (w.alloc (.cells #[.string n1, .int .i64 f1, .int .i64 d1, .slice A1 l1.length c1, .int .i64 m1] 24)).heap[w.heap.size]? = some (.cells #[.string n1, .int .i64 f1, .int .i64 d1, .slice A1 l1.length c1, .int .i64 m1] 24 (0, 0)) := heap_alloc_new w _
  have hb0 : Below w.heap.size w (w.alloc (.cells #[.string n1, .int .i64 f1, .int .i64 d1, .slice A1 l1.length c1, .int .i64 m1] 24)) := (Below.refl _ _).alloc (Nat.le_refl _) _
  generalize w.alloc (.cells #[.string n1, .int .i64 f1, .int .i64 d1, .slice A1 l1.length c1, .int .i64 m1] 24) = V at *
  have G1 := Lib.hid g1; have B0 := Lib.hid hb0
  have hV1 := lt_of_block g1
  clear g1 hb0
  have KB : Hid (∀ W, Below V.heap.size V W → Below w.heap.size w W) := Lib.hid fun W h => B0.out.trans (h.mono (Nat.le_of_lt hV1))
  have KX : Hid (∀ W, Below V.heap.size V W → W.heap[w.heap.size]? = some (.cells #[.string n1, .int .i64 f1, .int .i64 d1, .slice A1 l1.length c1, .int .i64 m1] 24 (0, 0))) := Lib.hid fun W h => (h.block _ hV1).trans G1.out
  refine (CP.out V B0.out).mono ?_
  rintro e w1 ⟨hh, hb⟩
  have B1 := Lib.hid hb
  have hs1 : V.heap.size ≤ w1.heap.size := hb.size
  clear hb
  dsimp only at hh
  rcases hp : Sp.pr n1.data.toList f1 d1 l1 m1 with er | l
  · rw [hp] at hh
    dsimp only at hh
    subst hh
    have her : er ≠ 0 := by
      intro h0; subst h0
      unfold Sp.pr at hp
      split at hp
      · split at hp
        · injection hp with hp; omega
        · cases hp
      · rename_i hc; injection hp with hp; exact hc hp
    have hb1 : ((er : Int) != 0) = true := by simp; omega
    have hb2 : ((er : Int) == 0) = false := by rw [beq_eq_false_iff_ne]; omega
    clear hp her
    go_wp2_with fail
    refine (CS.out w1 (KB.out _ B1.out)).mono ?_
    rintro e w2 ⟨rfl, hb⟩
    have hfin := KB.out _ (B1.out.trans (hb.mono hs1))
    clear hb
    go_wp2_with fail
    go_ret
    exact ⟨rfl, hfin⟩
  · rw [hp] at hh
    dsimp only at hh
    subst hh
    obtain ⟨hFi, hle, hl2⟩ := Sp.pr_ok hp
    have HFI := Lib.hid hFi
    have HC := Lib.hid (Sp.codeOf_fine hFi).1
    clear hp
    obtain ⟨sl, hsl⟩ : ∃ s, s = bs l := ⟨_, rfl⟩
    have hsz : sl.size = l.length := by rw [hsl]; rfl
    have hdl : sl.data.toList = Sp.prC (Sp.codeOf n1.data.toList f1 d1 l1 m1) := by rw [hsl, ← hle]; exact bs_list _
    rw [← hsl]
    have HDL := Lib.hid hdl
    have hs2 : sl.size ≤ 2000 := by omega
    clear hsl hsz hdl hle hl2 hFi
    by_cases h500 : sl.size > 500
    · have h5b : decide ((sl.size : Int) > 500) = true := by rw [decide_eq_true_iff]; omega
      have h5c : decide (500 < (sl.size : Int)) = true := by rw [decide_eq_true_iff]; omega
      go_wp2_with fail
      refine (CS.out w1 (KB.out _ B1.out)).mono ?_
      rintro e w2 ⟨rfl, hb⟩
      have hfin := KB.out _ (B1.out.trans (hb.mono hs1))
      clear hb
      go_wp2_with fail
      go_ret
      exact ⟨rfl, hfin⟩
    · have h5b : decide ((sl.size : Int) > 500) = false := by rw [decide_eq_false_iff_not]; omega
      have h5c : decide (500 < (sl.size : Int)) = false := by rw [decide_eq_false_iff_not]; omega
      go_wp2_with fail
      have gb : (w1.alloc (.cells #[.pointer none, .slice none 0 0] 42)).heap[w1.heap.size]? = some (.cells #[.pointer none, .slice none 0 0] 42 (0, 0)) := heap_alloc_new w1 _
      have hb0 : Below w1.heap.size w1 (w1.alloc (.cells #[.pointer none, .slice none 0 0] 42)) := (Below.refl _ _).alloc (Nat.le_refl _) _
      have HBl0 : Hid (Bld w1.heap.size w1.heap.size (.slice none 0 0) [] (w1.alloc (.cells #[.pointer none, .slice none 0 0] 42))) := Lib.hid ⟨Nat.le_refl _, .inl gb, World.ownsRow_nil _ _ _ _, fun _ => rfl⟩
      generalize w1.alloc (.cells #[.pointer none, .slice none 0 0] 42) = U at *
      have hU := lt_of_block gb
      have EU := Lib.hid (B1.out.trans (hb0.mono hs1))
      clear gb hb0
      refine (refTokens_any sl U (by omega)).mono ?_
      rintro e w2 ⟨⟨v, rfl, hv⟩, hb⟩
      obtain ⟨T, hT⟩ : ∃ T, T = Sp.toks 0 sl.data.toList := ⟨_, rfl⟩
      rw [← hT] at hv
      have hTG := Sp.toks_G _ sl.data.toList 0 rfl
      rw [← hT] at hTG
      have hTL : T.length ≤ 501 := by have h1 := hTG.2; have h2 : sl.data.toList.length = sl.size := rfl; omega
      have HTX : Hid (∀ t ∈ T, t.txt.length ≤ 500) := Lib.hid fun t ht => by have h1 := (hTG.1 t ht).len; have h2 : sl.data.toList.length = sl.size := rfl; omega
      have HT := Lib.hid hT
      obtain ⟨At, qt, rfl⟩ := own_slice hv
      have HTK := Lib.hid hv
      have HBl2 := Lib.hid (HBl0.out.below hb)
      have E2 := Lib.hid (EU.out.trans (hb.mono EU.out.size))
      have hU2 : U.heap.size ≤ w2.heap.size := hb.size
      clear hb hv hT hTG HBl0
      go_wp2_with fail
      go_loopg [8, 9, 10, 11, 31] T.length (fun k v8 v9 v10 v11 v31 wr => ∃ (j : Nat) (v : Value) (L : List UInt8), k = T.length - j ∧ j ≤ T.length ∧ v31 = .int .i64 (j : Nat) ∧ v8 = .int .i64 (Sp.lastK 3 (T.take j) : Nat) ∧ Bld w1.heap.size w1.heap.size v L wr ∧ L = Sp.spc ch 3 0 (T.take j) ∧ L.length ≤ j * 600 ∧ RToksV U.heap.size T wr (.slice At T.length qt) ∧ Below V.heap.size V wr)
      case atStart => exact ⟨0, _, [], rfl, Nat.zero_le _, rfl, rfl, HBl2.out, rfl, Nat.le_refl _, HTK.out, E2.out⟩
      case round =>
        obtain ⟨j, v, L, hk, hj, rfl, rfl, hbld, hL, hLl, htk, hbl⟩ := hrel
        have hwr := hbl.size
        have H1 := Lib.hid hk; have H2 := Lib.hid hbld; have H3 := Lib.hid hL; have H4 := Lib.hid htk; have H5 := Lib.hid hbl
        clear hk hbld hL htk hbl
        by_cases hlt : j < T.length
        · have hltb : decide ((j : Int) < (T.length : Int)) = true := by rw [decide_eq_true_iff]; omega
          obtain ⟨g, cap, hv, hgb, hglt⟩ := World.ownsRow.form H4.out (by omega)
          simp only [Value.slice.injEq, true_and] at hv
          obtain ⟨rfl, rfl⟩ := hv
          have hcell : ∀ k v, (rtokC T[j])[k]? = some v → wr.cell? ⟨g, j * 4 + k, none⟩ = some v := fun k v hk => by
            have hk4 : k < 4 := (List.getElem?_eq_some_iff.1 hk).1
            have := World.ownsRow.cells H4.out (g := g) rfl _ _ ((rcells_at T j hlt k hk4).trans hk)
            have add : ∀ k, (⟨g, 0, none⟩ : Addr).add k = ⟨g, k, none⟩ := by intro k; unfold Addr.add; split <;> simp_all
            rwa [add] at this
          have HTM := HTX.out _ (List.getElem_mem hlt)
          have HTS := Lib.hid (List.take_succ_eq_append_getElem hlt)
          obtain ⟨t, ht⟩ : ∃ t, t = T[j] := ⟨_, rfl⟩
          rw [← ht] at hcell HTM HTS
          have z0 : wr.cell? ⟨g, j * 4, none⟩ = some (.string (bs t.txt)) := hcell 0 _ rfl
          have z1 : wr.cell? ⟨g, j * 4 + 1, none⟩ = some (.int .i64 t.at_) := hcell 1 _ rfl
          have z2 : wr.cell? ⟨g, j * 4 + 2, none⟩ = some (.int .i64 t.kind) := hcell 2 _ rfl
          have z3 : wr.cell? ⟨g, j * 4 + 3, none⟩ = some (.int .i64 t.n) := hcell 3 _ rfl
          clear hcell ht
          go_upto_region 9 with fail
          have g1 : (wr.alloc (.cells #[.string (bs t.txt), .int .i64 t.at_, .int .i64 t.kind, .int .i64 t.n] 46)).heap[wr.heap.size]? = some (.cells #[.string (bs t.txt), .int .i64 t.at_, .int .i64 t.kind, .int .i64 t.n] 46 (0, 0)) := heap_alloc_new wr _
          have hb0 : Below wr.heap.size wr (wr.alloc (.cells #[.string (bs t.txt), .int .i64 t.at_, .int .i64 t.kind, .int .i64 t.n] 46)) := (Below.refl _ _).alloc (Nat.le_refl _) _
          generalize wr.alloc (.cells #[.string (bs t.txt), .int .i64 t.at_, .int .i64 t.kind, .int .i64 t.n] 46) = Y at *
          have G1 := Lib.hid g1
          have hY1 := lt_of_block g1
          have K2 := Lib.hid (H2.out.below hb0); have K4 := Lib.hid (own_below H4.out hb0); have K5 := Lib.hid (H5.out.trans (hb0.mono hwr))
          have hbS : w1.heap.size < wr.heap.size := H2.out.lt
          generalize wr.heap.size = S at *
          have c0 : Y.cell? ⟨S, 0, none⟩ = some (.string (bs t.txt)) := blk_c g1 0
          have c2 : Y.cell? ⟨S, 2, none⟩ = some (.int .i64 t.kind) := blk_c g1 2
          clear z0 z1 z2 z3 g1 hb0 H2 H4 H5
          obtain ⟨N, hN⟩ : ∃ N, N = Sp.chAt ch j := ⟨_, rfl⟩
          have HN := Lib.hid hN
          obtain ⟨LK, hLK⟩ : ∃ LK, LK = Sp.lastK 3 (T.take j) := ⟨_, rfl⟩
          have HLK := Lib.hid hLK
          rw [← hLK]
          clear hLK
          by_cases hjc : j < ch.length
          · have hjb : decide ((j : Int) < (ch.length : Int)) = true := by rw [decide_eq_true_iff]; omega
            obtain ⟨ad, hA2, hch⟩ := (HCH.out.below (KB.out _ K5.out)) j hjc
            subst hA2
            have hN2 : ch[j].toNat = N := by rw [hN]; unfold Sp.chAt; simp [hjc]
            rw [hN2] at hch
            have hN3 : N < 256 := by rw [← hN2]; exact UInt8.toNat_lt _
            clear hN hN2
            obtain ⟨gs, hgs⟩ : ∃ gs, gs = bs (Sp.gapAt N) := ⟨_, rfl⟩
            have zg : Y.cell? ⟨0, N / 2 % 5, none⟩ = some (.string gs) := by rw [hgs]; exact (HGA.out.below (KB.out _ K5.out)) (N / 2 % 5) (by omega)
            have hgl : gs.size ≤ 10 := by rw [hgs, bs_size]; exact Sp.gapAt_len N
            have HGS : Hid (gs.data.toList = Sp.gapAt N) := Lib.hid (by rw [hgs, bs_list])
            clear hgs
            by_cases e3 : N % 2 = 1
            · have q3 : (((N : Int) % 2) == 1) = true := by rw [beq_iff_eq]; omega
              have HA := Lib.hid (show ((LK < 3 ∧ t.kind < 3) ∨ N % 2 = 1) from by omega)
              go_wp2_with fail
              all_goals
                have HG := Lib.hid (show Sp.gapOf LK t.kind N = Sp.gapAt N from if_pos HA.out)
                clear c0 c2
                refine (writeAll_any w1.heap.size w1.heap.size v L gs Y K2.out (by omega) (by have := K2.out.lt; omega)).mono ?_
                rintro e y1 ⟨rfl, v1, hv, hf⟩
                have HB1 := Lib.hid hv
                have hsS1 : S < y1.heap.size := Nat.lt_of_lt_of_le (lt_of_block G1.out) hf.size
                have GS1 := Lib.hid ((hf.block S (lt_of_block G1.out) (by omega) (own_ne_type K2.out.own G1.out (by decide))).trans G1.out)
                have KT1 := Lib.hid (own_fr K4.out hf (bld_ne K2.out K4.out) (rows_ne K2.out K4.out))
                have K51 := Lib.hid (K5.out.trans ((hf.below K2.out).mono (by have := K2.out.lo; have := K5.out.size; omega)))
                have c0 : y1.cell? ⟨S, 0, none⟩ = some (.string (bs t.txt)) := blk_c GS1.out 0
                have c2 : y1.cell? ⟨S, 2, none⟩ = some (.int .i64 t.kind) := blk_c GS1.out 2
                clear hv hf
                go_wp2_with fail
                refine (writeAll_any w1.heap.size w1.heap.size v1 (L ++ gs.data.toList) (bs t.txt) y1 HB1.out (by rw [bs_size, List.length_append]; have h : gs.data.toList.length = gs.size := rfl; omega) (by have := HB1.out.lt; omega)).mono ?_
                rintro e y2 ⟨rfl, v2, hv, hf⟩
                have HB2 := Lib.hid hv
                have hsS2 : S < y2.heap.size := Nat.lt_of_lt_of_le (lt_of_block GS1.out) hf.size
                have GS2 := Lib.hid ((hf.block S (lt_of_block GS1.out) (by omega) (own_ne_type HB1.out.own GS1.out (by decide))).trans GS1.out)
                have KT2 := Lib.hid (own_fr KT1.out hf (bld_ne HB1.out KT1.out) (rows_ne HB1.out KT1.out))
                have K52 := Lib.hid (K51.out.trans ((hf.below HB1.out).mono (by have := HB1.out.lo; have := K51.out.size; omega)))
                have c0 : y2.cell? ⟨S, 0, none⟩ = some (.string (bs t.txt)) := blk_c GS2.out 0
                have c2 : y2.cell? ⟨S, 2, none⟩ = some (.int .i64 t.kind) := blk_c GS2.out 2
                clear hv hf
                go_wp2_with fail
                go_roundg (T.length - (j + 1))
                case measure => rw [H1.out]; omega
                case rel =>
                  refine ⟨j + 1, v2, _, rfl, by omega, by go_num, by rw [HTS.out, Sp.lastK_snoc], HB2.out, ?_, ?_, KT2.out, K52.out⟩
                  · rw [HTS.out, Sp.spc_snoc, List.length_take, Nat.min_eq_left (by omega), Nat.zero_add, ← HN.out, ← HLK.out, HG.out, H3.out, bs_list, HGS.out, List.append_assoc]
                  · simp only [List.length_append, bs_list]; have h : gs.data.toList.length = gs.size := rfl; omega
            · have q3 : (((N : Int) % 2) == 1) = false := by rw [beq_eq_false_iff_ne]; omega
              by_cases e1 : LK < 3
              · have q1 : decide ((LK : Int) < 3) = true := by rw [decide_eq_true_iff]; omega
                by_cases e2 : t.kind < 3
                · have q2 : decide ((t.kind : Int) < 3) = true := by rw [decide_eq_true_iff]; omega
                  have HA := Lib.hid (show ((LK < 3 ∧ t.kind < 3) ∨ N % 2 = 1) from by omega)
                  go_wp2_with fail
                  all_goals
                    have HG := Lib.hid (show Sp.gapOf LK t.kind N = Sp.gapAt N from if_pos HA.out)
                    clear c0 c2
                    refine (writeAll_any w1.heap.size w1.heap.size v L gs Y K2.out (by omega) (by have := K2.out.lt; omega)).mono ?_
                    rintro e y1 ⟨rfl, v1, hv, hf⟩
                    have HB1 := Lib.hid hv
                    have hsS1 : S < y1.heap.size := Nat.lt_of_lt_of_le (lt_of_block G1.out) hf.size
                    have GS1 := Lib.hid ((hf.block S (lt_of_block G1.out) (by omega) (own_ne_type K2.out.own G1.out (by decide))).trans G1.out)
                    have KT1 := Lib.hid (own_fr K4.out hf (bld_ne K2.out K4.out) (rows_ne K2.out K4.out))
                    have K51 := Lib.hid (K5.out.trans ((hf.below K2.out).mono (by have := K2.out.lo; have := K5.out.size; omega)))
                    have c0 : y1.cell? ⟨S, 0, none⟩ = some (.string (bs t.txt)) := blk_c GS1.out 0
                    have c2 : y1.cell? ⟨S, 2, none⟩ = some (.int .i64 t.kind) := blk_c GS1.out 2
                    clear hv hf
                    go_wp2_with fail
                    refine (writeAll_any w1.heap.size w1.heap.size v1 (L ++ gs.data.toList) (bs t.txt) y1 HB1.out (by rw [bs_size, List.length_append]; have h : gs.data.toList.length = gs.size := rfl; omega) (by have := HB1.out.lt; omega)).mono ?_
                    rintro e y2 ⟨rfl, v2, hv, hf⟩
                    have HB2 := Lib.hid hv
                    have hsS2 : S < y2.heap.size := Nat.lt_of_lt_of_le (lt_of_block GS1.out) hf.size
                    have GS2 := Lib.hid ((hf.block S (lt_of_block GS1.out) (by omega) (own_ne_type HB1.out.own GS1.out (by decide))).trans GS1.out)
                    have KT2 := Lib.hid (own_fr KT1.out hf (bld_ne HB1.out KT1.out) (rows_ne HB1.out KT1.out))
                    have K52 := Lib.hid (K51.out.trans ((hf.below HB1.out).mono (by have := HB1.out.lo; have := K51.out.size; omega)))
                    have c0 : y2.cell? ⟨S, 0, none⟩ = some (.string (bs t.txt)) := blk_c GS2.out 0
                    have c2 : y2.cell? ⟨S, 2, none⟩ = some (.int .i64 t.kind) := blk_c GS2.out 2
                    clear hv hf
                    go_wp2_with fail
                    go_roundg (T.length - (j + 1))
                    case measure => rw [H1.out]; omega
                    case rel =>
                      refine ⟨j + 1, v2, _, rfl, by omega, by go_num, by rw [HTS.out, Sp.lastK_snoc], HB2.out, ?_, ?_, KT2.out, K52.out⟩
                      · rw [HTS.out, Sp.spc_snoc, List.length_take, Nat.min_eq_left (by omega), Nat.zero_add, ← HN.out, ← HLK.out, HG.out, H3.out, bs_list, HGS.out, List.append_assoc]
                      · simp only [List.length_append, bs_list]; have h : gs.data.toList.length = gs.size := rfl; omega
                · have q2 : decide ((t.kind : Int) < 3) = false := by rw [decide_eq_false_iff_not]; omega
                  have HA := Lib.hid (show ¬ ((LK < 3 ∧ t.kind < 3) ∨ N % 2 = 1) from by omega)
                  go_wp2_with fail
                  have HG := Lib.hid (show Sp.gapOf LK t.kind N = [] from if_neg HA.out)
                  clear c0 c2
                  refine (writeAll_any w1.heap.size w1.heap.size v L (bs t.txt) Y K2.out (by rw [bs_size]; omega) (by have := K2.out.lt; omega)).mono ?_
                  rintro e y1 ⟨rfl, v1, hv, hf⟩
                  have HB1 := Lib.hid hv
                  have hsS1 : S < y1.heap.size := Nat.lt_of_lt_of_le (lt_of_block G1.out) hf.size
                  have GS1 := Lib.hid ((hf.block S (lt_of_block G1.out) (by omega) (own_ne_type K2.out.own G1.out (by decide))).trans G1.out)
                  have KT1 := Lib.hid (own_fr K4.out hf (bld_ne K2.out K4.out) (rows_ne K2.out K4.out))
                  have K51 := Lib.hid (K5.out.trans ((hf.below K2.out).mono (by have := K2.out.lo; have := K5.out.size; omega)))
                  have c0 : y1.cell? ⟨S, 0, none⟩ = some (.string (bs t.txt)) := blk_c GS1.out 0
                  have c2 : y1.cell? ⟨S, 2, none⟩ = some (.int .i64 t.kind) := blk_c GS1.out 2
                  clear hv hf
                  go_wp2_with fail
                  go_roundg (T.length - (j + 1))
                  case measure => rw [H1.out]; omega
                  case rel =>
                    refine ⟨j + 1, v1, _, rfl, by omega, by go_num, by rw [HTS.out, Sp.lastK_snoc], HB1.out, ?_, ?_, KT1.out, K51.out⟩
                    · rw [HTS.out, Sp.spc_snoc, List.length_take, Nat.min_eq_left (by omega), Nat.zero_add, ← HN.out, ← HLK.out, HG.out, H3.out, bs_list]; rfl
                    · simp only [List.length_append, bs_list]; have h : gs.data.toList.length = gs.size := rfl; omega
              · have q1 : decide ((LK : Int) < 3) = false := by rw [decide_eq_false_iff_not]; omega
                have HA := Lib.hid (show ¬ ((LK < 3 ∧ t.kind < 3) ∨ N % 2 = 1) from by omega)
                go_wp2_with fail
                have HG := Lib.hid (show Sp.gapOf LK t.kind N = [] from if_neg HA.out)
                clear c0 c2
                refine (writeAll_any w1.heap.size w1.heap.size v L (bs t.txt) Y K2.out (by rw [bs_size]; omega) (by have := K2.out.lt; omega)).mono ?_
                rintro e y1 ⟨rfl, v1, hv, hf⟩
                have HB1 := Lib.hid hv
                have hsS1 : S < y1.heap.size := Nat.lt_of_lt_of_le (lt_of_block G1.out) hf.size
                have GS1 := Lib.hid ((hf.block S (lt_of_block G1.out) (by omega) (own_ne_type K2.out.own G1.out (by decide))).trans G1.out)
                have KT1 := Lib.hid (own_fr K4.out hf (bld_ne K2.out K4.out) (rows_ne K2.out K4.out))
                have K51 := Lib.hid (K5.out.trans ((hf.below K2.out).mono (by have := K2.out.lo; have := K5.out.size; omega)))
                have c0 : y1.cell? ⟨S, 0, none⟩ = some (.string (bs t.txt)) := blk_c GS1.out 0
                have c2 : y1.cell? ⟨S, 2, none⟩ = some (.int .i64 t.kind) := blk_c GS1.out 2
                clear hv hf
                go_wp2_with fail
                go_roundg (T.length - (j + 1))
                case measure => rw [H1.out]; omega
                case rel =>
                  refine ⟨j + 1, v1, _, rfl, by omega, by go_num, by rw [HTS.out, Sp.lastK_snoc], HB1.out, ?_, ?_, KT1.out, K51.out⟩
                  · rw [HTS.out, Sp.spc_snoc, List.length_take, Nat.min_eq_left (by omega), Nat.zero_add, ← HN.out, ← HLK.out, HG.out, H3.out, bs_list]; rfl
                  · simp only [List.length_append, bs_list]; have h : gs.data.toList.length = gs.size := rfl; omega
          · have hjb : decide ((j : Int) < (ch.length : Int)) = false := by rw [decide_eq_false_iff_not]; omega
            obtain rfl : N = 0 := by rw [hN]; unfold Sp.chAt; simp [hjc]
            clear hN
            obtain ⟨gs, hgs⟩ : ∃ gs, gs = bs (Sp.gapAt 0) := ⟨_, rfl⟩
            have zg : Y.cell? ⟨0, 0, none⟩ = some (.string gs) := by rw [hgs]; exact (HGA.out.below (KB.out _ K5.out)) (0) (by omega)
            have hgl : gs.size ≤ 10 := by rw [hgs, bs_size]; exact Sp.gapAt_len 0
            have HGS : Hid (gs.data.toList = Sp.gapAt 0) := Lib.hid (by rw [hgs, bs_list])
            clear hgs
            by_cases e1 : LK < 3
            · have q1 : decide ((LK : Int) < 3) = true := by rw [decide_eq_true_iff]; omega
              by_cases e2 : t.kind < 3
              · have q2 : decide ((t.kind : Int) < 3) = true := by rw [decide_eq_true_iff]; omega
                have HA := Lib.hid (show ((LK < 3 ∧ t.kind < 3) ∨ 0 % 2 = 1) from by omega)
                go_wp2_with fail
                all_goals
                  have HG := Lib.hid (show Sp.gapOf LK t.kind 0 = Sp.gapAt 0 from if_pos HA.out)
                  clear c0 c2
                  refine (writeAll_any w1.heap.size w1.heap.size v L gs Y K2.out (by omega) (by have := K2.out.lt; omega)).mono ?_
                  rintro e y1 ⟨rfl, v1, hv, hf⟩
                  have HB1 := Lib.hid hv
                  have hsS1 : S < y1.heap.size := Nat.lt_of_lt_of_le (lt_of_block G1.out) hf.size
                  have GS1 := Lib.hid ((hf.block S (lt_of_block G1.out) (by omega) (own_ne_type K2.out.own G1.out (by decide))).trans G1.out)
                  have KT1 := Lib.hid (own_fr K4.out hf (bld_ne K2.out K4.out) (rows_ne K2.out K4.out))
                  have K51 := Lib.hid (K5.out.trans ((hf.below K2.out).mono (by have := K2.out.lo; have := K5.out.size; omega)))
                  have c0 : y1.cell? ⟨S, 0, none⟩ = some (.string (bs t.txt)) := blk_c GS1.out 0
                  have c2 : y1.cell? ⟨S, 2, none⟩ = some (.int .i64 t.kind) := blk_c GS1.out 2
                  clear hv hf
                  go_wp2_with fail
                  refine (writeAll_any w1.heap.size w1.heap.size v1 (L ++ gs.data.toList) (bs t.txt) y1 HB1.out (by rw [bs_size, List.length_append]; have h : gs.data.toList.length = gs.size := rfl; omega) (by have := HB1.out.lt; omega)).mono ?_
                  rintro e y2 ⟨rfl, v2, hv, hf⟩
                  have HB2 := Lib.hid hv
                  have hsS2 : S < y2.heap.size := Nat.lt_of_lt_of_le (lt_of_block GS1.out) hf.size
                  have GS2 := Lib.hid ((hf.block S (lt_of_block GS1.out) (by omega) (own_ne_type HB1.out.own GS1.out (by decide))).trans GS1.out)
                  have KT2 := Lib.hid (own_fr KT1.out hf (bld_ne HB1.out KT1.out) (rows_ne HB1.out KT1.out))
                  have K52 := Lib.hid (K51.out.trans ((hf.below HB1.out).mono (by have := HB1.out.lo; have := K51.out.size; omega)))
                  have c0 : y2.cell? ⟨S, 0, none⟩ = some (.string (bs t.txt)) := blk_c GS2.out 0
                  have c2 : y2.cell? ⟨S, 2, none⟩ = some (.int .i64 t.kind) := blk_c GS2.out 2
                  clear hv hf
                  go_wp2_with fail
                  go_roundg (T.length - (j + 1))
                  case measure => rw [H1.out]; omega
                  case rel =>
                    refine ⟨j + 1, v2, _, rfl, by omega, by go_num, by rw [HTS.out, Sp.lastK_snoc], HB2.out, ?_, ?_, KT2.out, K52.out⟩
                    · rw [HTS.out, Sp.spc_snoc, List.length_take, Nat.min_eq_left (by omega), Nat.zero_add, ← HN.out, ← HLK.out, HG.out, H3.out, bs_list, HGS.out, List.append_assoc]
                    · simp only [List.length_append, bs_list]; have h : gs.data.toList.length = gs.size := rfl; omega
              · have q2 : decide ((t.kind : Int) < 3) = false := by rw [decide_eq_false_iff_not]; omega
                have HA := Lib.hid (show ¬ ((LK < 3 ∧ t.kind < 3) ∨ 0 % 2 = 1) from by omega)
                go_wp2_with fail
                have HG := Lib.hid (show Sp.gapOf LK t.kind 0 = [] from if_neg HA.out)
                clear c0 c2
                refine (writeAll_any w1.heap.size w1.heap.size v L (bs t.txt) Y K2.out (by rw [bs_size]; omega) (by have := K2.out.lt; omega)).mono ?_
                rintro e y1 ⟨rfl, v1, hv, hf⟩
                have HB1 := Lib.hid hv
                have hsS1 : S < y1.heap.size := Nat.lt_of_lt_of_le (lt_of_block G1.out) hf.size
                have GS1 := Lib.hid ((hf.block S (lt_of_block G1.out) (by omega) (own_ne_type K2.out.own G1.out (by decide))).trans G1.out)
                have KT1 := Lib.hid (own_fr K4.out hf (bld_ne K2.out K4.out) (rows_ne K2.out K4.out))
                have K51 := Lib.hid (K5.out.trans ((hf.below K2.out).mono (by have := K2.out.lo; have := K5.out.size; omega)))
                have c0 : y1.cell? ⟨S, 0, none⟩ = some (.string (bs t.txt)) := blk_c GS1.out 0
                have c2 : y1.cell? ⟨S, 2, none⟩ = some (.int .i64 t.kind) := blk_c GS1.out 2
                clear hv hf
                go_wp2_with fail
                go_roundg (T.length - (j + 1))
                case measure => rw [H1.out]; omega
                case rel =>
                  refine ⟨j + 1, v1, _, rfl, by omega, by go_num, by rw [HTS.out, Sp.lastK_snoc], HB1.out, ?_, ?_, KT1.out, K51.out⟩
                  · rw [HTS.out, Sp.spc_snoc, List.length_take, Nat.min_eq_left (by omega), Nat.zero_add, ← HN.out, ← HLK.out, HG.out, H3.out, bs_list]; rfl
                  · simp only [List.length_append, bs_list]; have h : gs.data.toList.length = gs.size := rfl; omega
            · have q1 : decide ((LK : Int) < 3) = false := by rw [decide_eq_false_iff_not]; omega
              have HA := Lib.hid (show ¬ ((LK < 3 ∧ t.kind < 3) ∨ 0 % 2 = 1) from by omega)
              go_wp2_with fail
              have HG := Lib.hid (show Sp.gapOf LK t.kind 0 = [] from if_neg HA.out)
              clear c0 c2
              refine (writeAll_any w1.heap.size w1.heap.size v L (bs t.txt) Y K2.out (by rw [bs_size]; omega) (by have := K2.out.lt; omega)).mono ?_
              rintro e y1 ⟨rfl, v1, hv, hf⟩
              have HB1 := Lib.hid hv
              have hsS1 : S < y1.heap.size := Nat.lt_of_lt_of_le (lt_of_block G1.out) hf.size
              have GS1 := Lib.hid ((hf.block S (lt_of_block G1.out) (by omega) (own_ne_type K2.out.own G1.out (by decide))).trans G1.out)
              have KT1 := Lib.hid (own_fr K4.out hf (bld_ne K2.out K4.out) (rows_ne K2.out K4.out))
              have K51 := Lib.hid (K5.out.trans ((hf.below K2.out).mono (by have := K2.out.lo; have := K5.out.size; omega)))
              have c0 : y1.cell? ⟨S, 0, none⟩ = some (.string (bs t.txt)) := blk_c GS1.out 0
              have c2 : y1.cell? ⟨S, 2, none⟩ = some (.int .i64 t.kind) := blk_c GS1.out 2
              clear hv hf
              go_wp2_with fail
              go_roundg (T.length - (j + 1))
              case measure => rw [H1.out]; omega
              case rel =>
                refine ⟨j + 1, v1, _, rfl, by omega, by go_num, by rw [HTS.out, Sp.lastK_snoc], HB1.out, ?_, ?_, KT1.out, K51.out⟩
                · rw [HTS.out, Sp.spc_snoc, List.length_take, Nat.min_eq_left (by omega), Nat.zero_add, ← HN.out, ← HLK.out, HG.out, H3.out, bs_list]; rfl
                · simp only [List.length_append, bs_list]; have h : gs.data.toList.length = gs.size := rfl; omega
        · have hltb : decide ((j : Int) < (T.length : Int)) = false := by rw [decide_eq_false_iff_not]; omega
          obtain rfl : j = T.length := by omega
          obtain ⟨cc, hcc⟩ : ∃ cc, cc = cOf ⟨n1, f1, d1, A1, l1, c1, m1⟩ := ⟨_, rfl⟩
          have HLS := Lib.hid (show L = Sp.spc ch 3 0 (Sp.toks 0 (Sp.prC cc)) from by rw [H3.out, List.take_length, HT.out, HDL.out, hcc]; rfl)
          have HC2 : Hid (Sp.FineC cc) := Lib.hid (by rw [hcc]; exact HC.out)
          rw [← hcc] at PS
          clear hcc
          have CLEN := Lib.hid (Tryd.Builder_Len w1.heap.size w1.heap.size _ wr H2.out.isB)
          have CSTR := Lib.hid (string_any w1.heap.size w1.heap.size v L wr H2.out)
          have HLL : Hid ((Lib.byteCells L).length = L.length) := Lib.hid (Lib.byteCells_length _)
          go_wp2_with fail
          refine CLEN.out.mono ?_
          rintro e y7 ⟨rfl, rfl⟩
          rw [HLL.out]
          by_cases hbig : 2000 < L.length
          · have hq1 : decide ((L.length : Int) > 2000) = true := by rw [decide_eq_true_iff]; omega
            have hq2 : decide (2000 < L.length) = true := decide_eq_true hbig
            go_wp2_with fail
            refine (CS.out _ (KB.out _ H5.out)).mono ?_
            rintro e y8 ⟨rfl, hb⟩
            have hfin := KB.out _ (H5.out.trans (hb.mono hwr))
            clear hb
            go_wp2_with fail
            go_ret
            exact ⟨rfl, hfin⟩
          · have hq1 : decide ((L.length : Int) > 2000) = false := by rw [decide_eq_false_iff_not]; omega
            have hq2 : decide (2000 < L.length) = false := decide_eq_false hbig
            have HP1 := Lib.hid (Sp.parse_spaced HC2.out ch (by rw [← HLS.out]; omega))
            rw [← HLS.out] at HP1
            go_wp2_with fail
            refine CSTR.out.mono ?_
            rintro e y8 ⟨rfl, hf⟩
            have B8 := Lib.hid (H5.out.trans ((hf.below H2.out).mono (by have := H2.out.lo; omega)))
            have hs8 : V.heap.size ≤ y8.heap.size := B8.out.size
            obtain ⟨so, hso⟩ : ∃ so : ByteArray, so = ⟨L.toArray⟩ := ⟨_, rfl⟩
            rw [← hso]
            have HP2 := Lib.hid (show Sp.parseL true so.data.toList = .ok [cc] from by rw [hso]; exact HP1.out)
            clear hf hso HP1
            go_wp2_with fail
            refine (parse_ok so cc y8 (HE.out.below (KB.out _ B8.out)) HP2.out (fine_small HC2.out)).mono ?_
            rintro e w2 ⟨A, q, rfl, hok, hb⟩
            have HD := Lib.hid hok
            have B2 := Lib.hid (B8.out.trans (hb.mono hs8))
            have hs2 : V.heap.size ≤ w2.heap.size := B2.out.size
            clear hb hok
            dsimp only [inOf, CodeIn.v]
            go_wp2_with fail
            have gd : (w2.alloc (.cells #[.string (bs cc.name), .int .i64 cc.field, .int .i64 cc.data, .slice A cc.parity.length q, .int .i64 cc.domain] 24)).heap[w2.heap.size]? = some (.cells #[.string (bs cc.name), .int .i64 cc.field, .int .i64 cc.data, .slice A cc.parity.length q, .int .i64 cc.domain] 24 (0, 0)) := heap_alloc_new w2 _
            have hbd := B2.out.alloc hs2 (.cells #[.string (bs cc.name), .int .i64 cc.field, .int .i64 cc.data, .slice A cc.parity.length q, .int .i64 cc.domain] 24)
            have hokd := HD.out.below ((Below.refl _ _).alloc (Nat.le_refl _) (.cells #[.string (bs cc.name), .int .i64 cc.field, .int .i64 cc.data, .slice A cc.parity.length q, .int .i64 cc.domain] 24))
            generalize w2.alloc (.cells #[.string (bs cc.name), .int .i64 cc.field, .int .i64 cc.data, .slice A cc.parity.length q, .int .i64 cc.domain] 24) = W2 at *
            have hW2 := lt_of_block gd
            have hVW : V.heap.size ≤ W2.heap.size := hbd.size
            have BD := Lib.hid hbd; have GD := Lib.hid gd; have HD2 := Lib.hid hokd
            clear hbd gd hokd
            have KB2 : Hid (∀ W, Below W2.heap.size W2 W → Below w.heap.size w W) := Lib.hid fun W h => KB.out W (BD.out.trans (h.mono hVW))
            have KX2 : Hid (∀ W, Below W2.heap.size W2 W → W.heap[w.heap.size]? = some (.cells #[.string n1, .int .i64 f1, .int .i64 d1, .slice A1 l1.length c1, .int .i64 m1] 24 (0, 0))) := Lib.hid fun W h => KX.out W (BD.out.trans (h.mono hVW))
            have KD : Hid (∀ W, Below W2.heap.size W2 W → (inOf cc A q).Ok W) := Lib.hid fun W h => HD2.out.below h
            have KF : Hid (∀ W, Below W2.heap.size W2 W → W.heap[w2.heap.size]? = some (.cells #[.string (bs cc.name), .int .i64 cc.field, .int .i64 cc.data, .slice A cc.parity.length q, .int .i64 cc.domain] 24 (0, 0))) := Lib.hid fun W h => (h.block _ hW2).trans GD.out
            have E0 : Hid (Below W2.heap.size W2 W2) := Lib.hid (Below.refl _ _)
            refine (CS.out W2 (KB2.out _ E0.out)).mono ?_
            rintro e w4 ⟨rfl, hb⟩
            have E4 := Lib.hid hb
            clear hb
            have hx := KX2.out w4 E4.out
            have x0 : w4.cell? ⟨w.heap.size, 0, none⟩ = some (.string n1) := blk_c hx 0
            have x1 : w4.cell? ⟨w.heap.size, 1, none⟩ = some (.int .i64 f1) := blk_c hx 1
            have x2 : w4.cell? ⟨w.heap.size, 2, none⟩ = some (.int .i64 d1) := blk_c hx 2
            have x3 : w4.cell? ⟨w.heap.size, 3, none⟩ = some (.slice A1 l1.length c1) := blk_c hx 3
            have x4 : w4.cell? ⟨w.heap.size, 4, none⟩ = some (.int .i64 m1) := blk_c hx 4
            have hy := KF.out w4 E4.out
            have y0 : w4.cell? ⟨w2.heap.size, 0, none⟩ = some (.string (bs cc.name)) := blk_c hy 0
            have y1 : w4.cell? ⟨w2.heap.size, 1, none⟩ = some (.int .i64 cc.field) := blk_c hy 1
            have y2 : w4.cell? ⟨w2.heap.size, 2, none⟩ = some (.int .i64 cc.data) := blk_c hy 2
            have y3 : w4.cell? ⟨w2.heap.size, 3, none⟩ = some (.slice A cc.parity.length q) := blk_c hy 3
            have y4 : w4.cell? ⟨w2.heap.size, 4, none⟩ = some (.int .i64 cc.domain) := blk_c hy 4
            clear hx hy
            have CM := Lib.hid (refSame_any ⟨n1, f1, d1, A1, l1, c1, m1⟩ (inOf cc A q) w4 (HA.out.below (KB2.out _ E4.out)) (KD.out _ E4.out))
            go_wp2_with fail
            refine CM.out.mono ?_
            rintro e w5 ⟨rfl, hb⟩
            rw [PS.out HFI.out A q]
            have hfin := KB2.out _ (E4.out.trans (hb.mono E4.out.size))
            clear hb x0 x1 x2 x3 x4 y0 y1 y2 y3 y4 CM
            go_wp2_with fail
            go_ret
            exact ⟨rfl, hfin⟩
end Go.Proofs.YtppeplonnippcaaDoor
