/-
Layer 7: the examples that every law plays first.
-/
import Derived.Test.YtppeplonnippcaaDoorK1
import Derived.Test.YtppeplonnippcaaDoorS
set_option linter.unusedVariables false
set_option linter.unusedSimpArgs false
namespace Go.Proofs.YtppeplonnippcaaDoor
open Go.RowKit

def OneOk (c : Sp.Code) (w : World) (e : Ending) (w' : World) : Prop := ∃ A q, e = .returned (.tuple #[(inOf c A q).v, .int .i64 0, .int .i64 0]) ∧ (inOf c A q).Ok w' ∧ Below w.heap.size w w'
theorem parse_ok (s : ByteArray) (c : Sp.Code) (w : World) (he : Env w) (h : Sp.parseL true s.data.toList = .ok [c]) (hs : Small c) : Calls Tryd.prog 18 #[.string s] w (OneOk c w) := by
  refine (Parse_any s w he).mono ?_
  rintro e w' ⟨hh, hb⟩
  rw [h] at hh
  obtain ⟨c', vo, hl, rfl, hv⟩ := hh
  obtain rfl : c = c' := by simpa using hl
  obtain ⟨A, q, rfl, hok⟩ := hv.inOf hs
  exact ⟨A, q, rfl, hok, hb⟩
theorem parse_bad (s : ByteArray) (p er : Nat) (P E : Int) (w : World) (he : Env w) (h : Sp.parseL true s.data.toList = .error (p, er)) (hP : (p : Int) = P) (hE : (er : Int) = E) :
    Calls Tryd.prog 18 #[.string s] w fun e w' => e = .returned (.tuple #[z24v, .int .i64 P, .int .i64 E]) ∧ Below w.heap.size w w' := by
  refine (Parse_any s w he).mono ?_
  rintro e w' ⟨hh, hb⟩
  rw [h] at hh
  dsimp only at hh
  subst hP hE
  exact ⟨hh, hb⟩
theorem all_bad (s : ByteArray) (p er : Nat) (P E : Int) (w : World) (he : Env w) (h : Sp.parseL false s.data.toList = .error (p, er)) (hP : (p : Int) = P) (hE : (er : Int) = E) :
    Calls Tryd.prog 20 #[.string s] w fun e w' => e = .returned (.tuple #[.slice none 0 0, .int .i64 P, .int .i64 E]) ∧ Below w.heap.size w w' := by
  refine (ParseAll_any s w he).mono ?_
  rintro e w' ⟨hh, hb⟩
  rw [h] at hh
  dsimp only at hh
  subst hP hE
  exact ⟨hh, hb⟩
/-- two codes, of which the second's domain is known -/
def TwoOk (c d : Sp.Code) (w : World) (e : Ending) (w' : World) : Prop := ∃ g q, e = .returned (.tuple #[.slice (some ⟨g, 0, none⟩) 2 q, .int .i64 0, .int .i64 0]) ∧ w'.cell? ⟨g, 9, none⟩ = some (.int .i64 d.domain) ∧ Below w.heap.size w w'
theorem all_two (s : ByteArray) (c d : Sp.Code) (w : World) (he : Env w) (h : Sp.parseL false s.data.toList = .ok [c, d]) : Calls Tryd.prog 20 #[.string s] w (TwoOk c d w) := by
  refine (ParseAll_any s w he).mono ?_
  rintro e w' ⟨hh, hb⟩
  rw [h] at hh
  obtain ⟨vo, rfl, hv⟩ := hh
  obtain ⟨A, q, rfl⟩ := hv.shape
  obtain ⟨g, vr, rfl, _, hc⟩ := hv.at_ 1 (by simp)
  exact ⟨g, q, rfl, hc 4 _ rfl, hb⟩

def zeroC : CodeIn := ⟨⟨#[]⟩, 0, 0, none, [], 0, 0⟩
theorem zero_ok (w : World) : zeroC.Ok w := ⟨fun i h => absurd h (Nat.not_lt_zero _), by decide, by simp [zeroC], by decide, by decide⟩
def exC (n : Nat) : CodeIn := ⟨⟨#[97]⟩, 8, 3, some ⟨n + 1, 0, none⟩, [[1, 0, 7]], 1, 2⟩
theorem ex_ok (n : Nat) (w : World) (h0 : w.heap[n]? = some (.cells #[.int .i64 1, .int .i64 0, .int .i64 7] 3 (0, 0))) (h1 : w.heap[n + 1]? = some (.cells #[.slice (some ⟨n, 0, none⟩) 3 3] 61 (0, 0))) : (exC n).Ok w := by
  refine ⟨fun i hi => ?_, by simp [exC], by simp [exC], by show 1 ≤ _; omega, by show 1 ≤ 1; omega⟩
  have hi' : i < 1 := hi
  obtain rfl : i = 0 := by omega
  refine ⟨⟨n + 1, 0, none⟩, some ⟨n, 0, none⟩, 3, rfl, blk_c h1 0, by show 3 ≤ 3; omega, fun j hj => ?_⟩
  refine ⟨⟨n, 0, none⟩, rfl, ?_⟩
  have hj' : j < 3 := hj
  rcases (by omega : j = 0 ∨ j = 1 ∨ j = 2) with rfl | rfl | rfl
  · exact blk_c h0 0
  · exact blk_c h0 1
  · exact blk_c h0 2
theorem small_cA : Small Sp.cA := ⟨by decide, by decide, by decide⟩

set_option maxHeartbeats 4000000 in
set_option maxRecDepth 100000 in
theorem sanity_any (w : World) (he : Env w) : Calls Tryd.prog 13 #[] w fun e w' => e = .returned (.bool true) ∧ Below w.heap.size w w' := by
  have HE := Lib.hid he
  clear he
  go_enter Tryd.func13, Tryd.ntmps13
  go_wp2_with fail
  have g0 : (((w.alloc (.cells #[.int .i64 1, .int .i64 0, .int .i64 7] 3)).alloc (.cells #[.slice (some ⟨w.heap.size, 0, none⟩) 3 3] 61)).alloc (.cells #[.string ⟨#[97]⟩, .int .i64 8, .int .i64 3, .slice (some ⟨w.heap.size + 1, 0, none⟩) 1 1, .int .i64 2] 24)).heap[w.heap.size]? = some (.cells #[.int .i64 1, .int .i64 0, .int .i64 7] 3 (0, 0)) := blk_old (blk_old (heap_alloc_new w _) _) _
  have g1 : (((w.alloc (.cells #[.int .i64 1, .int .i64 0, .int .i64 7] 3)).alloc (.cells #[.slice (some ⟨w.heap.size, 0, none⟩) 3 3] 61)).alloc (.cells #[.string ⟨#[97]⟩, .int .i64 8, .int .i64 3, .slice (some ⟨w.heap.size + 1, 0, none⟩) 1 1, .int .i64 2] 24)).heap[w.heap.size + 1]? = some (.cells #[.slice (some ⟨w.heap.size, 0, none⟩) 3 3] 61 (0, 0)) := blk_old (new_at _ _ _ (by simp)) _
  have g2 : (((w.alloc (.cells #[.int .i64 1, .int .i64 0, .int .i64 7] 3)).alloc (.cells #[.slice (some ⟨w.heap.size, 0, none⟩) 3 3] 61)).alloc (.cells #[.string ⟨#[97]⟩, .int .i64 8, .int .i64 3, .slice (some ⟨w.heap.size + 1, 0, none⟩) 1 1, .int .i64 2] 24)).heap[w.heap.size + 1 + 1]? = some (.cells #[.string ⟨#[97]⟩, .int .i64 8, .int .i64 3, .slice (some ⟨w.heap.size + 1, 0, none⟩) 1 1, .int .i64 2] 24 (0, 0)) := new_at _ _ _ (by simp)
  have hb0 : Below w.heap.size w (((w.alloc (.cells #[.int .i64 1, .int .i64 0, .int .i64 7] 3)).alloc (.cells #[.slice (some ⟨w.heap.size, 0, none⟩) 3 3] 61)).alloc (.cells #[.string ⟨#[97]⟩, .int .i64 8, .int .i64 3, .slice (some ⟨w.heap.size + 1, 0, none⟩) 1 1, .int .i64 2] 24)) := (((Below.refl _ _).alloc (Nat.le_refl _) _).alloc (by simp) _).alloc (by simp; omega) _
  generalize ((w.alloc (.cells #[.int .i64 1, .int .i64 0, .int .i64 7] 3)).alloc (.cells #[.slice (some ⟨w.heap.size, 0, none⟩) 3 3] 61)).alloc (.cells #[.string ⟨#[97]⟩, .int .i64 8, .int .i64 3, .slice (some ⟨w.heap.size + 1, 0, none⟩) 1 1, .int .i64 2] 24) = W0 at *
  have hW0 : w.heap.size + 1 + 1 < W0.heap.size := lt_of_block g2
  have HX := Lib.hid (ex_ok w.heap.size W0 g0 g1)
  have HB0 := Lib.hid hb0; have G2 := Lib.hid g2
  clear g0 g1 g2 hb0
  -- what every later world keeps
  have KE : Hid (∀ V, Below W0.heap.size W0 V → Env V) := Lib.hid fun V h => HE.out.below (HB0.out.trans (h.mono (by omega)))
  have KB : Hid (∀ V, Below W0.heap.size W0 V → Below w.heap.size w V) := Lib.hid fun V h => HB0.out.trans (h.mono (by omega))
  have KX : Hid (∀ V, Below W0.heap.size W0 V → (exC w.heap.size).Ok V) := Lib.hid fun V h => HX.out.below h
  have KG : Hid (∀ V, Below W0.heap.size W0 V → V.heap[w.heap.size + 1 + 1]? = some (.cells #[.string ⟨#[97]⟩, .int .i64 8, .int .i64 3, .slice (some ⟨w.heap.size + 1, 0, none⟩) 1 1, .int .i64 2] 24 (0, 0))) := Lib.hid fun V h => (h.block _ hW0).trans G2.out
  have B0 : Hid (Below W0.heap.size W0 W0) := Lib.hid (Below.refl _ _)
  have C1 := Lib.hid (Print_any (exC w.heap.size) W0 (KE.out W0 B0.out) HX.out (by show _ ≤ (3 : Int) ∧ (3 : Int) ≤ _; omega))
  refine C1.out.mono ?_
  rintro e w1 ⟨hh, hb⟩
  rw [show Sp.pr (exC w.heap.size).name.data.toList (exC w.heap.size).field (exC w.heap.size).data (exC w.heap.size).rows (exC w.heap.size).dom = .ok Sp.tA from Sp.ev8] at hh
  dsimp only at hh
  rw [show bs Sp.tA = (⟨#[99, 111, 100, 101, 32, 97, 32, 123, 10, 9, 102, 105, 101, 108, 100, 32, 56, 59, 10, 9, 100, 97, 116, 97, 32, 51, 59, 10, 9, 108, 111, 99, 97, 108, 32, 48, 32, 50, 58, 32, 49, 32, 55, 59, 10, 9, 100, 111, 109, 97, 105, 110, 32, 50, 59, 10, 125, 10]⟩ : ByteArray) from rfl] at hh
  subst hh
  have B1 := Lib.hid (B0.out.trans hb)
  have hs1 : W0.heap.size ≤ w1.heap.size := B1.out.size
  clear hb C1
  go_wp2_with fail
  refine (parse_ok (⟨#[99, 111, 100, 101, 32, 97, 32, 123, 10, 9, 102, 105, 101, 108, 100, 32, 56, 59, 10, 9, 100, 97, 116, 97, 32, 51, 59, 10, 9, 108, 111, 99, 97, 108, 32, 48, 32, 50, 58, 32, 49, 32, 55, 59, 10, 9, 100, 111, 109, 97, 105, 110, 32, 50, 59, 10, 125, 10]⟩ : ByteArray) Sp.cA w1 (KE.out _ B1.out) Sp.ev1 small_cA).mono ?_
  rintro e w2 ⟨A, q, rfl, hok, hb⟩
  have HD := Lib.hid hok
  have B2 := Lib.hid (B1.out.trans (hb.mono hs1))
  have hs2 : W0.heap.size ≤ w2.heap.size := B2.out.size
  clear hb hok
  dsimp only [inOf, CodeIn.v, Sp.cA]
  go_wp2_with fail
  have gd : (w2.alloc (.cells #[.string (bs [97]), .int .i64 8, .int .i64 3, .slice A 1 q, .int .i64 2] 24)).heap[w2.heap.size]? = some (.cells #[.string (bs [97]), .int .i64 8, .int .i64 3, .slice A 1 q, .int .i64 2] 24 (0, 0)) := heap_alloc_new w2 _
  have hbd := B2.out.alloc hs2 (.cells #[.string (bs [97]), .int .i64 8, .int .i64 3, .slice A 1 q, .int .i64 2] 24)
  have hokd := HD.out.below ((Below.refl _ _).alloc (Nat.le_refl _) (.cells #[.string (bs [97]), .int .i64 8, .int .i64 3, .slice A 1 q, .int .i64 2] 24))
  generalize w2.alloc (.cells #[.string (bs [97]), .int .i64 8, .int .i64 3, .slice A 1 q, .int .i64 2] 24) = W2 at *
  have hW2 := lt_of_block gd
  have hW02 : W0.heap.size ≤ W2.heap.size := hbd.size
  have BD := Lib.hid hbd; have GD := Lib.hid gd; have HD2 := Lib.hid hokd
  clear hbd gd hokd
  have KE2 : Hid (∀ V, Below W2.heap.size W2 V → Env V) := Lib.hid fun V h => KE.out V (BD.out.trans (h.mono hW02))
  have KB2 : Hid (∀ V, Below W2.heap.size W2 V → Below w.heap.size w V) := Lib.hid fun V h => KB.out V (BD.out.trans (h.mono hW02))
  have KX2 : Hid (∀ V, Below W2.heap.size W2 V → (exC w.heap.size).Ok V) := Lib.hid fun V h => KX.out V (BD.out.trans (h.mono hW02))
  have KG2 : Hid (∀ V, Below W2.heap.size W2 V → V.heap[w.heap.size + 1 + 1]? = some (.cells #[.string ⟨#[97]⟩, .int .i64 8, .int .i64 3, .slice (some ⟨w.heap.size + 1, 0, none⟩) 1 1, .int .i64 2] 24 (0, 0))) := Lib.hid fun V h => KG.out V (BD.out.trans (h.mono hW02))
  have KD : Hid (∀ V, Below W2.heap.size W2 V → (inOf Sp.cA A q).Ok V) := Lib.hid fun V h => HD2.out.below h
  have KF : Hid (∀ V, Below W2.heap.size W2 V → V.heap[w2.heap.size]? = some (.cells #[.string (bs [97]), .int .i64 8, .int .i64 3, .slice A 1 q, .int .i64 2] 24 (0, 0))) := Lib.hid fun V h => (h.block _ hW2).trans GD.out
  have E0 : Hid (Below W2.heap.size W2 W2) := Lib.hid (Below.refl _ _)
  refine (parse_bad (⟨#[99, 111, 100, 101, 32, 97, 32, 123, 32, 102, 105, 101, 108, 100, 32, 56, 59, 32, 100, 97, 116, 97, 32, 50, 59, 32, 112, 97, 114, 105, 116, 121, 32, 49, 59, 32, 125]⟩ : ByteArray) 26 1 26 1 W2 (KE2.out _ E0.out) Sp.ev2 rfl rfl).mono ?_
  rintro e w3 ⟨rfl, hb⟩
  have E3 := Lib.hid (E0.out.trans (hb.mono E0.out.size))
  clear hb
  dsimp only [z24v]
  go_wp2_with fail
  have E3' := Lib.hid (E3.out.alloc E3.out.size (.cells #[.string ⟨#[]⟩, .int .i64 0, .int .i64 0, .slice none 0 0, .int .i64 0] 24))
  refine (parse_bad (⟨#[99, 111, 100, 101, 32, 97, 32, 123]⟩ : ByteArray) 8 3 8 3 _ (KE2.out _ E3'.out) Sp.ev3 rfl rfl).mono ?_
  rintro e w4 ⟨rfl, hb⟩
  have E4 := Lib.hid (E3'.out.trans (hb.mono E3'.out.size))
  clear hb
  dsimp only [z24v]
  go_wp2_with fail
  have E4' := Lib.hid (E4.out.alloc E4.out.size (.cells #[.string ⟨#[]⟩, .int .i64 0, .int .i64 0, .slice none 0 0, .int .i64 0] 24))
  refine (all_two ((⟨#[99, 111, 100, 101, 32, 97, 32, 123, 10, 9, 102, 105, 101, 108, 100, 32, 56, 59, 10, 9, 100, 97, 116, 97, 32, 51, 59, 10, 9, 108, 111, 99, 97, 108, 32, 48, 32, 50, 58, 32, 49, 32, 55, 59, 10, 9, 100, 111, 109, 97, 105, 110, 32, 50, 59, 10, 125, 10]⟩ : ByteArray) ++ (⟨#[99, 111, 100, 101, 32, 98, 32, 123, 32, 102, 105, 101, 108, 100, 32, 56, 59, 32, 100, 97, 116, 97, 32, 49, 59, 32, 112, 97, 114, 105, 116, 121, 32, 57, 59, 32, 125]⟩ : ByteArray)) Sp.cA Sp.cB _ (KE2.out _ E4'.out) (by rw [ByteArray.data_append, Array.toList_append]; exact Sp.ev4)).mono ?_
  rintro e w5 ⟨g, q2, rfl, hdom, hb⟩
  have E5 := Lib.hid (E4'.out.trans (hb.mono E4'.out.size))
  clear hb
  go_wp2_with fail
  refine (all_bad ((⟨#[99, 111, 100, 101, 32, 97, 32, 123, 10, 9, 102, 105, 101, 108, 100, 32, 56, 59, 10, 9, 100, 97, 116, 97, 32, 51, 59, 10, 9, 108, 111, 99, 97, 108, 32, 48, 32, 50, 58, 32, 49, 32, 55, 59, 10, 9, 100, 111, 109, 97, 105, 110, 32, 50, 59, 10, 125, 10]⟩ : ByteArray) ++ (⟨#[99, 111, 100, 101, 32, 97, 32, 123, 10, 9, 102, 105, 101, 108, 100, 32, 56, 59, 10, 9, 100, 97, 116, 97, 32, 51, 59, 10, 9, 108, 111, 99, 97, 108, 32, 48, 32, 50, 58, 32, 49, 32, 55, 59, 10, 9, 100, 111, 109, 97, 105, 110, 32, 50, 59, 10, 125, 10]⟩ : ByteArray)) 63 4 63 4 w5 (KE2.out _ E5.out) (by rw [ByteArray.data_append, Array.toList_append]; exact Sp.ev5) rfl rfl).mono ?_
  rintro e w6 ⟨rfl, hb⟩
  have hgl : g < w5.heap.size := World.block_lt_of_cell? w5 ⟨g, 9, none⟩ hdom
  have hdom6 : ∀ V, Below w6.heap.size w6 V → V.cell? ⟨g, 9, none⟩ = some (.int .i64 2) := fun V h => (h.cell (p := ⟨g, 9, none⟩) (Nat.lt_of_lt_of_le hgl hb.size)).trans ((hb.cell (p := ⟨g, 9, none⟩) hgl).trans hdom)
  have KDM := Lib.hid hdom6
  have E6 := Lib.hid (E5.out.trans (hb.mono E5.out.size))
  clear hb hdom hdom6
  have hh6 := KG2.out w6 E6.out
  have x0 : w6.cell? ⟨w.heap.size + 1 + 1, 0, none⟩ = some (.string ⟨#[97]⟩) := blk_c hh6 0
  have x1 : w6.cell? ⟨w.heap.size + 1 + 1, 1, none⟩ = some (.int .i64 8) := blk_c hh6 1
  have x2 : w6.cell? ⟨w.heap.size + 1 + 1, 2, none⟩ = some (.int .i64 3) := blk_c hh6 2
  have x3 : w6.cell? ⟨w.heap.size + 1 + 1, 3, none⟩ = some (.slice (some ⟨w.heap.size + 1, 0, none⟩) 1 1) := blk_c hh6 3
  have x4 : w6.cell? ⟨w.heap.size + 1 + 1, 4, none⟩ = some (.int .i64 2) := blk_c hh6 4
  clear hh6
  go_wp2_with fail
  have CK := Lib.hid (Check_any (exC w.heap.size) w6 (KX2.out _ E6.out) (by show _ ≤ (3 : Int) ∧ (3 : Int) ≤ _; omega))
  refine CK.out.mono ?_
  rintro e w7 ⟨rfl, hb⟩
  rw [show ((Sp.ck (exC w.heap.size).name.data.toList (exC w.heap.size).field (exC w.heap.size).data (exC w.heap.size).rows (exC w.heap.size).dom : Nat) : Int) = 0 from by rw [show Sp.ck (exC w.heap.size).name.data.toList (exC w.heap.size).field (exC w.heap.size).data (exC w.heap.size).rows (exC w.heap.size).dom = 0 from Sp.ev6]; rfl]
  have F7 := Lib.hid hb
  have E7 := Lib.hid (E6.out.trans (hb.mono E6.out.size))
  clear hb x0 x1 x2 x3 x4
  have CZ := Lib.hid (Check_any zeroC w7 (zero_ok w7) (by show _ ≤ (0 : Int) ∧ (0 : Int) ≤ _; omega))
  go_wp2_with fail
  refine CZ.out.mono ?_
  rintro e w8 ⟨rfl, hb⟩
  rw [show ((Sp.ck zeroC.name.data.toList zeroC.field zeroC.data zeroC.rows zeroC.dom : Nat) : Int) = 4 from by rw [show Sp.ck zeroC.name.data.toList zeroC.field zeroC.data zeroC.rows zeroC.dom = 4 from Sp.ev7]; rfl]
  have F8 := Lib.hid (F7.out.trans (hb.mono F7.out.size))
  have E8 := Lib.hid (E7.out.trans (hb.mono E7.out.size))
  clear hb
  have hh_ := KG2.out w8 E8.out
  have x0 : w8.cell? ⟨w.heap.size + 1 + 1, 0, none⟩ = some (.string ⟨#[97]⟩) := blk_c hh_ 0
  have x1 : w8.cell? ⟨w.heap.size + 1 + 1, 1, none⟩ = some (.int .i64 8) := blk_c hh_ 1
  have x2 : w8.cell? ⟨w.heap.size + 1 + 1, 2, none⟩ = some (.int .i64 3) := blk_c hh_ 2
  have x3 : w8.cell? ⟨w.heap.size + 1 + 1, 3, none⟩ = some (.slice (some ⟨w.heap.size + 1, 0, none⟩) 1 1) := blk_c hh_ 3
  have x4 : w8.cell? ⟨w.heap.size + 1 + 1, 4, none⟩ = some (.int .i64 2) := blk_c hh_ 4
  clear hh_
  have hh_ := KF.out w8 E8.out
  have y0 : w8.cell? ⟨w2.heap.size, 0, none⟩ = some (.string (bs [97])) := blk_c hh_ 0
  have y1 : w8.cell? ⟨w2.heap.size, 1, none⟩ = some (.int .i64 8) := blk_c hh_ 1
  have y2 : w8.cell? ⟨w2.heap.size, 2, none⟩ = some (.int .i64 3) := blk_c hh_ 2
  have y3 : w8.cell? ⟨w2.heap.size, 3, none⟩ = some (.slice A 1 q) := blk_c hh_ 3
  have y4 : w8.cell? ⟨w2.heap.size, 4, none⟩ = some (.int .i64 2) := blk_c hh_ 4
  clear hh_
  have CS := Lib.hid (refSame_any (exC w.heap.size) (inOf Sp.cA A q) w8 (KX2.out _ E8.out) (KD.out _ E8.out))
  go_wp2_with fail
  refine CS.out.mono ?_
  rintro e w9 ⟨rfl, hb⟩
  rw [show sameC (exC w.heap.size) (inOf Sp.cA A q) = true from rfl]
  have F9 := Lib.hid (F8.out.trans (hb.mono F8.out.size))
  have E9 := Lib.hid (E8.out.trans (hb.mono E8.out.size))
  clear hb x0 x1 x2 x3 x4 y0 y1 y2 y3 y4
  have hdm : w9.cell? ⟨g, 9, none⟩ = some (.int .i64 2) := KDM.out w9 F9.out
  have hh_ := KG2.out w9 E9.out
  have x0 : w9.cell? ⟨w.heap.size + 1 + 1, 0, none⟩ = some (.string ⟨#[97]⟩) := blk_c hh_ 0
  have x1 : w9.cell? ⟨w.heap.size + 1 + 1, 1, none⟩ = some (.int .i64 8) := blk_c hh_ 1
  have x2 : w9.cell? ⟨w.heap.size + 1 + 1, 2, none⟩ = some (.int .i64 3) := blk_c hh_ 2
  have x3 : w9.cell? ⟨w.heap.size + 1 + 1, 3, none⟩ = some (.slice (some ⟨w.heap.size + 1, 0, none⟩) 1 1) := blk_c hh_ 3
  have x4 : w9.cell? ⟨w.heap.size + 1 + 1, 4, none⟩ = some (.int .i64 2) := blk_c hh_ 4
  clear hh_
  have hh_ := KF.out w9 E9.out
  have y0 : w9.cell? ⟨w2.heap.size, 0, none⟩ = some (.string (bs [97])) := blk_c hh_ 0
  have y1 : w9.cell? ⟨w2.heap.size, 1, none⟩ = some (.int .i64 8) := blk_c hh_ 1
  have y2 : w9.cell? ⟨w2.heap.size, 2, none⟩ = some (.int .i64 3) := blk_c hh_ 2
  have y3 : w9.cell? ⟨w2.heap.size, 3, none⟩ = some (.slice A 1 q) := blk_c hh_ 3
  have y4 : w9.cell? ⟨w2.heap.size, 4, none⟩ = some (.int .i64 2) := blk_c hh_ 4
  clear hh_
  go_wp2_with fail
  have CS2 := Lib.hid (Same_any (exC w.heap.size) (inOf Sp.cA A q) w9 (KX2.out _ E9.out) (KD.out _ E9.out))
  refine CS2.out.mono ?_
  rintro e w10 ⟨rfl, hb⟩
  rw [show sameC (exC w.heap.size) (inOf Sp.cA A q) = true from rfl]
  have E10 := Lib.hid (E9.out.trans (hb.mono E9.out.size))
  clear hb x0 x1 x2 x3 x4 y0 y1 y2 y3 y4 hdm
  have hh_ := KG2.out w10 E10.out
  have x0 : w10.cell? ⟨w.heap.size + 1 + 1, 0, none⟩ = some (.string ⟨#[97]⟩) := blk_c hh_ 0
  have x1 : w10.cell? ⟨w.heap.size + 1 + 1, 1, none⟩ = some (.int .i64 8) := blk_c hh_ 1
  have x2 : w10.cell? ⟨w.heap.size + 1 + 1, 2, none⟩ = some (.int .i64 3) := blk_c hh_ 2
  have x3 : w10.cell? ⟨w.heap.size + 1 + 1, 3, none⟩ = some (.slice (some ⟨w.heap.size + 1, 0, none⟩) 1 1) := blk_c hh_ 3
  have x4 : w10.cell? ⟨w.heap.size + 1 + 1, 4, none⟩ = some (.int .i64 2) := blk_c hh_ 4
  clear hh_
  have CS3 := Lib.hid (Same_any (exC w.heap.size) zeroC w10 (KX2.out _ E10.out) (zero_ok _))
  go_wp2_with fail
  refine CS3.out.mono ?_
  rintro e w11 ⟨rfl, hb⟩
  rw [show sameC (exC w.heap.size) zeroC = false from rfl]
  have E11 := Lib.hid (KB2.out _ (E10.out.trans (hb.mono E10.out.size)))
  clear hb x0 x1 x2 x3 x4
  go_wp2_with fail
  go_ret
  exact ⟨rfl, E11.out⟩
end Go.Proofs.YtppeplonnippcaaDoor
