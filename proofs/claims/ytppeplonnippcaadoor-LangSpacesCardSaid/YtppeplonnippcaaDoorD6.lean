/-
Layer 7: LangRoundTrip is walked.
-/
import Derived.Test.YtppeplonnippcaaDoorD2
import Derived.Test.YtppeplonnippcaaDoorD5
import Derived.Test.YtppeplonnippcaaDoorQ
set_option linter.unusedVariables false
set_option linter.unusedSimpArgs false
namespace Go.Proofs.YtppeplonnippcaaDoor
open Go.RowKit

def AllOk (cs : List Sp.Code) (w : World) (e : Ending) (w' : World) : Prop := ∃ A q, e = .returned (.tuple #[.slice A (cs.map toS).length q, .int .i64 0, .int .i64 0]) ∧ (cs.map toS).length ≤ q ∧ CodesAt w' A (cs.map toS) ∧ Below w.heap.size w w'
theorem all_ok (s : ByteArray) (cs : List Sp.Code) (w : World) (he : Env w) (h : Sp.parseL false s.data.toList = .ok cs) : Calls Tryd.prog 20 #[.string s] w (AllOk cs w) := by
  refine (ParseAll_any s w he).mono ?_
  rintro e w' ⟨hh, hb⟩
  rw [h] at hh
  obtain ⟨vo, rfl, hv⟩ := hh
  obtain ⟨A, q, rfl, hq, hc⟩ := hv.codesAt
  exact ⟨A, q, rfl, hq, hc, hb⟩
theorem fine_small {c : Sp.Code} (h : Sp.FineC c) : Small c := by
  have h1 := h.len; have h2 := h.width; have h3 := h.d1
  exact ⟨by omega, by omega, fun r hr => by have := (h.row hr).1; omega⟩
theorem small24 {c : Sp.Code} (h : Sp.FineC c) : Small24 (toS c) := ⟨(fine_small h).len, (fine_small h).each⟩
/-- a code of the caller's that can be printed, as the parser returns it -/
def cOf (c : CodeIn) : Sp.Code := Sp.codeOf c.name.data.toList c.field c.data c.rows c.dom
theorem cOf_same {c : CodeIn} (h : Sp.Fine c.name.data.toList c.field c.data c.rows c.dom) (A : Option Addr) (q : Nat) : sameC c (inOf (cOf c) A q) = true := by
  obtain ⟨_, e1, e2, e3⟩ := Sp.codeOf_fine h
  have h1 : (inOf (cOf c) A q).field = c.field := e1
  have h2 : (inOf (cOf c) A q).data = c.data := e2
  have h3 : (inOf (cOf c) A q).dom = c.dom := e3
  have h4 : (inOf (cOf c) A q).rows = c.rows := rfl
  have h5 : (inOf (cOf c) A q).name.data.toList = c.name.data.toList := bs_list _
  unfold sameC
  rw [h1, h2, h3, h4, h5]
  simp
theorem cOf_inS {c : CodeIn} (h : Sp.Fine c.name.data.toList c.field c.data c.rows c.dom) : toS (cOf c) = inS c := by
  obtain ⟨_, e1, e2, e3⟩ := Sp.codeOf_fine h
  show Rf.S24.mk (bs c.name.data.toList) ((cOf c).field : Int) ((cOf c).data : Int) c.rows ((cOf c).domain : Int) = Rf.S24.mk c.name c.field c.data c.rows c.dom
  rw [show ((cOf c).field : Int) = c.field from e1, show ((cOf c).data : Int) = c.data from e2, show ((cOf c).domain : Int) = c.dom from e3]
  rfl
theorem print_parse {c : CodeIn} {l : List UInt8} (h : Sp.pr c.name.data.toList c.field c.data c.rows c.dom = .ok l) : Sp.Fine c.name.data.toList c.field c.data c.rows c.dom ∧ Sp.FineC (cOf c) ∧ Sp.parseL true (bs l).data.toList = .ok [cOf c] ∧ Sp.parseL false (bs l).data.toList = .ok [cOf c] := by
  obtain ⟨hF, hl, hn⟩ := Sp.pr_ok h
  have hC := (Sp.codeOf_fine hF).1
  subst hl
  rw [bs_list]
  refine ⟨hF, hC, Sp.parse_one hC hn, ?_⟩
  have hp : Sp.prAll [cOf c] = Sp.prC (cOf c) := by simp [Sp.prAll]
  have := Sp.parse_all (cs := [cOf c]) (fun x hx => by rw [List.mem_singleton.1 hx]; exact hC) (by simp) (by simp) (by rw [hp]; exact hn)
  rw [hp] at this
  exact this

theorem codesAt_one {w : World} {b : Nat} {c : CodeIn} (h : w.heap[b]? = some (.cells #[.string c.name, .int .i64 c.field, .int .i64 c.data, .slice c.A c.rows.length c.cap, .int .i64 c.dom] 24 (0, 0))) (hok : c.Ok w) : CodesAt w (some ⟨b, 0, none⟩) [inS c] := by
  intro i hi
  obtain rfl : i = 0 := by simpa using hi
  refine ⟨⟨b, 0, none⟩, c.A, c.cap, rfl, hok.cap, hok.rows, fun k v hk => ?_⟩
  have add : ∀ k, (⟨b, 0, none⟩ : Addr).add k = ⟨b, k, none⟩ := by intro k; unfold Addr.add; split <;> simp_all
  rw [add]
  simp only [Nat.zero_mul, Nat.zero_add]
  rw [blk_c h k]
  rw [← hk]
  exact (Array.getElem?_toList (xs := #[Value.string c.name, Value.int .i64 c.field, Value.int .i64 c.data, Value.slice c.A c.rows.length c.cap, Value.int .i64 c.dom])).symm

set_option maxHeartbeats 4000000 in
set_option maxRecDepth 100000 in
theorem law6_any (a : CodeIn) (w : World) (he : Env w) (ha : a.Ok w) (hi : -9223372036854775808 ≤ a.data ∧ a.data ≤ 9223372036854775807) :
    Calls Tryd.prog 6 #[a.v] w fun e w' => e = .returned (.bool true) ∧ Below w.heap.size w w' := by
  have HE := Lib.hid he; have HA := Lib.hid ha
  have CP : Hid (∀ W, Below w.heap.size w W → Calls Tryd.prog 11 #[a.v] W (PrintPost a W)) := Lib.hid fun W h => Print_any a W (HE.out.below h) (HA.out.below h) hi
  have CS : Hid (∀ W, Below w.heap.size w W → Calls Tryd.prog 13 #[] W fun e W' => e = .returned (.bool true) ∧ Below W.heap.size W W') := Lib.hid fun W h => sanity_any W (HE.out.below h)
  have PP := Lib.hid fun l h => print_parse (c := a) (l := l) h
  have PS := Lib.hid fun h A q => cOf_same (c := a) h A q
  have PI := Lib.hid fun h => cOf_inS (c := a) h
  clear he ha hi
  obtain ⟨n1, f1, d1, A1, l1, c1, m1⟩ := a
  unfold CodeIn.v at *
  dsimp only at *
  go_enter Tryd.func6, Tryd.ntmps6
  go_wp2_with fail
  have g1 : (w.alloc (.cells #[.string n1, .int .i64 f1, .int .i64 d1, .slice A1 l1.length c1, .int .i64 m1] 24)).heap[w.heap.size]? = some (.cells #[.string n1, .int .i64 f1, .int .i64 d1, .slice A1 l1.length c1, .int .i64 m1] 24 (0, 0)) := heap_alloc_new w _
  have hb0 : Below w.heap.size w (w.alloc (.cells #[.string n1, .int .i64 f1, .int .i64 d1, .slice A1 l1.length c1, .int .i64 m1] 24)) := (Below.refl _ _).alloc (Nat.le_refl _) _
  generalize w.alloc (.cells #[.string n1, .int .i64 f1, .int .i64 d1, .slice A1 l1.length c1, .int .i64 m1] 24) = V at *
  have G1 := Lib.hid g1; have B0 := Lib.hid hb0
  have hV1 := lt_of_block g1
  clear g1 hb0
  have KB : Hid (∀ W, Below V.heap.size V W → Below w.heap.size w W) := Lib.hid fun W h => B0.out.trans (h.mono (Nat.le_of_lt hV1))
  have KX : Hid (∀ W, Below V.heap.size V W → W.heap[w.heap.size]? = some (.cells #[.string n1, .int .i64 f1, .int .i64 d1, .slice A1 l1.length c1, .int .i64 m1] 24 (0, 0))) := Lib.hid fun W h => (h.block _ hV1).trans G1.out
  refine (CP.out V B0.out).mono ?_
  rintro e w1 ⟨hh, hb⟩
  have B1 := Lib.hid hb
  have hs1 : V.heap.size ≤ w1.heap.size := hb.size
  clear hb
  dsimp only at hh
  rcases hp : Sp.pr n1.data.toList f1 d1 l1 m1 with er | l
  · rw [hp] at hh
    dsimp only at hh
    subst hh
    have her : er ≠ 0 := by
      intro h0; subst h0
      unfold Sp.pr at hp
      split at hp
      · split at hp
        · injection hp with hp; omega
        · cases hp
      · rename_i hc; injection hp with hp; exact hc hp
    have hb1 : ((er : Int) != 0) = true := by simp; omega
    have hb2 : ((er : Int) == 0) = false := by rw [beq_eq_false_iff_ne]; omega
    have HP := Lib.hid hp
    clear hp her
    go_wp2_with fail
    refine (CS.out w1 (KB.out _ B1.out)).mono ?_
    rintro e w2 ⟨rfl, hb⟩
    have hfin := KB.out _ (B1.out.trans (hb.mono hs1))
    clear hb
    go_wp2_with fail
    go_ret
    exact ⟨rfl, hfin⟩
  · rw [hp] at hh
    dsimp only at hh
    subst hh
    obtain ⟨hF, hC, hp1, hp2⟩ := PP.out l hp
    have HF := Lib.hid hF; have HC := Lib.hid hC; have H1 := Lib.hid hp1; have H2 := Lib.hid hp2
    clear hF hC hp1 hp2 hp
    obtain ⟨sl, hsl⟩ : ∃ s, s = bs l := ⟨_, rfl⟩
    rw [← hsl] at H1 H2 ⊢
    obtain ⟨cc, hcc⟩ : ∃ cc, cc = cOf ⟨n1, f1, d1, A1, l1, c1, m1⟩ := ⟨_, rfl⟩
    rw [← hcc] at H1 H2 HC PS PI
    clear hsl hcc
    go_wp2_with fail
    refine (parse_ok sl cc w1 (HE.out.below (KB.out _ B1.out)) H1.out (fine_small HC.out)).mono ?_
    rintro e w2 ⟨A, q, rfl, hok, hb⟩
    have HD := Lib.hid hok
    have B2 := Lib.hid (B1.out.trans (hb.mono hs1))
    have hs2 : V.heap.size ≤ w2.heap.size := B2.out.size
    clear hb hok
    dsimp only [inOf, CodeIn.v]
    go_wp2_with fail
    have gd : (w2.alloc (.cells #[.string (bs cc.name), .int .i64 cc.field, .int .i64 cc.data, .slice A cc.parity.length q, .int .i64 cc.domain] 24)).heap[w2.heap.size]? = some (.cells #[.string (bs cc.name), .int .i64 cc.field, .int .i64 cc.data, .slice A cc.parity.length q, .int .i64 cc.domain] 24 (0, 0)) := heap_alloc_new w2 _
    have hbd := B2.out.alloc hs2 (.cells #[.string (bs cc.name), .int .i64 cc.field, .int .i64 cc.data, .slice A cc.parity.length q, .int .i64 cc.domain] 24)
    have hokd := HD.out.below ((Below.refl _ _).alloc (Nat.le_refl _) (.cells #[.string (bs cc.name), .int .i64 cc.field, .int .i64 cc.data, .slice A cc.parity.length q, .int .i64 cc.domain] 24))
    generalize w2.alloc (.cells #[.string (bs cc.name), .int .i64 cc.field, .int .i64 cc.data, .slice A cc.parity.length q, .int .i64 cc.domain] 24) = W2 at *
    have hW2 := lt_of_block gd
    have hVW : V.heap.size ≤ W2.heap.size := hbd.size
    have BD := Lib.hid hbd; have GD := Lib.hid gd; have HD2 := Lib.hid hokd
    clear hbd gd hokd
    have KB2 : Hid (∀ W, Below W2.heap.size W2 W → Below w.heap.size w W) := Lib.hid fun W h => KB.out W (BD.out.trans (h.mono hVW))
    have KX2 : Hid (∀ W, Below W2.heap.size W2 W → W.heap[w.heap.size]? = some (.cells #[.string n1, .int .i64 f1, .int .i64 d1, .slice A1 l1.length c1, .int .i64 m1] 24 (0, 0))) := Lib.hid fun W h => KX.out W (BD.out.trans (h.mono hVW))
    have KD : Hid (∀ W, Below W2.heap.size W2 W → (inOf cc A q).Ok W) := Lib.hid fun W h => HD2.out.below h
    have KF : Hid (∀ W, Below W2.heap.size W2 W → W.heap[w2.heap.size]? = some (.cells #[.string (bs cc.name), .int .i64 cc.field, .int .i64 cc.data, .slice A cc.parity.length q, .int .i64 cc.domain] 24 (0, 0))) := Lib.hid fun W h => (h.block _ hW2).trans GD.out
    have E0 : Hid (Below W2.heap.size W2 W2) := Lib.hid (Below.refl _ _)
    refine (all_ok sl [cc] W2 (HE.out.below (KB2.out _ E0.out)) H2.out).mono ?_
    rintro e w3 ⟨A3, q3, rfl, hq3, hc3, hb⟩
    have E3 := Lib.hid hb
    have HL3 := Lib.hid hc3
    clear hb hc3
    simp only [List.map_cons, List.map_nil, List.length_cons, List.length_nil, Nat.zero_add] at hq3 HL3 ⊢
    go_wp2_with fail
    refine (CS.out w3 (KB2.out _ E3.out)).mono ?_
    rintro e w4 ⟨rfl, hb⟩
    have HL4 := Lib.hid (HL3.out.below hb)
    have E4 := Lib.hid (E3.out.trans (hb.mono E3.out.size))
    clear hb
    have hx := KX2.out w4 E4.out
    have x0 : w4.cell? ⟨w.heap.size, 0, none⟩ = some (.string n1) := blk_c hx 0
    have x1 : w4.cell? ⟨w.heap.size, 1, none⟩ = some (.int .i64 f1) := blk_c hx 1
    have x2 : w4.cell? ⟨w.heap.size, 2, none⟩ = some (.int .i64 d1) := blk_c hx 2
    have x3 : w4.cell? ⟨w.heap.size, 3, none⟩ = some (.slice A1 l1.length c1) := blk_c hx 3
    have x4 : w4.cell? ⟨w.heap.size, 4, none⟩ = some (.int .i64 m1) := blk_c hx 4
    have hy := KF.out w4 E4.out
    have y0 : w4.cell? ⟨w2.heap.size, 0, none⟩ = some (.string (bs cc.name)) := blk_c hy 0
    have y1 : w4.cell? ⟨w2.heap.size, 1, none⟩ = some (.int .i64 cc.field) := blk_c hy 1
    have y2 : w4.cell? ⟨w2.heap.size, 2, none⟩ = some (.int .i64 cc.data) := blk_c hy 2
    have y3 : w4.cell? ⟨w2.heap.size, 3, none⟩ = some (.slice A cc.parity.length q) := blk_c hy 3
    have y4 : w4.cell? ⟨w2.heap.size, 4, none⟩ = some (.int .i64 cc.domain) := blk_c hy 4
    clear hx hy
    have CM := Lib.hid (refSame_any ⟨n1, f1, d1, A1, l1, c1, m1⟩ (inOf cc A q) w4 (HA.out.below (KB2.out _ E4.out)) (KD.out _ E4.out))
    go_wp2_with fail
    refine CM.out.mono ?_
    rintro e w5 ⟨rfl, hb⟩
    rw [PS.out HF.out A q]
    have HL5 := Lib.hid (HL4.out.below hb)
    have E5 := Lib.hid (E4.out.trans (hb.mono E4.out.size))
    clear hb x0 x1 x2 x3 x4 y0 y1 y2 y3 y4 CM
    have hx := KX2.out w5 E5.out
    have x0 : w5.cell? ⟨w.heap.size, 0, none⟩ = some (.string n1) := blk_c hx 0
    have x1 : w5.cell? ⟨w.heap.size, 1, none⟩ = some (.int .i64 f1) := blk_c hx 1
    have x2 : w5.cell? ⟨w.heap.size, 2, none⟩ = some (.int .i64 d1) := blk_c hx 2
    have x3 : w5.cell? ⟨w.heap.size, 3, none⟩ = some (.slice A1 l1.length c1) := blk_c hx 3
    have x4 : w5.cell? ⟨w.heap.size, 4, none⟩ = some (.int .i64 m1) := blk_c hx 4
    clear hx
    go_wp2_with fail
    have gz : (w5.alloc (.cells #[.string n1, .int .i64 f1, .int .i64 d1, .slice A1 l1.length c1, .int .i64 m1] 24)).heap[w5.heap.size]? = some (.cells #[.string n1, .int .i64 f1, .int .i64 d1, .slice A1 l1.length c1, .int .i64 m1] 24 (0, 0)) := heap_alloc_new w5 _
    have hbz : Below w5.heap.size w5 (w5.alloc (.cells #[.string n1, .int .i64 f1, .int .i64 d1, .slice A1 l1.length c1, .int .i64 m1] 24)) := (Below.refl _ _).alloc (Nat.le_refl _) _
    have E6 := Lib.hid (E5.out.trans (hbz.mono E5.out.size))
    have hz1 := codesAt_one (c := ⟨n1, f1, d1, A1, l1, c1, m1⟩) gz (HA.out.below (KB2.out _ E6.out))
    rw [← PI.out HF.out] at hz1
    have CZ := Lib.hid (sameAll_any A3 (some ⟨w5.heap.size, 0, none⟩) q3 1 [toS cc] _ (HL5.out.below hbz) hz1 (by simp) (fun x hx => by rw [List.mem_singleton.1 hx]; exact small24 HC.out) hq3 (by simp))
    clear gz hbz hz1 x0 x1 x2 x3 x4
    refine CZ.out.mono ?_
    rintro e w7 ⟨rfl, hb⟩
    have hfin := KB2.out _ (E6.out.trans (hb.mono E6.out.size))
    clear hb
    go_wp2_with fail
    go_ret
    exact ⟨rfl, hfin⟩
end Go.Proofs.YtppeplonnippcaaDoor
