/-
Layer 7: the text of a code.
-/
import Derived.Test.YtppeplonnippcaaDoorC4
import Derived.Test.YtppeplonnippcaaDoorS
set_option linter.unusedVariables false
set_option linter.unusedSimpArgs false
namespace Go.Proofs.YtppeplonnippcaaDoor
open Go.RowKit

theorem ln_bs (s : ByteArray) : ((⟨#[9]⟩ : ByteArray) ++ s ++ (⟨#[59, 10]⟩ : ByteArray)).data.toList = Sp.ln s.data.toList := by
  simp [Sp.ln, ByteArray.data_append]
theorem ln_size (s : ByteArray) : ((⟨#[9]⟩ : ByteArray) ++ s ++ (⟨#[59, 10]⟩ : ByteArray)).size = s.size + 3 := by
  rw [ByteArray.size_append, ByteArray.size_append]
  show 1 + s.size + 2 = _
  omega

/-- a line is written: behind it the builder holds it -/
def LnPost (B b : Nat) (v : Value) (l : List UInt8) (s : ByteArray) (w : World) (e : Ending) (w' : World) : Prop :=
  e = .returned (.tuple #[]) ∧ ∃ v', Bld B b v' (l ++ Sp.ln s.data.toList) w' ∧ Below B w w'
set_option maxRecDepth 100000 in
theorem line_any (B b : Nat) (v : Value) (l : List UInt8) (s : ByteArray) (w : World) (h : Bld B b v l w) (hlen : l.length + s.size ≤ 1000000) (hBw : B ≤ w.heap.size) :
    Calls Tryd.prog 28 #[.string s, .pointer (some ⟨b, 0, none⟩)] w (LnPost B b v l s w) := by
  have C := Lib.hid (write_any B b v l ((⟨#[9]⟩ : ByteArray) ++ s ++ (⟨#[59, 10]⟩ : ByteArray)) w h (by rw [ln_size]; omega) (by rw [ln_size]; omega) hBw)
  have H := Lib.hid h
  have hs : s.size ≤ 1000000 := by omega
  clear h
  go_enter Tryd.func28, Tryd.ntmps28
  go_wp2_with fail
  refine C.out.mono ?_
  rintro e w2 ⟨rfl, v', hv, hf, _⟩
  have H2 := Lib.hid hv; have HF := Lib.hid hf
  clear hv hf
  go_wp2_with fail
  go_end0
  refine ⟨rfl, v', ?_, HF.out.below H.out⟩
  rw [← ln_bs]; exact H2.out

theorem Bld.isB {B b : Nat} {v : Value} {l : List UInt8} {w : World} (h : Bld B b v l w) : Lib.IsBuilder 42 5 B b (Lib.byteCells l) w := by
  have hown : w.ownsRow B 5 1 v (Lib.byteCells l).length (Lib.byteCells l) := by rw [Lib.byteCells_length]; exact h.own
  rcases h.blk with h1 | h1
  · exact .inl ⟨h.lo, v, h1, hown, h.ne⟩
  · exact .inr ⟨h.lo, v, h1, hown, h.ne⟩
def PrintPost (c : CodeIn) (w : World) (e : Ending) (w' : World) : Prop :=
  (match Sp.pr c.name.data.toList c.field c.data c.rows c.dom with
   | .ok l => e = .returned (.tuple #[.string (bs l), .int .i64 0])
   | .error er => e = .returned (.tuple #[.string ⟨#[]⟩, .int .i64 er])) ∧ Below w.heap.size w w'
set_option maxHeartbeats 2000000 in
set_option maxRecDepth 100000 in
theorem Print_any (c : CodeIn) (w : World) (he : Env w) (h : c.Ok w) (hi : -9223372036854775808 ≤ c.data ∧ c.data ≤ 9223372036854775807) : Calls Tryd.prog 11 #[c.v] w (PrintPost c w) := by
  obtain ⟨n1, f1, d1, A1, l1, c1, m1⟩ := c
  have CK := Lib.hid fun W (hb : Below w.heap.size w W) => Check_any ⟨n1, f1, d1, A1, l1, c1, m1⟩ W (h.below hb) hi
  have HO := Lib.hid h; have HE := Lib.hid he
  clear h he hi
  unfold CodeIn.v at *
  dsimp only at *
  go_enter Tryd.func11, Tryd.ntmps11
  go_wp2_with fail
  have g := heap_alloc_new w (.cells #[.string n1, .int .i64 f1, .int .i64 d1, .slice A1 l1.length c1, .int .i64 m1] 24)
  have HB : Hid (Below w.heap.size w (w.alloc (.cells #[.string n1, .int .i64 f1, .int .i64 d1, .slice A1 l1.length c1, .int .i64 m1] 24))) := Lib.hid ((Below.refl _ _).alloc (Nat.le_refl _) _)
  have hL := lt_of_block g
  generalize w.alloc (.cells #[.string n1, .int .i64 f1, .int .i64 d1, .slice A1 l1.length c1, .int .i64 m1] 24) = W at *
  have G := Lib.hid g; clear g
  refine (CK.out W HB.out).mono ?_
  rintro e w2 ⟨rfl, hb⟩
  dsimp only
  have HB2 := Lib.hid (HB.out.trans (hb.mono (Nat.le_of_lt hL)))
  have G2 := Lib.hid ((hb.block _ hL).trans G.out)
  have hL2 : w.heap.size < w2.heap.size := lt_of_block G2.out
  clear hb CK hL
  obtain ⟨ck, hck⟩ : ∃ ck, ck = Sp.ck n1.data.toList f1 d1 l1 m1 := ⟨_, rfl⟩
  rw [← hck]
  have HCK := Lib.hid hck; clear hck
  by_cases h0 : ck = 0
  · subst h0
    have hF := Sp.ck_fine HCK.out.symm
    have HFI := Lib.hid hF
    have hn12 : n1.size ≤ 12 := hF.len
    have hf0 : 0 ≤ f1 ∧ f1 ≤ 99 := by rcases hF.fi with e | e <;> omega
    have hd0 := hF.d1; have hd1 := hF.d31; have hm0 := hF.m1
    have hll : l1.length ≤ 31 := by have := hF.width; omega
    have hmm : m1 ≤ 32 := by have := hF.mw; have := hF.width; omega
    clear hF
    have GK := Lib.hid fun W (hb : Below w2.heap.size w2 W) => (hb.block _ hL2).trans G2.out
    have HEN : Hid (∀ W, Below w2.heap.size w2 W → Env W) := Lib.hid fun W hb => HE.out.below (HB2.out.trans (hb.mono (Nat.le_of_lt hL2)))
    have HRW : Hid (∀ W, Below w2.heap.size w2 W → RowsAt W A1 l1) := Lib.hid fun W hb => HO.out.rows.below (HB2.out.trans (hb.mono (Nat.le_of_lt hL2)))
    have HEND : Hid (∀ W, Below w2.heap.size w2 W → Below w.heap.size w W) := Lib.hid fun W hb => HB2.out.trans (hb.mono (Nat.le_of_lt hL2))
    have HROW : Hid (∀ r ∈ l1, r.length ≤ 31 ∧ ∀ x ∈ r, 0 ≤ x ∧ x ≤ 65535) := Lib.hid fun r hr => HFI.out.row hr
    have a0 : w2.cell? ⟨w.heap.size, 0, none⟩ = some (.string n1) := blk_c G2.out 0
    have hcode : ((⟨#[99, 111, 100, 101, 32]⟩ : ByteArray) ++ n1 ++ (⟨#[32, 123, 10]⟩ : ByteArray)).size = n1.size + 8 := by rw [ByteArray.size_append, ByteArray.size_append]; show 5 + n1.size + 3 = _; omega
    have HCD : Hid (((⟨#[99, 111, 100, 101, 32]⟩ : ByteArray) ++ n1 ++ (⟨#[32, 123, 10]⟩ : ByteArray)).data.toList = (Sp.kCode ++ [32]) ++ n1.data.toList ++ [32, 123, 10]) := Lib.hid (by simp [ByteArray.data_append, Sp.kCode])
    have HCS := Lib.hid hcode; clear hcode
    go_wp2_with fail
    have gb : (w2.alloc (.cells #[.pointer none, .slice none 0 0] 42)).heap[w2.heap.size]? = some (.cells #[.pointer none, .slice none 0 0] 42 (0, 0)) := heap_alloc_new w2 _
    have HBl0 : Hid (Bld w2.heap.size w2.heap.size (.slice none 0 0) [] (w2.alloc (.cells #[.pointer none, .slice none 0 0] 42))) := Lib.hid ⟨Nat.le_refl _, .inl gb, World.ownsRow_nil _ _ _ _, fun _ => rfl⟩
    have HE0 : Hid (Below w2.heap.size w2 (w2.alloc (.cells #[.pointer none, .slice none 0 0] 42))) := Lib.hid ((Below.refl _ _).alloc (Nat.le_refl _) _)
    clear gb
    refine (write_any w2.heap.size w2.heap.size _ [] ((⟨#[99, 111, 100, 101, 32]⟩ : ByteArray) ++ n1 ++ (⟨#[32, 123, 10]⟩ : ByteArray)) _ HBl0.out (by rw [HCS.out]; omega) (by rw [HCS.out]; simp; omega) HE0.out.size).mono ?_
    rintro e y1 ⟨rfl, v1, hv, hf, _⟩
    rw [HCD.out, List.nil_append] at hv
    have HBl1 := Lib.hid hv
    have HE1 := Lib.hid (HE0.out.trans (hf.below HBl0.out))
    clear hv hf a0
    have hN : n1.data.toList.length = n1.size := rfl
    have hK0 : ((Sp.kCode ++ [32]) ++ n1.data.toList ++ [32, 123, 10]).length ≤ 20 := by simp only [List.length_append, List.length_cons, List.length_nil, Sp.kCode, hN]; omega
    have HN := Lib.hid hN; clear hN
    obtain ⟨L1, hL1⟩ : ∃ L1, L1 = (Sp.kCode ++ [32]) ++ n1.data.toList ++ [32, 123, 10] := ⟨_, rfl⟩
    rw [← hL1] at HBl1 hK0
    have HL1 := Lib.hid hL1; clear hL1
    have q2 : y1.cell? ⟨w.heap.size, 1, none⟩ = some (.int .i64 f1) := blk_c (GK.out _ HE1.out) 1
    go_wp2_with fail
    refine (itoa_any f1 y1 (HEN.out _ HE1.out) (by omega) (by omega)).mono ?_
    rintro e x2 ⟨rfl, hb⟩
    have hd := Sp.dec_len (n := f1) (by omega) (by omega)
    obtain ⟨s2, hs2⟩ : ∃ s, s = bs (Sp.dec f1) := ⟨_, rfl⟩
    have hz2 : s2.size ≤ 5 := by rw [hs2]; exact hd
    rw [← hs2]
    have HS2 := Lib.hid hs2
    have HBx2 := Lib.hid (HBl1.out.below hb)
    have HEx2 := Lib.hid (HE1.out.trans (hb.mono HE1.out.size))
    have hx2 : w2.heap.size ≤ x2.heap.size := HEx2.out.size
    clear hd hs2 hb q2
    go_wp2_with fail
    refine (line_any w2.heap.size w2.heap.size _ _ ((⟨#[102, 105, 101, 108, 100, 32]⟩ : ByteArray) ++ s2) x2 HBx2.out (by rw [ByteArray.size_append]; have hq : (⟨#[102, 105, 101, 108, 100, 32]⟩ : ByteArray).size = 6 := rfl; rw [hq]; omega) hx2).mono ?_
    rintro e y2 ⟨rfl, v2, hv, hb⟩
    have e2 : ((⟨#[102, 105, 101, 108, 100, 32]⟩ : ByteArray) ++ s2).data.toList = (Sp.kField ++ [32]) ++ Sp.dec f1 := by rw [HS2.out]; simp [bs, ByteArray.data_append, Sp.kField]
    rw [e2] at hv
    have HBl2 := Lib.hid hv
    have HE2 := Lib.hid (HEx2.out.trans hb)
    have hy2 : w2.heap.size ≤ y2.heap.size := HE2.out.size
    clear hv hb e2
    have hK2 : (L1 ++ Sp.ln ((Sp.kField ++ [32]) ++ Sp.dec f1)).length ≤ 40 := by have := Sp.dec_len (n := f1) (by omega) (by omega); simp only [List.length_append, List.length_cons, List.length_nil, Sp.kField, Sp.ln]; omega
    obtain ⟨L2, hL2'⟩ : ∃ L2, L2 = L1 ++ Sp.ln ((Sp.kField ++ [32]) ++ Sp.dec f1) := ⟨_, rfl⟩
    rw [← hL2'] at HBl2 hK2
    have HL2 := Lib.hid hL2'; clear hL2'
    have q3 : y2.cell? ⟨w.heap.size, 2, none⟩ = some (.int .i64 d1) := blk_c (GK.out _ HE2.out) 2
    go_wp2_with fail
    refine (itoa_any d1 y2 (HEN.out _ HE2.out) (by omega) (by omega)).mono ?_
    rintro e x3 ⟨rfl, hb⟩
    have hd := Sp.dec_len (n := d1) (by omega) (by omega)
    obtain ⟨s3, hs3⟩ : ∃ s, s = bs (Sp.dec d1) := ⟨_, rfl⟩
    have hz3 : s3.size ≤ 5 := by rw [hs3]; exact hd
    rw [← hs3]
    have HS3 := Lib.hid hs3
    have HBx3 := Lib.hid (HBl2.out.below hb)
    have HEx3 := Lib.hid (HE2.out.trans (hb.mono HE2.out.size))
    have hx3 : w2.heap.size ≤ x3.heap.size := HEx3.out.size
    clear hd hs3 hb q3
    go_wp2_with fail
    refine (line_any w2.heap.size w2.heap.size _ _ ((⟨#[100, 97, 116, 97, 32]⟩ : ByteArray) ++ s3) x3 HBx3.out (by rw [ByteArray.size_append]; have hq : (⟨#[100, 97, 116, 97, 32]⟩ : ByteArray).size = 5 := rfl; rw [hq]; omega) hx3).mono ?_
    rintro e y3 ⟨rfl, v3, hv, hb⟩
    have e3 : ((⟨#[100, 97, 116, 97, 32]⟩ : ByteArray) ++ s3).data.toList = (Sp.kData ++ [32]) ++ Sp.dec d1 := by rw [HS3.out]; simp [bs, ByteArray.data_append, Sp.kData]
    rw [e3] at hv
    have HBl3 := Lib.hid hv
    have HE3 := Lib.hid (HEx3.out.trans hb)
    have hy3 : w2.heap.size ≤ y3.heap.size := HE3.out.size
    clear hv hb e3
    have hK3 : (L2 ++ Sp.ln ((Sp.kData ++ [32]) ++ Sp.dec d1)).length ≤ 60 := by have := Sp.dec_len (n := d1) (by omega) (by omega); simp only [List.length_append, List.length_cons, List.length_nil, Sp.kData, Sp.ln]; omega
    obtain ⟨L3, hL3'⟩ : ∃ L3, L3 = L2 ++ Sp.ln ((Sp.kData ++ [32]) ++ Sp.dec d1) := ⟨_, rfl⟩
    rw [← hL3'] at HBl3 hK3
    have HL3 := Lib.hid hL3'; clear hL3'
    have q4 : y3.cell? ⟨w.heap.size, 3, none⟩ = some (.slice A1 l1.length c1) := blk_c (GK.out _ HE3.out) 3
    go_wp2_with fail
    clear q4
    go_loopg [8, 35] l1.length (fun k v8 v35 wr => ∃ (j : Nat) (v : Value), k = l1.length - j ∧ j ≤ l1.length ∧ v35 = .int .i64 j ∧ Bld w2.heap.size w2.heap.size v (L3 ++ Sp.prRows (l1.take j)) wr ∧ Below w2.heap.size w2 wr)
    case atStart => exact ⟨0, v3, rfl, Nat.zero_le _, rfl, by rw [List.take_zero, show Sp.prRows [] = [] from rfl, List.append_nil]; exact HBl3.out, HE3.out⟩
    case round =>
      obtain ⟨j, v, hk, hj, rfl, hbl, hbe⟩ := hrel
      have HK := Lib.hid hk; have HBl := Lib.hid hbl; have HEr := Lib.hid hbe
      clear hk hbl
      have hLn : (L3 ++ Sp.prRows (l1.take j)).length ≤ 100000 := by
        have h1 := Sp.prRows_len (l1.take j) (fun r hr => ⟨by have := (HROW.out r (List.mem_of_mem_take hr)).1; omega, fun x hx => by have := ((HROW.out r (List.mem_of_mem_take hr)).2 x hx).2; omega⟩)
        have h2 : (l1.take j).length ≤ 31 := by rw [List.length_take]; omega
        rw [List.length_append]; omega
      have hwr : w2.heap.size ≤ wr.heap.size := hbe.size
      by_cases hlt : j < l1.length
      · have hb2 : decide ((j : Int) < (l1.length : Int)) = true := by rw [decide_eq_true_iff]; omega
        have hb3 : (j : Int) < (l1.length : Int) := by omega
        obtain ⟨ad, A0, c0, hA, hc, hc0, hr0⟩ := HRW.out wr hbe j hlt
        subst hA
        have hmem := HROW.out l1[j] (List.getElem_mem hlt)
        have HSN : Hid (Sp.prRows (l1.take (j + 1)) = Sp.prRows (l1.take j) ++ Sp.ln (Sp.prRow l1[j])) := Lib.hid (by rw [List.take_succ_eq_append_getElem hlt, Sp.prRows_snoc])
        generalize l1[j] = r at *
        have hrl := hmem.1
        have hpl := Sp.prRow_len (r := r) (by omega) (fun x hx => by have := (hmem.2 x hx).2; omega)
        have CP := Lib.hid (printRow_any A0 c0 r wr (HEN.out _ hbe) hr0 (by omega) (fun x hx => by have := (hmem.2 x hx).2; omega))
        clear hbe hmem hr0
        go_wp2_with fail
        refine CP.out.mono ?_
        rintro e x4 ⟨rfl, hb⟩
        obtain ⟨sr, hsr⟩ : ∃ s, s = bs (Sp.prRow r) := ⟨_, rfl⟩
        have hzr : sr.size ≤ 2000 := by rw [hsr]; exact hpl
        rw [← hsr]
        have HSR := Lib.hid hsr
        have HBx := Lib.hid (HBl.out.below hb)
        have HEx := Lib.hid (HEr.out.trans (hb.mono hwr))
        have hx4 : w2.heap.size ≤ x4.heap.size := HEx.out.size
        clear hsr hb hpl CP hc
        go_wp2_with fail
        refine (line_any w2.heap.size w2.heap.size _ _ sr x4 HBx.out (by omega) hx4).mono ?_
        rintro e y4 ⟨rfl, v4, hv, hb⟩
        have e4 : sr.data.toList = Sp.prRow r := by rw [HSR.out]; exact bs_list _
        rw [e4, List.append_assoc, ← HSN.out] at hv
        have HBl4 := Lib.hid hv
        have HE4 := Lib.hid (HEx.out.trans hb)
        clear hv hb e4
        go_wp2_with fail
        go_roundg (l1.length - (j + 1))
        case measure => rw [HK.out]; omega
        case rel => exact ⟨j + 1, v4, rfl, by omega, by go_num, HBl4.out, HE4.out⟩
      · have hb2 : decide ((j : Int) < (l1.length : Int)) = false := by rw [decide_eq_false_iff_not]; omega
        have htk : l1.take j = l1 := List.take_of_length_le (by omega)
        rw [htk] at HBl hLn
        clear htk hbe
        obtain ⟨L4, hL4⟩ : ∃ L4, L4 = L3 ++ Sp.prRows l1 := ⟨_, rfl⟩
        rw [← hL4] at HBl hLn
        have HL4 := Lib.hid hL4; clear hL4
        have HE := Lib.hid HEr.out
        have q5 : wr.cell? ⟨w.heap.size, 4, none⟩ = some (.int .i64 m1) := blk_c (GK.out _ HEr.out) 4
        go_wp2_with fail
        refine (itoa_any m1 wr (HEN.out _ HEr.out) (by omega) (by omega)).mono ?_
        rintro e x5 ⟨rfl, hb⟩
        have hd := Sp.dec_len (n := m1) (by omega) (by omega)
        obtain ⟨s5, hs5⟩ : ∃ s, s = bs (Sp.dec m1) := ⟨_, rfl⟩
        have hz5 : s5.size ≤ 5 := by rw [hs5]; exact hd
        rw [← hs5]
        have HS5 := Lib.hid hs5
        have HBx5 := Lib.hid (HBl.out.below hb)
        have HEx5 := Lib.hid (HEr.out.trans (hb.mono HEr.out.size))
        have hx5 : w2.heap.size ≤ x5.heap.size := HEx5.out.size
        clear hd hs5 hb q5
        go_wp2_with fail
        refine (line_any w2.heap.size w2.heap.size _ _ ((⟨#[100, 111, 109, 97, 105, 110, 32]⟩ : ByteArray) ++ s5) x5 HBx5.out (by rw [ByteArray.size_append]; have hq : (⟨#[100, 111, 109, 97, 105, 110, 32]⟩ : ByteArray).size = 7 := rfl; rw [hq]; omega) hx5).mono ?_
        rintro e y5 ⟨rfl, v5, hv, hb⟩
        have e5 : ((⟨#[100, 111, 109, 97, 105, 110, 32]⟩ : ByteArray) ++ s5).data.toList = (Sp.kDomain ++ [32]) ++ Sp.dec m1 := by rw [HS5.out]; simp [bs, ByteArray.data_append, Sp.kDomain]
        rw [e5] at hv
        have HBl5 := Lib.hid hv
        have HE5 := Lib.hid (HEx5.out.trans hb)
        have hy5 : w2.heap.size ≤ y5.heap.size := HE5.out.size
        clear hv hb e5
        have hK5 : (L4 ++ Sp.ln ((Sp.kDomain ++ [32]) ++ Sp.dec m1)).length ≤ 100100 := by have := Sp.dec_len (n := m1) (by omega) (by omega); simp only [List.length_append, List.length_cons, List.length_nil, Sp.kDomain, Sp.ln] at *; omega
        go_wp2_with fail
        refine (write_any w2.heap.size w2.heap.size _ _ (⟨#[125, 10]⟩ : ByteArray) _ HBl5.out (by decide) (by show _ + 2 ≤ _; omega) hy5).mono ?_
        rintro e y6 ⟨rfl, v6, hv, hf, _⟩
        have HBl6 := Lib.hid hv
        have HE6 := Lib.hid (HE5.out.trans (hf.below HBl5.out))
        obtain ⟨L6, hL6⟩ : ∃ L6, L6 = L4 ++ Sp.ln ((Sp.kDomain ++ [32]) ++ Sp.dec m1) ++ (⟨#[125, 10]⟩ : ByteArray).data.toList := ⟨_, rfl⟩
        rw [← hL6] at HBl6
        have HPS : Hid (Sp.prS n1.data.toList f1 d1 l1 m1 = L6) := Lib.hid (by rw [hL6, HL4.out, HL3.out, HL2.out, HL1.out]; rfl)
        clear hL6 hf hv
        have CLEN := Lib.hid (Tryd.Builder_Len w2.heap.size w2.heap.size _ y6 HBl6.out.isB)
        have CSTR := Lib.hid (string_any w2.heap.size w2.heap.size v6 L6 y6 HBl6.out)
        have HLL : Hid ((Lib.byteCells L6).length = L6.length) := Lib.hid (Lib.byteCells_length _)
        have HFIN : Hid (∀ y7, Fr w2.heap.size v6 y6 y7 → Below w.heap.size w y7) := Lib.hid fun y7 h => HEND.out _ (HE6.out.trans (h.below HBl6.out))
        go_wp2_with fail
        refine CLEN.out.mono ?_
        rintro e y7 ⟨rfl, rfl⟩
        rw [HLL.out]
        by_cases hbig : 2000 < L6.length
        · have hq1 : decide ((L6.length : Int) > 2000) = true := by rw [decide_eq_true_iff]; omega
          have hq2 : decide (2000 < L6.length) = true := decide_eq_true hbig
          go_wp2_with fail
          go_ret2
          refine ⟨?_, HEND.out _ HE6.out⟩
          dsimp only
          rw [show Sp.pr n1.data.toList f1 d1 l1 m1 = _ from (by unfold Sp.pr; rw [if_pos HCK.out.symm, if_pos (by rw [HPS.out]; exact hbig)])]
          rfl
        · have hq1 : decide ((L6.length : Int) > 2000) = false := by rw [decide_eq_false_iff_not]; omega
          have hq2 : decide (2000 < L6.length) = false := decide_eq_false hbig
          go_wp2_with fail
          refine CSTR.out.mono ?_
          rintro e y8 ⟨rfl, hf⟩
          have HF8 := Lib.hid (HFIN.out _ hf)
          clear hf
          go_wp2_with fail
          go_ret2
          refine ⟨?_, HF8.out⟩
          dsimp only
          rw [show Sp.pr n1.data.toList f1 d1 l1 m1 = _ from (by unfold Sp.pr; rw [if_pos HCK.out.symm, if_neg (by rw [HPS.out]; exact hbig), HPS.out])]
          rfl
  · have hb1 : ((ck : Int) != 0) = true := by simp; omega
    have hb2 : ((ck : Int) == 0) = false := by rw [beq_eq_false_iff_ne]; omega
    go_wp2_with fail
    go_ret2
    refine ⟨?_, HB2.out⟩
    dsimp only
    rw [show Sp.pr n1.data.toList f1 d1 l1 m1 = _ from (by unfold Sp.pr; rw [if_neg (by rw [← HCK.out]; exact h0)])]
    dsimp only
    rw [← HCK.out]
    rfl
end Go.Proofs.YtppeplonnippcaaDoor
