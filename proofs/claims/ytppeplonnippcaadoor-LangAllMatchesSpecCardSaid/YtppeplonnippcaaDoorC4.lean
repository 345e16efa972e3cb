/-
Layer 7: the text of a row.
-/
import Derived.Test.YtppeplonnippcaaDoorC3
import Derived.Test.YtppeplonnippcaaDoorS
set_option linter.unusedVariables false
set_option linter.unusedSimpArgs false
namespace Go.Proofs.YtppeplonnippcaaDoor
open Go.RowKit

def IxPost (xs : List Int) (x : Int) (w : World) (e : Ending) (w' : World) : Prop := ∃ n : Int, e = .returned (.int .i64 n) ∧ (0 ≤ n ↔ x ∈ xs) ∧ w = w'
set_option maxRecDepth 100000 in
theorem index_any (A : Option Addr) (c : Nat) (xs : List Int) (x : Int) (w : World) (hx : IntsAt w A xs) (hl : xs.length ≤ 4611686018427387904) :
    Calls Tryd.prog 73 #[.slice A xs.length c, .int .i64 x] w (IxPost xs x w) := by
  have HX := Lib.hid hx
  have HP : Hid (∀ n : Int, (0 ≤ n ↔ x ∈ xs) → IxPost xs x w (.returned (.int .i64 n)) w) := Lib.hid fun n h => ⟨n, rfl, h, rfl⟩
  clear hx
  go_enter Tryd.func73, Tryd.ntmps73
  go_wp2_with fail
  go_loopg [5, 8] xs.length (fun k v5 v8 wr => ∃ j : Nat, k = xs.length - j ∧ j ≤ xs.length ∧ v8 = .int .i64 j ∧ (∀ i (h : i < xs.length), i < j → xs[i] ≠ x) ∧ w = wr)
  case atStart => exact ⟨0, rfl, Nat.zero_le _, rfl, fun i _ h => absurd h (Nat.not_lt_zero _), rfl⟩
  case round =>
    obtain ⟨j, hk, hj, rfl, hne, rfl⟩ := hrel
    have HK := Lib.hid hk; have HN := Lib.hid hne
    clear hk hne
    by_cases hlt : j < xs.length
    · have hb2 : decide ((j : Int) < (xs.length : Int)) = true := by rw [decide_eq_true_iff]; omega
      have hb3 : (j : Int) < (xs.length : Int) := by omega
      obtain ⟨ad, hA, hc⟩ := HX.out j hlt
      subst hA
      by_cases he : x = xs[j]
      · have heb : (x == xs[j]) = true := by rw [beq_iff_eq]; exact he
        have HE := Lib.hid he; clear he
        go_wp2_with fail
        go_ret
        exact HP.out _ ⟨fun _ => by rw [HE.out]; exact List.getElem_mem hlt, fun _ => by omega⟩
      · have heb : (x == xs[j]) = false := by rw [beq_eq_false_iff_ne]; exact he
        have HE := Lib.hid he; clear he
        go_wp2_with fail
        go_roundg (xs.length - (j + 1))
        case measure => rw [HK.out]; omega
        case rel =>
          refine ⟨j + 1, rfl, by omega, by go_num, fun i h h2 => ?_, rfl⟩
          by_cases hij : i = j
          · subst hij; exact fun e => HE.out e.symm
          · exact HN.out i h (by omega)
    · have hb2 : decide ((j : Int) < (xs.length : Int)) = false := by rw [decide_eq_false_iff_not]; omega
      go_wp2_with fail
      go_ret
      refine HP.out _ ⟨fun h => absurd h (by decide), fun h => ?_⟩
      obtain ⟨i, hi, e⟩ := List.mem_iff_getElem.1 h
      exact absurd e (HN.out i hi (by omega))
theorem contains_any (A : Option Addr) (c : Nat) (xs : List Int) (x : Int) (w : World) (hx : IntsAt w A xs) (hl : xs.length ≤ 4611686018427387904) :
    Calls Tryd.prog 50 #[.slice A xs.length c, .int .i64 x] w fun e w' => e = .returned (.bool (decide (x ∈ xs))) ∧ w = w' := by
  have C := Lib.hid (index_any A c xs x w hx hl)
  clear hx
  go_enter Tryd.func50, Tryd.ntmps50
  go_wp2_with fail
  refine C.out.mono ?_
  rintro e w2 ⟨n, rfl, hn, rfl⟩
  have HN := Lib.hid hn; clear hn
  by_cases h0 : 0 ≤ n
  · have hb : decide (0 ≤ n) = true := decide_eq_true h0
    have hb2 : decide (n ≥ 0) = true := decide_eq_true h0
    go_wp2_with fail
    go_ret
    exact ⟨by rw [decide_eq_true (HN.out.1 h0)]; rfl, rfl⟩
  · have hb : decide (0 ≤ n) = false := decide_eq_false h0
    have hb2 : decide (n ≥ 0) = false := decide_eq_false h0
    have HF : Hid (decide (x ∈ xs) = false) := Lib.hid (decide_eq_false fun h => h0 (HN.out.2 h))
    go_wp2_with fail
    go_ret
    exact ⟨by rw [HF.out]; rfl, rfl⟩

def ItPost (n : Int) (w : World) (e : Ending) (w' : World) : Prop := e = .returned (.string (bs (Sp.dec n))) ∧ Below w.heap.size w w'
theorem itoa_any (n : Int) (w : World) (he : Env w) (h0 : 0 ≤ n) (h1 : n ≤ 99999) : Calls Tryd.prog 29 #[.int .i64 n] w (ItPost n w) := by
  refine (Tryd.strconv_Itoa n (by omega) (by omega) w he.tab).mono ?_
  rintro e w' ⟨rfl, k, os, rfl⟩
  refine ⟨rfl, ⟨rfl, rfl, rfl, by simp [Sort.grow], fun i hi => ?_⟩⟩
  show (w.heap ++ os)[i]? = _
  rw [Array.getElem?_append_left hi]
/-- two builders side by side -/
structure Two (B : Nat) (b c : Nat) (v u : Value) (l m : List UInt8) (w : World) : Prop where
  one : Bld B b v l w
  two : Bld B c u m w
  apart : v.ownBlock = none ∨ v.ownBlock ≠ u.ownBlock
theorem Bld.far {B b : Nat} {v : Value} {l : List UInt8} {w : World} (h : Bld B b v l w) {n : Nat} (hn : w.heap.size ≤ n) : v.ownBlock ≠ some n := fun e => by have := (h.row e).2; omega
theorem Two.first {B b c : Nat} {v u v' : Value} {l m l' : List UInt8} {w w' : World} (h : Two B b c v u l m w) (hbc : b ≠ c) (h1 : Bld B b v' l' w') (hf : Fr b v w w') (hl : v'.ownBlock = v.ownBlock ∨ ∃ g, v'.ownBlock = some g ∧ w.heap.size ≤ g) : Two B b c v' u l' m w' := by
  refine ⟨h1, h.two.other h.one hf hbc.symm ?_, ?_⟩
  · rcases h.apart with e | e
    · rcases hu : u.ownBlock with _ | g
      · exact .inl rfl
      · right; rw [e]; simp
    · exact .inr fun x => e x.symm
  · rcases hl with e | ⟨g, e, hg⟩
    · rw [e]; exact h.apart
    · right; rw [e]; exact fun x => h.two.far hg x.symm
theorem Two.second {B b c : Nat} {v u u' : Value} {l m m' : List UInt8} {w w' : World} (h : Two B b c v u l m w) (hbc : b ≠ c) (h1 : Bld B c u' m' w') (hf : Fr c u w w') (hl : u'.ownBlock = u.ownBlock ∨ ∃ g, u'.ownBlock = some g ∧ w.heap.size ≤ g) : Two B b c v u' l m' w' := by
  refine ⟨h.one.other h.two hf hbc h.apart, h1, ?_⟩
  rcases hl with e | ⟨g, e, hg⟩
  · rw [e]; exact h.apart
  · right; rw [e]; exact h.one.far hg
theorem Two.below {B b c : Nat} {v u : Value} {l m : List UInt8} {w w' : World} (h : Two B b c v u l m w) (k : Below w.heap.size w w') : Two B b c v u l m w' := ⟨h.one.below k, h.two.below k, h.apart⟩

theorem sp1 (s : ByteArray) : ((⟨#[32]⟩ : ByteArray) ++ s).size = 1 + s.size := by rw [ByteArray.size_append]; rfl
def RowPost (r : List Int) (w : World) (e : Ending) (w' : World) : Prop := e = .returned (.string (bs (Sp.prRow r))) ∧ Below w.heap.size w w'
theorem sp_size (s : ByteArray) (l : List UInt8) (h : s.data.toList = l) : s.size = l.length := by rw [← h]; rfl
theorem bs_app (s t : ByteArray) (l m : List UInt8) (h1 : s = bs l) (h2 : t = bs m) : s ++ t = bs (l ++ m) := by
  subst h1 h2
  apply ByteArray.ext
  simp [bs, ByteArray.data_append]
theorem bs_list (l : List UInt8) : (bs l).data.toList = l := by simp [bs]

set_option maxHeartbeats 1000000 in
set_option maxRecDepth 100000 in
theorem printRow_any (A : Option Addr) (c : Nat) (r : List Int) (w : World) (he : Env w) (hx : IntsAt w A r) (hl : r.length ≤ 32) (hr : ∀ x ∈ r, x ≤ 99999) :
    Calls Tryd.prog 30 #[.slice A r.length c] w (RowPost r w) := by
  have HX := Lib.hid hx; have HE := Lib.hid he; have HR := Lib.hid hr
  have HP : Hid (∀ w', Below w.heap.size w w' → RowPost r w (.returned (.string (bs (Sp.prRow r)))) w') := Lib.hid fun w' h => ⟨rfl, h⟩
  clear hx he hr
  go_enter Tryd.func30, Tryd.ntmps30
  go_wp2_with fail
  go_loopg [5, 6, 9] r.length (fun k v5 v6 v9 wr => ∃ (j : Nat) (v u : Value), k = r.length - j ∧ j ≤ r.length ∧ v9 = .int .i64 j ∧ Two w.heap.size w.heap.size (w.heap.size + 1) v u (Sp.idxs 0 (r.take j)) (Sp.coefs (r.take j)) wr ∧ Below w.heap.size w wr)
  case atStart =>
    refine ⟨0, .slice none 0 0, .slice none 0 0, rfl, Nat.zero_le _, rfl, ?_, ((Below.refl _ _).alloc (Nat.le_refl _) _).alloc (by simp) _⟩
    have h1 : (w.alloc (.cells #[.pointer none, .slice none 0 0] 42)).heap[w.heap.size]? = some (.cells #[.pointer none, .slice none 0 0] 42 (0, 0)) := heap_alloc_new w _
    have h2 : ((w.alloc (.cells #[.pointer none, .slice none 0 0] 42)).alloc (.cells #[.pointer none, .slice none 0 0] 42)).heap[w.heap.size + 1]? = some (.cells #[.pointer none, .slice none 0 0] 42 (0, 0)) := new_at _ _ _ (by simp)
    exact ⟨⟨Nat.le_refl _, .inl (blk_old h1 _), World.ownsRow_nil _ _ _ _, fun _ => rfl⟩, ⟨Nat.le_succ _, .inl h2, World.ownsRow_nil _ _ _ _, fun _ => rfl⟩, .inl rfl⟩
  case round =>
    obtain ⟨j, v, u, hk, hj, rfl, htwo, hbl⟩ := hrel
    have HK := Lib.hid hk; have HT := Lib.hid htwo; have HB := Lib.hid hbl
    clear hk htwo
    have hwr : w.heap.size ≤ wr.heap.size := hbl.size
    have hLT : (r.take j).length ≤ 32 := by rw [List.length_take]; omega
    have hL1 : (Sp.idxs 0 (r.take j)).length ≤ 192 := by have := Sp.idxs_len (r.take j) 0 (by omega); omega
    have hL2 : (Sp.coefs (r.take j)).length ≤ 192 := by have := Sp.coefs_len (r.take j) (fun x hx => HR.out x (List.mem_of_mem_take hx)); omega
    by_cases hlt : j < r.length
    · have hb2 : decide ((j : Int) < (r.length : Int)) = true := by rw [decide_eq_true_iff]; omega
      have hb3 : (j : Int) < (r.length : Int) := by omega
      obtain ⟨ad, hA, hc0⟩ := HX.out j hlt
      subst hA
      have hc := (hbl.cell (World.block_lt_of_cell? w _ hc0)).trans hc0
      clear hc0 hbl
      have hx9 := HR.out r[j] (List.getElem_mem hlt)
      have HS1 : Hid (Sp.idxs 0 (r.take (j + 1)) = Sp.idxs 0 (r.take j) ++ (if 0 < r[j] then 32 :: Sp.dec (j : Int) else [])) := Lib.hid (by
        rw [List.take_succ_eq_append_getElem hlt, Sp.idxs_snoc, List.length_take, Nat.min_eq_left (by omega), Nat.zero_add])
      have HS2 : Hid (Sp.coefs (r.take (j + 1)) = Sp.coefs (r.take j) ++ (if 0 < r[j] then 32 :: Sp.dec r[j] else [])) := Lib.hid (by
        rw [List.take_succ_eq_append_getElem hlt, Sp.coefs_snoc])
      generalize hxe : r[j] = x at *
      clear hxe
      by_cases hx0 : 0 < x
      · have hxb : decide (0 < x) = true := decide_eq_true hx0
        have hxb2 : decide (x > 0) = true := decide_eq_true hx0
        rw [if_pos hx0] at HS1 HS2
        go_wp2_with fail
        refine (itoa_any j wr (HE.out.below HB.out) (by omega) (by omega)).mono ?_
        rintro e w2 ⟨rfl, hb⟩
        have hd := Sp.dec_len (n := (j : Int)) (by omega) (by omega)
        obtain ⟨sj, hsj⟩ : ∃ sj, sj = bs (Sp.dec (j : Int)) := ⟨_, rfl⟩
        have hsz : sj.size ≤ 5 := by rw [hsj]; exact hd
        rw [← hsj]
        have HJ := Lib.hid hsj
        have HT2 := Lib.hid (HT.out.below hb)
        have HB2 := Lib.hid (HB.out.trans (hb.mono hwr))
        have hw2 : w.heap.size ≤ w2.heap.size := HB2.out.size
        clear hsj hd hb
        go_wp2_with fail
        refine (write_any w.heap.size w.heap.size v (Sp.idxs 0 (r.take j)) ((⟨#[32]⟩ : ByteArray) ++ sj) w2 HT2.out.one (by rw [sp1]; omega) (by rw [sp1]; omega) hw2).mono ?_
        rintro e w3 ⟨rfl, v3, hv3, hf3, hl3⟩
        have HT3 := Lib.hid (HT2.out.first (by omega) hv3 hf3 hl3)
        have HB3 := Lib.hid (HB2.out.trans (hf3.below HT2.out.one))
        have hw3 : w.heap.size ≤ w3.heap.size := HB3.out.size
        clear hv3 hf3 hl3
        go_wp2_with fail
        refine (itoa_any x w3 (HE.out.below HB3.out) (by omega) hx9).mono ?_
        rintro e w4 ⟨rfl, hb⟩
        have hd := Sp.dec_len (n := x) (by omega) hx9
        obtain ⟨sx, hsx⟩ : ∃ sx, sx = bs (Sp.dec x) := ⟨_, rfl⟩
        have hszx : sx.size ≤ 5 := by rw [hsx]; exact hd
        rw [← hsx]
        have HJX := Lib.hid hsx
        have HT4 := Lib.hid (HT3.out.below hb)
        have HB4 := Lib.hid (HB3.out.trans (hb.mono hw3))
        have hw4 : w.heap.size ≤ w4.heap.size := HB4.out.size
        clear hsx hd hb
        go_wp2_with fail
        refine (write_any w.heap.size (w.heap.size + 1) u (Sp.coefs (r.take j)) ((⟨#[32]⟩ : ByteArray) ++ sx) w4 HT4.out.two (by rw [sp1]; omega) (by rw [sp1]; omega) hw4).mono ?_
        rintro e w5 ⟨rfl, u5, hu5, hf5, hl5⟩
        have HT5 := Lib.hid (HT4.out.second (by omega) hu5 hf5 hl5)
        have HB5 := Lib.hid (HB4.out.trans (hf5.below HT4.out.two))
        clear hu5 hf5 hl5
        go_wp2_with fail
        go_roundg (r.length - (j + 1))
        case measure => rw [HK.out]; omega
        case rel =>
          refine ⟨j + 1, v3, u5, rfl, by omega, by go_num, ?_, HB5.out⟩
          have h := HT5.out
          have e1 : ((⟨#[32]⟩ : ByteArray) ++ sj).data.toList = 32 :: Sp.dec (j : Int) := by rw [HJ.out]; simp [bs, ByteArray.data_append]
          have e2 : ((⟨#[32]⟩ : ByteArray) ++ sx).data.toList = 32 :: Sp.dec x := by rw [HJX.out]; simp [bs, ByteArray.data_append]
          rw [e1, e2] at h
          rw [HS1.out, HS2.out]
          exact h
      · have hxb : decide (0 < x) = false := decide_eq_false hx0
        have hxb2 : decide (x > 0) = false := decide_eq_false hx0
        rw [if_neg hx0, List.append_nil] at HS1 HS2
        go_wp2_with fail
        go_roundg (r.length - (j + 1))
        case measure => rw [HK.out]; omega
        case rel =>
          refine ⟨j + 1, v, u, rfl, by omega, by go_num, ?_, HB.out⟩
          rw [HS1.out, HS2.out]
          exact HT.out
    · have hb2 : decide ((j : Int) < (r.length : Int)) = false := by rw [decide_eq_false_iff_not]; omega
      have HT' : Hid (Two w.heap.size w.heap.size (w.heap.size + 1) v u (Sp.idxs 0 r) (Sp.coefs r) wr) := Lib.hid (by have := HT.out; rwa [List.take_of_length_le (by omega)] at this)
      have hLi : (Sp.idxs 0 r).length ≤ 192 := by have := hL1; rwa [List.take_of_length_le (by omega)] at this
      have hLc : (Sp.coefs r).length ≤ 192 := by have := hL2; rwa [List.take_of_length_le (by omega)] at this
      have CC := Lib.hid (contains_any A c r 0 wr (HX.out.below hbl) (by omega))
      clear hL1 hL2 hLT HT hbl
      go_wp2_with fail
      refine CC.out.mono ?_
      rintro e w2 ⟨rfl, rfl⟩
      obtain ⟨b, hb⟩ : ∃ b, b = decide ((0 : Int) ∈ r) := ⟨_, rfl⟩
      rw [← hb]
      have HBb := Lib.hid hb; clear hb CC
      have HSt := Lib.hid (string_any w.heap.size w.heap.size v (Sp.idxs 0 r) wr HT'.out.one)
      have HF2 : Hid (∀ w2, Fr w.heap.size v wr w2 → Bld w.heap.size (w.heap.size + 1) u (Sp.coefs r) w2) := Lib.hid fun w2 hf => HT'.out.two.other HT'.out.one hf (by omega) (by
        rcases HT'.out.apart with e | e
        · rcases hu : u.ownBlock with _ | g
          · exact .inl rfl
          · right; rw [e]; simp
        · exact .inr fun x => e x.symm)
      have HBe : Hid (∀ w2, Fr w.heap.size v wr w2 → Below w.heap.size w w2) := Lib.hid fun w2 hf => HB.out.trans (hf.below HT'.out.one)
      cases b with
      | true =>
        go_wp2_with fail
        refine HSt.out.mono ?_
        rintro e w2 ⟨rfl, hf⟩
        have hB2 := HF2.out w2 hf
        have HB2 := Lib.hid (HBe.out w2 hf)
        have HS2 := Lib.hid (string_any w.heap.size (w.heap.size + 1) u (Sp.coefs r) w2 hB2)
        have HBE3 : Hid (∀ w3, Fr (w.heap.size + 1) u w2 w3 → Below w.heap.size w w3) := Lib.hid fun w3 h3 => HB2.out.trans (h3.below hB2)
        obtain ⟨si, hsi⟩ : ∃ si : ByteArray, si = ⟨(Sp.idxs 0 r).toArray⟩ := ⟨_, rfl⟩
        have hszi : si.size ≤ 192 := by rw [hsi]; exact hLi
        rw [← hsi]
        have HI := Lib.hid hsi
        clear hB2 hf hsi
        go_wp2_with fail
        refine HS2.out.mono ?_
        rintro e w3 ⟨rfl, hf⟩
        have HB3 := Lib.hid (HBE3.out w3 hf)
        obtain ⟨sc, hsc⟩ : ∃ sc : ByteArray, sc = ⟨(Sp.coefs r).toArray⟩ := ⟨_, rfl⟩
        have hszc : sc.size ≤ 192 := by rw [hsc]; exact hLc
        rw [← hsc]
        have HC := Lib.hid hsc
        clear hf hsc
        go_wp2_with fail
        go_ret
        have h := HP.out _ HB3.out
        have e1 : bs (Sp.prRow r) = (⟨#[108, 111, 99, 97, 108]⟩ : ByteArray) ++ si ++ (⟨#[58]⟩ : ByteArray) ++ sc := by
          unfold Sp.prRow
          rw [if_pos (of_decide_eq_true HBb.out.symm), HI.out, HC.out]
          apply ByteArray.ext
          simp [bs, ByteArray.data_append, Sp.kLocal]
        rw [e1] at h
        exact h
      | false =>
        have HS2 := Lib.hid (string_any w.heap.size (w.heap.size + 1) u (Sp.coefs r) wr HT'.out.two)
        have HBE3 : Hid (∀ w3, Fr (w.heap.size + 1) u wr w3 → Below w.heap.size w w3) := Lib.hid fun w3 h3 => HB.out.trans (h3.below HT'.out.two)
        go_wp2_with fail
        refine HS2.out.mono ?_
        rintro e w3 ⟨rfl, hf⟩
        have HB3 := Lib.hid (HBE3.out w3 hf)
        obtain ⟨sc, hsc⟩ : ∃ sc : ByteArray, sc = ⟨(Sp.coefs r).toArray⟩ := ⟨_, rfl⟩
        have hszc : sc.size ≤ 192 := by rw [hsc]; exact hLc
        rw [← hsc]
        have HC := Lib.hid hsc
        clear hf hsc
        go_wp2_with fail
        go_ret
        have h := HP.out _ HB3.out
        have e1 : bs (Sp.prRow r) = (⟨#[112, 97, 114, 105, 116, 121]⟩ : ByteArray) ++ sc := by
          unfold Sp.prRow
          rw [if_neg (of_decide_eq_false HBb.out.symm), HC.out]
          apply ByteArray.ext
          simp [bs, ByteArray.data_append, Sp.kParity]
        rw [e1] at h
        exact h
end Go.Proofs.YtppeplonnippcaaDoor
