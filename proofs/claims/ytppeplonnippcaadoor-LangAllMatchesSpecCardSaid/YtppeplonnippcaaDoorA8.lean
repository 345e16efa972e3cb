/-
The reader of layer 7: code.
-/
import Derived.Test.YtppeplonnippcaaDoorA7
import Derived.Test.YtppeplonnippcaaDoorS
import Derived.Deep.RegionLaw
import Derived.Deep.RegionHeld3
import Derived.Deep.DeepCutAuto
import Derived.Deep.CutBlock
set_option linter.unusedVariables false
set_option linter.unusedSimpArgs false
namespace Go.Proofs.YtppeplonnippcaaDoor
open Go.RowKit

theorem At.drew {w : World} {r : Nat} {s : ByteArray} {ts : List Sp.Tok} (h : At w r s ts) : At w.drew r s ts := by
  obtain ⟨i, h1, h2, h3⟩ := h; exact ⟨i, h1, h2.drew, h3⟩

theorem own_ne {w : World} {base e size n : Nat} {v : Value} {xs : List Value} (h : w.ownsRow base e size v n xs) {b : Nat} (hb : b < base) : v.ownBlock ≠ some b := fun ee => by
  have := (h.lt b ee).1
  omega
theorem own_ge {w : World} {base e size n : Nat} {v : Value} {xs : List Value} (h : w.ownsRow base e size v n xs) {b : Nat} (hb : b ≤ base) : ∀ k, v.ownBlock = some k → b ≤ k := fun k ee => Nat.le_trans hb (h.lt k ee).1

theorem info117 : (Tryd.prog.info? 117).map (fun i => (i.zero, i.size, i.bytes)) = some (some (.agg #[.int .i64 0, .bool false, .slice none 0 0, .slice none 0 0]), 4, 64) := by kernel_rfl

/-- the cells of rows: each row's slices hold its marks -/
def RowsIn (base : Nat) (w : World) : List Sp.Row → List Value → Prop
  | [], cs => cs = []
  | x :: l, cs => ∃ vi vc rest, cs = .int .i64 x.at_ :: .bool x.loc :: vi :: vc :: rest ∧ MarksV base x.idx w vi ∧ MarksV base x.coef w vc ∧ RowsIn base w l rest

theorem RowsIn.keep {base : Nat} {w w' : World} (hk : ∀ m v, MarksV base m w v → MarksV base m w' v) {l : List Sp.Row} {cs : List Value} (h : RowsIn base w l cs) : RowsIn base w' l cs := by
  induction l generalizing cs with
  | nil => exact h
  | cons x l ih =>
    obtain ⟨vi, vc, rest, h1, h2, h3, h4⟩ := h
    exact ⟨vi, vc, rest, h1, hk _ _ h2, hk _ _ h3, ih h4⟩
theorem RowsIn.drew {base : Nat} {w : World} {l : List Sp.Row} {cs : List Value} (h : RowsIn base w l cs) : RowsIn base w.drew l cs := RowsIn.keep (w := w) (w' := w.drew) (fun _ _ hm => hm) h
theorem RowsIn.snoc {base : Nat} {w : World} {l : List Sp.Row} {cs : List Value} (h : RowsIn base w l cs) {x : Sp.Row} {vi vc : Value} (hi : MarksV base x.idx w vi) (hc : MarksV base x.coef w vc) :
    RowsIn base w (l ++ [x]) (cs ++ [.int .i64 x.at_, .bool x.loc, vi, vc]) := by
  induction l generalizing cs with
  | nil => rw [show cs = [] from h]; exact ⟨vi, vc, [], rfl, hi, hc, rfl⟩
  | cons y l ih =>
    obtain ⟨vi', vc', rest, rfl, h2, h3, h4⟩ := h
    exact ⟨vi', vc', _, rfl, h2, h3, ih h4⟩

/-- a slice of rows -/
def RowsV (base : Nat) (l : List Sp.Row) (w : World) (v : Value) : Prop := ∃ cs, w.ownsRow base 117 4 v l.length cs ∧ RowsIn base w l cs

theorem RowsV.kp {w w' : World} {r base : Nat} {l : List Sp.Row} {v : Value} (h : RowsV base l w v) (k : Kp r w w') (hr : r < base) : RowsV base l w' v := by
  obtain ⟨cs, h1, h2⟩ := h
  exact ⟨cs, own_kp h1 k hr, h2.keep fun m v hm => own_kp hm k hr⟩
theorem RowsV.far {w : World} {base : Nat} {l : List Sp.Row} {v : Value} (h : RowsV base l w v) {p : Addr} (hp : p.block < base) (u : Value) : RowsV base l (w.setCell p u) v := by
  obtain ⟨cs, h1, h2⟩ := h
  exact ⟨cs, own_far h1 hp u, h2.keep fun m v hm => own_far hm hp u⟩
theorem RowsV.alloc {w : World} {base : Nat} {l : List Sp.Row} {v : Value} (h : RowsV base l w v) (o : Obj) : RowsV base l (w.alloc o) v := by
  obtain ⟨cs, h1, h2⟩ := h
  exact ⟨cs, h1.alloc o, h2.keep fun m v hm => World.ownsRow.alloc hm o⟩
theorem RowsV.mono {w : World} {base base' : Nat} {l : List Sp.Row} {v : Value} (h : RowsV base l w v) (hb : base' ≤ base) : RowsV base' l w v := by
  obtain ⟨cs, h1, h2⟩ := h
  refine ⟨cs, own_mono h1 hb, ?_⟩
  induction l generalizing cs with
  | nil => exact h2
  | cons x l ih =>
    obtain ⟨vi, vc, rest, e, h3, h4, h5⟩ := h2
    refine ⟨vi, vc, rest, e, own_mono h3 hb, own_mono h4 hb, ?_⟩
    have key : ∀ (l : List Sp.Row) (cs : List Value), RowsIn base w l cs → RowsIn base' w l cs := by
      intro l
      induction l with
      | nil => exact fun _ h => h
      | cons x l ih => exact fun cs ⟨a, b, c, e, h3, h4, h5⟩ => ⟨a, b, c, e, own_mono h3 hb, own_mono h4 hb, ih _ h5⟩
    exact key _ _ h5
theorem RowsV.nil (base : Nat) (w : World) : RowsV base [] w (.slice none 0 0) := ⟨[], World.ownsRow_nil _ _ _ _, rfl⟩

/-- rows of two types of elements are not one -/
theorem own_type_ne {w : World} {b b' : Nat} {e e' : TypeId} {s s' n n' : Nat} {v v' : Value} {xs xs' : List Value} (h : w.ownsRow b e s v n xs) (h' : w.ownsRow b' e' s' v' n' xs') (hne : e ≠ e') : v.ownBlock = none ∨ v.ownBlock ≠ v'.ownBlock := by
  rcases h.2 with ⟨rfl, _⟩ | ⟨g, cap, cur, rfl, _, hh, _⟩
  · exact .inl rfl
  · refine .inr fun hk => ?_
    rcases h'.2 with ⟨rfl, _⟩ | ⟨g', cap', cur', rfl, _, hh', _⟩
    · simp [Value.ownBlock] at hk
    · have : g = g' := by simpa [Value.ownBlock] using hk
      subst this
      rw [hh] at hh'
      injection hh' with hh'
      injection hh' with _ ht
      exact hne ht

theorem pCode_of {ts t5 t6 t7 : List Sp.Tok} {nm f d : Sp.Tok} {x : Sp.Row} {l : List Sp.Row} (h1 : Sp.pHead ts = .ok ((nm, f, d), t5)) (h2 : Sp.pRow t5 = .ok (x, t6))
    (h3 : Sp.addRows [x] (Sp.pRest t6) = .ok (l, t7)) :
    Sp.pCode ts = match Sp.pTail t7 with | .error p => .error p | .ok (o, t8) => .ok (⟨nm, f, d, l, o⟩, t8) := by
  unfold Sp.pCode
  simp only [h1, h2]
  change (match Sp.pRest t6 with | .error p => _ | .ok (l, t7) => _) = _
  rcases h4 : Sp.pRest t6 with p | ⟨m, t⟩
  · rw [h4] at h3; simp [Sp.addRows] at h3
  · rw [h4] at h3
    simp only [Sp.addRows, Except.ok.injEq, Prod.mk.injEq, List.singleton_append] at h3
    obtain ⟨rfl, rfl⟩ := h3
    rfl

theorem pCode_bad {ts t5 t6 : List Sp.Tok} {nm f d : Sp.Tok} {x : Sp.Row} {p : Nat} (h1 : Sp.pHead ts = .ok ((nm, f, d), t5)) (h2 : Sp.pRow t5 = .ok (x, t6))
    (h3 : Sp.addRows [x] (Sp.pRest t6) = .error p) : Sp.pCode ts = .error p := by
  unfold Sp.pCode
  simp only [h1, h2]
  change (match Sp.pRest t6 with | .error p => _ | .ok (l, t7) => _) = _
  rcases h4 : Sp.pRest t6 with q | ⟨m, t⟩
  · rw [h4] at h3
    simp only [Sp.addRows, Except.error.injEq] at h3
    subst h3; rfl
  · rw [h4] at h3; simp [Sp.addRows] at h3

def z95 : Obj := .cells #[.int .i64 0, .int .i64 0, .string ⟨#[]⟩, .int .i64 0, .int .i64 0, .string ⟨#[]⟩, .int .i64 0, .int .i64 0, .string ⟨#[]⟩, .slice none 0 0, .int .i64 0, .int .i64 0, .string ⟨#[]⟩] 95

def domV (o : Option Sp.Tok) : Sp.Tok := o.getD ⟨0, 0, [], 0⟩
/-- a source -/
def SrcV (base : Nat) (x : Sp.Src) (w : World) (v : Value) : Prop :=
  ∃ vr, v = .agg #[.int .i64 x.name.at_, .int .i64 x.name.n, .string (bs x.name.txt), .int .i64 x.field.at_, .int .i64 x.field.n, .string (bs x.field.txt),
    .int .i64 x.data.at_, .int .i64 x.data.n, .string (bs x.data.txt), vr, .int .i64 (domV x.dom).at_, .int .i64 (domV x.dom).n, .string (bs (domV x.dom).txt)] ∧ RowsV base x.rows w vr

set_option maxRecDepth 100000 in
set_option maxHeartbeats 4000000 in
theorem code_any (r : Nat) (s : ByteArray) (ts : List Sp.Tok) (w : World) (hr : At w r s ts) (hs : s.size ≤ 2000) (he : Env w) :
    Calls Tryd.prog 59 #[.pointer (some ⟨r, 0, none⟩)] w (ResPost (SrcV w.heap.size) r s (Sp.pCode ts) w) := by
  have HR := Lib.hid (hr.alloc z95)
  have HV := Lib.hid (he.alloc z95)
  have hlt := hr.lt
  have hng := hr.ng
  have hne1 : ¬ w.heap.size = r := by omega
  have hne2 : ¬ r = w.heap.size := by omega
  have L1 : Hid (Kp r w (w.alloc z95)) := Lib.hid ((Kp.refl r w).alloc _)
  have B2 : Hid ((w.alloc z95).heap[w.heap.size]? = some z95) := Lib.hid (heap_alloc_new w z95)
  clear hr he
  go_enter Tryd.func59, Tryd.ntmps59
  go_wp2_with fail
  have C1 := Lib.hid (must_any r s ⟨#[99, 111, 100, 101]⟩ ts _ HR.out hs (by decide))
  rw [show (⟨#[99, 111, 100, 101]⟩ : ByteArray).data.toList = Sp.kCode from rfl] at C1
  rcases h1 : Sp.pTok Sp.kCode ts with p | ⟨a1, t1⟩
  · rw [h1] at C1
    refine C1.out.mono ?_
    rintro e w' ⟨he, hk⟩
    unfold Wrong at he
    subst he
    exact ⟨rfl, by unfold Sp.pCode Sp.pHead; simp only [h1]; exact ⟨rfl, L1.out.trans hk⟩⟩
  · rw [h1] at C1
    refine C1.out.mono ?_
    have E1 := Lib.hid h1; clear h1 C1
    rintro e w1 ⟨v1, rfl, hv, hat, hk⟩
    have hv2 := HV.out.kp hng hk
    have b2 := hk.blk B2.out hne1
    have l1 := L1.out.trans hk
    clear HV B2 L1 HR hv
    have HV := Lib.hid hv2; have B2 := Lib.hid b2; have L1 := Lib.hid l1; have H1 := Lib.hid hat
    clear hv2 b2 l1 hat hk
    go_wp2_with fail
    have C1 := Lib.hid (letter_any r s t1 _ H1.out hs HV.out)
    rcases h1 : Sp.pKind 1 t1 with p | ⟨a2, t2⟩
    · rw [h1] at C1
      refine C1.out.mono ?_
      rintro e w' ⟨he, hk⟩
      unfold Wrong at he
      subst he
      exact ⟨rfl, by unfold Sp.pCode Sp.pHead; simp only [E1.out, h1]; exact ⟨rfl, L1.out.trans hk⟩⟩
    · rw [h1] at C1
      refine C1.out.mono ?_
      have E2 := Lib.hid h1; clear h1 C1
      rintro e w2 ⟨v1, rfl, rfl, hat, hk⟩
      have b2 := hk.blk B2.out hne1
      have l1 := L1.out.trans hk
      clear HV B2 L1
      have B2 := Lib.hid b2; have L1 := Lib.hid l1; have H1 := Lib.hid hat
      clear b2 l1 hat hk
      unfold tokV
      have HB := Lib.hid (lt_of_block B2.out)
      have hat := H1.out.alloc (.cells #[.int .i64 a2.at_, .int .i64 a2.n, .string (bs a2.txt), .int .i64 0, .int .i64 0, .string ⟨#[]⟩, .int .i64 0, .int .i64 0, .string ⟨#[]⟩, .slice none 0 0, .int .i64 0, .int .i64 0, .string ⟨#[]⟩] 95)
      have b3 := heap_alloc_new w2 (.cells #[.int .i64 a2.at_, .int .i64 a2.n, .string (bs a2.txt), .int .i64 0, .int .i64 0, .string ⟨#[]⟩, .int .i64 0, .int .i64 0, .string ⟨#[]⟩, .slice none 0 0, .int .i64 0, .int .i64 0, .string ⟨#[]⟩] 95)
      have b2 := blk_old B2.out (.cells #[.int .i64 a2.at_, .int .i64 a2.n, .string (bs a2.txt), .int .i64 0, .int .i64 0, .string ⟨#[]⟩, .int .i64 0, .int .i64 0, .string ⟨#[]⟩, .slice none 0 0, .int .i64 0, .int .i64 0, .string ⟨#[]⟩] 95)
      have l1 := L1.out.alloc (.cells #[.int .i64 a2.at_, .int .i64 a2.n, .string (bs a2.txt), .int .i64 0, .int .i64 0, .string ⟨#[]⟩, .int .i64 0, .int .i64 0, .string ⟨#[]⟩, .slice none 0 0, .int .i64 0, .int .i64 0, .string ⟨#[]⟩] 95)
      have hrlt := H1.out.lt
      clear B2 L1 H1
      go_wp2_with fail
      generalize w2.alloc (.cells #[.int .i64 a2.at_, .int .i64 a2.n, .string (bs a2.txt), .int .i64 0, .int .i64 0, .string ⟨#[]⟩, .int .i64 0, .int .i64 0, .string ⟨#[]⟩, .slice none 0 0, .int .i64 0, .int .i64 0, .string ⟨#[]⟩] 95) = u0 at *
      have hlt0 := HB.out
      clear HB
      generalize w2.heap.size = B at *
      have hBr : B ≠ r := by omega
      have hBr2 : ¬ B = r := hBr
      have hrB : ¬ r = B := by omega
      have hwB : ¬ w.heap.size = B := by omega
      have hwB2 : ¬ B = w.heap.size := by omega
      have B3 := Lib.hid b3; have B2 := Lib.hid b2; have L1 := Lib.hid l1; have H1 := Lib.hid hat
      clear b3 b2 l1 hat
      have C1 := Lib.hid (must_any r s ⟨#[123]⟩ t2 _ H1.out hs (by decide))
      rw [show (⟨#[123]⟩ : ByteArray).data.toList = Sp.kOpen from rfl] at C1
      rcases h1 : Sp.pTok Sp.kOpen t2 with p | ⟨a3, t3⟩
      · rw [h1] at C1
        refine C1.out.mono ?_
        rintro e w' ⟨he, hk⟩
        unfold Wrong at he
        subst he
        exact ⟨rfl, by unfold Sp.pCode Sp.pHead; simp only [E1.out, E2.out, h1]; exact ⟨rfl, L1.out.trans hk⟩⟩
      · rw [h1] at C1
        refine C1.out.mono ?_
        have E3 := Lib.hid h1; clear h1 C1
        rintro e w3 ⟨v3, rfl, hv, hat, hk⟩
        have b3 := hk.blk B3.out hBr
        have b2 := hk.blk B2.out hne1
        have l1 := L1.out.trans hk
        clear B3 B2 L1 H1
        have B3 := Lib.hid b3; have B2 := Lib.hid b2; have L1 := Lib.hid l1; have H1 := Lib.hid hat
        clear b3 b2 l1 hat hk
        go_wp2_with fail
        have C1 := Lib.hid (one_any r s ⟨#[102, 105, 101, 108, 100]⟩ t3 _ H1.out hs (by decide))
        rw [show (⟨#[102, 105, 101, 108, 100]⟩ : ByteArray).data.toList = Sp.kField from rfl] at C1
        rcases h1 : Sp.pOne Sp.kField t3 with p | ⟨a4, t4⟩
        · rw [h1] at C1
          refine C1.out.mono ?_
          rintro e w' ⟨he, hk⟩
          unfold Wrong at he
          subst he
          exact ⟨rfl, by unfold Sp.pCode Sp.pHead; simp only [E1.out, E2.out, E3.out, h1]; exact ⟨rfl, L1.out.trans hk⟩⟩
        · rw [h1] at C1
          refine C1.out.mono ?_
          have E4 := Lib.hid h1; clear h1 C1
          rintro e w4 ⟨v4, rfl, rfl, hat, hk⟩
          have b3 := hk.blk B3.out hBr
          have b2 := hk.blk B2.out hne1
          have l1 := L1.out.trans hk
          clear B3 B2 L1 H1
          have B3 := Lib.hid b3; have B2 := Lib.hid b2; have L1 := Lib.hid l1; have H1 := Lib.hid hat
          clear b3 b2 l1 hat hk
          unfold tokV
          go_wp2_with fail
          have C1 := Lib.hid (one_any r s ⟨#[100, 97, 116, 97]⟩ t4 _ H1.out hs (by decide))
          rw [show (⟨#[100, 97, 116, 97]⟩ : ByteArray).data.toList = Sp.kData from rfl] at C1
          rcases h1 : Sp.pOne Sp.kData t4 with p | ⟨a5, t5⟩
          · rw [h1] at C1
            refine C1.out.mono ?_
            rintro e w' ⟨he, hk⟩
            unfold Wrong at he
            subst he
            exact ⟨rfl, by unfold Sp.pCode Sp.pHead; simp only [E1.out, E2.out, E3.out, E4.out, h1]; exact ⟨rfl, L1.out.trans hk⟩⟩
          · rw [h1] at C1
            refine C1.out.mono ?_
            have E5 := Lib.hid h1; clear h1 C1
            rintro e w5 ⟨v5, rfl, rfl, hat, hk⟩
            have b3 := hk.blk B3.out hBr
            have b2 := hk.blk B2.out hne1
            have l1 := L1.out.trans hk
            clear B3 B2 L1 H1
            have B3 := Lib.hid b3; have B2 := Lib.hid b2; have L1 := Lib.hid l1; have H1 := Lib.hid hat
            clear b3 b2 l1 hat hk
            unfold tokV
            have EH : Hid (Sp.pHead ts = .ok ((a2, a4, a5), t5)) := Lib.hid (by unfold Sp.pHead; simp only [E1.out, E2.out, E3.out, E4.out, E5.out])
            clear E1 E2 E3 E4 E5
            have c3 := blk_c B3.out 3; have f3 := blk_f B3.out 3; have c4 := blk_c B3.out 4; have f4 := blk_f B3.out 4; have c5 := blk_c B3.out 5; have f5 := blk_f B3.out 5; have c6 := blk_c B3.out 6; have f6 := blk_f B3.out 6; have c7 := blk_c B3.out 7; have f7 := blk_f B3.out 7; have c8 := blk_c B3.out 8; have f8 := blk_f B3.out 8; have c9 := blk_c B3.out 9; have f9 := blk_f B3.out 9
            have b3 : ((((((w5.setCell ⟨B, 3, none⟩ (.int .i64 a4.at_)).setCell ⟨B, 4, none⟩ (.int .i64 a4.n)).setCell ⟨B, 5, none⟩ (.string (bs a4.txt))).setCell ⟨B, 6, none⟩ (.int .i64 a5.at_)).setCell ⟨B, 7, none⟩ (.int .i64 a5.n)).setCell ⟨B, 8, none⟩ (.string (bs a5.txt))).heap[B]? = some (.cells #[.int .i64 a2.at_, .int .i64 a2.n, .string (bs a2.txt), .int .i64 a4.at_, .int .i64 a4.n, .string (bs a4.txt), .int .i64 a5.at_, .int .i64 a5.n, .string (bs a5.txt), .slice none 0 0, .int .i64 0, .int .i64 0, .string ⟨#[]⟩] 95 (0, 0)) := (blk_set (blk_set (blk_set (blk_set (blk_set (blk_set B3.out 3 (.int .i64 a4.at_)) 4 (.int .i64 a4.n)) 5 (.string (bs a4.txt))) 6 (.int .i64 a5.at_)) 7 (.int .i64 a5.n)) 8 (.string (bs a5.txt)))
            have b2 := (blk_far (blk_far (blk_far (blk_far (blk_far (blk_far B2.out (p := ⟨B, 3, none⟩) hwB (.int .i64 a4.at_)) (p := ⟨B, 4, none⟩) hwB (.int .i64 a4.n)) (p := ⟨B, 5, none⟩) hwB (.string (bs a4.txt))) (p := ⟨B, 6, none⟩) hwB (.int .i64 a5.at_)) (p := ⟨B, 7, none⟩) hwB (.int .i64 a5.n)) (p := ⟨B, 8, none⟩) hwB (.string (bs a5.txt)))
            have hat := ((((((H1.out.setNew (p := ⟨B, 3, none⟩) hrB (.int .i64 a4.at_)).setNew (p := ⟨B, 4, none⟩) hrB (.int .i64 a4.n)).setNew (p := ⟨B, 5, none⟩) hrB (.string (bs a4.txt))).setNew (p := ⟨B, 6, none⟩) hrB (.int .i64 a5.at_)).setNew (p := ⟨B, 7, none⟩) hrB (.int .i64 a5.n)).setNew (p := ⟨B, 8, none⟩) hrB (.string (bs a5.txt)))
            have l1 := ((((((L1.out.setNew (p := ⟨B, 3, none⟩) (Nat.le_of_lt hlt0) (.int .i64 a4.at_)).setNew (p := ⟨B, 4, none⟩) (Nat.le_of_lt hlt0) (.int .i64 a4.n)).setNew (p := ⟨B, 5, none⟩) (Nat.le_of_lt hlt0) (.string (bs a4.txt))).setNew (p := ⟨B, 6, none⟩) (Nat.le_of_lt hlt0) (.int .i64 a5.at_)).setNew (p := ⟨B, 7, none⟩) (Nat.le_of_lt hlt0) (.int .i64 a5.n)).setNew (p := ⟨B, 8, none⟩) (Nat.le_of_lt hlt0) (.string (bs a5.txt)))
            go_wp2_with fail
            generalize ((((((w5.setCell ⟨B, 3, none⟩ (.int .i64 a4.at_)).setCell ⟨B, 4, none⟩ (.int .i64 a4.n)).setCell ⟨B, 5, none⟩ (.string (bs a4.txt))).setCell ⟨B, 6, none⟩ (.int .i64 a5.at_)).setCell ⟨B, 7, none⟩ (.int .i64 a5.n)).setCell ⟨B, 8, none⟩ (.string (bs a5.txt))) = u5 at *
            clear c3 f3 c4 f4 c5 f5 c6 f6 c7 f7 c8 f8 c9 f9 B3 B2 H1 L1
            have B3 := Lib.hid b3; have B2 := Lib.hid b2; have L1 := Lib.hid l1; have H1 := Lib.hid hat
            clear b3 b2 l1 hat
            have C1 := Lib.hid (row_any r s t5 u5.drew (H1.out.drew) hs)
            have c9 := blk_c B3.out 9; have f9 := blk_f B3.out 9; have HB1 : Hid (B + 1 ≤ u5.drew.heap.size) := Lib.hid (Nat.succ_le_of_lt (lt_of_block (w := u5.drew) B3.out))
            go_cut [] (fun wx => ∃ x0 t6 v0, Sp.pRow t5 = .ok (x0, t6) ∧ At wx r s t6 ∧ wx.heap[B]? = some (.cells #[.int .i64 a2.at_, .int .i64 a2.n, .string (bs a2.txt), .int .i64 a4.at_, .int .i64 a4.n, .string (bs a4.txt), .int .i64 a5.at_, .int .i64 a5.n, .string (bs a5.txt), v0, .int .i64 0, .int .i64 0, .string ⟨#[]⟩] 95 (0, 0)) ∧ wx.heap[w.heap.size]? = some z95 ∧ Kp r w wx ∧ RowsV (B + 1) [x0] wx v0)
            case first =>
              obtain ⟨i0, hi, hz0, hz1, hz2⟩ := info_parts info117
              go_region_law (first | (go_simp; go_at_call 78; refine C1.out.mono ?_; rintro e w6 hh; rcases h1 : Sp.pRow t5 with p | ⟨x0, t6⟩; (rw [h1] at hh; obtain ⟨he, hk⟩ := hh; unfold Wrong at he; subst he; exact ⟨rfl, by unfold Sp.pCode; simp only [EH.out, h1]; exact ⟨rfl, (L1.out.drew).trans hk⟩⟩); rw [h1] at hh; have E6 := Lib.hid h1; clear h1; obtain ⟨v6, rfl, ⟨vi, vc, rfl, hmi, hmc⟩, hat, hk⟩ := hh; obtain ⟨Ai, qi, rfl⟩ := own_slice hmi; obtain ⟨Ac, qc, rfl⟩ := own_slice hmc; have b3 := hk.blk B3.out hBr; have b2 := hk.blk B2.out hne1; have k9 := blk_c b3 9; have g9 := blk_f b3 9; have k9a := blk_c (blk_old b3 (.cells #[.int .i64 x0.at_, .bool x0.loc, .slice Ai x0.idx.length qi, .slice Ac x0.coef.length qc] 117)) 9; have l1 := L1.out.drew.trans hk; have L2 := Lib.hid l1; have B6 := Lib.hid b3; have B7 := Lib.hid b2; have MI := Lib.hid hmi; have MC := Lib.hid hmc; have H2 := Lib.hid hat; have HO := Lib.hid (World.ownsRow_nil w6 (B + 1) 117 4); have HN := Lib.hid (World.news_of_block (heap_alloc_new w6 (.cells #[.int .i64 x0.at_, .bool x0.loc, .slice Ai x0.idx.length qi, .slice Ac x0.coef.length qc] 117))); have HLT := Lib.hid (lt_of_block b3); have HBA : Hid (B < (w6.alloc (.cells #[.int .i64 x0.at_, .bool x0.loc, .slice Ai x0.idx.length qi, .slice Ac x0.coef.length qc] 117)).heap.size) := Lib.hid (Nat.lt_trans (lt_of_block b3) (by rw [World.size_alloc]; exact Nat.lt_succ_self _)); have HWA : Hid (w.heap.size < (w6.alloc (.cells #[.int .i64 x0.at_, .bool x0.loc, .slice Ai x0.idx.length qi, .slice Ac x0.coef.length qc] 117)).heap.size) := Lib.hid (Nat.lt_trans hlt0 HBA.out); clear b3 b2 l1 hk hmi hmc hat) | (refine step_append_lies (w6.alloc (.cells #[.int .i64 x0.at_, .bool x0.loc, .slice Ai x0.idx.length qi, .slice Ac x0.coef.length qc] 117)) rfl (.tmp 18) (.tmp 21) 93 rfl (B + 1) 117 i0 _ 4 64 Tryd.underlying93 hi hz0 hz1 hz2 rfl (by decide) (.slice none 0 0) 0 ([]) rfl (HO.out.alloc _) ⟨w6.heap.size, 0, none⟩ 1 1 [.int .i64 x0.at_, .bool x0.loc, .slice Ai x0.idx.length qi, .slice Ac x0.coef.length qc] rfl rfl HN.out (by intro u hu; simp only [List.mem_cons, List.not_mem_nil, or_false] at hu; rcases hu with rfl | rfl | rfl | rfl <;> rfl) (by decide) (by unfold maxLen; omega) (by omega) HBA.out _ rfl ?_; intro g cap w7 hown hgrow hgat hglt; have HNB := (own_ne HO.out (b := B) (Nat.lt_succ_self _)).symm; have HNW := (own_ne HO.out (b := w.heap.size) (Nat.lt_succ_of_lt hlt0)).symm; have HNR := own_ne HO.out (b := r) (Nat.lt_succ_of_lt hrlt); have b3 := (hgrow.block B HBA.out HNB).trans (blk_old B6.out _); have b2 := (hgrow.block w.heap.size HWA.out HNW).trans (blk_old B7.out _); have k9' := blk_c b3 9; have g9' := blk_f b3 9; have l7 := (L2.out.alloc (.cells #[.int .i64 x0.at_, .bool x0.loc, .slice Ai x0.idx.length qi, .slice Ac x0.coef.length qc] 117)).grown hgrow (own_ge HO.out (Nat.le_succ_of_le (Nat.le_of_lt hlt0))); have at7 := (H2.out.alloc (.cells #[.int .i64 x0.at_, .bool x0.loc, .slice Ai x0.idx.length qi, .slice Ac x0.coef.length qc] 117)).grown hgrow HNR; have L7 := Lib.hid l7; have A7 := Lib.hid at7; have B8 := Lib.hid b3; have B9 := Lib.hid b2; have OW := Lib.hid hown; have GR := Lib.hid hgrow; clear b3 b2 l7 at7 hown hgrow hgat hglt HNB HNW HNR))
              all_goals
                have mi := own_far (own_mono (World.ownsRow.kept (World.ownsRow.alloc MI.out (.cells #[.int .i64 x0.at_, .bool x0.loc, .slice Ai x0.idx.length qi, .slice Ac x0.coef.length qc] 117)) GR.out (own_type_ne (World.ownsRow.alloc MI.out (.cells #[.int .i64 x0.at_, .bool x0.loc, .slice Ai x0.idx.length qi, .slice Ac x0.coef.length qc] 117)) (World.ownsRow.alloc HO.out (.cells #[.int .i64 x0.at_, .bool x0.loc, .slice Ai x0.idx.length qi, .slice Ac x0.coef.length qc] 117)) (by decide))) HB1.out) (p := ⟨B, 9, none⟩) (Nat.lt_succ_self _) (.slice (some ⟨g, 0, none⟩) (0 + 1) cap)
                have mc := own_far (own_mono (World.ownsRow.kept (World.ownsRow.alloc MC.out (.cells #[.int .i64 x0.at_, .bool x0.loc, .slice Ai x0.idx.length qi, .slice Ac x0.coef.length qc] 117)) GR.out (own_type_ne (World.ownsRow.alloc MC.out (.cells #[.int .i64 x0.at_, .bool x0.loc, .slice Ai x0.idx.length qi, .slice Ac x0.coef.length qc] 117)) (World.ownsRow.alloc HO.out (.cells #[.int .i64 x0.at_, .bool x0.loc, .slice Ai x0.idx.length qi, .slice Ac x0.coef.length qc] 117)) (by decide))) HB1.out) (p := ⟨B, 9, none⟩) (Nat.lt_succ_self _) (.slice (some ⟨g, 0, none⟩) (0 + 1) cap)
                have MI2 := Lib.hid mi; have MC2 := Lib.hid mc; clear mi mc MI MC
                go_wp2_with fail
                go_meet
                case rel => exact ⟨x0, t6, .slice (some ⟨g, 0, none⟩) (0 + 1) cap, E6.out, A7.out.setNew (p := ⟨B, 9, none⟩) hrB _, blk_set B8.out 9 _, blk_far B9.out (p := ⟨B, 9, none⟩) hwB _, L7.out.setNew (p := ⟨B, 9, none⟩) (Nat.le_of_lt hlt0) _, ⟨_, own_far OW.out (p := ⟨B, 9, none⟩) (Nat.lt_succ_self _) _, ⟨_, _, [], rfl, MI2.out, MC2.out, rfl⟩⟩⟩
            case rest =>
              obtain ⟨x0, t6, v0, hrow, hat, b3, b2, l1, hrows⟩ := hcut
              have hln := hat.len
              have E6 := Lib.hid hrow
              have J0 := Lib.hid hat; have J1 := Lib.hid b3; have J2 := Lib.hid b2; have J3 := Lib.hid l1; have J4 := Lib.hid hrows
              clear hrow hat b3 b2 l1 hrows C1 HB1 B3 B2 L1 H1 c9 f9
              go_wp2_with fail
              go_loopg [] t6.length (fun k wr => ∃ l ts' v, k = ts'.length ∧ Sp.addRows [x0] (Sp.pRest t6) = Sp.addRows l (Sp.pRest ts') ∧ At wr r s ts' ∧ wr.heap[B]? = some (.cells #[.int .i64 a2.at_, .int .i64 a2.n, .string (bs a2.txt), .int .i64 a4.at_, .int .i64 a4.n, .string (bs a4.txt), .int .i64 a5.at_, .int .i64 a5.n, .string (bs a5.txt), v, .int .i64 0, .int .i64 0, .string ⟨#[]⟩] 95 (0, 0)) ∧ wr.heap[w.heap.size]? = some z95 ∧ Kp r w wr ∧ RowsV (B + 1) l wr v ∧ l.length + ts'.length ≤ 2002)
              case atStart => exact ⟨[x0], t6, v0, rfl, rfl, J0.out, J1.out, J2.out, J3.out, J4.out, by simp only [List.length_singleton]; omega⟩
              case round =>
                obtain ⟨l, ts', v, hk, hmore, hat, b3, b2, l1, hrows, hll⟩ := hrel
                have K1 := Lib.hid hk; have K2 := Lib.hid hmore
                have H1 := Lib.hid hat; have B3 := Lib.hid b3; have B2 := Lib.hid b2; have L1 := Lib.hid l1; have HR := Lib.hid hrows
                clear hk hmore hat b3 b2 l1 hrows J0 J1 J2 J3 J4
                have hqs : (Sp.hd ts').txt = Sp.kParity ∨ ((Sp.hd ts').txt ≠ Sp.kParity ∧ (Sp.hd ts').txt = Sp.kLocal) ∨ ((Sp.hd ts').txt ≠ Sp.kParity ∧ (Sp.hd ts').txt ≠ Sp.kLocal) := by
                  by_cases h1 : (Sp.hd ts').txt = Sp.kParity
                  · exact .inl h1
                  · by_cases h2 : (Sp.hd ts').txt = Sp.kLocal
                    · exact .inr (.inl ⟨h1, h2⟩)
                    · exact .inr (.inr ⟨h1, h2⟩)
                rcases hqs with hp | ⟨hn, hp⟩ | ⟨hn, hp⟩
                · have HP : Hid ((Sp.hd ts').txt = Sp.kParity ∨ (Sp.hd ts').txt = Sp.kLocal) := Lib.hid (.inl hp)
                  have hq1 : (bs (Sp.hd ts').txt).toList = [112, 97, 114, 105, 116, 121] := by rw [Lib.toList_data]; exact hp
                  clear hp
                  go_wp2_with (first | (go_at_call 79; refine (token_any _ _ _ _ H1.out (by omega)).mono ?_; rintro e w2 hh; obtain ⟨rfl, hat2, hkp2⟩ := hh; have HA := Lib.hid hat2.at_; have HK := Lib.hid hkp2; clear hat2 hkp2))
                  have kk := HK.out
                  have b3 := kk.blk B3.out hBr; have b2 := kk.blk B2.out hne1; have l1 := L1.out.trans kk; have hrows := HR.out.kp kk (Nat.lt_succ_of_lt hrlt)
                  clear B3 B2 L1 HR H1 kk HK hq1
                  have H1 := HA; have B3 := Lib.hid b3; have B2 := Lib.hid b2; have L1 := Lib.hid l1
                  clear b3 b2 l1
                  obtain ⟨csr, hor, hin⟩ := hrows
                  have HOR := Lib.hid hor; have HIN := Lib.hid hin.drew
                  have CR := Lib.hid (row_any r s ts' w2.drew (H1.out.drew) hs)
                  have c9 := blk_c B3.out 9; have f9 := blk_f B3.out 9; have HB1 : Hid (B + 1 ≤ w2.drew.heap.size) := Lib.hid (Nat.succ_le_of_lt (lt_of_block (w := w2.drew) B3.out))
                  obtain ⟨Av, qv, rfl⟩ := own_slice hor
                  clear hor hin
                  obtain ⟨i0, hi, hz0, hz1, hz2⟩ := info_parts info117
                  go_region_law (first | (go_simp; go_at_call 78; refine CR.out.mono ?_; rintro e w6 hh; rcases h1 : Sp.pRow ts' with p | ⟨y0, t9⟩; (rw [h1] at hh; obtain ⟨he, hk⟩ := hh; unfold Wrong at he; subst he; exact ⟨rfl, by rw [pCode_bad EH.out E6.out (K2.out.trans (by rw [Sp.pRest_bad HP.out h1]; rfl))]; exact ⟨rfl, (L1.out.drew).trans hk⟩⟩); rw [h1] at hh; have E6' := Lib.hid h1; clear h1; obtain ⟨v6, rfl, ⟨vi, vc, rfl, hmi, hmc⟩, hat, hk⟩ := hh; obtain ⟨Ai, qi, rfl⟩ := own_slice hmi; obtain ⟨Ac, qc, rfl⟩ := own_slice hmc; have b3 := hk.blk B3.out hBr; have b2 := hk.blk B2.out hne1; have k9 := blk_c b3 9; have g9 := blk_f b3 9; have k9a := blk_c (blk_old b3 (.cells #[.int .i64 y0.at_, .bool y0.loc, .slice Ai y0.idx.length qi, .slice Ac y0.coef.length qc] 117)) 9; have l1 := L1.out.drew.trans hk; have L2 := Lib.hid l1; have B6 := Lib.hid b3; have B7 := Lib.hid b2; have MI := Lib.hid hmi; have MC := Lib.hid hmc; have H2 := Lib.hid hat; have HO := Lib.hid (own_kp (show w2.drew.ownsRow _ _ _ _ _ _ from HOR.out) hk (Nat.lt_succ_of_lt hrlt)); have HKK := Lib.hid hk; have HN := Lib.hid (World.news_of_block (heap_alloc_new w6 (.cells #[.int .i64 y0.at_, .bool y0.loc, .slice Ai y0.idx.length qi, .slice Ac y0.coef.length qc] 117))); have HLT := Lib.hid (lt_of_block b3); have HBA : Hid (B < (w6.alloc (.cells #[.int .i64 y0.at_, .bool y0.loc, .slice Ai y0.idx.length qi, .slice Ac y0.coef.length qc] 117)).heap.size) := Lib.hid (Nat.lt_trans (lt_of_block b3) (by rw [World.size_alloc]; exact Nat.lt_succ_self _)); have HWA : Hid (w.heap.size < (w6.alloc (.cells #[.int .i64 y0.at_, .bool y0.loc, .slice Ai y0.idx.length qi, .slice Ac y0.coef.length qc] 117)).heap.size) := Lib.hid (Nat.lt_trans hlt0 HBA.out); clear b3 b2 l1 hk hmi hmc hat) | (refine step_append_lies (w6.alloc (.cells #[.int .i64 y0.at_, .bool y0.loc, .slice Ai y0.idx.length qi, .slice Ac y0.coef.length qc] 117)) rfl (.tmp 33) (.tmp 36) 93 rfl (B + 1) 117 i0 _ 4 64 Tryd.underlying93 hi hz0 hz1 hz2 rfl (by decide) (.slice Av l.length qv) l.length (csr) rfl (HO.out.alloc _) ⟨w6.heap.size, 0, none⟩ 1 1 [.int .i64 y0.at_, .bool y0.loc, .slice Ai y0.idx.length qi, .slice Ac y0.coef.length qc] rfl rfl HN.out (by intro u hu; simp only [List.mem_cons, List.not_mem_nil, or_false] at hu; rcases hu with rfl | rfl | rfl | rfl <;> rfl) (by decide) (by unfold maxLen; omega) (by omega) HBA.out _ rfl ?_; intro g cap w7 hown hgrow hgat hglt; have HNB := (own_ne HO.out (b := B) (Nat.lt_succ_self _)).symm; have HNW := (own_ne HO.out (b := w.heap.size) (Nat.lt_succ_of_lt hlt0)).symm; have HNR := own_ne HO.out (b := r) (Nat.lt_succ_of_lt hrlt); have b3 := (hgrow.block B HBA.out HNB).trans (blk_old B6.out _); have b2 := (hgrow.block w.heap.size HWA.out HNW).trans (blk_old B7.out _); have k9' := blk_c b3 9; have g9' := blk_f b3 9; have l7 := (L2.out.alloc (.cells #[.int .i64 y0.at_, .bool y0.loc, .slice Ai y0.idx.length qi, .slice Ac y0.coef.length qc] 117)).grown hgrow (own_ge HO.out (Nat.le_succ_of_le (Nat.le_of_lt hlt0))); have at7 := (H2.out.alloc (.cells #[.int .i64 y0.at_, .bool y0.loc, .slice Ai y0.idx.length qi, .slice Ac y0.coef.length qc] 117)).grown hgrow HNR; have L7 := Lib.hid l7; have A7 := Lib.hid at7; have B8 := Lib.hid b3; have B9 := Lib.hid b2; have OW := Lib.hid hown; have GR := Lib.hid hgrow; clear b3 b2 l7 at7 hown hgrow hgat hglt HNB HNW HNR))
                  all_goals
                    have hr1 : r < B + 1 := Nat.lt_succ_of_lt hrlt
                    have mi := own_far (own_mono (World.ownsRow.kept (World.ownsRow.alloc MI.out (.cells #[.int .i64 y0.at_, .bool y0.loc, .slice Ai y0.idx.length qi, .slice Ac y0.coef.length qc] 117)) GR.out (own_type_ne (World.ownsRow.alloc MI.out (.cells #[.int .i64 y0.at_, .bool y0.loc, .slice Ai y0.idx.length qi, .slice Ac y0.coef.length qc] 117)) (World.ownsRow.alloc HO.out (.cells #[.int .i64 y0.at_, .bool y0.loc, .slice Ai y0.idx.length qi, .slice Ac y0.coef.length qc] 117)) (by decide))) HB1.out) (p := ⟨B, 9, none⟩) (Nat.lt_succ_self _) (.slice (some ⟨g, 0, none⟩) (l.length + 1) cap)
                    have mc := own_far (own_mono (World.ownsRow.kept (World.ownsRow.alloc MC.out (.cells #[.int .i64 y0.at_, .bool y0.loc, .slice Ai y0.idx.length qi, .slice Ac y0.coef.length qc] 117)) GR.out (own_type_ne (World.ownsRow.alloc MC.out (.cells #[.int .i64 y0.at_, .bool y0.loc, .slice Ai y0.idx.length qi, .slice Ac y0.coef.length qc] 117)) (World.ownsRow.alloc HO.out (.cells #[.int .i64 y0.at_, .bool y0.loc, .slice Ai y0.idx.length qi, .slice Ac y0.coef.length qc] 117)) (by decide))) HB1.out) (p := ⟨B, 9, none⟩) (Nat.lt_succ_self _) (.slice (some ⟨g, 0, none⟩) (l.length + 1) cap)
                    have hin2 : RowsIn (B + 1) (w7.setCell ⟨B, 9, none⟩ (.slice (some ⟨g, 0, none⟩) (l.length + 1) cap)) l csr := HIN.out.keep (fun m v hm => own_far (World.ownsRow.kept (World.ownsRow.alloc (own_kp (show w2.drew.ownsRow _ _ _ _ _ _ from hm) HKK.out hr1) (.cells #[.int .i64 y0.at_, .bool y0.loc, .slice Ai y0.idx.length qi, .slice Ac y0.coef.length qc] 117)) GR.out (own_type_ne (World.ownsRow.alloc (own_kp (show w2.drew.ownsRow _ _ _ _ _ _ from hm) HKK.out hr1) (.cells #[.int .i64 y0.at_, .bool y0.loc, .slice Ai y0.idx.length qi, .slice Ac y0.coef.length qc] 117)) (World.ownsRow.alloc HO.out (.cells #[.int .i64 y0.at_, .bool y0.loc, .slice Ai y0.idx.length qi, .slice Ac y0.coef.length qc] 117)) (by decide))) (p := ⟨B, 9, none⟩) (Nat.lt_succ_self _) _)
                    have MI2 := Lib.hid mi; have MC2 := Lib.hid mc; have HIN2 := Lib.hid hin2; clear mi mc MI MC hin2
                    go_wp2_with fail
                    go_roundg t9.length
                    case measure => rw [K1.out]; exact Sp.pRow_lt E6'.out
                    case rel =>
                      have hpl := Sp.pRow_lt E6'.out
                      refine ⟨l ++ [y0], t9, .slice (some ⟨g, 0, none⟩) (l.length + 1) cap, rfl, ?_, A7.out.setNew (p := ⟨B, 9, none⟩) hrB _, blk_set B8.out 9 _, blk_far B9.out (p := ⟨B, 9, none⟩) hwB _, L7.out.setNew (p := ⟨B, 9, none⟩) (Nat.le_of_lt hlt0) _, ⟨_, ?_, HIN2.out.snoc MI2.out MC2.out⟩, ?_⟩
                      · rw [K2.out]; exact Sp.addRows_step HP.out E6'.out
                      · rw [List.length_append]; exact own_far OW.out (p := ⟨B, 9, none⟩) (Nat.lt_succ_self _) _
                      · rw [List.length_append, List.length_singleton]; omega
                · have HP : Hid ((Sp.hd ts').txt = Sp.kParity ∨ (Sp.hd ts').txt = Sp.kLocal) := Lib.hid (.inr hp)
                  have hq1 : ¬ (bs (Sp.hd ts').txt).toList = [112, 97, 114, 105, 116, 121] := by rw [Lib.toList_data]; exact hn
                  have hq2 : (bs (Sp.hd ts').txt).toList = [108, 111, 99, 97, 108] := by rw [Lib.toList_data]; exact hp
                  clear hp hn
                  go_wp2_with (first | (go_at_call 79; refine (token_any _ _ _ _ H1.out (by omega)).mono ?_; rintro e w2 hh; obtain ⟨rfl, hat2, hkp2⟩ := hh; have HA := Lib.hid hat2.at_; have HK := Lib.hid hkp2; clear hat2 hkp2) | (go_at_call 79; refine (token_any _ _ _ _ HA.out (by omega)).mono ?_; rintro e w2b hh; obtain ⟨rfl, hat2, hkp2⟩ := hh; have HA2 := Lib.hid hat2.at_; have HK2 := Lib.hid hkp2; clear hat2 hkp2))
                  have kk := HK.out.trans HK2.out
                  have b3 := kk.blk B3.out hBr; have b2 := kk.blk B2.out hne1; have l1 := L1.out.trans kk; have hrows := HR.out.kp kk (Nat.lt_succ_of_lt hrlt)
                  clear B3 B2 L1 HR H1 kk HK HK2 hq1 hq2
                  have H1 := HA2; have B3 := Lib.hid b3; have B2 := Lib.hid b2; have L1 := Lib.hid l1
                  clear b3 b2 l1
                  obtain ⟨csr, hor, hin⟩ := hrows
                  have HOR := Lib.hid hor; have HIN := Lib.hid hin.drew
                  have CR := Lib.hid (row_any r s ts' w2b.drew (H1.out.drew) hs)
                  have c9 := blk_c B3.out 9; have f9 := blk_f B3.out 9; have HB1 : Hid (B + 1 ≤ w2b.drew.heap.size) := Lib.hid (Nat.succ_le_of_lt (lt_of_block (w := w2b.drew) B3.out))
                  obtain ⟨Av, qv, rfl⟩ := own_slice hor
                  clear hor hin
                  obtain ⟨i0, hi, hz0, hz1, hz2⟩ := info_parts info117
                  go_region_law (first | (go_simp; go_at_call 78; refine CR.out.mono ?_; rintro e w6 hh; rcases h1 : Sp.pRow ts' with p | ⟨y0, t9⟩; (rw [h1] at hh; obtain ⟨he, hk⟩ := hh; unfold Wrong at he; subst he; exact ⟨rfl, by rw [pCode_bad EH.out E6.out (K2.out.trans (by rw [Sp.pRest_bad HP.out h1]; rfl))]; exact ⟨rfl, (L1.out.drew).trans hk⟩⟩); rw [h1] at hh; have E6' := Lib.hid h1; clear h1; obtain ⟨v6, rfl, ⟨vi, vc, rfl, hmi, hmc⟩, hat, hk⟩ := hh; obtain ⟨Ai, qi, rfl⟩ := own_slice hmi; obtain ⟨Ac, qc, rfl⟩ := own_slice hmc; have b3 := hk.blk B3.out hBr; have b2 := hk.blk B2.out hne1; have k9 := blk_c b3 9; have g9 := blk_f b3 9; have k9a := blk_c (blk_old b3 (.cells #[.int .i64 y0.at_, .bool y0.loc, .slice Ai y0.idx.length qi, .slice Ac y0.coef.length qc] 117)) 9; have l1 := L1.out.drew.trans hk; have L2 := Lib.hid l1; have B6 := Lib.hid b3; have B7 := Lib.hid b2; have MI := Lib.hid hmi; have MC := Lib.hid hmc; have H2 := Lib.hid hat; have HO := Lib.hid (own_kp (show w2b.drew.ownsRow _ _ _ _ _ _ from HOR.out) hk (Nat.lt_succ_of_lt hrlt)); have HKK := Lib.hid hk; have HN := Lib.hid (World.news_of_block (heap_alloc_new w6 (.cells #[.int .i64 y0.at_, .bool y0.loc, .slice Ai y0.idx.length qi, .slice Ac y0.coef.length qc] 117))); have HLT := Lib.hid (lt_of_block b3); have HBA : Hid (B < (w6.alloc (.cells #[.int .i64 y0.at_, .bool y0.loc, .slice Ai y0.idx.length qi, .slice Ac y0.coef.length qc] 117)).heap.size) := Lib.hid (Nat.lt_trans (lt_of_block b3) (by rw [World.size_alloc]; exact Nat.lt_succ_self _)); have HWA : Hid (w.heap.size < (w6.alloc (.cells #[.int .i64 y0.at_, .bool y0.loc, .slice Ai y0.idx.length qi, .slice Ac y0.coef.length qc] 117)).heap.size) := Lib.hid (Nat.lt_trans hlt0 HBA.out); clear b3 b2 l1 hk hmi hmc hat) | (refine step_append_lies (w6.alloc (.cells #[.int .i64 y0.at_, .bool y0.loc, .slice Ai y0.idx.length qi, .slice Ac y0.coef.length qc] 117)) rfl (.tmp 33) (.tmp 36) 93 rfl (B + 1) 117 i0 _ 4 64 Tryd.underlying93 hi hz0 hz1 hz2 rfl (by decide) (.slice Av l.length qv) l.length (csr) rfl (HO.out.alloc _) ⟨w6.heap.size, 0, none⟩ 1 1 [.int .i64 y0.at_, .bool y0.loc, .slice Ai y0.idx.length qi, .slice Ac y0.coef.length qc] rfl rfl HN.out (by intro u hu; simp only [List.mem_cons, List.not_mem_nil, or_false] at hu; rcases hu with rfl | rfl | rfl | rfl <;> rfl) (by decide) (by unfold maxLen; omega) (by omega) HBA.out _ rfl ?_; intro g cap w7 hown hgrow hgat hglt; have HNB := (own_ne HO.out (b := B) (Nat.lt_succ_self _)).symm; have HNW := (own_ne HO.out (b := w.heap.size) (Nat.lt_succ_of_lt hlt0)).symm; have HNR := own_ne HO.out (b := r) (Nat.lt_succ_of_lt hrlt); have b3 := (hgrow.block B HBA.out HNB).trans (blk_old B6.out _); have b2 := (hgrow.block w.heap.size HWA.out HNW).trans (blk_old B7.out _); have k9' := blk_c b3 9; have g9' := blk_f b3 9; have l7 := (L2.out.alloc (.cells #[.int .i64 y0.at_, .bool y0.loc, .slice Ai y0.idx.length qi, .slice Ac y0.coef.length qc] 117)).grown hgrow (own_ge HO.out (Nat.le_succ_of_le (Nat.le_of_lt hlt0))); have at7 := (H2.out.alloc (.cells #[.int .i64 y0.at_, .bool y0.loc, .slice Ai y0.idx.length qi, .slice Ac y0.coef.length qc] 117)).grown hgrow HNR; have L7 := Lib.hid l7; have A7 := Lib.hid at7; have B8 := Lib.hid b3; have B9 := Lib.hid b2; have OW := Lib.hid hown; have GR := Lib.hid hgrow; clear b3 b2 l7 at7 hown hgrow hgat hglt HNB HNW HNR))
                  all_goals
                    have hr1 : r < B + 1 := Nat.lt_succ_of_lt hrlt
                    have mi := own_far (own_mono (World.ownsRow.kept (World.ownsRow.alloc MI.out (.cells #[.int .i64 y0.at_, .bool y0.loc, .slice Ai y0.idx.length qi, .slice Ac y0.coef.length qc] 117)) GR.out (own_type_ne (World.ownsRow.alloc MI.out (.cells #[.int .i64 y0.at_, .bool y0.loc, .slice Ai y0.idx.length qi, .slice Ac y0.coef.length qc] 117)) (World.ownsRow.alloc HO.out (.cells #[.int .i64 y0.at_, .bool y0.loc, .slice Ai y0.idx.length qi, .slice Ac y0.coef.length qc] 117)) (by decide))) HB1.out) (p := ⟨B, 9, none⟩) (Nat.lt_succ_self _) (.slice (some ⟨g, 0, none⟩) (l.length + 1) cap)
                    have mc := own_far (own_mono (World.ownsRow.kept (World.ownsRow.alloc MC.out (.cells #[.int .i64 y0.at_, .bool y0.loc, .slice Ai y0.idx.length qi, .slice Ac y0.coef.length qc] 117)) GR.out (own_type_ne (World.ownsRow.alloc MC.out (.cells #[.int .i64 y0.at_, .bool y0.loc, .slice Ai y0.idx.length qi, .slice Ac y0.coef.length qc] 117)) (World.ownsRow.alloc HO.out (.cells #[.int .i64 y0.at_, .bool y0.loc, .slice Ai y0.idx.length qi, .slice Ac y0.coef.length qc] 117)) (by decide))) HB1.out) (p := ⟨B, 9, none⟩) (Nat.lt_succ_self _) (.slice (some ⟨g, 0, none⟩) (l.length + 1) cap)
                    have hin2 : RowsIn (B + 1) (w7.setCell ⟨B, 9, none⟩ (.slice (some ⟨g, 0, none⟩) (l.length + 1) cap)) l csr := HIN.out.keep (fun m v hm => own_far (World.ownsRow.kept (World.ownsRow.alloc (own_kp (show w2b.drew.ownsRow _ _ _ _ _ _ from hm) HKK.out hr1) (.cells #[.int .i64 y0.at_, .bool y0.loc, .slice Ai y0.idx.length qi, .slice Ac y0.coef.length qc] 117)) GR.out (own_type_ne (World.ownsRow.alloc (own_kp (show w2b.drew.ownsRow _ _ _ _ _ _ from hm) HKK.out hr1) (.cells #[.int .i64 y0.at_, .bool y0.loc, .slice Ai y0.idx.length qi, .slice Ac y0.coef.length qc] 117)) (World.ownsRow.alloc HO.out (.cells #[.int .i64 y0.at_, .bool y0.loc, .slice Ai y0.idx.length qi, .slice Ac y0.coef.length qc] 117)) (by decide))) (p := ⟨B, 9, none⟩) (Nat.lt_succ_self _) _)
                    have MI2 := Lib.hid mi; have MC2 := Lib.hid mc; have HIN2 := Lib.hid hin2; clear mi mc MI MC hin2
                    go_wp2_with fail
                    go_roundg t9.length
                    case measure => rw [K1.out]; exact Sp.pRow_lt E6'.out
                    case rel =>
                      have hpl := Sp.pRow_lt E6'.out
                      refine ⟨l ++ [y0], t9, .slice (some ⟨g, 0, none⟩) (l.length + 1) cap, rfl, ?_, A7.out.setNew (p := ⟨B, 9, none⟩) hrB _, blk_set B8.out 9 _, blk_far B9.out (p := ⟨B, 9, none⟩) hwB _, L7.out.setNew (p := ⟨B, 9, none⟩) (Nat.le_of_lt hlt0) _, ⟨_, ?_, HIN2.out.snoc MI2.out MC2.out⟩, ?_⟩
                      · rw [K2.out]; exact Sp.addRows_step HP.out E6'.out
                      · rw [List.length_append]; exact own_far OW.out (p := ⟨B, 9, none⟩) (Nat.lt_succ_self _) _
                      · rw [List.length_append, List.length_singleton]; omega
                · have HP : Hid (¬ ((Sp.hd ts').txt = Sp.kParity ∨ (Sp.hd ts').txt = Sp.kLocal)) := Lib.hid (fun h => h.elim hn hp)
                  have hq1 : ¬ (bs (Sp.hd ts').txt).toList = [112, 97, 114, 105, 116, 121] := by rw [Lib.toList_data]; exact hn
                  have hq2 : ¬ (bs (Sp.hd ts').txt).toList = [108, 111, 99, 97, 108] := by rw [Lib.toList_data]; exact hp
                  have hb1 : ((bs (Sp.hd ts').txt).toList == [112, 97, 114, 105, 116, 121]) = false := by simpa using hq1
                  have hb2 : ((bs (Sp.hd ts').txt).toList == [108, 111, 99, 97, 108]) = false := by simpa using hq2
                  clear hp hn
                  go_wp2_with (first | (go_at_call 79; refine (token_any _ _ _ _ H1.out (by omega)).mono ?_; rintro e w2 hh; obtain ⟨rfl, hat2, hkp2⟩ := hh; have HA := Lib.hid hat2.at_; have HK := Lib.hid hkp2; clear hat2 hkp2) | (go_at_call 79; refine (token_any _ _ _ _ HA.out (by omega)).mono ?_; rintro e w2b hh; obtain ⟨rfl, hat2, hkp2⟩ := hh; have HA2 := Lib.hid hat2.at_; have HK2 := Lib.hid hkp2; clear hat2 hkp2))
                  refine (token_any _ _ _ _ HA2.out (by omega)).mono ?_
                  rintro e w3 hh
                  obtain ⟨rfl, hat3, hkp3⟩ := hh
                  have kk := (HK.out.trans HK2.out).trans hkp3
                  have b3 := kk.blk B3.out hBr; have b2 := kk.blk B2.out hne1; have l1 := L1.out.trans kk; have hrows := HR.out.kp kk (Nat.lt_succ_of_lt hrlt)
                  clear HA HA2 HK HK2 B3 B2 L1 HR H1 kk hkp3
                  have H1 := Lib.hid hat3.at_; have B3 := Lib.hid b3; have B2 := Lib.hid b2; have L1 := Lib.hid l1; have HR := Lib.hid hrows
                  clear hat3 b3 b2 l1 hrows
                  have EM : Hid (Sp.addRows [x0] (Sp.pRest t6) = .ok (l, ts')) := Lib.hid (by rw [K2.out, Sp.pRest_no HP.out]; simp [Sp.addRows])
                  have EC : Hid (∀ (res : Except Nat (Sp.Src × List Sp.Tok)), (match Sp.pTail ts' with | .error p => (.error p : Except Nat (Sp.Src × List Sp.Tok)) | .ok (o, t8) => .ok (⟨a2, a4, a5, l, o⟩, t8)) = res → Sp.pCode ts = res) := Lib.hid (fun res hres => by rw [← hres]; exact pCode_of EH.out E6.out EM.out)
                  clear EH E6 EM K2 HP hq1 hq2 hb1 hb2
                  by_cases hd : (Sp.hd ts').txt = Sp.kDomain
                  · have HD := Lib.hid hd
                    have hq1 : (bs (Sp.hd ts').txt).toList = [100, 111, 109, 97, 105, 110] := by rw [Lib.toList_data]; exact hd
                    clear hd
                    go_wp2_with fail
                    have C1 := Lib.hid (one_any r s ⟨#[100, 111, 109, 97, 105, 110]⟩ ts' _ H1.out hs (by decide))
                    rw [show (⟨#[100, 111, 109, 97, 105, 110]⟩ : ByteArray).data.toList = Sp.kDomain from rfl] at C1
                    rcases h1 : Sp.pOne Sp.kDomain ts' with p | ⟨an, t7⟩
                    · rw [h1] at C1
                      refine C1.out.mono ?_
                      rintro e w' ⟨he, hk⟩
                      unfold Wrong at he
                      subst he
                      exact ⟨rfl, by rw [EC.out (.error p) (by simp only [Sp.pTail, Sp.pDom, HD.out, if_true, h1])]; exact ⟨rfl, L1.out.trans hk⟩⟩
                    · rw [h1] at C1
                      refine C1.out.mono ?_
                      have E8 := Lib.hid h1; clear h1 C1
                      rintro e w4 ⟨v4, rfl, rfl, hat, hk⟩
                      have b3 := hk.blk B3.out hBr; have b2 := hk.blk B2.out hne1; have l1 := L1.out.trans hk; have hrows := HR.out.kp hk (Nat.lt_succ_of_lt hrlt)
                      clear B3 B2 L1 HR H1 hk
                      have c10 := blk_c b3 10; have c11 := blk_c b3 11; have c12 := blk_c b3 12
                      have f10 := blk_f b3 10; have f11 := blk_f b3 11; have f12 := blk_f b3 12
                      have H1 := Lib.hid hat; have B3 := Lib.hid b3; have B2 := Lib.hid b2; have L1 := Lib.hid l1; have HR := Lib.hid hrows
                      clear hat b3 b2 l1 hrows
                      unfold tokV
                      go_wp2_with fail
                      have b3 : (((w4.setCell ⟨B, 10, none⟩ (.int .i64 an.at_)).setCell ⟨B, 11, none⟩ (.int .i64 an.n)).setCell ⟨B, 12, none⟩ (.string (bs an.txt))).heap[B]? = some (.cells #[.int .i64 a2.at_, .int .i64 a2.n, .string (bs a2.txt), .int .i64 a4.at_, .int .i64 a4.n, .string (bs a4.txt), .int .i64 a5.at_, .int .i64 a5.n, .string (bs a5.txt), v, .int .i64 an.at_, .int .i64 an.n, .string (bs an.txt)] 95 (0, 0)) := blk_set (blk_set (blk_set B3.out 10 (.int .i64 an.at_)) 11 (.int .i64 an.n)) 12 (.string (bs an.txt))
                      have b2 := blk_far (blk_far (blk_far B2.out (p := ⟨B, 10, none⟩) hwB (.int .i64 an.at_)) (p := ⟨B, 11, none⟩) hwB (.int .i64 an.n)) (p := ⟨B, 12, none⟩) hwB (.string (bs an.txt))
                      have l1 := ((L1.out.setNew (p := ⟨B, 10, none⟩) (Nat.le_of_lt hlt0) (.int .i64 an.at_)).setNew (p := ⟨B, 11, none⟩) (Nat.le_of_lt hlt0) (.int .i64 an.n)).setNew (p := ⟨B, 12, none⟩) (Nat.le_of_lt hlt0) (.string (bs an.txt))
                      have hat := ((H1.out.setNew (p := ⟨B, 10, none⟩) hrB (.int .i64 an.at_)).setNew (p := ⟨B, 11, none⟩) hrB (.int .i64 an.n)).setNew (p := ⟨B, 12, none⟩) hrB (.string (bs an.txt))
                      have hrows := ((HR.out.far (p := ⟨B, 10, none⟩) (Nat.lt_succ_self _) (.int .i64 an.at_)).far (p := ⟨B, 11, none⟩) (Nat.lt_succ_self _) (.int .i64 an.n)).far (p := ⟨B, 12, none⟩) (Nat.lt_succ_self _) (.string (bs an.txt))
                      generalize ((w4.setCell ⟨B, 10, none⟩ (.int .i64 an.at_)).setCell ⟨B, 11, none⟩ (.int .i64 an.n)).setCell ⟨B, 12, none⟩ (.string (bs an.txt)) = w5 at *
                      clear B3 B2 L1 HR H1 c10 c11 c12 f10 f11 f12
                      have H1 := Lib.hid hat; have B3 := Lib.hid b3; have B2 := Lib.hid b2; have L1 := Lib.hid l1; have HR := Lib.hid hrows
                      clear hat b3 b2 l1 hrows
                      have EE : Hid (∀ (res : Except Nat (Sp.Src × List Sp.Tok)), (match Sp.pTok Sp.kShut t7 with | .error p => (.error p : Except Nat (Sp.Src × List Sp.Tok)) | .ok (_, t8) => .ok (⟨a2, a4, a5, l, some an⟩, t8)) = res → Sp.pCode ts = res) := Lib.hid (fun res hres => EC.out res (by rw [← hres]; simp only [Sp.pTail, Sp.pDom, HD.out, if_true, E8.out]; rcases Sp.pTok Sp.kShut t7 with p | ⟨_, _⟩ <;> rfl))
                      have C1 := Lib.hid (must_any r s ⟨#[125]⟩ t7 _ H1.out hs (by decide))
                      rw [show (⟨#[125]⟩ : ByteArray).data.toList = Sp.kShut from rfl] at C1
                      rcases h1 : Sp.pTok Sp.kShut t7 with p | ⟨az, t8⟩
                      · rw [h1] at C1
                        refine C1.out.mono ?_
                        rintro e w' ⟨he, hk⟩
                        unfold Wrong at he
                        subst he
                        exact ⟨rfl, by rw [EE.out (.error p) (by simp only [h1])]; exact ⟨rfl, L1.out.trans hk⟩⟩
                      · rw [h1] at C1
                        refine C1.out.mono ?_
                        have E9 := Lib.hid h1; clear h1 C1
                        rintro e w6 ⟨v6, rfl, hv6, hat, hk⟩
                        clear hv6
                        have b3 := hk.blk B3.out hBr; have b2 := hk.blk B2.out hne1; have l1 := L1.out.trans hk; have hrows := HR.out.kp hk (Nat.lt_succ_of_lt hrlt)
                        clear B3 B2 L1 HR H1 hk
                        obtain ⟨csr, hor, hin⟩ := hrows
                        obtain ⟨Ar, qr, rfl⟩ := own_slice hor
                        unfold z95 at b2
                        have c0 := blk_c b3 0; have d0 := blk_c b2 0; have g0 := blk_f b2 0; have c1 := blk_c b3 1; have d1 := blk_c b2 1; have g1 := blk_f b2 1; have c2 := blk_c b3 2; have d2 := blk_c b2 2; have g2 := blk_f b2 2; have c3 := blk_c b3 3; have d3 := blk_c b2 3; have g3 := blk_f b2 3; have c4 := blk_c b3 4; have d4 := blk_c b2 4; have g4 := blk_f b2 4; have c5 := blk_c b3 5; have d5 := blk_c b2 5; have g5 := blk_f b2 5; have c6 := blk_c b3 6; have d6 := blk_c b2 6; have g6 := blk_f b2 6; have c7 := blk_c b3 7; have d7 := blk_c b2 7; have g7 := blk_f b2 7; have c8 := blk_c b3 8; have d8 := blk_c b2 8; have g8 := blk_f b2 8; have c9 := blk_c b3 9; have d9 := blk_c b2 9; have g9 := blk_f b2 9; have c10 := blk_c b3 10; have d10 := blk_c b2 10; have g10 := blk_f b2 10; have c11 := blk_c b3 11; have d11 := blk_c b2 11; have g11 := blk_f b2 11; have c12 := blk_c b3 12; have d12 := blk_c b2 12; have g12 := blk_f b2 12
                        have H1 := Lib.hid hat; have B3 := Lib.hid b3; have B2 := Lib.hid b2; have L1 := Lib.hid l1; have HR : Hid (RowsV (B + 1) l w6 (.slice Ar l.length qr)) := Lib.hid ⟨csr, hor, hin⟩
                        clear hat b3 b2 l1 hor hin
                        go_wp2_with fail
                        refine bodyPost_ret (v := .agg #[.int .i64 a2.at_, .int .i64 a2.n, .string (bs a2.txt), .int .i64 a4.at_, .int .i64 a4.n, .string (bs a4.txt), .int .i64 a5.at_, .int .i64 a5.n, .string (bs a5.txt), .slice Ar l.length qr, .int .i64 an.at_, .int .i64 an.n, .string (bs an.txt)]) (by simp [results, Tryd.results59, go_sem, d0, d1, d2, d3, d4, d5, d6, d7, d8, d9, d10, d11, d12]) rfl ?_
                        rw [EE.out _ (by simp only [E9.out]; rfl)]
                        have hwB1 : w.heap.size < B + 1 := Nat.lt_succ_of_lt hlt0
                        refine ⟨_, rfl, ⟨.slice Ar l.length qr, rfl, ?_⟩, ?_, ?_⟩
                        · exact RowsV.mono (((((((((((((HR.out.far (p := ⟨w.heap.size, 0, none⟩) hwB1 _).far (p := ⟨w.heap.size, 1, none⟩) hwB1 _).far (p := ⟨w.heap.size, 2, none⟩) hwB1 _).far (p := ⟨w.heap.size, 3, none⟩) hwB1 _).far (p := ⟨w.heap.size, 4, none⟩) hwB1 _).far (p := ⟨w.heap.size, 5, none⟩) hwB1 _).far (p := ⟨w.heap.size, 6, none⟩) hwB1 _).far (p := ⟨w.heap.size, 7, none⟩) hwB1 _).far (p := ⟨w.heap.size, 8, none⟩) hwB1 _).far (p := ⟨w.heap.size, 9, none⟩) hwB1 _).far (p := ⟨w.heap.size, 10, none⟩) hwB1 _).far (p := ⟨w.heap.size, 11, none⟩) hwB1 _).far (p := ⟨w.heap.size, 12, none⟩) hwB1 _) (Nat.le_of_lt hwB1)
                        · exact ((((((((((((H1.out.setNew (p := ⟨w.heap.size, 0, none⟩) hne2 _).setNew (p := ⟨w.heap.size, 1, none⟩) hne2 _).setNew (p := ⟨w.heap.size, 2, none⟩) hne2 _).setNew (p := ⟨w.heap.size, 3, none⟩) hne2 _).setNew (p := ⟨w.heap.size, 4, none⟩) hne2 _).setNew (p := ⟨w.heap.size, 5, none⟩) hne2 _).setNew (p := ⟨w.heap.size, 6, none⟩) hne2 _).setNew (p := ⟨w.heap.size, 7, none⟩) hne2 _).setNew (p := ⟨w.heap.size, 8, none⟩) hne2 _).setNew (p := ⟨w.heap.size, 9, none⟩) hne2 _).setNew (p := ⟨w.heap.size, 10, none⟩) hne2 _).setNew (p := ⟨w.heap.size, 11, none⟩) hne2 _).setNew (p := ⟨w.heap.size, 12, none⟩) hne2 _
                        · exact ((((((((((((L1.out.setNew (p := ⟨w.heap.size, 0, none⟩) (Nat.le_refl _) _).setNew (p := ⟨w.heap.size, 1, none⟩) (Nat.le_refl _) _).setNew (p := ⟨w.heap.size, 2, none⟩) (Nat.le_refl _) _).setNew (p := ⟨w.heap.size, 3, none⟩) (Nat.le_refl _) _).setNew (p := ⟨w.heap.size, 4, none⟩) (Nat.le_refl _) _).setNew (p := ⟨w.heap.size, 5, none⟩) (Nat.le_refl _) _).setNew (p := ⟨w.heap.size, 6, none⟩) (Nat.le_refl _) _).setNew (p := ⟨w.heap.size, 7, none⟩) (Nat.le_refl _) _).setNew (p := ⟨w.heap.size, 8, none⟩) (Nat.le_refl _) _).setNew (p := ⟨w.heap.size, 9, none⟩) (Nat.le_refl _) _).setNew (p := ⟨w.heap.size, 10, none⟩) (Nat.le_refl _) _).setNew (p := ⟨w.heap.size, 11, none⟩) (Nat.le_refl _) _).setNew (p := ⟨w.heap.size, 12, none⟩) (Nat.le_refl _) _
                  · have HD := Lib.hid hd
                    have hq1 : ¬ (bs (Sp.hd ts').txt).toList = [100, 111, 109, 97, 105, 110] := by rw [Lib.toList_data]; exact hd
                    have hb3 : ((bs (Sp.hd ts').txt).toList == [100, 111, 109, 97, 105, 110]) = false := by simpa using hq1
                    clear hd
                    go_wp2_with fail
                    have EE : Hid (∀ (res : Except Nat (Sp.Src × List Sp.Tok)), (match Sp.pTok Sp.kShut ts' with | .error p => (.error p : Except Nat (Sp.Src × List Sp.Tok)) | .ok (_, t8) => .ok (⟨a2, a4, a5, l, none⟩, t8)) = res → Sp.pCode ts = res) := Lib.hid (fun res hres => EC.out res (by rw [← hres]; simp only [Sp.pTail, Sp.pDom, HD.out, if_false]; rcases Sp.pTok Sp.kShut ts' with p | ⟨_, _⟩ <;> rfl))
                    have C1 := Lib.hid (must_any r s ⟨#[125]⟩ ts' _ H1.out hs (by decide))
                    rw [show (⟨#[125]⟩ : ByteArray).data.toList = Sp.kShut from rfl] at C1
                    rcases h1 : Sp.pTok Sp.kShut ts' with p | ⟨az, t8⟩
                    · rw [h1] at C1
                      refine C1.out.mono ?_
                      rintro e w' ⟨he, hk⟩
                      unfold Wrong at he
                      subst he
                      exact ⟨rfl, by rw [EE.out (.error p) (by simp only [h1])]; exact ⟨rfl, L1.out.trans hk⟩⟩
                    · rw [h1] at C1
                      refine C1.out.mono ?_
                      have E9 := Lib.hid h1; clear h1 C1
                      rintro e w6 ⟨v6, rfl, hv6, hat, hk⟩
                      clear hv6
                      have b3 := hk.blk B3.out hBr; have b2 := hk.blk B2.out hne1; have l1 := L1.out.trans hk; have hrows := HR.out.kp hk (Nat.lt_succ_of_lt hrlt)
                      clear B3 B2 L1 HR H1 hk
                      obtain ⟨csr, hor, hin⟩ := hrows
                      obtain ⟨Ar, qr, rfl⟩ := own_slice hor
                      unfold z95 at b2
                      have c0 := blk_c b3 0; have d0 := blk_c b2 0; have g0 := blk_f b2 0; have c1 := blk_c b3 1; have d1 := blk_c b2 1; have g1 := blk_f b2 1; have c2 := blk_c b3 2; have d2 := blk_c b2 2; have g2 := blk_f b2 2; have c3 := blk_c b3 3; have d3 := blk_c b2 3; have g3 := blk_f b2 3; have c4 := blk_c b3 4; have d4 := blk_c b2 4; have g4 := blk_f b2 4; have c5 := blk_c b3 5; have d5 := blk_c b2 5; have g5 := blk_f b2 5; have c6 := blk_c b3 6; have d6 := blk_c b2 6; have g6 := blk_f b2 6; have c7 := blk_c b3 7; have d7 := blk_c b2 7; have g7 := blk_f b2 7; have c8 := blk_c b3 8; have d8 := blk_c b2 8; have g8 := blk_f b2 8; have c9 := blk_c b3 9; have d9 := blk_c b2 9; have g9 := blk_f b2 9; have c10 := blk_c b3 10; have d10 := blk_c b2 10; have g10 := blk_f b2 10; have c11 := blk_c b3 11; have d11 := blk_c b2 11; have g11 := blk_f b2 11; have c12 := blk_c b3 12; have d12 := blk_c b2 12; have g12 := blk_f b2 12
                      have H1 := Lib.hid hat; have B3 := Lib.hid b3; have B2 := Lib.hid b2; have L1 := Lib.hid l1; have HR : Hid (RowsV (B + 1) l w6 (.slice Ar l.length qr)) := Lib.hid ⟨csr, hor, hin⟩
                      clear hat b3 b2 l1 hor hin
                      go_wp2_with fail
                      refine bodyPost_ret (v := .agg #[.int .i64 a2.at_, .int .i64 a2.n, .string (bs a2.txt), .int .i64 a4.at_, .int .i64 a4.n, .string (bs a4.txt), .int .i64 a5.at_, .int .i64 a5.n, .string (bs a5.txt), .slice Ar l.length qr, .int .i64 0, .int .i64 0, .string ⟨#[]⟩]) (by simp [results, Tryd.results59, go_sem, d0, d1, d2, d3, d4, d5, d6, d7, d8, d9, d10, d11, d12]) rfl ?_
                      rw [EE.out _ (by simp only [E9.out]; rfl)]
                      have hwB1 : w.heap.size < B + 1 := Nat.lt_succ_of_lt hlt0
                      refine ⟨_, rfl, ⟨.slice Ar l.length qr, rfl, ?_⟩, ?_, ?_⟩
                      · exact RowsV.mono (((((((((((((HR.out.far (p := ⟨w.heap.size, 0, none⟩) hwB1 _).far (p := ⟨w.heap.size, 1, none⟩) hwB1 _).far (p := ⟨w.heap.size, 2, none⟩) hwB1 _).far (p := ⟨w.heap.size, 3, none⟩) hwB1 _).far (p := ⟨w.heap.size, 4, none⟩) hwB1 _).far (p := ⟨w.heap.size, 5, none⟩) hwB1 _).far (p := ⟨w.heap.size, 6, none⟩) hwB1 _).far (p := ⟨w.heap.size, 7, none⟩) hwB1 _).far (p := ⟨w.heap.size, 8, none⟩) hwB1 _).far (p := ⟨w.heap.size, 9, none⟩) hwB1 _).far (p := ⟨w.heap.size, 10, none⟩) hwB1 _).far (p := ⟨w.heap.size, 11, none⟩) hwB1 _).far (p := ⟨w.heap.size, 12, none⟩) hwB1 _) (Nat.le_of_lt hwB1)
                      · exact ((((((((((((H1.out.setNew (p := ⟨w.heap.size, 0, none⟩) hne2 _).setNew (p := ⟨w.heap.size, 1, none⟩) hne2 _).setNew (p := ⟨w.heap.size, 2, none⟩) hne2 _).setNew (p := ⟨w.heap.size, 3, none⟩) hne2 _).setNew (p := ⟨w.heap.size, 4, none⟩) hne2 _).setNew (p := ⟨w.heap.size, 5, none⟩) hne2 _).setNew (p := ⟨w.heap.size, 6, none⟩) hne2 _).setNew (p := ⟨w.heap.size, 7, none⟩) hne2 _).setNew (p := ⟨w.heap.size, 8, none⟩) hne2 _).setNew (p := ⟨w.heap.size, 9, none⟩) hne2 _).setNew (p := ⟨w.heap.size, 10, none⟩) hne2 _).setNew (p := ⟨w.heap.size, 11, none⟩) hne2 _).setNew (p := ⟨w.heap.size, 12, none⟩) hne2 _
                      · exact ((((((((((((L1.out.setNew (p := ⟨w.heap.size, 0, none⟩) (Nat.le_refl _) _).setNew (p := ⟨w.heap.size, 1, none⟩) (Nat.le_refl _) _).setNew (p := ⟨w.heap.size, 2, none⟩) (Nat.le_refl _) _).setNew (p := ⟨w.heap.size, 3, none⟩) (Nat.le_refl _) _).setNew (p := ⟨w.heap.size, 4, none⟩) (Nat.le_refl _) _).setNew (p := ⟨w.heap.size, 5, none⟩) (Nat.le_refl _) _).setNew (p := ⟨w.heap.size, 6, none⟩) (Nat.le_refl _) _).setNew (p := ⟨w.heap.size, 7, none⟩) (Nat.le_refl _) _).setNew (p := ⟨w.heap.size, 8, none⟩) (Nat.le_refl _) _).setNew (p := ⟨w.heap.size, 9, none⟩) (Nat.le_refl _) _).setNew (p := ⟨w.heap.size, 10, none⟩) (Nat.le_refl _) _).setNew (p := ⟨w.heap.size, 11, none⟩) (Nat.le_refl _) _).setNew (p := ⟨w.heap.size, 12, none⟩) (Nat.le_refl _) _
end Go.Proofs.YtppeplonnippcaaDoor
