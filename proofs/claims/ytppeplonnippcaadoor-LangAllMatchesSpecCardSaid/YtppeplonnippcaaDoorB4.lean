/-
Layer 7: all codes of a text are read and built (the closure of parse).
-/
import Derived.Test.YtppeplonnippcaaDoorB1
import Derived.Test.YtppeplonnippcaaDoorB2
import Derived.Test.YtppeplonnippcaaDoorB3
import Derived.Deep.CutBlock
set_option linter.unusedVariables false
set_option linter.unusedSimpArgs false
namespace Go.Proofs.YtppeplonnippcaaDoor
open Go.RowKit Go.Maps

theorem info95 : (Tryd.prog.info? 95).map (fun i => (i.size, i.bytes)) = some (13, 152) := by kernel_rfl
theorem info95z : (Tryd.prog.info? 95).map (fun i => (i.zero, i.size, i.bytes)) = some (some (.agg #[.int .i64 0, .int .i64 0, .string ⟨#[]⟩, .int .i64 0, .int .i64 0, .string ⟨#[]⟩, .int .i64 0, .int .i64 0, .string ⟨#[]⟩, .slice none 0 0, .int .i64 0, .int .i64 0, .string ⟨#[]⟩]), 13, 152) := by kernel_rfl

theorem RowsV.kept {w w' : World} {b0 b' n s : Nat} {e : TypeId} {l : List Sp.Row} {v vv : Value} {xs : List Value} (h : RowsV b0 l w v) (hg : w.grownBy w' vv.ownBlock) (ho : w.ownsRow b' e s vv n xs) (he1 : 117 ≠ e) (he2 : 92 ≠ e) : RowsV b0 l w' v := by
  obtain ⟨cs, h1, h2⟩ := h
  exact ⟨cs, h1.kept hg (own_type_ne h1 ho he1), h2.keep fun m v hm => World.ownsRow.kept hm hg (own_type_ne hm ho he2)⟩
theorem RowsV.drew {w : World} {b0 : Nat} {l : List Sp.Row} {v : Value} (h : RowsV b0 l w v) : RowsV b0 l w.drew v := by
  obtain ⟨cs, h1, h2⟩ := h
  exact ⟨cs, h1, h2.drew⟩
theorem SrcsV.map {w w' : World} {b0 : Nat} {l : List Sp.Src} {v : Value} (h : SrcsV b0 l w v) (ho : ∀ cs, w.ownsRow b0 95 13 v l.length cs → w'.ownsRow b0 95 13 v l.length cs) (hr : ∀ m u, RowsV b0 m w u → RowsV b0 m w' u) : SrcsV b0 l w' v := by
  obtain ⟨cs, h1, h2⟩ := h
  exact ⟨cs, ho cs h1, h2.keep fun x c ⟨vr, e, hv⟩ => ⟨vr, e, hr _ _ hv⟩⟩
theorem SrcsV.kp {w w' : World} {r b0 : Nat} {l : List Sp.Src} {v : Value} (h : SrcsV b0 l w v) (k : Kp r w w') (hr : r < b0) : SrcsV b0 l w' v :=
  h.map (fun cs ho => own_kp ho k hr) (fun m u hm => hm.kp k hr)
theorem SrcsV.drewN {w : World} {b0 : Nat} {l : List Sp.Src} {v : Value} (h : SrcsV b0 l w v) (n : Nat) : SrcsV b0 l (w.drewN n) v :=
  h.map (fun cs ho => ho) (fun m u hm => by obtain ⟨cs, h1, h2⟩ := hm; exact ⟨cs, h1, RowsIn.keep (w := w) (w' := w.drewN n) (fun _ _ hm => hm) h2⟩)
theorem SrcsV.shape {w : World} {b0 : Nat} {l : List Sp.Src} {v : Value} (h : SrcsV b0 l w v) : ∃ A q, v = .slice A l.length q := by
  obtain ⟨cs, h1, _⟩ := h; exact own_slice h1

theorem toks_len_pos {r : Nat} {s : ByteArray} {ts : List Sp.Tok} {w : World} (h : At w r s ts) : Sp.AllG s.size ts ∧ ts.length ≤ s.size + 1 := by
  obtain ⟨i, hi, _, rfl⟩ := h
  have := Sp.toks_G _ (rst s i) i rfl
  have hl := rst_len s i
  exact ⟨fun t ht => (this.1 t ht).mono (by omega), by omega⟩

/-- what the closure of parse comes to -/
def Par1Post (r q b : Nat) (res : Except Sp.Er (List Sp.Code)) (w : World) (e : Ending) (w' : World) : Prop :=
  (match res with
   | .ok l => e = .returned (.tuple #[]) ∧ ∃ vo, w'.heap[q]? = some (.cells #[vo] 34 (0, 0)) ∧ CodesV w.heap.size l w' vo
   | .error (p, er) => e = Wrong p er) ∧ w'.heap[b]? = some z69 ∧ Below r w w'

theorem Kp.toBelow {r : Nat} {w w' : World} (h : Kp r w w') (hr : r ≤ w.heap.size) : Below r w w' :=
  ⟨h.os, h.tape, h.output, h.size, fun k hk => h.block k (by omega) (by omega)⟩
theorem par_bad {n : Nat} {single : Bool} {ts : List Sp.Tok} {p : Nat} {w w' : World} (hsz : w.heap.size = n + 7) (hp : Sp.pAll single [] ts = .error p) (h6 : w.heap[n + 6]? = some z69) (hk : Kp (n + 3) w w') :
    Par1Post (n + 3) (n + 5) (n + 6) (Sp.parseTs single ts) w (Wrong p 3) w' := by
  unfold Sp.parseTs
  rw [hp]
  exact ⟨rfl, hk.blk h6 (by omega), hk.toBelow (by omega)⟩
/-- owned rows of one type stay -/
def Keeps (w w' : World) (b : Nat) (e : TypeId) : Prop := ∀ s v n xs, w.ownsRow b e s v n xs → w'.ownsRow b e s v n xs
theorem Keeps.alloc (w : World) (b : Nat) (e : TypeId) (o : Obj) : Keeps w (w.alloc o) b e := fun _ _ _ _ h => h.alloc o
theorem Keeps.below {w w' : World} (b : Nat) (e : TypeId) (k : Below w.heap.size w w') : Keeps w w' b e := fun _ _ _ _ h => own_below h k
theorem Keeps.far (w : World) {b : Nat} (e : TypeId) {p : Addr} (hp : p.block < b) (u : Value) : Keeps w (w.setCell p u) b e := fun _ _ _ _ h => own_far h hp u
theorem Keeps.drew (w : World) (b : Nat) (e : TypeId) : Keeps w w.drew b e := fun _ _ _ _ h => h
theorem own_ne_map {w : World} {b e s n M m : Nat} {v : Value} {xs : List Value} {names : List (List UInt8)} (h : w.ownsRow b e s v n xs) (hm : NamesAt w M m names) : v.ownBlock ≠ some M := by
  intro ee
  obtain ⟨es, clock, hb, _⟩ := hm
  rcases h.2 with ⟨rfl, _⟩ | ⟨g, cap, cur, rfl, _, hh, _⟩
  · simp [Value.ownBlock] at ee
  · have : g = M := by simpa [Value.ownBlock] using ee
    subst this
    rw [hh] at hb
    cases hb
theorem Keeps.map {w w' : World} (b : Nat) (e : TypeId) {M m : Nat} {names : List (List UInt8)} (hm : NamesAt w M m names) (hg : w.grownBy w' (some M)) : Keeps w w' b e :=
  fun _ _ _ _ h => h.kept hg (Or.inr (own_ne_map h hm))
theorem Keeps.grow {w w' : World} {b b' e' s' n' : Nat} {v' : Value} {xs' : List Value} {e : TypeId} (ho : w.ownsRow b' e' s' v' n' xs') (hg : w.grownBy w' v'.ownBlock) (hne : e ≠ e') : Keeps w w' b e :=
  fun _ _ _ _ h => h.kept hg (own_type_ne h ho hne)
theorem Keeps.trans {w1 w2 w3 : World} {b : Nat} {e : TypeId} (h : Keeps w1 w2 b e) (k : Keeps w2 w3 b e) : Keeps w1 w3 b e := fun _ _ _ _ x => k _ _ _ _ (h _ _ _ _ x)
theorem RowsV.all {w w' : World} {b : Nat} {l : List Sp.Row} {v : Value} (h : RowsV b l w v) (k : ∀ e, e = 117 ∨ e = 92 → Keeps w w' b e) : RowsV b l w' v := by
  obtain ⟨cs, h1, h2⟩ := h
  exact ⟨cs, k _ (.inl rfl) _ _ _ _ h1, h2.keep fun m v hm => k _ (.inr rfl) _ _ _ _ hm⟩
theorem ParV.all {w w' : World} {b : Nat} {l : List (List Int)} {v : Value} (h : ParV b l w v) (k : ∀ e, e = 61 ∨ e = 3 → Keeps w w' b e) : ParV b l w' v := by
  obtain ⟨cs, h1, h2⟩ := h
  exact ⟨cs, k _ (.inl rfl) _ _ _ _ h1, h2.keep fun m v hm => k _ (.inr rfl) _ _ _ _ hm⟩
theorem SrcsV.all {w w' : World} {b : Nat} {l : List Sp.Src} {v : Value} (h : SrcsV b l w v) (k : ∀ e, e = 95 ∨ e = 117 ∨ e = 92 → Keeps w w' b e) : SrcsV b l w' v := by
  obtain ⟨cs, h1, h2⟩ := h
  exact ⟨cs, k _ (.inl rfl) _ _ _ _ h1, h2.keep fun x c ⟨vr, e, hv⟩ => ⟨vr, e, hv.all fun e he => k e (.inr he)⟩⟩
theorem CodesV.all {w w' : World} {b : Nat} {l : List Sp.Code} {v : Value} (h : CodesV b l w v) (k : ∀ e, e = 24 ∨ e = 61 ∨ e = 3 → Keeps w w' b e) : CodesV b l w' v := by
  obtain ⟨cs, h1, h2⟩ := h
  exact ⟨cs, k _ (.inl rfl) _ _ _ _ h1, h2.keep fun x c ⟨vr, e, hv⟩ => ⟨vr, e, hv.all fun e he => k e (.inr he)⟩⟩
theorem info24 : (Tryd.prog.info? 24).map (fun i => (i.zero, i.size, i.bytes)) = some (some (.agg #[.string ⟨#[]⟩, .int .i64 0, .int .i64 0, .slice none 0 0, .int .i64 0]), 5, 64) := by kernel_rfl
theorem par_bad2 {n : Nat} {single : Bool} {ts : List Sp.Tok} {l rest rest' : List Sp.Src} {x : Sp.Src} {acc : List Sp.Code} {names : List (List UInt8)} {p er : Nat} {w w' : World} (hp : Sp.pAll single [] ts = .ok l) (hb : Sp.bAll acc names rest = Sp.bAll [] [] l) (hd : rest = x :: rest')
    (he : Sp.bAll acc names (x :: rest') = .error (p, er)) (h6 : w'.heap[n + 6]? = some z69) (hk : Below (n + 3) w w') : Par1Post (n + 3) (n + 5) (n + 6) (Sp.parseTs single ts) w (Wrong p er) w' := by
  unfold Sp.parseTs
  rw [hp]
  show Par1Post (n + 3) (n + 5) (n + 6) (Sp.bAll [] [] l) w (Wrong p er) w'
  rw [← hb, hd, he]
  exact ⟨rfl, h6, hk⟩
theorem NamesAt.kept {w w' : World} {M m : Nat} {names : List (List UInt8)} {row : Option Nat} (h : NamesAt w M m names) (hg : w.grownBy w' row) (hne : row ≠ some M) : NamesAt w' M m names := World.ownsMap.kept h hg (Ne.symm hne)
theorem NamesAt.below {w w' : World} {M m : Nat} {names : List (List UInt8)} (h : NamesAt w M m names) (k : Below w.heap.size w w') : NamesAt w' M m names :=
  h.kept (row := none) ⟨k.os, k.tape, k.output, k.size, fun i hi _ => k.block i hi⟩ (by simp)
theorem NamesAt.alloc {w : World} {M m : Nat} {names : List (List UInt8)} (h : NamesAt w M m names) (o : Obj) : NamesAt (w.alloc o) M m names := World.ownsMap.alloc h o
theorem grown_setCell (w : World) (p : Addr) (u : Value) : w.grownBy (w.setCell p u) (some p.block) :=
  ⟨rfl, rfl, rfl, by simp [World.setCell], fun k hk hn => Below.heap_setCell _ _ _ _ (fun e => hn (by rw [e]))⟩

theorem srcG_mono {m k k' m' : Nat} {x : Sp.Src} (h : Sp.SrcG m k x) (hm : m ≤ m') (hk : k ≤ k') : Sp.SrcG m' k' x :=
  ⟨h.name.mono hm, h.field.mono hm, h.data.mono hm, Nat.le_trans h.rl hk, fun y hy => ⟨fun t ht => ((h.rows y hy).idx t ht).mono hm, fun t ht => ((h.rows y hy).coef t ht).mono hm, Nat.le_trans (h.rows y hy).il hk, Nat.le_trans (h.rows y hy).cl hk⟩, fun t ht => ⟨(h.dom t ht).1, (h.dom t ht).2.mono hm⟩⟩

set_option maxRecDepth 100000 in
set_option maxHeartbeats 40000000 in
theorem parse1_any (n : Nat) (s : ByteArray) (single : Bool) (ts : List Sp.Tok) (w : World) (hsz : w.heap.size = n + 7) (hat : At w (n + 3) s ts) (hs : s.size ≤ 2000) (he : Env w)
    (h0 : w.heap[n]? = some (.cells #[.string s] 9 (0, 0))) (h1 : w.heap[n + 1]? = some (.cells #[.bool single] 4 (0, 0))) (h4 : w.heap[n + 4]? = some (.cells #[.pointer (some ⟨n + 3, 0, none⟩)] 86 (0, 0)))
    (h5 : w.heap[n + 5]? = some (.cells #[.slice none 0 0] 34 (0, 0))) (h6 : w.heap[n + 6]? = some z69) :
    Calls Tryd.prog 56 #[.pointer (some ⟨n + 4, 0, none⟩), .pointer (some ⟨n, 0, none⟩), .pointer (some ⟨n + 1, 0, none⟩), .pointer (some ⟨n + 5, 0, none⟩)] w
      (Par1Post (n + 3) (n + 5) (n + 6) (Sp.parseTs single ts) w) := by
  have hng := hat.ng
  have HAT := Lib.hid hat; have HE := Lib.hid he; have B0 := Lib.hid h0; have B1 := Lib.hid h1; have B4 := Lib.hid h4; have B5 := Lib.hid h5; have B6 := Lib.hid h6
  have c4 : w.cell? ⟨n + 4, 0, none⟩ = some (.pointer (some ⟨n + 3, 0, none⟩)) := blk_c h4 0
  have HSZ := Lib.hid hsz
  clear hat he h0 h1 h4 h5 h6 hsz
  go_enter Tryd.func56, Tryd.ntmps56
  go_upto_block 0 with (go_at_call 57; refine (skip_at _ s ts _ HAT.out (by omega)).mono ?_; rintro e w1 hh; obtain ⟨rfl, hat1, hk1⟩ := hh; have A1 := Lib.hid hat1; have K1 := Lib.hid hk1; clear hat1 hk1)
  go_cut [4] (fun v wx => ∃ l, Sp.pAll single [] ts = .ok l ∧ SrcsV w.heap.size l wx v ∧ (∀ x ∈ l, Sp.SrcG 2000 2001 x) ∧ l.length ≤ 2001 ∧ Kp (n + 3) w wx)
  case first =>
    go_wp2_with fail
    go_loopg [4] ts.length (fun k v wr => ∃ l ts', k = ts'.length ∧ Sp.pAll single [] ts = Sp.pAll single l ts' ∧ AtP wr (n + 3) s ts' ∧ SrcsV w.heap.size l wr v ∧ (∀ x ∈ l, Sp.SrcG 2000 2001 x) ∧ l.length + ts'.length ≤ 2001 ∧ Kp (n + 3) w wr)
    case atStart =>
      exact ⟨[], ts, rfl, rfl, A1.out, ⟨[], World.ownsRow_nil _ _ _ _, rfl⟩, by simp, by have := (toks_len_pos HAT.out).2; simp; omega, K1.out⟩
    case round =>
      obtain ⟨l, ts', hk, hp, hat, hsv, hg, hlen, hkp⟩ := hrel
      have hlt := hat.at_.lt
      have hkr := hkp.size
      have d1 := hat.rd.c1
      have b4 := hkp.blk B4.out (by omega)
      have b0 := hkp.blk B0.out (by omega)
      have b1 := hkp.blk B1.out (by omega)
      have e4 : wr.cell? ⟨n + 4, 0, none⟩ = some (.pointer (some ⟨n + 3, 0, none⟩)) := blk_c b4 0
      have e0 : wr.cell? ⟨n, 0, none⟩ = some (.string s) := blk_c b0 0
      have e1 : wr.cell? ⟨n + 1, 0, none⟩ = some (.bool single) := blk_c b1 0
      obtain ⟨A, q, rfl⟩ := hsv.shape
      have HKL := Lib.hid hk; have HP := Lib.hid hp; have HA := Lib.hid hat; have HS := Lib.hid hsv; have HG := Lib.hid hg; have HK := Lib.hid hkp
      have HF := hat.four
      have hle := hat.le
      have hrb : n + 3 < w.heap.size := by have := HSZ.out; omega
      have HEV : Hid (Env wr) := Lib.hid (HE.out.kp hng hkp)
      clear hk hp hat hsv hg hkp b4 b0 b1
      by_cases hk4 : (Sp.hd ts').kind = 4
      · have hb := HF.1 hk4
        have hbb : decide (((Sp.hd ts').at_ : Int) < (s.size : Int)) = false := by simp; omega
        have HK4 := Lib.hid hk4
        clear HF hk4
        rcases Bool.eq_false_or_eq_true single with hsg | hsg
        · subst hsg
          by_cases hl0 : l.length = 0
          · have hlb : ((l.length : Int) == 0) = true := by rw [beq_iff_eq]; omega
            have hlg : decide (0 < l.length) = false := by rw [decide_eq_false_iff_not]; omega
            have HC : Hid (Sp.Goes true l ts') := Lib.hid ⟨fun hh => hh.2 ⟨rfl, List.eq_nil_of_length_eq_zero hl0⟩, fun hh => hh.2 (List.eq_nil_of_length_eq_zero hl0)⟩
            clear hl0
            go_wp2_with fail
            go_quiet (fail)
            have e4' : (wr.drewN nq).cell? ⟨n + 4, 0, none⟩ = some (.pointer (some ⟨n + 3, 0, none⟩)) := e4
            have e1' : (wr.drewN nq).cell? ⟨n + 1, 0, none⟩ = some (.bool true) := e1
            have HA2 := Lib.hid (HA.out.at_.drewN nq); have HS2 := Lib.hid (HS.out.drewN nq); have HK2 := Lib.hid (HK.out.drewN nq); have HEV2 := Lib.hid (HEV.out.drewN nq)
            clear e4 e1 HA HS HK HEV e0 d1 hlt
            generalize wr.drewN nq = wd at *
            obtain ⟨i0, hi, hz0, hz1, hz2⟩ := info_parts info95z
            go_wp2_with (first | (go_at_call 59; refine (code_any (n + 3) s ts' wd HA2.out hs HEV2.out).mono ?_; rintro e w6 hh; rcases h1 : Sp.pCode ts' with p | ⟨x, t6⟩; (rw [h1] at hh; obtain ⟨he, hk⟩ := hh; unfold Wrong at he; subst he; exact ⟨rfl, par_bad HSZ.out (HP.out.trans (Sp.pAll_bad HC.out h1)) B6.out (HK2.out.trans hk)⟩); rw [h1] at hh; have E6 := Lib.hid h1; clear h1; obtain ⟨v6, rfl, ⟨vr, rfl, hrv⟩, hat6, hk6⟩ := hh; obtain ⟨csr, hor, hinr⟩ := hrv; obtain ⟨Ar, qr, rfl⟩ := own_slice hor; have HRV := Lib.hid (RowsV.mono ⟨csr, hor, hinr⟩ HK2.out.size); obtain ⟨cs, ho, hch⟩ := HS2.out.kp hk6 hrb; have HO := Lib.hid ho; have HCH := Lib.hid hch; have H6 := Lib.hid hat6; have K6 := Lib.hid (HK2.out.trans hk6); clear hor hinr ho hch hat6 hk6) | (at_builtin; refine wpList_append_own_at (w6.alloc (.cells #[.int .i64 x.name.at_, .int .i64 x.name.n, .string (bs x.name.txt), .int .i64 x.field.at_, .int .i64 x.field.n, .string (bs x.field.txt), .int .i64 x.data.at_, .int .i64 x.data.n, .string (bs x.data.txt), .slice Ar x.rows.length qr, .int .i64 (domV x.dom).at_, .int .i64 (domV x.dom).n, .string (bs (domV x.dom).txt)] 95)) rfl _ _ 90 rfl w.heap.size 95 i0 _ 13 152 Tryd.underlying90 hi hz0 hz1 hz2 rfl (by decide) _ l.length cs rfl (HO.out.alloc _) ⟨w6.heap.size, 0, none⟩ 1 1 (srcCells x (.slice Ar x.rows.length qr)) rfl rfl ?c1 ?c2 ?c3 ?c4 ?c5 ?_))
            case c1 => exact World.news_of_block (cs := (srcCells x (.slice Ar x.rows.length qr)).toArray) (t := 95) (fr := (0, 0)) (heap_alloc_new w6 _)
            case c2 => intro u hu; simp only [srcCells, List.mem_cons, List.not_mem_nil, or_false] at hu; rcases hu with rfl | rfl | rfl | rfl | rfl | rfl | rfl | rfl | rfl | rfl | rfl | rfl | rfl <;> rfl
            case c3 => unfold maxLen; omega
            case c4 => omega
            case c5 => have := K6.out.size; simp only [World.size_alloc]; omega
            intro v' w7 hown hg hnil hgat
            have hoa := HO.out.alloc (.cells #[.int .i64 x.name.at_, .int .i64 x.name.n, .string (bs x.name.txt), .int .i64 x.field.at_, .int .i64 x.field.n, .string (bs x.field.txt), .int .i64 x.data.at_, .int .i64 x.data.n, .string (bs x.data.txt), .slice Ar x.rows.length qr, .int .i64 (domV x.dom).at_, .int .i64 (domV x.dom).n, .string (bs (domV x.dom).txt)] 95)
            have hat7 := (H6.out.alloc (.cells #[.int .i64 x.name.at_, .int .i64 x.name.n, .string (bs x.name.txt), .int .i64 x.field.at_, .int .i64 x.field.n, .string (bs x.field.txt), .int .i64 x.data.at_, .int .i64 x.data.n, .string (bs x.data.txt), .slice Ar x.rows.length qr, .int .i64 (domV x.dom).at_, .int .i64 (domV x.dom).n, .string (bs (domV x.dom).txt)] 95)).grown hg (own_ne HO.out hrb)
            have hkp7 := (K6.out.alloc (.cells #[.int .i64 x.name.at_, .int .i64 x.name.n, .string (bs x.name.txt), .int .i64 x.field.at_, .int .i64 x.field.n, .string (bs x.field.txt), .int .i64 x.data.at_, .int .i64 x.data.n, .string (bs x.data.txt), .slice Ar x.rows.length qr, .int .i64 (domV x.dom).at_, .int .i64 (domV x.dom).n, .string (bs (domV x.dom).txt)] 95)).grown hg (own_ge HO.out (Nat.le_refl _))
            have keepR : ∀ {m : List Sp.Row} {u : Value}, RowsV w.heap.size m w6 u → RowsV w.heap.size m w7 u := fun hm => (hm.alloc _).kept hg hoa (by decide) (by decide)
            have hch7 : Chunks (SrcE w.heap.size w7) (l ++ [x]) (cs ++ srcCells x (.slice Ar x.rows.length qr)) := (HCH.out.keep fun y c ⟨vy, ey, hy⟩ => ⟨vy, ey, keepR hy⟩).snoc ⟨_, rfl, keepR HRV.out⟩
            have hsv7 : SrcsV w.heap.size (l ++ [x]) w7 v' := ⟨_, by rw [List.length_append]; exact hown, hch7⟩
            have e4 : w7.cell? ⟨n + 4, 0, none⟩ = some (.pointer (some ⟨n + 3, 0, none⟩)) := hkp7.cell c4 (by show n + 4 ≠ n + 3; omega)
            have H7 := Lib.hid hat7; have K7 := Lib.hid hkp7; have S7 := Lib.hid hsv7
            clear hown hg hnil hgat hoa hat7 hkp7 keepR hch7 hsv7
            go_wp2_with (go_at_call 57; refine (skip_at _ s t6 _ H7.out (by omega)).mono ?_; rintro e w8 hh; obtain ⟨rfl, hat8, hk8⟩ := hh; have H8 := Lib.hid hat8; have K8 := Lib.hid hk8; clear hat8 hk8)
            go_roundg t6.length
            case measure => rw [HKL.out]; exact Sp.pCode_lt E6.out
            case rel =>
              have hcl := Sp.pCode_lt E6.out
              refine ⟨l ++ [x], t6, rfl, HP.out.trans (Sp.pAll_ok HC.out E6.out), H8.out, S7.out.kp K8.out hrb, ?_, by rw [List.length_append, List.length_singleton]; omega, K7.out.trans K8.out⟩
              intro y hy
              rcases List.mem_append.1 hy with hy | hy
              · exact HG.out y hy
              · rw [List.mem_singleton.1 hy]
                have hl := toks_len_pos HA2.out
                exact srcG_mono (Sp.pCode_g E6.out hl.1).1 hs (by omega)
          · have hlb : ((l.length : Int) == 0) = false := by rw [beq_eq_false_iff_ne]; omega
            go_wp2_with fail
            go_quiet (fail)
            go_wp2_with fail
            go_meet
            case rel => exact ⟨l, HP.out.trans (Sp.pAll_end HK4.out (fun hh => hl0 (by rw [hh.2]; rfl))), HS.out.drewN _, HG.out, by omega, HK.out.drewN _⟩
        · subst hsg
          go_wp2_with fail
          go_quiet (fail)
          go_wp2_with fail
          go_meet
          case rel => exact ⟨l, HP.out.trans (Sp.pAll_end HK4.out (fun hh => by cases hh.1)), HS.out.drewN _, HG.out, by omega, HK.out.drewN _⟩
      · have hb : (Sp.hd ts').at_ < s.size := by
          have := fun e => hk4 (HF.2 e)
          omega
        have hbb : decide (((Sp.hd ts').at_ : Int) < (s.size : Int)) = true := by simp; omega
        have HK4 := Lib.hid hk4
        clear HF hk4
        rcases Bool.eq_false_or_eq_true single with hsg | hsg
        · subst hsg
          by_cases hl0 : l.length = 0
          · have hlb : ((l.length : Int) == 0) = true := by rw [beq_iff_eq]; omega
            have hlg : decide (0 < l.length) = false := by rw [decide_eq_false_iff_not]; omega
            have HC : Hid (Sp.Goes true l ts') := Lib.hid ⟨fun hh => hh.2 ⟨rfl, List.eq_nil_of_length_eq_zero hl0⟩, fun hh => hh.2 (List.eq_nil_of_length_eq_zero hl0)⟩
            clear hl0
            go_wp2_with fail
            go_quiet (fail)
            have e4' : (wr.drewN nq).cell? ⟨n + 4, 0, none⟩ = some (.pointer (some ⟨n + 3, 0, none⟩)) := e4
            have e1' : (wr.drewN nq).cell? ⟨n + 1, 0, none⟩ = some (.bool true) := e1
            have HA2 := Lib.hid (HA.out.at_.drewN nq); have HS2 := Lib.hid (HS.out.drewN nq); have HK2 := Lib.hid (HK.out.drewN nq); have HEV2 := Lib.hid (HEV.out.drewN nq)
            clear e4 e1 HA HS HK HEV e0 d1 hlt
            generalize wr.drewN nq = wd at *
            obtain ⟨i0, hi, hz0, hz1, hz2⟩ := info_parts info95z
            go_wp2_with (first | (go_at_call 59; refine (code_any (n + 3) s ts' wd HA2.out hs HEV2.out).mono ?_; rintro e w6 hh; rcases h1 : Sp.pCode ts' with p | ⟨x, t6⟩; (rw [h1] at hh; obtain ⟨he, hk⟩ := hh; unfold Wrong at he; subst he; exact ⟨rfl, par_bad HSZ.out (HP.out.trans (Sp.pAll_bad HC.out h1)) B6.out (HK2.out.trans hk)⟩); rw [h1] at hh; have E6 := Lib.hid h1; clear h1; obtain ⟨v6, rfl, ⟨vr, rfl, hrv⟩, hat6, hk6⟩ := hh; obtain ⟨csr, hor, hinr⟩ := hrv; obtain ⟨Ar, qr, rfl⟩ := own_slice hor; have HRV := Lib.hid (RowsV.mono ⟨csr, hor, hinr⟩ HK2.out.size); obtain ⟨cs, ho, hch⟩ := HS2.out.kp hk6 hrb; have HO := Lib.hid ho; have HCH := Lib.hid hch; have H6 := Lib.hid hat6; have K6 := Lib.hid (HK2.out.trans hk6); clear hor hinr ho hch hat6 hk6) | (at_builtin; refine wpList_append_own_at (w6.alloc (.cells #[.int .i64 x.name.at_, .int .i64 x.name.n, .string (bs x.name.txt), .int .i64 x.field.at_, .int .i64 x.field.n, .string (bs x.field.txt), .int .i64 x.data.at_, .int .i64 x.data.n, .string (bs x.data.txt), .slice Ar x.rows.length qr, .int .i64 (domV x.dom).at_, .int .i64 (domV x.dom).n, .string (bs (domV x.dom).txt)] 95)) rfl _ _ 90 rfl w.heap.size 95 i0 _ 13 152 Tryd.underlying90 hi hz0 hz1 hz2 rfl (by decide) _ l.length cs rfl (HO.out.alloc _) ⟨w6.heap.size, 0, none⟩ 1 1 (srcCells x (.slice Ar x.rows.length qr)) rfl rfl ?c1 ?c2 ?c3 ?c4 ?c5 ?_))
            case c1 => exact World.news_of_block (cs := (srcCells x (.slice Ar x.rows.length qr)).toArray) (t := 95) (fr := (0, 0)) (heap_alloc_new w6 _)
            case c2 => intro u hu; simp only [srcCells, List.mem_cons, List.not_mem_nil, or_false] at hu; rcases hu with rfl | rfl | rfl | rfl | rfl | rfl | rfl | rfl | rfl | rfl | rfl | rfl | rfl <;> rfl
            case c3 => unfold maxLen; omega
            case c4 => omega
            case c5 => have := K6.out.size; simp only [World.size_alloc]; omega
            intro v' w7 hown hg hnil hgat
            have hoa := HO.out.alloc (.cells #[.int .i64 x.name.at_, .int .i64 x.name.n, .string (bs x.name.txt), .int .i64 x.field.at_, .int .i64 x.field.n, .string (bs x.field.txt), .int .i64 x.data.at_, .int .i64 x.data.n, .string (bs x.data.txt), .slice Ar x.rows.length qr, .int .i64 (domV x.dom).at_, .int .i64 (domV x.dom).n, .string (bs (domV x.dom).txt)] 95)
            have hat7 := (H6.out.alloc (.cells #[.int .i64 x.name.at_, .int .i64 x.name.n, .string (bs x.name.txt), .int .i64 x.field.at_, .int .i64 x.field.n, .string (bs x.field.txt), .int .i64 x.data.at_, .int .i64 x.data.n, .string (bs x.data.txt), .slice Ar x.rows.length qr, .int .i64 (domV x.dom).at_, .int .i64 (domV x.dom).n, .string (bs (domV x.dom).txt)] 95)).grown hg (own_ne HO.out hrb)
            have hkp7 := (K6.out.alloc (.cells #[.int .i64 x.name.at_, .int .i64 x.name.n, .string (bs x.name.txt), .int .i64 x.field.at_, .int .i64 x.field.n, .string (bs x.field.txt), .int .i64 x.data.at_, .int .i64 x.data.n, .string (bs x.data.txt), .slice Ar x.rows.length qr, .int .i64 (domV x.dom).at_, .int .i64 (domV x.dom).n, .string (bs (domV x.dom).txt)] 95)).grown hg (own_ge HO.out (Nat.le_refl _))
            have keepR : ∀ {m : List Sp.Row} {u : Value}, RowsV w.heap.size m w6 u → RowsV w.heap.size m w7 u := fun hm => (hm.alloc _).kept hg hoa (by decide) (by decide)
            have hch7 : Chunks (SrcE w.heap.size w7) (l ++ [x]) (cs ++ srcCells x (.slice Ar x.rows.length qr)) := (HCH.out.keep fun y c ⟨vy, ey, hy⟩ => ⟨vy, ey, keepR hy⟩).snoc ⟨_, rfl, keepR HRV.out⟩
            have hsv7 : SrcsV w.heap.size (l ++ [x]) w7 v' := ⟨_, by rw [List.length_append]; exact hown, hch7⟩
            have e4 : w7.cell? ⟨n + 4, 0, none⟩ = some (.pointer (some ⟨n + 3, 0, none⟩)) := hkp7.cell c4 (by show n + 4 ≠ n + 3; omega)
            have H7 := Lib.hid hat7; have K7 := Lib.hid hkp7; have S7 := Lib.hid hsv7
            clear hown hg hnil hgat hoa hat7 hkp7 keepR hch7 hsv7
            go_wp2_with (go_at_call 57; refine (skip_at _ s t6 _ H7.out (by omega)).mono ?_; rintro e w8 hh; obtain ⟨rfl, hat8, hk8⟩ := hh; have H8 := Lib.hid hat8; have K8 := Lib.hid hk8; clear hat8 hk8)
            go_roundg t6.length
            case measure => rw [HKL.out]; exact Sp.pCode_lt E6.out
            case rel =>
              have hcl := Sp.pCode_lt E6.out
              refine ⟨l ++ [x], t6, rfl, HP.out.trans (Sp.pAll_ok HC.out E6.out), H8.out, S7.out.kp K8.out hrb, ?_, by rw [List.length_append, List.length_singleton]; omega, K7.out.trans K8.out⟩
              intro y hy
              rcases List.mem_append.1 hy with hy | hy
              · exact HG.out y hy
              · rw [List.mem_singleton.1 hy]
                have hl := toks_len_pos HA2.out
                exact srcG_mono (Sp.pCode_g E6.out hl.1).1 hs (by omega)
          · have hlb : ((l.length : Int) == 0) = false := by rw [beq_eq_false_iff_ne]; omega
            have hlg : decide (0 < l.length) = true := by rw [decide_eq_true_iff]; omega
            go_wp2_with fail
            go_quiet (fail)
            go_wp2_with (go_at_call 58; refine (fail_any _ _ _ (show (wr.drewN nq).cell? ⟨n + 3, 1, none⟩ = some (.int .i64 (Sp.hd ts').at_) from d1)).mono ?_; rintro e w' ⟨rfl, rfl⟩)
            exact ⟨rfl, par_bad HSZ.out (HP.out.trans (Sp.pAll_more HK4.out ⟨rfl, fun hh => hl0 (by rw [hh]; rfl)⟩)) B6.out (HK.out.drewN _)⟩
        · subst hsg
          have HC : Hid (Sp.Goes false l ts') := Lib.hid ⟨fun hh => HK4.out hh.1, fun hh => by cases hh.1⟩
          go_wp2_with fail
          go_quiet (fail)
          have e4' : (wr.drewN nq).cell? ⟨n + 4, 0, none⟩ = some (.pointer (some ⟨n + 3, 0, none⟩)) := e4
          have e1' : (wr.drewN nq).cell? ⟨n + 1, 0, none⟩ = some (.bool false) := e1
          have HA2 := Lib.hid (HA.out.at_.drewN nq); have HS2 := Lib.hid (HS.out.drewN nq); have HK2 := Lib.hid (HK.out.drewN nq); have HEV2 := Lib.hid (HEV.out.drewN nq)
          clear e4 e1 HA HS HK HEV e0 d1 hlt
          generalize wr.drewN nq = wd at *
          obtain ⟨i0, hi, hz0, hz1, hz2⟩ := info_parts info95z
          go_wp2_with (first | (go_at_call 59; refine (code_any (n + 3) s ts' wd HA2.out hs HEV2.out).mono ?_; rintro e w6 hh; rcases h1 : Sp.pCode ts' with p | ⟨x, t6⟩; (rw [h1] at hh; obtain ⟨he, hk⟩ := hh; unfold Wrong at he; subst he; exact ⟨rfl, par_bad HSZ.out (HP.out.trans (Sp.pAll_bad HC.out h1)) B6.out (HK2.out.trans hk)⟩); rw [h1] at hh; have E6 := Lib.hid h1; clear h1; obtain ⟨v6, rfl, ⟨vr, rfl, hrv⟩, hat6, hk6⟩ := hh; obtain ⟨csr, hor, hinr⟩ := hrv; obtain ⟨Ar, qr, rfl⟩ := own_slice hor; have HRV := Lib.hid (RowsV.mono ⟨csr, hor, hinr⟩ HK2.out.size); obtain ⟨cs, ho, hch⟩ := HS2.out.kp hk6 hrb; have HO := Lib.hid ho; have HCH := Lib.hid hch; have H6 := Lib.hid hat6; have K6 := Lib.hid (HK2.out.trans hk6); clear hor hinr ho hch hat6 hk6) | (at_builtin; refine wpList_append_own_at (w6.alloc (.cells #[.int .i64 x.name.at_, .int .i64 x.name.n, .string (bs x.name.txt), .int .i64 x.field.at_, .int .i64 x.field.n, .string (bs x.field.txt), .int .i64 x.data.at_, .int .i64 x.data.n, .string (bs x.data.txt), .slice Ar x.rows.length qr, .int .i64 (domV x.dom).at_, .int .i64 (domV x.dom).n, .string (bs (domV x.dom).txt)] 95)) rfl _ _ 90 rfl w.heap.size 95 i0 _ 13 152 Tryd.underlying90 hi hz0 hz1 hz2 rfl (by decide) _ l.length cs rfl (HO.out.alloc _) ⟨w6.heap.size, 0, none⟩ 1 1 (srcCells x (.slice Ar x.rows.length qr)) rfl rfl ?c1 ?c2 ?c3 ?c4 ?c5 ?_))
          case c1 => exact World.news_of_block (cs := (srcCells x (.slice Ar x.rows.length qr)).toArray) (t := 95) (fr := (0, 0)) (heap_alloc_new w6 _)
          case c2 => intro u hu; simp only [srcCells, List.mem_cons, List.not_mem_nil, or_false] at hu; rcases hu with rfl | rfl | rfl | rfl | rfl | rfl | rfl | rfl | rfl | rfl | rfl | rfl | rfl <;> rfl
          case c3 => unfold maxLen; omega
          case c4 => omega
          case c5 => have := K6.out.size; simp only [World.size_alloc]; omega
          intro v' w7 hown hg hnil hgat
          have hoa := HO.out.alloc (.cells #[.int .i64 x.name.at_, .int .i64 x.name.n, .string (bs x.name.txt), .int .i64 x.field.at_, .int .i64 x.field.n, .string (bs x.field.txt), .int .i64 x.data.at_, .int .i64 x.data.n, .string (bs x.data.txt), .slice Ar x.rows.length qr, .int .i64 (domV x.dom).at_, .int .i64 (domV x.dom).n, .string (bs (domV x.dom).txt)] 95)
          have hat7 := (H6.out.alloc (.cells #[.int .i64 x.name.at_, .int .i64 x.name.n, .string (bs x.name.txt), .int .i64 x.field.at_, .int .i64 x.field.n, .string (bs x.field.txt), .int .i64 x.data.at_, .int .i64 x.data.n, .string (bs x.data.txt), .slice Ar x.rows.length qr, .int .i64 (domV x.dom).at_, .int .i64 (domV x.dom).n, .string (bs (domV x.dom).txt)] 95)).grown hg (own_ne HO.out hrb)
          have hkp7 := (K6.out.alloc (.cells #[.int .i64 x.name.at_, .int .i64 x.name.n, .string (bs x.name.txt), .int .i64 x.field.at_, .int .i64 x.field.n, .string (bs x.field.txt), .int .i64 x.data.at_, .int .i64 x.data.n, .string (bs x.data.txt), .slice Ar x.rows.length qr, .int .i64 (domV x.dom).at_, .int .i64 (domV x.dom).n, .string (bs (domV x.dom).txt)] 95)).grown hg (own_ge HO.out (Nat.le_refl _))
          have keepR : ∀ {m : List Sp.Row} {u : Value}, RowsV w.heap.size m w6 u → RowsV w.heap.size m w7 u := fun hm => (hm.alloc _).kept hg hoa (by decide) (by decide)
          have hch7 : Chunks (SrcE w.heap.size w7) (l ++ [x]) (cs ++ srcCells x (.slice Ar x.rows.length qr)) := (HCH.out.keep fun y c ⟨vy, ey, hy⟩ => ⟨vy, ey, keepR hy⟩).snoc ⟨_, rfl, keepR HRV.out⟩
          have hsv7 : SrcsV w.heap.size (l ++ [x]) w7 v' := ⟨_, by rw [List.length_append]; exact hown, hch7⟩
          have e4 : w7.cell? ⟨n + 4, 0, none⟩ = some (.pointer (some ⟨n + 3, 0, none⟩)) := hkp7.cell c4 (by show n + 4 ≠ n + 3; omega)
          have H7 := Lib.hid hat7; have K7 := Lib.hid hkp7; have S7 := Lib.hid hsv7
          clear hown hg hnil hgat hoa hat7 hkp7 keepR hch7 hsv7
          go_wp2_with (go_at_call 57; refine (skip_at _ s t6 _ H7.out (by omega)).mono ?_; rintro e w8 hh; obtain ⟨rfl, hat8, hk8⟩ := hh; have H8 := Lib.hid hat8; have K8 := Lib.hid hk8; clear hat8 hk8)
          go_roundg t6.length
          case measure => rw [HKL.out]; exact Sp.pCode_lt E6.out
          case rel =>
            have hcl := Sp.pCode_lt E6.out
            refine ⟨l ++ [x], t6, rfl, HP.out.trans (Sp.pAll_ok HC.out E6.out), H8.out, S7.out.kp K8.out hrb, ?_, by rw [List.length_append, List.length_singleton]; omega, K7.out.trans K8.out⟩
            intro y hy
            rcases List.mem_append.1 hy with hy | hy
            · exact HG.out y hy
            · rw [List.mem_singleton.1 hy]
              have hl := toks_len_pos HA2.out
              exact srcG_mono (Sp.pCode_g E6.out hl.1).1 hs (by omega)
  case rest =>
    obtain ⟨l, hp, hsv, hg, hlen, hkp⟩ := hcut
    obtain ⟨A, q, rfl⟩ := hsv.shape
    have hmm := @run_makeMap Tryd.prog
    have HP := Lib.hid hp; have HS := Lib.hid hsv; have HG := Lib.hid hg; have HK := Lib.hid hkp
    have hws := hkp.size
    clear hp hsv hg hkp
    obtain ⟨N7, hN7⟩ : ∃ N7, N7 = w.heap.size := ⟨_, rfl⟩
    go_wp2_with fail
    go_loopg [6, 7, 43] l.length (fun k v6 v7 v wr => ∃ j acc names vo, k = l.length - j ∧ j ≤ l.length ∧ v = .int .i64 (j : Nat) ∧ acc.length = j ∧ Sp.bAll acc names (l.drop j) = Sp.bAll [] [] l ∧ NamesAt wr wc.heap.size j names ∧ wr.heap[n + 5]? = some (.cells #[vo] 34 (0, 0)) ∧ CodesV w.heap.size acc wr vo ∧
      SrcsV w.heap.size l wr (.slice A l.length q) ∧ wr.heap[n + 6]? = some z69 ∧ Below (n + 3) w wr)
    case atStart =>
      have hk5 := HK.out.blk B5.out (by omega)
      have hk6 := HK.out.blk B6.out (by omega)
      refine ⟨0, [], [], .slice none 0 0, by omega, by omega, by rfl, rfl, by rfl, World.ownsMap_made _ _ _ _, blk_old hk5 _, ⟨[], World.ownsRow_nil _ _ _ _, rfl⟩, HS.out.map (fun cs ho => ho.alloc _) (fun m u hm => hm.alloc _), blk_old hk6 _, ?_⟩
      exact (HK.out.toBelow (by have := HSZ.out; omega)).alloc (by have := HSZ.out; omega) _
    case round =>
      obtain ⟨j, acc, names, vo, hk, hj, rfl, hal, hb, hnm, h5, hcv, hsv, h6, hbel⟩ := hrel
      have hwr := hbel.size
      have HKL := Lib.hid hk; have HB := Lib.hid hb; have HN := Lib.hid hnm; have H5 := Lib.hid h5; have HC := Lib.hid hcv; have HS2 := Lib.hid hsv; have H6 := Lib.hid h6; have HBL := Lib.hid hbel; have HAL := Lib.hid hal
      have c5 := blk_c h5 0; have f5 := blk_f h5 0
      clear hk hb hnm h5 hcv hsv h6 hbel hal
      by_cases hlt : j < l.length
      · have hltb : decide ((j : Int) < (l.length : Int)) = true := by rw [decide_eq_true_iff]; omega
        obtain ⟨g, vr, hA, hrv, hc⟩ := HS2.out.at_ j hlt
        subst hA
        obtain ⟨x, hx⟩ : ∃ x, x = l[j] := ⟨_, rfl⟩
        rw [← hx] at hrv hc
        obtain ⟨csr, hor, hinr⟩ := hrv
        obtain ⟨Ar, qr, rfl⟩ := own_slice hor
        have HRV := Lib.hid (show RowsV w.heap.size x.rows wr (.slice Ar x.rows.length qr) from ⟨csr, hor, hinr⟩)
        have HX := Lib.hid hx
        have s0 : wr.cell? ⟨g, j * 13, none⟩ = _ := hc 0 _ rfl
        have s1 := hc 1 _ rfl; have s2 := hc 2 _ rfl; have s3 := hc 3 _ rfl; have s4 := hc 4 _ rfl; have s5 := hc 5 _ rfl; have s6 := hc 6 _ rfl
        have s7 := hc 7 _ rfl; have s8 := hc 8 _ rfl; have s9 := hc 9 _ rfl; have s10 := hc 10 _ rfl; have s11 := hc 11 _ rfl; have s12 := hc 12 _ rfl
        obtain ⟨qn, hqn⟩ : ∃ qn, qn = bs x.name.txt := ⟨_, rfl⟩
        clear hor hinr hc hx hN7
        go_upto_region 11 with fail
        have hMS : wc.heap.size < wr.heap.size := World.ownsMap.lt HN.out
        have HD : Hid (l.drop j = x :: l.drop (j + 1)) := Lib.hid (by rw [HX.out]; exact List.drop_eq_getElem_cons hlt)
        have HGX : Hid (Sp.SrcG 2000 2001 x) := Lib.hid (HG.out x (by rw [HX.out]; exact List.getElem_mem hlt))
        have t1 := heap_alloc_new wr (.cells #[.int .i64 x.name.at_, .int .i64 x.name.n, .string (bs x.name.txt), .int .i64 x.field.at_, .int .i64 x.field.n, .string (bs x.field.txt), .int .i64 x.data.at_, .int .i64 x.data.n, .string (bs x.data.txt), .slice Ar x.rows.length qr, .int .i64 (domV x.dom).at_, .int .i64 (domV x.dom).n, .string (bs (domV x.dom).txt)] 95)
        have t2 := blk_old H5.out (.cells #[.int .i64 x.name.at_, .int .i64 x.name.n, .string (bs x.name.txt), .int .i64 x.field.at_, .int .i64 x.field.n, .string (bs x.field.txt), .int .i64 x.data.at_, .int .i64 x.data.n, .string (bs x.data.txt), .slice Ar x.rows.length qr, .int .i64 (domV x.dom).at_, .int .i64 (domV x.dom).n, .string (bs (domV x.dom).txt)] 95); have t3 := blk_old H6.out (.cells #[.int .i64 x.name.at_, .int .i64 x.name.n, .string (bs x.name.txt), .int .i64 x.field.at_, .int .i64 x.field.n, .string (bs x.field.txt), .int .i64 x.data.at_, .int .i64 x.data.n, .string (bs x.data.txt), .slice Ar x.rows.length qr, .int .i64 (domV x.dom).at_, .int .i64 (domV x.dom).n, .string (bs (domV x.dom).txt)] 95)
        have T1 := Lib.hid t1; have T2 := Lib.hid t2; have T3 := Lib.hid t3
        have TN := Lib.hid (World.ownsMap.alloc HN.out (.cells #[.int .i64 x.name.at_, .int .i64 x.name.n, .string (bs x.name.txt), .int .i64 x.field.at_, .int .i64 x.field.n, .string (bs x.field.txt), .int .i64 x.data.at_, .int .i64 x.data.n, .string (bs x.data.txt), .slice Ar x.rows.length qr, .int .i64 (domV x.dom).at_, .int .i64 (domV x.dom).n, .string (bs (domV x.dom).txt)] 95)); have TC := Lib.hid (HC.out.all fun e _ => Keeps.alloc wr _ e (.cells #[.int .i64 x.name.at_, .int .i64 x.name.n, .string (bs x.name.txt), .int .i64 x.field.at_, .int .i64 x.field.n, .string (bs x.field.txt), .int .i64 x.data.at_, .int .i64 x.data.n, .string (bs x.data.txt), .slice Ar x.rows.length qr, .int .i64 (domV x.dom).at_, .int .i64 (domV x.dom).n, .string (bs (domV x.dom).txt)] 95)); have TS := Lib.hid (HS2.out.all fun e _ => Keeps.alloc wr _ e (.cells #[.int .i64 x.name.at_, .int .i64 x.name.n, .string (bs x.name.txt), .int .i64 x.field.at_, .int .i64 x.field.n, .string (bs x.field.txt), .int .i64 x.data.at_, .int .i64 x.data.n, .string (bs x.data.txt), .slice Ar x.rows.length qr, .int .i64 (domV x.dom).at_, .int .i64 (domV x.dom).n, .string (bs (domV x.dom).txt)] 95)); have TR := Lib.hid (HRV.out.all fun e _ => Keeps.alloc wr _ e (.cells #[.int .i64 x.name.at_, .int .i64 x.name.n, .string (bs x.name.txt), .int .i64 x.field.at_, .int .i64 x.field.n, .string (bs x.field.txt), .int .i64 x.data.at_, .int .i64 x.data.n, .string (bs x.data.txt), .slice Ar x.rows.length qr, .int .i64 (domV x.dom).at_, .int .i64 (domV x.dom).n, .string (bs (domV x.dom).txt)] 95))
        have TB : Hid (Below (n + 3) w (wr.alloc (.cells #[.int .i64 x.name.at_, .int .i64 x.name.n, .string (bs x.name.txt), .int .i64 x.field.at_, .int .i64 x.field.n, .string (bs x.field.txt), .int .i64 x.data.at_, .int .i64 x.data.n, .string (bs x.data.txt), .slice Ar x.rows.length qr, .int .i64 (domV x.dom).at_, .int .i64 (domV x.dom).n, .string (bs (domV x.dom).txt)] 95))) := Lib.hid (HBL.out.alloc (by have := HSZ.out; omega) _)
        have hsl : wr.heap.size < (wr.alloc (.cells #[.int .i64 x.name.at_, .int .i64 x.name.n, .string (bs x.name.txt), .int .i64 x.field.at_, .int .i64 x.field.n, .string (bs x.field.txt), .int .i64 x.data.at_, .int .i64 x.data.n, .string (bs x.data.txt), .slice Ar x.rows.length qr, .int .i64 (domV x.dom).at_, .int .i64 (domV x.dom).n, .string (bs (domV x.dom).txt)] 95)).heap.size := by rw [World.size_alloc]; exact Nat.lt_succ_self _
        clear s0 s1 s2 s3 s4 s5 s6 s7 s8 s9 s10 s11 s12 HN H5 H6 HC HS2 HRV HBL c5 f5 t1 t2 t3
        generalize wr.alloc (.cells #[.int .i64 x.name.at_, .int .i64 x.name.n, .string (bs x.name.txt), .int .i64 x.field.at_, .int .i64 x.field.n, .string (bs x.field.txt), .int .i64 x.data.at_, .int .i64 x.data.n, .string (bs x.data.txt), .slice Ar x.rows.length qr, .int .i64 (domV x.dom).at_, .int .i64 (domV x.dom).n, .string (bs (domV x.dom).txt)] 95) = W at *
        generalize wr.heap.size = S at *
        have t0 : W.cell? ⟨S, 0, none⟩ = some (.int .i64 x.name.at_) := blk_c T1.out 0
        have t2 : W.cell? ⟨S, 2, none⟩ = some (.string (bs x.name.txt)) := blk_c T1.out 2
        have HBS : Hid ((bs x.name.txt).data.toList = x.name.txt) := Lib.hid rfl
        have hbs : (bs x.name.txt).size ≤ maxLen := by rw [bs_size]; have := HGX.out.name.len; unfold maxLen; omega
        by_cases hj8 : j < 8
        · have hj8b : decide ((j : Int) < 8) = true := by rw [decide_eq_true_iff]; omega
          by_cases hin : x.name.txt ∈ names
          · have hlk : (Instr.lookup 57 (.map (some wc.heap.size)) (.string (bs x.name.txt)) false).run Tryd.prog W = .ok (.bool true) W := by
              rw [NamesAt.look TN.out _ hbs, HBS.out, decide_eq_true hin]
            have HIN := Lib.hid hin
            clear hin
            go_upto_region 12 with (go_at_call 60; refine (demand_yes _ _ _).mono ?_; rintro e w' ⟨rfl, rfl⟩)
            go_wp2_with (go_at_call 60; refine (demand_no _ _ _).mono ?_; rintro e w' ⟨rfl, rfl⟩)
            exact ⟨rfl, par_bad2 (er := 4) (p := x.name.at_) HP.out HB.out HD.out (by simp only [Sp.bAll]; rw [if_neg (by rw [HAL.out]; omega), if_pos HIN.out]) T3.out TB.out⟩
          · have hlk : (Instr.lookup 57 (.map (some wc.heap.size)) (.string (bs x.name.txt)) false).run Tryd.prog W = .ok (.bool false) W := by
              rw [NamesAt.look TN.out _ hbs, HBS.out, decide_eq_false hin]
            have HIN := Lib.hid hin
            clear hin
            go_upto_region 14 with (first | (go_at_call 60; refine (demand_yes _ _ _).mono ?_; rintro e w' ⟨rfl, rfl⟩) | (at_mapUpdate; refine wpList_mapUpdate_own _ rfl _ _ _ 57 rfl 9 4 law9 Tryd.underlying57 (plainElem Tryd.prog 4) wc.heap.size j _ rfl TN.out (by unfold maxLen; omega) _ _ _ rfl rfl (key9 _ hbs) _ [] (plainElem_bool Tryd.underlying4 true) ?_; intro w5 hown5 hgrow5))
            have hSM : S ≠ wc.heap.size := Nat.ne_of_gt hMS
            have hx5 : n + 5 < wc.heap.size := by have := HSZ.out; omega
            have q1 := (hgrow5.block S hsl (by simpa using hSM)).trans T1.out
            have q2 := (hgrow5.block (n + 5) (Nat.lt_trans (Nat.lt_trans hx5 hMS) hsl) (by simp; omega)).trans T2.out
            have q3 := (hgrow5.block (n + 6) (Nat.lt_trans (by have := HSZ.out; omega : n + 6 < S) hsl) (by simp; have := HSZ.out; omega)).trans T3.out
            have UC := Lib.hid (TC.out.all fun e _ => Keeps.map _ e TN.out hgrow5)
            have US := Lib.hid (TS.out.all fun e _ => Keeps.map _ e TN.out hgrow5)
            have UR := Lib.hid (TR.out.all fun e _ => Keeps.map _ e TN.out hgrow5)
            have UN : Hid (NamesAt w5 wc.heap.size (j + 1) (names ++ [x.name.txt])) := Lib.hid (by have h := hown5; rw [HBS.out, ← setOf_snoc] at h; unfold NamesAt; rw [List.map_append, List.map_singleton]; exact h)
            have UB : Hid (Below (n + 3) w w5) := Lib.hid (TB.out.grown hgrow5 (by have := TB.out.size; have := HSZ.out; omega) (fun k ek => by cases ek; omega))
            have U1 := Lib.hid q1; have U2 := Lib.hid q2; have U3 := Lib.hid q3
            clear hown5 hgrow5 TN TC TS TR TB T1 T2 T3 t0 t2 hlk hsl q1 q3
            have p0 : w5.cell? ⟨S, 0, none⟩ = some (.int .i64 x.name.at_) := blk_c U1.out 0
            have p1 : w5.cell? ⟨S, 1, none⟩ = some (.int .i64 x.name.n) := blk_c U1.out 1
            have p2 : w5.cell? ⟨S, 2, none⟩ = some (.string (bs x.name.txt)) := blk_c U1.out 2
            have p3 : w5.cell? ⟨S, 3, none⟩ = some (.int .i64 x.field.at_) := blk_c U1.out 3
            have p4 : w5.cell? ⟨S, 4, none⟩ = some (.int .i64 x.field.n) := blk_c U1.out 4
            have p5 : w5.cell? ⟨S, 5, none⟩ = some (.string (bs x.field.txt)) := blk_c U1.out 5
            have p6 : w5.cell? ⟨S, 6, none⟩ = some (.int .i64 x.data.at_) := blk_c U1.out 6
            have p7 : w5.cell? ⟨S, 7, none⟩ = some (.int .i64 x.data.n) := blk_c U1.out 7
            have p8 : w5.cell? ⟨S, 8, none⟩ = some (.string (bs x.data.txt)) := blk_c U1.out 8
            have p9 : w5.cell? ⟨S, 9, none⟩ = some (.slice Ar x.rows.length qr) := blk_c U1.out 9
            have p10 : w5.cell? ⟨S, 10, none⟩ = some (.int .i64 (domV x.dom).at_) := blk_c U1.out 10
            have p11 : w5.cell? ⟨S, 11, none⟩ = some (.int .i64 (domV x.dom).n) := blk_c U1.out 11
            have p12 : w5.cell? ⟨S, 12, none⟩ = some (.string (bs (domV x.dom).txt)) := blk_c U1.out 12
            have o5 : w5.cell? ⟨n + 5, 0, none⟩ = some vo := blk_c q2 0
            have of5 := blk_f q2 0
            have hl5 : n + 5 < w5.heap.size := lt_of_block q2
            clear q2
            have hnl := HGX.out.name.len; have hfn := HGX.out.field.n; have hdn := HGX.out.data.n; have hrl := HGX.out.rl
            have CB : Hid (Calls Tryd.prog 61 #[.agg #[.int .i64 x.name.at_, .int .i64 x.name.n, .string (bs x.name.txt), .int .i64 x.field.at_, .int .i64 x.field.n, .string (bs x.field.txt), .int .i64 x.data.at_, .int .i64 x.data.n, .string (bs x.data.txt), .slice Ar x.rows.length qr, .int .i64 (domV x.dom).at_, .int .i64 (domV x.dom).n, .string (bs (domV x.dom).txt)]] w5.drew (BldPost (CodeV w5.drew.heap.size) (Sp.bld x) w5.drew)) :=
              Lib.hid (bldSrc_any x _ w.heap.size w5.drew ⟨_, rfl, UR.out.all fun e _ => Keeps.drew w5 _ e⟩ (by omega) hfn hdn (by omega) (fun y hy => ⟨Nat.le_trans (HGX.out.rows y hy).il (by omega), Nat.le_trans (HGX.out.rows y hy).cl (by omega)⟩) (fun t ht => ⟨(HGX.out.dom t ht).1, (HGX.out.dom t ht).2.n⟩))
            obtain ⟨cso, ho, hch⟩ := UC.out
            obtain ⟨Ao, qo, rfl⟩ := own_slice ho
            have HOO := Lib.hid ho; have HCH := Lib.hid hch
            have hal9 : acc.length ≤ 7 := by have := HAL.out; omega
            have hw5 : w.heap.size ≤ w5.heap.size := UB.out.size
            clear ho hch hnl hfn hdn hrl
            obtain ⟨i0, hi, hz0, hz1, hz2⟩ := info_parts info24
            go_region_law (first | (go_simp; go_at_call 61; refine CB.out.mono ?_; rintro e w6 hh; rcases h1 : Sp.bld x with ⟨p, er⟩ | c; (rw [h1] at hh; obtain ⟨he, hk⟩ := hh; unfold Wrong at he; subst he; exact ⟨rfl, par_bad2 (er := er) (p := p) HP.out HB.out HD.out (Sp.bAll_err (by rw [HAL.out]; omega) HIN.out h1) ((hk.block _ (lt_of_block U3.out)).trans U3.out) (UB.out.drew.trans (hk.mono (Nat.le_trans (by omega : n + 3 ≤ n + 5) (Nat.le_of_lt (show n + 5 < w5.drew.heap.size from hl5)))))⟩); rw [h1] at hh; have E6 := Lib.hid h1; clear h1; obtain ⟨v6, rfl, ⟨vp, rfl, hpv⟩, hk⟩ := hh; obtain ⟨cp, hop, hip⟩ := hpv; obtain ⟨Ap, qp, rfl⟩ := own_slice hop; unfold codeV; have HPV := Lib.hid (ParV.mono ⟨cp, hop, hip⟩ hw5); have HK6 := Lib.hid hk; have HO := Lib.hid (own_below (show w5.drew.ownsRow _ _ _ _ _ _ from HOO.out) hk); have b5 := (hk.block (n + 5) hl5).trans U2.out; have B5' := Lib.hid b5; have k5 := blk_c b5 0; have kf5 := blk_f b5 0; have k5a := blk_c (blk_old b5 (.cells #[.string (bs c.name), .int .i64 c.field, .int .i64 c.data, .slice Ap c.parity.length qp, .int .i64 c.domain] 24)) 0; have HN6 := Lib.hid (World.news_of_block (heap_alloc_new w6 (.cells #[.string (bs c.name), .int .i64 c.field, .int .i64 c.data, .slice Ap c.parity.length qp, .int .i64 c.domain] 24))); have HW6 : Hid (w.heap.size ≤ (w6.alloc (.cells #[.string (bs c.name), .int .i64 c.field, .int .i64 c.data, .slice Ap c.parity.length qp, .int .i64 c.domain] 24)).heap.size) := Lib.hid (Nat.le_trans (Nat.le_trans hw5 hk.size) (by rw [World.size_alloc]; exact Nat.le_succ _)); have HL6 : Hid (n + 5 < (w6.alloc (.cells #[.string (bs c.name), .int .i64 c.field, .int .i64 c.data, .slice Ap c.parity.length qp, .int .i64 c.domain] 24)).heap.size) := Lib.hid (Nat.lt_trans (lt_of_block b5) (by rw [World.size_alloc]; exact Nat.lt_succ_self _)); clear hop hip hk b5) | (refine step_append_lies (w6.alloc (.cells #[.string (bs c.name), .int .i64 c.field, .int .i64 c.data, .slice Ap c.parity.length qp, .int .i64 c.domain] 24)) rfl (.tmp 68) (.tmp 71) 34 rfl w.heap.size 24 i0 _ 5 64 Tryd.underlying34 hi hz0 hz1 hz2 rfl (by decide) (.slice Ao acc.length qo) acc.length cso rfl (HO.out.alloc _) ⟨w6.heap.size, 0, none⟩ 1 1 [.string (bs c.name), .int .i64 c.field, .int .i64 c.data, .slice Ap c.parity.length qp, .int .i64 c.domain] rfl rfl HN6.out (by intro u hu; simp only [List.mem_cons, List.not_mem_nil, or_false] at hu; rcases hu with rfl | rfl | rfl | rfl | rfl <;> rfl) (by decide) (by unfold maxLen; omega) (by omega) HW6.out _ rfl ?_; intro g2 cap w7 hown hgrow hgat hglt; have b5 := (hgrow.block (n + 5) HL6.out (own_ne HO.out (b := n + 5) (by have := HSZ.out; omega)).symm).trans (blk_old B5'.out _); have B7 := Lib.hid b5; have k5' := blk_c b5 0; have kf5' := blk_f b5 0; have OW := Lib.hid hown; have GR := Lib.hid hgrow; clear b5 hown hgrow hgat hglt))
            all_goals
              go_wp2_with fail
              have hn5 : n + 5 < w.heap.size := by have := HSZ.out; omega
              have hn6 : n + 6 < w5.heap.size := lt_of_block U3.out
              have KC : ∀ e, e ≠ 24 → Keeps w5 (w7.setCell ⟨n + 5, 0, none⟩ (.slice (some ⟨g2, 0, none⟩) (acc.length + 1) cap)) w.heap.size e := fun e he =>
                ((((Keeps.drew w5 _ e).trans (Keeps.below _ e HK6.out)).trans (Keeps.alloc w6 _ e (.cells #[.string (bs c.name), .int .i64 c.field, .int .i64 c.data, .slice Ap c.parity.length qp, .int .i64 c.domain] 24))).trans (Keeps.grow (HO.out.alloc _) GR.out he)).trans (Keeps.far w7 e (p := ⟨n + 5, 0, none⟩) hn5 _)
              have KP : ∀ e, e ≠ 24 → Keeps w6 (w7.setCell ⟨n + 5, 0, none⟩ (.slice (some ⟨g2, 0, none⟩) (acc.length + 1) cap)) w.heap.size e := fun e he =>
                ((Keeps.alloc w6 _ e (.cells #[.string (bs c.name), .int .i64 c.field, .int .i64 c.data, .slice Ap c.parity.length qp, .int .i64 c.domain] 24)).trans (Keeps.grow (HO.out.alloc _) GR.out he)).trans (Keeps.far w7 e (p := ⟨n + 5, 0, none⟩) hn5 _)
              have z1 := NamesAt.alloc (NamesAt.below (show NamesAt w5.drew _ _ _ from UN.out) HK6.out) (.cells #[.string (bs c.name), .int .i64 c.field, .int .i64 c.data, .slice Ap c.parity.length qp, .int .i64 c.domain] 24)
              have z2 := (z1.kept GR.out (own_ne_map (HO.out.alloc _) z1)).kept (grown_setCell w7 ⟨n + 5, 0, none⟩ (.slice (some ⟨g2, 0, none⟩) (acc.length + 1) cap)) (by intro ee; injection ee with ee; have ee : n + 5 = _ := ee; omega)
              have z3 := blk_far ((GR.out.block (n + 6) (Nat.lt_trans (lt_of_block ((HK6.out.block (n + 6) hn6).trans U3.out)) (by rw [World.size_alloc]; exact Nat.lt_succ_self _)) (own_ne HO.out (b := n + 6) (by have := HSZ.out; omega)).symm).trans (blk_old ((HK6.out.block (n + 6) hn6).trans U3.out) _)) (p := ⟨n + 5, 0, none⟩) (by show n + 6 ≠ n + 5; omega) (.slice (some ⟨g2, 0, none⟩) (acc.length + 1) cap)
              have z4 := (((UB.out.drew.trans (HK6.out.mono (Nat.le_trans (by omega : n + 3 ≤ n + 5) (Nat.le_of_lt (show n + 5 < w5.drew.heap.size from hl5))))).alloc (by have := HK6.out.size; have h5 : w5.drew.heap.size = w5.heap.size := rfl; omega) (.cells #[.string (bs c.name), .int .i64 c.field, .int .i64 c.data, .slice Ap c.parity.length qp, .int .i64 c.domain] 24)).grown GR.out (by have := HL6.out; omega) (own_ge HO.out (b := n + 3) (by omega))).setCell (p := ⟨n + 5, 0, none⟩) (by show n + 3 ≤ n + 5; omega) (.slice (some ⟨g2, 0, none⟩) (acc.length + 1) cap)
              have Z2 := Lib.hid z2; have Z3 := Lib.hid z3; have Z4 := Lib.hid z4; have KC' := Lib.hid KC; have KP' := Lib.hid KP
              clear z1 z2 z3 z4 KC KP
              go_roundg (l.length - (j + 1))
              case measure => rw [HKL.out]; omega
              case rel =>
                refine ⟨j + 1, acc ++ [c], names ++ [x.name.txt], .slice (some ⟨g2, 0, none⟩) (acc.length + 1) cap, rfl, by omega, by go_num, by rw [List.length_append, HAL.out]; rfl, ?_, Z2.out, blk_set B7.out 0 _, ⟨cso ++ codeCells c (.slice Ap c.parity.length qp), ?_, ?_⟩, US.out.all fun e he => KC'.out e (by rcases he with rfl | rfl | rfl <;> decide), Z3.out, Z4.out⟩
                · rw [← Sp.bAll_ok (by rw [HAL.out]; omega) HIN.out E6.out, ← HD.out]; exact HB.out
                · rw [List.length_append]; exact own_far OW.out (p := ⟨n + 5, 0, none⟩) hn5 _
                · exact (HCH.out.keep fun y cy ⟨vy, ey, hy⟩ => ⟨vy, ey, hy.all fun e he => KC'.out e (by rcases he with rfl | rfl <;> decide)⟩).snoc ⟨_, rfl, HPV.out.all fun e he => KP'.out e (by rcases he with rfl | rfl <;> decide)⟩
        · have hj8b : decide ((j : Int) < 8) = false := by rw [decide_eq_false_iff_not]; omega
          go_wp2_with (go_at_call 60; refine (demand_no _ _ _).mono ?_; rintro e w' ⟨rfl, rfl⟩)
          exact ⟨rfl, par_bad2 (er := 2) (p := x.name.at_) HP.out HB.out HD.out (by simp only [Sp.bAll]; rw [if_pos (by rw [HAL.out]; omega)]) T3.out TB.out⟩
      · have hltb : decide ((j : Int) < (l.length : Int)) = false := by rw [decide_eq_false_iff_not]; omega
        go_wp2_with fail
        go_end0
        have hbe : Sp.bAll [] [] l = .ok acc := by rw [← HB.out, List.drop_eq_nil_of_le (by omega)]; rfl
        have hres : Sp.parseTs single ts = .ok acc := by unfold Sp.parseTs; rw [HP.out]; exact hbe
        unfold Par1Post
        rw [hres]
        exact ⟨⟨rfl, vo, H5.out, HC.out⟩, H6.out, HBL.out⟩
end Go.Proofs.YtppeplonnippcaaDoor
