/-
Layer 7: what the reference's Print computes, in plain words.
-/
import Derived.Test.YtppeplonnippcaaDoorR3
import Derived.Test.YtppeplonnippcaaDoorP2
set_option linter.unusedVariables false
set_option linter.unusedSimpArgs false
namespace Go.Proofs.YtppeplonnippcaaDoor.Rf
open Go.RowKit Go.Proofs.YtppeplonnippcaaDoorW.PrintWords Go.Proofs.YtppeplonnippcaaDoorW.PrintLast

theorem EvR.get {α : Type} {F : Nat → Option α} {r : α} (h : EvR F r) : ∃ K, ∀ k, K ≤ k → F k = some r := h
theorem EvR.mk' {α : Type} {F : Nat → Option α} {r : α} (K : Nat) (h : ∀ k, K ≤ k → F k = some r) : EvR F r := ⟨K, h⟩
theorem bs_add (l m : List UInt8) : bs l ++ bs m = bs (l ++ m) := by
  apply ByteArray.ext
  simp [bs, ByteArray.data_append]
theorem dec_nat (n : Nat) : Sp.dec (n : Int) = Lib.decDigits n := by
  unfold Sp.dec Lib.itoa
  rw [if_neg (by omega)]; rfl
theorem digit_str (n : Nat) : strOfNums [(wrap64 (48 + (Int.tmod (n : Int) 10))) % 256] = bs [UInt8.ofNat (48 + n % 10)] := by
  have e : (wrap64 (48 + (Int.tmod (n : Int) 10))) % 256 = ((48 + n % 10 : Nat) : Int) := by
    rw [Int.tmod_eq_emod_of_nonneg (by omega)]
    unfold wrap64; omega
  rw [e]
  unfold strOfNums bs
  simp only [List.map_cons, List.map_nil, Int.toNat_natCast]
theorem number_ev (n : Nat) (h : n ≤ 99999) : EvR (fun k => solventref07_Number.f k (n : Int)) (bs (Sp.dec n)) := by
  induction n using Nat.strongRecOn with
  | _ n ih =>
    rw [dec_nat, Lib.decDigits]
    by_cases h10 : n < 10
    · rw [dif_pos h10]
      refine EvR.one fun k => ?_
      simp only [solventref07_Number.f, Option.bind_some]
      rw [if_pos (by omega), digit_str, Nat.mod_eq_of_lt h10]
    · rw [dif_neg h10]
      have h1 := ih (n / 10) (by omega) (by omega)
      rw [dec_nat] at h1
      have hl := Sp.decD_len 4 (n / 10) (by omega)
      have hd : wrap64 (Int.tdiv (n : Int) 10) = ((n / 10 : Nat) : Int) := by
        rw [Int.tdiv_eq_ediv_of_nonneg (by omega)]
        unfold wrap64; omega
      refine EvR.step (G := fun k => (solventref07_Number.f k ((n / 10 : Nat) : Int)).bind fun t => if t.size + (bs [UInt8.ofNat (48 + n % 10)]).size ≤ 9223372036854775807 then some (t ++ bs [UInt8.ofNat (48 + n % 10)]) else none) (EvR.bind h1 ?_) fun k => ?_
      · refine EvR.same (EvR.pure _) fun k => ?_
        rw [if_pos (by rw [bs_size, bs_size]; simp; omega), bs_add]
      · simp only [solventref07_Number.f, Option.bind_some]
        rw [if_neg (by omega), digit_str, hd]
theorem number_int (n : Int) (h0 : 0 ≤ n) (h : n ≤ 99999) : EvR (fun k => solventref07_Number.f k n) (bs (Sp.dec n)) := by
  obtain ⟨m, rfl⟩ := Int.eq_ofNat_of_zero_le h0
  exact number_ev m (by omega)

def allN : List Int → List UInt8
  | [] => []
  | x :: r => (32 :: Sp.dec x) ++ allN r
theorem allN_snoc (l : List Int) (x : Int) : allN (l ++ [x]) = allN l ++ (32 :: Sp.dec x) := by
  induction l with
  | nil => simp [allN]
  | cons a l ih => simp only [List.cons_append, allN]; rw [ih]; simp
theorem allN_len (l : List Int) (h : ∀ x ∈ l, 0 ≤ x ∧ x ≤ 99999) : (allN l).length ≤ 6 * l.length := by
  induction l with
  | nil => simp [allN]
  | cons a l ih =>
    have h1 := ih (fun x hx => h x (List.mem_cons_of_mem _ hx))
    have h3 := h a (List.mem_cons_self ..)
    have h2 := Sp.dec_len h3.1 h3.2
    simp only [allN, List.length_append, List.length_cons]; omega
theorem allN_coefs (l : List Int) (h : ∀ x ∈ l, 0 < x) : allN l = Sp.coefs l := by
  induction l with
  | nil => rfl
  | cons a l ih =>
    simp only [allN, Sp.coefs]
    rw [if_pos (h a (List.mem_cons_self ..)), ih (fun x hx => h x (List.mem_cons_of_mem _ hx))]

theorem row_l0 (r : List Int) (hl : r.length ≤ 99) (h : ∀ x ∈ r, 0 ≤ x ∧ x ≤ 99999) : ∀ (d j : Nat), j + d = r.length →
    EvR (fun k => solventref07_row.l0 k r (bs (allN (r.take j))) (bs (Sp.idxs 0 (r.take j))) (bs (Sp.coefs (r.take j))) (decide ((0 : Int) ∈ r.take j)) (j : Int)) (bs (Sp.prRow r ++ [59])) := by
  have e32 : (⟨#[32]⟩ : ByteArray) = bs [32] := rfl
  intro d
  induction d with
  | zero =>
    intro j hj
    rw [List.take_of_length_le (by omega)]
    have h1 := Sp.idxs_len r 0 (by omega)
    have h2 := Sp.coefs_len r (fun x hx => (h x hx).2)
    have h3 := allN_len r h
    refine EvR.one fun k => ?_
    simp only [solventref07_row.l0]
    rw [if_neg (by omega)]
    have e1 : (⟨#[108, 111, 99, 97, 108]⟩ : ByteArray) = bs Sp.kLocal := rfl
    have e2 : (⟨#[112, 97, 114, 105, 116, 121]⟩ : ByteArray) = bs Sp.kParity := rfl
    have e3 : (⟨#[58]⟩ : ByteArray) = bs [58] := rfl
    have e4 : (⟨#[59]⟩ : ByteArray) = bs [59] := rfl
    rw [e1, e2, e3, e4]
    simp only [bs_add, bs_size, List.length_append, Sp.kLocal, Sp.kParity, List.length_cons, List.length_nil]
    unfold Sp.prRow
    by_cases hz : (0 : Int) ∈ r
    · rw [if_pos (decide_eq_true hz), if_pos hz, if_pos (by omega), if_pos (by omega), if_pos (by omega), if_pos (by omega)]
      rfl
    · rw [if_neg (by rw [decide_eq_false hz]; decide), if_neg hz, if_pos (by omega), if_pos (by omega)]
      rw [allN_coefs r (fun x hx => by
        have := (h x hx).1
        rcases Int.lt_or_le 0 x with h' | h'
        · exact h'
        · exact absurd (show (0 : Int) ∈ r by rw [show (0 : Int) = x by omega]; exact hx) hz)]
      rfl
  | succ d ih =>
    intro j hj
    have hlt : j < r.length := by omega
    have hj1 := h r[j] (List.getElem_mem hlt)
    have ht : (r.take j).length = j := by rw [List.length_take]; omega
    have hb : ∀ x ∈ r.take j, 0 ≤ x ∧ x ≤ 99999 := fun x hx => h x (List.mem_of_mem_take hx)
    have h1 := Sp.idxs_len (r.take j) 0 (by omega)
    have h2 := Sp.coefs_len (r.take j) (fun x hx => (hb x hx).2)
    have h3 := allN_len (r.take j) hb
    have hdx := Sp.dec_len hj1.1 hj1.2
    have hdj := Sp.dec_len (n := (j : Int)) (by omega) (by omega)
    have ih1 := ih (j + 1) (by omega)
    rw [List.take_succ_eq_append_getElem hlt, allN_snoc, Sp.idxs_snoc, Sp.coefs_snoc, ht, Nat.zero_add] at ih1
    have hm : decide ((0 : Int) ∈ r.take j ++ [r[j]]) = (decide ((0 : Int) ∈ r.take j) || decide (r[j] = 0)) := by
      rw [← Bool.decide_or]
      refine decide_eq_decide.2 ?_
      rw [List.mem_append, List.mem_singleton]
      exact ⟨fun h => h.elim .inl fun h => .inr h.symm, fun h => h.elim .inl fun h => .inr h.symm⟩
    rw [hm] at ih1
    obtain ⟨K1, N1⟩ := EvR.get (number_int r[j] hj1.1 hj1.2)
    obtain ⟨K2, N2⟩ := EvR.get (number_int (j : Int) (by omega) (by omega))
    obtain ⟨K3, N3⟩ := EvR.get (ih1)
    refine EvR.mk' (K1 + K2 + K3 + 1) fun k hk => ?_
    obtain ⟨m, rfl⟩ : ∃ m, k = m + 1 := ⟨k - 1, by omega⟩
    have M3 := N3 m (by omega)
    simp only [solventref07_row.l0]
    rw [if_pos (by omega), if_pos (by rw [bs_size]; omega), if_pos (by omega), rd_at r j hlt, N1 m (by omega), N2 m (by omega), wrap_up j (by omega), e32]
    simp only [Option.bind_some, bs_add, bs_size, List.length_append, List.length_cons, List.length_nil]
    rw [if_pos (by omega)]
    by_cases hz : r[j] = 0
    · rw [if_pos hz]
      rw [if_neg (by omega), if_neg (by omega), List.append_nil, List.append_nil, decide_eq_true hz, Bool.or_true] at M3
      rw [← M3, List.append_assoc]; rfl
    · rw [if_neg hz, if_pos (by omega), if_pos (by omega), if_pos (by omega), if_pos (by omega)]
      rw [if_pos (by omega), if_pos (by omega), decide_eq_false hz, Bool.or_false] at M3
      rw [← M3, List.append_assoc, List.append_assoc, List.append_assoc]; rfl

theorem row_ev (r : List Int) (hl : r.length ≤ 99) (h : ∀ x ∈ r, 0 ≤ x ∧ x ≤ 99999) : EvR (fun k => solventref07_row.f k r) (bs (Sp.prRow r ++ [59])) :=
  EvR.same (row_l0 r hl h r.length 0 (by omega)) fun k => by rw [List.take_zero]; rfl

section
variable (n1 : ByteArray) (f1 d1 : Int) (a : List (List Int)) (m1 : Int)
def fin (L : List UInt8) (m : Int) : ByteArray × Int :=
  if 2000 < (L ++ Sp.ln ((Sp.kDomain ++ [32]) ++ Sp.dec m) ++ [125, 10]).length then (⟨#[]⟩, 2) else (bs (L ++ Sp.ln ((Sp.kDomain ++ [32]) ++ Sp.dec m) ++ [125, 10]), 0)
theorem print_l0 (L : List UInt8) (hL : L.length ≤ 1000) (hm0 : 0 ≤ m1) (hm1 : m1 ≤ 99999) (hal : a.length ≤ 99) (h : ∀ r ∈ a, r.length ≤ 99 ∧ ∀ x ∈ r, 0 ≤ x ∧ x ≤ 99999) :
    ∀ (d i : Nat), i + d = a.length → EvR (fun k => solventref07_Print.l0 k (bs (L ++ Sp.prRows (a.take i))) (i : Int) n1 f1 d1 a m1) (fin (L ++ Sp.prRows a) m1) := by
  intro d
  induction d with
  | zero =>
    intro i hi
    rw [List.take_of_length_le (by omega)]
    have h1 := Sp.prRows_len a (fun r hr => ⟨(h r hr).1, fun x hx => ((h r hr).2 x hx).2⟩)
    have hd := Sp.dec_len hm0 hm1
    obtain ⟨K1, N1⟩ := EvR.get (number_int m1 hm0 hm1)
    refine EvR.mk' (K1 + 1) fun k hk => ?_
    obtain ⟨m, rfl⟩ : ∃ m, k = m + 1 := ⟨k - 1, by omega⟩
    have e1 : (⟨#[9, 100, 111, 109, 97, 105, 110, 32]⟩ : ByteArray) = bs ([9] ++ (Sp.kDomain ++ [32])) := rfl
    have e2 : (⟨#[59, 10, 125, 10]⟩ : ByteArray) = bs ([59, 10] ++ [125, 10]) := rfl
    have e3 : L ++ Sp.prRows a ++ ([9] ++ (Sp.kDomain ++ [32])) ++ Sp.dec m1 ++ ([59, 10] ++ [125, 10]) = L ++ Sp.prRows a ++ Sp.ln ((Sp.kDomain ++ [32]) ++ Sp.dec m1) ++ [125, 10] := by simp [Sp.ln]
    have hll : (L ++ Sp.prRows a).length ≤ 300000 := by rw [List.length_append]; omega
    simp only [solventref07_Print.l0]
    rw [if_neg (by omega), if_pos (by rw [bs_size]; omega), N1 m (by omega), e1, e2]
    generalize L ++ Sp.prRows a = M at *
    simp only [Option.bind_some, bs_add]
    rw [if_pos (by rw [bs_size, bs_size]; simp [Sp.kDomain]; omega), if_pos (by rw [bs_size]; simp [Sp.kDomain]; omega), e3]
    unfold fin
    generalize M ++ Sp.ln ((Sp.kDomain ++ [32]) ++ Sp.dec m1) ++ [125, 10] = Z
    rw [bs_size]
    by_cases hz : 2000 < Z.length
    · rw [if_pos hz, if_pos (by omega)]
    · rw [if_neg hz, if_neg (by omega)]
  | succ d ih =>
    intro i hi
    have hlt : i < a.length := by omega
    have hr := h a[i] (List.getElem_mem hlt)
    have h1 := Sp.prRows_len (a.take i) (fun r hr => ⟨(h r (List.mem_of_mem_take hr)).1, fun x hx => ((h r (List.mem_of_mem_take hr)).2 x hx).2⟩)
    have h2 : (a.take i).length ≤ 99 := by rw [List.length_take]; omega
    have h3 := Sp.prRow_len hr.1 (fun x hx => (hr.2 x hx).2)
    have ih1 := ih (i + 1) (by omega)
    rw [List.take_succ_eq_append_getElem hlt, Sp.prRows_snoc] at ih1
    obtain ⟨K1, N1⟩ := EvR.get (row_ev a[i] hr.1 hr.2)
    obtain ⟨K3, N3⟩ := EvR.get (ih1)
    refine EvR.mk' (K1 + K3 + 1) fun k hk => ?_
    obtain ⟨m, rfl⟩ : ∃ m, k = m + 1 := ⟨k - 1, by omega⟩
    have M3 := N3 m (by omega)
    have e1 : (⟨#[9]⟩ : ByteArray) = bs [9] := rfl
    have e2 : (⟨#[10]⟩ : ByteArray) = bs [10] := rfl
    have e3 : L ++ Sp.prRows (a.take i) ++ [9] ++ (Sp.prRow a[i] ++ [59]) ++ [10] = L ++ (Sp.prRows (a.take i) ++ Sp.ln (Sp.prRow a[i])) := by simp [Sp.ln]
    have hll : (L ++ Sp.prRows (a.take i)).length ≤ 300000 := by rw [List.length_append]; omega
    simp only [solventref07_Print.l0]
    rw [if_pos (by omega), if_pos (by rw [bs_size]; omega), if_pos (by omega), rdl_at a i hlt, N1 m (by omega), wrap_up i (by omega), e1, e2]
    simp only [Option.bind_some, bs_add, bs_size, List.length_append, List.length_cons, List.length_nil]
    rw [List.length_append] at hll
    rw [if_pos (by omega), if_pos (by omega), e3]
    exact M3
end

def prR (n1 : ByteArray) (f1 d1 : Int) (a : List (List Int)) (m1 : Int) : ByteArray × Int :=
  match Sp.pr n1.data.toList f1 d1 a m1 with
  | .ok l => (bs l, 0)
  | .error e => (⟨#[]⟩, (e : Int))
theorem print_ev (n1 : ByteArray) (f1 d1 : Int) (a : List (List Int)) (m1 : Int) (hn : n1.size ≤ 4611686018427387904) (hm : a.length ≤ 4611686018427387904) (hd1 : -9223372036854775808 ≤ d1) (hd2 : d1 ≤ 9223372036854775807) :
    EvR (fun k => solventref07_Print.f k n1 f1 d1 a m1) (prR n1 f1 d1 a m1) := by
  obtain ⟨K0, N0⟩ := EvR.get (check_ev n1 f1 d1 a m1 hn hm hd1 hd2)
  unfold prR Sp.pr
  by_cases hc : Sp.ck n1.data.toList f1 d1 a m1 = 0
  · have hF := Sp.ck_fine hc
    have hf0 : 0 ≤ f1 ∧ f1 ≤ 99 := by rcases hF.fi with e | e <;> omega
    have hd0 := hF.d1; have hd1 := hF.d31; have hm0 := hF.m1; have hw := hF.width; have hmw := hF.mw
    have hn12 : n1.size ≤ 12 := hF.len
    have hnl : n1.data.toList.length = n1.size := rfl
    have hn1 : bs n1.data.toList = n1 := rfl
    obtain ⟨K1, N1⟩ := EvR.get (number_int f1 hf0.1 (by omega))
    obtain ⟨K2, N2⟩ := EvR.get (number_int d1 (by omega) (by omega))
    have l1 := Sp.dec_len (n := f1) hf0.1 (by omega)
    have l2 := Sp.dec_len (n := d1) (by omega) (by omega)
    obtain ⟨L, hL⟩ : ∃ L, L = (Sp.kCode ++ [32]) ++ n1.data.toList ++ [32, 123, 10] ++ Sp.ln ((Sp.kField ++ [32]) ++ Sp.dec f1) ++ Sp.ln ((Sp.kData ++ [32]) ++ Sp.dec d1) := ⟨_, rfl⟩
    have hLl : L.length ≤ 1000 := by rw [hL]; simp [Sp.kCode, Sp.kField, Sp.kData, Sp.ln]; omega
    obtain ⟨K3, N3⟩ := EvR.get (print_l0 n1 f1 d1 a m1 L hLl (by omega) (by omega) (by omega) (fun r hr => ⟨by have := (hF.row hr).1; omega, fun x hx => ⟨((hF.row hr).2 x hx).1, by have := ((hF.row hr).2 x hx).2; omega⟩⟩) a.length 0 (by omega))
    refine EvR.mk' (K0 + K1 + K2 + K3) fun k hk => ?_
    have M3 := N3 k (by omega)
    have e1 : (⟨#[99, 111, 100, 101, 32]⟩ : ByteArray) = bs (Sp.kCode ++ [32]) := rfl
    have e2 : (⟨#[32, 123, 10, 9, 102, 105, 101, 108, 100, 32]⟩ : ByteArray) = bs ([32, 123, 10] ++ [9] ++ (Sp.kField ++ [32])) := rfl
    have e3 : (⟨#[59, 10, 9, 100, 97, 116, 97, 32]⟩ : ByteArray) = bs ([59, 10] ++ [9] ++ (Sp.kData ++ [32])) := rfl
    have e4 : (⟨#[59, 10]⟩ : ByteArray) = bs [59, 10] := rfl
    have hLb : bs (Sp.kCode ++ [32]) ++ n1 ++ bs ([32, 123, 10] ++ [9] ++ (Sp.kField ++ [32])) ++ bs (Sp.dec f1) ++ bs ([59, 10] ++ [9] ++ (Sp.kData ++ [32])) ++ bs (Sp.dec d1) ++ bs [59, 10] = bs L := by
      rw [← hn1]; simp only [bs_add]; rw [hL]; simp [Sp.ln, hn1]
    simp only [solventref07_Print.f]
    rw [N0 k (by omega), hc, N1 k (by omega), N2 k (by omega), e1, e2, e3, e4]
    simp only [Option.bind_some]
    rw [if_pos (show ((0 : Nat) : Int) = 0 from rfl), hLb]
    have z1 : (bs (Sp.kCode ++ [32]) ++ n1).size ≤ 100 := by rw [← hn1, bs_add, bs_size]; simp [Sp.kCode]; omega
    have z2 : (bs (Sp.kCode ++ [32]) ++ n1 ++ bs ([32, 123, 10] ++ [9] ++ (Sp.kField ++ [32]))).size ≤ 200 := by rw [← hn1, bs_add, bs_add, bs_size]; simp [Sp.kCode, Sp.kField]; omega
    have z3 : (bs (Sp.kCode ++ [32]) ++ n1 ++ bs ([32, 123, 10] ++ [9] ++ (Sp.kField ++ [32])) ++ bs (Sp.dec f1)).size ≤ 300 := by rw [ByteArray.size_append, bs_size]; omega
    have z4 : (bs (Sp.kCode ++ [32]) ++ n1 ++ bs ([32, 123, 10] ++ [9] ++ (Sp.kField ++ [32])) ++ bs (Sp.dec f1) ++ bs ([59, 10] ++ [9] ++ (Sp.kData ++ [32]))).size ≤ 400 := by rw [ByteArray.size_append, bs_size]; simp only [Sp.kData, List.length_append, List.length_cons, List.length_nil]; omega
    have z5 : (bs (Sp.kCode ++ [32]) ++ n1 ++ bs ([32, 123, 10] ++ [9] ++ (Sp.kField ++ [32])) ++ bs (Sp.dec f1) ++ bs ([59, 10] ++ [9] ++ (Sp.kData ++ [32])) ++ bs (Sp.dec d1)).size ≤ 500 := by rw [ByteArray.size_append, bs_size]; omega
    rw [if_pos (by omega), if_pos (by omega), if_pos (by rw [bs_size]; omega), if_pos (by omega), if_pos (by rw [bs_size]; omega), if_pos (by omega)]
    rw [List.take_zero, show Sp.prRows [] = [] from rfl, List.append_nil] at M3
    refine Eq.trans M3 ?_
    unfold fin
    have hPS : L ++ Sp.prRows a ++ Sp.ln ((Sp.kDomain ++ [32]) ++ Sp.dec m1) ++ [125, 10] = Sp.prS n1.data.toList f1 d1 a m1 := by rw [hL]; rfl
    rw [hPS, if_pos True.intro]
    by_cases hz : 2000 < (Sp.prS n1.data.toList f1 d1 a m1).length
    · rw [if_pos hz, if_pos hz]; rfl
    · rw [if_neg hz, if_neg hz]
  · refine ⟨K0, fun k hk => ?_⟩
    simp only [solventref07_Print.f]
    rw [N0 k hk]
    simp only [Option.bind_some]
    rw [if_neg (by omega), if_neg hc]
end Go.Proofs.YtppeplonnippcaaDoor.Rf
