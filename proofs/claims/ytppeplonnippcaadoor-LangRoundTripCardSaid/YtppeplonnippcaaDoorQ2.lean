/-
Layer 7: the tokens of a printed code are parsed as the code.
-/
import Derived.Test.YtppeplonnippcaaDoorQ1
set_option linter.unusedVariables false
set_option linter.unusedSimpArgs false
namespace Go.Proofs.YtppeplonnippcaaDoor.Sp

def idxL : Nat → List Int → List Nat
  | _, [] => []
  | j, x :: r => if 0 < x then j :: idxL (j + 1) r else idxL (j + 1) r
def coefL : List Int → List Nat
  | [] => []
  | x :: r => if 0 < x then x.toNat :: coefL r else coefL r
def lxRow (r : List Int) : List Lx :=
  if (0 : Int) ∈ r then .word kLocal :: ((idxL 0 r).map .num ++ (.sign 58 :: ((coefL r).map .num ++ [.sign 59])))
  else .word kParity :: ((coefL r).map .num ++ [.sign 59])
def lxRows (rows : List (List Int)) : List Lx := rows.flatMap lxRow
def lxCode (name : List UInt8) (f d : Nat) (rows : List (List Int)) (m : Nat) : List Lx :=
  [.word kCode, .word name, .sign 123, .word kField, .num f, .sign 59, .word kData, .num d, .sign 59] ++ (lxRows rows ++ [.word kDomain, .num m, .sign 59, .sign 125])

theorem Is.txt {t : Tok} {x : Lx} (h : Is t x) : t.txt = x.txt := by obtain ⟨p, rfl⟩ := h; cases x <;> rfl
theorem Is.word {t : Tok} {w : List UInt8} (h : Is t (.word w)) : t.txt = w ∧ t.kind = 1 := by obtain ⟨p, rfl⟩ := h; exact ⟨rfl, rfl⟩
theorem Is.num {t : Tok} {n : Nat} (h : Is t (.num n)) : t.kind = 2 ∧ t.n = n := by obtain ⟨p, rfl⟩ := h; exact ⟨rfl, rfl⟩
theorem Is.sign {t : Tok} {c : UInt8} (h : Is t (.sign c)) : t.txt = [c] ∧ t.kind = 3 := by obtain ⟨p, rfl⟩ := h; exact ⟨rfl, rfl⟩

theorem pTok_yes {k : List UInt8} {t : Tok} {r : List Tok} (h : t.txt = k) : pTok k (t :: r) = .ok (t, r) := by unfold pTok; rw [if_pos (show (hd (t :: r)).txt = k from h)]; rfl
theorem pKind_yes {k : Nat} {t : Tok} {r : List Tok} (h : t.kind = k) : pKind k (t :: r) = .ok (t, r) := by unfold pKind; rw [if_pos (show (hd (t :: r)).kind = k from h)]; rfl
theorem pOne_yes {key : List UInt8} {a b c : Tok} {r : List Tok} (h1 : a.txt = key) (h2 : b.kind = 2) (h3 : c.txt = kSemi) : pOne key (a :: b :: c :: r) = .ok (b, r) := by
  unfold pOne
  rw [pTok_yes h1]
  simp only
  rw [pKind_yes h2]
  simp only
  rw [pTok_yes h3]
theorem Mt.nums {ts : List Tok} {ns : List Nat} (h : Mt ts (ns.map .num)) : ts.map (·.n) = ns ∧ ∀ t ∈ ts, isN t = true := by
  induction ns generalizing ts with
  | nil => rw [show ts = [] from h]; exact ⟨rfl, fun t ht => by cases ht⟩
  | cons n ns ih =>
    obtain ⟨t, r, rfl, h1, h2⟩ := h
    obtain ⟨h3, h4⟩ := ih h2
    have := h1.num
    refine ⟨by simp only [List.map_cons, h3, this.2], fun u hu => ?_⟩
    rcases List.mem_cons.1 hu with rfl | hu
    · simp [isN, this.1]
    · exact h4 u hu
theorem pNums_yes {ts : List Tok} {t : Tok} {r : List Tok} (h : ∀ u ∈ ts, isN u = true) (hne : ts ≠ []) (ht : t.kind ≠ 2) : pNums (ts ++ t :: r) = .ok (ts, t :: r) := by
  have htn : isN t = false := by simp [isN, ht]
  have h1 : (ts ++ t :: r).takeWhile isN = ts := takeWhile_stop isN ts (t :: r) (List.all_eq_true.2 h) (fun c hc => by injection hc with hc; subst hc; exact htn)
  have h2 : (ts ++ t :: r).dropWhile isN = t :: r := by
    clear h1 hne
    induction ts with
    | nil => simp [List.dropWhile_cons, htn]
    | cons a ts ih => simp only [List.cons_append, List.dropWhile_cons, h a (List.mem_cons_self ..), if_true]; exact ih fun u hu => h u (List.mem_cons_of_mem _ hu)
  unfold pNums
  rw [if_pos, h1, h2]
  cases ts with
  | nil => exact absurd rfl hne
  | cons a ts => have := h a (List.mem_cons_self ..); simpa [hd, isN] using this

/-- a row as it is written is this row -/
structure RowIs (x : Row) (r : List Int) : Prop where
  loc : x.loc = decide ((0 : Int) ∈ r)
  idx : x.idx.map (·.n) = if (0 : Int) ∈ r then idxL 0 r else []
  coef : x.coef.map (·.n) = coefL r
theorem coefL_ne {r : List Int} (h : ∃ x ∈ r, 0 < x) : coefL r ≠ [] := by
  induction r with
  | nil => obtain ⟨x, hx, _⟩ := h; cases hx
  | cons a r ih =>
    simp only [coefL]
    split
    · simp
    · rename_i ha
      obtain ⟨x, hx, h0⟩ := h
      rcases List.mem_cons.1 hx with rfl | hx
      · exact absurd h0 ha
      · exact ih ⟨x, hx, h0⟩
theorem idx_coef_len (r : List Int) : ∀ j, (idxL j r).length = (coefL r).length := by
  induction r with
  | nil => intro j; rfl
  | cons a r ih => intro j; simp only [idxL, coefL]; split <;> simp [ih]
theorem pRow_yes {ts rest : List Tok} {r : List Int} (h : Mt ts (lxRow r)) (hp : ∃ x ∈ r, 0 < x) : ∃ x, pRow (ts ++ rest) = .ok (x, rest) ∧ RowIs x r ∧ ((hd (ts ++ rest)).txt = kParity ∨ (hd (ts ++ rest)).txt = kLocal) := by
  have hc := coefL_ne hp
  unfold lxRow at h
  by_cases hz : (0 : Int) ∈ r
  · rw [if_pos hz] at h
    obtain ⟨t, u, rfl, h1, h2⟩ := h
    obtain ⟨is, v, rfl, h3, h4⟩ := h2.split
    obtain ⟨c, v2, rfl, h5, h6⟩ := h4
    obtain ⟨cs, v3, rfl, h7, h8⟩ := h6.split
    obtain ⟨s, v4, rfl, h9, h10⟩ := h8
    rw [show v4 = [] from h10]
    have hi : idxL 0 r ≠ [] := fun e => hc (List.eq_nil_of_length_eq_zero (by rw [← idx_coef_len r 0, e]; rfl))
    have n3 := h3.nums; have n7 := h7.nums
    have i3 : is ≠ [] := fun e => hi (by rw [← n3.1, e]; rfl)
    have i7 : cs ≠ [] := fun e => hc (by rw [← n7.1, e]; rfl)
    refine ⟨⟨t.at_, true, is, cs⟩, ?_, ⟨by rw [decide_eq_true hz], by rw [if_pos hz]; exact n3.1, n7.1⟩, .inr h1.word.1⟩
    simp only [List.cons_append, List.append_assoc, List.nil_append]
    unfold pRow
    rw [if_pos (show (hd (t :: (is ++ c :: (cs ++ s :: rest)))).txt = kLocal from h1.word.1)]
    show (match pNums (is ++ c :: (cs ++ s :: rest)) with | .error p => _ | .ok (i, t2) => _) = _
    rw [pNums_yes n3.2 i3 (by rw [h5.sign.2]; decide)]
    simp only
    rw [pTok_yes (show c.txt = kColon from h5.sign.1)]
    simp only
    rw [pNums_yes n7.2 i7 (by rw [h9.sign.2]; decide)]
    simp only
    rw [pTok_yes (show s.txt = kSemi from h9.sign.1)]
    rfl
  · rw [if_neg hz] at h
    obtain ⟨t, u, rfl, h1, h2⟩ := h
    obtain ⟨cs, v, rfl, h3, h4⟩ := h2.split
    obtain ⟨s, v4, rfl, h9, h10⟩ := h4
    rw [show v4 = [] from h10]
    have n3 := h3.nums
    have i3 : cs ≠ [] := fun e => hc (by rw [← n3.1, e]; rfl)
    refine ⟨⟨t.at_, false, [], cs⟩, ?_, ⟨by rw [decide_eq_false hz], by rw [if_neg hz]; rfl, n3.1⟩, .inl h1.word.1⟩
    simp only [List.cons_append, List.append_assoc, List.nil_append]
    unfold pRow
    rw [if_neg (show ¬ (hd (t :: (cs ++ s :: rest))).txt = kLocal from fun e => by
      have e2 : kParity = kLocal := h1.word.1.symm.trans e
      revert e2; decide)]
    rw [pTok_yes h1.word.1]
    simp only
    rw [pNums_yes n3.2 i3 (by rw [h9.sign.2]; decide)]
    simp only
    rw [pTok_yes (show s.txt = kSemi from h9.sign.1)]
    rfl

def RowsAre : List Row → List (List Int) → Prop
  | [], [] => True
  | x :: xs, r :: rs => RowIs x r ∧ RowsAre xs rs
  | _, _ => False
theorem pRest_yes {rows : List (List Int)} : ∀ {ts : List Tok} {rest : List Tok}, Mt ts (lxRows rows) → (∀ r ∈ rows, ∃ x ∈ r, 0 < x) → ¬ ((hd rest).txt = kParity ∨ (hd rest).txt = kLocal) →
    ∃ xs, pRest (ts ++ rest) = .ok (xs, rest) ∧ RowsAre xs rows := by
  induction rows with
  | nil =>
    intro ts rest h _ hr
    rw [show ts = [] from h]
    exact ⟨[], pRest_no hr, trivial⟩
  | cons r rows ih =>
    intro ts rest h hp hr
    obtain ⟨us, vs, rfl, h1, h2⟩ := Mt.split (show Mt ts (lxRow r ++ lxRows rows) from h)
    obtain ⟨x, hx, hi, hk⟩ := pRow_yes (rest := vs ++ rest) h1 (hp r (List.mem_cons_self ..))
    obtain ⟨xs, hxs, hj⟩ := ih h2 (fun r hr => hp r (List.mem_cons_of_mem _ hr)) hr
    refine ⟨x :: xs, ?_, hi, hj⟩
    rw [List.append_assoc, pRest_ok hk hx, hxs]

/-- a source is this code -/
structure SrcIs (s : Src) (name : List UInt8) (f d : Nat) (rows : List (List Int)) (m : Nat) : Prop where
  name : s.name.txt = name
  field : s.field.n = f
  data : s.data.n = d
  rows : RowsAre s.rows rows
  dom : ∃ t, s.dom = some t ∧ t.n = m
theorem pCode_yes {ts rest : List Tok} {name : List UInt8} {f d : Nat} {rows : List (List Int)} {m : Nat} (h : Mt ts (lxCode name f d rows m)) (hne : rows ≠ []) (hp : ∀ r ∈ rows, ∃ x ∈ r, 0 < x) :
    ∃ s, pCode (ts ++ rest) = .ok (s, rest) ∧ SrcIs s name f d rows m := by
  unfold lxCode at h
  obtain ⟨us, vs, rfl, h1, h2⟩ := h.split
  obtain ⟨t1, r1, rfl, i1, h1⟩ := h1
  obtain ⟨t2, r2, rfl, i2, h1⟩ := h1
  obtain ⟨t3, r3, rfl, i3, h1⟩ := h1
  obtain ⟨t4, r4, rfl, i4, h1⟩ := h1
  obtain ⟨t5, r5, rfl, i5, h1⟩ := h1
  obtain ⟨t6, r6, rfl, i6, h1⟩ := h1
  obtain ⟨t7, r7, rfl, i7, h1⟩ := h1
  obtain ⟨t8, r8, rfl, i8, h1⟩ := h1
  obtain ⟨t9, r9, rfl, i9, h1⟩ := h1
  rw [show r9 = [] from h1]
  obtain ⟨ws, vs, rfl, h3, h4⟩ := h2.split
  obtain ⟨u1, q1, rfl, j1, h4⟩ := h4
  obtain ⟨u2, q2, rfl, j2, h4⟩ := h4
  obtain ⟨u3, q3, rfl, j3, h4⟩ := h4
  obtain ⟨u4, q4, rfl, j4, h4⟩ := h4
  rw [show q4 = [] from h4]
  cases rows with
  | nil => exact absurd rfl hne
  | cons r rows =>
    obtain ⟨xs1, ws2, rfl, k1, k2⟩ := Mt.split (show Mt ws (lxRow r ++ lxRows rows) from h3)
    obtain ⟨x, hx, hxi, _⟩ := pRow_yes (rest := ws2 ++ (u1 :: u2 :: u3 :: u4 :: rest)) k1 (hp r (List.mem_cons_self ..))
    have hnd : ¬ ((hd (u1 :: u2 :: u3 :: u4 :: rest)).txt = kParity ∨ (hd (u1 :: u2 :: u3 :: u4 :: rest)).txt = kLocal) := by
      show ¬ (u1.txt = kParity ∨ u1.txt = kLocal)
      rw [j1.word.1]; decide
    obtain ⟨xs, hxs, hxr⟩ := pRest_yes (rest := u1 :: u2 :: u3 :: u4 :: rest) k2 (fun r hr => hp r (List.mem_cons_of_mem _ hr)) hnd
    refine ⟨⟨t2, t5, t8, x :: xs, some u2⟩, ?_, ⟨i2.word.1, i5.num.2, i8.num.2, ⟨hxi, hxr⟩, u2, rfl, j2.num.2⟩⟩
    have hh : pHead (t1 :: t2 :: t3 :: t4 :: t5 :: t6 :: t7 :: t8 :: t9 :: (xs1 ++ (ws2 ++ (u1 :: u2 :: u3 :: u4 :: rest)))) = .ok ((t2, t5, t8), xs1 ++ (ws2 ++ (u1 :: u2 :: u3 :: u4 :: rest))) := by
      unfold pHead
      rw [pTok_yes i1.word.1]
      simp only
      rw [pKind_yes i2.word.2]
      simp only
      rw [pTok_yes (show t3.txt = kOpen from i3.sign.1)]
      simp only
      rw [pOne_yes i4.word.1 i5.num.1 (show t6.txt = kSemi from i6.sign.1)]
      simp only
      rw [pOne_yes i7.word.1 i8.num.1 (show t9.txt = kSemi from i9.sign.1)]
    have ht : pTail (u1 :: u2 :: u3 :: u4 :: rest) = .ok (some u2, rest) := by
      unfold pTail pDom
      rw [if_pos (show (hd (u1 :: u2 :: u3 :: u4 :: rest)).txt = kDomain from j1.word.1), pOne_yes j1.word.1 j2.num.1 (show u3.txt = kSemi from j3.sign.1)]
      simp only
      rw [pTok_yes (show u4.txt = kShut from j4.sign.1)]
    simp only [List.cons_append, List.append_assoc, List.nil_append]
    unfold pCode
    rw [hh]
    simp only
    rw [hx]
    simp only
    rw [show pMore (ws2 ++ (u1 :: u2 :: u3 :: u4 :: rest)).length (ws2 ++ (u1 :: u2 :: u3 :: u4 :: rest)) = pRest (ws2 ++ (u1 :: u2 :: u3 :: u4 :: rest)) from rfl, hxs]
    simp only
    rw [ht]
end Go.Proofs.YtppeplonnippcaaDoor.Sp
