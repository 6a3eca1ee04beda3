/-
  What was divided, and read back; numbers and their digits in one order.
-/
import Derived.Test.YthnlknegnlmklaaDeciPlain6
set_option linter.all false
open Go Vm
namespace DP
open S SN SD

/-! ### Numbers and digits in one order -/

theorem dval_cons (c : UInt8) (l : List UInt8) : dval (c :: l) = (c.toNat - 48) * 10 ^ l.length + dval l := by
  have := dval_app [c] l
  rw [List.singleton_append] at this
  rw [this]
  congr 1
  show (10 * 0 + (c.toNat - 48)) * _ = _
  rw [Nat.mul_zero, Nat.zero_add]

theorem less_val : ∀ (a b : List UInt8), digl a → digl b → a.length = b.length → (Op.bytesLess a b = true ↔ dval a < dval b)
  | [], [], _, _, _ => by simp [Op.bytesLess, dval]
  | [], _ :: _, _, _, h => by simp at h
  | _ :: _, [], _, _, h => by simp at h
  | x :: a, y :: b, ha, hb, h => by
    have hx := ha x (by simp)
    have hy := hb y (by simp)
    unfold dig at hx hy
    have ha' : digl a := fun c hc => ha c (by simp [hc])
    have hb' : digl b := fun c hc => hb c (by simp [hc])
    have hl : a.length = b.length := by simpa using h
    have la := dval_lt a ha'
    have lb := dval_lt b hb'
    rw [dval_cons, dval_cons, hl]
    rw [hl] at la
    have ih := less_val a b ha' hb' hl
    simp only [Op.bytesLess, Bool.or_eq_true, Bool.and_eq_true, decide_eq_true_iff, beq_iff_eq, ih]
    have hlt : (x < y) ↔ x.toNat < y.toNat := UInt8.lt_iff_toNat_lt
    rw [hlt]
    generalize 10 ^ b.length = T at *
    constructor
    · rintro (h1 | ⟨rfl, h1⟩)
      · have : (x.toNat - 48 + 1) * T ≤ (y.toNat - 48) * T := Nat.mul_le_mul_right T (by omega)
        rw [Nat.add_mul, Nat.one_mul] at this
        omega
      · omega
    · intro h1
      rcases Nat.lt_trichotomy x.toNat y.toNat with h2 | h2 | h2
      · exact .inl h2
      · obtain rfl := UInt8.toNat_inj.1 h2
        exact .inr ⟨rfl, by omega⟩
      · have : (y.toNat - 48 + 1) * T ≤ (x.toNat - 48) * T := Nat.mul_le_mul_right T (by omega)
        rw [Nat.add_mul, Nat.one_mul] at this
        omega

theorem dec_pos {m : Nat} (h : 0 < m) : ∃ c l, Lib.decDigits m = c :: l ∧ 10 ^ l.length ≤ m := by
  have hne := dec_ne m
  have hl := (dec_led m m (Nat.le_refl _)).2 h
  have hd := dec_digl m
  have hv := dec_val m
  cases hm : Lib.decDigits m with
  | nil => exact absurd hm hne
  | cons c l =>
    refine ⟨c, l, rfl, ?_⟩
    rw [hm] at hl hd hv
    have hc := hd c (by simp)
    unfold dig at hc
    have hne : c ≠ 48 := hl
    have h49 : 49 ≤ c.toNat := by
      rcases Nat.lt_or_ge 48 c.toNat with h | h
      · omega
      · exact absurd (UInt8.toNat_inj.1 (show c.toNat = (48 : UInt8).toNat by simp; omega)) hne
    rw [dval_cons] at hv
    have : 1 * 10 ^ l.length ≤ (c.toNat - 48) * 10 ^ l.length := Nat.mul_le_mul_right _ (by omega)
    omega

theorem dec_len_le {m n : Nat} (h : m ≤ n) : (Lib.decDigits m).length ≤ (Lib.decDigits n).length := by
  by_cases h0 : m = 0
  · subst h0
    rw [dec_small (by decide)]
    have := List.length_pos_iff.2 (dec_ne n)
    simp; omega
  · obtain ⟨c, l, e, hl⟩ := dec_pos (show 0 < m by omega)
    have hn := dval_lt _ (dec_digl n)
    rw [dec_val] at hn
    rw [e]
    have : 10 ^ l.length < 10 ^ (Lib.decDigits n).length := by omega
    have := (Nat.pow_lt_pow_iff_right (by decide)).1 this
    simp; omega

theorem dec_lt (m n : Nat) : m < n ↔ ((Lib.decDigits m).length < (Lib.decDigits n).length ∨ ((Lib.decDigits m).length = (Lib.decDigits n).length ∧ Op.bytesLess (Lib.decDigits m) (Lib.decDigits n) = true)) := by
  constructor
  · intro h
    have h1 := dec_len_le (Nat.le_of_lt h)
    rcases Nat.lt_or_ge (Lib.decDigits m).length (Lib.decDigits n).length with h2 | h2
    · exact .inl h2
    · have e : (Lib.decDigits m).length = (Lib.decDigits n).length := by omega
      refine .inr ⟨e, (less_val _ _ (dec_digl m) (dec_digl n) e).2 ?_⟩
      rw [dec_val, dec_val]; exact h
  · rintro (h | ⟨e, h⟩)
    · rcases Nat.lt_or_ge m n with h1 | h1
      · exact h1
      · have := dec_len_le h1; omega
    · have := (less_val _ _ (dec_digl m) (dec_digl n) e).1 h
      rwa [dec_val, dec_val] at this

theorem dec_inj {m n : Nat} (h : Lib.decDigits m = Lib.decDigits n) : m = n := by rw [← dec_val m, h, dec_val]

theorem sg_neg (m n : Nat) : decide (sg ((m : Int) - n) < 0) = decide (m < n) := by
  rw [Bool.eq_iff_iff, decide_eq_true_iff, decide_eq_true_iff]
  unfold sg
  split
  · constructor <;> intro <;> omega
  · split <;> constructor <;> intro <;> omega

/-! ### Whole numbers, written and read -/

theorem whole_itoa (n : Int) (h : -9223372036854775808 ≤ n ∧ n ≤ 9223372036854775807) : whole (Lib.itoa n) = n ∧ good (Lib.itoa n) = true := by
  by_cases hn : n < 0
  · have e : Lib.itoa n = 45 :: Lib.decDigits n.natAbs := by unfold Lib.itoa; rw [if_pos hn]
    have h1 : neg (Lib.itoa n) = true := by rw [e]; rfl
    have h2 : rest (Lib.itoa n) = Lib.decDigits n.natAbs := by unfold rest; rw [h1, e]; rfl
    have h3 : whole (Lib.itoa n) = n := by
      unfold whole
      rw [h1, h2, dec_val]
      simp only [if_true]
      rw [IntKind.wrap_i64]; omega
    refine ⟨h3, ?_⟩
    unfold good
    rw [h3, h2, numb_dec, dec_val, decide_eq_true (show n.natAbs < 18446744073709551616 by omega), decide_eq_true rfl]
    rfl
  · have e : Lib.itoa n = Lib.decDigits n.toNat := by unfold Lib.itoa; rw [if_neg hn]
    have hd := dec_digl n.toNat
    have h1 : neg (Lib.itoa n) = false := by
      rw [e]
      unfold neg
      cases hm : Lib.decDigits n.toNat with
      | nil => rfl
      | cons c l =>
        rw [hm] at hd
        have := hd c (by simp)
        unfold dig at this
        rw [List.head?_cons]
        refine beq_eq_false_iff_ne.2 fun h => ?_
        cases h
        simp at this
    have h2 : rest (Lib.itoa n) = Lib.decDigits n.toNat := by unfold rest; rw [h1, e]; rfl
    have h3 : whole (Lib.itoa n) = n := by
      unfold whole
      rw [h1, h2, dec_val]
      simp only [Bool.false_eq_true, if_false]
      rw [IntKind.wrap_i64]; omega
    refine ⟨h3, ?_⟩
    unfold good
    rw [h3, h2, numb_dec, dec_val, decide_eq_true (show n.toNat < 18446744073709551616 by omega), decide_eq_true rfl]
    rfl

theorem good_itoa {l : List UInt8} (h : good l = true) : Lib.itoa (whole l) = l := by
  unfold good at h
  simp only [Bool.and_eq_true, decide_eq_true_iff] at h
  exact h.2

theorem fits_len (m : Nat) : fits (S.nat_Nat_Len (num m)) m = true := by
  rw [Len_num]
  unfold fits
  refine decide_eq_true ?_
  split <;> omega

theorem fits_less (m : Nat) (hm : (digs m).length ≤ 6) : IntKind.i64.wrap (S.nat_Nat_Len (num m) - 1) = ((digs m).length : Int) - 1 ∧ fits (((digs m).length : Int) - 1) m = decide ((digs m).length = 0) := by
  rw [Len_num]
  refine ⟨by rw [IntKind.wrap_i64]; omega, ?_⟩
  unfold fits
  rw [Bool.eq_iff_iff, decide_eq_true_iff, decide_eq_true_iff]
  split <;> constructor <;> intro <;> omega

theorem cond_false_of {a b : Bool} (h : a = false) : (bif a then false else b) = b := by rw [h]; rfl

theorem DeciBack_law (a b : List Int) (d n : Int) (s : ByteArray) (ga : (∀ x ∈ a, inr .u64 x) ∧ a.length ≤ maxLen) (gb : (∀ x ∈ b, inr .u64 x) ∧ b.length ≤ maxLen) (gd : inr .u64 d) (gn : inr .i64 n) (gs : s.size ≤ maxLen) :
    S.law02_DeciBack_pre a b d n s ∧ S.law02_DeciBack a b d n s = true := by
  obtain ⟨w1, w2⟩ := works_both
  by_cases h6 : (decide ((a.length : Int) > 6) || decide ((b.length : Int) > 6) || decide ((s.size : Int) > 60)) = true
  · refine ⟨?_, ?_⟩
    · simp only [S.law02_DeciBack_pre, h6, All, and_true]
      exact ⟨fun _ => w1, fun h => by cases h⟩
    · simp only [S.law02_DeciBack, h6, cond_true, w2]
  · have h6 : (decide ((a.length : Int) > 6) || decide ((b.length : Int) > 6) || decide ((s.size : Int) > 60)) = false := by simpa using h6
    have hh := h6
    rw [Bool.or_eq_false_iff, Bool.or_eq_false_iff, decide_eq_false_iff_not, decide_eq_false_iff_not, decide_eq_false_iff_not] at hh
    obtain ⟨⟨ha6, hb6⟩, hs60⟩ := hh
    have la := lim_of ga.1
    have lb := lim_of gb.1
    obtain ⟨o1, o2⟩ := own_both a (by omega)
    obtain ⟨o3, o4⟩ := own_both b (by omega)
    obtain ⟨n1, n2, n3⟩ := nLimbs a la (by omega)
    obtain ⟨n4, n5, n6⟩ := nLimbs b lb (by omega)
    obtain ⟨x, hx⟩ : ∃ x, (SN.val a).toNat = x := ⟨_, rfl⟩
    obtain ⟨y, hy⟩ : ∃ y, (SN.val b).toNat = y := ⟨_, rfl⟩
    have xlen : (digs x).length ≤ 6 := by rw [← hx]; exact Nat.le_trans (val_len la) (by omega)
    have ylen : (digs y).length ≤ 6 := by rw [← hy]; exact Nat.le_trans (val_len lb) (by omega)
    rw [hx] at n2 n3
    rw [hy] at n5 n6
    have x130 := lt130 xlen
    have y130 := lt130 ylen
    obtain ⟨D, rfl⟩ := Int.eq_ofNat_of_zero_le (inr_u64.1 gd).1
    have hD2 := (inr_u64.1 gd).2
    -- the division
    obtain ⟨q, r, e, D1, D2, hde, hrr, hval⟩ : ∃ (q : Nat) (r : Nat) (e : Int), S.deci_Div_pre (num x) (D : Int) ∧ S.deci_Div (num x) (D : Int) = (num q, (r : Int), e) ∧ (e == 0) = decide ((D : Int) > 0) ∧ ((e == 0) = true → r < D ∧ q * D + r = x ∧ q ≤ x) ∧ True := by
      by_cases h0 : D = 0
      · subst h0
        obtain ⟨D1, D2⟩ := Div_zero x n3
        exact ⟨0, 0, 2, D1, D2, rfl, (fun h => by cases h), trivial⟩
      · obtain ⟨D1, D2⟩ := Div_num x D n3 (by omega) (by omega)
        refine ⟨x / D, x % D, 0, D1, D2, ?_, fun _ => ⟨Nat.mod_lt _ (by omega), ?_, Nat.div_le_self _ _⟩, trivial⟩
        · rw [decide_eq_true (by omega)]; rfl
        · rw [Nat.mul_comm]; exact Nat.div_add_mod x D
    obtain ⟨u1, u2⟩ := Of_num D (by omega)
    -- texts
    obtain ⟨t1, t2⟩ := Text_ok x x130
    obtain ⟨t3, t4⟩ := Text_ok y y130
    have xl : (Lib.decDigits x).length ≤ 130 := dec_len 129 x x130
    obtain ⟨p1, p2⟩ := Parse_num (Lib.decDigits x) (S.nat_Nat_Len (num x)) xl
    rw [numb_dec, dec_val, fits_len] at p2
    have p2' : S.deci_Parse (ba (Lib.decDigits x)) (S.nat_Nat_Len (num x)) = (num x, 0) := p2
    obtain ⟨fl1, fl2⟩ := fits_less x xlen
    obtain ⟨p3, p4⟩ := Parse_num (Lib.decDigits x) (((digs x).length : Int) - 1) xl
    rw [numb_dec, dec_val, fl2] at p4
    obtain ⟨c1, c2⟩ := nCmp x x n3 n3
    rw [show (x : Int) - x = 0 by omega] at c2
    have c2' : S.nat_Cmp (num x) (num x) = 0 := c2
    obtain ⟨c3, c4⟩ := nCmp x y n3 n6
    have hdg : S.deci_Digits (num x) = ((ba (Lib.decDigits x)).size : Int) := by simp only [S.deci_Digits, t2]
    have hdp : S.deci_Digits_pre (num x) := by simp only [S.deci_Digits_pre, All, and_true]; exact t1
    obtain ⟨x1, x2⟩ := Whole_num n (inr_i64.1 gn)
    have il := itoa_len n (inr_i64.1 gn)
    obtain ⟨x3, x4⟩ := ParseWhole_num (Lib.itoa n) (by omega)
    obtain ⟨wi1, wi2⟩ := whole_itoa n (inr_i64.1 gn)
    rw [wi1, wi2] at x4
    have x4' : S.deci_ParseWhole (ba (Lib.itoa n)) = (n, 0) := x4
    obtain ⟨l, rfl⟩ : ∃ l, s = ba l := ⟨_, ba_eta s⟩
    have hl : l.length ≤ 60 := by rw [ba_size] at hs60; omega
    obtain ⟨y1, y2⟩ := Parse_num l 9 (by omega)
    obtain ⟨y3, y4⟩ := ParseWhole_num l (by omega)
    -- what the last two read
    obtain ⟨v, ve, hv1, hv2, hv3⟩ : ∃ (v : Nat) (ve : Int), S.deci_Parse (ba l) 9 = (num v, ve) ∧ v < 10 ^ 130 ∧ ((ve != 0) = false → Lib.decDigits v = l) := by
      rw [y2]
      cases hn : numb l with
      | false => exact ⟨0, 20, rfl, by decide, fun h => by cases h⟩
      | true =>
        cases hf : fits 9 (dval l) with
        | false => exact ⟨0, 10, rfl, by decide, fun h => by cases h⟩
        | true => exact ⟨dval l, 0, rfl, small_len (numb_digl hn) (by omega), fun _ => numb_dec_eq hn⟩
    obtain ⟨t5, t6⟩ := Text_ok v hv2
    obtain ⟨w, we, hw1, hw2, hw3⟩ : ∃ (w we : Int), S.deci_ParseWhole (ba l) = (w, we) ∧ (-9223372036854775808 ≤ w ∧ w ≤ 9223372036854775807) ∧ ((we != 0) = false → Lib.itoa w = l) := by
      rw [y4]
      cases hg : good l with
      | false => exact ⟨0, 20, rfl, by decide, fun h => by cases h⟩
      | true => exact ⟨whole l, 0, rfl, whole_range l, fun _ => good_itoa hg⟩
    obtain ⟨x5, x6⟩ := Whole_num w hw2
    -- the tests
    have k14 : (!((e == 0) == decide ((D : Int) > 0))) = false := by rw [hde]; simp
    have arith : (e == 0) = true → decide ((r : Int) ≥ D) = false ∧ S.nat_Mul_pre (num q) (num D) ∧ S.nat_Of_pre (r : Int) ∧ S.nat_Add_pre (S.nat_Mul (num q) (num D)) (S.nat_Of (r : Int)) ∧ S.nat_Cmp_pre (S.nat_Add (S.nat_Mul (num q) (num D)) (S.nat_Of (r : Int))) (num x) ∧ S.nat_Cmp (S.nat_Add (S.nat_Mul (num q) (num D)) (S.nat_Of (r : Int))) (num x) = 0 := by
      intro h
      obtain ⟨a1, a2, a3⟩ := hrr h
      obtain ⟨m1, m2⟩ := nMul q D (Nat.le_trans (digs_le a3) n3) (s1 (by omega))
      obtain ⟨f1, f2⟩ := Of_num r (by omega)
      obtain ⟨g1, g2⟩ := nAdd (q * D) r (Nat.le_trans (digs_le (show q * D ≤ x by omega)) n3) (s1 (by omega))
      rw [m2, f2, g2, a2]
      exact ⟨decide_eq_false (by omega), m1, f1, g1, c1, c2'⟩
    have k24 : ((e == 0) && (decide ((r : Int) ≥ D) || (S.nat_Cmp (S.nat_Add (S.nat_Mul (num q) (num D)) (S.nat_Of (r : Int))) (num x) != 0))) = false := by
      cases h : (e == 0) with
      | false => rfl
      | true =>
        obtain ⟨a1, _, _, _, _, a2⟩ := arith h
        rw [a1, a2]; rfl
    have k40 : (S.deci_Parse (ba (Lib.decDigits x)) (((digs x).length : Int) - 1)).2 = if (digs x).length = 0 then 0 else 10 := by
      rw [p4]
      by_cases h : (digs x).length = 0 <;> simp [h]
    have k47 : ((!(((S.deci_Parse (ba (Lib.decDigits x)) (((digs x).length : Int) - 1)).2 == 10) == decide (S.nat_Nat_Len (num x) > 0))) || (((S.deci_Parse (ba (Lib.decDigits x)) (((digs x).length : Int) - 1)).2 != 10) && ((S.deci_Parse (ba (Lib.decDigits x)) (((digs x).length : Int) - 1)).2 != 0))) = false := by
      rw [k40, Len_num]
      by_cases h : (digs x).length = 0
      · rw [if_pos h, h]; rfl
      · rw [if_neg h, decide_eq_true (show ((digs x).length : Int) > 0 by omega)]; rfl
    have k59 : ((!(decide (sg ((x : Int) - y) < 0) == (decide (((ba (Lib.decDigits x)).size : Int) < ((ba (Lib.decDigits y)).size : Int)) || ((((ba (Lib.decDigits x)).size : Int) == ((ba (Lib.decDigits y)).size : Int)) && Op.bytesLess (ba (Lib.decDigits x)).toList (ba (Lib.decDigits y)).toList)))) || (!((sg ((x : Int) - y) == 0) == ((ba (Lib.decDigits x)).toList == (ba (Lib.decDigits y)).toList)))) = false := by
      rw [sg_neg, ba_toList, ba_toList, ba_size, ba_size]
      have e1 : decide (x < y) = (decide (((Lib.decDigits x).length : Int) < ((Lib.decDigits y).length : Int)) || ((((Lib.decDigits x).length : Int) == ((Lib.decDigits y).length : Int)) && Op.bytesLess (Lib.decDigits x) (Lib.decDigits y))) := by
        rw [Bool.eq_iff_iff, decide_eq_true_iff, dec_lt]
        simp only [Bool.or_eq_true, Bool.and_eq_true, decide_eq_true_iff, beq_iff_eq]
        constructor
        · rintro (h | ⟨h, h'⟩)
          · exact .inl (by omega)
          · exact .inr ⟨by omega, h'⟩
        · rintro (h | ⟨h, h'⟩)
          · exact .inl (by omega)
          · exact .inr ⟨by omega, h'⟩
      have e2 : (sg ((x : Int) - y) == 0) = (Lib.decDigits x == Lib.decDigits y) := by
        rw [Bool.eq_iff_iff, beq_iff_eq, beq_iff_eq, sg_zero]
        constructor
        · intro h; rw [show x = y by omega]
        · intro h; rw [dec_inj h]; omega
      rw [e1, e2]; simp
    have k70 : ((ve != 0) || ((ba (Lib.decDigits v)).toList == (ba l).toList)) = true := by
      cases h : (ve != 0) with
      | true => rfl
      | false => rw [hv3 h]; simp
    have k74 : ((we != 0) || ((ba (Lib.itoa w)).toList == (ba l).toList)) = true := by
      cases h : (we != 0) with
      | true => rfl
      | false => rw [hw3 h]; simp
    have z0 : ((0 : Int) != 0) = false := rfl
    have nn : (n != n) = false := by simp
    have dd : ((((ba (Lib.decDigits x)).size : Nat) : Int) != ((ba (Lib.decDigits x)).size : Int)) = false := by simp
    refine ⟨?_, ?_⟩
    · simp only [S.law02_DeciBack_pre, h6, o2, o4, n2, n5, D2, u2, t2, t4, p2', fl1, hdg, c2', c4, x2, x4', hv1, hw1, t6, x6, k14, k24, k47, k59, k70, k74, z0, nn, dd, Bool.or_self, Bool.and_self, All, and_true]
      refine ⟨(fun h => by cases h), fun _ => ⟨⟨o1, n1, o3, n4, D1, fun _ _ _ => u1, fun _ h _ => (arith h).2.1, fun _ h _ => (arith h).2.2.1, fun _ h _ => (arith h).2.2.2.1, fun _ h _ => (arith h).2.2.2.2.1⟩, (fun h => by cases h), fun _ => ⟨⟨t1, t3, p1, fun _ => c1, fun _ => hdp⟩, (fun h => by cases h), fun _ => ⟨p3, (fun h => by cases h), fun _ => ⟨c3, (fun h => by cases h), fun _ => ⟨⟨x1, x3⟩, (fun h => by cases h), fun _ => ⟨y1, y3, fun _ => t5, fun _ _ => x5, fun _ => w1⟩⟩⟩⟩⟩⟩⟩
    · simp only [S.law02_DeciBack, h6, o2, o4, n2, n5, D2, u2, t2, t4, p2', fl1, hdg, c2', c4, x2, x4', hv1, hw1, t6, x6, k14, k24, k47, k59, k70, k74, z0, nn, dd, w2, Bool.or_self, Bool.and_self, cond_false]
end DP
