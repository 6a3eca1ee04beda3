/-
  What an operator makes of two numbers: the program's answer is the reference's.
-/
import Derived.Test.YtpnegnhbbcligaaWordPlain3
set_option linter.all false
open Go Vm
namespace S

theorem Shift_word (b : Int) : S.word_Shift b = b % 64 := by
  have h1 : bits .and .i64 b 63 = b % 64 := by
    have h2 : bits .and .i64 b 63 = IntKind.i64.wrap ((BitVec.ofInt 64 b &&& BitVec.ofInt 64 63).toNat : Int) := rfl
    have h3 : (BitVec.ofInt 64 63).toNat = 2 ^ 6 - 1 := rfl
    rw [h2, BitVec.toNat_and, h3, Nat.and_two_pow_sub_one_eq_mod, BitVec.toNat_ofInt]
    have h : (((b % ((2 ^ 64 : Nat) : Int)).toNat : Nat) : Int) = b % 18446744073709551616 := by
      have : ((2 ^ 64 : Nat) : Int) = 18446744073709551616 := rfl
      rw [this]; omega
    have h5 : (((b % ((2 ^ 64 : Nat) : Int)).toNat % 2 ^ 6 : Nat) : Int) = b % 64 := by
      rw [Int.natCast_emod, h]
      have : ((2 ^ 6 : Nat) : Int) = 64 := rfl
      rw [this]; omega
    rw [h5]
    exact IntWalk.i64_in _ (by omega)
  simp only [word_Shift, h1]
  exact IntWalk.u64_in _ (by omega)

theorem Cmp_word (a b : Int) : S.cmp_Compareint64 a b = if a < b then -1 else if a > b then 1 else 0 := by
  have h : ∀ x : Int, S.cmp_isNaNint64 x = false := fun x => by simp [cmp_isNaNint64]
  simp only [cmp_Compareint64, h, cond_false]
  by_cases h1 : a < b
  · simp [h1]
  · by_cases h2 : a > b <;> simp [h1, h2]

/-! The operators, one by one. -/
theorem D13 (a b : Int) : S.word_Do 13 a b = (IntKind.i64.wrap (a + b), true) := rfl
theorem D14 (a b : Int) : S.word_Do 14 a b = (IntKind.i64.wrap (a - b), true) := rfl
theorem D15 (a b : Int) : S.word_Do 15 a b = (IntKind.i64.wrap (a * b), true) := rfl
theorem D16 (a b : Int) (h : b ≠ 0) : S.word_Do 16 a b = (IntKind.i64.wrap (Int.tdiv a b), true) := by
  have : (b == 0) = false := beq_eq_false_iff_ne.2 h
  show (bif (false || (true && (b == 0))) then ((0 : Int), false) else (IntKind.i64.wrap (Int.tdiv a b), true)) = _
  rw [this]; rfl
theorem D17 (a b : Int) (h : b ≠ 0) : S.word_Do 17 a b = (Int.tmod a b, true) := by
  have : (b == 0) = false := beq_eq_false_iff_ne.2 h
  show (bif (false || (true && (b == 0))) then ((0 : Int), false) else (Int.tmod a b, true)) = _
  rw [this]; rfl
theorem D16z (a : Int) : S.word_Do 16 a 0 = (0, false) := rfl
theorem D17z (a : Int) : S.word_Do 17 a 0 = (0, false) := rfl
theorem D11 (a b : Int) : S.word_Do 11 a b = (IntKind.i64.wrap (a * 2 ^ min (Int.toNat (b % 64)) 64), true) := by
  rw [← Shift_word]; rfl
theorem D12 (a b : Int) : S.word_Do 12 a b = (Int.fdiv a (2 ^ min (Int.toNat (b % 64)) 64), true) := by
  rw [← Shift_word]; rfl
theorem D8 (a b : Int) : S.word_Do 8 a b = (bits .or .i64 a b, true) := rfl
theorem D9 (a b : Int) : S.word_Do 9 a b = (bits .xor .i64 a b, true) := rfl
theorem D10 (a b : Int) : S.word_Do 10 a b = (bits .and .i64 a b, true) := rfl
theorem D0 (a b : Int) : S.word_Do 0 a b = (bif (a != 0) || (b != 0) then 1 else 0, true) := rfl
theorem D1 (a b : Int) : S.word_Do 1 a b = (bif (a != 0) && (b != 0) then 1 else 0, true) := rfl
theorem Dc (a b : Int) : S.word_Do 2 a b = (bif a == b then 1 else 0, true) ∧ S.word_Do 3 a b = (bif a != b then 1 else 0, true) ∧ S.word_Do 4 a b = (bif decide (a < b) then 1 else 0, true) ∧
    S.word_Do 5 a b = (bif decide (a ≤ b) then 1 else 0, true) ∧ S.word_Do 6 a b = (bif decide (b < a) then 1 else 0, true) ∧ S.word_Do 7 a b = (bif decide (b ≤ a) then 1 else 0, true) := by
  have e2 : S.word_Do 2 a b = (bif !((S.cmp_Compareint64 a b == 0) == false) then 1 else 0, true) := rfl
  have e3 : S.word_Do 3 a b = (bif !((S.cmp_Compareint64 a b == 0) == true) then 1 else 0, true) := rfl
  have e4 : S.word_Do 4 a b = (bif !(decide (S.cmp_Compareint64 a b < 0) == false) then 1 else 0, true) := rfl
  have e5 : S.word_Do 5 a b = (bif !(decide (S.cmp_Compareint64 a b > 0) == true) then 1 else 0, true) := rfl
  have e6 : S.word_Do 6 a b = (bif !(decide (S.cmp_Compareint64 a b > 0) == false) then 1 else 0, true) := rfl
  have e7 : S.word_Do 7 a b = (bif !(decide (S.cmp_Compareint64 a b < 0) == true) then 1 else 0, true) := rfl
  rw [e2, e3, e4, e5, e6, e7, Cmp_word]
  rcases Int.lt_trichotomy a b with h | h | h
  · have h1 : a ≠ b := by omega
    have h2 : ¬ b < a := by omega
    have h3 : ¬ b ≤ a := by omega
    have h4 : a ≤ b := by omega
    have h5 : (a == b) = false := beq_eq_false_iff_ne.2 h1
    have h6 : (a != b) = true := bne_iff_ne.2 h1
    simp [h, h2, h3, h4, h5, h6]
  · subst h; simp
  · have h1 : a ≠ b := by omega
    have h2 : ¬ a < b := by omega
    have h3 : ¬ a ≤ b := by omega
    have h4 : b ≤ a := by omega
    have h5 : (a == b) = false := beq_eq_false_iff_ne.2 h1
    have h6 : (a != b) = true := bne_iff_ne.2 h1
    simp [h, h2, h3, h4, h5, h6]
theorem Dno (op a b : Int) (h : op < 0 ∨ 17 < op) : S.word_Do op a b = (0, false) := by
  have n : ∀ k : Int, 0 ≤ k → k ≤ 17 → (op == k) = false := fun k h1 h2 => beq_eq_false_iff_ne.2 (by omega)
  simp [word_Do, word_compares, n, word_Traps]
theorem Do_pre (op a b : Int) : S.word_Do_pre op a b := by
  have s0 : (0 : Int) ≤ S.word_Shift b := by rw [Shift_word]; omega
  simp only [word_Do_pre, word_reckons_6_pre, word_reckons_7_pre, word_reckons_11_pre, word_reckons_12_pre, All, s0, word_Traps]
  by_cases hb : b = 0
  · by_cases h16 : op = 16
    · subst h16 hb; simp
    · by_cases h17 : op = 17
      · subst h17 hb; simp
      · have e1 : (op == 16) = false := beq_eq_false_iff_ne.2 h16
        have e2 : (op == 17) = false := beq_eq_false_iff_ne.2 h17
        simp [e1, e2]
  · simp [hb]

theorem bit_ref (x : Bool) : S.ref09_bit x = bif x then 1 else 0 := rfl
theorem fdiv_pow (a : Int) (k : Nat) : Int.fdiv a (2 ^ k) = a / 2 ^ k := Int.fdiv_eq_ediv_of_nonneg _ (Int.le_of_lt (p2 k))
theorem tmod_val (a b : Int) : Int.tmod a b = a - Int.tdiv a b * b := by
  have := Int.mul_tdiv_add_tmod a b
  rw [Int.mul_comm]; omega
theorem tmod_i64 (a b : Int) (ha : I64 a) : I64 (Int.tmod a b) := by
  obtain ⟨h1, h2⟩ := ha
  have h3 : (Int.tmod a b).natAbs = a.natAbs % b.natAbs := Int.natAbs_tmod a b
  have h4 : a.natAbs % b.natAbs ≤ a.natAbs := Nat.mod_le _ _
  by_cases h : 0 ≤ a
  · have := Int.tmod_nonneg b h
    exact ⟨by omega, by omega⟩
  · obtain ⟨x, rfl⟩ : ∃ x : Int, a = -x := ⟨-a, by omega⟩
    have := Int.tmod_nonneg b (show 0 ≤ x by omega)
    rw [Int.neg_tmod] at *
    exact ⟨by omega, by omega⟩

theorem Do_ref (op a b : Int) (ha : I64 a) (hb : I64 b) : S.ref09_Do_pre op a b ∧ S.ref09_Do op a b = S.word_Do op a b := by
  obtain ⟨l1, l2⟩ := less_eq a b ha hb
  obtain ⟨l3, l4⟩ := less_eq b a hb ha
  obtain ⟨x1, x2⟩ := each_eq a b 0 (.inl rfl)
  obtain ⟨x3, x4⟩ := each_eq a b 1 (.inr (.inl rfl))
  obtain ⟨x5, x6⟩ := each_eq a b 2 (.inr (.inr rfl))
  obtain ⟨s1, s2⟩ := Shift_ref b
  obtain ⟨k, hk⟩ : ∃ k : Nat, b % 64 = (k : Int) ∧ k ≤ 63 := ⟨(b % 64).toNat, by omega, by omega⟩
  obtain ⟨u1, u2⟩ := shift_up a k ha hk.2
  obtain ⟨d1, d2⟩ := shift_down a k ha hk.2
  obtain ⟨a1, a2⟩ := add_eq a b
  obtain ⟨n1, n2⟩ := neg_eq b
  obtain ⟨a3, a4⟩ := add_eq a (IntKind.i64.wrap (0 - b))
  obtain ⟨m1, m2⟩ := mul_eq a b
  obtain ⟨c2, c3, c4, c5, c6, c7⟩ := Dc a b
  have v0 : IntKind.i64.wrap 0 = 0 := by decide
  have v1 : IntKind.i64.wrap 1 = 1 := by decide
  have v2 : IntKind.i64.wrap 2 = 2 := by decide
  have w0 : IntKind.i64.wrap (8 - 8) = 0 := by decide
  have w1 : IntKind.i64.wrap (9 - 8) = 1 := by decide
  have w2 : IntKind.i64.wrap (10 - 8) = 2 := by decide
  have ws : IntKind.i64.wrap (0 - (k : Int)) = -(k : Int) := by rw [IntWalk.i64_in _ (by omega)]; omega
  have mk : min (Int.toNat (k : Int)) 64 = k := by rw [Int.toNat_natCast]; omega
  have le1 : (!decide (b < a)) = decide (a ≤ b) := by
    by_cases h : b < a
    · simp [h, show ¬ a ≤ b by omega]
    · simp [h, show a ≤ b by omega]
  have le2 : (!decide (a < b)) = decide (b ≤ a) := by
    by_cases h : a < b
    · simp [h, show ¬ b ≤ a by omega]
    · simp [h, show b ≤ a by omega]
  by_cases h0 : op = 0
  · subst h0; exact ⟨by simp [ref09_Do_pre, All], by rw [D0]; simp [ref09_Do, bit_ref]⟩
  by_cases h1 : op = 1
  · subst h1; exact ⟨by simp [ref09_Do_pre, All], by rw [D1]; simp [ref09_Do, bit_ref]⟩
  by_cases h2 : op = 2
  · subst h2; exact ⟨by simp [ref09_Do_pre, All], by rw [c2]; simp [ref09_Do, bit_ref]⟩
  by_cases h3 : op = 3
  · subst h3; exact ⟨by simp [ref09_Do_pre, All], by rw [c3]; simp [ref09_Do, bit_ref]⟩
  by_cases h4 : op = 4
  · subst h4; exact ⟨by simp [ref09_Do_pre, All, l1], by rw [c4]; simp [ref09_Do, bit_ref, l2]⟩
  by_cases h5 : op = 5
  · subst h5; exact ⟨by simp [ref09_Do_pre, All, l3], by rw [c5, ← le1]; simp [ref09_Do, bit_ref, l4]⟩
  by_cases h6 : op = 6
  · subst h6; exact ⟨by simp [ref09_Do_pre, All, l3], by rw [c6]; simp [ref09_Do, bit_ref, l4]⟩
  by_cases h7 : op = 7
  · subst h7; exact ⟨by simp [ref09_Do_pre, All, l1], by rw [c7, ← le2]; simp [ref09_Do, bit_ref, l2]⟩
  by_cases h8 : op = 8
  · subst h8; exact ⟨by simp [ref09_Do_pre, All, w0, v0, x1], by rw [D8, show BinOp.or = opOf 0 from rfl, ← x2]; simp [ref09_Do, w0, v0]⟩
  by_cases h9 : op = 9
  · subst h9; exact ⟨by simp [ref09_Do_pre, All, w1, v1, x3], by rw [D9, show BinOp.xor = opOf 1 from rfl, ← x4]; simp [ref09_Do, w1, v1]⟩
  by_cases h10 : op = 10
  · subst h10; exact ⟨by simp [ref09_Do_pre, All, w2, v2, x5], by rw [D10, show BinOp.and = opOf 2 from rfl, ← x6]; simp [ref09_Do, w2, v2]⟩
  by_cases h11 : op = 11
  · subst h11; exact ⟨by simp [ref09_Do_pre, All, s1, s2, hk.1, u1], by rw [D11, hk.1, mk, ← u2]; simp [ref09_Do, s2, hk.1]⟩
  by_cases h12 : op = 12
  · subst h12; exact ⟨by simp only [ref09_Do_pre, All, s1, s2, hk.1, ws, d1]; simp, by rw [D12, hk.1, mk, fdiv_pow, ← d2]; simp only [ref09_Do, s2, hk.1, ws]; simp⟩
  by_cases h13 : op = 13
  · subst h13; exact ⟨by simp [ref09_Do_pre, All, a1], by rw [D13, ← a2]; simp [ref09_Do]⟩
  by_cases h14 : op = 14
  · subst h14; exact ⟨by simp only [ref09_Do_pre, All, n1, n2, a3]; simp, by
      rw [D14, show IntKind.i64.wrap (a - b) = IntKind.i64.wrap (a + IntKind.i64.wrap (0 - b)) by simp only [w64]; omega, ← a4]; simp only [ref09_Do, n2]; simp⟩
  by_cases h15 : op = 15
  · subst h15; exact ⟨by simp [ref09_Do_pre, All, m1], by rw [D15, ← m2]; simp [ref09_Do]⟩
  by_cases h16 : op = 16
  · subst h16
    by_cases hz : b = 0
    · subst hz; exact ⟨by simp [ref09_Do_pre], by rw [D16z]; simp [ref09_Do]⟩
    · obtain ⟨q1, q2⟩ := quotient_eq a b ha hb hz
      have hz' : (b == 0) = false := beq_eq_false_iff_ne.2 hz
      exact ⟨by simp [ref09_Do_pre, All, q1, hz'], by rw [D16 a b hz, ← q2]; simp [ref09_Do, hz']⟩
  by_cases h17 : op = 17
  · subst h17
    by_cases hz : b = 0
    · subst hz; exact ⟨by simp [ref09_Do_pre], by rw [D17z]; simp [ref09_Do]⟩
    · obtain ⟨q1, q2⟩ := quotient_eq a b ha hb hz
      obtain ⟨q3, q4⟩ := mul_eq (IntKind.i64.wrap (Int.tdiv a b)) b
      obtain ⟨q5, q6⟩ := neg_eq (IntKind.i64.wrap (IntKind.i64.wrap (Int.tdiv a b) * b))
      obtain ⟨q7, q8⟩ := add_eq a (IntKind.i64.wrap (0 - IntKind.i64.wrap (IntKind.i64.wrap (Int.tdiv a b) * b)))
      have hz' : (b == 0) = false := beq_eq_false_iff_ne.2 hz
      have key : Int.tmod a b = IntKind.i64.wrap (a + IntKind.i64.wrap (0 - IntKind.i64.wrap (IntKind.i64.wrap (Int.tdiv a b) * b))) := by
        have t1 := tmod_i64 a b ha
        have t2 := tmod_val a b
        have t3 : IntKind.i64.wrap (IntKind.i64.wrap (Int.tdiv a b) * b) = IntKind.i64.wrap (Int.tdiv a b * b) := by
          have e : ∃ t : Int, IntKind.i64.wrap (Int.tdiv a b) = Int.tdiv a b + 18446744073709551616 * t := ⟨-((Int.tdiv a b + 9223372036854775808) / 18446744073709551616), by rw [w64]; omega⟩
          obtain ⟨t, ht⟩ := e
          rw [ht, Int.add_mul, Int.mul_assoc]
          generalize Int.tdiv a b * b = u
          generalize t * b = v
          simp only [w64]; omega
        rw [t3]
        obtain ⟨t4, t5⟩ := t1
        generalize Int.tdiv a b * b = u at *
        simp only [w64]; omega
      exact ⟨by simp only [ref09_Do_pre, All, q1, q2, q3, q4, q5, q6, q7, hz']; simp, by rw [D17 a b hz, key, ← q8]; simp only [ref09_Do, q2, q4, q6, hz']; simp⟩
  · have hno : op < 0 ∨ 17 < op := by omega
    have n : ∀ k : Int, 0 ≤ k → k ≤ 17 → (op == k) = false := fun k h1 h2 => beq_eq_false_iff_ne.2 (by omega)
    exact ⟨by simp [ref09_Do_pre, n], by rw [Dno op a b hno]; simp [ref09_Do, n]⟩

theorem One_ref (op a : Int) (ha : I64 a) : S.ref09_One_pre op a ∧ S.ref09_One op a = S.word_One op a := by
  obtain ⟨n1, n2⟩ := neg_eq a
  obtain ⟨i1, i2⟩ := Inv_eq a
  refine ⟨by simp only [ref09_One_pre, All, n1, i1]; simp, ?_⟩
  have hx : bits .xor .i64 (if IntKind.i64.signed then -1 else IntKind.i64.max) a = IntKind.i64.wrap (-a - 1) := by
    have e : bits .xor .i64 (if IntKind.i64.signed then -1 else IntKind.i64.max) a = IntKind.i64.wrap ((BitVec.ofInt 64 (-1) ^^^ BitVec.ofInt 64 a).toNat : Int) := rfl
    have e2 : BitVec.ofInt 64 (-1) = BitVec.allOnes 64 := rfl
    rw [e, e2, BitVec.allOnes_xor, BitVec.toNat_not, BitVec.toNat_ofInt]
    have h : (((a % ((2 ^ 64 : Nat) : Int)).toNat : Nat) : Int) = a % 18446744073709551616 := by
      have : ((2 ^ 64 : Nat) : Int) = 18446744073709551616 := rfl
      rw [this]; omega
    generalize (a % ((2 ^ 64 : Nat) : Int)).toNat = u at *
    have h2 : ((2 ^ 64 - 1 - u : Nat) : Int) = 18446744073709551615 - a % 18446744073709551616 := by
      have : 2 ^ 64 = 18446744073709551616 := rfl
      rw [this]; omega
    rw [h2]; simp only [w64]; omega
  have ht : (!(a != 0)) = (a == 0) := by simp only [bne, Bool.not_not]
  simp only [ref09_One, word_One, n2, i2, hx, bit_ref, word_Truth, word_Bit, ht]
end S
