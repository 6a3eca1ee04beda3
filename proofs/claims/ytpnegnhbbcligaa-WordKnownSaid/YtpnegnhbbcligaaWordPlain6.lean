/-
  The stage's theorem on what operators make of numbers, in plain words.
-/
import Derived.Test.YtpnegnhbbcligaaWordPlain5
set_option linter.all false
open Go Vm
namespace S

theorem O18 (a : Int) : S.word_One 18 a = (IntKind.i64.wrap (0 - a), true) := rfl
theorem O20 (a : Int) (ha : I64 a) : S.word_One 20 a = (-a - 1, true) := by
  rw [← (One_ref 20 a ha).2]
  show (S.ref09_Inv a, true) = _
  obtain ⟨h1, h2⟩ := ha
  rw [(Inv_eq a).2, IntWalk.i64_in _ (by omega)]

/-- What a quotient and a rest are. -/
theorem div_part (a b : Int) (ha : I64 a) (hb : I64 b) (h0 : b ≠ 0) :
    (((IntKind.i64.wrap (IntKind.i64.wrap (IntKind.i64.wrap (Int.tdiv a b) * b) + Int.tmod a b) != a) || (Int.tmod a b != 0 && !(decide (Int.tmod a b < 0) == decide (a < 0)))) || (decide (b > 0) && (decide (Int.tmod a b ≥ b) || decide (Int.tmod a b ≤ IntKind.i64.wrap (0 - b)))) || ((decide (b < 0) && b != (-9223372036854775808)) && (decide (Int.tmod a b ≥ IntKind.i64.wrap (0 - b)) || decide (Int.tmod a b ≤ b)))) = false := by
  have t1 := tmod_i64 a b ha
  have t2 := tmod_val a b
  have t3 : IntKind.i64.wrap (IntKind.i64.wrap (Int.tdiv a b) * b) = IntKind.i64.wrap (Int.tdiv a b * b) := by
    obtain ⟨t, ht⟩ : ∃ t : Int, IntKind.i64.wrap (Int.tdiv a b) = Int.tdiv a b + 18446744073709551616 * t := ⟨-((Int.tdiv a b + 9223372036854775808) / 18446744073709551616), by rw [w64]; omega⟩
    rw [ht, Int.add_mul, Int.mul_assoc]
    generalize Int.tdiv a b * b = u
    generalize t * b = v
    simp only [w64]; omega
  have nn : (Int.tmod a b).natAbs = a.natAbs % b.natAbs := Int.natAbs_tmod a b
  have hlt : a.natAbs % b.natAbs < b.natAbs := Nat.mod_lt _ (by omega)
  have hsg : (0 ≤ a → 0 ≤ Int.tmod a b) ∧ (a < 0 → Int.tmod a b ≤ 0) := by
    refine ⟨fun h => Int.tmod_nonneg b h, fun h => ?_⟩
    obtain ⟨x, rfl⟩ : ∃ x : Int, a = -x := ⟨-a, by omega⟩
    have := Int.tmod_nonneg b (show 0 ≤ x by omega)
    rw [Int.neg_tmod]; omega
  rw [t3]
  obtain ⟨h1, h2⟩ := ha
  obtain ⟨h3, h4⟩ := hb
  obtain ⟨h5, h6⟩ := t1
  obtain ⟨s1, s2⟩ := hsg
  generalize Int.tdiv a b * b = u at *
  generalize Int.tmod a b = r at *
  have e1 : (IntKind.i64.wrap (IntKind.i64.wrap u + r) != a) = false := by
    have : IntKind.i64.wrap (IntKind.i64.wrap u + r) = a := by simp only [w64]; omega
    rw [this]; exact bne_self_eq_false a
  have e2 : (r != 0 && !(decide (r < 0) == decide (a < 0))) = false := by
    by_cases hr : r = 0
    · subst hr; rfl
    · by_cases ha0 : a < 0
      · have : r < 0 := by have := s2 ha0; omega
        rw [decide_eq_true ha0, decide_eq_true this]; simp
      · have : ¬ r < 0 := by have := s1 (by omega); omega
        rw [decide_eq_false ha0, decide_eq_false this]; simp
  have e3 : (decide (b > 0) && (decide (r ≥ b) || decide (r ≤ IntKind.i64.wrap (0 - b)))) = false := by
    by_cases hp : b > 0
    · have e : IntKind.i64.wrap (0 - b) = 0 - b := IntWalk.i64_in _ (by omega)
      rw [e, decide_eq_false (show ¬ r ≥ b by omega), decide_eq_false (show ¬ r ≤ 0 - b by omega)]; simp
    · rw [decide_eq_false hp]; rfl
  have e4 : ((decide (b < 0) && b != (-9223372036854775808)) && (decide (r ≥ IntKind.i64.wrap (0 - b)) || decide (r ≤ b))) = false := by
    by_cases hp : b < 0 ∧ b ≠ -9223372036854775808
    · have e : IntKind.i64.wrap (0 - b) = 0 - b := IntWalk.i64_in _ (by omega)
      rw [e, decide_eq_false (show ¬ r ≥ 0 - b by omega), decide_eq_false (show ¬ r ≤ b by omega)]; simp
    · have : (decide (b < 0) && b != (-9223372036854775808)) = false := by
        by_cases h : b < 0
        · have : b = -9223372036854775808 := by
            rcases Classical.em (b = -9223372036854775808) with h' | h'
            · exact h'
            · exact absurd ⟨h, h'⟩ hp
          rw [this]; rfl
        · rw [decide_eq_false h]; rfl
      rw [this]; rfl
  rw [e1, e2, e3, e4]; rfl

theorem shift_part (a b : Int) (ha : I64 a) : ((decide (b % 64 < 64) && ((Int.fdiv a (2 ^ min (Int.toNat (IntKind.u64.wrap (63 - b % 64))) 64) == 0) || (Int.fdiv a (2 ^ min (Int.toNat (IntKind.u64.wrap (63 - b % 64))) 64) == (-1)))) &&
    (Int.fdiv (IntKind.i64.wrap (a * 2 ^ min (Int.toNat (b % 64)) 64)) (2 ^ min (Int.toNat (b % 64)) 64) != a)) = false := by
  obtain ⟨k, hk, hk2⟩ : ∃ k : Nat, b % 64 = (k : Int) ∧ k ≤ 63 := ⟨(b % 64).toNat, by omega, by omega⟩
  rw [hk]
  have e1 : IntKind.u64.wrap (63 - (k : Int)) = ((63 - k : Nat) : Int) := by rw [IntWalk.u64_in _ (by omega)]; omega
  have m1 : min (Int.toNat (k : Int)) 64 = k := by rw [Int.toNat_natCast]; omega
  have m2 : min (Int.toNat ((63 - k : Nat) : Int)) 64 = 63 - k := by rw [Int.toNat_natCast]; omega
  rw [e1, m1, m2, fdiv_pow, fdiv_pow]
  by_cases h : a / 2 ^ (63 - k) = 0 ∨ a / 2 ^ (63 - k) = -1
  · have hp := p2 (63 - k)
    have hq := p2 k
    have hm := Int.mul_ediv_add_emod a (2 ^ (63 - k))
    have h3 := Int.emod_nonneg a (Int.ne_of_gt hp)
    have h4 := Int.emod_lt_of_pos a hp
    have e : (2 : Int) ^ (63 - k) * 2 ^ k = 9223372036854775808 := by
      rw [← Int.pow_add, show 63 - k + k = 63 by omega]; rfl
    have hb : -(2 : Int) ^ (63 - k) ≤ a ∧ a < 2 ^ (63 - k) := by
      rcases h with h | h
      · rw [h] at hm; omega
      · rw [h] at hm; omega
    have h5 := Int.mul_le_mul_of_nonneg_right hb.1 (Int.le_of_lt hq)
    have h6 := Int.mul_lt_mul_of_pos_right hb.2 hq
    rw [Int.neg_mul, e] at h5
    rw [e] at h6
    have hw : IntKind.i64.wrap (a * 2 ^ k) = a * 2 ^ k := IntWalk.i64_in _ (by omega)
    rw [hw, Int.mul_ediv_cancel _ (Int.ne_of_gt hq), bne_self_eq_false, Bool.and_false]
  · have h1 : (a / 2 ^ (63 - k) == 0) = false := beq_eq_false_iff_ne.2 (fun e => h (.inl e))
    have h2 : (a / 2 ^ (63 - k) == (-1)) = false := beq_eq_false_iff_ne.2 (fun e => h (.inr e))
    rw [h1, h2]; simp

theorem WordLaws_all (a b : Int) (ha : I64 a) (hb : I64 b) : S.law09_WordLaws_pre a b ∧ S.law09_WordLaws a b = true := by
  obtain ⟨wp, wv⟩ := works09
  obtain ⟨c2, c3, c4, c5, c6, c7⟩ := Dc a b
  have sp := shift_part a b ha
  have i1 := O20 a ha
  have hin : I64 (-a - 1) := by obtain ⟨h1, h2⟩ := ha; exact ⟨by omega, by omega⟩
  have i2 := O20 (-a - 1) hin
  have hback : -(-a - 1) - 1 = a := by omega
  rw [hback] at i2
  have hbelow : IntKind.i64.wrap (IntKind.i64.wrap (0 - a) - 1) = -a - 1 := by
    obtain ⟨h1, h2⟩ := ha
    simp only [w64]; omega
  have s0 : (0 : Int) ≤ b % 64 := by omega
  have hsu : (0 : Int) ≤ IntKind.u64.wrap (63 - b % 64) := by rw [wu64]; omega
  -- comparisons
  have cmp : ((IntKind.i64.wrap (IntKind.i64.wrap ((bif decide (a < b) then 1 else 0) + (bif a == b then 1 else 0)) + (bif decide (b < a) then 1 else 0)) == 1) && ((bif decide (a ≤ b) then (1 : Int) else 0) == IntKind.i64.wrap ((bif decide (a < b) then 1 else 0) + (bif a == b then 1 else 0)))
      && ((bif decide (b ≤ a) then (1 : Int) else 0) == IntKind.i64.wrap ((bif decide (b < a) then 1 else 0) + (bif a == b then 1 else 0))) && ((bif a != b then (1 : Int) else 0) == IntKind.i64.wrap (1 - (bif a == b then 1 else 0)))) = true := by
    rcases Int.lt_trichotomy a b with h | h | h
    · have h1 : (a == b) = false := beq_eq_false_iff_ne.2 (by omega)
      have h1' : (a != b) = true := bne_iff_ne.2 (by omega)
      rw [h1, h1', decide_eq_true h, decide_eq_false (show ¬ b < a by omega), decide_eq_true (show a ≤ b by omega), decide_eq_false (show ¬ b ≤ a by omega)]; decide
    · subst h
      rw [beq_self_eq_true, bne_self_eq_false, decide_eq_false (show ¬ a < a by omega), decide_eq_true (show a ≤ a by omega)]; decide
    · have h1 : (a == b) = false := beq_eq_false_iff_ne.2 (by omega)
      have h1' : (a != b) = true := bne_iff_ne.2 (by omega)
      rw [h1, h1', decide_eq_true h, decide_eq_false (show ¬ a < b by omega), decide_eq_true (show b ≤ a by omega), decide_eq_false (show ¬ a ≤ b by omega)]; decide
  by_cases h0 : b = 0
  · subst h0
    refine ⟨?_, ?_⟩
    · simp only [law09_WordLaws_pre, All, Do_pre, wp, Shift_word, s0, hsu, implies_true, and_self]
    · simp only [law09_WordLaws, D16z, D17z, D11, D12, Shift_word, sp, c2, c3, c4, c5, c6, c7, i1, i2, O18, D14, hbelow, cmp, wv, bne_self_eq_false, beq_self_eq_true, Bool.not_true, Bool.or_self, cond_false, Bool.and_self]
  · have dp := div_part a b ha hb h0
    have hb1 : (b != 0) = true := bne_iff_ne.2 h0
    refine ⟨?_, ?_⟩
    · simp only [law09_WordLaws_pre, All, Do_pre, wp, Shift_word, s0, hsu, implies_true, and_self]
    · simp only [law09_WordLaws, D16 a b h0, D17 a b h0, D15, D13, hb1, dp, D11, D12, Shift_word, sp, c2, c3, c4, c5, c6, c7, i1, i2, O18, D14, hbelow, cmp, wv, bne_self_eq_false, beq_self_eq_true, Bool.not_true, Bool.or_self, cond_false, cond_true, Bool.and_self]
theorem WordLaws_law (a b : Int) (ha : inr .i64 a) (hb : inr .i64 b) : S.law09_WordLaws_pre a b ∧ S.law09_WordLaws a b = true :=
  WordLaws_all a b (inr_i64.1 ha) (inr_i64.1 hb)
end S
