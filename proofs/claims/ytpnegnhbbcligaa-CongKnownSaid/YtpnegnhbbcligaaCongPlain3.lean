/-
  Products of remainders; and what is made of congruences.
-/
import Derived.Test.YtpnegnhbbcligaaCongPlain2
set_option linter.all false
open Go Vm
namespace S

theorem mul_mod_l (x c d m : Int) : (x + c % m * d) % m = (x + c * d) % m := by
  have h := Int.mul_ediv_add_emod c m
  have e : c * d = m * (c / m * d) + c % m * d := by
    have : c * d = (m * (c / m) + c % m) * d := by rw [h]
    rw [this, Int.add_mul, Int.mul_assoc]
  rw [e, show x + (m * (c / m * d) + c % m * d) = (x + c % m * d) + m * (c / m * d) by omega, Int.add_mul_emod_self_left]
theorem mod_mul_l (c d m : Int) : c % m * d % m = c * d % m := by
  have := mul_mod_l 0 c d m; rwa [Int.zero_add, Int.zero_add] at this

theorem times_both (a b m : Int) (ha : 0 ≤ a ∧ a ≤ 18446744073709551615) (hb : 0 ≤ b ∧ b ≤ 18446744073709551615) (hm : 0 < m) (hm2 : m ≤ 18446744073709551615) : S.cong_times_pre a b m ∧ S.cong_times a b m = a * b % m := by
  have h0 := Int.mul_nonneg ha.1 hb.1
  have e := Mul64_eq a b ha hb
  have hq := Int.ediv_nonneg h0 (show (0 : Int) ≤ 18446744073709551616 by decide)
  have r := mod_range (a * b / 18446744073709551616) m hm
  have t : Int.tmod (a * b / 18446744073709551616) m = a * b / 18446744073709551616 % m := tmod_pos _ _ hq
  have key : S.math_bits_Div64_pre (a * b / 18446744073709551616 % m) (a * b % 18446744073709551616) m ∧ (S.math_bits_Div64 (a * b / 18446744073709551616 % m) (a * b % 18446744073709551616) m).2 = a * b % m := by
    have fin : (a * b / 18446744073709551616 % m * 18446744073709551616 + a * b % 18446744073709551616) % m = a * b % m := by
      rw [Int.add_comm, mul_mod_l]; congr 1; omega
    by_cases hz : a * b / 18446744073709551616 % m = 0
    · rw [hz] at fin ⊢
      obtain ⟨p, v⟩ := Div64_small (a * b % 18446744073709551616) m (by omega) (by omega) hm
      refine ⟨p, ?_⟩
      rw [v]; rw [Int.zero_mul, Int.zero_add] at fin; exact fin
    · obtain ⟨p, v⟩ := Div64_eq (a * b / 18446744073709551616 % m) (a * b % 18446744073709551616) m (by omega) r.2 hm2 (by omega) (by omega)
      refine ⟨p, ?_⟩
      rw [v]; exact fin
  refine ⟨?_, ?_⟩
  · simp only [cong_times_pre, e, math_bits_Rem64_pre, t, All, and_true]; exact ⟨by omega, key.1⟩
  · simp only [cong_times, e, math_bits_Rem64, t, key.2]

theorem reftimes_run (m C : Int) (hm : 0 < m) (hm2 : m ≤ 18446744073709551615) (x : S.ref20_times_L0) (h : x.m = m ∧ (0 ≤ x.a ∧ x.a < m) ∧ (0 ≤ x.out ∧ x.out < m) ∧ (0 ≤ x.b ∧ x.b ≤ 18446744073709551615) ∧ (x.out + x.a * x.b) % m = C) :
    ∃ y, Runs ref20_times_L0_step ref20_times_L0_vcs x y ∧ y.out = C := by
  refine Runs.of (step := ref20_times_L0_step) (vcs := ref20_times_L0_vcs) (fun x => x.m = m ∧ (0 ≤ x.a ∧ x.a < m) ∧ (0 ≤ x.out ∧ x.out < m) ∧ (0 ≤ x.b ∧ x.b ≤ 18446744073709551615) ∧ (x.out + x.a * x.b) % m = C) (fun x => x.b.toNat) (fun y => y.out = C) ?_ x h
  clear h x
  rintro ⟨a, b, _, out⟩ ⟨rfl, ha, ho, hb, hC⟩
  dsimp only at *
  refine ⟨by simp [ref20_times_L0_vcs], ?_⟩
  simp only [ref20_times_L0_step]
  by_cases h : b > 0
  · have e2 : IntKind.u64.wrap (Int.tdiv b 2) = b / 2 := by rw [Int.tdiv_eq_ediv_of_nonneg hb.1, IntWalk.u64_in _ (by omega)]
    rw [decide_eq_true h, cond_true, tmod_pos b 2 hb.1, e2, refplus_eq out a _ ho ha hm2, refplus_eq a a _ ha ha hm2]
    have ra := mod_range (a + a) _ hm
    have ro := mod_range (out + a) _ hm
    refine ⟨⟨rfl, ra, ?_, by dsimp only; omega, ?_⟩, by dsimp only; omega⟩
    · dsimp only; cases (b % 2 == 1) <;> simp only [cond_true, cond_false] <;> omega
    · dsimp only
      rw [mul_mod_l]
      have hb2 : b = 2 * (b / 2) + b % 2 := by omega
      have eab : a * b = (a + a) * (b / 2) + a * (b % 2) := by
        have : a * b = a * (2 * (b / 2) + b % 2) := by rw [← hb2]
        rw [this, Int.mul_add, ← Int.mul_assoc, show a * 2 = a + a by omega]
      rw [← hC, eab]
      by_cases hbit : b % 2 = 1
      · rw [show (b % 2 == 1) = true by simpa using hbit, cond_true, hbit, Int.mul_one, Int.emod_add_emod]
        congr 1; omega
      · have hz : b % 2 = 0 := by omega
        rw [show (b % 2 == 1) = false from beq_eq_false_iff_ne.2 hbit, cond_false, hz, Int.mul_zero, Int.add_zero]
  · have hb0 : b = 0 := by omega
    rw [decide_eq_false h, cond_false]
    subst hb0
    rw [Int.mul_zero, Int.add_zero, Int.emod_eq_of_lt ho.1 ho.2] at hC
    exact hC
theorem reftimes_both (a b m : Int) (ha : 0 ≤ a ∧ a < m) (hb : 0 ≤ b ∧ b ≤ 18446744073709551615) (hm : 0 < m) (hm2 : m ≤ 18446744073709551615) : S.ref20_times_pre a b m ∧ S.ref20_times a b m = a * b % m := by
  obtain ⟨y, hy, ho⟩ := reftimes_run m (a * b % m) hm hm2 ⟨a, b, m, 0⟩ ⟨rfl, ha, ⟨by dsimp only; omega, hm⟩, hb, by dsimp only; rw [Int.zero_add]⟩
  have e : ref20_times_L0_run ⟨a, b, m, 0⟩ = y := theRun_eq (d := fun x => x) hy
  refine ⟨?_, ?_⟩
  · simp only [ref20_times_pre, e, All, and_true]; exact hy
  · simp only [ref20_times, e, ho]

theorem fits_eq (a b : Int) (ha : 0 ≤ a ∧ a ≤ 18446744073709551615) (hb : 0 ≤ b ∧ b ≤ 18446744073709551615) : S.cong_fits a b = if a * b < 18446744073709551616 then (a * b, true) else (a * b % 18446744073709551616, false) := by
  have h0 := Int.mul_nonneg ha.1 hb.1
  simp only [cong_fits, Mul64_eq a b ha hb]
  by_cases h : a * b < 18446744073709551616
  · rw [if_pos h]; congr 1
    · omega
    · rw [beq_iff_eq]; omega
  · rw [if_neg h]; congr 1
    rw [beq_eq_false_iff_ne]; omega
theorem reffits_both (a b : Int) (ha : 0 ≤ a ∧ a ≤ 18446744073709551615) (hb : 0 ≤ b ∧ b ≤ 18446744073709551615) : S.ref20_fits_pre a b ∧ S.ref20_fits a b = if a * b < 18446744073709551616 then (a * b, true) else (0, false) := by
  have h0 := Int.mul_nonneg ha.1 hb.1
  refine ⟨?_, ?_⟩
  · simp only [ref20_fits_pre, All, and_true]
    exact ⟨fun h => by have : a > 0 := by simpa using h
                       omega, by simp⟩
  · simp only [ref20_fits]
    by_cases hz : a > 0
    · have e : IntKind.u64.wrap (Int.tdiv 18446744073709551615 a) = 18446744073709551615 / a := by
        rw [Int.tdiv_eq_ediv_of_nonneg (by decide), IntWalk.u64_in]
        have := Int.ediv_nonneg (show (0 : Int) ≤ 18446744073709551615 by decide) (Int.le_of_lt hz)
        have := Int.ediv_le_self a (show (0 : Int) ≤ 18446744073709551615 by decide)
        omega
      rw [e, decide_eq_true hz, Bool.true_and]
      have hiff : b > 18446744073709551615 / a ↔ ¬ a * b < 18446744073709551616 := by
        rw [gt_iff_lt, Int.ediv_lt_iff_lt_mul hz, Int.mul_comm b a]; omega
      by_cases h : a * b < 18446744073709551616
      · rw [decide_eq_false (fun h' => (hiff.1 h') h), cond_false, if_pos h, IntWalk.u64_in _ (by omega)]
      · rw [decide_eq_true (hiff.2 h), cond_true, if_neg h]
    · have : a = 0 := by omega
      subst this
      simp
      rfl
end S
