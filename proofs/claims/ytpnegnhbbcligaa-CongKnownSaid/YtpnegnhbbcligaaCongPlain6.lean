/-
  The greatest power of two that divides a number, by its digits.
-/
import Derived.Test.YtpnegnhbbcligaaCongPlain5
set_option linter.all false
open Go Vm
namespace S
theorem and_compl (n j : Nat) (h : j < 2 ^ n) : j &&& (2 ^ n - (j + 1)) = 0 := by
  apply Nat.eq_of_testBit_eq
  intro i
  rw [Nat.testBit_and, Nat.testBit_two_pow_sub_succ h]
  cases Nat.testBit j i <;> simp
theorem and_odd (a b : Nat) : (2 * a + 1) &&& (2 * b + 1) = 2 * (a &&& b) + 1 := by
  apply Nat.eq_of_testBit_eq
  intro i
  cases i with
  | zero => simp [Nat.testBit_and, Nat.testBit_zero]
  | succ i =>
    rw [Nat.testBit_and, Nat.testBit_succ, Nat.testBit_succ, Nat.testBit_succ, ← Nat.testBit_and]
    congr 1
    have e1 : (2 * a + 1) / 2 = a := by omega
    have e2 : (2 * b + 1) / 2 = b := by omega
    have e3 : (2 * (a &&& b) + 1) / 2 = a &&& b := by omega
    rw [e1, e2, e3]
theorem and_even (a b : Nat) : (2 * a) &&& (2 * b) = 2 * (a &&& b) := by
  apply Nat.eq_of_testBit_eq
  intro i
  cases i with
  | zero => simp [Nat.testBit_and, Nat.testBit_zero]
  | succ i =>
    rw [Nat.testBit_and, Nat.testBit_succ, Nat.testBit_succ, Nat.testBit_succ, ← Nat.testBit_and]
    congr 1
    have e1 : (2 * a) / 2 = a := by omega
    have e2 : (2 * b) / 2 = b := by omega
    have e3 : (2 * (a &&& b)) / 2 = a &&& b := by omega
    rw [e1, e2, e3]
theorem low_odd (n M : Nat) (h : M < 2 ^ (n + 1)) (ho : M % 2 = 1) : M &&& (2 ^ (n + 1) - M) = 1 := by
  obtain ⟨j, rfl⟩ : ∃ j, M = 2 * j + 1 := ⟨M / 2, by omega⟩
  have hp : 2 ^ (n + 1) = 2 * 2 ^ n := by rw [Nat.pow_succ, Nat.mul_comm]
  have hj : j < 2 ^ n := by omega
  have e : 2 ^ (n + 1) - (2 * j + 1) = 2 * (2 ^ n - (j + 1)) + 1 := by omega
  rw [e, and_odd, and_compl n j hj]
theorem low_even (n M : Nat) (h : 2 * M < 2 ^ (n + 1)) : (2 * M) &&& (2 ^ (n + 1) - 2 * M) = 2 * (M &&& (2 ^ n - M)) := by
  have hp : 2 ^ (n + 1) = 2 * 2 ^ n := by rw [Nat.pow_succ, Nat.mul_comm]
  have e : 2 ^ (n + 1) - 2 * M = 2 * (2 ^ n - M) := by omega
  rw [e, and_even]

/-- The rounds of the reference: from p and M to p·(the lowest digit of M). -/
theorem Wrapped_run (R : Int) : ∀ (n M : Nat) (p : Int), 0 < M → M < 2 ^ n → 0 < p → p * 2 ^ n ≤ 18446744073709551616 →
    ∃ y, Runs ref20_Wrapped_L0_step ref20_Wrapped_L0_vcs ⟨p, ⟨(M : Int), R⟩⟩ y ∧ y.c.R = R ∧ y.p = p * ((M &&& (2 ^ n - M) : Nat) : Int) := by
  intro n
  induction n with
  | zero => intro M p h0 h1; simp at h1; omega
  | succ n ih =>
    intro M p h0 h1 hp hb
    have h2n : (1 : Int) ≤ 2 ^ n := by
      have : (0 : Int) < 2 ^ n := Int.pow_pos (by decide)
      omega
    have hpn : p * 2 ^ (n + 1) = 2 * p * 2 ^ n := by rw [Int.pow_succ, Int.mul_comm (2 ^ n) 2, ← Int.mul_assoc, Int.mul_comm p 2]
    have hp2 : 2 * p ≤ 2 * p * 2 ^ n := by
      have := Int.mul_le_mul_of_nonneg_left h2n (show 0 ≤ 2 * p by omega)
      rw [Int.mul_one] at this; exact this
    by_cases ho : M % 2 = 1
    · refine ⟨⟨p, ⟨M, R⟩⟩, .done _ _ (by simp [ref20_Wrapped_L0_vcs]) ?_, rfl, ?_⟩
      · simp only [ref20_Wrapped_L0_step, tmod_pos _ _ (Int.natCast_nonneg M)]
        rw [show ((M : Int) % 2 == 0) = false from beq_eq_false_iff_ne.2 (by omega), cond_false]
      · rw [low_odd n M h1 ho]; simp
    · obtain ⟨m, rfl⟩ : ∃ m, M = 2 * m := ⟨M / 2, by omega⟩
      have hm : m < 2 ^ n := by
        have hp : 2 ^ (n + 1) = 2 * 2 ^ n := by rw [Nat.pow_succ, Nat.mul_comm]
        omega
      by_cases hn : n = 0
      · subst hn; simp at hm; omega
      · have hp4 : 2 * p < 18446744073709551616 := by
          have : (2 : Int) ≤ 2 ^ n := by
            obtain ⟨k, rfl⟩ : ∃ k, n = k + 1 := ⟨n - 1, by omega⟩
            have : (0 : Int) < 2 ^ k := Int.pow_pos (by decide)
            rw [Int.pow_succ]; omega
          have := Int.mul_le_mul_of_nonneg_left this (show 0 ≤ 2 * p by omega)
          omega
        obtain ⟨y, hy, hR, hv⟩ := ih m (2 * p) (by omega) hm (by omega) (by omega)
        refine ⟨y, .next _ ⟨2 * p, ⟨(m : Int), R⟩⟩ _ (by simp [ref20_Wrapped_L0_vcs]) ?_ hy, hR, ?_⟩
        · have hM64 : (m : Int) ≤ 18446744073709551615 := by
            have h3 : (2 : Int) ^ n ≤ 2 * p * 2 ^ n := by
              have := Int.mul_le_mul_of_nonneg_right (show (1 : Int) ≤ 2 * p by omega) (show (0 : Int) ≤ 2 ^ n by omega)
              rw [Int.one_mul] at this; exact this
            have h4 : (m : Int) < ((2 ^ n : Nat) : Int) := Int.ofNat_lt.2 hm
            have h5 : ((2 ^ n : Nat) : Int) = (2 : Int) ^ n := by simp
            omega
          simp only [ref20_Wrapped_L0_step, tmod_pos _ _ (Int.natCast_nonneg (2 * m))]
          rw [show (((2 * m : Nat) : Int) % 2 == 0) = true by rw [beq_iff_eq]; omega, cond_true, IntWalk.u64_in (2 * p) (by omega), Int.tdiv_eq_ediv_of_nonneg (by omega), show ((2 * m : Nat) : Int) / 2 = (m : Int) by omega, IntWalk.u64_in _ (by omega)]
        · rw [hv, low_even n m (by omega)]
          rw [Int.natCast_mul, ← Int.mul_assoc]; congr 1; omega
theorem low_pos : ∀ (n M : Nat), 0 < M → M < 2 ^ n → 0 < M &&& (2 ^ n - M) := by
  intro n
  induction n with
  | zero => intro M h0 h1; simp at h1; omega
  | succ n ih =>
    intro M h0 h1
    by_cases ho : M % 2 = 1
    · rw [low_odd n M h1 ho]; decide
    · obtain ⟨m, rfl⟩ : ∃ m, M = 2 * m := ⟨M / 2, by omega⟩
      have hp : 2 ^ (n + 1) = 2 * 2 ^ n := by rw [Nat.pow_succ, Nat.mul_comm]
      rw [low_even n m h1]
      have := ih m (by omega) (by omega)
      omega
theorem Wrapped_both (c : S.Cong) (hc : S.Cong.ok c) : S.cong_Cong_Wrapped_pre c ∧ S.ref20_Wrapped_pre c ∧ S.cong_Cong_Wrapped c = S.ref20_Wrapped c ∧ (S.ref20_Right c = true → S.cong_Cong_Right (S.cong_Cong_Wrapped c) = true) := by
  have hc' := (ok_iff c).1 hc
  obtain ⟨M, R⟩ := c
  dsimp only at hc'
  simp only [cong_Cong_Wrapped_pre, ref20_Wrapped_pre, cong_Cong_Wrapped, ref20_Wrapped, cong_Cong_single]
  cases h : (M == 0) with
  | true => exact ⟨⟨fun _ => trivial, fun h => Bool.noConfusion h⟩, ⟨fun _ => trivial, fun h => Bool.noConfusion h⟩, rfl, fun hr => hr⟩
  | false =>
    have hM := nb h
    obtain ⟨m, rfl⟩ := Int.eq_ofNat_of_zero_le hc'.1.1
    have hm0 : 0 < m := by omega
    have hm1 : m < 2 ^ 64 := by omega
    obtain ⟨y, hy, hR, hv⟩ := Wrapped_run R 64 m 1 hm0 hm1 (by decide) (by decide)
    have hp := low_pos 64 m hm0 hm1
    have e : ref20_Wrapped_L0_run ⟨1, ⟨(m : Int), R⟩⟩ = y := theRun_eq (d := fun x => x) hy
    have ew : IntKind.u64.wrap (0 - (m : Int)) = ((2 ^ 64 - m : Nat) : Int) := by rw [IntKind.wrap_u64]; omega
    have eb : bits .and .u64 (m : Int) (IntKind.u64.wrap (0 - (m : Int))) = ((m &&& (2 ^ 64 - m) : Nat) : Int) := by
      rw [ew, u64_and _ _ (by omega) (by omega) (by omega) (by omega), Int.toNat_natCast, Int.toNat_natCast]
    rw [Int.one_mul] at hv
    generalize (m &&& (2 ^ 64 - m)) = q at *
    simp only [eb, e, hv, hR, All, and_true, cond_false]
    refine ⟨⟨fun h => Bool.noConfusion h, fun _ => by omega⟩, ⟨fun h => Bool.noConfusion h, fun _ => ⟨hy, by omega⟩⟩, trivial, fun _ => ?_⟩
    rw [Right_eq, Right_iff, tmod_pos _ _ hc'.2.1]; right; exact (mod_range _ _ (by omega)).2

theorem op_run (l : List S.Cong) (hl : l.length ≤ 6) (hr : ∀ c ∈ l, S.cong_Cong_Right c = true) :
    Runs law20_CongOperates_L0_step law20_CongOperates_L0_vcs ⟨false, l, l, 0⟩ (false, ⟨false, l, l, l.length⟩) := by
  have := Runs.count (step := law20_CongOperates_L0_step) (vcs := law20_CongOperates_L0_vcs) l.length (fun i => ⟨false, l, l, (i : Int)⟩) (false, ⟨false, l, l, (l.length : Int)⟩) ?_ ?_
  · simpa using this
  · intro i hi
    have hm : l.getD i ⟨0, 0⟩ ∈ l := by
      rw [List.getD_eq_getElem?_getD, List.getElem?_eq_getElem hi]; exact List.getElem_mem _
    have h1 : IntKind.i64.wrap ((i : Int) + 1) = ((i + 1 : Nat) : Int) := by rw [IntWalk.i64_in]; · rfl
                                                                             · omega
    have hd : decide ((i : Int) < (l.length : Int)) = true := by simp; omega
    refine ⟨?_, ?_⟩
    · simp only [law20_CongOperates_L0_vcs, All, hd, and_true]
      exact ⟨fun _ => ⟨⟨by omega, by omega, by omega, by omega, fun _ => ⟨by omega, by omega⟩⟩, by simp⟩, fun h => Bool.noConfusion h⟩
    · simp only [law20_CongOperates_L0_step, law20_ref, hd, cond_true, Int.toNat_natCast, hr _ hm, h1]
      simp
  · exact ⟨by simp [law20_CongOperates_L0_vcs], by simp [law20_CongOperates_L0_step]⟩
theorem CongOperates_law (a b : S.Cong) (ha : S.Cong.ok a) (hb : S.Cong.ok b) : S.law20_CongOperates_pre a b ∧ S.law20_CongOperates a b = true := by
  by_cases hr : S.ref20_Right a = true ∧ S.ref20_Right b = true
  · obtain ⟨hra, hrb⟩ := hr
    obtain ⟨j1, j2, j3⟩ := Join_both a b ha hb hra
    obtain ⟨a1, a2, a3⟩ := Add_both a b ha hb
    obtain ⟨s0, s1, s2, s3⟩ := Sub_both a b ha hb
    obtain ⟨m0, m1, m2, m3⟩ := Mul_both a b ha hb
    obtain ⟨w0, w1, w2, w3⟩ := Wrapped_both a ha
    obtain ⟨t1, t2, t3⟩ := Meet_both a b ha hb hra hrb
    have hrun := op_run [S.cong_Join a b, S.cong_Add a b, S.cong_Sub a b, S.cong_Mul a b, S.cong_Cong_Wrapped a, (S.cong_Meet a b).1] (by simp) (by
      intro c hc
      simp only [List.mem_cons, List.not_mem_nil, or_false] at hc
      rcases hc with rfl | rfl | rfl | rfl | rfl | rfl
      · exact j3
      · exact a3
      · exact s3
      · exact m3
      · exact w3 hra
      · exact t3)
    have e := theRun_eq (d := fun x => (true, x)) hrun
    have e' : law20_CongOperates_L0_run ⟨false, [S.cong_Join a b, S.cong_Add a b, S.cong_Sub a b, S.cong_Mul a b, S.cong_Cong_Wrapped a, (S.cong_Meet a b).1], [S.cong_Join a b, S.cong_Add a b, S.cong_Sub a b, S.cong_Mul a b, S.cong_Cong_Wrapped a, (S.cong_Meet a b).1], 0⟩ = _ := e
    refine ⟨?_, ?_⟩
    · simp only [law20_CongOperates_pre, law20_ref, hra, hrb, ← j2, ← a2, ← s2, ← m2, ← w2, ← t2, e', All, and_true]
      exact ⟨fun h => Bool.noConfusion h, fun _ => ⟨⟨Meet_pre a b ha hb, t1, Join_pre a b ha hb, Add_pre a b ha hb, s0, m0, w0, j1, a1, s1, m1, w1, hrun⟩, fun h => Bool.noConfusion h, fun _ _ => works_pre⟩⟩
    · simp only [law20_CongOperates, law20_ref, hra, hrb, ← j2, ← a2, ← s2, ← m2, ← w2, ← t2, e', works]
      simp
  · have : (!S.ref20_Right a || !S.ref20_Right b) = true := by
      cases h1 : S.ref20_Right a <;> cases h2 : S.ref20_Right b <;> simp_all
    refine ⟨?_, ?_⟩
    · simp only [law20_CongOperates_pre, law20_ref, this, All, and_true]
      exact ⟨fun _ => works_pre, fun h => Bool.noConfusion h⟩
    · simp only [law20_CongOperates, law20_ref, this, works]; rfl
end S
