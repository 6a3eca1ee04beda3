/-
  Powers of two, how many digits a number has, and its log.
-/
import Derived.Test.YthgfoemcjkokjaaPowPlain2
set_option linter.all false
open Go Vm
namespace S

theorem val_two (n : Nat) : val ((List.replicate (n / 64 + 1) (0 : Int)).set (n / 64) ((2 ^ (n % 64) : Nat) : Int)) = ((2 ^ n : Nat) : Int) := by
  rw [val_set _ _ _ (by simp), val_rep, getD_rep, Int.sub_zero, Int.zero_add]
  have : (18446744073709551616 : Int) ^ (n / 64) = ((18446744073709551616 ^ (n / 64) : Nat) : Int) := by simp
  rw [this, pow64, ← Int.natCast_mul, ← Nat.pow_add]
  congr 2; omega
theorem two_lt (n : Nat) : 2 ^ (n % 64) ≤ 9223372036854775808 := by
  have : n % 64 ≤ 63 := by omega
  exact Nat.pow_le_pow_right (n := 2) (by decide) this

theorem Two_eq (c : Int) (hc : c ≤ 1000) (n : Nat) (hn : n < 18446744073709551616) : S.power_Two_pre c n ∧ S.power_Two c n = bif fits c (2 ^ n) then (num (2 ^ n), true) else (num 0, false) := by
  have hm := most_eq c hc
  by_cases h2 : 64 * c.toNat ≤ n
  · have hno : fits c (2 ^ n) = false := by
      rw [fits_false]; exact Nat.pow_le_pow_right (by decide) h2
    have e2 : decide ((n : Int) ≥ ((64 * c.toNat : Nat) : Int)) = true := decide_eq_true (by omega)
    refine ⟨?_, ?_⟩
    · simp only [power_Two_pre, hm, e2, Bool.true_eq_false, false_implies, implies_true, and_self]
    · simp only [power_Two, hm, e2, cond_true, hno, cond_false, num_nil]
  · have e2 : decide ((n : Int) ≥ ((64 * c.toNat : Nat) : Int)) = false := decide_eq_false (by omega)
    have hyes : fits c (2 ^ n) = true := by
      rw [fits_iff]; exact Nat.pow_lt_pow_right (by decide) (by omega)
    have d1 : Int.tdiv (n : Int) 64 = ((n / 64 : Nat) : Int) := by rw [Int.tdiv_eq_ediv_of_nonneg (by omega)]; rfl
    have d2 : Int.tmod (n : Int) 64 = ((n % 64 : Nat) : Int) := by rw [Int.tmod_eq_emod_of_nonneg (by omega)]; rfl
    have hn2 : n / 64 < 64000 := by omega
    have w1 : IntKind.u64.wrap ((n / 64 : Nat) : Int) = ((n / 64 : Nat) : Int) := IntWalk.u64_in _ (by omega)
    have w2 : IntKind.u64.wrap (((n / 64 : Nat) : Int) + 1) = ((n / 64 + 1 : Nat) : Int) := by rw [IntWalk.u64_in] <;> omega
    have t2 := two_lt n
    have hv := val_two n
    obtain ⟨P, hP⟩ : ∃ P, P = 2 ^ (n % 64) := ⟨_, rfl⟩
    rw [← hP] at t2 hv
    have w3 : IntKind.u64.wrap (1 * 2 ^ min (n % 64) 64) = (P : Int) := by
      rw [Nat.min_eq_left (by omega), Int.one_mul]
      have : ((2 : Int) ^ (n % 64)) = (P : Int) := by rw [hP]; simp
      rw [this, IntWalk.u64_in _ (by omega)]
    have hl : lim ((List.replicate (n / 64 + 1) (0 : Int)).set (n / 64) (P : Int)) := lim_set (lim_rep _) _ _ (by omega)
    obtain ⟨p, q, _⟩ := nLimbs _ hl (by simp; omega)
    rw [hv, Int.toNat_natCast] at q
    refine ⟨?_, ?_⟩
    · simp only [power_Two_pre, hm, e2, d1, d2, w1, w2, Int.toNat_natCast, w3, All, p, Bool.false_eq_true, false_implies, true_implies, true_and, and_true, List.length_replicate]
      omega
    · simp only [power_Two, hm, e2, d1, d2, w1, w2, Int.toNat_natCast, w3, q, hyes, cond_true, cond_false]

theorem getD_digs (i x : Nat) : (digs x).getD i 0 = ((x / 18446744073709551616 ^ i % 18446744073709551616 : Nat) : Int) := by
  induction i generalizing x with
  | zero =>
    rcases Nat.eq_zero_or_pos x with h | h
    · subst h; simp [digs]
    · rw [digs_pos h, Nat.pow_zero, Nat.div_one]; rfl
  | succ i ih =>
    rcases Nat.eq_zero_or_pos x with h | h
    · subst h; simp [digs]
    · rw [digs_pos h, List.getD_cons_succ, ih, Nat.div_div_eq_div_mul, Nat.pow_succ, Nat.mul_comm 18446744073709551616]
theorem digs_len_pos (x : Nat) (h : x ≠ 0) : 1 ≤ (digs x).length := by
  rw [digs_pos (by omega), List.length_cons]; omega
theorem top_ge (x : Nat) (h : x ≠ 0) : 18446744073709551616 ^ ((digs x).length - 1) ≤ x := by
  have h1 := digs_len_pos x h
  rcases Nat.lt_or_ge x (18446744073709551616 ^ ((digs x).length - 1)) with h2 | h2
  · have := digs_len x _ h2; omega
  · exact h2

theorem Bits_eq (x : Nat) (h : small x) : S.power_Bits_pre (num x) ∧ S.power_Bits (num x) = (bitLen x : Int) := by
  have ap := All_pre x h
  unfold small at h
  rcases Nat.eq_zero_or_pos x with h0 | h0
  · subst h0
    have e : (((digs 0).length : Int) == 0) = true := by simp [digs]
    refine ⟨?_, ?_⟩
    · simp only [power_Bits_pre, All_num, e, All, ap, Bool.true_eq_false, false_implies, implies_true, and_self]
    · simp only [power_Bits, All_num, e, cond_true]; rfl
  · have h1 := digs_len_pos x (by omega)
    have hge := top_ge x (by omega)
    have hlt := lt_digs x
    have hL : 64 * (digs x).length ≤ 6400000 := by omega
    have e : (((digs x).length : Int) == 0) = false := by rw [beq_eq_false_iff_ne]; omega
    have w1 : IntKind.i64.wrap (((digs x).length : Int) - 1) = (((digs x).length - 1 : Nat) : Int) := by rw [IntWalk.i64_in] <;> omega
    have g := getD_digs ((digs x).length - 1) x
    generalize hk : (digs x).length - 1 = k at *
    have hlen : (digs x).length = k + 1 := by omega
    rw [hlen] at hlt hL e w1
    have hpos : 0 < 18446744073709551616 ^ k := Nat.pow_pos (by decide)
    have t1 : 1 ≤ x / 18446744073709551616 ^ k := (Nat.le_div_iff_mul_le hpos).2 (by omega)
    have t2 : x / 18446744073709551616 ^ k < 18446744073709551616 := (Nat.div_lt_iff_lt_mul hpos).2 (by rw [Nat.pow_succ, Nat.mul_comm] at hlt; exact hlt)
    rw [Nat.mod_eq_of_lt t2] at g
    have b1 : bitLen x = 64 * k + bitLen (x / 2 ^ (64 * k)) := bitLen_shift x (64 * k) (by rw [← pow64]; omega)
    rw [← pow64] at b1
    generalize hT : x / 18446744073709551616 ^ k = T at *
    obtain ⟨l1, l2⟩ := Len64_both (T : Int) (by omega) (by omega)
    have hb := bitLen_64 T t2
    have w2 : IntKind.u64.wrap ((k : Nat) : Int) = (k : Int) := IntWalk.u64_in _ (by omega)
    have w3 : IntKind.u64.wrap ((k : Int) * 64) = (k : Int) * 64 := IntWalk.u64_in _ (by omega)
    have w4 : IntKind.u64.wrap (bitLen T : Int) = (bitLen T : Int) := IntWalk.u64_in _ (by omega)
    have w5 : IntKind.u64.wrap ((k : Int) * 64 + (bitLen T : Int)) = (k : Int) * 64 + (bitLen T : Int) := IntWalk.u64_in _ (by omega)
    refine ⟨?_, ?_⟩
    · simp only [power_Bits_pre, All_num, hlen, e, w1, Int.toNat_natCast, g, All, l1, ap, Bool.false_eq_true, false_implies, true_implies, true_and, and_true]
      omega
    · simp only [power_Bits, All_num, hlen, e, w1, w2, w3, Int.toNat_natCast, g, l2, bl_nat, w4, w5, cond_false]
      omega

def lg (x : Nat) : Nat := if x = 0 then 0 else bitLen (x - 1)
theorem lg_le (x : Nat) : x ≤ 2 ^ lg x := by
  unfold lg; split
  · omega
  · have := (bitLen_spec (x - 1)).1; omega
theorem lg_gt (x : Nat) (h : lg x ≠ 0) : 2 ^ (lg x - 1) < x := by
  unfold lg at h ⊢
  split at h
  · omega
  · rename_i h0
    rw [if_neg h0]
    have h1 : x - 1 ≠ 0 := by intro e; rw [e] at h; exact h rfl
    have := (bitLen_spec (x - 1)).2 h1; omega
theorem Log_eq (x : Nat) (h : small x) : S.power_Log_pre (num x) ∧ S.power_Log (num x) = (lg x : Int) := by
  obtain ⟨o1, o2⟩ := one_num
  obtain ⟨s1', s2'⟩ := nSub x 1 h small1
  by_cases h0 : x < 1
  · rw [if_pos h0] at s2'
    have e : ((11 : Int) != 0) = true := rfl
    refine ⟨?_, ?_⟩
    · simp only [power_Log_pre, o2, o1, s1', s2', e, All, Bool.true_eq_false, false_implies, implies_true, and_self]
    · simp only [power_Log, o2, s2', e, cond_true, lg, if_pos (show x = 0 by omega)]; rfl
  · rw [if_neg h0] at s2'
    have hs : small (x - 1) := Nat.le_trans (digs_len _ _ (Nat.lt_of_le_of_lt (Nat.sub_le x 1) (lt_digs x))) h
    obtain ⟨b1, b2⟩ := Bits_eq (x - 1) hs
    have e : ((0 : Int) != 0) = false := rfl
    refine ⟨?_, ?_⟩
    · simp only [power_Log_pre, o2, o1, s1', s2', e, All, b1, Bool.false_eq_true, false_implies, implies_true, and_self]
    · simp only [power_Log, o2, s2', e, cond_false, b2, lg, if_neg (show ¬ x = 0 by omega)]
end S
