/-
  Powers and sums of powers, in plain words: what fits under a cap, and the loops of power.Pow and power.Sum.
-/
import Derived.Test.YthgfoemcjkokjaaLenPlain
import Derived.Test.YthgfoemcjkokjaaNatPlain18
set_option linter.all false
open Go Vm
namespace S

theorem lt_digs (x : Nat) : x < 18446744073709551616 ^ (digs x).length := by
  obtain ⟨e, l⟩ := digs_val x
  have h := val_lt l
  rw [e] at h
  exact Int.ofNat_lt.1 (by simpa using h)
theorem digs_le_iff (x k : Nat) : (digs x).length ≤ k ↔ x < 18446744073709551616 ^ k :=
  ⟨fun h => Nat.lt_of_lt_of_le (lt_digs x) (Nat.pow_le_pow_right (by decide) h), digs_len x k⟩
theorem pow64 (k : Nat) : 18446744073709551616 ^ k = 2 ^ (64 * k) := by
  rw [Nat.pow_mul]
theorem fits_iff (c : Int) (x : Nat) : fits c x = true ↔ x < 2 ^ (64 * c.toNat) := by
  rw [← pow64, ← digs_le_iff]
  unfold fits
  rw [decide_eq_true_iff]
  split <;> omega
theorem fits_false (c : Int) (x : Nat) : fits c x = false ↔ 2 ^ (64 * c.toNat) ≤ x := by
  have := fits_iff c x
  cases h : fits c x
  · simp only [true_iff]; rw [h] at this; simp only [Bool.false_eq_true, false_iff] at this; omega
  · simp only [Bool.true_eq_false, false_iff]; have := this.1 h; omega
theorem fits_mono {c : Int} {a b : Nat} (h : a ≤ b) (hb : fits c b = true) : fits c a = true := by
  rw [fits_iff] at *; omega
theorem fits_not {c : Int} {a b : Nat} (h : a ≤ b) (ha : fits c a = false) : fits c b = false := by
  rw [fits_false] at *; omega
theorem fits_upto {c : Int} {a k : Nat} (h : fits c a = true) (hk : c.toNat ≤ k) : upto k a := by
  rw [fits_iff, ← pow64] at h
  exact Nat.lt_of_lt_of_le h (Nat.pow_le_pow_right (by decide) hk)
theorem fits_small {c : Int} {a : Nat} (h : fits c a = true) (hc : c ≤ 1000) : small a := upto_small (fits_upto (k := 1000) h (by omega)) (by omega)

theorem most_eq (c : Int) (h : c ≤ 1000) : S.power_most c = ((64 * c.toNat : Nat) : Int) := by
  unfold power_most
  by_cases h0 : c ≤ 0
  · simp only [h0, decide_true, cond_true]
    have : c.toNat = 0 := by omega
    rw [this]; rfl
  · have e : IntKind.u64.wrap c = c := IntWalk.u64_in _ (by omega)
    have e2 : IntKind.u64.wrap (c * 64) = c * 64 := IntWalk.u64_in _ (by omega)
    have e3 : ¬ c > 288230376151711743 := by omega
    simp only [h0, decide_false, cond_false, e, e2, e3]
    omega

theorem capMul (c : Int) (a b : Nat) (ha : small a) (hb : small b) : S.nat_Cap_Mul_pre c (num a) (num b) ∧ S.nat_Cap_Mul c (num a) (num b) = bif fits c (a * b) then (num (a * b), true) else (num 0, false) := by
  obtain ⟨p, q⟩ := nMul a b ha hb
  exact ⟨by simp only [nat_Cap_Mul_pre, All, and_true]; exact p, by simp only [nat_Cap_Mul, q, fit_num]⟩
theorem capAdd (c : Int) (a b : Nat) (ha : small a) (hb : small b) : S.nat_Cap_Add_pre c (num a) (num b) ∧ S.nat_Cap_Add c (num a) (num b) = bif fits c (a + b) then (num (a + b), true) else (num 0, false) := by
  obtain ⟨p, q⟩ := nAdd a b ha hb
  exact ⟨by simp only [nat_Cap_Add_pre, All, and_true]; exact p, by simp only [nat_Cap_Add, q, fit_num]⟩
theorem limbs_num (x : Nat) (h : small x) : S.nat_Limbs_pre (digs x) ∧ S.nat_Limbs (digs x) = num x := by
  obtain ⟨e, l⟩ := digs_val x
  obtain ⟨p, q, _⟩ := nLimbs (digs x) l h
  rw [e, Int.toNat_natCast] at q
  exact ⟨p, q⟩
theorem powfit (c : Int) (x : Nat) (h : small x) : S.power_fit_pre c (num x) ∧ S.power_fit c (num x) = bif fits c x then (num x, true) else (num 0, false) := by
  obtain ⟨p, q⟩ := limbs_num x h
  refine ⟨?_, ?_⟩
  · simp only [power_fit_pre, All, All_num, p, All_pre x h, implies_true, and_self]
  · simp only [power_fit, Fits_num, All_num, q, num_nil]
    cases fits c x <;> rfl
theorem one_num : S.nat_Of_pre 1 ∧ S.nat_Of 1 = num 1 := Of_num 1 (by omega)
theorem small1 : small 1 := s1 (by omega)
theorem small0 : small 0 := s1 (by omega)
theorem great_eq (x : Nat) (h : small x) : S.power_great_pre (num x) ∧ S.power_great (num x) = decide (1 < x) := by
  obtain ⟨p, q⟩ := nCmp x 1 h small1
  obtain ⟨o1, o2⟩ := one_num
  refine ⟨by simp only [power_great_pre, All, o2, o1, p, and_self], ?_⟩
  simp only [power_great, o2, q]
  apply decide_eq_decide.2
  unfold sg
  constructor
  · intro h; split at h
    · omega
    · split at h <;> omega
  · intro h; rw [if_neg (by omega), if_pos (by omega)]; decide

theorem fdivp (n j : Nat) (hj : j ≤ 64) : Int.fdiv (n : Int) (2 ^ min (Int.toNat (j : Int)) 64) = ((n / 2 ^ j : Nat) : Int) := by
  rw [Int.toNat_natCast, Nat.min_eq_left hj, Int.fdiv_eq_ediv_of_nonneg _ (Int.le_of_lt (Int.pow_pos (by decide)))]
  have : ((2 : Int) ^ j) = ((2 ^ j : Nat) : Int) := by simp
  rw [this]; exact (Int.natCast_ediv _ _).symm
theorem and1 (t : Nat) (h : t < 18446744073709551616) : bits .and .u64 (t : Int) 1 = ((t % 2 : Nat) : Int) := by
  rw [u64_and _ _ (by omega) (by omega) (by omega) (by omega)]
  have : (1 : Int).toNat = 1 := rfl
  rw [this, Int.toNat_natCast, Nat.and_one_is_mod]
theorem half (n j : Nat) : n / 2 ^ j / 2 = n / 2 ^ (j + 1) := by rw [Nat.div_div_eq_div_mul, ← Nat.pow_succ]
theorem pow_mono {x : Nat} (h : 1 ≤ x) {a b : Nat} (hab : a ≤ b) : x ^ a ≤ x ^ b := Nat.pow_le_pow_right h hab
theorem num_eta (x : Nat) : (⟨(num x).limbs⟩ : S.Num) = num x := rfl

theorem Pow_runs (c : Int) (hc : c ≤ 1000) (x n : Nat) (hx : small x) (h1 : 1 ≤ x) (hn : n < 18446744073709551616) : ∀ j : Nat, j ≤ 64 → fits c (x ^ (n / 2 ^ j)) = true →
    ∃ y, Runs power_Pow_L1_step power_Pow_L1_vcs ⟨(n : Int), (j : Int) - 1, c, num x, num (x ^ (n / 2 ^ j)), true⟩ y ∧ (y.out, y.ok) = bif fits c (x ^ n) then (num (x ^ n), true) else (num 0, false) := by
  intro j
  induction j with
  | zero =>
    intro _ hf
    rw [Nat.pow_zero, Nat.div_one] at *
    refine ⟨⟨(n : Int), ((0 : Nat) : Int) - 1, c, num x, num (x ^ n), true⟩, .done _ _ ?_ ?_, ?_⟩
    · simp [power_Pow_L1_vcs]
    · simp [power_Pow_L1_step]
    · rw [hf]; rfl
  | succ j ih =>
    intro hj hf
    have hi : (((j + 1 : Nat) : Int) - 1) = (j : Int) := by omega
    rw [hi]
    have hm := half n j
    have hd : n / 2 ^ j < 18446744073709551616 := Nat.lt_of_le_of_lt (Nat.div_le_self _ _) hn
    have hle : n / 2 ^ j ≤ n := Nat.div_le_self _ _
    generalize hM : n / 2 ^ (j + 1) = m at *
    generalize hN : n / 2 ^ j = k at *
    have sm : small (x ^ m) := fits_small hf hc
    obtain ⟨p1, q1⟩ := capMul c (x ^ m) (x ^ m) sm sm
    have e2 : x ^ m * x ^ m = x ^ (2 * m) := by rw [← Nat.pow_add]; congr 1; omega
    rw [e2] at q1
    have e3 : Int.fdiv (n : Int) (2 ^ min (Int.toNat (j : Int)) 64) = (k : Int) := by rw [fdivp n j (by omega), hN]
    have e4 := and1 k hd
    have hge : decide ((j : Int) ≥ 0) = true := decide_eq_true (by omega)
    have hw : IntKind.i64.wrap ((j : Int) - 1) = (j : Int) - 1 := IntWalk.i64_in _ (by omega)
    have hge0 : (0 : Int) ≤ (j : Int) := by omega
    cases hq : fits c (x ^ (2 * m)) with
    | false =>
      rw [hq] at q1
      have hno := fits_not (pow_mono h1 (show 2 * m ≤ n by omega)) hq
      refine ⟨⟨(n : Int), (j : Int), c, num x, num 0, false⟩, .done _ _ ?_ ?_, ?_⟩
      · simp only [power_Pow_L1_vcs, power_Pow_1_pre, power_Pow_1, All, p1, q1, hge0, cond_false, Bool.false_and, Bool.false_eq_true, false_implies, implies_true, and_self]
      · simp only [power_Pow_L1_step, power_Pow_1, q1, hge, cond_true, cond_false, Bool.false_and, Bool.not_false, num_eta]
      · rw [hno]; rfl
    | true =>
      rw [hq] at q1
      have s2 : small (x ^ (2 * m)) := fits_small hq hc
      obtain ⟨p3, q3⟩ := capMul c (x ^ (2 * m)) x s2 hx
      have e5 : x ^ (2 * m) * x = x ^ (2 * m + 1) := (Nat.pow_succ ..).symm
      rw [e5] at q3
      rcases Nat.mod_two_eq_zero_or_one k with hb | hb
      · -- the digit is 0
        have hk : k = 2 * m := by omega
        have hb' : (((k % 2 : Nat) : Int) == 1) = false := by rw [hb]; rfl
        obtain ⟨y, hr, hy⟩ := ih (by omega) (by rw [hk]; exact hq)
        subst hk
        refine ⟨y, .next _ _ _ ?_ ?_ hr, hy⟩
        · simp only [power_Pow_L1_vcs, power_Pow_1_pre, power_Pow_1, All, p1, q1, e3, e4, hb', hge0, cond_true, Bool.true_and, Bool.false_eq_true, false_implies, implies_true, and_self]
        · simp only [power_Pow_L1_step, power_Pow_1, q1, hge, cond_true, cond_false, Bool.true_and, e3, e4, hb', Bool.not_true, hw, num_eta]
      · -- the digit is 1
        have hk : k = 2 * m + 1 := by omega
        have hb' : (((k % 2 : Nat) : Int) == 1) = true := by rw [hb]; rfl
        subst hk
        cases hq3 : fits c (x ^ (2 * m + 1)) with
        | false =>
          rw [hq3] at q3
          have hno := fits_not (pow_mono h1 (show 2 * m + 1 ≤ n by omega)) hq3
          refine ⟨⟨(n : Int), (j : Int), c, num x, num 0, false⟩, .done _ _ ?_ ?_, ?_⟩
          · simp only [power_Pow_L1_vcs, power_Pow_1_pre, power_Pow_1, All, p1, q1, e3, e4, hb', hge0, p3, cond_true, Bool.true_and, implies_true, and_self]
          · simp only [power_Pow_L1_step, power_Pow_1, q1, hge, cond_true, cond_false, Bool.true_and, e3, e4, hb', q3, Bool.not_false, num_eta]
          · rw [hno]; rfl
        | true =>
          rw [hq3] at q3
          obtain ⟨y, hr, hy⟩ := ih (by omega) hq3
          refine ⟨y, .next _ _ _ ?_ ?_ hr, hy⟩
          · simp only [power_Pow_L1_vcs, power_Pow_1_pre, power_Pow_1, All, p1, q1, e3, e4, hb', hge0, p3, cond_true, Bool.true_and, implies_true, and_self]
          · simp only [power_Pow_L1_step, power_Pow_1, q1, hge, cond_true, cond_false, Bool.true_and, e3, e4, hb', q3, Bool.not_true, hw, num_eta]
end S
