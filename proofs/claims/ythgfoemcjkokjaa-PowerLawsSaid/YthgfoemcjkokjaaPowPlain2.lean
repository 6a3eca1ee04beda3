/-
  power.Pow and power.Sum are powers and sums of powers, if these fit.
-/
import Derived.Test.YthgfoemcjkokjaaPowPlain
set_option linter.all false
open Go Vm
namespace S

theorem bl_nat (n : Nat) : bl (n : Int) = (bitLen n : Int) := by simp [bl]
theorem bitLen_64 (n : Nat) (h : n < 18446744073709551616) : bitLen n ≤ 64 := by
  obtain ⟨_, s2⟩ := bitLen_spec n
  rcases Nat.lt_or_ge 64 (bitLen n) with h' | h'
  · have := Nat.pow_le_pow_right (n := 2) (by decide) (show 64 ≤ bitLen n - 1 by omega)
    have := s2 (by intro e; subst e; simp [bitLen] at h')
    omega
  · exact h'
theorem bitLen_pos (n : Nat) (h : n ≠ 0) : 1 ≤ bitLen n := by
  obtain ⟨s1, _⟩ := bitLen_spec n
  rcases Nat.eq_zero_or_pos (bitLen n) with h' | h'
  · rw [h'] at s1; omega
  · exact h'
theorem two_le_pow {x : Nat} (h : 2 ≤ x) (n : Nat) : 2 ^ n ≤ x ^ n := Nat.pow_le_pow_left h n
theorem pow_small01 (x n : Nat) (h : x ≤ 1) (hn : n ≠ 0) : x ^ n = x := by
  rcases Nat.eq_zero_or_pos x with h0 | h0
  · subst h0; exact Nat.zero_pow (by omega)
  · have : x = 1 := by omega
    subst this; exact Nat.one_pow n
theorem cond_eta {c : Int} {x : Nat} : ((bif fits c x then (num x, true) else (num 0, false)).1, (bif fits c x then (num x, true) else (num 0, false)).2) = bif fits c x then (num x, true) else (num 0, false) := rfl

theorem Pow_eq (c : Int) (hc : c ≤ 1000) (x n : Nat) (hx : small x) (hn : n < 18446744073709551616) : S.power_Pow_pre c (num x) n ∧ S.power_Pow c (num x) n = bif fits c (x ^ n) then (num (x ^ n), true) else (num 0, false) := by
  obtain ⟨o1, o2⟩ := one_num
  obtain ⟨f1, f2⟩ := powfit c 1 small1
  obtain ⟨g1, g2⟩ := great_eq x hx
  obtain ⟨k1, k2⟩ := powfit c x hx
  have hm := most_eq c hc
  by_cases h0 : n = 0
  · subst h0
    have e : (((0 : Nat) : Int) == 0) = true := rfl
    refine ⟨?_, ?_⟩
    · simp only [power_Pow_pre, e, All, o2, o1, f1, implies_true, and_self, Bool.true_eq_false, false_implies]
    · simp only [power_Pow, e, o2, f2, cond_true, Nat.pow_zero]
  · have e : (((n : Nat) : Int) == 0) = false := by rw [beq_eq_false_iff_ne]; omega
    by_cases h1 : 1 < x
    · by_cases h2 : 64 * c.toNat < n
      · have hno : fits c (x ^ n) = false := by
          rw [fits_false]
          exact Nat.le_trans (Nat.pow_le_pow_right (by decide) (Nat.le_of_lt h2)) (two_le_pow h1 n)
        have e2 : decide ((n : Int) > ((64 * c.toNat : Nat) : Int)) = true := decide_eq_true (by omega)
        refine ⟨?_, ?_⟩
        · simp only [power_Pow_pre, e, All, g1, g2, decide_eq_true h1, Bool.not_true, hm, e2, implies_true, and_self, Bool.true_eq_false, Bool.false_eq_true, false_implies]
        · simp only [power_Pow, e, g2, decide_eq_true h1, Bool.not_true, hm, e2, cond_true, cond_false, hno, num_nil]
      · have e2 : decide ((n : Int) > ((64 * c.toNat : Nat) : Int)) = false := decide_eq_false (by omega)
        have hk : 1 ≤ c.toNat := by omega
        have hf1 : fits c (x ^ (n / 2 ^ bitLen n)) = true := by
          rw [Nat.div_eq_of_lt (bitLen_spec n).1, Nat.pow_zero, fits_iff]
          exact Nat.lt_of_lt_of_le (show 1 < 2 ^ 1 by decide) (Nat.pow_le_pow_right (by decide) (by omega))
        obtain ⟨y, hr, hy⟩ := Pow_runs c hc x n hx (by omega) hn (bitLen n) (bitLen_64 n hn) hf1
        obtain ⟨l1, l2⟩ := Len64_both (n : Int) (by omega) (by omega)
        have hb := bitLen_64 n hn
        have hb0 : IntKind.i64.wrap ((bitLen n : Int) - 1) = (bitLen n : Int) - 1 := IntWalk.i64_in _ (by omega)
        rw [Nat.div_eq_of_lt (bitLen_spec n).1, Nat.pow_zero] at hr
        have er : power_Pow_L1_run ⟨(n : Int), (bitLen n : Int) - 1, c, num x, num 1, true⟩ = y := theRun_eq (d := fun x => x) hr
        refine ⟨?_, ?_⟩
        · simp only [power_Pow_pre, e, All, g1, g2, decide_eq_true h1, Bool.not_true, hm, e2, o1, o2, l1, l2, bl_nat, hb0, er, hr, implies_true, and_self, Bool.true_eq_false, Bool.false_eq_true, false_implies]
        · simp only [power_Pow, e, g2, decide_eq_true h1, Bool.not_true, hm, e2, cond_false, o2, l2, bl_nat, hb0, er, hy]
    · refine ⟨?_, ?_⟩
      · simp only [power_Pow_pre, e, All, g1, g2, decide_eq_false h1, Bool.not_false, k1, implies_true, and_self, Bool.true_eq_false, Bool.false_eq_true, false_implies]
      · simp only [power_Pow, e, g2, decide_eq_false h1, Bool.not_false, cond_true, cond_false, k2, pow_small01 x n (by omega) h0]

/-! ### Sums of powers -/
def geo (x : Nat) : Nat → Nat
  | 0 => 1
  | n + 1 => geo x n * x + 1
theorem geo_succ (x n : Nat) : geo x (n + 1) = geo x n + x ^ (n + 1) := by
  induction n with
  | zero => simp [geo, Nat.add_comm]
  | succ n ih =>
    have h1 : geo x (n + 1 + 1) = geo x (n + 1) * x + 1 := rfl
    have h2 : geo x (n + 1) = geo x n * x + 1 := rfl
    have h3 : geo x (n + 1 + 1) = (geo x n + x ^ (n + 1)) * x + 1 := by rw [h1, ih]
    rw [Nat.add_mul] at h3
    have h4 : x ^ (n + 1 + 1) = x ^ (n + 1) * x := Nat.pow_succ ..
    omega
theorem geo_mono (x : Nat) {m n : Nat} (h : m ≤ n) : geo x m ≤ geo x n := by
  induction n with
  | zero => have : m = 0 := by omega
            subst this; exact Nat.le_refl _
  | succ n ih =>
    rcases Nat.lt_or_ge n m with h' | h'
    · have : m = n + 1 := by omega
      subst this; exact Nat.le_refl _
    · rw [geo_succ]; exact Nat.le_trans (ih h') (Nat.le_add_right _ _)
theorem pow_le_geo (x n : Nat) : x ^ n ≤ geo x n := by
  cases n with
  | zero => exact Nat.le_refl _
  | succ n => rw [geo_succ]; omega
theorem geo_zero (n : Nat) : geo 0 n = 1 := by cases n <;> simp [geo]
theorem geo_one (n : Nat) : geo 1 n = n + 1 := by
  induction n with
  | zero => rfl
  | succ n ih => simp [geo, ih]

theorem Sum_runs (c : Int) (hc : c ≤ 1000) (x n : Nat) (hx : small x) (h1 : 1 ≤ x) (hn : n < 18446744073709551616) : ∀ d i : Nat, i + d = n → fits c (geo x i) = true →
    ∃ y, Runs power_Sum_L1_step power_Sum_L1_vcs ⟨c, (n : Int), true, (i : Int), num x, num 1, num (geo x i)⟩ y ∧ (y.sum, y.ok) = bif fits c (geo x n) then (num (geo x n), true) else (num 0, false) := by
  intro d
  induction d with
  | zero =>
    intro i hi hf
    have : i = n := by omega
    subst this
    refine ⟨⟨c, (i : Int), true, (i : Int), num x, num 1, num (geo x i)⟩, .done _ _ ?_ ?_, ?_⟩
    · simp [power_Sum_L1_vcs]
    · simp [power_Sum_L1_step]
    · rw [hf]; rfl
  | succ d ih =>
    intro i hi hf
    have hlt : decide ((i : Int) < (n : Int)) = true := decide_eq_true (by omega)
    have sg := fits_small hf hc
    obtain ⟨p1, q1⟩ := capMul c (geo x i) x sg hx
    have hw : IntKind.u64.wrap ((i : Int) + 1) = ((i + 1 : Nat) : Int) := by rw [IntWalk.u64_in] <;> omega
    have end_ : ∀ (s : S.Num), Runs power_Sum_L1_step power_Sum_L1_vcs ⟨c, (n : Int), false, ((i + 1 : Nat) : Int), num x, num 1, s⟩ ⟨c, (n : Int), false, ((i + 1 : Nat) : Int), num x, num 1, s⟩ := fun s =>
      .done _ _ (by simp [power_Sum_L1_vcs]) (by simp [power_Sum_L1_step])
    have hle : geo x i * x + 1 ≤ geo x n := geo_mono x (show i + 1 ≤ n by omega)
    cases hq : fits c (geo x i * x) with
    | false =>
      rw [hq] at q1
      have hno := fits_not (show geo x i * x ≤ geo x n by omega) hq
      refine ⟨_, .next _ _ _ ?_ ?_ (end_ (num 0)), ?_⟩
      · simp only [power_Sum_L1_vcs, All, p1, q1, hlt, cond_false, Bool.false_eq_true, false_implies, implies_true, and_self]
      · simp only [power_Sum_L1_step, hlt, Bool.and_self, cond_true, cond_false, q1, hw, num_eta]
      · rw [hno]; rfl
    | true =>
      rw [hq] at q1
      have s2 := fits_small hq hc
      obtain ⟨p3, q3⟩ := capAdd c (geo x i * x) 1 s2 small1
      cases hq3 : fits c (geo x i * x + 1) with
      | false =>
        rw [hq3] at q3
        have hno := fits_not hle hq3
        refine ⟨_, .next _ _ _ ?_ ?_ (end_ (num 0)), ?_⟩
        · simp only [power_Sum_L1_vcs, All, p1, q1, p3, hlt, cond_true, implies_true, and_self]
        · simp only [power_Sum_L1_step, hlt, Bool.and_self, cond_true, cond_false, q1, hw, num_eta, q3]
        · rw [hno]; rfl
      | true =>
        rw [hq3] at q3
        obtain ⟨y, hr, hy⟩ := ih (i + 1) (by omega) hq3
        refine ⟨y, .next _ _ _ ?_ ?_ hr, hy⟩
        · simp only [power_Sum_L1_vcs, All, p1, q1, p3, hlt, cond_true, implies_true, and_self]
        · simp only [power_Sum_L1_step, hlt, Bool.and_self, cond_true, cond_false, q1, hw, num_eta, q3]
          rfl

theorem len0 (x : Nat) : ((S.nat_Nat_Len (num x)) == 0) = decide (x = 0) := by
  rw [Len_num]
  rcases Nat.eq_zero_or_pos x with h | h
  · subst h; simp [digs]
  · rw [digs_pos h, List.length_cons]
    have : decide (x = 0) = false := decide_eq_false (by omega)
    rw [this, beq_eq_false_iff_ne]; omega

theorem Sum_eq (c : Int) (hc : c ≤ 1000) (x n : Nat) (hx : small x) (hn : n < 18446744073709551616) : S.power_Sum_pre c (num x) n ∧ S.power_Sum c (num x) n = bif fits c (geo x n) then (num (geo x n), true) else (num 0, false) := by
  obtain ⟨o1, o2⟩ := one_num
  obtain ⟨f1, f2⟩ := powfit c 1 small1
  obtain ⟨g1, g2⟩ := great_eq x hx
  have hm := most_eq c hc
  have l0 := len0 x
  by_cases h0 : x = 0 ∨ n = 0
  · have e : (decide (x = 0) || ((n : Int) == 0)) = true := by
      rcases h0 with h | h
      · simp [h]
      · simp [h]
    have eg : geo x n = 1 := by
      rcases h0 with h | h
      · subst h; exact geo_zero n
      · subst h; rfl
    refine ⟨?_, ?_⟩
    · simp only [power_Sum_pre, l0, e, All, o2, o1, f1, implies_true, and_self, Bool.true_eq_false, false_implies]
    · simp only [power_Sum, l0, e, o2, f2, cond_true, eg]
  · have e : (decide (x = 0) || ((n : Int) == 0)) = false := by
      have h1 : ¬ x = 0 := fun h => h0 (.inl h)
      have h2 : ((n : Int) == 0) = false := by rw [beq_eq_false_iff_ne]; intro h; exact h0 (.inr (by omega))
      rw [decide_eq_false h1, h2]; rfl
    by_cases h1 : 1 < x
    · by_cases h2 : 64 * c.toNat ≤ n
      · have hno : fits c (geo x n) = false := by
          rw [fits_false]
          exact Nat.le_trans (Nat.le_trans (Nat.pow_le_pow_right (by decide) h2) (two_le_pow h1 n)) (pow_le_geo x n)
        have e2 : decide ((n : Int) ≥ ((64 * c.toNat : Nat) : Int)) = true := decide_eq_true (by omega)
        refine ⟨?_, ?_⟩
        · simp only [power_Sum_pre, l0, e, All, g1, g2, decide_eq_true h1, Bool.not_true, hm, e2, implies_true, and_self, Bool.true_eq_false, Bool.false_eq_true, false_implies]
        · simp only [power_Sum, l0, e, g2, decide_eq_true h1, Bool.not_true, hm, e2, cond_true, cond_false, hno, num_nil]
      · have e2 : decide ((n : Int) ≥ ((64 * c.toNat : Nat) : Int)) = false := decide_eq_false (by omega)
        have hf1 : fits c (geo x 0) = true := by
          rw [fits_iff]
          exact Nat.lt_of_lt_of_le (show 1 < 2 ^ 1 by decide) (Nat.pow_le_pow_right (by decide) (by omega))
        obtain ⟨y, hr, hy⟩ := Sum_runs c hc x n hx (by omega) hn n 0 (by omega) hf1
        have f2' : S.power_fit c (num 1) = (num 1, true) := by rw [f2, show fits c 1 = true from hf1]; rfl
        have hr : Runs power_Sum_L1_step power_Sum_L1_vcs ⟨c, (n : Int), true, 0, num x, num 1, num 1⟩ y := hr
        have er : power_Sum_L1_run ⟨c, (n : Int), true, 0, num x, num 1, num 1⟩ = y := theRun_eq (d := fun x => x) hr
        refine ⟨?_, ?_⟩
        · simp only [power_Sum_pre, l0, e, All, g1, g2, decide_eq_true h1, Bool.not_true, hm, e2, o1, o2, f1, f2', er, hr, implies_true, and_self, Bool.true_eq_false, Bool.false_eq_true, false_implies]
        · simp only [power_Sum, l0, e, g2, decide_eq_true h1, Bool.not_true, hm, e2, cond_false, o2, f2', er, hy]
    · have hx1 : x = 1 := by omega
      subst hx1
      obtain ⟨u1, u2⟩ := Of_num n (by omega)
      obtain ⟨a1, a2⟩ := nAdd n 1 (s1 hn) small1
      have sn : small (n + 1) := upto_small (upto_add (k := 1) (m := n) (n := 1) (by unfold upto; omega) (by unfold upto; omega)) (by omega)
      obtain ⟨k1, k2⟩ := powfit c (n + 1) sn
      refine ⟨?_, ?_⟩
      · simp only [power_Sum_pre, l0, e, All, g1, g2, decide_eq_false h1, Bool.not_false, u1, u2, o1, o2, a1, a2, k1, implies_true, and_self, Bool.true_eq_false, Bool.false_eq_true, false_implies]
      · simp only [power_Sum, l0, e, g2, decide_eq_false h1, Bool.not_false, cond_true, cond_false, u2, o2, a2, k2, geo_one]
end S
