/-
  What numbers a meet, a sum, a difference, a product of congruences have, and what they wrap to.
-/
import Derived.Test.YtpnegnhbbcligaaCongPlain7
set_option linter.all false
open Go Vm
namespace S

theorem has_z {M R z : Int} (h : M ≠ 0) : has ⟨M, R⟩ z = true ↔ z % M = R := by
  rw [has_iff]; simp [h]
theorem has_c {R z : Int} : has ⟨0, R⟩ z = true ↔ IntKind.u64.wrap z = R := by
  rw [has_iff]; simp

section
variable (a b : S.Cong) (ha : S.Cong.ok a) (hb : S.Cong.ok b) (hra : S.ref20_Right a = true) (hrb : S.ref20_Right b = true)
include ha hb
theorem Meet_is (hra : S.ref20_Right a = true) (hrb : S.ref20_Right b = true) : (S.cong_Meet a b).2 = true → ((S.cong_Meet a b).1 = a ∨ (S.cong_Meet a b).1 = b) := by
  simp only [cong_Meet, cong_Cong_if1]
  cases S.cong_Cong_single a <;> cases S.cong_Cong_single b <;> simp only [cond_true, cond_false]
  · generalize (S.cong_Cong_by a (S.cong_gcd a.M b.M) != S.cong_Cong_by b (S.cong_gcd a.M b.M)) = p
    generalize (S.cong_Within a b || !S.cong_Within b a && decide (a.M ≥ b.M)) = q
    cases p <;> cases q <;> simp
  · cases S.cong_Cong_Has a (S.cong_Cong_number b) <;> simp
  · cases S.cong_Cong_Has b (S.cong_Cong_number a) <;> simp
  · cases S.cong_Cong_Has b (S.cong_Cong_number a) <;> simp
theorem Meet_has (z : Int) (hz : I64 z) (h1 : has a z = true) (h2 : has b z = true) : (S.cong_Meet a b).2 = true ∧ has (S.cong_Meet a b).1 z = true := by
  have ha' := (ok_iff a).1 ha; have hb' := (ok_iff b).1 hb
  have g0 := G_pos a.M b.M ha'.1.1 hb'.1.1
  have n1 := inr_i64.2 (num_i64 a.R); have n2 := inr_i64.2 (num_i64 b.R)
  simp only [cong_Meet, gcd_eq a.M b.M ha'.1.1 hb'.1.1, cong_Cong_number, cong_Cong_single, cong_Cong_if1, Has_eq b _ hb n1, Has_eq a _ ha n2]
  by_cases e1 : a.M = 0
  · have hn : IntKind.i64.wrap a.R = z := by
      rcases (has_iff a z).1 h1 with ⟨_, h⟩ | ⟨h, _⟩
      · exact num_of _ _ hz h
      · exact absurd e1 h
    rw [hn, h2, show (a.M == 0) = true by simpa using e1]
    exact ⟨rfl, h1⟩
  · rw [show (a.M == 0) = false from beq_eq_false_iff_ne.2 e1]
    by_cases e2 : b.M = 0
    · have hn : IntKind.i64.wrap b.R = z := by
        rcases (has_iff b z).1 h2 with ⟨_, h⟩ | ⟨h, _⟩
        · exact num_of _ _ hz h
        · exact absurd e2 h
      rw [hn, h1, show (b.M == 0) = true by simpa using e2]
      exact ⟨rfl, h2⟩
    · rw [show (b.M == 0) = false from beq_eq_false_iff_ne.2 e2]
      have hg : G a.M b.M ≠ 0 := fun e => e1 (g0.2.2.2.1 e).1
      have hg1 : 0 < G a.M b.M := by omega
      have hg2 : G a.M b.M ≤ 18446744073709551615 := by omega
      obtain ⟨d1, d2⟩ := G_dvd a.M b.M ha'.1.1 hb'.1.1
      have x1 : S.cong_Cong_by a (G a.M b.M) = z % G a.M b.M := (by_eq a _ ha hg1 hg2).trans (B_has a z _ hz h1 d1)
      have x2 : S.cong_Cong_by b (G a.M b.M) = z % G a.M b.M := (by_eq b _ hb hg1 hg2).trans (B_has b z _ hz h2 d2)
      rw [x1, x2]
      simp only [bne_self_eq_false, cond_false]
      generalize (S.cong_Within a b || !S.cong_Within b a && decide (a.M ≥ b.M)) = q
      cases q
      · exact ⟨rfl, h2⟩
      · exact ⟨rfl, h1⟩

theorem Add_ok : S.Cong.ok (S.cong_Add a b) := by
  have ha' := (ok_iff a).1 ha; have hb' := (ok_iff b).1 hb
  have g0 := G_pos a.M b.M ha'.1.1 hb'.1.1
  rw [ok_iff]
  simp only [cong_Add, gcd_eq _ _ ha'.1.1 hb'.1.1]
  cases h : (G a.M b.M == 0) with
  | true => dsimp only [cond_true]; rw [IntKind.wrap_u64]; omega
  | false =>
    have hg := nb h
    have hg1 : 0 < G a.M b.M := by omega
    have hg2 : G a.M b.M ≤ 18446744073709551615 := by omega
    have ra := B_range a _ hg1; have rb := B_range b _ hg1
    have e1 : S.cong_Cong_by a (G a.M b.M) = B a (G a.M b.M) := by_eq a _ ha hg1 hg2
    have e2 : S.cong_Cong_by b (G a.M b.M) = B b (G a.M b.M) := by_eq b _ hb hg1 hg2
    have := mod_range (B a (G a.M b.M) + B b (G a.M b.M)) _ hg1
    simp only [e1, e2, plus_eq _ _ _ ra rb hg2, cond_false]; omega
theorem Sub_ok : S.Cong.ok (S.cong_Sub a b) := by
  have ha' := (ok_iff a).1 ha; have hb' := (ok_iff b).1 hb
  have g0 := G_pos a.M b.M ha'.1.1 hb'.1.1
  rw [ok_iff]
  simp only [cong_Sub, gcd_eq _ _ ha'.1.1 hb'.1.1]
  cases h : (G a.M b.M == 0) with
  | true => dsimp only [cond_true]; rw [IntKind.wrap_u64]; omega
  | false =>
    have hg := nb h
    have hg1 : 0 < G a.M b.M := by omega
    have hg2 : G a.M b.M ≤ 18446744073709551615 := by omega
    have ra := B_range a _ hg1; have rb := B_range b _ hg1
    have e1 : S.cong_Cong_by a (G a.M b.M) = B a (G a.M b.M) := by_eq a _ ha hg1 hg2
    have e2 : S.cong_Cong_by b (G a.M b.M) = B b (G a.M b.M) := by_eq b _ hb hg1 hg2
    obtain ⟨v, p⟩ := neg_plus (B a (G a.M b.M)) (B b (G a.M b.M)) _ hg1 ra rb hg2
    have := mod_range (B a (G a.M b.M) - B b (G a.M b.M)) _ hg1
    simp only [e1, e2, v, cond_false]; omega

variable (x y : Int) (hx : I64 x) (hy : I64 y) (hax : has a x = true) (hby : has b y = true)
include hx hy hax hby
theorem consts (h : G a.M b.M = 0) : a.M = 0 ∧ b.M = 0 ∧ IntKind.u64.wrap x = a.R ∧ IntKind.u64.wrap y = b.R := by
  have ha' := (ok_iff a).1 ha; have hb' := (ok_iff b).1 hb
  obtain ⟨hM, hN⟩ := (G_pos a.M b.M ha'.1.1 hb'.1.1).2.2.2.1 h
  refine ⟨hM, hN, ?_, ?_⟩
  · rcases (has_iff a x).1 hax with ⟨_, h⟩ | ⟨h, _⟩
    · exact h
    · exact absurd hM h
  · rcases (has_iff b y).1 hby with ⟨_, h⟩ | ⟨h, _⟩
    · exact h
    · exact absurd hN h
theorem Add_has : has (S.cong_Add a b) (x + y) = true := by
  have ha' := (ok_iff a).1 ha; have hb' := (ok_iff b).1 hb
  have g0 := G_pos a.M b.M ha'.1.1 hb'.1.1
  simp only [cong_Add, gcd_eq _ _ ha'.1.1 hb'.1.1]
  cases h : (G a.M b.M == 0) with
  | true =>
    obtain ⟨_, _, h1, h2⟩ := consts a b ha hb x y hx hy hax hby (by simpa using h)
    rw [cond_true, has_c, ← h1, ← h2]
    rw [IntKind.wrap_u64, IntKind.wrap_u64, IntKind.wrap_u64, IntKind.wrap_u64]; omega
  | false =>
    have hg := nb h
    have hg1 : 0 < G a.M b.M := by omega
    have hg2 : G a.M b.M ≤ 18446744073709551615 := by omega
    have ra := B_range a _ hg1; have rb := B_range b _ hg1
    have e1 : S.cong_Cong_by a (G a.M b.M) = B a (G a.M b.M) := by_eq a _ ha hg1 hg2
    have e2 : S.cong_Cong_by b (G a.M b.M) = B b (G a.M b.M) := by_eq b _ hb hg1 hg2
    obtain ⟨d1, d2⟩ := G_dvd a.M b.M ha'.1.1 hb'.1.1
    simp only [e1, e2, plus_eq _ _ _ ra rb hg2, cond_false]
    rw [has_z hg, B_has a x _ hx hax d1, B_has b y _ hy hby d2, ← Int.add_emod]
theorem Sub_has : has (S.cong_Sub a b) (x - y) = true := by
  have ha' := (ok_iff a).1 ha; have hb' := (ok_iff b).1 hb
  have g0 := G_pos a.M b.M ha'.1.1 hb'.1.1
  simp only [cong_Sub, gcd_eq _ _ ha'.1.1 hb'.1.1]
  cases h : (G a.M b.M == 0) with
  | true =>
    obtain ⟨_, _, h1, h2⟩ := consts a b ha hb x y hx hy hax hby (by simpa using h)
    rw [cond_true, has_c, ← h1, ← h2]
    rw [IntKind.wrap_u64, IntKind.wrap_u64, IntKind.wrap_u64, IntKind.wrap_u64]; omega
  | false =>
    have hg := nb h
    have hg1 : 0 < G a.M b.M := by omega
    have hg2 : G a.M b.M ≤ 18446744073709551615 := by omega
    have ra := B_range a _ hg1; have rb := B_range b _ hg1
    have e1 : S.cong_Cong_by a (G a.M b.M) = B a (G a.M b.M) := by_eq a _ ha hg1 hg2
    have e2 : S.cong_Cong_by b (G a.M b.M) = B b (G a.M b.M) := by_eq b _ hb hg1 hg2
    obtain ⟨d1, d2⟩ := G_dvd a.M b.M ha'.1.1 hb'.1.1
    obtain ⟨v, p⟩ := neg_plus (B a (G a.M b.M)) (B b (G a.M b.M)) _ hg1 ra rb hg2
    simp only [e1, e2, v, cond_false]
    rw [has_z hg, B_has a x _ hx hax d1, B_has b y _ hy hby d2, ← Int.sub_emod]
end

theorem scaled_has (c : S.Cong) (n z : Int) (hc : S.Cong.ok c) (hM : c.M ≠ 0) (hn : I64 n) (h : z % c.M = c.R) : S.Cong.ok (S.cong_Cong_scaled c n) ∧ has (S.cong_Cong_scaled c n) (n * z) = true := by
  have hc' := (ok_iff c).1 hc
  have hn' : -9223372036854775808 ≤ n ∧ n ≤ 9223372036854775807 := hn
  cases h0 : (n == 0) with
  | true =>
    have e : n = 0 := by simpa using h0
    subst e
    simp only [cong_Cong_scaled, h0, cond_true]
    refine ⟨by rw [ok_iff]; decide, ?_⟩
    rw [has_c, Int.zero_mul]; decide
  | false =>
    have hz := nb h0
    have e1 : (bif decide (n < 0) then IntKind.u64.wrap (0 - IntKind.u64.wrap n) else IntKind.u64.wrap n) = if n < 0 then -n else n := by
      by_cases h : n < 0
      · rw [decide_eq_true h, cond_true, if_pos h, IntKind.wrap_u64, IntKind.wrap_u64]; omega
      · rw [decide_eq_false h, cond_false, if_neg h, IntKind.wrap_u64]; omega
    have hA : 1 ≤ (if n < 0 then -n else n) ∧ (if n < 0 then -n else n) ≤ 18446744073709551615 ∧ (if n < 0 then -n else n) ∣ n := by
      split
      · exact ⟨by omega, by omega, ⟨-1, by omega⟩⟩
      · exact ⟨by omega, by omega, ⟨1, by omega⟩⟩
    generalize (if n < 0 then -n else n) = A at *
    have fe1 := fits_eq c.M A hc'.1 (by omega)
    have hp := Int.mul_pos (show 0 < c.M by omega) (show 0 < A by omega)
    -- by one modulus
    have core : ∀ m : Int, 0 < m → m ≤ 18446744073709551615 → m ∣ n * (z - c.R) → S.Cong.ok ⟨m, S.cong_times (S.cong_rest n m) (Int.tmod c.R m) m⟩ ∧ has ⟨m, S.cong_times (S.cong_rest n m) (Int.tmod c.R m) m⟩ (n * z) = true := by
      intro m h1 h2 h3
      have r1 := mod_range n m h1
      have r2 := mod_range c.R m h1
      rw [rest_eq n m hn' h1 h2, tmod_pos _ _ hc'.2.1, (times_both (n % m) (c.R % m) m (by omega) (by omega) h1 h2).2]
      have r3 := mod_range (n % m * (c.R % m)) m h1
      refine ⟨by rw [ok_iff]; dsimp only; omega, ?_⟩
      rw [has_z (by omega), ← Int.mul_emod]
      refine emod_of_dvd_sub _ _ _ ?_
      rw [← Int.mul_sub]; exact h3
    have hd : c.M ∣ z - c.R := by
      rw [← h]; exact ⟨z / c.M, by have := Int.mul_ediv_add_emod z c.M; omega⟩
    by_cases h : c.M * A < 18446744073709551616
    · rw [if_pos h] at fe1
      simp only [cong_Cong_scaled, h0, e1, fe1, Bool.not_true, cond_false]
      exact core _ hp (by omega) (by rw [Int.mul_comm c.M A]; exact Int.mul_dvd_mul hA.2.2 hd)
    · rw [if_neg h] at fe1
      simp only [cong_Cong_scaled, h0, e1, fe1, Bool.not_false, cond_true, cond_false]
      exact core _ (by omega) hc'.1.2 (Int.dvd_trans hd (Int.dvd_mul_left _ _))

theorem has_mod (c : S.Cong) (z : Int) (hM : c.M ≠ 0) (h : has c z = true) : z % c.M = c.R := by
  rcases (has_iff c z).1 h with ⟨e, _⟩ | ⟨_, h⟩
  · exact absurd e hM
  · exact h
theorem has_con (c : S.Cong) (z : Int) (hM : c.M = 0) (h : has c z = true) : IntKind.u64.wrap z = c.R := by
  rcases (has_iff c z).1 h with ⟨_, h⟩ | ⟨e, _⟩
  · exact h
  · exact absurd hM e

theorem Mul_has (a b : S.Cong) (ha : S.Cong.ok a) (hb : S.Cong.ok b) (x y : Int) (hx : I64 x) (hy : I64 y) (hax : has a x = true) (hby : has b y = true) : S.Cong.ok (S.cong_Mul a b) ∧ has (S.cong_Mul a b) (x * y) = true := by
  have ha' := (ok_iff a).1 ha; have hb' := (ok_iff b).1 hb
  have g0 := G_pos a.M b.M ha'.1.1 hb'.1.1
  simp only [cong_Mul, cong_Cong_single, cong_Cong_number]
  by_cases h1 : a.M = 0
  · have e1 := has_con a x h1 hax
    have n1 := num_of _ _ hx e1
    rw [show (a.M == 0) = true by simpa using h1, n1]
    by_cases h2 : b.M = 0
    · have e2 := has_con b y h2 hby
      rw [show (b.M == 0) = true by simpa using h2]
      simp only [Bool.and_self, cond_true]
      refine ⟨by rw [ok_iff]; dsimp only; rw [IntKind.wrap_u64]; omega, ?_⟩
      rw [has_c, ← e1, ← e2, IntKind.wrap_u64, IntKind.wrap_u64, IntKind.wrap_u64, IntKind.wrap_u64, ← Int.mul_emod]
    · rw [show (b.M == 0) = false from beq_eq_false_iff_ne.2 h2]
      simp only [Bool.and_false, cond_true, cond_false]
      exact scaled_has b x y hb h2 hx (has_mod b y h2 hby)
  · rw [show (a.M == 0) = false from beq_eq_false_iff_ne.2 h1]
    by_cases h2 : b.M = 0
    · have e2 := has_con b y h2 hby
      have n2 := num_of _ _ hy e2
      rw [show (b.M == 0) = true by simpa using h2, n2, show x * y = y * x from Int.mul_comm x y]
      simp only [Bool.false_and, cond_true, cond_false]
      exact scaled_has a y x ha h1 hy (has_mod a x h1 hax)
    · rw [show (b.M == 0) = false from beq_eq_false_iff_ne.2 h2]
      simp only [Bool.and_self, cond_false]
      have hm1 := has_mod a x h1 hax; have hm2 := has_mod b y h2 hby
      have hg : G a.M b.M ≠ 0 := fun e => h1 (g0.2.2.2.1 e).1
      have hg1 : 0 < G a.M b.M := by omega
      have hg2 : G a.M b.M ≤ 18446744073709551615 := by omega
      obtain ⟨d1, d2⟩ := G_dvd a.M b.M ha'.1.1 hb'.1.1
      have ra := B_range a _ hg1; have rb := B_range b _ hg1
      have x1 : S.cong_Cong_by a (G a.M b.M) = B a (G a.M b.M) := by_eq a _ ha hg1 hg2
      have x2 : S.cong_Cong_by b (G a.M b.M) = B b (G a.M b.M) := by_eq b _ hb hg1 hg2
      have p1 := G_pos a.M a.R ha'.1.1 ha'.2.1; have p2 := G_pos b.M b.R hb'.1.1 hb'.2.1
      obtain ⟨s1, s2⟩ := G_dvd a.M a.R ha'.1.1 ha'.2.1
      obtain ⟨t1, t2⟩ := G_dvd b.M b.R hb'.1.1 hb'.2.1
      simp only [gcd_eq a.M b.M ha'.1.1 hb'.1.1, gcd_eq a.M a.R ha'.1.1 ha'.2.1, gcd_eq b.M b.R hb'.1.1 hb'.2.1, x1, x2, (times_both _ _ _ (show 0 ≤ B a (G a.M b.M) ∧ B a (G a.M b.M) ≤ 18446744073709551615 by omega) (show 0 ≤ B b (G a.M b.M) ∧ B b (G a.M b.M) ≤ 18446744073709551615 by omega) hg1 hg2).2]
      have dx : G a.M a.R ∣ x := by
        have : x = a.M * (x / a.M) + a.R := by rw [← hm1]; exact (Int.mul_ediv_add_emod x a.M).symm
        rw [this]; exact Int.dvd_add (Int.dvd_trans s1 (Int.dvd_mul_right _ _)) s2
      have dy : G b.M b.R ∣ y := by
        have : y = b.M * (y / b.M) + b.R := by rw [← hm2]; exact (Int.mul_ediv_add_emod y b.M).symm
        rw [this]; exact Int.dvd_add (Int.dvd_trans t1 (Int.dvd_mul_right _ _)) t2
      have f := fits_eq (G a.M a.R) (G b.M b.R) (by omega) (by omega)
      generalize G a.M a.R = s at *
      generalize G b.M b.R = t at *
      have main : S.Cong.ok ⟨G a.M b.M, B a (G a.M b.M) * B b (G a.M b.M) % G a.M b.M⟩ ∧ has ⟨G a.M b.M, B a (G a.M b.M) * B b (G a.M b.M) % G a.M b.M⟩ (x * y) = true := by
        have := mod_range (B a (G a.M b.M) * B b (G a.M b.M)) _ hg1
        refine ⟨by rw [ok_iff]; dsimp only; omega, ?_⟩
        rw [has_z hg, B_has a x _ hx hax d1, B_has b y _ hy hby d2, ← Int.mul_emod]
      by_cases h : s * t < 18446744073709551616
      · rw [if_pos h] at f
        rw [f]
        dsimp only
        by_cases h3 : s * t > G a.M b.M
        · rw [decide_eq_true h3]
          simp only [Bool.and_self, cond_true]
          refine ⟨by rw [ok_iff]; dsimp only; omega, ?_⟩
          rw [has_z (by omega)]
          exact Int.emod_eq_zero_of_dvd (Int.mul_dvd_mul dx dy)
        · rw [decide_eq_false h3]
          simp only [Bool.and_false, cond_false]
          exact main
      · rw [if_neg h] at f
        rw [f]
        simp only [Bool.false_and, cond_false]
        exact main

theorem low_dvd : ∀ (n M : Nat), 0 < M → M < 2 ^ n → (M &&& (2 ^ n - M)) ∣ M ∧ (M &&& (2 ^ n - M)) ∣ 2 ^ n := by
  intro n
  induction n with
  | zero => intro M h0 h1; simp at h1; omega
  | succ n ih =>
    intro M h0 h1
    by_cases ho : M % 2 = 1
    · rw [low_odd n M h1 ho]; exact ⟨Nat.one_dvd _, Nat.one_dvd _⟩
    · obtain ⟨m, rfl⟩ : ∃ m, M = 2 * m := ⟨M / 2, by omega⟩
      have hp : 2 ^ (n + 1) = 2 * 2 ^ n := by rw [Nat.pow_succ, Nat.mul_comm]
      rw [low_even n m h1]
      obtain ⟨i1, i2⟩ := ih m (by omega) (by omega)
      rw [hp]
      exact ⟨Nat.mul_dvd_mul_left 2 i1, Nat.mul_dvd_mul_left 2 i2⟩

theorem Wrapped_has (c : S.Cong) (hc : S.Cong.ok c) (z : Int) (h : has c z = true) (hr : S.ref20_Right c = true) : S.Cong.ok (S.cong_Cong_Wrapped c) ∧ has (S.cong_Cong_Wrapped c) (IntKind.i64.wrap z) = true ∧ S.cong_Within c (S.cong_Cong_Wrapped c) = true := by
  have hc' := (ok_iff c).1 hc
  by_cases h0 : c.M = 0
  · have e : S.cong_Cong_Wrapped c = c := by
      simp only [cong_Cong_Wrapped, cong_Cong_single]
      rw [show (c.M == 0) = true by simpa using h0]; rfl
    rw [e]
    refine ⟨hc, ?_, Within_self c hc hr⟩
    have := has_con c z h0 h
    refine (has_iff c _).2 (.inl ⟨h0, ?_⟩)
    rw [← this, IntKind.wrap_u64, IntKind.wrap_u64, IntKind.wrap_i64]; omega
  · have hz := has_mod c z h0 h
    obtain ⟨M, R⟩ := c
    dsimp only at *
    obtain ⟨m, rfl⟩ := Int.eq_ofNat_of_zero_le hc'.1.1
    have hm0 : 0 < m := by omega
    have hm1 : m < 2 ^ 64 := by omega
    have hp := low_pos 64 m hm0 hm1
    obtain ⟨l1, l2⟩ := low_dvd 64 m hm0 hm1
    have ew : IntKind.u64.wrap (0 - (m : Int)) = ((2 ^ 64 - m : Nat) : Int) := by rw [IntKind.wrap_u64]; omega
    have eb : bits .and .u64 (m : Int) (IntKind.u64.wrap (0 - (m : Int))) = ((m &&& (2 ^ 64 - m) : Nat) : Int) := by
      rw [ew, u64_and _ _ (by omega) (by omega) (by omega) (by omega), Int.toNat_natCast, Int.toNat_natCast]
    have e : S.cong_Cong_Wrapped ⟨(m : Int), R⟩ = ⟨((m &&& (2 ^ 64 - m) : Nat) : Int), R % ((m &&& (2 ^ 64 - m) : Nat) : Int)⟩ := by
      simp only [cong_Cong_Wrapped, cong_Cong_single, eb]
      rw [show ((m : Int) == 0) = false from beq_eq_false_iff_ne.2 h0, cond_false, tmod_pos _ _ hc'.2.1]
    rw [e]
    generalize (m &&& (2 ^ 64 - m)) = q at *
    have d1 : (q : Int) ∣ (m : Int) := Int.natCast_dvd_natCast.2 l1
    have d2 : (q : Int) ∣ (18446744073709551616 : Int) := by
      have := Int.natCast_dvd_natCast.2 l2
      simpa using this
    have hq : (q : Int) ≠ 0 := by omega
    have hqm : q ≤ m := Nat.le_of_dvd hm0 l1
    have hr := mod_range R (q : Int) (by omega)
    have hok : S.Cong.ok ⟨(q : Int), R % q⟩ := by rw [ok_iff]; dsimp only; omega
    refine ⟨hok, ?_, (Within_iff _ _ hc hok).2 (.inr ⟨hq, Int.emod_eq_zero_of_dvd d1, ?_⟩)⟩
    · rw [has_z hq]
      have e1 : IntKind.i64.wrap z % q = z % q := by
        refine emod_of_dvd_sub _ _ _ ?_
        have : ∃ k : Int, IntKind.i64.wrap z - z = 18446744073709551616 * k := ⟨(IntKind.i64.wrap z - z) / 18446744073709551616, by rw [IntKind.wrap_i64]; omega⟩
        obtain ⟨k, hk⟩ := this
        rw [hk]; exact Int.dvd_trans d2 (Int.dvd_mul_right _ _)
      rw [e1, ← hz, mod_mod_dvd z _ _ d1]
    · unfold B; rw [if_neg h0]
end S
