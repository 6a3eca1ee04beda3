/-
  Products of congruences are the reference's, and right.
-/
import Derived.Test.YtpnegnhbbcligaaCongPlain4
set_option linter.all false
open Go Vm
namespace S

/-- One that is no constant, times a constant: by one modulus. -/
theorem scaled_core (c : S.Cong) (n m : Int) (hc : S.Cong.ok c) (hn : inr .i64 n) (hm : 0 < m) (hm2 : m ≤ 18446744073709551615) :
    (S.cong_rest_pre n m ∧ m ≠ 0 ∧ S.cong_times_pre (S.cong_rest n m) (Int.tmod c.R m) m) ∧ (S.ref20_Rest_pre n m ∧ m ≠ 0 ∧ S.ref20_times_pre (S.ref20_Rest n m) (Int.tmod c.R m) m) ∧
    S.cong_times (S.cong_rest n m) (Int.tmod c.R m) m = S.ref20_times (S.ref20_Rest n m) (Int.tmod c.R m) m ∧ S.cong_times (S.cong_rest n m) (Int.tmod c.R m) m < m := by
  rw [ok_iff] at hc; rw [inr_i64] at hn
  have r1 := mod_range n m hm
  have r2 := mod_range c.R m hm
  rw [rest_eq n m hn hm hm2, Rest_eq n m hn hm hm2, tmod_pos _ _ hc.2.1]
  obtain ⟨p1, v1⟩ := times_both (n % m) (c.R % m) m (by omega) (by omega) hm hm2
  obtain ⟨p2, v2⟩ := reftimes_both (n % m) (c.R % m) m r1 (by omega) hm hm2
  refine ⟨⟨rest_pre _ _ (by omega), by omega, p1⟩, ⟨Rest_pre _ _ (by omega), by omega, p2⟩, by rw [v1, v2], ?_⟩
  rw [v1]; exact (mod_range _ _ hm).2
theorem scaled_both (c : S.Cong) (n : Int) (hc : S.Cong.ok c) (hM : c.M ≠ 0) (hn : inr .i64 n) :
    S.cong_Cong_scaled_pre c n ∧ S.ref20_scale_pre c n ∧ S.cong_Cong_scaled c n = S.ref20_scale c n ∧ S.cong_Cong_Right (S.cong_Cong_scaled c n) = true := by
  have hc' := (ok_iff c).1 hc
  have hn' := inr_i64.1 hn
  cases h0 : (n == 0) with
  | true =>
    simp only [cong_Cong_scaled_pre, ref20_scale_pre, cong_Cong_scaled, ref20_scale, h0, cond_true]
    exact ⟨⟨fun _ => trivial, fun h => Bool.noConfusion h⟩, ⟨fun _ => trivial, fun h => Bool.noConfusion h⟩, trivial, rfl⟩
  | false =>
    have hz := nb h0
    have e1 : (bif decide (n < 0) then IntKind.u64.wrap (0 - IntKind.u64.wrap n) else IntKind.u64.wrap n) = if n < 0 then -n else n := by
      by_cases h : n < 0
      · rw [decide_eq_true h, cond_true, if_pos h, IntKind.wrap_u64, IntKind.wrap_u64]; omega
      · rw [decide_eq_false h, cond_false, if_neg h, IntKind.wrap_u64]; omega
    have e2 : (bif decide (n < 0) then IntKind.u64.wrap (IntKind.i64.wrap (0 - n)) else IntKind.u64.wrap n) = if n < 0 then -n else n := by
      by_cases h : n < 0
      · rw [decide_eq_true h, cond_true, if_pos h, IntKind.wrap_u64, IntKind.wrap_i64]; omega
      · rw [decide_eq_false h, cond_false, if_neg h, IntKind.wrap_u64]; omega
    have hA : 1 ≤ (if n < 0 then -n else n) ∧ (if n < 0 then -n else n) ≤ 18446744073709551615 := by split <;> omega
    generalize (if n < 0 then -n else n) = A at *
    obtain ⟨fp, fe⟩ := reffits_both c.M A hc'.1 (by omega)
    have fe1 := fits_eq c.M A hc'.1 (by omega)
    have hp := Int.mul_pos (show 0 < c.M by omega) (show 0 < A by omega)
    by_cases h : c.M * A < 18446744073709551616
    · rw [if_pos h] at fe fe1
      obtain ⟨k1, k2, k3, k4⟩ := scaled_core c n (c.M * A) hc hn hp (by omega)
      simp only [cong_Cong_scaled_pre, ref20_scale_pre, cong_Cong_scaled, ref20_scale, h0, e1, e2, fe, fe1, Bool.not_true, cond_false, All, and_true]
      refine ⟨⟨fun h => Bool.noConfusion h, fun _ => k1⟩, ⟨fun h => Bool.noConfusion h, fun _ => ⟨fp, k2⟩⟩, by rw [k3], ?_⟩
      rw [Right_eq, Right_iff]; right; exact k4
    · rw [if_neg h] at fe fe1
      obtain ⟨k1, k2, k3, k4⟩ := scaled_core c n c.M hc hn (by omega) hc'.1.2
      simp only [cong_Cong_scaled_pre, ref20_scale_pre, cong_Cong_scaled, ref20_scale, h0, e1, e2, fe, fe1, Bool.not_false, cond_true, cond_false, All, and_true]
      refine ⟨⟨fun h => Bool.noConfusion h, fun _ => k1⟩, ⟨fun h => Bool.noConfusion h, fun _ => ⟨fp, k2⟩⟩, by rw [k3], ?_⟩
      rw [Right_eq, Right_iff]; right; exact k4
theorem Mul_both (a b : S.Cong) (ha : S.Cong.ok a) (hb : S.Cong.ok b) : S.cong_Mul_pre a b ∧ S.ref20_Mul_pre a b ∧ S.cong_Mul a b = S.ref20_Mul a b ∧ S.cong_Cong_Right (S.cong_Mul a b) = true := by
  have ha' := (ok_iff a).1 ha; have hb' := (ok_iff b).1 hb
  simp only [cong_Mul_pre, ref20_Mul_pre, cong_Mul, ref20_Mul, cong_Cong_single, cong_Cong_number]
  cases h1 : (a.M == 0) with
  | true =>
    cases h2 : (b.M == 0) with
    | true =>
      simp only [Bool.true_and, cond_true]
      exact ⟨⟨fun _ => trivial, fun h => Bool.noConfusion h⟩, ⟨fun _ => trivial, fun h => Bool.noConfusion h⟩, trivial, (by rw [Right_eq, Right_iff]; left; trivial)⟩
    | false =>
      obtain ⟨k1, k2, k3, k4⟩ := scaled_both b _ hb (nb h2) (inr_i64.2 (num_i64 a.R))
      simp only [All, and_true, Bool.and_false, cond_false, cond_true]
      exact ⟨⟨fun h => Bool.noConfusion h, fun _ => ⟨fun _ => k1, fun h => Bool.noConfusion h⟩⟩, ⟨fun h => Bool.noConfusion h, fun _ => ⟨fun _ => k2, fun h => Bool.noConfusion h⟩⟩, k3, k4⟩
  | false =>
    cases h2 : (b.M == 0) with
    | true =>
      obtain ⟨k1, k2, k3, k4⟩ := scaled_both a _ ha (nb h1) (inr_i64.2 (num_i64 b.R))
      simp only [All, and_true, Bool.false_and, cond_false, cond_true]
      exact ⟨⟨fun h => Bool.noConfusion h, fun _ => ⟨fun h => Bool.noConfusion h, fun _ => ⟨fun _ => k1, fun h => Bool.noConfusion h⟩⟩⟩, ⟨fun h => Bool.noConfusion h, fun _ => ⟨fun h => Bool.noConfusion h, fun _ => ⟨fun _ => k2, fun h => Bool.noConfusion h⟩⟩⟩, k3, k4⟩
    | false =>
      have hM := nb h1
      have g0 := G_pos a.M b.M ha'.1.1 hb'.1.1
      have ga := G_pos a.M a.R ha'.1.1 ha'.2.1
      have gb := G_pos b.M b.R hb'.1.1 hb'.2.1
      have hN := nb h2
      have hg : G a.M b.M ≠ 0 := fun e => hM (g0.2.2.2.1 e).1
      have hg1 : 0 < G a.M b.M := by omega
      have hg2 : G a.M b.M ≤ 18446744073709551615 := by omega
      have ra := B_range a _ hg1; have rb := B_range b _ hg1
      have e1 : S.cong_Cong_by a (G a.M b.M) = B a (G a.M b.M) := by_eq a _ ha hg1 hg2
      have e2 : S.cong_Cong_by b (G a.M b.M) = B b (G a.M b.M) := by_eq b _ hb hg1 hg2
      have e3 : S.ref20_Of a (G a.M b.M) = B a (G a.M b.M) := Of_eq a _ ha hg1 hg2
      have e4 : S.ref20_Of b (G a.M b.M) = B b (G a.M b.M) := Of_eq b _ hb hg1 hg2
      obtain ⟨p1, v1⟩ := times_both (B a (G a.M b.M)) (B b (G a.M b.M)) _ (by omega) (by omega) hg1 hg2
      obtain ⟨p2, v2⟩ := reftimes_both (B a (G a.M b.M)) (B b (G a.M b.M)) _ ra (by omega) hg1 hg2
      obtain ⟨fp, fe⟩ := reffits_both (G a.M a.R) (G b.M b.R) (by omega) (by omega)
      have fe1 := fits_eq (G a.M a.R) (G b.M b.R) (by omega) (by omega)
      have hpq := Int.mul_nonneg ga.1 gb.1
      have P1 : S.cong_gcd_pre a.M b.M ∧ S.cong_gcd_pre a.M a.R ∧ S.cong_gcd_pre b.M b.R := ⟨gcd_pre _ _ ha'.1.1 hb'.1.1, gcd_pre _ _ ha'.1.1 ha'.2.1, gcd_pre _ _ hb'.1.1 hb'.2.1⟩
      have P2 : S.ref20_Gcd_pre a.M b.M ∧ S.ref20_Gcd_pre a.M a.R ∧ S.ref20_Gcd_pre b.M b.R ∧ S.ref20_fits_pre (G a.M a.R) (G b.M b.R) := ⟨Gcd_pre _ _ ha'.1.1 hb'.1.1, Gcd_pre _ _ ha'.1.1 ha'.2.1, Gcd_pre _ _ hb'.1.1 hb'.2.1, fp⟩
      have g1 := gcd_eq a.M b.M ha'.1.1 hb'.1.1
      have g2 := Gcd_eq a.M b.M ha'.1.1 hb'.1.1
      have g3 := gcd_eq a.M a.R ha'.1.1 ha'.2.1
      have g4 := Gcd_eq a.M a.R ha'.1.1 ha'.2.1
      have g5 := gcd_eq b.M b.R hb'.1.1 hb'.2.1
      have g6 := Gcd_eq b.M b.R hb'.1.1 hb'.2.1
      have w1 := by_pre a _ hg
      have w2 := by_pre b _ hg
      have w3 := Of_pre a _ hg
      have w4 := Of_pre b _ hg
      have hrr := (mod_range (B a (G a.M b.M) * B b (G a.M b.M)) _ hg1).2
      by_cases h : G a.M a.R * G b.M b.R < 18446744073709551616
      · rw [if_pos h] at fe fe1
        clear fp h g0 ga gb hpq
        generalize G a.M b.M = g at *
        generalize G a.M a.R = x at *
        generalize G b.M b.R = y at *
        simp only [g1, g2, g3, g4, g5, g6, e1, e2, e3, e4, v1, v2, fe, fe1, All, and_true, Bool.and_false, cond_false, Bool.true_and]
        refine ⟨⟨fun h => Bool.noConfusion h, fun _ => ⟨fun h => Bool.noConfusion h, fun _ => ⟨fun h => Bool.noConfusion h, fun _ => ⟨P1, fun _ => trivial, fun _ => ⟨w1, w2, p1⟩⟩⟩⟩⟩, ⟨fun h => Bool.noConfusion h, fun _ => ⟨fun h => Bool.noConfusion h, fun _ => ⟨fun h => Bool.noConfusion h, fun _ => ⟨P2, fun _ => trivial, fun _ => ⟨w3, w4, p2⟩⟩⟩⟩⟩, trivial, ?_⟩
        by_cases h3 : x * y > g
        · rw [decide_eq_true h3, cond_true, Right_eq, Right_iff]; right; dsimp only; omega
        · rw [decide_eq_false h3, cond_false, Right_eq, Right_iff]; right; exact hrr
      · rw [if_neg h] at fe fe1
        clear fp h g0 ga gb hpq
        generalize G a.M b.M = g at *
        generalize G a.M a.R = x at *
        generalize G b.M b.R = y at *
        simp only [g1, g2, g3, g4, g5, g6, e1, e2, e3, e4, v1, v2, fe, fe1, All, and_true, Bool.and_false, cond_false, Bool.false_and]
        refine ⟨⟨fun h => Bool.noConfusion h, fun _ => ⟨fun h => Bool.noConfusion h, fun _ => ⟨fun h => Bool.noConfusion h, fun _ => ⟨P1, fun _ => trivial, fun _ => ⟨w1, w2, p1⟩⟩⟩⟩⟩, ⟨fun h => Bool.noConfusion h, fun _ => ⟨fun h => Bool.noConfusion h, fun _ => ⟨fun h => Bool.noConfusion h, fun _ => ⟨P2, fun _ => trivial, fun _ => ⟨w3, w4, p2⟩⟩⟩⟩⟩, trivial, ?_⟩
        rw [Right_eq, Right_iff]; right; exact hrr
end S
