/-
  The stage's theorem on numbers, in plain words.
-/
import Derived.Test.YthgfoemcjkokjaaNatPlain5
set_option linter.all false
open Go Vm
namespace S

theorem Of_num (n : Nat) (h : n ≤ 18446744073709551615) : S.nat_Of_pre (n : Int) ∧ S.nat_Of (n : Int) = num n := by
  have hl : lim [(n : Int)] := lim_cons.2 ⟨by omega, lim_nil⟩
  obtain ⟨p, q, _⟩ := nLimbs [(n : Int)] hl (by simp)
  have hv : (val [(n : Int)]).toNat = n := by simp [val]
  rw [hv] at q
  refine ⟨by simp only [nat_Of_pre, All, and_true]; exact p, ?_⟩
  simp only [nat_Of]; exact q
theorem num_nil : (⟨[]⟩ : S.Num) = num 0 := by simp [num, digs]
theorem Len_num (n : Nat) : S.nat_Nat_Len (num n) = ((digs n).length : Int) := rfl
theorem digs_lt {n : Nat} (h0 : 0 < n) (h : n < 18446744073709551616) : digs n = [(n : Int)] := by
  rw [digs_pos h0, show n / 18446744073709551616 = 0 by omega, Nat.mod_eq_of_lt h]
  simp [digs]
theorem digs_B (n : Nat) (h0 : 0 < n / 18446744073709551616) (h : n / 18446744073709551616 < 18446744073709551616) : digs n = [((n % 18446744073709551616 : Nat) : Int), ((n / 18446744073709551616 : Nat) : Int)] := by
  rw [digs_pos (by omega), digs_lt h0 h]
theorem s1 {n : Nat} (h : n < 18446744073709551616) : small n := upto_small (k := 1) (by unfold upto; rw [Nat.pow_one]; exact h) (by omega)
theorem All_pre (n : Nat) (h : small n) : S.nat_Nat_All_pre (num n) := by
  simp only [nat_Nat_All_pre, All, and_true, num]; exact Clone_pre _ (Nat.le_trans h (by omega))
theorem All_num (n : Nat) : S.nat_Nat_All (num n) = digs n := rfl

theorem works_both : S.law01_works_pre ∧ S.law01_works = true := by
  obtain ⟨o1, q1⟩ := Of_num 18446744073709551615 (by omega)
  obtain ⟨o2, q2⟩ := Of_num 1 (by omega)
  obtain ⟨o3, q3⟩ := Of_num 5 (by omega)
  obtain ⟨o4, q4⟩ := Of_num 7 (by omega)
  have q1 : S.nat_Of 18446744073709551615 = num 18446744073709551615 := q1
  have q2 : S.nat_Of 1 = num 1 := q2
  have q3 : S.nat_Of 5 = num 5 := q3
  have q4 : S.nat_Of 7 = num 7 := q4
  obtain ⟨a1, a2⟩ := nAdd 18446744073709551615 1 (s1 (by omega)) (s1 (by omega))
  obtain ⟨m1, m2⟩ := nMul 18446744073709551615 18446744073709551615 (s1 (by omega)) (s1 (by omega))
  obtain ⟨b1, b2⟩ := nSub 5 7 (s1 (by omega)) (s1 (by omega))
  rw [if_pos (by omega)] at b2
  have d1 : digs (18446744073709551615 + 1) = [0, 1] := by rw [digs_B _ (by omega) (by omega)]; rfl
  have d2 : digs (18446744073709551615 * 18446744073709551615) = [1, 18446744073709551614] := by rw [digs_B _ (by omega) (by omega)]; rfl
  have sm1 : small (18446744073709551615 + 1) := by unfold small; rw [d1]; decide
  have sm2 : small (18446744073709551615 * 18446744073709551615) := by unfold small; rw [d2]; decide
  have c1 : S.nat_Cap_Add_pre 1 (num 18446744073709551615) (num 1) := by simp only [nat_Cap_Add_pre, All, and_true]; exact a1
  have c2 : (S.nat_Cap_Add 1 (num 18446744073709551615) (num 1)).2 = false := by
    simp only [nat_Cap_Add, a2, nat_Cap_fit, nat_Cap_Fits, Len_num, d1]; rfl
  refine ⟨?_, ?_⟩
  · simp only [law01_works_pre, q1, q2, q3, q4, a2, m2, All_num, d1, d2]
    have e : ∀ p : Prop, (p → p) := fun _ h => h
    simp only [All, All_pre _ sm1, All_pre _ sm2, a1, m1, b1, c1, and_true, true_and, implies_true]
    refine ⟨o1, o2, o3, o4, o2, ?_⟩
    simp
  · simp only [law01_works, q1, q2, q3, q4, a2, m2, All_num, d1, d2, b2, c2]
    rfl
end S
