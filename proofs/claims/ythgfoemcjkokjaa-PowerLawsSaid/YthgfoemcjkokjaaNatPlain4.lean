/-
  Products of numbers, by their values.
-/
import Derived.Test.YthgfoemcjkokjaaNatPlain3
import Derived.Laws.Bits
set_option linter.all false
open Go Vm
namespace S
theorem Mul64_eq (x y : Int) (hx : 0 ≤ x ∧ x ≤ 18446744073709551615) (hy : 0 ≤ y ∧ y ≤ 18446744073709551615) : S.math_bits_Mul64 x y = (x * y / 18446744073709551616, x * y % 18446744073709551616) := by
  have f : ∀ z : Int, Int.fdiv z (2 ^ min (Int.toNat 32) 64) = z / 4294967296 := fun z => by
    rw [show (2 : Int) ^ min (Int.toNat 32) 64 = 4294967296 by decide]; exact Int.fdiv_eq_ediv_of_nonneg _ (by decide)
  have m := mul64_arith x y hx.1 (by omega) hy.1 (by omega)
  simp only [math_bits_Mul64, f, IntKind.wrap_u64]
  rw [and_low32 x hx.1 (by omega), and_low32 y hy.1 (by omega), and_low32 _ (Int.emod_nonneg _ (by decide)) (Int.emod_lt_of_pos _ (by decide)), m]

theorem val_set : ∀ (l : List Int) (k : Nat) (v : Int), k < l.length → val (l.set k v) = val l + 18446744073709551616 ^ k * (v - l.getD k 0)
  | [], k, v, h => by simp at h
  | x :: l, 0, v, h => by simp [val]; omega
  | x :: l, k + 1, v, h => by
    simp only [List.set_cons_succ, val, List.getD_cons_succ]
    rw [val_set l k v (by simpa using h), Int.pow_succ, Int.mul_add, ← Int.add_assoc, ← Int.mul_assoc, Int.mul_comm (18446744073709551616 ^ k) 18446744073709551616]
theorem lim_set {l : List Int} (h : lim l) (k : Nat) (v : Int) (hv : 0 ≤ v ∧ v ≤ 18446744073709551615) : lim (l.set k v) := by
  intro x hx
  rcases List.mem_or_eq_of_mem_set hx with h1 | h1
  · exact h x h1
  · rw [h1]; exact hv
theorem getD_set_ne (l : List Int) (k j : Nat) (v : Int) (h : k ≠ j) : (l.set k v).getD j 0 = l.getD j 0 := by
  rw [List.getD_eq_getElem?_getD, List.getD_eq_getElem?_getD, List.getElem?_set_ne h]

/-- One digit's product, with what is there and what is carried. -/
theorem mul_step (x y e c : Int) (hx : 0 ≤ x ∧ x ≤ 18446744073709551615) (hy : 0 ≤ y ∧ y ≤ 18446744073709551615) (he : 0 ≤ e ∧ e ≤ 18446744073709551615) (hc : 0 ≤ c ∧ c ≤ 18446744073709551615) :
    ∃ v q, (S.math_bits_Add64 (S.math_bits_Add64 (S.math_bits_Mul64 x y).2 e 0).1 c 0).1 = v ∧ IntKind.u64.wrap (IntKind.u64.wrap ((S.math_bits_Mul64 x y).1 + (S.math_bits_Add64 (S.math_bits_Mul64 x y).2 e 0).2) + (S.math_bits_Add64 (S.math_bits_Add64 (S.math_bits_Mul64 x y).2 e 0).1 c 0).2) = q ∧
      (0 ≤ v ∧ v ≤ 18446744073709551615) ∧ (0 ≤ q ∧ q ≤ 18446744073709551615) ∧ v + 18446744073709551616 * q = x * y + e + c ∧
      S.math_bits_Add64_pre (S.math_bits_Mul64 x y).2 e 0 ∧ S.math_bits_Add64_pre (S.math_bits_Add64 (S.math_bits_Mul64 x y).2 e 0).1 c 0 := by
  refine ⟨_, _, rfl, rfl, ?_⟩
  rw [Mul64_eq x y hx hy]
  simp only [math_bits_Add64, math_bits_Add64_pre, IntKind.wrap_u64]
  have hxy : 0 ≤ x * y := Int.mul_nonneg hx.1 hy.1
  have hxy2 : x * y ≤ 18446744073709551615 * 18446744073709551615 := Int.mul_le_mul hx.2 hy.2 hy.1 (by omega)
  generalize x * y = p at *
  omega

theorem MulL2_runs (b : List Int) (hb : lim b) (i : Nat) (x : Int) (hx : 0 ≤ x ∧ x ≤ 18446744073709551615) (l0 : List Int) (h0 : lim l0) (hl : i + b.length < l0.length) (hbig : l0.length ≤ 1000000) :
    ∃ y, Runs nat_Mul_L2_step nat_Mul_L2_vcs ⟨(i : Int), x, 0, b, (b.length : Int), 0, l0⟩ y ∧ (y.i = (i : Int) ∧ y.l.length = l0.length ∧ lim y.l ∧ (0 ≤ y.carry ∧ y.carry ≤ 18446744073709551615) ∧
      (∀ k, i + b.length ≤ k → y.l.getD k 0 = l0.getD k 0) ∧ val y.l + 18446744073709551616 ^ (i + b.length) * y.carry = val l0 + 18446744073709551616 ^ i * (x * val b)) := by
  refine Runs.of (fun s => ∃ j : Nat, s.i = (i : Int) ∧ s.vx = x ∧ s.t29 = b ∧ s.t30 = (b.length : Int) ∧ s.t31 = (j : Int) ∧ j ≤ b.length ∧ s.l.length = l0.length ∧ lim s.l ∧ (0 ≤ s.carry ∧ s.carry ≤ 18446744073709551615) ∧
      (∀ k, i + b.length ≤ k → s.l.getD k 0 = l0.getD k 0) ∧ val s.l + 18446744073709551616 ^ (i + j) * s.carry = val l0 + 18446744073709551616 ^ i * (x * val (b.take j)))
    (fun s => ((b.length : Int) - s.t31).toNat) _ ?_ _ ⟨0, rfl, rfl, rfl, rfl, rfl, by omega, rfl, h0, by simp, fun _ _ => rfl, by simp [val]⟩
  rintro ⟨i', x', c, b', n', j', l⟩ ⟨j, h1, h2, h3, h4, h5, h6, h7, h8, h9, h10, h11⟩
  dsimp only at *
  subst h1 h2 h3 h4 h5
  by_cases hj : j < b'.length
  · have hj' : (j : Int) < (b'.length : Int) := by omega
    have w1 : IntKind.i64.wrap ((j : Int) + 1) = ((j + 1 : Nat) : Int) := by rw [IntWalk.i64_in] <;> omega
    have w2 : IntKind.i64.wrap ((i : Int) + (j : Int)) = ((i + j : Nat) : Int) := by rw [IntWalk.i64_in] <;> omega
    have gb := getD_lim hb j; have gl := getD_lim h8 (i + j)
    obtain ⟨v, q, k1, k2, k3, k4, k5, k6, k7⟩ := mul_step x' (b'.getD j 0) (l.getD (i + j) 0) c hx gb gl h9
    refine ⟨?_, ?_⟩
    · simp only [nat_Mul_L2_vcs, All, hj', decide_true, true_implies, and_true, Bool.true_eq_false, false_implies, w2, Int.toNat_natCast, k6, k7, true_and, h7]
      omega
    · simp only [nat_Mul_L2_step, hj', decide_true, cond_true, w1, w2, Int.toNat_natCast, k1, k2]
      refine ⟨⟨j + 1, trivial, trivial, trivial, trivial, rfl, by omega, by rw [List.length_set]; exact h7, lim_set h8 _ _ k3, k4, fun k hk => ?_, ?_⟩, by omega⟩
      · rw [getD_set_ne _ _ _ _ (by omega)]; exact h10 k hk
      · rw [val_set _ _ _ (by omega), val_take, ← Nat.add_assoc, Int.pow_succ]
        have e1 : (18446744073709551616 : Int) ^ (i + j) * (v - l.getD (i + j) 0) + 18446744073709551616 ^ (i + j) * 18446744073709551616 * q = 18446744073709551616 ^ (i + j) * (x' * b'.getD j 0) + 18446744073709551616 ^ (i + j) * c := by
          rw [Int.mul_assoc, ← Int.mul_add, ← Int.mul_add]; congr 1; omega
        have e2 : (18446744073709551616 : Int) ^ i * (x' * (val (b'.take j) + 18446744073709551616 ^ j * b'.getD j 0)) = 18446744073709551616 ^ i * (x' * val (b'.take j)) + 18446744073709551616 ^ (i + j) * (x' * b'.getD j 0) := by
          rw [Int.mul_add, Int.mul_add, Int.pow_add, ← Int.mul_assoc x' (18446744073709551616 ^ j), Int.mul_comm x' (18446744073709551616 ^ j), Int.mul_assoc (18446744073709551616 ^ j), ← Int.mul_assoc (18446744073709551616 ^ i) (18446744073709551616 ^ j)]
        rw [e2]
        omega
  · have hj' : ¬ (j : Int) < (b'.length : Int) := by omega
    have e : j = b'.length := by omega
    subst e
    refine ⟨by simp [nat_Mul_L2_vcs, hj'], ?_⟩
    simp only [nat_Mul_L2_step, hj', decide_false, cond_false]
    rw [List.take_of_length_le (Nat.le_refl _)] at h11
    exact ⟨trivial, h7, h8, h9, h10, h11⟩
end S
