/-
  Printed by a program out of the plain texts of another seat: what the smaller packages' functions compute, in plain words. Conditions: those that each theorem states.
-/
import Derived.Test.YthnlknegnlmklaaDEDefs
import Derived.IntWalk
import Derived.Laws.BitsAllLaws
import Derived.Laws.MathBits
set_option linter.all false
open Go Vm

namespace SC
open S
theorem emod_unique {a m r q : Int} (h : a = m * q + r) (h0 : 0 ≤ r) (h1 : r < m) : a % m = r := by
  rw [h, Int.add_comm, Int.add_mul_emod_self_left]; exact Int.emod_eq_of_lt h0 h1
theorem tmod_pos (a b : Int) (h : 0 ≤ a) : Int.tmod a b = a % b := Int.tmod_eq_emod_of_nonneg h
theorem Div64_small (lo y : Int) (hlo : 0 ≤ lo) (hlo2 : lo ≤ 18446744073709551615) (hy : 0 < y) : S.math_bits_Div64_pre 0 lo y ∧ S.math_bits_Div64 0 lo y = (lo / y, lo % y) := by
  have h1 : (y == 0) = false := beq_eq_false_iff_ne.2 (by omega)
  have h2 : decide (y ≤ 0) = false := by simp; omega
  have h3 : ((0 : Int) == 0) = true := rfl
  refine ⟨?_, ?_⟩
  · simp only [math_bits_Div64_pre, h1, h2, h3, All, and_true]
    exact ⟨fun h => Bool.noConfusion h, fun _ => ⟨fun h => Bool.noConfusion h, fun _ => ⟨fun _ => ⟨by omega, by omega⟩, fun h => Bool.noConfusion h⟩⟩⟩
  · simp only [math_bits_Div64, h3, cond_true]
    rw [tmod_pos _ _ hlo, Int.tdiv_eq_ediv_of_nonneg hlo, IntWalk.u64_in]
    have := Int.ediv_nonneg hlo (Int.le_of_lt hy)
    have := Int.ediv_le_self y hlo
    omega
theorem div_facts (N Y : Int) (hY : 0 < Y) : N / Y * Y ≤ N ∧ N < N / Y * Y + Y := by
  have h1 := Int.mul_ediv_add_emod N Y
  have h2 := Int.emod_nonneg N (show Y ≠ 0 by omega)
  have h3 := Int.emod_lt_of_pos N hY
  rw [Int.mul_comm] at h1
  omega
section
variable (yn1 yn0 un u : Int) (h1 : 2147483648 ≤ yn1) (h1' : yn1 < 4294967296) (h0 : 0 ≤ yn0 ∧ yn0 < 4294967296) (hu : 0 ≤ u) (huy : u < yn1 * 4294967296 + yn0) (hun : 0 ≤ un ∧ un < 4294967296)
/-- What is kept while a digit is sought. -/
def DInv (yn1 yn0 un u q r : Int) : Prop := q * yn1 + r = u ∧ 0 ≤ r ∧ r < 4294967296 ∧ (u * 4294967296 + un) / (yn1 * 4294967296 + yn0) ≤ q ∧ 0 ≤ q ∧ q ≤ 4294967297
include h1 h1' h0 hu huy hun
theorem q_small : 0 ≤ (u * 4294967296 + un) / (yn1 * 4294967296 + yn0) ∧ (u * 4294967296 + un) / (yn1 * 4294967296 + yn0) < 4294967296 := by
  refine ⟨Int.ediv_nonneg (by omega) (by omega), ?_⟩
  rw [Int.ediv_lt_iff_lt_mul (by omega)]
  omega
theorem DInv_init : DInv yn1 yn0 un u (u / yn1) (u - u / yn1 * yn1) := by
  obtain ⟨a1, a2⟩ := div_facts u yn1 (by omega)
  have a3 := Int.ediv_nonneg hu (show 0 ≤ yn1 by omega)
  have hq : u / yn1 < 4294967298 := by
    rw [Int.ediv_lt_iff_lt_mul (by omega)]; omega
  have hQ : (u * 4294967296 + un) / (yn1 * 4294967296 + yn0) ≤ u / yn1 := by
    obtain ⟨b1, _⟩ := div_facts (u * 4294967296 + un) (yn1 * 4294967296 + yn0) (by omega)
    have b0 := (q_small yn1 yn0 un u h1 h1' h0 hu huy hun).1
    generalize (u * 4294967296 + un) / (yn1 * 4294967296 + yn0) = Q at *
    rw [Int.le_ediv_iff_mul_le (by omega)]
    have c1 := Int.mul_nonneg b0 h0.1
    rw [Int.mul_add, ← Int.mul_assoc] at b1
    omega
  exact ⟨by omega, by omega, by omega, hQ, a3, by omega⟩
/-- The test, as numbers have it. -/
theorem D_test (q r : Int) (h : DInv yn1 yn0 un u q r) : (q ≥ 4294967296 ∨ q * yn0 > 4294967296 * r + un) ↔ (u * 4294967296 + un) / (yn1 * 4294967296 + yn0) < q := by
  obtain ⟨i1, i2, i3, i4, i5, i6⟩ := h
  have b := q_small yn1 yn0 un u h1 h1' h0 hu huy hun
  have key : q ≤ (u * 4294967296 + un) / (yn1 * 4294967296 + yn0) ↔ q * yn0 ≤ 4294967296 * r + un := by
    rw [Int.le_ediv_iff_mul_le (by omega), Int.mul_add, ← Int.mul_assoc]
    omega
  omega
theorem D_next (q r : Int) (h : DInv yn1 yn0 un u q r) (ht : (u * 4294967296 + un) / (yn1 * 4294967296 + yn0) < q) :
    (r + yn1 < 4294967296 → DInv yn1 yn0 un u (q - 1) (r + yn1)) ∧ (4294967296 ≤ r + yn1 → q - 1 = (u * 4294967296 + un) / (yn1 * 4294967296 + yn0)) := by
  obtain ⟨i1, i2, i3, i4, i5, i6⟩ := h
  have b := q_small yn1 yn0 un u h1 h1' h0 hu huy hun
  have e : (q - 1) * yn1 = q * yn1 - yn1 := by rw [Int.sub_mul, Int.one_mul]
  refine ⟨fun hr => ⟨by omega, by omega, hr, by omega, by omega, by omega⟩, fun hr => ?_⟩
  have : q - 1 ≤ (u * 4294967296 + un) / (yn1 * 4294967296 + yn0) := by
    rw [Int.le_ediv_iff_mul_le (by omega), Int.mul_add, ← Int.mul_assoc, e]
    have : (q - 1) * yn0 ≤ 4294967296 * yn0 := Int.mul_le_mul_of_nonneg_right (by omega) h0.1
    omega
  omega
theorem D_wraps (q r : Int) (h : DInv yn1 yn0 un u q r) : IntKind.u64.wrap (q * yn0) = q * yn0 ∧ IntKind.u64.wrap (IntKind.u64.wrap (4294967296 * r) + un) = 4294967296 * r + un ∧ IntKind.u64.wrap (r + yn1) = r + yn1 := by
  obtain ⟨i1, i2, i3, i4, i5, i6⟩ := h
  have c1 := Int.mul_nonneg i5 h0.1
  have c2 : q * yn0 ≤ 4294967297 * yn0 := Int.mul_le_mul_of_nonneg_right i6 h0.1
  refine ⟨IntWalk.u64_in _ (by omega), ?_, IntWalk.u64_in _ (by omega)⟩
  rw [IntWalk.u64_in (4294967296 * r) (by omega), IntWalk.u64_in _ (by omega)]
theorem digit0 : ∃ y, Runs math_bits_Div64_L0_step math_bits_Div64_L0_vcs ⟨yn1, yn0, un, u / yn1, u - u / yn1 * yn1⟩ y ∧ (y.yn1 = yn1 ∧ y.yn0 = yn0 ∧ y.un1 = un ∧ y.q1 = (u * 4294967296 + un) / (yn1 * 4294967296 + yn0)) := by
  refine Runs.of (step := math_bits_Div64_L0_step) (vcs := math_bits_Div64_L0_vcs) (fun x => x.yn1 = yn1 ∧ x.yn0 = yn0 ∧ x.un1 = un ∧ DInv yn1 yn0 un u x.q1 x.rhat) (fun x => x.q1.toNat) (fun y => y.yn1 = yn1 ∧ y.yn0 = yn0 ∧ y.un1 = un ∧ y.q1 = (u * 4294967296 + un) / (yn1 * 4294967296 + yn0)) ?_ _ ⟨rfl, rfl, rfl, DInv_init yn1 yn0 un u h1 h1' h0 hu huy hun⟩
  rintro ⟨a, b, c, q, r⟩ ⟨rfl, rfl, rfl, hI⟩
  dsimp only at *
  have b0 := (q_small a b c u h1 h1' h0 hu huy hun).1
  obtain ⟨w1, w2, w3⟩ := D_wraps a b c u h1 h1' h0 hu huy hun q r hI
  have ht := D_test a b c u h1 h1' h0 hu huy hun q r hI
  refine ⟨by simp [math_bits_Div64_L0_vcs], ?_⟩
  simp only [math_bits_Div64_L0_step, w1, w2, w3]
  by_cases hT : (u * 4294967296 + c) / (a * 4294967296 + b) < q
  · have e1 : (decide (q ≥ 4294967296) || decide (q * b > 4294967296 * r + c)) = true := by simpa using ht.2 hT
    obtain ⟨n1, n2⟩ := D_next a b c u h1 h1' h0 hu huy hun q r hI hT
    have hq := hI.2.2.2.2.2
    have e2 : IntKind.u64.wrap (q - 1) = q - 1 := IntWalk.u64_in _ (by omega)
    rw [e1, cond_true, e2]
    by_cases hr : r + a ≥ 4294967296
    · rw [decide_eq_true hr, cond_true]; exact ⟨rfl, rfl, rfl, n2 hr⟩
    · rw [decide_eq_false hr, cond_false]; exact ⟨⟨rfl, rfl, rfl, n1 (by omega)⟩, by dsimp only; omega⟩
  · have e1 : (decide (q ≥ 4294967296) || decide (q * b > 4294967296 * r + c)) = false := by
      cases h : (decide (q ≥ 4294967296) || decide (q * b > 4294967296 * r + c)) with
      | false => rfl
      | true => exact absurd (ht.1 (by simpa using h)) hT
    rw [e1, cond_false]
    exact ⟨rfl, rfl, rfl, Int.le_antisymm (show q ≤ _ by omega) hI.2.2.2.1⟩
theorem digit2 : ∃ y, Runs math_bits_Div64_L2_step math_bits_Div64_L2_vcs ⟨yn1, yn0, un, u - u / yn1 * yn1, u / yn1⟩ y ∧ (y.yn1 = yn1 ∧ y.yn0 = yn0 ∧ y.un0 = un ∧ y.q0 = (u * 4294967296 + un) / (yn1 * 4294967296 + yn0)) := by
  refine Runs.of (step := math_bits_Div64_L2_step) (vcs := math_bits_Div64_L2_vcs) (fun x => x.yn1 = yn1 ∧ x.yn0 = yn0 ∧ x.un0 = un ∧ DInv yn1 yn0 un u x.q0 x.rhat) (fun x => x.q0.toNat) (fun y => y.yn1 = yn1 ∧ y.yn0 = yn0 ∧ y.un0 = un ∧ y.q0 = (u * 4294967296 + un) / (yn1 * 4294967296 + yn0)) ?_ _ ⟨rfl, rfl, rfl, DInv_init yn1 yn0 un u h1 h1' h0 hu huy hun⟩
  rintro ⟨a, b, c, r, q⟩ ⟨rfl, rfl, rfl, hI⟩
  dsimp only at *
  have b0 := (q_small a b c u h1 h1' h0 hu huy hun).1
  obtain ⟨w1, w2, w3⟩ := D_wraps a b c u h1 h1' h0 hu huy hun q r hI
  have ht := D_test a b c u h1 h1' h0 hu huy hun q r hI
  refine ⟨by simp [math_bits_Div64_L2_vcs], ?_⟩
  simp only [math_bits_Div64_L2_step, w1, w2, w3]
  by_cases hT : (u * 4294967296 + c) / (a * 4294967296 + b) < q
  · have e1 : (decide (q ≥ 4294967296) || decide (q * b > 4294967296 * r + c)) = true := by simpa using ht.2 hT
    obtain ⟨n1, n2⟩ := D_next a b c u h1 h1' h0 hu huy hun q r hI hT
    have hq := hI.2.2.2.2.2
    have e2 : IntKind.u64.wrap (q - 1) = q - 1 := IntWalk.u64_in _ (by omega)
    rw [e1, cond_true, e2]
    by_cases hr : r + a ≥ 4294967296
    · rw [decide_eq_true hr, cond_true]; exact ⟨rfl, rfl, rfl, n2 hr⟩
    · rw [decide_eq_false hr, cond_false]; exact ⟨⟨rfl, rfl, rfl, n1 (by omega)⟩, by dsimp only; omega⟩
  · have e1 : (decide (q ≥ 4294967296) || decide (q * b > 4294967296 * r + c)) = false := by
      cases h : (decide (q ≥ 4294967296) || decide (q * b > 4294967296 * r + c)) with
      | false => rfl
      | true => exact absurd (ht.1 (by simpa using h)) hT
    rw [e1, cond_false]
    exact ⟨rfl, rfl, rfl, Int.le_antisymm (show q ≤ _ by omega) hI.2.2.2.1⟩
end

/-! ### How many digits a number has -/
def bl (z : Int) : Int := (bitLen z.toNat : Nat)
theorem bl_step (z : Int) (k : Nat) (m : Int) (hm : m = 2 ^ k) (hz : m ≤ z) : bl z = k + bl (z / m) := by
  have hp : (0 : Int) < 2 ^ k := Int.pow_pos (by decide)
  obtain ⟨n, rfl⟩ := Int.eq_ofNat_of_zero_le (show 0 ≤ z by omega)
  subst hm
  have e : ((n : Int) / 2 ^ k).toNat = n / 2 ^ k := by
    have : ((2 : Int) ^ k) = ((2 ^ k : Nat) : Int) := by simp
    rw [this, ← Int.natCast_ediv]; rfl
  simp only [bl, e, Int.toNat_natCast]
  have h0 : n / 2 ^ k ≠ 0 := by
    have : 2 ^ k ≤ n := by
      have h2 : ((2 ^ k : Nat) : Int) ≤ (n : Int) := by simpa using hz
      exact Int.ofNat_le.1 h2
    have := Nat.div_pos this (Nat.two_pow_pos k)
    omega
  rw [bitLen_shift n k h0]; simp
theorem tab_get : ∀ i : Nat, i < 256 → ((⟨#[0, 1, 2, 2, 3, 3, 3, 3, 4, 4, 4, 4, 4, 4, 4, 4, 5, 5, 5, 5, 5, 5, 5, 5, 5, 5, 5, 5, 5, 5, 5, 5, 6, 6, 6, 6, 6, 6, 6, 6, 6, 6, 6, 6, 6, 6, 6, 6, 6, 6, 6, 6, 6, 6, 6, 6, 6, 6, 6, 6, 6, 6, 6, 6, 7, 7, 7, 7, 7, 7, 7, 7, 7, 7, 7, 7, 7, 7, 7, 7, 7, 7, 7, 7, 7, 7, 7, 7, 7, 7, 7, 7, 7, 7, 7, 7, 7, 7, 7, 7, 7, 7, 7, 7, 7, 7, 7, 7, 7, 7, 7, 7, 7, 7, 7, 7, 7, 7, 7, 7, 7, 7, 7, 7, 7, 7, 7, 7, 8, 8, 8, 8, 8, 8, 8, 8, 8, 8, 8, 8, 8, 8, 8, 8, 8, 8, 8, 8, 8, 8, 8, 8, 8, 8, 8, 8, 8, 8, 8, 8, 8, 8, 8, 8, 8, 8, 8, 8, 8, 8, 8, 8, 8, 8, 8, 8, 8, 8, 8, 8, 8, 8, 8, 8, 8, 8, 8, 8, 8, 8, 8, 8, 8, 8, 8, 8, 8, 8, 8, 8, 8, 8, 8, 8, 8, 8, 8, 8, 8, 8, 8, 8, 8, 8, 8, 8, 8, 8, 8, 8, 8, 8, 8, 8, 8, 8, 8, 8, 8, 8, 8, 8, 8, 8, 8, 8, 8, 8, 8, 8, 8, 8, 8, 8, 8, 8, 8, 8, 8, 8, 8, 8, 8, 8, 8, 8]⟩ : ByteArray).data.toList.getD i 0).toNat = bitLen i := by
  have : (List.range 256).all (fun i => ((⟨#[0, 1, 2, 2, 3, 3, 3, 3, 4, 4, 4, 4, 4, 4, 4, 4, 5, 5, 5, 5, 5, 5, 5, 5, 5, 5, 5, 5, 5, 5, 5, 5, 6, 6, 6, 6, 6, 6, 6, 6, 6, 6, 6, 6, 6, 6, 6, 6, 6, 6, 6, 6, 6, 6, 6, 6, 6, 6, 6, 6, 6, 6, 6, 6, 7, 7, 7, 7, 7, 7, 7, 7, 7, 7, 7, 7, 7, 7, 7, 7, 7, 7, 7, 7, 7, 7, 7, 7, 7, 7, 7, 7, 7, 7, 7, 7, 7, 7, 7, 7, 7, 7, 7, 7, 7, 7, 7, 7, 7, 7, 7, 7, 7, 7, 7, 7, 7, 7, 7, 7, 7, 7, 7, 7, 7, 7, 7, 7, 8, 8, 8, 8, 8, 8, 8, 8, 8, 8, 8, 8, 8, 8, 8, 8, 8, 8, 8, 8, 8, 8, 8, 8, 8, 8, 8, 8, 8, 8, 8, 8, 8, 8, 8, 8, 8, 8, 8, 8, 8, 8, 8, 8, 8, 8, 8, 8, 8, 8, 8, 8, 8, 8, 8, 8, 8, 8, 8, 8, 8, 8, 8, 8, 8, 8, 8, 8, 8, 8, 8, 8, 8, 8, 8, 8, 8, 8, 8, 8, 8, 8, 8, 8, 8, 8, 8, 8, 8, 8, 8, 8, 8, 8, 8, 8, 8, 8, 8, 8, 8, 8, 8, 8, 8, 8, 8, 8, 8, 8, 8, 8, 8, 8, 8, 8, 8, 8, 8, 8, 8, 8, 8, 8, 8, 8, 8, 8]⟩ : ByteArray).data.toList.getD i 0).toNat == bitLen i) = true := by decide +kernel
  intro i hi
  have := List.all_eq_true.1 this i (List.mem_range.2 hi)
  exact beq_iff_eq.1 this
set_option maxRecDepth 100000 in
theorem bl_tab (z : Int) (h0 : 0 ≤ z) (h1 : z < 256) : IntKind.i64.wrap (((⟨#[0, 1, 2, 2, 3, 3, 3, 3, 4, 4, 4, 4, 4, 4, 4, 4, 5, 5, 5, 5, 5, 5, 5, 5, 5, 5, 5, 5, 5, 5, 5, 5, 6, 6, 6, 6, 6, 6, 6, 6, 6, 6, 6, 6, 6, 6, 6, 6, 6, 6, 6, 6, 6, 6, 6, 6, 6, 6, 6, 6, 6, 6, 6, 6, 7, 7, 7, 7, 7, 7, 7, 7, 7, 7, 7, 7, 7, 7, 7, 7, 7, 7, 7, 7, 7, 7, 7, 7, 7, 7, 7, 7, 7, 7, 7, 7, 7, 7, 7, 7, 7, 7, 7, 7, 7, 7, 7, 7, 7, 7, 7, 7, 7, 7, 7, 7, 7, 7, 7, 7, 7, 7, 7, 7, 7, 7, 7, 7, 8, 8, 8, 8, 8, 8, 8, 8, 8, 8, 8, 8, 8, 8, 8, 8, 8, 8, 8, 8, 8, 8, 8, 8, 8, 8, 8, 8, 8, 8, 8, 8, 8, 8, 8, 8, 8, 8, 8, 8, 8, 8, 8, 8, 8, 8, 8, 8, 8, 8, 8, 8, 8, 8, 8, 8, 8, 8, 8, 8, 8, 8, 8, 8, 8, 8, 8, 8, 8, 8, 8, 8, 8, 8, 8, 8, 8, 8, 8, 8, 8, 8, 8, 8, 8, 8, 8, 8, 8, 8, 8, 8, 8, 8, 8, 8, 8, 8, 8, 8, 8, 8, 8, 8, 8, 8, 8, 8, 8, 8, 8, 8, 8, 8, 8, 8, 8, 8, 8, 8, 8, 8, 8, 8, 8, 8, 8, 8]⟩ : ByteArray).data.toList.getD (Int.toNat (IntKind.u8.wrap z)) 0).toNat : Int) = bl z ∧ bl z ≤ 8 ∧ 0 ≤ bl z := by
  have h2 := bitLen_le8 z.toNat (by omega)
  rw [IntWalk.u8_in z (by omega), tab_get z.toNat (by omega)]
  refine ⟨by rw [IntWalk.i64_in _ (by omega)]; rfl, ?_, ?_⟩ <;> simp only [bl] <;> omega
theorem sh (z : Int) (k : Nat) (m : Int) (hk : (2 : Int) ^ min (Int.toNat k) 64 = m) (hm : 0 < m) : Int.fdiv z (2 ^ min (Int.toNat k) 64) = z / m := by
  rw [hk]; exact Int.fdiv_eq_ediv_of_nonneg _ (Int.le_of_lt hm)
set_option maxRecDepth 100000 in
theorem Len64_both (x : Int) (h0 : 0 ≤ x) (h1 : x ≤ 18446744073709551615) : S.math_bits_Len64_pre x ∧ S.math_bits_Len64 x = bl x := by
  have f32 : ∀ z : Int, Int.fdiv z (2 ^ min (Int.toNat 32) 64) = z / 4294967296 := fun z => sh z 32 _ (by decide) (by decide)
  have f16 : ∀ z : Int, Int.fdiv z (2 ^ min (Int.toNat 16) 64) = z / 65536 := fun z => sh z 16 _ (by decide) (by decide)
  have f8 : ∀ z : Int, Int.fdiv z (2 ^ min (Int.toNat 8) 64) = z / 256 := fun z => sh z 8 _ (by decide) (by decide)
  have key : ∀ (x3 n3 : Int), 0 ≤ x3 → x3 < 256 → 0 ≤ n3 → n3 ≤ 64 → bl x = n3 + bl x3 →
      (0 ≤ IntKind.u8.wrap x3 ∧ IntKind.u8.wrap x3 < (((⟨#[0, 1, 2, 2, 3, 3, 3, 3, 4, 4, 4, 4, 4, 4, 4, 4, 5, 5, 5, 5, 5, 5, 5, 5, 5, 5, 5, 5, 5, 5, 5, 5, 6, 6, 6, 6, 6, 6, 6, 6, 6, 6, 6, 6, 6, 6, 6, 6, 6, 6, 6, 6, 6, 6, 6, 6, 6, 6, 6, 6, 6, 6, 6, 6, 7, 7, 7, 7, 7, 7, 7, 7, 7, 7, 7, 7, 7, 7, 7, 7, 7, 7, 7, 7, 7, 7, 7, 7, 7, 7, 7, 7, 7, 7, 7, 7, 7, 7, 7, 7, 7, 7, 7, 7, 7, 7, 7, 7, 7, 7, 7, 7, 7, 7, 7, 7, 7, 7, 7, 7, 7, 7, 7, 7, 7, 7, 7, 7, 8, 8, 8, 8, 8, 8, 8, 8, 8, 8, 8, 8, 8, 8, 8, 8, 8, 8, 8, 8, 8, 8, 8, 8, 8, 8, 8, 8, 8, 8, 8, 8, 8, 8, 8, 8, 8, 8, 8, 8, 8, 8, 8, 8, 8, 8, 8, 8, 8, 8, 8, 8, 8, 8, 8, 8, 8, 8, 8, 8, 8, 8, 8, 8, 8, 8, 8, 8, 8, 8, 8, 8, 8, 8, 8, 8, 8, 8, 8, 8, 8, 8, 8, 8, 8, 8, 8, 8, 8, 8, 8, 8, 8, 8, 8, 8, 8, 8, 8, 8, 8, 8, 8, 8, 8, 8, 8, 8, 8, 8, 8, 8, 8, 8, 8, 8, 8, 8, 8, 8, 8, 8, 8, 8, 8, 8, 8, 8]⟩ : ByteArray)).size : Int)) ∧ IntKind.i64.wrap (n3 + IntKind.i64.wrap (((⟨#[0, 1, 2, 2, 3, 3, 3, 3, 4, 4, 4, 4, 4, 4, 4, 4, 5, 5, 5, 5, 5, 5, 5, 5, 5, 5, 5, 5, 5, 5, 5, 5, 6, 6, 6, 6, 6, 6, 6, 6, 6, 6, 6, 6, 6, 6, 6, 6, 6, 6, 6, 6, 6, 6, 6, 6, 6, 6, 6, 6, 6, 6, 6, 6, 7, 7, 7, 7, 7, 7, 7, 7, 7, 7, 7, 7, 7, 7, 7, 7, 7, 7, 7, 7, 7, 7, 7, 7, 7, 7, 7, 7, 7, 7, 7, 7, 7, 7, 7, 7, 7, 7, 7, 7, 7, 7, 7, 7, 7, 7, 7, 7, 7, 7, 7, 7, 7, 7, 7, 7, 7, 7, 7, 7, 7, 7, 7, 7, 8, 8, 8, 8, 8, 8, 8, 8, 8, 8, 8, 8, 8, 8, 8, 8, 8, 8, 8, 8, 8, 8, 8, 8, 8, 8, 8, 8, 8, 8, 8, 8, 8, 8, 8, 8, 8, 8, 8, 8, 8, 8, 8, 8, 8, 8, 8, 8, 8, 8, 8, 8, 8, 8, 8, 8, 8, 8, 8, 8, 8, 8, 8, 8, 8, 8, 8, 8, 8, 8, 8, 8, 8, 8, 8, 8, 8, 8, 8, 8, 8, 8, 8, 8, 8, 8, 8, 8, 8, 8, 8, 8, 8, 8, 8, 8, 8, 8, 8, 8, 8, 8, 8, 8, 8, 8, 8, 8, 8, 8, 8, 8, 8, 8, 8, 8, 8, 8, 8, 8, 8, 8, 8, 8, 8, 8, 8, 8]⟩ : ByteArray).data.toList.getD (Int.toNat (IntKind.u8.wrap x3)) 0).toNat : Int)) = bl x := by
    intro x3 n3 a0 a1 b0 b1 hb
    obtain ⟨t1, t2, t3⟩ := bl_tab x3 a0 a1
    have hs : ((⟨#[0, 1, 2, 2, 3, 3, 3, 3, 4, 4, 4, 4, 4, 4, 4, 4, 5, 5, 5, 5, 5, 5, 5, 5, 5, 5, 5, 5, 5, 5, 5, 5, 6, 6, 6, 6, 6, 6, 6, 6, 6, 6, 6, 6, 6, 6, 6, 6, 6, 6, 6, 6, 6, 6, 6, 6, 6, 6, 6, 6, 6, 6, 6, 6, 7, 7, 7, 7, 7, 7, 7, 7, 7, 7, 7, 7, 7, 7, 7, 7, 7, 7, 7, 7, 7, 7, 7, 7, 7, 7, 7, 7, 7, 7, 7, 7, 7, 7, 7, 7, 7, 7, 7, 7, 7, 7, 7, 7, 7, 7, 7, 7, 7, 7, 7, 7, 7, 7, 7, 7, 7, 7, 7, 7, 7, 7, 7, 7, 8, 8, 8, 8, 8, 8, 8, 8, 8, 8, 8, 8, 8, 8, 8, 8, 8, 8, 8, 8, 8, 8, 8, 8, 8, 8, 8, 8, 8, 8, 8, 8, 8, 8, 8, 8, 8, 8, 8, 8, 8, 8, 8, 8, 8, 8, 8, 8, 8, 8, 8, 8, 8, 8, 8, 8, 8, 8, 8, 8, 8, 8, 8, 8, 8, 8, 8, 8, 8, 8, 8, 8, 8, 8, 8, 8, 8, 8, 8, 8, 8, 8, 8, 8, 8, 8, 8, 8, 8, 8, 8, 8, 8, 8, 8, 8, 8, 8, 8, 8, 8, 8, 8, 8, 8, 8, 8, 8, 8, 8, 8, 8, 8, 8, 8, 8, 8, 8, 8, 8, 8, 8, 8, 8, 8, 8, 8, 8]⟩ : ByteArray)).size = 256 := by decide +kernel
    refine ⟨?_, by rw [t1, IntWalk.i64_in _ (by omega)]; omega⟩
    rw [hs, IntWalk.u8_in x3 (by omega)]; omega
  have w : ∀ n : Int, 0 ≤ n → n ≤ 64 → IntKind.i64.wrap n = n := fun n a b => IntWalk.i64_in _ (by omega)
  simp only [math_bits_Len64_pre, math_bits_Len64, f32, f16, f8, All, and_true]
  have s1 : x ≥ 4294967296 → bl x = 32 + bl (x / 4294967296) := fun h => bl_step x 32 _ (by decide) h
  by_cases c1 : x ≥ 4294967296
  · have s2 : x / 4294967296 ≥ 65536 → bl (x / 4294967296) = 16 + bl (x / 4294967296 / 65536) := fun h => bl_step _ 16 _ (by decide) h
    have e1 := s1 c1
    simp only [decide_eq_true c1, cond_true]
    by_cases c2 : x / 4294967296 ≥ 65536
    · have e2 := s2 c2
      simp only [decide_eq_true c2, cond_true]
      by_cases c3 : x / 4294967296 / 65536 ≥ 256
      · have e3 := bl_step _ 8 256 (by decide) c3
        simp only [decide_eq_true c3, cond_true, w (32 + 16) (by decide) (by decide), w (32 + 16 + 8) (by decide) (by decide)]
        exact key _ _ (by omega) (by omega) (by decide) (by decide) (by omega)
      · simp only [decide_eq_false c3, cond_false, w (32 + 16) (by decide) (by decide)]
        exact key _ _ (by omega) (by omega) (by decide) (by decide) (by omega)
    · simp only [decide_eq_false c2, cond_false]
      by_cases c3 : x / 4294967296 ≥ 256
      · have e3 := bl_step _ 8 256 (by decide) c3
        simp only [decide_eq_true c3, cond_true, w (32 + 8) (by decide) (by decide)]
        exact key _ _ (by omega) (by omega) (by decide) (by decide) (by omega)
      · simp only [decide_eq_false c3, cond_false]
        exact key _ _ (by omega) (by omega) (by decide) (by decide) (by omega)
  · simp only [decide_eq_false c1, cond_false]
    by_cases c2 : x ≥ 65536
    · have e2 := bl_step _ 16 65536 (by decide) c2
      simp only [decide_eq_true c2, cond_true]
      by_cases c3 : x / 65536 ≥ 256
      · have e3 := bl_step _ 8 256 (by decide) c3
        simp only [decide_eq_true c3, cond_true, w (0 + 16) (by decide) (by decide), w (0 + 16 + 8) (by decide) (by decide)]
        exact key _ _ (by omega) (by omega) (by decide) (by decide) (by omega)
      · simp only [decide_eq_false c3, cond_false, w (0 + 16) (by decide) (by decide)]
        exact key _ _ (by omega) (by omega) (by decide) (by decide) (by omega)
    · simp only [decide_eq_false c2, cond_false]
      by_cases c3 : x ≥ 256
      · have e3 := bl_step _ 8 256 (by decide) c3
        simp only [decide_eq_true c3, cond_true, w (0 + 8) (by decide) (by decide)]
        exact key _ _ (by omega) (by omega) (by decide) (by decide) (by omega)
      · simp only [decide_eq_false c3, cond_false]
        exact key _ _ (by omega) (by omega) (by decide) (by decide) (by omega)
theorem or_add (a b : Int) (k : Nat) (c : Int) (ha : a = 2 ^ k * c) (hc : 0 ≤ c) (ha2 : a < 18446744073709551616) (hb : 0 ≤ b) (hb2 : b < 2 ^ k) (hb3 : b < 18446744073709551616) : bits .or .u64 a b = a + b := by
  have hp : (0 : Int) < 2 ^ k := Int.pow_pos (by decide)
  have ha0 : 0 ≤ a := by rw [ha]; exact Int.mul_nonneg (Int.le_of_lt hp) hc
  rw [u64_or a b ha0 ha2 hb hb3]
  obtain ⟨C, rfl⟩ := Int.eq_ofNat_of_zero_le hc
  obtain ⟨B, rfl⟩ := Int.eq_ofNat_of_zero_le hb
  have e : a = ((2 ^ k * C : Nat) : Int) := by rw [ha]; simp
  have hB : B < 2 ^ k := by
    have : (B : Int) < ((2 ^ k : Nat) : Int) := by simpa using hb2
    exact Int.ofNat_lt.1 this
  rw [e, Int.toNat_natCast, Int.toNat_natCast, ← Nat.two_pow_add_eq_or_of_lt hB C]
  simp
theorem shift_facts (y : Int) (h0 : 0 < y) (h1 : y ≤ 18446744073709551615) : 0 ≤ 64 - bl y ∧ 64 - bl y ≤ 63 ∧ ∃ k j : Nat, 64 - bl y = k ∧ bl y = j ∧ k + j = 64 ∧ 9223372036854775808 ≤ y * 2 ^ k ∧ y * 2 ^ k < 18446744073709551616 := by
  obtain ⟨Y, rfl⟩ := Int.eq_ofNat_of_zero_le (Int.le_of_lt h0)
  obtain ⟨s1, s2⟩ := bitLen_spec Y
  have s2 := s2 (by omega)
  have hb : bitLen Y ≤ 64 := by
    rcases Nat.lt_or_ge 64 (bitLen Y) with h | h
    · have := Nat.pow_le_pow_right (n := 2) (by decide) (show 64 ≤ bitLen Y - 1 by omega)
      omega
    · exact h
  have hb1 : 1 ≤ bitLen Y := by
    rcases Nat.eq_zero_or_pos (bitLen Y) with h | h
    · rw [h] at s1; omega
    · exact h
  have e : bl (Y : Int) = (bitLen Y : Int) := by simp [bl]
  refine ⟨by omega, by omega, 64 - bitLen Y, bitLen Y, by omega, e, by omega, ?_, ?_⟩
  · have h2 : 2 ^ (bitLen Y - 1) * 2 ^ (64 - bitLen Y) ≤ Y * 2 ^ (64 - bitLen Y) := Nat.mul_le_mul_right _ s2
    rw [← Nat.pow_add, show bitLen Y - 1 + (64 - bitLen Y) = 63 by omega] at h2
    have : ((2 ^ 63 : Nat) : Int) ≤ ((Y * 2 ^ (64 - bitLen Y) : Nat) : Int) := Int.ofNat_le.2 h2
    simpa using this
  · have h2 : Y * 2 ^ (64 - bitLen Y) < 2 ^ bitLen Y * 2 ^ (64 - bitLen Y) := Nat.mul_lt_mul_of_pos_right s1 (Nat.two_pow_pos _)
    rw [← Nat.pow_add, show bitLen Y + (64 - bitLen Y) = 64 by omega] at h2
    have : ((Y * 2 ^ (64 - bitLen Y) : Nat) : Int) < ((2 ^ 64 : Nat) : Int) := Int.ofNat_lt.2 h2
    simpa using this
/-- **A quotient of two words.** -/
theorem Div64_eq (hi lo y : Int) (h0 : 0 < hi) (hy : hi < y) (hy2 : y ≤ 18446744073709551615) (hl : 0 ≤ lo) (hl2 : lo ≤ 18446744073709551615) :
    S.math_bits_Div64_pre hi lo y ∧ S.math_bits_Div64 hi lo y = ((hi * 18446744073709551616 + lo) / y, (hi * 18446744073709551616 + lo) % y) := by
  obtain ⟨lp, le⟩ := Len64_both y (by omega) hy2
  obtain ⟨s0, s63, k, j, hk, hj, hkj, hY1, hY2⟩ := shift_facts y (by omega) hy2
  have b1 : (y == 0) = false := beq_eq_false_iff_ne.2 (by omega)
  have b2 : decide (y ≤ hi) = false := by simp; omega
  have b3 : (hi == 0) = false := beq_eq_false_iff_ne.2 (by omega)
  have elz : S.math_bits_LeadingZeros64 y = (k : Int) := by
    simp only [math_bits_LeadingZeros64, le]; rw [IntWalk.i64_in _ (by omega)]; omega
  have e7 : IntKind.u64.wrap (k : Int) = (k : Int) := IntWalk.u64_in _ (by omega)
  have emin : min (Int.toNat (k : Int)) 64 = k := by simp; omega
  have e12 : IntKind.u64.wrap (64 - (k : Int)) = (j : Int) := by rw [IntWalk.u64_in _ (by omega)]; omega
  have eminj : min (Int.toNat (j : Int)) 64 = j := by simp; omega
  have hP : (0 : Int) < 2 ^ k := Int.pow_pos (by decide)
  have hQ : (0 : Int) < 2 ^ j := Int.pow_pos (by decide)
  have hPQ : (2 : Int) ^ k * 2 ^ j = 18446744073709551616 := by rw [← Int.pow_add, hkj]; decide
  generalize hPd : (2 : Int) ^ k = P at *
  generalize hQd : (2 : Int) ^ j = Q at *
  have f32 : ∀ z : Int, Int.fdiv z (2 ^ min (Int.toNat 32) 64) = z / 4294967296 := fun z => sh z 32 _ (by decide) (by decide)
  have fQ : ∀ z : Int, Int.fdiv z Q = z / Q := fun z => Int.fdiv_eq_ediv_of_nonneg _ (Int.le_of_lt hQ)
  have fP : ∀ z : Int, Int.fdiv z P = z / P := fun z => Int.fdiv_eq_ediv_of_nonneg _ (Int.le_of_lt hP)
  -- the shifted divisor
  have hhi : hi * P ≤ y * P - P := by
    have := Int.mul_le_mul_of_nonneg_right (show hi ≤ y - 1 by omega) (Int.le_of_lt hP)
    rw [Int.sub_mul, Int.one_mul] at this; exact this
  have hhi0 : 0 ≤ hi * P := Int.mul_nonneg (Int.le_of_lt h0) (Int.le_of_lt hP)
  have e8 : IntKind.u64.wrap (y * P) = y * P := IntWalk.u64_in _ (by omega)
  have e11 : IntKind.u64.wrap (hi * P) = hi * P := IntWalk.u64_in _ (by omega)
  obtain ⟨q1, q2⟩ := div_facts lo Q hQ
  have q0 := Int.ediv_nonneg hl (Int.le_of_lt hQ)
  have hloP : lo / Q < P := by
    rw [Int.ediv_lt_iff_lt_mul hQ, hPQ]; omega
  have e14 : bits .or .u64 (hi * P) (lo / Q) = hi * P + lo / Q :=
    or_add _ _ k hi (by rw [hPd, Int.mul_comm]) (Int.le_of_lt h0) (by omega) q0 (by rw [hPd]; exact hloP) (by omega)
  -- the low word, shifted
  have hm : (lo - lo / Q * Q) * P < Q * P := Int.mul_lt_mul_of_pos_right (by omega) hP
  have hm0 : 0 ≤ (lo - lo / Q * Q) * P := Int.mul_nonneg (by omega) (Int.le_of_lt hP)
  have eQP : Q * P = 18446744073709551616 := by rw [Int.mul_comm]; exact hPQ
  have eloP : lo * P = lo / Q * 18446744073709551616 + (lo - lo / Q * Q) * P := by
    rw [Int.sub_mul, Int.mul_assoc (lo / Q), eQP]; omega
  have e15 : IntKind.u64.wrap (lo * P) = (lo - lo / Q * Q) * P := by rw [IntKind.wrap_u64]; omega
  generalize hL : (lo - lo / Q * Q) * P = L at *
  generalize hU : hi * P + lo / Q = U at *
  generalize hYd : y * P = Y at *
  have eN : (hi * 18446744073709551616 + lo) * P = U * 18446744073709551616 + L := by
    rw [Int.add_mul, eloP, ← hU, Int.add_mul, Int.mul_right_comm]; omega
  have hUY : U < Y := by omega
  have hU0 : 0 ≤ U := by omega
  have al : ∀ z : Int, 0 ≤ z → z < 18446744073709551616 → bits .and .u64 z 4294967295 = z % 4294967296 := fun z a b => and_low32 z a b
  have aY := al Y (by omega) hY2
  have aL := al L hm0 (by omega)
  have eYY : Y / 4294967296 * 4294967296 + Y % 4294967296 = Y := by omega
  have hn1 : 2147483648 ≤ Y / 4294967296 := by omega
  have hn1' : Y / 4294967296 < 4294967296 := by omega
  have hn0 : 0 ≤ Y % 4294967296 ∧ Y % 4294967296 < 4294967296 := by omega
  generalize hy1 : Y / 4294967296 = y1 at *
  generalize hy0 : Y % 4294967296 = y0 at *
  have hl1 : 0 ≤ L / 4294967296 ∧ L / 4294967296 < 4294967296 := by omega
  have hl0 : 0 ≤ L % 4294967296 ∧ L % 4294967296 < 4294967296 := by omega
  have eLL : L / 4294967296 * 4294967296 + L % 4294967296 = L := by omega
  generalize hL1 : L / 4294967296 = l1 at *
  generalize hL0 : L % 4294967296 = l0 at *
  -- the first digit
  obtain ⟨d1, d2⟩ := div_facts U y1 (by omega)
  have d3 := Int.ediv_nonneg hU0 (show 0 ≤ y1 by omega)
  have d4 : U / y1 ≤ U := Int.ediv_le_self y1 hU0
  have d5 := Int.mul_nonneg d3 (show 0 ≤ y1 by omega)
  have e18 : IntKind.u64.wrap (Int.tdiv U y1) = U / y1 := by rw [Int.tdiv_eq_ediv_of_nonneg hU0]; exact IntWalk.u64_in _ (by omega)
  have e19 : IntKind.u64.wrap (U / y1 * y1) = U / y1 * y1 := IntWalk.u64_in _ (by omega)
  have e20 : IntKind.u64.wrap (U - U / y1 * y1) = U - U / y1 * y1 := IntWalk.u64_in _ (by omega)
  obtain ⟨z, hz, hz1, hz0, hzu, hzq⟩ := digit0 y1 y0 l1 U hn1 hn1' hn0 hU0 (by omega) hl1
  have qs := q_small y1 y0 l1 U hn1 hn1' hn0 hU0 (by omega) hl1
  obtain ⟨g1, g2⟩ := div_facts (U * 4294967296 + l1) (y1 * 4294967296 + y0) (by omega)
  rw [eYY] at hzq qs g1 g2
  have er : math_bits_Div64_L0_run ⟨y1, y0, l1, U / y1, U - U / y1 * y1⟩ = z := theRun_eq (d := fun x => x) hz
  generalize hq1 : (U * 4294967296 + l1) / Y = qa at *
  have e25 := Int.mul_nonneg qs.1 (show 0 ≤ Y by omega)
  have e26 : IntKind.u64.wrap (IntKind.u64.wrap (IntKind.u64.wrap (U * 4294967296) + l1) - IntKind.u64.wrap (qa * Y)) = U * 4294967296 + l1 - qa * Y := by
    rw [IntKind.wrap_u64, IntKind.wrap_u64, IntKind.wrap_u64, IntKind.wrap_u64]; omega
  generalize hV : U * 4294967296 + l1 - qa * Y = V at *
  have hV0 : 0 ≤ V := by omega
  have hVY : V < Y := by omega
  -- the second digit
  obtain ⟨c1, c2⟩ := div_facts V y1 (by omega)
  have c3 := Int.ediv_nonneg hV0 (show 0 ≤ y1 by omega)
  have c4 : V / y1 ≤ V := Int.ediv_le_self y1 hV0
  have c5 := Int.mul_nonneg c3 (show 0 ≤ y1 by omega)
  have e27 : IntKind.u64.wrap (Int.tdiv V y1) = V / y1 := by rw [Int.tdiv_eq_ediv_of_nonneg hV0]; exact IntWalk.u64_in _ (by omega)
  have e28 : IntKind.u64.wrap (V / y1 * y1) = V / y1 * y1 := IntWalk.u64_in _ (by omega)
  have e29 : IntKind.u64.wrap (V - V / y1 * y1) = V - V / y1 * y1 := IntWalk.u64_in _ (by omega)
  obtain ⟨x, hx, hx1, hx0, hxu, hxq⟩ := digit2 y1 y0 l0 V hn1 hn1' hn0 hV0 (by omega) hl0
  have qs2 := q_small y1 y0 l0 V hn1 hn1' hn0 hV0 (by omega) hl0
  obtain ⟨k1, k2⟩ := div_facts (V * 4294967296 + l0) (y1 * 4294967296 + y0) (by omega)
  rw [eYY] at hxq qs2 k1 k2
  have er2 : math_bits_Div64_L2_run ⟨y1, y0, l0, V - V / y1 * y1, V / y1⟩ = x := theRun_eq (d := fun x => x) hx
  generalize hq2 : (V * 4294967296 + l0) / Y = qb at *
  have e36 := Int.mul_nonneg qs2.1 (show 0 ≤ Y by omega)
  have e37 : IntKind.u64.wrap (IntKind.u64.wrap (IntKind.u64.wrap (V * 4294967296) + l0) - IntKind.u64.wrap (qb * Y)) = V * 4294967296 + l0 - qb * Y := by
    rw [IntKind.wrap_u64, IntKind.wrap_u64, IntKind.wrap_u64, IntKind.wrap_u64]; omega
  have e33 : IntKind.u64.wrap (IntKind.u64.wrap (qa * 4294967296) + qb) = qa * 4294967296 + qb := by
    rw [IntWalk.u64_in (qa * 4294967296) (by omega), IntWalk.u64_in _ (by omega)]
  -- together
  generalize hR : V * 4294967296 + l0 - qb * Y = R at *
  have eAll : (hi * 18446744073709551616 + lo) * P = (qa * 4294967296 + qb) * Y + R := by
    rw [eN, Int.add_mul, Int.mul_right_comm]; omega
  have eR : R = (hi * 18446744073709551616 + lo - (qa * 4294967296 + qb) * y) * P := by
    rw [Int.sub_mul, eAll, Int.mul_assoc, hYd]; omega
  have eR2 : R / P = hi * 18446744073709551616 + lo - (qa * 4294967296 + qb) * y := by rw [eR]; exact Int.mul_ediv_cancel _ (by omega)
  have r0 : 0 ≤ R / P := Int.ediv_nonneg (by omega) (Int.le_of_lt hP)
  have r1 : R / P < y := by rw [Int.ediv_lt_iff_lt_mul hP]; omega
  have eNy : hi * 18446744073709551616 + lo = y * (qa * 4294967296 + qb) + R / P := by rw [eR2, Int.mul_comm y]; omega
  have emod : (hi * 18446744073709551616 + lo) % y = R / P := emod_unique eNy r0 r1
  have ediv : (hi * 18446744073709551616 + lo) / y = qa * 4294967296 + qb := by
    rw [eNy, Int.add_comm, Int.add_mul_ediv_left _ _ (show y ≠ 0 by omega), Int.ediv_eq_zero_of_lt r0 r1]; omega
  refine ⟨?_, ?_⟩
  · simp only [math_bits_Div64_pre, math_bits_LeadingZeros64_pre, b1, b2, b3, elz, e7, emin, hPd, hYd, e8, f32, hy1, aY, hy0, e11, e12, eminj, hQd, fQ, e14, hU, e15, hL1, aL, hL0, e18, e19, e20, er, hz1, hz0, hzu, hzq, e26, e27, e28, e29, er2, All, and_true]
    refine ⟨fun h => Bool.noConfusion h, fun _ => ⟨fun h => Bool.noConfusion h, fun _ => ⟨fun h => Bool.noConfusion h, fun _ => ?_⟩⟩⟩
    exact ⟨lp, by omega, by omega, by omega, by omega, by omega, hz, by omega, hx, by omega⟩
  · simp only [math_bits_Div64, b3, elz, e7, emin, hPd, hYd, e8, f32, hy1, aY, hy0, e11, e12, eminj, hQd, fQ, e14, hU, e15, hL1, aL, hL0, e18, e19, e20, er, hz1, hz0, hzu, hzq, e26, e27, e28, e29, er2, hx1, hx0, hxu, hxq, e37, e33, fP, cond_false]
    rw [emod, ediv]
end SC
