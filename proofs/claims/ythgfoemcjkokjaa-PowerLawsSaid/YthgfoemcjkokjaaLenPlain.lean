/-
  How many binary digits a number of 64 has, as the library's function tells it.
-/
import Derived.Test.YthgfoemcjkokjaaNDefs
import Derived.IntWalk
import Derived.Laws.BitsAllLaws
import Derived.Laws.MathBits
set_option linter.all false
open Go Vm
namespace S
def bl (z : Int) : Int := (bitLen z.toNat : Nat)
theorem bl_step (z : Int) (k : Nat) (m : Int) (hm : m = 2 ^ k) (hz : m ≤ z) : bl z = k + bl (z / m) := by
  have hp : (0 : Int) < 2 ^ k := Int.pow_pos (by decide)
  obtain ⟨n, rfl⟩ := Int.eq_ofNat_of_zero_le (show 0 ≤ z by omega)
  subst hm
  have e : ((n : Int) / 2 ^ k).toNat = n / 2 ^ k := by
    have : ((2 : Int) ^ k) = ((2 ^ k : Nat) : Int) := by simp
    rw [this, ← Int.natCast_ediv]; rfl
  simp only [bl, e, Int.toNat_natCast]
  have h0 : n / 2 ^ k ≠ 0 := by
    have : 2 ^ k ≤ n := by
      have h2 : ((2 ^ k : Nat) : Int) ≤ (n : Int) := by simpa using hz
      exact Int.ofNat_le.1 h2
    have := Nat.div_pos this (Nat.two_pow_pos k)
    omega
  rw [bitLen_shift n k h0]; simp
theorem tab_get : ∀ i : Nat, i < 256 → ((⟨#[0, 1, 2, 2, 3, 3, 3, 3, 4, 4, 4, 4, 4, 4, 4, 4, 5, 5, 5, 5, 5, 5, 5, 5, 5, 5, 5, 5, 5, 5, 5, 5, 6, 6, 6, 6, 6, 6, 6, 6, 6, 6, 6, 6, 6, 6, 6, 6, 6, 6, 6, 6, 6, 6, 6, 6, 6, 6, 6, 6, 6, 6, 6, 6, 7, 7, 7, 7, 7, 7, 7, 7, 7, 7, 7, 7, 7, 7, 7, 7, 7, 7, 7, 7, 7, 7, 7, 7, 7, 7, 7, 7, 7, 7, 7, 7, 7, 7, 7, 7, 7, 7, 7, 7, 7, 7, 7, 7, 7, 7, 7, 7, 7, 7, 7, 7, 7, 7, 7, 7, 7, 7, 7, 7, 7, 7, 7, 7, 8, 8, 8, 8, 8, 8, 8, 8, 8, 8, 8, 8, 8, 8, 8, 8, 8, 8, 8, 8, 8, 8, 8, 8, 8, 8, 8, 8, 8, 8, 8, 8, 8, 8, 8, 8, 8, 8, 8, 8, 8, 8, 8, 8, 8, 8, 8, 8, 8, 8, 8, 8, 8, 8, 8, 8, 8, 8, 8, 8, 8, 8, 8, 8, 8, 8, 8, 8, 8, 8, 8, 8, 8, 8, 8, 8, 8, 8, 8, 8, 8, 8, 8, 8, 8, 8, 8, 8, 8, 8, 8, 8, 8, 8, 8, 8, 8, 8, 8, 8, 8, 8, 8, 8, 8, 8, 8, 8, 8, 8, 8, 8, 8, 8, 8, 8, 8, 8, 8, 8, 8, 8, 8, 8, 8, 8, 8, 8]⟩ : ByteArray).data.toList.getD i 0).toNat = bitLen i := by
  have : (List.range 256).all (fun i => ((⟨#[0, 1, 2, 2, 3, 3, 3, 3, 4, 4, 4, 4, 4, 4, 4, 4, 5, 5, 5, 5, 5, 5, 5, 5, 5, 5, 5, 5, 5, 5, 5, 5, 6, 6, 6, 6, 6, 6, 6, 6, 6, 6, 6, 6, 6, 6, 6, 6, 6, 6, 6, 6, 6, 6, 6, 6, 6, 6, 6, 6, 6, 6, 6, 6, 7, 7, 7, 7, 7, 7, 7, 7, 7, 7, 7, 7, 7, 7, 7, 7, 7, 7, 7, 7, 7, 7, 7, 7, 7, 7, 7, 7, 7, 7, 7, 7, 7, 7, 7, 7, 7, 7, 7, 7, 7, 7, 7, 7, 7, 7, 7, 7, 7, 7, 7, 7, 7, 7, 7, 7, 7, 7, 7, 7, 7, 7, 7, 7, 8, 8, 8, 8, 8, 8, 8, 8, 8, 8, 8, 8, 8, 8, 8, 8, 8, 8, 8, 8, 8, 8, 8, 8, 8, 8, 8, 8, 8, 8, 8, 8, 8, 8, 8, 8, 8, 8, 8, 8, 8, 8, 8, 8, 8, 8, 8, 8, 8, 8, 8, 8, 8, 8, 8, 8, 8, 8, 8, 8, 8, 8, 8, 8, 8, 8, 8, 8, 8, 8, 8, 8, 8, 8, 8, 8, 8, 8, 8, 8, 8, 8, 8, 8, 8, 8, 8, 8, 8, 8, 8, 8, 8, 8, 8, 8, 8, 8, 8, 8, 8, 8, 8, 8, 8, 8, 8, 8, 8, 8, 8, 8, 8, 8, 8, 8, 8, 8, 8, 8, 8, 8, 8, 8, 8, 8, 8, 8]⟩ : ByteArray).data.toList.getD i 0).toNat == bitLen i) = true := by decide +kernel
  intro i hi
  have := List.all_eq_true.1 this i (List.mem_range.2 hi)
  exact beq_iff_eq.1 this
set_option maxRecDepth 100000 in
theorem bl_tab (z : Int) (h0 : 0 ≤ z) (h1 : z < 256) : IntKind.i64.wrap (((⟨#[0, 1, 2, 2, 3, 3, 3, 3, 4, 4, 4, 4, 4, 4, 4, 4, 5, 5, 5, 5, 5, 5, 5, 5, 5, 5, 5, 5, 5, 5, 5, 5, 6, 6, 6, 6, 6, 6, 6, 6, 6, 6, 6, 6, 6, 6, 6, 6, 6, 6, 6, 6, 6, 6, 6, 6, 6, 6, 6, 6, 6, 6, 6, 6, 7, 7, 7, 7, 7, 7, 7, 7, 7, 7, 7, 7, 7, 7, 7, 7, 7, 7, 7, 7, 7, 7, 7, 7, 7, 7, 7, 7, 7, 7, 7, 7, 7, 7, 7, 7, 7, 7, 7, 7, 7, 7, 7, 7, 7, 7, 7, 7, 7, 7, 7, 7, 7, 7, 7, 7, 7, 7, 7, 7, 7, 7, 7, 7, 8, 8, 8, 8, 8, 8, 8, 8, 8, 8, 8, 8, 8, 8, 8, 8, 8, 8, 8, 8, 8, 8, 8, 8, 8, 8, 8, 8, 8, 8, 8, 8, 8, 8, 8, 8, 8, 8, 8, 8, 8, 8, 8, 8, 8, 8, 8, 8, 8, 8, 8, 8, 8, 8, 8, 8, 8, 8, 8, 8, 8, 8, 8, 8, 8, 8, 8, 8, 8, 8, 8, 8, 8, 8, 8, 8, 8, 8, 8, 8, 8, 8, 8, 8, 8, 8, 8, 8, 8, 8, 8, 8, 8, 8, 8, 8, 8, 8, 8, 8, 8, 8, 8, 8, 8, 8, 8, 8, 8, 8, 8, 8, 8, 8, 8, 8, 8, 8, 8, 8, 8, 8, 8, 8, 8, 8, 8, 8]⟩ : ByteArray).data.toList.getD (Int.toNat (IntKind.u8.wrap z)) 0).toNat : Int) = bl z ∧ bl z ≤ 8 ∧ 0 ≤ bl z := by
  have h2 := bitLen_le8 z.toNat (by omega)
  rw [IntWalk.u8_in z (by omega), tab_get z.toNat (by omega)]
  refine ⟨by rw [IntWalk.i64_in _ (by omega)]; rfl, ?_, ?_⟩ <;> simp only [bl] <;> omega
theorem sh (z : Int) (k : Nat) (m : Int) (hk : (2 : Int) ^ min (Int.toNat k) 64 = m) (hm : 0 < m) : Int.fdiv z (2 ^ min (Int.toNat k) 64) = z / m := by
  rw [hk]; exact Int.fdiv_eq_ediv_of_nonneg _ (Int.le_of_lt hm)
set_option maxRecDepth 100000 in
theorem Len64_both (x : Int) (h0 : 0 ≤ x) (h1 : x ≤ 18446744073709551615) : S.math_bits_Len64_pre x ∧ S.math_bits_Len64 x = bl x := by
  have f32 : ∀ z : Int, Int.fdiv z (2 ^ min (Int.toNat 32) 64) = z / 4294967296 := fun z => sh z 32 _ (by decide) (by decide)
  have f16 : ∀ z : Int, Int.fdiv z (2 ^ min (Int.toNat 16) 64) = z / 65536 := fun z => sh z 16 _ (by decide) (by decide)
  have f8 : ∀ z : Int, Int.fdiv z (2 ^ min (Int.toNat 8) 64) = z / 256 := fun z => sh z 8 _ (by decide) (by decide)
  have key : ∀ (x3 n3 : Int), 0 ≤ x3 → x3 < 256 → 0 ≤ n3 → n3 ≤ 64 → bl x = n3 + bl x3 →
      (0 ≤ IntKind.u8.wrap x3 ∧ IntKind.u8.wrap x3 < (((⟨#[0, 1, 2, 2, 3, 3, 3, 3, 4, 4, 4, 4, 4, 4, 4, 4, 5, 5, 5, 5, 5, 5, 5, 5, 5, 5, 5, 5, 5, 5, 5, 5, 6, 6, 6, 6, 6, 6, 6, 6, 6, 6, 6, 6, 6, 6, 6, 6, 6, 6, 6, 6, 6, 6, 6, 6, 6, 6, 6, 6, 6, 6, 6, 6, 7, 7, 7, 7, 7, 7, 7, 7, 7, 7, 7, 7, 7, 7, 7, 7, 7, 7, 7, 7, 7, 7, 7, 7, 7, 7, 7, 7, 7, 7, 7, 7, 7, 7, 7, 7, 7, 7, 7, 7, 7, 7, 7, 7, 7, 7, 7, 7, 7, 7, 7, 7, 7, 7, 7, 7, 7, 7, 7, 7, 7, 7, 7, 7, 8, 8, 8, 8, 8, 8, 8, 8, 8, 8, 8, 8, 8, 8, 8, 8, 8, 8, 8, 8, 8, 8, 8, 8, 8, 8, 8, 8, 8, 8, 8, 8, 8, 8, 8, 8, 8, 8, 8, 8, 8, 8, 8, 8, 8, 8, 8, 8, 8, 8, 8, 8, 8, 8, 8, 8, 8, 8, 8, 8, 8, 8, 8, 8, 8, 8, 8, 8, 8, 8, 8, 8, 8, 8, 8, 8, 8, 8, 8, 8, 8, 8, 8, 8, 8, 8, 8, 8, 8, 8, 8, 8, 8, 8, 8, 8, 8, 8, 8, 8, 8, 8, 8, 8, 8, 8, 8, 8, 8, 8, 8, 8, 8, 8, 8, 8, 8, 8, 8, 8, 8, 8, 8, 8, 8, 8, 8, 8]⟩ : ByteArray)).size : Int)) ∧ IntKind.i64.wrap (n3 + IntKind.i64.wrap (((⟨#[0, 1, 2, 2, 3, 3, 3, 3, 4, 4, 4, 4, 4, 4, 4, 4, 5, 5, 5, 5, 5, 5, 5, 5, 5, 5, 5, 5, 5, 5, 5, 5, 6, 6, 6, 6, 6, 6, 6, 6, 6, 6, 6, 6, 6, 6, 6, 6, 6, 6, 6, 6, 6, 6, 6, 6, 6, 6, 6, 6, 6, 6, 6, 6, 7, 7, 7, 7, 7, 7, 7, 7, 7, 7, 7, 7, 7, 7, 7, 7, 7, 7, 7, 7, 7, 7, 7, 7, 7, 7, 7, 7, 7, 7, 7, 7, 7, 7, 7, 7, 7, 7, 7, 7, 7, 7, 7, 7, 7, 7, 7, 7, 7, 7, 7, 7, 7, 7, 7, 7, 7, 7, 7, 7, 7, 7, 7, 7, 8, 8, 8, 8, 8, 8, 8, 8, 8, 8, 8, 8, 8, 8, 8, 8, 8, 8, 8, 8, 8, 8, 8, 8, 8, 8, 8, 8, 8, 8, 8, 8, 8, 8, 8, 8, 8, 8, 8, 8, 8, 8, 8, 8, 8, 8, 8, 8, 8, 8, 8, 8, 8, 8, 8, 8, 8, 8, 8, 8, 8, 8, 8, 8, 8, 8, 8, 8, 8, 8, 8, 8, 8, 8, 8, 8, 8, 8, 8, 8, 8, 8, 8, 8, 8, 8, 8, 8, 8, 8, 8, 8, 8, 8, 8, 8, 8, 8, 8, 8, 8, 8, 8, 8, 8, 8, 8, 8, 8, 8, 8, 8, 8, 8, 8, 8, 8, 8, 8, 8, 8, 8, 8, 8, 8, 8, 8, 8]⟩ : ByteArray).data.toList.getD (Int.toNat (IntKind.u8.wrap x3)) 0).toNat : Int)) = bl x := by
    intro x3 n3 a0 a1 b0 b1 hb
    obtain ⟨t1, t2, t3⟩ := bl_tab x3 a0 a1
    have hs : ((⟨#[0, 1, 2, 2, 3, 3, 3, 3, 4, 4, 4, 4, 4, 4, 4, 4, 5, 5, 5, 5, 5, 5, 5, 5, 5, 5, 5, 5, 5, 5, 5, 5, 6, 6, 6, 6, 6, 6, 6, 6, 6, 6, 6, 6, 6, 6, 6, 6, 6, 6, 6, 6, 6, 6, 6, 6, 6, 6, 6, 6, 6, 6, 6, 6, 7, 7, 7, 7, 7, 7, 7, 7, 7, 7, 7, 7, 7, 7, 7, 7, 7, 7, 7, 7, 7, 7, 7, 7, 7, 7, 7, 7, 7, 7, 7, 7, 7, 7, 7, 7, 7, 7, 7, 7, 7, 7, 7, 7, 7, 7, 7, 7, 7, 7, 7, 7, 7, 7, 7, 7, 7, 7, 7, 7, 7, 7, 7, 7, 8, 8, 8, 8, 8, 8, 8, 8, 8, 8, 8, 8, 8, 8, 8, 8, 8, 8, 8, 8, 8, 8, 8, 8, 8, 8, 8, 8, 8, 8, 8, 8, 8, 8, 8, 8, 8, 8, 8, 8, 8, 8, 8, 8, 8, 8, 8, 8, 8, 8, 8, 8, 8, 8, 8, 8, 8, 8, 8, 8, 8, 8, 8, 8, 8, 8, 8, 8, 8, 8, 8, 8, 8, 8, 8, 8, 8, 8, 8, 8, 8, 8, 8, 8, 8, 8, 8, 8, 8, 8, 8, 8, 8, 8, 8, 8, 8, 8, 8, 8, 8, 8, 8, 8, 8, 8, 8, 8, 8, 8, 8, 8, 8, 8, 8, 8, 8, 8, 8, 8, 8, 8, 8, 8, 8, 8, 8, 8]⟩ : ByteArray)).size = 256 := by decide +kernel
    refine ⟨?_, by rw [t1, IntWalk.i64_in _ (by omega)]; omega⟩
    rw [hs, IntWalk.u8_in x3 (by omega)]; omega
  have w : ∀ n : Int, 0 ≤ n → n ≤ 64 → IntKind.i64.wrap n = n := fun n a b => IntWalk.i64_in _ (by omega)
  simp only [math_bits_Len64_pre, math_bits_Len64, f32, f16, f8, All, and_true]
  have s1 : x ≥ 4294967296 → bl x = 32 + bl (x / 4294967296) := fun h => bl_step x 32 _ (by decide) h
  by_cases c1 : x ≥ 4294967296
  · have s2 : x / 4294967296 ≥ 65536 → bl (x / 4294967296) = 16 + bl (x / 4294967296 / 65536) := fun h => bl_step _ 16 _ (by decide) h
    have e1 := s1 c1
    simp only [decide_eq_true c1, cond_true]
    by_cases c2 : x / 4294967296 ≥ 65536
    · have e2 := s2 c2
      simp only [decide_eq_true c2, cond_true]
      by_cases c3 : x / 4294967296 / 65536 ≥ 256
      · have e3 := bl_step _ 8 256 (by decide) c3
        simp only [decide_eq_true c3, cond_true, w (32 + 16) (by decide) (by decide), w (32 + 16 + 8) (by decide) (by decide)]
        exact key _ _ (by omega) (by omega) (by decide) (by decide) (by omega)
      · simp only [decide_eq_false c3, cond_false, w (32 + 16) (by decide) (by decide)]
        exact key _ _ (by omega) (by omega) (by decide) (by decide) (by omega)
    · simp only [decide_eq_false c2, cond_false]
      by_cases c3 : x / 4294967296 ≥ 256
      · have e3 := bl_step _ 8 256 (by decide) c3
        simp only [decide_eq_true c3, cond_true, w (32 + 8) (by decide) (by decide)]
        exact key _ _ (by omega) (by omega) (by decide) (by decide) (by omega)
      · simp only [decide_eq_false c3, cond_false]
        exact key _ _ (by omega) (by omega) (by decide) (by decide) (by omega)
  · simp only [decide_eq_false c1, cond_false]
    by_cases c2 : x ≥ 65536
    · have e2 := bl_step _ 16 65536 (by decide) c2
      simp only [decide_eq_true c2, cond_true]
      by_cases c3 : x / 65536 ≥ 256
      · have e3 := bl_step _ 8 256 (by decide) c3
        simp only [decide_eq_true c3, cond_true, w (0 + 16) (by decide) (by decide), w (0 + 16 + 8) (by decide) (by decide)]
        exact key _ _ (by omega) (by omega) (by decide) (by decide) (by omega)
      · simp only [decide_eq_false c3, cond_false, w (0 + 16) (by decide) (by decide)]
        exact key _ _ (by omega) (by omega) (by decide) (by decide) (by omega)
    · simp only [decide_eq_false c2, cond_false]
      by_cases c3 : x ≥ 256
      · have e3 := bl_step _ 8 256 (by decide) c3
        simp only [decide_eq_true c3, cond_true, w (0 + 8) (by decide) (by decide)]
        exact key _ _ (by omega) (by omega) (by decide) (by decide) (by omega)
      · simp only [decide_eq_false c3, cond_false]
        exact key _ _ (by omega) (by omega) (by decide) (by decide) (by omega)

end S
