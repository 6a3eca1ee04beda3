/-
  Sums, differences and products of whole numbers in intervals; in which round they lie; numbers of two limbs. No program in sight.
-/
import Derived.Test.YtcgafjhkefcdfaaGreatDoorVm16
set_option linter.all false
open Go Vm
namespace AM
def E (op x y : Int) : Int := if op = 13 then x + y else if op = 14 then x - y else x * y
def rnd (z : Int) : Int := (z + 9223372036854775808) / 18446744073709551616
theorem wrap_rnd (z : Int) : IntKind.i64.wrap z = z - 18446744073709551616 * rnd z := by rw [IntKind.wrap_i64]; unfold rnd; omega
theorem rnd0 (z : Int) : rnd z = 0 ↔ -9223372036854775808 ≤ z ∧ z ≤ 9223372036854775807 := by unfold rnd; omega
theorem rnd_mono {x y : Int} (h : x ≤ y) : rnd x ≤ rnd y := by unfold rnd; omega
theorem lin (k u v z : Int) (h1 : u ≤ z) (h2 : z ≤ v) : min (k * u) (k * v) ≤ k * z ∧ k * z ≤ max (k * u) (k * v) := by
 by_cases hk : 0 ≤ k
 ·have a := Int.mul_le_mul_of_nonneg_left h1 hk
  have b := Int.mul_le_mul_of_nonneg_left h2 hk
  omega
 ·have a := Int.mul_le_mul_of_nonpos_left (a := k) (by omega) h1
  have b := Int.mul_le_mul_of_nonpos_left (a := k) (by omega) h2
  omega
def blo (op a1 a2 b1 b2 : Int) : Int := min (min (E op a1 b1) (E op a1 b2)) (min (E op a2 b1) (E op a2 b2))
def bhi (op a1 a2 b1 b2 : Int) : Int := max (max (E op a1 b1) (E op a1 b2)) (max (E op a2 b1) (E op a2 b2))
theorem corners (op a1 a2 b1 b2 x y : Int) (h1 : a1 ≤ x) (h2 : x ≤ a2) (h3 : b1 ≤ y) (h4 : y ≤ b2) : blo op a1 a2 b1 b2 ≤ E op x y ∧ E op x y ≤ bhi op a1 a2 b1 b2 := by
 unfold blo bhi E
 by_cases e : op = 13
 ·simp only [if_pos e]; omega
 ·simp only [if_neg e]
  by_cases f : op = 14
  ·simp only [if_pos f]; omega
  ·simp only [if_neg f]
   have p := lin x b1 b2 y h3 h4
   have q1 := lin b1 a1 a2 x h1 h2
   have q2 := lin b2 a1 a2 x h1 h2
   rw [Int.mul_comm b1 a1, Int.mul_comm b1 a2, Int.mul_comm b1 x] at q1
   rw [Int.mul_comm b2 a1, Int.mul_comm b2 a2, Int.mul_comm b2 x] at q2
   omega
theorem blo_is (op a1 a2 b1 b2 : Int) : blo op a1 a2 b1 b2 = E op a1 b1 ∨ blo op a1 a2 b1 b2 = E op a1 b2 ∨ blo op a1 a2 b1 b2 = E op a2 b1 ∨ blo op a1 a2 b1 b2 = E op a2 b2 := by unfold blo; omega
theorem bhi_is (op a1 a2 b1 b2 : Int) : bhi op a1 a2 b1 b2 = E op a1 b1 ∨ bhi op a1 a2 b1 b2 = E op a1 b2 ∨ bhi op a1 a2 b1 b2 = E op a2 b1 ∨ bhi op a1 a2 b1 b2 = E op a2 b2 := by unfold bhi; omega
theorem b_le (op a1 a2 b1 b2 : Int) : blo op a1 a2 b1 b2 ≤ bhi op a1 a2 b1 b2 := by unfold blo bhi; omega
theorem b_comm (op a1 a2 b1 b2 : Int) (h : op = 13 ∨ op = 15) : blo op a1 a2 b1 b2 = blo op b1 b2 a1 a2 ∧ bhi op a1 a2 b1 b2 = bhi op b1 b2 a1 a2 := by
 unfold blo bhi E
 rcases h with rfl | rfl
 ·simp only [if_true]; omega
 ·simp only [show ¬ (15 : Int) = 13 by decide, show ¬ (15 : Int) = 14 by decide, if_false]
  rw [Int.mul_comm a1 b1, Int.mul_comm a1 b2, Int.mul_comm a2 b1, Int.mul_comm a2 b2]; omega
theorem E_range (op : Int) {x y : Int} (hx : -9223372036854775808 ≤ x ∧ x ≤ 9223372036854775807) (hy : -9223372036854775808 ≤ y ∧ y ≤ 9223372036854775807) : -85070591730234615865843651857942052864 ≤ E op x y ∧ E op x y ≤ 85070591730234615865843651857942052864 := by
 unfold E
 split
 ·omega
 ·split
  ·omega
  ·have h1 : x.natAbs ≤ 9223372036854775808 := by omega
   have h2 : y.natAbs ≤ 9223372036854775808 := by omega
   have h3 := Nat.mul_le_mul h1 h2
   rw [← Int.natAbs_mul] at h3
   omega
def Lb (h l z : Int) : Prop := (0 ≤ h ∧ h ≤ 18446744073709551615) ∧ (0 ≤ l ∧ l ≤ 18446744073709551615) ∧ (-170141183460469231731687303715884105728 ≤ z ∧ z ≤ 170141183460469231731687303715884105727) ∧ h * 18446744073709551616 + l = z % 340282366920938463463374607431768211456
theorem Lb.unique {h l h' l' z : Int} (a : Lb h l z) (b : Lb h' l' z) : h = h' ∧ l = l' := by
 unfold Lb at a b; omega
theorem Lb.lo {h l z : Int} (a : Lb h l z) : l = IntKind.u64.wrap z ∧ IntKind.i64.wrap l = IntKind.i64.wrap z := by
 unfold Lb at a; rw [IntKind.wrap_u64, IntKind.wrap_i64, IntKind.wrap_i64]; omega
theorem Lb.hi {h l z : Int} (a : Lb h l z) : h = (z / 18446744073709551616) % 18446744073709551616 := by
 unfold Lb at a; omega
theorem Lb.less {h l z h' l' z' : Int} (a : Lb h l z) (b : Lb h' l' z') : (if h = h' then l < l' else IntKind.i64.wrap h < IntKind.i64.wrap h') ↔ z < z' := by
 have a1 := a.hi; have b1 := b.hi
 unfold Lb at a b; rw [IntKind.wrap_i64, IntKind.wrap_i64]
 split <;> omega
theorem Lb.eq {h l z h' l' z' : Int} (a : Lb h l z) (b : Lb h' l' z') : (h = h' ∧ l = l') ↔ z = z' := by
 unfold Lb at a b; omega
end AM
