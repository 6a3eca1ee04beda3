/-
  Printed by a program out of the plain texts of another seat: what the smaller packages' functions compute, in plain words. Conditions: those that each theorem states.
-/
import Derived.Test.YtcgafjhkefcdfaaGreatDoorQKDefs
import Derived.Test.YtcgafjhkefcdfaaGreatDoorQKNat
import Derived.IntWalk
import Derived.Lib.ItoaNum
set_option linter.all false
open Go Vm
namespace SD
open S
open S SN
def X (L b : Nat) (j : Nat) : Nat := L * 2 ^ j + b / 2 ^ (8 - j)
open S SN
def ba (l : List UInt8) : ByteArray := ⟨l.toArray⟩
theorem ba_app (a b : List UInt8) : ba a ++ ba b = ba (a ++ b) := by
 apply ByteArray.ext
 simp [ba]
theorem ba_size (l : List UInt8) : (ba l).size = l.length := by simp [ba, ByteArray.size]
theorem dec_small {m : Nat} (h : m < 10) : Lib.decDigits m = [UInt8.ofNat (48 + m)] := by rw [Lib.decDigits, dif_pos h]
theorem dec_big {m : Nat} (h : ¬ m < 10) : Lib.decDigits m = Lib.decDigits (m / 10) ++ [UInt8.ofNat (48 + m % 10)] := by rw [Lib.decDigits, dif_neg h]
theorem dec_len : ∀ (k m : Nat), m < 10 ^ (k + 1) → (Lib.decDigits m).length ≤ k + 1
 | 0, m, h => by rw [dec_small (by simpa using h)]; simp
 | k + 1, m, h => by
  by_cases h1 : m < 10
  ·rw [dec_small h1]; simp
  ·rw [dec_big h1, List.length_append]
   have := dec_len k (m / 10) (by rw [Nat.pow_succ] at h; omega)
   simp; omega
theorem itoa_len (n : Int) (h : -9223372036854775808 ≤ n ∧ n ≤ 9223372036854775807) : (Lib.itoa n).length ≤ 21 := by
 unfold Lib.itoa
 split
 ·have := dec_len 19 n.natAbs (by omega)
  simp; omega
 ·have := dec_len 19 n.toNat (by omega)
  omega
end SD
