/-
  Printed by a program out of the plain texts of another seat: what the smaller packages' functions compute, in plain words. Conditions: those that each theorem states.
-/
import Derived.Test.YtcgafjhkefcdfaaGreatDoorQKDefs
import Derived.IntWalk
set_option linter.all false
open Go Vm
def S.ref19_Within (a : S.Inter) (b : S.Inter) : Bool :=
 let r1 : Bool := S.ref19_Empty a
 let b2 : Bool := decide (a.Lo ≥ b.Lo)
 let b3 : Bool := decide (a.Hi ≤ b.Hi)
 let p4 : Bool := (b2 && b3)
 let p5 : Bool := (r1 || p4)
 p5
def S.inter_Same (a : S.Inter) (b : S.Inter) : Bool :=
 let r1 : S.Inter := S.inter_Inter_plain a
 let r2 : S.Inter := S.inter_Inter_plain b
 let b3 : Bool := ((r1.Lo == r2.Lo) && (r1.Hi == r2.Hi))
 b3
def S.ref19_Plain (i : S.Inter) : S.Inter :=
 let b1 : Bool := decide (i.Lo > i.Hi)
 (bif b1 then (⟨1, 0⟩ : S.Inter) else i)
def S.ref19_Same (a : S.Inter) (b : S.Inter) : Bool :=
 let r1 : S.Inter := S.ref19_Plain a
 let r2 : S.Inter := S.ref19_Plain b
 let b3 : Bool := ((r1.Lo == r2.Lo) && (r1.Hi == r2.Hi))
 b3
namespace SI
open S
theorem plain_eq (i : S.Inter) : S.inter_Inter_plain i = S.ref19_Plain i := by
 simp only [inter_Inter_plain, inter_Of, ref19_Plain, inter_Empty]
theorem Plain_def (i : S.Inter) : S.ref19_Plain i = if i.Lo > i.Hi then ⟨1, 0⟩ else i := by
 by_cases h : i.Lo > i.Hi <;> simp [ref19_Plain, h]
theorem Empty_def (i : S.Inter) : S.ref19_Empty i = decide (i.Lo > i.Hi) := rfl
theorem Of_eq (lo hi : Int) : S.inter_Of lo hi = S.ref19_Plain ⟨lo, hi⟩ := by
 simp only [inter_Of, ref19_Plain, inter_Empty]
theorem isEmpty_eq (i : S.Inter) : S.inter_Inter_IsEmpty i = decide (i.Lo > i.Hi) := by
 simp only [inter_Inter_IsEmpty, plain_eq, Plain_def, inter_Empty]
 by_cases h : i.Lo > i.Hi
 ·simp [h]
 ·simp only [h, if_false, decide_false, Bool.and_eq_false_iff, beq_eq_false_iff_ne]
  omega
theorem Within_eq (a b : S.Inter) : S.inter_Within a b = S.ref19_Within a b := by
 simp only [inter_Within, ref19_Within, isEmpty_eq, Empty_def, inter_Inter_Has]
 rw [Bool.eq_iff_iff]; simp; omega
theorem Same_eq (a b : S.Inter) : S.inter_Same a b = S.ref19_Same a b := by
 simp only [inter_Same, ref19_Same, plain_eq]
instance : DecidableEq S.Inter := fun a b => decidable_of_iff (a.Lo = b.Lo ∧ a.Hi = b.Hi) (by rw [S.Inter.ext_iff])
theorem ok_iff (a : S.Inter) : S.Inter.ok a ↔ (-9223372036854775808 ≤ a.Lo ∧ a.Lo ≤ 9223372036854775807) ∧ (-9223372036854775808 ≤ a.Hi ∧ a.Hi ≤ 9223372036854775807) := by
 simp [S.Inter.ok, inr, IntKind.min, IntKind.max, IntKind.signed, IntKind.bits]
theorem P_n {a : S.Inter} (ha : ¬ a.Lo > a.Hi) : S.ref19_Plain a = a := by rw [Plain_def, if_neg ha]
theorem Within_def (a b : S.Inter) : S.ref19_Within a b = decide (a.Lo > a.Hi ∨ (b.Lo ≤ a.Lo ∧ a.Hi ≤ b.Hi)) := by
 simp only [ref19_Within, Empty_def]; rw [Bool.eq_iff_iff]; simp
theorem Has_def (a : S.Inter) (n : Int) : S.ref19_Has a n = decide (a.Lo ≤ n ∧ n ≤ a.Hi) := by
 simp only [ref19_Has]; rw [Bool.eq_iff_iff]; simp
end SI
