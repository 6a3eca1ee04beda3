/-
  Printed by a program for this claim: functions of the code as plain functions, and that the code comes to them. Conditions: those that each theorem states.
-/
import Derived.Test.YthplfkeecpkmhaaGreatDoorVm16
set_option linter.all false
open Go Vm
@[ext] structure S.Inter where
  Lo : Int
  Hi : Int
@[ext] structure S.Cong where
  M : Int
  R : Int
@[ext] structure S.Value where
  I : S.Inter
  C : S.Cong
def S.Inter.ok (x : S.Inter) : Prop := (inr .i64 x.Lo) ∧ (inr .i64 x.Hi) ∧ True
def S.Cong.ok (x : S.Cong) : Prop := (inr .u64 x.M) ∧ (inr .u64 x.R) ∧ True
def S.Value.ok (x : S.Value) : Prop := (S.Inter.ok x.I) ∧ (S.Cong.ok x.C) ∧ True
/-- sieveholesdocs.Value -/
def S.docs_Value (v : S.Value) : S.Value :=
  v
/-- (cong.Cong).single -/
def S.cong_Cong_single (c : S.Cong) : Bool :=
  let b1 : Bool := c.M == 0
  b1
/-- (cong.Cong).Right -/
def S.cong_Cong_Right (c : S.Cong) : Bool :=
  let r1 : Bool := S.cong_Cong_single c
  let b2 : Bool := decide (c.R < c.M)
  let p3 : Bool := (r1 || b2)
  p3
/-- (cong.Cong).number -/
def S.cong_Cong_number (c : S.Cong) : Int :=
  let t1 : Int := IntKind.i64.wrap c.R
  t1
/-- (cong.Cong).number0 -/
def S.cong_Cong_number0 (c : S.Cong) (ok : Bool) : Int × Bool :=
  let b1 : Bool := !ok
  let r2 : Int := S.cong_Cong_number c
  (bif b1 then (0, false) else (r2, true))
/-- cong.rest -/
def S.cong_rest (n : Int) (m : Int) : Int :=
  let b1 : Bool := decide (n < 0)
  let t2 : Int := IntKind.u64.wrap (m - 1)
  let t3 : Int := IntKind.u64.wrap n
  let t4 : Int := bits .xor .u64 (if IntKind.u64.signed then -1 else IntKind.u64.max) t3
  let t5 : Int := Int.tmod t4 m
  let t6 : Int := IntKind.u64.wrap (t2 - t5)
  let t7 : Int := IntKind.u64.wrap n
  let t8 : Int := Int.tmod t7 m
  (bif b1 then t6 else t8)
def S.cong_rest_pre (n : Int) (m : Int) : Prop :=
  let b1 : Bool := decide (n < 0)
  ((b1 = true → (All [m ≠ 0] ∧ True)) ∧ (b1 = false → (All [m ≠ 0] ∧ True)))
/-- math/bits.Add64 -/
def S.math_bits_Add64 (x y c : Int) : Int × Int := ((x + y + c) % 18446744073709551616, (x + y + c) / 18446744073709551616)
def S.math_bits_Add64_pre (x y c : Int) : Prop := 0 ≤ x ∧ 0 ≤ y ∧ 0 ≤ c ∧ c ≤ 1
/-- cong.plus -/
def S.cong_plus (a : Int) (b : Int) (m : Int) : Int :=
  let r1 : Int × Int := S.math_bits_Add64 a b 0
  let b2 : Bool := decide (r1.2 > 0)
  let b3 : Bool := decide (r1.1 ≥ m)
  let p4 : Bool := (b2 || b3)
  let t5 : Int := IntKind.u64.wrap (r1.1 - m)
  (bif p4 then t5 else r1.1)
def S.cong_plus_pre (a : Int) (b : Int) (m : Int) : Prop :=
  (All [S.math_bits_Add64_pre a b 0] ∧ True)
/-- (cong.Cong).Least -/
def S.cong_Cong_Least (c : S.Cong) (a1 : Int) : Int × Bool :=
  let r1 : Bool := S.cong_Cong_single c
  let r2 : Int := S.cong_Cong_number c
  let b3 : Bool := decide (r2 ≥ a1)
  let r4 : Int × Bool := S.cong_Cong_number0 c b3
  let r5 : Int := S.cong_rest a1 c.M
  let t6 : Int := IntKind.u64.wrap (c.M - r5)
  let t7 : Int := Int.tmod t6 c.M
  let r8 : Int := S.cong_plus c.R t7 c.M
  let t9 : Int := IntKind.u64.wrap a1
  let t10 : Int := IntKind.u64.wrap (9223372036854775807 - t9)
  let b11 : Bool := decide (r8 > t10)
  let t12 : Int := IntKind.i64.wrap r8
  let t13 : Int := IntKind.i64.wrap (a1 + t12)
  (bif r1 then (r4.1, r4.2) else (bif b11 then (0, false) else (t13, true)))
def S.cong_Cong_Least_pre (c : S.Cong) (a1 : Int) : Prop :=
  let r1 : Bool := S.cong_Cong_single c
  let r5 : Int := S.cong_rest a1 c.M
  let t6 : Int := IntKind.u64.wrap (c.M - r5)
  let t7 : Int := Int.tmod t6 c.M
  let r8 : Int := S.cong_plus c.R t7 c.M
  let t9 : Int := IntKind.u64.wrap a1
  let t10 : Int := IntKind.u64.wrap (9223372036854775807 - t9)
  let b11 : Bool := decide (r8 > t10)
  ((r1 = true → True) ∧ (r1 = false → (All [S.cong_rest_pre a1 c.M, c.M ≠ 0, S.cong_plus_pre c.R t7 c.M] ∧ ((b11 = true → True) ∧ (b11 = false → True)))))
/-- (cong.Cong).Greatest -/
def S.cong_Cong_Greatest (c : S.Cong) (to : Int) : Int × Bool :=
  let r1 : Bool := S.cong_Cong_single c
  let r2 : Int := S.cong_Cong_number c
  let b3 : Bool := decide (r2 ≤ to)
  let r4 : Int × Bool := S.cong_Cong_number0 c b3
  let r5 : Int := S.cong_rest to c.M
  let t6 : Int := IntKind.u64.wrap (c.M - c.R)
  let t7 : Int := Int.tmod t6 c.M
  let r8 : Int := S.cong_plus r5 t7 c.M
  let t9 : Int := IntKind.u64.wrap to
  let t10 : Int := IntKind.u64.wrap (t9 + 9223372036854775808)
  let b11 : Bool := decide (r8 > t10)
  let t12 : Int := IntKind.i64.wrap r8
  let t13 : Int := IntKind.i64.wrap (to - t12)
  (bif r1 then (r4.1, r4.2) else (bif b11 then (0, false) else (t13, true)))
def S.cong_Cong_Greatest_pre (c : S.Cong) (to : Int) : Prop :=
  let r1 : Bool := S.cong_Cong_single c
  let r5 : Int := S.cong_rest to c.M
  let t6 : Int := IntKind.u64.wrap (c.M - c.R)
  let t7 : Int := Int.tmod t6 c.M
  let r8 : Int := S.cong_plus r5 t7 c.M
  let t9 : Int := IntKind.u64.wrap to
  let t10 : Int := IntKind.u64.wrap (t9 + 9223372036854775808)
  let b11 : Bool := decide (r8 > t10)
  ((r1 = true → True) ∧ (r1 = false → (All [S.cong_rest_pre to c.M, c.M ≠ 0, S.cong_plus_pre r5 t7 c.M] ∧ ((b11 = true → True) ∧ (b11 = false → True)))))
/-- inter.Empty -/
def S.inter_Empty : S.Inter :=
  (⟨1, 0⟩ : S.Inter)
/-- inter.Of -/
def S.inter_Of (lo : Int) (hi : Int) : S.Inter :=
  let b1 : Bool := decide (lo > hi)
  let r2 : S.Inter := S.inter_Empty
  (bif b1 then r2 else (⟨lo, hi⟩ : S.Inter))
/-- (inter.Inter).plain -/
def S.inter_Inter_plain (i : S.Inter) : S.Inter :=
  let r1 : S.Inter := S.inter_Of i.Lo i.Hi
  r1
/-- (inter.Inter).IsEmpty -/
def S.inter_Inter_IsEmpty (i : S.Inter) : Bool :=
  let r1 : S.Inter := S.inter_Inter_plain i
  let r2 : S.Inter := S.inter_Empty
  let b3 : Bool := ((r1.Lo == r2.Lo) && (r1.Hi == r2.Hi))
  b3
/-- cong.Top -/
def S.cong_Top : S.Cong :=
  (⟨1, 0⟩ : S.Cong)
/-- value.Bottom -/
def S.value_Bottom : S.Value :=
  let r1 : S.Inter := S.inter_Empty
  let r2 : S.Cong := S.cong_Top
  (⟨r1, r2⟩ : S.Value)
/-- inter.One -/
def S.inter_One (n : Int) : S.Inter :=
  (⟨n, n⟩ : S.Inter)
/-- cong.Const -/
def S.cong_Const (n : Int) : S.Cong :=
  let t1 : Int := IntKind.u64.wrap n
  (⟨0, t1⟩ : S.Cong)
/-- value.One -/
def S.value_One (n : Int) : S.Value :=
  let r1 : S.Inter := S.inter_One n
  let r2 : S.Cong := S.cong_Const n
  (⟨r1, r2⟩ : S.Value)
/-- value.Make -/
def S.value_Make (i : S.Inter) (c : S.Cong) : S.Value :=
  let r1 : Bool := S.cong_Cong_Right c
  let b2 : Bool := !r1
  let t3 : Int := Int.tmod c.R c.M
  let r4 : Int × Bool := S.cong_Cong_Least (⟨c.M, (bif b2 then t3 else c.R)⟩ : S.Cong) i.Lo
  let r5 : Int × Bool := S.cong_Cong_Greatest (⟨c.M, (bif b2 then t3 else c.R)⟩ : S.Cong) i.Hi
  let r6 : Bool := S.inter_Inter_IsEmpty i
  let b7 : Bool := !r4.2
  let p8 : Bool := (r6 || b7)
  let b9 : Bool := !r5.2
  let p10 : Bool := (p8 || b9)
  let b11 : Bool := decide (r4.1 > r5.1)
  let p12 : Bool := (p10 || b11)
  let r13 : S.Value := S.value_Bottom
  let b14 : Bool := r4.1 == r5.1
  let r15 : S.Value := S.value_One r4.1
  let r16 : S.Inter := S.inter_Of r4.1 r5.1
  (bif p12 then r13 else (bif b14 then r15 else (⟨r16, (⟨c.M, (bif b2 then t3 else c.R)⟩ : S.Cong)⟩ : S.Value)))
def S.value_Make_pre (i : S.Inter) (c : S.Cong) : Prop :=
  let r1 : Bool := S.cong_Cong_Right c
  let b2 : Bool := !r1
  let t3 : Int := Int.tmod c.R c.M
  let r4 : Int × Bool := S.cong_Cong_Least (⟨c.M, (bif b2 then t3 else c.R)⟩ : S.Cong) i.Lo
  let r5 : Int × Bool := S.cong_Cong_Greatest (⟨c.M, (bif b2 then t3 else c.R)⟩ : S.Cong) i.Hi
  let r6 : Bool := S.inter_Inter_IsEmpty i
  let b7 : Bool := !r4.2
  let p8 : Bool := (r6 || b7)
  let b9 : Bool := !r5.2
  let p10 : Bool := (p8 || b9)
  let b11 : Bool := decide (r4.1 > r5.1)
  let p12 : Bool := (p10 || b11)
  let b14 : Bool := r4.1 == r5.1
  (All [(b2 = true → c.M ≠ 0), S.cong_Cong_Least_pre (⟨c.M, (bif b2 then t3 else c.R)⟩ : S.Cong) i.Lo, S.cong_Cong_Greatest_pre (⟨c.M, (bif b2 then t3 else c.R)⟩ : S.Cong) i.Hi] ∧ ((p12 = true → True) ∧ (p12 = false → ((b14 = true → True) ∧ (b14 = false → True)))))
/-- cond.plain -/
def S.cond_plain (v : S.Value) : S.Value :=
  let r1 : S.Value := S.value_Make v.I v.C
  r1
def S.cond_plain_pre (v : S.Value) : Prop :=
  (All [S.value_Make_pre v.I v.C] ∧ True)
/-- (value.Value).reduced -/
def S.value_Value_reduced (v : S.Value) : S.Value :=
  let r1 : S.Value := S.value_Make v.I v.C
  r1
def S.value_Value_reduced_pre (v : S.Value) : Prop :=
  (All [S.value_Make_pre v.I v.C] ∧ True)
/-- (value.Value).IsBottom -/
def S.value_Value_IsBottom (v : S.Value) : Bool :=
  let r1 : S.Value := S.value_Value_reduced v
  let r2 : S.Value := S.value_Bottom
  let b3 : Bool := ((r1.I.Lo == r2.I.Lo) && ((r1.I.Hi == r2.I.Hi) && ((r1.C.M == r2.C.M) && (r1.C.R == r2.C.R))))
  b3
def S.value_Value_IsBottom_pre (v : S.Value) : Prop :=
  (All [S.value_Value_reduced_pre v] ∧ True)
/-- inter.Whole -/
def S.inter_Whole : S.Inter :=
  (⟨(-9223372036854775808), 9223372036854775807⟩ : S.Inter)
/-- value.Top -/
def S.value_Top : S.Value :=
  let r1 : S.Inter := S.inter_Whole
  let r2 : S.Cong := S.cong_Top
  (⟨r1, r2⟩ : S.Value)
/-- cond.zero -/
def S.cond_zero : S.Value :=
  let r1 : S.Value := S.value_One 0
  r1
/-- (inter.Inter).Has -/
def S.inter_Inter_Has (i : S.Inter) (n : Int) : Bool :=
  let b1 : Bool := decide (i.Lo ≤ n)
  let b2 : Bool := decide (n ≤ i.Hi)
  let p3 : Bool := (b1 && b2)
  p3
/-- inter.Within -/
def S.inter_Within (a : S.Inter) (b : S.Inter) : Bool :=
  let r1 : Bool := S.inter_Inter_IsEmpty a
  let r2 : Bool := S.inter_Inter_Has b a.Lo
  let r3 : Bool := S.inter_Inter_Has b a.Hi
  let p4 : Bool := (r2 && r3)
  let p5 : Bool := (r1 || p4)
  p5
/-- (cong.Cong).by -/
def S.cong_Cong_by (c : S.Cong) (g : Int) : Int :=
  let r1 : Bool := S.cong_Cong_single c
  let r2 : Int := S.cong_Cong_number c
  let r3 : Int := S.cong_rest r2 g
  let t4 : Int := Int.tmod c.R g
  (bif r1 then r3 else t4)
def S.cong_Cong_by_pre (c : S.Cong) (g : Int) : Prop :=
  let r1 : Bool := S.cong_Cong_single c
  let r2 : Int := S.cong_Cong_number c
  ((r1 = true → (All [S.cong_rest_pre r2 g] ∧ True)) ∧ (r1 = false → (All [g ≠ 0] ∧ True)))
/-- cong.Within -/
def S.cong_Within (a : S.Cong) (b : S.Cong) : Bool :=
  let r1 : Bool := S.cong_Cong_single b
  let b2 : Bool := ((a.M == b.M) && (a.R == b.R))
  let t3 : Int := Int.tmod a.M b.M
  let b4 : Bool := t3 == 0
  let r5 : Int := S.cong_Cong_by a b.M
  let b6 : Bool := r5 == b.R
  let p7 : Bool := (b4 && b6)
  (bif r1 then b2 else p7)
def S.cong_Within_pre (a : S.Cong) (b : S.Cong) : Prop :=
  let r1 : Bool := S.cong_Cong_single b
  let t3 : Int := Int.tmod a.M b.M
  let b4 : Bool := t3 == 0
  ((r1 = true → True) ∧ (r1 = false → (All [b.M ≠ 0, (b4 = true → S.cong_Cong_by_pre a b.M)] ∧ True)))
/-- value.Within -/
def S.value_Within (a : S.Value) (b : S.Value) : Bool :=
  let r1 : S.Value := S.value_Value_reduced a
  let r2 : S.Value := S.value_Value_reduced b
  let r3 : S.Value := S.value_Bottom
  let b4 : Bool := ((r1.I.Lo == r3.I.Lo) && ((r1.I.Hi == r3.I.Hi) && ((r1.C.M == r3.C.M) && (r1.C.R == r3.C.R))))
  let r5 : Bool := S.inter_Within r1.I r2.I
  let r6 : Bool := S.cong_Within r1.C r2.C
  let p7 : Bool := (r5 && r6)
  let p8 : Bool := (b4 || p7)
  p8
def S.value_Within_pre (a : S.Value) (b : S.Value) : Prop :=
  let r1 : S.Value := S.value_Value_reduced a
  let r2 : S.Value := S.value_Value_reduced b
  let r3 : S.Value := S.value_Bottom
  let b4 : Bool := ((r1.I.Lo == r3.I.Lo) && ((r1.I.Hi == r3.I.Hi) && ((r1.C.M == r3.C.M) && (r1.C.R == r3.C.R))))
  let r5 : Bool := S.inter_Within r1.I r2.I
  (All [S.value_Value_reduced_pre a, S.value_Value_reduced_pre b, (b4 = false → (r5 = true → S.cong_Within_pre r1.C r2.C))] ∧ True)
/-- (value.Value).Has -/
def S.value_Value_Has (v : S.Value) (n : Int) : Bool :=
  let r1 : S.Value := S.value_One n
  let r2 : Bool := S.value_Within r1 v
  r2
def S.value_Value_Has_pre (v : S.Value) (n : Int) : Prop :=
  let r1 : S.Value := S.value_One n
  (All [S.value_Within_pre r1 v] ∧ True)
/-- cond.Truth -/
def S.cond_Truth (v : S.Value) : Bool × Bool :=
  let r1 : S.Value := S.cond_plain v
  let r2 : Bool := S.value_Value_IsBottom r1
  let b3 : Bool := !r2
  let r4 : S.Value := S.cond_zero
  let b5 : Bool := !((r1.I.Lo == r4.I.Lo) && ((r1.I.Hi == r4.I.Hi) && ((r1.C.M == r4.C.M) && (r1.C.R == r4.C.R))))
  let p6 : Bool := (b3 && b5)
  let r7 : Bool := S.value_Value_Has r1 0
  (p6, r7)
def S.cond_Truth_pre (v : S.Value) : Prop :=
  let r1 : S.Value := S.cond_plain v
  (All [S.cond_plain_pre v, S.value_Value_IsBottom_pre r1, S.value_Value_Has_pre r1 0] ∧ True)
@[ext] structure S.cong_gcd_L0 where
  a : Int
  b : Int
def S.cong_gcd_L0_step (x : S.cong_gcd_L0) : S.cong_gcd_L0 ⊕ (S.cong_gcd_L0) :=
  let b1 : Bool := x.b == 0
  let t2 : Int := Int.tmod x.a x.b
  (bif b1 then (.inr ⟨x.a, x.b⟩) else (.inl ⟨x.b, t2⟩))
def S.cong_gcd_L0_vcs (x : S.cong_gcd_L0) : Prop :=
  let b1 : Bool := x.b == 0
  ((b1 = true → True) ∧ (b1 = false → (All [x.b ≠ 0] ∧ True)))
noncomputable def S.cong_gcd_L0_run (x : S.cong_gcd_L0) : S.cong_gcd_L0 := theRun (fun x => x) S.cong_gcd_L0_step S.cong_gcd_L0_vcs x
/-- cong.gcd -/
noncomputable def S.cong_gcd (a : Int) (b : Int) : Int :=
  let x1 : S.cong_gcd_L0 := (⟨a, b⟩ : S.cong_gcd_L0)
  let y2 : S.cong_gcd_L0 := S.cong_gcd_L0_run x1
  y2.a
def S.cong_gcd_pre (a : Int) (b : Int) : Prop :=
  let x1 : S.cong_gcd_L0 := (⟨a, b⟩ : S.cong_gcd_L0)
  (All [Runs S.cong_gcd_L0_step S.cong_gcd_L0_vcs x1 (S.cong_gcd_L0_run x1)] ∧ True)
/-- cong.Make -/
def S.cong_Make (m : Int) (n : Int) : S.Cong :=
  let b1 : Bool := m == 0
  let r2 : S.Cong := S.cong_Const n
  let r3 : Int := S.cong_rest n m
  (bif b1 then r2 else (⟨m, r3⟩ : S.Cong))
def S.cong_Make_pre (m : Int) (n : Int) : Prop :=
  let b1 : Bool := m == 0
  ((b1 = true → True) ∧ (b1 = false → (All [S.cong_rest_pre n m] ∧ True)))
/-- (cong.Cong).Has -/
def S.cong_Cong_Has (c : S.Cong) (n : Int) : Bool :=
  let r1 : S.Cong := S.cong_Make c.M n
  let b2 : Bool := ((r1.M == c.M) && (r1.R == c.R))
  b2
def S.cong_Cong_Has_pre (c : S.Cong) (n : Int) : Prop :=
  (All [S.cong_Make_pre c.M n] ∧ True)
/-- (cong.Cong).if1 -/
def S.cong_Cong_if1 (c : S.Cong) (ok : Bool) : S.Cong × Bool :=
  let b1 : Bool := !ok
  (bif b1 then ((⟨0, 0⟩ : S.Cong), false) else (c, true))
/-- cong.Meet -/
noncomputable def S.cong_Meet (a : S.Cong) (b : S.Cong) : S.Cong × Bool :=
  let r1 : Int := S.cong_gcd a.M b.M
  let r2 : Bool := S.cong_Cong_single a
  let r3 : Int := S.cong_Cong_number a
  let r4 : Bool := S.cong_Cong_Has b r3
  let r5 : S.Cong × Bool := S.cong_Cong_if1 a r4
  let r6 : Bool := S.cong_Cong_single b
  let r7 : Int := S.cong_Cong_number b
  let r8 : Bool := S.cong_Cong_Has a r7
  let r9 : S.Cong × Bool := S.cong_Cong_if1 b r8
  let r10 : Int := S.cong_Cong_by a r1
  let r11 : Int := S.cong_Cong_by b r1
  let b12 : Bool := r10 != r11
  let r13 : Bool := S.cong_Within a b
  let r14 : Bool := S.cong_Within b a
  let b15 : Bool := !r14
  let b16 : Bool := decide (a.M ≥ b.M)
  let p17 : Bool := (b15 && b16)
  let p18 : Bool := (r13 || p17)
  (bif r2 then (r5.1, r5.2) else (bif r6 then (r9.1, r9.2) else (bif b12 then ((⟨0, 0⟩ : S.Cong), false) else (bif p18 then (a, true) else (b, true)))))
def S.cong_Meet_pre (a : S.Cong) (b : S.Cong) : Prop :=
  let r1 : Int := S.cong_gcd a.M b.M
  let r2 : Bool := S.cong_Cong_single a
  let r3 : Int := S.cong_Cong_number a
  let r6 : Bool := S.cong_Cong_single b
  let r7 : Int := S.cong_Cong_number b
  let r10 : Int := S.cong_Cong_by a r1
  let r11 : Int := S.cong_Cong_by b r1
  let b12 : Bool := r10 != r11
  let r13 : Bool := S.cong_Within a b
  let r14 : Bool := S.cong_Within b a
  let b15 : Bool := !r14
  let b16 : Bool := decide (a.M ≥ b.M)
  let p17 : Bool := (b15 && b16)
  let p18 : Bool := (r13 || p17)
  (All [S.cong_gcd_pre a.M b.M] ∧ ((r2 = true → (All [S.cong_Cong_Has_pre b r3] ∧ True)) ∧ (r2 = false → ((r6 = true → (All [S.cong_Cong_Has_pre a r7] ∧ True)) ∧ (r6 = false → (All [S.cong_Cong_by_pre a r1, S.cong_Cong_by_pre b r1] ∧ ((b12 = true → True) ∧ (b12 = false → (All [S.cong_Within_pre a b, (r13 = false → S.cong_Within_pre b a)] ∧ ((p18 = true → True) ∧ (p18 = false → True)))))))))))
/-- inter.Meet$1 -/
def S.inter_Meet_1 (a : S.Inter) (b : S.Inter) : S.Inter :=
  let m1 : Int := if b.Lo > a.Lo then b.Lo else a.Lo
  let m2 : Int := if b.Hi < a.Hi then b.Hi else a.Hi
  let r3 : S.Inter := S.inter_Of m1 m2
  r3
@[ext] structure S.inter_fold_inter_Meet_1_L0 where
  t9 : (List S.Inter)
  t10 : Int
  t11 : Int
  first : S.Inter
def S.inter_fold_inter_Meet_1_L0_step (x : S.inter_fold_inter_Meet_1_L0) : S.inter_fold_inter_Meet_1_L0 ⊕ (S.inter_fold_inter_Meet_1_L0) :=
  let b1 : Bool := decide (x.t11 < x.t10)
  let e2 : S.Inter := x.t9.getD (Int.toNat x.t11) (⟨0, 0⟩ : S.Inter)
  let r3 : S.Inter := S.inter_Meet_1 x.first e2
  let t4 : Int := IntKind.i64.wrap (x.t11 + 1)
  (bif b1 then (.inl ⟨x.t9, x.t10, t4, r3⟩) else (.inr ⟨x.t9, x.t10, x.t11, x.first⟩))
def S.inter_fold_inter_Meet_1_L0_vcs (x : S.inter_fold_inter_Meet_1_L0) : Prop :=
  let b1 : Bool := decide (x.t11 < x.t10)
  ((b1 = true → (All [(0 : Int) ≤ x.t11, x.t11 < (x.t9.length : Int)] ∧ True)) ∧ (b1 = false → True))
noncomputable def S.inter_fold_inter_Meet_1_L0_run (x : S.inter_fold_inter_Meet_1_L0) : S.inter_fold_inter_Meet_1_L0 := theRun (fun x => x) S.inter_fold_inter_Meet_1_L0_step S.inter_fold_inter_Meet_1_L0_vcs x
/-- inter.fold -/
noncomputable def S.inter_fold_inter_Meet_1 (first : S.Inter) (l : (List S.Inter)) : S.Inter :=
  let x1 : S.inter_fold_inter_Meet_1_L0 := (⟨l, (l.length : Int), 0, first⟩ : S.inter_fold_inter_Meet_1_L0)
  let y2 : S.inter_fold_inter_Meet_1_L0 := S.inter_fold_inter_Meet_1_L0_run x1
  let r3 : S.Inter := S.inter_Inter_plain y2.first
  r3
def S.inter_fold_inter_Meet_1_pre (first : S.Inter) (l : (List S.Inter)) : Prop :=
  let x1 : S.inter_fold_inter_Meet_1_L0 := (⟨l, (l.length : Int), 0, first⟩ : S.inter_fold_inter_Meet_1_L0)
  (All [Runs S.inter_fold_inter_Meet_1_L0_step S.inter_fold_inter_Meet_1_L0_vcs x1 (S.inter_fold_inter_Meet_1_L0_run x1)] ∧ True)
/-- inter.Meet -/
noncomputable def S.inter_Meet (l : (List S.Inter)) : S.Inter :=
  let r1 : S.Inter := S.inter_Whole
  let r2 : S.Inter := S.inter_fold_inter_Meet_1 r1 l
  r2
def S.inter_Meet_pre (l : (List S.Inter)) : Prop :=
  let r1 : S.Inter := S.inter_Whole
  (All [S.inter_fold_inter_Meet_1_pre r1 l] ∧ True)
/-- cond.alike -/
noncomputable def S.cond_alike (a : S.Value) (b : S.Value) : S.Value × S.Value :=
  let r1 : S.Cong × Bool := S.cong_Meet a.C b.C
  let b2 : Bool := !r1.2
  let r3 : S.Value := S.value_Bottom
  let r4 : S.Value := S.value_Bottom
  let r5 : S.Inter := S.inter_Meet ([a.I, b.I] : List S.Inter)
  let r6 : S.Value := S.value_Make r5 a.C
  let r7 : S.Value := S.value_Make r5 b.C
  let r8 : Bool := S.cong_Within b.C a.C
  let r9 : S.Value := S.value_Make r5 b.C
  let r10 : Bool := S.cong_Within a.C b.C
  let r11 : S.Value := S.value_Make r5 a.C
  (bif b2 then (r3, r4) else ((⟨(⟨(bif r8 then r9.I.Lo else r6.I.Lo), (bif r8 then r9.I.Hi else r6.I.Hi)⟩ : S.Inter), (⟨(bif r8 then r9.C.M else r6.C.M), (bif r8 then r9.C.R else r6.C.R)⟩ : S.Cong)⟩ : S.Value), (⟨(⟨(bif r10 then r11.I.Lo else r7.I.Lo), (bif r10 then r11.I.Hi else r7.I.Hi)⟩ : S.Inter), (⟨(bif r10 then r11.C.M else r7.C.M), (bif r10 then r11.C.R else r7.C.R)⟩ : S.Cong)⟩ : S.Value)))
def S.cond_alike_pre (a : S.Value) (b : S.Value) : Prop :=
  let r1 : S.Cong × Bool := S.cong_Meet a.C b.C
  let b2 : Bool := !r1.2
  let r5 : S.Inter := S.inter_Meet ([a.I, b.I] : List S.Inter)
  let r8 : Bool := S.cong_Within b.C a.C
  let r10 : Bool := S.cong_Within a.C b.C
  (All [S.cong_Meet_pre a.C b.C] ∧ ((b2 = true → True) ∧ (b2 = false → (All [S.inter_Meet_pre ([a.I, b.I] : List S.Inter), S.value_Make_pre r5 a.C, S.value_Make_pre r5 b.C, S.cong_Within_pre b.C a.C, (r8 = true → S.value_Make_pre r5 b.C), S.cong_Within_pre a.C b.C, (r10 = true → S.value_Make_pre r5 a.C)] ∧ True))))
/-- (inter.Inter).Single -/
def S.inter_Inter_Single (i : S.Inter) : Int × Bool :=
  let r1 : S.Inter := S.inter_One i.Lo
  let b2 : Bool := !((i.Lo == r1.Lo) && (i.Hi == r1.Hi))
  (bif b2 then (0, false) else (i.Lo, true))
/-- (value.Value).Single -/
def S.value_Value_Single (v : S.Value) : Int × Bool :=
  let r1 : S.Value := S.value_Value_reduced v
  let r2 : Int × Bool := S.inter_Inter_Single r1.I
  (r2.1, r2.2)
def S.value_Value_Single_pre (v : S.Value) : Prop :=
  (All [S.value_Value_reduced_pre v] ∧ True)
/-- cond.single -/
def S.cond_single (a : S.Value) (b : S.Value) : Bool :=
  let r1 : Int × Bool := S.value_Value_Single a
  let r2 : Int × Bool := S.value_Value_Single b
  let p3 : Bool := (r1.2 && r2.2)
  let b4 : Bool := r1.1 == r2.1
  let p5 : Bool := (p3 && b4)
  p5
def S.cond_single_pre (a : S.Value) (b : S.Value) : Prop :=
  (All [S.value_Value_Single_pre a, S.value_Value_Single_pre b] ∧ True)
/-- cond.tells -/
noncomputable def S.cond_tells_F : Nat → Int → S.Value → S.Value → Bool × Bool
  | 0, _, _, _ => (false, false)
  | n + 1, op, a, b =>
  let r1 : Bool × Bool := S.cond_Truth a
  let r2 : Bool × Bool := S.cond_Truth b
  let b3 : Bool := op == 0
  let b4 : Bool := op == 1
  let b5 : Bool := op == 3
  let b6 : Bool := op == 2
  let b7 : Bool := op == 6
  let b8 : Bool := op == 4
  let b9 : Bool := op == 7
  let p10 : Bool := (r1.1 || r2.1)
  let p11 : Bool := (r1.2 && r2.2)
  let p12 : Bool := (r1.1 && r2.1)
  let p13 : Bool := (r1.2 || r2.2)
  let r14 : Bool × Bool := S.cond_tells_F n 2 a b
  let r15 : S.Value × S.Value := S.cond_alike a b
  let r16 : Bool := S.value_Value_IsBottom r15.1
  let b17 : Bool := !r16
  let r18 : Bool := S.value_Value_IsBottom r15.2
  let b19 : Bool := !r18
  let p20 : Bool := (b17 && b19)
  let r21 : Bool := S.cond_single a b
  let b22 : Bool := !r21
  let b23 : Bool := decide (b.I.Lo < a.I.Hi)
  let b24 : Bool := decide (b.I.Hi ≥ a.I.Lo)
  let b25 : Bool := decide (a.I.Lo < b.I.Hi)
  let b26 : Bool := decide (a.I.Hi ≥ b.I.Lo)
  let b27 : Bool := decide ((bif b9 then b.I.Lo else a.I.Lo) ≤ (bif b9 then a.I.Hi else b.I.Hi))
  let b28 : Bool := decide ((bif b9 then b.I.Hi else a.I.Hi) > (bif b9 then a.I.Lo else b.I.Lo))
  (bif b3 then (p10, p11) else (bif b4 then (p12, p13) else (bif b5 then (r14.2, r14.1) else (bif b6 then (p20, b22) else (bif b7 then (b23, b24) else (bif b8 then (b25, b26) else (b27, b28)))))))
def S.cond_tells_D : Nat → Int → S.Value → S.Value → Prop
  | 0, _, _, _ => False
  | n + 1, op, a, b =>
  let b3 : Bool := op == 0
  let b4 : Bool := op == 1
  let b5 : Bool := op == 3
  let b6 : Bool := op == 2
  let b7 : Bool := op == 6
  let b8 : Bool := op == 4
  let r15 : S.Value × S.Value := S.cond_alike a b
  let r16 : Bool := S.value_Value_IsBottom r15.1
  let b17 : Bool := !r16
  (All [S.cond_Truth_pre a, S.cond_Truth_pre b] ∧ ((b3 = true → True) ∧ (b3 = false → ((b4 = true → True) ∧ (b4 = false → ((b5 = true → (All [S.cond_tells_D n 2 a b] ∧ True)) ∧ (b5 = false → ((b6 = true → (All [S.cond_alike_pre a b, S.value_Value_IsBottom_pre r15.1, (b17 = true → S.value_Value_IsBottom_pre r15.2), S.cond_single_pre a b] ∧ True)) ∧ (b6 = false → ((b7 = true → True) ∧ (b7 = false → ((b8 = true → True) ∧ (b8 = false → True)))))))))))))
noncomputable def S.cond_tells (op : Int) (a : S.Value) (b : S.Value) : Bool × Bool := S.cond_tells_F (Classical.epsilon fun n => S.cond_tells_D n op a b) op a b
def S.cond_tells_pre (op : Int) (a : S.Value) (b : S.Value) : Prop := ∃ n, S.cond_tells_D n op a b
/-- value.Range -/
def S.value_Range (lo : Int) (hi : Int) : S.Value :=
  let r1 : S.Inter := S.inter_Of lo hi
  let r2 : S.Cong := S.cong_Top
  let r3 : S.Value := S.value_Make r1 r2
  r3
def S.value_Range_pre (lo : Int) (hi : Int) : Prop :=
  let r1 : S.Inter := S.inter_Of lo hi
  let r2 : S.Cong := S.cong_Top
  (All [S.value_Make_pre r1 r2] ∧ True)
/-- cond.truth -/
def S.cond_truth (yes : Bool) (no : Bool) : S.Value :=
  let p1 : Bool := (yes && no)
  let r2 : S.Value := S.value_Range 0 1
  let r3 : S.Value := S.value_One 1
  let r4 : S.Value := S.cond_zero
  let r5 : S.Value := S.value_Bottom
  (bif p1 then r2 else (bif yes then r3 else (bif no then r4 else r5)))
def S.cond_truth_pre (yes : Bool) (no : Bool) : Prop :=
  let p1 : Bool := (yes && no)
  ((p1 = true → (All [S.value_Range_pre 0 1] ∧ True)) ∧ (p1 = false → ((yes = true → True) ∧ (yes = false → ((no = true → True) ∧ (no = false → True))))))
/-- cond.Do -/
noncomputable def S.cond_Do (op : Int) (a : S.Value) (b : S.Value) : S.Value :=
  let r1 : S.Value := S.cond_plain a
  let r2 : S.Value := S.cond_plain b
  let r3 : Bool := S.value_Value_IsBottom r1
  let r4 : Bool := S.value_Value_IsBottom r2
  let p5 : Bool := (r3 || r4)
  let r6 : S.Value := S.value_Bottom
  let b7 : Bool := decide (op < 0)
  let b8 : Bool := decide (op > 7)
  let p9 : Bool := (b7 || b8)
  let r10 : S.Value := S.value_Top
  let r11 : Bool × Bool := S.cond_tells op r1 r2
  let r12 : S.Value := S.cond_truth r11.1 r11.2
  (bif p5 then r6 else (bif p9 then r10 else r12))
def S.cond_Do_pre (op : Int) (a : S.Value) (b : S.Value) : Prop :=
  let r1 : S.Value := S.cond_plain a
  let r2 : S.Value := S.cond_plain b
  let r3 : Bool := S.value_Value_IsBottom r1
  let r4 : Bool := S.value_Value_IsBottom r2
  let p5 : Bool := (r3 || r4)
  let b7 : Bool := decide (op < 0)
  let b8 : Bool := decide (op > 7)
  let p9 : Bool := (b7 || b8)
  let r11 : Bool × Bool := S.cond_tells op r1 r2
  (All [S.cond_plain_pre a, S.cond_plain_pre b, S.value_Value_IsBottom_pre r1, (r3 = false → S.value_Value_IsBottom_pre r2)] ∧ ((p5 = true → True) ∧ (p5 = false → ((p9 = true → True) ∧ (p9 = false → (All [S.cond_tells_pre op r1 r2, S.cond_truth_pre r11.1 r11.2] ∧ True))))))
/-- cond.between -/
noncomputable def S.cond_between (v : S.Value) (lo : Int) (hi : Int) : S.Value :=
  let r1 : S.Inter := S.inter_Of lo hi
  let r2 : S.Inter := S.inter_Meet ([v.I, r1] : List S.Inter)
  let r3 : S.Value := S.value_Make r2 v.C
  r3
def S.cond_between_pre (v : S.Value) (lo : Int) (hi : Int) : Prop :=
  let r1 : S.Inter := S.inter_Of lo hi
  let r2 : S.Inter := S.inter_Meet ([v.I, r1] : List S.Inter)
  (All [S.inter_Meet_pre ([v.I, r1] : List S.Inter), S.value_Make_pre r2 v.C] ∧ True)
/-- cond.from -/
noncomputable def S.cond_from (v : S.Value) (n : Int) : S.Value :=
  let r1 : S.Value := S.cond_between v n 9223372036854775807
  r1
def S.cond_from_pre (v : S.Value) (n : Int) : Prop :=
  (All [S.cond_between_pre v n 9223372036854775807] ∧ True)
/-- cond.above -/
noncomputable def S.cond_above (v : S.Value) (n : Int) : S.Value :=
  let b1 : Bool := n == 9223372036854775807
  let r2 : S.Value := S.value_Bottom
  let t3 : Int := IntKind.i64.wrap (n + 1)
  let r4 : S.Value := S.cond_from v t3
  (bif b1 then r2 else r4)
def S.cond_above_pre (v : S.Value) (n : Int) : Prop :=
  let b1 : Bool := n == 9223372036854775807
  let t3 : Int := IntKind.i64.wrap (n + 1)
  ((b1 = true → True) ∧ (b1 = false → (All [S.cond_from_pre v t3] ∧ True)))
/-- cond.upto -/
noncomputable def S.cond_upto (v : S.Value) (n : Int) : S.Value :=
  let r1 : S.Value := S.cond_between v (-9223372036854775808) n
  r1
def S.cond_upto_pre (v : S.Value) (n : Int) : Prop :=
  (All [S.cond_between_pre v (-9223372036854775808) n] ∧ True)
/-- cond.below -/
noncomputable def S.cond_below (v : S.Value) (n : Int) : S.Value :=
  let b1 : Bool := n == (-9223372036854775808)
  let r2 : S.Value := S.value_Bottom
  let t3 : Int := IntKind.i64.wrap (n - 1)
  let r4 : S.Value := S.cond_upto v t3
  (bif b1 then r2 else r4)
def S.cond_below_pre (v : S.Value) (n : Int) : Prop :=
  let b1 : Bool := n == (-9223372036854775808)
  let t3 : Int := IntKind.i64.wrap (n - 1)
  ((b1 = true → True) ∧ (b1 = false → (All [S.cond_upto_pre v t3] ∧ True)))
/-- cond.Without -/
noncomputable def S.cond_Without (v : S.Value) (n : Int) : S.Value :=
  let r1 : S.Value := S.cond_plain v
  let r2 : Bool := S.value_Value_IsBottom r1
  let b3 : Bool := n == r1.I.Lo
  let r4 : S.Value := S.cond_above r1 n
  let b5 : Bool := n == r1.I.Hi
  let r6 : S.Value := S.cond_below r1 n
  (bif r2 then r1 else (bif b3 then r4 else (bif b5 then r6 else r1)))
def S.cond_Without_pre (v : S.Value) (n : Int) : Prop :=
  let r1 : S.Value := S.cond_plain v
  let r2 : Bool := S.value_Value_IsBottom r1
  let b3 : Bool := n == r1.I.Lo
  let b5 : Bool := n == r1.I.Hi
  (All [S.cond_plain_pre v, S.value_Value_IsBottom_pre r1] ∧ ((r2 = true → True) ∧ (r2 = false → ((b3 = true → (All [S.cond_above_pre r1 n] ∧ True)) ∧ (b3 = false → ((b5 = true → (All [S.cond_below_pre r1 n] ∧ True)) ∧ (b5 = false → True)))))))
/-- value.Meet$1 -/
noncomputable def S.value_Meet_1 (a : S.Value) (b : S.Value) : S.Value :=
  let r1 : S.Cong × Bool := S.cong_Meet a.C b.C
  let b2 : Bool := !r1.2
  let r3 : S.Value := S.value_Bottom
  let r4 : S.Inter := S.inter_Meet ([a.I, b.I] : List S.Inter)
  let r5 : S.Value := S.value_Make r4 r1.1
  (bif b2 then r3 else r5)
def S.value_Meet_1_pre (a : S.Value) (b : S.Value) : Prop :=
  let r1 : S.Cong × Bool := S.cong_Meet a.C b.C
  let b2 : Bool := !r1.2
  let r4 : S.Inter := S.inter_Meet ([a.I, b.I] : List S.Inter)
  (All [S.cong_Meet_pre a.C b.C] ∧ ((b2 = true → True) ∧ (b2 = false → (All [S.inter_Meet_pre ([a.I, b.I] : List S.Inter), S.value_Make_pre r4 r1.1] ∧ True))))
@[ext] structure S.value_fold_value_Meet_1_L0 where
  t9 : (List S.Value)
  t10 : Int
  t11 : Int
  first : S.Value
noncomputable def S.value_fold_value_Meet_1_L0_step (x : S.value_fold_value_Meet_1_L0) : S.value_fold_value_Meet_1_L0 ⊕ (S.value_fold_value_Meet_1_L0) :=
  let b1 : Bool := decide (x.t11 < x.t10)
  let e2 : S.Value := x.t9.getD (Int.toNat x.t11) (⟨(⟨0, 0⟩ : S.Inter), (⟨0, 0⟩ : S.Cong)⟩ : S.Value)
  let r3 : S.Value := S.value_Value_reduced e2
  let r4 : S.Value := S.value_Meet_1 x.first r3
  let t5 : Int := IntKind.i64.wrap (x.t11 + 1)
  (bif b1 then (.inl ⟨x.t9, x.t10, t5, r4⟩) else (.inr ⟨x.t9, x.t10, x.t11, x.first⟩))
def S.value_fold_value_Meet_1_L0_vcs (x : S.value_fold_value_Meet_1_L0) : Prop :=
  let b1 : Bool := decide (x.t11 < x.t10)
  let e2 : S.Value := x.t9.getD (Int.toNat x.t11) (⟨(⟨0, 0⟩ : S.Inter), (⟨0, 0⟩ : S.Cong)⟩ : S.Value)
  let r3 : S.Value := S.value_Value_reduced e2
  ((b1 = true → (All [(0 : Int) ≤ x.t11, x.t11 < (x.t9.length : Int), S.value_Value_reduced_pre e2, S.value_Meet_1_pre x.first r3] ∧ True)) ∧ (b1 = false → True))
noncomputable def S.value_fold_value_Meet_1_L0_run (x : S.value_fold_value_Meet_1_L0) : S.value_fold_value_Meet_1_L0 := theRun (fun x => x) S.value_fold_value_Meet_1_L0_step S.value_fold_value_Meet_1_L0_vcs x
/-- value.fold -/
noncomputable def S.value_fold_value_Meet_1 (first : S.Value) (l : (List S.Value)) : S.Value :=
  let x1 : S.value_fold_value_Meet_1_L0 := (⟨l, (l.length : Int), 0, first⟩ : S.value_fold_value_Meet_1_L0)
  let y2 : S.value_fold_value_Meet_1_L0 := S.value_fold_value_Meet_1_L0_run x1
  y2.first
def S.value_fold_value_Meet_1_pre (first : S.Value) (l : (List S.Value)) : Prop :=
  let x1 : S.value_fold_value_Meet_1_L0 := (⟨l, (l.length : Int), 0, first⟩ : S.value_fold_value_Meet_1_L0)
  (All [Runs S.value_fold_value_Meet_1_L0_step S.value_fold_value_Meet_1_L0_vcs x1 (S.value_fold_value_Meet_1_L0_run x1)] ∧ True)
/-- value.Meet -/
noncomputable def S.value_Meet (l : (List S.Value)) : S.Value :=
  let r1 : S.Value := S.value_Top
  let r2 : S.Value := S.value_fold_value_Meet_1 r1 l
  r2
def S.value_Meet_pre (l : (List S.Value)) : Prop :=
  let r1 : S.Value := S.value_Top
  (All [S.value_fold_value_Meet_1_pre r1 l] ∧ True)
/-- cond.Only -/
noncomputable def S.cond_Only (v : S.Value) (truth : Bool) : S.Value :=
  let r1 : S.Value := S.cond_Without v 0
  let r2 : S.Value := S.cond_plain v
  let r3 : S.Value := S.cond_zero
  let r4 : S.Value := S.value_Meet ([r2, r3] : List S.Value)
  (bif truth then r1 else r4)
def S.cond_Only_pre (v : S.Value) (truth : Bool) : Prop :=
  let r2 : S.Value := S.cond_plain v
  let r3 : S.Value := S.cond_zero
  ((truth = true → (All [S.cond_Without_pre v 0] ∧ True)) ∧ (truth = false → (All [S.cond_plain_pre v, S.value_Meet_pre ([r2, r3] : List S.Value)] ∧ True)))
/-- cond.without -/
noncomputable def S.cond_without (v : S.Value) (other : S.Value) : S.Value :=
  let r1 : Int × Bool := S.value_Value_Single other
  let r2 : S.Value := S.cond_Without v r1.1
  (bif r1.2 then r2 else v)
def S.cond_without_pre (v : S.Value) (other : S.Value) : Prop :=
  let r1 : Int × Bool := S.value_Value_Single other
  (All [S.value_Value_Single_pre other] ∧ ((r1.2 = true → (All [S.cond_Without_pre v r1.1] ∧ True)) ∧ (r1.2 = false → True)))
/-- cond.left -/
noncomputable def S.cond_left (op : Int) (a : S.Value) (b : S.Value) : S.Value × S.Value :=
  let b1 : Bool := op == 1
  let r2 : S.Value := S.cond_Only a true
  let r3 : S.Value := S.cond_Only b true
  let b4 : Bool := op == 2
  let r5 : S.Value × S.Value := S.cond_alike a b
  let b6 : Bool := op == 3
  let r7 : S.Value := S.cond_without a b
  let r8 : S.Value := S.cond_without b a
  let b9 : Bool := op == 4
  let r10 : S.Value := S.cond_below a b.I.Hi
  let r11 : S.Value := S.cond_above b a.I.Lo
  let b12 : Bool := op == 5
  let r13 : S.Value := S.cond_upto a b.I.Hi
  let r14 : S.Value := S.cond_from b a.I.Lo
  let b15 : Bool := op == 6
  let r16 : S.Value := S.cond_above a b.I.Lo
  let r17 : S.Value := S.cond_below b a.I.Hi
  let b18 : Bool := op == 7
  let r19 : S.Value := S.cond_from a b.I.Lo
  let r20 : S.Value := S.cond_upto b a.I.Hi
  (bif b1 then (r2, r3) else (bif b4 then (r5.1, r5.2) else (bif b6 then (r7, r8) else (bif b9 then (r10, r11) else (bif b12 then (r13, r14) else (bif b15 then (r16, r17) else (bif b18 then (r19, r20) else (a, b))))))))
def S.cond_left_pre (op : Int) (a : S.Value) (b : S.Value) : Prop :=
  let b1 : Bool := op == 1
  let b4 : Bool := op == 2
  let b6 : Bool := op == 3
  let b9 : Bool := op == 4
  let b12 : Bool := op == 5
  let b15 : Bool := op == 6
  let b18 : Bool := op == 7
  ((b1 = true → (All [S.cond_Only_pre a true, S.cond_Only_pre b true] ∧ True)) ∧ (b1 = false → ((b4 = true → (All [S.cond_alike_pre a b] ∧ True)) ∧ (b4 = false → ((b6 = true → (All [S.cond_without_pre a b, S.cond_without_pre b a] ∧ True)) ∧ (b6 = false → ((b9 = true → (All [S.cond_below_pre a b.I.Hi, S.cond_above_pre b a.I.Lo] ∧ True)) ∧ (b9 = false → ((b12 = true → (All [S.cond_upto_pre a b.I.Hi, S.cond_from_pre b a.I.Lo] ∧ True)) ∧ (b12 = false → ((b15 = true → (All [S.cond_above_pre a b.I.Lo, S.cond_below_pre b a.I.Hi] ∧ True)) ∧ (b15 = false → ((b18 = true → (All [S.cond_from_pre a b.I.Lo, S.cond_upto_pre b a.I.Hi] ∧ True)) ∧ (b18 = false → True))))))))))))))
/-- cond.lefts -/
noncomputable def S.cond_lefts (op : Int) (a : S.Value) (b : S.Value) (truth : Bool) : S.Value × S.Value :=
  let r1 : S.Value × S.Value := S.cond_left op a b
  let b2 : Bool := op == 0
  let r3 : S.Value := S.cond_Only a false
  let r4 : S.Value := S.cond_Only b false
  let b5 : Bool := op == 2
  let b6 : Bool := op == 3
  let b7 : Bool := op == 4
  let b8 : Bool := op == 7
  let b9 : Bool := op == 5
  let b10 : Bool := op == 6
  let b11 : Bool := b5 || (b6 || (b7 || (b8 || (b9 || (b10 || (false))))))
  let r12 : S.Value × S.Value := S.cond_left (bif b5 then 3 else (bif b6 then 2 else (bif b7 then 7 else (bif b8 then 4 else (bif b9 then 6 else (bif b10 then 5 else 0)))))) a b
  (bif truth then (r1.1, r1.2) else (bif b2 then (r3, r4) else (bif b11 then (r12.1, r12.2) else (a, b))))
def S.cond_lefts_pre (op : Int) (a : S.Value) (b : S.Value) (truth : Bool) : Prop :=
  let b2 : Bool := op == 0
  let b5 : Bool := op == 2
  let b6 : Bool := op == 3
  let b7 : Bool := op == 4
  let b8 : Bool := op == 7
  let b9 : Bool := op == 5
  let b10 : Bool := op == 6
  let b11 : Bool := b5 || (b6 || (b7 || (b8 || (b9 || (b10 || (false))))))
  ((truth = true → (All [S.cond_left_pre op a b] ∧ True)) ∧ (truth = false → ((b2 = true → (All [S.cond_Only_pre a false, S.cond_Only_pre b false] ∧ True)) ∧ (b2 = false → ((b11 = true → (All [S.cond_left_pre (bif b5 then 3 else (bif b6 then 2 else (bif b7 then 7 else (bif b8 then 4 else (bif b9 then 6 else (bif b10 then 5 else 0)))))) a b] ∧ True)) ∧ (b11 = false → True))))))
/-- cond.Refine -/
noncomputable def S.cond_Refine (op : Int) (a : S.Value) (b : S.Value) (truth : Bool) : S.Value × S.Value :=
  let r1 : S.Value := S.cond_plain a
  let r2 : S.Value := S.cond_plain b
  let r3 : S.Value := S.cond_Do op r1 r2
  let r4 : S.Value := S.cond_Only r3 truth
  let r5 : Bool := S.value_Value_IsBottom r4
  let b6 : Bool := !r5
  let r7 : S.Value × S.Value := S.cond_lefts op r1 r2 truth
  let r8 : S.Value := S.value_Bottom
  let r9 : Bool := S.value_Value_IsBottom (⟨(⟨(bif b6 then r7.1.I.Lo else r8.I.Lo), (bif b6 then r7.1.I.Hi else r8.I.Hi)⟩ : S.Inter), (⟨(bif b6 then r7.1.C.M else r8.C.M), (bif b6 then r7.1.C.R else r8.C.R)⟩ : S.Cong)⟩ : S.Value)
  let r10 : Bool := S.value_Value_IsBottom (⟨(⟨(bif b6 then r7.2.I.Lo else r2.I.Lo), (bif b6 then r7.2.I.Hi else r2.I.Hi)⟩ : S.Inter), (⟨(bif b6 then r7.2.C.M else r2.C.M), (bif b6 then r7.2.C.R else r2.C.R)⟩ : S.Cong)⟩ : S.Value)
  let p11 : Bool := (r9 || r10)
  let r12 : S.Value := S.value_Bottom
  let r13 : S.Value := S.value_Bottom
  (bif p11 then (r12, r13) else ((⟨(⟨(bif b6 then r7.1.I.Lo else r8.I.Lo), (bif b6 then r7.1.I.Hi else r8.I.Hi)⟩ : S.Inter), (⟨(bif b6 then r7.1.C.M else r8.C.M), (bif b6 then r7.1.C.R else r8.C.R)⟩ : S.Cong)⟩ : S.Value), (⟨(⟨(bif b6 then r7.2.I.Lo else r2.I.Lo), (bif b6 then r7.2.I.Hi else r2.I.Hi)⟩ : S.Inter), (⟨(bif b6 then r7.2.C.M else r2.C.M), (bif b6 then r7.2.C.R else r2.C.R)⟩ : S.Cong)⟩ : S.Value)))
def S.cond_Refine_pre (op : Int) (a : S.Value) (b : S.Value) (truth : Bool) : Prop :=
  let r1 : S.Value := S.cond_plain a
  let r2 : S.Value := S.cond_plain b
  let r3 : S.Value := S.cond_Do op r1 r2
  let r4 : S.Value := S.cond_Only r3 truth
  let r5 : Bool := S.value_Value_IsBottom r4
  let b6 : Bool := !r5
  let r7 : S.Value × S.Value := S.cond_lefts op r1 r2 truth
  let r8 : S.Value := S.value_Bottom
  let r9 : Bool := S.value_Value_IsBottom (⟨(⟨(bif b6 then r7.1.I.Lo else r8.I.Lo), (bif b6 then r7.1.I.Hi else r8.I.Hi)⟩ : S.Inter), (⟨(bif b6 then r7.1.C.M else r8.C.M), (bif b6 then r7.1.C.R else r8.C.R)⟩ : S.Cong)⟩ : S.Value)
  let r10 : Bool := S.value_Value_IsBottom (⟨(⟨(bif b6 then r7.2.I.Lo else r2.I.Lo), (bif b6 then r7.2.I.Hi else r2.I.Hi)⟩ : S.Inter), (⟨(bif b6 then r7.2.C.M else r2.C.M), (bif b6 then r7.2.C.R else r2.C.R)⟩ : S.Cong)⟩ : S.Value)
  let p11 : Bool := (r9 || r10)
  (All [S.cond_plain_pre a, S.cond_plain_pre b, S.cond_Do_pre op r1 r2, S.cond_Only_pre r3 truth, S.value_Value_IsBottom_pre r4, (b6 = true → S.cond_lefts_pre op r1 r2 truth), S.value_Value_IsBottom_pre (⟨(⟨(bif b6 then r7.1.I.Lo else r8.I.Lo), (bif b6 then r7.1.I.Hi else r8.I.Hi)⟩ : S.Inter), (⟨(bif b6 then r7.1.C.M else r8.C.M), (bif b6 then r7.1.C.R else r8.C.R)⟩ : S.Cong)⟩ : S.Value), (r9 = false → S.value_Value_IsBottom_pre (⟨(⟨(bif b6 then r7.2.I.Lo else r2.I.Lo), (bif b6 then r7.2.I.Hi else r2.I.Hi)⟩ : S.Inter), (⟨(bif b6 then r7.2.C.M else r2.C.M), (bif b6 then r7.2.C.R else r2.C.R)⟩ : S.Cong)⟩ : S.Value))] ∧ ((p11 = true → True) ∧ (p11 = false → True)))
/-- sieveholesref19.Empty -/
def S.ref19_Empty (i : S.Inter) : Bool :=
  let b1 : Bool := decide (i.Lo > i.Hi)
  b1
/-- sieveholesref21.Bottom -/
def S.ref21_Bottom : S.Value :=
  (⟨(⟨1, 0⟩ : S.Inter), (⟨1, 0⟩ : S.Cong)⟩ : S.Value)
/-- sieveholesref19.Has -/
def S.ref19_Has (i : S.Inter) (n : Int) : Bool :=
  let b1 : Bool := decide (n ≥ i.Lo)
  let b2 : Bool := decide (n ≤ i.Hi)
  let p3 : Bool := (b1 && b2)
  p3
/-- sieveholesref20.Rest -/
def S.ref20_Rest (n : Int) (m : Int) : Int :=
  let b1 : Bool := decide (n ≥ 0)
  let t2 : Int := IntKind.u64.wrap n
  let t3 : Int := Int.tmod t2 m
  let t4 : Int := IntKind.u64.wrap (m - 1)
  let t5 : Int := IntKind.i64.wrap (n + 1)
  let t6 : Int := IntKind.i64.wrap (0 - t5)
  let t7 : Int := IntKind.u64.wrap t6
  let t8 : Int := Int.tmod t7 m
  let t9 : Int := IntKind.u64.wrap (t4 - t8)
  (bif b1 then t3 else t9)
def S.ref20_Rest_pre (n : Int) (m : Int) : Prop :=
  let b1 : Bool := decide (n ≥ 0)
  ((b1 = true → (All [m ≠ 0] ∧ True)) ∧ (b1 = false → (All [m ≠ 0] ∧ True)))
/-- sieveholesref20.Make -/
def S.ref20_Make (m : Int) (n : Int) : S.Cong :=
  let b1 : Bool := m == 0
  let t2 : Int := IntKind.u64.wrap n
  let r3 : Int := S.ref20_Rest n m
  (bif b1 then (⟨0, t2⟩ : S.Cong) else (⟨m, r3⟩ : S.Cong))
def S.ref20_Make_pre (m : Int) (n : Int) : Prop :=
  let b1 : Bool := m == 0
  ((b1 = true → True) ∧ (b1 = false → (All [S.ref20_Rest_pre n m] ∧ True)))
/-- sieveholesref21.One -/
def S.ref21_One (n : Int) : S.Value :=
  let r1 : S.Cong := S.ref20_Make 0 n
  (⟨(⟨n, n⟩ : S.Inter), r1⟩ : S.Value)
def S.ref21_One_pre (n : Int) : Prop :=
  (All [S.ref20_Make_pre 0 n] ∧ True)
/-- sieveholesref21.up -/
def S.ref21_up (c : S.Cong) (n : Int) : Int :=
  let r1 : Int := S.ref20_Rest n c.M
  let b2 : Bool := decide (r1 ≤ c.R)
  let t3 : Int := IntKind.u64.wrap (c.R - r1)
  let t4 : Int := IntKind.u64.wrap (r1 - c.R)
  let t5 : Int := IntKind.u64.wrap (c.M - t4)
  (bif b2 then t3 else t5)
def S.ref21_up_pre (c : S.Cong) (n : Int) : Prop :=
  let r1 : Int := S.ref20_Rest n c.M
  let b2 : Bool := decide (r1 ≤ c.R)
  (All [S.ref20_Rest_pre n c.M] ∧ ((b2 = true → True) ∧ (b2 = false → True)))
/-- sieveholesref21.down -/
def S.ref21_down (c : S.Cong) (n : Int) : Int :=
  let r1 : Int := S.ref20_Rest n c.M
  let b2 : Bool := decide (c.R ≤ r1)
  let t3 : Int := IntKind.u64.wrap (r1 - c.R)
  let t4 : Int := IntKind.u64.wrap (c.R - r1)
  let t5 : Int := IntKind.u64.wrap (c.M - t4)
  (bif b2 then t3 else t5)
def S.ref21_down_pre (c : S.Cong) (n : Int) : Prop :=
  let r1 : Int := S.ref20_Rest n c.M
  let b2 : Bool := decide (c.R ≤ r1)
  (All [S.ref20_Rest_pre n c.M] ∧ ((b2 = true → True) ∧ (b2 = false → True)))
/-- sieveholesref21.Make -/
def S.ref21_Make (i : S.Inter) (c : S.Cong) : S.Value :=
  let r1 : Bool := S.ref19_Empty i
  let r2 : S.Value := S.ref21_Bottom
  let b3 : Bool := c.M == 0
  let t4 : Int := IntKind.i64.wrap c.R
  let r5 : Bool := S.ref19_Has i t4
  let b6 : Bool := !r5
  let r7 : S.Value := S.ref21_Bottom
  let t8 : Int := IntKind.i64.wrap c.R
  let r9 : S.Value := S.ref21_One t8
  let t10 : Int := Int.tmod c.R c.M
  let r11 : Int := S.ref21_up (⟨c.M, t10⟩ : S.Cong) i.Lo
  let r12 : Int := S.ref21_down (⟨c.M, t10⟩ : S.Cong) i.Hi
  let t13 : Int := IntKind.u64.wrap i.Hi
  let t14 : Int := IntKind.u64.wrap i.Lo
  let t15 : Int := IntKind.u64.wrap (t13 - t14)
  let b16 : Bool := decide (r11 > t15)
  let b17 : Bool := decide (r12 > t15)
  let p18 : Bool := (b16 || b17)
  let t19 : Int := IntKind.u64.wrap (t15 - r12)
  let b20 : Bool := decide (r11 > t19)
  let p21 : Bool := (p18 || b20)
  let r22 : S.Value := S.ref21_Bottom
  let t23 : Int := IntKind.u64.wrap i.Lo
  let t24 : Int := IntKind.u64.wrap (t23 + r11)
  let t25 : Int := IntKind.i64.wrap t24
  let t26 : Int := IntKind.u64.wrap i.Hi
  let t27 : Int := IntKind.u64.wrap (t26 - r12)
  let t28 : Int := IntKind.i64.wrap t27
  let b29 : Bool := t25 == t28
  let r30 : S.Value := S.ref21_One t25
  (bif r1 then r2 else (bif b3 then (bif b6 then r7 else r9) else (bif p21 then r22 else (bif b29 then r30 else (⟨(⟨t25, t28⟩ : S.Inter), (⟨c.M, t10⟩ : S.Cong)⟩ : S.Value)))))
def S.ref21_Make_pre (i : S.Inter) (c : S.Cong) : Prop :=
  let r1 : Bool := S.ref19_Empty i
  let b3 : Bool := c.M == 0
  let t4 : Int := IntKind.i64.wrap c.R
  let r5 : Bool := S.ref19_Has i t4
  let b6 : Bool := !r5
  let t8 : Int := IntKind.i64.wrap c.R
  let t10 : Int := Int.tmod c.R c.M
  let r11 : Int := S.ref21_up (⟨c.M, t10⟩ : S.Cong) i.Lo
  let r12 : Int := S.ref21_down (⟨c.M, t10⟩ : S.Cong) i.Hi
  let t13 : Int := IntKind.u64.wrap i.Hi
  let t14 : Int := IntKind.u64.wrap i.Lo
  let t15 : Int := IntKind.u64.wrap (t13 - t14)
  let b16 : Bool := decide (r11 > t15)
  let b17 : Bool := decide (r12 > t15)
  let p18 : Bool := (b16 || b17)
  let t19 : Int := IntKind.u64.wrap (t15 - r12)
  let b20 : Bool := decide (r11 > t19)
  let p21 : Bool := (p18 || b20)
  let t23 : Int := IntKind.u64.wrap i.Lo
  let t24 : Int := IntKind.u64.wrap (t23 + r11)
  let t25 : Int := IntKind.i64.wrap t24
  let t26 : Int := IntKind.u64.wrap i.Hi
  let t27 : Int := IntKind.u64.wrap (t26 - r12)
  let t28 : Int := IntKind.i64.wrap t27
  let b29 : Bool := t25 == t28
  ((r1 = true → True) ∧ (r1 = false → ((b3 = true → ((b6 = true → True) ∧ (b6 = false → (All [S.ref21_One_pre t8] ∧ True)))) ∧ (b3 = false → (All [c.M ≠ 0, S.ref21_up_pre (⟨c.M, t10⟩ : S.Cong) i.Lo, S.ref21_down_pre (⟨c.M, t10⟩ : S.Cong) i.Hi] ∧ ((p21 = true → True) ∧ (p21 = false → ((b29 = true → (All [S.ref21_One_pre t25] ∧ True)) ∧ (b29 = false → True)))))))))
/-- sieveholesref21.Plain -/
def S.ref21_Plain (v : S.Value) : S.Value :=
  let r1 : S.Value := S.ref21_Make v.I v.C
  r1
def S.ref21_Plain_pre (v : S.Value) : Prop :=
  (All [S.ref21_Make_pre v.I v.C] ∧ True)
/-- sieveholesref20.Has -/
def S.ref20_Has (c : S.Cong) (n : Int) : Bool :=
  let b1 : Bool := c.M == 0
  let t2 : Int := IntKind.u64.wrap n
  let b3 : Bool := t2 == c.R
  let r4 : Int := S.ref20_Rest n c.M
  let b5 : Bool := r4 == c.R
  (bif b1 then b3 else b5)
def S.ref20_Has_pre (c : S.Cong) (n : Int) : Prop :=
  let b1 : Bool := c.M == 0
  ((b1 = true → True) ∧ (b1 = false → (All [S.ref20_Rest_pre n c.M] ∧ True)))
/-- sieveholesref21.Has -/
def S.ref21_Has (v : S.Value) (n : Int) : Bool :=
  let b1 : Bool := decide (v.C.M > 0)
  let t2 : Int := Int.tmod v.C.R v.C.M
  let r3 : Bool := S.ref19_Has v.I n
  let r4 : Bool := S.ref20_Has (⟨v.C.M, (bif b1 then t2 else v.C.R)⟩ : S.Cong) n
  let p5 : Bool := (r3 && r4)
  p5
def S.ref21_Has_pre (v : S.Value) (n : Int) : Prop :=
  let b1 : Bool := decide (v.C.M > 0)
  let t2 : Int := Int.tmod v.C.R v.C.M
  let r3 : Bool := S.ref19_Has v.I n
  (All [(b1 = true → v.C.M ≠ 0), (r3 = true → S.ref20_Has_pre (⟨v.C.M, (bif b1 then t2 else v.C.R)⟩ : S.Cong) n)] ∧ True)
/-- sieveholesref24.Truth -/
def S.ref24_Truth (v : S.Value) : Bool × Bool :=
  let r1 : S.Value := S.ref21_Bottom
  let b2 : Bool := ((v.I.Lo == r1.I.Lo) && ((v.I.Hi == r1.I.Hi) && ((v.C.M == r1.C.M) && (v.C.R == r1.C.R))))
  let r3 : S.Value := S.ref21_One 0
  let b4 : Bool := !((v.I.Lo == r3.I.Lo) && ((v.I.Hi == r3.I.Hi) && ((v.C.M == r3.C.M) && (v.C.R == r3.C.R))))
  let r5 : Bool := S.ref21_Has v 0
  (bif b2 then (false, false) else (b4, r5))
def S.ref24_Truth_pre (v : S.Value) : Prop :=
  let r1 : S.Value := S.ref21_Bottom
  let b2 : Bool := ((v.I.Lo == r1.I.Lo) && ((v.I.Hi == r1.I.Hi) && ((v.C.M == r1.C.M) && (v.C.R == r1.C.R))))
  ((b2 = true → True) ∧ (b2 = false → (All [S.ref21_One_pre 0, S.ref21_Has_pre v 0] ∧ True)))
/-- sieveholesref20.Gcd -/
def S.ref20_Gcd_F : Nat → Int → Int → Int
  | 0, _, _ => 0
  | n + 1, a, b =>
  let b1 : Bool := b == 0
  let t2 : Int := Int.tmod a b
  let r3 : Int := S.ref20_Gcd_F n b t2
  (bif b1 then a else r3)
def S.ref20_Gcd_D : Nat → Int → Int → Prop
  | 0, _, _ => False
  | n + 1, a, b =>
  let b1 : Bool := b == 0
  let t2 : Int := Int.tmod a b
  ((b1 = true → True) ∧ (b1 = false → (All [b ≠ 0, S.ref20_Gcd_D n b t2] ∧ True)))
noncomputable def S.ref20_Gcd (a : Int) (b : Int) : Int := S.ref20_Gcd_F (Classical.epsilon fun n => S.ref20_Gcd_D n a b) a b
def S.ref20_Gcd_pre (a : Int) (b : Int) : Prop := ∃ n, S.ref20_Gcd_D n a b
/-- sieveholesref20.Of -/
def S.ref20_Of (c : S.Cong) (g : Int) : Int :=
  let b1 : Bool := c.M == 0
  let t2 : Int := IntKind.i64.wrap c.R
  let r3 : Int := S.ref20_Rest t2 g
  let t4 : Int := Int.tmod c.R g
  (bif b1 then r3 else t4)
def S.ref20_Of_pre (c : S.Cong) (g : Int) : Prop :=
  let b1 : Bool := c.M == 0
  let t2 : Int := IntKind.i64.wrap c.R
  ((b1 = true → (All [S.ref20_Rest_pre t2 g] ∧ True)) ∧ (b1 = false → (All [g ≠ 0] ∧ True)))
/-- sieveholesref20.Within -/
def S.ref20_Within (a : S.Cong) (b : S.Cong) : Bool :=
  let b1 : Bool := b.M == 0
  let b2 : Bool := ((a.M == b.M) && (a.R == b.R))
  let t3 : Int := Int.tmod a.M b.M
  let b4 : Bool := t3 == 0
  let r5 : Int := S.ref20_Of a b.M
  let b6 : Bool := r5 == b.R
  let p7 : Bool := (b4 && b6)
  (bif b1 then b2 else p7)
def S.ref20_Within_pre (a : S.Cong) (b : S.Cong) : Prop :=
  let b1 : Bool := b.M == 0
  let t3 : Int := Int.tmod a.M b.M
  let b4 : Bool := t3 == 0
  ((b1 = true → True) ∧ (b1 = false → (All [b.M ≠ 0, (b4 = true → S.ref20_Of_pre a b.M)] ∧ True)))
/-- sieveholesref20.Meet -/
noncomputable def S.ref20_Meet (a : S.Cong) (b : S.Cong) : S.Cong × Bool :=
  let b1 : Bool := a.M == 0
  let b2 : Bool := b.M == 0
  let p3 : Bool := (b1 || b2)
  let b4 : Bool := decide (a.M > 0)
  let t5 : Int := IntKind.i64.wrap (bif b4 then b.R else a.R)
  let r6 : Bool := S.ref20_Has (⟨(bif b4 then a.M else b.M), (bif b4 then a.R else b.R)⟩ : S.Cong) t5
  let b7 : Bool := !r6
  let r8 : Int := S.ref20_Gcd a.M b.M
  let r9 : Int := S.ref20_Of a r8
  let r10 : Int := S.ref20_Of b r8
  let b11 : Bool := r9 != r10
  let r12 : Bool := S.ref20_Within a b
  let b13 : Bool := !r12
  let r14 : Bool := S.ref20_Within b a
  let b15 : Bool := decide (b.M > a.M)
  let p16 : Bool := (r14 || b15)
  let p17 : Bool := (b13 && p16)
  (bif p3 then (bif b7 then ((⟨0, 0⟩ : S.Cong), false) else ((⟨(bif b4 then b.M else a.M), (bif b4 then b.R else a.R)⟩ : S.Cong), true)) else (bif b11 then ((⟨0, 0⟩ : S.Cong), false) else (bif p17 then (b, true) else (a, true))))
def S.ref20_Meet_pre (a : S.Cong) (b : S.Cong) : Prop :=
  let b1 : Bool := a.M == 0
  let b2 : Bool := b.M == 0
  let p3 : Bool := (b1 || b2)
  let b4 : Bool := decide (a.M > 0)
  let t5 : Int := IntKind.i64.wrap (bif b4 then b.R else a.R)
  let r6 : Bool := S.ref20_Has (⟨(bif b4 then a.M else b.M), (bif b4 then a.R else b.R)⟩ : S.Cong) t5
  let b7 : Bool := !r6
  let r8 : Int := S.ref20_Gcd a.M b.M
  let r9 : Int := S.ref20_Of a r8
  let r10 : Int := S.ref20_Of b r8
  let b11 : Bool := r9 != r10
  let r12 : Bool := S.ref20_Within a b
  let b13 : Bool := !r12
  let r14 : Bool := S.ref20_Within b a
  let b15 : Bool := decide (b.M > a.M)
  let p16 : Bool := (r14 || b15)
  let p17 : Bool := (b13 && p16)
  ((p3 = true → (All [S.ref20_Has_pre (⟨(bif b4 then a.M else b.M), (bif b4 then a.R else b.R)⟩ : S.Cong) t5] ∧ ((b7 = true → True) ∧ (b7 = false → True)))) ∧ (p3 = false → (All [S.ref20_Gcd_pre a.M b.M, S.ref20_Of_pre a r8, S.ref20_Of_pre b r8] ∧ ((b11 = true → True) ∧ (b11 = false → (All [S.ref20_Within_pre a b, (b13 = true → S.ref20_Within_pre b a)] ∧ ((p17 = true → True) ∧ (p17 = false → True))))))))
/-- sieveholesref19.Plain -/
def S.ref19_Plain (i : S.Inter) : S.Inter :=
  let b1 : Bool := decide (i.Lo > i.Hi)
  (bif b1 then (⟨1, 0⟩ : S.Inter) else i)
/-- sieveholesref19.Meet -/
def S.ref19_Meet (a : S.Inter) (b : S.Inter) : S.Inter :=
  let m1 : Int := if b.Lo > a.Lo then b.Lo else a.Lo
  let m2 : Int := if b.Hi < a.Hi then b.Hi else a.Hi
  let r3 : S.Inter := S.ref19_Plain (⟨m1, m2⟩ : S.Inter)
  r3
/-- sieveholesref24.within -/
def S.ref24_within (v : S.Value) (i : S.Inter) (c : S.Cong) : S.Value :=
  let r1 : Bool := S.ref20_Within c v.C
  let r2 : S.Value := S.ref21_Make i c
  let r3 : S.Value := S.ref21_Make i v.C
  (bif r1 then r2 else r3)
def S.ref24_within_pre (v : S.Value) (i : S.Inter) (c : S.Cong) : Prop :=
  let r1 : Bool := S.ref20_Within c v.C
  (All [S.ref20_Within_pre c v.C] ∧ ((r1 = true → (All [S.ref21_Make_pre i c] ∧ True)) ∧ (r1 = false → (All [S.ref21_Make_pre i v.C] ∧ True))))
/-- sieveholesref24.alike -/
noncomputable def S.ref24_alike (a : S.Value) (b : S.Value) : S.Value × S.Value :=
  let r1 : S.Cong × Bool := S.ref20_Meet a.C b.C
  let b2 : Bool := !r1.2
  let r3 : S.Value := S.ref21_Bottom
  let r4 : S.Value := S.ref21_Bottom
  let r5 : S.Inter := S.ref19_Meet a.I b.I
  let r6 : S.Value := S.ref24_within a r5 b.C
  let r7 : S.Value := S.ref24_within b r5 a.C
  (bif b2 then (r3, r4) else (r6, r7))
def S.ref24_alike_pre (a : S.Value) (b : S.Value) : Prop :=
  let r1 : S.Cong × Bool := S.ref20_Meet a.C b.C
  let b2 : Bool := !r1.2
  let r5 : S.Inter := S.ref19_Meet a.I b.I
  (All [S.ref20_Meet_pre a.C b.C] ∧ ((b2 = true → True) ∧ (b2 = false → (All [S.ref24_within_pre a r5 b.C, S.ref24_within_pre b r5 a.C] ∧ True))))
/-- sieveholesref24.tells -/
noncomputable def S.ref24_tells_F : Nat → Int → S.Value → S.Value → Bool × Bool
  | 0, _, _, _ => (false, false)
  | n + 1, op, a, b =>
  let r1 : Bool × Bool := S.ref24_Truth a
  let r2 : Bool × Bool := S.ref24_Truth b
  let b3 : Bool := op == 0
  let p4 : Bool := (r1.1 || r2.1)
  let p5 : Bool := (r1.2 && r2.2)
  let b6 : Bool := op == 1
  let p7 : Bool := (r1.1 && r2.1)
  let p8 : Bool := (r1.2 || r2.2)
  let b9 : Bool := op == 2
  let r10 : S.Value × S.Value := S.ref24_alike a b
  let r11 : S.Value := S.ref21_Bottom
  let b12 : Bool := !((r10.1.I.Lo == r11.I.Lo) && ((r10.1.I.Hi == r11.I.Hi) && ((r10.1.C.M == r11.C.M) && (r10.1.C.R == r11.C.R))))
  let r13 : S.Value := S.ref21_Bottom
  let b14 : Bool := !((r10.2.I.Lo == r13.I.Lo) && ((r10.2.I.Hi == r13.I.Hi) && ((r10.2.C.M == r13.C.M) && (r10.2.C.R == r13.C.R))))
  let p15 : Bool := (b12 && b14)
  let b16 : Bool := !((a.I.Lo == b.I.Lo) && ((a.I.Hi == b.I.Hi) && ((a.C.M == b.C.M) && (a.C.R == b.C.R))))
  let b17 : Bool := a.I.Lo != a.I.Hi
  let p18 : Bool := (b16 || b17)
  let b19 : Bool := op == 3
  let r20 : Bool × Bool := S.ref24_tells_F n 2 a b
  let b21 : Bool := op == 4
  let b22 : Bool := decide (a.I.Lo < b.I.Hi)
  let b23 : Bool := decide (a.I.Hi ≥ b.I.Lo)
  let b24 : Bool := op == 5
  let b25 : Bool := decide (a.I.Lo ≤ b.I.Hi)
  let b26 : Bool := decide (a.I.Hi > b.I.Lo)
  let t27 : Int := IntKind.i64.wrap (op - 2)
  let r28 : Bool × Bool := S.ref24_tells_F n t27 b a
  (bif b3 then (p4, p5) else (bif b6 then (p7, p8) else (bif b9 then (p15, p18) else (bif b19 then (r20.2, r20.1) else (bif b21 then (b22, b23) else (bif b24 then (b25, b26) else (r28.1, r28.2)))))))
def S.ref24_tells_D : Nat → Int → S.Value → S.Value → Prop
  | 0, _, _, _ => False
  | n + 1, op, a, b =>
  let b3 : Bool := op == 0
  let b6 : Bool := op == 1
  let b9 : Bool := op == 2
  let b19 : Bool := op == 3
  let b21 : Bool := op == 4
  let b24 : Bool := op == 5
  let t27 : Int := IntKind.i64.wrap (op - 2)
  (All [S.ref24_Truth_pre a, S.ref24_Truth_pre b] ∧ ((b3 = true → True) ∧ (b3 = false → ((b6 = true → True) ∧ (b6 = false → ((b9 = true → (All [S.ref24_alike_pre a b] ∧ True)) ∧ (b9 = false → ((b19 = true → (All [S.ref24_tells_D n 2 a b] ∧ True)) ∧ (b19 = false → ((b21 = true → True) ∧ (b21 = false → ((b24 = true → True) ∧ (b24 = false → (All [S.ref24_tells_D n t27 b a] ∧ True))))))))))))))
noncomputable def S.ref24_tells (op : Int) (a : S.Value) (b : S.Value) : Bool × Bool := S.ref24_tells_F (Classical.epsilon fun n => S.ref24_tells_D n op a b) op a b
def S.ref24_tells_pre (op : Int) (a : S.Value) (b : S.Value) : Prop := ∃ n, S.ref24_tells_D n op a b
/-- sieveholesref24.most -/
def S.ref24_most : Int :=
  9223372036854775807
/-- sieveholesref24.from -/
def S.ref24_from (v : S.Value) (n : Int) : S.Value :=
  let r1 : Int := S.ref24_most
  let r2 : S.Inter := S.ref19_Meet v.I (⟨n, r1⟩ : S.Inter)
  let r3 : S.Value := S.ref21_Make r2 v.C
  r3
def S.ref24_from_pre (v : S.Value) (n : Int) : Prop :=
  let r1 : Int := S.ref24_most
  let r2 : S.Inter := S.ref19_Meet v.I (⟨n, r1⟩ : S.Inter)
  (All [S.ref21_Make_pre r2 v.C] ∧ True)
/-- sieveholesref24.above -/
def S.ref24_above (v : S.Value) (n : Int) : S.Value :=
  let r1 : Int := S.ref24_most
  let b2 : Bool := n == r1
  let r3 : S.Value := S.ref21_Bottom
  let t4 : Int := IntKind.i64.wrap (n + 1)
  let r5 : S.Value := S.ref24_from v t4
  (bif b2 then r3 else r5)
def S.ref24_above_pre (v : S.Value) (n : Int) : Prop :=
  let r1 : Int := S.ref24_most
  let b2 : Bool := n == r1
  let t4 : Int := IntKind.i64.wrap (n + 1)
  ((b2 = true → True) ∧ (b2 = false → (All [S.ref24_from_pre v t4] ∧ True)))
/-- sieveholesref24.least -/
def S.ref24_least : Int :=
  (-9223372036854775808)
/-- sieveholesref24.upto -/
def S.ref24_upto (v : S.Value) (n : Int) : S.Value :=
  let r1 : Int := S.ref24_least
  let r2 : S.Inter := S.ref19_Meet v.I (⟨r1, n⟩ : S.Inter)
  let r3 : S.Value := S.ref21_Make r2 v.C
  r3
def S.ref24_upto_pre (v : S.Value) (n : Int) : Prop :=
  let r1 : Int := S.ref24_least
  let r2 : S.Inter := S.ref19_Meet v.I (⟨r1, n⟩ : S.Inter)
  (All [S.ref21_Make_pre r2 v.C] ∧ True)
/-- sieveholesref24.below -/
def S.ref24_below (v : S.Value) (n : Int) : S.Value :=
  let r1 : Int := S.ref24_least
  let b2 : Bool := n == r1
  let r3 : S.Value := S.ref21_Bottom
  let t4 : Int := IntKind.i64.wrap (n - 1)
  let r5 : S.Value := S.ref24_upto v t4
  (bif b2 then r3 else r5)
def S.ref24_below_pre (v : S.Value) (n : Int) : Prop :=
  let r1 : Int := S.ref24_least
  let b2 : Bool := n == r1
  let t4 : Int := IntKind.i64.wrap (n - 1)
  ((b2 = true → True) ∧ (b2 = false → (All [S.ref24_upto_pre v t4] ∧ True)))
/-- sieveholesref24.Without -/
def S.ref24_Without (v : S.Value) (n : Int) : S.Value :=
  let r1 : S.Value := S.ref21_Plain v
  let r2 : S.Value := S.ref21_Bottom
  let b3 : Bool := ((r1.I.Lo == r2.I.Lo) && ((r1.I.Hi == r2.I.Hi) && ((r1.C.M == r2.C.M) && (r1.C.R == r2.C.R))))
  let b4 : Bool := n == r1.I.Lo
  let r5 : S.Value := S.ref24_above r1 n
  let b6 : Bool := n == r1.I.Hi
  let r7 : S.Value := S.ref24_below r1 n
  (bif b3 then r1 else (bif b4 then r5 else (bif b6 then r7 else r1)))
def S.ref24_Without_pre (v : S.Value) (n : Int) : Prop :=
  let r1 : S.Value := S.ref21_Plain v
  let r2 : S.Value := S.ref21_Bottom
  let b3 : Bool := ((r1.I.Lo == r2.I.Lo) && ((r1.I.Hi == r2.I.Hi) && ((r1.C.M == r2.C.M) && (r1.C.R == r2.C.R))))
  let b4 : Bool := n == r1.I.Lo
  let b6 : Bool := n == r1.I.Hi
  (All [S.ref21_Plain_pre v] ∧ ((b3 = true → True) ∧ (b3 = false → ((b4 = true → (All [S.ref24_above_pre r1 n] ∧ True)) ∧ (b4 = false → ((b6 = true → (All [S.ref24_below_pre r1 n] ∧ True)) ∧ (b6 = false → True)))))))
/-- sieveholesref21.Meet -/
noncomputable def S.ref21_Meet (a : S.Value) (b : S.Value) : S.Value :=
  let r1 : S.Cong × Bool := S.ref20_Meet a.C b.C
  let b2 : Bool := !r1.2
  let r3 : S.Value := S.ref21_Bottom
  let r4 : S.Inter := S.ref19_Meet a.I b.I
  let r5 : S.Value := S.ref21_Make r4 r1.1
  (bif b2 then r3 else r5)
def S.ref21_Meet_pre (a : S.Value) (b : S.Value) : Prop :=
  let r1 : S.Cong × Bool := S.ref20_Meet a.C b.C
  let b2 : Bool := !r1.2
  let r4 : S.Inter := S.ref19_Meet a.I b.I
  (All [S.ref20_Meet_pre a.C b.C] ∧ ((b2 = true → True) ∧ (b2 = false → (All [S.ref21_Make_pre r4 r1.1] ∧ True))))
/-- sieveholesref24.Only -/
noncomputable def S.ref24_Only (v : S.Value) (truth : Bool) : S.Value :=
  let r1 : S.Value := S.ref24_Without v 0
  let r2 : S.Value := S.ref21_Plain v
  let r3 : S.Value := S.ref21_One 0
  let r4 : S.Value := S.ref21_Meet r2 r3
  (bif truth then r1 else r4)
def S.ref24_Only_pre (v : S.Value) (truth : Bool) : Prop :=
  let r2 : S.Value := S.ref21_Plain v
  let r3 : S.Value := S.ref21_One 0
  ((truth = true → (All [S.ref24_Without_pre v 0] ∧ True)) ∧ (truth = false → (All [S.ref21_Plain_pre v, S.ref21_One_pre 0, S.ref21_Meet_pre r2 r3] ∧ True)))
/-- sieveholesref24.left -/
noncomputable def S.ref24_left_F : Nat → Int → S.Value → S.Value → S.Value × S.Value
  | 0, _, _, _ => ((⟨(⟨0, 0⟩ : S.Inter), (⟨0, 0⟩ : S.Cong)⟩ : S.Value), (⟨(⟨0, 0⟩ : S.Inter), (⟨0, 0⟩ : S.Cong)⟩ : S.Value))
  | n + 1, op, a, b =>
  let b1 : Bool := op == 1
  let r2 : S.Value := S.ref24_Only a true
  let r3 : S.Value := S.ref24_Only b true
  let b4 : Bool := op == 2
  let r5 : S.Value × S.Value := S.ref24_alike a b
  let b6 : Bool := op == 3
  let b7 : Bool := b.I.Lo == b.I.Hi
  let r8 : S.Value := S.ref24_Without a b.I.Lo
  let b9 : Bool := a.I.Lo == a.I.Hi
  let r10 : S.Value := S.ref24_Without b a.I.Lo
  let b11 : Bool := op == 4
  let r12 : S.Value := S.ref24_below a b.I.Hi
  let r13 : S.Value := S.ref24_above b a.I.Lo
  let b14 : Bool := op == 5
  let r15 : S.Value := S.ref24_upto a b.I.Hi
  let r16 : S.Value := S.ref24_from b a.I.Lo
  let b17 : Bool := op == 6
  let b18 : Bool := op == 7
  let t19 : Int := IntKind.i64.wrap (op - 2)
  let r20 : S.Value × S.Value := S.ref24_left_F n t19 b a
  (bif b1 then (r2, r3) else (bif b4 then (r5.1, r5.2) else (bif b6 then ((⟨(⟨(bif b7 then r8.I.Lo else a.I.Lo), (bif b7 then r8.I.Hi else a.I.Hi)⟩ : S.Inter), (⟨(bif b7 then r8.C.M else a.C.M), (bif b7 then r8.C.R else a.C.R)⟩ : S.Cong)⟩ : S.Value), (⟨(⟨(bif b9 then r10.I.Lo else b.I.Lo), (bif b9 then r10.I.Hi else b.I.Hi)⟩ : S.Inter), (⟨(bif b9 then r10.C.M else b.C.M), (bif b9 then r10.C.R else b.C.R)⟩ : S.Cong)⟩ : S.Value)) else (bif b11 then (r12, r13) else (bif b14 then (r15, r16) else (bif (bif b17 then b17 else b18) then (r20.2, r20.1) else (a, b)))))))
def S.ref24_left_D : Nat → Int → S.Value → S.Value → Prop
  | 0, _, _, _ => False
  | n + 1, op, a, b =>
  let b1 : Bool := op == 1
  let b4 : Bool := op == 2
  let b6 : Bool := op == 3
  let b7 : Bool := b.I.Lo == b.I.Hi
  let b9 : Bool := a.I.Lo == a.I.Hi
  let b11 : Bool := op == 4
  let b14 : Bool := op == 5
  let b17 : Bool := op == 6
  let b18 : Bool := op == 7
  let t19 : Int := IntKind.i64.wrap (op - 2)
  ((b1 = true → (All [S.ref24_Only_pre a true, S.ref24_Only_pre b true] ∧ True)) ∧ (b1 = false → ((b4 = true → (All [S.ref24_alike_pre a b] ∧ True)) ∧ (b4 = false → ((b6 = true → (All [(b7 = true → S.ref24_Without_pre a b.I.Lo), (b9 = true → S.ref24_Without_pre b a.I.Lo)] ∧ True)) ∧ (b6 = false → ((b11 = true → (All [S.ref24_below_pre a b.I.Hi, S.ref24_above_pre b a.I.Lo] ∧ True)) ∧ (b11 = false → ((b14 = true → (All [S.ref24_upto_pre a b.I.Hi, S.ref24_from_pre b a.I.Lo] ∧ True)) ∧ (b14 = false → (((bif b17 then b17 else b18) = true → (All [S.ref24_left_D n t19 b a] ∧ True)) ∧ ((bif b17 then b17 else b18) = false → True))))))))))))
noncomputable def S.ref24_left (op : Int) (a : S.Value) (b : S.Value) : S.Value × S.Value := S.ref24_left_F (Classical.epsilon fun n => S.ref24_left_D n op a b) op a b
def S.ref24_left_pre (op : Int) (a : S.Value) (b : S.Value) : Prop := ∃ n, S.ref24_left_D n op a b
/-- sieveholesref24.Refine -/
noncomputable def S.ref24_Refine (op : Int) (a : S.Value) (b : S.Value) (truth : Bool) : S.Value × S.Value :=
  let r1 : S.Value := S.ref21_Plain a
  let r2 : S.Value := S.ref21_Plain b
  let r3 : S.Value := S.ref21_Bottom
  let b4 : Bool := !((r1.I.Lo == r3.I.Lo) && ((r1.I.Hi == r3.I.Hi) && ((r1.C.M == r3.C.M) && (r1.C.R == r3.C.R))))
  let r5 : S.Value := S.ref21_Bottom
  let b6 : Bool := !((r2.I.Lo == r5.I.Lo) && ((r2.I.Hi == r5.I.Hi) && ((r2.C.M == r5.C.M) && (r2.C.R == r5.C.R))))
  let p7 : Bool := (b4 && b6)
  let b8 : Bool := decide (op ≥ 0)
  let b9 : Bool := decide (op ≤ 7)
  let p10 : Bool := (b8 && b9)
  let r11 : Bool × Bool := S.ref24_tells op r1 r2
  let b12 : Bool := !(bif p10 then r11.1 else true)
  let p13 : Bool := (truth && b12)
  let b14 : Bool := !truth
  let b15 : Bool := !(bif p10 then r11.2 else true)
  let p16 : Bool := (b14 && b15)
  let p17 : Bool := (p13 || p16)
  let r18 : S.Value := S.ref21_Bottom
  let r19 : S.Value := S.ref21_Bottom
  let r20 : S.Value × S.Value := S.ref24_left op r1 r2
  let b21 : Bool := op == 0
  let r22 : S.Value := S.ref24_Only r1 false
  let r23 : S.Value := S.ref24_Only r2 false
  let b24 : Bool := decide (op ≥ 2)
  let b25 : Bool := decide (op ≤ 7)
  let p26 : Bool := (b24 && b25)
  let e27 : Int := ([0, 0, 3, 2, 7, 6, 5, 4] : List Int).getD (Int.toNat op) 0
  let r28 : S.Value × S.Value := S.ref24_left e27 r1 r2
  let r29 : S.Value := S.ref21_Bottom
  let b30 : Bool := (((bif truth then r20.1.I.Lo else (bif b21 then r22.I.Lo else (bif p26 then r28.1.I.Lo else r1.I.Lo))) == r29.I.Lo) && (((bif truth then r20.1.I.Hi else (bif b21 then r22.I.Hi else (bif p26 then r28.1.I.Hi else r1.I.Hi))) == r29.I.Hi) && (((bif truth then r20.1.C.M else (bif b21 then r22.C.M else (bif p26 then r28.1.C.M else r1.C.M))) == r29.C.M) && ((bif truth then r20.1.C.R else (bif b21 then r22.C.R else (bif p26 then r28.1.C.R else r1.C.R))) == r29.C.R))))
  let r31 : S.Value := S.ref21_Bottom
  let b32 : Bool := (((bif truth then r20.2.I.Lo else (bif b21 then r23.I.Lo else (bif p26 then r28.2.I.Lo else r2.I.Lo))) == r31.I.Lo) && (((bif truth then r20.2.I.Hi else (bif b21 then r23.I.Hi else (bif p26 then r28.2.I.Hi else r2.I.Hi))) == r31.I.Hi) && (((bif truth then r20.2.C.M else (bif b21 then r23.C.M else (bif p26 then r28.2.C.M else r2.C.M))) == r31.C.M) && ((bif truth then r20.2.C.R else (bif b21 then r23.C.R else (bif p26 then r28.2.C.R else r2.C.R))) == r31.C.R))))
  let p33 : Bool := (b30 || b32)
  let r34 : S.Value := S.ref21_Bottom
  let r35 : S.Value := S.ref21_Bottom
  let r36 : S.Value := S.ref21_Bottom
  let b37 : Bool := ((r1.I.Lo == r36.I.Lo) && ((r1.I.Hi == r36.I.Hi) && ((r1.C.M == r36.C.M) && (r1.C.R == r36.C.R))))
  let r38 : S.Value := S.ref21_Bottom
  let b39 : Bool := ((r2.I.Lo == r38.I.Lo) && ((r2.I.Hi == r38.I.Hi) && ((r2.C.M == r38.C.M) && (r2.C.R == r38.C.R))))
  let p40 : Bool := (b37 || b39)
  let r41 : S.Value := S.ref21_Bottom
  let r42 : S.Value := S.ref21_Bottom
  (bif p7 then (bif p17 then (r18, r19) else (bif p33 then (r34, r35) else ((⟨(⟨(bif truth then r20.1.I.Lo else (bif b21 then r22.I.Lo else (bif p26 then r28.1.I.Lo else r1.I.Lo))), (bif truth then r20.1.I.Hi else (bif b21 then r22.I.Hi else (bif p26 then r28.1.I.Hi else r1.I.Hi)))⟩ : S.Inter), (⟨(bif truth then r20.1.C.M else (bif b21 then r22.C.M else (bif p26 then r28.1.C.M else r1.C.M))), (bif truth then r20.1.C.R else (bif b21 then r22.C.R else (bif p26 then r28.1.C.R else r1.C.R)))⟩ : S.Cong)⟩ : S.Value), (⟨(⟨(bif truth then r20.2.I.Lo else (bif b21 then r23.I.Lo else (bif p26 then r28.2.I.Lo else r2.I.Lo))), (bif truth then r20.2.I.Hi else (bif b21 then r23.I.Hi else (bif p26 then r28.2.I.Hi else r2.I.Hi)))⟩ : S.Inter), (⟨(bif truth then r20.2.C.M else (bif b21 then r23.C.M else (bif p26 then r28.2.C.M else r2.C.M))), (bif truth then r20.2.C.R else (bif b21 then r23.C.R else (bif p26 then r28.2.C.R else r2.C.R)))⟩ : S.Cong)⟩ : S.Value)))) else (bif p40 then (r41, r42) else (r1, r2)))
def S.ref24_Refine_pre (op : Int) (a : S.Value) (b : S.Value) (truth : Bool) : Prop :=
  let r1 : S.Value := S.ref21_Plain a
  let r2 : S.Value := S.ref21_Plain b
  let r3 : S.Value := S.ref21_Bottom
  let b4 : Bool := !((r1.I.Lo == r3.I.Lo) && ((r1.I.Hi == r3.I.Hi) && ((r1.C.M == r3.C.M) && (r1.C.R == r3.C.R))))
  let r5 : S.Value := S.ref21_Bottom
  let b6 : Bool := !((r2.I.Lo == r5.I.Lo) && ((r2.I.Hi == r5.I.Hi) && ((r2.C.M == r5.C.M) && (r2.C.R == r5.C.R))))
  let p7 : Bool := (b4 && b6)
  let b8 : Bool := decide (op ≥ 0)
  let b9 : Bool := decide (op ≤ 7)
  let p10 : Bool := (b8 && b9)
  let r11 : Bool × Bool := S.ref24_tells op r1 r2
  let b12 : Bool := !(bif p10 then r11.1 else true)
  let p13 : Bool := (truth && b12)
  let b14 : Bool := !truth
  let b15 : Bool := !(bif p10 then r11.2 else true)
  let p16 : Bool := (b14 && b15)
  let p17 : Bool := (p13 || p16)
  let r20 : S.Value × S.Value := S.ref24_left op r1 r2
  let b21 : Bool := op == 0
  let r22 : S.Value := S.ref24_Only r1 false
  let r23 : S.Value := S.ref24_Only r2 false
  let b24 : Bool := decide (op ≥ 2)
  let b25 : Bool := decide (op ≤ 7)
  let p26 : Bool := (b24 && b25)
  let e27 : Int := ([0, 0, 3, 2, 7, 6, 5, 4] : List Int).getD (Int.toNat op) 0
  let r28 : S.Value × S.Value := S.ref24_left e27 r1 r2
  let r29 : S.Value := S.ref21_Bottom
  let b30 : Bool := (((bif truth then r20.1.I.Lo else (bif b21 then r22.I.Lo else (bif p26 then r28.1.I.Lo else r1.I.Lo))) == r29.I.Lo) && (((bif truth then r20.1.I.Hi else (bif b21 then r22.I.Hi else (bif p26 then r28.1.I.Hi else r1.I.Hi))) == r29.I.Hi) && (((bif truth then r20.1.C.M else (bif b21 then r22.C.M else (bif p26 then r28.1.C.M else r1.C.M))) == r29.C.M) && ((bif truth then r20.1.C.R else (bif b21 then r22.C.R else (bif p26 then r28.1.C.R else r1.C.R))) == r29.C.R))))
  let r31 : S.Value := S.ref21_Bottom
  let b32 : Bool := (((bif truth then r20.2.I.Lo else (bif b21 then r23.I.Lo else (bif p26 then r28.2.I.Lo else r2.I.Lo))) == r31.I.Lo) && (((bif truth then r20.2.I.Hi else (bif b21 then r23.I.Hi else (bif p26 then r28.2.I.Hi else r2.I.Hi))) == r31.I.Hi) && (((bif truth then r20.2.C.M else (bif b21 then r23.C.M else (bif p26 then r28.2.C.M else r2.C.M))) == r31.C.M) && ((bif truth then r20.2.C.R else (bif b21 then r23.C.R else (bif p26 then r28.2.C.R else r2.C.R))) == r31.C.R))))
  let p33 : Bool := (b30 || b32)
  let r36 : S.Value := S.ref21_Bottom
  let b37 : Bool := ((r1.I.Lo == r36.I.Lo) && ((r1.I.Hi == r36.I.Hi) && ((r1.C.M == r36.C.M) && (r1.C.R == r36.C.R))))
  let r38 : S.Value := S.ref21_Bottom
  let b39 : Bool := ((r2.I.Lo == r38.I.Lo) && ((r2.I.Hi == r38.I.Hi) && ((r2.C.M == r38.C.M) && (r2.C.R == r38.C.R))))
  let p40 : Bool := (b37 || b39)
  (All [S.ref21_Plain_pre a, S.ref21_Plain_pre b] ∧ ((p7 = true → (All [(p10 = true → S.ref24_tells_pre op r1 r2)] ∧ ((p17 = true → True) ∧ (p17 = false → (All [(truth = true → S.ref24_left_pre op r1 r2), (truth = false → ((b21 = true → (S.ref24_Only_pre r1 false ∧ S.ref24_Only_pre r2 false)) ∧ (b21 = false → (p26 = true → ((0 : Int) ≤ op ∧ op < (([0, 0, 3, 2, 7, 6, 5, 4] : List Int).length : Int) ∧ S.ref24_left_pre e27 r1 r2)))))] ∧ ((p33 = true → True) ∧ (p33 = false → True))))))) ∧ (p7 = false → ((p40 = true → True) ∧ (p40 = false → True)))))
/-- sieveholesref19.Least -/
def S.ref19_Least : Int :=
  (-9223372036854775808)
/-- sieveholesref19.Most -/
def S.ref19_Most : Int :=
  9223372036854775807
/-- sieveholesref21.Top -/
def S.ref21_Top : S.Value :=
  let r1 : Int := S.ref19_Least
  let r2 : Int := S.ref19_Most
  (⟨(⟨r1, r2⟩ : S.Inter), (⟨1, 0⟩ : S.Cong)⟩ : S.Value)
/-- sieveholesref24.truth -/
def S.ref24_truth (yes : Bool) (no : Bool) : S.Value :=
  let p1 : Bool := (yes && no)
  let r2 : S.Value := S.ref21_Top
  let r3 : S.Value := S.ref21_Make (⟨0, 1⟩ : S.Inter) r2.C
  let r4 : S.Value := S.ref21_One 1
  let r5 : S.Value := S.ref21_One 0
  let r6 : S.Value := S.ref21_Bottom
  (bif p1 then r3 else (bif yes then r4 else (bif no then r5 else r6)))
def S.ref24_truth_pre (yes : Bool) (no : Bool) : Prop :=
  let p1 : Bool := (yes && no)
  let r2 : S.Value := S.ref21_Top
  ((p1 = true → (All [S.ref21_Make_pre (⟨0, 1⟩ : S.Inter) r2.C] ∧ True)) ∧ (p1 = false → ((yes = true → (All [S.ref21_One_pre 1] ∧ True)) ∧ (yes = false → ((no = true → (All [S.ref21_One_pre 0] ∧ True)) ∧ (no = false → True))))))
/-- sieveholesref24.Do -/
noncomputable def S.ref24_Do (op : Int) (a : S.Value) (b : S.Value) : S.Value :=
  let r1 : S.Value := S.ref21_Plain a
  let r2 : S.Value := S.ref21_Plain b
  let r3 : S.Value := S.ref21_Bottom
  let b4 : Bool := ((r1.I.Lo == r3.I.Lo) && ((r1.I.Hi == r3.I.Hi) && ((r1.C.M == r3.C.M) && (r1.C.R == r3.C.R))))
  let r5 : S.Value := S.ref21_Bottom
  let b6 : Bool := ((r2.I.Lo == r5.I.Lo) && ((r2.I.Hi == r5.I.Hi) && ((r2.C.M == r5.C.M) && (r2.C.R == r5.C.R))))
  let p7 : Bool := (b4 || b6)
  let r8 : S.Value := S.ref21_Bottom
  let b9 : Bool := decide (op < 0)
  let b10 : Bool := decide (op > 7)
  let p11 : Bool := (b9 || b10)
  let r12 : S.Value := S.ref21_Top
  let r13 : Bool × Bool := S.ref24_tells op r1 r2
  let r14 : S.Value := S.ref24_truth r13.1 r13.2
  (bif p7 then r8 else (bif p11 then r12 else r14))
def S.ref24_Do_pre (op : Int) (a : S.Value) (b : S.Value) : Prop :=
  let r1 : S.Value := S.ref21_Plain a
  let r2 : S.Value := S.ref21_Plain b
  let r3 : S.Value := S.ref21_Bottom
  let b4 : Bool := ((r1.I.Lo == r3.I.Lo) && ((r1.I.Hi == r3.I.Hi) && ((r1.C.M == r3.C.M) && (r1.C.R == r3.C.R))))
  let r5 : S.Value := S.ref21_Bottom
  let b6 : Bool := ((r2.I.Lo == r5.I.Lo) && ((r2.I.Hi == r5.I.Hi) && ((r2.C.M == r5.C.M) && (r2.C.R == r5.C.R))))
  let p7 : Bool := (b4 || b6)
  let b9 : Bool := decide (op < 0)
  let b10 : Bool := decide (op > 7)
  let p11 : Bool := (b9 || b10)
  let r13 : Bool × Bool := S.ref24_tells op r1 r2
  (All [S.ref21_Plain_pre a, S.ref21_Plain_pre b] ∧ ((p7 = true → True) ∧ (p7 = false → ((p11 = true → True) ∧ (p11 = false → (All [S.ref24_tells_pre op r1 r2, S.ref24_truth_pre r13.1 r13.2] ∧ True))))))
/-- math/bits.Len64 -/
def S.math_bits_Len64 (x : Int) : Int :=
  let b1 : Bool := decide (x ≥ 4294967296)
  let t2 : Int := Int.fdiv x (2 ^ min (Int.toNat 32) 64)
  let b3 : Bool := decide ((bif b1 then t2 else x) ≥ 65536)
  let t4 : Int := Int.fdiv (bif b1 then t2 else x) (2 ^ min (Int.toNat 16) 64)
  let t5 : Int := IntKind.i64.wrap ((bif b1 then 32 else 0) + 16)
  let b6 : Bool := decide ((bif b3 then t4 else (bif b1 then t2 else x)) ≥ 256)
  let t7 : Int := Int.fdiv (bif b3 then t4 else (bif b1 then t2 else x)) (2 ^ min (Int.toNat 8) 64)
  let t8 : Int := IntKind.i64.wrap ((bif b3 then t5 else (bif b1 then 32 else 0)) + 8)
  let t9 : Int := IntKind.u8.wrap (bif b6 then t7 else (bif b3 then t4 else (bif b1 then t2 else x)))
  let t10 : Int := (((⟨#[0, 1, 2, 2, 3, 3, 3, 3, 4, 4, 4, 4, 4, 4, 4, 4, 5, 5, 5, 5, 5, 5, 5, 5, 5, 5, 5, 5, 5, 5, 5, 5, 6, 6, 6, 6, 6, 6, 6, 6, 6, 6, 6, 6, 6, 6, 6, 6, 6, 6, 6, 6, 6, 6, 6, 6, 6, 6, 6, 6, 6, 6, 6, 6, 7, 7, 7, 7, 7, 7, 7, 7, 7, 7, 7, 7, 7, 7, 7, 7, 7, 7, 7, 7, 7, 7, 7, 7, 7, 7, 7, 7, 7, 7, 7, 7, 7, 7, 7, 7, 7, 7, 7, 7, 7, 7, 7, 7, 7, 7, 7, 7, 7, 7, 7, 7, 7, 7, 7, 7, 7, 7, 7, 7, 7, 7, 7, 7, 8, 8, 8, 8, 8, 8, 8, 8, 8, 8, 8, 8, 8, 8, 8, 8, 8, 8, 8, 8, 8, 8, 8, 8, 8, 8, 8, 8, 8, 8, 8, 8, 8, 8, 8, 8, 8, 8, 8, 8, 8, 8, 8, 8, 8, 8, 8, 8, 8, 8, 8, 8, 8, 8, 8, 8, 8, 8, 8, 8, 8, 8, 8, 8, 8, 8, 8, 8, 8, 8, 8, 8, 8, 8, 8, 8, 8, 8, 8, 8, 8, 8, 8, 8, 8, 8, 8, 8, 8, 8, 8, 8, 8, 8, 8, 8, 8, 8, 8, 8, 8, 8, 8, 8, 8, 8, 8, 8, 8, 8, 8, 8, 8, 8, 8, 8, 8, 8, 8, 8, 8, 8, 8, 8, 8, 8, 8, 8]⟩ : ByteArray).data.toList.getD (Int.toNat t9) 0).toNat : Int)
  let t11 : Int := IntKind.i64.wrap t10
  let t12 : Int := IntKind.i64.wrap ((bif b6 then t8 else (bif b3 then t5 else (bif b1 then 32 else 0))) + t11)
  t12
def S.math_bits_Len64_pre (x : Int) : Prop :=
  let b1 : Bool := decide (x ≥ 4294967296)
  let t2 : Int := Int.fdiv x (2 ^ min (Int.toNat 32) 64)
  let b3 : Bool := decide ((bif b1 then t2 else x) ≥ 65536)
  let t4 : Int := Int.fdiv (bif b1 then t2 else x) (2 ^ min (Int.toNat 16) 64)
  let b6 : Bool := decide ((bif b3 then t4 else (bif b1 then t2 else x)) ≥ 256)
  let t7 : Int := Int.fdiv (bif b3 then t4 else (bif b1 then t2 else x)) (2 ^ min (Int.toNat 8) 64)
  let t9 : Int := IntKind.u8.wrap (bif b6 then t7 else (bif b3 then t4 else (bif b1 then t2 else x)))
  (All [(0 : Int) ≤ t9, t9 < ((⟨#[0, 1, 2, 2, 3, 3, 3, 3, 4, 4, 4, 4, 4, 4, 4, 4, 5, 5, 5, 5, 5, 5, 5, 5, 5, 5, 5, 5, 5, 5, 5, 5, 6, 6, 6, 6, 6, 6, 6, 6, 6, 6, 6, 6, 6, 6, 6, 6, 6, 6, 6, 6, 6, 6, 6, 6, 6, 6, 6, 6, 6, 6, 6, 6, 7, 7, 7, 7, 7, 7, 7, 7, 7, 7, 7, 7, 7, 7, 7, 7, 7, 7, 7, 7, 7, 7, 7, 7, 7, 7, 7, 7, 7, 7, 7, 7, 7, 7, 7, 7, 7, 7, 7, 7, 7, 7, 7, 7, 7, 7, 7, 7, 7, 7, 7, 7, 7, 7, 7, 7, 7, 7, 7, 7, 7, 7, 7, 7, 8, 8, 8, 8, 8, 8, 8, 8, 8, 8, 8, 8, 8, 8, 8, 8, 8, 8, 8, 8, 8, 8, 8, 8, 8, 8, 8, 8, 8, 8, 8, 8, 8, 8, 8, 8, 8, 8, 8, 8, 8, 8, 8, 8, 8, 8, 8, 8, 8, 8, 8, 8, 8, 8, 8, 8, 8, 8, 8, 8, 8, 8, 8, 8, 8, 8, 8, 8, 8, 8, 8, 8, 8, 8, 8, 8, 8, 8, 8, 8, 8, 8, 8, 8, 8, 8, 8, 8, 8, 8, 8, 8, 8, 8, 8, 8, 8, 8, 8, 8, 8, 8, 8, 8, 8, 8, 8, 8, 8, 8, 8, 8, 8, 8, 8, 8, 8, 8, 8, 8, 8, 8, 8, 8, 8, 8, 8, 8]⟩ : ByteArray).size : Int)] ∧ True)
/-- internal/strconv.log10Pow2 -/
def S.internal_strconv_log10Pow2 (x : Int) : Int :=
  let t1 : Int := IntKind.i64.wrap (x * 78913)
  let t2 : Int := Int.fdiv t1 (2 ^ min (Int.toNat 18) 64)
  t2
/-- internal/strconv.bool2[int] -/
def S.internal_strconv_bool2int (b : Bool) : Int :=
  (bif b then 1 else 0)
/-- internal/strconv.isPowerOfTwo -/
def S.internal_strconv_isPowerOfTwo (x : Int) : Bool :=
  let t1 : Int := IntKind.i64.wrap (x - 1)
  let t2 : Int := bits .and .i64 x t1
  let b3 : Bool := t2 == 0
  b3
/-- strconv.FormatInt -/
def S.strconv_FormatInt (i : Int) (base : Int) : ByteArray :=
  let r1 : ByteArray := fmtI i base
  r1
def S.strconv_FormatInt_pre (i : Int) (base : Int) : Prop :=
  (All [fmtI_pre i base] ∧ True)
/-- strconv.FormatUint -/
def S.strconv_FormatUint (i : Int) (base : Int) : ByteArray :=
  let r1 : ByteArray := fmtU i base
  r1
def S.strconv_FormatUint_pre (i : Int) (base : Int) : Prop :=
  (All [fmtU_pre i base] ∧ True)
/-- (value.Value).Text -/
def S.value_Value_Text (v : S.Value) : ByteArray :=
  let r1 : S.Value := S.value_Value_reduced v
  let r2 : Bool := S.value_Value_IsBottom r1
  let r3 : Int × Bool := S.value_Value_Single r1
  let r4 : ByteArray := S.strconv_FormatInt r3.1 10
  let r5 : ByteArray := S.strconv_FormatInt r1.I.Lo 10
  let s6 : ByteArray := (⟨#[91]⟩ : ByteArray) ++ r5
  let s7 : ByteArray := s6 ++ (⟨#[44, 32]⟩ : ByteArray)
  let r8 : ByteArray := S.strconv_FormatInt r1.I.Hi 10
  let s9 : ByteArray := s7 ++ r8
  let s10 : ByteArray := s9 ++ (⟨#[93]⟩ : ByteArray)
  let b11 : Bool := decide (r1.C.M > 1)
  let r12 : ByteArray := S.strconv_FormatUint r1.C.R 10
  let s13 : ByteArray := (⟨#[32]⟩ : ByteArray) ++ r12
  let s14 : ByteArray := s13 ++ (⟨#[32, 109, 111, 100, 32]⟩ : ByteArray)
  let r15 : ByteArray := S.strconv_FormatUint r1.C.M 10
  let s16 : ByteArray := s14 ++ r15
  let s17 : ByteArray := s10 ++ s16
  (bif r2 then (⟨#[110, 111, 110, 101]⟩ : ByteArray) else (bif r3.2 then r4 else (bif b11 then s17 else s10)))
def S.value_Value_Text_pre (v : S.Value) : Prop :=
  let r1 : S.Value := S.value_Value_reduced v
  let r2 : Bool := S.value_Value_IsBottom r1
  let r3 : Int × Bool := S.value_Value_Single r1
  let r5 : ByteArray := S.strconv_FormatInt r1.I.Lo 10
  let s6 : ByteArray := (⟨#[91]⟩ : ByteArray) ++ r5
  let s7 : ByteArray := s6 ++ (⟨#[44, 32]⟩ : ByteArray)
  let r8 : ByteArray := S.strconv_FormatInt r1.I.Hi 10
  let s9 : ByteArray := s7 ++ r8
  let s10 : ByteArray := s9 ++ (⟨#[93]⟩ : ByteArray)
  let b11 : Bool := decide (r1.C.M > 1)
  let r12 : ByteArray := S.strconv_FormatUint r1.C.R 10
  let s13 : ByteArray := (⟨#[32]⟩ : ByteArray) ++ r12
  let s14 : ByteArray := s13 ++ (⟨#[32, 109, 111, 100, 32]⟩ : ByteArray)
  let r15 : ByteArray := S.strconv_FormatUint r1.C.M 10
  let s16 : ByteArray := s14 ++ r15
  (All [S.value_Value_reduced_pre v, S.value_Value_IsBottom_pre r1] ∧ ((r2 = true → True) ∧ (r2 = false → (All [S.value_Value_Single_pre r1] ∧ ((r3.2 = true → (All [S.strconv_FormatInt_pre r3.1 10] ∧ True)) ∧ (r3.2 = false → (All [S.strconv_FormatInt_pre r1.I.Lo 10, (((⟨#[91]⟩ : ByteArray).size + r5.size : Nat) : Int) ≤ IntKind.i64.max, ((s6.size + (⟨#[44, 32]⟩ : ByteArray).size : Nat) : Int) ≤ IntKind.i64.max, S.strconv_FormatInt_pre r1.I.Hi 10, ((s7.size + r8.size : Nat) : Int) ≤ IntKind.i64.max, ((s9.size + (⟨#[93]⟩ : ByteArray).size : Nat) : Int) ≤ IntKind.i64.max, (b11 = true → (S.strconv_FormatUint_pre r1.C.R 10 ∧ (((⟨#[32]⟩ : ByteArray).size + r12.size : Nat) : Int) ≤ IntKind.i64.max ∧ ((s13.size + (⟨#[32, 109, 111, 100, 32]⟩ : ByteArray).size : Nat) : Int) ≤ IntKind.i64.max ∧ S.strconv_FormatUint_pre r1.C.M 10 ∧ ((s14.size + r15.size : Nat) : Int) ≤ IntKind.i64.max ∧ ((s10.size + s16.size : Nat) : Int) ≤ IntKind.i64.max))] ∧ True)))))))
/-- sieveholeslaw24.works -/
noncomputable def S.law24_works : Bool :=
  let r1 : S.Value := S.value_Range 0 9
  let r2 : S.Value := S.value_Range 2 5
  let r3 : S.Value × S.Value := S.cond_Refine 4 r1 r2 true
  let r4 : S.Value := S.value_Range 0 9
  let r5 : S.Value := S.value_Range 2 5
  let r6 : S.Value × S.Value := S.cond_Refine 4 r4 r5 false
  let r7 : S.Value := S.value_Range 0 4
  let r8 : S.Value := S.value_One 4
  let r9 : S.Value × S.Value := S.cond_Refine 3 r7 r8 true
  let r10 : S.Inter := S.inter_Whole
  let r11 : S.Cong := S.cong_Make 2 1
  let r12 : S.Value := S.value_Make r10 r11
  let r13 : S.Inter := S.inter_Whole
  let r14 : S.Cong := S.cong_Make 2 0
  let r15 : S.Value := S.value_Make r13 r14
  let r16 : S.Value := S.value_Range 0 3
  let r17 : S.Value := S.value_Range 3 9
  let r18 : S.Value := S.cond_Do 4 r16 r17
  let r19 : ByteArray := S.value_Value_Text r18
  let b20 : Bool := (r19.toList == (⟨#[91, 48, 44, 32, 49, 93]⟩ : ByteArray).toList)
  let r21 : S.Value := S.cond_Do 2 r12 r15
  let r22 : ByteArray := S.value_Value_Text r21
  let b23 : Bool := (r22.toList == (⟨#[48]⟩ : ByteArray).toList)
  let p24 : Bool := (b20 && b23)
  let r25 : ByteArray := S.value_Value_Text r3.1
  let b26 : Bool := (r25.toList == (⟨#[91, 48, 44, 32, 52, 93]⟩ : ByteArray).toList)
  let p27 : Bool := (p24 && b26)
  let r28 : ByteArray := S.value_Value_Text r3.2
  let b29 : Bool := (r28.toList == (⟨#[91, 50, 44, 32, 53, 93]⟩ : ByteArray).toList)
  let p30 : Bool := (p27 && b29)
  let r31 : ByteArray := S.value_Value_Text r6.1
  let b32 : Bool := (r31.toList == (⟨#[91, 50, 44, 32, 57, 93]⟩ : ByteArray).toList)
  let p33 : Bool := (p30 && b32)
  let r34 : ByteArray := S.value_Value_Text r6.2
  let b35 : Bool := (r34.toList == (⟨#[91, 50, 44, 32, 53, 93]⟩ : ByteArray).toList)
  let p36 : Bool := (p33 && b35)
  let r37 : ByteArray := S.value_Value_Text r9.1
  let b38 : Bool := (r37.toList == (⟨#[91, 48, 44, 32, 51, 93]⟩ : ByteArray).toList)
  let p39 : Bool := (p36 && b38)
  let r40 : ByteArray := S.value_Value_Text r9.2
  let b41 : Bool := (r40.toList == (⟨#[52]⟩ : ByteArray).toList)
  let p42 : Bool := (p39 && b41)
  let r43 : S.Value := S.value_Range (-1) 3
  let r44 : S.Value := S.cond_Only r43 true
  let r45 : ByteArray := S.value_Value_Text r44
  let b46 : Bool := (r45.toList == (⟨#[91, 45, 49, 44, 32, 51, 93]⟩ : ByteArray).toList)
  let p47 : Bool := (p42 && b46)
  p47
def S.law24_works_pre : Prop :=
  let r1 : S.Value := S.value_Range 0 9
  let r2 : S.Value := S.value_Range 2 5
  let r3 : S.Value × S.Value := S.cond_Refine 4 r1 r2 true
  let r4 : S.Value := S.value_Range 0 9
  let r5 : S.Value := S.value_Range 2 5
  let r6 : S.Value × S.Value := S.cond_Refine 4 r4 r5 false
  let r7 : S.Value := S.value_Range 0 4
  let r8 : S.Value := S.value_One 4
  let r9 : S.Value × S.Value := S.cond_Refine 3 r7 r8 true
  let r10 : S.Inter := S.inter_Whole
  let r11 : S.Cong := S.cong_Make 2 1
  let r12 : S.Value := S.value_Make r10 r11
  let r13 : S.Inter := S.inter_Whole
  let r14 : S.Cong := S.cong_Make 2 0
  let r15 : S.Value := S.value_Make r13 r14
  let r16 : S.Value := S.value_Range 0 3
  let r17 : S.Value := S.value_Range 3 9
  let r18 : S.Value := S.cond_Do 4 r16 r17
  let r19 : ByteArray := S.value_Value_Text r18
  let b20 : Bool := (r19.toList == (⟨#[91, 48, 44, 32, 49, 93]⟩ : ByteArray).toList)
  let r21 : S.Value := S.cond_Do 2 r12 r15
  let r22 : ByteArray := S.value_Value_Text r21
  let b23 : Bool := (r22.toList == (⟨#[48]⟩ : ByteArray).toList)
  let p24 : Bool := (b20 && b23)
  let r25 : ByteArray := S.value_Value_Text r3.1
  let b26 : Bool := (r25.toList == (⟨#[91, 48, 44, 32, 52, 93]⟩ : ByteArray).toList)
  let p27 : Bool := (p24 && b26)
  let r28 : ByteArray := S.value_Value_Text r3.2
  let b29 : Bool := (r28.toList == (⟨#[91, 50, 44, 32, 53, 93]⟩ : ByteArray).toList)
  let p30 : Bool := (p27 && b29)
  let r31 : ByteArray := S.value_Value_Text r6.1
  let b32 : Bool := (r31.toList == (⟨#[91, 50, 44, 32, 57, 93]⟩ : ByteArray).toList)
  let p33 : Bool := (p30 && b32)
  let r34 : ByteArray := S.value_Value_Text r6.2
  let b35 : Bool := (r34.toList == (⟨#[91, 50, 44, 32, 53, 93]⟩ : ByteArray).toList)
  let p36 : Bool := (p33 && b35)
  let r37 : ByteArray := S.value_Value_Text r9.1
  let b38 : Bool := (r37.toList == (⟨#[91, 48, 44, 32, 51, 93]⟩ : ByteArray).toList)
  let p39 : Bool := (p36 && b38)
  let r40 : ByteArray := S.value_Value_Text r9.2
  let b41 : Bool := (r40.toList == (⟨#[52]⟩ : ByteArray).toList)
  let p42 : Bool := (p39 && b41)
  let r43 : S.Value := S.value_Range (-1) 3
  let r44 : S.Value := S.cond_Only r43 true
  (All [S.value_Range_pre 0 9, S.value_Range_pre 2 5, S.cond_Refine_pre 4 r1 r2 true, S.value_Range_pre 0 9, S.value_Range_pre 2 5, S.cond_Refine_pre 4 r4 r5 false, S.value_Range_pre 0 4, S.cond_Refine_pre 3 r7 r8 true, S.cong_Make_pre 2 1, S.value_Make_pre r10 r11, S.cong_Make_pre 2 0, S.value_Make_pre r13 r14, S.value_Range_pre 0 3, S.value_Range_pre 3 9, S.cond_Do_pre 4 r16 r17, S.value_Value_Text_pre r18, (b20 = true → S.cond_Do_pre 2 r12 r15), (b20 = true → S.value_Value_Text_pre r21), (p24 = true → S.value_Value_Text_pre r3.1), (p27 = true → S.value_Value_Text_pre r3.2), (p30 = true → S.value_Value_Text_pre r6.1), (p33 = true → S.value_Value_Text_pre r6.2), (p36 = true → S.value_Value_Text_pre r9.1), (p39 = true → S.value_Value_Text_pre r9.2), (p42 = true → S.value_Range_pre (-1) 3), (p42 = true → S.cond_Only_pre r43 true), (p42 = true → S.value_Value_Text_pre r44)] ∧ True)
/-- sieveholeslaw24.CondTells -/
noncomputable def S.law24_CondTells (op : Int) (a : S.Value) (b : S.Value) (truth : Bool) (n : Int) : Bool :=
  let r1 : S.Value := S.docs_Value a
  let r2 : S.Value := S.docs_Value b
  let r3 : S.Value × S.Value := S.cond_Refine op a b truth
  let r4 : S.Value × S.Value := S.ref24_Refine op r1 r2 truth
  let r5 : Bool × Bool := S.cond_Truth a
  let r6 : S.Value := S.ref21_Plain r1
  let r7 : Bool × Bool := S.ref24_Truth r6
  let r8 : S.Value := S.cond_Do op a b
  let r9 : S.Value := S.docs_Value r8
  let r10 : S.Value := S.ref24_Do op r1 r2
  let b11 : Bool := ((r9.I.Lo == r10.I.Lo) && ((r9.I.Hi == r10.I.Hi) && ((r9.C.M == r10.C.M) && (r9.C.R == r10.C.R))))
  let r12 : S.Value := S.docs_Value r3.1
  let b13 : Bool := ((r12.I.Lo == r4.1.I.Lo) && ((r12.I.Hi == r4.1.I.Hi) && ((r12.C.M == r4.1.C.M) && (r12.C.R == r4.1.C.R))))
  let p14 : Bool := (b11 && b13)
  let r15 : S.Value := S.docs_Value r3.2
  let b16 : Bool := ((r15.I.Lo == r4.2.I.Lo) && ((r15.I.Hi == r4.2.I.Hi) && ((r15.C.M == r4.2.C.M) && (r15.C.R == r4.2.C.R))))
  let p17 : Bool := (p14 && b16)
  let b18 : Bool := r5.1 == r7.1
  let p19 : Bool := (p17 && b18)
  let b20 : Bool := r5.2 == r7.2
  let p21 : Bool := (p19 && b20)
  let r22 : S.Value := S.cond_Without a n
  let r23 : S.Value := S.docs_Value r22
  let r24 : S.Value := S.ref24_Without r1 n
  let b25 : Bool := ((r23.I.Lo == r24.I.Lo) && ((r23.I.Hi == r24.I.Hi) && ((r23.C.M == r24.C.M) && (r23.C.R == r24.C.R))))
  let p26 : Bool := (p21 && b25)
  let r27 : S.Value := S.cond_Only a truth
  let r28 : S.Value := S.docs_Value r27
  let r29 : S.Value := S.ref24_Only r1 truth
  let b30 : Bool := ((r28.I.Lo == r29.I.Lo) && ((r28.I.Hi == r29.I.Hi) && ((r28.C.M == r29.C.M) && (r28.C.R == r29.C.R))))
  let p31 : Bool := (p26 && b30)
  let r32 : Bool := S.law24_works
  let p33 : Bool := (p31 && r32)
  p33
def S.law24_CondTells_pre (op : Int) (a : S.Value) (b : S.Value) (truth : Bool) (n : Int) : Prop :=
  let r1 : S.Value := S.docs_Value a
  let r2 : S.Value := S.docs_Value b
  let r3 : S.Value × S.Value := S.cond_Refine op a b truth
  let r4 : S.Value × S.Value := S.ref24_Refine op r1 r2 truth
  let r5 : Bool × Bool := S.cond_Truth a
  let r6 : S.Value := S.ref21_Plain r1
  let r7 : Bool × Bool := S.ref24_Truth r6
  let r8 : S.Value := S.cond_Do op a b
  let r9 : S.Value := S.docs_Value r8
  let r10 : S.Value := S.ref24_Do op r1 r2
  let b11 : Bool := ((r9.I.Lo == r10.I.Lo) && ((r9.I.Hi == r10.I.Hi) && ((r9.C.M == r10.C.M) && (r9.C.R == r10.C.R))))
  let r12 : S.Value := S.docs_Value r3.1
  let b13 : Bool := ((r12.I.Lo == r4.1.I.Lo) && ((r12.I.Hi == r4.1.I.Hi) && ((r12.C.M == r4.1.C.M) && (r12.C.R == r4.1.C.R))))
  let p14 : Bool := (b11 && b13)
  let r15 : S.Value := S.docs_Value r3.2
  let b16 : Bool := ((r15.I.Lo == r4.2.I.Lo) && ((r15.I.Hi == r4.2.I.Hi) && ((r15.C.M == r4.2.C.M) && (r15.C.R == r4.2.C.R))))
  let p17 : Bool := (p14 && b16)
  let b18 : Bool := r5.1 == r7.1
  let p19 : Bool := (p17 && b18)
  let b20 : Bool := r5.2 == r7.2
  let p21 : Bool := (p19 && b20)
  let r22 : S.Value := S.cond_Without a n
  let r23 : S.Value := S.docs_Value r22
  let r24 : S.Value := S.ref24_Without r1 n
  let b25 : Bool := ((r23.I.Lo == r24.I.Lo) && ((r23.I.Hi == r24.I.Hi) && ((r23.C.M == r24.C.M) && (r23.C.R == r24.C.R))))
  let p26 : Bool := (p21 && b25)
  let r27 : S.Value := S.cond_Only a truth
  let r28 : S.Value := S.docs_Value r27
  let r29 : S.Value := S.ref24_Only r1 truth
  let b30 : Bool := ((r28.I.Lo == r29.I.Lo) && ((r28.I.Hi == r29.I.Hi) && ((r28.C.M == r29.C.M) && (r28.C.R == r29.C.R))))
  let p31 : Bool := (p26 && b30)
  (All [S.cond_Refine_pre op a b truth, S.ref24_Refine_pre op r1 r2 truth, S.cond_Truth_pre a, S.ref21_Plain_pre r1, S.ref24_Truth_pre r6, S.cond_Do_pre op a b, S.ref24_Do_pre op r1 r2, (p21 = true → S.cond_Without_pre a n), (p21 = true → S.ref24_Without_pre r1 n), (p26 = true → S.cond_Only_pre a truth), (p26 = true → S.ref24_Only_pre r1 truth), (p31 = true → S.law24_works_pre)] ∧ True)
/-- sieveholeslaw24.near -/
def S.law24_near (v : S.Value) (n : Int) : Int × Bool :=
  let r1 : S.Value := S.value_Make v.I v.C
  let r2 : Bool := S.value_Value_IsBottom r1
  let m3 : Int := if r1.I.Lo > n then r1.I.Lo else n
  let m4 : Int := if r1.I.Hi < m3 then r1.I.Hi else m3
  let r5 : Int × Bool := S.cong_Cong_Least r1.C m4
  let b6 : Bool := !r5.2
  let b7 : Bool := decide (r5.1 > r1.I.Hi)
  let p8 : Bool := (b6 || b7)
  let r9 : Bool := S.value_Value_Has r1 (bif p8 then r1.I.Lo else r5.1)
  let r10 : Bool := S.value_Value_Has v (bif p8 then r1.I.Lo else r5.1)
  let p11 : Bool := (r9 && r10)
  (bif r2 then (0, false) else ((bif p8 then r1.I.Lo else r5.1), p11))
def S.law24_near_pre (v : S.Value) (n : Int) : Prop :=
  let r1 : S.Value := S.value_Make v.I v.C
  let r2 : Bool := S.value_Value_IsBottom r1
  let m3 : Int := if r1.I.Lo > n then r1.I.Lo else n
  let m4 : Int := if r1.I.Hi < m3 then r1.I.Hi else m3
  let r5 : Int × Bool := S.cong_Cong_Least r1.C m4
  let b6 : Bool := !r5.2
  let b7 : Bool := decide (r5.1 > r1.I.Hi)
  let p8 : Bool := (b6 || b7)
  let r9 : Bool := S.value_Value_Has r1 (bif p8 then r1.I.Lo else r5.1)
  (All [S.value_Make_pre v.I v.C, S.value_Value_IsBottom_pre r1] ∧ ((r2 = true → True) ∧ (r2 = false → (All [S.cong_Cong_Least_pre r1.C m4, S.value_Value_Has_pre r1 (bif p8 then r1.I.Lo else r5.1), (r9 = true → S.value_Value_Has_pre v (bif p8 then r1.I.Lo else r5.1))] ∧ True))))
/-- cmp.isNaN[int64] -/
def S.cmp_isNaNint64 (x : Int) : Bool :=
  let b1 : Bool := x != x
  b1
/-- cmp.Compare[int64] -/
def S.cmp_Compareint64 (x : Int) (y : Int) : Int :=
  let r1 : Bool := S.cmp_isNaNint64 x
  let r2 : Bool := S.cmp_isNaNint64 y
  let b3 : Bool := decide (x < y)
  let b4 : Bool := decide (x > y)
  (bif r1 then (bif r2 then 0 else (-1)) else (bif r2 then 1 else (bif b3 then (-1) else (bif b4 then 1 else 0))))
/-- word.compares -/
def S.word_compares (op : Int) (a : Int) (b : Int) : Bool × Bool :=
  let r1 : Int := S.cmp_Compareint64 a b
  let b2 : Bool := op == 3
  let b3 : Bool := op == 2
  let b4 : Bool := op == 7
  let b5 : Bool := op == 4
  let b6 : Bool := op == 5
  let b7 : Bool := op == 6
  let b8 : Bool := r1 == 0
  let b9 : Bool := !(b8 == true)
  let b10 : Bool := r1 == 0
  let b11 : Bool := !(b10 == false)
  let b12 : Bool := decide (r1 < 0)
  let b13 : Bool := !(b12 == true)
  let b14 : Bool := decide (r1 < 0)
  let b15 : Bool := !(b14 == false)
  let b16 : Bool := decide (r1 > 0)
  let b17 : Bool := !(b16 == true)
  let b18 : Bool := decide (r1 > 0)
  let b19 : Bool := !(b18 == false)
  (bif b2 then (b9, true) else (bif b3 then (b11, true) else (bif b4 then (b13, true) else (bif b5 then (b15, true) else (bif b6 then (b17, true) else (bif b7 then (b19, true) else (false, false)))))))
/-- word.Bit -/
def S.word_Bit (x : Bool) : Int :=
  (bif x then 1 else 0)
/-- word.Truth -/
def S.word_Truth (n : Int) : Bool :=
  let b1 : Bool := n != 0
  b1
/-- word.reckons$1 -/
def S.word_reckons_1 (a : Int) (b : Int) : Int :=
  let r1 : Bool := S.word_Truth a
  let r2 : Bool := S.word_Truth b
  let p3 : Bool := (r1 || r2)
  let r4 : Int := S.word_Bit p3
  r4
/-- word.reckons$2 -/
def S.word_reckons_2 (a : Int) (b : Int) : Int :=
  let r1 : Bool := S.word_Truth a
  let r2 : Bool := S.word_Truth b
  let p3 : Bool := (r1 && r2)
  let r4 : Int := S.word_Bit p3
  r4
/-- word.reckons$3 -/
def S.word_reckons_3 (a : Int) (b : Int) : Int :=
  let t1 : Int := bits .or .i64 a b
  t1
/-- word.reckons$4 -/
def S.word_reckons_4 (a : Int) (b : Int) : Int :=
  let t1 : Int := bits .xor .i64 a b
  t1
/-- word.reckons$5 -/
def S.word_reckons_5 (a : Int) (b : Int) : Int :=
  let t1 : Int := bits .and .i64 a b
  t1
/-- word.Shift -/
def S.word_Shift (b : Int) : Int :=
  let t1 : Int := bits .and .i64 b 63
  let t2 : Int := IntKind.u64.wrap t1
  t2
/-- word.reckons$6 -/
def S.word_reckons_6 (a : Int) (b : Int) : Int :=
  let r1 : Int := S.word_Shift b
  let t2 : Int := IntKind.i64.wrap (a * 2 ^ min (Int.toNat r1) 64)
  t2
def S.word_reckons_6_pre (a : Int) (b : Int) : Prop :=
  let r1 : Int := S.word_Shift b
  (All [(0 : Int) ≤ r1] ∧ True)
/-- word.reckons$7 -/
def S.word_reckons_7 (a : Int) (b : Int) : Int :=
  let r1 : Int := S.word_Shift b
  let t2 : Int := Int.fdiv a (2 ^ min (Int.toNat r1) 64)
  t2
def S.word_reckons_7_pre (a : Int) (b : Int) : Prop :=
  let r1 : Int := S.word_Shift b
  (All [(0 : Int) ≤ r1] ∧ True)
/-- word.reckons$8 -/
def S.word_reckons_8 (a : Int) (b : Int) : Int :=
  let t1 : Int := IntKind.i64.wrap (a + b)
  t1
/-- word.reckons$9 -/
def S.word_reckons_9 (a : Int) (b : Int) : Int :=
  let t1 : Int := IntKind.i64.wrap (a - b)
  t1
/-- word.reckons$10 -/
def S.word_reckons_10 (a : Int) (b : Int) : Int :=
  let t1 : Int := IntKind.i64.wrap (a * b)
  t1
/-- word.reckons$11 -/
def S.word_reckons_11 (a : Int) (b : Int) : Int :=
  let t1 : Int := IntKind.i64.wrap (Int.tdiv a b)
  t1
def S.word_reckons_11_pre (a : Int) (b : Int) : Prop :=
  (All [b ≠ 0] ∧ True)
/-- word.reckons$12 -/
def S.word_reckons_12 (a : Int) (b : Int) : Int :=
  let t1 : Int := Int.tmod a b
  t1
def S.word_reckons_12_pre (a : Int) (b : Int) : Prop :=
  (All [b ≠ 0] ∧ True)
/-- word.reckons -/
def S.word_reckons : (List (Int × Go.Value)) :=
  ([(0, .func (.func 159) #[] #[]), (1, .func (.func 161) #[] #[]), (8, .func (.func 162) #[] #[]), (9, .func (.func 163) #[] #[]), (10, .func (.func 164) #[] #[]), (11, .func (.func 165) #[] #[]), (12, .func (.func 167) #[] #[]), (13, .func (.func 168) #[] #[]), (14, .func (.func 169) #[] #[]), (15, .func (.func 170) #[] #[]), (16, .func (.func 171) #[] #[]), (17, .func (.func 172) #[] #[])] : List (Int × Go.Value))
/-- word.Traps -/
def S.word_Traps (op : Int) : Bool :=
  let b1 : Bool := op == 16
  let b2 : Bool := op == 17
  let p3 : Bool := (b1 || b2)
  p3
/-- word.Do -/
def S.word_Do (op : Int) (a : Int) (b : Int) : Int × Bool :=
  let r1 : Bool × Bool := S.word_compares op a b
  let r2 : Int := S.word_Bit r1.1
  let b4 : Bool := op == 0
  let b5 : Bool := op == 1
  let b6 : Bool := op == 8
  let b7 : Bool := op == 9
  let b8 : Bool := op == 10
  let b9 : Bool := op == 11
  let b10 : Bool := op == 12
  let b11 : Bool := op == 13
  let b12 : Bool := op == 14
  let b13 : Bool := op == 15
  let b14 : Bool := op == 16
  let b15 : Bool := op == 17
  let b16 : Bool := b4 || (b5 || (b6 || (b7 || (b8 || (b9 || (b10 || (b11 || (b12 || (b13 || (b14 || (b15 || (false))))))))))))
  let b17 : Bool := !b16
  let r18 : Bool := S.word_Traps op
  let b19 : Bool := b == 0
  let p20 : Bool := (r18 && b19)
  let p21 : Bool := (b17 || p20)
  let r22 : Int := S.word_reckons_1 a b
  let r23 : Int := S.word_reckons_2 a b
  let r24 : Int := S.word_reckons_3 a b
  let r25 : Int := S.word_reckons_4 a b
  let r26 : Int := S.word_reckons_5 a b
  let r27 : Int := S.word_reckons_6 a b
  let r28 : Int := S.word_reckons_7 a b
  let r29 : Int := S.word_reckons_8 a b
  let r30 : Int := S.word_reckons_9 a b
  let r31 : Int := S.word_reckons_10 a b
  let r32 : Int := S.word_reckons_11 a b
  let r33 : Int := S.word_reckons_12 a b
  let m34 : Int := (bif b14 then r32 else r33)
  let m35 : Int := (bif b13 then r31 else m34)
  let m36 : Int := (bif b12 then r30 else m35)
  let m37 : Int := (bif b11 then r29 else m36)
  let m38 : Int := (bif b10 then r28 else m37)
  let m39 : Int := (bif b9 then r27 else m38)
  let m40 : Int := (bif b8 then r26 else m39)
  let m41 : Int := (bif b7 then r25 else m40)
  let m42 : Int := (bif b6 then r24 else m41)
  let m43 : Int := (bif b5 then r23 else m42)
  let m44 : Int := (bif b4 then r22 else m43)
  (bif r1.2 then (r2, true) else (bif p21 then (0, false) else (m44, true)))
def S.word_Do_pre (op : Int) (a : Int) (b : Int) : Prop :=
  let r1 : Bool × Bool := S.word_compares op a b
  let b4 : Bool := op == 0
  let b5 : Bool := op == 1
  let b6 : Bool := op == 8
  let b7 : Bool := op == 9
  let b8 : Bool := op == 10
  let b9 : Bool := op == 11
  let b10 : Bool := op == 12
  let b11 : Bool := op == 13
  let b12 : Bool := op == 14
  let b13 : Bool := op == 15
  let b14 : Bool := op == 16
  let b15 : Bool := op == 17
  let b16 : Bool := b4 || (b5 || (b6 || (b7 || (b8 || (b9 || (b10 || (b11 || (b12 || (b13 || (b14 || (b15 || (false))))))))))))
  let b17 : Bool := !b16
  let r18 : Bool := S.word_Traps op
  let b19 : Bool := b == 0
  let p20 : Bool := (r18 && b19)
  let p21 : Bool := (b17 || p20)
  ((r1.2 = true → True) ∧ (r1.2 = false → ((p21 = true → True) ∧ (p21 = false → (All [((b4 = true → True) ∧ (b4 = false → ((b5 = true → True) ∧ (b5 = false → ((b6 = true → True) ∧ (b6 = false → ((b7 = true → True) ∧ (b7 = false → ((b8 = true → True) ∧ (b8 = false → ((b9 = true → S.word_reckons_6_pre a b) ∧ (b9 = false → ((b10 = true → S.word_reckons_7_pre a b) ∧ (b10 = false → ((b11 = true → True) ∧ (b11 = false → ((b12 = true → True) ∧ (b12 = false → ((b13 = true → True) ∧ (b13 = false → ((b14 = true → S.word_reckons_11_pre a b) ∧ (b14 = false → (b15 = true ∧ S.word_reckons_12_pre a b)))))))))))))))))))))))] ∧ True)))))
/-- sieveholeslaw24.CondSound -/
noncomputable def S.law24_CondSound (op : Int) (a : S.Value) (b : S.Value) (n : Int) (m : Int) : Bool :=
  let r1 : Int × Bool := S.law24_near a n
  let r2 : Int × Bool := S.law24_near b m
  let b3 : Bool := !r1.2
  let b4 : Bool := !r2.2
  let p5 : Bool := (b3 || b4)
  let r6 : S.Value := S.value_Make a.I a.C
  let r7 : Bool := S.value_Value_IsBottom r6
  let r8 : S.Value := S.value_Make b.I b.C
  let r9 : Bool := S.value_Value_IsBottom r8
  let p10 : Bool := (r7 || r9)
  let r11 : Bool := S.law24_works
  let p12 : Bool := (p10 && r11)
  let t13 : Int := Int.tmod op 8
  let t14 : Int := IntKind.i64.wrap (t13 + 8)
  let t15 : Int := Int.tmod t14 8
  let r16 : Int × Bool := S.word_Do t15 r1.1 r2.1
  let b17 : Bool := !r16.2
  let r18 : S.Value := S.cond_Do t15 a b
  let r19 : Bool := S.value_Value_Has r18 r16.1
  let b20 : Bool := !r19
  let p21 : Bool := (b17 || b20)
  let b22 : Bool := r16.1 != 0
  let r23 : S.Value × S.Value := S.cond_Refine t15 a b b22
  let r24 : Bool × Bool := S.cond_Truth a
  let r25 : Bool := S.value_Value_Has r23.1 r1.1
  let b26 : Bool := !r25
  let r27 : Bool := S.value_Value_Has r23.2 r2.1
  let b28 : Bool := !r27
  let p29 : Bool := (b26 || b28)
  let b30 : Bool := r1.1 != 0
  let b31 : Bool := !r24.1
  let p32 : Bool := (b30 && b31)
  let p33 : Bool := (p29 || p32)
  let b34 : Bool := r1.1 == 0
  let b35 : Bool := !r24.2
  let p36 : Bool := (b34 && b35)
  let p37 : Bool := (p33 || p36)
  let b38 : Bool := r1.1 != 0
  let r39 : S.Value := S.cond_Only a b38
  let r40 : Bool := S.value_Value_Has r39 r1.1
  let b41 : Bool := !r40
  let p42 : Bool := (p37 || b41)
  let r43 : S.Value := S.cond_Without a r2.1
  let b44 : Bool := r1.1 == r2.1
  let r45 : Bool := S.value_Value_Has r43 r1.1
  let p46 : Bool := (b44 || r45)
  let r47 : Bool := S.value_Within r43 a
  let p48 : Bool := (p46 && r47)
  let r49 : Bool := S.law24_works
  let p50 : Bool := (p48 && r49)
  (bif p5 then p12 else (bif p21 then false else (bif p42 then false else p50)))
def S.law24_CondSound_pre (op : Int) (a : S.Value) (b : S.Value) (n : Int) (m : Int) : Prop :=
  let r1 : Int × Bool := S.law24_near a n
  let r2 : Int × Bool := S.law24_near b m
  let b3 : Bool := !r1.2
  let b4 : Bool := !r2.2
  let p5 : Bool := (b3 || b4)
  let r6 : S.Value := S.value_Make a.I a.C
  let r7 : Bool := S.value_Value_IsBottom r6
  let r8 : S.Value := S.value_Make b.I b.C
  let r9 : Bool := S.value_Value_IsBottom r8
  let p10 : Bool := (r7 || r9)
  let t13 : Int := Int.tmod op 8
  let t14 : Int := IntKind.i64.wrap (t13 + 8)
  let t15 : Int := Int.tmod t14 8
  let r16 : Int × Bool := S.word_Do t15 r1.1 r2.1
  let b17 : Bool := !r16.2
  let r18 : S.Value := S.cond_Do t15 a b
  let r19 : Bool := S.value_Value_Has r18 r16.1
  let b20 : Bool := !r19
  let p21 : Bool := (b17 || b20)
  let b22 : Bool := r16.1 != 0
  let r23 : S.Value × S.Value := S.cond_Refine t15 a b b22
  let r24 : Bool × Bool := S.cond_Truth a
  let r25 : Bool := S.value_Value_Has r23.1 r1.1
  let b26 : Bool := !r25
  let r27 : Bool := S.value_Value_Has r23.2 r2.1
  let b28 : Bool := !r27
  let p29 : Bool := (b26 || b28)
  let b30 : Bool := r1.1 != 0
  let b31 : Bool := !r24.1
  let p32 : Bool := (b30 && b31)
  let p33 : Bool := (p29 || p32)
  let b34 : Bool := r1.1 == 0
  let b35 : Bool := !r24.2
  let p36 : Bool := (b34 && b35)
  let p37 : Bool := (p33 || p36)
  let b38 : Bool := r1.1 != 0
  let r39 : S.Value := S.cond_Only a b38
  let r40 : Bool := S.value_Value_Has r39 r1.1
  let b41 : Bool := !r40
  let p42 : Bool := (p37 || b41)
  let r43 : S.Value := S.cond_Without a r2.1
  let b44 : Bool := r1.1 == r2.1
  let r45 : Bool := S.value_Value_Has r43 r1.1
  let p46 : Bool := (b44 || r45)
  let r47 : Bool := S.value_Within r43 a
  let p48 : Bool := (p46 && r47)
  (All [S.law24_near_pre a n, S.law24_near_pre b m] ∧ ((p5 = true → (All [S.value_Make_pre a.I a.C, S.value_Value_IsBottom_pre r6, (r7 = false → S.value_Make_pre b.I b.C), (r7 = false → S.value_Value_IsBottom_pre r8), (p10 = true → S.law24_works_pre)] ∧ True)) ∧ (p5 = false → (All [S.word_Do_pre t15 r1.1 r2.1, (b17 = false → S.cond_Do_pre t15 a b), (b17 = false → S.value_Value_Has_pre r18 r16.1)] ∧ ((p21 = true → True) ∧ (p21 = false → (All [S.cond_Refine_pre t15 a b b22, S.cond_Truth_pre a, S.value_Value_Has_pre r23.1 r1.1, (b26 = false → S.value_Value_Has_pre r23.2 r2.1), (p37 = false → S.cond_Only_pre a b38), (p37 = false → S.value_Value_Has_pre r39 r1.1)] ∧ ((p42 = true → True) ∧ (p42 = false → (All [S.cond_Without_pre a r2.1, (b44 = false → S.value_Value_Has_pre r43 r1.1), (p46 = true → S.value_Within_pre r43 a), (p48 = true → S.law24_works_pre)] ∧ True))))))))))
@[ext] structure S.law24_comes_L0 where
  o : Int
  n : Int
  t8 : Bool
  l : (List Int)
  r : (List Int)
  i : Int
  a : S.Value
  b : S.Value
def S.law24_comes_L0_step (x : S.law24_comes_L0) : S.law24_comes_L0 ⊕ (Bool × S.law24_comes_L0) :=
  let b1 : Bool := decide (x.i < 16)
  let t2 : Int := IntKind.i64.wrap (Int.tdiv x.i 4)
  let e3 : Int := x.l.getD (Int.toNat t2) 0
  let t4 : Int := Int.tmod x.i 4
  let e5 : Int := x.r.getD (Int.toNat t4) 0
  let r6 : Int × Bool := S.word_Do x.o e3 e5
  let b7 : Bool := r6.1 == x.n
  let p8 : Bool := (r6.2 && b7)
  let r9 : Bool := S.value_Value_Has x.a e3
  let p10 : Bool := (p8 && r9)
  let r11 : Bool := S.value_Value_Has x.b e5
  let p12 : Bool := (p10 && r11)
  let t13 : Int := IntKind.i64.wrap (x.i + 1)
  (bif b1 then (bif p12 then (.inr ⟨true, ⟨x.o, x.n, true, x.l, x.r, x.i, x.a, x.b⟩⟩) else (.inl ⟨x.o, x.n, x.t8, x.l, x.r, t13, x.a, x.b⟩)) else (.inr ⟨false, ⟨x.o, x.n, x.t8, x.l, x.r, x.i, x.a, x.b⟩⟩))
def S.law24_comes_L0_vcs (x : S.law24_comes_L0) : Prop :=
  let b1 : Bool := decide (x.i < 16)
  let t2 : Int := IntKind.i64.wrap (Int.tdiv x.i 4)
  let e3 : Int := x.l.getD (Int.toNat t2) 0
  let t4 : Int := Int.tmod x.i 4
  let e5 : Int := x.r.getD (Int.toNat t4) 0
  let r6 : Int × Bool := S.word_Do x.o e3 e5
  let b7 : Bool := r6.1 == x.n
  let p8 : Bool := (r6.2 && b7)
  let r9 : Bool := S.value_Value_Has x.a e3
  let p10 : Bool := (p8 && r9)
  let r11 : Bool := S.value_Value_Has x.b e5
  let p12 : Bool := (p10 && r11)
  ((b1 = true → (All [(0 : Int) ≤ t2, t2 < (x.l.length : Int), (0 : Int) ≤ t4, t4 < (x.r.length : Int), S.word_Do_pre x.o e3 e5, (p8 = true → S.value_Value_Has_pre x.a e3), (p10 = true → S.value_Value_Has_pre x.b e5)] ∧ ((p12 = true → True) ∧ (p12 = false → True)))) ∧ (b1 = false → True))
noncomputable def S.law24_comes_L0_run (x : S.law24_comes_L0) : Bool × S.law24_comes_L0 := theRun (fun x => ⟨true, x⟩) S.law24_comes_L0_step S.law24_comes_L0_vcs x
/-- sieveholeslaw24.comes -/
noncomputable def S.law24_comes (o : Int) (a : S.Value) (b : S.Value) (n : Int) : Bool :=
  let x1 : S.law24_comes_L0 := (⟨o, n, false, ([a.I.Lo, a.I.Hi, 0, 0] : List Int), ([b.I.Lo, b.I.Hi, 0, 0] : List Int), 0, a, b⟩ : S.law24_comes_L0)
  let y2 : Bool × S.law24_comes_L0 := S.law24_comes_L0_run x1
  (bif y2.1 then y2.2.t8 else false)
def S.law24_comes_pre (o : Int) (a : S.Value) (b : S.Value) (n : Int) : Prop :=
  let x1 : S.law24_comes_L0 := (⟨o, n, false, ([a.I.Lo, a.I.Hi, 0, 0] : List Int), ([b.I.Lo, b.I.Hi, 0, 0] : List Int), 0, a, b⟩ : S.law24_comes_L0)
  let y2 : Bool × S.law24_comes_L0 := S.law24_comes_L0_run x1
  (All [Runs S.law24_comes_L0_step S.law24_comes_L0_vcs x1 (S.law24_comes_L0_run x1)] ∧ ((y2.1 = true → True) ∧ (y2.1 = false → True)))
@[ext] structure S.law24_CondExact_L0 where
  t6 : Bool
  o : Int
  n : Int
  v : S.Value
  vx : S.Value
  y : S.Value
noncomputable def S.law24_CondExact_L0_step (x : S.law24_CondExact_L0) : S.law24_CondExact_L0 ⊕ (Bool × S.law24_CondExact_L0) :=
  let b1 : Bool := decide (x.n < 2)
  let r2 : Bool := S.value_Value_Has x.v x.n
  let r3 : Bool := S.law24_comes x.o x.vx x.y x.n
  let b4 : Bool := !r3
  let p5 : Bool := (r2 && b4)
  let t6 : Int := IntKind.i64.wrap (x.n + 1)
  (bif b1 then (bif p5 then (.inr ⟨true, ⟨false, x.o, x.n, x.v, x.vx, x.y⟩⟩) else (.inl ⟨x.t6, x.o, t6, x.v, x.vx, x.y⟩)) else (.inr ⟨false, ⟨x.t6, x.o, x.n, x.v, x.vx, x.y⟩⟩))
noncomputable def S.law24_CondExact_L0_vcs (x : S.law24_CondExact_L0) : Prop :=
  let b1 : Bool := decide (x.n < 2)
  let r2 : Bool := S.value_Value_Has x.v x.n
  let r3 : Bool := S.law24_comes x.o x.vx x.y x.n
  let b4 : Bool := !r3
  let p5 : Bool := (r2 && b4)
  ((b1 = true → (All [S.value_Value_Has_pre x.v x.n, (r2 = true → S.law24_comes_pre x.o x.vx x.y x.n)] ∧ ((p5 = true → True) ∧ (p5 = false → True)))) ∧ (b1 = false → True))
noncomputable def S.law24_CondExact_L0_run (x : S.law24_CondExact_L0) : Bool × S.law24_CondExact_L0 := theRun (fun x => ⟨true, x⟩) S.law24_CondExact_L0_step S.law24_CondExact_L0_vcs x
/-- sieveholeslaw24.CondExact -/
noncomputable def S.law24_CondExact (op : Int) (a : S.Value) (b : S.Value) : Bool :=
  let t1 : Int := Int.tmod op 6
  let t2 : Int := IntKind.i64.wrap (t1 + 6)
  let t3 : Int := Int.tmod t2 6
  let e4 : Int := ([4, 5, 6, 7, 0, 1] : List Int).getD (Int.toNat t3) 0
  let r5 : S.Value := S.cond_Do e4 a b
  let r6 : S.Value := S.value_Make a.I a.C
  let r7 : S.Value := S.value_Make b.I b.C
  let x8 : S.law24_CondExact_L0 := (⟨false, e4, 0, r5, r6, r7⟩ : S.law24_CondExact_L0)
  let y9 : Bool × S.law24_CondExact_L0 := S.law24_CondExact_L0_run x8
  let r10 : Bool := S.law24_works
  (bif y9.1 then y9.2.t6 else r10)
def S.law24_CondExact_pre (op : Int) (a : S.Value) (b : S.Value) : Prop :=
  let t1 : Int := Int.tmod op 6
  let t2 : Int := IntKind.i64.wrap (t1 + 6)
  let t3 : Int := Int.tmod t2 6
  let e4 : Int := ([4, 5, 6, 7, 0, 1] : List Int).getD (Int.toNat t3) 0
  let r5 : S.Value := S.cond_Do e4 a b
  let r6 : S.Value := S.value_Make a.I a.C
  let r7 : S.Value := S.value_Make b.I b.C
  let x8 : S.law24_CondExact_L0 := (⟨false, e4, 0, r5, r6, r7⟩ : S.law24_CondExact_L0)
  let y9 : Bool × S.law24_CondExact_L0 := S.law24_CondExact_L0_run x8
  (All [(0 : Int) ≤ t3, t3 < (([4, 5, 6, 7, 0, 1] : List Int).length : Int), S.cond_Do_pre e4 a b, S.value_Make_pre a.I a.C, S.value_Make_pre b.I b.C, Runs S.law24_CondExact_L0_step S.law24_CondExact_L0_vcs x8 (S.law24_CondExact_L0_run x8)] ∧ ((y9.1 = true → True) ∧ (y9.1 = false → (All [S.law24_works_pre] ∧ True))))
/-- sieveholeslaw24.CondKeeps -/
noncomputable def S.law24_CondKeeps (op : Int) (a : S.Value) (b : S.Value) (truth : Bool) : Bool :=
  let t1 : Int := Int.tmod op 8
  let t2 : Int := IntKind.i64.wrap (t1 + 8)
  let t3 : Int := Int.tmod t2 8
  let r4 : S.Value × S.Value := S.cond_Refine t3 a b truth
  let r5 : S.Value × S.Value := S.cond_Refine t3 r4.1 r4.2 truth
  let r6 : Bool := S.value_Within r4.1 a
  let b7 : Bool := !r6
  let r8 : Bool := S.value_Within r4.2 b
  let b9 : Bool := !r8
  let p10 : Bool := (b7 || b9)
  let r11 : Bool := S.value_Within r5.1 r4.1
  let b12 : Bool := !r11
  let p13 : Bool := (p10 || b12)
  let r14 : Bool := S.value_Within r5.2 r4.2
  let b15 : Bool := !r14
  let p16 : Bool := (p13 || b15)
  let b17 : Bool := t3 != 2
  let b18 : Bool := t3 != 3
  let p19 : Bool := (b17 && b18)
  let b20 : Bool := !((r5.1.I.Lo == r4.1.I.Lo) && ((r5.1.I.Hi == r4.1.I.Hi) && ((r5.1.C.M == r4.1.C.M) && (r5.1.C.R == r4.1.C.R))))
  let b21 : Bool := !((r5.2.I.Lo == r4.2.I.Lo) && ((r5.2.I.Hi == r4.2.I.Hi) && ((r5.2.C.M == r4.2.C.M) && (r5.2.C.R == r4.2.C.R))))
  let p22 : Bool := (b20 || b21)
  let p23 : Bool := (p19 && p22)
  let p24 : Bool := (p16 || p23)
  let r25 : Bool := S.value_Value_IsBottom r4.1
  let r26 : Bool := S.value_Value_IsBottom r4.2
  let b27 : Bool := !(r25 == r26)
  let p28 : Bool := (p24 || b27)
  let r29 : S.Value := S.cond_Do t3 a b
  let r30 : Bool := S.value_Value_IsBottom r29
  let r31 : Bool := S.value_Value_IsBottom r4.1
  let b32 : Bool := !r31
  let p33 : Bool := (r30 && b32)
  let r34 : S.Value := S.value_Range 0 1
  let r35 : Bool := S.value_Within r29 r34
  let b36 : Bool := !r35
  let p37 : Bool := (p33 || b36)
  let r38 : Bool × Bool := S.cond_Truth r29
  let p39 : Bool := (truth && r38.1)
  let b40 : Bool := !truth
  let p41 : Bool := (b40 && r38.2)
  let p42 : Bool := (p39 || p41)
  let r43 : Bool := S.value_Value_IsBottom r4.1
  let b44 : Bool := !r43
  let b45 : Bool := p42 == b44
  let r46 : Bool := S.law24_works
  let p47 : Bool := (b45 && r46)
  (bif p28 then false else (bif p37 then false else p47))
def S.law24_CondKeeps_pre (op : Int) (a : S.Value) (b : S.Value) (truth : Bool) : Prop :=
  let t1 : Int := Int.tmod op 8
  let t2 : Int := IntKind.i64.wrap (t1 + 8)
  let t3 : Int := Int.tmod t2 8
  let r4 : S.Value × S.Value := S.cond_Refine t3 a b truth
  let r5 : S.Value × S.Value := S.cond_Refine t3 r4.1 r4.2 truth
  let r6 : Bool := S.value_Within r4.1 a
  let b7 : Bool := !r6
  let r8 : Bool := S.value_Within r4.2 b
  let b9 : Bool := !r8
  let p10 : Bool := (b7 || b9)
  let r11 : Bool := S.value_Within r5.1 r4.1
  let b12 : Bool := !r11
  let p13 : Bool := (p10 || b12)
  let r14 : Bool := S.value_Within r5.2 r4.2
  let b15 : Bool := !r14
  let p16 : Bool := (p13 || b15)
  let b17 : Bool := t3 != 2
  let b18 : Bool := t3 != 3
  let p19 : Bool := (b17 && b18)
  let b20 : Bool := !((r5.1.I.Lo == r4.1.I.Lo) && ((r5.1.I.Hi == r4.1.I.Hi) && ((r5.1.C.M == r4.1.C.M) && (r5.1.C.R == r4.1.C.R))))
  let b21 : Bool := !((r5.2.I.Lo == r4.2.I.Lo) && ((r5.2.I.Hi == r4.2.I.Hi) && ((r5.2.C.M == r4.2.C.M) && (r5.2.C.R == r4.2.C.R))))
  let p22 : Bool := (b20 || b21)
  let p23 : Bool := (p19 && p22)
  let p24 : Bool := (p16 || p23)
  let r25 : Bool := S.value_Value_IsBottom r4.1
  let r26 : Bool := S.value_Value_IsBottom r4.2
  let b27 : Bool := !(r25 == r26)
  let p28 : Bool := (p24 || b27)
  let r29 : S.Value := S.cond_Do t3 a b
  let r30 : Bool := S.value_Value_IsBottom r29
  let r31 : Bool := S.value_Value_IsBottom r4.1
  let b32 : Bool := !r31
  let p33 : Bool := (r30 && b32)
  let r34 : S.Value := S.value_Range 0 1
  let r35 : Bool := S.value_Within r29 r34
  let b36 : Bool := !r35
  let p37 : Bool := (p33 || b36)
  let r38 : Bool × Bool := S.cond_Truth r29
  let p39 : Bool := (truth && r38.1)
  let b40 : Bool := !truth
  let p41 : Bool := (b40 && r38.2)
  let p42 : Bool := (p39 || p41)
  let r43 : Bool := S.value_Value_IsBottom r4.1
  let b44 : Bool := !r43
  let b45 : Bool := p42 == b44
  (All [S.cond_Refine_pre t3 a b truth, S.cond_Refine_pre t3 r4.1 r4.2 truth, S.value_Within_pre r4.1 a, (b7 = false → S.value_Within_pre r4.2 b), (p10 = false → S.value_Within_pre r5.1 r4.1), (p13 = false → S.value_Within_pre r5.2 r4.2), (p24 = false → S.value_Value_IsBottom_pre r4.1), (p24 = false → S.value_Value_IsBottom_pre r4.2)] ∧ ((p28 = true → True) ∧ (p28 = false → (All [S.cond_Do_pre t3 a b, S.value_Value_IsBottom_pre r29, (r30 = true → S.value_Value_IsBottom_pre r4.1), (p33 = false → S.value_Range_pre 0 1), (p33 = false → S.value_Within_pre r29 r34)] ∧ ((p37 = true → True) ∧ (p37 = false → (All [S.cond_Truth_pre r29, S.value_Value_IsBottom_pre r4.1, (b45 = true → S.law24_works_pre)] ∧ True)))))))
@[ext] structure S.law24_CondKnown_L2 where
  lo : Int
  m : Int
  l : (List S.Value)
def S.law24_CondKnown_L2_step (x : S.law24_CondKnown_L2) : S.law24_CondKnown_L2 ⊕ (S.law24_CondKnown_L2) :=
  let b1 : Bool := decide (x.m < 5)
  let t2 : Int := IntKind.i64.wrap x.m
  let t3 : Int := IntKind.i64.wrap (x.lo + t2)
  let t4 : Int := IntKind.i64.wrap (t3 - 1)
  let t5 : Int := Int.tmod x.m 3
  let r6 : S.Cong := S.cong_Make t5 x.lo
  let l7 : List S.Value := x.l ++ ([(⟨(⟨x.lo, t4⟩ : S.Inter), r6⟩ : S.Value)] : List S.Value)
  let t8 : Int := IntKind.u64.wrap (x.m + 1)
  (bif b1 then (.inl ⟨x.lo, t8, l7⟩) else (.inr ⟨x.lo, x.m, x.l⟩))
def S.law24_CondKnown_L2_vcs (x : S.law24_CondKnown_L2) : Prop :=
  let b1 : Bool := decide (x.m < 5)
  let t2 : Int := IntKind.i64.wrap x.m
  let t3 : Int := IntKind.i64.wrap (x.lo + t2)
  let t4 : Int := IntKind.i64.wrap (t3 - 1)
  let t5 : Int := Int.tmod x.m 3
  let r6 : S.Cong := S.cong_Make t5 x.lo
  ((b1 = true → (All [S.cong_Make_pre t5 x.lo, ((x.l.length + ([(⟨(⟨x.lo, t4⟩ : S.Inter), r6⟩ : S.Value)] : List S.Value).length : Nat) : Int) * 32 ≤ 140737488355328] ∧ True)) ∧ (b1 = false → True))
noncomputable def S.law24_CondKnown_L2_run (x : S.law24_CondKnown_L2) : S.law24_CondKnown_L2 := theRun (fun x => x) S.law24_CondKnown_L2_step S.law24_CondKnown_L2_vcs x
@[ext] structure S.law24_CondKnown_L0 where
  lo : Int
  l : (List S.Value)
noncomputable def S.law24_CondKnown_L0_step (x : S.law24_CondKnown_L0) : S.law24_CondKnown_L0 ⊕ (S.law24_CondKnown_L0) :=
  let b1 : Bool := decide (x.lo < 3)
  let x2 : S.law24_CondKnown_L2 := (⟨x.lo, 0, x.l⟩ : S.law24_CondKnown_L2)
  let y3 : S.law24_CondKnown_L2 := S.law24_CondKnown_L2_run x2
  let t4 : Int := IntKind.i64.wrap (y3.lo + 1)
  (bif b1 then (.inl ⟨t4, y3.l⟩) else (.inr ⟨x.lo, x.l⟩))
noncomputable def S.law24_CondKnown_L0_vcs (x : S.law24_CondKnown_L0) : Prop :=
  let b1 : Bool := decide (x.lo < 3)
  let x2 : S.law24_CondKnown_L2 := (⟨x.lo, 0, x.l⟩ : S.law24_CondKnown_L2)
  ((b1 = true → (All [Runs S.law24_CondKnown_L2_step S.law24_CondKnown_L2_vcs x2 (S.law24_CondKnown_L2_run x2)] ∧ True)) ∧ (b1 = false → True))
noncomputable def S.law24_CondKnown_L0_run (x : S.law24_CondKnown_L0) : S.law24_CondKnown_L0 := theRun (fun x => x) S.law24_CondKnown_L0_step S.law24_CondKnown_L0_vcs x
@[ext] structure S.law24_CondKnown_L8 where
  t0 : Bool
  i : Int
  k : Int
  op : Int
  l : (List S.Value)
noncomputable def S.law24_CondKnown_L8_step (x : S.law24_CondKnown_L8) : S.law24_CondKnown_L8 ⊕ (Bool × S.law24_CondKnown_L8) :=
  let b1 : Bool := decide (x.op < 8)
  let t2 : Int := IntKind.i64.wrap (x.i + x.k)
  let t3 : Int := Int.tmod t2 3
  let b4 : Bool := t3 == 0
  let p5 : Bool := (b1 && b4)
  let e6 : S.Value := x.l.getD (Int.toNat x.i) (⟨(⟨0, 0⟩ : S.Inter), (⟨0, 0⟩ : S.Cong)⟩ : S.Value)
  let e7 : S.Value := x.l.getD (Int.toNat x.k) (⟨(⟨0, 0⟩ : S.Inter), (⟨0, 0⟩ : S.Cong)⟩ : S.Value)
  let e8 : S.Value := x.l.getD (Int.toNat x.k) (⟨(⟨0, 0⟩ : S.Inter), (⟨0, 0⟩ : S.Cong)⟩ : S.Value)
  let r9 : Bool := S.law24_CondTells x.op e6 e7 true e8.I.Lo
  let b10 : Bool := !r9
  let e11 : S.Value := x.l.getD (Int.toNat x.i) (⟨(⟨0, 0⟩ : S.Inter), (⟨0, 0⟩ : S.Cong)⟩ : S.Value)
  let e12 : S.Value := x.l.getD (Int.toNat x.k) (⟨(⟨0, 0⟩ : S.Inter), (⟨0, 0⟩ : S.Cong)⟩ : S.Value)
  let e13 : S.Value := x.l.getD (Int.toNat x.i) (⟨(⟨0, 0⟩ : S.Inter), (⟨0, 0⟩ : S.Cong)⟩ : S.Value)
  let r14 : Bool := S.law24_CondTells x.op e11 e12 false e13.I.Hi
  let b15 : Bool := !r14
  let p16 : Bool := (b10 || b15)
  let e17 : S.Value := x.l.getD (Int.toNat x.i) (⟨(⟨0, 0⟩ : S.Inter), (⟨0, 0⟩ : S.Cong)⟩ : S.Value)
  let e18 : S.Value := x.l.getD (Int.toNat x.k) (⟨(⟨0, 0⟩ : S.Inter), (⟨0, 0⟩ : S.Cong)⟩ : S.Value)
  let e19 : S.Value := x.l.getD (Int.toNat x.k) (⟨(⟨0, 0⟩ : S.Inter), (⟨0, 0⟩ : S.Cong)⟩ : S.Value)
  let e20 : S.Value := x.l.getD (Int.toNat x.i) (⟨(⟨0, 0⟩ : S.Inter), (⟨0, 0⟩ : S.Cong)⟩ : S.Value)
  let r21 : Bool := S.law24_CondSound x.op e17 e18 e19.I.Lo e20.I.Hi
  let b22 : Bool := !r21
  let p23 : Bool := (p16 || b22)
  let t24 : Int := IntKind.i64.wrap (x.op + 1)
  (bif p5 then (bif p23 then (.inr ⟨true, ⟨false, x.i, x.k, x.op, x.l⟩⟩) else (.inl ⟨x.t0, x.i, x.k, t24, x.l⟩)) else (.inr ⟨false, ⟨x.t0, x.i, x.k, x.op, x.l⟩⟩))
noncomputable def S.law24_CondKnown_L8_vcs (x : S.law24_CondKnown_L8) : Prop :=
  let b1 : Bool := decide (x.op < 8)
  let t2 : Int := IntKind.i64.wrap (x.i + x.k)
  let t3 : Int := Int.tmod t2 3
  let b4 : Bool := t3 == 0
  let p5 : Bool := (b1 && b4)
  let e6 : S.Value := x.l.getD (Int.toNat x.i) (⟨(⟨0, 0⟩ : S.Inter), (⟨0, 0⟩ : S.Cong)⟩ : S.Value)
  let e7 : S.Value := x.l.getD (Int.toNat x.k) (⟨(⟨0, 0⟩ : S.Inter), (⟨0, 0⟩ : S.Cong)⟩ : S.Value)
  let e8 : S.Value := x.l.getD (Int.toNat x.k) (⟨(⟨0, 0⟩ : S.Inter), (⟨0, 0⟩ : S.Cong)⟩ : S.Value)
  let r9 : Bool := S.law24_CondTells x.op e6 e7 true e8.I.Lo
  let b10 : Bool := !r9
  let e11 : S.Value := x.l.getD (Int.toNat x.i) (⟨(⟨0, 0⟩ : S.Inter), (⟨0, 0⟩ : S.Cong)⟩ : S.Value)
  let e12 : S.Value := x.l.getD (Int.toNat x.k) (⟨(⟨0, 0⟩ : S.Inter), (⟨0, 0⟩ : S.Cong)⟩ : S.Value)
  let e13 : S.Value := x.l.getD (Int.toNat x.i) (⟨(⟨0, 0⟩ : S.Inter), (⟨0, 0⟩ : S.Cong)⟩ : S.Value)
  let r14 : Bool := S.law24_CondTells x.op e11 e12 false e13.I.Hi
  let b15 : Bool := !r14
  let p16 : Bool := (b10 || b15)
  let e17 : S.Value := x.l.getD (Int.toNat x.i) (⟨(⟨0, 0⟩ : S.Inter), (⟨0, 0⟩ : S.Cong)⟩ : S.Value)
  let e18 : S.Value := x.l.getD (Int.toNat x.k) (⟨(⟨0, 0⟩ : S.Inter), (⟨0, 0⟩ : S.Cong)⟩ : S.Value)
  let e19 : S.Value := x.l.getD (Int.toNat x.k) (⟨(⟨0, 0⟩ : S.Inter), (⟨0, 0⟩ : S.Cong)⟩ : S.Value)
  let e20 : S.Value := x.l.getD (Int.toNat x.i) (⟨(⟨0, 0⟩ : S.Inter), (⟨0, 0⟩ : S.Cong)⟩ : S.Value)
  let r21 : Bool := S.law24_CondSound x.op e17 e18 e19.I.Lo e20.I.Hi
  let b22 : Bool := !r21
  let p23 : Bool := (p16 || b22)
  ((p5 = true → (All [(0 : Int) ≤ x.i, x.i < (x.l.length : Int), (0 : Int) ≤ x.k, x.k < (x.l.length : Int), (0 : Int) ≤ x.k, x.k < (x.l.length : Int), S.law24_CondTells_pre x.op e6 e7 true e8.I.Lo, (b10 = false → ((0 : Int) ≤ x.i ∧ x.i < (x.l.length : Int))), (b10 = false → ((0 : Int) ≤ x.k ∧ x.k < (x.l.length : Int))), (b10 = false → ((0 : Int) ≤ x.i ∧ x.i < (x.l.length : Int))), (b10 = false → S.law24_CondTells_pre x.op e11 e12 false e13.I.Hi), (p16 = false → ((0 : Int) ≤ x.i ∧ x.i < (x.l.length : Int))), (p16 = false → ((0 : Int) ≤ x.k ∧ x.k < (x.l.length : Int))), (p16 = false → ((0 : Int) ≤ x.k ∧ x.k < (x.l.length : Int))), (p16 = false → ((0 : Int) ≤ x.i ∧ x.i < (x.l.length : Int))), (p16 = false → S.law24_CondSound_pre x.op e17 e18 e19.I.Lo e20.I.Hi)] ∧ ((p23 = true → True) ∧ (p23 = false → True)))) ∧ (p5 = false → True))
noncomputable def S.law24_CondKnown_L8_run (x : S.law24_CondKnown_L8) : Bool × S.law24_CondKnown_L8 := theRun (fun x => ⟨true, x⟩) S.law24_CondKnown_L8_step S.law24_CondKnown_L8_vcs x
@[ext] structure S.law24_CondKnown_L6 where
  t0 : Bool
  i : Int
  k : Int
  l : (List S.Value)
noncomputable def S.law24_CondKnown_L6_step (x : S.law24_CondKnown_L6) : S.law24_CondKnown_L6 ⊕ (Bool × S.law24_CondKnown_L6) :=
  let b1 : Bool := decide (x.k < (x.l.length : Int))
  let t2 : Int := IntKind.i64.wrap (3 * x.k)
  let t3 : Int := IntKind.i64.wrap (x.i + t2)
  let t4 : Int := Int.tmod t3 10
  let t5 : Int := IntKind.i64.wrap (t4 - 1)
  let e6 : S.Value := x.l.getD (Int.toNat x.i) (⟨(⟨0, 0⟩ : S.Inter), (⟨0, 0⟩ : S.Cong)⟩ : S.Value)
  let e7 : S.Value := x.l.getD (Int.toNat x.k) (⟨(⟨0, 0⟩ : S.Inter), (⟨0, 0⟩ : S.Cong)⟩ : S.Value)
  let t8 : Int := Int.tmod t3 3
  let b9 : Bool := t8 == 0
  let t10 : Int := Int.tmod x.k 5
  let t11 : Int := IntKind.i64.wrap (t10 - 2)
  let r12 : Bool := S.law24_CondTells t5 e6 e7 b9 t11
  let b13 : Bool := !r12
  let e14 : S.Value := x.l.getD (Int.toNat x.i) (⟨(⟨0, 0⟩ : S.Inter), (⟨0, 0⟩ : S.Cong)⟩ : S.Value)
  let e15 : S.Value := x.l.getD (Int.toNat x.k) (⟨(⟨0, 0⟩ : S.Inter), (⟨0, 0⟩ : S.Cong)⟩ : S.Value)
  let t16 : Int := Int.tmod t3 2
  let b17 : Bool := t16 == 0
  let r18 : Bool := S.law24_CondKeeps t3 e14 e15 b17
  let b19 : Bool := !r18
  let p20 : Bool := (b13 || b19)
  let e21 : S.Value := x.l.getD (Int.toNat x.i) (⟨(⟨0, 0⟩ : S.Inter), (⟨0, 0⟩ : S.Cong)⟩ : S.Value)
  let e22 : S.Value := x.l.getD (Int.toNat x.k) (⟨(⟨0, 0⟩ : S.Inter), (⟨0, 0⟩ : S.Cong)⟩ : S.Value)
  let r23 : Bool := S.law24_CondExact t3 e21 e22
  let b24 : Bool := !r23
  let p25 : Bool := (p20 || b24)
  let e26 : S.Value := x.l.getD (Int.toNat x.i) (⟨(⟨0, 0⟩ : S.Inter), (⟨0, 0⟩ : S.Cong)⟩ : S.Value)
  let e27 : S.Value := x.l.getD (Int.toNat x.k) (⟨(⟨0, 0⟩ : S.Inter), (⟨0, 0⟩ : S.Cong)⟩ : S.Value)
  let t28 : Int := Int.tmod x.i 5
  let t29 : Int := IntKind.i64.wrap (t28 - 2)
  let t30 : Int := Int.tmod x.k 7
  let t31 : Int := IntKind.i64.wrap (t30 - 3)
  let r32 : Bool := S.law24_CondSound t3 e26 e27 t29 t31
  let b33 : Bool := !r32
  let p34 : Bool := (p25 || b33)
  let x35 : S.law24_CondKnown_L8 := (⟨x.t0, x.i, x.k, 0, x.l⟩ : S.law24_CondKnown_L8)
  let y36 : Bool × S.law24_CondKnown_L8 := S.law24_CondKnown_L8_run x35
  let t37 : Int := IntKind.i64.wrap (y36.2.k + 1)
  (bif b1 then (bif p34 then (.inr ⟨true, ⟨false, x.i, x.k, x.l⟩⟩) else (bif y36.1 then (.inr ⟨true, ⟨y36.2.t0, y36.2.i, y36.2.k, y36.2.l⟩⟩) else (.inl ⟨y36.2.t0, y36.2.i, t37, y36.2.l⟩))) else (.inr ⟨false, ⟨x.t0, x.i, x.k, x.l⟩⟩))
noncomputable def S.law24_CondKnown_L6_vcs (x : S.law24_CondKnown_L6) : Prop :=
  let b1 : Bool := decide (x.k < (x.l.length : Int))
  let t2 : Int := IntKind.i64.wrap (3 * x.k)
  let t3 : Int := IntKind.i64.wrap (x.i + t2)
  let t4 : Int := Int.tmod t3 10
  let t5 : Int := IntKind.i64.wrap (t4 - 1)
  let e6 : S.Value := x.l.getD (Int.toNat x.i) (⟨(⟨0, 0⟩ : S.Inter), (⟨0, 0⟩ : S.Cong)⟩ : S.Value)
  let e7 : S.Value := x.l.getD (Int.toNat x.k) (⟨(⟨0, 0⟩ : S.Inter), (⟨0, 0⟩ : S.Cong)⟩ : S.Value)
  let t8 : Int := Int.tmod t3 3
  let b9 : Bool := t8 == 0
  let t10 : Int := Int.tmod x.k 5
  let t11 : Int := IntKind.i64.wrap (t10 - 2)
  let r12 : Bool := S.law24_CondTells t5 e6 e7 b9 t11
  let b13 : Bool := !r12
  let e14 : S.Value := x.l.getD (Int.toNat x.i) (⟨(⟨0, 0⟩ : S.Inter), (⟨0, 0⟩ : S.Cong)⟩ : S.Value)
  let e15 : S.Value := x.l.getD (Int.toNat x.k) (⟨(⟨0, 0⟩ : S.Inter), (⟨0, 0⟩ : S.Cong)⟩ : S.Value)
  let t16 : Int := Int.tmod t3 2
  let b17 : Bool := t16 == 0
  let r18 : Bool := S.law24_CondKeeps t3 e14 e15 b17
  let b19 : Bool := !r18
  let p20 : Bool := (b13 || b19)
  let e21 : S.Value := x.l.getD (Int.toNat x.i) (⟨(⟨0, 0⟩ : S.Inter), (⟨0, 0⟩ : S.Cong)⟩ : S.Value)
  let e22 : S.Value := x.l.getD (Int.toNat x.k) (⟨(⟨0, 0⟩ : S.Inter), (⟨0, 0⟩ : S.Cong)⟩ : S.Value)
  let r23 : Bool := S.law24_CondExact t3 e21 e22
  let b24 : Bool := !r23
  let p25 : Bool := (p20 || b24)
  let e26 : S.Value := x.l.getD (Int.toNat x.i) (⟨(⟨0, 0⟩ : S.Inter), (⟨0, 0⟩ : S.Cong)⟩ : S.Value)
  let e27 : S.Value := x.l.getD (Int.toNat x.k) (⟨(⟨0, 0⟩ : S.Inter), (⟨0, 0⟩ : S.Cong)⟩ : S.Value)
  let t28 : Int := Int.tmod x.i 5
  let t29 : Int := IntKind.i64.wrap (t28 - 2)
  let t30 : Int := Int.tmod x.k 7
  let t31 : Int := IntKind.i64.wrap (t30 - 3)
  let r32 : Bool := S.law24_CondSound t3 e26 e27 t29 t31
  let b33 : Bool := !r32
  let p34 : Bool := (p25 || b33)
  let x35 : S.law24_CondKnown_L8 := (⟨x.t0, x.i, x.k, 0, x.l⟩ : S.law24_CondKnown_L8)
  let y36 : Bool × S.law24_CondKnown_L8 := S.law24_CondKnown_L8_run x35
  ((b1 = true → (All [(0 : Int) ≤ x.i, x.i < (x.l.length : Int), (0 : Int) ≤ x.k, x.k < (x.l.length : Int), S.law24_CondTells_pre t5 e6 e7 b9 t11, (b13 = false → ((0 : Int) ≤ x.i ∧ x.i < (x.l.length : Int))), (b13 = false → ((0 : Int) ≤ x.k ∧ x.k < (x.l.length : Int))), (b13 = false → S.law24_CondKeeps_pre t3 e14 e15 b17), (p20 = false → ((0 : Int) ≤ x.i ∧ x.i < (x.l.length : Int))), (p20 = false → ((0 : Int) ≤ x.k ∧ x.k < (x.l.length : Int))), (p20 = false → S.law24_CondExact_pre t3 e21 e22), (p25 = false → ((0 : Int) ≤ x.i ∧ x.i < (x.l.length : Int))), (p25 = false → ((0 : Int) ≤ x.k ∧ x.k < (x.l.length : Int))), (p25 = false → S.law24_CondSound_pre t3 e26 e27 t29 t31)] ∧ ((p34 = true → True) ∧ (p34 = false → (All [Runs S.law24_CondKnown_L8_step S.law24_CondKnown_L8_vcs x35 (S.law24_CondKnown_L8_run x35)] ∧ ((y36.1 = true → True) ∧ (y36.1 = false → True))))))) ∧ (b1 = false → True))
noncomputable def S.law24_CondKnown_L6_run (x : S.law24_CondKnown_L6) : Bool × S.law24_CondKnown_L6 := theRun (fun x => ⟨true, x⟩) S.law24_CondKnown_L6_step S.law24_CondKnown_L6_vcs x
@[ext] structure S.law24_CondKnown_L4 where
  t0 : Bool
  i : Int
  l : (List S.Value)
noncomputable def S.law24_CondKnown_L4_step (x : S.law24_CondKnown_L4) : S.law24_CondKnown_L4 ⊕ (Bool × S.law24_CondKnown_L4) :=
  let b1 : Bool := decide (x.i < (x.l.length : Int))
  let x2 : S.law24_CondKnown_L6 := (⟨x.t0, x.i, 0, x.l⟩ : S.law24_CondKnown_L6)
  let y3 : Bool × S.law24_CondKnown_L6 := S.law24_CondKnown_L6_run x2
  let t4 : Int := IntKind.i64.wrap (y3.2.i + 1)
  (bif b1 then (bif y3.1 then (.inr ⟨true, ⟨y3.2.t0, y3.2.i, y3.2.l⟩⟩) else (.inl ⟨y3.2.t0, t4, y3.2.l⟩)) else (.inr ⟨false, ⟨x.t0, x.i, x.l⟩⟩))
noncomputable def S.law24_CondKnown_L4_vcs (x : S.law24_CondKnown_L4) : Prop :=
  let b1 : Bool := decide (x.i < (x.l.length : Int))
  let x2 : S.law24_CondKnown_L6 := (⟨x.t0, x.i, 0, x.l⟩ : S.law24_CondKnown_L6)
  let y3 : Bool × S.law24_CondKnown_L6 := S.law24_CondKnown_L6_run x2
  ((b1 = true → (All [Runs S.law24_CondKnown_L6_step S.law24_CondKnown_L6_vcs x2 (S.law24_CondKnown_L6_run x2)] ∧ ((y3.1 = true → True) ∧ (y3.1 = false → True)))) ∧ (b1 = false → True))
noncomputable def S.law24_CondKnown_L4_run (x : S.law24_CondKnown_L4) : Bool × S.law24_CondKnown_L4 := theRun (fun x => ⟨true, x⟩) S.law24_CondKnown_L4_step S.law24_CondKnown_L4_vcs x
/-- sieveholeslaw24.CondKnown -/
noncomputable def S.law24_CondKnown : Bool :=
  let x1 : S.law24_CondKnown_L0 := (⟨(-2), ([] : List S.Value)⟩ : S.law24_CondKnown_L0)
  let y2 : S.law24_CondKnown_L0 := S.law24_CondKnown_L0_run x1
  let r3 : S.Value := S.value_Top
  let r4 : S.Value := S.value_One (-9223372036854775808)
  let r5 : S.Value := S.value_One 9223372036854775807
  let t6 : Int := IntKind.i64.wrap ((-9223372036854775808) + 1)
  let r7 : S.Value := S.value_Range (-9223372036854775808) t6
  let t8 : Int := IntKind.i64.wrap (9223372036854775807 - 2)
  let r9 : S.Value := S.value_Range t8 9223372036854775807
  let r10 : S.Value := S.value_Range (-9223372036854775808) (-1)
  let r11 : S.Inter := S.inter_Whole
  let r12 : S.Cong := S.cong_Make 4 1
  let r13 : S.Value := S.value_Bottom
  let l14 : List S.Value := y2.l ++ ([r3, r4, r5, r7, r9, r10, (⟨r11, r12⟩ : S.Value), r13] : List S.Value)
  let x15 : S.law24_CondKnown_L4 := (⟨false, 0, l14⟩ : S.law24_CondKnown_L4)
  let y16 : Bool × S.law24_CondKnown_L4 := S.law24_CondKnown_L4_run x15
  let r17 : Bool := S.law24_works
  (bif y16.1 then y16.2.t0 else r17)
def S.law24_CondKnown_pre : Prop :=
  let x1 : S.law24_CondKnown_L0 := (⟨(-2), ([] : List S.Value)⟩ : S.law24_CondKnown_L0)
  let y2 : S.law24_CondKnown_L0 := S.law24_CondKnown_L0_run x1
  let r3 : S.Value := S.value_Top
  let r4 : S.Value := S.value_One (-9223372036854775808)
  let r5 : S.Value := S.value_One 9223372036854775807
  let t6 : Int := IntKind.i64.wrap ((-9223372036854775808) + 1)
  let r7 : S.Value := S.value_Range (-9223372036854775808) t6
  let t8 : Int := IntKind.i64.wrap (9223372036854775807 - 2)
  let r9 : S.Value := S.value_Range t8 9223372036854775807
  let r10 : S.Value := S.value_Range (-9223372036854775808) (-1)
  let r11 : S.Inter := S.inter_Whole
  let r12 : S.Cong := S.cong_Make 4 1
  let r13 : S.Value := S.value_Bottom
  let l14 : List S.Value := y2.l ++ ([r3, r4, r5, r7, r9, r10, (⟨r11, r12⟩ : S.Value), r13] : List S.Value)
  let x15 : S.law24_CondKnown_L4 := (⟨false, 0, l14⟩ : S.law24_CondKnown_L4)
  let y16 : Bool × S.law24_CondKnown_L4 := S.law24_CondKnown_L4_run x15
  (All [Runs S.law24_CondKnown_L0_step S.law24_CondKnown_L0_vcs x1 (S.law24_CondKnown_L0_run x1), S.value_Range_pre (-9223372036854775808) t6, S.value_Range_pre t8 9223372036854775807, S.value_Range_pre (-9223372036854775808) (-1), S.cong_Make_pre 4 1, ((y2.l.length + ([r3, r4, r5, r7, r9, r10, (⟨r11, r12⟩ : S.Value), r13] : List S.Value).length : Nat) : Int) * 32 ≤ 140737488355328, Runs S.law24_CondKnown_L4_step S.law24_CondKnown_L4_vcs x15 (S.law24_CondKnown_L4_run x15)] ∧ ((y16.1 = true → True) ∧ (y16.1 = false → (All [S.law24_works_pre] ∧ True))))
