/-
  Printed by a program for this claim: functions of the code as plain functions, and that the code comes to them. Conditions: those that each theorem states.
-/
import Derived.Test.YthplfkeecpkmhaaDoorVm16
set_option linter.all false
open Go Vm
@[ext] structure S.Cong where
  M : Int
  R : Int
@[ext] structure S.Inter where
  Lo : Int
  Hi : Int
@[ext] structure S.Value where
  I : S.Inter
  C : S.Cong
def S.Inter.ok (x : S.Inter) : Prop := (inr .i64 x.Lo) ∧ (inr .i64 x.Hi) ∧ True
def S.Cong.ok (x : S.Cong) : Prop := (inr .u64 x.M) ∧ (inr .u64 x.R) ∧ True
def S.Value.ok (x : S.Value) : Prop := (S.Inter.ok x.I) ∧ (S.Cong.ok x.C) ∧ True
/-- (cong.Cong).single -/
def S.cong_Cong_single (c : S.Cong) : Bool :=
  let b1 : Bool := c.M == 0
  b1
/-- (cong.Cong).Right -/
def S.cong_Cong_Right (c : S.Cong) : Bool :=
  let r1 : Bool := S.cong_Cong_single c
  let b2 : Bool := decide (c.R < c.M)
  let p3 : Bool := (r1 || b2)
  p3
/-- (cong.Cong).number -/
def S.cong_Cong_number (c : S.Cong) : Int :=
  let t1 : Int := IntKind.i64.wrap c.R
  t1
/-- (cong.Cong).number0 -/
def S.cong_Cong_number0 (c : S.Cong) (ok : Bool) : Int × Bool :=
  let b1 : Bool := !ok
  let r2 : Int := S.cong_Cong_number c
  (bif b1 then (0, false) else (r2, true))
/-- cong.rest -/
def S.cong_rest (n : Int) (m : Int) : Int :=
  let b1 : Bool := decide (n < 0)
  let t2 : Int := IntKind.u64.wrap (m - 1)
  let t3 : Int := IntKind.u64.wrap n
  let t4 : Int := bits .xor .u64 (if IntKind.u64.signed then -1 else IntKind.u64.max) t3
  let t5 : Int := Int.tmod t4 m
  let t6 : Int := IntKind.u64.wrap (t2 - t5)
  let t7 : Int := IntKind.u64.wrap n
  let t8 : Int := Int.tmod t7 m
  (bif b1 then t6 else t8)
def S.cong_rest_pre (n : Int) (m : Int) : Prop :=
  let b1 : Bool := decide (n < 0)
  ((b1 = true → (All [m ≠ 0] ∧ True)) ∧ (b1 = false → (All [m ≠ 0] ∧ True)))
/-- math/bits.Add64 -/
def S.math_bits_Add64 (x y c : Int) : Int × Int := ((x + y + c) % 18446744073709551616, (x + y + c) / 18446744073709551616)
def S.math_bits_Add64_pre (x y c : Int) : Prop := 0 ≤ x ∧ 0 ≤ y ∧ 0 ≤ c ∧ c ≤ 1
/-- cong.plus -/
def S.cong_plus (a : Int) (b : Int) (m : Int) : Int :=
  let r1 : Int × Int := S.math_bits_Add64 a b 0
  let b2 : Bool := decide (r1.2 > 0)
  let b3 : Bool := decide (r1.1 ≥ m)
  let p4 : Bool := (b2 || b3)
  let t5 : Int := IntKind.u64.wrap (r1.1 - m)
  (bif p4 then t5 else r1.1)
def S.cong_plus_pre (a : Int) (b : Int) (m : Int) : Prop :=
  (All [S.math_bits_Add64_pre a b 0] ∧ True)
/-- (cong.Cong).Least -/
def S.cong_Cong_Least (c : S.Cong) (a1 : Int) : Int × Bool :=
  let r1 : Bool := S.cong_Cong_single c
  let r2 : Int := S.cong_Cong_number c
  let b3 : Bool := decide (r2 ≥ a1)
  let r4 : Int × Bool := S.cong_Cong_number0 c b3
  let r5 : Int := S.cong_rest a1 c.M
  let t6 : Int := IntKind.u64.wrap (c.M - r5)
  let t7 : Int := Int.tmod t6 c.M
  let r8 : Int := S.cong_plus c.R t7 c.M
  let t9 : Int := IntKind.u64.wrap a1
  let t10 : Int := IntKind.u64.wrap (9223372036854775807 - t9)
  let b11 : Bool := decide (r8 > t10)
  let t12 : Int := IntKind.i64.wrap r8
  let t13 : Int := IntKind.i64.wrap (a1 + t12)
  (bif r1 then (r4.1, r4.2) else (bif b11 then (0, false) else (t13, true)))
def S.cong_Cong_Least_pre (c : S.Cong) (a1 : Int) : Prop :=
  let r1 : Bool := S.cong_Cong_single c
  let r5 : Int := S.cong_rest a1 c.M
  let t6 : Int := IntKind.u64.wrap (c.M - r5)
  let t7 : Int := Int.tmod t6 c.M
  let r8 : Int := S.cong_plus c.R t7 c.M
  let t9 : Int := IntKind.u64.wrap a1
  let t10 : Int := IntKind.u64.wrap (9223372036854775807 - t9)
  let b11 : Bool := decide (r8 > t10)
  ((r1 = true → True) ∧ (r1 = false → (All [S.cong_rest_pre a1 c.M, c.M ≠ 0, S.cong_plus_pre c.R t7 c.M] ∧ ((b11 = true → True) ∧ (b11 = false → True)))))
/-- (cong.Cong).Greatest -/
def S.cong_Cong_Greatest (c : S.Cong) (to : Int) : Int × Bool :=
  let r1 : Bool := S.cong_Cong_single c
  let r2 : Int := S.cong_Cong_number c
  let b3 : Bool := decide (r2 ≤ to)
  let r4 : Int × Bool := S.cong_Cong_number0 c b3
  let r5 : Int := S.cong_rest to c.M
  let t6 : Int := IntKind.u64.wrap (c.M - c.R)
  let t7 : Int := Int.tmod t6 c.M
  let r8 : Int := S.cong_plus r5 t7 c.M
  let t9 : Int := IntKind.u64.wrap to
  let t10 : Int := IntKind.u64.wrap (t9 + 9223372036854775808)
  let b11 : Bool := decide (r8 > t10)
  let t12 : Int := IntKind.i64.wrap r8
  let t13 : Int := IntKind.i64.wrap (to - t12)
  (bif r1 then (r4.1, r4.2) else (bif b11 then (0, false) else (t13, true)))
def S.cong_Cong_Greatest_pre (c : S.Cong) (to : Int) : Prop :=
  let r1 : Bool := S.cong_Cong_single c
  let r5 : Int := S.cong_rest to c.M
  let t6 : Int := IntKind.u64.wrap (c.M - c.R)
  let t7 : Int := Int.tmod t6 c.M
  let r8 : Int := S.cong_plus r5 t7 c.M
  let t9 : Int := IntKind.u64.wrap to
  let t10 : Int := IntKind.u64.wrap (t9 + 9223372036854775808)
  let b11 : Bool := decide (r8 > t10)
  ((r1 = true → True) ∧ (r1 = false → (All [S.cong_rest_pre to c.M, c.M ≠ 0, S.cong_plus_pre r5 t7 c.M] ∧ ((b11 = true → True) ∧ (b11 = false → True)))))
/-- inter.Empty -/
def S.inter_Empty : S.Inter :=
  (⟨1, 0⟩ : S.Inter)
/-- inter.Of -/
def S.inter_Of (lo : Int) (hi : Int) : S.Inter :=
  let b1 : Bool := decide (lo > hi)
  let r2 : S.Inter := S.inter_Empty
  (bif b1 then r2 else (⟨lo, hi⟩ : S.Inter))
/-- (inter.Inter).plain -/
def S.inter_Inter_plain (i : S.Inter) : S.Inter :=
  let r1 : S.Inter := S.inter_Of i.Lo i.Hi
  r1
/-- (inter.Inter).IsEmpty -/
def S.inter_Inter_IsEmpty (i : S.Inter) : Bool :=
  let r1 : S.Inter := S.inter_Inter_plain i
  let r2 : S.Inter := S.inter_Empty
  let b3 : Bool := ((r1.Lo == r2.Lo) && (r1.Hi == r2.Hi))
  b3
/-- cong.Top -/
def S.cong_Top : S.Cong :=
  (⟨1, 0⟩ : S.Cong)
/-- value.Bottom -/
def S.value_Bottom : S.Value :=
  let r1 : S.Inter := S.inter_Empty
  let r2 : S.Cong := S.cong_Top
  (⟨r1, r2⟩ : S.Value)
/-- inter.One -/
def S.inter_One (n : Int) : S.Inter :=
  (⟨n, n⟩ : S.Inter)
/-- cong.Const -/
def S.cong_Const (n : Int) : S.Cong :=
  let t1 : Int := IntKind.u64.wrap n
  (⟨0, t1⟩ : S.Cong)
/-- value.One -/
def S.value_One (n : Int) : S.Value :=
  let r1 : S.Inter := S.inter_One n
  let r2 : S.Cong := S.cong_Const n
  (⟨r1, r2⟩ : S.Value)
/-- value.Make -/
def S.value_Make (i : S.Inter) (c : S.Cong) : S.Value :=
  let r1 : Bool := S.cong_Cong_Right c
  let b2 : Bool := !r1
  let t3 : Int := Int.tmod c.R c.M
  let r4 : Int × Bool := S.cong_Cong_Least (⟨c.M, (bif b2 then t3 else c.R)⟩ : S.Cong) i.Lo
  let r5 : Int × Bool := S.cong_Cong_Greatest (⟨c.M, (bif b2 then t3 else c.R)⟩ : S.Cong) i.Hi
  let r6 : Bool := S.inter_Inter_IsEmpty i
  let b7 : Bool := !r4.2
  let p8 : Bool := (r6 || b7)
  let b9 : Bool := !r5.2
  let p10 : Bool := (p8 || b9)
  let b11 : Bool := decide (r4.1 > r5.1)
  let p12 : Bool := (p10 || b11)
  let r13 : S.Value := S.value_Bottom
  let b14 : Bool := r4.1 == r5.1
  let r15 : S.Value := S.value_One r4.1
  let r16 : S.Inter := S.inter_Of r4.1 r5.1
  (bif p12 then r13 else (bif b14 then r15 else (⟨r16, (⟨c.M, (bif b2 then t3 else c.R)⟩ : S.Cong)⟩ : S.Value)))
def S.value_Make_pre (i : S.Inter) (c : S.Cong) : Prop :=
  let r1 : Bool := S.cong_Cong_Right c
  let b2 : Bool := !r1
  let t3 : Int := Int.tmod c.R c.M
  let r4 : Int × Bool := S.cong_Cong_Least (⟨c.M, (bif b2 then t3 else c.R)⟩ : S.Cong) i.Lo
  let r5 : Int × Bool := S.cong_Cong_Greatest (⟨c.M, (bif b2 then t3 else c.R)⟩ : S.Cong) i.Hi
  let r6 : Bool := S.inter_Inter_IsEmpty i
  let b7 : Bool := !r4.2
  let p8 : Bool := (r6 || b7)
  let b9 : Bool := !r5.2
  let p10 : Bool := (p8 || b9)
  let b11 : Bool := decide (r4.1 > r5.1)
  let p12 : Bool := (p10 || b11)
  let b14 : Bool := r4.1 == r5.1
  (All [(b2 = true → c.M ≠ 0), S.cong_Cong_Least_pre (⟨c.M, (bif b2 then t3 else c.R)⟩ : S.Cong) i.Lo, S.cong_Cong_Greatest_pre (⟨c.M, (bif b2 then t3 else c.R)⟩ : S.Cong) i.Hi] ∧ ((p12 = true → True) ∧ (p12 = false → ((b14 = true → True) ∧ (b14 = false → True)))))
/-- cond.plain -/
def S.cond_plain (v : S.Value) : S.Value :=
  let r1 : S.Value := S.value_Make v.I v.C
  r1
def S.cond_plain_pre (v : S.Value) : Prop :=
  (All [S.value_Make_pre v.I v.C] ∧ True)
/-- (value.Value).reduced -/
def S.value_Value_reduced (v : S.Value) : S.Value :=
  let r1 : S.Value := S.value_Make v.I v.C
  r1
def S.value_Value_reduced_pre (v : S.Value) : Prop :=
  (All [S.value_Make_pre v.I v.C] ∧ True)
/-- (value.Value).IsBottom -/
def S.value_Value_IsBottom (v : S.Value) : Bool :=
  let r1 : S.Value := S.value_Value_reduced v
  let r2 : S.Value := S.value_Bottom
  let b3 : Bool := ((r1.I.Lo == r2.I.Lo) && ((r1.I.Hi == r2.I.Hi) && ((r1.C.M == r2.C.M) && (r1.C.R == r2.C.R))))
  b3
def S.value_Value_IsBottom_pre (v : S.Value) : Prop :=
  (All [S.value_Value_reduced_pre v] ∧ True)
/-- inter.Whole -/
def S.inter_Whole : S.Inter :=
  (⟨(-9223372036854775808), 9223372036854775807⟩ : S.Inter)
/-- value.Top -/
def S.value_Top : S.Value :=
  let r1 : S.Inter := S.inter_Whole
  let r2 : S.Cong := S.cong_Top
  (⟨r1, r2⟩ : S.Value)
/-- cond.zero -/
def S.cond_zero : S.Value :=
  let r1 : S.Value := S.value_One 0
  r1
/-- (inter.Inter).Has -/
def S.inter_Inter_Has (i : S.Inter) (n : Int) : Bool :=
  let b1 : Bool := decide (i.Lo ≤ n)
  let b2 : Bool := decide (n ≤ i.Hi)
  let p3 : Bool := (b1 && b2)
  p3
/-- inter.Within -/
def S.inter_Within (a : S.Inter) (b : S.Inter) : Bool :=
  let r1 : Bool := S.inter_Inter_IsEmpty a
  let r2 : Bool := S.inter_Inter_Has b a.Lo
  let r3 : Bool := S.inter_Inter_Has b a.Hi
  let p4 : Bool := (r2 && r3)
  let p5 : Bool := (r1 || p4)
  p5
/-- (cong.Cong).by -/
def S.cong_Cong_by (c : S.Cong) (g : Int) : Int :=
  let r1 : Bool := S.cong_Cong_single c
  let r2 : Int := S.cong_Cong_number c
  let r3 : Int := S.cong_rest r2 g
  let t4 : Int := Int.tmod c.R g
  (bif r1 then r3 else t4)
def S.cong_Cong_by_pre (c : S.Cong) (g : Int) : Prop :=
  let r1 : Bool := S.cong_Cong_single c
  let r2 : Int := S.cong_Cong_number c
  ((r1 = true → (All [S.cong_rest_pre r2 g] ∧ True)) ∧ (r1 = false → (All [g ≠ 0] ∧ True)))
/-- cong.Within -/
def S.cong_Within (a : S.Cong) (b : S.Cong) : Bool :=
  let r1 : Bool := S.cong_Cong_single b
  let b2 : Bool := ((a.M == b.M) && (a.R == b.R))
  let t3 : Int := Int.tmod a.M b.M
  let b4 : Bool := t3 == 0
  let r5 : Int := S.cong_Cong_by a b.M
  let b6 : Bool := r5 == b.R
  let p7 : Bool := (b4 && b6)
  (bif r1 then b2 else p7)
def S.cong_Within_pre (a : S.Cong) (b : S.Cong) : Prop :=
  let r1 : Bool := S.cong_Cong_single b
  let t3 : Int := Int.tmod a.M b.M
  let b4 : Bool := t3 == 0
  ((r1 = true → True) ∧ (r1 = false → (All [b.M ≠ 0, (b4 = true → S.cong_Cong_by_pre a b.M)] ∧ True)))
/-- value.Within -/
def S.value_Within (a : S.Value) (b : S.Value) : Bool :=
  let r1 : S.Value := S.value_Value_reduced a
  let r2 : S.Value := S.value_Value_reduced b
  let r3 : S.Value := S.value_Bottom
  let b4 : Bool := ((r1.I.Lo == r3.I.Lo) && ((r1.I.Hi == r3.I.Hi) && ((r1.C.M == r3.C.M) && (r1.C.R == r3.C.R))))
  let r5 : Bool := S.inter_Within r1.I r2.I
  let r6 : Bool := S.cong_Within r1.C r2.C
  let p7 : Bool := (r5 && r6)
  let p8 : Bool := (b4 || p7)
  p8
def S.value_Within_pre (a : S.Value) (b : S.Value) : Prop :=
  let r1 : S.Value := S.value_Value_reduced a
  let r2 : S.Value := S.value_Value_reduced b
  let r3 : S.Value := S.value_Bottom
  let b4 : Bool := ((r1.I.Lo == r3.I.Lo) && ((r1.I.Hi == r3.I.Hi) && ((r1.C.M == r3.C.M) && (r1.C.R == r3.C.R))))
  let r5 : Bool := S.inter_Within r1.I r2.I
  (All [S.value_Value_reduced_pre a, S.value_Value_reduced_pre b, (b4 = false → (r5 = true → S.cong_Within_pre r1.C r2.C))] ∧ True)
/-- (value.Value).Has -/
def S.value_Value_Has (v : S.Value) (n : Int) : Bool :=
  let r1 : S.Value := S.value_One n
  let r2 : Bool := S.value_Within r1 v
  r2
def S.value_Value_Has_pre (v : S.Value) (n : Int) : Prop :=
  let r1 : S.Value := S.value_One n
  (All [S.value_Within_pre r1 v] ∧ True)
/-- cond.Truth -/
def S.cond_Truth (v : S.Value) : Bool × Bool :=
  let r1 : S.Value := S.cond_plain v
  let r2 : Bool := S.value_Value_IsBottom r1
  let b3 : Bool := !r2
  let r4 : S.Value := S.cond_zero
  let b5 : Bool := !((r1.I.Lo == r4.I.Lo) && ((r1.I.Hi == r4.I.Hi) && ((r1.C.M == r4.C.M) && (r1.C.R == r4.C.R))))
  let p6 : Bool := (b3 && b5)
  let r7 : Bool := S.value_Value_Has r1 0
  (p6, r7)
def S.cond_Truth_pre (v : S.Value) : Prop :=
  let r1 : S.Value := S.cond_plain v
  (All [S.cond_plain_pre v, S.value_Value_IsBottom_pre r1, S.value_Value_Has_pre r1 0] ∧ True)
@[ext] structure S.cong_gcd_L0 where
  a : Int
  b : Int
def S.cong_gcd_L0_step (x : S.cong_gcd_L0) : S.cong_gcd_L0 ⊕ (S.cong_gcd_L0) :=
  let b1 : Bool := x.b == 0
  let t2 : Int := Int.tmod x.a x.b
  (bif b1 then (.inr ⟨x.a, x.b⟩) else (.inl ⟨x.b, t2⟩))
def S.cong_gcd_L0_vcs (x : S.cong_gcd_L0) : Prop :=
  let b1 : Bool := x.b == 0
  ((b1 = true → True) ∧ (b1 = false → (All [x.b ≠ 0] ∧ True)))
noncomputable def S.cong_gcd_L0_run (x : S.cong_gcd_L0) : S.cong_gcd_L0 := theRun (fun x => x) S.cong_gcd_L0_step S.cong_gcd_L0_vcs x
/-- cong.gcd -/
noncomputable def S.cong_gcd (a : Int) (b : Int) : Int :=
  let x1 : S.cong_gcd_L0 := (⟨a, b⟩ : S.cong_gcd_L0)
  let y2 : S.cong_gcd_L0 := S.cong_gcd_L0_run x1
  y2.a
def S.cong_gcd_pre (a : Int) (b : Int) : Prop :=
  let x1 : S.cong_gcd_L0 := (⟨a, b⟩ : S.cong_gcd_L0)
  (All [Runs S.cong_gcd_L0_step S.cong_gcd_L0_vcs x1 (S.cong_gcd_L0_run x1)] ∧ True)
/-- cong.Make -/
def S.cong_Make (m : Int) (n : Int) : S.Cong :=
  let b1 : Bool := m == 0
  let r2 : S.Cong := S.cong_Const n
  let r3 : Int := S.cong_rest n m
  (bif b1 then r2 else (⟨m, r3⟩ : S.Cong))
def S.cong_Make_pre (m : Int) (n : Int) : Prop :=
  let b1 : Bool := m == 0
  ((b1 = true → True) ∧ (b1 = false → (All [S.cong_rest_pre n m] ∧ True)))
/-- (cong.Cong).Has -/
def S.cong_Cong_Has (c : S.Cong) (n : Int) : Bool :=
  let r1 : S.Cong := S.cong_Make c.M n
  let b2 : Bool := ((r1.M == c.M) && (r1.R == c.R))
  b2
def S.cong_Cong_Has_pre (c : S.Cong) (n : Int) : Prop :=
  (All [S.cong_Make_pre c.M n] ∧ True)
/-- (cong.Cong).if1 -/
def S.cong_Cong_if1 (c : S.Cong) (ok : Bool) : S.Cong × Bool :=
  let b1 : Bool := !ok
  (bif b1 then ((⟨0, 0⟩ : S.Cong), false) else (c, true))
/-- cong.Meet -/
noncomputable def S.cong_Meet (a : S.Cong) (b : S.Cong) : S.Cong × Bool :=
  let r1 : Int := S.cong_gcd a.M b.M
  let r2 : Bool := S.cong_Cong_single a
  let r3 : Int := S.cong_Cong_number a
  let r4 : Bool := S.cong_Cong_Has b r3
  let r5 : S.Cong × Bool := S.cong_Cong_if1 a r4
  let r6 : Bool := S.cong_Cong_single b
  let r7 : Int := S.cong_Cong_number b
  let r8 : Bool := S.cong_Cong_Has a r7
  let r9 : S.Cong × Bool := S.cong_Cong_if1 b r8
  let r10 : Int := S.cong_Cong_by a r1
  let r11 : Int := S.cong_Cong_by b r1
  let b12 : Bool := r10 != r11
  let r13 : Bool := S.cong_Within a b
  let r14 : Bool := S.cong_Within b a
  let b15 : Bool := !r14
  let b16 : Bool := decide (a.M ≥ b.M)
  let p17 : Bool := (b15 && b16)
  let p18 : Bool := (r13 || p17)
  (bif r2 then (r5.1, r5.2) else (bif r6 then (r9.1, r9.2) else (bif b12 then ((⟨0, 0⟩ : S.Cong), false) else (bif p18 then (a, true) else (b, true)))))
def S.cong_Meet_pre (a : S.Cong) (b : S.Cong) : Prop :=
  let r1 : Int := S.cong_gcd a.M b.M
  let r2 : Bool := S.cong_Cong_single a
  let r3 : Int := S.cong_Cong_number a
  let r6 : Bool := S.cong_Cong_single b
  let r7 : Int := S.cong_Cong_number b
  let r10 : Int := S.cong_Cong_by a r1
  let r11 : Int := S.cong_Cong_by b r1
  let b12 : Bool := r10 != r11
  let r13 : Bool := S.cong_Within a b
  let r14 : Bool := S.cong_Within b a
  let b15 : Bool := !r14
  let b16 : Bool := decide (a.M ≥ b.M)
  let p17 : Bool := (b15 && b16)
  let p18 : Bool := (r13 || p17)
  (All [S.cong_gcd_pre a.M b.M] ∧ ((r2 = true → (All [S.cong_Cong_Has_pre b r3] ∧ True)) ∧ (r2 = false → ((r6 = true → (All [S.cong_Cong_Has_pre a r7] ∧ True)) ∧ (r6 = false → (All [S.cong_Cong_by_pre a r1, S.cong_Cong_by_pre b r1] ∧ ((b12 = true → True) ∧ (b12 = false → (All [S.cong_Within_pre a b, (r13 = false → S.cong_Within_pre b a)] ∧ ((p18 = true → True) ∧ (p18 = false → True)))))))))))
/-- inter.Meet$1 -/
def S.inter_Meet_1 (a : S.Inter) (b : S.Inter) : S.Inter :=
  let m1 : Int := if b.Lo > a.Lo then b.Lo else a.Lo
  let m2 : Int := if b.Hi < a.Hi then b.Hi else a.Hi
  let r3 : S.Inter := S.inter_Of m1 m2
  r3
@[ext] structure S.inter_fold_inter_Meet_1_L0 where
  t9 : (List S.Inter)
  t10 : Int
  t11 : Int
  first : S.Inter
def S.inter_fold_inter_Meet_1_L0_step (x : S.inter_fold_inter_Meet_1_L0) : S.inter_fold_inter_Meet_1_L0 ⊕ (S.inter_fold_inter_Meet_1_L0) :=
  let b1 : Bool := decide (x.t11 < x.t10)
  let e2 : S.Inter := x.t9.getD (Int.toNat x.t11) (⟨0, 0⟩ : S.Inter)
  let r3 : S.Inter := S.inter_Meet_1 x.first e2
  let t4 : Int := IntKind.i64.wrap (x.t11 + 1)
  (bif b1 then (.inl ⟨x.t9, x.t10, t4, r3⟩) else (.inr ⟨x.t9, x.t10, x.t11, x.first⟩))
def S.inter_fold_inter_Meet_1_L0_vcs (x : S.inter_fold_inter_Meet_1_L0) : Prop :=
  let b1 : Bool := decide (x.t11 < x.t10)
  ((b1 = true → (All [(0 : Int) ≤ x.t11, x.t11 < (x.t9.length : Int)] ∧ True)) ∧ (b1 = false → True))
noncomputable def S.inter_fold_inter_Meet_1_L0_run (x : S.inter_fold_inter_Meet_1_L0) : S.inter_fold_inter_Meet_1_L0 := theRun (fun x => x) S.inter_fold_inter_Meet_1_L0_step S.inter_fold_inter_Meet_1_L0_vcs x
/-- inter.fold -/
noncomputable def S.inter_fold_inter_Meet_1 (first : S.Inter) (l : (List S.Inter)) : S.Inter :=
  let x1 : S.inter_fold_inter_Meet_1_L0 := (⟨l, (l.length : Int), 0, first⟩ : S.inter_fold_inter_Meet_1_L0)
  let y2 : S.inter_fold_inter_Meet_1_L0 := S.inter_fold_inter_Meet_1_L0_run x1
  let r3 : S.Inter := S.inter_Inter_plain y2.first
  r3
def S.inter_fold_inter_Meet_1_pre (first : S.Inter) (l : (List S.Inter)) : Prop :=
  let x1 : S.inter_fold_inter_Meet_1_L0 := (⟨l, (l.length : Int), 0, first⟩ : S.inter_fold_inter_Meet_1_L0)
  (All [Runs S.inter_fold_inter_Meet_1_L0_step S.inter_fold_inter_Meet_1_L0_vcs x1 (S.inter_fold_inter_Meet_1_L0_run x1)] ∧ True)
/-- inter.Meet -/
noncomputable def S.inter_Meet (l : (List S.Inter)) : S.Inter :=
  let r1 : S.Inter := S.inter_Whole
  let r2 : S.Inter := S.inter_fold_inter_Meet_1 r1 l
  r2
def S.inter_Meet_pre (l : (List S.Inter)) : Prop :=
  let r1 : S.Inter := S.inter_Whole
  (All [S.inter_fold_inter_Meet_1_pre r1 l] ∧ True)
/-- cond.alike -/
noncomputable def S.cond_alike (a : S.Value) (b : S.Value) : S.Value × S.Value :=
  let r1 : S.Cong × Bool := S.cong_Meet a.C b.C
  let b2 : Bool := !r1.2
  let r3 : S.Value := S.value_Bottom
  let r4 : S.Value := S.value_Bottom
  let r5 : S.Inter := S.inter_Meet ([a.I, b.I] : List S.Inter)
  let r6 : S.Value := S.value_Make r5 a.C
  let r7 : S.Value := S.value_Make r5 b.C
  let r8 : Bool := S.cong_Within b.C a.C
  let r9 : S.Value := S.value_Make r5 b.C
  let r10 : Bool := S.cong_Within a.C b.C
  let r11 : S.Value := S.value_Make r5 a.C
  (bif b2 then (r3, r4) else ((⟨(⟨(bif r8 then r9.I.Lo else r6.I.Lo), (bif r8 then r9.I.Hi else r6.I.Hi)⟩ : S.Inter), (⟨(bif r8 then r9.C.M else r6.C.M), (bif r8 then r9.C.R else r6.C.R)⟩ : S.Cong)⟩ : S.Value), (⟨(⟨(bif r10 then r11.I.Lo else r7.I.Lo), (bif r10 then r11.I.Hi else r7.I.Hi)⟩ : S.Inter), (⟨(bif r10 then r11.C.M else r7.C.M), (bif r10 then r11.C.R else r7.C.R)⟩ : S.Cong)⟩ : S.Value)))
def S.cond_alike_pre (a : S.Value) (b : S.Value) : Prop :=
  let r1 : S.Cong × Bool := S.cong_Meet a.C b.C
  let b2 : Bool := !r1.2
  let r5 : S.Inter := S.inter_Meet ([a.I, b.I] : List S.Inter)
  let r8 : Bool := S.cong_Within b.C a.C
  let r10 : Bool := S.cong_Within a.C b.C
  (All [S.cong_Meet_pre a.C b.C] ∧ ((b2 = true → True) ∧ (b2 = false → (All [S.inter_Meet_pre ([a.I, b.I] : List S.Inter), S.value_Make_pre r5 a.C, S.value_Make_pre r5 b.C, S.cong_Within_pre b.C a.C, (r8 = true → S.value_Make_pre r5 b.C), S.cong_Within_pre a.C b.C, (r10 = true → S.value_Make_pre r5 a.C)] ∧ True))))
/-- (inter.Inter).Single -/
def S.inter_Inter_Single (i : S.Inter) : Int × Bool :=
  let r1 : S.Inter := S.inter_One i.Lo
  let b2 : Bool := !((i.Lo == r1.Lo) && (i.Hi == r1.Hi))
  (bif b2 then (0, false) else (i.Lo, true))
/-- (value.Value).Single -/
def S.value_Value_Single (v : S.Value) : Int × Bool :=
  let r1 : S.Value := S.value_Value_reduced v
  let r2 : Int × Bool := S.inter_Inter_Single r1.I
  (r2.1, r2.2)
def S.value_Value_Single_pre (v : S.Value) : Prop :=
  (All [S.value_Value_reduced_pre v] ∧ True)
/-- cond.single -/
def S.cond_single (a : S.Value) (b : S.Value) : Bool :=
  let r1 : Int × Bool := S.value_Value_Single a
  let r2 : Int × Bool := S.value_Value_Single b
  let p3 : Bool := (r1.2 && r2.2)
  let b4 : Bool := r1.1 == r2.1
  let p5 : Bool := (p3 && b4)
  p5
def S.cond_single_pre (a : S.Value) (b : S.Value) : Prop :=
  (All [S.value_Value_Single_pre a, S.value_Value_Single_pre b] ∧ True)
/-- cond.tells -/
noncomputable def S.cond_tells_F : Nat → Int → S.Value → S.Value → Bool × Bool
  | 0, _, _, _ => (false, false)
  | n + 1, op, a, b =>
  let r1 : Bool × Bool := S.cond_Truth a
  let r2 : Bool × Bool := S.cond_Truth b
  let b3 : Bool := op == 0
  let b4 : Bool := op == 1
  let b5 : Bool := op == 3
  let b6 : Bool := op == 2
  let b7 : Bool := op == 6
  let b8 : Bool := op == 4
  let b9 : Bool := op == 7
  let p10 : Bool := (r1.1 || r2.1)
  let p11 : Bool := (r1.2 && r2.2)
  let p12 : Bool := (r1.1 && r2.1)
  let p13 : Bool := (r1.2 || r2.2)
  let r14 : Bool × Bool := S.cond_tells_F n 2 a b
  let r15 : S.Value × S.Value := S.cond_alike a b
  let r16 : Bool := S.value_Value_IsBottom r15.1
  let b17 : Bool := !r16
  let r18 : Bool := S.value_Value_IsBottom r15.2
  let b19 : Bool := !r18
  let p20 : Bool := (b17 && b19)
  let r21 : Bool := S.cond_single a b
  let b22 : Bool := !r21
  let b23 : Bool := decide (b.I.Lo < a.I.Hi)
  let b24 : Bool := decide (b.I.Hi ≥ a.I.Lo)
  let b25 : Bool := decide (a.I.Lo < b.I.Hi)
  let b26 : Bool := decide (a.I.Hi ≥ b.I.Lo)
  let b27 : Bool := decide ((bif b9 then b.I.Lo else a.I.Lo) ≤ (bif b9 then a.I.Hi else b.I.Hi))
  let b28 : Bool := decide ((bif b9 then b.I.Hi else a.I.Hi) > (bif b9 then a.I.Lo else b.I.Lo))
  (bif b3 then (p10, p11) else (bif b4 then (p12, p13) else (bif b5 then (r14.2, r14.1) else (bif b6 then (p20, b22) else (bif b7 then (b23, b24) else (bif b8 then (b25, b26) else (b27, b28)))))))
def S.cond_tells_D : Nat → Int → S.Value → S.Value → Prop
  | 0, _, _, _ => False
  | n + 1, op, a, b =>
  let b3 : Bool := op == 0
  let b4 : Bool := op == 1
  let b5 : Bool := op == 3
  let b6 : Bool := op == 2
  let b7 : Bool := op == 6
  let b8 : Bool := op == 4
  let r15 : S.Value × S.Value := S.cond_alike a b
  let r16 : Bool := S.value_Value_IsBottom r15.1
  let b17 : Bool := !r16
  (All [S.cond_Truth_pre a, S.cond_Truth_pre b] ∧ ((b3 = true → True) ∧ (b3 = false → ((b4 = true → True) ∧ (b4 = false → ((b5 = true → (All [S.cond_tells_D n 2 a b] ∧ True)) ∧ (b5 = false → ((b6 = true → (All [S.cond_alike_pre a b, S.value_Value_IsBottom_pre r15.1, (b17 = true → S.value_Value_IsBottom_pre r15.2), S.cond_single_pre a b] ∧ True)) ∧ (b6 = false → ((b7 = true → True) ∧ (b7 = false → ((b8 = true → True) ∧ (b8 = false → True)))))))))))))
noncomputable def S.cond_tells (op : Int) (a : S.Value) (b : S.Value) : Bool × Bool := S.cond_tells_F (Classical.epsilon fun n => S.cond_tells_D n op a b) op a b
def S.cond_tells_pre (op : Int) (a : S.Value) (b : S.Value) : Prop := ∃ n, S.cond_tells_D n op a b
/-- value.Range -/
def S.value_Range (lo : Int) (hi : Int) : S.Value :=
  let r1 : S.Inter := S.inter_Of lo hi
  let r2 : S.Cong := S.cong_Top
  let r3 : S.Value := S.value_Make r1 r2
  r3
def S.value_Range_pre (lo : Int) (hi : Int) : Prop :=
  let r1 : S.Inter := S.inter_Of lo hi
  let r2 : S.Cong := S.cong_Top
  (All [S.value_Make_pre r1 r2] ∧ True)
/-- cond.truth -/
def S.cond_truth (yes : Bool) (no : Bool) : S.Value :=
  let p1 : Bool := (yes && no)
  let r2 : S.Value := S.value_Range 0 1
  let r3 : S.Value := S.value_One 1
  let r4 : S.Value := S.cond_zero
  let r5 : S.Value := S.value_Bottom
  (bif p1 then r2 else (bif yes then r3 else (bif no then r4 else r5)))
def S.cond_truth_pre (yes : Bool) (no : Bool) : Prop :=
  let p1 : Bool := (yes && no)
  ((p1 = true → (All [S.value_Range_pre 0 1] ∧ True)) ∧ (p1 = false → ((yes = true → True) ∧ (yes = false → ((no = true → True) ∧ (no = false → True))))))
/-- cond.Do -/
noncomputable def S.cond_Do (op : Int) (a : S.Value) (b : S.Value) : S.Value :=
  let r1 : S.Value := S.cond_plain a
  let r2 : S.Value := S.cond_plain b
  let r3 : Bool := S.value_Value_IsBottom r1
  let r4 : Bool := S.value_Value_IsBottom r2
  let p5 : Bool := (r3 || r4)
  let r6 : S.Value := S.value_Bottom
  let b7 : Bool := decide (op < 0)
  let b8 : Bool := decide (op > 7)
  let p9 : Bool := (b7 || b8)
  let r10 : S.Value := S.value_Top
  let r11 : Bool × Bool := S.cond_tells op r1 r2
  let r12 : S.Value := S.cond_truth r11.1 r11.2
  (bif p5 then r6 else (bif p9 then r10 else r12))
def S.cond_Do_pre (op : Int) (a : S.Value) (b : S.Value) : Prop :=
  let r1 : S.Value := S.cond_plain a
  let r2 : S.Value := S.cond_plain b
  let r3 : Bool := S.value_Value_IsBottom r1
  let r4 : Bool := S.value_Value_IsBottom r2
  let p5 : Bool := (r3 || r4)
  let b7 : Bool := decide (op < 0)
  let b8 : Bool := decide (op > 7)
  let p9 : Bool := (b7 || b8)
  let r11 : Bool × Bool := S.cond_tells op r1 r2
  (All [S.cond_plain_pre a, S.cond_plain_pre b, S.value_Value_IsBottom_pre r1, (r3 = false → S.value_Value_IsBottom_pre r2)] ∧ ((p5 = true → True) ∧ (p5 = false → ((p9 = true → True) ∧ (p9 = false → (All [S.cond_tells_pre op r1 r2, S.cond_truth_pre r11.1 r11.2] ∧ True))))))
/-- cond.between -/
noncomputable def S.cond_between (v : S.Value) (lo : Int) (hi : Int) : S.Value :=
  let r1 : S.Inter := S.inter_Of lo hi
  let r2 : S.Inter := S.inter_Meet ([v.I, r1] : List S.Inter)
  let r3 : S.Value := S.value_Make r2 v.C
  r3
def S.cond_between_pre (v : S.Value) (lo : Int) (hi : Int) : Prop :=
  let r1 : S.Inter := S.inter_Of lo hi
  let r2 : S.Inter := S.inter_Meet ([v.I, r1] : List S.Inter)
  (All [S.inter_Meet_pre ([v.I, r1] : List S.Inter), S.value_Make_pre r2 v.C] ∧ True)
/-- cond.from -/
noncomputable def S.cond_from (v : S.Value) (n : Int) : S.Value :=
  let r1 : S.Value := S.cond_between v n 9223372036854775807
  r1
def S.cond_from_pre (v : S.Value) (n : Int) : Prop :=
  (All [S.cond_between_pre v n 9223372036854775807] ∧ True)
/-- cond.above -/
noncomputable def S.cond_above (v : S.Value) (n : Int) : S.Value :=
  let b1 : Bool := n == 9223372036854775807
  let r2 : S.Value := S.value_Bottom
  let t3 : Int := IntKind.i64.wrap (n + 1)
  let r4 : S.Value := S.cond_from v t3
  (bif b1 then r2 else r4)
def S.cond_above_pre (v : S.Value) (n : Int) : Prop :=
  let b1 : Bool := n == 9223372036854775807
  let t3 : Int := IntKind.i64.wrap (n + 1)
  ((b1 = true → True) ∧ (b1 = false → (All [S.cond_from_pre v t3] ∧ True)))
/-- cond.upto -/
noncomputable def S.cond_upto (v : S.Value) (n : Int) : S.Value :=
  let r1 : S.Value := S.cond_between v (-9223372036854775808) n
  r1
def S.cond_upto_pre (v : S.Value) (n : Int) : Prop :=
  (All [S.cond_between_pre v (-9223372036854775808) n] ∧ True)
/-- cond.below -/
noncomputable def S.cond_below (v : S.Value) (n : Int) : S.Value :=
  let b1 : Bool := n == (-9223372036854775808)
  let r2 : S.Value := S.value_Bottom
  let t3 : Int := IntKind.i64.wrap (n - 1)
  let r4 : S.Value := S.cond_upto v t3
  (bif b1 then r2 else r4)
def S.cond_below_pre (v : S.Value) (n : Int) : Prop :=
  let b1 : Bool := n == (-9223372036854775808)
  let t3 : Int := IntKind.i64.wrap (n - 1)
  ((b1 = true → True) ∧ (b1 = false → (All [S.cond_upto_pre v t3] ∧ True)))
/-- cond.Without -/
noncomputable def S.cond_Without (v : S.Value) (n : Int) : S.Value :=
  let r1 : S.Value := S.cond_plain v
  let r2 : Bool := S.value_Value_IsBottom r1
  let b3 : Bool := n == r1.I.Lo
  let r4 : S.Value := S.cond_above r1 n
  let b5 : Bool := n == r1.I.Hi
  let r6 : S.Value := S.cond_below r1 n
  (bif r2 then r1 else (bif b3 then r4 else (bif b5 then r6 else r1)))
def S.cond_Without_pre (v : S.Value) (n : Int) : Prop :=
  let r1 : S.Value := S.cond_plain v
  let r2 : Bool := S.value_Value_IsBottom r1
  let b3 : Bool := n == r1.I.Lo
  let b5 : Bool := n == r1.I.Hi
  (All [S.cond_plain_pre v, S.value_Value_IsBottom_pre r1] ∧ ((r2 = true → True) ∧ (r2 = false → ((b3 = true → (All [S.cond_above_pre r1 n] ∧ True)) ∧ (b3 = false → ((b5 = true → (All [S.cond_below_pre r1 n] ∧ True)) ∧ (b5 = false → True)))))))
/-- value.Meet$1 -/
noncomputable def S.value_Meet_1 (a : S.Value) (b : S.Value) : S.Value :=
  let r1 : S.Cong × Bool := S.cong_Meet a.C b.C
  let b2 : Bool := !r1.2
  let r3 : S.Value := S.value_Bottom
  let r4 : S.Inter := S.inter_Meet ([a.I, b.I] : List S.Inter)
  let r5 : S.Value := S.value_Make r4 r1.1
  (bif b2 then r3 else r5)
def S.value_Meet_1_pre (a : S.Value) (b : S.Value) : Prop :=
  let r1 : S.Cong × Bool := S.cong_Meet a.C b.C
  let b2 : Bool := !r1.2
  let r4 : S.Inter := S.inter_Meet ([a.I, b.I] : List S.Inter)
  (All [S.cong_Meet_pre a.C b.C] ∧ ((b2 = true → True) ∧ (b2 = false → (All [S.inter_Meet_pre ([a.I, b.I] : List S.Inter), S.value_Make_pre r4 r1.1] ∧ True))))
@[ext] structure S.value_fold_value_Meet_1_L0 where
  t9 : (List S.Value)
  t10 : Int
  t11 : Int
  first : S.Value
noncomputable def S.value_fold_value_Meet_1_L0_step (x : S.value_fold_value_Meet_1_L0) : S.value_fold_value_Meet_1_L0 ⊕ (S.value_fold_value_Meet_1_L0) :=
  let b1 : Bool := decide (x.t11 < x.t10)
  let e2 : S.Value := x.t9.getD (Int.toNat x.t11) (⟨(⟨0, 0⟩ : S.Inter), (⟨0, 0⟩ : S.Cong)⟩ : S.Value)
  let r3 : S.Value := S.value_Value_reduced e2
  let r4 : S.Value := S.value_Meet_1 x.first r3
  let t5 : Int := IntKind.i64.wrap (x.t11 + 1)
  (bif b1 then (.inl ⟨x.t9, x.t10, t5, r4⟩) else (.inr ⟨x.t9, x.t10, x.t11, x.first⟩))
def S.value_fold_value_Meet_1_L0_vcs (x : S.value_fold_value_Meet_1_L0) : Prop :=
  let b1 : Bool := decide (x.t11 < x.t10)
  let e2 : S.Value := x.t9.getD (Int.toNat x.t11) (⟨(⟨0, 0⟩ : S.Inter), (⟨0, 0⟩ : S.Cong)⟩ : S.Value)
  let r3 : S.Value := S.value_Value_reduced e2
  ((b1 = true → (All [(0 : Int) ≤ x.t11, x.t11 < (x.t9.length : Int), S.value_Value_reduced_pre e2, S.value_Meet_1_pre x.first r3] ∧ True)) ∧ (b1 = false → True))
noncomputable def S.value_fold_value_Meet_1_L0_run (x : S.value_fold_value_Meet_1_L0) : S.value_fold_value_Meet_1_L0 := theRun (fun x => x) S.value_fold_value_Meet_1_L0_step S.value_fold_value_Meet_1_L0_vcs x
/-- value.fold -/
noncomputable def S.value_fold_value_Meet_1 (first : S.Value) (l : (List S.Value)) : S.Value :=
  let x1 : S.value_fold_value_Meet_1_L0 := (⟨l, (l.length : Int), 0, first⟩ : S.value_fold_value_Meet_1_L0)
  let y2 : S.value_fold_value_Meet_1_L0 := S.value_fold_value_Meet_1_L0_run x1
  y2.first
def S.value_fold_value_Meet_1_pre (first : S.Value) (l : (List S.Value)) : Prop :=
  let x1 : S.value_fold_value_Meet_1_L0 := (⟨l, (l.length : Int), 0, first⟩ : S.value_fold_value_Meet_1_L0)
  (All [Runs S.value_fold_value_Meet_1_L0_step S.value_fold_value_Meet_1_L0_vcs x1 (S.value_fold_value_Meet_1_L0_run x1)] ∧ True)
/-- value.Meet -/
noncomputable def S.value_Meet (l : (List S.Value)) : S.Value :=
  let r1 : S.Value := S.value_Top
  let r2 : S.Value := S.value_fold_value_Meet_1 r1 l
  r2
def S.value_Meet_pre (l : (List S.Value)) : Prop :=
  let r1 : S.Value := S.value_Top
  (All [S.value_fold_value_Meet_1_pre r1 l] ∧ True)
/-- cond.Only -/
noncomputable def S.cond_Only (v : S.Value) (truth : Bool) : S.Value :=
  let r1 : S.Value := S.cond_Without v 0
  let r2 : S.Value := S.cond_plain v
  let r3 : S.Value := S.cond_zero
  let r4 : S.Value := S.value_Meet ([r2, r3] : List S.Value)
  (bif truth then r1 else r4)
def S.cond_Only_pre (v : S.Value) (truth : Bool) : Prop :=
  let r2 : S.Value := S.cond_plain v
  let r3 : S.Value := S.cond_zero
  ((truth = true → (All [S.cond_Without_pre v 0] ∧ True)) ∧ (truth = false → (All [S.cond_plain_pre v, S.value_Meet_pre ([r2, r3] : List S.Value)] ∧ True)))
/-- cond.without -/
noncomputable def S.cond_without (v : S.Value) (other : S.Value) : S.Value :=
  let r1 : Int × Bool := S.value_Value_Single other
  let r2 : S.Value := S.cond_Without v r1.1
  (bif r1.2 then r2 else v)
def S.cond_without_pre (v : S.Value) (other : S.Value) : Prop :=
  let r1 : Int × Bool := S.value_Value_Single other
  (All [S.value_Value_Single_pre other] ∧ ((r1.2 = true → (All [S.cond_Without_pre v r1.1] ∧ True)) ∧ (r1.2 = false → True)))
/-- cond.left -/
noncomputable def S.cond_left (op : Int) (a : S.Value) (b : S.Value) : S.Value × S.Value :=
  let b1 : Bool := op == 1
  let r2 : S.Value := S.cond_Only a true
  let r3 : S.Value := S.cond_Only b true
  let b4 : Bool := op == 2
  let r5 : S.Value × S.Value := S.cond_alike a b
  let b6 : Bool := op == 3
  let r7 : S.Value := S.cond_without a b
  let r8 : S.Value := S.cond_without b a
  let b9 : Bool := op == 4
  let r10 : S.Value := S.cond_below a b.I.Hi
  let r11 : S.Value := S.cond_above b a.I.Lo
  let b12 : Bool := op == 5
  let r13 : S.Value := S.cond_upto a b.I.Hi
  let r14 : S.Value := S.cond_from b a.I.Lo
  let b15 : Bool := op == 6
  let r16 : S.Value := S.cond_above a b.I.Lo
  let r17 : S.Value := S.cond_below b a.I.Hi
  let b18 : Bool := op == 7
  let r19 : S.Value := S.cond_from a b.I.Lo
  let r20 : S.Value := S.cond_upto b a.I.Hi
  (bif b1 then (r2, r3) else (bif b4 then (r5.1, r5.2) else (bif b6 then (r7, r8) else (bif b9 then (r10, r11) else (bif b12 then (r13, r14) else (bif b15 then (r16, r17) else (bif b18 then (r19, r20) else (a, b))))))))
def S.cond_left_pre (op : Int) (a : S.Value) (b : S.Value) : Prop :=
  let b1 : Bool := op == 1
  let b4 : Bool := op == 2
  let b6 : Bool := op == 3
  let b9 : Bool := op == 4
  let b12 : Bool := op == 5
  let b15 : Bool := op == 6
  let b18 : Bool := op == 7
  ((b1 = true → (All [S.cond_Only_pre a true, S.cond_Only_pre b true] ∧ True)) ∧ (b1 = false → ((b4 = true → (All [S.cond_alike_pre a b] ∧ True)) ∧ (b4 = false → ((b6 = true → (All [S.cond_without_pre a b, S.cond_without_pre b a] ∧ True)) ∧ (b6 = false → ((b9 = true → (All [S.cond_below_pre a b.I.Hi, S.cond_above_pre b a.I.Lo] ∧ True)) ∧ (b9 = false → ((b12 = true → (All [S.cond_upto_pre a b.I.Hi, S.cond_from_pre b a.I.Lo] ∧ True)) ∧ (b12 = false → ((b15 = true → (All [S.cond_above_pre a b.I.Lo, S.cond_below_pre b a.I.Hi] ∧ True)) ∧ (b15 = false → ((b18 = true → (All [S.cond_from_pre a b.I.Lo, S.cond_upto_pre b a.I.Hi] ∧ True)) ∧ (b18 = false → True))))))))))))))
/-- cond.lefts -/
noncomputable def S.cond_lefts (op : Int) (a : S.Value) (b : S.Value) (truth : Bool) : S.Value × S.Value :=
  let r1 : S.Value × S.Value := S.cond_left op a b
  let b2 : Bool := op == 0
  let r3 : S.Value := S.cond_Only a false
  let r4 : S.Value := S.cond_Only b false
  let b5 : Bool := op == 2
  let b6 : Bool := op == 3
  let b7 : Bool := op == 4
  let b8 : Bool := op == 7
  let b9 : Bool := op == 5
  let b10 : Bool := op == 6
  let b11 : Bool := b5 || (b6 || (b7 || (b8 || (b9 || (b10 || (false))))))
  let r12 : S.Value × S.Value := S.cond_left (bif b5 then 3 else (bif b6 then 2 else (bif b7 then 7 else (bif b8 then 4 else (bif b9 then 6 else (bif b10 then 5 else 0)))))) a b
  (bif truth then (r1.1, r1.2) else (bif b2 then (r3, r4) else (bif b11 then (r12.1, r12.2) else (a, b))))
def S.cond_lefts_pre (op : Int) (a : S.Value) (b : S.Value) (truth : Bool) : Prop :=
  let b2 : Bool := op == 0
  let b5 : Bool := op == 2
  let b6 : Bool := op == 3
  let b7 : Bool := op == 4
  let b8 : Bool := op == 7
  let b9 : Bool := op == 5
  let b10 : Bool := op == 6
  let b11 : Bool := b5 || (b6 || (b7 || (b8 || (b9 || (b10 || (false))))))
  ((truth = true → (All [S.cond_left_pre op a b] ∧ True)) ∧ (truth = false → ((b2 = true → (All [S.cond_Only_pre a false, S.cond_Only_pre b false] ∧ True)) ∧ (b2 = false → ((b11 = true → (All [S.cond_left_pre (bif b5 then 3 else (bif b6 then 2 else (bif b7 then 7 else (bif b8 then 4 else (bif b9 then 6 else (bif b10 then 5 else 0)))))) a b] ∧ True)) ∧ (b11 = false → True))))))
/-- cond.Refine -/
noncomputable def S.cond_Refine (op : Int) (a : S.Value) (b : S.Value) (truth : Bool) : S.Value × S.Value :=
  let r1 : S.Value := S.cond_plain a
  let r2 : S.Value := S.cond_plain b
  let r3 : S.Value := S.cond_Do op r1 r2
  let r4 : S.Value := S.cond_Only r3 truth
  let r5 : Bool := S.value_Value_IsBottom r4
  let b6 : Bool := !r5
  let r7 : S.Value × S.Value := S.cond_lefts op r1 r2 truth
  let r8 : S.Value := S.value_Bottom
  let r9 : Bool := S.value_Value_IsBottom (⟨(⟨(bif b6 then r7.1.I.Lo else r8.I.Lo), (bif b6 then r7.1.I.Hi else r8.I.Hi)⟩ : S.Inter), (⟨(bif b6 then r7.1.C.M else r8.C.M), (bif b6 then r7.1.C.R else r8.C.R)⟩ : S.Cong)⟩ : S.Value)
  let r10 : Bool := S.value_Value_IsBottom (⟨(⟨(bif b6 then r7.2.I.Lo else r2.I.Lo), (bif b6 then r7.2.I.Hi else r2.I.Hi)⟩ : S.Inter), (⟨(bif b6 then r7.2.C.M else r2.C.M), (bif b6 then r7.2.C.R else r2.C.R)⟩ : S.Cong)⟩ : S.Value)
  let p11 : Bool := (r9 || r10)
  let r12 : S.Value := S.value_Bottom
  let r13 : S.Value := S.value_Bottom
  (bif p11 then (r12, r13) else ((⟨(⟨(bif b6 then r7.1.I.Lo else r8.I.Lo), (bif b6 then r7.1.I.Hi else r8.I.Hi)⟩ : S.Inter), (⟨(bif b6 then r7.1.C.M else r8.C.M), (bif b6 then r7.1.C.R else r8.C.R)⟩ : S.Cong)⟩ : S.Value), (⟨(⟨(bif b6 then r7.2.I.Lo else r2.I.Lo), (bif b6 then r7.2.I.Hi else r2.I.Hi)⟩ : S.Inter), (⟨(bif b6 then r7.2.C.M else r2.C.M), (bif b6 then r7.2.C.R else r2.C.R)⟩ : S.Cong)⟩ : S.Value)))
def S.cond_Refine_pre (op : Int) (a : S.Value) (b : S.Value) (truth : Bool) : Prop :=
  let r1 : S.Value := S.cond_plain a
  let r2 : S.Value := S.cond_plain b
  let r3 : S.Value := S.cond_Do op r1 r2
  let r4 : S.Value := S.cond_Only r3 truth
  let r5 : Bool := S.value_Value_IsBottom r4
  let b6 : Bool := !r5
  let r7 : S.Value × S.Value := S.cond_lefts op r1 r2 truth
  let r8 : S.Value := S.value_Bottom
  let r9 : Bool := S.value_Value_IsBottom (⟨(⟨(bif b6 then r7.1.I.Lo else r8.I.Lo), (bif b6 then r7.1.I.Hi else r8.I.Hi)⟩ : S.Inter), (⟨(bif b6 then r7.1.C.M else r8.C.M), (bif b6 then r7.1.C.R else r8.C.R)⟩ : S.Cong)⟩ : S.Value)
  let r10 : Bool := S.value_Value_IsBottom (⟨(⟨(bif b6 then r7.2.I.Lo else r2.I.Lo), (bif b6 then r7.2.I.Hi else r2.I.Hi)⟩ : S.Inter), (⟨(bif b6 then r7.2.C.M else r2.C.M), (bif b6 then r7.2.C.R else r2.C.R)⟩ : S.Cong)⟩ : S.Value)
  let p11 : Bool := (r9 || r10)
  (All [S.cond_plain_pre a, S.cond_plain_pre b, S.cond_Do_pre op r1 r2, S.cond_Only_pre r3 truth, S.value_Value_IsBottom_pre r4, (b6 = true → S.cond_lefts_pre op r1 r2 truth), S.value_Value_IsBottom_pre (⟨(⟨(bif b6 then r7.1.I.Lo else r8.I.Lo), (bif b6 then r7.1.I.Hi else r8.I.Hi)⟩ : S.Inter), (⟨(bif b6 then r7.1.C.M else r8.C.M), (bif b6 then r7.1.C.R else r8.C.R)⟩ : S.Cong)⟩ : S.Value), (r9 = false → S.value_Value_IsBottom_pre (⟨(⟨(bif b6 then r7.2.I.Lo else r2.I.Lo), (bif b6 then r7.2.I.Hi else r2.I.Hi)⟩ : S.Inter), (⟨(bif b6 then r7.2.C.M else r2.C.M), (bif b6 then r7.2.C.R else r2.C.R)⟩ : S.Cong)⟩ : S.Value))] ∧ ((p11 = true → True) ∧ (p11 = false → True)))
/-- math/bits.Len64 -/
def S.math_bits_Len64 (x : Int) : Int :=
  let b1 : Bool := decide (x ≥ 4294967296)
  let t2 : Int := Int.fdiv x (2 ^ min (Int.toNat 32) 64)
  let b3 : Bool := decide ((bif b1 then t2 else x) ≥ 65536)
  let t4 : Int := Int.fdiv (bif b1 then t2 else x) (2 ^ min (Int.toNat 16) 64)
  let t5 : Int := IntKind.i64.wrap ((bif b1 then 32 else 0) + 16)
  let b6 : Bool := decide ((bif b3 then t4 else (bif b1 then t2 else x)) ≥ 256)
  let t7 : Int := Int.fdiv (bif b3 then t4 else (bif b1 then t2 else x)) (2 ^ min (Int.toNat 8) 64)
  let t8 : Int := IntKind.i64.wrap ((bif b3 then t5 else (bif b1 then 32 else 0)) + 8)
  let t9 : Int := IntKind.u8.wrap (bif b6 then t7 else (bif b3 then t4 else (bif b1 then t2 else x)))
  let t10 : Int := (((⟨#[0, 1, 2, 2, 3, 3, 3, 3, 4, 4, 4, 4, 4, 4, 4, 4, 5, 5, 5, 5, 5, 5, 5, 5, 5, 5, 5, 5, 5, 5, 5, 5, 6, 6, 6, 6, 6, 6, 6, 6, 6, 6, 6, 6, 6, 6, 6, 6, 6, 6, 6, 6, 6, 6, 6, 6, 6, 6, 6, 6, 6, 6, 6, 6, 7, 7, 7, 7, 7, 7, 7, 7, 7, 7, 7, 7, 7, 7, 7, 7, 7, 7, 7, 7, 7, 7, 7, 7, 7, 7, 7, 7, 7, 7, 7, 7, 7, 7, 7, 7, 7, 7, 7, 7, 7, 7, 7, 7, 7, 7, 7, 7, 7, 7, 7, 7, 7, 7, 7, 7, 7, 7, 7, 7, 7, 7, 7, 7, 8, 8, 8, 8, 8, 8, 8, 8, 8, 8, 8, 8, 8, 8, 8, 8, 8, 8, 8, 8, 8, 8, 8, 8, 8, 8, 8, 8, 8, 8, 8, 8, 8, 8, 8, 8, 8, 8, 8, 8, 8, 8, 8, 8, 8, 8, 8, 8, 8, 8, 8, 8, 8, 8, 8, 8, 8, 8, 8, 8, 8, 8, 8, 8, 8, 8, 8, 8, 8, 8, 8, 8, 8, 8, 8, 8, 8, 8, 8, 8, 8, 8, 8, 8, 8, 8, 8, 8, 8, 8, 8, 8, 8, 8, 8, 8, 8, 8, 8, 8, 8, 8, 8, 8, 8, 8, 8, 8, 8, 8, 8, 8, 8, 8, 8, 8, 8, 8, 8, 8, 8, 8, 8, 8, 8, 8, 8, 8]⟩ : ByteArray).data.toList.getD (Int.toNat t9) 0).toNat : Int)
  let t11 : Int := IntKind.i64.wrap t10
  let t12 : Int := IntKind.i64.wrap ((bif b6 then t8 else (bif b3 then t5 else (bif b1 then 32 else 0))) + t11)
  t12
def S.math_bits_Len64_pre (x : Int) : Prop :=
  let b1 : Bool := decide (x ≥ 4294967296)
  let t2 : Int := Int.fdiv x (2 ^ min (Int.toNat 32) 64)
  let b3 : Bool := decide ((bif b1 then t2 else x) ≥ 65536)
  let t4 : Int := Int.fdiv (bif b1 then t2 else x) (2 ^ min (Int.toNat 16) 64)
  let b6 : Bool := decide ((bif b3 then t4 else (bif b1 then t2 else x)) ≥ 256)
  let t7 : Int := Int.fdiv (bif b3 then t4 else (bif b1 then t2 else x)) (2 ^ min (Int.toNat 8) 64)
  let t9 : Int := IntKind.u8.wrap (bif b6 then t7 else (bif b3 then t4 else (bif b1 then t2 else x)))
  (All [(0 : Int) ≤ t9, t9 < ((⟨#[0, 1, 2, 2, 3, 3, 3, 3, 4, 4, 4, 4, 4, 4, 4, 4, 5, 5, 5, 5, 5, 5, 5, 5, 5, 5, 5, 5, 5, 5, 5, 5, 6, 6, 6, 6, 6, 6, 6, 6, 6, 6, 6, 6, 6, 6, 6, 6, 6, 6, 6, 6, 6, 6, 6, 6, 6, 6, 6, 6, 6, 6, 6, 6, 7, 7, 7, 7, 7, 7, 7, 7, 7, 7, 7, 7, 7, 7, 7, 7, 7, 7, 7, 7, 7, 7, 7, 7, 7, 7, 7, 7, 7, 7, 7, 7, 7, 7, 7, 7, 7, 7, 7, 7, 7, 7, 7, 7, 7, 7, 7, 7, 7, 7, 7, 7, 7, 7, 7, 7, 7, 7, 7, 7, 7, 7, 7, 7, 8, 8, 8, 8, 8, 8, 8, 8, 8, 8, 8, 8, 8, 8, 8, 8, 8, 8, 8, 8, 8, 8, 8, 8, 8, 8, 8, 8, 8, 8, 8, 8, 8, 8, 8, 8, 8, 8, 8, 8, 8, 8, 8, 8, 8, 8, 8, 8, 8, 8, 8, 8, 8, 8, 8, 8, 8, 8, 8, 8, 8, 8, 8, 8, 8, 8, 8, 8, 8, 8, 8, 8, 8, 8, 8, 8, 8, 8, 8, 8, 8, 8, 8, 8, 8, 8, 8, 8, 8, 8, 8, 8, 8, 8, 8, 8, 8, 8, 8, 8, 8, 8, 8, 8, 8, 8, 8, 8, 8, 8, 8, 8, 8, 8, 8, 8, 8, 8, 8, 8, 8, 8, 8, 8, 8, 8, 8, 8]⟩ : ByteArray).size : Int)] ∧ True)
/-- internal/strconv.log10Pow2 -/
def S.internal_strconv_log10Pow2 (x : Int) : Int :=
  let t1 : Int := IntKind.i64.wrap (x * 78913)
  let t2 : Int := Int.fdiv t1 (2 ^ min (Int.toNat 18) 64)
  t2
/-- internal/strconv.bool2[int] -/
def S.internal_strconv_bool2int (b : Bool) : Int :=
  (bif b then 1 else 0)
/-- internal/strconv.isPowerOfTwo -/
def S.internal_strconv_isPowerOfTwo (x : Int) : Bool :=
  let t1 : Int := IntKind.i64.wrap (x - 1)
  let t2 : Int := bits .and .i64 x t1
  let b3 : Bool := t2 == 0
  b3
/-- strconv.FormatInt -/
def S.strconv_FormatInt (i : Int) (base : Int) : ByteArray :=
  let r1 : ByteArray := fmtI i base
  r1
def S.strconv_FormatInt_pre (i : Int) (base : Int) : Prop :=
  (All [fmtI_pre i base] ∧ True)
/-- strconv.FormatUint -/
def S.strconv_FormatUint (i : Int) (base : Int) : ByteArray :=
  let r1 : ByteArray := fmtU i base
  r1
def S.strconv_FormatUint_pre (i : Int) (base : Int) : Prop :=
  (All [fmtU_pre i base] ∧ True)
/-- (value.Value).Text -/
def S.value_Value_Text (v : S.Value) : ByteArray :=
  let r1 : S.Value := S.value_Value_reduced v
  let r2 : Bool := S.value_Value_IsBottom r1
  let r3 : Int × Bool := S.value_Value_Single r1
  let r4 : ByteArray := S.strconv_FormatInt r3.1 10
  let r5 : ByteArray := S.strconv_FormatInt r1.I.Lo 10
  let s6 : ByteArray := (⟨#[91]⟩ : ByteArray) ++ r5
  let s7 : ByteArray := s6 ++ (⟨#[44, 32]⟩ : ByteArray)
  let r8 : ByteArray := S.strconv_FormatInt r1.I.Hi 10
  let s9 : ByteArray := s7 ++ r8
  let s10 : ByteArray := s9 ++ (⟨#[93]⟩ : ByteArray)
  let b11 : Bool := decide (r1.C.M > 1)
  let r12 : ByteArray := S.strconv_FormatUint r1.C.R 10
  let s13 : ByteArray := (⟨#[32]⟩ : ByteArray) ++ r12
  let s14 : ByteArray := s13 ++ (⟨#[32, 109, 111, 100, 32]⟩ : ByteArray)
  let r15 : ByteArray := S.strconv_FormatUint r1.C.M 10
  let s16 : ByteArray := s14 ++ r15
  let s17 : ByteArray := s10 ++ s16
  (bif r2 then (⟨#[110, 111, 110, 101]⟩ : ByteArray) else (bif r3.2 then r4 else (bif b11 then s17 else s10)))
def S.value_Value_Text_pre (v : S.Value) : Prop :=
  let r1 : S.Value := S.value_Value_reduced v
  let r2 : Bool := S.value_Value_IsBottom r1
  let r3 : Int × Bool := S.value_Value_Single r1
  let r5 : ByteArray := S.strconv_FormatInt r1.I.Lo 10
  let s6 : ByteArray := (⟨#[91]⟩ : ByteArray) ++ r5
  let s7 : ByteArray := s6 ++ (⟨#[44, 32]⟩ : ByteArray)
  let r8 : ByteArray := S.strconv_FormatInt r1.I.Hi 10
  let s9 : ByteArray := s7 ++ r8
  let s10 : ByteArray := s9 ++ (⟨#[93]⟩ : ByteArray)
  let b11 : Bool := decide (r1.C.M > 1)
  let r12 : ByteArray := S.strconv_FormatUint r1.C.R 10
  let s13 : ByteArray := (⟨#[32]⟩ : ByteArray) ++ r12
  let s14 : ByteArray := s13 ++ (⟨#[32, 109, 111, 100, 32]⟩ : ByteArray)
  let r15 : ByteArray := S.strconv_FormatUint r1.C.M 10
  let s16 : ByteArray := s14 ++ r15
  (All [S.value_Value_reduced_pre v, S.value_Value_IsBottom_pre r1] ∧ ((r2 = true → True) ∧ (r2 = false → (All [S.value_Value_Single_pre r1] ∧ ((r3.2 = true → (All [S.strconv_FormatInt_pre r3.1 10] ∧ True)) ∧ (r3.2 = false → (All [S.strconv_FormatInt_pre r1.I.Lo 10, (((⟨#[91]⟩ : ByteArray).size + r5.size : Nat) : Int) ≤ IntKind.i64.max, ((s6.size + (⟨#[44, 32]⟩ : ByteArray).size : Nat) : Int) ≤ IntKind.i64.max, S.strconv_FormatInt_pre r1.I.Hi 10, ((s7.size + r8.size : Nat) : Int) ≤ IntKind.i64.max, ((s9.size + (⟨#[93]⟩ : ByteArray).size : Nat) : Int) ≤ IntKind.i64.max, (b11 = true → (S.strconv_FormatUint_pre r1.C.R 10 ∧ (((⟨#[32]⟩ : ByteArray).size + r12.size : Nat) : Int) ≤ IntKind.i64.max ∧ ((s13.size + (⟨#[32, 109, 111, 100, 32]⟩ : ByteArray).size : Nat) : Int) ≤ IntKind.i64.max ∧ S.strconv_FormatUint_pre r1.C.M 10 ∧ ((s14.size + r15.size : Nat) : Int) ≤ IntKind.i64.max ∧ ((s10.size + s16.size : Nat) : Int) ≤ IntKind.i64.max))] ∧ True)))))))
/-- sieveholeslaw24.works -/
noncomputable def S.law24_works : Bool :=
  let r1 : S.Value := S.value_Range 0 9
  let r2 : S.Value := S.value_Range 2 5
  let r3 : S.Value × S.Value := S.cond_Refine 4 r1 r2 true
  let r4 : S.Value := S.value_Range 0 9
  let r5 : S.Value := S.value_Range 2 5
  let r6 : S.Value × S.Value := S.cond_Refine 4 r4 r5 false
  let r7 : S.Value := S.value_Range 0 4
  let r8 : S.Value := S.value_One 4
  let r9 : S.Value × S.Value := S.cond_Refine 3 r7 r8 true
  let r10 : S.Inter := S.inter_Whole
  let r11 : S.Cong := S.cong_Make 2 1
  let r12 : S.Value := S.value_Make r10 r11
  let r13 : S.Inter := S.inter_Whole
  let r14 : S.Cong := S.cong_Make 2 0
  let r15 : S.Value := S.value_Make r13 r14
  let r16 : S.Value := S.value_Range 0 3
  let r17 : S.Value := S.value_Range 3 9
  let r18 : S.Value := S.cond_Do 4 r16 r17
  let r19 : ByteArray := S.value_Value_Text r18
  let b20 : Bool := (r19.toList == (⟨#[91, 48, 44, 32, 49, 93]⟩ : ByteArray).toList)
  let r21 : S.Value := S.cond_Do 2 r12 r15
  let r22 : ByteArray := S.value_Value_Text r21
  let b23 : Bool := (r22.toList == (⟨#[48]⟩ : ByteArray).toList)
  let p24 : Bool := (b20 && b23)
  let r25 : ByteArray := S.value_Value_Text r3.1
  let b26 : Bool := (r25.toList == (⟨#[91, 48, 44, 32, 52, 93]⟩ : ByteArray).toList)
  let p27 : Bool := (p24 && b26)
  let r28 : ByteArray := S.value_Value_Text r3.2
  let b29 : Bool := (r28.toList == (⟨#[91, 50, 44, 32, 53, 93]⟩ : ByteArray).toList)
  let p30 : Bool := (p27 && b29)
  let r31 : ByteArray := S.value_Value_Text r6.1
  let b32 : Bool := (r31.toList == (⟨#[91, 50, 44, 32, 57, 93]⟩ : ByteArray).toList)
  let p33 : Bool := (p30 && b32)
  let r34 : ByteArray := S.value_Value_Text r6.2
  let b35 : Bool := (r34.toList == (⟨#[91, 50, 44, 32, 53, 93]⟩ : ByteArray).toList)
  let p36 : Bool := (p33 && b35)
  let r37 : ByteArray := S.value_Value_Text r9.1
  let b38 : Bool := (r37.toList == (⟨#[91, 48, 44, 32, 51, 93]⟩ : ByteArray).toList)
  let p39 : Bool := (p36 && b38)
  let r40 : ByteArray := S.value_Value_Text r9.2
  let b41 : Bool := (r40.toList == (⟨#[52]⟩ : ByteArray).toList)
  let p42 : Bool := (p39 && b41)
  let r43 : S.Value := S.value_Range (-1) 3
  let r44 : S.Value := S.cond_Only r43 true
  let r45 : ByteArray := S.value_Value_Text r44
  let b46 : Bool := (r45.toList == (⟨#[91, 45, 49, 44, 32, 51, 93]⟩ : ByteArray).toList)
  let p47 : Bool := (p42 && b46)
  p47
def S.law24_works_pre : Prop :=
  let r1 : S.Value := S.value_Range 0 9
  let r2 : S.Value := S.value_Range 2 5
  let r3 : S.Value × S.Value := S.cond_Refine 4 r1 r2 true
  let r4 : S.Value := S.value_Range 0 9
  let r5 : S.Value := S.value_Range 2 5
  let r6 : S.Value × S.Value := S.cond_Refine 4 r4 r5 false
  let r7 : S.Value := S.value_Range 0 4
  let r8 : S.Value := S.value_One 4
  let r9 : S.Value × S.Value := S.cond_Refine 3 r7 r8 true
  let r10 : S.Inter := S.inter_Whole
  let r11 : S.Cong := S.cong_Make 2 1
  let r12 : S.Value := S.value_Make r10 r11
  let r13 : S.Inter := S.inter_Whole
  let r14 : S.Cong := S.cong_Make 2 0
  let r15 : S.Value := S.value_Make r13 r14
  let r16 : S.Value := S.value_Range 0 3
  let r17 : S.Value := S.value_Range 3 9
  let r18 : S.Value := S.cond_Do 4 r16 r17
  let r19 : ByteArray := S.value_Value_Text r18
  let b20 : Bool := (r19.toList == (⟨#[91, 48, 44, 32, 49, 93]⟩ : ByteArray).toList)
  let r21 : S.Value := S.cond_Do 2 r12 r15
  let r22 : ByteArray := S.value_Value_Text r21
  let b23 : Bool := (r22.toList == (⟨#[48]⟩ : ByteArray).toList)
  let p24 : Bool := (b20 && b23)
  let r25 : ByteArray := S.value_Value_Text r3.1
  let b26 : Bool := (r25.toList == (⟨#[91, 48, 44, 32, 52, 93]⟩ : ByteArray).toList)
  let p27 : Bool := (p24 && b26)
  let r28 : ByteArray := S.value_Value_Text r3.2
  let b29 : Bool := (r28.toList == (⟨#[91, 50, 44, 32, 53, 93]⟩ : ByteArray).toList)
  let p30 : Bool := (p27 && b29)
  let r31 : ByteArray := S.value_Value_Text r6.1
  let b32 : Bool := (r31.toList == (⟨#[91, 50, 44, 32, 57, 93]⟩ : ByteArray).toList)
  let p33 : Bool := (p30 && b32)
  let r34 : ByteArray := S.value_Value_Text r6.2
  let b35 : Bool := (r34.toList == (⟨#[91, 50, 44, 32, 53, 93]⟩ : ByteArray).toList)
  let p36 : Bool := (p33 && b35)
  let r37 : ByteArray := S.value_Value_Text r9.1
  let b38 : Bool := (r37.toList == (⟨#[91, 48, 44, 32, 51, 93]⟩ : ByteArray).toList)
  let p39 : Bool := (p36 && b38)
  let r40 : ByteArray := S.value_Value_Text r9.2
  let b41 : Bool := (r40.toList == (⟨#[52]⟩ : ByteArray).toList)
  let p42 : Bool := (p39 && b41)
  let r43 : S.Value := S.value_Range (-1) 3
  let r44 : S.Value := S.cond_Only r43 true
  (All [S.value_Range_pre 0 9, S.value_Range_pre 2 5, S.cond_Refine_pre 4 r1 r2 true, S.value_Range_pre 0 9, S.value_Range_pre 2 5, S.cond_Refine_pre 4 r4 r5 false, S.value_Range_pre 0 4, S.cond_Refine_pre 3 r7 r8 true, S.cong_Make_pre 2 1, S.value_Make_pre r10 r11, S.cong_Make_pre 2 0, S.value_Make_pre r13 r14, S.value_Range_pre 0 3, S.value_Range_pre 3 9, S.cond_Do_pre 4 r16 r17, S.value_Value_Text_pre r18, (b20 = true → S.cond_Do_pre 2 r12 r15), (b20 = true → S.value_Value_Text_pre r21), (p24 = true → S.value_Value_Text_pre r3.1), (p27 = true → S.value_Value_Text_pre r3.2), (p30 = true → S.value_Value_Text_pre r6.1), (p33 = true → S.value_Value_Text_pre r6.2), (p36 = true → S.value_Value_Text_pre r9.1), (p39 = true → S.value_Value_Text_pre r9.2), (p42 = true → S.value_Range_pre (-1) 3), (p42 = true → S.cond_Only_pre r43 true), (p42 = true → S.value_Value_Text_pre r44)] ∧ True)
/-- sieveholeslaw24.CondKeeps -/
noncomputable def S.law24_CondKeeps (op : Int) (a : S.Value) (b : S.Value) (truth : Bool) : Bool :=
  let t1 : Int := Int.tmod op 8
  let t2 : Int := IntKind.i64.wrap (t1 + 8)
  let t3 : Int := Int.tmod t2 8
  let r4 : S.Value × S.Value := S.cond_Refine t3 a b truth
  let r5 : S.Value × S.Value := S.cond_Refine t3 r4.1 r4.2 truth
  let r6 : Bool := S.value_Within r4.1 a
  let b7 : Bool := !r6
  let r8 : Bool := S.value_Within r4.2 b
  let b9 : Bool := !r8
  let p10 : Bool := (b7 || b9)
  let r11 : Bool := S.value_Within r5.1 r4.1
  let b12 : Bool := !r11
  let p13 : Bool := (p10 || b12)
  let r14 : Bool := S.value_Within r5.2 r4.2
  let b15 : Bool := !r14
  let p16 : Bool := (p13 || b15)
  let b17 : Bool := t3 != 2
  let b18 : Bool := t3 != 3
  let p19 : Bool := (b17 && b18)
  let b20 : Bool := !((r5.1.I.Lo == r4.1.I.Lo) && ((r5.1.I.Hi == r4.1.I.Hi) && ((r5.1.C.M == r4.1.C.M) && (r5.1.C.R == r4.1.C.R))))
  let b21 : Bool := !((r5.2.I.Lo == r4.2.I.Lo) && ((r5.2.I.Hi == r4.2.I.Hi) && ((r5.2.C.M == r4.2.C.M) && (r5.2.C.R == r4.2.C.R))))
  let p22 : Bool := (b20 || b21)
  let p23 : Bool := (p19 && p22)
  let p24 : Bool := (p16 || p23)
  let r25 : Bool := S.value_Value_IsBottom r4.1
  let r26 : Bool := S.value_Value_IsBottom r4.2
  let b27 : Bool := !(r25 == r26)
  let p28 : Bool := (p24 || b27)
  let r29 : S.Value := S.cond_Do t3 a b
  let r30 : Bool := S.value_Value_IsBottom r29
  let r31 : Bool := S.value_Value_IsBottom r4.1
  let b32 : Bool := !r31
  let p33 : Bool := (r30 && b32)
  let r34 : S.Value := S.value_Range 0 1
  let r35 : Bool := S.value_Within r29 r34
  let b36 : Bool := !r35
  let p37 : Bool := (p33 || b36)
  let r38 : Bool × Bool := S.cond_Truth r29
  let p39 : Bool := (truth && r38.1)
  let b40 : Bool := !truth
  let p41 : Bool := (b40 && r38.2)
  let p42 : Bool := (p39 || p41)
  let r43 : Bool := S.value_Value_IsBottom r4.1
  let b44 : Bool := !r43
  let b45 : Bool := p42 == b44
  let r46 : Bool := S.law24_works
  let p47 : Bool := (b45 && r46)
  (bif p28 then false else (bif p37 then false else p47))
def S.law24_CondKeeps_pre (op : Int) (a : S.Value) (b : S.Value) (truth : Bool) : Prop :=
  let t1 : Int := Int.tmod op 8
  let t2 : Int := IntKind.i64.wrap (t1 + 8)
  let t3 : Int := Int.tmod t2 8
  let r4 : S.Value × S.Value := S.cond_Refine t3 a b truth
  let r5 : S.Value × S.Value := S.cond_Refine t3 r4.1 r4.2 truth
  let r6 : Bool := S.value_Within r4.1 a
  let b7 : Bool := !r6
  let r8 : Bool := S.value_Within r4.2 b
  let b9 : Bool := !r8
  let p10 : Bool := (b7 || b9)
  let r11 : Bool := S.value_Within r5.1 r4.1
  let b12 : Bool := !r11
  let p13 : Bool := (p10 || b12)
  let r14 : Bool := S.value_Within r5.2 r4.2
  let b15 : Bool := !r14
  let p16 : Bool := (p13 || b15)
  let b17 : Bool := t3 != 2
  let b18 : Bool := t3 != 3
  let p19 : Bool := (b17 && b18)
  let b20 : Bool := !((r5.1.I.Lo == r4.1.I.Lo) && ((r5.1.I.Hi == r4.1.I.Hi) && ((r5.1.C.M == r4.1.C.M) && (r5.1.C.R == r4.1.C.R))))
  let b21 : Bool := !((r5.2.I.Lo == r4.2.I.Lo) && ((r5.2.I.Hi == r4.2.I.Hi) && ((r5.2.C.M == r4.2.C.M) && (r5.2.C.R == r4.2.C.R))))
  let p22 : Bool := (b20 || b21)
  let p23 : Bool := (p19 && p22)
  let p24 : Bool := (p16 || p23)
  let r25 : Bool := S.value_Value_IsBottom r4.1
  let r26 : Bool := S.value_Value_IsBottom r4.2
  let b27 : Bool := !(r25 == r26)
  let p28 : Bool := (p24 || b27)
  let r29 : S.Value := S.cond_Do t3 a b
  let r30 : Bool := S.value_Value_IsBottom r29
  let r31 : Bool := S.value_Value_IsBottom r4.1
  let b32 : Bool := !r31
  let p33 : Bool := (r30 && b32)
  let r34 : S.Value := S.value_Range 0 1
  let r35 : Bool := S.value_Within r29 r34
  let b36 : Bool := !r35
  let p37 : Bool := (p33 || b36)
  let r38 : Bool × Bool := S.cond_Truth r29
  let p39 : Bool := (truth && r38.1)
  let b40 : Bool := !truth
  let p41 : Bool := (b40 && r38.2)
  let p42 : Bool := (p39 || p41)
  let r43 : Bool := S.value_Value_IsBottom r4.1
  let b44 : Bool := !r43
  let b45 : Bool := p42 == b44
  (All [S.cond_Refine_pre t3 a b truth, S.cond_Refine_pre t3 r4.1 r4.2 truth, S.value_Within_pre r4.1 a, (b7 = false → S.value_Within_pre r4.2 b), (p10 = false → S.value_Within_pre r5.1 r4.1), (p13 = false → S.value_Within_pre r5.2 r4.2), (p24 = false → S.value_Value_IsBottom_pre r4.1), (p24 = false → S.value_Value_IsBottom_pre r4.2)] ∧ ((p28 = true → True) ∧ (p28 = false → (All [S.cond_Do_pre t3 a b, S.value_Value_IsBottom_pre r29, (r30 = true → S.value_Value_IsBottom_pre r4.1), (p33 = false → S.value_Range_pre 0 1), (p33 = false → S.value_Within_pre r29 r34)] ∧ ((p37 = true → True) ∧ (p37 = false → (All [S.cond_Truth_pre r29, S.value_Value_IsBottom_pre r4.1, (b45 = true → S.law24_works_pre)] ∧ True)))))))
