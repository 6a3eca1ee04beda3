/-
  Printed by a program for this claim: functions of the code as plain functions, and that the code comes to them. Conditions: those that each theorem states.
-/
import Derived.Test.YthplfkeecpkmhaaGreatDoorVm16
set_option linter.all false
open Go Vm
@[ext] structure S.Inter where
  Lo : Int
  Hi : Int
@[ext] structure S.Cong where
  M : Int
  R : Int
@[ext] structure S.Value where
  I : S.Inter
  C : S.Cong
def S.Inter.ok (x : S.Inter) : Prop := (inr .i64 x.Lo) ∧ (inr .i64 x.Hi) ∧ True
def S.Cong.ok (x : S.Cong) : Prop := (inr .u64 x.M) ∧ (inr .u64 x.R) ∧ True
def S.Value.ok (x : S.Value) : Prop := (S.Inter.ok x.I) ∧ (S.Cong.ok x.C) ∧ True
/-- sieveholesdocs.Value -/
def S.docs_Value (v : S.Value) : S.Value :=
  v
/-- sieveholesref19.Empty -/
def S.ref19_Empty (i : S.Inter) : Bool :=
  let b1 : Bool := decide (i.Lo > i.Hi)
  b1
/-- sieveholesref21.Bottom -/
def S.ref21_Bottom : S.Value :=
  (⟨(⟨1, 0⟩ : S.Inter), (⟨1, 0⟩ : S.Cong)⟩ : S.Value)
/-- sieveholesref19.Has -/
def S.ref19_Has (i : S.Inter) (n : Int) : Bool :=
  let b1 : Bool := decide (n ≥ i.Lo)
  let b2 : Bool := decide (n ≤ i.Hi)
  let p3 : Bool := (b1 && b2)
  p3
/-- sieveholesref20.Rest -/
def S.ref20_Rest (n : Int) (m : Int) : Int :=
  let b1 : Bool := decide (n ≥ 0)
  let t2 : Int := IntKind.u64.wrap n
  let t3 : Int := Int.tmod t2 m
  let t4 : Int := IntKind.u64.wrap (m - 1)
  let t5 : Int := IntKind.i64.wrap (n + 1)
  let t6 : Int := IntKind.i64.wrap (0 - t5)
  let t7 : Int := IntKind.u64.wrap t6
  let t8 : Int := Int.tmod t7 m
  let t9 : Int := IntKind.u64.wrap (t4 - t8)
  (bif b1 then t3 else t9)
def S.ref20_Rest_pre (n : Int) (m : Int) : Prop :=
  let b1 : Bool := decide (n ≥ 0)
  ((b1 = true → (All [m ≠ 0] ∧ True)) ∧ (b1 = false → (All [m ≠ 0] ∧ True)))
/-- sieveholesref20.Make -/
def S.ref20_Make (m : Int) (n : Int) : S.Cong :=
  let b1 : Bool := m == 0
  let t2 : Int := IntKind.u64.wrap n
  let r3 : Int := S.ref20_Rest n m
  (bif b1 then (⟨0, t2⟩ : S.Cong) else (⟨m, r3⟩ : S.Cong))
def S.ref20_Make_pre (m : Int) (n : Int) : Prop :=
  let b1 : Bool := m == 0
  ((b1 = true → True) ∧ (b1 = false → (All [S.ref20_Rest_pre n m] ∧ True)))
/-- sieveholesref21.One -/
def S.ref21_One (n : Int) : S.Value :=
  let r1 : S.Cong := S.ref20_Make 0 n
  (⟨(⟨n, n⟩ : S.Inter), r1⟩ : S.Value)
def S.ref21_One_pre (n : Int) : Prop :=
  (All [S.ref20_Make_pre 0 n] ∧ True)
/-- sieveholesref21.up -/
def S.ref21_up (c : S.Cong) (n : Int) : Int :=
  let r1 : Int := S.ref20_Rest n c.M
  let b2 : Bool := decide (r1 ≤ c.R)
  let t3 : Int := IntKind.u64.wrap (c.R - r1)
  let t4 : Int := IntKind.u64.wrap (r1 - c.R)
  let t5 : Int := IntKind.u64.wrap (c.M - t4)
  (bif b2 then t3 else t5)
def S.ref21_up_pre (c : S.Cong) (n : Int) : Prop :=
  let r1 : Int := S.ref20_Rest n c.M
  let b2 : Bool := decide (r1 ≤ c.R)
  (All [S.ref20_Rest_pre n c.M] ∧ ((b2 = true → True) ∧ (b2 = false → True)))
/-- sieveholesref21.down -/
def S.ref21_down (c : S.Cong) (n : Int) : Int :=
  let r1 : Int := S.ref20_Rest n c.M
  let b2 : Bool := decide (c.R ≤ r1)
  let t3 : Int := IntKind.u64.wrap (r1 - c.R)
  let t4 : Int := IntKind.u64.wrap (c.R - r1)
  let t5 : Int := IntKind.u64.wrap (c.M - t4)
  (bif b2 then t3 else t5)
def S.ref21_down_pre (c : S.Cong) (n : Int) : Prop :=
  let r1 : Int := S.ref20_Rest n c.M
  let b2 : Bool := decide (c.R ≤ r1)
  (All [S.ref20_Rest_pre n c.M] ∧ ((b2 = true → True) ∧ (b2 = false → True)))
/-- sieveholesref21.Make -/
def S.ref21_Make (i : S.Inter) (c : S.Cong) : S.Value :=
  let r1 : Bool := S.ref19_Empty i
  let r2 : S.Value := S.ref21_Bottom
  let b3 : Bool := c.M == 0
  let t4 : Int := IntKind.i64.wrap c.R
  let r5 : Bool := S.ref19_Has i t4
  let b6 : Bool := !r5
  let r7 : S.Value := S.ref21_Bottom
  let t8 : Int := IntKind.i64.wrap c.R
  let r9 : S.Value := S.ref21_One t8
  let t10 : Int := Int.tmod c.R c.M
  let r11 : Int := S.ref21_up (⟨c.M, t10⟩ : S.Cong) i.Lo
  let r12 : Int := S.ref21_down (⟨c.M, t10⟩ : S.Cong) i.Hi
  let t13 : Int := IntKind.u64.wrap i.Hi
  let t14 : Int := IntKind.u64.wrap i.Lo
  let t15 : Int := IntKind.u64.wrap (t13 - t14)
  let b16 : Bool := decide (r11 > t15)
  let b17 : Bool := decide (r12 > t15)
  let p18 : Bool := (b16 || b17)
  let t19 : Int := IntKind.u64.wrap (t15 - r12)
  let b20 : Bool := decide (r11 > t19)
  let p21 : Bool := (p18 || b20)
  let r22 : S.Value := S.ref21_Bottom
  let t23 : Int := IntKind.u64.wrap i.Lo
  let t24 : Int := IntKind.u64.wrap (t23 + r11)
  let t25 : Int := IntKind.i64.wrap t24
  let t26 : Int := IntKind.u64.wrap i.Hi
  let t27 : Int := IntKind.u64.wrap (t26 - r12)
  let t28 : Int := IntKind.i64.wrap t27
  let b29 : Bool := t25 == t28
  let r30 : S.Value := S.ref21_One t25
  (bif r1 then r2 else (bif b3 then (bif b6 then r7 else r9) else (bif p21 then r22 else (bif b29 then r30 else (⟨(⟨t25, t28⟩ : S.Inter), (⟨c.M, t10⟩ : S.Cong)⟩ : S.Value)))))
def S.ref21_Make_pre (i : S.Inter) (c : S.Cong) : Prop :=
  let r1 : Bool := S.ref19_Empty i
  let b3 : Bool := c.M == 0
  let t4 : Int := IntKind.i64.wrap c.R
  let r5 : Bool := S.ref19_Has i t4
  let b6 : Bool := !r5
  let t8 : Int := IntKind.i64.wrap c.R
  let t10 : Int := Int.tmod c.R c.M
  let r11 : Int := S.ref21_up (⟨c.M, t10⟩ : S.Cong) i.Lo
  let r12 : Int := S.ref21_down (⟨c.M, t10⟩ : S.Cong) i.Hi
  let t13 : Int := IntKind.u64.wrap i.Hi
  let t14 : Int := IntKind.u64.wrap i.Lo
  let t15 : Int := IntKind.u64.wrap (t13 - t14)
  let b16 : Bool := decide (r11 > t15)
  let b17 : Bool := decide (r12 > t15)
  let p18 : Bool := (b16 || b17)
  let t19 : Int := IntKind.u64.wrap (t15 - r12)
  let b20 : Bool := decide (r11 > t19)
  let p21 : Bool := (p18 || b20)
  let t23 : Int := IntKind.u64.wrap i.Lo
  let t24 : Int := IntKind.u64.wrap (t23 + r11)
  let t25 : Int := IntKind.i64.wrap t24
  let t26 : Int := IntKind.u64.wrap i.Hi
  let t27 : Int := IntKind.u64.wrap (t26 - r12)
  let t28 : Int := IntKind.i64.wrap t27
  let b29 : Bool := t25 == t28
  ((r1 = true → True) ∧ (r1 = false → ((b3 = true → ((b6 = true → True) ∧ (b6 = false → (All [S.ref21_One_pre t8] ∧ True)))) ∧ (b3 = false → (All [c.M ≠ 0, S.ref21_up_pre (⟨c.M, t10⟩ : S.Cong) i.Lo, S.ref21_down_pre (⟨c.M, t10⟩ : S.Cong) i.Hi] ∧ ((p21 = true → True) ∧ (p21 = false → ((b29 = true → (All [S.ref21_One_pre t25] ∧ True)) ∧ (b29 = false → True)))))))))
/-- sieveholesref21.Plain -/
def S.ref21_Plain (v : S.Value) : S.Value :=
  let r1 : S.Value := S.ref21_Make v.I v.C
  r1
def S.ref21_Plain_pre (v : S.Value) : Prop :=
  (All [S.ref21_Make_pre v.I v.C] ∧ True)
/-- sieveholeslaw21.plain -/
def S.law21_plain (v : S.Value) : S.Value :=
  let r1 : S.Value := S.docs_Value v
  let r2 : S.Value := S.ref21_Plain r1
  r2
def S.law21_plain_pre (v : S.Value) : Prop :=
  let r1 : S.Value := S.docs_Value v
  (All [S.ref21_Plain_pre r1] ∧ True)
/-- (cong.Cong).single -/
def S.cong_Cong_single (c : S.Cong) : Bool :=
  let b1 : Bool := c.M == 0
  b1
/-- (cong.Cong).Right -/
def S.cong_Cong_Right (c : S.Cong) : Bool :=
  let r1 : Bool := S.cong_Cong_single c
  let b2 : Bool := decide (c.R < c.M)
  let p3 : Bool := (r1 || b2)
  p3
/-- (cong.Cong).number -/
def S.cong_Cong_number (c : S.Cong) : Int :=
  let t1 : Int := IntKind.i64.wrap c.R
  t1
/-- (cong.Cong).number0 -/
def S.cong_Cong_number0 (c : S.Cong) (ok : Bool) : Int × Bool :=
  let b1 : Bool := !ok
  let r2 : Int := S.cong_Cong_number c
  (bif b1 then (0, false) else (r2, true))
/-- cong.rest -/
def S.cong_rest (n : Int) (m : Int) : Int :=
  let b1 : Bool := decide (n < 0)
  let t2 : Int := IntKind.u64.wrap (m - 1)
  let t3 : Int := IntKind.u64.wrap n
  let t4 : Int := bits .xor .u64 (if IntKind.u64.signed then -1 else IntKind.u64.max) t3
  let t5 : Int := Int.tmod t4 m
  let t6 : Int := IntKind.u64.wrap (t2 - t5)
  let t7 : Int := IntKind.u64.wrap n
  let t8 : Int := Int.tmod t7 m
  (bif b1 then t6 else t8)
def S.cong_rest_pre (n : Int) (m : Int) : Prop :=
  let b1 : Bool := decide (n < 0)
  ((b1 = true → (All [m ≠ 0] ∧ True)) ∧ (b1 = false → (All [m ≠ 0] ∧ True)))
/-- math/bits.Add64 -/
def S.math_bits_Add64 (x y c : Int) : Int × Int := ((x + y + c) % 18446744073709551616, (x + y + c) / 18446744073709551616)
def S.math_bits_Add64_pre (x y c : Int) : Prop := 0 ≤ x ∧ 0 ≤ y ∧ 0 ≤ c ∧ c ≤ 1
/-- cong.plus -/
def S.cong_plus (a : Int) (b : Int) (m : Int) : Int :=
  let r1 : Int × Int := S.math_bits_Add64 a b 0
  let b2 : Bool := decide (r1.2 > 0)
  let b3 : Bool := decide (r1.1 ≥ m)
  let p4 : Bool := (b2 || b3)
  let t5 : Int := IntKind.u64.wrap (r1.1 - m)
  (bif p4 then t5 else r1.1)
def S.cong_plus_pre (a : Int) (b : Int) (m : Int) : Prop :=
  (All [S.math_bits_Add64_pre a b 0] ∧ True)
/-- (cong.Cong).Least -/
def S.cong_Cong_Least (c : S.Cong) (a1 : Int) : Int × Bool :=
  let r1 : Bool := S.cong_Cong_single c
  let r2 : Int := S.cong_Cong_number c
  let b3 : Bool := decide (r2 ≥ a1)
  let r4 : Int × Bool := S.cong_Cong_number0 c b3
  let r5 : Int := S.cong_rest a1 c.M
  let t6 : Int := IntKind.u64.wrap (c.M - r5)
  let t7 : Int := Int.tmod t6 c.M
  let r8 : Int := S.cong_plus c.R t7 c.M
  let t9 : Int := IntKind.u64.wrap a1
  let t10 : Int := IntKind.u64.wrap (9223372036854775807 - t9)
  let b11 : Bool := decide (r8 > t10)
  let t12 : Int := IntKind.i64.wrap r8
  let t13 : Int := IntKind.i64.wrap (a1 + t12)
  (bif r1 then (r4.1, r4.2) else (bif b11 then (0, false) else (t13, true)))
def S.cong_Cong_Least_pre (c : S.Cong) (a1 : Int) : Prop :=
  let r1 : Bool := S.cong_Cong_single c
  let r5 : Int := S.cong_rest a1 c.M
  let t6 : Int := IntKind.u64.wrap (c.M - r5)
  let t7 : Int := Int.tmod t6 c.M
  let r8 : Int := S.cong_plus c.R t7 c.M
  let t9 : Int := IntKind.u64.wrap a1
  let t10 : Int := IntKind.u64.wrap (9223372036854775807 - t9)
  let b11 : Bool := decide (r8 > t10)
  ((r1 = true → True) ∧ (r1 = false → (All [S.cong_rest_pre a1 c.M, c.M ≠ 0, S.cong_plus_pre c.R t7 c.M] ∧ ((b11 = true → True) ∧ (b11 = false → True)))))
/-- (cong.Cong).Greatest -/
def S.cong_Cong_Greatest (c : S.Cong) (to : Int) : Int × Bool :=
  let r1 : Bool := S.cong_Cong_single c
  let r2 : Int := S.cong_Cong_number c
  let b3 : Bool := decide (r2 ≤ to)
  let r4 : Int × Bool := S.cong_Cong_number0 c b3
  let r5 : Int := S.cong_rest to c.M
  let t6 : Int := IntKind.u64.wrap (c.M - c.R)
  let t7 : Int := Int.tmod t6 c.M
  let r8 : Int := S.cong_plus r5 t7 c.M
  let t9 : Int := IntKind.u64.wrap to
  let t10 : Int := IntKind.u64.wrap (t9 + 9223372036854775808)
  let b11 : Bool := decide (r8 > t10)
  let t12 : Int := IntKind.i64.wrap r8
  let t13 : Int := IntKind.i64.wrap (to - t12)
  (bif r1 then (r4.1, r4.2) else (bif b11 then (0, false) else (t13, true)))
def S.cong_Cong_Greatest_pre (c : S.Cong) (to : Int) : Prop :=
  let r1 : Bool := S.cong_Cong_single c
  let r5 : Int := S.cong_rest to c.M
  let t6 : Int := IntKind.u64.wrap (c.M - c.R)
  let t7 : Int := Int.tmod t6 c.M
  let r8 : Int := S.cong_plus r5 t7 c.M
  let t9 : Int := IntKind.u64.wrap to
  let t10 : Int := IntKind.u64.wrap (t9 + 9223372036854775808)
  let b11 : Bool := decide (r8 > t10)
  ((r1 = true → True) ∧ (r1 = false → (All [S.cong_rest_pre to c.M, c.M ≠ 0, S.cong_plus_pre r5 t7 c.M] ∧ ((b11 = true → True) ∧ (b11 = false → True)))))
/-- inter.Empty -/
def S.inter_Empty : S.Inter :=
  (⟨1, 0⟩ : S.Inter)
/-- inter.Of -/
def S.inter_Of (lo : Int) (hi : Int) : S.Inter :=
  let b1 : Bool := decide (lo > hi)
  let r2 : S.Inter := S.inter_Empty
  (bif b1 then r2 else (⟨lo, hi⟩ : S.Inter))
/-- (inter.Inter).plain -/
def S.inter_Inter_plain (i : S.Inter) : S.Inter :=
  let r1 : S.Inter := S.inter_Of i.Lo i.Hi
  r1
/-- (inter.Inter).IsEmpty -/
def S.inter_Inter_IsEmpty (i : S.Inter) : Bool :=
  let r1 : S.Inter := S.inter_Inter_plain i
  let r2 : S.Inter := S.inter_Empty
  let b3 : Bool := ((r1.Lo == r2.Lo) && (r1.Hi == r2.Hi))
  b3
/-- cong.Top -/
def S.cong_Top : S.Cong :=
  (⟨1, 0⟩ : S.Cong)
/-- value.Bottom -/
def S.value_Bottom : S.Value :=
  let r1 : S.Inter := S.inter_Empty
  let r2 : S.Cong := S.cong_Top
  (⟨r1, r2⟩ : S.Value)
/-- inter.One -/
def S.inter_One (n : Int) : S.Inter :=
  (⟨n, n⟩ : S.Inter)
/-- cong.Const -/
def S.cong_Const (n : Int) : S.Cong :=
  let t1 : Int := IntKind.u64.wrap n
  (⟨0, t1⟩ : S.Cong)
/-- value.One -/
def S.value_One (n : Int) : S.Value :=
  let r1 : S.Inter := S.inter_One n
  let r2 : S.Cong := S.cong_Const n
  (⟨r1, r2⟩ : S.Value)
/-- value.Make -/
def S.value_Make (i : S.Inter) (c : S.Cong) : S.Value :=
  let r1 : Bool := S.cong_Cong_Right c
  let b2 : Bool := !r1
  let t3 : Int := Int.tmod c.R c.M
  let r4 : Int × Bool := S.cong_Cong_Least (⟨c.M, (bif b2 then t3 else c.R)⟩ : S.Cong) i.Lo
  let r5 : Int × Bool := S.cong_Cong_Greatest (⟨c.M, (bif b2 then t3 else c.R)⟩ : S.Cong) i.Hi
  let r6 : Bool := S.inter_Inter_IsEmpty i
  let b7 : Bool := !r4.2
  let p8 : Bool := (r6 || b7)
  let b9 : Bool := !r5.2
  let p10 : Bool := (p8 || b9)
  let b11 : Bool := decide (r4.1 > r5.1)
  let p12 : Bool := (p10 || b11)
  let r13 : S.Value := S.value_Bottom
  let b14 : Bool := r4.1 == r5.1
  let r15 : S.Value := S.value_One r4.1
  let r16 : S.Inter := S.inter_Of r4.1 r5.1
  (bif p12 then r13 else (bif b14 then r15 else (⟨r16, (⟨c.M, (bif b2 then t3 else c.R)⟩ : S.Cong)⟩ : S.Value)))
def S.value_Make_pre (i : S.Inter) (c : S.Cong) : Prop :=
  let r1 : Bool := S.cong_Cong_Right c
  let b2 : Bool := !r1
  let t3 : Int := Int.tmod c.R c.M
  let r4 : Int × Bool := S.cong_Cong_Least (⟨c.M, (bif b2 then t3 else c.R)⟩ : S.Cong) i.Lo
  let r5 : Int × Bool := S.cong_Cong_Greatest (⟨c.M, (bif b2 then t3 else c.R)⟩ : S.Cong) i.Hi
  let r6 : Bool := S.inter_Inter_IsEmpty i
  let b7 : Bool := !r4.2
  let p8 : Bool := (r6 || b7)
  let b9 : Bool := !r5.2
  let p10 : Bool := (p8 || b9)
  let b11 : Bool := decide (r4.1 > r5.1)
  let p12 : Bool := (p10 || b11)
  let b14 : Bool := r4.1 == r5.1
  (All [(b2 = true → c.M ≠ 0), S.cong_Cong_Least_pre (⟨c.M, (bif b2 then t3 else c.R)⟩ : S.Cong) i.Lo, S.cong_Cong_Greatest_pre (⟨c.M, (bif b2 then t3 else c.R)⟩ : S.Cong) i.Hi] ∧ ((p12 = true → True) ∧ (p12 = false → ((b14 = true → True) ∧ (b14 = false → True)))))
/-- (value.Value).reduced -/
def S.value_Value_reduced (v : S.Value) : S.Value :=
  let r1 : S.Value := S.value_Make v.I v.C
  r1
def S.value_Value_reduced_pre (v : S.Value) : Prop :=
  (All [S.value_Make_pre v.I v.C] ∧ True)
/-- (value.Value).IsBottom -/
def S.value_Value_IsBottom (v : S.Value) : Bool :=
  let r1 : S.Value := S.value_Value_reduced v
  let r2 : S.Value := S.value_Bottom
  let b3 : Bool := ((r1.I.Lo == r2.I.Lo) && ((r1.I.Hi == r2.I.Hi) && ((r1.C.M == r2.C.M) && (r1.C.R == r2.C.R))))
  b3
def S.value_Value_IsBottom_pre (v : S.Value) : Prop :=
  (All [S.value_Value_reduced_pre v] ∧ True)
/-- (cong.Cong).Many -/
def S.cong_Cong_Many (c : S.Cong) (lo : Int) (hi : Int) : Int × Bool :=
  let r1 : Int × Bool := S.cong_Cong_Least c lo
  let r2 : Int × Bool := S.cong_Cong_Greatest c hi
  let b3 : Bool := !r1.2
  let b4 : Bool := !r2.2
  let p5 : Bool := (b3 || b4)
  let b6 : Bool := decide (r1.1 > r2.1)
  let p7 : Bool := (p5 || b6)
  let r8 : Bool := S.cong_Cong_single c
  let t9 : Int := IntKind.u64.wrap r2.1
  let t10 : Int := IntKind.u64.wrap r1.1
  let t11 : Int := IntKind.u64.wrap (t9 - t10)
  let t12 : Int := IntKind.u64.wrap (Int.tdiv t11 c.M)
  let t13 : Int := IntKind.u64.wrap (t12 + 1)
  let b14 : Bool := t12 != 18446744073709551615
  (bif p7 then (0, true) else (bif r8 then (1, true) else (t13, b14)))
def S.cong_Cong_Many_pre (c : S.Cong) (lo : Int) (hi : Int) : Prop :=
  let r1 : Int × Bool := S.cong_Cong_Least c lo
  let r2 : Int × Bool := S.cong_Cong_Greatest c hi
  let b3 : Bool := !r1.2
  let b4 : Bool := !r2.2
  let p5 : Bool := (b3 || b4)
  let b6 : Bool := decide (r1.1 > r2.1)
  let p7 : Bool := (p5 || b6)
  let r8 : Bool := S.cong_Cong_single c
  (All [S.cong_Cong_Least_pre c lo, S.cong_Cong_Greatest_pre c hi] ∧ ((p7 = true → True) ∧ (p7 = false → ((r8 = true → True) ∧ (r8 = false → (All [c.M ≠ 0] ∧ True))))))
/-- (value.Value).Card -/
def S.value_Value_Card (v : S.Value) : Int × Bool :=
  let r1 : S.Value := S.value_Value_reduced v
  let r2 : Bool := S.value_Value_IsBottom r1
  let r3 : Int × Bool := S.cong_Cong_Many r1.C r1.I.Lo r1.I.Hi
  (bif r2 then (0, true) else (r3.1, r3.2))
def S.value_Value_Card_pre (v : S.Value) : Prop :=
  let r1 : S.Value := S.value_Value_reduced v
  let r2 : Bool := S.value_Value_IsBottom r1
  (All [S.value_Value_reduced_pre v, S.value_Value_IsBottom_pre r1] ∧ ((r2 = true → True) ∧ (r2 = false → (All [S.cong_Cong_Many_pre r1.C r1.I.Lo r1.I.Hi] ∧ True))))
/-- sieveholesref19.Least -/
def S.ref19_Least : Int :=
  (-9223372036854775808)
/-- sieveholesref19.Most -/
def S.ref19_Most : Int :=
  9223372036854775807
/-- sieveholesref21.Top -/
def S.ref21_Top : S.Value :=
  let r1 : Int := S.ref19_Least
  let r2 : Int := S.ref19_Most
  (⟨(⟨r1, r2⟩ : S.Inter), (⟨1, 0⟩ : S.Cong)⟩ : S.Value)
/-- sieveholesref21.Card -/
def S.ref21_Card (v : S.Value) : Int × Bool :=
  let r1 : S.Value := S.ref21_Bottom
  let b2 : Bool := ((v.I.Lo == r1.I.Lo) && ((v.I.Hi == r1.I.Hi) && ((v.C.M == r1.C.M) && (v.C.R == r1.C.R))))
  let r3 : S.Value := S.ref21_Top
  let b4 : Bool := ((v.I.Lo == r3.I.Lo) && ((v.I.Hi == r3.I.Hi) && ((v.C.M == r3.C.M) && (v.C.R == r3.C.R))))
  let b5 : Bool := v.C.M == 0
  let t6 : Int := IntKind.u64.wrap v.I.Hi
  let t7 : Int := IntKind.u64.wrap v.I.Lo
  let t8 : Int := IntKind.u64.wrap (t6 - t7)
  let t9 : Int := IntKind.u64.wrap (Int.tdiv t8 v.C.M)
  let t10 : Int := IntKind.u64.wrap (t9 + 1)
  (bif b2 then (0, true) else (bif b4 then (0, false) else (bif b5 then (1, true) else (t10, true))))
def S.ref21_Card_pre (v : S.Value) : Prop :=
  let r1 : S.Value := S.ref21_Bottom
  let b2 : Bool := ((v.I.Lo == r1.I.Lo) && ((v.I.Hi == r1.I.Hi) && ((v.C.M == r1.C.M) && (v.C.R == r1.C.R))))
  let r3 : S.Value := S.ref21_Top
  let b4 : Bool := ((v.I.Lo == r3.I.Lo) && ((v.I.Hi == r3.I.Hi) && ((v.C.M == r3.C.M) && (v.C.R == r3.C.R))))
  let b5 : Bool := v.C.M == 0
  ((b2 = true → True) ∧ (b2 = false → ((b4 = true → True) ∧ (b4 = false → ((b5 = true → True) ∧ (b5 = false → (All [v.C.M ≠ 0] ∧ True)))))))
/-- (inter.Inter).Single -/
def S.inter_Inter_Single (i : S.Inter) : Int × Bool :=
  let r1 : S.Inter := S.inter_One i.Lo
  let b2 : Bool := !((i.Lo == r1.Lo) && (i.Hi == r1.Hi))
  (bif b2 then (0, false) else (i.Lo, true))
/-- (value.Value).Single -/
def S.value_Value_Single (v : S.Value) : Int × Bool :=
  let r1 : S.Value := S.value_Value_reduced v
  let r2 : Int × Bool := S.inter_Inter_Single r1.I
  (r2.1, r2.2)
def S.value_Value_Single_pre (v : S.Value) : Prop :=
  (All [S.value_Value_reduced_pre v] ∧ True)
/-- (value.Value).Some -/
def S.value_Value_Some (v : S.Value) (most : Int) : List Int :=
  let r := S.value_Value_reduced v
  bif S.value_Value_IsBottom r then [] else (List.range (min most.toNat ((r.I.Hi - r.I.Lo) / r.C.M + 1).toNat)).map fun (j : Nat) => r.I.Lo + (j : Int) * r.C.M
def S.value_Value_Some_pre (v : S.Value) (most : Int) : Prop :=
  let r := S.value_Value_reduced v
  S.value_Value_reduced_pre v ∧ S.value_Value_IsBottom_pre r ∧ most ≤ 1000000 ∧ (S.value_Value_IsBottom r = false → ∃ k : Nat, r.I.Lo + (k : Int) * r.C.M = r.I.Hi ∧ -9223372036854775808 ≤ r.I.Lo ∧ r.I.Hi ≤ 9223372036854775807 ∧ 0 ≤ r.C.M ∧ r.C.M < 18446744073709551616 ∧ (r.C.M = 0 → k = 0))
/-- (inter.Inter).Has -/
def S.inter_Inter_Has (i : S.Inter) (n : Int) : Bool :=
  let b1 : Bool := decide (i.Lo ≤ n)
  let b2 : Bool := decide (n ≤ i.Hi)
  let p3 : Bool := (b1 && b2)
  p3
/-- inter.Within -/
def S.inter_Within (a : S.Inter) (b : S.Inter) : Bool :=
  let r1 : Bool := S.inter_Inter_IsEmpty a
  let r2 : Bool := S.inter_Inter_Has b a.Lo
  let r3 : Bool := S.inter_Inter_Has b a.Hi
  let p4 : Bool := (r2 && r3)
  let p5 : Bool := (r1 || p4)
  p5
/-- (cong.Cong).by -/
def S.cong_Cong_by (c : S.Cong) (g : Int) : Int :=
  let r1 : Bool := S.cong_Cong_single c
  let r2 : Int := S.cong_Cong_number c
  let r3 : Int := S.cong_rest r2 g
  let t4 : Int := Int.tmod c.R g
  (bif r1 then r3 else t4)
def S.cong_Cong_by_pre (c : S.Cong) (g : Int) : Prop :=
  let r1 : Bool := S.cong_Cong_single c
  let r2 : Int := S.cong_Cong_number c
  ((r1 = true → (All [S.cong_rest_pre r2 g] ∧ True)) ∧ (r1 = false → (All [g ≠ 0] ∧ True)))
/-- cong.Within -/
def S.cong_Within (a : S.Cong) (b : S.Cong) : Bool :=
  let r1 : Bool := S.cong_Cong_single b
  let b2 : Bool := ((a.M == b.M) && (a.R == b.R))
  let t3 : Int := Int.tmod a.M b.M
  let b4 : Bool := t3 == 0
  let r5 : Int := S.cong_Cong_by a b.M
  let b6 : Bool := r5 == b.R
  let p7 : Bool := (b4 && b6)
  (bif r1 then b2 else p7)
def S.cong_Within_pre (a : S.Cong) (b : S.Cong) : Prop :=
  let r1 : Bool := S.cong_Cong_single b
  let t3 : Int := Int.tmod a.M b.M
  let b4 : Bool := t3 == 0
  ((r1 = true → True) ∧ (r1 = false → (All [b.M ≠ 0, (b4 = true → S.cong_Cong_by_pre a b.M)] ∧ True)))
/-- value.Within -/
def S.value_Within (a : S.Value) (b : S.Value) : Bool :=
  let r1 : S.Value := S.value_Value_reduced a
  let r2 : S.Value := S.value_Value_reduced b
  let r3 : S.Value := S.value_Bottom
  let b4 : Bool := ((r1.I.Lo == r3.I.Lo) && ((r1.I.Hi == r3.I.Hi) && ((r1.C.M == r3.C.M) && (r1.C.R == r3.C.R))))
  let r5 : Bool := S.inter_Within r1.I r2.I
  let r6 : Bool := S.cong_Within r1.C r2.C
  let p7 : Bool := (r5 && r6)
  let p8 : Bool := (b4 || p7)
  p8
def S.value_Within_pre (a : S.Value) (b : S.Value) : Prop :=
  let r1 : S.Value := S.value_Value_reduced a
  let r2 : S.Value := S.value_Value_reduced b
  let r3 : S.Value := S.value_Bottom
  let b4 : Bool := ((r1.I.Lo == r3.I.Lo) && ((r1.I.Hi == r3.I.Hi) && ((r1.C.M == r3.C.M) && (r1.C.R == r3.C.R))))
  let r5 : Bool := S.inter_Within r1.I r2.I
  (All [S.value_Value_reduced_pre a, S.value_Value_reduced_pre b, (b4 = false → (r5 = true → S.cong_Within_pre r1.C r2.C))] ∧ True)
/-- (value.Value).Has -/
def S.value_Value_Has (v : S.Value) (n : Int) : Bool :=
  let r1 : S.Value := S.value_One n
  let r2 : Bool := S.value_Within r1 v
  r2
def S.value_Value_Has_pre (v : S.Value) (n : Int) : Prop :=
  let r1 : S.Value := S.value_One n
  (All [S.value_Within_pre r1 v] ∧ True)
/-- sieveholesref20.Has -/
def S.ref20_Has (c : S.Cong) (n : Int) : Bool :=
  let b1 : Bool := c.M == 0
  let t2 : Int := IntKind.u64.wrap n
  let b3 : Bool := t2 == c.R
  let r4 : Int := S.ref20_Rest n c.M
  let b5 : Bool := r4 == c.R
  (bif b1 then b3 else b5)
def S.ref20_Has_pre (c : S.Cong) (n : Int) : Prop :=
  let b1 : Bool := c.M == 0
  ((b1 = true → True) ∧ (b1 = false → (All [S.ref20_Rest_pre n c.M] ∧ True)))
/-- sieveholesref21.Has -/
def S.ref21_Has (v : S.Value) (n : Int) : Bool :=
  let b1 : Bool := decide (v.C.M > 0)
  let t2 : Int := Int.tmod v.C.R v.C.M
  let r3 : Bool := S.ref19_Has v.I n
  let r4 : Bool := S.ref20_Has (⟨v.C.M, (bif b1 then t2 else v.C.R)⟩ : S.Cong) n
  let p5 : Bool := (r3 && r4)
  p5
def S.ref21_Has_pre (v : S.Value) (n : Int) : Prop :=
  let b1 : Bool := decide (v.C.M > 0)
  let t2 : Int := Int.tmod v.C.R v.C.M
  let r3 : Bool := S.ref19_Has v.I n
  (All [(b1 = true → v.C.M ≠ 0), (r3 = true → S.ref20_Has_pre (⟨v.C.M, (bif b1 then t2 else v.C.R)⟩ : S.Cong) n)] ∧ True)
@[ext] structure S.ref21_Some_L0 where
  most : Int
  n : Int
  out : (List Int)
  v : S.Value
def S.ref21_Some_L0_step (x : S.ref21_Some_L0) : S.ref21_Some_L0 ⊕ (Bool × S.ref21_Some_L0) :=
  let b1 : Bool := decide ((x.out.length : Int) < x.most)
  let l2 : List Int := x.out ++ ([x.n] : List Int)
  let b3 : Bool := x.n == x.v.I.Hi
  let t4 : Int := IntKind.u64.wrap x.n
  let t5 : Int := IntKind.u64.wrap (t4 + x.v.C.M)
  let t6 : Int := IntKind.i64.wrap t5
  (bif b1 then (bif b3 then (.inr ⟨true, ⟨x.most, x.n, l2, x.v⟩⟩) else (.inl ⟨x.most, t6, l2, x.v⟩)) else (.inr ⟨false, ⟨x.most, x.n, x.out, x.v⟩⟩))
def S.ref21_Some_L0_vcs (x : S.ref21_Some_L0) : Prop :=
  let b1 : Bool := decide ((x.out.length : Int) < x.most)
  let b3 : Bool := x.n == x.v.I.Hi
  ((b1 = true → (All [((x.out.length + ([x.n] : List Int).length : Nat) : Int) * 8 ≤ 140737488355328] ∧ ((b3 = true → True) ∧ (b3 = false → True)))) ∧ (b1 = false → True))
noncomputable def S.ref21_Some_L0_run (x : S.ref21_Some_L0) : Bool × S.ref21_Some_L0 := theRun (fun x => ⟨true, x⟩) S.ref21_Some_L0_step S.ref21_Some_L0_vcs x
/-- sieveholesref21.Some -/
noncomputable def S.ref21_Some (v : S.Value) (most : Int) : (List Int) :=
  let r1 : S.Value := S.ref21_Bottom
  let b2 : Bool := ((v.I.Lo == r1.I.Lo) && ((v.I.Hi == r1.I.Hi) && ((v.C.M == r1.C.M) && (v.C.R == r1.C.R))))
  let x3 : S.ref21_Some_L0 := (⟨most, v.I.Lo, ([] : List Int), v⟩ : S.ref21_Some_L0)
  let y4 : Bool × S.ref21_Some_L0 := S.ref21_Some_L0_run x3
  (bif b2 then ([] : List Int) else (bif y4.1 then y4.2.out else y4.2.out))
def S.ref21_Some_pre (v : S.Value) (most : Int) : Prop :=
  let r1 : S.Value := S.ref21_Bottom
  let b2 : Bool := ((v.I.Lo == r1.I.Lo) && ((v.I.Hi == r1.I.Hi) && ((v.C.M == r1.C.M) && (v.C.R == r1.C.R))))
  let x3 : S.ref21_Some_L0 := (⟨most, v.I.Lo, ([] : List Int), v⟩ : S.ref21_Some_L0)
  let y4 : Bool × S.ref21_Some_L0 := S.ref21_Some_L0_run x3
  ((b2 = true → True) ∧ (b2 = false → (All [Runs S.ref21_Some_L0_step S.ref21_Some_L0_vcs x3 (S.ref21_Some_L0_run x3)] ∧ ((y4.1 = true → True) ∧ (y4.1 = false → True)))))
@[ext] structure S.law21_same_L0 where
  a : (List Int)
  b : (List Int)
  t4 : Bool
  i : Int
def S.law21_same_L0_step (x : S.law21_same_L0) : S.law21_same_L0 ⊕ (Bool × S.law21_same_L0) :=
  let b1 : Bool := decide (x.i < (x.a.length : Int))
  let e2 : Int := x.a.getD (Int.toNat x.i) 0
  let e3 : Int := x.b.getD (Int.toNat x.i) 0
  let b4 : Bool := e2 != e3
  let t5 : Int := IntKind.i64.wrap (x.i + 1)
  (bif b1 then (bif b4 then (.inr ⟨true, ⟨x.a, x.b, false, x.i⟩⟩) else (.inl ⟨x.a, x.b, x.t4, t5⟩)) else (.inr ⟨false, ⟨x.a, x.b, x.t4, x.i⟩⟩))
def S.law21_same_L0_vcs (x : S.law21_same_L0) : Prop :=
  let b1 : Bool := decide (x.i < (x.a.length : Int))
  let e2 : Int := x.a.getD (Int.toNat x.i) 0
  let e3 : Int := x.b.getD (Int.toNat x.i) 0
  let b4 : Bool := e2 != e3
  ((b1 = true → (All [(0 : Int) ≤ x.i, x.i < (x.a.length : Int), (0 : Int) ≤ x.i, x.i < (x.b.length : Int)] ∧ ((b4 = true → True) ∧ (b4 = false → True)))) ∧ (b1 = false → True))
noncomputable def S.law21_same_L0_run (x : S.law21_same_L0) : Bool × S.law21_same_L0 := theRun (fun x => ⟨true, x⟩) S.law21_same_L0_step S.law21_same_L0_vcs x
/-- sieveholeslaw21.same -/
noncomputable def S.law21_same (a : (List Int)) (b : (List Int)) : Bool :=
  let b1 : Bool := (a.length : Int) != (b.length : Int)
  let x2 : S.law21_same_L0 := (⟨a, b, false, 0⟩ : S.law21_same_L0)
  let y3 : Bool × S.law21_same_L0 := S.law21_same_L0_run x2
  (bif b1 then false else (bif y3.1 then y3.2.t4 else true))
def S.law21_same_pre (a : (List Int)) (b : (List Int)) : Prop :=
  let b1 : Bool := (a.length : Int) != (b.length : Int)
  let x2 : S.law21_same_L0 := (⟨a, b, false, 0⟩ : S.law21_same_L0)
  let y3 : Bool × S.law21_same_L0 := S.law21_same_L0_run x2
  ((b1 = true → True) ∧ (b1 = false → (All [Runs S.law21_same_L0_step S.law21_same_L0_vcs x2 (S.law21_same_L0_run x2)] ∧ ((y3.1 = true → True) ∧ (y3.1 = false → True)))))
/-- math/bits.Len64 -/
def S.math_bits_Len64 (x : Int) : Int :=
  let b1 : Bool := decide (x ≥ 4294967296)
  let t2 : Int := Int.fdiv x (2 ^ min (Int.toNat 32) 64)
  let b3 : Bool := decide ((bif b1 then t2 else x) ≥ 65536)
  let t4 : Int := Int.fdiv (bif b1 then t2 else x) (2 ^ min (Int.toNat 16) 64)
  let t5 : Int := IntKind.i64.wrap ((bif b1 then 32 else 0) + 16)
  let b6 : Bool := decide ((bif b3 then t4 else (bif b1 then t2 else x)) ≥ 256)
  let t7 : Int := Int.fdiv (bif b3 then t4 else (bif b1 then t2 else x)) (2 ^ min (Int.toNat 8) 64)
  let t8 : Int := IntKind.i64.wrap ((bif b3 then t5 else (bif b1 then 32 else 0)) + 8)
  let t9 : Int := IntKind.u8.wrap (bif b6 then t7 else (bif b3 then t4 else (bif b1 then t2 else x)))
  let t10 : Int := (((⟨#[0, 1, 2, 2, 3, 3, 3, 3, 4, 4, 4, 4, 4, 4, 4, 4, 5, 5, 5, 5, 5, 5, 5, 5, 5, 5, 5, 5, 5, 5, 5, 5, 6, 6, 6, 6, 6, 6, 6, 6, 6, 6, 6, 6, 6, 6, 6, 6, 6, 6, 6, 6, 6, 6, 6, 6, 6, 6, 6, 6, 6, 6, 6, 6, 7, 7, 7, 7, 7, 7, 7, 7, 7, 7, 7, 7, 7, 7, 7, 7, 7, 7, 7, 7, 7, 7, 7, 7, 7, 7, 7, 7, 7, 7, 7, 7, 7, 7, 7, 7, 7, 7, 7, 7, 7, 7, 7, 7, 7, 7, 7, 7, 7, 7, 7, 7, 7, 7, 7, 7, 7, 7, 7, 7, 7, 7, 7, 7, 8, 8, 8, 8, 8, 8, 8, 8, 8, 8, 8, 8, 8, 8, 8, 8, 8, 8, 8, 8, 8, 8, 8, 8, 8, 8, 8, 8, 8, 8, 8, 8, 8, 8, 8, 8, 8, 8, 8, 8, 8, 8, 8, 8, 8, 8, 8, 8, 8, 8, 8, 8, 8, 8, 8, 8, 8, 8, 8, 8, 8, 8, 8, 8, 8, 8, 8, 8, 8, 8, 8, 8, 8, 8, 8, 8, 8, 8, 8, 8, 8, 8, 8, 8, 8, 8, 8, 8, 8, 8, 8, 8, 8, 8, 8, 8, 8, 8, 8, 8, 8, 8, 8, 8, 8, 8, 8, 8, 8, 8, 8, 8, 8, 8, 8, 8, 8, 8, 8, 8, 8, 8, 8, 8, 8, 8, 8, 8]⟩ : ByteArray).data.toList.getD (Int.toNat t9) 0).toNat : Int)
  let t11 : Int := IntKind.i64.wrap t10
  let t12 : Int := IntKind.i64.wrap ((bif b6 then t8 else (bif b3 then t5 else (bif b1 then 32 else 0))) + t11)
  t12
def S.math_bits_Len64_pre (x : Int) : Prop :=
  let b1 : Bool := decide (x ≥ 4294967296)
  let t2 : Int := Int.fdiv x (2 ^ min (Int.toNat 32) 64)
  let b3 : Bool := decide ((bif b1 then t2 else x) ≥ 65536)
  let t4 : Int := Int.fdiv (bif b1 then t2 else x) (2 ^ min (Int.toNat 16) 64)
  let b6 : Bool := decide ((bif b3 then t4 else (bif b1 then t2 else x)) ≥ 256)
  let t7 : Int := Int.fdiv (bif b3 then t4 else (bif b1 then t2 else x)) (2 ^ min (Int.toNat 8) 64)
  let t9 : Int := IntKind.u8.wrap (bif b6 then t7 else (bif b3 then t4 else (bif b1 then t2 else x)))
  (All [(0 : Int) ≤ t9, t9 < ((⟨#[0, 1, 2, 2, 3, 3, 3, 3, 4, 4, 4, 4, 4, 4, 4, 4, 5, 5, 5, 5, 5, 5, 5, 5, 5, 5, 5, 5, 5, 5, 5, 5, 6, 6, 6, 6, 6, 6, 6, 6, 6, 6, 6, 6, 6, 6, 6, 6, 6, 6, 6, 6, 6, 6, 6, 6, 6, 6, 6, 6, 6, 6, 6, 6, 7, 7, 7, 7, 7, 7, 7, 7, 7, 7, 7, 7, 7, 7, 7, 7, 7, 7, 7, 7, 7, 7, 7, 7, 7, 7, 7, 7, 7, 7, 7, 7, 7, 7, 7, 7, 7, 7, 7, 7, 7, 7, 7, 7, 7, 7, 7, 7, 7, 7, 7, 7, 7, 7, 7, 7, 7, 7, 7, 7, 7, 7, 7, 7, 8, 8, 8, 8, 8, 8, 8, 8, 8, 8, 8, 8, 8, 8, 8, 8, 8, 8, 8, 8, 8, 8, 8, 8, 8, 8, 8, 8, 8, 8, 8, 8, 8, 8, 8, 8, 8, 8, 8, 8, 8, 8, 8, 8, 8, 8, 8, 8, 8, 8, 8, 8, 8, 8, 8, 8, 8, 8, 8, 8, 8, 8, 8, 8, 8, 8, 8, 8, 8, 8, 8, 8, 8, 8, 8, 8, 8, 8, 8, 8, 8, 8, 8, 8, 8, 8, 8, 8, 8, 8, 8, 8, 8, 8, 8, 8, 8, 8, 8, 8, 8, 8, 8, 8, 8, 8, 8, 8, 8, 8, 8, 8, 8, 8, 8, 8, 8, 8, 8, 8, 8, 8, 8, 8, 8, 8, 8, 8]⟩ : ByteArray).size : Int)] ∧ True)
/-- internal/strconv.log10Pow2 -/
def S.internal_strconv_log10Pow2 (x : Int) : Int :=
  let t1 : Int := IntKind.i64.wrap (x * 78913)
  let t2 : Int := Int.fdiv t1 (2 ^ min (Int.toNat 18) 64)
  t2
/-- internal/strconv.bool2[int] -/
def S.internal_strconv_bool2int (b : Bool) : Int :=
  (bif b then 1 else 0)
/-- internal/strconv.isPowerOfTwo -/
def S.internal_strconv_isPowerOfTwo (x : Int) : Bool :=
  let t1 : Int := IntKind.i64.wrap (x - 1)
  let t2 : Int := bits .and .i64 x t1
  let b3 : Bool := t2 == 0
  b3
/-- strconv.FormatInt -/
def S.strconv_FormatInt (i : Int) (base : Int) : ByteArray :=
  let r1 : ByteArray := fmtI i base
  r1
def S.strconv_FormatInt_pre (i : Int) (base : Int) : Prop :=
  (All [fmtI_pre i base] ∧ True)
/-- strconv.FormatUint -/
def S.strconv_FormatUint (i : Int) (base : Int) : ByteArray :=
  let r1 : ByteArray := fmtU i base
  r1
def S.strconv_FormatUint_pre (i : Int) (base : Int) : Prop :=
  (All [fmtU_pre i base] ∧ True)
/-- (value.Value).Text -/
def S.value_Value_Text (v : S.Value) : ByteArray :=
  let r1 : S.Value := S.value_Value_reduced v
  let r2 : Bool := S.value_Value_IsBottom r1
  let r3 : Int × Bool := S.value_Value_Single r1
  let r4 : ByteArray := S.strconv_FormatInt r3.1 10
  let r5 : ByteArray := S.strconv_FormatInt r1.I.Lo 10
  let s6 : ByteArray := (⟨#[91]⟩ : ByteArray) ++ r5
  let s7 : ByteArray := s6 ++ (⟨#[44, 32]⟩ : ByteArray)
  let r8 : ByteArray := S.strconv_FormatInt r1.I.Hi 10
  let s9 : ByteArray := s7 ++ r8
  let s10 : ByteArray := s9 ++ (⟨#[93]⟩ : ByteArray)
  let b11 : Bool := decide (r1.C.M > 1)
  let r12 : ByteArray := S.strconv_FormatUint r1.C.R 10
  let s13 : ByteArray := (⟨#[32]⟩ : ByteArray) ++ r12
  let s14 : ByteArray := s13 ++ (⟨#[32, 109, 111, 100, 32]⟩ : ByteArray)
  let r15 : ByteArray := S.strconv_FormatUint r1.C.M 10
  let s16 : ByteArray := s14 ++ r15
  let s17 : ByteArray := s10 ++ s16
  (bif r2 then (⟨#[110, 111, 110, 101]⟩ : ByteArray) else (bif r3.2 then r4 else (bif b11 then s17 else s10)))
def S.value_Value_Text_pre (v : S.Value) : Prop :=
  let r1 : S.Value := S.value_Value_reduced v
  let r2 : Bool := S.value_Value_IsBottom r1
  let r3 : Int × Bool := S.value_Value_Single r1
  let r5 : ByteArray := S.strconv_FormatInt r1.I.Lo 10
  let s6 : ByteArray := (⟨#[91]⟩ : ByteArray) ++ r5
  let s7 : ByteArray := s6 ++ (⟨#[44, 32]⟩ : ByteArray)
  let r8 : ByteArray := S.strconv_FormatInt r1.I.Hi 10
  let s9 : ByteArray := s7 ++ r8
  let s10 : ByteArray := s9 ++ (⟨#[93]⟩ : ByteArray)
  let b11 : Bool := decide (r1.C.M > 1)
  let r12 : ByteArray := S.strconv_FormatUint r1.C.R 10
  let s13 : ByteArray := (⟨#[32]⟩ : ByteArray) ++ r12
  let s14 : ByteArray := s13 ++ (⟨#[32, 109, 111, 100, 32]⟩ : ByteArray)
  let r15 : ByteArray := S.strconv_FormatUint r1.C.M 10
  let s16 : ByteArray := s14 ++ r15
  (All [S.value_Value_reduced_pre v, S.value_Value_IsBottom_pre r1] ∧ ((r2 = true → True) ∧ (r2 = false → (All [S.value_Value_Single_pre r1] ∧ ((r3.2 = true → (All [S.strconv_FormatInt_pre r3.1 10] ∧ True)) ∧ (r3.2 = false → (All [S.strconv_FormatInt_pre r1.I.Lo 10, (((⟨#[91]⟩ : ByteArray).size + r5.size : Nat) : Int) ≤ IntKind.i64.max, ((s6.size + (⟨#[44, 32]⟩ : ByteArray).size : Nat) : Int) ≤ IntKind.i64.max, S.strconv_FormatInt_pre r1.I.Hi 10, ((s7.size + r8.size : Nat) : Int) ≤ IntKind.i64.max, ((s9.size + (⟨#[93]⟩ : ByteArray).size : Nat) : Int) ≤ IntKind.i64.max, (b11 = true → (S.strconv_FormatUint_pre r1.C.R 10 ∧ (((⟨#[32]⟩ : ByteArray).size + r12.size : Nat) : Int) ≤ IntKind.i64.max ∧ ((s13.size + (⟨#[32, 109, 111, 100, 32]⟩ : ByteArray).size : Nat) : Int) ≤ IntKind.i64.max ∧ S.strconv_FormatUint_pre r1.C.M 10 ∧ ((s14.size + r15.size : Nat) : Int) ≤ IntKind.i64.max ∧ ((s10.size + s16.size : Nat) : Int) ≤ IntKind.i64.max))] ∧ True)))))))
@[ext] structure S.ref01_trim_L0 where
  out : (List Int)
def S.ref01_trim_L0_step (x : S.ref01_trim_L0) : S.ref01_trim_L0 ⊕ (S.ref01_trim_L0) :=
  let b1 : Bool := decide ((x.out.length : Int) > 0)
  let t2 : Int := IntKind.i64.wrap ((x.out.length : Int) - 1)
  let e3 : Int := x.out.getD (Int.toNat t2) 0
  let b4 : Bool := e3 == 0
  let p5 : Bool := (b1 && b4)
  let t6 : Int := IntKind.i64.wrap ((x.out.length : Int) - 1)
  let l7 : (List Int) := x.out.take (Int.toNat t6)
  (bif p5 then (.inl ⟨l7⟩) else (.inr ⟨x.out⟩))
def S.ref01_trim_L0_vcs (x : S.ref01_trim_L0) : Prop :=
  let b1 : Bool := decide ((x.out.length : Int) > 0)
  let t2 : Int := IntKind.i64.wrap ((x.out.length : Int) - 1)
  let e3 : Int := x.out.getD (Int.toNat t2) 0
  let b4 : Bool := e3 == 0
  let p5 : Bool := (b1 && b4)
  let t6 : Int := IntKind.i64.wrap ((x.out.length : Int) - 1)
  (All [(b1 = true → ((0 : Int) ≤ t2 ∧ t2 < (x.out.length : Int)))] ∧ ((p5 = true → (All [(0 : Int) ≤ t6, t6 ≤ (x.out.length : Int)] ∧ True)) ∧ (p5 = false → True)))
noncomputable def S.ref01_trim_L0_run (x : S.ref01_trim_L0) : S.ref01_trim_L0 := theRun (fun x => x) S.ref01_trim_L0_step S.ref01_trim_L0_vcs x
/-- sieveholesref01.trim -/
noncomputable def S.ref01_trim (l : (List Int)) : (List Int) :=
  let l1 : List Int := ([] : List Int) ++ l
  let x2 : S.ref01_trim_L0 := (⟨l1⟩ : S.ref01_trim_L0)
  let y3 : S.ref01_trim_L0 := S.ref01_trim_L0_run x2
  y3.out
def S.ref01_trim_pre (l : (List Int)) : Prop :=
  let l1 : List Int := ([] : List Int) ++ l
  let x2 : S.ref01_trim_L0 := (⟨l1⟩ : S.ref01_trim_L0)
  (All [((([] : List Int).length + l.length : Nat) : Int) * 1 ≤ 140737488355328, Runs S.ref01_trim_L0_step S.ref01_trim_L0_vcs x2 (S.ref01_trim_L0_run x2)] ∧ True)
@[ext] structure S.ref01_Of_L2 where
  n : Int
  k : Int
  out : (List Int)
def S.ref01_Of_L2_step (x : S.ref01_Of_L2) : S.ref01_Of_L2 ⊕ (S.ref01_Of_L2) :=
  let b1 : Bool := decide (x.k < 8)
  let t2 : Int := Int.tmod x.n 256
  let t3 : Int := IntKind.u8.wrap t2
  let l4 : List Int := x.out ++ ([t3] : List Int)
  let t5 : Int := IntKind.u64.wrap (Int.tdiv x.n 256)
  let t6 : Int := IntKind.i64.wrap (x.k + 1)
  (bif b1 then (.inl ⟨t5, t6, l4⟩) else (.inr ⟨x.n, x.k, x.out⟩))
def S.ref01_Of_L2_vcs (x : S.ref01_Of_L2) : Prop :=
  let b1 : Bool := decide (x.k < 8)
  let t2 : Int := Int.tmod x.n 256
  let t3 : Int := IntKind.u8.wrap t2
  ((b1 = true → (All [((x.out.length + ([t3] : List Int).length : Nat) : Int) * 1 ≤ 140737488355328] ∧ True)) ∧ (b1 = false → True))
noncomputable def S.ref01_Of_L2_run (x : S.ref01_Of_L2) : S.ref01_Of_L2 := theRun (fun x => x) S.ref01_Of_L2_step S.ref01_Of_L2_vcs x
@[ext] structure S.ref01_Of_L0 where
  l : (List Int)
  i : Int
  out : (List Int)
noncomputable def S.ref01_Of_L0_step (x : S.ref01_Of_L0) : S.ref01_Of_L0 ⊕ (S.ref01_Of_L0) :=
  let b1 : Bool := decide (x.i < (x.l.length : Int))
  let e2 : Int := x.l.getD (Int.toNat x.i) 0
  let x3 : S.ref01_Of_L2 := (⟨e2, 0, x.out⟩ : S.ref01_Of_L2)
  let y4 : S.ref01_Of_L2 := S.ref01_Of_L2_run x3
  let t5 : Int := IntKind.i64.wrap (x.i + 1)
  (bif b1 then (.inl ⟨x.l, t5, y4.out⟩) else (.inr ⟨x.l, x.i, x.out⟩))
noncomputable def S.ref01_Of_L0_vcs (x : S.ref01_Of_L0) : Prop :=
  let b1 : Bool := decide (x.i < (x.l.length : Int))
  let e2 : Int := x.l.getD (Int.toNat x.i) 0
  let x3 : S.ref01_Of_L2 := (⟨e2, 0, x.out⟩ : S.ref01_Of_L2)
  ((b1 = true → (All [(0 : Int) ≤ x.i, x.i < (x.l.length : Int), Runs S.ref01_Of_L2_step S.ref01_Of_L2_vcs x3 (S.ref01_Of_L2_run x3)] ∧ True)) ∧ (b1 = false → True))
noncomputable def S.ref01_Of_L0_run (x : S.ref01_Of_L0) : S.ref01_Of_L0 := theRun (fun x => x) S.ref01_Of_L0_step S.ref01_Of_L0_vcs x
/-- sieveholesref01.Of -/
noncomputable def S.ref01_Of (l : (List Int)) : (List Int) :=
  let x1 : S.ref01_Of_L0 := (⟨l, 0, ([] : List Int)⟩ : S.ref01_Of_L0)
  let y2 : S.ref01_Of_L0 := S.ref01_Of_L0_run x1
  let r3 : (List Int) := S.ref01_trim y2.out
  r3
def S.ref01_Of_pre (l : (List Int)) : Prop :=
  let x1 : S.ref01_Of_L0 := (⟨l, 0, ([] : List Int)⟩ : S.ref01_Of_L0)
  let y2 : S.ref01_Of_L0 := S.ref01_Of_L0_run x1
  (All [Runs S.ref01_Of_L0_step S.ref01_Of_L0_vcs x1 (S.ref01_Of_L0_run x1), S.ref01_trim_pre y2.out] ∧ True)
@[ext] structure S.ref01_Limbs_L2 where
  n : (List Int)
  i : Int
  vx : Int
  k : Int
def S.ref01_Limbs_L2_step (x : S.ref01_Limbs_L2) : S.ref01_Limbs_L2 ⊕ (S.ref01_Limbs_L2) :=
  let b1 : Bool := decide (x.k ≥ x.i)
  let t2 : Int := IntKind.u64.wrap (x.vx * 256)
  let e3 : Int := x.n.getD (Int.toNat x.k) 0
  let t4 : Int := IntKind.u64.wrap e3
  let t5 : Int := IntKind.u64.wrap (t2 + t4)
  let t6 : Int := IntKind.i64.wrap (x.k - 1)
  (bif b1 then (.inl ⟨x.n, x.i, t5, t6⟩) else (.inr ⟨x.n, x.i, x.vx, x.k⟩))
def S.ref01_Limbs_L2_vcs (x : S.ref01_Limbs_L2) : Prop :=
  let b1 : Bool := decide (x.k ≥ x.i)
  ((b1 = true → (All [(0 : Int) ≤ x.k, x.k < (x.n.length : Int)] ∧ True)) ∧ (b1 = false → True))
noncomputable def S.ref01_Limbs_L2_run (x : S.ref01_Limbs_L2) : S.ref01_Limbs_L2 := theRun (fun x => x) S.ref01_Limbs_L2_step S.ref01_Limbs_L2_vcs x
@[ext] structure S.ref01_Limbs_L0 where
  n : (List Int)
  i : Int
  out : (List Int)
noncomputable def S.ref01_Limbs_L0_step (x : S.ref01_Limbs_L0) : S.ref01_Limbs_L0 ⊕ (S.ref01_Limbs_L0) :=
  let b1 : Bool := decide (x.i < (x.n.length : Int))
  let t2 : Int := IntKind.i64.wrap (x.i + 8)
  let m3 : Int := if t2 < (x.n.length : Int) then t2 else (x.n.length : Int)
  let t4 : Int := IntKind.i64.wrap (m3 - 1)
  let x5 : S.ref01_Limbs_L2 := (⟨x.n, x.i, 0, t4⟩ : S.ref01_Limbs_L2)
  let y6 : S.ref01_Limbs_L2 := S.ref01_Limbs_L2_run x5
  let l7 : List Int := x.out ++ ([y6.vx] : List Int)
  let t8 : Int := IntKind.i64.wrap (y6.i + 8)
  (bif b1 then (.inl ⟨y6.n, t8, l7⟩) else (.inr ⟨x.n, x.i, x.out⟩))
noncomputable def S.ref01_Limbs_L0_vcs (x : S.ref01_Limbs_L0) : Prop :=
  let b1 : Bool := decide (x.i < (x.n.length : Int))
  let t2 : Int := IntKind.i64.wrap (x.i + 8)
  let m3 : Int := if t2 < (x.n.length : Int) then t2 else (x.n.length : Int)
  let t4 : Int := IntKind.i64.wrap (m3 - 1)
  let x5 : S.ref01_Limbs_L2 := (⟨x.n, x.i, 0, t4⟩ : S.ref01_Limbs_L2)
  let y6 : S.ref01_Limbs_L2 := S.ref01_Limbs_L2_run x5
  ((b1 = true → (All [Runs S.ref01_Limbs_L2_step S.ref01_Limbs_L2_vcs x5 (S.ref01_Limbs_L2_run x5), ((x.out.length + ([y6.vx] : List Int).length : Nat) : Int) * 8 ≤ 140737488355328] ∧ True)) ∧ (b1 = false → True))
noncomputable def S.ref01_Limbs_L0_run (x : S.ref01_Limbs_L0) : S.ref01_Limbs_L0 := theRun (fun x => x) S.ref01_Limbs_L0_step S.ref01_Limbs_L0_vcs x
/-- sieveholesref01.Limbs -/
noncomputable def S.ref01_Limbs (n : (List Int)) : (List Int) :=
  let x1 : S.ref01_Limbs_L0 := (⟨n, 0, ([] : List Int)⟩ : S.ref01_Limbs_L0)
  let y2 : S.ref01_Limbs_L0 := S.ref01_Limbs_L0_run x1
  y2.out
def S.ref01_Limbs_pre (n : (List Int)) : Prop :=
  let x1 : S.ref01_Limbs_L0 := (⟨n, 0, ([] : List Int)⟩ : S.ref01_Limbs_L0)
  (All [Runs S.ref01_Limbs_L0_step S.ref01_Limbs_L0_vcs x1 (S.ref01_Limbs_L0_run x1)] ∧ True)
@[ext] structure S.ref02_Div_L2 where
  n : (List Int)
  vby : Int
  left : Int
  i : Int
  digit : Int
  out : (List Int)
def S.ref02_Div_L2_step (x : S.ref02_Div_L2) : S.ref02_Div_L2 ⊕ (S.ref02_Div_L2) :=
  let b1 : Bool := decide (x.digit > 0)
  let b2 : Bool := decide (x.left ≥ 9223372036854775808)
  let t3 : Int := IntKind.u64.wrap (x.left * 2)
  let e4 : Int := x.n.getD (Int.toNat x.i) 0
  let t5 : Int := IntKind.i64.wrap e4
  let t6 : Int := IntKind.i64.wrap (Int.tdiv t5 x.digit)
  let t7 : Int := Int.tmod t6 2
  let t8 : Int := IntKind.u64.wrap t7
  let t9 : Int := IntKind.u64.wrap (t3 + t8)
  let b10 : Bool := decide (t9 ≥ x.vby)
  let p11 : Bool := (b2 || b10)
  let t12 : Int := IntKind.u64.wrap (t9 - x.vby)
  let e13 : Int := x.out.getD (Int.toNat x.i) 0
  let t14 : Int := IntKind.u8.wrap x.digit
  let t15 : Int := IntKind.u8.wrap (e13 + t14)
  let l16 : List Int := x.out.set (Int.toNat x.i) t15
  let t17 : Int := IntKind.i64.wrap (Int.tdiv x.digit 2)
  (bif b1 then (.inl ⟨x.n, x.vby, (bif p11 then t12 else t9), x.i, t17, (bif p11 then l16 else x.out)⟩) else (.inr ⟨x.n, x.vby, x.left, x.i, x.digit, x.out⟩))
def S.ref02_Div_L2_vcs (x : S.ref02_Div_L2) : Prop :=
  let b1 : Bool := decide (x.digit > 0)
  let b2 : Bool := decide (x.left ≥ 9223372036854775808)
  let t3 : Int := IntKind.u64.wrap (x.left * 2)
  let e4 : Int := x.n.getD (Int.toNat x.i) 0
  let t5 : Int := IntKind.i64.wrap e4
  let t6 : Int := IntKind.i64.wrap (Int.tdiv t5 x.digit)
  let t7 : Int := Int.tmod t6 2
  let t8 : Int := IntKind.u64.wrap t7
  let t9 : Int := IntKind.u64.wrap (t3 + t8)
  let b10 : Bool := decide (t9 ≥ x.vby)
  let p11 : Bool := (b2 || b10)
  ((b1 = true → (All [(0 : Int) ≤ x.i, x.i < (x.n.length : Int), x.digit ≠ 0, (p11 = true → ((0 : Int) ≤ x.i ∧ x.i < (x.out.length : Int) ∧ (0 : Int) ≤ x.i ∧ x.i < (x.out.length : Int)))] ∧ True)) ∧ (b1 = false → True))
noncomputable def S.ref02_Div_L2_run (x : S.ref02_Div_L2) : S.ref02_Div_L2 := theRun (fun x => x) S.ref02_Div_L2_step S.ref02_Div_L2_vcs x
@[ext] structure S.ref02_Div_L0 where
  n : (List Int)
  vby : Int
  left : Int
  i : Int
  out : (List Int)
noncomputable def S.ref02_Div_L0_step (x : S.ref02_Div_L0) : S.ref02_Div_L0 ⊕ (S.ref02_Div_L0) :=
  let b1 : Bool := decide (x.i ≥ 0)
  let x2 : S.ref02_Div_L2 := (⟨x.n, x.vby, x.left, x.i, 128, x.out⟩ : S.ref02_Div_L2)
  let y3 : S.ref02_Div_L2 := S.ref02_Div_L2_run x2
  let t4 : Int := IntKind.i64.wrap (y3.i - 1)
  (bif b1 then (.inl ⟨y3.n, y3.vby, y3.left, t4, y3.out⟩) else (.inr ⟨x.n, x.vby, x.left, x.i, x.out⟩))
noncomputable def S.ref02_Div_L0_vcs (x : S.ref02_Div_L0) : Prop :=
  let b1 : Bool := decide (x.i ≥ 0)
  let x2 : S.ref02_Div_L2 := (⟨x.n, x.vby, x.left, x.i, 128, x.out⟩ : S.ref02_Div_L2)
  ((b1 = true → (All [Runs S.ref02_Div_L2_step S.ref02_Div_L2_vcs x2 (S.ref02_Div_L2_run x2)] ∧ True)) ∧ (b1 = false → True))
noncomputable def S.ref02_Div_L0_run (x : S.ref02_Div_L0) : S.ref02_Div_L0 := theRun (fun x => x) S.ref02_Div_L0_step S.ref02_Div_L0_vcs x
/-- sieveholesref02.Div -/
noncomputable def S.ref02_Div (n : (List Int)) (a1 : Int) : (List Int) × Int × Int :=
  let b1 : Bool := a1 == 0
  let t2 : Int := IntKind.i64.wrap ((n.length : Int) - 1)
  let x3 : S.ref02_Div_L0 := (⟨n, a1, 0, t2, (List.replicate (Int.toNat (n.length : Int)) (0 : Int))⟩ : S.ref02_Div_L0)
  let y4 : S.ref02_Div_L0 := S.ref02_Div_L0_run x3
  let r5 : (List Int) := S.ref01_Limbs y4.out
  let r6 : (List Int) := S.ref01_Of r5
  (bif b1 then (([] : List Int), 0, 2) else (r6, y4.left, 0))
def S.ref02_Div_pre (n : (List Int)) (a1 : Int) : Prop :=
  let b1 : Bool := a1 == 0
  let t2 : Int := IntKind.i64.wrap ((n.length : Int) - 1)
  let x3 : S.ref02_Div_L0 := (⟨n, a1, 0, t2, (List.replicate (Int.toNat (n.length : Int)) (0 : Int))⟩ : S.ref02_Div_L0)
  let y4 : S.ref02_Div_L0 := S.ref02_Div_L0_run x3
  let r5 : (List Int) := S.ref01_Limbs y4.out
  ((b1 = true → True) ∧ (b1 = false → (All [(0 : Int) ≤ (n.length : Int), (n.length : Int) = (n.length : Int), (n.length : Int) * 1 ≤ 140737488355328, Runs S.ref02_Div_L0_step S.ref02_Div_L0_vcs x3 (S.ref02_Div_L0_run x3), S.ref01_Limbs_pre y4.out, S.ref01_Of_pre r5] ∧ True)))
/-- sieveholesref02.Text -/
noncomputable def S.ref02_Text_F : Nat → (List Int) → ByteArray
  | 0, _ => (⟨#[]⟩ : ByteArray)
  | n + 1, a0 =>
  let b1 : Bool := (a0.length : Int) == 0
  let r2 : (List Int) × Int × Int := S.ref02_Div a0 10
  let b3 : Bool := (r2.1.length : Int) == 0
  let t4 : Int := IntKind.u64.wrap (48 + r2.2.1)
  let t5 : Int := IntKind.u8.wrap t4
  let s6 : ByteArray := ([t5] : List Int).foldl (fun r n => r.push (UInt8.ofNat (Int.toNat n))) ByteArray.empty
  let r7 : ByteArray := S.ref02_Text_F n r2.1
  let t8 : Int := IntKind.u64.wrap (48 + r2.2.1)
  let t9 : Int := IntKind.u8.wrap t8
  let s10 : ByteArray := ([t9] : List Int).foldl (fun r n => r.push (UInt8.ofNat (Int.toNat n))) ByteArray.empty
  let s11 : ByteArray := r7 ++ s10
  (bif b1 then (⟨#[48]⟩ : ByteArray) else (bif b3 then s6 else s11))
def S.ref02_Text_D : Nat → (List Int) → Prop
  | 0, _ => False
  | n + 1, a0 =>
  let b1 : Bool := (a0.length : Int) == 0
  let r2 : (List Int) × Int × Int := S.ref02_Div a0 10
  let b3 : Bool := (r2.1.length : Int) == 0
  let r7 : ByteArray := S.ref02_Text_F n r2.1
  let t8 : Int := IntKind.u64.wrap (48 + r2.2.1)
  let t9 : Int := IntKind.u8.wrap t8
  let s10 : ByteArray := ([t9] : List Int).foldl (fun r n => r.push (UInt8.ofNat (Int.toNat n))) ByteArray.empty
  ((b1 = true → True) ∧ (b1 = false → (All [S.ref02_Div_pre a0 10] ∧ ((b3 = true → True) ∧ (b3 = false → (All [S.ref02_Text_D n r2.1, ((r7.size + s10.size : Nat) : Int) ≤ IntKind.i64.max] ∧ True))))))
noncomputable def S.ref02_Text (a0 : (List Int)) : ByteArray := S.ref02_Text_F (Classical.epsilon fun n => S.ref02_Text_D n a0) a0
def S.ref02_Text_pre (a0 : (List Int)) : Prop := ∃ n, S.ref02_Text_D n a0
/-- sieveholesref02.Whole -/
noncomputable def S.ref02_Whole (n : Int) : ByteArray :=
  let b1 : Bool := decide (n < 0)
  let t2 : Int := IntKind.i64.wrap (0 - n)
  let t3 : Int := IntKind.u64.wrap t2
  let r4 : (List Int) := S.ref01_Of ([t3] : List Int)
  let r5 : ByteArray := S.ref02_Text r4
  let s6 : ByteArray := (⟨#[45]⟩ : ByteArray) ++ r5
  let t7 : Int := IntKind.u64.wrap n
  let r8 : (List Int) := S.ref01_Of ([t7] : List Int)
  let r9 : ByteArray := S.ref02_Text r8
  (bif b1 then s6 else r9)
def S.ref02_Whole_pre (n : Int) : Prop :=
  let b1 : Bool := decide (n < 0)
  let t2 : Int := IntKind.i64.wrap (0 - n)
  let t3 : Int := IntKind.u64.wrap t2
  let r4 : (List Int) := S.ref01_Of ([t3] : List Int)
  let r5 : ByteArray := S.ref02_Text r4
  let t7 : Int := IntKind.u64.wrap n
  let r8 : (List Int) := S.ref01_Of ([t7] : List Int)
  ((b1 = true → (All [S.ref01_Of_pre ([t3] : List Int), S.ref02_Text_pre r4, (((⟨#[45]⟩ : ByteArray).size + r5.size : Nat) : Int) ≤ IntKind.i64.max] ∧ True)) ∧ (b1 = false → (All [S.ref01_Of_pre ([t7] : List Int), S.ref02_Text_pre r8] ∧ True)))
/-- sieveholesref21.digits -/
def S.ref21_digits_F : Nat → Int → ByteArray
  | 0, _ => (⟨#[]⟩ : ByteArray)
  | n + 1, a0 =>
  let b1 : Bool := decide (a0 < 10)
  let t2 : Int := IntKind.u64.wrap (48 + a0)
  let t3 : Int := IntKind.u8.wrap t2
  let s4 : ByteArray := ([t3] : List Int).foldl (fun r n => r.push (UInt8.ofNat (Int.toNat n))) ByteArray.empty
  let t5 : Int := IntKind.u64.wrap (Int.tdiv a0 10)
  let r6 : ByteArray := S.ref21_digits_F n t5
  let t7 : Int := Int.tmod a0 10
  let r8 : ByteArray := S.ref21_digits_F n t7
  let s9 : ByteArray := r6 ++ r8
  (bif b1 then s4 else s9)
def S.ref21_digits_D : Nat → Int → Prop
  | 0, _ => False
  | n + 1, a0 =>
  let b1 : Bool := decide (a0 < 10)
  let t5 : Int := IntKind.u64.wrap (Int.tdiv a0 10)
  let r6 : ByteArray := S.ref21_digits_F n t5
  let t7 : Int := Int.tmod a0 10
  let r8 : ByteArray := S.ref21_digits_F n t7
  ((b1 = true → True) ∧ (b1 = false → (All [S.ref21_digits_D n t5, S.ref21_digits_D n t7, ((r6.size + r8.size : Nat) : Int) ≤ IntKind.i64.max] ∧ True)))
noncomputable def S.ref21_digits (a0 : Int) : ByteArray := S.ref21_digits_F (Classical.epsilon fun n => S.ref21_digits_D n a0) a0
def S.ref21_digits_pre (a0 : Int) : Prop := ∃ n, S.ref21_digits_D n a0
/-- sieveholesref21.Text -/
noncomputable def S.ref21_Text (v : S.Value) : ByteArray :=
  let r1 : S.Value := S.ref21_Bottom
  let b2 : Bool := ((v.I.Lo == r1.I.Lo) && ((v.I.Hi == r1.I.Hi) && ((v.C.M == r1.C.M) && (v.C.R == r1.C.R))))
  let b3 : Bool := v.I.Lo == v.I.Hi
  let r4 : ByteArray := S.ref02_Whole v.I.Lo
  let r5 : ByteArray := S.ref02_Whole v.I.Lo
  let s6 : ByteArray := (⟨#[91]⟩ : ByteArray) ++ r5
  let s7 : ByteArray := s6 ++ (⟨#[44, 32]⟩ : ByteArray)
  let r8 : ByteArray := S.ref02_Whole v.I.Hi
  let s9 : ByteArray := s7 ++ r8
  let s10 : ByteArray := s9 ++ (⟨#[93]⟩ : ByteArray)
  let b11 : Bool := decide (v.C.M > 1)
  let s12 : ByteArray := s10 ++ (⟨#[32]⟩ : ByteArray)
  let r13 : ByteArray := S.ref21_digits v.C.R
  let s14 : ByteArray := s12 ++ r13
  let s15 : ByteArray := s14 ++ (⟨#[32, 109, 111, 100, 32]⟩ : ByteArray)
  let r16 : ByteArray := S.ref21_digits v.C.M
  let s17 : ByteArray := s15 ++ r16
  (bif b2 then (⟨#[110, 111, 110, 101]⟩ : ByteArray) else (bif b3 then r4 else (bif b11 then s17 else s10)))
def S.ref21_Text_pre (v : S.Value) : Prop :=
  let r1 : S.Value := S.ref21_Bottom
  let b2 : Bool := ((v.I.Lo == r1.I.Lo) && ((v.I.Hi == r1.I.Hi) && ((v.C.M == r1.C.M) && (v.C.R == r1.C.R))))
  let b3 : Bool := v.I.Lo == v.I.Hi
  let r5 : ByteArray := S.ref02_Whole v.I.Lo
  let s6 : ByteArray := (⟨#[91]⟩ : ByteArray) ++ r5
  let s7 : ByteArray := s6 ++ (⟨#[44, 32]⟩ : ByteArray)
  let r8 : ByteArray := S.ref02_Whole v.I.Hi
  let s9 : ByteArray := s7 ++ r8
  let s10 : ByteArray := s9 ++ (⟨#[93]⟩ : ByteArray)
  let b11 : Bool := decide (v.C.M > 1)
  let s12 : ByteArray := s10 ++ (⟨#[32]⟩ : ByteArray)
  let r13 : ByteArray := S.ref21_digits v.C.R
  let s14 : ByteArray := s12 ++ r13
  let s15 : ByteArray := s14 ++ (⟨#[32, 109, 111, 100, 32]⟩ : ByteArray)
  let r16 : ByteArray := S.ref21_digits v.C.M
  ((b2 = true → True) ∧ (b2 = false → ((b3 = true → (All [S.ref02_Whole_pre v.I.Lo] ∧ True)) ∧ (b3 = false → (All [S.ref02_Whole_pre v.I.Lo, (((⟨#[91]⟩ : ByteArray).size + r5.size : Nat) : Int) ≤ IntKind.i64.max, ((s6.size + (⟨#[44, 32]⟩ : ByteArray).size : Nat) : Int) ≤ IntKind.i64.max, S.ref02_Whole_pre v.I.Hi, ((s7.size + r8.size : Nat) : Int) ≤ IntKind.i64.max, ((s9.size + (⟨#[93]⟩ : ByteArray).size : Nat) : Int) ≤ IntKind.i64.max, (b11 = true → (((s10.size + (⟨#[32]⟩ : ByteArray).size : Nat) : Int) ≤ IntKind.i64.max ∧ S.ref21_digits_pre v.C.R ∧ ((s12.size + r13.size : Nat) : Int) ≤ IntKind.i64.max ∧ ((s14.size + (⟨#[32, 109, 111, 100, 32]⟩ : ByteArray).size : Nat) : Int) ≤ IntKind.i64.max ∧ S.ref21_digits_pre v.C.M ∧ ((s15.size + r16.size : Nat) : Int) ≤ IntKind.i64.max))] ∧ True)))))
/-- inter.Whole -/
def S.inter_Whole : S.Inter :=
  (⟨(-9223372036854775808), 9223372036854775807⟩ : S.Inter)
/-- value.Top -/
def S.value_Top : S.Value :=
  let r1 : S.Inter := S.inter_Whole
  let r2 : S.Cong := S.cong_Top
  (⟨r1, r2⟩ : S.Value)
/-- value.Range -/
def S.value_Range (lo : Int) (hi : Int) : S.Value :=
  let r1 : S.Inter := S.inter_Of lo hi
  let r2 : S.Cong := S.cong_Top
  let r3 : S.Value := S.value_Make r1 r2
  r3
def S.value_Range_pre (lo : Int) (hi : Int) : Prop :=
  let r1 : S.Inter := S.inter_Of lo hi
  let r2 : S.Cong := S.cong_Top
  (All [S.value_Make_pre r1 r2] ∧ True)
/-- cong.Make -/
def S.cong_Make (m : Int) (n : Int) : S.Cong :=
  let b1 : Bool := m == 0
  let r2 : S.Cong := S.cong_Const n
  let r3 : Int := S.cong_rest n m
  (bif b1 then r2 else (⟨m, r3⟩ : S.Cong))
def S.cong_Make_pre (m : Int) (n : Int) : Prop :=
  let b1 : Bool := m == 0
  ((b1 = true → True) ∧ (b1 = false → (All [S.cong_rest_pre n m] ∧ True)))
/-- inter.Join$1 -/
def S.inter_Join_1 (a : S.Inter) (b : S.Inter) : S.Inter :=
  let r1 : Bool := S.inter_Inter_IsEmpty a
  let r2 : Bool := S.inter_Inter_IsEmpty b
  let m3 : Int := if b.Lo < a.Lo then b.Lo else a.Lo
  let m4 : Int := if b.Hi > a.Hi then b.Hi else a.Hi
  (bif r1 then b else (bif r2 then a else (⟨m3, m4⟩ : S.Inter)))
/-- inter.Meet$1 -/
def S.inter_Meet_1 (a : S.Inter) (b : S.Inter) : S.Inter :=
  let m1 : Int := if b.Lo > a.Lo then b.Lo else a.Lo
  let m2 : Int := if b.Hi < a.Hi then b.Hi else a.Hi
  let r3 : S.Inter := S.inter_Of m1 m2
  r3
@[ext] structure S.inter_fold_inter_Join_1_L0 where
  t9 : (List S.Inter)
  t10 : Int
  t11 : Int
  first : S.Inter
def S.inter_fold_inter_Join_1_L0_step (x : S.inter_fold_inter_Join_1_L0) : S.inter_fold_inter_Join_1_L0 ⊕ (S.inter_fold_inter_Join_1_L0) :=
  let b1 : Bool := decide (x.t11 < x.t10)
  let e2 : S.Inter := x.t9.getD (Int.toNat x.t11) (⟨0, 0⟩ : S.Inter)
  let r3 : S.Inter := S.inter_Join_1 x.first e2
  let t4 : Int := IntKind.i64.wrap (x.t11 + 1)
  (bif b1 then (.inl ⟨x.t9, x.t10, t4, r3⟩) else (.inr ⟨x.t9, x.t10, x.t11, x.first⟩))
def S.inter_fold_inter_Join_1_L0_vcs (x : S.inter_fold_inter_Join_1_L0) : Prop :=
  let b1 : Bool := decide (x.t11 < x.t10)
  ((b1 = true → (All [(0 : Int) ≤ x.t11, x.t11 < (x.t9.length : Int)] ∧ True)) ∧ (b1 = false → True))
noncomputable def S.inter_fold_inter_Join_1_L0_run (x : S.inter_fold_inter_Join_1_L0) : S.inter_fold_inter_Join_1_L0 := theRun (fun x => x) S.inter_fold_inter_Join_1_L0_step S.inter_fold_inter_Join_1_L0_vcs x
/-- inter.fold -/
noncomputable def S.inter_fold_inter_Join_1 (first : S.Inter) (l : (List S.Inter)) : S.Inter :=
  let x1 : S.inter_fold_inter_Join_1_L0 := (⟨l, (l.length : Int), 0, first⟩ : S.inter_fold_inter_Join_1_L0)
  let y2 : S.inter_fold_inter_Join_1_L0 := S.inter_fold_inter_Join_1_L0_run x1
  let r3 : S.Inter := S.inter_Inter_plain y2.first
  r3
def S.inter_fold_inter_Join_1_pre (first : S.Inter) (l : (List S.Inter)) : Prop :=
  let x1 : S.inter_fold_inter_Join_1_L0 := (⟨l, (l.length : Int), 0, first⟩ : S.inter_fold_inter_Join_1_L0)
  (All [Runs S.inter_fold_inter_Join_1_L0_step S.inter_fold_inter_Join_1_L0_vcs x1 (S.inter_fold_inter_Join_1_L0_run x1)] ∧ True)
@[ext] structure S.inter_fold_inter_Meet_1_L0 where
  t9 : (List S.Inter)
  t10 : Int
  t11 : Int
  first : S.Inter
def S.inter_fold_inter_Meet_1_L0_step (x : S.inter_fold_inter_Meet_1_L0) : S.inter_fold_inter_Meet_1_L0 ⊕ (S.inter_fold_inter_Meet_1_L0) :=
  let b1 : Bool := decide (x.t11 < x.t10)
  let e2 : S.Inter := x.t9.getD (Int.toNat x.t11) (⟨0, 0⟩ : S.Inter)
  let r3 : S.Inter := S.inter_Meet_1 x.first e2
  let t4 : Int := IntKind.i64.wrap (x.t11 + 1)
  (bif b1 then (.inl ⟨x.t9, x.t10, t4, r3⟩) else (.inr ⟨x.t9, x.t10, x.t11, x.first⟩))
def S.inter_fold_inter_Meet_1_L0_vcs (x : S.inter_fold_inter_Meet_1_L0) : Prop :=
  let b1 : Bool := decide (x.t11 < x.t10)
  ((b1 = true → (All [(0 : Int) ≤ x.t11, x.t11 < (x.t9.length : Int)] ∧ True)) ∧ (b1 = false → True))
noncomputable def S.inter_fold_inter_Meet_1_L0_run (x : S.inter_fold_inter_Meet_1_L0) : S.inter_fold_inter_Meet_1_L0 := theRun (fun x => x) S.inter_fold_inter_Meet_1_L0_step S.inter_fold_inter_Meet_1_L0_vcs x
/-- inter.fold -/
noncomputable def S.inter_fold_inter_Meet_1 (first : S.Inter) (l : (List S.Inter)) : S.Inter :=
  let x1 : S.inter_fold_inter_Meet_1_L0 := (⟨l, (l.length : Int), 0, first⟩ : S.inter_fold_inter_Meet_1_L0)
  let y2 : S.inter_fold_inter_Meet_1_L0 := S.inter_fold_inter_Meet_1_L0_run x1
  let r3 : S.Inter := S.inter_Inter_plain y2.first
  r3
def S.inter_fold_inter_Meet_1_pre (first : S.Inter) (l : (List S.Inter)) : Prop :=
  let x1 : S.inter_fold_inter_Meet_1_L0 := (⟨l, (l.length : Int), 0, first⟩ : S.inter_fold_inter_Meet_1_L0)
  (All [Runs S.inter_fold_inter_Meet_1_L0_step S.inter_fold_inter_Meet_1_L0_vcs x1 (S.inter_fold_inter_Meet_1_L0_run x1)] ∧ True)
/-- inter.Join -/
noncomputable def S.inter_Join (l : (List S.Inter)) : S.Inter :=
  let r1 : S.Inter := S.inter_Empty
  let r2 : S.Inter := S.inter_fold_inter_Join_1 r1 l
  r2
def S.inter_Join_pre (l : (List S.Inter)) : Prop :=
  let r1 : S.Inter := S.inter_Empty
  (All [S.inter_fold_inter_Join_1_pre r1 l] ∧ True)
@[ext] structure S.cong_gcd_L0 where
  a : Int
  b : Int
def S.cong_gcd_L0_step (x : S.cong_gcd_L0) : S.cong_gcd_L0 ⊕ (S.cong_gcd_L0) :=
  let b1 : Bool := x.b == 0
  let t2 : Int := Int.tmod x.a x.b
  (bif b1 then (.inr ⟨x.a, x.b⟩) else (.inl ⟨x.b, t2⟩))
def S.cong_gcd_L0_vcs (x : S.cong_gcd_L0) : Prop :=
  let b1 : Bool := x.b == 0
  ((b1 = true → True) ∧ (b1 = false → (All [x.b ≠ 0] ∧ True)))
noncomputable def S.cong_gcd_L0_run (x : S.cong_gcd_L0) : S.cong_gcd_L0 := theRun (fun x => x) S.cong_gcd_L0_step S.cong_gcd_L0_vcs x
/-- cong.gcd -/
noncomputable def S.cong_gcd (a : Int) (b : Int) : Int :=
  let x1 : S.cong_gcd_L0 := (⟨a, b⟩ : S.cong_gcd_L0)
  let y2 : S.cong_gcd_L0 := S.cong_gcd_L0_run x1
  y2.a
def S.cong_gcd_pre (a : Int) (b : Int) : Prop :=
  let x1 : S.cong_gcd_L0 := (⟨a, b⟩ : S.cong_gcd_L0)
  (All [Runs S.cong_gcd_L0_step S.cong_gcd_L0_vcs x1 (S.cong_gcd_L0_run x1)] ∧ True)
/-- cong.far -/
def S.cong_far (a : Int) (b : Int) : Int :=
  let m1 : Int := if b > a then b else a
  let m2 : Int := if b < a then b else a
  let t3 : Int := IntKind.u64.wrap (m1 - m2)
  t3
/-- cong.Join -/
noncomputable def S.cong_Join (a : S.Cong) (b : S.Cong) : S.Cong :=
  let r1 : Int := S.cong_gcd a.M b.M
  let b2 : Bool := ((a.M == b.M) && (a.R == b.R))
  let b3 : Bool := r1 == 0
  let r4 : Int := S.cong_Cong_number a
  let r5 : Int := S.cong_Cong_number b
  let m6 : Int := if r5 > r4 then r5 else r4
  let t7 : Int := IntKind.u64.wrap m6
  let m8 : Int := if r5 < r4 then r5 else r4
  let t9 : Int := IntKind.u64.wrap m8
  let t10 : Int := IntKind.u64.wrap (t7 - t9)
  let r11 : S.Cong := S.cong_Make t10 r4
  let r12 : Int := S.cong_Cong_by a r1
  let r13 : Int := S.cong_Cong_by b r1
  let r14 : Int := S.cong_far r12 r13
  let r15 : Int := S.cong_gcd r1 r14
  let t16 : Int := Int.tmod r12 r15
  (bif b2 then a else (bif b3 then r11 else (⟨r15, t16⟩ : S.Cong)))
def S.cong_Join_pre (a : S.Cong) (b : S.Cong) : Prop :=
  let r1 : Int := S.cong_gcd a.M b.M
  let b2 : Bool := ((a.M == b.M) && (a.R == b.R))
  let b3 : Bool := r1 == 0
  let r4 : Int := S.cong_Cong_number a
  let r5 : Int := S.cong_Cong_number b
  let m6 : Int := if r5 > r4 then r5 else r4
  let t7 : Int := IntKind.u64.wrap m6
  let m8 : Int := if r5 < r4 then r5 else r4
  let t9 : Int := IntKind.u64.wrap m8
  let t10 : Int := IntKind.u64.wrap (t7 - t9)
  let r12 : Int := S.cong_Cong_by a r1
  let r13 : Int := S.cong_Cong_by b r1
  let r14 : Int := S.cong_far r12 r13
  let r15 : Int := S.cong_gcd r1 r14
  (All [S.cong_gcd_pre a.M b.M] ∧ ((b2 = true → True) ∧ (b2 = false → ((b3 = true → (All [S.cong_Make_pre t10 r4] ∧ True)) ∧ (b3 = false → (All [S.cong_Cong_by_pre a r1, S.cong_Cong_by_pre b r1, S.cong_gcd_pre r1 r14, r15 ≠ 0] ∧ True))))))
/-- value.Join$1 -/
noncomputable def S.value_Join_1 (a : S.Value) (b : S.Value) : S.Value :=
  let r1 : S.Value := S.value_Bottom
  let b2 : Bool := ((r1.I.Lo == a.I.Lo) && ((r1.I.Hi == a.I.Hi) && ((r1.C.M == a.C.M) && (r1.C.R == a.C.R))))
  let b3 : Bool := ((r1.I.Lo == b.I.Lo) && ((r1.I.Hi == b.I.Hi) && ((r1.C.M == b.C.M) && (r1.C.R == b.C.R))))
  let r4 : S.Inter := S.inter_Join ([a.I, b.I] : List S.Inter)
  let r5 : S.Cong := S.cong_Join a.C b.C
  let r6 : S.Value := S.value_Make r4 r5
  (bif b2 then b else (bif b3 then a else r6))
def S.value_Join_1_pre (a : S.Value) (b : S.Value) : Prop :=
  let r1 : S.Value := S.value_Bottom
  let b2 : Bool := ((r1.I.Lo == a.I.Lo) && ((r1.I.Hi == a.I.Hi) && ((r1.C.M == a.C.M) && (r1.C.R == a.C.R))))
  let b3 : Bool := ((r1.I.Lo == b.I.Lo) && ((r1.I.Hi == b.I.Hi) && ((r1.C.M == b.C.M) && (r1.C.R == b.C.R))))
  let r4 : S.Inter := S.inter_Join ([a.I, b.I] : List S.Inter)
  let r5 : S.Cong := S.cong_Join a.C b.C
  ((b2 = true → True) ∧ (b2 = false → ((b3 = true → True) ∧ (b3 = false → (All [S.inter_Join_pre ([a.I, b.I] : List S.Inter), S.cong_Join_pre a.C b.C, S.value_Make_pre r4 r5] ∧ True)))))
/-- (cong.Cong).Has -/
def S.cong_Cong_Has (c : S.Cong) (n : Int) : Bool :=
  let r1 : S.Cong := S.cong_Make c.M n
  let b2 : Bool := ((r1.M == c.M) && (r1.R == c.R))
  b2
def S.cong_Cong_Has_pre (c : S.Cong) (n : Int) : Prop :=
  (All [S.cong_Make_pre c.M n] ∧ True)
/-- (cong.Cong).if1 -/
def S.cong_Cong_if1 (c : S.Cong) (ok : Bool) : S.Cong × Bool :=
  let b1 : Bool := !ok
  (bif b1 then ((⟨0, 0⟩ : S.Cong), false) else (c, true))
/-- cong.Meet -/
noncomputable def S.cong_Meet (a : S.Cong) (b : S.Cong) : S.Cong × Bool :=
  let r1 : Int := S.cong_gcd a.M b.M
  let r2 : Bool := S.cong_Cong_single a
  let r3 : Int := S.cong_Cong_number a
  let r4 : Bool := S.cong_Cong_Has b r3
  let r5 : S.Cong × Bool := S.cong_Cong_if1 a r4
  let r6 : Bool := S.cong_Cong_single b
  let r7 : Int := S.cong_Cong_number b
  let r8 : Bool := S.cong_Cong_Has a r7
  let r9 : S.Cong × Bool := S.cong_Cong_if1 b r8
  let r10 : Int := S.cong_Cong_by a r1
  let r11 : Int := S.cong_Cong_by b r1
  let b12 : Bool := r10 != r11
  let r13 : Bool := S.cong_Within a b
  let r14 : Bool := S.cong_Within b a
  let b15 : Bool := !r14
  let b16 : Bool := decide (a.M ≥ b.M)
  let p17 : Bool := (b15 && b16)
  let p18 : Bool := (r13 || p17)
  (bif r2 then (r5.1, r5.2) else (bif r6 then (r9.1, r9.2) else (bif b12 then ((⟨0, 0⟩ : S.Cong), false) else (bif p18 then (a, true) else (b, true)))))
def S.cong_Meet_pre (a : S.Cong) (b : S.Cong) : Prop :=
  let r1 : Int := S.cong_gcd a.M b.M
  let r2 : Bool := S.cong_Cong_single a
  let r3 : Int := S.cong_Cong_number a
  let r6 : Bool := S.cong_Cong_single b
  let r7 : Int := S.cong_Cong_number b
  let r10 : Int := S.cong_Cong_by a r1
  let r11 : Int := S.cong_Cong_by b r1
  let b12 : Bool := r10 != r11
  let r13 : Bool := S.cong_Within a b
  let r14 : Bool := S.cong_Within b a
  let b15 : Bool := !r14
  let b16 : Bool := decide (a.M ≥ b.M)
  let p17 : Bool := (b15 && b16)
  let p18 : Bool := (r13 || p17)
  (All [S.cong_gcd_pre a.M b.M] ∧ ((r2 = true → (All [S.cong_Cong_Has_pre b r3] ∧ True)) ∧ (r2 = false → ((r6 = true → (All [S.cong_Cong_Has_pre a r7] ∧ True)) ∧ (r6 = false → (All [S.cong_Cong_by_pre a r1, S.cong_Cong_by_pre b r1] ∧ ((b12 = true → True) ∧ (b12 = false → (All [S.cong_Within_pre a b, (r13 = false → S.cong_Within_pre b a)] ∧ ((p18 = true → True) ∧ (p18 = false → True)))))))))))
/-- inter.Meet -/
noncomputable def S.inter_Meet (l : (List S.Inter)) : S.Inter :=
  let r1 : S.Inter := S.inter_Whole
  let r2 : S.Inter := S.inter_fold_inter_Meet_1 r1 l
  r2
def S.inter_Meet_pre (l : (List S.Inter)) : Prop :=
  let r1 : S.Inter := S.inter_Whole
  (All [S.inter_fold_inter_Meet_1_pre r1 l] ∧ True)
/-- value.Meet$1 -/
noncomputable def S.value_Meet_1 (a : S.Value) (b : S.Value) : S.Value :=
  let r1 : S.Cong × Bool := S.cong_Meet a.C b.C
  let b2 : Bool := !r1.2
  let r3 : S.Value := S.value_Bottom
  let r4 : S.Inter := S.inter_Meet ([a.I, b.I] : List S.Inter)
  let r5 : S.Value := S.value_Make r4 r1.1
  (bif b2 then r3 else r5)
def S.value_Meet_1_pre (a : S.Value) (b : S.Value) : Prop :=
  let r1 : S.Cong × Bool := S.cong_Meet a.C b.C
  let b2 : Bool := !r1.2
  let r4 : S.Inter := S.inter_Meet ([a.I, b.I] : List S.Inter)
  (All [S.cong_Meet_pre a.C b.C] ∧ ((b2 = true → True) ∧ (b2 = false → (All [S.inter_Meet_pre ([a.I, b.I] : List S.Inter), S.value_Make_pre r4 r1.1] ∧ True))))
@[ext] structure S.value_fold_value_Join_1_L0 where
  t9 : (List S.Value)
  t10 : Int
  t11 : Int
  first : S.Value
noncomputable def S.value_fold_value_Join_1_L0_step (x : S.value_fold_value_Join_1_L0) : S.value_fold_value_Join_1_L0 ⊕ (S.value_fold_value_Join_1_L0) :=
  let b1 : Bool := decide (x.t11 < x.t10)
  let e2 : S.Value := x.t9.getD (Int.toNat x.t11) (⟨(⟨0, 0⟩ : S.Inter), (⟨0, 0⟩ : S.Cong)⟩ : S.Value)
  let r3 : S.Value := S.value_Value_reduced e2
  let r4 : S.Value := S.value_Join_1 x.first r3
  let t5 : Int := IntKind.i64.wrap (x.t11 + 1)
  (bif b1 then (.inl ⟨x.t9, x.t10, t5, r4⟩) else (.inr ⟨x.t9, x.t10, x.t11, x.first⟩))
def S.value_fold_value_Join_1_L0_vcs (x : S.value_fold_value_Join_1_L0) : Prop :=
  let b1 : Bool := decide (x.t11 < x.t10)
  let e2 : S.Value := x.t9.getD (Int.toNat x.t11) (⟨(⟨0, 0⟩ : S.Inter), (⟨0, 0⟩ : S.Cong)⟩ : S.Value)
  let r3 : S.Value := S.value_Value_reduced e2
  ((b1 = true → (All [(0 : Int) ≤ x.t11, x.t11 < (x.t9.length : Int), S.value_Value_reduced_pre e2, S.value_Join_1_pre x.first r3] ∧ True)) ∧ (b1 = false → True))
noncomputable def S.value_fold_value_Join_1_L0_run (x : S.value_fold_value_Join_1_L0) : S.value_fold_value_Join_1_L0 := theRun (fun x => x) S.value_fold_value_Join_1_L0_step S.value_fold_value_Join_1_L0_vcs x
/-- value.fold -/
noncomputable def S.value_fold_value_Join_1 (first : S.Value) (l : (List S.Value)) : S.Value :=
  let x1 : S.value_fold_value_Join_1_L0 := (⟨l, (l.length : Int), 0, first⟩ : S.value_fold_value_Join_1_L0)
  let y2 : S.value_fold_value_Join_1_L0 := S.value_fold_value_Join_1_L0_run x1
  y2.first
def S.value_fold_value_Join_1_pre (first : S.Value) (l : (List S.Value)) : Prop :=
  let x1 : S.value_fold_value_Join_1_L0 := (⟨l, (l.length : Int), 0, first⟩ : S.value_fold_value_Join_1_L0)
  (All [Runs S.value_fold_value_Join_1_L0_step S.value_fold_value_Join_1_L0_vcs x1 (S.value_fold_value_Join_1_L0_run x1)] ∧ True)
@[ext] structure S.value_fold_value_Meet_1_L0 where
  t9 : (List S.Value)
  t10 : Int
  t11 : Int
  first : S.Value
noncomputable def S.value_fold_value_Meet_1_L0_step (x : S.value_fold_value_Meet_1_L0) : S.value_fold_value_Meet_1_L0 ⊕ (S.value_fold_value_Meet_1_L0) :=
  let b1 : Bool := decide (x.t11 < x.t10)
  let e2 : S.Value := x.t9.getD (Int.toNat x.t11) (⟨(⟨0, 0⟩ : S.Inter), (⟨0, 0⟩ : S.Cong)⟩ : S.Value)
  let r3 : S.Value := S.value_Value_reduced e2
  let r4 : S.Value := S.value_Meet_1 x.first r3
  let t5 : Int := IntKind.i64.wrap (x.t11 + 1)
  (bif b1 then (.inl ⟨x.t9, x.t10, t5, r4⟩) else (.inr ⟨x.t9, x.t10, x.t11, x.first⟩))
def S.value_fold_value_Meet_1_L0_vcs (x : S.value_fold_value_Meet_1_L0) : Prop :=
  let b1 : Bool := decide (x.t11 < x.t10)
  let e2 : S.Value := x.t9.getD (Int.toNat x.t11) (⟨(⟨0, 0⟩ : S.Inter), (⟨0, 0⟩ : S.Cong)⟩ : S.Value)
  let r3 : S.Value := S.value_Value_reduced e2
  ((b1 = true → (All [(0 : Int) ≤ x.t11, x.t11 < (x.t9.length : Int), S.value_Value_reduced_pre e2, S.value_Meet_1_pre x.first r3] ∧ True)) ∧ (b1 = false → True))
noncomputable def S.value_fold_value_Meet_1_L0_run (x : S.value_fold_value_Meet_1_L0) : S.value_fold_value_Meet_1_L0 := theRun (fun x => x) S.value_fold_value_Meet_1_L0_step S.value_fold_value_Meet_1_L0_vcs x
/-- value.fold -/
noncomputable def S.value_fold_value_Meet_1 (first : S.Value) (l : (List S.Value)) : S.Value :=
  let x1 : S.value_fold_value_Meet_1_L0 := (⟨l, (l.length : Int), 0, first⟩ : S.value_fold_value_Meet_1_L0)
  let y2 : S.value_fold_value_Meet_1_L0 := S.value_fold_value_Meet_1_L0_run x1
  y2.first
def S.value_fold_value_Meet_1_pre (first : S.Value) (l : (List S.Value)) : Prop :=
  let x1 : S.value_fold_value_Meet_1_L0 := (⟨l, (l.length : Int), 0, first⟩ : S.value_fold_value_Meet_1_L0)
  (All [Runs S.value_fold_value_Meet_1_L0_step S.value_fold_value_Meet_1_L0_vcs x1 (S.value_fold_value_Meet_1_L0_run x1)] ∧ True)
/-- value.Join -/
noncomputable def S.value_Join (l : (List S.Value)) : S.Value :=
  let r1 : S.Value := S.value_Bottom
  let r2 : S.Value := S.value_fold_value_Join_1 r1 l
  r2
def S.value_Join_pre (l : (List S.Value)) : Prop :=
  let r1 : S.Value := S.value_Bottom
  (All [S.value_fold_value_Join_1_pre r1 l] ∧ True)
/-- value.Meet -/
noncomputable def S.value_Meet (l : (List S.Value)) : S.Value :=
  let r1 : S.Value := S.value_Top
  let r2 : S.Value := S.value_fold_value_Meet_1 r1 l
  r2
def S.value_Meet_pre (l : (List S.Value)) : Prop :=
  let r1 : S.Value := S.value_Top
  (All [S.value_fold_value_Meet_1_pre r1 l] ∧ True)
/-- sieveholeslaw21.works -/
noncomputable def S.law21_works : Bool :=
  let r1 : S.Inter := S.inter_Of 1 10
  let r2 : S.Cong := S.cong_Make 4 0
  let r3 : S.Value := S.value_Make r1 r2
  let r4 : S.Inter := S.inter_Of 5 7
  let r5 : S.Cong := S.cong_Make 4 0
  let r6 : S.Value := S.value_Make r4 r5
  let r7 : S.Value := S.value_One 2
  let r8 : S.Value := S.value_One 8
  let r9 : S.Value := S.value_Join ([r7, r8] : List S.Value)
  let r10 : Int × Bool := S.value_Value_Card r9
  let r11 : S.Value := S.value_Range 3 9
  let r12 : S.Value := S.value_Meet ([r9, r11] : List S.Value)
  let r13 : Int × Bool := S.value_Value_Single r12
  let r14 : ByteArray := S.value_Value_Text r3
  let b15 : Bool := (r14.toList == (⟨#[91, 52, 44, 32, 56, 93, 32, 48, 32, 109, 111, 100, 32, 52]⟩ : ByteArray).toList)
  let r16 : Bool := S.value_Value_IsBottom r6
  let p17 : Bool := (b15 && r16)
  let r18 : ByteArray := S.value_Value_Text r6
  let b19 : Bool := (r18.toList == (⟨#[110, 111, 110, 101]⟩ : ByteArray).toList)
  let p20 : Bool := (p17 && b19)
  let r21 : ByteArray := S.value_Value_Text r9
  let b22 : Bool := (r21.toList == (⟨#[91, 50, 44, 32, 56, 93, 32, 50, 32, 109, 111, 100, 32, 54]⟩ : ByteArray).toList)
  let p23 : Bool := (p20 && b22)
  let b24 : Bool := r10.1 == 2
  let p25 : Bool := (p23 && b24)
  let p26 : Bool := (p25 && r10.2)
  let b27 : Bool := r13.1 == 8
  let p28 : Bool := (p26 && b27)
  let p29 : Bool := (p28 && r13.2)
  let r30 : S.Value := S.value_Range 0 9
  let r31 : ByteArray := S.value_Value_Text r30
  let b32 : Bool := (r31.toList == (⟨#[91, 48, 44, 32, 57, 93]⟩ : ByteArray).toList)
  let p33 : Bool := (p29 && b32)
  p33
def S.law21_works_pre : Prop :=
  let r1 : S.Inter := S.inter_Of 1 10
  let r2 : S.Cong := S.cong_Make 4 0
  let r3 : S.Value := S.value_Make r1 r2
  let r4 : S.Inter := S.inter_Of 5 7
  let r5 : S.Cong := S.cong_Make 4 0
  let r6 : S.Value := S.value_Make r4 r5
  let r7 : S.Value := S.value_One 2
  let r8 : S.Value := S.value_One 8
  let r9 : S.Value := S.value_Join ([r7, r8] : List S.Value)
  let r10 : Int × Bool := S.value_Value_Card r9
  let r11 : S.Value := S.value_Range 3 9
  let r12 : S.Value := S.value_Meet ([r9, r11] : List S.Value)
  let r13 : Int × Bool := S.value_Value_Single r12
  let r14 : ByteArray := S.value_Value_Text r3
  let b15 : Bool := (r14.toList == (⟨#[91, 52, 44, 32, 56, 93, 32, 48, 32, 109, 111, 100, 32, 52]⟩ : ByteArray).toList)
  let r16 : Bool := S.value_Value_IsBottom r6
  let p17 : Bool := (b15 && r16)
  let r18 : ByteArray := S.value_Value_Text r6
  let b19 : Bool := (r18.toList == (⟨#[110, 111, 110, 101]⟩ : ByteArray).toList)
  let p20 : Bool := (p17 && b19)
  let r21 : ByteArray := S.value_Value_Text r9
  let b22 : Bool := (r21.toList == (⟨#[91, 50, 44, 32, 56, 93, 32, 50, 32, 109, 111, 100, 32, 54]⟩ : ByteArray).toList)
  let p23 : Bool := (p20 && b22)
  let b24 : Bool := r10.1 == 2
  let p25 : Bool := (p23 && b24)
  let p26 : Bool := (p25 && r10.2)
  let b27 : Bool := r13.1 == 8
  let p28 : Bool := (p26 && b27)
  let p29 : Bool := (p28 && r13.2)
  let r30 : S.Value := S.value_Range 0 9
  (All [S.cong_Make_pre 4 0, S.value_Make_pre r1 r2, S.cong_Make_pre 4 0, S.value_Make_pre r4 r5, S.value_Join_pre ([r7, r8] : List S.Value), S.value_Value_Card_pre r9, S.value_Range_pre 3 9, S.value_Meet_pre ([r9, r11] : List S.Value), S.value_Value_Single_pre r12, S.value_Value_Text_pre r3, (b15 = true → S.value_Value_IsBottom_pre r6), (p17 = true → S.value_Value_Text_pre r6), (p20 = true → S.value_Value_Text_pre r9), (p29 = true → S.value_Range_pre 0 9), (p29 = true → S.value_Value_Text_pre r30)] ∧ True)
@[ext] structure S.law21_ValueTells_L2 where
  k : Int
  l : (List Int)
def S.law21_ValueTells_L2_step (x : S.law21_ValueTells_L2) : S.law21_ValueTells_L2 ⊕ (S.law21_ValueTells_L2) :=
  let b1 : Bool := decide (x.k < (x.l.length : Int))
  let l2 : List Int := x.l.set (Int.toNat x.k) 77
  let t3 : Int := IntKind.i64.wrap (x.k + 1)
  (bif b1 then (.inl ⟨t3, l2⟩) else (.inr ⟨x.k, x.l⟩))
def S.law21_ValueTells_L2_vcs (x : S.law21_ValueTells_L2) : Prop :=
  let b1 : Bool := decide (x.k < (x.l.length : Int))
  ((b1 = true → (All [(0 : Int) ≤ x.k, x.k < (x.l.length : Int)] ∧ True)) ∧ (b1 = false → True))
noncomputable def S.law21_ValueTells_L2_run (x : S.law21_ValueTells_L2) : S.law21_ValueTells_L2 := theRun (fun x => x) S.law21_ValueTells_L2_step S.law21_ValueTells_L2_vcs x
@[ext] structure S.law21_ValueTells_L0 where
  n : Int
  most : Int
  t8 : Bool
  t : Int
  v : S.Value
  r : S.Value
  made : S.Value
noncomputable def S.law21_ValueTells_L0_step (x : S.law21_ValueTells_L0) : S.law21_ValueTells_L0 ⊕ (Bool × S.law21_ValueTells_L0) :=
  let b1 : Bool := decide (x.t < 2)
  let b2 : Bool := x.t == 1
  let r3 : Int × Bool := S.value_Value_Card (⟨(⟨(bif b2 then x.made.I.Lo else x.v.I.Lo), (bif b2 then x.made.I.Hi else x.v.I.Hi)⟩ : S.Inter), (⟨(bif b2 then x.made.C.M else x.v.C.M), (bif b2 then x.made.C.R else x.v.C.R)⟩ : S.Cong)⟩ : S.Value)
  let r4 : Int × Bool := S.ref21_Card x.r
  let r5 : Int × Bool := S.value_Value_Single (⟨(⟨(bif b2 then x.made.I.Lo else x.v.I.Lo), (bif b2 then x.made.I.Hi else x.v.I.Hi)⟩ : S.Inter), (⟨(bif b2 then x.made.C.M else x.v.C.M), (bif b2 then x.made.C.R else x.v.C.R)⟩ : S.Cong)⟩ : S.Value)
  let r6 : (List Int) := S.value_Value_Some (⟨(⟨(bif b2 then x.made.I.Lo else x.v.I.Lo), (bif b2 then x.made.I.Hi else x.v.I.Hi)⟩ : S.Inter), (⟨(bif b2 then x.made.C.M else x.v.C.M), (bif b2 then x.made.C.R else x.v.C.R)⟩ : S.Cong)⟩ : S.Value) x.most
  let b7 : Bool := r3.1 != r4.1
  let b8 : Bool := !(r3.2 == r4.2)
  let p9 : Bool := (b7 || b8)
  let b10 : Bool := x.r.I.Lo == x.r.I.Hi
  let b11 : Bool := !(r5.2 == b10)
  let p12 : Bool := (p9 || b11)
  let b13 : Bool := r5.1 != x.r.I.Lo
  let p14 : Bool := (r5.2 && b13)
  let p15 : Bool := (p12 || p14)
  let b16 : Bool := !r5.2
  let b17 : Bool := r5.1 != 0
  let p18 : Bool := (b16 && b17)
  let p19 : Bool := (p15 || p18)
  let r20 : Bool := S.value_Value_IsBottom (⟨(⟨(bif b2 then x.made.I.Lo else x.v.I.Lo), (bif b2 then x.made.I.Hi else x.v.I.Hi)⟩ : S.Inter), (⟨(bif b2 then x.made.C.M else x.v.C.M), (bif b2 then x.made.C.R else x.v.C.R)⟩ : S.Cong)⟩ : S.Value)
  let r21 : S.Value := S.ref21_Bottom
  let b22 : Bool := ((x.r.I.Lo == r21.I.Lo) && ((x.r.I.Hi == r21.I.Hi) && ((x.r.C.M == r21.C.M) && (x.r.C.R == r21.C.R))))
  let b23 : Bool := !(r20 == b22)
  let p24 : Bool := (p19 || b23)
  let r25 : Bool := S.value_Value_Has (⟨(⟨(bif b2 then x.made.I.Lo else x.v.I.Lo), (bif b2 then x.made.I.Hi else x.v.I.Hi)⟩ : S.Inter), (⟨(bif b2 then x.made.C.M else x.v.C.M), (bif b2 then x.made.C.R else x.v.C.R)⟩ : S.Cong)⟩ : S.Value) x.n
  let r26 : Bool := S.ref21_Has x.r x.n
  let b27 : Bool := !(r25 == r26)
  let p28 : Bool := (p24 || b27)
  let r29 : (List Int) := S.ref21_Some x.r x.most
  let r30 : Bool := S.law21_same r6 r29
  let b31 : Bool := !r30
  let p32 : Bool := (p28 || b31)
  let r33 : ByteArray := S.value_Value_Text (⟨(⟨(bif b2 then x.made.I.Lo else x.v.I.Lo), (bif b2 then x.made.I.Hi else x.v.I.Hi)⟩ : S.Inter), (⟨(bif b2 then x.made.C.M else x.v.C.M), (bif b2 then x.made.C.R else x.v.C.R)⟩ : S.Cong)⟩ : S.Value)
  let r34 : ByteArray := S.ref21_Text x.r
  let b35 : Bool := !(r33.toList == r34.toList)
  let p36 : Bool := (p32 || b35)
  let t39 : Int := IntKind.i64.wrap (x.t + 1)
  (bif b1 then (bif p36 then (.inr ⟨true, ⟨x.n, x.most, false, x.t, (⟨(⟨(bif b2 then x.made.I.Lo else x.v.I.Lo), (bif b2 then x.made.I.Hi else x.v.I.Hi)⟩ : S.Inter), (⟨(bif b2 then x.made.C.M else x.v.C.M), (bif b2 then x.made.C.R else x.v.C.R)⟩ : S.Cong)⟩ : S.Value), x.r, x.made⟩⟩) else (.inl ⟨x.n, x.most, x.t8, t39, (⟨(⟨(bif b2 then x.made.I.Lo else x.v.I.Lo), (bif b2 then x.made.I.Hi else x.v.I.Hi)⟩ : S.Inter), (⟨(bif b2 then x.made.C.M else x.v.C.M), (bif b2 then x.made.C.R else x.v.C.R)⟩ : S.Cong)⟩ : S.Value), x.r, x.made⟩)) else (.inr ⟨false, ⟨x.n, x.most, x.t8, x.t, x.v, x.r, x.made⟩⟩))
noncomputable def S.law21_ValueTells_L0_vcs (x : S.law21_ValueTells_L0) : Prop :=
  let b1 : Bool := decide (x.t < 2)
  let b2 : Bool := x.t == 1
  let r3 : Int × Bool := S.value_Value_Card (⟨(⟨(bif b2 then x.made.I.Lo else x.v.I.Lo), (bif b2 then x.made.I.Hi else x.v.I.Hi)⟩ : S.Inter), (⟨(bif b2 then x.made.C.M else x.v.C.M), (bif b2 then x.made.C.R else x.v.C.R)⟩ : S.Cong)⟩ : S.Value)
  let r4 : Int × Bool := S.ref21_Card x.r
  let r5 : Int × Bool := S.value_Value_Single (⟨(⟨(bif b2 then x.made.I.Lo else x.v.I.Lo), (bif b2 then x.made.I.Hi else x.v.I.Hi)⟩ : S.Inter), (⟨(bif b2 then x.made.C.M else x.v.C.M), (bif b2 then x.made.C.R else x.v.C.R)⟩ : S.Cong)⟩ : S.Value)
  let r6 : (List Int) := S.value_Value_Some (⟨(⟨(bif b2 then x.made.I.Lo else x.v.I.Lo), (bif b2 then x.made.I.Hi else x.v.I.Hi)⟩ : S.Inter), (⟨(bif b2 then x.made.C.M else x.v.C.M), (bif b2 then x.made.C.R else x.v.C.R)⟩ : S.Cong)⟩ : S.Value) x.most
  let b7 : Bool := r3.1 != r4.1
  let b8 : Bool := !(r3.2 == r4.2)
  let p9 : Bool := (b7 || b8)
  let b10 : Bool := x.r.I.Lo == x.r.I.Hi
  let b11 : Bool := !(r5.2 == b10)
  let p12 : Bool := (p9 || b11)
  let b13 : Bool := r5.1 != x.r.I.Lo
  let p14 : Bool := (r5.2 && b13)
  let p15 : Bool := (p12 || p14)
  let b16 : Bool := !r5.2
  let b17 : Bool := r5.1 != 0
  let p18 : Bool := (b16 && b17)
  let p19 : Bool := (p15 || p18)
  let r20 : Bool := S.value_Value_IsBottom (⟨(⟨(bif b2 then x.made.I.Lo else x.v.I.Lo), (bif b2 then x.made.I.Hi else x.v.I.Hi)⟩ : S.Inter), (⟨(bif b2 then x.made.C.M else x.v.C.M), (bif b2 then x.made.C.R else x.v.C.R)⟩ : S.Cong)⟩ : S.Value)
  let r21 : S.Value := S.ref21_Bottom
  let b22 : Bool := ((x.r.I.Lo == r21.I.Lo) && ((x.r.I.Hi == r21.I.Hi) && ((x.r.C.M == r21.C.M) && (x.r.C.R == r21.C.R))))
  let b23 : Bool := !(r20 == b22)
  let p24 : Bool := (p19 || b23)
  let r25 : Bool := S.value_Value_Has (⟨(⟨(bif b2 then x.made.I.Lo else x.v.I.Lo), (bif b2 then x.made.I.Hi else x.v.I.Hi)⟩ : S.Inter), (⟨(bif b2 then x.made.C.M else x.v.C.M), (bif b2 then x.made.C.R else x.v.C.R)⟩ : S.Cong)⟩ : S.Value) x.n
  let r26 : Bool := S.ref21_Has x.r x.n
  let b27 : Bool := !(r25 == r26)
  let p28 : Bool := (p24 || b27)
  let r29 : (List Int) := S.ref21_Some x.r x.most
  let r30 : Bool := S.law21_same r6 r29
  let b31 : Bool := !r30
  let p32 : Bool := (p28 || b31)
  let r33 : ByteArray := S.value_Value_Text (⟨(⟨(bif b2 then x.made.I.Lo else x.v.I.Lo), (bif b2 then x.made.I.Hi else x.v.I.Hi)⟩ : S.Inter), (⟨(bif b2 then x.made.C.M else x.v.C.M), (bif b2 then x.made.C.R else x.v.C.R)⟩ : S.Cong)⟩ : S.Value)
  let r34 : ByteArray := S.ref21_Text x.r
  let b35 : Bool := !(r33.toList == r34.toList)
  let p36 : Bool := (p32 || b35)
  let x37 : S.law21_ValueTells_L2 := (⟨0, r6⟩ : S.law21_ValueTells_L2)
  ((b1 = true → (All [S.value_Value_Card_pre (⟨(⟨(bif b2 then x.made.I.Lo else x.v.I.Lo), (bif b2 then x.made.I.Hi else x.v.I.Hi)⟩ : S.Inter), (⟨(bif b2 then x.made.C.M else x.v.C.M), (bif b2 then x.made.C.R else x.v.C.R)⟩ : S.Cong)⟩ : S.Value), S.ref21_Card_pre x.r, S.value_Value_Single_pre (⟨(⟨(bif b2 then x.made.I.Lo else x.v.I.Lo), (bif b2 then x.made.I.Hi else x.v.I.Hi)⟩ : S.Inter), (⟨(bif b2 then x.made.C.M else x.v.C.M), (bif b2 then x.made.C.R else x.v.C.R)⟩ : S.Cong)⟩ : S.Value), S.value_Value_Some_pre (⟨(⟨(bif b2 then x.made.I.Lo else x.v.I.Lo), (bif b2 then x.made.I.Hi else x.v.I.Hi)⟩ : S.Inter), (⟨(bif b2 then x.made.C.M else x.v.C.M), (bif b2 then x.made.C.R else x.v.C.R)⟩ : S.Cong)⟩ : S.Value) x.most, (p19 = false → S.value_Value_IsBottom_pre (⟨(⟨(bif b2 then x.made.I.Lo else x.v.I.Lo), (bif b2 then x.made.I.Hi else x.v.I.Hi)⟩ : S.Inter), (⟨(bif b2 then x.made.C.M else x.v.C.M), (bif b2 then x.made.C.R else x.v.C.R)⟩ : S.Cong)⟩ : S.Value)), (p24 = false → S.value_Value_Has_pre (⟨(⟨(bif b2 then x.made.I.Lo else x.v.I.Lo), (bif b2 then x.made.I.Hi else x.v.I.Hi)⟩ : S.Inter), (⟨(bif b2 then x.made.C.M else x.v.C.M), (bif b2 then x.made.C.R else x.v.C.R)⟩ : S.Cong)⟩ : S.Value) x.n), (p24 = false → S.ref21_Has_pre x.r x.n), (p28 = false → S.ref21_Some_pre x.r x.most), (p28 = false → S.law21_same_pre r6 r29), (p32 = false → S.value_Value_Text_pre (⟨(⟨(bif b2 then x.made.I.Lo else x.v.I.Lo), (bif b2 then x.made.I.Hi else x.v.I.Hi)⟩ : S.Inter), (⟨(bif b2 then x.made.C.M else x.v.C.M), (bif b2 then x.made.C.R else x.v.C.R)⟩ : S.Cong)⟩ : S.Value)), (p32 = false → S.ref21_Text_pre x.r)] ∧ ((p36 = true → True) ∧ (p36 = false → (All [Runs S.law21_ValueTells_L2_step S.law21_ValueTells_L2_vcs x37 (S.law21_ValueTells_L2_run x37)] ∧ True))))) ∧ (b1 = false → True))
noncomputable def S.law21_ValueTells_L0_run (x : S.law21_ValueTells_L0) : Bool × S.law21_ValueTells_L0 := theRun (fun x => ⟨true, x⟩) S.law21_ValueTells_L0_step S.law21_ValueTells_L0_vcs x
/-- sieveholeslaw21.ValueTells -/
noncomputable def S.law21_ValueTells (i : S.Inter) (c : S.Cong) (n : Int) (most : Int) : Bool :=
  let r1 : S.Value := S.law21_plain (⟨i, c⟩ : S.Value)
  let r2 : S.Value := S.value_Make i c
  let r3 : S.Value := S.docs_Value r2
  let b4 : Bool := !((r3.I.Lo == r1.I.Lo) && ((r3.I.Hi == r1.I.Hi) && ((r3.C.M == r1.C.M) && (r3.C.R == r1.C.R))))
  let m5 : Int := if 40 < most then 40 else most
  let x6 : S.law21_ValueTells_L0 := (⟨n, m5, false, 0, (⟨i, c⟩ : S.Value), r1, r2⟩ : S.law21_ValueTells_L0)
  let y7 : Bool × S.law21_ValueTells_L0 := S.law21_ValueTells_L0_run x6
  let r8 : S.Value := S.value_One y7.2.n
  let r9 : S.Value := S.docs_Value r8
  let r10 : S.Value := S.ref21_One y7.2.n
  let b11 : Bool := ((r9.I.Lo == r10.I.Lo) && ((r9.I.Hi == r10.I.Hi) && ((r9.C.M == r10.C.M) && (r9.C.R == r10.C.R))))
  let r12 : S.Value := S.value_Top
  let r13 : S.Value := S.docs_Value r12
  let r14 : S.Value := S.ref21_Top
  let b15 : Bool := ((r13.I.Lo == r14.I.Lo) && ((r13.I.Hi == r14.I.Hi) && ((r13.C.M == r14.C.M) && (r13.C.R == r14.C.R))))
  let p16 : Bool := (b11 && b15)
  let r17 : S.Value := S.value_Bottom
  let r18 : S.Value := S.docs_Value r17
  let r19 : S.Value := S.ref21_Bottom
  let b20 : Bool := ((r18.I.Lo == r19.I.Lo) && ((r18.I.Hi == r19.I.Hi) && ((r18.C.M == r19.C.M) && (r18.C.R == r19.C.R))))
  let p21 : Bool := (p16 && b20)
  let r22 : S.Value := S.value_Range i.Lo i.Hi
  let r23 : S.Value := S.law21_plain r22
  let r24 : S.Cong := S.cong_Top
  let r25 : S.Value := S.law21_plain (⟨i, r24⟩ : S.Value)
  let b26 : Bool := ((r23.I.Lo == r25.I.Lo) && ((r23.I.Hi == r25.I.Hi) && ((r23.C.M == r25.C.M) && (r23.C.R == r25.C.R))))
  let p27 : Bool := (p21 && b26)
  let r28 : Bool := S.law21_works
  let p29 : Bool := (p27 && r28)
  (bif b4 then false else (bif y7.1 then y7.2.t8 else p29))
def S.law21_ValueTells_pre (i : S.Inter) (c : S.Cong) (n : Int) (most : Int) : Prop :=
  let r1 : S.Value := S.law21_plain (⟨i, c⟩ : S.Value)
  let r2 : S.Value := S.value_Make i c
  let r3 : S.Value := S.docs_Value r2
  let b4 : Bool := !((r3.I.Lo == r1.I.Lo) && ((r3.I.Hi == r1.I.Hi) && ((r3.C.M == r1.C.M) && (r3.C.R == r1.C.R))))
  let m5 : Int := if 40 < most then 40 else most
  let x6 : S.law21_ValueTells_L0 := (⟨n, m5, false, 0, (⟨i, c⟩ : S.Value), r1, r2⟩ : S.law21_ValueTells_L0)
  let y7 : Bool × S.law21_ValueTells_L0 := S.law21_ValueTells_L0_run x6
  let r8 : S.Value := S.value_One y7.2.n
  let r9 : S.Value := S.docs_Value r8
  let r10 : S.Value := S.ref21_One y7.2.n
  let b11 : Bool := ((r9.I.Lo == r10.I.Lo) && ((r9.I.Hi == r10.I.Hi) && ((r9.C.M == r10.C.M) && (r9.C.R == r10.C.R))))
  let r12 : S.Value := S.value_Top
  let r13 : S.Value := S.docs_Value r12
  let r14 : S.Value := S.ref21_Top
  let b15 : Bool := ((r13.I.Lo == r14.I.Lo) && ((r13.I.Hi == r14.I.Hi) && ((r13.C.M == r14.C.M) && (r13.C.R == r14.C.R))))
  let p16 : Bool := (b11 && b15)
  let r17 : S.Value := S.value_Bottom
  let r18 : S.Value := S.docs_Value r17
  let r19 : S.Value := S.ref21_Bottom
  let b20 : Bool := ((r18.I.Lo == r19.I.Lo) && ((r18.I.Hi == r19.I.Hi) && ((r18.C.M == r19.C.M) && (r18.C.R == r19.C.R))))
  let p21 : Bool := (p16 && b20)
  let r22 : S.Value := S.value_Range i.Lo i.Hi
  let r23 : S.Value := S.law21_plain r22
  let r24 : S.Cong := S.cong_Top
  let r25 : S.Value := S.law21_plain (⟨i, r24⟩ : S.Value)
  let b26 : Bool := ((r23.I.Lo == r25.I.Lo) && ((r23.I.Hi == r25.I.Hi) && ((r23.C.M == r25.C.M) && (r23.C.R == r25.C.R))))
  let p27 : Bool := (p21 && b26)
  (All [S.law21_plain_pre (⟨i, c⟩ : S.Value), S.value_Make_pre i c] ∧ ((b4 = true → True) ∧ (b4 = false → (All [Runs S.law21_ValueTells_L0_step S.law21_ValueTells_L0_vcs x6 (S.law21_ValueTells_L0_run x6)] ∧ ((y7.1 = true → True) ∧ (y7.1 = false → (All [S.ref21_One_pre y7.2.n, (p21 = true → S.value_Range_pre i.Lo i.Hi), (p21 = true → S.law21_plain_pre r22), (p21 = true → S.law21_plain_pre (⟨i, r24⟩ : S.Value)), (p27 = true → S.law21_works_pre)] ∧ True)))))))
/-- sieveholesref19.Plain -/
def S.ref19_Plain (i : S.Inter) : S.Inter :=
  let b1 : Bool := decide (i.Lo > i.Hi)
  (bif b1 then (⟨1, 0⟩ : S.Inter) else i)
/-- sieveholesref19.Join -/
def S.ref19_Join (a : S.Inter) (b : S.Inter) : S.Inter :=
  let r1 : Bool := S.ref19_Empty a
  let r2 : S.Inter := S.ref19_Plain b
  let r3 : Bool := S.ref19_Empty b
  let m4 : Int := if b.Lo < a.Lo then b.Lo else a.Lo
  let m5 : Int := if b.Hi > a.Hi then b.Hi else a.Hi
  (bif r1 then r2 else (bif r3 then a else (⟨m4, m5⟩ : S.Inter)))
/-- sieveholesref20.Gcd -/
def S.ref20_Gcd_F : Nat → Int → Int → Int
  | 0, _, _ => 0
  | n + 1, a, b =>
  let b1 : Bool := b == 0
  let t2 : Int := Int.tmod a b
  let r3 : Int := S.ref20_Gcd_F n b t2
  (bif b1 then a else r3)
def S.ref20_Gcd_D : Nat → Int → Int → Prop
  | 0, _, _ => False
  | n + 1, a, b =>
  let b1 : Bool := b == 0
  let t2 : Int := Int.tmod a b
  ((b1 = true → True) ∧ (b1 = false → (All [b ≠ 0, S.ref20_Gcd_D n b t2] ∧ True)))
noncomputable def S.ref20_Gcd (a : Int) (b : Int) : Int := S.ref20_Gcd_F (Classical.epsilon fun n => S.ref20_Gcd_D n a b) a b
def S.ref20_Gcd_pre (a : Int) (b : Int) : Prop := ∃ n, S.ref20_Gcd_D n a b
/-- sieveholesref20.Of -/
def S.ref20_Of (c : S.Cong) (g : Int) : Int :=
  let b1 : Bool := c.M == 0
  let t2 : Int := IntKind.i64.wrap c.R
  let r3 : Int := S.ref20_Rest t2 g
  let t4 : Int := Int.tmod c.R g
  (bif b1 then r3 else t4)
def S.ref20_Of_pre (c : S.Cong) (g : Int) : Prop :=
  let b1 : Bool := c.M == 0
  let t2 : Int := IntKind.i64.wrap c.R
  ((b1 = true → (All [S.ref20_Rest_pre t2 g] ∧ True)) ∧ (b1 = false → (All [g ≠ 0] ∧ True)))
/-- sieveholesref20.far -/
def S.ref20_far (a : Int) (b : Int) : Int :=
  let b1 : Bool := decide (a < b)
  let t2 : Int := IntKind.u64.wrap (b - a)
  let t3 : Int := IntKind.u64.wrap (a - b)
  (bif b1 then t2 else t3)
/-- sieveholesref20.Join -/
noncomputable def S.ref20_Join (a : S.Cong) (b : S.Cong) : S.Cong :=
  let b1 : Bool := ((a.M == b.M) && (a.R == b.R))
  let r2 : Int := S.ref20_Gcd a.M b.M
  let b3 : Bool := r2 == 0
  let t4 : Int := IntKind.i64.wrap a.R
  let t5 : Int := IntKind.i64.wrap b.R
  let m6 : Int := if t5 > t4 then t5 else t4
  let t7 : Int := IntKind.u64.wrap m6
  let m8 : Int := if t5 < t4 then t5 else t4
  let t9 : Int := IntKind.u64.wrap m8
  let t10 : Int := IntKind.u64.wrap (t7 - t9)
  let r11 : S.Cong := S.ref20_Make t10 t4
  let r12 : Int := S.ref20_Of a r2
  let r13 : Int := S.ref20_Of b r2
  let r14 : Int := S.ref20_far r12 r13
  let r15 : Int := S.ref20_Gcd r2 r14
  let r16 : Int := S.ref20_Of a r2
  let t17 : Int := Int.tmod r16 r15
  (bif b1 then a else (bif b3 then r11 else (⟨r15, t17⟩ : S.Cong)))
def S.ref20_Join_pre (a : S.Cong) (b : S.Cong) : Prop :=
  let b1 : Bool := ((a.M == b.M) && (a.R == b.R))
  let r2 : Int := S.ref20_Gcd a.M b.M
  let b3 : Bool := r2 == 0
  let t4 : Int := IntKind.i64.wrap a.R
  let t5 : Int := IntKind.i64.wrap b.R
  let m6 : Int := if t5 > t4 then t5 else t4
  let t7 : Int := IntKind.u64.wrap m6
  let m8 : Int := if t5 < t4 then t5 else t4
  let t9 : Int := IntKind.u64.wrap m8
  let t10 : Int := IntKind.u64.wrap (t7 - t9)
  let r12 : Int := S.ref20_Of a r2
  let r13 : Int := S.ref20_Of b r2
  let r14 : Int := S.ref20_far r12 r13
  let r15 : Int := S.ref20_Gcd r2 r14
  ((b1 = true → True) ∧ (b1 = false → (All [S.ref20_Gcd_pre a.M b.M] ∧ ((b3 = true → (All [S.ref20_Make_pre t10 t4] ∧ True)) ∧ (b3 = false → (All [S.ref20_Of_pre a r2, S.ref20_Of_pre b r2, S.ref20_Gcd_pre r2 r14, S.ref20_Of_pre a r2, r15 ≠ 0] ∧ True))))))
/-- sieveholesref21.Join -/
noncomputable def S.ref21_Join (a : S.Value) (b : S.Value) : S.Value :=
  let r1 : S.Value := S.ref21_Bottom
  let b2 : Bool := ((a.I.Lo == r1.I.Lo) && ((a.I.Hi == r1.I.Hi) && ((a.C.M == r1.C.M) && (a.C.R == r1.C.R))))
  let r3 : S.Value := S.ref21_Bottom
  let b4 : Bool := ((b.I.Lo == r3.I.Lo) && ((b.I.Hi == r3.I.Hi) && ((b.C.M == r3.C.M) && (b.C.R == r3.C.R))))
  let r5 : S.Inter := S.ref19_Join a.I b.I
  let r6 : S.Cong := S.ref20_Join a.C b.C
  let r7 : S.Value := S.ref21_Make r5 r6
  (bif b2 then b else (bif b4 then a else r7))
def S.ref21_Join_pre (a : S.Value) (b : S.Value) : Prop :=
  let r1 : S.Value := S.ref21_Bottom
  let b2 : Bool := ((a.I.Lo == r1.I.Lo) && ((a.I.Hi == r1.I.Hi) && ((a.C.M == r1.C.M) && (a.C.R == r1.C.R))))
  let r3 : S.Value := S.ref21_Bottom
  let b4 : Bool := ((b.I.Lo == r3.I.Lo) && ((b.I.Hi == r3.I.Hi) && ((b.C.M == r3.C.M) && (b.C.R == r3.C.R))))
  let r5 : S.Inter := S.ref19_Join a.I b.I
  let r6 : S.Cong := S.ref20_Join a.C b.C
  ((b2 = true → True) ∧ (b2 = false → ((b4 = true → True) ∧ (b4 = false → (All [S.ref20_Join_pre a.C b.C, S.ref21_Make_pre r5 r6] ∧ True)))))
/-- sieveholesref20.Within -/
def S.ref20_Within (a : S.Cong) (b : S.Cong) : Bool :=
  let b1 : Bool := b.M == 0
  let b2 : Bool := ((a.M == b.M) && (a.R == b.R))
  let t3 : Int := Int.tmod a.M b.M
  let b4 : Bool := t3 == 0
  let r5 : Int := S.ref20_Of a b.M
  let b6 : Bool := r5 == b.R
  let p7 : Bool := (b4 && b6)
  (bif b1 then b2 else p7)
def S.ref20_Within_pre (a : S.Cong) (b : S.Cong) : Prop :=
  let b1 : Bool := b.M == 0
  let t3 : Int := Int.tmod a.M b.M
  let b4 : Bool := t3 == 0
  ((b1 = true → True) ∧ (b1 = false → (All [b.M ≠ 0, (b4 = true → S.ref20_Of_pre a b.M)] ∧ True)))
/-- sieveholesref20.Meet -/
noncomputable def S.ref20_Meet (a : S.Cong) (b : S.Cong) : S.Cong × Bool :=
  let b1 : Bool := a.M == 0
  let b2 : Bool := b.M == 0
  let p3 : Bool := (b1 || b2)
  let b4 : Bool := decide (a.M > 0)
  let t5 : Int := IntKind.i64.wrap (bif b4 then b.R else a.R)
  let r6 : Bool := S.ref20_Has (⟨(bif b4 then a.M else b.M), (bif b4 then a.R else b.R)⟩ : S.Cong) t5
  let b7 : Bool := !r6
  let r8 : Int := S.ref20_Gcd a.M b.M
  let r9 : Int := S.ref20_Of a r8
  let r10 : Int := S.ref20_Of b r8
  let b11 : Bool := r9 != r10
  let r12 : Bool := S.ref20_Within a b
  let b13 : Bool := !r12
  let r14 : Bool := S.ref20_Within b a
  let b15 : Bool := decide (b.M > a.M)
  let p16 : Bool := (r14 || b15)
  let p17 : Bool := (b13 && p16)
  (bif p3 then (bif b7 then ((⟨0, 0⟩ : S.Cong), false) else ((⟨(bif b4 then b.M else a.M), (bif b4 then b.R else a.R)⟩ : S.Cong), true)) else (bif b11 then ((⟨0, 0⟩ : S.Cong), false) else (bif p17 then (b, true) else (a, true))))
def S.ref20_Meet_pre (a : S.Cong) (b : S.Cong) : Prop :=
  let b1 : Bool := a.M == 0
  let b2 : Bool := b.M == 0
  let p3 : Bool := (b1 || b2)
  let b4 : Bool := decide (a.M > 0)
  let t5 : Int := IntKind.i64.wrap (bif b4 then b.R else a.R)
  let r6 : Bool := S.ref20_Has (⟨(bif b4 then a.M else b.M), (bif b4 then a.R else b.R)⟩ : S.Cong) t5
  let b7 : Bool := !r6
  let r8 : Int := S.ref20_Gcd a.M b.M
  let r9 : Int := S.ref20_Of a r8
  let r10 : Int := S.ref20_Of b r8
  let b11 : Bool := r9 != r10
  let r12 : Bool := S.ref20_Within a b
  let b13 : Bool := !r12
  let r14 : Bool := S.ref20_Within b a
  let b15 : Bool := decide (b.M > a.M)
  let p16 : Bool := (r14 || b15)
  let p17 : Bool := (b13 && p16)
  ((p3 = true → (All [S.ref20_Has_pre (⟨(bif b4 then a.M else b.M), (bif b4 then a.R else b.R)⟩ : S.Cong) t5] ∧ ((b7 = true → True) ∧ (b7 = false → True)))) ∧ (p3 = false → (All [S.ref20_Gcd_pre a.M b.M, S.ref20_Of_pre a r8, S.ref20_Of_pre b r8] ∧ ((b11 = true → True) ∧ (b11 = false → (All [S.ref20_Within_pre a b, (b13 = true → S.ref20_Within_pre b a)] ∧ ((p17 = true → True) ∧ (p17 = false → True))))))))
/-- sieveholesref19.Meet -/
def S.ref19_Meet (a : S.Inter) (b : S.Inter) : S.Inter :=
  let m1 : Int := if b.Lo > a.Lo then b.Lo else a.Lo
  let m2 : Int := if b.Hi < a.Hi then b.Hi else a.Hi
  let r3 : S.Inter := S.ref19_Plain (⟨m1, m2⟩ : S.Inter)
  r3
/-- sieveholesref21.Meet -/
noncomputable def S.ref21_Meet (a : S.Value) (b : S.Value) : S.Value :=
  let r1 : S.Cong × Bool := S.ref20_Meet a.C b.C
  let b2 : Bool := !r1.2
  let r3 : S.Value := S.ref21_Bottom
  let r4 : S.Inter := S.ref19_Meet a.I b.I
  let r5 : S.Value := S.ref21_Make r4 r1.1
  (bif b2 then r3 else r5)
def S.ref21_Meet_pre (a : S.Value) (b : S.Value) : Prop :=
  let r1 : S.Cong × Bool := S.ref20_Meet a.C b.C
  let b2 : Bool := !r1.2
  let r4 : S.Inter := S.ref19_Meet a.I b.I
  (All [S.ref20_Meet_pre a.C b.C] ∧ ((b2 = true → True) ∧ (b2 = false → (All [S.ref21_Make_pre r4 r1.1] ∧ True))))
@[ext] structure S.value_Of_L0 where
  t6 : (List Int)
  t7 : Int
  t8 : Int
  all : (List S.Value)
def S.value_Of_L0_step (x : S.value_Of_L0) : S.value_Of_L0 ⊕ (S.value_Of_L0) :=
  let b1 : Bool := decide (x.t8 < x.t7)
  let e2 : Int := x.t6.getD (Int.toNat x.t8) 0
  let r3 : S.Value := S.value_One e2
  let l4 : List S.Value := x.all ++ ([r3] : List S.Value)
  let t5 : Int := IntKind.i64.wrap (x.t8 + 1)
  (bif b1 then (.inl ⟨x.t6, x.t7, t5, l4⟩) else (.inr ⟨x.t6, x.t7, x.t8, x.all⟩))
def S.value_Of_L0_vcs (x : S.value_Of_L0) : Prop :=
  let b1 : Bool := decide (x.t8 < x.t7)
  let e2 : Int := x.t6.getD (Int.toNat x.t8) 0
  let r3 : S.Value := S.value_One e2
  ((b1 = true → (All [(0 : Int) ≤ x.t8, x.t8 < (x.t6.length : Int), ((x.all.length + ([r3] : List S.Value).length : Nat) : Int) * 32 ≤ 140737488355328] ∧ True)) ∧ (b1 = false → True))
noncomputable def S.value_Of_L0_run (x : S.value_Of_L0) : S.value_Of_L0 := theRun (fun x => x) S.value_Of_L0_step S.value_Of_L0_vcs x
/-- value.Of -/
noncomputable def S.value_Of (l : (List Int)) : S.Value :=
  let x1 : S.value_Of_L0 := (⟨l, (l.length : Int), 0, ([] : List S.Value)⟩ : S.value_Of_L0)
  let y2 : S.value_Of_L0 := S.value_Of_L0_run x1
  let r3 : S.Value := S.value_Join y2.all
  r3
def S.value_Of_pre (l : (List Int)) : Prop :=
  let x1 : S.value_Of_L0 := (⟨l, (l.length : Int), 0, ([] : List S.Value)⟩ : S.value_Of_L0)
  let y2 : S.value_Of_L0 := S.value_Of_L0_run x1
  (All [Runs S.value_Of_L0_step S.value_Of_L0_vcs x1 (S.value_Of_L0_run x1), S.value_Join_pre y2.all] ∧ True)
/-- inter.Widen -/
noncomputable def S.inter_Widen (a : S.Inter) (b : S.Inter) : S.Inter :=
  let r1 : S.Inter := S.inter_Join ([a, b] : List S.Inter)
  let r2 : Bool := S.inter_Inter_IsEmpty a
  let b3 : Bool := decide (r1.Lo < a.Lo)
  let b4 : Bool := decide (r1.Hi > a.Hi)
  (bif r2 then r1 else (⟨(bif b3 then (-9223372036854775808) else r1.Lo), (bif b4 then 9223372036854775807 else r1.Hi)⟩ : S.Inter))
def S.inter_Widen_pre (a : S.Inter) (b : S.Inter) : Prop :=
  let r2 : Bool := S.inter_Inter_IsEmpty a
  (All [S.inter_Join_pre ([a, b] : List S.Inter)] ∧ ((r2 = true → True) ∧ (r2 = false → True)))
/-- value.Widen -/
noncomputable def S.value_Widen (a : S.Value) (b : S.Value) : S.Value :=
  let r1 : S.Value := S.value_Value_reduced a
  let r2 : S.Value := S.value_Value_reduced b
  let r3 : S.Value := S.value_Bottom
  let b4 : Bool := ((r1.I.Lo == r3.I.Lo) && ((r1.I.Hi == r3.I.Hi) && ((r1.C.M == r3.C.M) && (r1.C.R == r3.C.R))))
  let r5 : S.Value := S.value_Bottom
  let b6 : Bool := ((r2.I.Lo == r5.I.Lo) && ((r2.I.Hi == r5.I.Hi) && ((r2.C.M == r5.C.M) && (r2.C.R == r5.C.R))))
  let p7 : Bool := (b4 || b6)
  let r8 : S.Value := S.value_Join ([r1, r2] : List S.Value)
  let r9 : S.Inter := S.inter_Widen r1.I r2.I
  let r10 : S.Cong := S.cong_Join r1.C r2.C
  let r11 : S.Value := S.value_Make r9 r10
  (bif p7 then r8 else r11)
def S.value_Widen_pre (a : S.Value) (b : S.Value) : Prop :=
  let r1 : S.Value := S.value_Value_reduced a
  let r2 : S.Value := S.value_Value_reduced b
  let r3 : S.Value := S.value_Bottom
  let b4 : Bool := ((r1.I.Lo == r3.I.Lo) && ((r1.I.Hi == r3.I.Hi) && ((r1.C.M == r3.C.M) && (r1.C.R == r3.C.R))))
  let r5 : S.Value := S.value_Bottom
  let b6 : Bool := ((r2.I.Lo == r5.I.Lo) && ((r2.I.Hi == r5.I.Hi) && ((r2.C.M == r5.C.M) && (r2.C.R == r5.C.R))))
  let p7 : Bool := (b4 || b6)
  let r9 : S.Inter := S.inter_Widen r1.I r2.I
  let r10 : S.Cong := S.cong_Join r1.C r2.C
  (All [S.value_Value_reduced_pre a, S.value_Value_reduced_pre b] ∧ ((p7 = true → (All [S.value_Join_pre ([r1, r2] : List S.Value)] ∧ True)) ∧ (p7 = false → (All [S.inter_Widen_pre r1.I r2.I, S.cong_Join_pre r1.C r2.C, S.value_Make_pre r9 r10] ∧ True))))
/-- sieveholesref19.Widen -/
def S.ref19_Widen (a : S.Inter) (b : S.Inter) : S.Inter :=
  let r1 : Bool := S.ref19_Empty a
  let r2 : S.Inter := S.ref19_Plain b
  let r3 : Bool := S.ref19_Empty b
  let b4 : Bool := decide (b.Lo < a.Lo)
  let r5 : Int := S.ref19_Least
  let b6 : Bool := decide (b.Hi > a.Hi)
  let r7 : Int := S.ref19_Most
  (bif r1 then r2 else (bif r3 then a else (⟨(bif b4 then r5 else a.Lo), (bif b6 then r7 else a.Hi)⟩ : S.Inter)))
/-- sieveholesref21.Widen -/
noncomputable def S.ref21_Widen (a : S.Value) (b : S.Value) : S.Value :=
  let r1 : S.Value := S.ref21_Bottom
  let b2 : Bool := ((a.I.Lo == r1.I.Lo) && ((a.I.Hi == r1.I.Hi) && ((a.C.M == r1.C.M) && (a.C.R == r1.C.R))))
  let r3 : S.Value := S.ref21_Bottom
  let b4 : Bool := ((b.I.Lo == r3.I.Lo) && ((b.I.Hi == r3.I.Hi) && ((b.C.M == r3.C.M) && (b.C.R == r3.C.R))))
  let p5 : Bool := (b2 || b4)
  let r6 : S.Value := S.ref21_Join a b
  let r7 : S.Inter := S.ref19_Widen a.I b.I
  let r8 : S.Cong := S.ref20_Join a.C b.C
  let r9 : S.Value := S.ref21_Make r7 r8
  (bif p5 then r6 else r9)
def S.ref21_Widen_pre (a : S.Value) (b : S.Value) : Prop :=
  let r1 : S.Value := S.ref21_Bottom
  let b2 : Bool := ((a.I.Lo == r1.I.Lo) && ((a.I.Hi == r1.I.Hi) && ((a.C.M == r1.C.M) && (a.C.R == r1.C.R))))
  let r3 : S.Value := S.ref21_Bottom
  let b4 : Bool := ((b.I.Lo == r3.I.Lo) && ((b.I.Hi == r3.I.Hi) && ((b.C.M == r3.C.M) && (b.C.R == r3.C.R))))
  let p5 : Bool := (b2 || b4)
  let r7 : S.Inter := S.ref19_Widen a.I b.I
  let r8 : S.Cong := S.ref20_Join a.C b.C
  ((p5 = true → (All [S.ref21_Join_pre a b] ∧ True)) ∧ (p5 = false → (All [S.ref20_Join_pre a.C b.C, S.ref21_Make_pre r7 r8] ∧ True)))
/-- inter.Narrow -/
def S.inter_Narrow (a : S.Inter) (b : S.Inter) : S.Inter :=
  let r1 : Bool := S.inter_Inter_IsEmpty a
  let r2 : Bool := S.inter_Inter_IsEmpty b
  let p3 : Bool := (r1 || r2)
  let r4 : S.Inter := S.inter_Empty
  let b5 : Bool := a.Lo == (-9223372036854775808)
  let b6 : Bool := a.Hi == 9223372036854775807
  let r7 : S.Inter := S.inter_Inter_plain (⟨(bif b5 then b.Lo else a.Lo), (bif b6 then b.Hi else a.Hi)⟩ : S.Inter)
  (bif p3 then r4 else r7)
/-- value.Narrow -/
noncomputable def S.value_Narrow (a : S.Value) (b : S.Value) : S.Value :=
  let r1 : S.Value := S.value_Value_reduced a
  let r2 : S.Value := S.value_Value_reduced b
  let r3 : S.Cong × Bool := S.cong_Meet r1.C r2.C
  let b4 : Bool := !r3.2
  let r5 : S.Value := S.value_Bottom
  let r6 : S.Inter := S.inter_Narrow r1.I r2.I
  let r7 : S.Value := S.value_Make r6 r3.1
  (bif b4 then r5 else r7)
def S.value_Narrow_pre (a : S.Value) (b : S.Value) : Prop :=
  let r1 : S.Value := S.value_Value_reduced a
  let r2 : S.Value := S.value_Value_reduced b
  let r3 : S.Cong × Bool := S.cong_Meet r1.C r2.C
  let b4 : Bool := !r3.2
  let r6 : S.Inter := S.inter_Narrow r1.I r2.I
  (All [S.value_Value_reduced_pre a, S.value_Value_reduced_pre b, S.cong_Meet_pre r1.C r2.C] ∧ ((b4 = true → True) ∧ (b4 = false → (All [S.value_Make_pre r6 r3.1] ∧ True))))
/-- sieveholesref19.Narrow -/
def S.ref19_Narrow (a : S.Inter) (b : S.Inter) : S.Inter :=
  let r1 : Bool := S.ref19_Empty a
  let r2 : Bool := S.ref19_Empty b
  let p3 : Bool := (r1 || r2)
  let r4 : Int := S.ref19_Least
  let b5 : Bool := a.Lo == r4
  let r6 : Int := S.ref19_Most
  let b7 : Bool := a.Hi == r6
  let r8 : S.Inter := S.ref19_Plain (⟨(bif b5 then b.Lo else a.Lo), (bif b7 then b.Hi else a.Hi)⟩ : S.Inter)
  (bif p3 then (⟨1, 0⟩ : S.Inter) else r8)
/-- sieveholesref21.Narrow -/
noncomputable def S.ref21_Narrow (a : S.Value) (b : S.Value) : S.Value :=
  let r1 : S.Cong × Bool := S.ref20_Meet a.C b.C
  let b2 : Bool := !r1.2
  let r3 : S.Value := S.ref21_Bottom
  let b4 : Bool := ((a.I.Lo == r3.I.Lo) && ((a.I.Hi == r3.I.Hi) && ((a.C.M == r3.C.M) && (a.C.R == r3.C.R))))
  let p5 : Bool := (b2 || b4)
  let r6 : S.Value := S.ref21_Bottom
  let b7 : Bool := ((b.I.Lo == r6.I.Lo) && ((b.I.Hi == r6.I.Hi) && ((b.C.M == r6.C.M) && (b.C.R == r6.C.R))))
  let p8 : Bool := (p5 || b7)
  let r9 : S.Value := S.ref21_Bottom
  let r10 : S.Inter := S.ref19_Narrow a.I b.I
  let r11 : S.Value := S.ref21_Make r10 r1.1
  (bif p8 then r9 else r11)
def S.ref21_Narrow_pre (a : S.Value) (b : S.Value) : Prop :=
  let r1 : S.Cong × Bool := S.ref20_Meet a.C b.C
  let b2 : Bool := !r1.2
  let r3 : S.Value := S.ref21_Bottom
  let b4 : Bool := ((a.I.Lo == r3.I.Lo) && ((a.I.Hi == r3.I.Hi) && ((a.C.M == r3.C.M) && (a.C.R == r3.C.R))))
  let p5 : Bool := (b2 || b4)
  let r6 : S.Value := S.ref21_Bottom
  let b7 : Bool := ((b.I.Lo == r6.I.Lo) && ((b.I.Hi == r6.I.Hi) && ((b.C.M == r6.C.M) && (b.C.R == r6.C.R))))
  let p8 : Bool := (p5 || b7)
  let r10 : S.Inter := S.ref19_Narrow a.I b.I
  (All [S.ref20_Meet_pre a.C b.C] ∧ ((p8 = true → True) ∧ (p8 = false → (All [S.ref21_Make_pre r10 r1.1] ∧ True))))
/-- sieveholesref21.Within -/
def S.ref21_Within (a : S.Value) (b : S.Value) : Bool :=
  let r1 : S.Value := S.ref21_Bottom
  let b2 : Bool := ((a.I.Lo == r1.I.Lo) && ((a.I.Hi == r1.I.Hi) && ((a.C.M == r1.C.M) && (a.C.R == r1.C.R))))
  let b3 : Bool := a.I.Lo == a.I.Hi
  let r4 : Bool := S.ref21_Has b a.I.Lo
  let r5 : Bool := S.ref21_Has b a.I.Lo
  let r6 : Bool := S.ref21_Has b a.I.Hi
  let p7 : Bool := (r5 && r6)
  let b8 : Bool := decide (b.C.M > 0)
  let p9 : Bool := (p7 && b8)
  let t10 : Int := Int.tmod a.C.M b.C.M
  let b11 : Bool := t10 == 0
  let p12 : Bool := (p9 && b11)
  (bif b2 then true else (bif b3 then r4 else p12))
def S.ref21_Within_pre (a : S.Value) (b : S.Value) : Prop :=
  let r1 : S.Value := S.ref21_Bottom
  let b2 : Bool := ((a.I.Lo == r1.I.Lo) && ((a.I.Hi == r1.I.Hi) && ((a.C.M == r1.C.M) && (a.C.R == r1.C.R))))
  let b3 : Bool := a.I.Lo == a.I.Hi
  let r5 : Bool := S.ref21_Has b a.I.Lo
  let r6 : Bool := S.ref21_Has b a.I.Hi
  let p7 : Bool := (r5 && r6)
  let b8 : Bool := decide (b.C.M > 0)
  let p9 : Bool := (p7 && b8)
  ((b2 = true → True) ∧ (b2 = false → ((b3 = true → (All [S.ref21_Has_pre b a.I.Lo] ∧ True)) ∧ (b3 = false → (All [S.ref21_Has_pre b a.I.Lo, (r5 = true → S.ref21_Has_pre b a.I.Hi), (p9 = true → b.C.M ≠ 0)] ∧ True)))))
/-- value.Same -/
def S.value_Same (a : S.Value) (b : S.Value) : Bool :=
  let r1 : S.Value := S.value_Value_reduced a
  let r2 : S.Value := S.value_Value_reduced b
  let b3 : Bool := ((r1.I.Lo == r2.I.Lo) && ((r1.I.Hi == r2.I.Hi) && ((r1.C.M == r2.C.M) && (r1.C.R == r2.C.R))))
  b3
def S.value_Same_pre (a : S.Value) (b : S.Value) : Prop :=
  (All [S.value_Value_reduced_pre a, S.value_Value_reduced_pre b] ∧ True)
@[ext] structure S.law21_ValueJoins_L0 where
  l : (List S.Value)
  i : Int
  join : S.Value
  meet : S.Value
noncomputable def S.law21_ValueJoins_L0_step (x : S.law21_ValueJoins_L0) : S.law21_ValueJoins_L0 ⊕ (S.law21_ValueJoins_L0) :=
  let b1 : Bool := decide (x.i < (x.l.length : Int))
  let e2 : S.Value := x.l.getD (Int.toNat x.i) (⟨(⟨0, 0⟩ : S.Inter), (⟨0, 0⟩ : S.Cong)⟩ : S.Value)
  let r3 : S.Value := S.law21_plain e2
  let r4 : S.Value := S.ref21_Join x.join r3
  let e5 : S.Value := x.l.getD (Int.toNat x.i) (⟨(⟨0, 0⟩ : S.Inter), (⟨0, 0⟩ : S.Cong)⟩ : S.Value)
  let r6 : S.Value := S.law21_plain e5
  let r7 : S.Value := S.ref21_Meet x.meet r6
  let t8 : Int := IntKind.i64.wrap (x.i + 1)
  (bif b1 then (.inl ⟨x.l, t8, r4, r7⟩) else (.inr ⟨x.l, x.i, x.join, x.meet⟩))
def S.law21_ValueJoins_L0_vcs (x : S.law21_ValueJoins_L0) : Prop :=
  let b1 : Bool := decide (x.i < (x.l.length : Int))
  let e2 : S.Value := x.l.getD (Int.toNat x.i) (⟨(⟨0, 0⟩ : S.Inter), (⟨0, 0⟩ : S.Cong)⟩ : S.Value)
  let r3 : S.Value := S.law21_plain e2
  let e5 : S.Value := x.l.getD (Int.toNat x.i) (⟨(⟨0, 0⟩ : S.Inter), (⟨0, 0⟩ : S.Cong)⟩ : S.Value)
  let r6 : S.Value := S.law21_plain e5
  ((b1 = true → (All [(0 : Int) ≤ x.i, x.i < (x.l.length : Int), S.law21_plain_pre e2, S.ref21_Join_pre x.join r3, (0 : Int) ≤ x.i, x.i < (x.l.length : Int), S.law21_plain_pre e5, S.ref21_Meet_pre x.meet r6] ∧ True)) ∧ (b1 = false → True))
noncomputable def S.law21_ValueJoins_L0_run (x : S.law21_ValueJoins_L0) : S.law21_ValueJoins_L0 := theRun (fun x => x) S.law21_ValueJoins_L0_step S.law21_ValueJoins_L0_vcs x
@[ext] structure S.law21_ValueJoins_L2 where
  numbers : (List Int)
  i : Int
  of : S.Value
noncomputable def S.law21_ValueJoins_L2_step (x : S.law21_ValueJoins_L2) : S.law21_ValueJoins_L2 ⊕ (S.law21_ValueJoins_L2) :=
  let b1 : Bool := decide (x.i < (x.numbers.length : Int))
  let e2 : Int := x.numbers.getD (Int.toNat x.i) 0
  let r3 : S.Value := S.ref21_One e2
  let r4 : S.Value := S.ref21_Join x.of r3
  let t5 : Int := IntKind.i64.wrap (x.i + 1)
  (bif b1 then (.inl ⟨x.numbers, t5, r4⟩) else (.inr ⟨x.numbers, x.i, x.of⟩))
def S.law21_ValueJoins_L2_vcs (x : S.law21_ValueJoins_L2) : Prop :=
  let b1 : Bool := decide (x.i < (x.numbers.length : Int))
  let e2 : Int := x.numbers.getD (Int.toNat x.i) 0
  let r3 : S.Value := S.ref21_One e2
  ((b1 = true → (All [(0 : Int) ≤ x.i, x.i < (x.numbers.length : Int), S.ref21_One_pre e2, S.ref21_Join_pre x.of r3] ∧ True)) ∧ (b1 = false → True))
noncomputable def S.law21_ValueJoins_L2_run (x : S.law21_ValueJoins_L2) : S.law21_ValueJoins_L2 := theRun (fun x => x) S.law21_ValueJoins_L2_step S.law21_ValueJoins_L2_vcs x
/-- sieveholeslaw21.ValueJoins -/
noncomputable def S.law21_ValueJoins (l : (List S.Value)) (a : S.Value) (b : S.Value) (numbers : (List Int)) : Bool :=
  let b1 : Bool := decide ((l.length : Int) > 12)
  let b2 : Bool := decide ((numbers.length : Int) > 12)
  let p3 : Bool := (b1 || b2)
  let r4 : Bool := S.law21_works
  let r5 : S.Value := S.ref21_Bottom
  let r6 : S.Value := S.ref21_Top
  let x7 : S.law21_ValueJoins_L0 := (⟨l, 0, r5, r6⟩ : S.law21_ValueJoins_L0)
  let y8 : S.law21_ValueJoins_L0 := S.law21_ValueJoins_L0_run x7
  let r9 : S.Value := S.ref21_Bottom
  let x10 : S.law21_ValueJoins_L2 := (⟨numbers, 0, r9⟩ : S.law21_ValueJoins_L2)
  let y11 : S.law21_ValueJoins_L2 := S.law21_ValueJoins_L2_run x10
  let r12 : S.Value := S.law21_plain a
  let r13 : S.Value := S.law21_plain b
  let r14 : S.Value := S.value_Join y8.l
  let r15 : S.Value := S.docs_Value r14
  let b16 : Bool := ((r15.I.Lo == y8.join.I.Lo) && ((r15.I.Hi == y8.join.I.Hi) && ((r15.C.M == y8.join.C.M) && (r15.C.R == y8.join.C.R))))
  let r17 : S.Value := S.value_Meet y8.l
  let r18 : S.Value := S.docs_Value r17
  let b19 : Bool := ((r18.I.Lo == y8.meet.I.Lo) && ((r18.I.Hi == y8.meet.I.Hi) && ((r18.C.M == y8.meet.C.M) && (r18.C.R == y8.meet.C.R))))
  let p20 : Bool := (b16 && b19)
  let r21 : S.Value := S.value_Of y11.numbers
  let r22 : S.Value := S.docs_Value r21
  let b23 : Bool := ((r22.I.Lo == y11.of.I.Lo) && ((r22.I.Hi == y11.of.I.Hi) && ((r22.C.M == y11.of.C.M) && (r22.C.R == y11.of.C.R))))
  let p24 : Bool := (p20 && b23)
  let r25 : S.Value := S.value_Widen a b
  let r26 : S.Value := S.docs_Value r25
  let r27 : S.Value := S.ref21_Widen r12 r13
  let b28 : Bool := ((r26.I.Lo == r27.I.Lo) && ((r26.I.Hi == r27.I.Hi) && ((r26.C.M == r27.C.M) && (r26.C.R == r27.C.R))))
  let p29 : Bool := (p24 && b28)
  let r30 : S.Value := S.value_Narrow a b
  let r31 : S.Value := S.docs_Value r30
  let r32 : S.Value := S.ref21_Narrow r12 r13
  let b33 : Bool := ((r31.I.Lo == r32.I.Lo) && ((r31.I.Hi == r32.I.Hi) && ((r31.C.M == r32.C.M) && (r31.C.R == r32.C.R))))
  let p34 : Bool := (p29 && b33)
  let r35 : Bool := S.value_Within a b
  let r36 : Bool := S.ref21_Within r12 r13
  let b37 : Bool := r35 == r36
  let p38 : Bool := (p34 && b37)
  let r39 : Bool := S.value_Same a b
  let b40 : Bool := ((r12.I.Lo == r13.I.Lo) && ((r12.I.Hi == r13.I.Hi) && ((r12.C.M == r13.C.M) && (r12.C.R == r13.C.R))))
  let b41 : Bool := r39 == b40
  let p42 : Bool := (p38 && b41)
  let r43 : Bool := S.law21_works
  let p44 : Bool := (p42 && r43)
  (bif p3 then r4 else p44)
def S.law21_ValueJoins_pre (l : (List S.Value)) (a : S.Value) (b : S.Value) (numbers : (List Int)) : Prop :=
  let b1 : Bool := decide ((l.length : Int) > 12)
  let b2 : Bool := decide ((numbers.length : Int) > 12)
  let p3 : Bool := (b1 || b2)
  let r5 : S.Value := S.ref21_Bottom
  let r6 : S.Value := S.ref21_Top
  let x7 : S.law21_ValueJoins_L0 := (⟨l, 0, r5, r6⟩ : S.law21_ValueJoins_L0)
  let y8 : S.law21_ValueJoins_L0 := S.law21_ValueJoins_L0_run x7
  let r9 : S.Value := S.ref21_Bottom
  let x10 : S.law21_ValueJoins_L2 := (⟨numbers, 0, r9⟩ : S.law21_ValueJoins_L2)
  let y11 : S.law21_ValueJoins_L2 := S.law21_ValueJoins_L2_run x10
  let r12 : S.Value := S.law21_plain a
  let r13 : S.Value := S.law21_plain b
  let r14 : S.Value := S.value_Join y8.l
  let r15 : S.Value := S.docs_Value r14
  let b16 : Bool := ((r15.I.Lo == y8.join.I.Lo) && ((r15.I.Hi == y8.join.I.Hi) && ((r15.C.M == y8.join.C.M) && (r15.C.R == y8.join.C.R))))
  let r17 : S.Value := S.value_Meet y8.l
  let r18 : S.Value := S.docs_Value r17
  let b19 : Bool := ((r18.I.Lo == y8.meet.I.Lo) && ((r18.I.Hi == y8.meet.I.Hi) && ((r18.C.M == y8.meet.C.M) && (r18.C.R == y8.meet.C.R))))
  let p20 : Bool := (b16 && b19)
  let r21 : S.Value := S.value_Of y11.numbers
  let r22 : S.Value := S.docs_Value r21
  let b23 : Bool := ((r22.I.Lo == y11.of.I.Lo) && ((r22.I.Hi == y11.of.I.Hi) && ((r22.C.M == y11.of.C.M) && (r22.C.R == y11.of.C.R))))
  let p24 : Bool := (p20 && b23)
  let r25 : S.Value := S.value_Widen a b
  let r26 : S.Value := S.docs_Value r25
  let r27 : S.Value := S.ref21_Widen r12 r13
  let b28 : Bool := ((r26.I.Lo == r27.I.Lo) && ((r26.I.Hi == r27.I.Hi) && ((r26.C.M == r27.C.M) && (r26.C.R == r27.C.R))))
  let p29 : Bool := (p24 && b28)
  let r30 : S.Value := S.value_Narrow a b
  let r31 : S.Value := S.docs_Value r30
  let r32 : S.Value := S.ref21_Narrow r12 r13
  let b33 : Bool := ((r31.I.Lo == r32.I.Lo) && ((r31.I.Hi == r32.I.Hi) && ((r31.C.M == r32.C.M) && (r31.C.R == r32.C.R))))
  let p34 : Bool := (p29 && b33)
  let r35 : Bool := S.value_Within a b
  let r36 : Bool := S.ref21_Within r12 r13
  let b37 : Bool := r35 == r36
  let p38 : Bool := (p34 && b37)
  let r39 : Bool := S.value_Same a b
  let b40 : Bool := ((r12.I.Lo == r13.I.Lo) && ((r12.I.Hi == r13.I.Hi) && ((r12.C.M == r13.C.M) && (r12.C.R == r13.C.R))))
  let b41 : Bool := r39 == b40
  let p42 : Bool := (p38 && b41)
  ((p3 = true → (All [S.law21_works_pre] ∧ True)) ∧ (p3 = false → (All [Runs S.law21_ValueJoins_L0_step S.law21_ValueJoins_L0_vcs x7 (S.law21_ValueJoins_L0_run x7), Runs S.law21_ValueJoins_L2_step S.law21_ValueJoins_L2_vcs x10 (S.law21_ValueJoins_L2_run x10), S.law21_plain_pre a, S.law21_plain_pre b, S.value_Join_pre y8.l, (b16 = true → S.value_Meet_pre y8.l), (p20 = true → S.value_Of_pre y11.numbers), (p24 = true → S.value_Widen_pre a b), (p24 = true → S.ref21_Widen_pre r12 r13), (p29 = true → S.value_Narrow_pre a b), (p29 = true → S.ref21_Narrow_pre r12 r13), (p34 = true → S.value_Within_pre a b), (p34 = true → S.ref21_Within_pre r12 r13), (p38 = true → S.value_Same_pre a b), (p42 = true → S.law21_works_pre)] ∧ True)))
@[ext] structure S.law21_ValueLattice_L0 where
  t8 : Bool
  some : (List Int)
  i : Int
  a : S.Value
def S.law21_ValueLattice_L0_step (x : S.law21_ValueLattice_L0) : S.law21_ValueLattice_L0 ⊕ (Bool × S.law21_ValueLattice_L0) :=
  let b1 : Bool := decide (x.i < (x.some.length : Int))
  let e2 : Int := x.some.getD (Int.toNat x.i) 0
  let r3 : Bool := S.value_Value_Has x.a e2
  let b4 : Bool := !r3
  let b5 : Bool := decide (x.i > 0)
  let e6 : Int := x.some.getD (Int.toNat x.i) 0
  let t7 : Int := IntKind.i64.wrap (x.i - 1)
  let e8 : Int := x.some.getD (Int.toNat t7) 0
  let b9 : Bool := decide (e6 ≤ e8)
  let p10 : Bool := (b5 && b9)
  let p11 : Bool := (b4 || p10)
  let t12 : Int := IntKind.i64.wrap (x.i + 1)
  (bif b1 then (bif p11 then (.inr ⟨true, ⟨false, x.some, x.i, x.a⟩⟩) else (.inl ⟨x.t8, x.some, t12, x.a⟩)) else (.inr ⟨false, ⟨x.t8, x.some, x.i, x.a⟩⟩))
def S.law21_ValueLattice_L0_vcs (x : S.law21_ValueLattice_L0) : Prop :=
  let b1 : Bool := decide (x.i < (x.some.length : Int))
  let e2 : Int := x.some.getD (Int.toNat x.i) 0
  let r3 : Bool := S.value_Value_Has x.a e2
  let b4 : Bool := !r3
  let b5 : Bool := decide (x.i > 0)
  let e6 : Int := x.some.getD (Int.toNat x.i) 0
  let t7 : Int := IntKind.i64.wrap (x.i - 1)
  let e8 : Int := x.some.getD (Int.toNat t7) 0
  let b9 : Bool := decide (e6 ≤ e8)
  let p10 : Bool := (b5 && b9)
  let p11 : Bool := (b4 || p10)
  ((b1 = true → (All [(0 : Int) ≤ x.i, x.i < (x.some.length : Int), S.value_Value_Has_pre x.a e2, (b4 = false → (b5 = true → ((0 : Int) ≤ x.i ∧ x.i < (x.some.length : Int)))), (b4 = false → (b5 = true → ((0 : Int) ≤ t7 ∧ t7 < (x.some.length : Int))))] ∧ ((p11 = true → True) ∧ (p11 = false → True)))) ∧ (b1 = false → True))
noncomputable def S.law21_ValueLattice_L0_run (x : S.law21_ValueLattice_L0) : Bool × S.law21_ValueLattice_L0 := theRun (fun x => ⟨true, x⟩) S.law21_ValueLattice_L0_step S.law21_ValueLattice_L0_vcs x
@[ext] structure S.law21_ValueLattice_L2 where
  l : (List S.Value)
  i : Int
  vx : S.Value
noncomputable def S.law21_ValueLattice_L2_step (x : S.law21_ValueLattice_L2) : S.law21_ValueLattice_L2 ⊕ (S.law21_ValueLattice_L2) :=
  let b1 : Bool := decide (x.i < 400)
  let b2 : Bool := decide ((x.l.length : Int) > 0)
  let t3 : Int := Int.tmod x.i (x.l.length : Int)
  let e4 : S.Value := x.l.getD (Int.toNat t3) (⟨(⟨0, 0⟩ : S.Inter), (⟨0, 0⟩ : S.Cong)⟩ : S.Value)
  let r5 : S.Value := S.value_Widen x.vx e4
  let t6 : Int := IntKind.i64.wrap (x.i + 1)
  (bif b1 then (.inl ⟨x.l, t6, (⟨(⟨(bif b2 then r5.I.Lo else x.vx.I.Lo), (bif b2 then r5.I.Hi else x.vx.I.Hi)⟩ : S.Inter), (⟨(bif b2 then r5.C.M else x.vx.C.M), (bif b2 then r5.C.R else x.vx.C.R)⟩ : S.Cong)⟩ : S.Value)⟩) else (.inr ⟨x.l, x.i, x.vx⟩))
def S.law21_ValueLattice_L2_vcs (x : S.law21_ValueLattice_L2) : Prop :=
  let b1 : Bool := decide (x.i < 400)
  let b2 : Bool := decide ((x.l.length : Int) > 0)
  let t3 : Int := Int.tmod x.i (x.l.length : Int)
  let e4 : S.Value := x.l.getD (Int.toNat t3) (⟨(⟨0, 0⟩ : S.Inter), (⟨0, 0⟩ : S.Cong)⟩ : S.Value)
  ((b1 = true → (All [(b2 = true → ((x.l.length : Int) ≠ 0 ∧ (0 : Int) ≤ t3 ∧ t3 < (x.l.length : Int) ∧ S.value_Widen_pre x.vx e4))] ∧ True)) ∧ (b1 = false → True))
noncomputable def S.law21_ValueLattice_L2_run (x : S.law21_ValueLattice_L2) : S.law21_ValueLattice_L2 := theRun (fun x => x) S.law21_ValueLattice_L2_step S.law21_ValueLattice_L2_vcs x
@[ext] structure S.law21_ValueLattice_L4 where
  l : (List S.Value)
  t8 : Bool
  i : Int
  vx : S.Value
noncomputable def S.law21_ValueLattice_L4_step (x : S.law21_ValueLattice_L4) : S.law21_ValueLattice_L4 ⊕ (Bool × S.law21_ValueLattice_L4) :=
  let b1 : Bool := decide (x.i < (x.l.length : Int))
  let e2 : S.Value := x.l.getD (Int.toNat x.i) (⟨(⟨0, 0⟩ : S.Inter), (⟨0, 0⟩ : S.Cong)⟩ : S.Value)
  let r3 : S.Value := S.value_Widen x.vx e2
  let r4 : Bool := S.value_Same r3 x.vx
  let b5 : Bool := !r4
  let e6 : S.Value := x.l.getD (Int.toNat x.i) (⟨(⟨0, 0⟩ : S.Inter), (⟨0, 0⟩ : S.Cong)⟩ : S.Value)
  let r7 : Bool := S.value_Within e6 x.vx
  let b8 : Bool := !r7
  let p9 : Bool := (b5 || b8)
  let t10 : Int := IntKind.i64.wrap (x.i + 1)
  (bif b1 then (bif p9 then (.inr ⟨true, ⟨x.l, false, x.i, x.vx⟩⟩) else (.inl ⟨x.l, x.t8, t10, x.vx⟩)) else (.inr ⟨false, ⟨x.l, x.t8, x.i, x.vx⟩⟩))
noncomputable def S.law21_ValueLattice_L4_vcs (x : S.law21_ValueLattice_L4) : Prop :=
  let b1 : Bool := decide (x.i < (x.l.length : Int))
  let e2 : S.Value := x.l.getD (Int.toNat x.i) (⟨(⟨0, 0⟩ : S.Inter), (⟨0, 0⟩ : S.Cong)⟩ : S.Value)
  let r3 : S.Value := S.value_Widen x.vx e2
  let r4 : Bool := S.value_Same r3 x.vx
  let b5 : Bool := !r4
  let e6 : S.Value := x.l.getD (Int.toNat x.i) (⟨(⟨0, 0⟩ : S.Inter), (⟨0, 0⟩ : S.Cong)⟩ : S.Value)
  let r7 : Bool := S.value_Within e6 x.vx
  let b8 : Bool := !r7
  let p9 : Bool := (b5 || b8)
  ((b1 = true → (All [(0 : Int) ≤ x.i, x.i < (x.l.length : Int), S.value_Widen_pre x.vx e2, S.value_Same_pre r3 x.vx, (b5 = false → ((0 : Int) ≤ x.i ∧ x.i < (x.l.length : Int))), (b5 = false → S.value_Within_pre e6 x.vx)] ∧ ((p9 = true → True) ∧ (p9 = false → True)))) ∧ (b1 = false → True))
noncomputable def S.law21_ValueLattice_L4_run (x : S.law21_ValueLattice_L4) : Bool × S.law21_ValueLattice_L4 := theRun (fun x => ⟨true, x⟩) S.law21_ValueLattice_L4_step S.law21_ValueLattice_L4_vcs x
/-- sieveholeslaw21.ValueLattice -/
noncomputable def S.law21_ValueLattice (a : S.Value) (b : S.Value) (n : Int) (l : (List S.Value)) : Bool :=
  let b1 : Bool := decide ((l.length : Int) > 12)
  let r2 : Bool := S.law21_works
  let r3 : S.Value := S.value_Join ([a, b] : List S.Value)
  let r4 : S.Value := S.value_Meet ([a, b] : List S.Value)
  let r5 : Bool := S.value_Value_Has a n
  let r6 : Bool := S.value_Value_Has b n
  let p7 : Bool := (r5 || r6)
  let r8 : Bool := S.value_Value_Has r3 n
  let b9 : Bool := !r8
  let p10 : Bool := (p7 && b9)
  let r11 : Bool := S.value_Value_Has a n
  let r12 : Bool := S.value_Value_Has b n
  let p13 : Bool := (r11 && r12)
  let r14 : Bool := S.value_Value_Has r4 n
  let b15 : Bool := !r14
  let p16 : Bool := (p13 && b15)
  let p17 : Bool := (p10 || p16)
  let r18 : Bool := S.value_Within a b
  let r19 : Bool := S.value_Value_Has a n
  let p20 : Bool := (r18 && r19)
  let r21 : Bool := S.value_Value_Has b n
  let b22 : Bool := !r21
  let p23 : Bool := (p20 && b22)
  let p24 : Bool := (p17 || p23)
  let r25 : Bool := S.value_Within a b
  let r26 : Bool := S.value_Same r3 b
  let b27 : Bool := !(r25 == r26)
  let p28 : Bool := (p24 || b27)
  let r29 : Bool := S.value_Within a r3
  let b30 : Bool := !r29
  let p31 : Bool := (p28 || b30)
  let r32 : Bool := S.value_Within r4 r3
  let b33 : Bool := !r32
  let p34 : Bool := (p31 || b33)
  let r35 : Bool := S.value_Same a b
  let r36 : Bool := S.value_Within a b
  let r37 : Bool := S.value_Within b a
  let p38 : Bool := (r36 && r37)
  let b39 : Bool := !(r35 == p38)
  let r40 : S.Value := S.value_Join ([b, a] : List S.Value)
  let r41 : Bool := S.value_Same r3 r40
  let b42 : Bool := !r41
  let p43 : Bool := (b39 || b42)
  let r44 : Bool := S.value_Value_Has a n
  let r45 : Bool := S.value_Value_Has b n
  let p46 : Bool := (r44 && r45)
  let r47 : S.Value := S.value_Narrow a b
  let r48 : Bool := S.value_Value_Has r47 n
  let b49 : Bool := !r48
  let p50 : Bool := (p46 && b49)
  let p51 : Bool := (p43 || p50)
  let r52 : S.Value := S.value_Widen a b
  let r53 : Bool := S.value_Within r3 r52
  let b54 : Bool := !r53
  let p55 : Bool := (p51 || b54)
  let r56 : Int × Bool := S.value_Value_Card a
  let r57 : (List Int) := S.value_Value_Some a 20
  let b58 : Bool := decide (r56.1 ≤ 20)
  let p59 : Bool := (r56.2 && b58)
  let t60 : Int := IntKind.i64.wrap r56.1
  let b61 : Bool := (r57.length : Int) != t60
  let p62 : Bool := (p59 && b61)
  let b63 : Bool := !r56.2
  let b64 : Bool := decide (r56.1 > 20)
  let p65 : Bool := (b63 || b64)
  let b66 : Bool := (r57.length : Int) != 20
  let p67 : Bool := (p65 && b66)
  let p68 : Bool := (p62 || p67)
  let x69 : S.law21_ValueLattice_L0 := (⟨false, r57, 0, a⟩ : S.law21_ValueLattice_L0)
  let y70 : Bool × S.law21_ValueLattice_L0 := S.law21_ValueLattice_L0_run x69
  let x71 : S.law21_ValueLattice_L2 := (⟨l, 0, y70.2.a⟩ : S.law21_ValueLattice_L2)
  let y72 : S.law21_ValueLattice_L2 := S.law21_ValueLattice_L2_run x71
  let x73 : S.law21_ValueLattice_L4 := (⟨y72.l, y70.2.t8, 0, y72.vx⟩ : S.law21_ValueLattice_L4)
  let y74 : Bool × S.law21_ValueLattice_L4 := S.law21_ValueLattice_L4_run x73
  let r75 : Bool := S.law21_works
  (bif b1 then r2 else (bif p34 then false else (bif p55 then false else (bif p68 then false else (bif y70.1 then y70.2.t8 else (bif y74.1 then y74.2.t8 else r75))))))
def S.law21_ValueLattice_pre (a : S.Value) (b : S.Value) (n : Int) (l : (List S.Value)) : Prop :=
  let b1 : Bool := decide ((l.length : Int) > 12)
  let r3 : S.Value := S.value_Join ([a, b] : List S.Value)
  let r4 : S.Value := S.value_Meet ([a, b] : List S.Value)
  let r5 : Bool := S.value_Value_Has a n
  let r6 : Bool := S.value_Value_Has b n
  let p7 : Bool := (r5 || r6)
  let r8 : Bool := S.value_Value_Has r3 n
  let b9 : Bool := !r8
  let p10 : Bool := (p7 && b9)
  let r11 : Bool := S.value_Value_Has a n
  let r12 : Bool := S.value_Value_Has b n
  let p13 : Bool := (r11 && r12)
  let r14 : Bool := S.value_Value_Has r4 n
  let b15 : Bool := !r14
  let p16 : Bool := (p13 && b15)
  let p17 : Bool := (p10 || p16)
  let r18 : Bool := S.value_Within a b
  let r19 : Bool := S.value_Value_Has a n
  let p20 : Bool := (r18 && r19)
  let r21 : Bool := S.value_Value_Has b n
  let b22 : Bool := !r21
  let p23 : Bool := (p20 && b22)
  let p24 : Bool := (p17 || p23)
  let r25 : Bool := S.value_Within a b
  let r26 : Bool := S.value_Same r3 b
  let b27 : Bool := !(r25 == r26)
  let p28 : Bool := (p24 || b27)
  let r29 : Bool := S.value_Within a r3
  let b30 : Bool := !r29
  let p31 : Bool := (p28 || b30)
  let r32 : Bool := S.value_Within r4 r3
  let b33 : Bool := !r32
  let p34 : Bool := (p31 || b33)
  let r35 : Bool := S.value_Same a b
  let r36 : Bool := S.value_Within a b
  let r37 : Bool := S.value_Within b a
  let p38 : Bool := (r36 && r37)
  let b39 : Bool := !(r35 == p38)
  let r40 : S.Value := S.value_Join ([b, a] : List S.Value)
  let r41 : Bool := S.value_Same r3 r40
  let b42 : Bool := !r41
  let p43 : Bool := (b39 || b42)
  let r44 : Bool := S.value_Value_Has a n
  let r45 : Bool := S.value_Value_Has b n
  let p46 : Bool := (r44 && r45)
  let r47 : S.Value := S.value_Narrow a b
  let r48 : Bool := S.value_Value_Has r47 n
  let b49 : Bool := !r48
  let p50 : Bool := (p46 && b49)
  let p51 : Bool := (p43 || p50)
  let r52 : S.Value := S.value_Widen a b
  let r53 : Bool := S.value_Within r3 r52
  let b54 : Bool := !r53
  let p55 : Bool := (p51 || b54)
  let r56 : Int × Bool := S.value_Value_Card a
  let r57 : (List Int) := S.value_Value_Some a 20
  let b58 : Bool := decide (r56.1 ≤ 20)
  let p59 : Bool := (r56.2 && b58)
  let t60 : Int := IntKind.i64.wrap r56.1
  let b61 : Bool := (r57.length : Int) != t60
  let p62 : Bool := (p59 && b61)
  let b63 : Bool := !r56.2
  let b64 : Bool := decide (r56.1 > 20)
  let p65 : Bool := (b63 || b64)
  let b66 : Bool := (r57.length : Int) != 20
  let p67 : Bool := (p65 && b66)
  let p68 : Bool := (p62 || p67)
  let x69 : S.law21_ValueLattice_L0 := (⟨false, r57, 0, a⟩ : S.law21_ValueLattice_L0)
  let y70 : Bool × S.law21_ValueLattice_L0 := S.law21_ValueLattice_L0_run x69
  let x71 : S.law21_ValueLattice_L2 := (⟨l, 0, y70.2.a⟩ : S.law21_ValueLattice_L2)
  let y72 : S.law21_ValueLattice_L2 := S.law21_ValueLattice_L2_run x71
  let x73 : S.law21_ValueLattice_L4 := (⟨y72.l, y70.2.t8, 0, y72.vx⟩ : S.law21_ValueLattice_L4)
  let y74 : Bool × S.law21_ValueLattice_L4 := S.law21_ValueLattice_L4_run x73
  ((b1 = true → (All [S.law21_works_pre] ∧ True)) ∧ (b1 = false → (All [S.value_Join_pre ([a, b] : List S.Value), S.value_Meet_pre ([a, b] : List S.Value), S.value_Value_Has_pre a n, (r5 = false → S.value_Value_Has_pre b n), (p7 = true → S.value_Value_Has_pre r3 n), (p10 = false → S.value_Value_Has_pre a n), (p10 = false → (r11 = true → S.value_Value_Has_pre b n)), (p10 = false → (p13 = true → S.value_Value_Has_pre r4 n)), (p17 = false → S.value_Within_pre a b), (p17 = false → (r18 = true → S.value_Value_Has_pre a n)), (p17 = false → (p20 = true → S.value_Value_Has_pre b n)), (p24 = false → S.value_Within_pre a b), (p24 = false → S.value_Same_pre r3 b), (p28 = false → S.value_Within_pre a r3), (p31 = false → S.value_Within_pre r4 r3)] ∧ ((p34 = true → True) ∧ (p34 = false → (All [S.value_Same_pre a b, S.value_Within_pre a b, (r36 = true → S.value_Within_pre b a), (b39 = false → S.value_Join_pre ([b, a] : List S.Value)), (b39 = false → S.value_Same_pre r3 r40), (p43 = false → S.value_Value_Has_pre a n), (p43 = false → (r44 = true → S.value_Value_Has_pre b n)), (p43 = false → (p46 = true → S.value_Narrow_pre a b)), (p43 = false → (p46 = true → S.value_Value_Has_pre r47 n)), (p51 = false → S.value_Widen_pre a b), (p51 = false → S.value_Within_pre r3 r52)] ∧ ((p55 = true → True) ∧ (p55 = false → (All [S.value_Value_Card_pre a, S.value_Value_Some_pre a 20] ∧ ((p68 = true → True) ∧ (p68 = false → (All [Runs S.law21_ValueLattice_L0_step S.law21_ValueLattice_L0_vcs x69 (S.law21_ValueLattice_L0_run x69)] ∧ ((y70.1 = true → True) ∧ (y70.1 = false → (All [Runs S.law21_ValueLattice_L2_step S.law21_ValueLattice_L2_vcs x71 (S.law21_ValueLattice_L2_run x71), Runs S.law21_ValueLattice_L4_step S.law21_ValueLattice_L4_vcs x73 (S.law21_ValueLattice_L4_run x73)] ∧ ((y74.1 = true → True) ∧ (y74.1 = false → (All [S.law21_works_pre] ∧ True))))))))))))))))))
@[ext] structure S.law21_ValueKnown_L2 where
  t0 : Bool
  ends : (List Int)
  mods : (List Int)
  i : Int
  k : Int
  l : (List S.Value)
noncomputable def S.law21_ValueKnown_L2_step (x : S.law21_ValueKnown_L2) : S.law21_ValueKnown_L2 ⊕ (Bool × S.law21_ValueKnown_L2) :=
  let b1 : Bool := decide (x.k < 7)
  let e2 : Int := x.ends.getD (Int.toNat x.i) 0
  let e3 : Int := x.ends.getD (Int.toNat x.k) 0
  let t4 : Int := IntKind.i64.wrap (x.i + x.k)
  let t5 : Int := Int.tmod t4 7
  let e6 : Int := x.mods.getD (Int.toNat t5) 0
  let t7 : Int := IntKind.u64.wrap x.i
  let t8 : Int := IntKind.i64.wrap (x.k * 9)
  let t9 : Int := IntKind.u64.wrap (t7 * 2 ^ min (Int.toNat t8) 64)
  let t10 : Int := IntKind.i64.wrap (x.i * x.k)
  let t11 : Int := Int.tmod t10 7
  let e12 : Int := x.ends.getD (Int.toNat t11) 0
  let r13 : Bool := S.law21_ValueTells (⟨e2, e3⟩ : S.Inter) (⟨e6, t9⟩ : S.Cong) e12 x.k
  let b14 : Bool := !r13
  let e15 : Int := x.mods.getD (Int.toNat x.k) 0
  let e16 : Int := x.ends.getD (Int.toNat x.i) 0
  let r17 : S.Cong := S.cong_Make e15 e16
  let e18 : Int := x.ends.getD (Int.toNat x.k) 0
  let r19 : Bool := S.law21_ValueTells (⟨e2, e3⟩ : S.Inter) r17 e18 9
  let b20 : Bool := !r19
  let p21 : Bool := (b14 || b20)
  let l22 : List S.Value := x.l ++ ([(⟨(⟨e2, e3⟩ : S.Inter), (⟨e6, t9⟩ : S.Cong)⟩ : S.Value)] : List S.Value)
  let t23 : Int := IntKind.i64.wrap (x.k + 1)
  (bif b1 then (bif p21 then (.inr ⟨true, ⟨false, x.ends, x.mods, x.i, x.k, x.l⟩⟩) else (.inl ⟨x.t0, x.ends, x.mods, x.i, t23, l22⟩)) else (.inr ⟨false, ⟨x.t0, x.ends, x.mods, x.i, x.k, x.l⟩⟩))
noncomputable def S.law21_ValueKnown_L2_vcs (x : S.law21_ValueKnown_L2) : Prop :=
  let b1 : Bool := decide (x.k < 7)
  let e2 : Int := x.ends.getD (Int.toNat x.i) 0
  let e3 : Int := x.ends.getD (Int.toNat x.k) 0
  let t4 : Int := IntKind.i64.wrap (x.i + x.k)
  let t5 : Int := Int.tmod t4 7
  let e6 : Int := x.mods.getD (Int.toNat t5) 0
  let t7 : Int := IntKind.u64.wrap x.i
  let t8 : Int := IntKind.i64.wrap (x.k * 9)
  let t9 : Int := IntKind.u64.wrap (t7 * 2 ^ min (Int.toNat t8) 64)
  let t10 : Int := IntKind.i64.wrap (x.i * x.k)
  let t11 : Int := Int.tmod t10 7
  let e12 : Int := x.ends.getD (Int.toNat t11) 0
  let r13 : Bool := S.law21_ValueTells (⟨e2, e3⟩ : S.Inter) (⟨e6, t9⟩ : S.Cong) e12 x.k
  let b14 : Bool := !r13
  let e15 : Int := x.mods.getD (Int.toNat x.k) 0
  let e16 : Int := x.ends.getD (Int.toNat x.i) 0
  let r17 : S.Cong := S.cong_Make e15 e16
  let e18 : Int := x.ends.getD (Int.toNat x.k) 0
  let r19 : Bool := S.law21_ValueTells (⟨e2, e3⟩ : S.Inter) r17 e18 9
  let b20 : Bool := !r19
  let p21 : Bool := (b14 || b20)
  ((b1 = true → (All [(0 : Int) ≤ x.i, x.i < (x.ends.length : Int), (0 : Int) ≤ x.k, x.k < (x.ends.length : Int), (0 : Int) ≤ t5, t5 < (x.mods.length : Int), (0 : Int) ≤ t8, (0 : Int) ≤ t11, t11 < (x.ends.length : Int), S.law21_ValueTells_pre (⟨e2, e3⟩ : S.Inter) (⟨e6, t9⟩ : S.Cong) e12 x.k, (b14 = false → ((0 : Int) ≤ x.k ∧ x.k < (x.mods.length : Int))), (b14 = false → ((0 : Int) ≤ x.i ∧ x.i < (x.ends.length : Int))), (b14 = false → S.cong_Make_pre e15 e16), (b14 = false → ((0 : Int) ≤ x.k ∧ x.k < (x.ends.length : Int))), (b14 = false → S.law21_ValueTells_pre (⟨e2, e3⟩ : S.Inter) r17 e18 9)] ∧ ((p21 = true → True) ∧ (p21 = false → (All [((x.l.length + ([(⟨(⟨e2, e3⟩ : S.Inter), (⟨e6, t9⟩ : S.Cong)⟩ : S.Value)] : List S.Value).length : Nat) : Int) * 32 ≤ 140737488355328] ∧ True))))) ∧ (b1 = false → True))
noncomputable def S.law21_ValueKnown_L2_run (x : S.law21_ValueKnown_L2) : Bool × S.law21_ValueKnown_L2 := theRun (fun x => ⟨true, x⟩) S.law21_ValueKnown_L2_step S.law21_ValueKnown_L2_vcs x
@[ext] structure S.law21_ValueKnown_L0 where
  t0 : Bool
  ends : (List Int)
  mods : (List Int)
  i : Int
  l : (List S.Value)
noncomputable def S.law21_ValueKnown_L0_step (x : S.law21_ValueKnown_L0) : S.law21_ValueKnown_L0 ⊕ (Bool × S.law21_ValueKnown_L0) :=
  let b1 : Bool := decide (x.i < 7)
  let x2 : S.law21_ValueKnown_L2 := (⟨x.t0, x.ends, x.mods, x.i, 0, x.l⟩ : S.law21_ValueKnown_L2)
  let y3 : Bool × S.law21_ValueKnown_L2 := S.law21_ValueKnown_L2_run x2
  let t4 : Int := IntKind.i64.wrap (y3.2.i + 1)
  (bif b1 then (bif y3.1 then (.inr ⟨true, ⟨y3.2.t0, y3.2.ends, y3.2.mods, y3.2.i, y3.2.l⟩⟩) else (.inl ⟨y3.2.t0, y3.2.ends, y3.2.mods, t4, y3.2.l⟩)) else (.inr ⟨false, ⟨x.t0, x.ends, x.mods, x.i, x.l⟩⟩))
noncomputable def S.law21_ValueKnown_L0_vcs (x : S.law21_ValueKnown_L0) : Prop :=
  let b1 : Bool := decide (x.i < 7)
  let x2 : S.law21_ValueKnown_L2 := (⟨x.t0, x.ends, x.mods, x.i, 0, x.l⟩ : S.law21_ValueKnown_L2)
  let y3 : Bool × S.law21_ValueKnown_L2 := S.law21_ValueKnown_L2_run x2
  ((b1 = true → (All [Runs S.law21_ValueKnown_L2_step S.law21_ValueKnown_L2_vcs x2 (S.law21_ValueKnown_L2_run x2)] ∧ ((y3.1 = true → True) ∧ (y3.1 = false → True)))) ∧ (b1 = false → True))
noncomputable def S.law21_ValueKnown_L0_run (x : S.law21_ValueKnown_L0) : Bool × S.law21_ValueKnown_L0 := theRun (fun x => ⟨true, x⟩) S.law21_ValueKnown_L0_step S.law21_ValueKnown_L0_vcs x
@[ext] structure S.law21_ValueKnown_L6 where
  t0 : Bool
  ends : (List Int)
  i : Int
  k : Int
  l195 : (List S.Value)
noncomputable def S.law21_ValueKnown_L6_step (x : S.law21_ValueKnown_L6) : S.law21_ValueKnown_L6 ⊕ (Bool × S.law21_ValueKnown_L6) :=
  let b1 : Bool := decide (x.k < (x.l195.length : Int))
  let t2 : Int := Int.tmod x.i 40
  let t3 : Int := Int.tmod x.i 40
  let t4 : Int := Int.tmod x.k 5
  let t5 : Int := IntKind.i64.wrap (t3 + t4)
  let l6 : (List S.Value) := (x.l195.take (Int.toNat t5)).drop (Int.toNat t2)
  let e7 : S.Value := x.l195.getD (Int.toNat x.i) (⟨(⟨0, 0⟩ : S.Inter), (⟨0, 0⟩ : S.Cong)⟩ : S.Value)
  let e8 : S.Value := x.l195.getD (Int.toNat x.k) (⟨(⟨0, 0⟩ : S.Inter), (⟨0, 0⟩ : S.Cong)⟩ : S.Value)
  let t9 : Int := Int.tmod x.k 7
  let l10 : (List Int) := (x.ends.take (Int.toNat t9)).drop (Int.toNat 0)
  let r11 : Bool := S.law21_ValueJoins l6 e7 e8 l10
  let b12 : Bool := !r11
  let t13 : Int := IntKind.i64.wrap (x.i + x.k)
  let t14 : Int := Int.tmod t13 5
  let b15 : Bool := t14 == 0
  let e16 : S.Value := x.l195.getD (Int.toNat x.i) (⟨(⟨0, 0⟩ : S.Inter), (⟨0, 0⟩ : S.Cong)⟩ : S.Value)
  let e17 : S.Value := x.l195.getD (Int.toNat x.k) (⟨(⟨0, 0⟩ : S.Inter), (⟨0, 0⟩ : S.Cong)⟩ : S.Value)
  let t18 : Int := IntKind.i64.wrap (x.i + x.k)
  let t19 : Int := Int.tmod t18 7
  let e20 : Int := x.ends.getD (Int.toNat t19) 0
  let t21 : Int := Int.tmod x.k 40
  let t22 : Int := Int.tmod x.k 40
  let t23 : Int := IntKind.i64.wrap (t22 + 4)
  let l24 : (List S.Value) := (x.l195.take (Int.toNat t23)).drop (Int.toNat t21)
  let r25 : Bool := S.law21_ValueLattice e16 e17 e20 l24
  let b26 : Bool := !r25
  let p27 : Bool := (b15 && b26)
  let p28 : Bool := (b12 || p27)
  let t29 : Int := IntKind.i64.wrap (x.k + 1)
  (bif b1 then (bif p28 then (.inr ⟨true, ⟨false, x.ends, x.i, x.k, x.l195⟩⟩) else (.inl ⟨x.t0, x.ends, x.i, t29, x.l195⟩)) else (.inr ⟨false, ⟨x.t0, x.ends, x.i, x.k, x.l195⟩⟩))
noncomputable def S.law21_ValueKnown_L6_vcs (x : S.law21_ValueKnown_L6) : Prop :=
  let b1 : Bool := decide (x.k < (x.l195.length : Int))
  let t2 : Int := Int.tmod x.i 40
  let t3 : Int := Int.tmod x.i 40
  let t4 : Int := Int.tmod x.k 5
  let t5 : Int := IntKind.i64.wrap (t3 + t4)
  let l6 : (List S.Value) := (x.l195.take (Int.toNat t5)).drop (Int.toNat t2)
  let e7 : S.Value := x.l195.getD (Int.toNat x.i) (⟨(⟨0, 0⟩ : S.Inter), (⟨0, 0⟩ : S.Cong)⟩ : S.Value)
  let e8 : S.Value := x.l195.getD (Int.toNat x.k) (⟨(⟨0, 0⟩ : S.Inter), (⟨0, 0⟩ : S.Cong)⟩ : S.Value)
  let t9 : Int := Int.tmod x.k 7
  let l10 : (List Int) := (x.ends.take (Int.toNat t9)).drop (Int.toNat 0)
  let r11 : Bool := S.law21_ValueJoins l6 e7 e8 l10
  let b12 : Bool := !r11
  let t13 : Int := IntKind.i64.wrap (x.i + x.k)
  let t14 : Int := Int.tmod t13 5
  let b15 : Bool := t14 == 0
  let e16 : S.Value := x.l195.getD (Int.toNat x.i) (⟨(⟨0, 0⟩ : S.Inter), (⟨0, 0⟩ : S.Cong)⟩ : S.Value)
  let e17 : S.Value := x.l195.getD (Int.toNat x.k) (⟨(⟨0, 0⟩ : S.Inter), (⟨0, 0⟩ : S.Cong)⟩ : S.Value)
  let t18 : Int := IntKind.i64.wrap (x.i + x.k)
  let t19 : Int := Int.tmod t18 7
  let e20 : Int := x.ends.getD (Int.toNat t19) 0
  let t21 : Int := Int.tmod x.k 40
  let t22 : Int := Int.tmod x.k 40
  let t23 : Int := IntKind.i64.wrap (t22 + 4)
  let l24 : (List S.Value) := (x.l195.take (Int.toNat t23)).drop (Int.toNat t21)
  let r25 : Bool := S.law21_ValueLattice e16 e17 e20 l24
  let b26 : Bool := !r25
  let p27 : Bool := (b15 && b26)
  let p28 : Bool := (b12 || p27)
  ((b1 = true → (All [(0 : Int) ≤ t2, t2 ≤ t5, t5 ≤ (x.l195.length : Int), (0 : Int) ≤ x.i, x.i < (x.l195.length : Int), (0 : Int) ≤ x.k, x.k < (x.l195.length : Int), (0 : Int) ≤ 0, (0 : Int) ≤ t9, t9 ≤ (x.ends.length : Int), S.law21_ValueJoins_pre l6 e7 e8 l10, (b12 = false → (b15 = true → ((0 : Int) ≤ x.i ∧ x.i < (x.l195.length : Int)))), (b12 = false → (b15 = true → ((0 : Int) ≤ x.k ∧ x.k < (x.l195.length : Int)))), (b12 = false → (b15 = true → ((0 : Int) ≤ t19 ∧ t19 < (x.ends.length : Int)))), (b12 = false → (b15 = true → ((0 : Int) ≤ t21 ∧ t21 ≤ t23 ∧ t23 ≤ (x.l195.length : Int)))), (b12 = false → (b15 = true → S.law21_ValueLattice_pre e16 e17 e20 l24))] ∧ ((p28 = true → True) ∧ (p28 = false → True)))) ∧ (b1 = false → True))
noncomputable def S.law21_ValueKnown_L6_run (x : S.law21_ValueKnown_L6) : Bool × S.law21_ValueKnown_L6 := theRun (fun x => ⟨true, x⟩) S.law21_ValueKnown_L6_step S.law21_ValueKnown_L6_vcs x
@[ext] structure S.law21_ValueKnown_L4 where
  t0 : Bool
  ends : (List Int)
  i : Int
  l195 : (List S.Value)
noncomputable def S.law21_ValueKnown_L4_step (x : S.law21_ValueKnown_L4) : S.law21_ValueKnown_L4 ⊕ (Bool × S.law21_ValueKnown_L4) :=
  let b1 : Bool := decide (x.i < (x.l195.length : Int))
  let x2 : S.law21_ValueKnown_L6 := (⟨x.t0, x.ends, x.i, 0, x.l195⟩ : S.law21_ValueKnown_L6)
  let y3 : Bool × S.law21_ValueKnown_L6 := S.law21_ValueKnown_L6_run x2
  let t4 : Int := IntKind.i64.wrap (y3.2.i + 1)
  (bif b1 then (bif y3.1 then (.inr ⟨true, ⟨y3.2.t0, y3.2.ends, y3.2.i, y3.2.l195⟩⟩) else (.inl ⟨y3.2.t0, y3.2.ends, t4, y3.2.l195⟩)) else (.inr ⟨false, ⟨x.t0, x.ends, x.i, x.l195⟩⟩))
noncomputable def S.law21_ValueKnown_L4_vcs (x : S.law21_ValueKnown_L4) : Prop :=
  let b1 : Bool := decide (x.i < (x.l195.length : Int))
  let x2 : S.law21_ValueKnown_L6 := (⟨x.t0, x.ends, x.i, 0, x.l195⟩ : S.law21_ValueKnown_L6)
  let y3 : Bool × S.law21_ValueKnown_L6 := S.law21_ValueKnown_L6_run x2
  ((b1 = true → (All [Runs S.law21_ValueKnown_L6_step S.law21_ValueKnown_L6_vcs x2 (S.law21_ValueKnown_L6_run x2)] ∧ ((y3.1 = true → True) ∧ (y3.1 = false → True)))) ∧ (b1 = false → True))
noncomputable def S.law21_ValueKnown_L4_run (x : S.law21_ValueKnown_L4) : Bool × S.law21_ValueKnown_L4 := theRun (fun x => ⟨true, x⟩) S.law21_ValueKnown_L4_step S.law21_ValueKnown_L4_vcs x
@[ext] structure S.law21_ValueKnown_L10 where
  vset : Int
  i : Int
  numbers : (List Int)
def S.law21_ValueKnown_L10_step (x : S.law21_ValueKnown_L10) : S.law21_ValueKnown_L10 ⊕ (S.law21_ValueKnown_L10) :=
  let b1 : Bool := decide (x.i < 8)
  let t2 : Int := Int.fdiv x.vset (2 ^ min (Int.toNat x.i) 64)
  let t3 : Int := Int.tmod t2 2
  let b4 : Bool := t3 == 1
  let t5 : Int := IntKind.i64.wrap (x.i * 5)
  let t6 : Int := Int.tmod t5 8
  let l7 : List Int := x.numbers ++ ([t6] : List Int)
  let t8 : Int := IntKind.i64.wrap (x.i + 1)
  (bif b1 then (.inl ⟨x.vset, t8, (bif b4 then l7 else x.numbers)⟩) else (.inr ⟨x.vset, x.i, x.numbers⟩))
def S.law21_ValueKnown_L10_vcs (x : S.law21_ValueKnown_L10) : Prop :=
  let b1 : Bool := decide (x.i < 8)
  let t2 : Int := Int.fdiv x.vset (2 ^ min (Int.toNat x.i) 64)
  let t3 : Int := Int.tmod t2 2
  let b4 : Bool := t3 == 1
  let t5 : Int := IntKind.i64.wrap (x.i * 5)
  let t6 : Int := Int.tmod t5 8
  ((b1 = true → (All [(0 : Int) ≤ x.i, (b4 = true → ((x.numbers.length + ([t6] : List Int).length : Nat) : Int) * 8 ≤ 140737488355328)] ∧ True)) ∧ (b1 = false → True))
noncomputable def S.law21_ValueKnown_L10_run (x : S.law21_ValueKnown_L10) : S.law21_ValueKnown_L10 := theRun (fun x => x) S.law21_ValueKnown_L10_step S.law21_ValueKnown_L10_vcs x
@[ext] structure S.law21_ValueKnown_L8 where
  t0 : Bool
  vset : Int
noncomputable def S.law21_ValueKnown_L8_step (x : S.law21_ValueKnown_L8) : S.law21_ValueKnown_L8 ⊕ (Bool × S.law21_ValueKnown_L8) :=
  let b1 : Bool := decide (x.vset < 256)
  let x2 : S.law21_ValueKnown_L10 := (⟨x.vset, 0, ([] : List Int)⟩ : S.law21_ValueKnown_L10)
  let y3 : S.law21_ValueKnown_L10 := S.law21_ValueKnown_L10_run x2
  let r4 : S.Value := S.value_Of y3.numbers
  let t5 : Int := IntKind.i64.wrap (Int.tdiv (y3.numbers.length : Int) 2)
  let l6 : (List Int) := (y3.numbers.take (Int.toNat t5)).drop (Int.toNat 0)
  let r7 : S.Value := S.value_Of l6
  let r8 : S.Value := S.value_One 9
  let r9 : Bool := S.law21_ValueLattice r4 r7 3 ([r4, r8] : List S.Value)
  let b10 : Bool := !r9
  let r11 : S.Value := S.value_Range 1 6
  let r12 : Bool := S.law21_ValueJoins ([] : List S.Value) r4 r11 y3.numbers
  let b13 : Bool := !r12
  let p14 : Bool := (b10 || b13)
  let t15 : Int := IntKind.i64.wrap (y3.vset + 1)
  (bif b1 then (bif p14 then (.inr ⟨true, ⟨false, y3.vset⟩⟩) else (.inl ⟨x.t0, t15⟩)) else (.inr ⟨false, ⟨x.t0, x.vset⟩⟩))
noncomputable def S.law21_ValueKnown_L8_vcs (x : S.law21_ValueKnown_L8) : Prop :=
  let b1 : Bool := decide (x.vset < 256)
  let x2 : S.law21_ValueKnown_L10 := (⟨x.vset, 0, ([] : List Int)⟩ : S.law21_ValueKnown_L10)
  let y3 : S.law21_ValueKnown_L10 := S.law21_ValueKnown_L10_run x2
  let r4 : S.Value := S.value_Of y3.numbers
  let t5 : Int := IntKind.i64.wrap (Int.tdiv (y3.numbers.length : Int) 2)
  let l6 : (List Int) := (y3.numbers.take (Int.toNat t5)).drop (Int.toNat 0)
  let r7 : S.Value := S.value_Of l6
  let r8 : S.Value := S.value_One 9
  let r9 : Bool := S.law21_ValueLattice r4 r7 3 ([r4, r8] : List S.Value)
  let b10 : Bool := !r9
  let r11 : S.Value := S.value_Range 1 6
  let r12 : Bool := S.law21_ValueJoins ([] : List S.Value) r4 r11 y3.numbers
  let b13 : Bool := !r12
  let p14 : Bool := (b10 || b13)
  ((b1 = true → (All [Runs S.law21_ValueKnown_L10_step S.law21_ValueKnown_L10_vcs x2 (S.law21_ValueKnown_L10_run x2), S.value_Of_pre y3.numbers, (0 : Int) ≤ 0, (0 : Int) ≤ t5, t5 ≤ (y3.numbers.length : Int), S.value_Of_pre l6, S.law21_ValueLattice_pre r4 r7 3 ([r4, r8] : List S.Value), (b10 = false → S.value_Range_pre 1 6), (b10 = false → S.law21_ValueJoins_pre ([] : List S.Value) r4 r11 y3.numbers)] ∧ ((p14 = true → True) ∧ (p14 = false → True)))) ∧ (b1 = false → True))
noncomputable def S.law21_ValueKnown_L8_run (x : S.law21_ValueKnown_L8) : Bool × S.law21_ValueKnown_L8 := theRun (fun x => ⟨true, x⟩) S.law21_ValueKnown_L8_step S.law21_ValueKnown_L8_vcs x
/-- sieveholeslaw21.ValueKnown -/
noncomputable def S.law21_ValueKnown : Bool :=
  let x1 : S.law21_ValueKnown_L0 := (⟨false, ([(-9223372036854775808), (-9223372036854775807), (-3), 0, 1, 6, 9223372036854775807] : List Int), ([0, 1, 2, 3, 6, 9223372036854775808, 18446744073709551615] : List Int), 0, ([] : List S.Value)⟩ : S.law21_ValueKnown_L0)
  let y2 : Bool × S.law21_ValueKnown_L0 := S.law21_ValueKnown_L0_run x1
  let x3 : S.law21_ValueKnown_L4 := (⟨y2.2.t0, y2.2.ends, 0, y2.2.l⟩ : S.law21_ValueKnown_L4)
  let y4 : Bool × S.law21_ValueKnown_L4 := S.law21_ValueKnown_L4_run x3
  let x5 : S.law21_ValueKnown_L8 := (⟨y4.2.t0, 0⟩ : S.law21_ValueKnown_L8)
  let y6 : Bool × S.law21_ValueKnown_L8 := S.law21_ValueKnown_L8_run x5
  let r7 : Bool := S.law21_works
  (bif y2.1 then y2.2.t0 else (bif y4.1 then y4.2.t0 else (bif y6.1 then y6.2.t0 else r7)))
def S.law21_ValueKnown_pre : Prop :=
  let x1 : S.law21_ValueKnown_L0 := (⟨false, ([(-9223372036854775808), (-9223372036854775807), (-3), 0, 1, 6, 9223372036854775807] : List Int), ([0, 1, 2, 3, 6, 9223372036854775808, 18446744073709551615] : List Int), 0, ([] : List S.Value)⟩ : S.law21_ValueKnown_L0)
  let y2 : Bool × S.law21_ValueKnown_L0 := S.law21_ValueKnown_L0_run x1
  let x3 : S.law21_ValueKnown_L4 := (⟨y2.2.t0, y2.2.ends, 0, y2.2.l⟩ : S.law21_ValueKnown_L4)
  let y4 : Bool × S.law21_ValueKnown_L4 := S.law21_ValueKnown_L4_run x3
  let x5 : S.law21_ValueKnown_L8 := (⟨y4.2.t0, 0⟩ : S.law21_ValueKnown_L8)
  let y6 : Bool × S.law21_ValueKnown_L8 := S.law21_ValueKnown_L8_run x5
  (All [Runs S.law21_ValueKnown_L0_step S.law21_ValueKnown_L0_vcs x1 (S.law21_ValueKnown_L0_run x1)] ∧ ((y2.1 = true → True) ∧ (y2.1 = false → (All [Runs S.law21_ValueKnown_L4_step S.law21_ValueKnown_L4_vcs x3 (S.law21_ValueKnown_L4_run x3)] ∧ ((y4.1 = true → True) ∧ (y4.1 = false → (All [Runs S.law21_ValueKnown_L8_step S.law21_ValueKnown_L8_vcs x5 (S.law21_ValueKnown_L8_run x5)] ∧ ((y6.1 = true → True) ∧ (y6.1 = false → (All [S.law21_works_pre] ∧ True))))))))))
