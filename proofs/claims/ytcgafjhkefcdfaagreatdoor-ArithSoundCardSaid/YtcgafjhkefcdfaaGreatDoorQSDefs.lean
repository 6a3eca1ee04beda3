/-
  Printed by a program for this claim: functions of the code as plain functions, and that the code comes to them. Conditions: those that each theorem states.
-/
import Derived.Test.YtcgafjhkefcdfaaGreatDoorVm16
set_option linter.all false
open Go Vm
@[ext] structure S.Cong where
  M : Int
  R : Int
@[ext] structure S.Inter where
  Lo : Int
  Hi : Int
@[ext] structure S.Value where
  I : S.Inter
  C : S.Cong
def S.Inter.ok (x : S.Inter) : Prop := (inr .i64 x.Lo) ∧ (inr .i64 x.Hi) ∧ True
def S.Cong.ok (x : S.Cong) : Prop := (inr .u64 x.M) ∧ (inr .u64 x.R) ∧ True
def S.Value.ok (x : S.Value) : Prop := (S.Inter.ok x.I) ∧ (S.Cong.ok x.C) ∧ True
/-- (cong.Cong).single -/
def S.cong_Cong_single (c : S.Cong) : Bool :=
  let b1 : Bool := c.M == 0
  b1
/-- (cong.Cong).Right -/
def S.cong_Cong_Right (c : S.Cong) : Bool :=
  let r1 : Bool := S.cong_Cong_single c
  let b2 : Bool := decide (c.R < c.M)
  let p3 : Bool := (r1 || b2)
  p3
/-- (cong.Cong).number -/
def S.cong_Cong_number (c : S.Cong) : Int :=
  let t1 : Int := IntKind.i64.wrap c.R
  t1
/-- (cong.Cong).number0 -/
def S.cong_Cong_number0 (c : S.Cong) (ok : Bool) : Int × Bool :=
  let b1 : Bool := !ok
  let r2 : Int := S.cong_Cong_number c
  (bif b1 then (0, false) else (r2, true))
/-- cong.rest -/
def S.cong_rest (n : Int) (m : Int) : Int :=
  let b1 : Bool := decide (n < 0)
  let t2 : Int := IntKind.u64.wrap (m - 1)
  let t3 : Int := IntKind.u64.wrap n
  let t4 : Int := bits .xor .u64 (if IntKind.u64.signed then -1 else IntKind.u64.max) t3
  let t5 : Int := Int.tmod t4 m
  let t6 : Int := IntKind.u64.wrap (t2 - t5)
  let t7 : Int := IntKind.u64.wrap n
  let t8 : Int := Int.tmod t7 m
  (bif b1 then t6 else t8)
def S.cong_rest_pre (n : Int) (m : Int) : Prop :=
  let b1 : Bool := decide (n < 0)
  ((b1 = true → (All [m ≠ 0] ∧ True)) ∧ (b1 = false → (All [m ≠ 0] ∧ True)))
/-- math/bits.Add64 -/
def S.math_bits_Add64 (x y c : Int) : Int × Int := ((x + y + c) % 18446744073709551616, (x + y + c) / 18446744073709551616)
def S.math_bits_Add64_pre (x y c : Int) : Prop := 0 ≤ x ∧ 0 ≤ y ∧ 0 ≤ c ∧ c ≤ 1
/-- cong.plus -/
def S.cong_plus (a : Int) (b : Int) (m : Int) : Int :=
  let r1 : Int × Int := S.math_bits_Add64 a b 0
  let b2 : Bool := decide (r1.2 > 0)
  let b3 : Bool := decide (r1.1 ≥ m)
  let p4 : Bool := (b2 || b3)
  let t5 : Int := IntKind.u64.wrap (r1.1 - m)
  (bif p4 then t5 else r1.1)
def S.cong_plus_pre (a : Int) (b : Int) (m : Int) : Prop :=
  (All [S.math_bits_Add64_pre a b 0] ∧ True)
/-- (cong.Cong).Least -/
def S.cong_Cong_Least (c : S.Cong) (a1 : Int) : Int × Bool :=
  let r1 : Bool := S.cong_Cong_single c
  let r2 : Int := S.cong_Cong_number c
  let b3 : Bool := decide (r2 ≥ a1)
  let r4 : Int × Bool := S.cong_Cong_number0 c b3
  let r5 : Int := S.cong_rest a1 c.M
  let t6 : Int := IntKind.u64.wrap (c.M - r5)
  let t7 : Int := Int.tmod t6 c.M
  let r8 : Int := S.cong_plus c.R t7 c.M
  let t9 : Int := IntKind.u64.wrap a1
  let t10 : Int := IntKind.u64.wrap (9223372036854775807 - t9)
  let b11 : Bool := decide (r8 > t10)
  let t12 : Int := IntKind.i64.wrap r8
  let t13 : Int := IntKind.i64.wrap (a1 + t12)
  (bif r1 then (r4.1, r4.2) else (bif b11 then (0, false) else (t13, true)))
def S.cong_Cong_Least_pre (c : S.Cong) (a1 : Int) : Prop :=
  let r1 : Bool := S.cong_Cong_single c
  let r5 : Int := S.cong_rest a1 c.M
  let t6 : Int := IntKind.u64.wrap (c.M - r5)
  let t7 : Int := Int.tmod t6 c.M
  let r8 : Int := S.cong_plus c.R t7 c.M
  let t9 : Int := IntKind.u64.wrap a1
  let t10 : Int := IntKind.u64.wrap (9223372036854775807 - t9)
  let b11 : Bool := decide (r8 > t10)
  ((r1 = true → True) ∧ (r1 = false → (All [S.cong_rest_pre a1 c.M, c.M ≠ 0, S.cong_plus_pre c.R t7 c.M] ∧ ((b11 = true → True) ∧ (b11 = false → True)))))
/-- (cong.Cong).Greatest -/
def S.cong_Cong_Greatest (c : S.Cong) (to : Int) : Int × Bool :=
  let r1 : Bool := S.cong_Cong_single c
  let r2 : Int := S.cong_Cong_number c
  let b3 : Bool := decide (r2 ≤ to)
  let r4 : Int × Bool := S.cong_Cong_number0 c b3
  let r5 : Int := S.cong_rest to c.M
  let t6 : Int := IntKind.u64.wrap (c.M - c.R)
  let t7 : Int := Int.tmod t6 c.M
  let r8 : Int := S.cong_plus r5 t7 c.M
  let t9 : Int := IntKind.u64.wrap to
  let t10 : Int := IntKind.u64.wrap (t9 + 9223372036854775808)
  let b11 : Bool := decide (r8 > t10)
  let t12 : Int := IntKind.i64.wrap r8
  let t13 : Int := IntKind.i64.wrap (to - t12)
  (bif r1 then (r4.1, r4.2) else (bif b11 then (0, false) else (t13, true)))
def S.cong_Cong_Greatest_pre (c : S.Cong) (to : Int) : Prop :=
  let r1 : Bool := S.cong_Cong_single c
  let r5 : Int := S.cong_rest to c.M
  let t6 : Int := IntKind.u64.wrap (c.M - c.R)
  let t7 : Int := Int.tmod t6 c.M
  let r8 : Int := S.cong_plus r5 t7 c.M
  let t9 : Int := IntKind.u64.wrap to
  let t10 : Int := IntKind.u64.wrap (t9 + 9223372036854775808)
  let b11 : Bool := decide (r8 > t10)
  ((r1 = true → True) ∧ (r1 = false → (All [S.cong_rest_pre to c.M, c.M ≠ 0, S.cong_plus_pre r5 t7 c.M] ∧ ((b11 = true → True) ∧ (b11 = false → True)))))
/-- inter.Empty -/
def S.inter_Empty : S.Inter :=
  (⟨1, 0⟩ : S.Inter)
/-- inter.Of -/
def S.inter_Of (lo : Int) (hi : Int) : S.Inter :=
  let b1 : Bool := decide (lo > hi)
  let r2 : S.Inter := S.inter_Empty
  (bif b1 then r2 else (⟨lo, hi⟩ : S.Inter))
/-- (inter.Inter).plain -/
def S.inter_Inter_plain (i : S.Inter) : S.Inter :=
  let r1 : S.Inter := S.inter_Of i.Lo i.Hi
  r1
/-- (inter.Inter).IsEmpty -/
def S.inter_Inter_IsEmpty (i : S.Inter) : Bool :=
  let r1 : S.Inter := S.inter_Inter_plain i
  let r2 : S.Inter := S.inter_Empty
  let b3 : Bool := ((r1.Lo == r2.Lo) && (r1.Hi == r2.Hi))
  b3
/-- cong.Top -/
def S.cong_Top : S.Cong :=
  (⟨1, 0⟩ : S.Cong)
/-- value.Bottom -/
def S.value_Bottom : S.Value :=
  let r1 : S.Inter := S.inter_Empty
  let r2 : S.Cong := S.cong_Top
  (⟨r1, r2⟩ : S.Value)
/-- inter.One -/
def S.inter_One (n : Int) : S.Inter :=
  (⟨n, n⟩ : S.Inter)
/-- cong.Const -/
def S.cong_Const (n : Int) : S.Cong :=
  let t1 : Int := IntKind.u64.wrap n
  (⟨0, t1⟩ : S.Cong)
/-- value.One -/
def S.value_One (n : Int) : S.Value :=
  let r1 : S.Inter := S.inter_One n
  let r2 : S.Cong := S.cong_Const n
  (⟨r1, r2⟩ : S.Value)
/-- value.Make -/
def S.value_Make (i : S.Inter) (c : S.Cong) : S.Value :=
  let r1 : Bool := S.cong_Cong_Right c
  let b2 : Bool := !r1
  let t3 : Int := Int.tmod c.R c.M
  let r4 : Int × Bool := S.cong_Cong_Least (⟨c.M, (bif b2 then t3 else c.R)⟩ : S.Cong) i.Lo
  let r5 : Int × Bool := S.cong_Cong_Greatest (⟨c.M, (bif b2 then t3 else c.R)⟩ : S.Cong) i.Hi
  let r6 : Bool := S.inter_Inter_IsEmpty i
  let b7 : Bool := !r4.2
  let p8 : Bool := (r6 || b7)
  let b9 : Bool := !r5.2
  let p10 : Bool := (p8 || b9)
  let b11 : Bool := decide (r4.1 > r5.1)
  let p12 : Bool := (p10 || b11)
  let r13 : S.Value := S.value_Bottom
  let b14 : Bool := r4.1 == r5.1
  let r15 : S.Value := S.value_One r4.1
  let r16 : S.Inter := S.inter_Of r4.1 r5.1
  (bif p12 then r13 else (bif b14 then r15 else (⟨r16, (⟨c.M, (bif b2 then t3 else c.R)⟩ : S.Cong)⟩ : S.Value)))
def S.value_Make_pre (i : S.Inter) (c : S.Cong) : Prop :=
  let r1 : Bool := S.cong_Cong_Right c
  let b2 : Bool := !r1
  let t3 : Int := Int.tmod c.R c.M
  let r4 : Int × Bool := S.cong_Cong_Least (⟨c.M, (bif b2 then t3 else c.R)⟩ : S.Cong) i.Lo
  let r5 : Int × Bool := S.cong_Cong_Greatest (⟨c.M, (bif b2 then t3 else c.R)⟩ : S.Cong) i.Hi
  let r6 : Bool := S.inter_Inter_IsEmpty i
  let b7 : Bool := !r4.2
  let p8 : Bool := (r6 || b7)
  let b9 : Bool := !r5.2
  let p10 : Bool := (p8 || b9)
  let b11 : Bool := decide (r4.1 > r5.1)
  let p12 : Bool := (p10 || b11)
  let b14 : Bool := r4.1 == r5.1
  (All [(b2 = true → c.M ≠ 0), S.cong_Cong_Least_pre (⟨c.M, (bif b2 then t3 else c.R)⟩ : S.Cong) i.Lo, S.cong_Cong_Greatest_pre (⟨c.M, (bif b2 then t3 else c.R)⟩ : S.Cong) i.Hi] ∧ ((p12 = true → True) ∧ (p12 = false → ((b14 = true → True) ∧ (b14 = false → True)))))
/-- (value.Value).reduced -/
def S.value_Value_reduced (v : S.Value) : S.Value :=
  let r1 : S.Value := S.value_Make v.I v.C
  r1
def S.value_Value_reduced_pre (v : S.Value) : Prop :=
  (All [S.value_Make_pre v.I v.C] ∧ True)
/-- (value.Value).IsBottom -/
def S.value_Value_IsBottom (v : S.Value) : Bool :=
  let r1 : S.Value := S.value_Value_reduced v
  let r2 : S.Value := S.value_Bottom
  let b3 : Bool := ((r1.I.Lo == r2.I.Lo) && ((r1.I.Hi == r2.I.Hi) && ((r1.C.M == r2.C.M) && (r1.C.R == r2.C.R))))
  b3
def S.value_Value_IsBottom_pre (v : S.Value) : Prop :=
  (All [S.value_Value_reduced_pre v] ∧ True)
/-- (inter.Inter).Has -/
def S.inter_Inter_Has (i : S.Inter) (n : Int) : Bool :=
  let b1 : Bool := decide (i.Lo ≤ n)
  let b2 : Bool := decide (n ≤ i.Hi)
  let p3 : Bool := (b1 && b2)
  p3
/-- inter.Within -/
def S.inter_Within (a : S.Inter) (b : S.Inter) : Bool :=
  let r1 : Bool := S.inter_Inter_IsEmpty a
  let r2 : Bool := S.inter_Inter_Has b a.Lo
  let r3 : Bool := S.inter_Inter_Has b a.Hi
  let p4 : Bool := (r2 && r3)
  let p5 : Bool := (r1 || p4)
  p5
/-- (cong.Cong).by -/
def S.cong_Cong_by (c : S.Cong) (g : Int) : Int :=
  let r1 : Bool := S.cong_Cong_single c
  let r2 : Int := S.cong_Cong_number c
  let r3 : Int := S.cong_rest r2 g
  let t4 : Int := Int.tmod c.R g
  (bif r1 then r3 else t4)
def S.cong_Cong_by_pre (c : S.Cong) (g : Int) : Prop :=
  let r1 : Bool := S.cong_Cong_single c
  let r2 : Int := S.cong_Cong_number c
  ((r1 = true → (All [S.cong_rest_pre r2 g] ∧ True)) ∧ (r1 = false → (All [g ≠ 0] ∧ True)))
/-- cong.Within -/
def S.cong_Within (a : S.Cong) (b : S.Cong) : Bool :=
  let r1 : Bool := S.cong_Cong_single b
  let b2 : Bool := ((a.M == b.M) && (a.R == b.R))
  let t3 : Int := Int.tmod a.M b.M
  let b4 : Bool := t3 == 0
  let r5 : Int := S.cong_Cong_by a b.M
  let b6 : Bool := r5 == b.R
  let p7 : Bool := (b4 && b6)
  (bif r1 then b2 else p7)
def S.cong_Within_pre (a : S.Cong) (b : S.Cong) : Prop :=
  let r1 : Bool := S.cong_Cong_single b
  let t3 : Int := Int.tmod a.M b.M
  let b4 : Bool := t3 == 0
  ((r1 = true → True) ∧ (r1 = false → (All [b.M ≠ 0, (b4 = true → S.cong_Cong_by_pre a b.M)] ∧ True)))
/-- value.Within -/
def S.value_Within (a : S.Value) (b : S.Value) : Bool :=
  let r1 : S.Value := S.value_Value_reduced a
  let r2 : S.Value := S.value_Value_reduced b
  let r3 : S.Value := S.value_Bottom
  let b4 : Bool := ((r1.I.Lo == r3.I.Lo) && ((r1.I.Hi == r3.I.Hi) && ((r1.C.M == r3.C.M) && (r1.C.R == r3.C.R))))
  let r5 : Bool := S.inter_Within r1.I r2.I
  let r6 : Bool := S.cong_Within r1.C r2.C
  let p7 : Bool := (r5 && r6)
  let p8 : Bool := (b4 || p7)
  p8
def S.value_Within_pre (a : S.Value) (b : S.Value) : Prop :=
  let r1 : S.Value := S.value_Value_reduced a
  let r2 : S.Value := S.value_Value_reduced b
  let r3 : S.Value := S.value_Bottom
  let b4 : Bool := ((r1.I.Lo == r3.I.Lo) && ((r1.I.Hi == r3.I.Hi) && ((r1.C.M == r3.C.M) && (r1.C.R == r3.C.R))))
  let r5 : Bool := S.inter_Within r1.I r2.I
  (All [S.value_Value_reduced_pre a, S.value_Value_reduced_pre b, (b4 = false → (r5 = true → S.cong_Within_pre r1.C r2.C))] ∧ True)
/-- (value.Value).Has -/
def S.value_Value_Has (v : S.Value) (n : Int) : Bool :=
  let r1 : S.Value := S.value_One n
  let r2 : Bool := S.value_Within r1 v
  r2
def S.value_Value_Has_pre (v : S.Value) (n : Int) : Prop :=
  let r1 : S.Value := S.value_One n
  (All [S.value_Within_pre r1 v] ∧ True)
/-- sieveholeslaw22.near -/
def S.law22_near (v : S.Value) (n : Int) : Int × Bool :=
  let r1 : S.Value := S.value_Make v.I v.C
  let r2 : Bool := S.value_Value_IsBottom r1
  let m3 : Int := if r1.I.Lo > n then r1.I.Lo else n
  let m4 : Int := if r1.I.Hi < m3 then r1.I.Hi else m3
  let r5 : Int × Bool := S.cong_Cong_Least r1.C m4
  let b6 : Bool := !r5.2
  let b7 : Bool := decide (r5.1 > r1.I.Hi)
  let p8 : Bool := (b6 || b7)
  let r9 : Bool := S.value_Value_Has r1 (bif p8 then r1.I.Lo else r5.1)
  let r10 : Bool := S.value_Value_Has v (bif p8 then r1.I.Lo else r5.1)
  let p11 : Bool := (r9 && r10)
  (bif r2 then (0, false) else ((bif p8 then r1.I.Lo else r5.1), p11))
def S.law22_near_pre (v : S.Value) (n : Int) : Prop :=
  let r1 : S.Value := S.value_Make v.I v.C
  let r2 : Bool := S.value_Value_IsBottom r1
  let m3 : Int := if r1.I.Lo > n then r1.I.Lo else n
  let m4 : Int := if r1.I.Hi < m3 then r1.I.Hi else m3
  let r5 : Int × Bool := S.cong_Cong_Least r1.C m4
  let b6 : Bool := !r5.2
  let b7 : Bool := decide (r5.1 > r1.I.Hi)
  let p8 : Bool := (b6 || b7)
  let r9 : Bool := S.value_Value_Has r1 (bif p8 then r1.I.Lo else r5.1)
  (All [S.value_Make_pre v.I v.C, S.value_Value_IsBottom_pre r1] ∧ ((r2 = true → True) ∧ (r2 = false → (All [S.cong_Cong_Least_pre r1.C m4, S.value_Value_Has_pre r1 (bif p8 then r1.I.Lo else r5.1), (r9 = true → S.value_Value_Has_pre v (bif p8 then r1.I.Lo else r5.1))] ∧ True))))
/-- cong.Make -/
def S.cong_Make (m : Int) (n : Int) : S.Cong :=
  let b1 : Bool := m == 0
  let r2 : S.Cong := S.cong_Const n
  let r3 : Int := S.cong_rest n m
  (bif b1 then r2 else (⟨m, r3⟩ : S.Cong))
def S.cong_Make_pre (m : Int) (n : Int) : Prop :=
  let b1 : Bool := m == 0
  ((b1 = true → True) ∧ (b1 = false → (All [S.cong_rest_pre n m] ∧ True)))
/-- arith.plain -/
def S.arith_plain (v : S.Value) : S.Value :=
  let r1 : S.Value := S.value_Make v.I v.C
  r1
def S.arith_plain_pre (v : S.Value) : Prop :=
  (All [S.value_Make_pre v.I v.C] ∧ True)
/-- (inter.Inter).Single -/
def S.inter_Inter_Single (i : S.Inter) : Int × Bool :=
  let r1 : S.Inter := S.inter_One i.Lo
  let b2 : Bool := !((i.Lo == r1.Lo) && (i.Hi == r1.Hi))
  (bif b2 then (0, false) else (i.Lo, true))
/-- (value.Value).Single -/
def S.value_Value_Single (v : S.Value) : Int × Bool :=
  let r1 : S.Value := S.value_Value_reduced v
  let r2 : Int × Bool := S.inter_Inter_Single r1.I
  (r2.1, r2.2)
def S.value_Value_Single_pre (v : S.Value) : Prop :=
  (All [S.value_Value_reduced_pre v] ∧ True)
/-- arith.known -/
def S.arith_known (op : Int) : Bool :=
  let b1 : Bool := op == 13
  let b2 : Bool := op == 14
  let p3 : Bool := (b1 || b2)
  let b4 : Bool := op == 15
  let p5 : Bool := (p3 || b4)
  p5
/-- inter.Whole -/
def S.inter_Whole : S.Inter :=
  (⟨(-9223372036854775808), 9223372036854775807⟩ : S.Inter)
/-- value.Top -/
def S.value_Top : S.Value :=
  let r1 : S.Inter := S.inter_Whole
  let r2 : S.Cong := S.cong_Top
  (⟨r1, r2⟩ : S.Value)
/-- cmp.isNaN[int64] -/
def S.cmp_isNaNint64 (x : Int) : Bool :=
  let b1 : Bool := x != x
  b1
/-- cmp.Compare[int64] -/
def S.cmp_Compareint64 (x : Int) (y : Int) : Int :=
  let r1 : Bool := S.cmp_isNaNint64 x
  let r2 : Bool := S.cmp_isNaNint64 y
  let b3 : Bool := decide (x < y)
  let b4 : Bool := decide (x > y)
  (bif r1 then (bif r2 then 0 else (-1)) else (bif r2 then 1 else (bif b3 then (-1) else (bif b4 then 1 else 0))))
/-- word.compares -/
def S.word_compares (op : Int) (a : Int) (b : Int) : Bool × Bool :=
  let r1 : Int := S.cmp_Compareint64 a b
  let b2 : Bool := op == 3
  let b3 : Bool := op == 2
  let b4 : Bool := op == 7
  let b5 : Bool := op == 4
  let b6 : Bool := op == 5
  let b7 : Bool := op == 6
  let b8 : Bool := r1 == 0
  let b9 : Bool := !(b8 == true)
  let b10 : Bool := r1 == 0
  let b11 : Bool := !(b10 == false)
  let b12 : Bool := decide (r1 < 0)
  let b13 : Bool := !(b12 == true)
  let b14 : Bool := decide (r1 < 0)
  let b15 : Bool := !(b14 == false)
  let b16 : Bool := decide (r1 > 0)
  let b17 : Bool := !(b16 == true)
  let b18 : Bool := decide (r1 > 0)
  let b19 : Bool := !(b18 == false)
  (bif b2 then (b9, true) else (bif b3 then (b11, true) else (bif b4 then (b13, true) else (bif b5 then (b15, true) else (bif b6 then (b17, true) else (bif b7 then (b19, true) else (false, false)))))))
/-- word.Bit -/
def S.word_Bit (x : Bool) : Int :=
  (bif x then 1 else 0)
/-- word.Truth -/
def S.word_Truth (n : Int) : Bool :=
  let b1 : Bool := n != 0
  b1
/-- word.reckons$1 -/
def S.word_reckons_1 (a : Int) (b : Int) : Int :=
  let r1 : Bool := S.word_Truth a
  let r2 : Bool := S.word_Truth b
  let p3 : Bool := (r1 || r2)
  let r4 : Int := S.word_Bit p3
  r4
/-- word.reckons$2 -/
def S.word_reckons_2 (a : Int) (b : Int) : Int :=
  let r1 : Bool := S.word_Truth a
  let r2 : Bool := S.word_Truth b
  let p3 : Bool := (r1 && r2)
  let r4 : Int := S.word_Bit p3
  r4
/-- word.reckons$3 -/
def S.word_reckons_3 (a : Int) (b : Int) : Int :=
  let t1 : Int := bits .or .i64 a b
  t1
/-- word.reckons$4 -/
def S.word_reckons_4 (a : Int) (b : Int) : Int :=
  let t1 : Int := bits .xor .i64 a b
  t1
/-- word.reckons$5 -/
def S.word_reckons_5 (a : Int) (b : Int) : Int :=
  let t1 : Int := bits .and .i64 a b
  t1
/-- word.Shift -/
def S.word_Shift (b : Int) : Int :=
  let t1 : Int := bits .and .i64 b 63
  let t2 : Int := IntKind.u64.wrap t1
  t2
/-- word.reckons$6 -/
def S.word_reckons_6 (a : Int) (b : Int) : Int :=
  let r1 : Int := S.word_Shift b
  let t2 : Int := IntKind.i64.wrap (a * 2 ^ min (Int.toNat r1) 64)
  t2
def S.word_reckons_6_pre (a : Int) (b : Int) : Prop :=
  let r1 : Int := S.word_Shift b
  (All [(0 : Int) ≤ r1] ∧ True)
/-- word.reckons$7 -/
def S.word_reckons_7 (a : Int) (b : Int) : Int :=
  let r1 : Int := S.word_Shift b
  let t2 : Int := Int.fdiv a (2 ^ min (Int.toNat r1) 64)
  t2
def S.word_reckons_7_pre (a : Int) (b : Int) : Prop :=
  let r1 : Int := S.word_Shift b
  (All [(0 : Int) ≤ r1] ∧ True)
/-- word.reckons$8 -/
def S.word_reckons_8 (a : Int) (b : Int) : Int :=
  let t1 : Int := IntKind.i64.wrap (a + b)
  t1
/-- word.reckons$9 -/
def S.word_reckons_9 (a : Int) (b : Int) : Int :=
  let t1 : Int := IntKind.i64.wrap (a - b)
  t1
/-- word.reckons$10 -/
def S.word_reckons_10 (a : Int) (b : Int) : Int :=
  let t1 : Int := IntKind.i64.wrap (a * b)
  t1
/-- word.reckons$11 -/
def S.word_reckons_11 (a : Int) (b : Int) : Int :=
  let t1 : Int := IntKind.i64.wrap (Int.tdiv a b)
  t1
def S.word_reckons_11_pre (a : Int) (b : Int) : Prop :=
  (All [b ≠ 0] ∧ True)
/-- word.reckons$12 -/
def S.word_reckons_12 (a : Int) (b : Int) : Int :=
  let t1 : Int := Int.tmod a b
  t1
def S.word_reckons_12_pre (a : Int) (b : Int) : Prop :=
  (All [b ≠ 0] ∧ True)
/-- word.reckons -/
def S.word_reckons : (List (Int × Go.Value)) :=
  ([(0, .func (.func 119) #[] #[]), (1, .func (.func 120) #[] #[]), (8, .func (.func 121) #[] #[]), (9, .func (.func 122) #[] #[]), (10, .func (.func 123) #[] #[]), (11, .func (.func 124) #[] #[]), (12, .func (.func 126) #[] #[]), (13, .func (.func 127) #[] #[]), (14, .func (.func 128) #[] #[]), (15, .func (.func 129) #[] #[]), (16, .func (.func 130) #[] #[]), (17, .func (.func 131) #[] #[])] : List (Int × Go.Value))
/-- word.Traps -/
def S.word_Traps (op : Int) : Bool :=
  let b1 : Bool := op == 16
  let b2 : Bool := op == 17
  let p3 : Bool := (b1 || b2)
  p3
/-- word.Do -/
def S.word_Do (op : Int) (a : Int) (b : Int) : Int × Bool :=
  let r1 : Bool × Bool := S.word_compares op a b
  let r2 : Int := S.word_Bit r1.1
  let b4 : Bool := op == 0
  let b5 : Bool := op == 1
  let b6 : Bool := op == 8
  let b7 : Bool := op == 9
  let b8 : Bool := op == 10
  let b9 : Bool := op == 11
  let b10 : Bool := op == 12
  let b11 : Bool := op == 13
  let b12 : Bool := op == 14
  let b13 : Bool := op == 15
  let b14 : Bool := op == 16
  let b15 : Bool := op == 17
  let b16 : Bool := b4 || (b5 || (b6 || (b7 || (b8 || (b9 || (b10 || (b11 || (b12 || (b13 || (b14 || (b15 || (false))))))))))))
  let b17 : Bool := !b16
  let r18 : Bool := S.word_Traps op
  let b19 : Bool := b == 0
  let p20 : Bool := (r18 && b19)
  let p21 : Bool := (b17 || p20)
  let r22 : Int := S.word_reckons_1 a b
  let r23 : Int := S.word_reckons_2 a b
  let r24 : Int := S.word_reckons_3 a b
  let r25 : Int := S.word_reckons_4 a b
  let r26 : Int := S.word_reckons_5 a b
  let r27 : Int := S.word_reckons_6 a b
  let r28 : Int := S.word_reckons_7 a b
  let r29 : Int := S.word_reckons_8 a b
  let r30 : Int := S.word_reckons_9 a b
  let r31 : Int := S.word_reckons_10 a b
  let r32 : Int := S.word_reckons_11 a b
  let r33 : Int := S.word_reckons_12 a b
  let m34 : Int := (bif b14 then r32 else r33)
  let m35 : Int := (bif b13 then r31 else m34)
  let m36 : Int := (bif b12 then r30 else m35)
  let m37 : Int := (bif b11 then r29 else m36)
  let m38 : Int := (bif b10 then r28 else m37)
  let m39 : Int := (bif b9 then r27 else m38)
  let m40 : Int := (bif b8 then r26 else m39)
  let m41 : Int := (bif b7 then r25 else m40)
  let m42 : Int := (bif b6 then r24 else m41)
  let m43 : Int := (bif b5 then r23 else m42)
  let m44 : Int := (bif b4 then r22 else m43)
  (bif r1.2 then (r2, true) else (bif p21 then (0, false) else (m44, true)))
def S.word_Do_pre (op : Int) (a : Int) (b : Int) : Prop :=
  let r1 : Bool × Bool := S.word_compares op a b
  let b4 : Bool := op == 0
  let b5 : Bool := op == 1
  let b6 : Bool := op == 8
  let b7 : Bool := op == 9
  let b8 : Bool := op == 10
  let b9 : Bool := op == 11
  let b10 : Bool := op == 12
  let b11 : Bool := op == 13
  let b12 : Bool := op == 14
  let b13 : Bool := op == 15
  let b14 : Bool := op == 16
  let b15 : Bool := op == 17
  let b16 : Bool := b4 || (b5 || (b6 || (b7 || (b8 || (b9 || (b10 || (b11 || (b12 || (b13 || (b14 || (b15 || (false))))))))))))
  let b17 : Bool := !b16
  let r18 : Bool := S.word_Traps op
  let b19 : Bool := b == 0
  let p20 : Bool := (r18 && b19)
  let p21 : Bool := (b17 || p20)
  ((r1.2 = true → True) ∧ (r1.2 = false → ((p21 = true → True) ∧ (p21 = false → (All [((b4 = true → True) ∧ (b4 = false → ((b5 = true → True) ∧ (b5 = false → ((b6 = true → True) ∧ (b6 = false → ((b7 = true → True) ∧ (b7 = false → ((b8 = true → True) ∧ (b8 = false → ((b9 = true → S.word_reckons_6_pre a b) ∧ (b9 = false → ((b10 = true → S.word_reckons_7_pre a b) ∧ (b10 = false → ((b11 = true → True) ∧ (b11 = false → ((b12 = true → True) ∧ (b12 = false → ((b13 = true → True) ∧ (b13 = false → ((b14 = true → S.word_reckons_11_pre a b) ∧ (b14 = false → (b15 = true ∧ S.word_reckons_12_pre a b)))))))))))))))))))))))] ∧ True)))))
/-- arith.of -/
def S.arith_of (n : Int) : (Int × Int) :=
  let t1 : Int := Int.fdiv n (2 ^ min (Int.toNat 63) 64)
  let t2 : Int := IntKind.u64.wrap t1
  let t3 : Int := IntKind.u64.wrap n
  (t2, t3)
/-- (arith.wide).plus -/
def S.arith_wide_plus (a : (Int × Int)) (b : (Int × Int)) : (Int × Int) :=
  let r1 : Int × Int := S.math_bits_Add64 a.2 b.2 0
  let r2 : Int × Int := S.math_bits_Add64 a.1 b.1 r1.2
  (r2.1, r1.1)
def S.arith_wide_plus_pre (a : (Int × Int)) (b : (Int × Int)) : Prop :=
  let r1 : Int × Int := S.math_bits_Add64 a.2 b.2 0
  (All [S.math_bits_Add64_pre a.2 b.2 0, S.math_bits_Add64_pre a.1 b.1 r1.2] ∧ True)
/-- math/bits.Sub64 -/
def S.math_bits_Sub64 (x y c : Int) : Int × Int := ((x + 18446744073709551616 - y - c) % 18446744073709551616, if x < y + c then 1 else 0)
def S.math_bits_Sub64_pre (x y c : Int) : Prop := 0 ≤ x ∧ 0 ≤ y ∧ y ≤ 18446744073709551615 ∧ 0 ≤ c ∧ c ≤ 1
/-- (arith.wide).minus -/
def S.arith_wide_minus (a : (Int × Int)) (b : (Int × Int)) : (Int × Int) :=
  let r1 : Int × Int := S.math_bits_Sub64 a.2 b.2 0
  let r2 : Int × Int := S.math_bits_Sub64 a.1 b.1 r1.2
  (r2.1, r1.1)
def S.arith_wide_minus_pre (a : (Int × Int)) (b : (Int × Int)) : Prop :=
  let r1 : Int × Int := S.math_bits_Sub64 a.2 b.2 0
  (All [S.math_bits_Sub64_pre a.2 b.2 0, S.math_bits_Sub64_pre a.1 b.1 r1.2] ∧ True)
/-- math/bits.Mul64 -/
def S.math_bits_Mul64 (x : Int) (y : Int) : Int × Int :=
  let t1 : Int := bits .and .u64 x 4294967295
  let t2 : Int := Int.fdiv x (2 ^ min (Int.toNat 32) 64)
  let t3 : Int := bits .and .u64 y 4294967295
  let t4 : Int := Int.fdiv y (2 ^ min (Int.toNat 32) 64)
  let t5 : Int := IntKind.u64.wrap (t1 * t3)
  let t6 : Int := IntKind.u64.wrap (t2 * t3)
  let t7 : Int := Int.fdiv t5 (2 ^ min (Int.toNat 32) 64)
  let t8 : Int := IntKind.u64.wrap (t6 + t7)
  let t9 : Int := bits .and .u64 t8 4294967295
  let t10 : Int := Int.fdiv t8 (2 ^ min (Int.toNat 32) 64)
  let t11 : Int := IntKind.u64.wrap (t1 * t4)
  let t12 : Int := IntKind.u64.wrap (t9 + t11)
  let t13 : Int := IntKind.u64.wrap (t2 * t4)
  let t14 : Int := IntKind.u64.wrap (t13 + t10)
  let t15 : Int := Int.fdiv t12 (2 ^ min (Int.toNat 32) 64)
  let t16 : Int := IntKind.u64.wrap (t14 + t15)
  let t17 : Int := IntKind.u64.wrap (x * y)
  (t16, t17)
/-- arith.times -/
def S.arith_times (a : Int) (b : Int) : (Int × Int) :=
  let t1 : Int := IntKind.u64.wrap a
  let t2 : Int := IntKind.u64.wrap b
  let r3 : Int × Int := S.math_bits_Mul64 t1 t2
  let b4 : Bool := decide (a < 0)
  let t5 : Int := IntKind.u64.wrap b
  let t6 : Int := IntKind.u64.wrap (r3.1 - t5)
  let b7 : Bool := decide (b < 0)
  let t8 : Int := IntKind.u64.wrap a
  let t9 : Int := IntKind.u64.wrap ((bif b4 then t6 else r3.1) - t8)
  ((bif b7 then t9 else (bif b4 then t6 else r3.1)), r3.2)
/-- arith.exact -/
def S.arith_exact (op : Int) (a : Int) (b : Int) : (Int × Int) :=
  let b1 : Bool := op == 13
  let r2 : (Int × Int) := S.arith_of a
  let r3 : (Int × Int) := S.arith_of b
  let r4 : (Int × Int) := S.arith_wide_plus r2 r3
  let b5 : Bool := op == 14
  let r6 : (Int × Int) := S.arith_of a
  let r7 : (Int × Int) := S.arith_of b
  let r8 : (Int × Int) := S.arith_wide_minus r6 r7
  let r9 : (Int × Int) := S.arith_times a b
  (bif b1 then r4 else (bif b5 then r8 else r9))
def S.arith_exact_pre (op : Int) (a : Int) (b : Int) : Prop :=
  let b1 : Bool := op == 13
  let r2 : (Int × Int) := S.arith_of a
  let r3 : (Int × Int) := S.arith_of b
  let b5 : Bool := op == 14
  let r6 : (Int × Int) := S.arith_of a
  let r7 : (Int × Int) := S.arith_of b
  ((b1 = true → (All [S.arith_wide_plus_pre r2 r3] ∧ True)) ∧ (b1 = false → ((b5 = true → (All [S.arith_wide_minus_pre r6 r7] ∧ True)) ∧ (b5 = false → True))))
/-- (arith.wide).less -/
def S.arith_wide_less (a : (Int × Int)) (b : (Int × Int)) : Bool :=
  let b1 : Bool := a.1 != b.1
  let t2 : Int := IntKind.i64.wrap a.1
  let t3 : Int := IntKind.i64.wrap b.1
  let b4 : Bool := decide (t2 < t3)
  let b5 : Bool := decide (a.2 < b.2)
  (bif b1 then b4 else b5)
@[ext] structure S.arith_bounds_L0 where
  op : Int
  t33 : Int
  lo_0 : Int
  lo_1 : Int
  hi_0 : Int
  hi_1 : Int
  l : (List Int)
  r : (List Int)
def S.arith_bounds_L0_step (x : S.arith_bounds_L0) : S.arith_bounds_L0 ⊕ (S.arith_bounds_L0) :=
  let b1 : Bool := decide (x.t33 < 4)
  let t2 : Int := IntKind.i64.wrap (Int.tdiv x.t33 2)
  let e3 : Int := x.l.getD (Int.toNat t2) 0
  let t4 : Int := Int.tmod x.t33 2
  let e5 : Int := x.r.getD (Int.toNat t4) 0
  let r6 : (Int × Int) := S.arith_exact x.op e3 e5
  let r7 : Bool := S.arith_wide_less r6 (x.lo_0, x.lo_1)
  let r8 : Bool := S.arith_wide_less (x.hi_0, x.hi_1) r6
  let t9 : Int := IntKind.i64.wrap (x.t33 + 1)
  (bif b1 then (.inl ⟨x.op, t9, (bif r7 then r6.1 else x.lo_0), (bif r7 then r6.2 else x.lo_1), (bif r8 then r6.1 else x.hi_0), (bif r8 then r6.2 else x.hi_1), x.l, x.r⟩) else (.inr ⟨x.op, x.t33, x.lo_0, x.lo_1, x.hi_0, x.hi_1, x.l, x.r⟩))
def S.arith_bounds_L0_vcs (x : S.arith_bounds_L0) : Prop :=
  let b1 : Bool := decide (x.t33 < 4)
  let t2 : Int := IntKind.i64.wrap (Int.tdiv x.t33 2)
  let e3 : Int := x.l.getD (Int.toNat t2) 0
  let t4 : Int := Int.tmod x.t33 2
  let e5 : Int := x.r.getD (Int.toNat t4) 0
  ((b1 = true → (All [(0 : Int) ≤ t2, t2 < (2 : Int), (0 : Int) ≤ t4, t4 < (2 : Int), S.arith_exact_pre x.op e3 e5] ∧ True)) ∧ (b1 = false → True))
noncomputable def S.arith_bounds_L0_run (x : S.arith_bounds_L0) : S.arith_bounds_L0 := theRun (fun x => x) S.arith_bounds_L0_step S.arith_bounds_L0_vcs x
/-- arith.bounds -/
noncomputable def S.arith_bounds (op : Int) (a : S.Value) (b : S.Value) : (Int × Int) × (Int × Int) :=
  let e1 : Int := ([a.I.Lo, a.I.Hi] : List Int).getD (Int.toNat 0) 0
  let e2 : Int := ([b.I.Lo, b.I.Hi] : List Int).getD (Int.toNat 0) 0
  let r3 : (Int × Int) := S.arith_exact op e1 e2
  let x4 : S.arith_bounds_L0 := (⟨op, 0, r3.1, r3.2, r3.1, r3.2, ([a.I.Lo, a.I.Hi] : List Int), ([b.I.Lo, b.I.Hi] : List Int)⟩ : S.arith_bounds_L0)
  let y5 : S.arith_bounds_L0 := S.arith_bounds_L0_run x4
  ((y5.lo_0, y5.lo_1), (y5.hi_0, y5.hi_1))
def S.arith_bounds_pre (op : Int) (a : S.Value) (b : S.Value) : Prop :=
  let e1 : Int := ([a.I.Lo, a.I.Hi] : List Int).getD (Int.toNat 0) 0
  let e2 : Int := ([b.I.Lo, b.I.Hi] : List Int).getD (Int.toNat 0) 0
  let r3 : (Int × Int) := S.arith_exact op e1 e2
  let x4 : S.arith_bounds_L0 := (⟨op, 0, r3.1, r3.2, r3.1, r3.2, ([a.I.Lo, a.I.Hi] : List Int), ([b.I.Lo, b.I.Hi] : List Int)⟩ : S.arith_bounds_L0)
  (All [(0 : Int) ≤ 0, (0 : Int) < (2 : Int), (0 : Int) ≤ 0, (0 : Int) < (2 : Int), S.arith_exact_pre op e1 e2, Runs S.arith_bounds_L0_step S.arith_bounds_L0_vcs x4 (S.arith_bounds_L0_run x4)] ∧ True)
@[ext] structure S.cong_gcd_L0 where
  a : Int
  b : Int
def S.cong_gcd_L0_step (x : S.cong_gcd_L0) : S.cong_gcd_L0 ⊕ (S.cong_gcd_L0) :=
  let b1 : Bool := x.b == 0
  let t2 : Int := Int.tmod x.a x.b
  (bif b1 then (.inr ⟨x.a, x.b⟩) else (.inl ⟨x.b, t2⟩))
def S.cong_gcd_L0_vcs (x : S.cong_gcd_L0) : Prop :=
  let b1 : Bool := x.b == 0
  ((b1 = true → True) ∧ (b1 = false → (All [x.b ≠ 0] ∧ True)))
noncomputable def S.cong_gcd_L0_run (x : S.cong_gcd_L0) : S.cong_gcd_L0 := theRun (fun x => x) S.cong_gcd_L0_step S.cong_gcd_L0_vcs x
/-- cong.gcd -/
noncomputable def S.cong_gcd (a : Int) (b : Int) : Int :=
  let x1 : S.cong_gcd_L0 := (⟨a, b⟩ : S.cong_gcd_L0)
  let y2 : S.cong_gcd_L0 := S.cong_gcd_L0_run x1
  y2.a
def S.cong_gcd_pre (a : Int) (b : Int) : Prop :=
  let x1 : S.cong_gcd_L0 := (⟨a, b⟩ : S.cong_gcd_L0)
  (All [Runs S.cong_gcd_L0_step S.cong_gcd_L0_vcs x1 (S.cong_gcd_L0_run x1)] ∧ True)
/-- cong.Add -/
noncomputable def S.cong_Add (a : S.Cong) (b : S.Cong) : S.Cong :=
  let r1 : Int := S.cong_gcd a.M b.M
  let b2 : Bool := r1 == 0
  let t3 : Int := IntKind.u64.wrap (a.R + b.R)
  let r4 : Int := S.cong_Cong_by a r1
  let r5 : Int := S.cong_Cong_by b r1
  let r6 : Int := S.cong_plus r4 r5 r1
  (bif b2 then (⟨0, t3⟩ : S.Cong) else (⟨r1, r6⟩ : S.Cong))
def S.cong_Add_pre (a : S.Cong) (b : S.Cong) : Prop :=
  let r1 : Int := S.cong_gcd a.M b.M
  let b2 : Bool := r1 == 0
  let r4 : Int := S.cong_Cong_by a r1
  let r5 : Int := S.cong_Cong_by b r1
  (All [S.cong_gcd_pre a.M b.M] ∧ ((b2 = true → True) ∧ (b2 = false → (All [S.cong_Cong_by_pre a r1, S.cong_Cong_by_pre b r1, S.cong_plus_pre r4 r5 r1] ∧ True))))
/-- cong.Sub -/
noncomputable def S.cong_Sub (a : S.Cong) (b : S.Cong) : S.Cong :=
  let r1 : Int := S.cong_gcd a.M b.M
  let b2 : Bool := r1 == 0
  let t3 : Int := IntKind.u64.wrap (a.R - b.R)
  let r4 : Int := S.cong_Cong_by a r1
  let r5 : Int := S.cong_Cong_by b r1
  let t6 : Int := IntKind.u64.wrap (r1 - r5)
  let t7 : Int := Int.tmod t6 r1
  let r8 : Int := S.cong_plus r4 t7 r1
  (bif b2 then (⟨0, t3⟩ : S.Cong) else (⟨r1, r8⟩ : S.Cong))
def S.cong_Sub_pre (a : S.Cong) (b : S.Cong) : Prop :=
  let r1 : Int := S.cong_gcd a.M b.M
  let b2 : Bool := r1 == 0
  let r4 : Int := S.cong_Cong_by a r1
  let r5 : Int := S.cong_Cong_by b r1
  let t6 : Int := IntKind.u64.wrap (r1 - r5)
  let t7 : Int := Int.tmod t6 r1
  (All [S.cong_gcd_pre a.M b.M] ∧ ((b2 = true → True) ∧ (b2 = false → (All [S.cong_Cong_by_pre a r1, S.cong_Cong_by_pre b r1, r1 ≠ 0, S.cong_plus_pre r4 t7 r1] ∧ True))))
/-- cong.fits -/
def S.cong_fits (a : Int) (b : Int) : Int × Bool :=
  let r1 : Int × Int := S.math_bits_Mul64 a b
  let b2 : Bool := r1.1 == 0
  (r1.2, b2)
/-- math/bits.Len64 -/
def S.math_bits_Len64 (x : Int) : Int :=
  let b1 : Bool := decide (x ≥ 4294967296)
  let t2 : Int := Int.fdiv x (2 ^ min (Int.toNat 32) 64)
  let b3 : Bool := decide ((bif b1 then t2 else x) ≥ 65536)
  let t4 : Int := Int.fdiv (bif b1 then t2 else x) (2 ^ min (Int.toNat 16) 64)
  let t5 : Int := IntKind.i64.wrap ((bif b1 then 32 else 0) + 16)
  let b6 : Bool := decide ((bif b3 then t4 else (bif b1 then t2 else x)) ≥ 256)
  let t7 : Int := Int.fdiv (bif b3 then t4 else (bif b1 then t2 else x)) (2 ^ min (Int.toNat 8) 64)
  let t8 : Int := IntKind.i64.wrap ((bif b3 then t5 else (bif b1 then 32 else 0)) + 8)
  let t9 : Int := IntKind.u8.wrap (bif b6 then t7 else (bif b3 then t4 else (bif b1 then t2 else x)))
  let t10 : Int := (((⟨#[0, 1, 2, 2, 3, 3, 3, 3, 4, 4, 4, 4, 4, 4, 4, 4, 5, 5, 5, 5, 5, 5, 5, 5, 5, 5, 5, 5, 5, 5, 5, 5, 6, 6, 6, 6, 6, 6, 6, 6, 6, 6, 6, 6, 6, 6, 6, 6, 6, 6, 6, 6, 6, 6, 6, 6, 6, 6, 6, 6, 6, 6, 6, 6, 7, 7, 7, 7, 7, 7, 7, 7, 7, 7, 7, 7, 7, 7, 7, 7, 7, 7, 7, 7, 7, 7, 7, 7, 7, 7, 7, 7, 7, 7, 7, 7, 7, 7, 7, 7, 7, 7, 7, 7, 7, 7, 7, 7, 7, 7, 7, 7, 7, 7, 7, 7, 7, 7, 7, 7, 7, 7, 7, 7, 7, 7, 7, 7, 8, 8, 8, 8, 8, 8, 8, 8, 8, 8, 8, 8, 8, 8, 8, 8, 8, 8, 8, 8, 8, 8, 8, 8, 8, 8, 8, 8, 8, 8, 8, 8, 8, 8, 8, 8, 8, 8, 8, 8, 8, 8, 8, 8, 8, 8, 8, 8, 8, 8, 8, 8, 8, 8, 8, 8, 8, 8, 8, 8, 8, 8, 8, 8, 8, 8, 8, 8, 8, 8, 8, 8, 8, 8, 8, 8, 8, 8, 8, 8, 8, 8, 8, 8, 8, 8, 8, 8, 8, 8, 8, 8, 8, 8, 8, 8, 8, 8, 8, 8, 8, 8, 8, 8, 8, 8, 8, 8, 8, 8, 8, 8, 8, 8, 8, 8, 8, 8, 8, 8, 8, 8, 8, 8, 8, 8, 8, 8]⟩ : ByteArray).data.toList.getD (Int.toNat t9) 0).toNat : Int)
  let t11 : Int := IntKind.i64.wrap t10
  let t12 : Int := IntKind.i64.wrap ((bif b6 then t8 else (bif b3 then t5 else (bif b1 then 32 else 0))) + t11)
  t12
def S.math_bits_Len64_pre (x : Int) : Prop :=
  let b1 : Bool := decide (x ≥ 4294967296)
  let t2 : Int := Int.fdiv x (2 ^ min (Int.toNat 32) 64)
  let b3 : Bool := decide ((bif b1 then t2 else x) ≥ 65536)
  let t4 : Int := Int.fdiv (bif b1 then t2 else x) (2 ^ min (Int.toNat 16) 64)
  let b6 : Bool := decide ((bif b3 then t4 else (bif b1 then t2 else x)) ≥ 256)
  let t7 : Int := Int.fdiv (bif b3 then t4 else (bif b1 then t2 else x)) (2 ^ min (Int.toNat 8) 64)
  let t9 : Int := IntKind.u8.wrap (bif b6 then t7 else (bif b3 then t4 else (bif b1 then t2 else x)))
  (All [(0 : Int) ≤ t9, t9 < ((⟨#[0, 1, 2, 2, 3, 3, 3, 3, 4, 4, 4, 4, 4, 4, 4, 4, 5, 5, 5, 5, 5, 5, 5, 5, 5, 5, 5, 5, 5, 5, 5, 5, 6, 6, 6, 6, 6, 6, 6, 6, 6, 6, 6, 6, 6, 6, 6, 6, 6, 6, 6, 6, 6, 6, 6, 6, 6, 6, 6, 6, 6, 6, 6, 6, 7, 7, 7, 7, 7, 7, 7, 7, 7, 7, 7, 7, 7, 7, 7, 7, 7, 7, 7, 7, 7, 7, 7, 7, 7, 7, 7, 7, 7, 7, 7, 7, 7, 7, 7, 7, 7, 7, 7, 7, 7, 7, 7, 7, 7, 7, 7, 7, 7, 7, 7, 7, 7, 7, 7, 7, 7, 7, 7, 7, 7, 7, 7, 7, 8, 8, 8, 8, 8, 8, 8, 8, 8, 8, 8, 8, 8, 8, 8, 8, 8, 8, 8, 8, 8, 8, 8, 8, 8, 8, 8, 8, 8, 8, 8, 8, 8, 8, 8, 8, 8, 8, 8, 8, 8, 8, 8, 8, 8, 8, 8, 8, 8, 8, 8, 8, 8, 8, 8, 8, 8, 8, 8, 8, 8, 8, 8, 8, 8, 8, 8, 8, 8, 8, 8, 8, 8, 8, 8, 8, 8, 8, 8, 8, 8, 8, 8, 8, 8, 8, 8, 8, 8, 8, 8, 8, 8, 8, 8, 8, 8, 8, 8, 8, 8, 8, 8, 8, 8, 8, 8, 8, 8, 8, 8, 8, 8, 8, 8, 8, 8, 8, 8, 8, 8, 8, 8, 8, 8, 8, 8, 8]⟩ : ByteArray).size : Int)] ∧ True)
/-- math/bits.LeadingZeros64 -/
def S.math_bits_LeadingZeros64 (x : Int) : Int :=
  let r1 : Int := S.math_bits_Len64 x
  let t2 : Int := IntKind.i64.wrap (64 - r1)
  t2
def S.math_bits_LeadingZeros64_pre (x : Int) : Prop :=
  (All [S.math_bits_Len64_pre x] ∧ True)
@[ext] structure S.math_bits_Div64_L0 where
  yn1 : Int
  yn0 : Int
  un1 : Int
  q1 : Int
  rhat : Int
def S.math_bits_Div64_L0_step (x : S.math_bits_Div64_L0) : S.math_bits_Div64_L0 ⊕ (S.math_bits_Div64_L0) :=
  let b1 : Bool := decide (x.q1 ≥ 4294967296)
  let t2 : Int := IntKind.u64.wrap (x.q1 * x.yn0)
  let t3 : Int := IntKind.u64.wrap (4294967296 * x.rhat)
  let t4 : Int := IntKind.u64.wrap (t3 + x.un1)
  let b5 : Bool := decide (t2 > t4)
  let p6 : Bool := (b1 || b5)
  let t7 : Int := IntKind.u64.wrap (x.q1 - 1)
  let t8 : Int := IntKind.u64.wrap (x.rhat + x.yn1)
  let b9 : Bool := decide (t8 ≥ 4294967296)
  (bif p6 then (bif b9 then (.inr ⟨x.yn1, x.yn0, x.un1, t7, t8⟩) else (.inl ⟨x.yn1, x.yn0, x.un1, t7, t8⟩)) else (.inr ⟨x.yn1, x.yn0, x.un1, x.q1, x.rhat⟩))
def S.math_bits_Div64_L0_vcs (x : S.math_bits_Div64_L0) : Prop :=
  let b1 : Bool := decide (x.q1 ≥ 4294967296)
  let t2 : Int := IntKind.u64.wrap (x.q1 * x.yn0)
  let t3 : Int := IntKind.u64.wrap (4294967296 * x.rhat)
  let t4 : Int := IntKind.u64.wrap (t3 + x.un1)
  let b5 : Bool := decide (t2 > t4)
  let p6 : Bool := (b1 || b5)
  let t8 : Int := IntKind.u64.wrap (x.rhat + x.yn1)
  let b9 : Bool := decide (t8 ≥ 4294967296)
  ((p6 = true → ((b9 = true → True) ∧ (b9 = false → True))) ∧ (p6 = false → True))
noncomputable def S.math_bits_Div64_L0_run (x : S.math_bits_Div64_L0) : S.math_bits_Div64_L0 := theRun (fun x => x) S.math_bits_Div64_L0_step S.math_bits_Div64_L0_vcs x
@[ext] structure S.math_bits_Div64_L2 where
  yn1 : Int
  yn0 : Int
  un0 : Int
  rhat : Int
  q0 : Int
def S.math_bits_Div64_L2_step (x : S.math_bits_Div64_L2) : S.math_bits_Div64_L2 ⊕ (S.math_bits_Div64_L2) :=
  let b1 : Bool := decide (x.q0 ≥ 4294967296)
  let t2 : Int := IntKind.u64.wrap (x.q0 * x.yn0)
  let t3 : Int := IntKind.u64.wrap (4294967296 * x.rhat)
  let t4 : Int := IntKind.u64.wrap (t3 + x.un0)
  let b5 : Bool := decide (t2 > t4)
  let p6 : Bool := (b1 || b5)
  let t7 : Int := IntKind.u64.wrap (x.q0 - 1)
  let t8 : Int := IntKind.u64.wrap (x.rhat + x.yn1)
  let b9 : Bool := decide (t8 ≥ 4294967296)
  (bif p6 then (bif b9 then (.inr ⟨x.yn1, x.yn0, x.un0, t8, t7⟩) else (.inl ⟨x.yn1, x.yn0, x.un0, t8, t7⟩)) else (.inr ⟨x.yn1, x.yn0, x.un0, x.rhat, x.q0⟩))
def S.math_bits_Div64_L2_vcs (x : S.math_bits_Div64_L2) : Prop :=
  let b1 : Bool := decide (x.q0 ≥ 4294967296)
  let t2 : Int := IntKind.u64.wrap (x.q0 * x.yn0)
  let t3 : Int := IntKind.u64.wrap (4294967296 * x.rhat)
  let t4 : Int := IntKind.u64.wrap (t3 + x.un0)
  let b5 : Bool := decide (t2 > t4)
  let p6 : Bool := (b1 || b5)
  let t8 : Int := IntKind.u64.wrap (x.rhat + x.yn1)
  let b9 : Bool := decide (t8 ≥ 4294967296)
  ((p6 = true → ((b9 = true → True) ∧ (b9 = false → True))) ∧ (p6 = false → True))
noncomputable def S.math_bits_Div64_L2_run (x : S.math_bits_Div64_L2) : S.math_bits_Div64_L2 := theRun (fun x => x) S.math_bits_Div64_L2_step S.math_bits_Div64_L2_vcs x
/-- math/bits.Div64 -/
noncomputable def S.math_bits_Div64 (hi : Int) (lo : Int) (y : Int) : Int × Int :=
  let b3 : Bool := hi == 0
  let t4 : Int := IntKind.u64.wrap (Int.tdiv lo y)
  let t5 : Int := Int.tmod lo y
  let r6 : Int := S.math_bits_LeadingZeros64 y
  let t7 : Int := IntKind.u64.wrap r6
  let t8 : Int := IntKind.u64.wrap (y * 2 ^ min (Int.toNat t7) 64)
  let t9 : Int := Int.fdiv t8 (2 ^ min (Int.toNat 32) 64)
  let t10 : Int := bits .and .u64 t8 4294967295
  let t11 : Int := IntKind.u64.wrap (hi * 2 ^ min (Int.toNat t7) 64)
  let t12 : Int := IntKind.u64.wrap (64 - t7)
  let t13 : Int := Int.fdiv lo (2 ^ min (Int.toNat t12) 64)
  let t14 : Int := bits .or .u64 t11 t13
  let t15 : Int := IntKind.u64.wrap (lo * 2 ^ min (Int.toNat t7) 64)
  let t16 : Int := Int.fdiv t15 (2 ^ min (Int.toNat 32) 64)
  let t17 : Int := bits .and .u64 t15 4294967295
  let t18 : Int := IntKind.u64.wrap (Int.tdiv t14 t9)
  let t19 : Int := IntKind.u64.wrap (t18 * t9)
  let t20 : Int := IntKind.u64.wrap (t14 - t19)
  let x21 : S.math_bits_Div64_L0 := (⟨t9, t10, t16, t18, t20⟩ : S.math_bits_Div64_L0)
  let y22 : S.math_bits_Div64_L0 := S.math_bits_Div64_L0_run x21
  let t23 : Int := IntKind.u64.wrap (t14 * 4294967296)
  let t24 : Int := IntKind.u64.wrap (t23 + y22.un1)
  let t25 : Int := IntKind.u64.wrap (y22.q1 * t8)
  let t26 : Int := IntKind.u64.wrap (t24 - t25)
  let t27 : Int := IntKind.u64.wrap (Int.tdiv t26 y22.yn1)
  let t28 : Int := IntKind.u64.wrap (t27 * y22.yn1)
  let t29 : Int := IntKind.u64.wrap (t26 - t28)
  let x30 : S.math_bits_Div64_L2 := (⟨y22.yn1, y22.yn0, t17, t29, t27⟩ : S.math_bits_Div64_L2)
  let y31 : S.math_bits_Div64_L2 := S.math_bits_Div64_L2_run x30
  let t32 : Int := IntKind.u64.wrap (y22.q1 * 4294967296)
  let t33 : Int := IntKind.u64.wrap (t32 + y31.q0)
  let t34 : Int := IntKind.u64.wrap (t26 * 4294967296)
  let t35 : Int := IntKind.u64.wrap (t34 + y31.un0)
  let t36 : Int := IntKind.u64.wrap (y31.q0 * t8)
  let t37 : Int := IntKind.u64.wrap (t35 - t36)
  let t38 : Int := Int.fdiv t37 (2 ^ min (Int.toNat t7) 64)
  (bif b3 then (t4, t5) else (t33, t38))
def S.math_bits_Div64_pre (hi : Int) (lo : Int) (y : Int) : Prop :=
  let b1 : Bool := y == 0
  let b2 : Bool := decide (y ≤ hi)
  let b3 : Bool := hi == 0
  let r6 : Int := S.math_bits_LeadingZeros64 y
  let t7 : Int := IntKind.u64.wrap r6
  let t8 : Int := IntKind.u64.wrap (y * 2 ^ min (Int.toNat t7) 64)
  let t9 : Int := Int.fdiv t8 (2 ^ min (Int.toNat 32) 64)
  let t10 : Int := bits .and .u64 t8 4294967295
  let t11 : Int := IntKind.u64.wrap (hi * 2 ^ min (Int.toNat t7) 64)
  let t12 : Int := IntKind.u64.wrap (64 - t7)
  let t13 : Int := Int.fdiv lo (2 ^ min (Int.toNat t12) 64)
  let t14 : Int := bits .or .u64 t11 t13
  let t15 : Int := IntKind.u64.wrap (lo * 2 ^ min (Int.toNat t7) 64)
  let t16 : Int := Int.fdiv t15 (2 ^ min (Int.toNat 32) 64)
  let t17 : Int := bits .and .u64 t15 4294967295
  let t18 : Int := IntKind.u64.wrap (Int.tdiv t14 t9)
  let t19 : Int := IntKind.u64.wrap (t18 * t9)
  let t20 : Int := IntKind.u64.wrap (t14 - t19)
  let x21 : S.math_bits_Div64_L0 := (⟨t9, t10, t16, t18, t20⟩ : S.math_bits_Div64_L0)
  let y22 : S.math_bits_Div64_L0 := S.math_bits_Div64_L0_run x21
  let t23 : Int := IntKind.u64.wrap (t14 * 4294967296)
  let t24 : Int := IntKind.u64.wrap (t23 + y22.un1)
  let t25 : Int := IntKind.u64.wrap (y22.q1 * t8)
  let t26 : Int := IntKind.u64.wrap (t24 - t25)
  let t27 : Int := IntKind.u64.wrap (Int.tdiv t26 y22.yn1)
  let t28 : Int := IntKind.u64.wrap (t27 * y22.yn1)
  let t29 : Int := IntKind.u64.wrap (t26 - t28)
  let x30 : S.math_bits_Div64_L2 := (⟨y22.yn1, y22.yn0, t17, t29, t27⟩ : S.math_bits_Div64_L2)
  ((b1 = true → False) ∧ (b1 = false → ((b2 = true → False) ∧ (b2 = false → ((b3 = true → (All [y ≠ 0, y ≠ 0] ∧ True)) ∧ (b3 = false → (All [S.math_bits_LeadingZeros64_pre y, (0 : Int) ≤ t7, (0 : Int) ≤ t7, (0 : Int) ≤ t12, (0 : Int) ≤ t7, t9 ≠ 0, Runs S.math_bits_Div64_L0_step S.math_bits_Div64_L0_vcs x21 (S.math_bits_Div64_L0_run x21), y22.yn1 ≠ 0, Runs S.math_bits_Div64_L2_step S.math_bits_Div64_L2_vcs x30 (S.math_bits_Div64_L2_run x30), (0 : Int) ≤ t7] ∧ True)))))))
/-- math/bits.Rem64 -/
noncomputable def S.math_bits_Rem64 (hi : Int) (lo : Int) (y : Int) : Int :=
  let t1 : Int := Int.tmod hi y
  let r2 : Int × Int := S.math_bits_Div64 t1 lo y
  r2.2
def S.math_bits_Rem64_pre (hi : Int) (lo : Int) (y : Int) : Prop :=
  let t1 : Int := Int.tmod hi y
  (All [y ≠ 0, S.math_bits_Div64_pre t1 lo y] ∧ True)
/-- cong.times -/
noncomputable def S.cong_times (a : Int) (b : Int) (m : Int) : Int :=
  let r1 : Int × Int := S.math_bits_Mul64 a b
  let r2 : Int := S.math_bits_Rem64 r1.1 r1.2 m
  r2
def S.cong_times_pre (a : Int) (b : Int) (m : Int) : Prop :=
  let r1 : Int × Int := S.math_bits_Mul64 a b
  (All [S.math_bits_Rem64_pre r1.1 r1.2 m] ∧ True)
/-- (cong.Cong).scaled -/
noncomputable def S.cong_Cong_scaled (c : S.Cong) (n : Int) : S.Cong :=
  let b1 : Bool := n == 0
  let t2 : Int := IntKind.u64.wrap n
  let b3 : Bool := decide (n < 0)
  let t4 : Int := IntKind.u64.wrap (0 - t2)
  let r5 : Int × Bool := S.cong_fits c.M (bif b3 then t4 else t2)
  let b6 : Bool := !r5.2
  let r7 : Int := S.cong_rest n (bif b6 then c.M else r5.1)
  let t8 : Int := Int.tmod c.R (bif b6 then c.M else r5.1)
  let r9 : Int := S.cong_times r7 t8 (bif b6 then c.M else r5.1)
  (bif b1 then (⟨0, 0⟩ : S.Cong) else (⟨(bif b6 then c.M else r5.1), r9⟩ : S.Cong))
def S.cong_Cong_scaled_pre (c : S.Cong) (n : Int) : Prop :=
  let b1 : Bool := n == 0
  let t2 : Int := IntKind.u64.wrap n
  let b3 : Bool := decide (n < 0)
  let t4 : Int := IntKind.u64.wrap (0 - t2)
  let r5 : Int × Bool := S.cong_fits c.M (bif b3 then t4 else t2)
  let b6 : Bool := !r5.2
  let r7 : Int := S.cong_rest n (bif b6 then c.M else r5.1)
  let t8 : Int := Int.tmod c.R (bif b6 then c.M else r5.1)
  ((b1 = true → True) ∧ (b1 = false → (All [S.cong_rest_pre n (bif b6 then c.M else r5.1), (bif b6 then c.M else r5.1) ≠ 0, S.cong_times_pre r7 t8 (bif b6 then c.M else r5.1)] ∧ True)))
/-- cong.Mul -/
noncomputable def S.cong_Mul (a : S.Cong) (b : S.Cong) : S.Cong :=
  let r1 : Bool := S.cong_Cong_single a
  let r2 : Bool := S.cong_Cong_single b
  let p3 : Bool := (r1 && r2)
  let t4 : Int := IntKind.u64.wrap (a.R * b.R)
  let r5 : Bool := S.cong_Cong_single a
  let r6 : Int := S.cong_Cong_number a
  let r7 : S.Cong := S.cong_Cong_scaled b r6
  let r8 : Bool := S.cong_Cong_single b
  let r9 : Int := S.cong_Cong_number b
  let r10 : S.Cong := S.cong_Cong_scaled a r9
  let r11 : Int := S.cong_gcd a.M b.M
  let r12 : Int := S.cong_gcd a.M a.R
  let r13 : Int := S.cong_gcd b.M b.R
  let r14 : Int × Bool := S.cong_fits r12 r13
  let b15 : Bool := decide (r14.1 > r11)
  let p16 : Bool := (r14.2 && b15)
  let r17 : Int := S.cong_Cong_by a r11
  let r18 : Int := S.cong_Cong_by b r11
  let r19 : Int := S.cong_times r17 r18 r11
  (bif p3 then (⟨0, t4⟩ : S.Cong) else (bif r5 then r7 else (bif r8 then r10 else (bif p16 then (⟨r14.1, 0⟩ : S.Cong) else (⟨r11, r19⟩ : S.Cong)))))
def S.cong_Mul_pre (a : S.Cong) (b : S.Cong) : Prop :=
  let r1 : Bool := S.cong_Cong_single a
  let r2 : Bool := S.cong_Cong_single b
  let p3 : Bool := (r1 && r2)
  let r5 : Bool := S.cong_Cong_single a
  let r6 : Int := S.cong_Cong_number a
  let r8 : Bool := S.cong_Cong_single b
  let r9 : Int := S.cong_Cong_number b
  let r11 : Int := S.cong_gcd a.M b.M
  let r12 : Int := S.cong_gcd a.M a.R
  let r13 : Int := S.cong_gcd b.M b.R
  let r14 : Int × Bool := S.cong_fits r12 r13
  let b15 : Bool := decide (r14.1 > r11)
  let p16 : Bool := (r14.2 && b15)
  let r17 : Int := S.cong_Cong_by a r11
  let r18 : Int := S.cong_Cong_by b r11
  ((p3 = true → True) ∧ (p3 = false → ((r5 = true → (All [S.cong_Cong_scaled_pre b r6] ∧ True)) ∧ (r5 = false → ((r8 = true → (All [S.cong_Cong_scaled_pre a r9] ∧ True)) ∧ (r8 = false → (All [S.cong_gcd_pre a.M b.M, S.cong_gcd_pre a.M a.R, S.cong_gcd_pre b.M b.R] ∧ ((p16 = true → True) ∧ (p16 = false → (All [S.cong_Cong_by_pre a r11, S.cong_Cong_by_pre b r11, S.cong_times_pre r17 r18 r11] ∧ True))))))))))
/-- arith.congruence -/
noncomputable def S.arith_congruence (op : Int) (a : S.Cong) (b : S.Cong) : S.Cong :=
  let b1 : Bool := op == 13
  let r2 : S.Cong := S.cong_Add a b
  let b3 : Bool := op == 14
  let r4 : S.Cong := S.cong_Sub a b
  let r5 : S.Cong := S.cong_Mul a b
  (bif b1 then r2 else (bif b3 then r4 else r5))
def S.arith_congruence_pre (op : Int) (a : S.Cong) (b : S.Cong) : Prop :=
  let b1 : Bool := op == 13
  let b3 : Bool := op == 14
  ((b1 = true → (All [S.cong_Add_pre a b] ∧ True)) ∧ (b1 = false → ((b3 = true → (All [S.cong_Sub_pre a b] ∧ True)) ∧ (b3 = false → (All [S.cong_Mul_pre a b] ∧ True)))))
/-- (arith.wide).round -/
def S.arith_wide_round (a : (Int × Int)) : Int :=
  let t1 : Int := IntKind.i64.wrap a.2
  let r2 : (Int × Int) := S.arith_of t1
  let r3 : (Int × Int) := S.arith_wide_minus a r2
  r3.1
def S.arith_wide_round_pre (a : (Int × Int)) : Prop :=
  let t1 : Int := IntKind.i64.wrap a.2
  let r2 : (Int × Int) := S.arith_of t1
  (All [S.arith_wide_minus_pre a r2] ∧ True)
/-- (cong.Cong).Wrapped -/
def S.cong_Cong_Wrapped (c : S.Cong) : S.Cong :=
  let r1 : Bool := S.cong_Cong_single c
  let t2 : Int := IntKind.u64.wrap (0 - c.M)
  let t3 : Int := bits .and .u64 c.M t2
  let t4 : Int := Int.tmod c.R t3
  (bif r1 then c else (⟨t3, t4⟩ : S.Cong))
def S.cong_Cong_Wrapped_pre (c : S.Cong) : Prop :=
  let r1 : Bool := S.cong_Cong_single c
  let t2 : Int := IntKind.u64.wrap (0 - c.M)
  let t3 : Int := bits .and .u64 c.M t2
  ((r1 = true → True) ∧ (r1 = false → (All [t3 ≠ 0] ∧ True)))
/-- arith.Do -/
noncomputable def S.arith_Do (op : Int) (a : S.Value) (b : S.Value) : S.Value :=
  let r1 : S.Value := S.arith_plain a
  let r2 : S.Value := S.arith_plain b
  let r3 : Int × Bool := S.value_Value_Single r1
  let r4 : Int × Bool := S.value_Value_Single r2
  let r5 : Bool := S.value_Value_IsBottom r1
  let r6 : Bool := S.value_Value_IsBottom r2
  let p7 : Bool := (r5 || r6)
  let r8 : S.Value := S.value_Bottom
  let r9 : Bool := S.arith_known op
  let b10 : Bool := !r9
  let r11 : S.Value := S.value_Top
  let p12 : Bool := (r3.2 && r4.2)
  let r13 : Int × Bool := S.word_Do op r3.1 r4.1
  let r14 : S.Value := S.value_One r13.1
  let r15 : (Int × Int) × (Int × Int) := S.arith_bounds op r1 r2
  let r16 : S.Cong := S.arith_congruence op r1.C r2.C
  let r17 : Int := S.arith_wide_round r15.1
  let r18 : Int := S.arith_wide_round r15.2
  let b19 : Bool := r17 != r18
  let r20 : S.Inter := S.inter_Whole
  let r21 : S.Cong := S.cong_Cong_Wrapped r16
  let r22 : S.Value := S.value_Make r20 r21
  let r23 : Int := S.arith_wide_round r15.1
  let b24 : Bool := r23 != 0
  let r25 : S.Cong := S.cong_Cong_Wrapped r16
  let t26 : Int := IntKind.i64.wrap r15.1.2
  let t27 : Int := IntKind.i64.wrap r15.2.2
  let r28 : S.Inter := S.inter_Of t26 t27
  let r29 : S.Value := S.value_Make r28 (⟨(bif b24 then r25.M else r16.M), (bif b24 then r25.R else r16.R)⟩ : S.Cong)
  (bif p7 then r8 else (bif b10 then r11 else (bif p12 then r14 else (bif b19 then r22 else r29))))
def S.arith_Do_pre (op : Int) (a : S.Value) (b : S.Value) : Prop :=
  let r1 : S.Value := S.arith_plain a
  let r2 : S.Value := S.arith_plain b
  let r3 : Int × Bool := S.value_Value_Single r1
  let r4 : Int × Bool := S.value_Value_Single r2
  let r5 : Bool := S.value_Value_IsBottom r1
  let r6 : Bool := S.value_Value_IsBottom r2
  let p7 : Bool := (r5 || r6)
  let r9 : Bool := S.arith_known op
  let b10 : Bool := !r9
  let p12 : Bool := (r3.2 && r4.2)
  let r15 : (Int × Int) × (Int × Int) := S.arith_bounds op r1 r2
  let r16 : S.Cong := S.arith_congruence op r1.C r2.C
  let r17 : Int := S.arith_wide_round r15.1
  let r18 : Int := S.arith_wide_round r15.2
  let b19 : Bool := r17 != r18
  let r20 : S.Inter := S.inter_Whole
  let r21 : S.Cong := S.cong_Cong_Wrapped r16
  let r23 : Int := S.arith_wide_round r15.1
  let b24 : Bool := r23 != 0
  let r25 : S.Cong := S.cong_Cong_Wrapped r16
  let t26 : Int := IntKind.i64.wrap r15.1.2
  let t27 : Int := IntKind.i64.wrap r15.2.2
  let r28 : S.Inter := S.inter_Of t26 t27
  (All [S.arith_plain_pre a, S.arith_plain_pre b, S.value_Value_Single_pre r1, S.value_Value_Single_pre r2, S.value_Value_IsBottom_pre r1, (r5 = false → S.value_Value_IsBottom_pre r2)] ∧ ((p7 = true → True) ∧ (p7 = false → ((b10 = true → True) ∧ (b10 = false → ((p12 = true → (All [S.word_Do_pre op r3.1 r4.1] ∧ True)) ∧ (p12 = false → (All [S.arith_bounds_pre op r1 r2, S.arith_congruence_pre op r1.C r2.C, S.arith_wide_round_pre r15.1, S.arith_wide_round_pre r15.2] ∧ ((b19 = true → (All [S.cong_Cong_Wrapped_pre r16, S.value_Make_pre r20 r21] ∧ True)) ∧ (b19 = false → (All [S.arith_wide_round_pre r15.1, (b24 = true → S.cong_Cong_Wrapped_pre r16), S.value_Make_pre r28 (⟨(bif b24 then r25.M else r16.M), (bif b24 then r25.R else r16.R)⟩ : S.Cong)] ∧ True)))))))))))
/-- internal/strconv.log10Pow2 -/
def S.internal_strconv_log10Pow2 (x : Int) : Int :=
  let t1 : Int := IntKind.i64.wrap (x * 78913)
  let t2 : Int := Int.fdiv t1 (2 ^ min (Int.toNat 18) 64)
  t2
/-- internal/strconv.bool2[int] -/
def S.internal_strconv_bool2int (b : Bool) : Int :=
  (bif b then 1 else 0)
/-- internal/strconv.isPowerOfTwo -/
def S.internal_strconv_isPowerOfTwo (x : Int) : Bool :=
  let t1 : Int := IntKind.i64.wrap (x - 1)
  let t2 : Int := bits .and .i64 x t1
  let b3 : Bool := t2 == 0
  b3
/-- strconv.FormatInt -/
def S.strconv_FormatInt (i : Int) (base : Int) : ByteArray :=
  let r1 : ByteArray := fmtI i base
  r1
def S.strconv_FormatInt_pre (i : Int) (base : Int) : Prop :=
  (All [fmtI_pre i base] ∧ True)
/-- strconv.FormatUint -/
def S.strconv_FormatUint (i : Int) (base : Int) : ByteArray :=
  let r1 : ByteArray := fmtU i base
  r1
def S.strconv_FormatUint_pre (i : Int) (base : Int) : Prop :=
  (All [fmtU_pre i base] ∧ True)
/-- (value.Value).Text -/
def S.value_Value_Text (v : S.Value) : ByteArray :=
  let r1 : S.Value := S.value_Value_reduced v
  let r2 : Bool := S.value_Value_IsBottom r1
  let r3 : Int × Bool := S.value_Value_Single r1
  let r4 : ByteArray := S.strconv_FormatInt r3.1 10
  let r5 : ByteArray := S.strconv_FormatInt r1.I.Lo 10
  let s6 : ByteArray := (⟨#[91]⟩ : ByteArray) ++ r5
  let s7 : ByteArray := s6 ++ (⟨#[44, 32]⟩ : ByteArray)
  let r8 : ByteArray := S.strconv_FormatInt r1.I.Hi 10
  let s9 : ByteArray := s7 ++ r8
  let s10 : ByteArray := s9 ++ (⟨#[93]⟩ : ByteArray)
  let b11 : Bool := decide (r1.C.M > 1)
  let r12 : ByteArray := S.strconv_FormatUint r1.C.R 10
  let s13 : ByteArray := (⟨#[32]⟩ : ByteArray) ++ r12
  let s14 : ByteArray := s13 ++ (⟨#[32, 109, 111, 100, 32]⟩ : ByteArray)
  let r15 : ByteArray := S.strconv_FormatUint r1.C.M 10
  let s16 : ByteArray := s14 ++ r15
  let s17 : ByteArray := s10 ++ s16
  (bif r2 then (⟨#[110, 111, 110, 101]⟩ : ByteArray) else (bif r3.2 then r4 else (bif b11 then s17 else s10)))
def S.value_Value_Text_pre (v : S.Value) : Prop :=
  let r1 : S.Value := S.value_Value_reduced v
  let r2 : Bool := S.value_Value_IsBottom r1
  let r3 : Int × Bool := S.value_Value_Single r1
  let r5 : ByteArray := S.strconv_FormatInt r1.I.Lo 10
  let s6 : ByteArray := (⟨#[91]⟩ : ByteArray) ++ r5
  let s7 : ByteArray := s6 ++ (⟨#[44, 32]⟩ : ByteArray)
  let r8 : ByteArray := S.strconv_FormatInt r1.I.Hi 10
  let s9 : ByteArray := s7 ++ r8
  let s10 : ByteArray := s9 ++ (⟨#[93]⟩ : ByteArray)
  let b11 : Bool := decide (r1.C.M > 1)
  let r12 : ByteArray := S.strconv_FormatUint r1.C.R 10
  let s13 : ByteArray := (⟨#[32]⟩ : ByteArray) ++ r12
  let s14 : ByteArray := s13 ++ (⟨#[32, 109, 111, 100, 32]⟩ : ByteArray)
  let r15 : ByteArray := S.strconv_FormatUint r1.C.M 10
  let s16 : ByteArray := s14 ++ r15
  (All [S.value_Value_reduced_pre v, S.value_Value_IsBottom_pre r1] ∧ ((r2 = true → True) ∧ (r2 = false → (All [S.value_Value_Single_pre r1] ∧ ((r3.2 = true → (All [S.strconv_FormatInt_pre r3.1 10] ∧ True)) ∧ (r3.2 = false → (All [S.strconv_FormatInt_pre r1.I.Lo 10, (((⟨#[91]⟩ : ByteArray).size + r5.size : Nat) : Int) ≤ IntKind.i64.max, ((s6.size + (⟨#[44, 32]⟩ : ByteArray).size : Nat) : Int) ≤ IntKind.i64.max, S.strconv_FormatInt_pre r1.I.Hi 10, ((s7.size + r8.size : Nat) : Int) ≤ IntKind.i64.max, ((s9.size + (⟨#[93]⟩ : ByteArray).size : Nat) : Int) ≤ IntKind.i64.max, (b11 = true → (S.strconv_FormatUint_pre r1.C.R 10 ∧ (((⟨#[32]⟩ : ByteArray).size + r12.size : Nat) : Int) ≤ IntKind.i64.max ∧ ((s13.size + (⟨#[32, 109, 111, 100, 32]⟩ : ByteArray).size : Nat) : Int) ≤ IntKind.i64.max ∧ S.strconv_FormatUint_pre r1.C.M 10 ∧ ((s14.size + r15.size : Nat) : Int) ≤ IntKind.i64.max ∧ ((s10.size + s16.size : Nat) : Int) ≤ IntKind.i64.max))] ∧ True)))))))
/-- value.Range -/
def S.value_Range (lo : Int) (hi : Int) : S.Value :=
  let r1 : S.Inter := S.inter_Of lo hi
  let r2 : S.Cong := S.cong_Top
  let r3 : S.Value := S.value_Make r1 r2
  r3
def S.value_Range_pre (lo : Int) (hi : Int) : Prop :=
  let r1 : S.Inter := S.inter_Of lo hi
  let r2 : S.Cong := S.cong_Top
  (All [S.value_Make_pre r1 r2] ∧ True)
/-- arith.Neg -/
noncomputable def S.arith_Neg (a : S.Value) : S.Value :=
  let r1 : S.Value := S.value_One 0
  let r2 : S.Value := S.arith_Do 14 r1 a
  r2
def S.arith_Neg_pre (a : S.Value) : Prop :=
  let r1 : S.Value := S.value_One 0
  (All [S.arith_Do_pre 14 r1 a] ∧ True)
/-- sieveholeslaw22.works -/
noncomputable def S.law22_works : Bool :=
  let r1 : S.Cong := S.cong_Make 2 0
  let r2 : S.Value := S.value_Make (⟨0, 6⟩ : S.Inter) r1
  let r3 : S.Cong := S.cong_Make 4 1
  let r4 : S.Value := S.value_Make (⟨1, 9⟩ : S.Inter) r3
  let r5 : S.Value := S.arith_Do 13 r2 r4
  let r6 : ByteArray := S.value_Value_Text r5
  let b7 : Bool := (r6.toList == (⟨#[91, 49, 44, 32, 49, 53, 93, 32, 49, 32, 109, 111, 100, 32, 50]⟩ : ByteArray).toList)
  let r8 : S.Value := S.value_Range (-2) 3
  let r9 : S.Value := S.value_One 4
  let r10 : S.Value := S.arith_Do 15 r8 r9
  let r11 : ByteArray := S.value_Value_Text r10
  let b12 : Bool := (r11.toList == (⟨#[91, 45, 56, 44, 32, 49, 50, 93, 32, 48, 32, 109, 111, 100, 32, 52]⟩ : ByteArray).toList)
  let p13 : Bool := (b7 && b12)
  let t14 : Int := IntKind.i64.wrap (9223372036854775807 - 1)
  let r15 : S.Value := S.value_Range t14 9223372036854775807
  let r16 : S.Value := S.value_One 5
  let r17 : S.Value := S.arith_Do 13 r15 r16
  let r18 : ByteArray := S.value_Value_Text r17
  let b19 : Bool := (r18.toList == (⟨#[91, 45, 57, 50, 50, 51, 51, 55, 50, 48, 51, 54, 56, 53, 52, 55, 55, 53, 56, 48, 53, 44, 32, 45, 57, 50, 50, 51, 51, 55, 50, 48, 51, 54, 56, 53, 52, 55, 55, 53, 56, 48, 52, 93]⟩ : ByteArray).toList)
  let p20 : Bool := (p13 && b19)
  let r21 : S.Value := S.value_Range 0 9223372036854775807
  let r22 : S.Value := S.value_Range 1 2
  let r23 : S.Value := S.arith_Do 13 r21 r22
  let r24 : S.Value := S.value_Top
  let b25 : Bool := ((r23.I.Lo == r24.I.Lo) && ((r23.I.Hi == r24.I.Hi) && ((r23.C.M == r24.C.M) && (r23.C.R == r24.C.R))))
  let p26 : Bool := (p20 && b25)
  let r27 : S.Value := S.value_Range (-9223372036854775808) 0
  let r28 : S.Value := S.arith_Neg r27
  let r29 : S.Value := S.value_Top
  let b30 : Bool := ((r28.I.Lo == r29.I.Lo) && ((r28.I.Hi == r29.I.Hi) && ((r28.C.M == r29.C.M) && (r28.C.R == r29.C.R))))
  let p31 : Bool := (p26 && b30)
  p31
def S.law22_works_pre : Prop :=
  let r1 : S.Cong := S.cong_Make 2 0
  let r2 : S.Value := S.value_Make (⟨0, 6⟩ : S.Inter) r1
  let r3 : S.Cong := S.cong_Make 4 1
  let r4 : S.Value := S.value_Make (⟨1, 9⟩ : S.Inter) r3
  let r5 : S.Value := S.arith_Do 13 r2 r4
  let r6 : ByteArray := S.value_Value_Text r5
  let b7 : Bool := (r6.toList == (⟨#[91, 49, 44, 32, 49, 53, 93, 32, 49, 32, 109, 111, 100, 32, 50]⟩ : ByteArray).toList)
  let r8 : S.Value := S.value_Range (-2) 3
  let r9 : S.Value := S.value_One 4
  let r10 : S.Value := S.arith_Do 15 r8 r9
  let r11 : ByteArray := S.value_Value_Text r10
  let b12 : Bool := (r11.toList == (⟨#[91, 45, 56, 44, 32, 49, 50, 93, 32, 48, 32, 109, 111, 100, 32, 52]⟩ : ByteArray).toList)
  let p13 : Bool := (b7 && b12)
  let t14 : Int := IntKind.i64.wrap (9223372036854775807 - 1)
  let r15 : S.Value := S.value_Range t14 9223372036854775807
  let r16 : S.Value := S.value_One 5
  let r17 : S.Value := S.arith_Do 13 r15 r16
  let r18 : ByteArray := S.value_Value_Text r17
  let b19 : Bool := (r18.toList == (⟨#[91, 45, 57, 50, 50, 51, 51, 55, 50, 48, 51, 54, 56, 53, 52, 55, 55, 53, 56, 48, 53, 44, 32, 45, 57, 50, 50, 51, 51, 55, 50, 48, 51, 54, 56, 53, 52, 55, 55, 53, 56, 48, 52, 93]⟩ : ByteArray).toList)
  let p20 : Bool := (p13 && b19)
  let r21 : S.Value := S.value_Range 0 9223372036854775807
  let r22 : S.Value := S.value_Range 1 2
  let r23 : S.Value := S.arith_Do 13 r21 r22
  let r24 : S.Value := S.value_Top
  let b25 : Bool := ((r23.I.Lo == r24.I.Lo) && ((r23.I.Hi == r24.I.Hi) && ((r23.C.M == r24.C.M) && (r23.C.R == r24.C.R))))
  let p26 : Bool := (p20 && b25)
  let r27 : S.Value := S.value_Range (-9223372036854775808) 0
  (All [S.cong_Make_pre 2 0, S.value_Make_pre (⟨0, 6⟩ : S.Inter) r1, S.cong_Make_pre 4 1, S.value_Make_pre (⟨1, 9⟩ : S.Inter) r3, S.arith_Do_pre 13 r2 r4, S.value_Value_Text_pre r5, (b7 = true → S.value_Range_pre (-2) 3), (b7 = true → S.arith_Do_pre 15 r8 r9), (b7 = true → S.value_Value_Text_pre r10), (p13 = true → S.value_Range_pre t14 9223372036854775807), (p13 = true → S.arith_Do_pre 13 r15 r16), (p13 = true → S.value_Value_Text_pre r17), (p20 = true → S.value_Range_pre 0 9223372036854775807), (p20 = true → S.value_Range_pre 1 2), (p20 = true → S.arith_Do_pre 13 r21 r22), (p26 = true → S.value_Range_pre (-9223372036854775808) 0), (p26 = true → S.arith_Neg_pre r27)] ∧ True)
/-- sieveholeslaw22.ops -/
def S.law22_ops : (List Int) :=
  ([13, 14, 15] : List Int)
/-- arith.one -/
def S.arith_one (a : (Int × Int)) (b : (Int × Int)) : Bool :=
  let b1 : Bool := ((a.1 == b.1) && (a.2 == b.2))
  b1
/-- arith.Wraps -/
noncomputable def S.arith_Wraps (op : Int) (a : S.Value) (b : S.Value) : Bool :=
  let r1 : S.Value := S.arith_plain a
  let r2 : S.Value := S.arith_plain b
  let r3 : Bool := S.value_Value_IsBottom r1
  let r4 : Bool := S.value_Value_IsBottom r2
  let p5 : Bool := (r3 || r4)
  let r6 : Bool := S.arith_known op
  let b7 : Bool := !r6
  let p8 : Bool := (p5 || b7)
  let r9 : (Int × Int) × (Int × Int) := S.arith_bounds op r1 r2
  let t10 : Int := IntKind.i64.wrap r9.1.2
  let r11 : (Int × Int) := S.arith_of t10
  let r12 : Bool := S.arith_one r9.1 r11
  let b13 : Bool := !r12
  let t14 : Int := IntKind.i64.wrap r9.2.2
  let r15 : (Int × Int) := S.arith_of t14
  let r16 : Bool := S.arith_one r9.2 r15
  let b17 : Bool := !r16
  let p18 : Bool := (b13 || b17)
  (bif p8 then false else p18)
def S.arith_Wraps_pre (op : Int) (a : S.Value) (b : S.Value) : Prop :=
  let r1 : S.Value := S.arith_plain a
  let r2 : S.Value := S.arith_plain b
  let r3 : Bool := S.value_Value_IsBottom r1
  let r4 : Bool := S.value_Value_IsBottom r2
  let p5 : Bool := (r3 || r4)
  let r6 : Bool := S.arith_known op
  let b7 : Bool := !r6
  let p8 : Bool := (p5 || b7)
  (All [S.arith_plain_pre a, S.arith_plain_pre b, S.value_Value_IsBottom_pre r1, (r3 = false → S.value_Value_IsBottom_pre r2)] ∧ ((p8 = true → True) ∧ (p8 = false → (All [S.arith_bounds_pre op r1 r2] ∧ True))))
@[ext] structure S.law22_made_L0 where
  op : Int
  n : Int
  t8 : Bool
  l : (List Int)
  r : (List Int)
  i : Int
def S.law22_made_L0_step (x : S.law22_made_L0) : S.law22_made_L0 ⊕ (Bool × S.law22_made_L0) :=
  let b1 : Bool := decide (x.i < 4)
  let t2 : Int := IntKind.i64.wrap (Int.tdiv x.i 2)
  let e3 : Int := x.l.getD (Int.toNat t2) 0
  let t4 : Int := Int.tmod x.i 2
  let e5 : Int := x.r.getD (Int.toNat t4) 0
  let r6 : Int × Bool := S.word_Do x.op e3 e5
  let b7 : Bool := r6.1 == x.n
  let t8 : Int := IntKind.i64.wrap (x.i + 1)
  (bif b1 then (bif b7 then (.inr ⟨true, ⟨x.op, x.n, true, x.l, x.r, x.i⟩⟩) else (.inl ⟨x.op, x.n, x.t8, x.l, x.r, t8⟩)) else (.inr ⟨false, ⟨x.op, x.n, x.t8, x.l, x.r, x.i⟩⟩))
def S.law22_made_L0_vcs (x : S.law22_made_L0) : Prop :=
  let b1 : Bool := decide (x.i < 4)
  let t2 : Int := IntKind.i64.wrap (Int.tdiv x.i 2)
  let e3 : Int := x.l.getD (Int.toNat t2) 0
  let t4 : Int := Int.tmod x.i 2
  let e5 : Int := x.r.getD (Int.toNat t4) 0
  let r6 : Int × Bool := S.word_Do x.op e3 e5
  let b7 : Bool := r6.1 == x.n
  ((b1 = true → (All [(0 : Int) ≤ t2, t2 < (x.l.length : Int), (0 : Int) ≤ t4, t4 < (x.r.length : Int), S.word_Do_pre x.op e3 e5] ∧ ((b7 = true → True) ∧ (b7 = false → True)))) ∧ (b1 = false → True))
noncomputable def S.law22_made_L0_run (x : S.law22_made_L0) : Bool × S.law22_made_L0 := theRun (fun x => ⟨true, x⟩) S.law22_made_L0_step S.law22_made_L0_vcs x
/-- sieveholeslaw22.made -/
noncomputable def S.law22_made (op : Int) (a : S.Value) (b : S.Value) (n : Int) : Bool :=
  let x1 : S.law22_made_L0 := (⟨op, n, false, ([a.I.Lo, a.I.Hi] : List Int), ([b.I.Lo, b.I.Hi] : List Int), 0⟩ : S.law22_made_L0)
  let y2 : Bool × S.law22_made_L0 := S.law22_made_L0_run x1
  (bif y2.1 then y2.2.t8 else false)
def S.law22_made_pre (op : Int) (a : S.Value) (b : S.Value) (n : Int) : Prop :=
  let x1 : S.law22_made_L0 := (⟨op, n, false, ([a.I.Lo, a.I.Hi] : List Int), ([b.I.Lo, b.I.Hi] : List Int), 0⟩ : S.law22_made_L0)
  let y2 : Bool × S.law22_made_L0 := S.law22_made_L0_run x1
  (All [Runs S.law22_made_L0_step S.law22_made_L0_vcs x1 (S.law22_made_L0_run x1)] ∧ ((y2.1 = true → True) ∧ (y2.1 = false → True)))
/-- word.One -/
def S.word_One (op : Int) (a : Int) : Int × Bool :=
  let b1 : Bool := op == 18
  let t2 : Int := IntKind.i64.wrap (0 - a)
  let b3 : Bool := op == 19
  let r4 : Bool := S.word_Truth a
  let b5 : Bool := !r4
  let r6 : Int := S.word_Bit b5
  let b7 : Bool := op == 20
  let t8 : Int := bits .xor .i64 (if IntKind.i64.signed then -1 else IntKind.i64.max) a
  (bif b1 then (t2, true) else (bif b3 then (r6, true) else (bif b7 then (t8, true) else (0, false))))
@[ext] structure S.law22_ArithSound_L0 where
  t8 : Bool
  vx : Int
  y : Int
  i : Int
  a : S.Value
  b : S.Value
noncomputable def S.law22_ArithSound_L0_step (x : S.law22_ArithSound_L0) : S.law22_ArithSound_L0 ⊕ (Bool × S.law22_ArithSound_L0) :=
  let b1 : Bool := decide (x.i < 3)
  let r2 : (List Int) := S.law22_ops
  let e3 : Int := r2.getD (Int.toNat x.i) 0
  let r4 : S.Value := S.arith_Do e3 x.a x.b
  let r5 : Int × Bool := S.word_Do e3 x.vx x.y
  let r6 : S.Value := S.value_One x.vx
  let r7 : S.Value := S.value_One x.y
  let r8 : S.Value := S.arith_Do e3 r6 r7
  let r9 : Int × Bool := S.value_Value_Single r8
  let b10 : Bool := !r5.2
  let r11 : Bool := S.value_Value_Has r4 r5.1
  let b12 : Bool := !r11
  let p13 : Bool := (b10 || b12)
  let b14 : Bool := !r9.2
  let p15 : Bool := (p13 || b14)
  let b16 : Bool := r9.1 != r5.1
  let p17 : Bool := (p15 || b16)
  let r18 : S.Value := S.value_Make x.a.I x.a.C
  let r19 : S.Value := S.value_Make x.b.I x.b.C
  let r20 : Bool := S.arith_Wraps e3 x.a x.b
  let b21 : Bool := !r20
  let r22 : Bool := S.law22_made e3 r18 r19 r4.I.Lo
  let b23 : Bool := !r22
  let r24 : Bool := S.law22_made e3 r18 r19 r4.I.Hi
  let b25 : Bool := !r24
  let p26 : Bool := (b23 || b25)
  let p27 : Bool := (b21 && p26)
  let t28 : Int := IntKind.i64.wrap (x.i + 1)
  (bif b1 then (bif p17 then (.inr ⟨true, ⟨false, x.vx, x.y, x.i, x.a, x.b⟩⟩) else (bif p27 then (.inr ⟨true, ⟨false, x.vx, x.y, x.i, x.a, x.b⟩⟩) else (.inl ⟨x.t8, x.vx, x.y, t28, x.a, x.b⟩))) else (.inr ⟨false, ⟨x.t8, x.vx, x.y, x.i, x.a, x.b⟩⟩))
noncomputable def S.law22_ArithSound_L0_vcs (x : S.law22_ArithSound_L0) : Prop :=
  let b1 : Bool := decide (x.i < 3)
  let r2 : (List Int) := S.law22_ops
  let e3 : Int := r2.getD (Int.toNat x.i) 0
  let r4 : S.Value := S.arith_Do e3 x.a x.b
  let r5 : Int × Bool := S.word_Do e3 x.vx x.y
  let r6 : S.Value := S.value_One x.vx
  let r7 : S.Value := S.value_One x.y
  let r8 : S.Value := S.arith_Do e3 r6 r7
  let r9 : Int × Bool := S.value_Value_Single r8
  let b10 : Bool := !r5.2
  let r11 : Bool := S.value_Value_Has r4 r5.1
  let b12 : Bool := !r11
  let p13 : Bool := (b10 || b12)
  let b14 : Bool := !r9.2
  let p15 : Bool := (p13 || b14)
  let b16 : Bool := r9.1 != r5.1
  let p17 : Bool := (p15 || b16)
  let r18 : S.Value := S.value_Make x.a.I x.a.C
  let r19 : S.Value := S.value_Make x.b.I x.b.C
  let r20 : Bool := S.arith_Wraps e3 x.a x.b
  let b21 : Bool := !r20
  let r22 : Bool := S.law22_made e3 r18 r19 r4.I.Lo
  let b23 : Bool := !r22
  let r24 : Bool := S.law22_made e3 r18 r19 r4.I.Hi
  let b25 : Bool := !r24
  let p26 : Bool := (b23 || b25)
  let p27 : Bool := (b21 && p26)
  ((b1 = true → (All [(0 : Int) ≤ x.i, x.i < (r2.length : Int), S.arith_Do_pre e3 x.a x.b, S.word_Do_pre e3 x.vx x.y, S.arith_Do_pre e3 r6 r7, S.value_Value_Single_pre r8, (b10 = false → S.value_Value_Has_pre r4 r5.1)] ∧ ((p17 = true → True) ∧ (p17 = false → (All [S.value_Make_pre x.a.I x.a.C, S.value_Make_pre x.b.I x.b.C, S.arith_Wraps_pre e3 x.a x.b, (b21 = true → S.law22_made_pre e3 r18 r19 r4.I.Lo), (b21 = true → (b23 = false → S.law22_made_pre e3 r18 r19 r4.I.Hi))] ∧ ((p27 = true → True) ∧ (p27 = false → True))))))) ∧ (b1 = false → True))
noncomputable def S.law22_ArithSound_L0_run (x : S.law22_ArithSound_L0) : Bool × S.law22_ArithSound_L0 := theRun (fun x => ⟨true, x⟩) S.law22_ArithSound_L0_step S.law22_ArithSound_L0_vcs x
/-- sieveholeslaw22.ArithSound -/
noncomputable def S.law22_ArithSound (a : S.Value) (b : S.Value) (n : Int) (m : Int) : Bool :=
  let r1 : Int × Bool := S.law22_near a n
  let r2 : Int × Bool := S.law22_near b m
  let b3 : Bool := !r1.2
  let b4 : Bool := !r2.2
  let p5 : Bool := (b3 || b4)
  let r6 : S.Value := S.value_Make a.I a.C
  let r7 : Bool := S.value_Value_IsBottom r6
  let r8 : S.Value := S.value_Make b.I b.C
  let r9 : Bool := S.value_Value_IsBottom r8
  let p10 : Bool := (r7 || r9)
  let r11 : Bool := S.law22_works
  let p12 : Bool := (p10 && r11)
  let x13 : S.law22_ArithSound_L0 := (⟨false, r1.1, r2.1, 0, a, b⟩ : S.law22_ArithSound_L0)
  let y14 : Bool × S.law22_ArithSound_L0 := S.law22_ArithSound_L0_run x13
  let r15 : Int × Bool := S.word_One 18 y14.2.vx
  let r16 : S.Value := S.arith_Neg y14.2.a
  let r17 : Bool := S.value_Value_Has r16 r15.1
  let p18 : Bool := (r15.2 && r17)
  let r19 : Bool := S.law22_works
  let p20 : Bool := (p18 && r19)
  (bif p5 then p12 else (bif y14.1 then y14.2.t8 else p20))
def S.law22_ArithSound_pre (a : S.Value) (b : S.Value) (n : Int) (m : Int) : Prop :=
  let r1 : Int × Bool := S.law22_near a n
  let r2 : Int × Bool := S.law22_near b m
  let b3 : Bool := !r1.2
  let b4 : Bool := !r2.2
  let p5 : Bool := (b3 || b4)
  let r6 : S.Value := S.value_Make a.I a.C
  let r7 : Bool := S.value_Value_IsBottom r6
  let r8 : S.Value := S.value_Make b.I b.C
  let r9 : Bool := S.value_Value_IsBottom r8
  let p10 : Bool := (r7 || r9)
  let x13 : S.law22_ArithSound_L0 := (⟨false, r1.1, r2.1, 0, a, b⟩ : S.law22_ArithSound_L0)
  let y14 : Bool × S.law22_ArithSound_L0 := S.law22_ArithSound_L0_run x13
  let r15 : Int × Bool := S.word_One 18 y14.2.vx
  let r16 : S.Value := S.arith_Neg y14.2.a
  let r17 : Bool := S.value_Value_Has r16 r15.1
  let p18 : Bool := (r15.2 && r17)
  (All [S.law22_near_pre a n, S.law22_near_pre b m] ∧ ((p5 = true → (All [S.value_Make_pre a.I a.C, S.value_Value_IsBottom_pre r6, (r7 = false → S.value_Make_pre b.I b.C), (r7 = false → S.value_Value_IsBottom_pre r8), (p10 = true → S.law22_works_pre)] ∧ True)) ∧ (p5 = false → (All [Runs S.law22_ArithSound_L0_step S.law22_ArithSound_L0_vcs x13 (S.law22_ArithSound_L0_run x13)] ∧ ((y14.1 = true → True) ∧ (y14.1 = false → (All [(r15.2 = true → S.arith_Neg_pre y14.2.a), (r15.2 = true → S.value_Value_Has_pre r16 r15.1), (p18 = true → S.law22_works_pre)] ∧ True)))))))
