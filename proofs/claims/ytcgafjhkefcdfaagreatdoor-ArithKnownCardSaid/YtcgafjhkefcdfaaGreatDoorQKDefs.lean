/-
  Printed by a program for this claim: functions of the code as plain functions, and that the code comes to them. Conditions: those that each theorem states.
-/
import Derived.Test.YtcgafjhkefcdfaaGreatDoorVm16
set_option linter.all false
open Go Vm
noncomputable section
@[ext] structure S.Cong where
 M : Int
 R : Int
@[ext] structure S.Inter where
 Lo : Int
 Hi : Int
@[ext] structure S.Value where
 I : S.Inter
 C : S.Cong
def S.Inter.ok (x : S.Inter) : Prop := (inr .i64 x.Lo) ∧ (inr .i64 x.Hi) ∧ True
def S.Cong.ok (x : S.Cong) : Prop := (inr .u64 x.M) ∧ (inr .u64 x.R) ∧ True
def S.Value.ok (x : S.Value) : Prop := (S.Inter.ok x.I) ∧ (S.Cong.ok x.C) ∧ True
def S.cong_Const (n : Int) : S.Cong :=
 let t1 := IntKind.u64.wrap n
 (⟨0, t1⟩ : S.Cong)
def S.cong_rest (n : Int) (m : Int) : Int :=
 let b1 := decide (n < 0)
 let t2 := IntKind.u64.wrap (m - 1)
 let t3 := IntKind.u64.wrap n
 let t4 := bits .xor .u64 (if IntKind.u64.signed then -1 else IntKind.u64.max) t3
 let t5 := Int.tmod t4 m
 let t6 := IntKind.u64.wrap (t2 - t5)
 let t7 := IntKind.u64.wrap n
 let t8 := Int.tmod t7 m
 (bif b1 then t6 else t8)
def S.cong_rest_pre (n : Int) (m : Int) : Prop :=
 let b1 := decide (n < 0)
 ((b1 = true → (All [m ≠ 0] ∧ True)) ∧ (b1 = false → (All [m ≠ 0] ∧ True)))
def S.cong_Make (m : Int) (n : Int) : S.Cong :=
 let b1 := m == 0
 let r2 := S.cong_Const n
 let r3 := S.cong_rest n m
 (bif b1 then r2 else (⟨m, r3⟩ : S.Cong))
def S.cong_Make_pre (m : Int) (n : Int) : Prop :=
 let b1 := m == 0
 ((b1 = true → True) ∧ (b1 = false → (All [S.cong_rest_pre n m] ∧ True)))
def S.docs_Value (v : S.Value) : S.Value :=
 v
def S.cong_Cong_single (c : S.Cong) : Bool :=
 let b1 := c.M == 0
 b1
def S.cong_Cong_Right (c : S.Cong) : Bool :=
 let r1 := S.cong_Cong_single c
 let b2 := decide (c.R < c.M)
 let p3 := (r1 || b2)
 p3
def S.cong_Cong_number (c : S.Cong) : Int :=
 let t1 := IntKind.i64.wrap c.R
 t1
def S.cong_Cong_number0 (c : S.Cong) (ok : Bool) : Int × Bool :=
 let b1 := !ok
 let r2 := S.cong_Cong_number c
 (bif b1 then (0, false) else (r2, true))
def S.math_bits_Add64 (x y c : Int) : Int × Int := ((x + y + c) % 18446744073709551616, (x + y + c) / 18446744073709551616)
def S.math_bits_Add64_pre (x y c : Int) : Prop := 0 ≤ x ∧ 0 ≤ y ∧ 0 ≤ c ∧ c ≤ 1
def S.cong_plus (a : Int) (b : Int) (m : Int) : Int :=
 let r1 := S.math_bits_Add64 a b 0
 let b2 := decide (r1.2 > 0)
 let b3 := decide (r1.1 ≥ m)
 let p4 := (b2 || b3)
 let t5 := IntKind.u64.wrap (r1.1 - m)
 (bif p4 then t5 else r1.1)
def S.cong_plus_pre (a : Int) (b : Int) (m : Int) : Prop :=
 (All [S.math_bits_Add64_pre a b 0] ∧ True)
def S.cong_Cong_Least (c : S.Cong) (a1 : Int) : Int × Bool :=
 let r1 := S.cong_Cong_single c
 let r2 := S.cong_Cong_number c
 let b3 := decide (r2 ≥ a1)
 let r4 := S.cong_Cong_number0 c b3
 let r5 := S.cong_rest a1 c.M
 let t6 := IntKind.u64.wrap (c.M - r5)
 let t7 := Int.tmod t6 c.M
 let r8 := S.cong_plus c.R t7 c.M
 let t9 := IntKind.u64.wrap a1
 let t10 := IntKind.u64.wrap (9223372036854775807 - t9)
 let b11 := decide (r8 > t10)
 let t12 := IntKind.i64.wrap r8
 let t13 := IntKind.i64.wrap (a1 + t12)
 (bif r1 then (r4.1, r4.2) else (bif b11 then (0, false) else (t13, true)))
def S.cong_Cong_Least_pre (c : S.Cong) (a1 : Int) : Prop :=
 let r1 := S.cong_Cong_single c
 let r5 := S.cong_rest a1 c.M
 let t6 := IntKind.u64.wrap (c.M - r5)
 let t7 := Int.tmod t6 c.M
 let r8 := S.cong_plus c.R t7 c.M
 let t9 := IntKind.u64.wrap a1
 let t10 := IntKind.u64.wrap (9223372036854775807 - t9)
 let b11 := decide (r8 > t10)
 ((r1 = true → True) ∧ (r1 = false → (All [S.cong_rest_pre a1 c.M, c.M ≠ 0, S.cong_plus_pre c.R t7 c.M] ∧ ((b11 = true → True) ∧ (b11 = false → True)))))
def S.cong_Cong_Greatest (c : S.Cong) (to : Int) : Int × Bool :=
 let r1 := S.cong_Cong_single c
 let r2 := S.cong_Cong_number c
 let b3 := decide (r2 ≤ to)
 let r4 := S.cong_Cong_number0 c b3
 let r5 := S.cong_rest to c.M
 let t6 := IntKind.u64.wrap (c.M - c.R)
 let t7 := Int.tmod t6 c.M
 let r8 := S.cong_plus r5 t7 c.M
 let t9 := IntKind.u64.wrap to
 let t10 := IntKind.u64.wrap (t9 + 9223372036854775808)
 let b11 := decide (r8 > t10)
 let t12 := IntKind.i64.wrap r8
 let t13 := IntKind.i64.wrap (to - t12)
 (bif r1 then (r4.1, r4.2) else (bif b11 then (0, false) else (t13, true)))
def S.cong_Cong_Greatest_pre (c : S.Cong) (to : Int) : Prop :=
 let r1 := S.cong_Cong_single c
 let r5 := S.cong_rest to c.M
 let t6 := IntKind.u64.wrap (c.M - c.R)
 let t7 := Int.tmod t6 c.M
 let r8 := S.cong_plus r5 t7 c.M
 let t9 := IntKind.u64.wrap to
 let t10 := IntKind.u64.wrap (t9 + 9223372036854775808)
 let b11 := decide (r8 > t10)
 ((r1 = true → True) ∧ (r1 = false → (All [S.cong_rest_pre to c.M, c.M ≠ 0, S.cong_plus_pre r5 t7 c.M] ∧ ((b11 = true → True) ∧ (b11 = false → True)))))
def S.inter_Empty : S.Inter :=
 (⟨1, 0⟩ : S.Inter)
def S.inter_Of (lo : Int) (hi : Int) : S.Inter :=
 let b1 := decide (lo > hi)
 let r2 := S.inter_Empty
 (bif b1 then r2 else (⟨lo, hi⟩ : S.Inter))
def S.inter_Inter_plain (i : S.Inter) : S.Inter :=
 let r1 := S.inter_Of i.Lo i.Hi
 r1
def S.inter_Inter_IsEmpty (i : S.Inter) : Bool :=
 let r1 := S.inter_Inter_plain i
 let r2 := S.inter_Empty
 let b3 : Bool := ((r1.Lo == r2.Lo) && (r1.Hi == r2.Hi))
 b3
def S.cong_Top : S.Cong :=
 (⟨1, 0⟩ : S.Cong)
def S.value_Bottom : S.Value :=
 let r1 := S.inter_Empty
 let r2 := S.cong_Top
 (⟨r1, r2⟩ : S.Value)
def S.inter_One (n : Int) : S.Inter :=
 (⟨n, n⟩ : S.Inter)
def S.value_One (n : Int) : S.Value :=
 let r1 := S.inter_One n
 let r2 := S.cong_Const n
 (⟨r1, r2⟩ : S.Value)
def S.value_Make (i : S.Inter) (c : S.Cong) : S.Value :=
 let r1 := S.cong_Cong_Right c
 let b2 := !r1
 let t3 := Int.tmod c.R c.M
 let r4 := S.cong_Cong_Least (⟨c.M, (bif b2 then t3 else c.R)⟩ : S.Cong) i.Lo
 let r5 := S.cong_Cong_Greatest (⟨c.M, (bif b2 then t3 else c.R)⟩ : S.Cong) i.Hi
 let r6 := S.inter_Inter_IsEmpty i
 let b7 := !r4.2
 let p8 := (r6 || b7)
 let b9 := !r5.2
 let p10 := (p8 || b9)
 let b11 := decide (r4.1 > r5.1)
 let p12 := (p10 || b11)
 let r13 := S.value_Bottom
 let b14 := r4.1 == r5.1
 let r15 := S.value_One r4.1
 let r16 := S.inter_Of r4.1 r5.1
 (bif p12 then r13 else (bif b14 then r15 else (⟨r16, (⟨c.M, (bif b2 then t3 else c.R)⟩ : S.Cong)⟩ : S.Value)))
def S.value_Make_pre (i : S.Inter) (c : S.Cong) : Prop :=
 let r1 := S.cong_Cong_Right c
 let b2 := !r1
 let t3 := Int.tmod c.R c.M
 let r4 := S.cong_Cong_Least (⟨c.M, (bif b2 then t3 else c.R)⟩ : S.Cong) i.Lo
 let r5 := S.cong_Cong_Greatest (⟨c.M, (bif b2 then t3 else c.R)⟩ : S.Cong) i.Hi
 let r6 := S.inter_Inter_IsEmpty i
 let b7 := !r4.2
 let p8 := (r6 || b7)
 let b9 := !r5.2
 let p10 := (p8 || b9)
 let b11 := decide (r4.1 > r5.1)
 let p12 := (p10 || b11)
 let b14 := r4.1 == r5.1
 (All [(b2 = true → c.M ≠ 0), S.cong_Cong_Least_pre (⟨c.M, (bif b2 then t3 else c.R)⟩ : S.Cong) i.Lo, S.cong_Cong_Greatest_pre (⟨c.M, (bif b2 then t3 else c.R)⟩ : S.Cong) i.Hi] ∧ ((p12 = true → True) ∧ (p12 = false → ((b14 = true → True) ∧ (b14 = false → True)))))
def S.arith_plain (v : S.Value) : S.Value :=
 let r1 := S.value_Make v.I v.C
 r1
def S.arith_plain_pre (v : S.Value) : Prop :=
 (All [S.value_Make_pre v.I v.C] ∧ True)
def S.value_Value_reduced (v : S.Value) : S.Value :=
 let r1 := S.value_Make v.I v.C
 r1
def S.value_Value_reduced_pre (v : S.Value) : Prop :=
 (All [S.value_Make_pre v.I v.C] ∧ True)
def S.inter_Inter_Single (i : S.Inter) : Int × Bool :=
 let r1 := S.inter_One i.Lo
 let b2 := !((i.Lo == r1.Lo) && (i.Hi == r1.Hi))
 (bif b2 then (0, false) else (i.Lo, true))
def S.value_Value_Single (v : S.Value) : Int × Bool :=
 let r1 := S.value_Value_reduced v
 let r2 := S.inter_Inter_Single r1.I
 (r2.1, r2.2)
def S.value_Value_Single_pre (v : S.Value) : Prop :=
 (All [S.value_Value_reduced_pre v] ∧ True)
def S.value_Value_IsBottom (v : S.Value) : Bool :=
 let r1 := S.value_Value_reduced v
 let r2 := S.value_Bottom
 let b3 : Bool := ((r1.I.Lo == r2.I.Lo) && ((r1.I.Hi == r2.I.Hi) && ((r1.C.M == r2.C.M) && (r1.C.R == r2.C.R))))
 b3
def S.value_Value_IsBottom_pre (v : S.Value) : Prop :=
 (All [S.value_Value_reduced_pre v] ∧ True)
def S.arith_known (op : Int) : Bool :=
 let b1 := op == 13
 let b2 := op == 14
 let p3 := (b1 || b2)
 let b4 := op == 15
 let p5 := (p3 || b4)
 p5
def S.inter_Whole : S.Inter :=
 (⟨(-9223372036854775808), 9223372036854775807⟩ : S.Inter)
def S.value_Top : S.Value :=
 let r1 := S.inter_Whole
 let r2 := S.cong_Top
 (⟨r1, r2⟩ : S.Value)
def S.cmp_isNaNint64 (x : Int) : Bool :=
 let b1 := x != x
 b1
def S.cmp_Compareint64 (x : Int) (y : Int) : Int :=
 let r1 := S.cmp_isNaNint64 x
 let r2 := S.cmp_isNaNint64 y
 let b3 := decide (x < y)
 let b4 := decide (x > y)
 (bif r1 then (bif r2 then 0 else (-1)) else (bif r2 then 1 else (bif b3 then (-1) else (bif b4 then 1 else 0))))
def S.word_compares (op : Int) (a : Int) (b : Int) : Bool × Bool :=
 let r1 := S.cmp_Compareint64 a b
 let b2 := op == 3
 let b3 := op == 2
 let b4 := op == 7
 let b5 := op == 4
 let b6 := op == 5
 let b7 := op == 6
 let b8 := r1 == 0
 let b9 := !(b8 == true)
 let b10 := r1 == 0
 let b11 := !(b10 == false)
 let b12 := decide (r1 < 0)
 let b13 := !(b12 == true)
 let b14 := decide (r1 < 0)
 let b15 := !(b14 == false)
 let b16 := decide (r1 > 0)
 let b17 := !(b16 == true)
 let b18 := decide (r1 > 0)
 let b19 := !(b18 == false)
 (bif b2 then (b9, true) else (bif b3 then (b11, true) else (bif b4 then (b13, true) else (bif b5 then (b15, true) else (bif b6 then (b17, true) else (bif b7 then (b19, true) else (false, false)))))))
def S.word_Bit (x : Bool) : Int :=
 (bif x then 1 else 0)
def S.word_Truth (n : Int) : Bool :=
 let b1 := n != 0
 b1
def S.word_reckons_1 (a : Int) (b : Int) : Int :=
 let r1 := S.word_Truth a
 let r2 := S.word_Truth b
 let p3 := (r1 || r2)
 let r4 := S.word_Bit p3
 r4
def S.word_reckons_2 (a : Int) (b : Int) : Int :=
 let r1 := S.word_Truth a
 let r2 := S.word_Truth b
 let p3 := (r1 && r2)
 let r4 := S.word_Bit p3
 r4
def S.word_reckons_3 (a : Int) (b : Int) : Int :=
 let t1 := bits .or .i64 a b
 t1
def S.word_reckons_4 (a : Int) (b : Int) : Int :=
 let t1 := bits .xor .i64 a b
 t1
def S.word_reckons_5 (a : Int) (b : Int) : Int :=
 let t1 := bits .and .i64 a b
 t1
def S.word_Shift (b : Int) : Int :=
 let t1 := bits .and .i64 b 63
 let t2 := IntKind.u64.wrap t1
 t2
def S.word_reckons_6 (a : Int) (b : Int) : Int :=
 let r1 := S.word_Shift b
 let t2 := IntKind.i64.wrap (a * 2 ^ min (Int.toNat r1) 64)
 t2
def S.word_reckons_6_pre (a : Int) (b : Int) : Prop :=
 let r1 := S.word_Shift b
 (All [(0 : Int) ≤ r1] ∧ True)
def S.word_reckons_7 (a : Int) (b : Int) : Int :=
 let r1 := S.word_Shift b
 let t2 := Int.fdiv a (2 ^ min (Int.toNat r1) 64)
 t2
def S.word_reckons_7_pre (a : Int) (b : Int) : Prop :=
 let r1 := S.word_Shift b
 (All [(0 : Int) ≤ r1] ∧ True)
def S.word_reckons_8 (a : Int) (b : Int) : Int :=
 let t1 := IntKind.i64.wrap (a + b)
 t1
def S.word_reckons_9 (a : Int) (b : Int) : Int :=
 let t1 := IntKind.i64.wrap (a - b)
 t1
def S.word_reckons_10 (a : Int) (b : Int) : Int :=
 let t1 := IntKind.i64.wrap (a * b)
 t1
def S.word_reckons_11 (a : Int) (b : Int) : Int :=
 let t1 := IntKind.i64.wrap (Int.tdiv a b)
 t1
def S.word_reckons_11_pre (a : Int) (b : Int) : Prop :=
 (All [b ≠ 0] ∧ True)
def S.word_reckons_12 (a : Int) (b : Int) : Int :=
 let t1 := Int.tmod a b
 t1
def S.word_reckons_12_pre (a : Int) (b : Int) : Prop :=
 (All [b ≠ 0] ∧ True)
def S.word_reckons : (List (Int × Go.Value)) :=
 ([(0, .func (.func 119) #[] #[]), (1, .func (.func 120) #[] #[]), (8, .func (.func 121) #[] #[]), (9, .func (.func 122) #[] #[]), (10, .func (.func 123) #[] #[]), (11, .func (.func 124) #[] #[]), (12, .func (.func 126) #[] #[]), (13, .func (.func 127) #[] #[]), (14, .func (.func 128) #[] #[]), (15, .func (.func 129) #[] #[]), (16, .func (.func 130) #[] #[]), (17, .func (.func 131) #[] #[])] : List (Int × Go.Value))
def S.word_Traps (op : Int) : Bool :=
 let b1 := op == 16
 let b2 := op == 17
 let p3 := (b1 || b2)
 p3
def S.word_Do (op : Int) (a : Int) (b : Int) : Int × Bool :=
 let r1 := S.word_compares op a b
 let r2 := S.word_Bit r1.1
 let b4 := op == 0
 let b5 := op == 1
 let b6 := op == 8
 let b7 := op == 9
 let b8 := op == 10
 let b9 := op == 11
 let b10 := op == 12
 let b11 := op == 13
 let b12 := op == 14
 let b13 := op == 15
 let b14 := op == 16
 let b15 := op == 17
 let b16 := b4 || (b5 || (b6 || (b7 || (b8 || (b9 || (b10 || (b11 || (b12 || (b13 || (b14 || (b15 || (false))))))))))))
 let b17 := !b16
 let r18 := S.word_Traps op
 let b19 := b == 0
 let p20 := (r18 && b19)
 let p21 := (b17 || p20)
 let r22 := S.word_reckons_1 a b
 let r23 := S.word_reckons_2 a b
 let r24 := S.word_reckons_3 a b
 let r25 := S.word_reckons_4 a b
 let r26 := S.word_reckons_5 a b
 let r27 := S.word_reckons_6 a b
 let r28 := S.word_reckons_7 a b
 let r29 := S.word_reckons_8 a b
 let r30 := S.word_reckons_9 a b
 let r31 := S.word_reckons_10 a b
 let r32 := S.word_reckons_11 a b
 let r33 := S.word_reckons_12 a b
 let m34 : Int := (bif b14 then r32 else r33)
 let m35 : Int := (bif b13 then r31 else m34)
 let m36 : Int := (bif b12 then r30 else m35)
 let m37 : Int := (bif b11 then r29 else m36)
 let m38 : Int := (bif b10 then r28 else m37)
 let m39 : Int := (bif b9 then r27 else m38)
 let m40 : Int := (bif b8 then r26 else m39)
 let m41 : Int := (bif b7 then r25 else m40)
 let m42 : Int := (bif b6 then r24 else m41)
 let m43 : Int := (bif b5 then r23 else m42)
 let m44 : Int := (bif b4 then r22 else m43)
 (bif r1.2 then (r2, true) else (bif p21 then (0, false) else (m44, true)))
def S.word_Do_pre (op : Int) (a : Int) (b : Int) : Prop :=
 let r1 := S.word_compares op a b
 let b4 := op == 0
 let b5 := op == 1
 let b6 := op == 8
 let b7 := op == 9
 let b8 := op == 10
 let b9 := op == 11
 let b10 := op == 12
 let b11 := op == 13
 let b12 := op == 14
 let b13 := op == 15
 let b14 := op == 16
 let b15 := op == 17
 let b16 := b4 || (b5 || (b6 || (b7 || (b8 || (b9 || (b10 || (b11 || (b12 || (b13 || (b14 || (b15 || (false))))))))))))
 let b17 := !b16
 let r18 := S.word_Traps op
 let b19 := b == 0
 let p20 := (r18 && b19)
 let p21 := (b17 || p20)
 ((r1.2 = true → True) ∧ (r1.2 = false → ((p21 = true → True) ∧ (p21 = false → (All [((b4 = true → True) ∧ (b4 = false → ((b5 = true → True) ∧ (b5 = false → ((b6 = true → True) ∧ (b6 = false → ((b7 = true → True) ∧ (b7 = false → ((b8 = true → True) ∧ (b8 = false → ((b9 = true → S.word_reckons_6_pre a b) ∧ (b9 = false → ((b10 = true → S.word_reckons_7_pre a b) ∧ (b10 = false → ((b11 = true → True) ∧ (b11 = false → ((b12 = true → True) ∧ (b12 = false → ((b13 = true → True) ∧ (b13 = false → ((b14 = true → S.word_reckons_11_pre a b) ∧ (b14 = false → (b15 = true ∧ S.word_reckons_12_pre a b)))))))))))))))))))))))] ∧ True)))))
def S.arith_of (n : Int) : (Int × Int) :=
 let t1 := Int.fdiv n (2 ^ min (Int.toNat 63) 64)
 let t2 := IntKind.u64.wrap t1
 let t3 := IntKind.u64.wrap n
 (t2, t3)
def S.arith_wide_plus (a : (Int × Int)) (b : (Int × Int)) : (Int × Int) :=
 let r1 := S.math_bits_Add64 a.2 b.2 0
 let r2 := S.math_bits_Add64 a.1 b.1 r1.2
 (r2.1, r1.1)
def S.arith_wide_plus_pre (a : (Int × Int)) (b : (Int × Int)) : Prop :=
 let r1 := S.math_bits_Add64 a.2 b.2 0
 (All [S.math_bits_Add64_pre a.2 b.2 0, S.math_bits_Add64_pre a.1 b.1 r1.2] ∧ True)
def S.math_bits_Sub64 (x y c : Int) : Int × Int := ((x + 18446744073709551616 - y - c) % 18446744073709551616, if x < y + c then 1 else 0)
def S.math_bits_Sub64_pre (x y c : Int) : Prop := 0 ≤ x ∧ 0 ≤ y ∧ y ≤ 18446744073709551615 ∧ 0 ≤ c ∧ c ≤ 1
def S.arith_wide_minus (a : (Int × Int)) (b : (Int × Int)) : (Int × Int) :=
 let r1 := S.math_bits_Sub64 a.2 b.2 0
 let r2 := S.math_bits_Sub64 a.1 b.1 r1.2
 (r2.1, r1.1)
def S.arith_wide_minus_pre (a : (Int × Int)) (b : (Int × Int)) : Prop :=
 let r1 := S.math_bits_Sub64 a.2 b.2 0
 (All [S.math_bits_Sub64_pre a.2 b.2 0, S.math_bits_Sub64_pre a.1 b.1 r1.2] ∧ True)
def S.math_bits_Mul64 (x : Int) (y : Int) : Int × Int :=
 let t1 := bits .and .u64 x 4294967295
 let t2 := Int.fdiv x (2 ^ min (Int.toNat 32) 64)
 let t3 := bits .and .u64 y 4294967295
 let t4 := Int.fdiv y (2 ^ min (Int.toNat 32) 64)
 let t5 := IntKind.u64.wrap (t1 * t3)
 let t6 := IntKind.u64.wrap (t2 * t3)
 let t7 := Int.fdiv t5 (2 ^ min (Int.toNat 32) 64)
 let t8 := IntKind.u64.wrap (t6 + t7)
 let t9 := bits .and .u64 t8 4294967295
 let t10 := Int.fdiv t8 (2 ^ min (Int.toNat 32) 64)
 let t11 := IntKind.u64.wrap (t1 * t4)
 let t12 := IntKind.u64.wrap (t9 + t11)
 let t13 := IntKind.u64.wrap (t2 * t4)
 let t14 := IntKind.u64.wrap (t13 + t10)
 let t15 := Int.fdiv t12 (2 ^ min (Int.toNat 32) 64)
 let t16 := IntKind.u64.wrap (t14 + t15)
 let t17 := IntKind.u64.wrap (x * y)
 (t16, t17)
def S.arith_times (a : Int) (b : Int) : (Int × Int) :=
 let t1 := IntKind.u64.wrap a
 let t2 := IntKind.u64.wrap b
 let r3 := S.math_bits_Mul64 t1 t2
 let b4 := decide (a < 0)
 let t5 := IntKind.u64.wrap b
 let t6 := IntKind.u64.wrap (r3.1 - t5)
 let b7 := decide (b < 0)
 let t8 := IntKind.u64.wrap a
 let t9 := IntKind.u64.wrap ((bif b4 then t6 else r3.1) - t8)
 ((bif b7 then t9 else (bif b4 then t6 else r3.1)), r3.2)
def S.arith_exact (op : Int) (a : Int) (b : Int) : (Int × Int) :=
 let b1 := op == 13
 let r2 := S.arith_of a
 let r3 := S.arith_of b
 let r4 := S.arith_wide_plus r2 r3
 let b5 := op == 14
 let r6 := S.arith_of a
 let r7 := S.arith_of b
 let r8 := S.arith_wide_minus r6 r7
 let r9 := S.arith_times a b
 (bif b1 then r4 else (bif b5 then r8 else r9))
def S.arith_exact_pre (op : Int) (a : Int) (b : Int) : Prop :=
 let b1 := op == 13
 let r2 := S.arith_of a
 let r3 := S.arith_of b
 let b5 := op == 14
 let r6 := S.arith_of a
 let r7 := S.arith_of b
 ((b1 = true → (All [S.arith_wide_plus_pre r2 r3] ∧ True)) ∧ (b1 = false → ((b5 = true → (All [S.arith_wide_minus_pre r6 r7] ∧ True)) ∧ (b5 = false → True))))
def S.arith_wide_less (a : (Int × Int)) (b : (Int × Int)) : Bool :=
 let b1 := a.1 != b.1
 let t2 := IntKind.i64.wrap a.1
 let t3 := IntKind.i64.wrap b.1
 let b4 := decide (t2 < t3)
 let b5 := decide (a.2 < b.2)
 (bif b1 then b4 else b5)
@[ext] structure S.arith_bounds_L0 where
 op : Int
 t33 : Int
 lo_0 : Int
 lo_1 : Int
 hi_0 : Int
 hi_1 : Int
 l : (List Int)
 r : (List Int)
def S.arith_bounds_L0_step (x : S.arith_bounds_L0) : S.arith_bounds_L0 ⊕ (S.arith_bounds_L0) :=
 let b1 := decide (x.t33 < 4)
 let t2 := IntKind.i64.wrap (Int.tdiv x.t33 2)
 let e3 := x.l.getD (Int.toNat t2) 0
 let t4 := Int.tmod x.t33 2
 let e5 := x.r.getD (Int.toNat t4) 0
 let r6 := S.arith_exact x.op e3 e5
 let r7 := S.arith_wide_less r6 (x.lo_0, x.lo_1)
 let r8 := S.arith_wide_less (x.hi_0, x.hi_1) r6
 let t9 := IntKind.i64.wrap (x.t33 + 1)
 (bif b1 then (.inl ⟨x.op, t9, (bif r7 then r6.1 else x.lo_0), (bif r7 then r6.2 else x.lo_1), (bif r8 then r6.1 else x.hi_0), (bif r8 then r6.2 else x.hi_1), x.l, x.r⟩) else (.inr ⟨x.op, x.t33, x.lo_0, x.lo_1, x.hi_0, x.hi_1, x.l, x.r⟩))
def S.arith_bounds_L0_vcs (x : S.arith_bounds_L0) : Prop :=
 let b1 := decide (x.t33 < 4)
 let t2 := IntKind.i64.wrap (Int.tdiv x.t33 2)
 let e3 := x.l.getD (Int.toNat t2) 0
 let t4 := Int.tmod x.t33 2
 let e5 := x.r.getD (Int.toNat t4) 0
 ((b1 = true → (All [(0 : Int) ≤ t2, t2 < (2 : Int), (0 : Int) ≤ t4, t4 < (2 : Int), S.arith_exact_pre x.op e3 e5] ∧ True)) ∧ (b1 = false → True))
def S.arith_bounds_L0_run (x : S.arith_bounds_L0) : S.arith_bounds_L0 := theRun (fun x => x) S.arith_bounds_L0_step S.arith_bounds_L0_vcs x
def S.arith_bounds (op : Int) (a : S.Value) (b : S.Value) : (Int × Int) × (Int × Int) :=
 let e1 := ([a.I.Lo, a.I.Hi] : List Int).getD (Int.toNat 0) 0
 let e2 := ([b.I.Lo, b.I.Hi] : List Int).getD (Int.toNat 0) 0
 let r3 := S.arith_exact op e1 e2
 let x4 := (⟨op, 0, r3.1, r3.2, r3.1, r3.2, ([a.I.Lo, a.I.Hi] : List Int), ([b.I.Lo, b.I.Hi] : List Int)⟩ : S.arith_bounds_L0)
 let y5 := S.arith_bounds_L0_run x4
 ((y5.lo_0, y5.lo_1), (y5.hi_0, y5.hi_1))
def S.arith_bounds_pre (op : Int) (a : S.Value) (b : S.Value) : Prop :=
 let e1 := ([a.I.Lo, a.I.Hi] : List Int).getD (Int.toNat 0) 0
 let e2 := ([b.I.Lo, b.I.Hi] : List Int).getD (Int.toNat 0) 0
 let r3 := S.arith_exact op e1 e2
 let x4 := (⟨op, 0, r3.1, r3.2, r3.1, r3.2, ([a.I.Lo, a.I.Hi] : List Int), ([b.I.Lo, b.I.Hi] : List Int)⟩ : S.arith_bounds_L0)
 (All [(0 : Int) ≤ 0, (0 : Int) < (2 : Int), (0 : Int) ≤ 0, (0 : Int) < (2 : Int), S.arith_exact_pre op e1 e2, Runs S.arith_bounds_L0_step S.arith_bounds_L0_vcs x4 (S.arith_bounds_L0_run x4)] ∧ True)
@[ext] structure S.cong_gcd_L0 where
 a : Int
 b : Int
def S.cong_gcd_L0_step (x : S.cong_gcd_L0) : S.cong_gcd_L0 ⊕ (S.cong_gcd_L0) :=
 let b1 := x.b == 0
 let t2 := Int.tmod x.a x.b
 (bif b1 then (.inr ⟨x.a, x.b⟩) else (.inl ⟨x.b, t2⟩))
def S.cong_gcd_L0_vcs (x : S.cong_gcd_L0) : Prop :=
 let b1 := x.b == 0
 ((b1 = true → True) ∧ (b1 = false → (All [x.b ≠ 0] ∧ True)))
def S.cong_gcd_L0_run (x : S.cong_gcd_L0) : S.cong_gcd_L0 := theRun (fun x => x) S.cong_gcd_L0_step S.cong_gcd_L0_vcs x
def S.cong_gcd (a : Int) (b : Int) : Int :=
 let x1 := (⟨a, b⟩ : S.cong_gcd_L0)
 let y2 := S.cong_gcd_L0_run x1
 y2.a
def S.cong_gcd_pre (a : Int) (b : Int) : Prop :=
 let x1 := (⟨a, b⟩ : S.cong_gcd_L0)
 (All [Runs S.cong_gcd_L0_step S.cong_gcd_L0_vcs x1 (S.cong_gcd_L0_run x1)] ∧ True)
def S.cong_Cong_by (c : S.Cong) (g : Int) : Int :=
 let r1 := S.cong_Cong_single c
 let r2 := S.cong_Cong_number c
 let r3 := S.cong_rest r2 g
 let t4 := Int.tmod c.R g
 (bif r1 then r3 else t4)
def S.cong_Cong_by_pre (c : S.Cong) (g : Int) : Prop :=
 let r1 := S.cong_Cong_single c
 let r2 := S.cong_Cong_number c
 ((r1 = true → (All [S.cong_rest_pre r2 g] ∧ True)) ∧ (r1 = false → (All [g ≠ 0] ∧ True)))
def S.cong_Add (a : S.Cong) (b : S.Cong) : S.Cong :=
 let r1 := S.cong_gcd a.M b.M
 let b2 := r1 == 0
 let t3 := IntKind.u64.wrap (a.R + b.R)
 let r4 := S.cong_Cong_by a r1
 let r5 := S.cong_Cong_by b r1
 let r6 := S.cong_plus r4 r5 r1
 (bif b2 then (⟨0, t3⟩ : S.Cong) else (⟨r1, r6⟩ : S.Cong))
def S.cong_Add_pre (a : S.Cong) (b : S.Cong) : Prop :=
 let r1 := S.cong_gcd a.M b.M
 let b2 := r1 == 0
 let r4 := S.cong_Cong_by a r1
 let r5 := S.cong_Cong_by b r1
 (All [S.cong_gcd_pre a.M b.M] ∧ ((b2 = true → True) ∧ (b2 = false → (All [S.cong_Cong_by_pre a r1, S.cong_Cong_by_pre b r1, S.cong_plus_pre r4 r5 r1] ∧ True))))
def S.cong_Sub (a : S.Cong) (b : S.Cong) : S.Cong :=
 let r1 := S.cong_gcd a.M b.M
 let b2 := r1 == 0
 let t3 := IntKind.u64.wrap (a.R - b.R)
 let r4 := S.cong_Cong_by a r1
 let r5 := S.cong_Cong_by b r1
 let t6 := IntKind.u64.wrap (r1 - r5)
 let t7 := Int.tmod t6 r1
 let r8 := S.cong_plus r4 t7 r1
 (bif b2 then (⟨0, t3⟩ : S.Cong) else (⟨r1, r8⟩ : S.Cong))
def S.cong_Sub_pre (a : S.Cong) (b : S.Cong) : Prop :=
 let r1 := S.cong_gcd a.M b.M
 let b2 := r1 == 0
 let r4 := S.cong_Cong_by a r1
 let r5 := S.cong_Cong_by b r1
 let t6 := IntKind.u64.wrap (r1 - r5)
 let t7 := Int.tmod t6 r1
 (All [S.cong_gcd_pre a.M b.M] ∧ ((b2 = true → True) ∧ (b2 = false → (All [S.cong_Cong_by_pre a r1, S.cong_Cong_by_pre b r1, r1 ≠ 0, S.cong_plus_pre r4 t7 r1] ∧ True))))
def S.cong_fits (a : Int) (b : Int) : Int × Bool :=
 let r1 := S.math_bits_Mul64 a b
 let b2 := r1.1 == 0
 (r1.2, b2)
def S.math_bits_Len64 (x : Int) : Int :=
 let b1 := decide (x ≥ 4294967296)
 let t2 := Int.fdiv x (2 ^ min (Int.toNat 32) 64)
 let b3 := decide ((bif b1 then t2 else x) ≥ 65536)
 let t4 := Int.fdiv (bif b1 then t2 else x) (2 ^ min (Int.toNat 16) 64)
 let t5 := IntKind.i64.wrap ((bif b1 then 32 else 0) + 16)
 let b6 := decide ((bif b3 then t4 else (bif b1 then t2 else x)) ≥ 256)
 let t7 := Int.fdiv (bif b3 then t4 else (bif b1 then t2 else x)) (2 ^ min (Int.toNat 8) 64)
 let t8 := IntKind.i64.wrap ((bif b3 then t5 else (bif b1 then 32 else 0)) + 8)
 let t9 := IntKind.u8.wrap (bif b6 then t7 else (bif b3 then t4 else (bif b1 then t2 else x)))
 let t10 : Int := (((⟨#[0, 1, 2, 2, 3, 3, 3, 3, 4, 4, 4, 4, 4, 4, 4, 4, 5, 5, 5, 5, 5, 5, 5, 5, 5, 5, 5, 5, 5, 5, 5, 5, 6, 6, 6, 6, 6, 6, 6, 6, 6, 6, 6, 6, 6, 6, 6, 6, 6, 6, 6, 6, 6, 6, 6, 6, 6, 6, 6, 6, 6, 6, 6, 6, 7, 7, 7, 7, 7, 7, 7, 7, 7, 7, 7, 7, 7, 7, 7, 7, 7, 7, 7, 7, 7, 7, 7, 7, 7, 7, 7, 7, 7, 7, 7, 7, 7, 7, 7, 7, 7, 7, 7, 7, 7, 7, 7, 7, 7, 7, 7, 7, 7, 7, 7, 7, 7, 7, 7, 7, 7, 7, 7, 7, 7, 7, 7, 7, 8, 8, 8, 8, 8, 8, 8, 8, 8, 8, 8, 8, 8, 8, 8, 8, 8, 8, 8, 8, 8, 8, 8, 8, 8, 8, 8, 8, 8, 8, 8, 8, 8, 8, 8, 8, 8, 8, 8, 8, 8, 8, 8, 8, 8, 8, 8, 8, 8, 8, 8, 8, 8, 8, 8, 8, 8, 8, 8, 8, 8, 8, 8, 8, 8, 8, 8, 8, 8, 8, 8, 8, 8, 8, 8, 8, 8, 8, 8, 8, 8, 8, 8, 8, 8, 8, 8, 8, 8, 8, 8, 8, 8, 8, 8, 8, 8, 8, 8, 8, 8, 8, 8, 8, 8, 8, 8, 8, 8, 8, 8, 8, 8, 8, 8, 8, 8, 8, 8, 8, 8, 8, 8, 8, 8, 8, 8, 8]⟩ : ByteArray).data.toList.getD (Int.toNat t9) 0).toNat : Int)
 let t11 := IntKind.i64.wrap t10
 let t12 := IntKind.i64.wrap ((bif b6 then t8 else (bif b3 then t5 else (bif b1 then 32 else 0))) + t11)
 t12
def S.math_bits_Len64_pre (x : Int) : Prop :=
 let b1 := decide (x ≥ 4294967296)
 let t2 := Int.fdiv x (2 ^ min (Int.toNat 32) 64)
 let b3 := decide ((bif b1 then t2 else x) ≥ 65536)
 let t4 := Int.fdiv (bif b1 then t2 else x) (2 ^ min (Int.toNat 16) 64)
 let b6 := decide ((bif b3 then t4 else (bif b1 then t2 else x)) ≥ 256)
 let t7 := Int.fdiv (bif b3 then t4 else (bif b1 then t2 else x)) (2 ^ min (Int.toNat 8) 64)
 let t9 := IntKind.u8.wrap (bif b6 then t7 else (bif b3 then t4 else (bif b1 then t2 else x)))
 (All [(0 : Int) ≤ t9, t9 < ((⟨#[0, 1, 2, 2, 3, 3, 3, 3, 4, 4, 4, 4, 4, 4, 4, 4, 5, 5, 5, 5, 5, 5, 5, 5, 5, 5, 5, 5, 5, 5, 5, 5, 6, 6, 6, 6, 6, 6, 6, 6, 6, 6, 6, 6, 6, 6, 6, 6, 6, 6, 6, 6, 6, 6, 6, 6, 6, 6, 6, 6, 6, 6, 6, 6, 7, 7, 7, 7, 7, 7, 7, 7, 7, 7, 7, 7, 7, 7, 7, 7, 7, 7, 7, 7, 7, 7, 7, 7, 7, 7, 7, 7, 7, 7, 7, 7, 7, 7, 7, 7, 7, 7, 7, 7, 7, 7, 7, 7, 7, 7, 7, 7, 7, 7, 7, 7, 7, 7, 7, 7, 7, 7, 7, 7, 7, 7, 7, 7, 8, 8, 8, 8, 8, 8, 8, 8, 8, 8, 8, 8, 8, 8, 8, 8, 8, 8, 8, 8, 8, 8, 8, 8, 8, 8, 8, 8, 8, 8, 8, 8, 8, 8, 8, 8, 8, 8, 8, 8, 8, 8, 8, 8, 8, 8, 8, 8, 8, 8, 8, 8, 8, 8, 8, 8, 8, 8, 8, 8, 8, 8, 8, 8, 8, 8, 8, 8, 8, 8, 8, 8, 8, 8, 8, 8, 8, 8, 8, 8, 8, 8, 8, 8, 8, 8, 8, 8, 8, 8, 8, 8, 8, 8, 8, 8, 8, 8, 8, 8, 8, 8, 8, 8, 8, 8, 8, 8, 8, 8, 8, 8, 8, 8, 8, 8, 8, 8, 8, 8, 8, 8, 8, 8, 8, 8, 8, 8]⟩ : ByteArray).size : Int)] ∧ True)
def S.math_bits_LeadingZeros64 (x : Int) : Int :=
 let r1 := S.math_bits_Len64 x
 let t2 := IntKind.i64.wrap (64 - r1)
 t2
def S.math_bits_LeadingZeros64_pre (x : Int) : Prop :=
 (All [S.math_bits_Len64_pre x] ∧ True)
@[ext] structure S.math_bits_Div64_L0 where
 yn1 : Int
 yn0 : Int
 un1 : Int
 q1 : Int
 rhat : Int
def S.math_bits_Div64_L0_step (x : S.math_bits_Div64_L0) : S.math_bits_Div64_L0 ⊕ (S.math_bits_Div64_L0) :=
 let b1 := decide (x.q1 ≥ 4294967296)
 let t2 := IntKind.u64.wrap (x.q1 * x.yn0)
 let t3 := IntKind.u64.wrap (4294967296 * x.rhat)
 let t4 := IntKind.u64.wrap (t3 + x.un1)
 let b5 := decide (t2 > t4)
 let p6 := (b1 || b5)
 let t7 := IntKind.u64.wrap (x.q1 - 1)
 let t8 := IntKind.u64.wrap (x.rhat + x.yn1)
 let b9 := decide (t8 ≥ 4294967296)
 (bif p6 then (bif b9 then (.inr ⟨x.yn1, x.yn0, x.un1, t7, t8⟩) else (.inl ⟨x.yn1, x.yn0, x.un1, t7, t8⟩)) else (.inr ⟨x.yn1, x.yn0, x.un1, x.q1, x.rhat⟩))
def S.math_bits_Div64_L0_vcs (x : S.math_bits_Div64_L0) : Prop :=
 let b1 := decide (x.q1 ≥ 4294967296)
 let t2 := IntKind.u64.wrap (x.q1 * x.yn0)
 let t3 := IntKind.u64.wrap (4294967296 * x.rhat)
 let t4 := IntKind.u64.wrap (t3 + x.un1)
 let b5 := decide (t2 > t4)
 let p6 := (b1 || b5)
 let t8 := IntKind.u64.wrap (x.rhat + x.yn1)
 let b9 := decide (t8 ≥ 4294967296)
 ((p6 = true → ((b9 = true → True) ∧ (b9 = false → True))) ∧ (p6 = false → True))
def S.math_bits_Div64_L0_run (x : S.math_bits_Div64_L0) : S.math_bits_Div64_L0 := theRun (fun x => x) S.math_bits_Div64_L0_step S.math_bits_Div64_L0_vcs x
@[ext] structure S.math_bits_Div64_L2 where
 yn1 : Int
 yn0 : Int
 un0 : Int
 rhat : Int
 q0 : Int
def S.math_bits_Div64_L2_step (x : S.math_bits_Div64_L2) : S.math_bits_Div64_L2 ⊕ (S.math_bits_Div64_L2) :=
 let b1 := decide (x.q0 ≥ 4294967296)
 let t2 := IntKind.u64.wrap (x.q0 * x.yn0)
 let t3 := IntKind.u64.wrap (4294967296 * x.rhat)
 let t4 := IntKind.u64.wrap (t3 + x.un0)
 let b5 := decide (t2 > t4)
 let p6 := (b1 || b5)
 let t7 := IntKind.u64.wrap (x.q0 - 1)
 let t8 := IntKind.u64.wrap (x.rhat + x.yn1)
 let b9 := decide (t8 ≥ 4294967296)
 (bif p6 then (bif b9 then (.inr ⟨x.yn1, x.yn0, x.un0, t8, t7⟩) else (.inl ⟨x.yn1, x.yn0, x.un0, t8, t7⟩)) else (.inr ⟨x.yn1, x.yn0, x.un0, x.rhat, x.q0⟩))
def S.math_bits_Div64_L2_vcs (x : S.math_bits_Div64_L2) : Prop :=
 let b1 := decide (x.q0 ≥ 4294967296)
 let t2 := IntKind.u64.wrap (x.q0 * x.yn0)
 let t3 := IntKind.u64.wrap (4294967296 * x.rhat)
 let t4 := IntKind.u64.wrap (t3 + x.un0)
 let b5 := decide (t2 > t4)
 let p6 := (b1 || b5)
 let t8 := IntKind.u64.wrap (x.rhat + x.yn1)
 let b9 := decide (t8 ≥ 4294967296)
 ((p6 = true → ((b9 = true → True) ∧ (b9 = false → True))) ∧ (p6 = false → True))
def S.math_bits_Div64_L2_run (x : S.math_bits_Div64_L2) : S.math_bits_Div64_L2 := theRun (fun x => x) S.math_bits_Div64_L2_step S.math_bits_Div64_L2_vcs x
def S.math_bits_Div64 (hi : Int) (lo : Int) (y : Int) : Int × Int :=
 let b3 := hi == 0
 let t4 := IntKind.u64.wrap (Int.tdiv lo y)
 let t5 := Int.tmod lo y
 let r6 := S.math_bits_LeadingZeros64 y
 let t7 := IntKind.u64.wrap r6
 let t8 := IntKind.u64.wrap (y * 2 ^ min (Int.toNat t7) 64)
 let t9 := Int.fdiv t8 (2 ^ min (Int.toNat 32) 64)
 let t10 := bits .and .u64 t8 4294967295
 let t11 := IntKind.u64.wrap (hi * 2 ^ min (Int.toNat t7) 64)
 let t12 := IntKind.u64.wrap (64 - t7)
 let t13 := Int.fdiv lo (2 ^ min (Int.toNat t12) 64)
 let t14 := bits .or .u64 t11 t13
 let t15 := IntKind.u64.wrap (lo * 2 ^ min (Int.toNat t7) 64)
 let t16 := Int.fdiv t15 (2 ^ min (Int.toNat 32) 64)
 let t17 := bits .and .u64 t15 4294967295
 let t18 := IntKind.u64.wrap (Int.tdiv t14 t9)
 let t19 := IntKind.u64.wrap (t18 * t9)
 let t20 := IntKind.u64.wrap (t14 - t19)
 let x21 := (⟨t9, t10, t16, t18, t20⟩ : S.math_bits_Div64_L0)
 let y22 := S.math_bits_Div64_L0_run x21
 let t23 := IntKind.u64.wrap (t14 * 4294967296)
 let t24 := IntKind.u64.wrap (t23 + y22.un1)
 let t25 := IntKind.u64.wrap (y22.q1 * t8)
 let t26 := IntKind.u64.wrap (t24 - t25)
 let t27 := IntKind.u64.wrap (Int.tdiv t26 y22.yn1)
 let t28 := IntKind.u64.wrap (t27 * y22.yn1)
 let t29 := IntKind.u64.wrap (t26 - t28)
 let x30 := (⟨y22.yn1, y22.yn0, t17, t29, t27⟩ : S.math_bits_Div64_L2)
 let y31 := S.math_bits_Div64_L2_run x30
 let t32 := IntKind.u64.wrap (y22.q1 * 4294967296)
 let t33 := IntKind.u64.wrap (t32 + y31.q0)
 let t34 := IntKind.u64.wrap (t26 * 4294967296)
 let t35 := IntKind.u64.wrap (t34 + y31.un0)
 let t36 := IntKind.u64.wrap (y31.q0 * t8)
 let t37 := IntKind.u64.wrap (t35 - t36)
 let t38 := Int.fdiv t37 (2 ^ min (Int.toNat t7) 64)
 (bif b3 then (t4, t5) else (t33, t38))
def S.math_bits_Div64_pre (hi : Int) (lo : Int) (y : Int) : Prop :=
 let b1 := y == 0
 let b2 := decide (y ≤ hi)
 let b3 := hi == 0
 let r6 := S.math_bits_LeadingZeros64 y
 let t7 := IntKind.u64.wrap r6
 let t8 := IntKind.u64.wrap (y * 2 ^ min (Int.toNat t7) 64)
 let t9 := Int.fdiv t8 (2 ^ min (Int.toNat 32) 64)
 let t10 := bits .and .u64 t8 4294967295
 let t11 := IntKind.u64.wrap (hi * 2 ^ min (Int.toNat t7) 64)
 let t12 := IntKind.u64.wrap (64 - t7)
 let t13 := Int.fdiv lo (2 ^ min (Int.toNat t12) 64)
 let t14 := bits .or .u64 t11 t13
 let t15 := IntKind.u64.wrap (lo * 2 ^ min (Int.toNat t7) 64)
 let t16 := Int.fdiv t15 (2 ^ min (Int.toNat 32) 64)
 let t17 := bits .and .u64 t15 4294967295
 let t18 := IntKind.u64.wrap (Int.tdiv t14 t9)
 let t19 := IntKind.u64.wrap (t18 * t9)
 let t20 := IntKind.u64.wrap (t14 - t19)
 let x21 := (⟨t9, t10, t16, t18, t20⟩ : S.math_bits_Div64_L0)
 let y22 := S.math_bits_Div64_L0_run x21
 let t23 := IntKind.u64.wrap (t14 * 4294967296)
 let t24 := IntKind.u64.wrap (t23 + y22.un1)
 let t25 := IntKind.u64.wrap (y22.q1 * t8)
 let t26 := IntKind.u64.wrap (t24 - t25)
 let t27 := IntKind.u64.wrap (Int.tdiv t26 y22.yn1)
 let t28 := IntKind.u64.wrap (t27 * y22.yn1)
 let t29 := IntKind.u64.wrap (t26 - t28)
 let x30 := (⟨y22.yn1, y22.yn0, t17, t29, t27⟩ : S.math_bits_Div64_L2)
 ((b1 = true → False) ∧ (b1 = false → ((b2 = true → False) ∧ (b2 = false → ((b3 = true → (All [y ≠ 0, y ≠ 0] ∧ True)) ∧ (b3 = false → (All [S.math_bits_LeadingZeros64_pre y, (0 : Int) ≤ t7, (0 : Int) ≤ t7, (0 : Int) ≤ t12, (0 : Int) ≤ t7, t9 ≠ 0, Runs S.math_bits_Div64_L0_step S.math_bits_Div64_L0_vcs x21 (S.math_bits_Div64_L0_run x21), y22.yn1 ≠ 0, Runs S.math_bits_Div64_L2_step S.math_bits_Div64_L2_vcs x30 (S.math_bits_Div64_L2_run x30), (0 : Int) ≤ t7] ∧ True)))))))
def S.math_bits_Rem64 (hi : Int) (lo : Int) (y : Int) : Int :=
 let t1 := Int.tmod hi y
 let r2 := S.math_bits_Div64 t1 lo y
 r2.2
def S.math_bits_Rem64_pre (hi : Int) (lo : Int) (y : Int) : Prop :=
 let t1 := Int.tmod hi y
 (All [y ≠ 0, S.math_bits_Div64_pre t1 lo y] ∧ True)
def S.cong_times (a : Int) (b : Int) (m : Int) : Int :=
 let r1 := S.math_bits_Mul64 a b
 let r2 := S.math_bits_Rem64 r1.1 r1.2 m
 r2
def S.cong_times_pre (a : Int) (b : Int) (m : Int) : Prop :=
 let r1 := S.math_bits_Mul64 a b
 (All [S.math_bits_Rem64_pre r1.1 r1.2 m] ∧ True)
def S.cong_Cong_scaled (c : S.Cong) (n : Int) : S.Cong :=
 let b1 := n == 0
 let t2 := IntKind.u64.wrap n
 let b3 := decide (n < 0)
 let t4 := IntKind.u64.wrap (0 - t2)
 let r5 := S.cong_fits c.M (bif b3 then t4 else t2)
 let b6 := !r5.2
 let r7 := S.cong_rest n (bif b6 then c.M else r5.1)
 let t8 := Int.tmod c.R (bif b6 then c.M else r5.1)
 let r9 := S.cong_times r7 t8 (bif b6 then c.M else r5.1)
 (bif b1 then (⟨0, 0⟩ : S.Cong) else (⟨(bif b6 then c.M else r5.1), r9⟩ : S.Cong))
def S.cong_Cong_scaled_pre (c : S.Cong) (n : Int) : Prop :=
 let b1 := n == 0
 let t2 := IntKind.u64.wrap n
 let b3 := decide (n < 0)
 let t4 := IntKind.u64.wrap (0 - t2)
 let r5 := S.cong_fits c.M (bif b3 then t4 else t2)
 let b6 := !r5.2
 let r7 := S.cong_rest n (bif b6 then c.M else r5.1)
 let t8 := Int.tmod c.R (bif b6 then c.M else r5.1)
 ((b1 = true → True) ∧ (b1 = false → (All [S.cong_rest_pre n (bif b6 then c.M else r5.1), (bif b6 then c.M else r5.1) ≠ 0, S.cong_times_pre r7 t8 (bif b6 then c.M else r5.1)] ∧ True)))
def S.cong_Mul (a : S.Cong) (b : S.Cong) : S.Cong :=
 let r1 := S.cong_Cong_single a
 let r2 := S.cong_Cong_single b
 let p3 := (r1 && r2)
 let t4 := IntKind.u64.wrap (a.R * b.R)
 let r5 := S.cong_Cong_single a
 let r6 := S.cong_Cong_number a
 let r7 := S.cong_Cong_scaled b r6
 let r8 := S.cong_Cong_single b
 let r9 := S.cong_Cong_number b
 let r10 := S.cong_Cong_scaled a r9
 let r11 := S.cong_gcd a.M b.M
 let r12 := S.cong_gcd a.M a.R
 let r13 := S.cong_gcd b.M b.R
 let r14 := S.cong_fits r12 r13
 let b15 := decide (r14.1 > r11)
 let p16 := (r14.2 && b15)
 let r17 := S.cong_Cong_by a r11
 let r18 := S.cong_Cong_by b r11
 let r19 := S.cong_times r17 r18 r11
 (bif p3 then (⟨0, t4⟩ : S.Cong) else (bif r5 then r7 else (bif r8 then r10 else (bif p16 then (⟨r14.1, 0⟩ : S.Cong) else (⟨r11, r19⟩ : S.Cong)))))
def S.cong_Mul_pre (a : S.Cong) (b : S.Cong) : Prop :=
 let r1 := S.cong_Cong_single a
 let r2 := S.cong_Cong_single b
 let p3 := (r1 && r2)
 let r5 := S.cong_Cong_single a
 let r6 := S.cong_Cong_number a
 let r8 := S.cong_Cong_single b
 let r9 := S.cong_Cong_number b
 let r11 := S.cong_gcd a.M b.M
 let r12 := S.cong_gcd a.M a.R
 let r13 := S.cong_gcd b.M b.R
 let r14 := S.cong_fits r12 r13
 let b15 := decide (r14.1 > r11)
 let p16 := (r14.2 && b15)
 let r17 := S.cong_Cong_by a r11
 let r18 := S.cong_Cong_by b r11
 ((p3 = true → True) ∧ (p3 = false → ((r5 = true → (All [S.cong_Cong_scaled_pre b r6] ∧ True)) ∧ (r5 = false → ((r8 = true → (All [S.cong_Cong_scaled_pre a r9] ∧ True)) ∧ (r8 = false → (All [S.cong_gcd_pre a.M b.M, S.cong_gcd_pre a.M a.R, S.cong_gcd_pre b.M b.R] ∧ ((p16 = true → True) ∧ (p16 = false → (All [S.cong_Cong_by_pre a r11, S.cong_Cong_by_pre b r11, S.cong_times_pre r17 r18 r11] ∧ True))))))))))
def S.arith_congruence (op : Int) (a : S.Cong) (b : S.Cong) : S.Cong :=
 let b1 := op == 13
 let r2 := S.cong_Add a b
 let b3 := op == 14
 let r4 := S.cong_Sub a b
 let r5 := S.cong_Mul a b
 (bif b1 then r2 else (bif b3 then r4 else r5))
def S.arith_congruence_pre (op : Int) (a : S.Cong) (b : S.Cong) : Prop :=
 let b1 := op == 13
 let b3 := op == 14
 ((b1 = true → (All [S.cong_Add_pre a b] ∧ True)) ∧ (b1 = false → ((b3 = true → (All [S.cong_Sub_pre a b] ∧ True)) ∧ (b3 = false → (All [S.cong_Mul_pre a b] ∧ True)))))
def S.arith_wide_round (a : (Int × Int)) : Int :=
 let t1 := IntKind.i64.wrap a.2
 let r2 := S.arith_of t1
 let r3 := S.arith_wide_minus a r2
 r3.1
def S.arith_wide_round_pre (a : (Int × Int)) : Prop :=
 let t1 := IntKind.i64.wrap a.2
 let r2 := S.arith_of t1
 (All [S.arith_wide_minus_pre a r2] ∧ True)
def S.cong_Cong_Wrapped (c : S.Cong) : S.Cong :=
 let r1 := S.cong_Cong_single c
 let t2 := IntKind.u64.wrap (0 - c.M)
 let t3 := bits .and .u64 c.M t2
 let t4 := Int.tmod c.R t3
 (bif r1 then c else (⟨t3, t4⟩ : S.Cong))
def S.cong_Cong_Wrapped_pre (c : S.Cong) : Prop :=
 let r1 := S.cong_Cong_single c
 let t2 := IntKind.u64.wrap (0 - c.M)
 let t3 := bits .and .u64 c.M t2
 ((r1 = true → True) ∧ (r1 = false → (All [t3 ≠ 0] ∧ True)))
def S.arith_Do (op : Int) (a : S.Value) (b : S.Value) : S.Value :=
 let r1 := S.arith_plain a
 let r2 := S.arith_plain b
 let r3 := S.value_Value_Single r1
 let r4 := S.value_Value_Single r2
 let r5 := S.value_Value_IsBottom r1
 let r6 := S.value_Value_IsBottom r2
 let p7 := (r5 || r6)
 let r8 := S.value_Bottom
 let r9 := S.arith_known op
 let b10 := !r9
 let r11 := S.value_Top
 let p12 := (r3.2 && r4.2)
 let r13 := S.word_Do op r3.1 r4.1
 let r14 := S.value_One r13.1
 let r15 := S.arith_bounds op r1 r2
 let r16 := S.arith_congruence op r1.C r2.C
 let r17 := S.arith_wide_round r15.1
 let r18 := S.arith_wide_round r15.2
 let b19 := r17 != r18
 let r20 := S.inter_Whole
 let r21 := S.cong_Cong_Wrapped r16
 let r22 := S.value_Make r20 r21
 let r23 := S.arith_wide_round r15.1
 let b24 := r23 != 0
 let r25 := S.cong_Cong_Wrapped r16
 let t26 := IntKind.i64.wrap r15.1.2
 let t27 := IntKind.i64.wrap r15.2.2
 let r28 := S.inter_Of t26 t27
 let r29 := S.value_Make r28 (⟨(bif b24 then r25.M else r16.M), (bif b24 then r25.R else r16.R)⟩ : S.Cong)
 (bif p7 then r8 else (bif b10 then r11 else (bif p12 then r14 else (bif b19 then r22 else r29))))
def S.arith_Do_pre (op : Int) (a : S.Value) (b : S.Value) : Prop :=
 let r1 := S.arith_plain a
 let r2 := S.arith_plain b
 let r3 := S.value_Value_Single r1
 let r4 := S.value_Value_Single r2
 let r5 := S.value_Value_IsBottom r1
 let r6 := S.value_Value_IsBottom r2
 let p7 := (r5 || r6)
 let r9 := S.arith_known op
 let b10 := !r9
 let p12 := (r3.2 && r4.2)
 let r15 := S.arith_bounds op r1 r2
 let r16 := S.arith_congruence op r1.C r2.C
 let r17 := S.arith_wide_round r15.1
 let r18 := S.arith_wide_round r15.2
 let b19 := r17 != r18
 let r20 := S.inter_Whole
 let r21 := S.cong_Cong_Wrapped r16
 let r23 := S.arith_wide_round r15.1
 let b24 := r23 != 0
 let r25 := S.cong_Cong_Wrapped r16
 let t26 := IntKind.i64.wrap r15.1.2
 let t27 := IntKind.i64.wrap r15.2.2
 let r28 := S.inter_Of t26 t27
 (All [S.arith_plain_pre a, S.arith_plain_pre b, S.value_Value_Single_pre r1, S.value_Value_Single_pre r2, S.value_Value_IsBottom_pre r1, (r5 = false → S.value_Value_IsBottom_pre r2)] ∧ ((p7 = true → True) ∧ (p7 = false → ((b10 = true → True) ∧ (b10 = false → ((p12 = true → (All [S.word_Do_pre op r3.1 r4.1] ∧ True)) ∧ (p12 = false → (All [S.arith_bounds_pre op r1 r2, S.arith_congruence_pre op r1.C r2.C, S.arith_wide_round_pre r15.1, S.arith_wide_round_pre r15.2] ∧ ((b19 = true → (All [S.cong_Cong_Wrapped_pre r16, S.value_Make_pre r20 r21] ∧ True)) ∧ (b19 = false → (All [S.arith_wide_round_pre r15.1, (b24 = true → S.cong_Cong_Wrapped_pre r16), S.value_Make_pre r28 (⟨(bif b24 then r25.M else r16.M), (bif b24 then r25.R else r16.R)⟩ : S.Cong)] ∧ True)))))))))))
def S.arith_Neg (a : S.Value) : S.Value :=
 let r1 := S.value_One 0
 let r2 := S.arith_Do 14 r1 a
 r2
def S.arith_Neg_pre (a : S.Value) : Prop :=
 let r1 := S.value_One 0
 (All [S.arith_Do_pre 14 r1 a] ∧ True)
def S.ref19_Empty (i : S.Inter) : Bool :=
 let b1 := decide (i.Lo > i.Hi)
 b1
def S.ref21_Bottom : S.Value :=
 (⟨(⟨1, 0⟩ : S.Inter), (⟨1, 0⟩ : S.Cong)⟩ : S.Value)
def S.ref19_Has (i : S.Inter) (n : Int) : Bool :=
 let b1 := decide (n ≥ i.Lo)
 let b2 := decide (n ≤ i.Hi)
 let p3 := (b1 && b2)
 p3
def S.ref20_Rest (n : Int) (m : Int) : Int :=
 let b1 := decide (n ≥ 0)
 let t2 := IntKind.u64.wrap n
 let t3 := Int.tmod t2 m
 let t4 := IntKind.u64.wrap (m - 1)
 let t5 := IntKind.i64.wrap (n + 1)
 let t6 := IntKind.i64.wrap (0 - t5)
 let t7 := IntKind.u64.wrap t6
 let t8 := Int.tmod t7 m
 let t9 := IntKind.u64.wrap (t4 - t8)
 (bif b1 then t3 else t9)
def S.ref20_Rest_pre (n : Int) (m : Int) : Prop :=
 let b1 := decide (n ≥ 0)
 ((b1 = true → (All [m ≠ 0] ∧ True)) ∧ (b1 = false → (All [m ≠ 0] ∧ True)))
def S.ref20_Make (m : Int) (n : Int) : S.Cong :=
 let b1 := m == 0
 let t2 := IntKind.u64.wrap n
 let r3 := S.ref20_Rest n m
 (bif b1 then (⟨0, t2⟩ : S.Cong) else (⟨m, r3⟩ : S.Cong))
def S.ref20_Make_pre (m : Int) (n : Int) : Prop :=
 let b1 := m == 0
 ((b1 = true → True) ∧ (b1 = false → (All [S.ref20_Rest_pre n m] ∧ True)))
def S.ref21_One (n : Int) : S.Value :=
 let r1 := S.ref20_Make 0 n
 (⟨(⟨n, n⟩ : S.Inter), r1⟩ : S.Value)
def S.ref21_One_pre (n : Int) : Prop :=
 (All [S.ref20_Make_pre 0 n] ∧ True)
def S.ref21_up (c : S.Cong) (n : Int) : Int :=
 let r1 := S.ref20_Rest n c.M
 let b2 := decide (r1 ≤ c.R)
 let t3 := IntKind.u64.wrap (c.R - r1)
 let t4 := IntKind.u64.wrap (r1 - c.R)
 let t5 := IntKind.u64.wrap (c.M - t4)
 (bif b2 then t3 else t5)
def S.ref21_up_pre (c : S.Cong) (n : Int) : Prop :=
 let r1 := S.ref20_Rest n c.M
 let b2 := decide (r1 ≤ c.R)
 (All [S.ref20_Rest_pre n c.M] ∧ ((b2 = true → True) ∧ (b2 = false → True)))
def S.ref21_down (c : S.Cong) (n : Int) : Int :=
 let r1 := S.ref20_Rest n c.M
 let b2 := decide (c.R ≤ r1)
 let t3 := IntKind.u64.wrap (r1 - c.R)
 let t4 := IntKind.u64.wrap (c.R - r1)
 let t5 := IntKind.u64.wrap (c.M - t4)
 (bif b2 then t3 else t5)
def S.ref21_down_pre (c : S.Cong) (n : Int) : Prop :=
 let r1 := S.ref20_Rest n c.M
 let b2 := decide (c.R ≤ r1)
 (All [S.ref20_Rest_pre n c.M] ∧ ((b2 = true → True) ∧ (b2 = false → True)))
def S.ref21_Make (i : S.Inter) (c : S.Cong) : S.Value :=
 let r1 := S.ref19_Empty i
 let r2 := S.ref21_Bottom
 let b3 := c.M == 0
 let t4 := IntKind.i64.wrap c.R
 let r5 := S.ref19_Has i t4
 let b6 := !r5
 let r7 := S.ref21_Bottom
 let t8 := IntKind.i64.wrap c.R
 let r9 := S.ref21_One t8
 let t10 := Int.tmod c.R c.M
 let r11 := S.ref21_up (⟨c.M, t10⟩ : S.Cong) i.Lo
 let r12 := S.ref21_down (⟨c.M, t10⟩ : S.Cong) i.Hi
 let t13 := IntKind.u64.wrap i.Hi
 let t14 := IntKind.u64.wrap i.Lo
 let t15 := IntKind.u64.wrap (t13 - t14)
 let b16 := decide (r11 > t15)
 let b17 := decide (r12 > t15)
 let p18 := (b16 || b17)
 let t19 := IntKind.u64.wrap (t15 - r12)
 let b20 := decide (r11 > t19)
 let p21 := (p18 || b20)
 let r22 := S.ref21_Bottom
 let t23 := IntKind.u64.wrap i.Lo
 let t24 := IntKind.u64.wrap (t23 + r11)
 let t25 := IntKind.i64.wrap t24
 let t26 := IntKind.u64.wrap i.Hi
 let t27 := IntKind.u64.wrap (t26 - r12)
 let t28 := IntKind.i64.wrap t27
 let b29 := t25 == t28
 let r30 := S.ref21_One t25
 (bif r1 then r2 else (bif b3 then (bif b6 then r7 else r9) else (bif p21 then r22 else (bif b29 then r30 else (⟨(⟨t25, t28⟩ : S.Inter), (⟨c.M, t10⟩ : S.Cong)⟩ : S.Value)))))
def S.ref21_Make_pre (i : S.Inter) (c : S.Cong) : Prop :=
 let r1 := S.ref19_Empty i
 let b3 := c.M == 0
 let t4 := IntKind.i64.wrap c.R
 let r5 := S.ref19_Has i t4
 let b6 := !r5
 let t8 := IntKind.i64.wrap c.R
 let t10 := Int.tmod c.R c.M
 let r11 := S.ref21_up (⟨c.M, t10⟩ : S.Cong) i.Lo
 let r12 := S.ref21_down (⟨c.M, t10⟩ : S.Cong) i.Hi
 let t13 := IntKind.u64.wrap i.Hi
 let t14 := IntKind.u64.wrap i.Lo
 let t15 := IntKind.u64.wrap (t13 - t14)
 let b16 := decide (r11 > t15)
 let b17 := decide (r12 > t15)
 let p18 := (b16 || b17)
 let t19 := IntKind.u64.wrap (t15 - r12)
 let b20 := decide (r11 > t19)
 let p21 := (p18 || b20)
 let t23 := IntKind.u64.wrap i.Lo
 let t24 := IntKind.u64.wrap (t23 + r11)
 let t25 := IntKind.i64.wrap t24
 let t26 := IntKind.u64.wrap i.Hi
 let t27 := IntKind.u64.wrap (t26 - r12)
 let t28 := IntKind.i64.wrap t27
 let b29 := t25 == t28
 ((r1 = true → True) ∧ (r1 = false → ((b3 = true → ((b6 = true → True) ∧ (b6 = false → (All [S.ref21_One_pre t8] ∧ True)))) ∧ (b3 = false → (All [c.M ≠ 0, S.ref21_up_pre (⟨c.M, t10⟩ : S.Cong) i.Lo, S.ref21_down_pre (⟨c.M, t10⟩ : S.Cong) i.Hi] ∧ ((p21 = true → True) ∧ (p21 = false → ((b29 = true → (All [S.ref21_One_pre t25] ∧ True)) ∧ (b29 = false → True)))))))))
def S.ref21_Plain (v : S.Value) : S.Value :=
 let r1 := S.ref21_Make v.I v.C
 r1
def S.ref21_Plain_pre (v : S.Value) : Prop :=
 (All [S.ref21_Make_pre v.I v.C] ∧ True)
def S.ref19_Least : Int :=
 (-9223372036854775808)
def S.ref19_Most : Int :=
 9223372036854775807
def S.ref21_Top : S.Value :=
 let r1 := S.ref19_Least
 let r2 := S.ref19_Most
 (⟨(⟨r1, r2⟩ : S.Inter), (⟨1, 0⟩ : S.Cong)⟩ : S.Value)
def S.ref09_bit (x : Bool) : Int :=
 (bif x then 1 else 0)
@[ext] structure S.ref09_digits_L0 where
 u : Int
 i : Int
 out : (List Int)
def S.ref09_digits_L0_step (x : S.ref09_digits_L0) : S.ref09_digits_L0 ⊕ (S.ref09_digits_L0) :=
 let b1 := decide (x.i < 64)
 let t2 := Int.tmod x.u 2
 let t3 := IntKind.i64.wrap t2
 let l4 := x.out.set (Int.toNat x.i) t3
 let t5 := IntKind.u64.wrap (Int.tdiv x.u 2)
 let t6 := IntKind.i64.wrap (x.i + 1)
 (bif b1 then (.inl ⟨t5, t6, l4⟩) else (.inr ⟨x.u, x.i, x.out⟩))
def S.ref09_digits_L0_vcs (x : S.ref09_digits_L0) : Prop :=
 let b1 := decide (x.i < 64)
 ((b1 = true → (All [(0 : Int) ≤ x.i, x.i < (64 : Int)] ∧ True)) ∧ (b1 = false → True))
def S.ref09_digits_L0_run (x : S.ref09_digits_L0) : S.ref09_digits_L0 := theRun (fun x => x) S.ref09_digits_L0_step S.ref09_digits_L0_vcs x
def S.ref09_digits (n : Int) : (List Int) :=
 let t1 := IntKind.u64.wrap n
 let x2 := (⟨t1, 0, (List.replicate 64 (0 : Int))⟩ : S.ref09_digits_L0)
 let y3 := S.ref09_digits_L0_run x2
 y3.out
def S.ref09_digits_pre (n : Int) : Prop :=
 let t1 := IntKind.u64.wrap n
 let x2 := (⟨t1, 0, (List.replicate 64 (0 : Int))⟩ : S.ref09_digits_L0)
 (All [Runs S.ref09_digits_L0_step S.ref09_digits_L0_vcs x2 (S.ref09_digits_L0_run x2)] ∧ True)
@[ext] structure S.ref09_less_L0 where
 t4 : Bool
 i : Int
 vx : (List Int)
 y : (List Int)
def S.ref09_less_L0_step (x : S.ref09_less_L0) : S.ref09_less_L0 ⊕ (Bool × S.ref09_less_L0) :=
 let b1 := decide (x.i ≥ 0)
 let e2 := x.vx.getD (Int.toNat x.i) 0
 let e3 := x.y.getD (Int.toNat x.i) 0
 let b4 := e2 != e3
 let e5 := x.vx.getD (Int.toNat x.i) 0
 let e6 := x.y.getD (Int.toNat x.i) 0
 let b7 := decide (e5 < e6)
 let t8 := IntKind.i64.wrap (x.i - 1)
 (bif b1 then (bif b4 then (.inr ⟨true, ⟨b7, x.i, x.vx, x.y⟩⟩) else (.inl ⟨x.t4, t8, x.vx, x.y⟩)) else (.inr ⟨false, ⟨x.t4, x.i, x.vx, x.y⟩⟩))
def S.ref09_less_L0_vcs (x : S.ref09_less_L0) : Prop :=
 let b1 := decide (x.i ≥ 0)
 let e2 := x.vx.getD (Int.toNat x.i) 0
 let e3 := x.y.getD (Int.toNat x.i) 0
 let b4 := e2 != e3
 ((b1 = true → (All [(0 : Int) ≤ x.i, x.i < (64 : Int), (0 : Int) ≤ x.i, x.i < (64 : Int)] ∧ ((b4 = true → (All [(0 : Int) ≤ x.i, x.i < (64 : Int), (0 : Int) ≤ x.i, x.i < (64 : Int)] ∧ True)) ∧ (b4 = false → True)))) ∧ (b1 = false → True))
def S.ref09_less_L0_run (x : S.ref09_less_L0) : Bool × S.ref09_less_L0 := theRun (fun x => ⟨true, x⟩) S.ref09_less_L0_step S.ref09_less_L0_vcs x
def S.ref09_less (a : Int) (b : Int) : Bool :=
 let r1 := S.ref09_digits a
 let r2 := S.ref09_digits b
 let e3 := r1.getD (Int.toNat 63) 0
 let e4 := r2.getD (Int.toNat 63) 0
 let b5 := e3 != e4
 let e6 := r1.getD (Int.toNat 63) 0
 let b7 := e6 == 1
 let x8 := (⟨false, 62, r1, r2⟩ : S.ref09_less_L0)
 let y9 := S.ref09_less_L0_run x8
 (bif b5 then b7 else (bif y9.1 then y9.2.t4 else false))
def S.ref09_less_pre (a : Int) (b : Int) : Prop :=
 let r1 := S.ref09_digits a
 let r2 := S.ref09_digits b
 let e3 := r1.getD (Int.toNat 63) 0
 let e4 := r2.getD (Int.toNat 63) 0
 let b5 := e3 != e4
 let x8 := (⟨false, 62, r1, r2⟩ : S.ref09_less_L0)
 let y9 := S.ref09_less_L0_run x8
 (All [S.ref09_digits_pre a, S.ref09_digits_pre b, (0 : Int) ≤ 63, (63 : Int) < (64 : Int), (0 : Int) ≤ 63, (63 : Int) < (64 : Int)] ∧ ((b5 = true → (All [(0 : Int) ≤ 63, (63 : Int) < (64 : Int)] ∧ True)) ∧ (b5 = false → (All [Runs S.ref09_less_L0_step S.ref09_less_L0_vcs x8 (S.ref09_less_L0_run x8)] ∧ ((y9.1 = true → True) ∧ (y9.1 = false → True))))))
@[ext] structure S.ref09_number_L0 where
 u : Int
 i : Int
 d : (List Int)
def S.ref09_number_L0_step (x : S.ref09_number_L0) : S.ref09_number_L0 ⊕ (S.ref09_number_L0) :=
 let b1 := decide (x.i ≥ 0)
 let t2 := IntKind.u64.wrap (2 * x.u)
 let e3 := x.d.getD (Int.toNat x.i) 0
 let t4 := IntKind.u64.wrap e3
 let t5 := IntKind.u64.wrap (t2 + t4)
 let t6 := IntKind.i64.wrap (x.i - 1)
 (bif b1 then (.inl ⟨t5, t6, x.d⟩) else (.inr ⟨x.u, x.i, x.d⟩))
def S.ref09_number_L0_vcs (x : S.ref09_number_L0) : Prop :=
 let b1 := decide (x.i ≥ 0)
 ((b1 = true → (All [(0 : Int) ≤ x.i, x.i < (64 : Int)] ∧ True)) ∧ (b1 = false → True))
def S.ref09_number_L0_run (x : S.ref09_number_L0) : S.ref09_number_L0 := theRun (fun x => x) S.ref09_number_L0_step S.ref09_number_L0_vcs x
def S.ref09_number (d : (List Int)) : Int :=
 let x1 := (⟨0, 63, d⟩ : S.ref09_number_L0)
 let y2 := S.ref09_number_L0_run x1
 let t3 := IntKind.i64.wrap y2.u
 t3
def S.ref09_number_pre (d : (List Int)) : Prop :=
 let x1 := (⟨0, 63, d⟩ : S.ref09_number_L0)
 (All [Runs S.ref09_number_L0_step S.ref09_number_L0_vcs x1 (S.ref09_number_L0_run x1)] ∧ True)
@[ext] structure S.ref09_each_L0 where
 how : Int
 i : Int
 vx : (List Int)
 y : (List Int)
 out : (List Int)
def S.ref09_each_L0_step (x : S.ref09_each_L0) : S.ref09_each_L0 ⊕ (S.ref09_each_L0) :=
 let b1 := decide (x.i < 64)
 let e2 := x.vx.getD (Int.toNat x.i) 0
 let e3 := x.y.getD (Int.toNat x.i) 0
 let t4 := IntKind.i64.wrap (e2 + e3)
 let b5 := x.how == 0
 let b6 := decide (t4 > 0)
 let p7 := (b5 && b6)
 let b8 := x.how == 1
 let b9 := t4 == 1
 let p10 := (b8 && b9)
 let p11 := (p7 || p10)
 let b12 := x.how == 2
 let b13 := t4 == 2
 let p14 := (b12 && b13)
 let p15 := (p11 || p14)
 let l16 := x.out.set (Int.toNat x.i) 1
 let t17 := IntKind.i64.wrap (x.i + 1)
 (bif b1 then (.inl ⟨x.how, t17, x.vx, x.y, (bif p15 then l16 else x.out)⟩) else (.inr ⟨x.how, x.i, x.vx, x.y, x.out⟩))
def S.ref09_each_L0_vcs (x : S.ref09_each_L0) : Prop :=
 let b1 := decide (x.i < 64)
 let e2 := x.vx.getD (Int.toNat x.i) 0
 let e3 := x.y.getD (Int.toNat x.i) 0
 let t4 := IntKind.i64.wrap (e2 + e3)
 let b5 := x.how == 0
 let b6 := decide (t4 > 0)
 let p7 := (b5 && b6)
 let b8 := x.how == 1
 let b9 := t4 == 1
 let p10 := (b8 && b9)
 let p11 := (p7 || p10)
 let b12 := x.how == 2
 let b13 := t4 == 2
 let p14 := (b12 && b13)
 let p15 := (p11 || p14)
 ((b1 = true → (All [(0 : Int) ≤ x.i, x.i < (64 : Int), (0 : Int) ≤ x.i, x.i < (64 : Int), (p15 = true → ((0 : Int) ≤ x.i ∧ x.i < (64 : Int)))] ∧ True)) ∧ (b1 = false → True))
def S.ref09_each_L0_run (x : S.ref09_each_L0) : S.ref09_each_L0 := theRun (fun x => x) S.ref09_each_L0_step S.ref09_each_L0_vcs x
def S.ref09_each (a : Int) (b : Int) (how : Int) : Int :=
 let r1 := S.ref09_digits a
 let r2 := S.ref09_digits b
 let x3 := (⟨how, 0, r1, r2, (List.replicate 64 (0 : Int))⟩ : S.ref09_each_L0)
 let y4 := S.ref09_each_L0_run x3
 let r5 := S.ref09_number y4.out
 r5
def S.ref09_each_pre (a : Int) (b : Int) (how : Int) : Prop :=
 let r1 := S.ref09_digits a
 let r2 := S.ref09_digits b
 let x3 := (⟨how, 0, r1, r2, (List.replicate 64 (0 : Int))⟩ : S.ref09_each_L0)
 let y4 := S.ref09_each_L0_run x3
 (All [S.ref09_digits_pre a, S.ref09_digits_pre b, Runs S.ref09_each_L0_step S.ref09_each_L0_vcs x3 (S.ref09_each_L0_run x3), S.ref09_number_pre y4.out] ∧ True)
@[ext] structure S.ref09_Shift_L0 where
 n : Int
 i : Int
 d : (List Int)
def S.ref09_Shift_L0_step (x : S.ref09_Shift_L0) : S.ref09_Shift_L0 ⊕ (S.ref09_Shift_L0) :=
 let b1 := decide (x.i ≥ 0)
 let t2 := IntKind.i64.wrap (2 * x.n)
 let e3 := x.d.getD (Int.toNat x.i) 0
 let t4 := IntKind.i64.wrap (t2 + e3)
 let t5 := IntKind.i64.wrap (x.i - 1)
 (bif b1 then (.inl ⟨t4, t5, x.d⟩) else (.inr ⟨x.n, x.i, x.d⟩))
def S.ref09_Shift_L0_vcs (x : S.ref09_Shift_L0) : Prop :=
 let b1 := decide (x.i ≥ 0)
 ((b1 = true → (All [(0 : Int) ≤ x.i, x.i < (64 : Int)] ∧ True)) ∧ (b1 = false → True))
def S.ref09_Shift_L0_run (x : S.ref09_Shift_L0) : S.ref09_Shift_L0 := theRun (fun x => x) S.ref09_Shift_L0_step S.ref09_Shift_L0_vcs x
def S.ref09_Shift (b : Int) : Int :=
 let r1 := S.ref09_digits b
 let x2 := (⟨0, 5, r1⟩ : S.ref09_Shift_L0)
 let y3 := S.ref09_Shift_L0_run x2
 y3.n
def S.ref09_Shift_pre (b : Int) : Prop :=
 let r1 := S.ref09_digits b
 let x2 := (⟨0, 5, r1⟩ : S.ref09_Shift_L0)
 (All [S.ref09_digits_pre b, Runs S.ref09_Shift_L0_step S.ref09_Shift_L0_vcs x2 (S.ref09_Shift_L0_run x2)] ∧ True)
@[ext] structure S.ref09_shift_L0 where
 vby : Int
 i : Int
 vx : (List Int)
 out : (List Int)
def S.ref09_shift_L0_step (x : S.ref09_shift_L0) : S.ref09_shift_L0 ⊕ (S.ref09_shift_L0) :=
 let b1 := decide (x.i < 64)
 let t2 := IntKind.i64.wrap (x.i - x.vby)
 let b3 := decide (t2 > 63)
 let b4 := decide ((bif b3 then 63 else t2) ≥ 0)
 let e5 := x.vx.getD (Int.toNat (bif b3 then 63 else t2)) 0
 let l6 := x.out.set (Int.toNat x.i) e5
 let t7 := IntKind.i64.wrap (x.i + 1)
 (bif b1 then (.inl ⟨x.vby, t7, x.vx, (bif b4 then l6 else x.out)⟩) else (.inr ⟨x.vby, x.i, x.vx, x.out⟩))
def S.ref09_shift_L0_vcs (x : S.ref09_shift_L0) : Prop :=
 let b1 := decide (x.i < 64)
 let t2 := IntKind.i64.wrap (x.i - x.vby)
 let b3 := decide (t2 > 63)
 let b4 := decide ((bif b3 then 63 else t2) ≥ 0)
 ((b1 = true → (All [(b4 = true → ((0 : Int) ≤ (bif b3 then 63 else t2) ∧ (bif b3 then 63 else t2) < (64 : Int) ∧ (0 : Int) ≤ x.i ∧ x.i < (64 : Int)))] ∧ True)) ∧ (b1 = false → True))
def S.ref09_shift_L0_run (x : S.ref09_shift_L0) : S.ref09_shift_L0 := theRun (fun x => x) S.ref09_shift_L0_step S.ref09_shift_L0_vcs x
def S.ref09_shift (a : Int) (a1 : Int) : Int :=
 let r1 := S.ref09_digits a
 let x2 := (⟨a1, 0, r1, (List.replicate 64 (0 : Int))⟩ : S.ref09_shift_L0)
 let y3 := S.ref09_shift_L0_run x2
 let r4 := S.ref09_number y3.out
 r4
def S.ref09_shift_pre (a : Int) (a1 : Int) : Prop :=
 let r1 := S.ref09_digits a
 let x2 := (⟨a1, 0, r1, (List.replicate 64 (0 : Int))⟩ : S.ref09_shift_L0)
 let y3 := S.ref09_shift_L0_run x2
 (All [S.ref09_digits_pre a, Runs S.ref09_shift_L0_step S.ref09_shift_L0_vcs x2 (S.ref09_shift_L0_run x2), S.ref09_number_pre y3.out] ∧ True)
@[ext] structure S.ref09_add_L0 where
 carry : Int
 i : Int
 vx : (List Int)
 y : (List Int)
 out : (List Int)
def S.ref09_add_L0_step (x : S.ref09_add_L0) : S.ref09_add_L0 ⊕ (S.ref09_add_L0) :=
 let b1 := decide (x.i < 64)
 let e2 := x.vx.getD (Int.toNat x.i) 0
 let e3 := x.y.getD (Int.toNat x.i) 0
 let t4 := IntKind.i64.wrap (e2 + e3)
 let t5 := IntKind.i64.wrap (t4 + x.carry)
 let t6 := Int.tmod t5 2
 let l7 := x.out.set (Int.toNat x.i) t6
 let t8 := IntKind.i64.wrap (Int.tdiv t5 2)
 let t9 := IntKind.i64.wrap (x.i + 1)
 (bif b1 then (.inl ⟨t8, t9, x.vx, x.y, l7⟩) else (.inr ⟨x.carry, x.i, x.vx, x.y, x.out⟩))
def S.ref09_add_L0_vcs (x : S.ref09_add_L0) : Prop :=
 let b1 := decide (x.i < 64)
 ((b1 = true → (All [(0 : Int) ≤ x.i, x.i < (64 : Int), (0 : Int) ≤ x.i, x.i < (64 : Int), (0 : Int) ≤ x.i, x.i < (64 : Int)] ∧ True)) ∧ (b1 = false → True))
def S.ref09_add_L0_run (x : S.ref09_add_L0) : S.ref09_add_L0 := theRun (fun x => x) S.ref09_add_L0_step S.ref09_add_L0_vcs x
def S.ref09_add (a : Int) (b : Int) : Int :=
 let r1 := S.ref09_digits a
 let r2 := S.ref09_digits b
 let x3 := (⟨0, 0, r1, r2, (List.replicate 64 (0 : Int))⟩ : S.ref09_add_L0)
 let y4 := S.ref09_add_L0_run x3
 let r5 := S.ref09_number y4.out
 r5
def S.ref09_add_pre (a : Int) (b : Int) : Prop :=
 let r1 := S.ref09_digits a
 let r2 := S.ref09_digits b
 let x3 := (⟨0, 0, r1, r2, (List.replicate 64 (0 : Int))⟩ : S.ref09_add_L0)
 let y4 := S.ref09_add_L0_run x3
 (All [S.ref09_digits_pre a, S.ref09_digits_pre b, Runs S.ref09_add_L0_step S.ref09_add_L0_vcs x3 (S.ref09_add_L0_run x3), S.ref09_number_pre y4.out] ∧ True)
@[ext] structure S.ref09_Inv_L0 where
 i : Int
 vx : (List Int)
def S.ref09_Inv_L0_step (x : S.ref09_Inv_L0) : S.ref09_Inv_L0 ⊕ (S.ref09_Inv_L0) :=
 let b1 := decide (x.i < 64)
 let e2 := x.vx.getD (Int.toNat x.i) 0
 let t3 := IntKind.i64.wrap (1 - e2)
 let l4 := x.vx.set (Int.toNat x.i) t3
 let t5 := IntKind.i64.wrap (x.i + 1)
 (bif b1 then (.inl ⟨t5, l4⟩) else (.inr ⟨x.i, x.vx⟩))
def S.ref09_Inv_L0_vcs (x : S.ref09_Inv_L0) : Prop :=
 let b1 := decide (x.i < 64)
 ((b1 = true → (All [(0 : Int) ≤ x.i, x.i < (64 : Int), (0 : Int) ≤ x.i, x.i < (64 : Int)] ∧ True)) ∧ (b1 = false → True))
def S.ref09_Inv_L0_run (x : S.ref09_Inv_L0) : S.ref09_Inv_L0 := theRun (fun x => x) S.ref09_Inv_L0_step S.ref09_Inv_L0_vcs x
def S.ref09_Inv (a : Int) : Int :=
 let r1 := S.ref09_digits a
 let x2 := (⟨0, r1⟩ : S.ref09_Inv_L0)
 let y3 := S.ref09_Inv_L0_run x2
 let r4 := S.ref09_number y3.vx
 r4
def S.ref09_Inv_pre (a : Int) : Prop :=
 let r1 := S.ref09_digits a
 let x2 := (⟨0, r1⟩ : S.ref09_Inv_L0)
 let y3 := S.ref09_Inv_L0_run x2
 (All [S.ref09_digits_pre a, Runs S.ref09_Inv_L0_step S.ref09_Inv_L0_vcs x2 (S.ref09_Inv_L0_run x2), S.ref09_number_pre y3.vx] ∧ True)
def S.ref09_neg (a : Int) : Int :=
 let r1 := S.ref09_Inv a
 let r2 := S.ref09_add r1 1
 r2
def S.ref09_neg_pre (a : Int) : Prop :=
 let r1 := S.ref09_Inv a
 (All [S.ref09_Inv_pre a, S.ref09_add_pre r1 1] ∧ True)
@[ext] structure S.ref09_mul_L0 where
 a : Int
 sum : Int
 i : Int
 y : (List Int)
def S.ref09_mul_L0_step (x : S.ref09_mul_L0) : S.ref09_mul_L0 ⊕ (S.ref09_mul_L0) :=
 let b1 := decide (x.i < 64)
 let e2 := x.y.getD (Int.toNat x.i) 0
 let b3 := e2 == 1
 let r4 := S.ref09_add x.sum x.a
 let r5 := S.ref09_add x.a x.a
 let t6 := IntKind.i64.wrap (x.i + 1)
 (bif b1 then (.inl ⟨r5, (bif b3 then r4 else x.sum), t6, x.y⟩) else (.inr ⟨x.a, x.sum, x.i, x.y⟩))
def S.ref09_mul_L0_vcs (x : S.ref09_mul_L0) : Prop :=
 let b1 := decide (x.i < 64)
 let e2 := x.y.getD (Int.toNat x.i) 0
 let b3 := e2 == 1
 ((b1 = true → (All [(0 : Int) ≤ x.i, x.i < (64 : Int), (b3 = true → S.ref09_add_pre x.sum x.a), S.ref09_add_pre x.a x.a] ∧ True)) ∧ (b1 = false → True))
def S.ref09_mul_L0_run (x : S.ref09_mul_L0) : S.ref09_mul_L0 := theRun (fun x => x) S.ref09_mul_L0_step S.ref09_mul_L0_vcs x
def S.ref09_mul (a : Int) (b : Int) : Int :=
 let r1 := S.ref09_digits b
 let x2 := (⟨a, 0, 0, r1⟩ : S.ref09_mul_L0)
 let y3 := S.ref09_mul_L0_run x2
 y3.sum
def S.ref09_mul_pre (a : Int) (b : Int) : Prop :=
 let r1 := S.ref09_digits b
 let x2 := (⟨a, 0, 0, r1⟩ : S.ref09_mul_L0)
 (All [S.ref09_digits_pre b, Runs S.ref09_mul_L0_step S.ref09_mul_L0_vcs x2 (S.ref09_mul_L0_run x2)] ∧ True)
def S.ref09_size (a : Int) : Int :=
 let b1 := decide (a < 0)
 let r2 := S.ref09_neg a
 let t3 := IntKind.u64.wrap r2
 let t4 := IntKind.u64.wrap a
 (bif b1 then t3 else t4)
def S.ref09_size_pre (a : Int) : Prop :=
 let b1 := decide (a < 0)
 ((b1 = true → (All [S.ref09_neg_pre a] ∧ True)) ∧ (b1 = false → True))
def S.ref09_quotient (a : Int) (b : Int) : Int :=
 let r1 := S.ref09_size a
 let r2 := S.ref09_size b
 let t3 := IntKind.u64.wrap (Int.tdiv r1 r2)
 let b4 := decide (a < 0)
 let b5 := decide (b < 0)
 let b6 := !(b4 == b5)
 let t7 := IntKind.i64.wrap t3
 let r8 := S.ref09_neg t7
 let t9 := IntKind.i64.wrap t3
 (bif b6 then r8 else t9)
def S.ref09_quotient_pre (a : Int) (b : Int) : Prop :=
 let r1 := S.ref09_size a
 let r2 := S.ref09_size b
 let t3 := IntKind.u64.wrap (Int.tdiv r1 r2)
 let b4 := decide (a < 0)
 let b5 := decide (b < 0)
 let b6 := !(b4 == b5)
 let t7 := IntKind.i64.wrap t3
 (All [S.ref09_size_pre a, S.ref09_size_pre b, r2 ≠ 0] ∧ ((b6 = true → (All [S.ref09_neg_pre t7] ∧ True)) ∧ (b6 = false → True)))
def S.ref09_Do (op : Int) (a : Int) (b : Int) : Int × Bool :=
 let b1 := op == 16
 let b2 := op == 17
 let p3 := (b1 || b2)
 let b4 := b == 0
 let p5 := (p3 && b4)
 let b6 := op == 0
 let b7 := a != 0
 let b8 := b != 0
 let p9 := (b7 || b8)
 let r10 := S.ref09_bit p9
 let b11 := op == 1
 let b12 := a != 0
 let b13 := b != 0
 let p14 := (b12 && b13)
 let r15 := S.ref09_bit p14
 let b16 := op == 2
 let b17 := a == b
 let r18 := S.ref09_bit b17
 let b19 := op == 3
 let b20 := a != b
 let r21 := S.ref09_bit b20
 let b22 := op == 4
 let r23 := S.ref09_less a b
 let r24 := S.ref09_bit r23
 let b25 := op == 5
 let r26 := S.ref09_less b a
 let b27 := !r26
 let r28 := S.ref09_bit b27
 let b29 := op == 6
 let r30 := S.ref09_less b a
 let r31 := S.ref09_bit r30
 let b32 := op == 7
 let r33 := S.ref09_less a b
 let b34 := !r33
 let r35 := S.ref09_bit b34
 let b36 := op == 8
 let b37 := op == 9
 let b38 := op == 10
 let t39 := IntKind.i64.wrap (op - 8)
 let r40 := S.ref09_each a b t39
 let b41 := op == 11
 let r42 := S.ref09_Shift b
 let r43 := S.ref09_shift a r42
 let b44 := op == 12
 let r45 := S.ref09_Shift b
 let t46 := IntKind.i64.wrap (0 - r45)
 let r47 := S.ref09_shift a t46
 let b48 := op == 13
 let r49 := S.ref09_add a b
 let b50 := op == 14
 let r51 := S.ref09_neg b
 let r52 := S.ref09_add a r51
 let b53 := op == 15
 let r54 := S.ref09_mul a b
 let b55 := op == 16
 let r56 := S.ref09_quotient a b
 let b57 := op == 17
 let r58 := S.ref09_quotient a b
 let r59 := S.ref09_mul r58 b
 let r60 := S.ref09_neg r59
 let r61 := S.ref09_add a r60
 (bif p5 then (0, false) else (bif b6 then (r10, true) else (bif b11 then (r15, true) else (bif b16 then (r18, true) else (bif b19 then (r21, true) else (bif b22 then (r24, true) else (bif b25 then (r28, true) else (bif b29 then (r31, true) else (bif b32 then (r35, true) else (bif (bif b36 then b36 else (bif b37 then b37 else b38)) then (r40, true) else (bif b41 then (r43, true) else (bif b44 then (r47, true) else (bif b48 then (r49, true) else (bif b50 then (r52, true) else (bif b53 then (r54, true) else (bif b55 then (r56, true) else (bif b57 then (r61, true) else (0, false))))))))))))))))))
def S.ref09_Do_pre (op : Int) (a : Int) (b : Int) : Prop :=
 let b1 := op == 16
 let b2 := op == 17
 let p3 := (b1 || b2)
 let b4 := b == 0
 let p5 := (p3 && b4)
 let b6 := op == 0
 let b11 := op == 1
 let b16 := op == 2
 let b19 := op == 3
 let b22 := op == 4
 let b25 := op == 5
 let b29 := op == 6
 let b32 := op == 7
 let b36 := op == 8
 let b37 := op == 9
 let b38 := op == 10
 let t39 := IntKind.i64.wrap (op - 8)
 let b41 := op == 11
 let r42 := S.ref09_Shift b
 let b44 := op == 12
 let r45 := S.ref09_Shift b
 let t46 := IntKind.i64.wrap (0 - r45)
 let b48 := op == 13
 let b50 := op == 14
 let r51 := S.ref09_neg b
 let b53 := op == 15
 let b55 := op == 16
 let b57 := op == 17
 let r58 := S.ref09_quotient a b
 let r59 := S.ref09_mul r58 b
 let r60 := S.ref09_neg r59
 ((p5 = true → True) ∧ (p5 = false → ((b6 = true → True) ∧ (b6 = false → ((b11 = true → True) ∧ (b11 = false → ((b16 = true → True) ∧ (b16 = false → ((b19 = true → True) ∧ (b19 = false → ((b22 = true → (All [S.ref09_less_pre a b] ∧ True)) ∧ (b22 = false → ((b25 = true → (All [S.ref09_less_pre b a] ∧ True)) ∧ (b25 = false → ((b29 = true → (All [S.ref09_less_pre b a] ∧ True)) ∧ (b29 = false → ((b32 = true → (All [S.ref09_less_pre a b] ∧ True)) ∧ (b32 = false → (((bif b36 then b36 else (bif b37 then b37 else b38)) = true → (All [S.ref09_each_pre a b t39] ∧ True)) ∧ ((bif b36 then b36 else (bif b37 then b37 else b38)) = false → ((b41 = true → (All [S.ref09_Shift_pre b, S.ref09_shift_pre a r42] ∧ True)) ∧ (b41 = false → ((b44 = true → (All [S.ref09_Shift_pre b, S.ref09_shift_pre a t46] ∧ True)) ∧ (b44 = false → ((b48 = true → (All [S.ref09_add_pre a b] ∧ True)) ∧ (b48 = false → ((b50 = true → (All [S.ref09_neg_pre b, S.ref09_add_pre a r51] ∧ True)) ∧ (b50 = false → ((b53 = true → (All [S.ref09_mul_pre a b] ∧ True)) ∧ (b53 = false → ((b55 = true → (All [S.ref09_quotient_pre a b] ∧ True)) ∧ (b55 = false → ((b57 = true → (All [S.ref09_quotient_pre a b, S.ref09_mul_pre r58 b, S.ref09_neg_pre r59, S.ref09_add_pre a r60] ∧ True)) ∧ (b57 = false → True))))))))))))))))))))))))))))))))))
@[ext] structure S.ref01_trim_L0 where
 out : (List Int)
def S.ref01_trim_L0_step (x : S.ref01_trim_L0) : S.ref01_trim_L0 ⊕ (S.ref01_trim_L0) :=
 let b1 := decide ((x.out.length : Int) > 0)
 let t2 := IntKind.i64.wrap ((x.out.length : Int) - 1)
 let e3 := x.out.getD (Int.toNat t2) 0
 let b4 := e3 == 0
 let p5 := (b1 && b4)
 let t6 := IntKind.i64.wrap ((x.out.length : Int) - 1)
 let l7 := x.out.take (Int.toNat t6)
 (bif p5 then (.inl ⟨l7⟩) else (.inr ⟨x.out⟩))
def S.ref01_trim_L0_vcs (x : S.ref01_trim_L0) : Prop :=
 let b1 := decide ((x.out.length : Int) > 0)
 let t2 := IntKind.i64.wrap ((x.out.length : Int) - 1)
 let e3 := x.out.getD (Int.toNat t2) 0
 let b4 := e3 == 0
 let p5 := (b1 && b4)
 let t6 := IntKind.i64.wrap ((x.out.length : Int) - 1)
 (All [(b1 = true → ((0 : Int) ≤ t2 ∧ t2 < (x.out.length : Int)))] ∧ ((p5 = true → (All [(0 : Int) ≤ t6, t6 ≤ (x.out.length : Int)] ∧ True)) ∧ (p5 = false → True)))
def S.ref01_trim_L0_run (x : S.ref01_trim_L0) : S.ref01_trim_L0 := theRun (fun x => x) S.ref01_trim_L0_step S.ref01_trim_L0_vcs x
def S.ref01_trim (l : (List Int)) : (List Int) :=
 let l1 := ([] : List Int) ++ l
 let x2 := (⟨l1⟩ : S.ref01_trim_L0)
 let y3 := S.ref01_trim_L0_run x2
 y3.out
def S.ref01_trim_pre (l : (List Int)) : Prop :=
 let l1 := ([] : List Int) ++ l
 let x2 := (⟨l1⟩ : S.ref01_trim_L0)
 (All [((([] : List Int).length + l.length : Nat) : Int) * 1 ≤ 140737488355328, Runs S.ref01_trim_L0_step S.ref01_trim_L0_vcs x2 (S.ref01_trim_L0_run x2)] ∧ True)
@[ext] structure S.ref01_Of_L2 where
 n : Int
 k : Int
 out : (List Int)
def S.ref01_Of_L2_step (x : S.ref01_Of_L2) : S.ref01_Of_L2 ⊕ (S.ref01_Of_L2) :=
 let b1 := decide (x.k < 8)
 let t2 := Int.tmod x.n 256
 let t3 := IntKind.u8.wrap t2
 let l4 := x.out ++ ([t3] : List Int)
 let t5 := IntKind.u64.wrap (Int.tdiv x.n 256)
 let t6 := IntKind.i64.wrap (x.k + 1)
 (bif b1 then (.inl ⟨t5, t6, l4⟩) else (.inr ⟨x.n, x.k, x.out⟩))
def S.ref01_Of_L2_vcs (x : S.ref01_Of_L2) : Prop :=
 let b1 := decide (x.k < 8)
 let t2 := Int.tmod x.n 256
 let t3 := IntKind.u8.wrap t2
 ((b1 = true → (All [((x.out.length + ([t3] : List Int).length : Nat) : Int) * 1 ≤ 140737488355328] ∧ True)) ∧ (b1 = false → True))
def S.ref01_Of_L2_run (x : S.ref01_Of_L2) : S.ref01_Of_L2 := theRun (fun x => x) S.ref01_Of_L2_step S.ref01_Of_L2_vcs x
@[ext] structure S.ref01_Of_L0 where
 l : (List Int)
 i : Int
 out : (List Int)
def S.ref01_Of_L0_step (x : S.ref01_Of_L0) : S.ref01_Of_L0 ⊕ (S.ref01_Of_L0) :=
 let b1 := decide (x.i < (x.l.length : Int))
 let e2 := x.l.getD (Int.toNat x.i) 0
 let x3 := (⟨e2, 0, x.out⟩ : S.ref01_Of_L2)
 let y4 := S.ref01_Of_L2_run x3
 let t5 := IntKind.i64.wrap (x.i + 1)
 (bif b1 then (.inl ⟨x.l, t5, y4.out⟩) else (.inr ⟨x.l, x.i, x.out⟩))
def S.ref01_Of_L0_vcs (x : S.ref01_Of_L0) : Prop :=
 let b1 := decide (x.i < (x.l.length : Int))
 let e2 := x.l.getD (Int.toNat x.i) 0
 let x3 := (⟨e2, 0, x.out⟩ : S.ref01_Of_L2)
 ((b1 = true → (All [(0 : Int) ≤ x.i, x.i < (x.l.length : Int), Runs S.ref01_Of_L2_step S.ref01_Of_L2_vcs x3 (S.ref01_Of_L2_run x3)] ∧ True)) ∧ (b1 = false → True))
def S.ref01_Of_L0_run (x : S.ref01_Of_L0) : S.ref01_Of_L0 := theRun (fun x => x) S.ref01_Of_L0_step S.ref01_Of_L0_vcs x
def S.ref01_Of (l : (List Int)) : (List Int) :=
 let x1 := (⟨l, 0, ([] : List Int)⟩ : S.ref01_Of_L0)
 let y2 := S.ref01_Of_L0_run x1
 let r3 := S.ref01_trim y2.out
 r3
def S.ref01_Of_pre (l : (List Int)) : Prop :=
 let x1 := (⟨l, 0, ([] : List Int)⟩ : S.ref01_Of_L0)
 let y2 := S.ref01_Of_L0_run x1
 (All [Runs S.ref01_Of_L0_step S.ref01_Of_L0_vcs x1 (S.ref01_Of_L0_run x1), S.ref01_trim_pre y2.out] ∧ True)
def S.ref22_base : (List Int) :=
 let r1 := S.ref01_Of ([0, 0, 4611686018427387904] : List Int)
 r1
def S.ref22_base_pre : Prop :=
 (All [S.ref01_Of_pre ([0, 0, 4611686018427387904] : List Int)] ∧ True)
def S.ref01_at (n : (List Int)) (i : Int) : Int :=
 let b1 := decide (i < (n.length : Int))
 let e2 := n.getD (Int.toNat i) 0
 let t3 := IntKind.i64.wrap e2
 (bif b1 then t3 else 0)
def S.ref01_at_pre (n : (List Int)) (i : Int) : Prop :=
 let b1 := decide (i < (n.length : Int))
 ((b1 = true → (All [(0 : Int) ≤ i, i < (n.length : Int)] ∧ True)) ∧ (b1 = false → True))
@[ext] structure S.ref01_Add_L0 where
 a : (List Int)
 b : (List Int)
 carry : Int
 i : Int
 out : (List Int)
def S.ref01_Add_L0_step (x : S.ref01_Add_L0) : S.ref01_Add_L0 ⊕ (S.ref01_Add_L0) :=
 let b1 := decide (x.i < (x.a.length : Int))
 let b2 := decide (x.i < (x.b.length : Int))
 let p3 := (b1 || b2)
 let b4 := decide (x.carry > 0)
 let p5 := (p3 || b4)
 let r6 := S.ref01_at x.a x.i
 let r7 := S.ref01_at x.b x.i
 let t8 := IntKind.i64.wrap (r6 + r7)
 let t9 := IntKind.i64.wrap (t8 + x.carry)
 let t10 := Int.tmod t9 256
 let t11 := IntKind.u8.wrap t10
 let l12 := x.out ++ ([t11] : List Int)
 let t13 := IntKind.i64.wrap (Int.tdiv t9 256)
 let t14 := IntKind.i64.wrap (x.i + 1)
 (bif p5 then (.inl ⟨x.a, x.b, t13, t14, l12⟩) else (.inr ⟨x.a, x.b, x.carry, x.i, x.out⟩))
def S.ref01_Add_L0_vcs (x : S.ref01_Add_L0) : Prop :=
 let b1 := decide (x.i < (x.a.length : Int))
 let b2 := decide (x.i < (x.b.length : Int))
 let p3 := (b1 || b2)
 let b4 := decide (x.carry > 0)
 let p5 := (p3 || b4)
 let r6 := S.ref01_at x.a x.i
 let r7 := S.ref01_at x.b x.i
 let t8 := IntKind.i64.wrap (r6 + r7)
 let t9 := IntKind.i64.wrap (t8 + x.carry)
 let t10 := Int.tmod t9 256
 let t11 := IntKind.u8.wrap t10
 ((p5 = true → (All [S.ref01_at_pre x.a x.i, S.ref01_at_pre x.b x.i, ((x.out.length + ([t11] : List Int).length : Nat) : Int) * 1 ≤ 140737488355328] ∧ True)) ∧ (p5 = false → True))
def S.ref01_Add_L0_run (x : S.ref01_Add_L0) : S.ref01_Add_L0 := theRun (fun x => x) S.ref01_Add_L0_step S.ref01_Add_L0_vcs x
def S.ref01_Add (a : (List Int)) (b : (List Int)) : (List Int) :=
 let x1 := (⟨a, b, 0, 0, ([] : List Int)⟩ : S.ref01_Add_L0)
 let y2 := S.ref01_Add_L0_run x1
 let r3 := S.ref01_trim y2.out
 r3
def S.ref01_Add_pre (a : (List Int)) (b : (List Int)) : Prop :=
 let x1 := (⟨a, b, 0, 0, ([] : List Int)⟩ : S.ref01_Add_L0)
 let y2 := S.ref01_Add_L0_run x1
 (All [Runs S.ref01_Add_L0_step S.ref01_Add_L0_vcs x1 (S.ref01_Add_L0_run x1), S.ref01_trim_pre y2.out] ∧ True)
def S.ref22_much (n : Int) : (List Int) :=
 let b1 := decide (n < 0)
 let t2 := IntKind.i64.wrap (0 - n)
 let t3 := IntKind.u64.wrap t2
 let r4 := S.ref01_Of ([t3] : List Int)
 let t5 := IntKind.u64.wrap n
 let r6 := S.ref01_Of ([t5] : List Int)
 (bif b1 then r4 else r6)
def S.ref22_much_pre (n : Int) : Prop :=
 let b1 := decide (n < 0)
 let t2 := IntKind.i64.wrap (0 - n)
 let t3 := IntKind.u64.wrap t2
 let t5 := IntKind.u64.wrap n
 ((b1 = true → (All [S.ref01_Of_pre ([t3] : List Int)] ∧ True)) ∧ (b1 = false → (All [S.ref01_Of_pre ([t5] : List Int)] ∧ True)))
@[ext] structure S.ref01_Mul_L2 where
 a : (List Int)
 b : (List Int)
 i : Int
 k : Int
 sums : (List Int)
def S.ref01_Mul_L2_step (x : S.ref01_Mul_L2) : S.ref01_Mul_L2 ⊕ (S.ref01_Mul_L2) :=
 let b1 := decide (x.k < (x.b.length : Int))
 let t2 := IntKind.i64.wrap (x.i + x.k)
 let e3 := x.sums.getD (Int.toNat t2) 0
 let e4 := x.a.getD (Int.toNat x.i) 0
 let t5 := IntKind.i64.wrap e4
 let e6 := x.b.getD (Int.toNat x.k) 0
 let t7 := IntKind.i64.wrap e6
 let t8 := IntKind.i64.wrap (t5 * t7)
 let t9 := IntKind.i64.wrap (e3 + t8)
 let t10 := IntKind.i64.wrap (x.i + x.k)
 let t11 := Int.tmod t9 256
 let l12 := x.sums.set (Int.toNat t10) t11
 let t13 := IntKind.i64.wrap (x.i + x.k)
 let t14 := IntKind.i64.wrap (t13 + 1)
 let t15 := IntKind.i64.wrap (x.i + x.k)
 let t16 := IntKind.i64.wrap (t15 + 1)
 let e17 := l12.getD (Int.toNat t16) 0
 let t18 := IntKind.i64.wrap (Int.tdiv t9 256)
 let t19 := IntKind.i64.wrap (e17 + t18)
 let l20 := l12.set (Int.toNat t14) t19
 let t21 := IntKind.i64.wrap (x.k + 1)
 (bif b1 then (.inl ⟨x.a, x.b, x.i, t21, l20⟩) else (.inr ⟨x.a, x.b, x.i, x.k, x.sums⟩))
def S.ref01_Mul_L2_vcs (x : S.ref01_Mul_L2) : Prop :=
 let b1 := decide (x.k < (x.b.length : Int))
 let t2 := IntKind.i64.wrap (x.i + x.k)
 let e3 := x.sums.getD (Int.toNat t2) 0
 let e4 := x.a.getD (Int.toNat x.i) 0
 let t5 := IntKind.i64.wrap e4
 let e6 := x.b.getD (Int.toNat x.k) 0
 let t7 := IntKind.i64.wrap e6
 let t8 := IntKind.i64.wrap (t5 * t7)
 let t9 := IntKind.i64.wrap (e3 + t8)
 let t10 := IntKind.i64.wrap (x.i + x.k)
 let t11 := Int.tmod t9 256
 let l12 := x.sums.set (Int.toNat t10) t11
 let t13 := IntKind.i64.wrap (x.i + x.k)
 let t14 := IntKind.i64.wrap (t13 + 1)
 let t15 := IntKind.i64.wrap (x.i + x.k)
 let t16 := IntKind.i64.wrap (t15 + 1)
 ((b1 = true → (All [(0 : Int) ≤ t2, t2 < (x.sums.length : Int), (0 : Int) ≤ x.i, x.i < (x.a.length : Int), (0 : Int) ≤ x.k, x.k < (x.b.length : Int), (0 : Int) ≤ t10, t10 < (x.sums.length : Int), (0 : Int) ≤ t16, t16 < (l12.length : Int), (0 : Int) ≤ t14, t14 < (l12.length : Int)] ∧ True)) ∧ (b1 = false → True))
def S.ref01_Mul_L2_run (x : S.ref01_Mul_L2) : S.ref01_Mul_L2 := theRun (fun x => x) S.ref01_Mul_L2_step S.ref01_Mul_L2_vcs x
@[ext] structure S.ref01_Mul_L0 where
 a : (List Int)
 b : (List Int)
 i : Int
 sums : (List Int)
def S.ref01_Mul_L0_step (x : S.ref01_Mul_L0) : S.ref01_Mul_L0 ⊕ (S.ref01_Mul_L0) :=
 let b1 := decide (x.i < (x.a.length : Int))
 let x2 := (⟨x.a, x.b, x.i, 0, x.sums⟩ : S.ref01_Mul_L2)
 let y3 := S.ref01_Mul_L2_run x2
 let t4 := IntKind.i64.wrap (y3.i + 1)
 (bif b1 then (.inl ⟨y3.a, y3.b, t4, y3.sums⟩) else (.inr ⟨x.a, x.b, x.i, x.sums⟩))
def S.ref01_Mul_L0_vcs (x : S.ref01_Mul_L0) : Prop :=
 let b1 := decide (x.i < (x.a.length : Int))
 let x2 := (⟨x.a, x.b, x.i, 0, x.sums⟩ : S.ref01_Mul_L2)
 ((b1 = true → (All [Runs S.ref01_Mul_L2_step S.ref01_Mul_L2_vcs x2 (S.ref01_Mul_L2_run x2)] ∧ True)) ∧ (b1 = false → True))
def S.ref01_Mul_L0_run (x : S.ref01_Mul_L0) : S.ref01_Mul_L0 := theRun (fun x => x) S.ref01_Mul_L0_step S.ref01_Mul_L0_vcs x
@[ext] structure S.ref01_Mul_L4 where
 carry : Int
 i : Int
 sums : (List Int)
 out : (List Int)
def S.ref01_Mul_L4_step (x : S.ref01_Mul_L4) : S.ref01_Mul_L4 ⊕ (S.ref01_Mul_L4) :=
 let b1 := decide (x.i < (x.sums.length : Int))
 let e2 := x.sums.getD (Int.toNat x.i) 0
 let t3 := IntKind.i64.wrap (e2 + x.carry)
 let t4 := Int.tmod t3 256
 let t5 := IntKind.u8.wrap t4
 let l6 := x.out ++ ([t5] : List Int)
 let t7 := IntKind.i64.wrap (Int.tdiv t3 256)
 let t8 := IntKind.i64.wrap (x.i + 1)
 (bif b1 then (.inl ⟨t7, t8, x.sums, l6⟩) else (.inr ⟨x.carry, x.i, x.sums, x.out⟩))
def S.ref01_Mul_L4_vcs (x : S.ref01_Mul_L4) : Prop :=
 let b1 := decide (x.i < (x.sums.length : Int))
 let e2 := x.sums.getD (Int.toNat x.i) 0
 let t3 := IntKind.i64.wrap (e2 + x.carry)
 let t4 := Int.tmod t3 256
 let t5 := IntKind.u8.wrap t4
 ((b1 = true → (All [(0 : Int) ≤ x.i, x.i < (x.sums.length : Int), ((x.out.length + ([t5] : List Int).length : Nat) : Int) * 1 ≤ 140737488355328] ∧ True)) ∧ (b1 = false → True))
def S.ref01_Mul_L4_run (x : S.ref01_Mul_L4) : S.ref01_Mul_L4 := theRun (fun x => x) S.ref01_Mul_L4_step S.ref01_Mul_L4_vcs x
@[ext] structure S.ref01_Mul_L6 where
 carry : Int
 out : (List Int)
def S.ref01_Mul_L6_step (x : S.ref01_Mul_L6) : S.ref01_Mul_L6 ⊕ (S.ref01_Mul_L6) :=
 let b1 := decide (x.carry > 0)
 let t2 := Int.tmod x.carry 256
 let t3 := IntKind.u8.wrap t2
 let l4 := x.out ++ ([t3] : List Int)
 let t5 := IntKind.i64.wrap (Int.tdiv x.carry 256)
 (bif b1 then (.inl ⟨t5, l4⟩) else (.inr ⟨x.carry, x.out⟩))
def S.ref01_Mul_L6_vcs (x : S.ref01_Mul_L6) : Prop :=
 let b1 := decide (x.carry > 0)
 let t2 := Int.tmod x.carry 256
 let t3 := IntKind.u8.wrap t2
 ((b1 = true → (All [((x.out.length + ([t3] : List Int).length : Nat) : Int) * 1 ≤ 140737488355328] ∧ True)) ∧ (b1 = false → True))
def S.ref01_Mul_L6_run (x : S.ref01_Mul_L6) : S.ref01_Mul_L6 := theRun (fun x => x) S.ref01_Mul_L6_step S.ref01_Mul_L6_vcs x
def S.ref01_Mul (a : (List Int)) (b : (List Int)) : (List Int) :=
 let t1 := IntKind.i64.wrap ((a.length : Int) + (b.length : Int))
 let t2 := IntKind.i64.wrap (t1 + 1)
 let x3 := (⟨a, b, 0, (List.replicate (Int.toNat t2) (0 : Int))⟩ : S.ref01_Mul_L0)
 let y4 := S.ref01_Mul_L0_run x3
 let x5 := (⟨0, 0, y4.sums, ([] : List Int)⟩ : S.ref01_Mul_L4)
 let y6 := S.ref01_Mul_L4_run x5
 let x7 := (⟨y6.carry, y6.out⟩ : S.ref01_Mul_L6)
 let y8 := S.ref01_Mul_L6_run x7
 let r9 := S.ref01_trim y8.out
 r9
def S.ref01_Mul_pre (a : (List Int)) (b : (List Int)) : Prop :=
 let t1 := IntKind.i64.wrap ((a.length : Int) + (b.length : Int))
 let t2 := IntKind.i64.wrap (t1 + 1)
 let x3 := (⟨a, b, 0, (List.replicate (Int.toNat t2) (0 : Int))⟩ : S.ref01_Mul_L0)
 let y4 := S.ref01_Mul_L0_run x3
 let x5 := (⟨0, 0, y4.sums, ([] : List Int)⟩ : S.ref01_Mul_L4)
 let y6 := S.ref01_Mul_L4_run x5
 let x7 := (⟨y6.carry, y6.out⟩ : S.ref01_Mul_L6)
 let y8 := S.ref01_Mul_L6_run x7
 (All [(0 : Int) ≤ t2, t2 = t2, t2 * 8 ≤ 140737488355328, Runs S.ref01_Mul_L0_step S.ref01_Mul_L0_vcs x3 (S.ref01_Mul_L0_run x3), Runs S.ref01_Mul_L4_step S.ref01_Mul_L4_vcs x5 (S.ref01_Mul_L4_run x5), Runs S.ref01_Mul_L6_step S.ref01_Mul_L6_vcs x7 (S.ref01_Mul_L6_run x7), S.ref01_trim_pre y8.out] ∧ True)
@[ext] structure S.ref01_Sub_L0 where
 a : (List Int)
 b : (List Int)
 borrow : Int
 i : Int
 out : (List Int)
def S.ref01_Sub_L0_step (x : S.ref01_Sub_L0) : S.ref01_Sub_L0 ⊕ (S.ref01_Sub_L0) :=
 let b1 := decide (x.i < (x.a.length : Int))
 let r2 := S.ref01_at x.a x.i
 let r3 := S.ref01_at x.b x.i
 let t4 := IntKind.i64.wrap (r2 - r3)
 let t5 := IntKind.i64.wrap (t4 - x.borrow)
 let b6 := decide (t5 < 0)
 let t7 := IntKind.i64.wrap (t5 + 256)
 let t8 := IntKind.u8.wrap (bif b6 then t7 else t5)
 let l9 := x.out ++ ([t8] : List Int)
 let t10 := IntKind.i64.wrap (x.i + 1)
 (bif b1 then (.inl ⟨x.a, x.b, (bif b6 then 1 else 0), t10, l9⟩) else (.inr ⟨x.a, x.b, x.borrow, x.i, x.out⟩))
def S.ref01_Sub_L0_vcs (x : S.ref01_Sub_L0) : Prop :=
 let b1 := decide (x.i < (x.a.length : Int))
 let r2 := S.ref01_at x.a x.i
 let r3 := S.ref01_at x.b x.i
 let t4 := IntKind.i64.wrap (r2 - r3)
 let t5 := IntKind.i64.wrap (t4 - x.borrow)
 let b6 := decide (t5 < 0)
 let t7 := IntKind.i64.wrap (t5 + 256)
 let t8 := IntKind.u8.wrap (bif b6 then t7 else t5)
 ((b1 = true → (All [S.ref01_at_pre x.a x.i, S.ref01_at_pre x.b x.i, ((x.out.length + ([t8] : List Int).length : Nat) : Int) * 1 ≤ 140737488355328] ∧ True)) ∧ (b1 = false → True))
def S.ref01_Sub_L0_run (x : S.ref01_Sub_L0) : S.ref01_Sub_L0 := theRun (fun x => x) S.ref01_Sub_L0_step S.ref01_Sub_L0_vcs x
def S.ref01_Sub (a : (List Int)) (b : (List Int)) : (List Int) :=
 let x1 := (⟨a, b, 0, 0, ([] : List Int)⟩ : S.ref01_Sub_L0)
 let y2 := S.ref01_Sub_L0_run x1
 let r3 := S.ref01_trim y2.out
 r3
def S.ref01_Sub_pre (a : (List Int)) (b : (List Int)) : Prop :=
 let x1 := (⟨a, b, 0, 0, ([] : List Int)⟩ : S.ref01_Sub_L0)
 let y2 := S.ref01_Sub_L0_run x1
 (All [Runs S.ref01_Sub_L0_step S.ref01_Sub_L0_vcs x1 (S.ref01_Sub_L0_run x1), S.ref01_trim_pre y2.out] ∧ True)
def S.ref22_put (x : (List Int)) (n : (List Int)) (below : Bool) : (List Int) :=
 let r1 := S.ref01_Sub x n
 let r2 := S.ref01_Add x n
 (bif below then r1 else r2)
def S.ref22_put_pre (x : (List Int)) (n : (List Int)) (below : Bool) : Prop :=
 ((below = true → (All [S.ref01_Sub_pre x n] ∧ True)) ∧ (below = false → (All [S.ref01_Add_pre x n] ∧ True)))
def S.ref22_Exact (op : Int) (a : Int) (b : Int) : (List Int) :=
 let r1 := S.ref22_base
 let r2 := S.ref01_Of ([9223372036854775808] : List Int)
 let r3 := S.ref01_Add r1 r2
 let b4 := op == 15
 let r5 := S.ref22_much a
 let r6 := S.ref22_much b
 let r7 := S.ref01_Mul r5 r6
 let b8 := decide (a < 0)
 let b9 := decide (b < 0)
 let b10 := !(b8 == b9)
 let r11 := S.ref22_put r3 r7 b10
 let r12 := S.ref22_much a
 let b13 := decide (a < 0)
 let r14 := S.ref22_put r3 r12 b13
 let r15 := S.ref22_much b
 let b16 := decide (b < 0)
 let b17 := op == 14
 let b18 := !(b16 == b17)
 let r19 := S.ref22_put r14 r15 b18
 (bif b4 then r11 else r19)
def S.ref22_Exact_pre (op : Int) (a : Int) (b : Int) : Prop :=
 let r1 := S.ref22_base
 let r2 := S.ref01_Of ([9223372036854775808] : List Int)
 let r3 := S.ref01_Add r1 r2
 let b4 := op == 15
 let r5 := S.ref22_much a
 let r6 := S.ref22_much b
 let r7 := S.ref01_Mul r5 r6
 let b8 := decide (a < 0)
 let b9 := decide (b < 0)
 let b10 := !(b8 == b9)
 let r12 := S.ref22_much a
 let b13 := decide (a < 0)
 let r14 := S.ref22_put r3 r12 b13
 let r15 := S.ref22_much b
 let b16 := decide (b < 0)
 let b17 := op == 14
 let b18 := !(b16 == b17)
 (All [S.ref22_base_pre, S.ref01_Of_pre ([9223372036854775808] : List Int), S.ref01_Add_pre r1 r2] ∧ ((b4 = true → (All [S.ref22_much_pre a, S.ref22_much_pre b, S.ref01_Mul_pre r5 r6, S.ref22_put_pre r3 r7 b10] ∧ True)) ∧ (b4 = false → (All [S.ref22_much_pre a, S.ref22_put_pre r3 r12 b13, S.ref22_much_pre b, S.ref22_put_pre r14 r15 b18] ∧ True))))
@[ext] structure S.ref01_Cmp_L0 where
 a : (List Int)
 b : (List Int)
 t4 : Int
 i : Int
def S.ref01_Cmp_L0_step (x : S.ref01_Cmp_L0) : S.ref01_Cmp_L0 ⊕ (Bool × S.ref01_Cmp_L0) :=
 let b1 := decide (x.i ≥ 0)
 let e2 := x.a.getD (Int.toNat x.i) 0
 let e3 := x.b.getD (Int.toNat x.i) 0
 let b4 := decide (e2 < e3)
 let e5 := x.a.getD (Int.toNat x.i) 0
 let e6 := x.b.getD (Int.toNat x.i) 0
 let b7 := decide (e5 > e6)
 let t8 := IntKind.i64.wrap (x.i - 1)
 (bif b1 then (bif b4 then (.inr ⟨true, ⟨x.a, x.b, (-1), x.i⟩⟩) else (bif b7 then (.inr ⟨true, ⟨x.a, x.b, 1, x.i⟩⟩) else (.inl ⟨x.a, x.b, x.t4, t8⟩))) else (.inr ⟨false, ⟨x.a, x.b, x.t4, x.i⟩⟩))
def S.ref01_Cmp_L0_vcs (x : S.ref01_Cmp_L0) : Prop :=
 let b1 := decide (x.i ≥ 0)
 let e2 := x.a.getD (Int.toNat x.i) 0
 let e3 := x.b.getD (Int.toNat x.i) 0
 let b4 := decide (e2 < e3)
 let e5 := x.a.getD (Int.toNat x.i) 0
 let e6 := x.b.getD (Int.toNat x.i) 0
 let b7 := decide (e5 > e6)
 ((b1 = true → (All [(0 : Int) ≤ x.i, x.i < (x.a.length : Int), (0 : Int) ≤ x.i, x.i < (x.b.length : Int)] ∧ ((b4 = true → True) ∧ (b4 = false → (All [(0 : Int) ≤ x.i, x.i < (x.a.length : Int), (0 : Int) ≤ x.i, x.i < (x.b.length : Int)] ∧ ((b7 = true → True) ∧ (b7 = false → True))))))) ∧ (b1 = false → True))
def S.ref01_Cmp_L0_run (x : S.ref01_Cmp_L0) : Bool × S.ref01_Cmp_L0 := theRun (fun x => ⟨true, x⟩) S.ref01_Cmp_L0_step S.ref01_Cmp_L0_vcs x
def S.ref01_Cmp (a : (List Int)) (b : (List Int)) : Int :=
 let b1 : Bool := (a.length : Int) != (b.length : Int)
 let b2 := decide ((a.length : Int) < (b.length : Int))
 let t3 := IntKind.i64.wrap ((a.length : Int) - 1)
 let x4 := (⟨a, b, 0, t3⟩ : S.ref01_Cmp_L0)
 let y5 := S.ref01_Cmp_L0_run x4
 (bif b1 then (bif b2 then (-1) else 1) else (bif y5.1 then y5.2.t4 else 0))
def S.ref01_Cmp_pre (a : (List Int)) (b : (List Int)) : Prop :=
 let b1 : Bool := (a.length : Int) != (b.length : Int)
 let b2 := decide ((a.length : Int) < (b.length : Int))
 let t3 := IntKind.i64.wrap ((a.length : Int) - 1)
 let x4 := (⟨a, b, 0, t3⟩ : S.ref01_Cmp_L0)
 let y5 := S.ref01_Cmp_L0_run x4
 ((b1 = true → ((b2 = true → True) ∧ (b2 = false → True))) ∧ (b1 = false → (All [Runs S.ref01_Cmp_L0_step S.ref01_Cmp_L0_vcs x4 (S.ref01_Cmp_L0_run x4)] ∧ ((y5.1 = true → True) ∧ (y5.1 = false → True)))))
@[ext] structure S.ref22_Bounds_L0 where
 op : Int
 l : (List Int)
 r : (List Int)
 lo : (List Int)
 hi : (List Int)
 i : Int
def S.ref22_Bounds_L0_step (x : S.ref22_Bounds_L0) : S.ref22_Bounds_L0 ⊕ (S.ref22_Bounds_L0) :=
 let b1 := decide (x.i < 4)
 let e2 := x.l.getD (Int.toNat x.i) 0
 let e3 := x.r.getD (Int.toNat x.i) 0
 let r4 := S.ref22_Exact x.op e2 e3
 let r5 := S.ref01_Cmp r4 x.lo
 let b6 := decide (r5 < 0)
 let r7 := S.ref01_Cmp r4 x.hi
 let b8 := decide (r7 > 0)
 let t9 := IntKind.i64.wrap (x.i + 1)
 (bif b1 then (.inl ⟨x.op, x.l, x.r, (bif b6 then r4 else x.lo), (bif b8 then r4 else x.hi), t9⟩) else (.inr ⟨x.op, x.l, x.r, x.lo, x.hi, x.i⟩))
def S.ref22_Bounds_L0_vcs (x : S.ref22_Bounds_L0) : Prop :=
 let b1 := decide (x.i < 4)
 let e2 := x.l.getD (Int.toNat x.i) 0
 let e3 := x.r.getD (Int.toNat x.i) 0
 let r4 := S.ref22_Exact x.op e2 e3
 ((b1 = true → (All [(0 : Int) ≤ x.i, x.i < (x.l.length : Int), (0 : Int) ≤ x.i, x.i < (x.r.length : Int), S.ref22_Exact_pre x.op e2 e3, S.ref01_Cmp_pre r4 x.lo, S.ref01_Cmp_pre r4 x.hi] ∧ True)) ∧ (b1 = false → True))
def S.ref22_Bounds_L0_run (x : S.ref22_Bounds_L0) : S.ref22_Bounds_L0 := theRun (fun x => x) S.ref22_Bounds_L0_step S.ref22_Bounds_L0_vcs x
def S.ref22_Bounds (op : Int) (a : S.Value) (b : S.Value) : (List Int) × (List Int) :=
 let e1 := ([a.I.Lo, a.I.Lo, a.I.Hi, a.I.Hi] : List Int).getD (Int.toNat 0) 0
 let e2 := ([b.I.Lo, b.I.Hi, b.I.Lo, b.I.Hi] : List Int).getD (Int.toNat 0) 0
 let r3 := S.ref22_Exact op e1 e2
 let e4 := ([a.I.Lo, a.I.Lo, a.I.Hi, a.I.Hi] : List Int).getD (Int.toNat 0) 0
 let e5 := ([b.I.Lo, b.I.Hi, b.I.Lo, b.I.Hi] : List Int).getD (Int.toNat 0) 0
 let r6 := S.ref22_Exact op e4 e5
 let x7 := (⟨op, ([a.I.Lo, a.I.Lo, a.I.Hi, a.I.Hi] : List Int), ([b.I.Lo, b.I.Hi, b.I.Lo, b.I.Hi] : List Int), r3, r6, 1⟩ : S.ref22_Bounds_L0)
 let y8 := S.ref22_Bounds_L0_run x7
 (y8.lo, y8.hi)
def S.ref22_Bounds_pre (op : Int) (a : S.Value) (b : S.Value) : Prop :=
 let e1 := ([a.I.Lo, a.I.Lo, a.I.Hi, a.I.Hi] : List Int).getD (Int.toNat 0) 0
 let e2 := ([b.I.Lo, b.I.Hi, b.I.Lo, b.I.Hi] : List Int).getD (Int.toNat 0) 0
 let r3 := S.ref22_Exact op e1 e2
 let e4 := ([a.I.Lo, a.I.Lo, a.I.Hi, a.I.Hi] : List Int).getD (Int.toNat 0) 0
 let e5 := ([b.I.Lo, b.I.Hi, b.I.Lo, b.I.Hi] : List Int).getD (Int.toNat 0) 0
 let r6 := S.ref22_Exact op e4 e5
 let x7 := (⟨op, ([a.I.Lo, a.I.Lo, a.I.Hi, a.I.Hi] : List Int), ([b.I.Lo, b.I.Hi, b.I.Lo, b.I.Hi] : List Int), r3, r6, 1⟩ : S.ref22_Bounds_L0)
 (All [(0 : Int) ≤ 0, 0 < (([a.I.Lo, a.I.Lo, a.I.Hi, a.I.Hi] : List Int).length : Int), (0 : Int) ≤ 0, 0 < (([b.I.Lo, b.I.Hi, b.I.Lo, b.I.Hi] : List Int).length : Int), S.ref22_Exact_pre op e1 e2, (0 : Int) ≤ 0, 0 < (([a.I.Lo, a.I.Lo, a.I.Hi, a.I.Hi] : List Int).length : Int), (0 : Int) ≤ 0, 0 < (([b.I.Lo, b.I.Hi, b.I.Lo, b.I.Hi] : List Int).length : Int), S.ref22_Exact_pre op e4 e5, Runs S.ref22_Bounds_L0_step S.ref22_Bounds_L0_vcs x7 (S.ref22_Bounds_L0_run x7)] ∧ True)
@[ext] structure S.ref01_Limbs_L2 where
 n : (List Int)
 i : Int
 vx : Int
 k : Int
def S.ref01_Limbs_L2_step (x : S.ref01_Limbs_L2) : S.ref01_Limbs_L2 ⊕ (S.ref01_Limbs_L2) :=
 let b1 := decide (x.k ≥ x.i)
 let t2 := IntKind.u64.wrap (x.vx * 256)
 let e3 := x.n.getD (Int.toNat x.k) 0
 let t4 := IntKind.u64.wrap e3
 let t5 := IntKind.u64.wrap (t2 + t4)
 let t6 := IntKind.i64.wrap (x.k - 1)
 (bif b1 then (.inl ⟨x.n, x.i, t5, t6⟩) else (.inr ⟨x.n, x.i, x.vx, x.k⟩))
def S.ref01_Limbs_L2_vcs (x : S.ref01_Limbs_L2) : Prop :=
 let b1 := decide (x.k ≥ x.i)
 ((b1 = true → (All [(0 : Int) ≤ x.k, x.k < (x.n.length : Int)] ∧ True)) ∧ (b1 = false → True))
def S.ref01_Limbs_L2_run (x : S.ref01_Limbs_L2) : S.ref01_Limbs_L2 := theRun (fun x => x) S.ref01_Limbs_L2_step S.ref01_Limbs_L2_vcs x
@[ext] structure S.ref01_Limbs_L0 where
 n : (List Int)
 i : Int
 out : (List Int)
def S.ref01_Limbs_L0_step (x : S.ref01_Limbs_L0) : S.ref01_Limbs_L0 ⊕ (S.ref01_Limbs_L0) :=
 let b1 := decide (x.i < (x.n.length : Int))
 let t2 := IntKind.i64.wrap (x.i + 8)
 let m3 : Int := if t2 < (x.n.length : Int) then t2 else (x.n.length : Int)
 let t4 := IntKind.i64.wrap (m3 - 1)
 let x5 := (⟨x.n, x.i, 0, t4⟩ : S.ref01_Limbs_L2)
 let y6 := S.ref01_Limbs_L2_run x5
 let l7 := x.out ++ ([y6.vx] : List Int)
 let t8 := IntKind.i64.wrap (y6.i + 8)
 (bif b1 then (.inl ⟨y6.n, t8, l7⟩) else (.inr ⟨x.n, x.i, x.out⟩))
def S.ref01_Limbs_L0_vcs (x : S.ref01_Limbs_L0) : Prop :=
 let b1 := decide (x.i < (x.n.length : Int))
 let t2 := IntKind.i64.wrap (x.i + 8)
 let m3 : Int := if t2 < (x.n.length : Int) then t2 else (x.n.length : Int)
 let t4 := IntKind.i64.wrap (m3 - 1)
 let x5 := (⟨x.n, x.i, 0, t4⟩ : S.ref01_Limbs_L2)
 let y6 := S.ref01_Limbs_L2_run x5
 ((b1 = true → (All [Runs S.ref01_Limbs_L2_step S.ref01_Limbs_L2_vcs x5 (S.ref01_Limbs_L2_run x5), ((x.out.length + ([y6.vx] : List Int).length : Nat) : Int) * 8 ≤ 140737488355328] ∧ True)) ∧ (b1 = false → True))
def S.ref01_Limbs_L0_run (x : S.ref01_Limbs_L0) : S.ref01_Limbs_L0 := theRun (fun x => x) S.ref01_Limbs_L0_step S.ref01_Limbs_L0_vcs x
def S.ref01_Limbs (n : (List Int)) : (List Int) :=
 let x1 := (⟨n, 0, ([] : List Int)⟩ : S.ref01_Limbs_L0)
 let y2 := S.ref01_Limbs_L0_run x1
 y2.out
def S.ref01_Limbs_pre (n : (List Int)) : Prop :=
 let x1 := (⟨n, 0, ([] : List Int)⟩ : S.ref01_Limbs_L0)
 (All [Runs S.ref01_Limbs_L0_step S.ref01_Limbs_L0_vcs x1 (S.ref01_Limbs_L0_run x1)] ∧ True)
def S.ref22_Round (x : (List Int)) : (List Int) × Int :=
 let r1 := S.ref01_Limbs x
 let l2 := (r1.take (Int.toNat (r1.length : Int))).drop (Int.toNat 1)
 let r3 := S.ref01_Of l2
 let e4 := r1.getD (Int.toNat 0) 0
 let t5 := IntKind.u64.wrap (e4 - 9223372036854775808)
 let t6 := IntKind.i64.wrap t5
 (r3, t6)
def S.ref22_Round_pre (x : (List Int)) : Prop :=
 let r1 := S.ref01_Limbs x
 let l2 := (r1.take (Int.toNat (r1.length : Int))).drop (Int.toNat 1)
 (All [S.ref01_Limbs_pre x, (0 : Int) ≤ 1, (1 : Int) ≤ (r1.length : Int), (r1.length : Int) ≤ (r1.length : Int), S.ref01_Of_pre l2, (0 : Int) ≤ 0, 0 < (r1.length : Int)] ∧ True)
def S.ref20_Gcd_F : Nat → Int → Int → Int
 | 0, _, _ => 0
 | n + 1, a, b =>
 let b1 := b == 0
 let t2 := Int.tmod a b
 let r3 := S.ref20_Gcd_F n b t2
 (bif b1 then a else r3)
def S.ref20_Gcd_D : Nat → Int → Int → Prop
 | 0, _, _ => False
 | n + 1, a, b =>
 let b1 := b == 0
 let t2 := Int.tmod a b
 ((b1 = true → True) ∧ (b1 = false → (All [b ≠ 0, S.ref20_Gcd_D n b t2] ∧ True)))
def S.ref20_Gcd (a : Int) (b : Int) : Int := S.ref20_Gcd_F (Classical.epsilon fun n => S.ref20_Gcd_D n a b) a b
def S.ref20_Gcd_pre (a : Int) (b : Int) : Prop := ∃ n, S.ref20_Gcd_D n a b
def S.ref20_Of (c : S.Cong) (g : Int) : Int :=
 let b1 := c.M == 0
 let t2 := IntKind.i64.wrap c.R
 let r3 := S.ref20_Rest t2 g
 let t4 := Int.tmod c.R g
 (bif b1 then r3 else t4)
def S.ref20_Of_pre (c : S.Cong) (g : Int) : Prop :=
 let b1 := c.M == 0
 let t2 := IntKind.i64.wrap c.R
 ((b1 = true → (All [S.ref20_Rest_pre t2 g] ∧ True)) ∧ (b1 = false → (All [g ≠ 0] ∧ True)))
def S.ref20_plus (a : Int) (b : Int) (m : Int) : Int :=
 let t1 := IntKind.u64.wrap (m - b)
 let b2 := decide (a ≥ t1)
 let t3 := IntKind.u64.wrap (m - b)
 let t4 := IntKind.u64.wrap (a - t3)
 let t5 := IntKind.u64.wrap (a + b)
 (bif b2 then t4 else t5)
def S.ref20_Add (a : S.Cong) (b : S.Cong) : S.Cong :=
 let r1 := S.ref20_Gcd a.M b.M
 let b2 := r1 == 0
 let t3 := IntKind.u64.wrap (a.R + b.R)
 let r4 := S.ref20_Of a r1
 let r5 := S.ref20_Of b r1
 let r6 := S.ref20_plus r4 r5 r1
 (bif b2 then (⟨0, t3⟩ : S.Cong) else (⟨r1, r6⟩ : S.Cong))
def S.ref20_Add_pre (a : S.Cong) (b : S.Cong) : Prop :=
 let r1 := S.ref20_Gcd a.M b.M
 let b2 := r1 == 0
 (All [S.ref20_Gcd_pre a.M b.M] ∧ ((b2 = true → True) ∧ (b2 = false → (All [S.ref20_Of_pre a r1, S.ref20_Of_pre b r1] ∧ True))))
def S.ref20_minus (a : Int) (b : Int) (m : Int) : Int :=
 let b1 := decide (a ≥ b)
 let t2 := IntKind.u64.wrap (a - b)
 let t3 := IntKind.u64.wrap (m - b)
 let t4 := IntKind.u64.wrap (a + t3)
 (bif b1 then t2 else t4)
def S.ref20_Sub (a : S.Cong) (b : S.Cong) : S.Cong :=
 let r1 := S.ref20_Gcd a.M b.M
 let b2 := r1 == 0
 let t3 := IntKind.u64.wrap (a.R - b.R)
 let r4 := S.ref20_Of a r1
 let r5 := S.ref20_Of b r1
 let r6 := S.ref20_minus r4 r5 r1
 (bif b2 then (⟨0, t3⟩ : S.Cong) else (⟨r1, r6⟩ : S.Cong))
def S.ref20_Sub_pre (a : S.Cong) (b : S.Cong) : Prop :=
 let r1 := S.ref20_Gcd a.M b.M
 let b2 := r1 == 0
 (All [S.ref20_Gcd_pre a.M b.M] ∧ ((b2 = true → True) ∧ (b2 = false → (All [S.ref20_Of_pre a r1, S.ref20_Of_pre b r1] ∧ True))))
def S.ref20_fits (a : Int) (b : Int) : Int × Bool :=
 let b1 := decide (a > 0)
 let t2 := IntKind.u64.wrap (Int.tdiv 18446744073709551615 a)
 let b3 := decide (b > t2)
 let p4 := (b1 && b3)
 let t5 := IntKind.u64.wrap (a * b)
 (bif p4 then (0, false) else (t5, true))
def S.ref20_fits_pre (a : Int) (b : Int) : Prop :=
 let b1 := decide (a > 0)
 let t2 := IntKind.u64.wrap (Int.tdiv 18446744073709551615 a)
 let b3 := decide (b > t2)
 let p4 := (b1 && b3)
 (All [(b1 = true → a ≠ 0)] ∧ ((p4 = true → True) ∧ (p4 = false → True)))
@[ext] structure S.ref20_times_L0 where
 a : Int
 b : Int
 m : Int
 out : Int
def S.ref20_times_L0_step (x : S.ref20_times_L0) : S.ref20_times_L0 ⊕ (S.ref20_times_L0) :=
 let b1 := decide (x.b > 0)
 let t2 := Int.tmod x.b 2
 let b3 := t2 == 1
 let r4 := S.ref20_plus x.out x.a x.m
 let r5 := S.ref20_plus x.a x.a x.m
 let t6 := IntKind.u64.wrap (Int.tdiv x.b 2)
 (bif b1 then (.inl ⟨r5, t6, x.m, (bif b3 then r4 else x.out)⟩) else (.inr ⟨x.a, x.b, x.m, x.out⟩))
def S.ref20_times_L0_vcs (x : S.ref20_times_L0) : Prop :=
 let b1 := decide (x.b > 0)
 ((b1 = true → True) ∧ (b1 = false → True))
def S.ref20_times_L0_run (x : S.ref20_times_L0) : S.ref20_times_L0 := theRun (fun x => x) S.ref20_times_L0_step S.ref20_times_L0_vcs x
def S.ref20_times (a : Int) (b : Int) (m : Int) : Int :=
 let x1 := (⟨a, b, m, 0⟩ : S.ref20_times_L0)
 let y2 := S.ref20_times_L0_run x1
 y2.out
def S.ref20_times_pre (a : Int) (b : Int) (m : Int) : Prop :=
 let x1 := (⟨a, b, m, 0⟩ : S.ref20_times_L0)
 (All [Runs S.ref20_times_L0_step S.ref20_times_L0_vcs x1 (S.ref20_times_L0_run x1)] ∧ True)
def S.ref20_scale (c : S.Cong) (n : Int) : S.Cong :=
 let b1 := n == 0
 let t2 := IntKind.u64.wrap n
 let b3 := decide (n < 0)
 let t4 := IntKind.i64.wrap (0 - n)
 let t5 := IntKind.u64.wrap t4
 let r6 := S.ref20_fits c.M (bif b3 then t5 else t2)
 let b7 := !r6.2
 let r8 := S.ref20_Rest n (bif b7 then c.M else r6.1)
 let t9 := Int.tmod c.R (bif b7 then c.M else r6.1)
 let r10 := S.ref20_times r8 t9 (bif b7 then c.M else r6.1)
 (bif b1 then (⟨0, 0⟩ : S.Cong) else (⟨(bif b7 then c.M else r6.1), r10⟩ : S.Cong))
def S.ref20_scale_pre (c : S.Cong) (n : Int) : Prop :=
 let b1 := n == 0
 let t2 := IntKind.u64.wrap n
 let b3 := decide (n < 0)
 let t4 := IntKind.i64.wrap (0 - n)
 let t5 := IntKind.u64.wrap t4
 let r6 := S.ref20_fits c.M (bif b3 then t5 else t2)
 let b7 := !r6.2
 let r8 := S.ref20_Rest n (bif b7 then c.M else r6.1)
 let t9 := Int.tmod c.R (bif b7 then c.M else r6.1)
 ((b1 = true → True) ∧ (b1 = false → (All [S.ref20_fits_pre c.M (bif b3 then t5 else t2), S.ref20_Rest_pre n (bif b7 then c.M else r6.1), (bif b7 then c.M else r6.1) ≠ 0, S.ref20_times_pre r8 t9 (bif b7 then c.M else r6.1)] ∧ True)))
def S.ref20_Mul (a : S.Cong) (b : S.Cong) : S.Cong :=
 let b1 := a.M == 0
 let b2 := b.M == 0
 let p3 := (b1 && b2)
 let t4 := IntKind.u64.wrap (a.R * b.R)
 let b5 := a.M == 0
 let t6 := IntKind.i64.wrap a.R
 let r7 := S.ref20_scale b t6
 let b8 := b.M == 0
 let t9 := IntKind.i64.wrap b.R
 let r10 := S.ref20_scale a t9
 let r11 := S.ref20_Gcd a.M b.M
 let r12 := S.ref20_Gcd a.M a.R
 let r13 := S.ref20_Gcd b.M b.R
 let r14 := S.ref20_fits r12 r13
 let b15 := decide (r14.1 > r11)
 let p16 := (r14.2 && b15)
 let r17 := S.ref20_Of a r11
 let r18 := S.ref20_Of b r11
 let r19 := S.ref20_times r17 r18 r11
 (bif p3 then (⟨0, t4⟩ : S.Cong) else (bif b5 then r7 else (bif b8 then r10 else (bif p16 then (⟨r14.1, 0⟩ : S.Cong) else (⟨r11, r19⟩ : S.Cong)))))
def S.ref20_Mul_pre (a : S.Cong) (b : S.Cong) : Prop :=
 let b1 := a.M == 0
 let b2 := b.M == 0
 let p3 := (b1 && b2)
 let b5 := a.M == 0
 let t6 := IntKind.i64.wrap a.R
 let b8 := b.M == 0
 let t9 := IntKind.i64.wrap b.R
 let r11 := S.ref20_Gcd a.M b.M
 let r12 := S.ref20_Gcd a.M a.R
 let r13 := S.ref20_Gcd b.M b.R
 let r14 := S.ref20_fits r12 r13
 let b15 := decide (r14.1 > r11)
 let p16 := (r14.2 && b15)
 let r17 := S.ref20_Of a r11
 let r18 := S.ref20_Of b r11
 ((p3 = true → True) ∧ (p3 = false → ((b5 = true → (All [S.ref20_scale_pre b t6] ∧ True)) ∧ (b5 = false → ((b8 = true → (All [S.ref20_scale_pre a t9] ∧ True)) ∧ (b8 = false → (All [S.ref20_Gcd_pre a.M b.M, S.ref20_Gcd_pre a.M a.R, S.ref20_Gcd_pre b.M b.R, S.ref20_fits_pre r12 r13] ∧ ((p16 = true → True) ∧ (p16 = false → (All [S.ref20_Of_pre a r11, S.ref20_Of_pre b r11, S.ref20_times_pre r17 r18 r11] ∧ True))))))))))
def S.ref22_congruence (op : Int) (a : S.Cong) (b : S.Cong) : S.Cong :=
 let b1 := op == 13
 let r2 := S.ref20_Add a b
 let b3 := op == 14
 let r4 := S.ref20_Sub a b
 let r5 := S.ref20_Mul a b
 (bif b1 then r2 else (bif b3 then r4 else r5))
def S.ref22_congruence_pre (op : Int) (a : S.Cong) (b : S.Cong) : Prop :=
 let b1 := op == 13
 let b3 := op == 14
 ((b1 = true → (All [S.ref20_Add_pre a b] ∧ True)) ∧ (b1 = false → ((b3 = true → (All [S.ref20_Sub_pre a b] ∧ True)) ∧ (b3 = false → (All [S.ref20_Mul_pre a b] ∧ True)))))
@[ext] structure S.ref20_Wrapped_L0 where
 p : Int
 c : S.Cong
def S.ref20_Wrapped_L0_step (x : S.ref20_Wrapped_L0) : S.ref20_Wrapped_L0 ⊕ (S.ref20_Wrapped_L0) :=
 let t1 := Int.tmod x.c.M 2
 let b2 := t1 == 0
 let t3 := IntKind.u64.wrap (2 * x.p)
 let t4 := IntKind.u64.wrap (Int.tdiv x.c.M 2)
 (bif b2 then (.inl ⟨t3, (⟨t4, x.c.R⟩ : S.Cong)⟩) else (.inr ⟨x.p, x.c⟩))
def S.ref20_Wrapped_L0_vcs (x : S.ref20_Wrapped_L0) : Prop :=
 let t1 := Int.tmod x.c.M 2
 let b2 := t1 == 0
 ((b2 = true → True) ∧ (b2 = false → True))
def S.ref20_Wrapped_L0_run (x : S.ref20_Wrapped_L0) : S.ref20_Wrapped_L0 := theRun (fun x => x) S.ref20_Wrapped_L0_step S.ref20_Wrapped_L0_vcs x
def S.ref20_Wrapped (c : S.Cong) : S.Cong :=
 let b1 := c.M == 0
 let x2 := (⟨1, c⟩ : S.ref20_Wrapped_L0)
 let y3 := S.ref20_Wrapped_L0_run x2
 let t4 := Int.tmod y3.c.R y3.p
 (bif b1 then c else (⟨y3.p, t4⟩ : S.Cong))
def S.ref20_Wrapped_pre (c : S.Cong) : Prop :=
 let b1 := c.M == 0
 let x2 := (⟨1, c⟩ : S.ref20_Wrapped_L0)
 let y3 := S.ref20_Wrapped_L0_run x2
 ((b1 = true → True) ∧ (b1 = false → (All [Runs S.ref20_Wrapped_L0_step S.ref20_Wrapped_L0_vcs x2 (S.ref20_Wrapped_L0_run x2), y3.p ≠ 0] ∧ True)))
def S.ref22_zero : (List Int) :=
 let r1 := S.ref22_base
 let r2 := S.ref22_Round r1
 r2.1
def S.ref22_zero_pre : Prop :=
 let r1 := S.ref22_base
 (All [S.ref22_base_pre, S.ref22_Round_pre r1] ∧ True)
def S.ref22_Do (op : Int) (a : S.Value) (b : S.Value) : S.Value :=
 let r1 := S.ref21_Plain a
 let r2 := S.ref21_Plain b
 let r3 := S.ref21_Bottom
 let b4 : Bool := ((r1.I.Lo == r3.I.Lo) && ((r1.I.Hi == r3.I.Hi) && ((r1.C.M == r3.C.M) && (r1.C.R == r3.C.R))))
 let r5 := S.ref21_Bottom
 let b6 : Bool := ((r2.I.Lo == r5.I.Lo) && ((r2.I.Hi == r5.I.Hi) && ((r2.C.M == r5.C.M) && (r2.C.R == r5.C.R))))
 let p7 := (b4 || b6)
 let r8 := S.ref21_Bottom
 let b9 := decide (op < 13)
 let b10 := decide (op > 15)
 let p11 := (b9 || b10)
 let r12 := S.ref21_Top
 let b13 := r1.I.Lo == r1.I.Hi
 let b14 := r2.I.Lo == r2.I.Hi
 let p15 := (b13 && b14)
 let r16 := S.ref09_Do op r1.I.Lo r2.I.Lo
 let r17 := S.ref21_One r16.1
 let r18 := S.ref22_Bounds op r1 r2
 let r19 := S.ref22_Round r18.1
 let r20 := S.ref22_Round r18.2
 let r21 := S.ref22_congruence op r1.C r2.C
 let r22 := S.ref01_Cmp r19.1 r20.1
 let b23 := r22 != 0
 let r24 := S.ref21_Top
 let r25 := S.ref20_Wrapped r21
 let r26 := S.ref21_Make r24.I r25
 let r27 := S.ref22_zero
 let r28 := S.ref01_Cmp r19.1 r27
 let b29 := r28 != 0
 let r30 := S.ref20_Wrapped r21
 let r31 := S.ref21_Make (⟨r19.2, r20.2⟩ : S.Inter) (⟨(bif b29 then r30.M else r21.M), (bif b29 then r30.R else r21.R)⟩ : S.Cong)
 (bif p7 then r8 else (bif p11 then r12 else (bif p15 then r17 else (bif b23 then r26 else r31))))
def S.ref22_Do_pre (op : Int) (a : S.Value) (b : S.Value) : Prop :=
 let r1 := S.ref21_Plain a
 let r2 := S.ref21_Plain b
 let r3 := S.ref21_Bottom
 let b4 : Bool := ((r1.I.Lo == r3.I.Lo) && ((r1.I.Hi == r3.I.Hi) && ((r1.C.M == r3.C.M) && (r1.C.R == r3.C.R))))
 let r5 := S.ref21_Bottom
 let b6 : Bool := ((r2.I.Lo == r5.I.Lo) && ((r2.I.Hi == r5.I.Hi) && ((r2.C.M == r5.C.M) && (r2.C.R == r5.C.R))))
 let p7 := (b4 || b6)
 let b9 := decide (op < 13)
 let b10 := decide (op > 15)
 let p11 := (b9 || b10)
 let b13 := r1.I.Lo == r1.I.Hi
 let b14 := r2.I.Lo == r2.I.Hi
 let p15 := (b13 && b14)
 let r16 := S.ref09_Do op r1.I.Lo r2.I.Lo
 let r18 := S.ref22_Bounds op r1 r2
 let r19 := S.ref22_Round r18.1
 let r20 := S.ref22_Round r18.2
 let r21 := S.ref22_congruence op r1.C r2.C
 let r22 := S.ref01_Cmp r19.1 r20.1
 let b23 := r22 != 0
 let r24 := S.ref21_Top
 let r25 := S.ref20_Wrapped r21
 let r27 := S.ref22_zero
 let r28 := S.ref01_Cmp r19.1 r27
 let b29 := r28 != 0
 let r30 := S.ref20_Wrapped r21
 (All [S.ref21_Plain_pre a, S.ref21_Plain_pre b] ∧ ((p7 = true → True) ∧ (p7 = false → ((p11 = true → True) ∧ (p11 = false → ((p15 = true → (All [S.ref09_Do_pre op r1.I.Lo r2.I.Lo, S.ref21_One_pre r16.1] ∧ True)) ∧ (p15 = false → (All [S.ref22_Bounds_pre op r1 r2, S.ref22_Round_pre r18.1, S.ref22_Round_pre r18.2, S.ref22_congruence_pre op r1.C r2.C, S.ref01_Cmp_pre r19.1 r20.1] ∧ ((b23 = true → (All [S.ref20_Wrapped_pre r21, S.ref21_Make_pre r24.I r25] ∧ True)) ∧ (b23 = false → (All [S.ref22_zero_pre, S.ref01_Cmp_pre r19.1 r27, (b29 = true → S.ref20_Wrapped_pre r21), S.ref21_Make_pre (⟨r19.2, r20.2⟩ : S.Inter) (⟨(bif b29 then r30.M else r21.M), (bif b29 then r30.R else r21.R)⟩ : S.Cong)] ∧ True)))))))))))
def S.ref22_Neg (a : S.Value) : S.Value :=
 let r1 := S.ref21_One 0
 let r2 := S.ref22_Do 14 r1 a
 r2
def S.ref22_Neg_pre (a : S.Value) : Prop :=
 let r1 := S.ref21_One 0
 (All [S.ref21_One_pre 0, S.ref22_Do_pre 14 r1 a] ∧ True)
def S.arith_one (a : (Int × Int)) (b : (Int × Int)) : Bool :=
 let b1 : Bool := ((a.1 == b.1) && (a.2 == b.2))
 b1
def S.arith_Wraps (op : Int) (a : S.Value) (b : S.Value) : Bool :=
 let r1 := S.arith_plain a
 let r2 := S.arith_plain b
 let r3 := S.value_Value_IsBottom r1
 let r4 := S.value_Value_IsBottom r2
 let p5 := (r3 || r4)
 let r6 := S.arith_known op
 let b7 := !r6
 let p8 := (p5 || b7)
 let r9 := S.arith_bounds op r1 r2
 let t10 := IntKind.i64.wrap r9.1.2
 let r11 := S.arith_of t10
 let r12 := S.arith_one r9.1 r11
 let b13 := !r12
 let t14 := IntKind.i64.wrap r9.2.2
 let r15 := S.arith_of t14
 let r16 := S.arith_one r9.2 r15
 let b17 := !r16
 let p18 := (b13 || b17)
 (bif p8 then false else p18)
def S.arith_Wraps_pre (op : Int) (a : S.Value) (b : S.Value) : Prop :=
 let r1 := S.arith_plain a
 let r2 := S.arith_plain b
 let r3 := S.value_Value_IsBottom r1
 let r4 := S.value_Value_IsBottom r2
 let p5 := (r3 || r4)
 let r6 := S.arith_known op
 let b7 := !r6
 let p8 := (p5 || b7)
 (All [S.arith_plain_pre a, S.arith_plain_pre b, S.value_Value_IsBottom_pre r1, (r3 = false → S.value_Value_IsBottom_pre r2)] ∧ ((p8 = true → True) ∧ (p8 = false → (All [S.arith_bounds_pre op r1 r2] ∧ True))))
def S.ref22_Wraps (op : Int) (a : S.Value) (b : S.Value) : Bool :=
 let r1 := S.ref21_Plain a
 let r2 := S.ref21_Plain b
 let b3 := decide (op < 13)
 let b4 := decide (op > 15)
 let p5 := (b3 || b4)
 let r6 := S.ref21_Bottom
 let b7 : Bool := ((r1.I.Lo == r6.I.Lo) && ((r1.I.Hi == r6.I.Hi) && ((r1.C.M == r6.C.M) && (r1.C.R == r6.C.R))))
 let p8 := (p5 || b7)
 let r9 := S.ref21_Bottom
 let b10 : Bool := ((r2.I.Lo == r9.I.Lo) && ((r2.I.Hi == r9.I.Hi) && ((r2.C.M == r9.C.M) && (r2.C.R == r9.C.R))))
 let p11 := (p8 || b10)
 let r12 := S.ref22_Bounds op r1 r2
 let r13 := S.ref22_Round r12.1
 let r14 := S.ref22_Round r12.2
 let r15 := S.ref22_zero
 let r16 := S.ref01_Cmp r13.1 r15
 let b17 := r16 != 0
 let r18 := S.ref22_zero
 let r19 := S.ref01_Cmp r14.1 r18
 let b20 := r19 != 0
 let p21 := (b17 || b20)
 (bif p11 then false else p21)
def S.ref22_Wraps_pre (op : Int) (a : S.Value) (b : S.Value) : Prop :=
 let r1 := S.ref21_Plain a
 let r2 := S.ref21_Plain b
 let b3 := decide (op < 13)
 let b4 := decide (op > 15)
 let p5 := (b3 || b4)
 let r6 := S.ref21_Bottom
 let b7 : Bool := ((r1.I.Lo == r6.I.Lo) && ((r1.I.Hi == r6.I.Hi) && ((r1.C.M == r6.C.M) && (r1.C.R == r6.C.R))))
 let p8 := (p5 || b7)
 let r9 := S.ref21_Bottom
 let b10 : Bool := ((r2.I.Lo == r9.I.Lo) && ((r2.I.Hi == r9.I.Hi) && ((r2.C.M == r9.C.M) && (r2.C.R == r9.C.R))))
 let p11 := (p8 || b10)
 let r12 := S.ref22_Bounds op r1 r2
 let r13 := S.ref22_Round r12.1
 let r14 := S.ref22_Round r12.2
 let r15 := S.ref22_zero
 let r16 := S.ref01_Cmp r13.1 r15
 let b17 := r16 != 0
 let r18 := S.ref22_zero
 (All [S.ref21_Plain_pre a, S.ref21_Plain_pre b] ∧ ((p11 = true → True) ∧ (p11 = false → (All [S.ref22_Bounds_pre op r1 r2, S.ref22_Round_pre r12.1, S.ref22_Round_pre r12.2, S.ref22_zero_pre, S.ref01_Cmp_pre r13.1 r15, (b17 = false → S.ref22_zero_pre), (b17 = false → S.ref01_Cmp_pre r14.1 r18)] ∧ True))))
def S.internal_strconv_log10Pow2 (x : Int) : Int :=
 let t1 := IntKind.i64.wrap (x * 78913)
 let t2 := Int.fdiv t1 (2 ^ min (Int.toNat 18) 64)
 t2
def S.internal_strconv_bool2int (b : Bool) : Int :=
 (bif b then 1 else 0)
def S.internal_strconv_isPowerOfTwo (x : Int) : Bool :=
 let t1 := IntKind.i64.wrap (x - 1)
 let t2 := bits .and .i64 x t1
 let b3 := t2 == 0
 b3
def S.strconv_FormatInt (i : Int) (base : Int) : ByteArray :=
 let r1 := fmtI i base
 r1
def S.strconv_FormatInt_pre (i : Int) (base : Int) : Prop :=
 (All [fmtI_pre i base] ∧ True)
def S.strconv_FormatUint (i : Int) (base : Int) : ByteArray :=
 let r1 := fmtU i base
 r1
def S.strconv_FormatUint_pre (i : Int) (base : Int) : Prop :=
 (All [fmtU_pre i base] ∧ True)
def S.value_Value_Text (v : S.Value) : ByteArray :=
 let r1 := S.value_Value_reduced v
 let r2 := S.value_Value_IsBottom r1
 let r3 := S.value_Value_Single r1
 let r4 := S.strconv_FormatInt r3.1 10
 let r5 := S.strconv_FormatInt r1.I.Lo 10
 let s6 := (⟨#[91]⟩ : ByteArray) ++ r5
 let s7 := s6 ++ (⟨#[44, 32]⟩ : ByteArray)
 let r8 := S.strconv_FormatInt r1.I.Hi 10
 let s9 := s7 ++ r8
 let s10 := s9 ++ (⟨#[93]⟩ : ByteArray)
 let b11 := decide (r1.C.M > 1)
 let r12 := S.strconv_FormatUint r1.C.R 10
 let s13 := (⟨#[32]⟩ : ByteArray) ++ r12
 let s14 := s13 ++ (⟨#[32, 109, 111, 100, 32]⟩ : ByteArray)
 let r15 := S.strconv_FormatUint r1.C.M 10
 let s16 := s14 ++ r15
 let s17 := s10 ++ s16
 (bif r2 then (⟨#[110, 111, 110, 101]⟩ : ByteArray) else (bif r3.2 then r4 else (bif b11 then s17 else s10)))
def S.value_Value_Text_pre (v : S.Value) : Prop :=
 let r1 := S.value_Value_reduced v
 let r2 := S.value_Value_IsBottom r1
 let r3 := S.value_Value_Single r1
 let r5 := S.strconv_FormatInt r1.I.Lo 10
 let s6 := (⟨#[91]⟩ : ByteArray) ++ r5
 let s7 := s6 ++ (⟨#[44, 32]⟩ : ByteArray)
 let r8 := S.strconv_FormatInt r1.I.Hi 10
 let s9 := s7 ++ r8
 let s10 := s9 ++ (⟨#[93]⟩ : ByteArray)
 let b11 := decide (r1.C.M > 1)
 let r12 := S.strconv_FormatUint r1.C.R 10
 let s13 := (⟨#[32]⟩ : ByteArray) ++ r12
 let s14 := s13 ++ (⟨#[32, 109, 111, 100, 32]⟩ : ByteArray)
 let r15 := S.strconv_FormatUint r1.C.M 10
 let s16 := s14 ++ r15
 (All [S.value_Value_reduced_pre v, S.value_Value_IsBottom_pre r1] ∧ ((r2 = true → True) ∧ (r2 = false → (All [S.value_Value_Single_pre r1] ∧ ((r3.2 = true → (All [S.strconv_FormatInt_pre r3.1 10] ∧ True)) ∧ (r3.2 = false → (All [S.strconv_FormatInt_pre r1.I.Lo 10, (((⟨#[91]⟩ : ByteArray).size + r5.size : Nat) : Int) ≤ IntKind.i64.max, ((s6.size + (⟨#[44, 32]⟩ : ByteArray).size : Nat) : Int) ≤ IntKind.i64.max, S.strconv_FormatInt_pre r1.I.Hi 10, ((s7.size + r8.size : Nat) : Int) ≤ IntKind.i64.max, ((s9.size + (⟨#[93]⟩ : ByteArray).size : Nat) : Int) ≤ IntKind.i64.max, (b11 = true → (S.strconv_FormatUint_pre r1.C.R 10 ∧ (((⟨#[32]⟩ : ByteArray).size + r12.size : Nat) : Int) ≤ IntKind.i64.max ∧ ((s13.size + (⟨#[32, 109, 111, 100, 32]⟩ : ByteArray).size : Nat) : Int) ≤ IntKind.i64.max ∧ S.strconv_FormatUint_pre r1.C.M 10 ∧ ((s14.size + r15.size : Nat) : Int) ≤ IntKind.i64.max ∧ ((s10.size + s16.size : Nat) : Int) ≤ IntKind.i64.max))] ∧ True)))))))
def S.value_Range (lo : Int) (hi : Int) : S.Value :=
 let r1 := S.inter_Of lo hi
 let r2 := S.cong_Top
 let r3 := S.value_Make r1 r2
 r3
def S.value_Range_pre (lo : Int) (hi : Int) : Prop :=
 let r1 := S.inter_Of lo hi
 let r2 := S.cong_Top
 (All [S.value_Make_pre r1 r2] ∧ True)
def S.law22_works : Bool :=
 let r1 := S.cong_Make 2 0
 let r2 := S.value_Make (⟨0, 6⟩ : S.Inter) r1
 let r3 := S.cong_Make 4 1
 let r4 := S.value_Make (⟨1, 9⟩ : S.Inter) r3
 let r5 := S.arith_Do 13 r2 r4
 let r6 := S.value_Value_Text r5
 let b7 := (r6.toList == (⟨#[91, 49, 44, 32, 49, 53, 93, 32, 49, 32, 109, 111, 100, 32, 50]⟩ : ByteArray).toList)
 let r8 := S.value_Range (-2) 3
 let r9 := S.value_One 4
 let r10 := S.arith_Do 15 r8 r9
 let r11 := S.value_Value_Text r10
 let b12 := (r11.toList == (⟨#[91, 45, 56, 44, 32, 49, 50, 93, 32, 48, 32, 109, 111, 100, 32, 52]⟩ : ByteArray).toList)
 let p13 := (b7 && b12)
 let t14 := IntKind.i64.wrap (9223372036854775807 - 1)
 let r15 := S.value_Range t14 9223372036854775807
 let r16 := S.value_One 5
 let r17 := S.arith_Do 13 r15 r16
 let r18 := S.value_Value_Text r17
 let b19 := (r18.toList == (⟨#[91, 45, 57, 50, 50, 51, 51, 55, 50, 48, 51, 54, 56, 53, 52, 55, 55, 53, 56, 48, 53, 44, 32, 45, 57, 50, 50, 51, 51, 55, 50, 48, 51, 54, 56, 53, 52, 55, 55, 53, 56, 48, 52, 93]⟩ : ByteArray).toList)
 let p20 := (p13 && b19)
 let r21 := S.value_Range 0 9223372036854775807
 let r22 := S.value_Range 1 2
 let r23 := S.arith_Do 13 r21 r22
 let r24 := S.value_Top
 let b25 : Bool := ((r23.I.Lo == r24.I.Lo) && ((r23.I.Hi == r24.I.Hi) && ((r23.C.M == r24.C.M) && (r23.C.R == r24.C.R))))
 let p26 := (p20 && b25)
 let r27 := S.value_Range (-9223372036854775808) 0
 let r28 := S.arith_Neg r27
 let r29 := S.value_Top
 let b30 : Bool := ((r28.I.Lo == r29.I.Lo) && ((r28.I.Hi == r29.I.Hi) && ((r28.C.M == r29.C.M) && (r28.C.R == r29.C.R))))
 let p31 := (p26 && b30)
 p31
def S.law22_works_pre : Prop :=
 let r1 := S.cong_Make 2 0
 let r2 := S.value_Make (⟨0, 6⟩ : S.Inter) r1
 let r3 := S.cong_Make 4 1
 let r4 := S.value_Make (⟨1, 9⟩ : S.Inter) r3
 let r5 := S.arith_Do 13 r2 r4
 let r6 := S.value_Value_Text r5
 let b7 := (r6.toList == (⟨#[91, 49, 44, 32, 49, 53, 93, 32, 49, 32, 109, 111, 100, 32, 50]⟩ : ByteArray).toList)
 let r8 := S.value_Range (-2) 3
 let r9 := S.value_One 4
 let r10 := S.arith_Do 15 r8 r9
 let r11 := S.value_Value_Text r10
 let b12 := (r11.toList == (⟨#[91, 45, 56, 44, 32, 49, 50, 93, 32, 48, 32, 109, 111, 100, 32, 52]⟩ : ByteArray).toList)
 let p13 := (b7 && b12)
 let t14 := IntKind.i64.wrap (9223372036854775807 - 1)
 let r15 := S.value_Range t14 9223372036854775807
 let r16 := S.value_One 5
 let r17 := S.arith_Do 13 r15 r16
 let r18 := S.value_Value_Text r17
 let b19 := (r18.toList == (⟨#[91, 45, 57, 50, 50, 51, 51, 55, 50, 48, 51, 54, 56, 53, 52, 55, 55, 53, 56, 48, 53, 44, 32, 45, 57, 50, 50, 51, 51, 55, 50, 48, 51, 54, 56, 53, 52, 55, 55, 53, 56, 48, 52, 93]⟩ : ByteArray).toList)
 let p20 := (p13 && b19)
 let r21 := S.value_Range 0 9223372036854775807
 let r22 := S.value_Range 1 2
 let r23 := S.arith_Do 13 r21 r22
 let r24 := S.value_Top
 let b25 : Bool := ((r23.I.Lo == r24.I.Lo) && ((r23.I.Hi == r24.I.Hi) && ((r23.C.M == r24.C.M) && (r23.C.R == r24.C.R))))
 let p26 := (p20 && b25)
 let r27 := S.value_Range (-9223372036854775808) 0
 (All [S.cong_Make_pre 2 0, S.value_Make_pre (⟨0, 6⟩ : S.Inter) r1, S.cong_Make_pre 4 1, S.value_Make_pre (⟨1, 9⟩ : S.Inter) r3, S.arith_Do_pre 13 r2 r4, S.value_Value_Text_pre r5, (b7 = true → S.value_Range_pre (-2) 3), (b7 = true → S.arith_Do_pre 15 r8 r9), (b7 = true → S.value_Value_Text_pre r10), (p13 = true → S.value_Range_pre t14 9223372036854775807), (p13 = true → S.arith_Do_pre 13 r15 r16), (p13 = true → S.value_Value_Text_pre r17), (p20 = true → S.value_Range_pre 0 9223372036854775807), (p20 = true → S.value_Range_pre 1 2), (p20 = true → S.arith_Do_pre 13 r21 r22), (p26 = true → S.value_Range_pre (-9223372036854775808) 0), (p26 = true → S.arith_Neg_pre r27)] ∧ True)
def S.law22_ArithDoes (op : Int) (a : S.Value) (b : S.Value) : Bool :=
 let r1 := S.docs_Value a
 let r2 := S.docs_Value b
 let r3 := S.arith_Do op a b
 let r4 := S.arith_Neg a
 let r5 := S.docs_Value r3
 let r6 := S.ref22_Do op r1 r2
 let b7 : Bool := ((r5.I.Lo == r6.I.Lo) && ((r5.I.Hi == r6.I.Hi) && ((r5.C.M == r6.C.M) && (r5.C.R == r6.C.R))))
 let r8 := S.docs_Value r4
 let r9 := S.ref22_Neg r1
 let b10 : Bool := ((r8.I.Lo == r9.I.Lo) && ((r8.I.Hi == r9.I.Hi) && ((r8.C.M == r9.C.M) && (r8.C.R == r9.C.R))))
 let p11 := (b7 && b10)
 let r12 := S.arith_Wraps op a b
 let r13 := S.ref22_Wraps op r1 r2
 let b14 := r12 == r13
 let p15 := (p11 && b14)
 let r16 := S.law22_works
 let p17 := (p15 && r16)
 p17
def S.law22_ArithDoes_pre (op : Int) (a : S.Value) (b : S.Value) : Prop :=
 let r1 := S.docs_Value a
 let r2 := S.docs_Value b
 let r3 := S.arith_Do op a b
 let r4 := S.arith_Neg a
 let r5 := S.docs_Value r3
 let r6 := S.ref22_Do op r1 r2
 let b7 : Bool := ((r5.I.Lo == r6.I.Lo) && ((r5.I.Hi == r6.I.Hi) && ((r5.C.M == r6.C.M) && (r5.C.R == r6.C.R))))
 let r8 := S.docs_Value r4
 let r9 := S.ref22_Neg r1
 let b10 : Bool := ((r8.I.Lo == r9.I.Lo) && ((r8.I.Hi == r9.I.Hi) && ((r8.C.M == r9.C.M) && (r8.C.R == r9.C.R))))
 let p11 := (b7 && b10)
 let r12 := S.arith_Wraps op a b
 let r13 := S.ref22_Wraps op r1 r2
 let b14 := r12 == r13
 let p15 := (p11 && b14)
 (All [S.arith_Do_pre op a b, S.arith_Neg_pre a, S.ref22_Do_pre op r1 r2, (b7 = true → S.ref22_Neg_pre r1), (p11 = true → S.arith_Wraps_pre op a b), (p11 = true → S.ref22_Wraps_pre op r1 r2), (p15 = true → S.law22_works_pre)] ∧ True)
def S.inter_Inter_Has (i : S.Inter) (n : Int) : Bool :=
 let b1 := decide (i.Lo ≤ n)
 let b2 := decide (n ≤ i.Hi)
 let p3 := (b1 && b2)
 p3
def S.inter_Within (a : S.Inter) (b : S.Inter) : Bool :=
 let r1 := S.inter_Inter_IsEmpty a
 let r2 := S.inter_Inter_Has b a.Lo
 let r3 := S.inter_Inter_Has b a.Hi
 let p4 := (r2 && r3)
 let p5 := (r1 || p4)
 p5
def S.cong_Within (a : S.Cong) (b : S.Cong) : Bool :=
 let r1 := S.cong_Cong_single b
 let b2 : Bool := ((a.M == b.M) && (a.R == b.R))
 let t3 := Int.tmod a.M b.M
 let b4 := t3 == 0
 let r5 := S.cong_Cong_by a b.M
 let b6 := r5 == b.R
 let p7 := (b4 && b6)
 (bif r1 then b2 else p7)
def S.cong_Within_pre (a : S.Cong) (b : S.Cong) : Prop :=
 let r1 := S.cong_Cong_single b
 let t3 := Int.tmod a.M b.M
 let b4 := t3 == 0
 ((r1 = true → True) ∧ (r1 = false → (All [b.M ≠ 0, (b4 = true → S.cong_Cong_by_pre a b.M)] ∧ True)))
def S.value_Within (a : S.Value) (b : S.Value) : Bool :=
 let r1 := S.value_Value_reduced a
 let r2 := S.value_Value_reduced b
 let r3 := S.value_Bottom
 let b4 : Bool := ((r1.I.Lo == r3.I.Lo) && ((r1.I.Hi == r3.I.Hi) && ((r1.C.M == r3.C.M) && (r1.C.R == r3.C.R))))
 let r5 := S.inter_Within r1.I r2.I
 let r6 := S.cong_Within r1.C r2.C
 let p7 := (r5 && r6)
 let p8 := (b4 || p7)
 p8
def S.value_Within_pre (a : S.Value) (b : S.Value) : Prop :=
 let r1 := S.value_Value_reduced a
 let r2 := S.value_Value_reduced b
 let r3 := S.value_Bottom
 let b4 : Bool := ((r1.I.Lo == r3.I.Lo) && ((r1.I.Hi == r3.I.Hi) && ((r1.C.M == r3.C.M) && (r1.C.R == r3.C.R))))
 let r5 := S.inter_Within r1.I r2.I
 (All [S.value_Value_reduced_pre a, S.value_Value_reduced_pre b, (b4 = false → (r5 = true → S.cong_Within_pre r1.C r2.C))] ∧ True)
def S.value_Value_Has (v : S.Value) (n : Int) : Bool :=
 let r1 := S.value_One n
 let r2 := S.value_Within r1 v
 r2
def S.value_Value_Has_pre (v : S.Value) (n : Int) : Prop :=
 let r1 := S.value_One n
 (All [S.value_Within_pre r1 v] ∧ True)
def S.law22_near (v : S.Value) (n : Int) : Int × Bool :=
 let r1 := S.value_Make v.I v.C
 let r2 := S.value_Value_IsBottom r1
 let m3 : Int := if r1.I.Lo > n then r1.I.Lo else n
 let m4 : Int := if r1.I.Hi < m3 then r1.I.Hi else m3
 let r5 := S.cong_Cong_Least r1.C m4
 let b6 := !r5.2
 let b7 := decide (r5.1 > r1.I.Hi)
 let p8 := (b6 || b7)
 let r9 := S.value_Value_Has r1 (bif p8 then r1.I.Lo else r5.1)
 let r10 := S.value_Value_Has v (bif p8 then r1.I.Lo else r5.1)
 let p11 := (r9 && r10)
 (bif r2 then (0, false) else ((bif p8 then r1.I.Lo else r5.1), p11))
def S.law22_near_pre (v : S.Value) (n : Int) : Prop :=
 let r1 := S.value_Make v.I v.C
 let r2 := S.value_Value_IsBottom r1
 let m3 : Int := if r1.I.Lo > n then r1.I.Lo else n
 let m4 : Int := if r1.I.Hi < m3 then r1.I.Hi else m3
 let r5 := S.cong_Cong_Least r1.C m4
 let b6 := !r5.2
 let b7 := decide (r5.1 > r1.I.Hi)
 let p8 := (b6 || b7)
 let r9 := S.value_Value_Has r1 (bif p8 then r1.I.Lo else r5.1)
 (All [S.value_Make_pre v.I v.C, S.value_Value_IsBottom_pre r1] ∧ ((r2 = true → True) ∧ (r2 = false → (All [S.cong_Cong_Least_pre r1.C m4, S.value_Value_Has_pre r1 (bif p8 then r1.I.Lo else r5.1), (r9 = true → S.value_Value_Has_pre v (bif p8 then r1.I.Lo else r5.1))] ∧ True))))
def S.law22_ops : (List Int) :=
 ([13, 14, 15] : List Int)
@[ext] structure S.law22_made_L0 where
 op : Int
 n : Int
 t8 : Bool
 l : (List Int)
 r : (List Int)
 i : Int
def S.law22_made_L0_step (x : S.law22_made_L0) : S.law22_made_L0 ⊕ (Bool × S.law22_made_L0) :=
 let b1 := decide (x.i < 4)
 let t2 := IntKind.i64.wrap (Int.tdiv x.i 2)
 let e3 := x.l.getD (Int.toNat t2) 0
 let t4 := Int.tmod x.i 2
 let e5 := x.r.getD (Int.toNat t4) 0
 let r6 := S.word_Do x.op e3 e5
 let b7 := r6.1 == x.n
 let t8 := IntKind.i64.wrap (x.i + 1)
 (bif b1 then (bif b7 then (.inr ⟨true, ⟨x.op, x.n, true, x.l, x.r, x.i⟩⟩) else (.inl ⟨x.op, x.n, x.t8, x.l, x.r, t8⟩)) else (.inr ⟨false, ⟨x.op, x.n, x.t8, x.l, x.r, x.i⟩⟩))
def S.law22_made_L0_vcs (x : S.law22_made_L0) : Prop :=
 let b1 := decide (x.i < 4)
 let t2 := IntKind.i64.wrap (Int.tdiv x.i 2)
 let e3 := x.l.getD (Int.toNat t2) 0
 let t4 := Int.tmod x.i 2
 let e5 := x.r.getD (Int.toNat t4) 0
 let r6 := S.word_Do x.op e3 e5
 let b7 := r6.1 == x.n
 ((b1 = true → (All [(0 : Int) ≤ t2, t2 < (x.l.length : Int), (0 : Int) ≤ t4, t4 < (x.r.length : Int), S.word_Do_pre x.op e3 e5] ∧ ((b7 = true → True) ∧ (b7 = false → True)))) ∧ (b1 = false → True))
def S.law22_made_L0_run (x : S.law22_made_L0) : Bool × S.law22_made_L0 := theRun (fun x => ⟨true, x⟩) S.law22_made_L0_step S.law22_made_L0_vcs x
def S.law22_made (op : Int) (a : S.Value) (b : S.Value) (n : Int) : Bool :=
 let x1 := (⟨op, n, false, ([a.I.Lo, a.I.Hi] : List Int), ([b.I.Lo, b.I.Hi] : List Int), 0⟩ : S.law22_made_L0)
 let y2 := S.law22_made_L0_run x1
 (bif y2.1 then y2.2.t8 else false)
def S.law22_made_pre (op : Int) (a : S.Value) (b : S.Value) (n : Int) : Prop :=
 let x1 := (⟨op, n, false, ([a.I.Lo, a.I.Hi] : List Int), ([b.I.Lo, b.I.Hi] : List Int), 0⟩ : S.law22_made_L0)
 let y2 := S.law22_made_L0_run x1
 (All [Runs S.law22_made_L0_step S.law22_made_L0_vcs x1 (S.law22_made_L0_run x1)] ∧ ((y2.1 = true → True) ∧ (y2.1 = false → True)))
def S.word_One (op : Int) (a : Int) : Int × Bool :=
 let b1 := op == 18
 let t2 := IntKind.i64.wrap (0 - a)
 let b3 := op == 19
 let r4 := S.word_Truth a
 let b5 := !r4
 let r6 := S.word_Bit b5
 let b7 := op == 20
 let t8 := bits .xor .i64 (if IntKind.i64.signed then -1 else IntKind.i64.max) a
 (bif b1 then (t2, true) else (bif b3 then (r6, true) else (bif b7 then (t8, true) else (0, false))))
@[ext] structure S.law22_ArithSound_L0 where
 t8 : Bool
 vx : Int
 y : Int
 i : Int
 a : S.Value
 b : S.Value
def S.law22_ArithSound_L0_step (x : S.law22_ArithSound_L0) : S.law22_ArithSound_L0 ⊕ (Bool × S.law22_ArithSound_L0) :=
 let b1 := decide (x.i < 3)
 let r2 := S.law22_ops
 let e3 := r2.getD (Int.toNat x.i) 0
 let r4 := S.arith_Do e3 x.a x.b
 let r5 := S.word_Do e3 x.vx x.y
 let r6 := S.value_One x.vx
 let r7 := S.value_One x.y
 let r8 := S.arith_Do e3 r6 r7
 let r9 := S.value_Value_Single r8
 let b10 := !r5.2
 let r11 := S.value_Value_Has r4 r5.1
 let b12 := !r11
 let p13 := (b10 || b12)
 let b14 := !r9.2
 let p15 := (p13 || b14)
 let b16 := r9.1 != r5.1
 let p17 := (p15 || b16)
 let r18 := S.value_Make x.a.I x.a.C
 let r19 := S.value_Make x.b.I x.b.C
 let r20 := S.arith_Wraps e3 x.a x.b
 let b21 := !r20
 let r22 := S.law22_made e3 r18 r19 r4.I.Lo
 let b23 := !r22
 let r24 := S.law22_made e3 r18 r19 r4.I.Hi
 let b25 := !r24
 let p26 := (b23 || b25)
 let p27 := (b21 && p26)
 let t28 := IntKind.i64.wrap (x.i + 1)
 (bif b1 then (bif p17 then (.inr ⟨true, ⟨false, x.vx, x.y, x.i, x.a, x.b⟩⟩) else (bif p27 then (.inr ⟨true, ⟨false, x.vx, x.y, x.i, x.a, x.b⟩⟩) else (.inl ⟨x.t8, x.vx, x.y, t28, x.a, x.b⟩))) else (.inr ⟨false, ⟨x.t8, x.vx, x.y, x.i, x.a, x.b⟩⟩))
def S.law22_ArithSound_L0_vcs (x : S.law22_ArithSound_L0) : Prop :=
 let b1 := decide (x.i < 3)
 let r2 := S.law22_ops
 let e3 := r2.getD (Int.toNat x.i) 0
 let r4 := S.arith_Do e3 x.a x.b
 let r5 := S.word_Do e3 x.vx x.y
 let r6 := S.value_One x.vx
 let r7 := S.value_One x.y
 let r8 := S.arith_Do e3 r6 r7
 let r9 := S.value_Value_Single r8
 let b10 := !r5.2
 let r11 := S.value_Value_Has r4 r5.1
 let b12 := !r11
 let p13 := (b10 || b12)
 let b14 := !r9.2
 let p15 := (p13 || b14)
 let b16 := r9.1 != r5.1
 let p17 := (p15 || b16)
 let r18 := S.value_Make x.a.I x.a.C
 let r19 := S.value_Make x.b.I x.b.C
 let r20 := S.arith_Wraps e3 x.a x.b
 let b21 := !r20
 let r22 := S.law22_made e3 r18 r19 r4.I.Lo
 let b23 := !r22
 let r24 := S.law22_made e3 r18 r19 r4.I.Hi
 let b25 := !r24
 let p26 := (b23 || b25)
 let p27 := (b21 && p26)
 ((b1 = true → (All [(0 : Int) ≤ x.i, x.i < (r2.length : Int), S.arith_Do_pre e3 x.a x.b, S.word_Do_pre e3 x.vx x.y, S.arith_Do_pre e3 r6 r7, S.value_Value_Single_pre r8, (b10 = false → S.value_Value_Has_pre r4 r5.1)] ∧ ((p17 = true → True) ∧ (p17 = false → (All [S.value_Make_pre x.a.I x.a.C, S.value_Make_pre x.b.I x.b.C, S.arith_Wraps_pre e3 x.a x.b, (b21 = true → S.law22_made_pre e3 r18 r19 r4.I.Lo), (b21 = true → (b23 = false → S.law22_made_pre e3 r18 r19 r4.I.Hi))] ∧ ((p27 = true → True) ∧ (p27 = false → True))))))) ∧ (b1 = false → True))
def S.law22_ArithSound_L0_run (x : S.law22_ArithSound_L0) : Bool × S.law22_ArithSound_L0 := theRun (fun x => ⟨true, x⟩) S.law22_ArithSound_L0_step S.law22_ArithSound_L0_vcs x
def S.law22_ArithSound (a : S.Value) (b : S.Value) (n : Int) (m : Int) : Bool :=
 let r1 := S.law22_near a n
 let r2 := S.law22_near b m
 let b3 := !r1.2
 let b4 := !r2.2
 let p5 := (b3 || b4)
 let r6 := S.value_Make a.I a.C
 let r7 := S.value_Value_IsBottom r6
 let r8 := S.value_Make b.I b.C
 let r9 := S.value_Value_IsBottom r8
 let p10 := (r7 || r9)
 let r11 := S.law22_works
 let p12 := (p10 && r11)
 let x13 := (⟨false, r1.1, r2.1, 0, a, b⟩ : S.law22_ArithSound_L0)
 let y14 := S.law22_ArithSound_L0_run x13
 let r15 := S.word_One 18 y14.2.vx
 let r16 := S.arith_Neg y14.2.a
 let r17 := S.value_Value_Has r16 r15.1
 let p18 := (r15.2 && r17)
 let r19 := S.law22_works
 let p20 := (p18 && r19)
 (bif p5 then p12 else (bif y14.1 then y14.2.t8 else p20))
def S.law22_ArithSound_pre (a : S.Value) (b : S.Value) (n : Int) (m : Int) : Prop :=
 let r1 := S.law22_near a n
 let r2 := S.law22_near b m
 let b3 := !r1.2
 let b4 := !r2.2
 let p5 := (b3 || b4)
 let r6 := S.value_Make a.I a.C
 let r7 := S.value_Value_IsBottom r6
 let r8 := S.value_Make b.I b.C
 let r9 := S.value_Value_IsBottom r8
 let p10 := (r7 || r9)
 let x13 := (⟨false, r1.1, r2.1, 0, a, b⟩ : S.law22_ArithSound_L0)
 let y14 := S.law22_ArithSound_L0_run x13
 let r15 := S.word_One 18 y14.2.vx
 let r16 := S.arith_Neg y14.2.a
 let r17 := S.value_Value_Has r16 r15.1
 let p18 := (r15.2 && r17)
 (All [S.law22_near_pre a n, S.law22_near_pre b m] ∧ ((p5 = true → (All [S.value_Make_pre a.I a.C, S.value_Value_IsBottom_pre r6, (r7 = false → S.value_Make_pre b.I b.C), (r7 = false → S.value_Value_IsBottom_pre r8), (p10 = true → S.law22_works_pre)] ∧ True)) ∧ (p5 = false → (All [Runs S.law22_ArithSound_L0_step S.law22_ArithSound_L0_vcs x13 (S.law22_ArithSound_L0_run x13)] ∧ ((y14.1 = true → True) ∧ (y14.1 = false → (All [(r15.2 = true → S.arith_Neg_pre y14.2.a), (r15.2 = true → S.value_Value_Has_pre r16 r15.1), (p18 = true → S.law22_works_pre)] ∧ True)))))))
def S.value_Same (a : S.Value) (b : S.Value) : Bool :=
 let r1 := S.value_Value_reduced a
 let r2 := S.value_Value_reduced b
 let b3 : Bool := ((r1.I.Lo == r2.I.Lo) && ((r1.I.Hi == r2.I.Hi) && ((r1.C.M == r2.C.M) && (r1.C.R == r2.C.R))))
 b3
def S.value_Same_pre (a : S.Value) (b : S.Value) : Prop :=
 (All [S.value_Value_reduced_pre a, S.value_Value_reduced_pre b] ∧ True)
@[ext] structure S.law22_ArithLaws_L0 where
 t6 : Bool
 i : Int
 a : S.Value
 b : S.Value
def S.law22_ArithLaws_L0_step (x : S.law22_ArithLaws_L0) : S.law22_ArithLaws_L0 ⊕ (Bool × S.law22_ArithLaws_L0) :=
 let b1 := decide (x.i < 3)
 let r2 := S.law22_ops
 let e3 := r2.getD (Int.toNat x.i) 0
 let r4 := S.arith_Do e3 x.a x.b
 let r5 := S.law22_ops
 let e6 := r5.getD (Int.toNat x.i) 0
 let r7 := S.arith_Do e6 x.b x.a
 let b8 := !((r4.I.Lo == r7.I.Lo) && ((r4.I.Hi == r7.I.Hi) && ((r4.C.M == r7.C.M) && (r4.C.R == r7.C.R))))
 let t9 := IntKind.i64.wrap (x.i + 2)
 (bif b1 then (bif b8 then (.inr ⟨true, ⟨false, x.i, x.a, x.b⟩⟩) else (.inl ⟨x.t6, t9, x.a, x.b⟩)) else (.inr ⟨false, ⟨x.t6, x.i, x.a, x.b⟩⟩))
def S.law22_ArithLaws_L0_vcs (x : S.law22_ArithLaws_L0) : Prop :=
 let b1 := decide (x.i < 3)
 let r2 := S.law22_ops
 let e3 := r2.getD (Int.toNat x.i) 0
 let r4 := S.arith_Do e3 x.a x.b
 let r5 := S.law22_ops
 let e6 := r5.getD (Int.toNat x.i) 0
 let r7 := S.arith_Do e6 x.b x.a
 let b8 := !((r4.I.Lo == r7.I.Lo) && ((r4.I.Hi == r7.I.Hi) && ((r4.C.M == r7.C.M) && (r4.C.R == r7.C.R))))
 ((b1 = true → (All [(0 : Int) ≤ x.i, x.i < (r2.length : Int), S.arith_Do_pre e3 x.a x.b, (0 : Int) ≤ x.i, x.i < (r5.length : Int), S.arith_Do_pre e6 x.b x.a] ∧ ((b8 = true → True) ∧ (b8 = false → True)))) ∧ (b1 = false → True))
def S.law22_ArithLaws_L0_run (x : S.law22_ArithLaws_L0) : Bool × S.law22_ArithLaws_L0 := theRun (fun x => ⟨true, x⟩) S.law22_ArithLaws_L0_step S.law22_ArithLaws_L0_vcs x
def S.law22_ArithLaws (a : S.Value) (b : S.Value) (op : Int) : Bool :=
 let r1 := S.value_Make a.I a.C
 let x2 := (⟨false, 0, a, b⟩ : S.law22_ArithLaws_L0)
 let y3 := S.law22_ArithLaws_L0_run x2
 let r4 := S.value_One 0
 let r5 := S.arith_Do 13 y3.2.a r4
 let b6 := !((r5.I.Lo == r1.I.Lo) && ((r5.I.Hi == r1.I.Hi) && ((r5.C.M == r1.C.M) && (r5.C.R == r1.C.R))))
 let r7 := S.value_One 1
 let r8 := S.arith_Do 15 r7 y3.2.a
 let b9 := !((r8.I.Lo == r1.I.Lo) && ((r8.I.Hi == r1.I.Hi) && ((r8.C.M == r1.C.M) && (r8.C.R == r1.C.R))))
 let p10 := (b6 || b9)
 let r11 := S.value_One 0
 let r12 := S.arith_Do 14 y3.2.a r11
 let b13 := !((r12.I.Lo == r1.I.Lo) && ((r12.I.Hi == r1.I.Hi) && ((r12.C.M == r1.C.M) && (r12.C.R == r1.C.R))))
 let p14 := (p10 || b13)
 let r15 := S.value_One 0
 let r16 := S.arith_Wraps 14 r15 y3.2.b
 let b17 := !r16
 let r18 := S.arith_Wraps 14 y3.2.a y3.2.b
 let b19 := !r18
 let p20 := (b17 && b19)
 let r21 := S.arith_Do 14 y3.2.a y3.2.b
 let r22 := S.arith_Neg y3.2.b
 let r23 := S.arith_Do 13 y3.2.a r22
 let r24 := S.value_Same r21 r23
 let b25 := !r24
 let p26 := (p20 && b25)
 let r27 := S.value_One 0
 let r28 := S.arith_Do 15 r1 r27
 let r29 := S.value_Value_Single r28
 let r30 := S.value_Value_IsBottom r1
 let b31 := !r30
 let b32 := !r29.2
 let b33 := r29.1 != 0
 let p34 := (b32 || b33)
 let p35 := (b31 && p34)
 let r36 := S.value_Bottom
 let r37 := S.arith_Do op y3.2.a r36
 let r38 := S.value_Value_IsBottom r37
 let r39 := S.value_Bottom
 let r40 := S.arith_Do op r39 y3.2.b
 let r41 := S.value_Value_IsBottom r40
 let p42 := (r38 && r41)
 let r43 := S.value_Bottom
 let r44 := S.arith_Neg r43
 let r45 := S.value_Value_IsBottom r44
 let p46 := (p42 && r45)
 let r47 := S.law22_works
 let p48 := (p46 && r47)
 (bif y3.1 then y3.2.t6 else (bif p14 then false else (bif p26 then false else (bif p35 then false else p48))))
def S.law22_ArithLaws_pre (a : S.Value) (b : S.Value) (op : Int) : Prop :=
 let r1 := S.value_Make a.I a.C
 let x2 := (⟨false, 0, a, b⟩ : S.law22_ArithLaws_L0)
 let y3 := S.law22_ArithLaws_L0_run x2
 let r4 := S.value_One 0
 let r5 := S.arith_Do 13 y3.2.a r4
 let b6 := !((r5.I.Lo == r1.I.Lo) && ((r5.I.Hi == r1.I.Hi) && ((r5.C.M == r1.C.M) && (r5.C.R == r1.C.R))))
 let r7 := S.value_One 1
 let r8 := S.arith_Do 15 r7 y3.2.a
 let b9 := !((r8.I.Lo == r1.I.Lo) && ((r8.I.Hi == r1.I.Hi) && ((r8.C.M == r1.C.M) && (r8.C.R == r1.C.R))))
 let p10 := (b6 || b9)
 let r11 := S.value_One 0
 let r12 := S.arith_Do 14 y3.2.a r11
 let b13 := !((r12.I.Lo == r1.I.Lo) && ((r12.I.Hi == r1.I.Hi) && ((r12.C.M == r1.C.M) && (r12.C.R == r1.C.R))))
 let p14 := (p10 || b13)
 let r15 := S.value_One 0
 let r16 := S.arith_Wraps 14 r15 y3.2.b
 let b17 := !r16
 let r18 := S.arith_Wraps 14 y3.2.a y3.2.b
 let b19 := !r18
 let p20 := (b17 && b19)
 let r21 := S.arith_Do 14 y3.2.a y3.2.b
 let r22 := S.arith_Neg y3.2.b
 let r23 := S.arith_Do 13 y3.2.a r22
 let r24 := S.value_Same r21 r23
 let b25 := !r24
 let p26 := (p20 && b25)
 let r27 := S.value_One 0
 let r28 := S.arith_Do 15 r1 r27
 let r29 := S.value_Value_Single r28
 let r30 := S.value_Value_IsBottom r1
 let b31 := !r30
 let b32 := !r29.2
 let b33 := r29.1 != 0
 let p34 := (b32 || b33)
 let p35 := (b31 && p34)
 let r36 := S.value_Bottom
 let r37 := S.arith_Do op y3.2.a r36
 let r38 := S.value_Value_IsBottom r37
 let r39 := S.value_Bottom
 let r40 := S.arith_Do op r39 y3.2.b
 let r41 := S.value_Value_IsBottom r40
 let p42 := (r38 && r41)
 let r43 := S.value_Bottom
 let r44 := S.arith_Neg r43
 let r45 := S.value_Value_IsBottom r44
 let p46 := (p42 && r45)
 (All [S.value_Make_pre a.I a.C, Runs S.law22_ArithLaws_L0_step S.law22_ArithLaws_L0_vcs x2 (S.law22_ArithLaws_L0_run x2)] ∧ ((y3.1 = true → True) ∧ (y3.1 = false → (All [S.arith_Do_pre 13 y3.2.a r4, (b6 = false → S.arith_Do_pre 15 r7 y3.2.a), (p10 = false → S.arith_Do_pre 14 y3.2.a r11)] ∧ ((p14 = true → True) ∧ (p14 = false → (All [S.arith_Wraps_pre 14 r15 y3.2.b, (b17 = true → S.arith_Wraps_pre 14 y3.2.a y3.2.b), (p20 = true → S.arith_Do_pre 14 y3.2.a y3.2.b), (p20 = true → S.arith_Neg_pre y3.2.b), (p20 = true → S.arith_Do_pre 13 y3.2.a r22), (p20 = true → S.value_Same_pre r21 r23)] ∧ ((p26 = true → True) ∧ (p26 = false → (All [S.arith_Do_pre 15 r1 r27, S.value_Value_Single_pre r28, S.value_Value_IsBottom_pre r1] ∧ ((p35 = true → True) ∧ (p35 = false → (All [S.arith_Do_pre op y3.2.a r36, S.value_Value_IsBottom_pre r37, (r38 = true → S.arith_Do_pre op r39 y3.2.b), (r38 = true → S.value_Value_IsBottom_pre r40), (p42 = true → S.arith_Neg_pre r43), (p42 = true → S.value_Value_IsBottom_pre r44), (p46 = true → S.law22_works_pre)] ∧ True)))))))))))))
@[ext] structure S.law22_ArithKnown_L2 where
 lo : Int
 m : Int
 l : (List S.Value)
def S.law22_ArithKnown_L2_step (x : S.law22_ArithKnown_L2) : S.law22_ArithKnown_L2 ⊕ (S.law22_ArithKnown_L2) :=
 let b1 := decide (x.m < 5)
 let t2 := IntKind.u64.wrap (x.m * x.m)
 let t3 := IntKind.i64.wrap t2
 let t4 := IntKind.i64.wrap (x.lo + t3)
 let t5 := IntKind.i64.wrap (t4 - 1)
 let t6 := IntKind.u64.wrap (Int.tdiv x.m 2)
 let t7 := IntKind.i64.wrap t6
 let t8 := IntKind.i64.wrap (x.lo + t7)
 let r9 := S.cong_Make x.m t8
 let l10 := x.l ++ ([(⟨(⟨x.lo, t5⟩ : S.Inter), r9⟩ : S.Value)] : List S.Value)
 let t11 := IntKind.u64.wrap (x.m + 1)
 (bif b1 then (.inl ⟨x.lo, t11, l10⟩) else (.inr ⟨x.lo, x.m, x.l⟩))
def S.law22_ArithKnown_L2_vcs (x : S.law22_ArithKnown_L2) : Prop :=
 let b1 := decide (x.m < 5)
 let t2 := IntKind.u64.wrap (x.m * x.m)
 let t3 := IntKind.i64.wrap t2
 let t4 := IntKind.i64.wrap (x.lo + t3)
 let t5 := IntKind.i64.wrap (t4 - 1)
 let t6 := IntKind.u64.wrap (Int.tdiv x.m 2)
 let t7 := IntKind.i64.wrap t6
 let t8 := IntKind.i64.wrap (x.lo + t7)
 let r9 := S.cong_Make x.m t8
 ((b1 = true → (All [S.cong_Make_pre x.m t8, ((x.l.length + ([(⟨(⟨x.lo, t5⟩ : S.Inter), r9⟩ : S.Value)] : List S.Value).length : Nat) : Int) * 32 ≤ 140737488355328] ∧ True)) ∧ (b1 = false → True))
def S.law22_ArithKnown_L2_run (x : S.law22_ArithKnown_L2) : S.law22_ArithKnown_L2 := theRun (fun x => x) S.law22_ArithKnown_L2_step S.law22_ArithKnown_L2_vcs x
@[ext] structure S.law22_ArithKnown_L0 where
 lo : Int
 l : (List S.Value)
def S.law22_ArithKnown_L0_step (x : S.law22_ArithKnown_L0) : S.law22_ArithKnown_L0 ⊕ (S.law22_ArithKnown_L0) :=
 let b1 := decide (x.lo < 4)
 let x2 := (⟨x.lo, 0, x.l⟩ : S.law22_ArithKnown_L2)
 let y3 := S.law22_ArithKnown_L2_run x2
 let t4 := IntKind.i64.wrap (y3.lo + 1)
 (bif b1 then (.inl ⟨t4, y3.l⟩) else (.inr ⟨x.lo, x.l⟩))
def S.law22_ArithKnown_L0_vcs (x : S.law22_ArithKnown_L0) : Prop :=
 let b1 := decide (x.lo < 4)
 let x2 := (⟨x.lo, 0, x.l⟩ : S.law22_ArithKnown_L2)
 ((b1 = true → (All [Runs S.law22_ArithKnown_L2_step S.law22_ArithKnown_L2_vcs x2 (S.law22_ArithKnown_L2_run x2)] ∧ True)) ∧ (b1 = false → True))
def S.law22_ArithKnown_L0_run (x : S.law22_ArithKnown_L0) : S.law22_ArithKnown_L0 := theRun (fun x => x) S.law22_ArithKnown_L0_step S.law22_ArithKnown_L0_vcs x
@[ext] structure S.law22_ArithKnown_L6 where
 t0 : Bool
 i : Int
 k : Int
 l : (List S.Value)
def S.law22_ArithKnown_L6_step (x : S.law22_ArithKnown_L6) : S.law22_ArithKnown_L6 ⊕ (Bool × S.law22_ArithKnown_L6) :=
 let b1 := decide (x.k < (x.l.length : Int))
 let t2 := IntKind.i64.wrap (x.i + x.k)
 let t3 := Int.tmod t2 3
 let t4 := IntKind.i64.wrap (13 + t3)
 let e5 := x.l.getD (Int.toNat x.i) (⟨(⟨0, 0⟩ : S.Inter), (⟨0, 0⟩ : S.Cong)⟩ : S.Value)
 let e6 := x.l.getD (Int.toNat x.k) (⟨(⟨0, 0⟩ : S.Inter), (⟨0, 0⟩ : S.Cong)⟩ : S.Value)
 let r7 := S.law22_ArithDoes t4 e5 e6
 let b8 := !r7
 let t9 := IntKind.i64.wrap (x.i * x.k)
 let t10 := Int.tmod t9 3
 let b11 := t10 == 0
 let e12 := x.l.getD (Int.toNat x.i) (⟨(⟨0, 0⟩ : S.Inter), (⟨0, 0⟩ : S.Cong)⟩ : S.Value)
 let e13 := x.l.getD (Int.toNat x.k) (⟨(⟨0, 0⟩ : S.Inter), (⟨0, 0⟩ : S.Cong)⟩ : S.Value)
 let t14 := Int.tmod x.i 9
 let t15 := IntKind.i64.wrap (t14 - 4)
 let t16 := Int.tmod x.k 7
 let t17 := IntKind.i64.wrap (t16 - 3)
 let r18 := S.law22_ArithSound e12 e13 t15 t17
 let b19 := !r18
 let p20 := (b11 && b19)
 let p21 := (b8 || p20)
 let t22 := IntKind.i64.wrap (x.i + x.k)
 let t23 := Int.tmod t22 4
 let b24 := t23 == 0
 let e25 := x.l.getD (Int.toNat x.i) (⟨(⟨0, 0⟩ : S.Inter), (⟨0, 0⟩ : S.Cong)⟩ : S.Value)
 let e26 := x.l.getD (Int.toNat x.k) (⟨(⟨0, 0⟩ : S.Inter), (⟨0, 0⟩ : S.Cong)⟩ : S.Value)
 let t27 := IntKind.i64.wrap (x.i - 3)
 let r28 := S.law22_ArithLaws e25 e26 t27
 let b29 := !r28
 let p30 := (b24 && b29)
 let p31 := (p21 || p30)
 let t32 := IntKind.i64.wrap (x.k + 1)
 (bif b1 then (bif p31 then (.inr ⟨true, ⟨false, x.i, x.k, x.l⟩⟩) else (.inl ⟨x.t0, x.i, t32, x.l⟩)) else (.inr ⟨false, ⟨x.t0, x.i, x.k, x.l⟩⟩))
def S.law22_ArithKnown_L6_vcs (x : S.law22_ArithKnown_L6) : Prop :=
 let b1 := decide (x.k < (x.l.length : Int))
 let t2 := IntKind.i64.wrap (x.i + x.k)
 let t3 := Int.tmod t2 3
 let t4 := IntKind.i64.wrap (13 + t3)
 let e5 := x.l.getD (Int.toNat x.i) (⟨(⟨0, 0⟩ : S.Inter), (⟨0, 0⟩ : S.Cong)⟩ : S.Value)
 let e6 := x.l.getD (Int.toNat x.k) (⟨(⟨0, 0⟩ : S.Inter), (⟨0, 0⟩ : S.Cong)⟩ : S.Value)
 let r7 := S.law22_ArithDoes t4 e5 e6
 let b8 := !r7
 let t9 := IntKind.i64.wrap (x.i * x.k)
 let t10 := Int.tmod t9 3
 let b11 := t10 == 0
 let e12 := x.l.getD (Int.toNat x.i) (⟨(⟨0, 0⟩ : S.Inter), (⟨0, 0⟩ : S.Cong)⟩ : S.Value)
 let e13 := x.l.getD (Int.toNat x.k) (⟨(⟨0, 0⟩ : S.Inter), (⟨0, 0⟩ : S.Cong)⟩ : S.Value)
 let t14 := Int.tmod x.i 9
 let t15 := IntKind.i64.wrap (t14 - 4)
 let t16 := Int.tmod x.k 7
 let t17 := IntKind.i64.wrap (t16 - 3)
 let r18 := S.law22_ArithSound e12 e13 t15 t17
 let b19 := !r18
 let p20 := (b11 && b19)
 let p21 := (b8 || p20)
 let t22 := IntKind.i64.wrap (x.i + x.k)
 let t23 := Int.tmod t22 4
 let b24 := t23 == 0
 let e25 := x.l.getD (Int.toNat x.i) (⟨(⟨0, 0⟩ : S.Inter), (⟨0, 0⟩ : S.Cong)⟩ : S.Value)
 let e26 := x.l.getD (Int.toNat x.k) (⟨(⟨0, 0⟩ : S.Inter), (⟨0, 0⟩ : S.Cong)⟩ : S.Value)
 let t27 := IntKind.i64.wrap (x.i - 3)
 let r28 := S.law22_ArithLaws e25 e26 t27
 let b29 := !r28
 let p30 := (b24 && b29)
 let p31 := (p21 || p30)
 ((b1 = true → (All [(0 : Int) ≤ x.i, x.i < (x.l.length : Int), (0 : Int) ≤ x.k, x.k < (x.l.length : Int), S.law22_ArithDoes_pre t4 e5 e6, (b8 = false → (b11 = true → ((0 : Int) ≤ x.i ∧ x.i < (x.l.length : Int)))), (b8 = false → (b11 = true → ((0 : Int) ≤ x.k ∧ x.k < (x.l.length : Int)))), (b8 = false → (b11 = true → S.law22_ArithSound_pre e12 e13 t15 t17)), (p21 = false → (b24 = true → ((0 : Int) ≤ x.i ∧ x.i < (x.l.length : Int)))), (p21 = false → (b24 = true → ((0 : Int) ≤ x.k ∧ x.k < (x.l.length : Int)))), (p21 = false → (b24 = true → S.law22_ArithLaws_pre e25 e26 t27))] ∧ ((p31 = true → True) ∧ (p31 = false → True)))) ∧ (b1 = false → True))
def S.law22_ArithKnown_L6_run (x : S.law22_ArithKnown_L6) : Bool × S.law22_ArithKnown_L6 := theRun (fun x => ⟨true, x⟩) S.law22_ArithKnown_L6_step S.law22_ArithKnown_L6_vcs x
@[ext] structure S.law22_ArithKnown_L4 where
 t0 : Bool
 i : Int
 l : (List S.Value)
def S.law22_ArithKnown_L4_step (x : S.law22_ArithKnown_L4) : S.law22_ArithKnown_L4 ⊕ (Bool × S.law22_ArithKnown_L4) :=
 let b1 := decide (x.i < (x.l.length : Int))
 let x2 := (⟨x.t0, x.i, 0, x.l⟩ : S.law22_ArithKnown_L6)
 let y3 := S.law22_ArithKnown_L6_run x2
 let t4 := IntKind.i64.wrap (y3.2.i + 1)
 (bif b1 then (bif y3.1 then (.inr ⟨true, ⟨y3.2.t0, y3.2.i, y3.2.l⟩⟩) else (.inl ⟨y3.2.t0, t4, y3.2.l⟩)) else (.inr ⟨false, ⟨x.t0, x.i, x.l⟩⟩))
def S.law22_ArithKnown_L4_vcs (x : S.law22_ArithKnown_L4) : Prop :=
 let b1 := decide (x.i < (x.l.length : Int))
 let x2 := (⟨x.t0, x.i, 0, x.l⟩ : S.law22_ArithKnown_L6)
 let y3 := S.law22_ArithKnown_L6_run x2
 ((b1 = true → (All [Runs S.law22_ArithKnown_L6_step S.law22_ArithKnown_L6_vcs x2 (S.law22_ArithKnown_L6_run x2)] ∧ ((y3.1 = true → True) ∧ (y3.1 = false → True)))) ∧ (b1 = false → True))
def S.law22_ArithKnown_L4_run (x : S.law22_ArithKnown_L4) : Bool × S.law22_ArithKnown_L4 := theRun (fun x => ⟨true, x⟩) S.law22_ArithKnown_L4_step S.law22_ArithKnown_L4_vcs x
@[ext] structure S.law22_ArithKnown_L10 where
 ends : (List Int)
 i : Int
 k : Int
 w : (List S.Value)
def S.law22_ArithKnown_L10_step (x : S.law22_ArithKnown_L10) : S.law22_ArithKnown_L10 ⊕ (S.law22_ArithKnown_L10) :=
 let b1 := decide (x.k < (x.ends.length : Int))
 let e2 := x.ends.getD (Int.toNat x.i) 0
 let e3 := x.ends.getD (Int.toNat x.k) 0
 let t4 := IntKind.i64.wrap (x.i + x.k)
 let t5 := Int.tmod t4 4
 let e6 := ([1, 2, 3, 1099511627776] : List Int).getD (Int.toNat t5) 0
 let e7 := x.ends.getD (Int.toNat x.i) 0
 let r8 := S.cong_Make e6 e7
 let l9 := x.w ++ ([(⟨(⟨e2, e3⟩ : S.Inter), r8⟩ : S.Value)] : List S.Value)
 let t10 := IntKind.i64.wrap (x.k + 1)
 (bif b1 then (.inl ⟨x.ends, x.i, t10, l9⟩) else (.inr ⟨x.ends, x.i, x.k, x.w⟩))
def S.law22_ArithKnown_L10_vcs (x : S.law22_ArithKnown_L10) : Prop :=
 let b1 := decide (x.k < (x.ends.length : Int))
 let e2 := x.ends.getD (Int.toNat x.i) 0
 let e3 := x.ends.getD (Int.toNat x.k) 0
 let t4 := IntKind.i64.wrap (x.i + x.k)
 let t5 := Int.tmod t4 4
 let e6 := ([1, 2, 3, 1099511627776] : List Int).getD (Int.toNat t5) 0
 let e7 := x.ends.getD (Int.toNat x.i) 0
 let r8 := S.cong_Make e6 e7
 ((b1 = true → (All [(0 : Int) ≤ x.i, x.i < (x.ends.length : Int), (0 : Int) ≤ x.k, x.k < (x.ends.length : Int), (0 : Int) ≤ t5, t5 < (([1, 2, 3, 1099511627776] : List Int).length : Int), (0 : Int) ≤ x.i, x.i < (x.ends.length : Int), S.cong_Make_pre e6 e7, ((x.w.length + ([(⟨(⟨e2, e3⟩ : S.Inter), r8⟩ : S.Value)] : List S.Value).length : Nat) : Int) * 32 ≤ 140737488355328] ∧ True)) ∧ (b1 = false → True))
def S.law22_ArithKnown_L10_run (x : S.law22_ArithKnown_L10) : S.law22_ArithKnown_L10 := theRun (fun x => x) S.law22_ArithKnown_L10_step S.law22_ArithKnown_L10_vcs x
@[ext] structure S.law22_ArithKnown_L8 where
 ends : (List Int)
 i : Int
 w : (List S.Value)
def S.law22_ArithKnown_L8_step (x : S.law22_ArithKnown_L8) : S.law22_ArithKnown_L8 ⊕ (S.law22_ArithKnown_L8) :=
 let b1 := decide (x.i < (x.ends.length : Int))
 let x2 := (⟨x.ends, x.i, x.i, x.w⟩ : S.law22_ArithKnown_L10)
 let y3 := S.law22_ArithKnown_L10_run x2
 let t4 := IntKind.i64.wrap (y3.i + 1)
 (bif b1 then (.inl ⟨y3.ends, t4, y3.w⟩) else (.inr ⟨x.ends, x.i, x.w⟩))
def S.law22_ArithKnown_L8_vcs (x : S.law22_ArithKnown_L8) : Prop :=
 let b1 := decide (x.i < (x.ends.length : Int))
 let x2 := (⟨x.ends, x.i, x.i, x.w⟩ : S.law22_ArithKnown_L10)
 ((b1 = true → (All [Runs S.law22_ArithKnown_L10_step S.law22_ArithKnown_L10_vcs x2 (S.law22_ArithKnown_L10_run x2)] ∧ True)) ∧ (b1 = false → True))
def S.law22_ArithKnown_L8_run (x : S.law22_ArithKnown_L8) : S.law22_ArithKnown_L8 := theRun (fun x => x) S.law22_ArithKnown_L8_step S.law22_ArithKnown_L8_vcs x
@[ext] structure S.law22_ArithKnown_L14 where
 t0 : Bool
 ends : (List Int)
 i : Int
 k : Int
 w : (List S.Value)
def S.law22_ArithKnown_L14_step (x : S.law22_ArithKnown_L14) : S.law22_ArithKnown_L14 ⊕ (Bool × S.law22_ArithKnown_L14) :=
 let b1 := decide (x.k < (x.w.length : Int))
 let t2 := IntKind.i64.wrap (x.i + x.k)
 let t3 := Int.tmod t2 3
 let t4 := IntKind.i64.wrap (13 + t3)
 let e5 := x.w.getD (Int.toNat x.i) (⟨(⟨0, 0⟩ : S.Inter), (⟨0, 0⟩ : S.Cong)⟩ : S.Value)
 let e6 := x.w.getD (Int.toNat x.k) (⟨(⟨0, 0⟩ : S.Inter), (⟨0, 0⟩ : S.Cong)⟩ : S.Value)
 let r7 := S.law22_ArithDoes t4 e5 e6
 let b8 := !r7
 let t9 := IntKind.i64.wrap (x.i + x.k)
 let t10 := Int.tmod t9 3
 let b11 := t10 == 0
 let e12 := x.w.getD (Int.toNat x.i) (⟨(⟨0, 0⟩ : S.Inter), (⟨0, 0⟩ : S.Cong)⟩ : S.Value)
 let e13 := x.w.getD (Int.toNat x.k) (⟨(⟨0, 0⟩ : S.Inter), (⟨0, 0⟩ : S.Cong)⟩ : S.Value)
 let t14 := Int.tmod x.k 11
 let e15 := x.ends.getD (Int.toNat t14) 0
 let t16 := Int.tmod x.i 11
 let e17 := x.ends.getD (Int.toNat t16) 0
 let r18 := S.law22_ArithSound e12 e13 e15 e17
 let b19 := !r18
 let p20 := (b11 && b19)
 let p21 := (b8 || p20)
 let t22 := IntKind.i64.wrap (x.i + x.k)
 let t23 := Int.tmod t22 5
 let b24 := t23 == 0
 let e25 := x.w.getD (Int.toNat x.i) (⟨(⟨0, 0⟩ : S.Inter), (⟨0, 0⟩ : S.Cong)⟩ : S.Value)
 let e26 := x.w.getD (Int.toNat x.k) (⟨(⟨0, 0⟩ : S.Inter), (⟨0, 0⟩ : S.Cong)⟩ : S.Value)
 let r27 := S.law22_ArithLaws e25 e26 13
 let b28 := !r27
 let p29 := (b24 && b28)
 let p30 := (p21 || p29)
 let t31 := IntKind.i64.wrap (x.k + 1)
 (bif b1 then (bif p30 then (.inr ⟨true, ⟨false, x.ends, x.i, x.k, x.w⟩⟩) else (.inl ⟨x.t0, x.ends, x.i, t31, x.w⟩)) else (.inr ⟨false, ⟨x.t0, x.ends, x.i, x.k, x.w⟩⟩))
def S.law22_ArithKnown_L14_vcs (x : S.law22_ArithKnown_L14) : Prop :=
 let b1 := decide (x.k < (x.w.length : Int))
 let t2 := IntKind.i64.wrap (x.i + x.k)
 let t3 := Int.tmod t2 3
 let t4 := IntKind.i64.wrap (13 + t3)
 let e5 := x.w.getD (Int.toNat x.i) (⟨(⟨0, 0⟩ : S.Inter), (⟨0, 0⟩ : S.Cong)⟩ : S.Value)
 let e6 := x.w.getD (Int.toNat x.k) (⟨(⟨0, 0⟩ : S.Inter), (⟨0, 0⟩ : S.Cong)⟩ : S.Value)
 let r7 := S.law22_ArithDoes t4 e5 e6
 let b8 := !r7
 let t9 := IntKind.i64.wrap (x.i + x.k)
 let t10 := Int.tmod t9 3
 let b11 := t10 == 0
 let e12 := x.w.getD (Int.toNat x.i) (⟨(⟨0, 0⟩ : S.Inter), (⟨0, 0⟩ : S.Cong)⟩ : S.Value)
 let e13 := x.w.getD (Int.toNat x.k) (⟨(⟨0, 0⟩ : S.Inter), (⟨0, 0⟩ : S.Cong)⟩ : S.Value)
 let t14 := Int.tmod x.k 11
 let e15 := x.ends.getD (Int.toNat t14) 0
 let t16 := Int.tmod x.i 11
 let e17 := x.ends.getD (Int.toNat t16) 0
 let r18 := S.law22_ArithSound e12 e13 e15 e17
 let b19 := !r18
 let p20 := (b11 && b19)
 let p21 := (b8 || p20)
 let t22 := IntKind.i64.wrap (x.i + x.k)
 let t23 := Int.tmod t22 5
 let b24 := t23 == 0
 let e25 := x.w.getD (Int.toNat x.i) (⟨(⟨0, 0⟩ : S.Inter), (⟨0, 0⟩ : S.Cong)⟩ : S.Value)
 let e26 := x.w.getD (Int.toNat x.k) (⟨(⟨0, 0⟩ : S.Inter), (⟨0, 0⟩ : S.Cong)⟩ : S.Value)
 let r27 := S.law22_ArithLaws e25 e26 13
 let b28 := !r27
 let p29 := (b24 && b28)
 let p30 := (p21 || p29)
 ((b1 = true → (All [(0 : Int) ≤ x.i, x.i < (x.w.length : Int), (0 : Int) ≤ x.k, x.k < (x.w.length : Int), S.law22_ArithDoes_pre t4 e5 e6, (b8 = false → (b11 = true → ((0 : Int) ≤ x.i ∧ x.i < (x.w.length : Int)))), (b8 = false → (b11 = true → ((0 : Int) ≤ x.k ∧ x.k < (x.w.length : Int)))), (b8 = false → (b11 = true → ((0 : Int) ≤ t14 ∧ t14 < (x.ends.length : Int)))), (b8 = false → (b11 = true → ((0 : Int) ≤ t16 ∧ t16 < (x.ends.length : Int)))), (b8 = false → (b11 = true → S.law22_ArithSound_pre e12 e13 e15 e17)), (p21 = false → (b24 = true → ((0 : Int) ≤ x.i ∧ x.i < (x.w.length : Int)))), (p21 = false → (b24 = true → ((0 : Int) ≤ x.k ∧ x.k < (x.w.length : Int)))), (p21 = false → (b24 = true → S.law22_ArithLaws_pre e25 e26 13))] ∧ ((p30 = true → True) ∧ (p30 = false → True)))) ∧ (b1 = false → True))
def S.law22_ArithKnown_L14_run (x : S.law22_ArithKnown_L14) : Bool × S.law22_ArithKnown_L14 := theRun (fun x => ⟨true, x⟩) S.law22_ArithKnown_L14_step S.law22_ArithKnown_L14_vcs x
@[ext] structure S.law22_ArithKnown_L12 where
 t0 : Bool
 ends : (List Int)
 i : Int
 w : (List S.Value)
def S.law22_ArithKnown_L12_step (x : S.law22_ArithKnown_L12) : S.law22_ArithKnown_L12 ⊕ (Bool × S.law22_ArithKnown_L12) :=
 let b1 := decide (x.i < (x.w.length : Int))
 let x2 := (⟨x.t0, x.ends, x.i, 0, x.w⟩ : S.law22_ArithKnown_L14)
 let y3 := S.law22_ArithKnown_L14_run x2
 let t4 := IntKind.i64.wrap (y3.2.i + 1)
 (bif b1 then (bif y3.1 then (.inr ⟨true, ⟨y3.2.t0, y3.2.ends, y3.2.i, y3.2.w⟩⟩) else (.inl ⟨y3.2.t0, y3.2.ends, t4, y3.2.w⟩)) else (.inr ⟨false, ⟨x.t0, x.ends, x.i, x.w⟩⟩))
def S.law22_ArithKnown_L12_vcs (x : S.law22_ArithKnown_L12) : Prop :=
 let b1 := decide (x.i < (x.w.length : Int))
 let x2 := (⟨x.t0, x.ends, x.i, 0, x.w⟩ : S.law22_ArithKnown_L14)
 let y3 := S.law22_ArithKnown_L14_run x2
 ((b1 = true → (All [Runs S.law22_ArithKnown_L14_step S.law22_ArithKnown_L14_vcs x2 (S.law22_ArithKnown_L14_run x2)] ∧ ((y3.1 = true → True) ∧ (y3.1 = false → True)))) ∧ (b1 = false → True))
def S.law22_ArithKnown_L12_run (x : S.law22_ArithKnown_L12) : Bool × S.law22_ArithKnown_L12 := theRun (fun x => ⟨true, x⟩) S.law22_ArithKnown_L12_step S.law22_ArithKnown_L12_vcs x
def S.law22_ArithKnown : Bool :=
 let x1 := (⟨(-3), ([] : List S.Value)⟩ : S.law22_ArithKnown_L0)
 let y2 := S.law22_ArithKnown_L0_run x1
 let x3 := (⟨false, 0, y2.l⟩ : S.law22_ArithKnown_L4)
 let y4 := S.law22_ArithKnown_L4_run x3
 let x5 := (⟨([(-9223372036854775808), (-9223372036854775807), (-4294967296), (-1), 0, 1, 3, 2147483648, 4611686018427387904, 9223372036854775806, 9223372036854775807] : List Int), 0, ([] : List S.Value)⟩ : S.law22_ArithKnown_L8)
 let y6 := S.law22_ArithKnown_L8_run x5
 let x7 := (⟨y4.2.t0, y6.ends, 0, y6.w⟩ : S.law22_ArithKnown_L12)
 let y8 := S.law22_ArithKnown_L12_run x7
 let r9 := S.value_Top
 let r10 := S.value_Top
 let r11 := S.law22_ArithDoes (-1) r9 r10
 let r12 := S.value_Bottom
 let r13 := S.value_Top
 let r14 := S.law22_ArithDoes 16 r12 r13
 let p15 := (r11 && r14)
 let r16 := S.law22_works
 let p17 := (p15 && r16)
 (bif y4.1 then y4.2.t0 else (bif y8.1 then y8.2.t0 else p17))
def S.law22_ArithKnown_pre : Prop :=
 let x1 := (⟨(-3), ([] : List S.Value)⟩ : S.law22_ArithKnown_L0)
 let y2 := S.law22_ArithKnown_L0_run x1
 let x3 := (⟨false, 0, y2.l⟩ : S.law22_ArithKnown_L4)
 let y4 := S.law22_ArithKnown_L4_run x3
 let x5 := (⟨([(-9223372036854775808), (-9223372036854775807), (-4294967296), (-1), 0, 1, 3, 2147483648, 4611686018427387904, 9223372036854775806, 9223372036854775807] : List Int), 0, ([] : List S.Value)⟩ : S.law22_ArithKnown_L8)
 let y6 := S.law22_ArithKnown_L8_run x5
 let x7 := (⟨y4.2.t0, y6.ends, 0, y6.w⟩ : S.law22_ArithKnown_L12)
 let y8 := S.law22_ArithKnown_L12_run x7
 let r9 := S.value_Top
 let r10 := S.value_Top
 let r11 := S.law22_ArithDoes (-1) r9 r10
 let r12 := S.value_Bottom
 let r13 := S.value_Top
 let r14 := S.law22_ArithDoes 16 r12 r13
 let p15 := (r11 && r14)
 (All [Runs S.law22_ArithKnown_L0_step S.law22_ArithKnown_L0_vcs x1 (S.law22_ArithKnown_L0_run x1), Runs S.law22_ArithKnown_L4_step S.law22_ArithKnown_L4_vcs x3 (S.law22_ArithKnown_L4_run x3)] ∧ ((y4.1 = true → True) ∧ (y4.1 = false → (All [Runs S.law22_ArithKnown_L8_step S.law22_ArithKnown_L8_vcs x5 (S.law22_ArithKnown_L8_run x5), Runs S.law22_ArithKnown_L12_step S.law22_ArithKnown_L12_vcs x7 (S.law22_ArithKnown_L12_run x7)] ∧ ((y8.1 = true → True) ∧ (y8.1 = false → (All [S.law22_ArithDoes_pre (-1) r9 r10, (r11 = true → S.law22_ArithDoes_pre 16 r12 r13), (p15 = true → S.law22_works_pre)] ∧ True)))))))
