/-
  Printed by a program for this claim: functions of the code as plain functions, and that the code comes to them. Conditions: those that each theorem states.
-/
import Derived.Test.YthplfkeecpkmhaaDoorVm16
set_option linter.all false
open Go Vm
@[ext] structure S.Inter where
  Lo : Int
  Hi : Int
@[ext] structure S.Cong where
  M : Int
  R : Int
@[ext] structure S.Value where
  I : S.Inter
  C : S.Cong
def S.Inter.ok (x : S.Inter) : Prop := (inr .i64 x.Lo) ∧ (inr .i64 x.Hi) ∧ True
def S.Cong.ok (x : S.Cong) : Prop := (inr .u64 x.M) ∧ (inr .u64 x.R) ∧ True
def S.Value.ok (x : S.Value) : Prop := (S.Inter.ok x.I) ∧ (S.Cong.ok x.C) ∧ True
/-- inter.Empty -/
def S.inter_Empty : S.Inter :=
  (⟨1, 0⟩ : S.Inter)
/-- inter.Of -/
def S.inter_Of (lo : Int) (hi : Int) : S.Inter :=
  let b1 : Bool := decide (lo > hi)
  let r2 : S.Inter := S.inter_Empty
  (bif b1 then r2 else (⟨lo, hi⟩ : S.Inter))
/-- cong.Const -/
def S.cong_Const (n : Int) : S.Cong :=
  let t1 : Int := IntKind.u64.wrap n
  (⟨0, t1⟩ : S.Cong)
/-- cong.rest -/
def S.cong_rest (n : Int) (m : Int) : Int :=
  let b1 : Bool := decide (n < 0)
  let t2 : Int := IntKind.u64.wrap (m - 1)
  let t3 : Int := IntKind.u64.wrap n
  let t4 : Int := bits .xor .u64 (if IntKind.u64.signed then -1 else IntKind.u64.max) t3
  let t5 : Int := Int.tmod t4 m
  let t6 : Int := IntKind.u64.wrap (t2 - t5)
  let t7 : Int := IntKind.u64.wrap n
  let t8 : Int := Int.tmod t7 m
  (bif b1 then t6 else t8)
def S.cong_rest_pre (n : Int) (m : Int) : Prop :=
  let b1 : Bool := decide (n < 0)
  ((b1 = true → (All [m ≠ 0] ∧ True)) ∧ (b1 = false → (All [m ≠ 0] ∧ True)))
/-- cong.Make -/
def S.cong_Make (m : Int) (n : Int) : S.Cong :=
  let b1 : Bool := m == 0
  let r2 : S.Cong := S.cong_Const n
  let r3 : Int := S.cong_rest n m
  (bif b1 then r2 else (⟨m, r3⟩ : S.Cong))
def S.cong_Make_pre (m : Int) (n : Int) : Prop :=
  let b1 : Bool := m == 0
  ((b1 = true → True) ∧ (b1 = false → (All [S.cong_rest_pre n m] ∧ True)))
/-- (cong.Cong).single -/
def S.cong_Cong_single (c : S.Cong) : Bool :=
  let b1 : Bool := c.M == 0
  b1
/-- (cong.Cong).Right -/
def S.cong_Cong_Right (c : S.Cong) : Bool :=
  let r1 : Bool := S.cong_Cong_single c
  let b2 : Bool := decide (c.R < c.M)
  let p3 : Bool := (r1 || b2)
  p3
/-- (cong.Cong).number -/
def S.cong_Cong_number (c : S.Cong) : Int :=
  let t1 : Int := IntKind.i64.wrap c.R
  t1
/-- (cong.Cong).number0 -/
def S.cong_Cong_number0 (c : S.Cong) (ok : Bool) : Int × Bool :=
  let b1 : Bool := !ok
  let r2 : Int := S.cong_Cong_number c
  (bif b1 then (0, false) else (r2, true))
/-- math/bits.Add64 -/
def S.math_bits_Add64 (x y c : Int) : Int × Int := ((x + y + c) % 18446744073709551616, (x + y + c) / 18446744073709551616)
def S.math_bits_Add64_pre (x y c : Int) : Prop := 0 ≤ x ∧ 0 ≤ y ∧ 0 ≤ c ∧ c ≤ 1
/-- cong.plus -/
def S.cong_plus (a : Int) (b : Int) (m : Int) : Int :=
  let r1 : Int × Int := S.math_bits_Add64 a b 0
  let b2 : Bool := decide (r1.2 > 0)
  let b3 : Bool := decide (r1.1 ≥ m)
  let p4 : Bool := (b2 || b3)
  let t5 : Int := IntKind.u64.wrap (r1.1 - m)
  (bif p4 then t5 else r1.1)
def S.cong_plus_pre (a : Int) (b : Int) (m : Int) : Prop :=
  (All [S.math_bits_Add64_pre a b 0] ∧ True)
/-- (cong.Cong).Least -/
def S.cong_Cong_Least (c : S.Cong) (a1 : Int) : Int × Bool :=
  let r1 : Bool := S.cong_Cong_single c
  let r2 : Int := S.cong_Cong_number c
  let b3 : Bool := decide (r2 ≥ a1)
  let r4 : Int × Bool := S.cong_Cong_number0 c b3
  let r5 : Int := S.cong_rest a1 c.M
  let t6 : Int := IntKind.u64.wrap (c.M - r5)
  let t7 : Int := Int.tmod t6 c.M
  let r8 : Int := S.cong_plus c.R t7 c.M
  let t9 : Int := IntKind.u64.wrap a1
  let t10 : Int := IntKind.u64.wrap (9223372036854775807 - t9)
  let b11 : Bool := decide (r8 > t10)
  let t12 : Int := IntKind.i64.wrap r8
  let t13 : Int := IntKind.i64.wrap (a1 + t12)
  (bif r1 then (r4.1, r4.2) else (bif b11 then (0, false) else (t13, true)))
def S.cong_Cong_Least_pre (c : S.Cong) (a1 : Int) : Prop :=
  let r1 : Bool := S.cong_Cong_single c
  let r5 : Int := S.cong_rest a1 c.M
  let t6 : Int := IntKind.u64.wrap (c.M - r5)
  let t7 : Int := Int.tmod t6 c.M
  let r8 : Int := S.cong_plus c.R t7 c.M
  let t9 : Int := IntKind.u64.wrap a1
  let t10 : Int := IntKind.u64.wrap (9223372036854775807 - t9)
  let b11 : Bool := decide (r8 > t10)
  ((r1 = true → True) ∧ (r1 = false → (All [S.cong_rest_pre a1 c.M, c.M ≠ 0, S.cong_plus_pre c.R t7 c.M] ∧ ((b11 = true → True) ∧ (b11 = false → True)))))
/-- (cong.Cong).Greatest -/
def S.cong_Cong_Greatest (c : S.Cong) (to : Int) : Int × Bool :=
  let r1 : Bool := S.cong_Cong_single c
  let r2 : Int := S.cong_Cong_number c
  let b3 : Bool := decide (r2 ≤ to)
  let r4 : Int × Bool := S.cong_Cong_number0 c b3
  let r5 : Int := S.cong_rest to c.M
  let t6 : Int := IntKind.u64.wrap (c.M - c.R)
  let t7 : Int := Int.tmod t6 c.M
  let r8 : Int := S.cong_plus r5 t7 c.M
  let t9 : Int := IntKind.u64.wrap to
  let t10 : Int := IntKind.u64.wrap (t9 + 9223372036854775808)
  let b11 : Bool := decide (r8 > t10)
  let t12 : Int := IntKind.i64.wrap r8
  let t13 : Int := IntKind.i64.wrap (to - t12)
  (bif r1 then (r4.1, r4.2) else (bif b11 then (0, false) else (t13, true)))
def S.cong_Cong_Greatest_pre (c : S.Cong) (to : Int) : Prop :=
  let r1 : Bool := S.cong_Cong_single c
  let r5 : Int := S.cong_rest to c.M
  let t6 : Int := IntKind.u64.wrap (c.M - c.R)
  let t7 : Int := Int.tmod t6 c.M
  let r8 : Int := S.cong_plus r5 t7 c.M
  let t9 : Int := IntKind.u64.wrap to
  let t10 : Int := IntKind.u64.wrap (t9 + 9223372036854775808)
  let b11 : Bool := decide (r8 > t10)
  ((r1 = true → True) ∧ (r1 = false → (All [S.cong_rest_pre to c.M, c.M ≠ 0, S.cong_plus_pre r5 t7 c.M] ∧ ((b11 = true → True) ∧ (b11 = false → True)))))
/-- (inter.Inter).plain -/
def S.inter_Inter_plain (i : S.Inter) : S.Inter :=
  let r1 : S.Inter := S.inter_Of i.Lo i.Hi
  r1
/-- (inter.Inter).IsEmpty -/
def S.inter_Inter_IsEmpty (i : S.Inter) : Bool :=
  let r1 : S.Inter := S.inter_Inter_plain i
  let r2 : S.Inter := S.inter_Empty
  let b3 : Bool := ((r1.Lo == r2.Lo) && (r1.Hi == r2.Hi))
  b3
/-- cong.Top -/
def S.cong_Top : S.Cong :=
  (⟨1, 0⟩ : S.Cong)
/-- value.Bottom -/
def S.value_Bottom : S.Value :=
  let r1 : S.Inter := S.inter_Empty
  let r2 : S.Cong := S.cong_Top
  (⟨r1, r2⟩ : S.Value)
/-- inter.One -/
def S.inter_One (n : Int) : S.Inter :=
  (⟨n, n⟩ : S.Inter)
/-- value.One -/
def S.value_One (n : Int) : S.Value :=
  let r1 : S.Inter := S.inter_One n
  let r2 : S.Cong := S.cong_Const n
  (⟨r1, r2⟩ : S.Value)
/-- value.Make -/
def S.value_Make (i : S.Inter) (c : S.Cong) : S.Value :=
  let r1 : Bool := S.cong_Cong_Right c
  let b2 : Bool := !r1
  let t3 : Int := Int.tmod c.R c.M
  let r4 : Int × Bool := S.cong_Cong_Least (⟨c.M, (bif b2 then t3 else c.R)⟩ : S.Cong) i.Lo
  let r5 : Int × Bool := S.cong_Cong_Greatest (⟨c.M, (bif b2 then t3 else c.R)⟩ : S.Cong) i.Hi
  let r6 : Bool := S.inter_Inter_IsEmpty i
  let b7 : Bool := !r4.2
  let p8 : Bool := (r6 || b7)
  let b9 : Bool := !r5.2
  let p10 : Bool := (p8 || b9)
  let b11 : Bool := decide (r4.1 > r5.1)
  let p12 : Bool := (p10 || b11)
  let r13 : S.Value := S.value_Bottom
  let b14 : Bool := r4.1 == r5.1
  let r15 : S.Value := S.value_One r4.1
  let r16 : S.Inter := S.inter_Of r4.1 r5.1
  (bif p12 then r13 else (bif b14 then r15 else (⟨r16, (⟨c.M, (bif b2 then t3 else c.R)⟩ : S.Cong)⟩ : S.Value)))
def S.value_Make_pre (i : S.Inter) (c : S.Cong) : Prop :=
  let r1 : Bool := S.cong_Cong_Right c
  let b2 : Bool := !r1
  let t3 : Int := Int.tmod c.R c.M
  let r4 : Int × Bool := S.cong_Cong_Least (⟨c.M, (bif b2 then t3 else c.R)⟩ : S.Cong) i.Lo
  let r5 : Int × Bool := S.cong_Cong_Greatest (⟨c.M, (bif b2 then t3 else c.R)⟩ : S.Cong) i.Hi
  let r6 : Bool := S.inter_Inter_IsEmpty i
  let b7 : Bool := !r4.2
  let p8 : Bool := (r6 || b7)
  let b9 : Bool := !r5.2
  let p10 : Bool := (p8 || b9)
  let b11 : Bool := decide (r4.1 > r5.1)
  let p12 : Bool := (p10 || b11)
  let b14 : Bool := r4.1 == r5.1
  (All [(b2 = true → c.M ≠ 0), S.cong_Cong_Least_pre (⟨c.M, (bif b2 then t3 else c.R)⟩ : S.Cong) i.Lo, S.cong_Cong_Greatest_pre (⟨c.M, (bif b2 then t3 else c.R)⟩ : S.Cong) i.Hi] ∧ ((p12 = true → True) ∧ (p12 = false → ((b14 = true → True) ∧ (b14 = false → True)))))
/-- (value.Value).reduced -/
def S.value_Value_reduced (v : S.Value) : S.Value :=
  let r1 : S.Value := S.value_Make v.I v.C
  r1
def S.value_Value_reduced_pre (v : S.Value) : Prop :=
  (All [S.value_Make_pre v.I v.C] ∧ True)
/-- inter.Join$1 -/
def S.inter_Join_1 (a : S.Inter) (b : S.Inter) : S.Inter :=
  let r1 : Bool := S.inter_Inter_IsEmpty a
  let r2 : Bool := S.inter_Inter_IsEmpty b
  let m3 : Int := if b.Lo < a.Lo then b.Lo else a.Lo
  let m4 : Int := if b.Hi > a.Hi then b.Hi else a.Hi
  (bif r1 then b else (bif r2 then a else (⟨m3, m4⟩ : S.Inter)))
/-- inter.Meet$1 -/
def S.inter_Meet_1 (a : S.Inter) (b : S.Inter) : S.Inter :=
  let m1 : Int := if b.Lo > a.Lo then b.Lo else a.Lo
  let m2 : Int := if b.Hi < a.Hi then b.Hi else a.Hi
  let r3 : S.Inter := S.inter_Of m1 m2
  r3
@[ext] structure S.inter_fold_inter_Join_1_L0 where
  t9 : (List S.Inter)
  t10 : Int
  t11 : Int
  first : S.Inter
def S.inter_fold_inter_Join_1_L0_step (x : S.inter_fold_inter_Join_1_L0) : S.inter_fold_inter_Join_1_L0 ⊕ (S.inter_fold_inter_Join_1_L0) :=
  let b1 : Bool := decide (x.t11 < x.t10)
  let e2 : S.Inter := x.t9.getD (Int.toNat x.t11) (⟨0, 0⟩ : S.Inter)
  let r3 : S.Inter := S.inter_Join_1 x.first e2
  let t4 : Int := IntKind.i64.wrap (x.t11 + 1)
  (bif b1 then (.inl ⟨x.t9, x.t10, t4, r3⟩) else (.inr ⟨x.t9, x.t10, x.t11, x.first⟩))
def S.inter_fold_inter_Join_1_L0_vcs (x : S.inter_fold_inter_Join_1_L0) : Prop :=
  let b1 : Bool := decide (x.t11 < x.t10)
  ((b1 = true → (All [(0 : Int) ≤ x.t11, x.t11 < (x.t9.length : Int)] ∧ True)) ∧ (b1 = false → True))
noncomputable def S.inter_fold_inter_Join_1_L0_run (x : S.inter_fold_inter_Join_1_L0) : S.inter_fold_inter_Join_1_L0 := theRun (fun x => x) S.inter_fold_inter_Join_1_L0_step S.inter_fold_inter_Join_1_L0_vcs x
/-- inter.fold -/
noncomputable def S.inter_fold_inter_Join_1 (first : S.Inter) (l : (List S.Inter)) : S.Inter :=
  let x1 : S.inter_fold_inter_Join_1_L0 := (⟨l, (l.length : Int), 0, first⟩ : S.inter_fold_inter_Join_1_L0)
  let y2 : S.inter_fold_inter_Join_1_L0 := S.inter_fold_inter_Join_1_L0_run x1
  let r3 : S.Inter := S.inter_Inter_plain y2.first
  r3
def S.inter_fold_inter_Join_1_pre (first : S.Inter) (l : (List S.Inter)) : Prop :=
  let x1 : S.inter_fold_inter_Join_1_L0 := (⟨l, (l.length : Int), 0, first⟩ : S.inter_fold_inter_Join_1_L0)
  (All [Runs S.inter_fold_inter_Join_1_L0_step S.inter_fold_inter_Join_1_L0_vcs x1 (S.inter_fold_inter_Join_1_L0_run x1)] ∧ True)
@[ext] structure S.inter_fold_inter_Meet_1_L0 where
  t9 : (List S.Inter)
  t10 : Int
  t11 : Int
  first : S.Inter
def S.inter_fold_inter_Meet_1_L0_step (x : S.inter_fold_inter_Meet_1_L0) : S.inter_fold_inter_Meet_1_L0 ⊕ (S.inter_fold_inter_Meet_1_L0) :=
  let b1 : Bool := decide (x.t11 < x.t10)
  let e2 : S.Inter := x.t9.getD (Int.toNat x.t11) (⟨0, 0⟩ : S.Inter)
  let r3 : S.Inter := S.inter_Meet_1 x.first e2
  let t4 : Int := IntKind.i64.wrap (x.t11 + 1)
  (bif b1 then (.inl ⟨x.t9, x.t10, t4, r3⟩) else (.inr ⟨x.t9, x.t10, x.t11, x.first⟩))
def S.inter_fold_inter_Meet_1_L0_vcs (x : S.inter_fold_inter_Meet_1_L0) : Prop :=
  let b1 : Bool := decide (x.t11 < x.t10)
  ((b1 = true → (All [(0 : Int) ≤ x.t11, x.t11 < (x.t9.length : Int)] ∧ True)) ∧ (b1 = false → True))
noncomputable def S.inter_fold_inter_Meet_1_L0_run (x : S.inter_fold_inter_Meet_1_L0) : S.inter_fold_inter_Meet_1_L0 := theRun (fun x => x) S.inter_fold_inter_Meet_1_L0_step S.inter_fold_inter_Meet_1_L0_vcs x
/-- inter.fold -/
noncomputable def S.inter_fold_inter_Meet_1 (first : S.Inter) (l : (List S.Inter)) : S.Inter :=
  let x1 : S.inter_fold_inter_Meet_1_L0 := (⟨l, (l.length : Int), 0, first⟩ : S.inter_fold_inter_Meet_1_L0)
  let y2 : S.inter_fold_inter_Meet_1_L0 := S.inter_fold_inter_Meet_1_L0_run x1
  let r3 : S.Inter := S.inter_Inter_plain y2.first
  r3
def S.inter_fold_inter_Meet_1_pre (first : S.Inter) (l : (List S.Inter)) : Prop :=
  let x1 : S.inter_fold_inter_Meet_1_L0 := (⟨l, (l.length : Int), 0, first⟩ : S.inter_fold_inter_Meet_1_L0)
  (All [Runs S.inter_fold_inter_Meet_1_L0_step S.inter_fold_inter_Meet_1_L0_vcs x1 (S.inter_fold_inter_Meet_1_L0_run x1)] ∧ True)
/-- inter.Join -/
noncomputable def S.inter_Join (l : (List S.Inter)) : S.Inter :=
  let r1 : S.Inter := S.inter_Empty
  let r2 : S.Inter := S.inter_fold_inter_Join_1 r1 l
  r2
def S.inter_Join_pre (l : (List S.Inter)) : Prop :=
  let r1 : S.Inter := S.inter_Empty
  (All [S.inter_fold_inter_Join_1_pre r1 l] ∧ True)
@[ext] structure S.cong_gcd_L0 where
  a : Int
  b : Int
def S.cong_gcd_L0_step (x : S.cong_gcd_L0) : S.cong_gcd_L0 ⊕ (S.cong_gcd_L0) :=
  let b1 : Bool := x.b == 0
  let t2 : Int := Int.tmod x.a x.b
  (bif b1 then (.inr ⟨x.a, x.b⟩) else (.inl ⟨x.b, t2⟩))
def S.cong_gcd_L0_vcs (x : S.cong_gcd_L0) : Prop :=
  let b1 : Bool := x.b == 0
  ((b1 = true → True) ∧ (b1 = false → (All [x.b ≠ 0] ∧ True)))
noncomputable def S.cong_gcd_L0_run (x : S.cong_gcd_L0) : S.cong_gcd_L0 := theRun (fun x => x) S.cong_gcd_L0_step S.cong_gcd_L0_vcs x
/-- cong.gcd -/
noncomputable def S.cong_gcd (a : Int) (b : Int) : Int :=
  let x1 : S.cong_gcd_L0 := (⟨a, b⟩ : S.cong_gcd_L0)
  let y2 : S.cong_gcd_L0 := S.cong_gcd_L0_run x1
  y2.a
def S.cong_gcd_pre (a : Int) (b : Int) : Prop :=
  let x1 : S.cong_gcd_L0 := (⟨a, b⟩ : S.cong_gcd_L0)
  (All [Runs S.cong_gcd_L0_step S.cong_gcd_L0_vcs x1 (S.cong_gcd_L0_run x1)] ∧ True)
/-- (cong.Cong).by -/
def S.cong_Cong_by (c : S.Cong) (g : Int) : Int :=
  let r1 : Bool := S.cong_Cong_single c
  let r2 : Int := S.cong_Cong_number c
  let r3 : Int := S.cong_rest r2 g
  let t4 : Int := Int.tmod c.R g
  (bif r1 then r3 else t4)
def S.cong_Cong_by_pre (c : S.Cong) (g : Int) : Prop :=
  let r1 : Bool := S.cong_Cong_single c
  let r2 : Int := S.cong_Cong_number c
  ((r1 = true → (All [S.cong_rest_pre r2 g] ∧ True)) ∧ (r1 = false → (All [g ≠ 0] ∧ True)))
/-- cong.far -/
def S.cong_far (a : Int) (b : Int) : Int :=
  let m1 : Int := if b > a then b else a
  let m2 : Int := if b < a then b else a
  let t3 : Int := IntKind.u64.wrap (m1 - m2)
  t3
/-- cong.Join -/
noncomputable def S.cong_Join (a : S.Cong) (b : S.Cong) : S.Cong :=
  let r1 : Int := S.cong_gcd a.M b.M
  let b2 : Bool := ((a.M == b.M) && (a.R == b.R))
  let b3 : Bool := r1 == 0
  let r4 : Int := S.cong_Cong_number a
  let r5 : Int := S.cong_Cong_number b
  let m6 : Int := if r5 > r4 then r5 else r4
  let t7 : Int := IntKind.u64.wrap m6
  let m8 : Int := if r5 < r4 then r5 else r4
  let t9 : Int := IntKind.u64.wrap m8
  let t10 : Int := IntKind.u64.wrap (t7 - t9)
  let r11 : S.Cong := S.cong_Make t10 r4
  let r12 : Int := S.cong_Cong_by a r1
  let r13 : Int := S.cong_Cong_by b r1
  let r14 : Int := S.cong_far r12 r13
  let r15 : Int := S.cong_gcd r1 r14
  let t16 : Int := Int.tmod r12 r15
  (bif b2 then a else (bif b3 then r11 else (⟨r15, t16⟩ : S.Cong)))
def S.cong_Join_pre (a : S.Cong) (b : S.Cong) : Prop :=
  let r1 : Int := S.cong_gcd a.M b.M
  let b2 : Bool := ((a.M == b.M) && (a.R == b.R))
  let b3 : Bool := r1 == 0
  let r4 : Int := S.cong_Cong_number a
  let r5 : Int := S.cong_Cong_number b
  let m6 : Int := if r5 > r4 then r5 else r4
  let t7 : Int := IntKind.u64.wrap m6
  let m8 : Int := if r5 < r4 then r5 else r4
  let t9 : Int := IntKind.u64.wrap m8
  let t10 : Int := IntKind.u64.wrap (t7 - t9)
  let r12 : Int := S.cong_Cong_by a r1
  let r13 : Int := S.cong_Cong_by b r1
  let r14 : Int := S.cong_far r12 r13
  let r15 : Int := S.cong_gcd r1 r14
  (All [S.cong_gcd_pre a.M b.M] ∧ ((b2 = true → True) ∧ (b2 = false → ((b3 = true → (All [S.cong_Make_pre t10 r4] ∧ True)) ∧ (b3 = false → (All [S.cong_Cong_by_pre a r1, S.cong_Cong_by_pre b r1, S.cong_gcd_pre r1 r14, r15 ≠ 0] ∧ True))))))
/-- value.Join$1 -/
noncomputable def S.value_Join_1 (a : S.Value) (b : S.Value) : S.Value :=
  let r1 : S.Value := S.value_Bottom
  let b2 : Bool := ((r1.I.Lo == a.I.Lo) && ((r1.I.Hi == a.I.Hi) && ((r1.C.M == a.C.M) && (r1.C.R == a.C.R))))
  let b3 : Bool := ((r1.I.Lo == b.I.Lo) && ((r1.I.Hi == b.I.Hi) && ((r1.C.M == b.C.M) && (r1.C.R == b.C.R))))
  let r4 : S.Inter := S.inter_Join ([a.I, b.I] : List S.Inter)
  let r5 : S.Cong := S.cong_Join a.C b.C
  let r6 : S.Value := S.value_Make r4 r5
  (bif b2 then b else (bif b3 then a else r6))
def S.value_Join_1_pre (a : S.Value) (b : S.Value) : Prop :=
  let r1 : S.Value := S.value_Bottom
  let b2 : Bool := ((r1.I.Lo == a.I.Lo) && ((r1.I.Hi == a.I.Hi) && ((r1.C.M == a.C.M) && (r1.C.R == a.C.R))))
  let b3 : Bool := ((r1.I.Lo == b.I.Lo) && ((r1.I.Hi == b.I.Hi) && ((r1.C.M == b.C.M) && (r1.C.R == b.C.R))))
  let r4 : S.Inter := S.inter_Join ([a.I, b.I] : List S.Inter)
  let r5 : S.Cong := S.cong_Join a.C b.C
  ((b2 = true → True) ∧ (b2 = false → ((b3 = true → True) ∧ (b3 = false → (All [S.inter_Join_pre ([a.I, b.I] : List S.Inter), S.cong_Join_pre a.C b.C, S.value_Make_pre r4 r5] ∧ True)))))
/-- (cong.Cong).Has -/
def S.cong_Cong_Has (c : S.Cong) (n : Int) : Bool :=
  let r1 : S.Cong := S.cong_Make c.M n
  let b2 : Bool := ((r1.M == c.M) && (r1.R == c.R))
  b2
def S.cong_Cong_Has_pre (c : S.Cong) (n : Int) : Prop :=
  (All [S.cong_Make_pre c.M n] ∧ True)
/-- (cong.Cong).if1 -/
def S.cong_Cong_if1 (c : S.Cong) (ok : Bool) : S.Cong × Bool :=
  let b1 : Bool := !ok
  (bif b1 then ((⟨0, 0⟩ : S.Cong), false) else (c, true))
/-- cong.Within -/
def S.cong_Within (a : S.Cong) (b : S.Cong) : Bool :=
  let r1 : Bool := S.cong_Cong_single b
  let b2 : Bool := ((a.M == b.M) && (a.R == b.R))
  let t3 : Int := Int.tmod a.M b.M
  let b4 : Bool := t3 == 0
  let r5 : Int := S.cong_Cong_by a b.M
  let b6 : Bool := r5 == b.R
  let p7 : Bool := (b4 && b6)
  (bif r1 then b2 else p7)
def S.cong_Within_pre (a : S.Cong) (b : S.Cong) : Prop :=
  let r1 : Bool := S.cong_Cong_single b
  let t3 : Int := Int.tmod a.M b.M
  let b4 : Bool := t3 == 0
  ((r1 = true → True) ∧ (r1 = false → (All [b.M ≠ 0, (b4 = true → S.cong_Cong_by_pre a b.M)] ∧ True)))
/-- cong.Meet -/
noncomputable def S.cong_Meet (a : S.Cong) (b : S.Cong) : S.Cong × Bool :=
  let r1 : Int := S.cong_gcd a.M b.M
  let r2 : Bool := S.cong_Cong_single a
  let r3 : Int := S.cong_Cong_number a
  let r4 : Bool := S.cong_Cong_Has b r3
  let r5 : S.Cong × Bool := S.cong_Cong_if1 a r4
  let r6 : Bool := S.cong_Cong_single b
  let r7 : Int := S.cong_Cong_number b
  let r8 : Bool := S.cong_Cong_Has a r7
  let r9 : S.Cong × Bool := S.cong_Cong_if1 b r8
  let r10 : Int := S.cong_Cong_by a r1
  let r11 : Int := S.cong_Cong_by b r1
  let b12 : Bool := r10 != r11
  let r13 : Bool := S.cong_Within a b
  let r14 : Bool := S.cong_Within b a
  let b15 : Bool := !r14
  let b16 : Bool := decide (a.M ≥ b.M)
  let p17 : Bool := (b15 && b16)
  let p18 : Bool := (r13 || p17)
  (bif r2 then (r5.1, r5.2) else (bif r6 then (r9.1, r9.2) else (bif b12 then ((⟨0, 0⟩ : S.Cong), false) else (bif p18 then (a, true) else (b, true)))))
def S.cong_Meet_pre (a : S.Cong) (b : S.Cong) : Prop :=
  let r1 : Int := S.cong_gcd a.M b.M
  let r2 : Bool := S.cong_Cong_single a
  let r3 : Int := S.cong_Cong_number a
  let r6 : Bool := S.cong_Cong_single b
  let r7 : Int := S.cong_Cong_number b
  let r10 : Int := S.cong_Cong_by a r1
  let r11 : Int := S.cong_Cong_by b r1
  let b12 : Bool := r10 != r11
  let r13 : Bool := S.cong_Within a b
  let r14 : Bool := S.cong_Within b a
  let b15 : Bool := !r14
  let b16 : Bool := decide (a.M ≥ b.M)
  let p17 : Bool := (b15 && b16)
  let p18 : Bool := (r13 || p17)
  (All [S.cong_gcd_pre a.M b.M] ∧ ((r2 = true → (All [S.cong_Cong_Has_pre b r3] ∧ True)) ∧ (r2 = false → ((r6 = true → (All [S.cong_Cong_Has_pre a r7] ∧ True)) ∧ (r6 = false → (All [S.cong_Cong_by_pre a r1, S.cong_Cong_by_pre b r1] ∧ ((b12 = true → True) ∧ (b12 = false → (All [S.cong_Within_pre a b, (r13 = false → S.cong_Within_pre b a)] ∧ ((p18 = true → True) ∧ (p18 = false → True)))))))))))
/-- inter.Whole -/
def S.inter_Whole : S.Inter :=
  (⟨(-9223372036854775808), 9223372036854775807⟩ : S.Inter)
/-- inter.Meet -/
noncomputable def S.inter_Meet (l : (List S.Inter)) : S.Inter :=
  let r1 : S.Inter := S.inter_Whole
  let r2 : S.Inter := S.inter_fold_inter_Meet_1 r1 l
  r2
def S.inter_Meet_pre (l : (List S.Inter)) : Prop :=
  let r1 : S.Inter := S.inter_Whole
  (All [S.inter_fold_inter_Meet_1_pre r1 l] ∧ True)
/-- value.Meet$1 -/
noncomputable def S.value_Meet_1 (a : S.Value) (b : S.Value) : S.Value :=
  let r1 : S.Cong × Bool := S.cong_Meet a.C b.C
  let b2 : Bool := !r1.2
  let r3 : S.Value := S.value_Bottom
  let r4 : S.Inter := S.inter_Meet ([a.I, b.I] : List S.Inter)
  let r5 : S.Value := S.value_Make r4 r1.1
  (bif b2 then r3 else r5)
def S.value_Meet_1_pre (a : S.Value) (b : S.Value) : Prop :=
  let r1 : S.Cong × Bool := S.cong_Meet a.C b.C
  let b2 : Bool := !r1.2
  let r4 : S.Inter := S.inter_Meet ([a.I, b.I] : List S.Inter)
  (All [S.cong_Meet_pre a.C b.C] ∧ ((b2 = true → True) ∧ (b2 = false → (All [S.inter_Meet_pre ([a.I, b.I] : List S.Inter), S.value_Make_pre r4 r1.1] ∧ True))))
@[ext] structure S.value_fold_value_Join_1_L0 where
  t9 : (List S.Value)
  t10 : Int
  t11 : Int
  first : S.Value
noncomputable def S.value_fold_value_Join_1_L0_step (x : S.value_fold_value_Join_1_L0) : S.value_fold_value_Join_1_L0 ⊕ (S.value_fold_value_Join_1_L0) :=
  let b1 : Bool := decide (x.t11 < x.t10)
  let e2 : S.Value := x.t9.getD (Int.toNat x.t11) (⟨(⟨0, 0⟩ : S.Inter), (⟨0, 0⟩ : S.Cong)⟩ : S.Value)
  let r3 : S.Value := S.value_Value_reduced e2
  let r4 : S.Value := S.value_Join_1 x.first r3
  let t5 : Int := IntKind.i64.wrap (x.t11 + 1)
  (bif b1 then (.inl ⟨x.t9, x.t10, t5, r4⟩) else (.inr ⟨x.t9, x.t10, x.t11, x.first⟩))
def S.value_fold_value_Join_1_L0_vcs (x : S.value_fold_value_Join_1_L0) : Prop :=
  let b1 : Bool := decide (x.t11 < x.t10)
  let e2 : S.Value := x.t9.getD (Int.toNat x.t11) (⟨(⟨0, 0⟩ : S.Inter), (⟨0, 0⟩ : S.Cong)⟩ : S.Value)
  let r3 : S.Value := S.value_Value_reduced e2
  ((b1 = true → (All [(0 : Int) ≤ x.t11, x.t11 < (x.t9.length : Int), S.value_Value_reduced_pre e2, S.value_Join_1_pre x.first r3] ∧ True)) ∧ (b1 = false → True))
noncomputable def S.value_fold_value_Join_1_L0_run (x : S.value_fold_value_Join_1_L0) : S.value_fold_value_Join_1_L0 := theRun (fun x => x) S.value_fold_value_Join_1_L0_step S.value_fold_value_Join_1_L0_vcs x
/-- value.fold -/
noncomputable def S.value_fold_value_Join_1 (first : S.Value) (l : (List S.Value)) : S.Value :=
  let x1 : S.value_fold_value_Join_1_L0 := (⟨l, (l.length : Int), 0, first⟩ : S.value_fold_value_Join_1_L0)
  let y2 : S.value_fold_value_Join_1_L0 := S.value_fold_value_Join_1_L0_run x1
  y2.first
def S.value_fold_value_Join_1_pre (first : S.Value) (l : (List S.Value)) : Prop :=
  let x1 : S.value_fold_value_Join_1_L0 := (⟨l, (l.length : Int), 0, first⟩ : S.value_fold_value_Join_1_L0)
  (All [Runs S.value_fold_value_Join_1_L0_step S.value_fold_value_Join_1_L0_vcs x1 (S.value_fold_value_Join_1_L0_run x1)] ∧ True)
@[ext] structure S.value_fold_value_Meet_1_L0 where
  t9 : (List S.Value)
  t10 : Int
  t11 : Int
  first : S.Value
noncomputable def S.value_fold_value_Meet_1_L0_step (x : S.value_fold_value_Meet_1_L0) : S.value_fold_value_Meet_1_L0 ⊕ (S.value_fold_value_Meet_1_L0) :=
  let b1 : Bool := decide (x.t11 < x.t10)
  let e2 : S.Value := x.t9.getD (Int.toNat x.t11) (⟨(⟨0, 0⟩ : S.Inter), (⟨0, 0⟩ : S.Cong)⟩ : S.Value)
  let r3 : S.Value := S.value_Value_reduced e2
  let r4 : S.Value := S.value_Meet_1 x.first r3
  let t5 : Int := IntKind.i64.wrap (x.t11 + 1)
  (bif b1 then (.inl ⟨x.t9, x.t10, t5, r4⟩) else (.inr ⟨x.t9, x.t10, x.t11, x.first⟩))
def S.value_fold_value_Meet_1_L0_vcs (x : S.value_fold_value_Meet_1_L0) : Prop :=
  let b1 : Bool := decide (x.t11 < x.t10)
  let e2 : S.Value := x.t9.getD (Int.toNat x.t11) (⟨(⟨0, 0⟩ : S.Inter), (⟨0, 0⟩ : S.Cong)⟩ : S.Value)
  let r3 : S.Value := S.value_Value_reduced e2
  ((b1 = true → (All [(0 : Int) ≤ x.t11, x.t11 < (x.t9.length : Int), S.value_Value_reduced_pre e2, S.value_Meet_1_pre x.first r3] ∧ True)) ∧ (b1 = false → True))
noncomputable def S.value_fold_value_Meet_1_L0_run (x : S.value_fold_value_Meet_1_L0) : S.value_fold_value_Meet_1_L0 := theRun (fun x => x) S.value_fold_value_Meet_1_L0_step S.value_fold_value_Meet_1_L0_vcs x
/-- value.fold -/
noncomputable def S.value_fold_value_Meet_1 (first : S.Value) (l : (List S.Value)) : S.Value :=
  let x1 : S.value_fold_value_Meet_1_L0 := (⟨l, (l.length : Int), 0, first⟩ : S.value_fold_value_Meet_1_L0)
  let y2 : S.value_fold_value_Meet_1_L0 := S.value_fold_value_Meet_1_L0_run x1
  y2.first
def S.value_fold_value_Meet_1_pre (first : S.Value) (l : (List S.Value)) : Prop :=
  let x1 : S.value_fold_value_Meet_1_L0 := (⟨l, (l.length : Int), 0, first⟩ : S.value_fold_value_Meet_1_L0)
  (All [Runs S.value_fold_value_Meet_1_L0_step S.value_fold_value_Meet_1_L0_vcs x1 (S.value_fold_value_Meet_1_L0_run x1)] ∧ True)
/-- value.Join -/
noncomputable def S.value_Join (l : (List S.Value)) : S.Value :=
  let r1 : S.Value := S.value_Bottom
  let r2 : S.Value := S.value_fold_value_Join_1 r1 l
  r2
def S.value_Join_pre (l : (List S.Value)) : Prop :=
  let r1 : S.Value := S.value_Bottom
  (All [S.value_fold_value_Join_1_pre r1 l] ∧ True)
/-- (value.Value).IsBottom -/
def S.value_Value_IsBottom (v : S.Value) : Bool :=
  let r1 : S.Value := S.value_Value_reduced v
  let r2 : S.Value := S.value_Bottom
  let b3 : Bool := ((r1.I.Lo == r2.I.Lo) && ((r1.I.Hi == r2.I.Hi) && ((r1.C.M == r2.C.M) && (r1.C.R == r2.C.R))))
  b3
def S.value_Value_IsBottom_pre (v : S.Value) : Prop :=
  (All [S.value_Value_reduced_pre v] ∧ True)
/-- (cong.Cong).Many -/
def S.cong_Cong_Many (c : S.Cong) (lo : Int) (hi : Int) : Int × Bool :=
  let r1 : Int × Bool := S.cong_Cong_Least c lo
  let r2 : Int × Bool := S.cong_Cong_Greatest c hi
  let b3 : Bool := !r1.2
  let b4 : Bool := !r2.2
  let p5 : Bool := (b3 || b4)
  let b6 : Bool := decide (r1.1 > r2.1)
  let p7 : Bool := (p5 || b6)
  let r8 : Bool := S.cong_Cong_single c
  let t9 : Int := IntKind.u64.wrap r2.1
  let t10 : Int := IntKind.u64.wrap r1.1
  let t11 : Int := IntKind.u64.wrap (t9 - t10)
  let t12 : Int := IntKind.u64.wrap (Int.tdiv t11 c.M)
  let t13 : Int := IntKind.u64.wrap (t12 + 1)
  let b14 : Bool := t12 != 18446744073709551615
  (bif p7 then (0, true) else (bif r8 then (1, true) else (t13, b14)))
def S.cong_Cong_Many_pre (c : S.Cong) (lo : Int) (hi : Int) : Prop :=
  let r1 : Int × Bool := S.cong_Cong_Least c lo
  let r2 : Int × Bool := S.cong_Cong_Greatest c hi
  let b3 : Bool := !r1.2
  let b4 : Bool := !r2.2
  let p5 : Bool := (b3 || b4)
  let b6 : Bool := decide (r1.1 > r2.1)
  let p7 : Bool := (p5 || b6)
  let r8 : Bool := S.cong_Cong_single c
  (All [S.cong_Cong_Least_pre c lo, S.cong_Cong_Greatest_pre c hi] ∧ ((p7 = true → True) ∧ (p7 = false → ((r8 = true → True) ∧ (r8 = false → (All [c.M ≠ 0] ∧ True))))))
/-- (value.Value).Card -/
def S.value_Value_Card (v : S.Value) : Int × Bool :=
  let r1 : S.Value := S.value_Value_reduced v
  let r2 : Bool := S.value_Value_IsBottom r1
  let r3 : Int × Bool := S.cong_Cong_Many r1.C r1.I.Lo r1.I.Hi
  (bif r2 then (0, true) else (r3.1, r3.2))
def S.value_Value_Card_pre (v : S.Value) : Prop :=
  let r1 : S.Value := S.value_Value_reduced v
  let r2 : Bool := S.value_Value_IsBottom r1
  (All [S.value_Value_reduced_pre v, S.value_Value_IsBottom_pre r1] ∧ ((r2 = true → True) ∧ (r2 = false → (All [S.cong_Cong_Many_pre r1.C r1.I.Lo r1.I.Hi] ∧ True))))
/-- value.Range -/
def S.value_Range (lo : Int) (hi : Int) : S.Value :=
  let r1 : S.Inter := S.inter_Of lo hi
  let r2 : S.Cong := S.cong_Top
  let r3 : S.Value := S.value_Make r1 r2
  r3
def S.value_Range_pre (lo : Int) (hi : Int) : Prop :=
  let r1 : S.Inter := S.inter_Of lo hi
  let r2 : S.Cong := S.cong_Top
  (All [S.value_Make_pre r1 r2] ∧ True)
/-- value.Top -/
def S.value_Top : S.Value :=
  let r1 : S.Inter := S.inter_Whole
  let r2 : S.Cong := S.cong_Top
  (⟨r1, r2⟩ : S.Value)
/-- value.Meet -/
noncomputable def S.value_Meet (l : (List S.Value)) : S.Value :=
  let r1 : S.Value := S.value_Top
  let r2 : S.Value := S.value_fold_value_Meet_1 r1 l
  r2
def S.value_Meet_pre (l : (List S.Value)) : Prop :=
  let r1 : S.Value := S.value_Top
  (All [S.value_fold_value_Meet_1_pre r1 l] ∧ True)
/-- (inter.Inter).Single -/
def S.inter_Inter_Single (i : S.Inter) : Int × Bool :=
  let r1 : S.Inter := S.inter_One i.Lo
  let b2 : Bool := !((i.Lo == r1.Lo) && (i.Hi == r1.Hi))
  (bif b2 then (0, false) else (i.Lo, true))
/-- (value.Value).Single -/
def S.value_Value_Single (v : S.Value) : Int × Bool :=
  let r1 : S.Value := S.value_Value_reduced v
  let r2 : Int × Bool := S.inter_Inter_Single r1.I
  (r2.1, r2.2)
def S.value_Value_Single_pre (v : S.Value) : Prop :=
  (All [S.value_Value_reduced_pre v] ∧ True)
/-- math/bits.Len64 -/
def S.math_bits_Len64 (x : Int) : Int :=
  let b1 : Bool := decide (x ≥ 4294967296)
  let t2 : Int := Int.fdiv x (2 ^ min (Int.toNat 32) 64)
  let b3 : Bool := decide ((bif b1 then t2 else x) ≥ 65536)
  let t4 : Int := Int.fdiv (bif b1 then t2 else x) (2 ^ min (Int.toNat 16) 64)
  let t5 : Int := IntKind.i64.wrap ((bif b1 then 32 else 0) + 16)
  let b6 : Bool := decide ((bif b3 then t4 else (bif b1 then t2 else x)) ≥ 256)
  let t7 : Int := Int.fdiv (bif b3 then t4 else (bif b1 then t2 else x)) (2 ^ min (Int.toNat 8) 64)
  let t8 : Int := IntKind.i64.wrap ((bif b3 then t5 else (bif b1 then 32 else 0)) + 8)
  let t9 : Int := IntKind.u8.wrap (bif b6 then t7 else (bif b3 then t4 else (bif b1 then t2 else x)))
  let t10 : Int := (((⟨#[0, 1, 2, 2, 3, 3, 3, 3, 4, 4, 4, 4, 4, 4, 4, 4, 5, 5, 5, 5, 5, 5, 5, 5, 5, 5, 5, 5, 5, 5, 5, 5, 6, 6, 6, 6, 6, 6, 6, 6, 6, 6, 6, 6, 6, 6, 6, 6, 6, 6, 6, 6, 6, 6, 6, 6, 6, 6, 6, 6, 6, 6, 6, 6, 7, 7, 7, 7, 7, 7, 7, 7, 7, 7, 7, 7, 7, 7, 7, 7, 7, 7, 7, 7, 7, 7, 7, 7, 7, 7, 7, 7, 7, 7, 7, 7, 7, 7, 7, 7, 7, 7, 7, 7, 7, 7, 7, 7, 7, 7, 7, 7, 7, 7, 7, 7, 7, 7, 7, 7, 7, 7, 7, 7, 7, 7, 7, 7, 8, 8, 8, 8, 8, 8, 8, 8, 8, 8, 8, 8, 8, 8, 8, 8, 8, 8, 8, 8, 8, 8, 8, 8, 8, 8, 8, 8, 8, 8, 8, 8, 8, 8, 8, 8, 8, 8, 8, 8, 8, 8, 8, 8, 8, 8, 8, 8, 8, 8, 8, 8, 8, 8, 8, 8, 8, 8, 8, 8, 8, 8, 8, 8, 8, 8, 8, 8, 8, 8, 8, 8, 8, 8, 8, 8, 8, 8, 8, 8, 8, 8, 8, 8, 8, 8, 8, 8, 8, 8, 8, 8, 8, 8, 8, 8, 8, 8, 8, 8, 8, 8, 8, 8, 8, 8, 8, 8, 8, 8, 8, 8, 8, 8, 8, 8, 8, 8, 8, 8, 8, 8, 8, 8, 8, 8, 8, 8]⟩ : ByteArray).data.toList.getD (Int.toNat t9) 0).toNat : Int)
  let t11 : Int := IntKind.i64.wrap t10
  let t12 : Int := IntKind.i64.wrap ((bif b6 then t8 else (bif b3 then t5 else (bif b1 then 32 else 0))) + t11)
  t12
def S.math_bits_Len64_pre (x : Int) : Prop :=
  let b1 : Bool := decide (x ≥ 4294967296)
  let t2 : Int := Int.fdiv x (2 ^ min (Int.toNat 32) 64)
  let b3 : Bool := decide ((bif b1 then t2 else x) ≥ 65536)
  let t4 : Int := Int.fdiv (bif b1 then t2 else x) (2 ^ min (Int.toNat 16) 64)
  let b6 : Bool := decide ((bif b3 then t4 else (bif b1 then t2 else x)) ≥ 256)
  let t7 : Int := Int.fdiv (bif b3 then t4 else (bif b1 then t2 else x)) (2 ^ min (Int.toNat 8) 64)
  let t9 : Int := IntKind.u8.wrap (bif b6 then t7 else (bif b3 then t4 else (bif b1 then t2 else x)))
  (All [(0 : Int) ≤ t9, t9 < ((⟨#[0, 1, 2, 2, 3, 3, 3, 3, 4, 4, 4, 4, 4, 4, 4, 4, 5, 5, 5, 5, 5, 5, 5, 5, 5, 5, 5, 5, 5, 5, 5, 5, 6, 6, 6, 6, 6, 6, 6, 6, 6, 6, 6, 6, 6, 6, 6, 6, 6, 6, 6, 6, 6, 6, 6, 6, 6, 6, 6, 6, 6, 6, 6, 6, 7, 7, 7, 7, 7, 7, 7, 7, 7, 7, 7, 7, 7, 7, 7, 7, 7, 7, 7, 7, 7, 7, 7, 7, 7, 7, 7, 7, 7, 7, 7, 7, 7, 7, 7, 7, 7, 7, 7, 7, 7, 7, 7, 7, 7, 7, 7, 7, 7, 7, 7, 7, 7, 7, 7, 7, 7, 7, 7, 7, 7, 7, 7, 7, 8, 8, 8, 8, 8, 8, 8, 8, 8, 8, 8, 8, 8, 8, 8, 8, 8, 8, 8, 8, 8, 8, 8, 8, 8, 8, 8, 8, 8, 8, 8, 8, 8, 8, 8, 8, 8, 8, 8, 8, 8, 8, 8, 8, 8, 8, 8, 8, 8, 8, 8, 8, 8, 8, 8, 8, 8, 8, 8, 8, 8, 8, 8, 8, 8, 8, 8, 8, 8, 8, 8, 8, 8, 8, 8, 8, 8, 8, 8, 8, 8, 8, 8, 8, 8, 8, 8, 8, 8, 8, 8, 8, 8, 8, 8, 8, 8, 8, 8, 8, 8, 8, 8, 8, 8, 8, 8, 8, 8, 8, 8, 8, 8, 8, 8, 8, 8, 8, 8, 8, 8, 8, 8, 8, 8, 8, 8, 8]⟩ : ByteArray).size : Int)] ∧ True)
/-- internal/strconv.log10Pow2 -/
def S.internal_strconv_log10Pow2 (x : Int) : Int :=
  let t1 : Int := IntKind.i64.wrap (x * 78913)
  let t2 : Int := Int.fdiv t1 (2 ^ min (Int.toNat 18) 64)
  t2
/-- internal/strconv.bool2[int] -/
def S.internal_strconv_bool2int (b : Bool) : Int :=
  (bif b then 1 else 0)
/-- internal/strconv.isPowerOfTwo -/
def S.internal_strconv_isPowerOfTwo (x : Int) : Bool :=
  let t1 : Int := IntKind.i64.wrap (x - 1)
  let t2 : Int := bits .and .i64 x t1
  let b3 : Bool := t2 == 0
  b3
/-- strconv.FormatInt -/
def S.strconv_FormatInt (i : Int) (base : Int) : ByteArray :=
  let r1 : ByteArray := fmtI i base
  r1
def S.strconv_FormatInt_pre (i : Int) (base : Int) : Prop :=
  (All [fmtI_pre i base] ∧ True)
/-- strconv.FormatUint -/
def S.strconv_FormatUint (i : Int) (base : Int) : ByteArray :=
  let r1 : ByteArray := fmtU i base
  r1
def S.strconv_FormatUint_pre (i : Int) (base : Int) : Prop :=
  (All [fmtU_pre i base] ∧ True)
/-- (value.Value).Text -/
def S.value_Value_Text (v : S.Value) : ByteArray :=
  let r1 : S.Value := S.value_Value_reduced v
  let r2 : Bool := S.value_Value_IsBottom r1
  let r3 : Int × Bool := S.value_Value_Single r1
  let r4 : ByteArray := S.strconv_FormatInt r3.1 10
  let r5 : ByteArray := S.strconv_FormatInt r1.I.Lo 10
  let s6 : ByteArray := (⟨#[91]⟩ : ByteArray) ++ r5
  let s7 : ByteArray := s6 ++ (⟨#[44, 32]⟩ : ByteArray)
  let r8 : ByteArray := S.strconv_FormatInt r1.I.Hi 10
  let s9 : ByteArray := s7 ++ r8
  let s10 : ByteArray := s9 ++ (⟨#[93]⟩ : ByteArray)
  let b11 : Bool := decide (r1.C.M > 1)
  let r12 : ByteArray := S.strconv_FormatUint r1.C.R 10
  let s13 : ByteArray := (⟨#[32]⟩ : ByteArray) ++ r12
  let s14 : ByteArray := s13 ++ (⟨#[32, 109, 111, 100, 32]⟩ : ByteArray)
  let r15 : ByteArray := S.strconv_FormatUint r1.C.M 10
  let s16 : ByteArray := s14 ++ r15
  let s17 : ByteArray := s10 ++ s16
  (bif r2 then (⟨#[110, 111, 110, 101]⟩ : ByteArray) else (bif r3.2 then r4 else (bif b11 then s17 else s10)))
def S.value_Value_Text_pre (v : S.Value) : Prop :=
  let r1 : S.Value := S.value_Value_reduced v
  let r2 : Bool := S.value_Value_IsBottom r1
  let r3 : Int × Bool := S.value_Value_Single r1
  let r5 : ByteArray := S.strconv_FormatInt r1.I.Lo 10
  let s6 : ByteArray := (⟨#[91]⟩ : ByteArray) ++ r5
  let s7 : ByteArray := s6 ++ (⟨#[44, 32]⟩ : ByteArray)
  let r8 : ByteArray := S.strconv_FormatInt r1.I.Hi 10
  let s9 : ByteArray := s7 ++ r8
  let s10 : ByteArray := s9 ++ (⟨#[93]⟩ : ByteArray)
  let b11 : Bool := decide (r1.C.M > 1)
  let r12 : ByteArray := S.strconv_FormatUint r1.C.R 10
  let s13 : ByteArray := (⟨#[32]⟩ : ByteArray) ++ r12
  let s14 : ByteArray := s13 ++ (⟨#[32, 109, 111, 100, 32]⟩ : ByteArray)
  let r15 : ByteArray := S.strconv_FormatUint r1.C.M 10
  let s16 : ByteArray := s14 ++ r15
  (All [S.value_Value_reduced_pre v, S.value_Value_IsBottom_pre r1] ∧ ((r2 = true → True) ∧ (r2 = false → (All [S.value_Value_Single_pre r1] ∧ ((r3.2 = true → (All [S.strconv_FormatInt_pre r3.1 10] ∧ True)) ∧ (r3.2 = false → (All [S.strconv_FormatInt_pre r1.I.Lo 10, (((⟨#[91]⟩ : ByteArray).size + r5.size : Nat) : Int) ≤ IntKind.i64.max, ((s6.size + (⟨#[44, 32]⟩ : ByteArray).size : Nat) : Int) ≤ IntKind.i64.max, S.strconv_FormatInt_pre r1.I.Hi 10, ((s7.size + r8.size : Nat) : Int) ≤ IntKind.i64.max, ((s9.size + (⟨#[93]⟩ : ByteArray).size : Nat) : Int) ≤ IntKind.i64.max, (b11 = true → (S.strconv_FormatUint_pre r1.C.R 10 ∧ (((⟨#[32]⟩ : ByteArray).size + r12.size : Nat) : Int) ≤ IntKind.i64.max ∧ ((s13.size + (⟨#[32, 109, 111, 100, 32]⟩ : ByteArray).size : Nat) : Int) ≤ IntKind.i64.max ∧ S.strconv_FormatUint_pre r1.C.M 10 ∧ ((s14.size + r15.size : Nat) : Int) ≤ IntKind.i64.max ∧ ((s10.size + s16.size : Nat) : Int) ≤ IntKind.i64.max))] ∧ True)))))))
/-- sieveholeslaw21.works -/
noncomputable def S.law21_works : Bool :=
  let r1 : S.Inter := S.inter_Of 1 10
  let r2 : S.Cong := S.cong_Make 4 0
  let r3 : S.Value := S.value_Make r1 r2
  let r4 : S.Inter := S.inter_Of 5 7
  let r5 : S.Cong := S.cong_Make 4 0
  let r6 : S.Value := S.value_Make r4 r5
  let r7 : S.Value := S.value_One 2
  let r8 : S.Value := S.value_One 8
  let r9 : S.Value := S.value_Join ([r7, r8] : List S.Value)
  let r10 : Int × Bool := S.value_Value_Card r9
  let r11 : S.Value := S.value_Range 3 9
  let r12 : S.Value := S.value_Meet ([r9, r11] : List S.Value)
  let r13 : Int × Bool := S.value_Value_Single r12
  let r14 : ByteArray := S.value_Value_Text r3
  let b15 : Bool := (r14.toList == (⟨#[91, 52, 44, 32, 56, 93, 32, 48, 32, 109, 111, 100, 32, 52]⟩ : ByteArray).toList)
  let r16 : Bool := S.value_Value_IsBottom r6
  let p17 : Bool := (b15 && r16)
  let r18 : ByteArray := S.value_Value_Text r6
  let b19 : Bool := (r18.toList == (⟨#[110, 111, 110, 101]⟩ : ByteArray).toList)
  let p20 : Bool := (p17 && b19)
  let r21 : ByteArray := S.value_Value_Text r9
  let b22 : Bool := (r21.toList == (⟨#[91, 50, 44, 32, 56, 93, 32, 50, 32, 109, 111, 100, 32, 54]⟩ : ByteArray).toList)
  let p23 : Bool := (p20 && b22)
  let b24 : Bool := r10.1 == 2
  let p25 : Bool := (p23 && b24)
  let p26 : Bool := (p25 && r10.2)
  let b27 : Bool := r13.1 == 8
  let p28 : Bool := (p26 && b27)
  let p29 : Bool := (p28 && r13.2)
  let r30 : S.Value := S.value_Range 0 9
  let r31 : ByteArray := S.value_Value_Text r30
  let b32 : Bool := (r31.toList == (⟨#[91, 48, 44, 32, 57, 93]⟩ : ByteArray).toList)
  let p33 : Bool := (p29 && b32)
  p33
def S.law21_works_pre : Prop :=
  let r1 : S.Inter := S.inter_Of 1 10
  let r2 : S.Cong := S.cong_Make 4 0
  let r3 : S.Value := S.value_Make r1 r2
  let r4 : S.Inter := S.inter_Of 5 7
  let r5 : S.Cong := S.cong_Make 4 0
  let r6 : S.Value := S.value_Make r4 r5
  let r7 : S.Value := S.value_One 2
  let r8 : S.Value := S.value_One 8
  let r9 : S.Value := S.value_Join ([r7, r8] : List S.Value)
  let r10 : Int × Bool := S.value_Value_Card r9
  let r11 : S.Value := S.value_Range 3 9
  let r12 : S.Value := S.value_Meet ([r9, r11] : List S.Value)
  let r13 : Int × Bool := S.value_Value_Single r12
  let r14 : ByteArray := S.value_Value_Text r3
  let b15 : Bool := (r14.toList == (⟨#[91, 52, 44, 32, 56, 93, 32, 48, 32, 109, 111, 100, 32, 52]⟩ : ByteArray).toList)
  let r16 : Bool := S.value_Value_IsBottom r6
  let p17 : Bool := (b15 && r16)
  let r18 : ByteArray := S.value_Value_Text r6
  let b19 : Bool := (r18.toList == (⟨#[110, 111, 110, 101]⟩ : ByteArray).toList)
  let p20 : Bool := (p17 && b19)
  let r21 : ByteArray := S.value_Value_Text r9
  let b22 : Bool := (r21.toList == (⟨#[91, 50, 44, 32, 56, 93, 32, 50, 32, 109, 111, 100, 32, 54]⟩ : ByteArray).toList)
  let p23 : Bool := (p20 && b22)
  let b24 : Bool := r10.1 == 2
  let p25 : Bool := (p23 && b24)
  let p26 : Bool := (p25 && r10.2)
  let b27 : Bool := r13.1 == 8
  let p28 : Bool := (p26 && b27)
  let p29 : Bool := (p28 && r13.2)
  let r30 : S.Value := S.value_Range 0 9
  (All [S.cong_Make_pre 4 0, S.value_Make_pre r1 r2, S.cong_Make_pre 4 0, S.value_Make_pre r4 r5, S.value_Join_pre ([r7, r8] : List S.Value), S.value_Value_Card_pre r9, S.value_Range_pre 3 9, S.value_Meet_pre ([r9, r11] : List S.Value), S.value_Value_Single_pre r12, S.value_Value_Text_pre r3, (b15 = true → S.value_Value_IsBottom_pre r6), (p17 = true → S.value_Value_Text_pre r6), (p20 = true → S.value_Value_Text_pre r9), (p29 = true → S.value_Range_pre 0 9), (p29 = true → S.value_Value_Text_pre r30)] ∧ True)
/-- (inter.Inter).Has -/
def S.inter_Inter_Has (i : S.Inter) (n : Int) : Bool :=
  let b1 : Bool := decide (i.Lo ≤ n)
  let b2 : Bool := decide (n ≤ i.Hi)
  let p3 : Bool := (b1 && b2)
  p3
/-- inter.Within -/
def S.inter_Within (a : S.Inter) (b : S.Inter) : Bool :=
  let r1 : Bool := S.inter_Inter_IsEmpty a
  let r2 : Bool := S.inter_Inter_Has b a.Lo
  let r3 : Bool := S.inter_Inter_Has b a.Hi
  let p4 : Bool := (r2 && r3)
  let p5 : Bool := (r1 || p4)
  p5
/-- value.Within -/
def S.value_Within (a : S.Value) (b : S.Value) : Bool :=
  let r1 : S.Value := S.value_Value_reduced a
  let r2 : S.Value := S.value_Value_reduced b
  let r3 : S.Value := S.value_Bottom
  let b4 : Bool := ((r1.I.Lo == r3.I.Lo) && ((r1.I.Hi == r3.I.Hi) && ((r1.C.M == r3.C.M) && (r1.C.R == r3.C.R))))
  let r5 : Bool := S.inter_Within r1.I r2.I
  let r6 : Bool := S.cong_Within r1.C r2.C
  let p7 : Bool := (r5 && r6)
  let p8 : Bool := (b4 || p7)
  p8
def S.value_Within_pre (a : S.Value) (b : S.Value) : Prop :=
  let r1 : S.Value := S.value_Value_reduced a
  let r2 : S.Value := S.value_Value_reduced b
  let r3 : S.Value := S.value_Bottom
  let b4 : Bool := ((r1.I.Lo == r3.I.Lo) && ((r1.I.Hi == r3.I.Hi) && ((r1.C.M == r3.C.M) && (r1.C.R == r3.C.R))))
  let r5 : Bool := S.inter_Within r1.I r2.I
  (All [S.value_Value_reduced_pre a, S.value_Value_reduced_pre b, (b4 = false → (r5 = true → S.cong_Within_pre r1.C r2.C))] ∧ True)
/-- (value.Value).Has -/
def S.value_Value_Has (v : S.Value) (n : Int) : Bool :=
  let r1 : S.Value := S.value_One n
  let r2 : Bool := S.value_Within r1 v
  r2
def S.value_Value_Has_pre (v : S.Value) (n : Int) : Prop :=
  let r1 : S.Value := S.value_One n
  (All [S.value_Within_pre r1 v] ∧ True)
/-- value.Same -/
def S.value_Same (a : S.Value) (b : S.Value) : Bool :=
  let r1 : S.Value := S.value_Value_reduced a
  let r2 : S.Value := S.value_Value_reduced b
  let b3 : Bool := ((r1.I.Lo == r2.I.Lo) && ((r1.I.Hi == r2.I.Hi) && ((r1.C.M == r2.C.M) && (r1.C.R == r2.C.R))))
  b3
def S.value_Same_pre (a : S.Value) (b : S.Value) : Prop :=
  (All [S.value_Value_reduced_pre a, S.value_Value_reduced_pre b] ∧ True)
/-- inter.Narrow -/
def S.inter_Narrow (a : S.Inter) (b : S.Inter) : S.Inter :=
  let r1 : Bool := S.inter_Inter_IsEmpty a
  let r2 : Bool := S.inter_Inter_IsEmpty b
  let p3 : Bool := (r1 || r2)
  let r4 : S.Inter := S.inter_Empty
  let b5 : Bool := a.Lo == (-9223372036854775808)
  let b6 : Bool := a.Hi == 9223372036854775807
  let r7 : S.Inter := S.inter_Inter_plain (⟨(bif b5 then b.Lo else a.Lo), (bif b6 then b.Hi else a.Hi)⟩ : S.Inter)
  (bif p3 then r4 else r7)
/-- value.Narrow -/
noncomputable def S.value_Narrow (a : S.Value) (b : S.Value) : S.Value :=
  let r1 : S.Value := S.value_Value_reduced a
  let r2 : S.Value := S.value_Value_reduced b
  let r3 : S.Cong × Bool := S.cong_Meet r1.C r2.C
  let b4 : Bool := !r3.2
  let r5 : S.Value := S.value_Bottom
  let r6 : S.Inter := S.inter_Narrow r1.I r2.I
  let r7 : S.Value := S.value_Make r6 r3.1
  (bif b4 then r5 else r7)
def S.value_Narrow_pre (a : S.Value) (b : S.Value) : Prop :=
  let r1 : S.Value := S.value_Value_reduced a
  let r2 : S.Value := S.value_Value_reduced b
  let r3 : S.Cong × Bool := S.cong_Meet r1.C r2.C
  let b4 : Bool := !r3.2
  let r6 : S.Inter := S.inter_Narrow r1.I r2.I
  (All [S.value_Value_reduced_pre a, S.value_Value_reduced_pre b, S.cong_Meet_pre r1.C r2.C] ∧ ((b4 = true → True) ∧ (b4 = false → (All [S.value_Make_pre r6 r3.1] ∧ True))))
/-- inter.Widen -/
noncomputable def S.inter_Widen (a : S.Inter) (b : S.Inter) : S.Inter :=
  let r1 : S.Inter := S.inter_Join ([a, b] : List S.Inter)
  let r2 : Bool := S.inter_Inter_IsEmpty a
  let b3 : Bool := decide (r1.Lo < a.Lo)
  let b4 : Bool := decide (r1.Hi > a.Hi)
  (bif r2 then r1 else (⟨(bif b3 then (-9223372036854775808) else r1.Lo), (bif b4 then 9223372036854775807 else r1.Hi)⟩ : S.Inter))
def S.inter_Widen_pre (a : S.Inter) (b : S.Inter) : Prop :=
  let r2 : Bool := S.inter_Inter_IsEmpty a
  (All [S.inter_Join_pre ([a, b] : List S.Inter)] ∧ ((r2 = true → True) ∧ (r2 = false → True)))
/-- value.Widen -/
noncomputable def S.value_Widen (a : S.Value) (b : S.Value) : S.Value :=
  let r1 : S.Value := S.value_Value_reduced a
  let r2 : S.Value := S.value_Value_reduced b
  let r3 : S.Value := S.value_Bottom
  let b4 : Bool := ((r1.I.Lo == r3.I.Lo) && ((r1.I.Hi == r3.I.Hi) && ((r1.C.M == r3.C.M) && (r1.C.R == r3.C.R))))
  let r5 : S.Value := S.value_Bottom
  let b6 : Bool := ((r2.I.Lo == r5.I.Lo) && ((r2.I.Hi == r5.I.Hi) && ((r2.C.M == r5.C.M) && (r2.C.R == r5.C.R))))
  let p7 : Bool := (b4 || b6)
  let r8 : S.Value := S.value_Join ([r1, r2] : List S.Value)
  let r9 : S.Inter := S.inter_Widen r1.I r2.I
  let r10 : S.Cong := S.cong_Join r1.C r2.C
  let r11 : S.Value := S.value_Make r9 r10
  (bif p7 then r8 else r11)
def S.value_Widen_pre (a : S.Value) (b : S.Value) : Prop :=
  let r1 : S.Value := S.value_Value_reduced a
  let r2 : S.Value := S.value_Value_reduced b
  let r3 : S.Value := S.value_Bottom
  let b4 : Bool := ((r1.I.Lo == r3.I.Lo) && ((r1.I.Hi == r3.I.Hi) && ((r1.C.M == r3.C.M) && (r1.C.R == r3.C.R))))
  let r5 : S.Value := S.value_Bottom
  let b6 : Bool := ((r2.I.Lo == r5.I.Lo) && ((r2.I.Hi == r5.I.Hi) && ((r2.C.M == r5.C.M) && (r2.C.R == r5.C.R))))
  let p7 : Bool := (b4 || b6)
  let r9 : S.Inter := S.inter_Widen r1.I r2.I
  let r10 : S.Cong := S.cong_Join r1.C r2.C
  (All [S.value_Value_reduced_pre a, S.value_Value_reduced_pre b] ∧ ((p7 = true → (All [S.value_Join_pre ([r1, r2] : List S.Value)] ∧ True)) ∧ (p7 = false → (All [S.inter_Widen_pre r1.I r2.I, S.cong_Join_pre r1.C r2.C, S.value_Make_pre r9 r10] ∧ True))))
/-- (value.Value).Some -/
def S.value_Value_Some (v : S.Value) (most : Int) : List Int :=
  let r := S.value_Value_reduced v
  bif S.value_Value_IsBottom r then [] else (List.range (min most.toNat ((r.I.Hi - r.I.Lo) / r.C.M + 1).toNat)).map fun (j : Nat) => r.I.Lo + (j : Int) * r.C.M
def S.value_Value_Some_pre (v : S.Value) (most : Int) : Prop :=
  let r := S.value_Value_reduced v
  S.value_Value_reduced_pre v ∧ S.value_Value_IsBottom_pre r ∧ most ≤ 1000000 ∧ (S.value_Value_IsBottom r = false → ∃ k : Nat, r.I.Lo + (k : Int) * r.C.M = r.I.Hi ∧ -9223372036854775808 ≤ r.I.Lo ∧ r.I.Hi ≤ 9223372036854775807 ∧ 0 ≤ r.C.M ∧ r.C.M < 18446744073709551616 ∧ (r.C.M = 0 → k = 0))
@[ext] structure S.law21_ValueLattice_L0 where
  t8 : Bool
  some : (List Int)
  i : Int
  a : S.Value
def S.law21_ValueLattice_L0_step (x : S.law21_ValueLattice_L0) : S.law21_ValueLattice_L0 ⊕ (Bool × S.law21_ValueLattice_L0) :=
  let b1 : Bool := decide (x.i < (x.some.length : Int))
  let e2 : Int := x.some.getD (Int.toNat x.i) 0
  let r3 : Bool := S.value_Value_Has x.a e2
  let b4 : Bool := !r3
  let b5 : Bool := decide (x.i > 0)
  let e6 : Int := x.some.getD (Int.toNat x.i) 0
  let t7 : Int := IntKind.i64.wrap (x.i - 1)
  let e8 : Int := x.some.getD (Int.toNat t7) 0
  let b9 : Bool := decide (e6 ≤ e8)
  let p10 : Bool := (b5 && b9)
  let p11 : Bool := (b4 || p10)
  let t12 : Int := IntKind.i64.wrap (x.i + 1)
  (bif b1 then (bif p11 then (.inr ⟨true, ⟨false, x.some, x.i, x.a⟩⟩) else (.inl ⟨x.t8, x.some, t12, x.a⟩)) else (.inr ⟨false, ⟨x.t8, x.some, x.i, x.a⟩⟩))
def S.law21_ValueLattice_L0_vcs (x : S.law21_ValueLattice_L0) : Prop :=
  let b1 : Bool := decide (x.i < (x.some.length : Int))
  let e2 : Int := x.some.getD (Int.toNat x.i) 0
  let r3 : Bool := S.value_Value_Has x.a e2
  let b4 : Bool := !r3
  let b5 : Bool := decide (x.i > 0)
  let e6 : Int := x.some.getD (Int.toNat x.i) 0
  let t7 : Int := IntKind.i64.wrap (x.i - 1)
  let e8 : Int := x.some.getD (Int.toNat t7) 0
  let b9 : Bool := decide (e6 ≤ e8)
  let p10 : Bool := (b5 && b9)
  let p11 : Bool := (b4 || p10)
  ((b1 = true → (All [(0 : Int) ≤ x.i, x.i < (x.some.length : Int), S.value_Value_Has_pre x.a e2, (b4 = false → (b5 = true → ((0 : Int) ≤ x.i ∧ x.i < (x.some.length : Int)))), (b4 = false → (b5 = true → ((0 : Int) ≤ t7 ∧ t7 < (x.some.length : Int))))] ∧ ((p11 = true → True) ∧ (p11 = false → True)))) ∧ (b1 = false → True))
noncomputable def S.law21_ValueLattice_L0_run (x : S.law21_ValueLattice_L0) : Bool × S.law21_ValueLattice_L0 := theRun (fun x => ⟨true, x⟩) S.law21_ValueLattice_L0_step S.law21_ValueLattice_L0_vcs x
@[ext] structure S.law21_ValueLattice_L2 where
  l : (List S.Value)
  i : Int
  vx : S.Value
noncomputable def S.law21_ValueLattice_L2_step (x : S.law21_ValueLattice_L2) : S.law21_ValueLattice_L2 ⊕ (S.law21_ValueLattice_L2) :=
  let b1 : Bool := decide (x.i < 400)
  let b2 : Bool := decide ((x.l.length : Int) > 0)
  let t3 : Int := Int.tmod x.i (x.l.length : Int)
  let e4 : S.Value := x.l.getD (Int.toNat t3) (⟨(⟨0, 0⟩ : S.Inter), (⟨0, 0⟩ : S.Cong)⟩ : S.Value)
  let r5 : S.Value := S.value_Widen x.vx e4
  let t6 : Int := IntKind.i64.wrap (x.i + 1)
  (bif b1 then (.inl ⟨x.l, t6, (⟨(⟨(bif b2 then r5.I.Lo else x.vx.I.Lo), (bif b2 then r5.I.Hi else x.vx.I.Hi)⟩ : S.Inter), (⟨(bif b2 then r5.C.M else x.vx.C.M), (bif b2 then r5.C.R else x.vx.C.R)⟩ : S.Cong)⟩ : S.Value)⟩) else (.inr ⟨x.l, x.i, x.vx⟩))
def S.law21_ValueLattice_L2_vcs (x : S.law21_ValueLattice_L2) : Prop :=
  let b1 : Bool := decide (x.i < 400)
  let b2 : Bool := decide ((x.l.length : Int) > 0)
  let t3 : Int := Int.tmod x.i (x.l.length : Int)
  let e4 : S.Value := x.l.getD (Int.toNat t3) (⟨(⟨0, 0⟩ : S.Inter), (⟨0, 0⟩ : S.Cong)⟩ : S.Value)
  ((b1 = true → (All [(b2 = true → ((x.l.length : Int) ≠ 0 ∧ (0 : Int) ≤ t3 ∧ t3 < (x.l.length : Int) ∧ S.value_Widen_pre x.vx e4))] ∧ True)) ∧ (b1 = false → True))
noncomputable def S.law21_ValueLattice_L2_run (x : S.law21_ValueLattice_L2) : S.law21_ValueLattice_L2 := theRun (fun x => x) S.law21_ValueLattice_L2_step S.law21_ValueLattice_L2_vcs x
@[ext] structure S.law21_ValueLattice_L4 where
  l : (List S.Value)
  t8 : Bool
  i : Int
  vx : S.Value
noncomputable def S.law21_ValueLattice_L4_step (x : S.law21_ValueLattice_L4) : S.law21_ValueLattice_L4 ⊕ (Bool × S.law21_ValueLattice_L4) :=
  let b1 : Bool := decide (x.i < (x.l.length : Int))
  let e2 : S.Value := x.l.getD (Int.toNat x.i) (⟨(⟨0, 0⟩ : S.Inter), (⟨0, 0⟩ : S.Cong)⟩ : S.Value)
  let r3 : S.Value := S.value_Widen x.vx e2
  let r4 : Bool := S.value_Same r3 x.vx
  let b5 : Bool := !r4
  let e6 : S.Value := x.l.getD (Int.toNat x.i) (⟨(⟨0, 0⟩ : S.Inter), (⟨0, 0⟩ : S.Cong)⟩ : S.Value)
  let r7 : Bool := S.value_Within e6 x.vx
  let b8 : Bool := !r7
  let p9 : Bool := (b5 || b8)
  let t10 : Int := IntKind.i64.wrap (x.i + 1)
  (bif b1 then (bif p9 then (.inr ⟨true, ⟨x.l, false, x.i, x.vx⟩⟩) else (.inl ⟨x.l, x.t8, t10, x.vx⟩)) else (.inr ⟨false, ⟨x.l, x.t8, x.i, x.vx⟩⟩))
noncomputable def S.law21_ValueLattice_L4_vcs (x : S.law21_ValueLattice_L4) : Prop :=
  let b1 : Bool := decide (x.i < (x.l.length : Int))
  let e2 : S.Value := x.l.getD (Int.toNat x.i) (⟨(⟨0, 0⟩ : S.Inter), (⟨0, 0⟩ : S.Cong)⟩ : S.Value)
  let r3 : S.Value := S.value_Widen x.vx e2
  let r4 : Bool := S.value_Same r3 x.vx
  let b5 : Bool := !r4
  let e6 : S.Value := x.l.getD (Int.toNat x.i) (⟨(⟨0, 0⟩ : S.Inter), (⟨0, 0⟩ : S.Cong)⟩ : S.Value)
  let r7 : Bool := S.value_Within e6 x.vx
  let b8 : Bool := !r7
  let p9 : Bool := (b5 || b8)
  ((b1 = true → (All [(0 : Int) ≤ x.i, x.i < (x.l.length : Int), S.value_Widen_pre x.vx e2, S.value_Same_pre r3 x.vx, (b5 = false → ((0 : Int) ≤ x.i ∧ x.i < (x.l.length : Int))), (b5 = false → S.value_Within_pre e6 x.vx)] ∧ ((p9 = true → True) ∧ (p9 = false → True)))) ∧ (b1 = false → True))
noncomputable def S.law21_ValueLattice_L4_run (x : S.law21_ValueLattice_L4) : Bool × S.law21_ValueLattice_L4 := theRun (fun x => ⟨true, x⟩) S.law21_ValueLattice_L4_step S.law21_ValueLattice_L4_vcs x
/-- sieveholeslaw21.ValueLattice -/
noncomputable def S.law21_ValueLattice (a : S.Value) (b : S.Value) (n : Int) (l : (List S.Value)) : Bool :=
  let b1 : Bool := decide ((l.length : Int) > 12)
  let r2 : Bool := S.law21_works
  let r3 : S.Value := S.value_Join ([a, b] : List S.Value)
  let r4 : S.Value := S.value_Meet ([a, b] : List S.Value)
  let r5 : Bool := S.value_Value_Has a n
  let r6 : Bool := S.value_Value_Has b n
  let p7 : Bool := (r5 || r6)
  let r8 : Bool := S.value_Value_Has r3 n
  let b9 : Bool := !r8
  let p10 : Bool := (p7 && b9)
  let r11 : Bool := S.value_Value_Has a n
  let r12 : Bool := S.value_Value_Has b n
  let p13 : Bool := (r11 && r12)
  let r14 : Bool := S.value_Value_Has r4 n
  let b15 : Bool := !r14
  let p16 : Bool := (p13 && b15)
  let p17 : Bool := (p10 || p16)
  let r18 : Bool := S.value_Within a b
  let r19 : Bool := S.value_Value_Has a n
  let p20 : Bool := (r18 && r19)
  let r21 : Bool := S.value_Value_Has b n
  let b22 : Bool := !r21
  let p23 : Bool := (p20 && b22)
  let p24 : Bool := (p17 || p23)
  let r25 : Bool := S.value_Within a b
  let r26 : Bool := S.value_Same r3 b
  let b27 : Bool := !(r25 == r26)
  let p28 : Bool := (p24 || b27)
  let r29 : Bool := S.value_Within a r3
  let b30 : Bool := !r29
  let p31 : Bool := (p28 || b30)
  let r32 : Bool := S.value_Within r4 r3
  let b33 : Bool := !r32
  let p34 : Bool := (p31 || b33)
  let r35 : Bool := S.value_Same a b
  let r36 : Bool := S.value_Within a b
  let r37 : Bool := S.value_Within b a
  let p38 : Bool := (r36 && r37)
  let b39 : Bool := !(r35 == p38)
  let r40 : S.Value := S.value_Join ([b, a] : List S.Value)
  let r41 : Bool := S.value_Same r3 r40
  let b42 : Bool := !r41
  let p43 : Bool := (b39 || b42)
  let r44 : Bool := S.value_Value_Has a n
  let r45 : Bool := S.value_Value_Has b n
  let p46 : Bool := (r44 && r45)
  let r47 : S.Value := S.value_Narrow a b
  let r48 : Bool := S.value_Value_Has r47 n
  let b49 : Bool := !r48
  let p50 : Bool := (p46 && b49)
  let p51 : Bool := (p43 || p50)
  let r52 : S.Value := S.value_Widen a b
  let r53 : Bool := S.value_Within r3 r52
  let b54 : Bool := !r53
  let p55 : Bool := (p51 || b54)
  let r56 : Int × Bool := S.value_Value_Card a
  let r57 : (List Int) := S.value_Value_Some a 20
  let b58 : Bool := decide (r56.1 ≤ 20)
  let p59 : Bool := (r56.2 && b58)
  let t60 : Int := IntKind.i64.wrap r56.1
  let b61 : Bool := (r57.length : Int) != t60
  let p62 : Bool := (p59 && b61)
  let b63 : Bool := !r56.2
  let b64 : Bool := decide (r56.1 > 20)
  let p65 : Bool := (b63 || b64)
  let b66 : Bool := (r57.length : Int) != 20
  let p67 : Bool := (p65 && b66)
  let p68 : Bool := (p62 || p67)
  let x69 : S.law21_ValueLattice_L0 := (⟨false, r57, 0, a⟩ : S.law21_ValueLattice_L0)
  let y70 : Bool × S.law21_ValueLattice_L0 := S.law21_ValueLattice_L0_run x69
  let x71 : S.law21_ValueLattice_L2 := (⟨l, 0, y70.2.a⟩ : S.law21_ValueLattice_L2)
  let y72 : S.law21_ValueLattice_L2 := S.law21_ValueLattice_L2_run x71
  let x73 : S.law21_ValueLattice_L4 := (⟨y72.l, y70.2.t8, 0, y72.vx⟩ : S.law21_ValueLattice_L4)
  let y74 : Bool × S.law21_ValueLattice_L4 := S.law21_ValueLattice_L4_run x73
  let r75 : Bool := S.law21_works
  (bif b1 then r2 else (bif p34 then false else (bif p55 then false else (bif p68 then false else (bif y70.1 then y70.2.t8 else (bif y74.1 then y74.2.t8 else r75))))))
def S.law21_ValueLattice_pre (a : S.Value) (b : S.Value) (n : Int) (l : (List S.Value)) : Prop :=
  let b1 : Bool := decide ((l.length : Int) > 12)
  let r3 : S.Value := S.value_Join ([a, b] : List S.Value)
  let r4 : S.Value := S.value_Meet ([a, b] : List S.Value)
  let r5 : Bool := S.value_Value_Has a n
  let r6 : Bool := S.value_Value_Has b n
  let p7 : Bool := (r5 || r6)
  let r8 : Bool := S.value_Value_Has r3 n
  let b9 : Bool := !r8
  let p10 : Bool := (p7 && b9)
  let r11 : Bool := S.value_Value_Has a n
  let r12 : Bool := S.value_Value_Has b n
  let p13 : Bool := (r11 && r12)
  let r14 : Bool := S.value_Value_Has r4 n
  let b15 : Bool := !r14
  let p16 : Bool := (p13 && b15)
  let p17 : Bool := (p10 || p16)
  let r18 : Bool := S.value_Within a b
  let r19 : Bool := S.value_Value_Has a n
  let p20 : Bool := (r18 && r19)
  let r21 : Bool := S.value_Value_Has b n
  let b22 : Bool := !r21
  let p23 : Bool := (p20 && b22)
  let p24 : Bool := (p17 || p23)
  let r25 : Bool := S.value_Within a b
  let r26 : Bool := S.value_Same r3 b
  let b27 : Bool := !(r25 == r26)
  let p28 : Bool := (p24 || b27)
  let r29 : Bool := S.value_Within a r3
  let b30 : Bool := !r29
  let p31 : Bool := (p28 || b30)
  let r32 : Bool := S.value_Within r4 r3
  let b33 : Bool := !r32
  let p34 : Bool := (p31 || b33)
  let r35 : Bool := S.value_Same a b
  let r36 : Bool := S.value_Within a b
  let r37 : Bool := S.value_Within b a
  let p38 : Bool := (r36 && r37)
  let b39 : Bool := !(r35 == p38)
  let r40 : S.Value := S.value_Join ([b, a] : List S.Value)
  let r41 : Bool := S.value_Same r3 r40
  let b42 : Bool := !r41
  let p43 : Bool := (b39 || b42)
  let r44 : Bool := S.value_Value_Has a n
  let r45 : Bool := S.value_Value_Has b n
  let p46 : Bool := (r44 && r45)
  let r47 : S.Value := S.value_Narrow a b
  let r48 : Bool := S.value_Value_Has r47 n
  let b49 : Bool := !r48
  let p50 : Bool := (p46 && b49)
  let p51 : Bool := (p43 || p50)
  let r52 : S.Value := S.value_Widen a b
  let r53 : Bool := S.value_Within r3 r52
  let b54 : Bool := !r53
  let p55 : Bool := (p51 || b54)
  let r56 : Int × Bool := S.value_Value_Card a
  let r57 : (List Int) := S.value_Value_Some a 20
  let b58 : Bool := decide (r56.1 ≤ 20)
  let p59 : Bool := (r56.2 && b58)
  let t60 : Int := IntKind.i64.wrap r56.1
  let b61 : Bool := (r57.length : Int) != t60
  let p62 : Bool := (p59 && b61)
  let b63 : Bool := !r56.2
  let b64 : Bool := decide (r56.1 > 20)
  let p65 : Bool := (b63 || b64)
  let b66 : Bool := (r57.length : Int) != 20
  let p67 : Bool := (p65 && b66)
  let p68 : Bool := (p62 || p67)
  let x69 : S.law21_ValueLattice_L0 := (⟨false, r57, 0, a⟩ : S.law21_ValueLattice_L0)
  let y70 : Bool × S.law21_ValueLattice_L0 := S.law21_ValueLattice_L0_run x69
  let x71 : S.law21_ValueLattice_L2 := (⟨l, 0, y70.2.a⟩ : S.law21_ValueLattice_L2)
  let y72 : S.law21_ValueLattice_L2 := S.law21_ValueLattice_L2_run x71
  let x73 : S.law21_ValueLattice_L4 := (⟨y72.l, y70.2.t8, 0, y72.vx⟩ : S.law21_ValueLattice_L4)
  let y74 : Bool × S.law21_ValueLattice_L4 := S.law21_ValueLattice_L4_run x73
  ((b1 = true → (All [S.law21_works_pre] ∧ True)) ∧ (b1 = false → (All [S.value_Join_pre ([a, b] : List S.Value), S.value_Meet_pre ([a, b] : List S.Value), S.value_Value_Has_pre a n, (r5 = false → S.value_Value_Has_pre b n), (p7 = true → S.value_Value_Has_pre r3 n), (p10 = false → S.value_Value_Has_pre a n), (p10 = false → (r11 = true → S.value_Value_Has_pre b n)), (p10 = false → (p13 = true → S.value_Value_Has_pre r4 n)), (p17 = false → S.value_Within_pre a b), (p17 = false → (r18 = true → S.value_Value_Has_pre a n)), (p17 = false → (p20 = true → S.value_Value_Has_pre b n)), (p24 = false → S.value_Within_pre a b), (p24 = false → S.value_Same_pre r3 b), (p28 = false → S.value_Within_pre a r3), (p31 = false → S.value_Within_pre r4 r3)] ∧ ((p34 = true → True) ∧ (p34 = false → (All [S.value_Same_pre a b, S.value_Within_pre a b, (r36 = true → S.value_Within_pre b a), (b39 = false → S.value_Join_pre ([b, a] : List S.Value)), (b39 = false → S.value_Same_pre r3 r40), (p43 = false → S.value_Value_Has_pre a n), (p43 = false → (r44 = true → S.value_Value_Has_pre b n)), (p43 = false → (p46 = true → S.value_Narrow_pre a b)), (p43 = false → (p46 = true → S.value_Value_Has_pre r47 n)), (p51 = false → S.value_Widen_pre a b), (p51 = false → S.value_Within_pre r3 r52)] ∧ ((p55 = true → True) ∧ (p55 = false → (All [S.value_Value_Card_pre a, S.value_Value_Some_pre a 20] ∧ ((p68 = true → True) ∧ (p68 = false → (All [Runs S.law21_ValueLattice_L0_step S.law21_ValueLattice_L0_vcs x69 (S.law21_ValueLattice_L0_run x69)] ∧ ((y70.1 = true → True) ∧ (y70.1 = false → (All [Runs S.law21_ValueLattice_L2_step S.law21_ValueLattice_L2_vcs x71 (S.law21_ValueLattice_L2_run x71), Runs S.law21_ValueLattice_L4_step S.law21_ValueLattice_L4_vcs x73 (S.law21_ValueLattice_L4_run x73)] ∧ ((y74.1 = true → True) ∧ (y74.1 = false → (All [S.law21_works_pre] ∧ True))))))))))))))))))
