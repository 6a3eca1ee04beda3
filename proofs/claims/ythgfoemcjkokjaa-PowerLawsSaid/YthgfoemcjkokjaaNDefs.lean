/-
  Printed by a program for this claim: functions of the code as plain functions, and that the code comes to them. Conditions: those that each theorem states.
-/
import Derived.Test.YthgfoemcjkokjaaVm15
set_option linter.all false
open Go Vm
@[ext] structure S.Num where
  limbs : (List Int)

/-- slices.Clone[[]uint64,uint64] -/
def S.slices_Cloneuint64_uint64 (s : List Int) : List Int := s
def S.slices_Cloneuint64_uint64_pre (s : List Int) : Prop := ((([] : List Int).length + s.length : Nat) : Int) * 8 ≤ 140737488355328
@[ext] structure S.nat_Limbs_L0 where
  l : (List Int)
def S.nat_Limbs_L0_step (x : S.nat_Limbs_L0) : S.nat_Limbs_L0 ⊕ (S.nat_Limbs_L0) :=
  let b1 : Bool := decide ((x.l.length : Int) > 0)
  let t2 : Int := IntKind.i64.wrap ((x.l.length : Int) - 1)
  let e3 : Int := x.l.getD (Int.toNat t2) 0
  let b4 : Bool := e3 == 0
  let p5 : Bool := (b1 && b4)
  let t6 : Int := IntKind.i64.wrap ((x.l.length : Int) - 1)
  let l7 : (List Int) := (x.l.take (Int.toNat t6)).drop (Int.toNat 0)
  (bif p5 then (.inl ⟨l7⟩) else (.inr ⟨x.l⟩))
def S.nat_Limbs_L0_vcs (x : S.nat_Limbs_L0) : Prop :=
  let b1 : Bool := decide ((x.l.length : Int) > 0)
  let t2 : Int := IntKind.i64.wrap ((x.l.length : Int) - 1)
  let e3 : Int := x.l.getD (Int.toNat t2) 0
  let b4 : Bool := e3 == 0
  let p5 : Bool := (b1 && b4)
  let t6 : Int := IntKind.i64.wrap ((x.l.length : Int) - 1)
  (All [(b1 = true → ((0 : Int) ≤ t2 ∧ t2 < (x.l.length : Int)))] ∧ ((p5 = true → (All [(0 : Int) ≤ 0, (0 : Int) ≤ t6, t6 ≤ (x.l.length : Int)] ∧ True)) ∧ (p5 = false → True)))
noncomputable def S.nat_Limbs_L0_run (x : S.nat_Limbs_L0) : S.nat_Limbs_L0 := theRun (fun x => x) S.nat_Limbs_L0_step S.nat_Limbs_L0_vcs x
/-- nat.Limbs -/
noncomputable def S.nat_Limbs (l : (List Int)) : S.Num :=
  let x1 : S.nat_Limbs_L0 := (⟨l⟩ : S.nat_Limbs_L0)
  let y2 : S.nat_Limbs_L0 := S.nat_Limbs_L0_run x1
  let r3 : (List Int) := S.slices_Cloneuint64_uint64 y2.l
  (⟨r3⟩ : S.Num)
def S.nat_Limbs_pre (l : (List Int)) : Prop :=
  let x1 : S.nat_Limbs_L0 := (⟨l⟩ : S.nat_Limbs_L0)
  let y2 : S.nat_Limbs_L0 := S.nat_Limbs_L0_run x1
  (All [Runs S.nat_Limbs_L0_step S.nat_Limbs_L0_vcs x1 (S.nat_Limbs_L0_run x1), S.slices_Cloneuint64_uint64_pre y2.l] ∧ True)
/-- nat.Of -/
noncomputable def S.nat_Of (n : Int) : S.Num :=
  let r1 : S.Num := S.nat_Limbs ([n] : List Int)
  r1
def S.nat_Of_pre (n : Int) : Prop :=
  (All [S.nat_Limbs_pre ([n] : List Int)] ∧ True)
/-- math/bits.Add64 -/
def S.math_bits_Add64 (x y c : Int) : Int × Int := ((x + y + c) % 18446744073709551616, (x + y + c) / 18446744073709551616)
def S.math_bits_Add64_pre (x y c : Int) : Prop := 0 ≤ x ∧ 0 ≤ y ∧ 0 ≤ c ∧ c ≤ 1
/-- nat.Add$1 -/
def S.nat_Add_1 (x : Int) (y : Int) (a2 : Int) : Int × Int :=
  let r1 : Int × Int := S.math_bits_Add64 x y a2
  (r1.1, r1.2)
def S.nat_Add_1_pre (x : Int) (y : Int) (a2 : Int) : Prop :=
  (All [S.math_bits_Add64_pre x y a2] ∧ True)
/-- (nat.Nat).Len -/
def S.nat_Nat_Len (n : S.Num) : Int :=
  (n.limbs.length : Int)
/-- (nat.Nat).limb -/
def S.nat_Nat_limb (n : S.Num) (i : Int) : Int :=
  let r1 : Int := S.nat_Nat_Len n
  let b2 : Bool := decide (i ≥ r1)
  let e3 : Int := n.limbs.getD (Int.toNat i) 0
  (bif b2 then 0 else e3)
def S.nat_Nat_limb_pre (n : S.Num) (i : Int) : Prop :=
  let r1 : Int := S.nat_Nat_Len n
  let b2 : Bool := decide (i ≥ r1)
  ((b2 = true → True) ∧ (b2 = false → (All [(0 : Int) ≤ i, i < (n.limbs.length : Int)] ∧ True)))
@[ext] structure S.nat_Add_L0 where
  t14 : Int
  t15 : Int
  l : (List Int)
  a : S.Num
  b : S.Num
  carry : Int
def S.nat_Add_L0_step (x : S.nat_Add_L0) : S.nat_Add_L0 ⊕ (S.nat_Add_L0) :=
  let b1 : Bool := decide (x.t15 < x.t14)
  let r2 : Int := S.nat_Nat_limb x.a x.t15
  let r3 : Int := S.nat_Nat_limb x.b x.t15
  let r4 : Int × Int := S.nat_Add_1 r2 r3 x.carry
  let l5 : List Int := x.l ++ ([r4.1] : List Int)
  let t6 : Int := IntKind.i64.wrap (x.t15 + 1)
  (bif b1 then (.inl ⟨x.t14, t6, l5, x.a, x.b, r4.2⟩) else (.inr ⟨x.t14, x.t15, x.l, x.a, x.b, x.carry⟩))
def S.nat_Add_L0_vcs (x : S.nat_Add_L0) : Prop :=
  let b1 : Bool := decide (x.t15 < x.t14)
  let r2 : Int := S.nat_Nat_limb x.a x.t15
  let r3 : Int := S.nat_Nat_limb x.b x.t15
  let r4 : Int × Int := S.nat_Add_1 r2 r3 x.carry
  ((b1 = true → (All [S.nat_Nat_limb_pre x.a x.t15, S.nat_Nat_limb_pre x.b x.t15, S.nat_Add_1_pre r2 r3 x.carry, ((x.l.length + ([r4.1] : List Int).length : Nat) : Int) * 8 ≤ 140737488355328] ∧ True)) ∧ (b1 = false → True))
noncomputable def S.nat_Add_L0_run (x : S.nat_Add_L0) : S.nat_Add_L0 := theRun (fun x => x) S.nat_Add_L0_step S.nat_Add_L0_vcs x
/-- nat.Add -/
noncomputable def S.nat_Add (a : S.Num) (b : S.Num) : S.Num :=
  let r1 : Int := S.nat_Nat_Len a
  let r2 : Int := S.nat_Nat_Len b
  let m3 : Int := if r2 > r1 then r2 else r1
  let x4 : S.nat_Add_L0 := (⟨m3, 0, ([] : List Int), a, b, 0⟩ : S.nat_Add_L0)
  let y5 : S.nat_Add_L0 := S.nat_Add_L0_run x4
  let l6 : List Int := y5.l ++ ([y5.carry] : List Int)
  let r7 : S.Num := S.nat_Limbs l6
  r7
def S.nat_Add_pre (a : S.Num) (b : S.Num) : Prop :=
  let r1 : Int := S.nat_Nat_Len a
  let r2 : Int := S.nat_Nat_Len b
  let m3 : Int := if r2 > r1 then r2 else r1
  let x4 : S.nat_Add_L0 := (⟨m3, 0, ([] : List Int), a, b, 0⟩ : S.nat_Add_L0)
  let y5 : S.nat_Add_L0 := S.nat_Add_L0_run x4
  let l6 : List Int := y5.l ++ ([y5.carry] : List Int)
  (All [Runs S.nat_Add_L0_step S.nat_Add_L0_vcs x4 (S.nat_Add_L0_run x4), ((y5.l.length + ([y5.carry] : List Int).length : Nat) : Int) * 8 ≤ 140737488355328, S.nat_Limbs_pre l6] ∧ True)
/-- (nat.Nat).All -/
def S.nat_Nat_All (n : S.Num) : (List Int) :=
  let r1 : (List Int) := S.slices_Cloneuint64_uint64 n.limbs
  r1
def S.nat_Nat_All_pre (n : S.Num) : Prop :=
  (All [S.slices_Cloneuint64_uint64_pre n.limbs] ∧ True)
/-- math/bits.Mul64 -/
def S.math_bits_Mul64 (x : Int) (y : Int) : Int × Int :=
  let t1 : Int := bits .and .u64 x 4294967295
  let t2 : Int := Int.fdiv x (2 ^ min (Int.toNat 32) 64)
  let t3 : Int := bits .and .u64 y 4294967295
  let t4 : Int := Int.fdiv y (2 ^ min (Int.toNat 32) 64)
  let t5 : Int := IntKind.u64.wrap (t1 * t3)
  let t6 : Int := IntKind.u64.wrap (t2 * t3)
  let t7 : Int := Int.fdiv t5 (2 ^ min (Int.toNat 32) 64)
  let t8 : Int := IntKind.u64.wrap (t6 + t7)
  let t9 : Int := bits .and .u64 t8 4294967295
  let t10 : Int := Int.fdiv t8 (2 ^ min (Int.toNat 32) 64)
  let t11 : Int := IntKind.u64.wrap (t1 * t4)
  let t12 : Int := IntKind.u64.wrap (t9 + t11)
  let t13 : Int := IntKind.u64.wrap (t2 * t4)
  let t14 : Int := IntKind.u64.wrap (t13 + t10)
  let t15 : Int := Int.fdiv t12 (2 ^ min (Int.toNat 32) 64)
  let t16 : Int := IntKind.u64.wrap (t14 + t15)
  let t17 : Int := IntKind.u64.wrap (x * y)
  (t16, t17)
@[ext] structure S.nat_Mul_L2 where
  i : Int
  vx : Int
  carry : Int
  t29 : (List Int)
  t30 : Int
  t31 : Int
  l : (List Int)
def S.nat_Mul_L2_step (x : S.nat_Mul_L2) : S.nat_Mul_L2 ⊕ (S.nat_Mul_L2) :=
  let b1 : Bool := decide (x.t31 < x.t30)
  let e2 : Int := x.t29.getD (Int.toNat x.t31) 0
  let r3 : Int × Int := S.math_bits_Mul64 x.vx e2
  let t4 : Int := IntKind.i64.wrap (x.i + x.t31)
  let e5 : Int := x.l.getD (Int.toNat t4) 0
  let r6 : Int × Int := S.math_bits_Add64 r3.2 e5 0
  let t7 : Int := IntKind.u64.wrap (r3.1 + r6.2)
  let r8 : Int × Int := S.math_bits_Add64 r6.1 x.carry 0
  let t9 : Int := IntKind.i64.wrap (x.i + x.t31)
  let t10 : Int := IntKind.u64.wrap (t7 + r8.2)
  let l11 : List Int := x.l.set (Int.toNat t9) r8.1
  let t12 : Int := IntKind.i64.wrap (x.t31 + 1)
  (bif b1 then (.inl ⟨x.i, x.vx, t10, x.t29, x.t30, t12, l11⟩) else (.inr ⟨x.i, x.vx, x.carry, x.t29, x.t30, x.t31, x.l⟩))
def S.nat_Mul_L2_vcs (x : S.nat_Mul_L2) : Prop :=
  let b1 : Bool := decide (x.t31 < x.t30)
  let e2 : Int := x.t29.getD (Int.toNat x.t31) 0
  let r3 : Int × Int := S.math_bits_Mul64 x.vx e2
  let t4 : Int := IntKind.i64.wrap (x.i + x.t31)
  let e5 : Int := x.l.getD (Int.toNat t4) 0
  let r6 : Int × Int := S.math_bits_Add64 r3.2 e5 0
  let t9 : Int := IntKind.i64.wrap (x.i + x.t31)
  ((b1 = true → (All [(0 : Int) ≤ x.t31, x.t31 < (x.t29.length : Int), (0 : Int) ≤ t4, t4 < (x.l.length : Int), S.math_bits_Add64_pre r3.2 e5 0, S.math_bits_Add64_pre r6.1 x.carry 0, (0 : Int) ≤ t9, t9 < (x.l.length : Int)] ∧ True)) ∧ (b1 = false → True))
noncomputable def S.nat_Mul_L2_run (x : S.nat_Mul_L2) : S.nat_Mul_L2 := theRun (fun x => x) S.nat_Mul_L2_step S.nat_Mul_L2_vcs x
@[ext] structure S.nat_Mul_L0 where
  t21 : (List Int)
  t22 : Int
  t23 : Int
  l : (List Int)
  b : S.Num
noncomputable def S.nat_Mul_L0_step (x : S.nat_Mul_L0) : S.nat_Mul_L0 ⊕ (S.nat_Mul_L0) :=
  let b1 : Bool := decide (x.t23 < x.t22)
  let e2 : Int := x.t21.getD (Int.toNat x.t23) 0
  let x3 : S.nat_Mul_L2 := (⟨x.t23, e2, 0, x.b.limbs, (x.b.limbs.length : Int), 0, x.l⟩ : S.nat_Mul_L2)
  let y4 : S.nat_Mul_L2 := S.nat_Mul_L2_run x3
  let r5 : Int := S.nat_Nat_Len x.b
  let t6 : Int := IntKind.i64.wrap (y4.i + r5)
  let l7 : List Int := y4.l.set (Int.toNat t6) y4.carry
  let t8 : Int := IntKind.i64.wrap (x.t23 + 1)
  (bif b1 then (.inl ⟨x.t21, x.t22, t8, l7, x.b⟩) else (.inr ⟨x.t21, x.t22, x.t23, x.l, x.b⟩))
noncomputable def S.nat_Mul_L0_vcs (x : S.nat_Mul_L0) : Prop :=
  let b1 : Bool := decide (x.t23 < x.t22)
  let e2 : Int := x.t21.getD (Int.toNat x.t23) 0
  let x3 : S.nat_Mul_L2 := (⟨x.t23, e2, 0, x.b.limbs, (x.b.limbs.length : Int), 0, x.l⟩ : S.nat_Mul_L2)
  let y4 : S.nat_Mul_L2 := S.nat_Mul_L2_run x3
  let r5 : Int := S.nat_Nat_Len x.b
  let t6 : Int := IntKind.i64.wrap (y4.i + r5)
  ((b1 = true → (All [(0 : Int) ≤ x.t23, x.t23 < (x.t21.length : Int), Runs S.nat_Mul_L2_step S.nat_Mul_L2_vcs x3 (S.nat_Mul_L2_run x3), (0 : Int) ≤ t6, t6 < (y4.l.length : Int)] ∧ True)) ∧ (b1 = false → True))
noncomputable def S.nat_Mul_L0_run (x : S.nat_Mul_L0) : S.nat_Mul_L0 := theRun (fun x => x) S.nat_Mul_L0_step S.nat_Mul_L0_vcs x
/-- nat.Mul -/
noncomputable def S.nat_Mul (a : S.Num) (b : S.Num) : S.Num :=
  let r1 : Int := S.nat_Nat_Len a
  let r2 : Int := S.nat_Nat_Len b
  let t3 : Int := IntKind.i64.wrap (r1 + r2)
  let x4 : S.nat_Mul_L0 := (⟨a.limbs, (a.limbs.length : Int), 0, (List.replicate (Int.toNat t3) (0 : Int)), b⟩ : S.nat_Mul_L0)
  let y5 : S.nat_Mul_L0 := S.nat_Mul_L0_run x4
  let r6 : S.Num := S.nat_Limbs y5.l
  r6
def S.nat_Mul_pre (a : S.Num) (b : S.Num) : Prop :=
  let r1 : Int := S.nat_Nat_Len a
  let r2 : Int := S.nat_Nat_Len b
  let t3 : Int := IntKind.i64.wrap (r1 + r2)
  let x4 : S.nat_Mul_L0 := (⟨a.limbs, (a.limbs.length : Int), 0, (List.replicate (Int.toNat t3) (0 : Int)), b⟩ : S.nat_Mul_L0)
  let y5 : S.nat_Mul_L0 := S.nat_Mul_L0_run x4
  (All [(0 : Int) ≤ t3, t3 = t3, t3 * 8 ≤ 140737488355328, Runs S.nat_Mul_L0_step S.nat_Mul_L0_vcs x4 (S.nat_Mul_L0_run x4), S.nat_Limbs_pre y5.l] ∧ True)
/-- cmp.isNaN[uint64] -/
def S.cmp_isNaNuint64 (x : Int) : Bool :=
  let b1 : Bool := x != x
  b1
/-- cmp.Compare[uint64] -/
def S.cmp_Compareuint64 (x : Int) (y : Int) : Int :=
  let r1 : Bool := S.cmp_isNaNuint64 x
  let r2 : Bool := S.cmp_isNaNuint64 y
  let b3 : Bool := decide (x < y)
  let b4 : Bool := decide (x > y)
  (bif r1 then (bif r2 then 0 else (-1)) else (bif r2 then 1 else (bif b3 then (-1) else (bif b4 then 1 else 0))))
@[ext] structure S.nat_Cmp_L0 where
  t4 : Int
  i : Int
  a : S.Num
  b : S.Num
def S.nat_Cmp_L0_step (x : S.nat_Cmp_L0) : S.nat_Cmp_L0 ⊕ (Bool × S.nat_Cmp_L0) :=
  let b1 : Bool := decide (x.i ≥ 0)
  let r2 : Int := S.nat_Nat_limb x.a x.i
  let r3 : Int := S.nat_Nat_limb x.b x.i
  let r4 : Int := S.cmp_Compareuint64 r2 r3
  let b5 : Bool := r4 != 0
  let t6 : Int := IntKind.i64.wrap (x.i - 1)
  (bif b1 then (bif b5 then (.inr ⟨true, ⟨r4, x.i, x.a, x.b⟩⟩) else (.inl ⟨x.t4, t6, x.a, x.b⟩)) else (.inr ⟨false, ⟨x.t4, x.i, x.a, x.b⟩⟩))
def S.nat_Cmp_L0_vcs (x : S.nat_Cmp_L0) : Prop :=
  let b1 : Bool := decide (x.i ≥ 0)
  let r2 : Int := S.nat_Nat_limb x.a x.i
  let r3 : Int := S.nat_Nat_limb x.b x.i
  let r4 : Int := S.cmp_Compareuint64 r2 r3
  let b5 : Bool := r4 != 0
  ((b1 = true → (All [S.nat_Nat_limb_pre x.a x.i, S.nat_Nat_limb_pre x.b x.i] ∧ ((b5 = true → True) ∧ (b5 = false → True)))) ∧ (b1 = false → True))
noncomputable def S.nat_Cmp_L0_run (x : S.nat_Cmp_L0) : Bool × S.nat_Cmp_L0 := theRun (fun x => ⟨true, x⟩) S.nat_Cmp_L0_step S.nat_Cmp_L0_vcs x
/-- nat.Cmp -/
noncomputable def S.nat_Cmp (a : S.Num) (b : S.Num) : Int :=
  let r1 : Int := S.nat_Nat_Len a
  let r2 : Int := S.nat_Nat_Len b
  let m3 : Int := if r2 > r1 then r2 else r1
  let t4 : Int := IntKind.i64.wrap (m3 - 1)
  let x5 : S.nat_Cmp_L0 := (⟨0, t4, a, b⟩ : S.nat_Cmp_L0)
  let y6 : Bool × S.nat_Cmp_L0 := S.nat_Cmp_L0_run x5
  (bif y6.1 then y6.2.t4 else 0)
def S.nat_Cmp_pre (a : S.Num) (b : S.Num) : Prop :=
  let r1 : Int := S.nat_Nat_Len a
  let r2 : Int := S.nat_Nat_Len b
  let m3 : Int := if r2 > r1 then r2 else r1
  let t4 : Int := IntKind.i64.wrap (m3 - 1)
  let x5 : S.nat_Cmp_L0 := (⟨0, t4, a, b⟩ : S.nat_Cmp_L0)
  let y6 : Bool × S.nat_Cmp_L0 := S.nat_Cmp_L0_run x5
  (All [Runs S.nat_Cmp_L0_step S.nat_Cmp_L0_vcs x5 (S.nat_Cmp_L0_run x5)] ∧ ((y6.1 = true → True) ∧ (y6.1 = false → True)))
/-- math/bits.Sub64 -/
def S.math_bits_Sub64 (x y c : Int) : Int × Int := ((x + 18446744073709551616 - y - c) % 18446744073709551616, if x < y + c then 1 else 0)
def S.math_bits_Sub64_pre (x y c : Int) : Prop := 0 ≤ x ∧ 0 ≤ y ∧ y ≤ 18446744073709551615 ∧ 0 ≤ c ∧ c ≤ 1
@[ext] structure S.nat_Sub_L0 where
  borrow : Int
  t16 : Int
  t17 : Int
  l : (List Int)
  a : S.Num
  b : S.Num
def S.nat_Sub_L0_step (x : S.nat_Sub_L0) : S.nat_Sub_L0 ⊕ (S.nat_Sub_L0) :=
  let b1 : Bool := decide (x.t17 < x.t16)
  let r2 : Int := S.nat_Nat_limb x.a x.t17
  let r3 : Int := S.nat_Nat_limb x.b x.t17
  let r4 : Int × Int := S.math_bits_Sub64 r2 r3 x.borrow
  let l5 : List Int := x.l ++ ([r4.1] : List Int)
  let t6 : Int := IntKind.i64.wrap (x.t17 + 1)
  (bif b1 then (.inl ⟨r4.2, x.t16, t6, l5, x.a, x.b⟩) else (.inr ⟨x.borrow, x.t16, x.t17, x.l, x.a, x.b⟩))
def S.nat_Sub_L0_vcs (x : S.nat_Sub_L0) : Prop :=
  let b1 : Bool := decide (x.t17 < x.t16)
  let r2 : Int := S.nat_Nat_limb x.a x.t17
  let r3 : Int := S.nat_Nat_limb x.b x.t17
  let r4 : Int × Int := S.math_bits_Sub64 r2 r3 x.borrow
  ((b1 = true → (All [S.nat_Nat_limb_pre x.a x.t17, S.nat_Nat_limb_pre x.b x.t17, S.math_bits_Sub64_pre r2 r3 x.borrow, ((x.l.length + ([r4.1] : List Int).length : Nat) : Int) * 8 ≤ 140737488355328] ∧ True)) ∧ (b1 = false → True))
noncomputable def S.nat_Sub_L0_run (x : S.nat_Sub_L0) : S.nat_Sub_L0 := theRun (fun x => x) S.nat_Sub_L0_step S.nat_Sub_L0_vcs x
/-- nat.Sub -/
noncomputable def S.nat_Sub (a : S.Num) (b : S.Num) : S.Num × Int :=
  let r1 : Int := S.nat_Cmp a b
  let b2 : Bool := decide (r1 < 0)
  let r3 : Int := S.nat_Nat_Len a
  let x4 : S.nat_Sub_L0 := (⟨0, r3, 0, ([] : List Int), a, b⟩ : S.nat_Sub_L0)
  let y5 : S.nat_Sub_L0 := S.nat_Sub_L0_run x4
  let r6 : S.Num := S.nat_Limbs y5.l
  (bif b2 then ((⟨([] : List Int)⟩ : S.Num), 11) else (r6, 0))
def S.nat_Sub_pre (a : S.Num) (b : S.Num) : Prop :=
  let r1 : Int := S.nat_Cmp a b
  let b2 : Bool := decide (r1 < 0)
  let r3 : Int := S.nat_Nat_Len a
  let x4 : S.nat_Sub_L0 := (⟨0, r3, 0, ([] : List Int), a, b⟩ : S.nat_Sub_L0)
  let y5 : S.nat_Sub_L0 := S.nat_Sub_L0_run x4
  (All [S.nat_Cmp_pre a b] ∧ ((b2 = true → True) ∧ (b2 = false → (All [Runs S.nat_Sub_L0_step S.nat_Sub_L0_vcs x4 (S.nat_Sub_L0_run x4), S.nat_Limbs_pre y5.l] ∧ True))))
/-- (nat.Cap).Fits -/
def S.nat_Cap_Fits (c : Int) (n : S.Num) : Bool :=
  let r1 : Int := S.nat_Nat_Len n
  let m2 : Int := if c > 0 then c else 0
  let b3 : Bool := decide (r1 ≤ m2)
  b3
/-- (nat.Cap).fit -/
def S.nat_Cap_fit (c : Int) (n : S.Num) : S.Num × Bool :=
  let r1 : Bool := S.nat_Cap_Fits c n
  let b2 : Bool := !r1
  (bif b2 then ((⟨([] : List Int)⟩ : S.Num), false) else (n, true))
/-- (nat.Cap).Add -/
noncomputable def S.nat_Cap_Add (c : Int) (a : S.Num) (b : S.Num) : S.Num × Bool :=
  let r1 : S.Num := S.nat_Add a b
  let r2 : S.Num × Bool := S.nat_Cap_fit c r1
  (r2.1, r2.2)
def S.nat_Cap_Add_pre (c : Int) (a : S.Num) (b : S.Num) : Prop :=
  (All [S.nat_Add_pre a b] ∧ True)
/-- sieveholeslaw01.works -/
noncomputable def S.law01_works : Bool :=
  let r1 : S.Num := S.nat_Of 18446744073709551615
  let r2 : S.Num := S.nat_Of 1
  let r3 : S.Num := S.nat_Add r1 r2
  let r4 : (List Int) := S.nat_Nat_All r3
  let r5 : S.Num := S.nat_Mul r1 r1
  let r6 : (List Int) := S.nat_Nat_All r5
  let r7 : S.Num := S.nat_Of 5
  let r8 : S.Num := S.nat_Of 7
  let r9 : S.Num × Int := S.nat_Sub r7 r8
  let r10 : S.Num := S.nat_Of 1
  let r11 : S.Num × Bool := S.nat_Cap_Add 1 r1 r10
  let b12 : Bool := (r4.length : Int) == 2
  let e13 : Int := r4.getD (Int.toNat 0) 0
  let b14 : Bool := e13 == 0
  let p15 : Bool := (b12 && b14)
  let e16 : Int := r4.getD (Int.toNat 1) 0
  let b17 : Bool := e16 == 1
  let p18 : Bool := (p15 && b17)
  let b19 : Bool := (r6.length : Int) == 2
  let p20 : Bool := (p18 && b19)
  let e21 : Int := r6.getD (Int.toNat 0) 0
  let b22 : Bool := e21 == 1
  let p23 : Bool := (p20 && b22)
  let e24 : Int := r6.getD (Int.toNat 1) 0
  let b25 : Bool := e24 == 18446744073709551614
  let p26 : Bool := (p23 && b25)
  let b27 : Bool := r9.2 == 11
  let p28 : Bool := (p26 && b27)
  let b29 : Bool := !r11.2
  let p30 : Bool := (p28 && b29)
  p30
def S.law01_works_pre : Prop :=
  let r1 : S.Num := S.nat_Of 18446744073709551615
  let r2 : S.Num := S.nat_Of 1
  let r3 : S.Num := S.nat_Add r1 r2
  let r4 : (List Int) := S.nat_Nat_All r3
  let r5 : S.Num := S.nat_Mul r1 r1
  let r6 : (List Int) := S.nat_Nat_All r5
  let r7 : S.Num := S.nat_Of 5
  let r8 : S.Num := S.nat_Of 7
  let r10 : S.Num := S.nat_Of 1
  let b12 : Bool := (r4.length : Int) == 2
  let e13 : Int := r4.getD (Int.toNat 0) 0
  let b14 : Bool := e13 == 0
  let p15 : Bool := (b12 && b14)
  let e16 : Int := r4.getD (Int.toNat 1) 0
  let b17 : Bool := e16 == 1
  let p18 : Bool := (p15 && b17)
  let b19 : Bool := (r6.length : Int) == 2
  let p20 : Bool := (p18 && b19)
  let e21 : Int := r6.getD (Int.toNat 0) 0
  let b22 : Bool := e21 == 1
  let p23 : Bool := (p20 && b22)
  (All [S.nat_Of_pre 18446744073709551615, S.nat_Of_pre 1, S.nat_Add_pre r1 r2, S.nat_Nat_All_pre r3, S.nat_Mul_pre r1 r1, S.nat_Nat_All_pre r5, S.nat_Of_pre 5, S.nat_Of_pre 7, S.nat_Sub_pre r7 r8, S.nat_Of_pre 1, S.nat_Cap_Add_pre 1 r1 r10, (b12 = true → ((0 : Int) ≤ 0 ∧ 0 < (r4.length : Int))), (p15 = true → ((0 : Int) ≤ 1 ∧ 1 < (r4.length : Int))), (p20 = true → ((0 : Int) ≤ 0 ∧ 0 < (r6.length : Int))), (p23 = true → ((0 : Int) ≤ 1 ∧ 1 < (r6.length : Int)))] ∧ True)
/-- sieveholeslaw01.NatLaws -/
noncomputable def S.law01_NatLaws (a : (List Int)) (b : (List Int)) (c : (List Int)) : Bool :=
  let b1 : Bool := decide ((a.length : Int) > 30)
  let b2 : Bool := decide ((b.length : Int) > 30)
  let p3 : Bool := (b1 || b2)
  let b4 : Bool := decide ((c.length : Int) > 30)
  let p5 : Bool := (p3 || b4)
  let r6 : Bool := S.law01_works
  let r7 : S.Num := S.nat_Limbs a
  let r8 : S.Num := S.nat_Limbs b
  let r9 : S.Num := S.nat_Limbs c
  let r10 : S.Num := S.nat_Add r7 r8
  let r11 : S.Num := S.nat_Add r8 r7
  let r12 : Int := S.nat_Cmp r10 r11
  let b13 : Bool := r12 != 0
  let r14 : S.Num := S.nat_Add r10 r9
  let r15 : S.Num := S.nat_Add r8 r9
  let r16 : S.Num := S.nat_Add r7 r15
  let r17 : Int := S.nat_Cmp r14 r16
  let b18 : Bool := r17 != 0
  let p19 : Bool := (b13 || b18)
  let r20 : S.Num := S.nat_Mul r7 r8
  let r21 : S.Num := S.nat_Mul r8 r7
  let r22 : Int := S.nat_Cmp r20 r21
  let b23 : Bool := r22 != 0
  let p24 : Bool := (p19 || b23)
  let r25 : S.Num := S.nat_Mul r7 r8
  let r26 : S.Num := S.nat_Mul r25 r9
  let r27 : S.Num := S.nat_Mul r8 r9
  let r28 : S.Num := S.nat_Mul r7 r27
  let r29 : Int := S.nat_Cmp r26 r28
  let b30 : Bool := r29 != 0
  let p31 : Bool := (p24 || b30)
  let r32 : S.Num := S.nat_Mul r10 r9
  let r33 : S.Num := S.nat_Mul r7 r9
  let r34 : S.Num := S.nat_Mul r8 r9
  let r35 : S.Num := S.nat_Add r33 r34
  let r36 : Int := S.nat_Cmp r32 r35
  let b37 : Bool := r36 != 0
  let p38 : Bool := (p31 || b37)
  let r39 : S.Num × Int := S.nat_Sub r10 r8
  let b40 : Bool := r39.2 != 0
  let r41 : Int := S.nat_Cmp r39.1 r7
  let b42 : Bool := r41 != 0
  let p43 : Bool := (b40 || b42)
  let r44 : Int := S.nat_Cmp r10 r7
  let b45 : Bool := decide (r44 < 0)
  let p46 : Bool := (p43 || b45)
  let r47 : S.Num := S.nat_Of 1
  let r48 : S.Num := S.nat_Mul r7 r47
  let r49 : Int := S.nat_Cmp r48 r7
  let b50 : Bool := r49 != 0
  let p51 : Bool := (p46 || b50)
  let r52 : S.Num := S.nat_Mul r7 (⟨([] : List Int)⟩ : S.Num)
  let r53 : Int := S.nat_Nat_Len r52
  let b54 : Bool := r53 != 0
  let p55 : Bool := (p51 || b54)
  let r56 : S.Num × Int := S.nat_Sub r7 r8
  let r57 : Int := S.nat_Cmp r7 r8
  let b58 : Bool := r56.2 == 0
  let b59 : Bool := decide (r57 ≥ 0)
  let b60 : Bool := b58 == b59
  let b61 : Bool := r57 == 0
  let b62 : Bool := r56.2 == 0
  let r63 : Int := S.nat_Nat_Len r56.1
  let b64 : Bool := r63 == 0
  let p65 : Bool := (b62 && b64)
  let b66 : Bool := b61 == p65
  let p67 : Bool := (b60 && b66)
  let r68 : S.Num := S.nat_Add r7 r9
  let r69 : S.Num := S.nat_Add r8 r9
  let r70 : Int := S.nat_Cmp r68 r69
  let b71 : Bool := r70 == r57
  let p72 : Bool := (p67 && b71)
  let r73 : Bool := S.law01_works
  let p74 : Bool := (p72 && r73)
  (bif p5 then r6 else (bif p38 then false else (bif p55 then false else p74)))
def S.law01_NatLaws_pre (a : (List Int)) (b : (List Int)) (c : (List Int)) : Prop :=
  let b1 : Bool := decide ((a.length : Int) > 30)
  let b2 : Bool := decide ((b.length : Int) > 30)
  let p3 : Bool := (b1 || b2)
  let b4 : Bool := decide ((c.length : Int) > 30)
  let p5 : Bool := (p3 || b4)
  let r7 : S.Num := S.nat_Limbs a
  let r8 : S.Num := S.nat_Limbs b
  let r9 : S.Num := S.nat_Limbs c
  let r10 : S.Num := S.nat_Add r7 r8
  let r11 : S.Num := S.nat_Add r8 r7
  let r12 : Int := S.nat_Cmp r10 r11
  let b13 : Bool := r12 != 0
  let r14 : S.Num := S.nat_Add r10 r9
  let r15 : S.Num := S.nat_Add r8 r9
  let r16 : S.Num := S.nat_Add r7 r15
  let r17 : Int := S.nat_Cmp r14 r16
  let b18 : Bool := r17 != 0
  let p19 : Bool := (b13 || b18)
  let r20 : S.Num := S.nat_Mul r7 r8
  let r21 : S.Num := S.nat_Mul r8 r7
  let r22 : Int := S.nat_Cmp r20 r21
  let b23 : Bool := r22 != 0
  let p24 : Bool := (p19 || b23)
  let r25 : S.Num := S.nat_Mul r7 r8
  let r26 : S.Num := S.nat_Mul r25 r9
  let r27 : S.Num := S.nat_Mul r8 r9
  let r28 : S.Num := S.nat_Mul r7 r27
  let r29 : Int := S.nat_Cmp r26 r28
  let b30 : Bool := r29 != 0
  let p31 : Bool := (p24 || b30)
  let r32 : S.Num := S.nat_Mul r10 r9
  let r33 : S.Num := S.nat_Mul r7 r9
  let r34 : S.Num := S.nat_Mul r8 r9
  let r35 : S.Num := S.nat_Add r33 r34
  let r36 : Int := S.nat_Cmp r32 r35
  let b37 : Bool := r36 != 0
  let p38 : Bool := (p31 || b37)
  let r39 : S.Num × Int := S.nat_Sub r10 r8
  let b40 : Bool := r39.2 != 0
  let r41 : Int := S.nat_Cmp r39.1 r7
  let b42 : Bool := r41 != 0
  let p43 : Bool := (b40 || b42)
  let r44 : Int := S.nat_Cmp r10 r7
  let b45 : Bool := decide (r44 < 0)
  let p46 : Bool := (p43 || b45)
  let r47 : S.Num := S.nat_Of 1
  let r48 : S.Num := S.nat_Mul r7 r47
  let r49 : Int := S.nat_Cmp r48 r7
  let b50 : Bool := r49 != 0
  let p51 : Bool := (p46 || b50)
  let r52 : S.Num := S.nat_Mul r7 (⟨([] : List Int)⟩ : S.Num)
  let r53 : Int := S.nat_Nat_Len r52
  let b54 : Bool := r53 != 0
  let p55 : Bool := (p51 || b54)
  let r56 : S.Num × Int := S.nat_Sub r7 r8
  let r57 : Int := S.nat_Cmp r7 r8
  let b58 : Bool := r56.2 == 0
  let b59 : Bool := decide (r57 ≥ 0)
  let b60 : Bool := b58 == b59
  let b61 : Bool := r57 == 0
  let b62 : Bool := r56.2 == 0
  let r63 : Int := S.nat_Nat_Len r56.1
  let b64 : Bool := r63 == 0
  let p65 : Bool := (b62 && b64)
  let b66 : Bool := b61 == p65
  let p67 : Bool := (b60 && b66)
  let r68 : S.Num := S.nat_Add r7 r9
  let r69 : S.Num := S.nat_Add r8 r9
  let r70 : Int := S.nat_Cmp r68 r69
  let b71 : Bool := r70 == r57
  let p72 : Bool := (p67 && b71)
  ((p5 = true → (All [S.law01_works_pre] ∧ True)) ∧ (p5 = false → (All [S.nat_Limbs_pre a, S.nat_Limbs_pre b, S.nat_Limbs_pre c, S.nat_Add_pre r7 r8, S.nat_Add_pre r8 r7, S.nat_Cmp_pre r10 r11, (b13 = false → S.nat_Add_pre r10 r9), (b13 = false → S.nat_Add_pre r8 r9), (b13 = false → S.nat_Add_pre r7 r15), (b13 = false → S.nat_Cmp_pre r14 r16), (p19 = false → S.nat_Mul_pre r7 r8), (p19 = false → S.nat_Mul_pre r8 r7), (p19 = false → S.nat_Cmp_pre r20 r21), (p24 = false → S.nat_Mul_pre r7 r8), (p24 = false → S.nat_Mul_pre r25 r9), (p24 = false → S.nat_Mul_pre r8 r9), (p24 = false → S.nat_Mul_pre r7 r27), (p24 = false → S.nat_Cmp_pre r26 r28), (p31 = false → S.nat_Mul_pre r10 r9), (p31 = false → S.nat_Mul_pre r7 r9), (p31 = false → S.nat_Mul_pre r8 r9), (p31 = false → S.nat_Add_pre r33 r34), (p31 = false → S.nat_Cmp_pre r32 r35)] ∧ ((p38 = true → True) ∧ (p38 = false → (All [S.nat_Sub_pre r10 r8, (b40 = false → S.nat_Cmp_pre r39.1 r7), (p43 = false → S.nat_Cmp_pre r10 r7), (p46 = false → S.nat_Of_pre 1), (p46 = false → S.nat_Mul_pre r7 r47), (p46 = false → S.nat_Cmp_pre r48 r7), (p51 = false → S.nat_Mul_pre r7 (⟨([] : List Int)⟩ : S.Num))] ∧ ((p55 = true → True) ∧ (p55 = false → (All [S.nat_Sub_pre r7 r8, S.nat_Cmp_pre r7 r8, (p67 = true → S.nat_Add_pre r7 r9), (p67 = true → S.nat_Add_pre r8 r9), (p67 = true → S.nat_Cmp_pre r68 r69), (p72 = true → S.law01_works_pre)] ∧ True)))))))))
@[ext] structure S.ref01_trim_L0 where
  out : (List Int)
def S.ref01_trim_L0_step (x : S.ref01_trim_L0) : S.ref01_trim_L0 ⊕ (S.ref01_trim_L0) :=
  let b1 : Bool := decide ((x.out.length : Int) > 0)
  let t2 : Int := IntKind.i64.wrap ((x.out.length : Int) - 1)
  let e3 : Int := x.out.getD (Int.toNat t2) 0
  let b4 : Bool := e3 == 0
  let p5 : Bool := (b1 && b4)
  let t6 : Int := IntKind.i64.wrap ((x.out.length : Int) - 1)
  let l7 : (List Int) := x.out.take (Int.toNat t6)
  (bif p5 then (.inl ⟨l7⟩) else (.inr ⟨x.out⟩))
def S.ref01_trim_L0_vcs (x : S.ref01_trim_L0) : Prop :=
  let b1 : Bool := decide ((x.out.length : Int) > 0)
  let t2 : Int := IntKind.i64.wrap ((x.out.length : Int) - 1)
  let e3 : Int := x.out.getD (Int.toNat t2) 0
  let b4 : Bool := e3 == 0
  let p5 : Bool := (b1 && b4)
  let t6 : Int := IntKind.i64.wrap ((x.out.length : Int) - 1)
  (All [(b1 = true → ((0 : Int) ≤ t2 ∧ t2 < (x.out.length : Int)))] ∧ ((p5 = true → (All [(0 : Int) ≤ t6, t6 ≤ (x.out.length : Int)] ∧ True)) ∧ (p5 = false → True)))
noncomputable def S.ref01_trim_L0_run (x : S.ref01_trim_L0) : S.ref01_trim_L0 := theRun (fun x => x) S.ref01_trim_L0_step S.ref01_trim_L0_vcs x
/-- sieveholesref01.trim -/
noncomputable def S.ref01_trim (l : (List Int)) : (List Int) :=
  let l1 : List Int := ([] : List Int) ++ l
  let x2 : S.ref01_trim_L0 := (⟨l1⟩ : S.ref01_trim_L0)
  let y3 : S.ref01_trim_L0 := S.ref01_trim_L0_run x2
  y3.out
def S.ref01_trim_pre (l : (List Int)) : Prop :=
  let l1 : List Int := ([] : List Int) ++ l
  let x2 : S.ref01_trim_L0 := (⟨l1⟩ : S.ref01_trim_L0)
  (All [((([] : List Int).length + l.length : Nat) : Int) * 1 ≤ 140737488355328, Runs S.ref01_trim_L0_step S.ref01_trim_L0_vcs x2 (S.ref01_trim_L0_run x2)] ∧ True)
@[ext] structure S.ref01_Of_L2 where
  n : Int
  k : Int
  out : (List Int)
def S.ref01_Of_L2_step (x : S.ref01_Of_L2) : S.ref01_Of_L2 ⊕ (S.ref01_Of_L2) :=
  let b1 : Bool := decide (x.k < 8)
  let t2 : Int := Int.tmod x.n 256
  let t3 : Int := IntKind.u8.wrap t2
  let l4 : List Int := x.out ++ ([t3] : List Int)
  let t5 : Int := IntKind.u64.wrap (Int.tdiv x.n 256)
  let t6 : Int := IntKind.i64.wrap (x.k + 1)
  (bif b1 then (.inl ⟨t5, t6, l4⟩) else (.inr ⟨x.n, x.k, x.out⟩))
def S.ref01_Of_L2_vcs (x : S.ref01_Of_L2) : Prop :=
  let b1 : Bool := decide (x.k < 8)
  let t2 : Int := Int.tmod x.n 256
  let t3 : Int := IntKind.u8.wrap t2
  ((b1 = true → (All [((x.out.length + ([t3] : List Int).length : Nat) : Int) * 1 ≤ 140737488355328] ∧ True)) ∧ (b1 = false → True))
noncomputable def S.ref01_Of_L2_run (x : S.ref01_Of_L2) : S.ref01_Of_L2 := theRun (fun x => x) S.ref01_Of_L2_step S.ref01_Of_L2_vcs x
@[ext] structure S.ref01_Of_L0 where
  l : (List Int)
  i : Int
  out : (List Int)
noncomputable def S.ref01_Of_L0_step (x : S.ref01_Of_L0) : S.ref01_Of_L0 ⊕ (S.ref01_Of_L0) :=
  let b1 : Bool := decide (x.i < (x.l.length : Int))
  let e2 : Int := x.l.getD (Int.toNat x.i) 0
  let x3 : S.ref01_Of_L2 := (⟨e2, 0, x.out⟩ : S.ref01_Of_L2)
  let y4 : S.ref01_Of_L2 := S.ref01_Of_L2_run x3
  let t5 : Int := IntKind.i64.wrap (x.i + 1)
  (bif b1 then (.inl ⟨x.l, t5, y4.out⟩) else (.inr ⟨x.l, x.i, x.out⟩))
noncomputable def S.ref01_Of_L0_vcs (x : S.ref01_Of_L0) : Prop :=
  let b1 : Bool := decide (x.i < (x.l.length : Int))
  let e2 : Int := x.l.getD (Int.toNat x.i) 0
  let x3 : S.ref01_Of_L2 := (⟨e2, 0, x.out⟩ : S.ref01_Of_L2)
  ((b1 = true → (All [(0 : Int) ≤ x.i, x.i < (x.l.length : Int), Runs S.ref01_Of_L2_step S.ref01_Of_L2_vcs x3 (S.ref01_Of_L2_run x3)] ∧ True)) ∧ (b1 = false → True))
noncomputable def S.ref01_Of_L0_run (x : S.ref01_Of_L0) : S.ref01_Of_L0 := theRun (fun x => x) S.ref01_Of_L0_step S.ref01_Of_L0_vcs x
/-- sieveholesref01.Of -/
noncomputable def S.ref01_Of (l : (List Int)) : (List Int) :=
  let x1 : S.ref01_Of_L0 := (⟨l, 0, ([] : List Int)⟩ : S.ref01_Of_L0)
  let y2 : S.ref01_Of_L0 := S.ref01_Of_L0_run x1
  let r3 : (List Int) := S.ref01_trim y2.out
  r3
def S.ref01_Of_pre (l : (List Int)) : Prop :=
  let x1 : S.ref01_Of_L0 := (⟨l, 0, ([] : List Int)⟩ : S.ref01_Of_L0)
  let y2 : S.ref01_Of_L0 := S.ref01_Of_L0_run x1
  (All [Runs S.ref01_Of_L0_step S.ref01_Of_L0_vcs x1 (S.ref01_Of_L0_run x1), S.ref01_trim_pre y2.out] ∧ True)
/-- sieveholesref01.at -/
def S.ref01_at (n : (List Int)) (i : Int) : Int :=
  let b1 : Bool := decide (i < (n.length : Int))
  let e2 : Int := n.getD (Int.toNat i) 0
  let t3 : Int := IntKind.i64.wrap e2
  (bif b1 then t3 else 0)
def S.ref01_at_pre (n : (List Int)) (i : Int) : Prop :=
  let b1 : Bool := decide (i < (n.length : Int))
  ((b1 = true → (All [(0 : Int) ≤ i, i < (n.length : Int)] ∧ True)) ∧ (b1 = false → True))
@[ext] structure S.ref01_Add_L0 where
  a : (List Int)
  b : (List Int)
  carry : Int
  i : Int
  out : (List Int)
def S.ref01_Add_L0_step (x : S.ref01_Add_L0) : S.ref01_Add_L0 ⊕ (S.ref01_Add_L0) :=
  let b1 : Bool := decide (x.i < (x.a.length : Int))
  let b2 : Bool := decide (x.i < (x.b.length : Int))
  let p3 : Bool := (b1 || b2)
  let b4 : Bool := decide (x.carry > 0)
  let p5 : Bool := (p3 || b4)
  let r6 : Int := S.ref01_at x.a x.i
  let r7 : Int := S.ref01_at x.b x.i
  let t8 : Int := IntKind.i64.wrap (r6 + r7)
  let t9 : Int := IntKind.i64.wrap (t8 + x.carry)
  let t10 : Int := Int.tmod t9 256
  let t11 : Int := IntKind.u8.wrap t10
  let l12 : List Int := x.out ++ ([t11] : List Int)
  let t13 : Int := IntKind.i64.wrap (Int.tdiv t9 256)
  let t14 : Int := IntKind.i64.wrap (x.i + 1)
  (bif p5 then (.inl ⟨x.a, x.b, t13, t14, l12⟩) else (.inr ⟨x.a, x.b, x.carry, x.i, x.out⟩))
def S.ref01_Add_L0_vcs (x : S.ref01_Add_L0) : Prop :=
  let b1 : Bool := decide (x.i < (x.a.length : Int))
  let b2 : Bool := decide (x.i < (x.b.length : Int))
  let p3 : Bool := (b1 || b2)
  let b4 : Bool := decide (x.carry > 0)
  let p5 : Bool := (p3 || b4)
  let r6 : Int := S.ref01_at x.a x.i
  let r7 : Int := S.ref01_at x.b x.i
  let t8 : Int := IntKind.i64.wrap (r6 + r7)
  let t9 : Int := IntKind.i64.wrap (t8 + x.carry)
  let t10 : Int := Int.tmod t9 256
  let t11 : Int := IntKind.u8.wrap t10
  ((p5 = true → (All [S.ref01_at_pre x.a x.i, S.ref01_at_pre x.b x.i, ((x.out.length + ([t11] : List Int).length : Nat) : Int) * 1 ≤ 140737488355328] ∧ True)) ∧ (p5 = false → True))
noncomputable def S.ref01_Add_L0_run (x : S.ref01_Add_L0) : S.ref01_Add_L0 := theRun (fun x => x) S.ref01_Add_L0_step S.ref01_Add_L0_vcs x
/-- sieveholesref01.Add -/
noncomputable def S.ref01_Add (a : (List Int)) (b : (List Int)) : (List Int) :=
  let x1 : S.ref01_Add_L0 := (⟨a, b, 0, 0, ([] : List Int)⟩ : S.ref01_Add_L0)
  let y2 : S.ref01_Add_L0 := S.ref01_Add_L0_run x1
  let r3 : (List Int) := S.ref01_trim y2.out
  r3
def S.ref01_Add_pre (a : (List Int)) (b : (List Int)) : Prop :=
  let x1 : S.ref01_Add_L0 := (⟨a, b, 0, 0, ([] : List Int)⟩ : S.ref01_Add_L0)
  let y2 : S.ref01_Add_L0 := S.ref01_Add_L0_run x1
  (All [Runs S.ref01_Add_L0_step S.ref01_Add_L0_vcs x1 (S.ref01_Add_L0_run x1), S.ref01_trim_pre y2.out] ∧ True)
@[ext] structure S.ref01_Mul_L2 where
  a : (List Int)
  b : (List Int)
  i : Int
  k : Int
  sums : (List Int)
def S.ref01_Mul_L2_step (x : S.ref01_Mul_L2) : S.ref01_Mul_L2 ⊕ (S.ref01_Mul_L2) :=
  let b1 : Bool := decide (x.k < (x.b.length : Int))
  let t2 : Int := IntKind.i64.wrap (x.i + x.k)
  let e3 : Int := x.sums.getD (Int.toNat t2) 0
  let e4 : Int := x.a.getD (Int.toNat x.i) 0
  let t5 : Int := IntKind.i64.wrap e4
  let e6 : Int := x.b.getD (Int.toNat x.k) 0
  let t7 : Int := IntKind.i64.wrap e6
  let t8 : Int := IntKind.i64.wrap (t5 * t7)
  let t9 : Int := IntKind.i64.wrap (e3 + t8)
  let t10 : Int := IntKind.i64.wrap (x.i + x.k)
  let t11 : Int := Int.tmod t9 256
  let l12 : List Int := x.sums.set (Int.toNat t10) t11
  let t13 : Int := IntKind.i64.wrap (x.i + x.k)
  let t14 : Int := IntKind.i64.wrap (t13 + 1)
  let t15 : Int := IntKind.i64.wrap (x.i + x.k)
  let t16 : Int := IntKind.i64.wrap (t15 + 1)
  let e17 : Int := l12.getD (Int.toNat t16) 0
  let t18 : Int := IntKind.i64.wrap (Int.tdiv t9 256)
  let t19 : Int := IntKind.i64.wrap (e17 + t18)
  let l20 : List Int := l12.set (Int.toNat t14) t19
  let t21 : Int := IntKind.i64.wrap (x.k + 1)
  (bif b1 then (.inl ⟨x.a, x.b, x.i, t21, l20⟩) else (.inr ⟨x.a, x.b, x.i, x.k, x.sums⟩))
def S.ref01_Mul_L2_vcs (x : S.ref01_Mul_L2) : Prop :=
  let b1 : Bool := decide (x.k < (x.b.length : Int))
  let t2 : Int := IntKind.i64.wrap (x.i + x.k)
  let e3 : Int := x.sums.getD (Int.toNat t2) 0
  let e4 : Int := x.a.getD (Int.toNat x.i) 0
  let t5 : Int := IntKind.i64.wrap e4
  let e6 : Int := x.b.getD (Int.toNat x.k) 0
  let t7 : Int := IntKind.i64.wrap e6
  let t8 : Int := IntKind.i64.wrap (t5 * t7)
  let t9 : Int := IntKind.i64.wrap (e3 + t8)
  let t10 : Int := IntKind.i64.wrap (x.i + x.k)
  let t11 : Int := Int.tmod t9 256
  let l12 : List Int := x.sums.set (Int.toNat t10) t11
  let t13 : Int := IntKind.i64.wrap (x.i + x.k)
  let t14 : Int := IntKind.i64.wrap (t13 + 1)
  let t15 : Int := IntKind.i64.wrap (x.i + x.k)
  let t16 : Int := IntKind.i64.wrap (t15 + 1)
  ((b1 = true → (All [(0 : Int) ≤ t2, t2 < (x.sums.length : Int), (0 : Int) ≤ x.i, x.i < (x.a.length : Int), (0 : Int) ≤ x.k, x.k < (x.b.length : Int), (0 : Int) ≤ t10, t10 < (x.sums.length : Int), (0 : Int) ≤ t16, t16 < (l12.length : Int), (0 : Int) ≤ t14, t14 < (l12.length : Int)] ∧ True)) ∧ (b1 = false → True))
noncomputable def S.ref01_Mul_L2_run (x : S.ref01_Mul_L2) : S.ref01_Mul_L2 := theRun (fun x => x) S.ref01_Mul_L2_step S.ref01_Mul_L2_vcs x
@[ext] structure S.ref01_Mul_L0 where
  a : (List Int)
  b : (List Int)
  i : Int
  sums : (List Int)
noncomputable def S.ref01_Mul_L0_step (x : S.ref01_Mul_L0) : S.ref01_Mul_L0 ⊕ (S.ref01_Mul_L0) :=
  let b1 : Bool := decide (x.i < (x.a.length : Int))
  let x2 : S.ref01_Mul_L2 := (⟨x.a, x.b, x.i, 0, x.sums⟩ : S.ref01_Mul_L2)
  let y3 : S.ref01_Mul_L2 := S.ref01_Mul_L2_run x2
  let t4 : Int := IntKind.i64.wrap (y3.i + 1)
  (bif b1 then (.inl ⟨y3.a, y3.b, t4, y3.sums⟩) else (.inr ⟨x.a, x.b, x.i, x.sums⟩))
noncomputable def S.ref01_Mul_L0_vcs (x : S.ref01_Mul_L0) : Prop :=
  let b1 : Bool := decide (x.i < (x.a.length : Int))
  let x2 : S.ref01_Mul_L2 := (⟨x.a, x.b, x.i, 0, x.sums⟩ : S.ref01_Mul_L2)
  ((b1 = true → (All [Runs S.ref01_Mul_L2_step S.ref01_Mul_L2_vcs x2 (S.ref01_Mul_L2_run x2)] ∧ True)) ∧ (b1 = false → True))
noncomputable def S.ref01_Mul_L0_run (x : S.ref01_Mul_L0) : S.ref01_Mul_L0 := theRun (fun x => x) S.ref01_Mul_L0_step S.ref01_Mul_L0_vcs x
@[ext] structure S.ref01_Mul_L4 where
  carry : Int
  i : Int
  sums : (List Int)
  out : (List Int)
def S.ref01_Mul_L4_step (x : S.ref01_Mul_L4) : S.ref01_Mul_L4 ⊕ (S.ref01_Mul_L4) :=
  let b1 : Bool := decide (x.i < (x.sums.length : Int))
  let e2 : Int := x.sums.getD (Int.toNat x.i) 0
  let t3 : Int := IntKind.i64.wrap (e2 + x.carry)
  let t4 : Int := Int.tmod t3 256
  let t5 : Int := IntKind.u8.wrap t4
  let l6 : List Int := x.out ++ ([t5] : List Int)
  let t7 : Int := IntKind.i64.wrap (Int.tdiv t3 256)
  let t8 : Int := IntKind.i64.wrap (x.i + 1)
  (bif b1 then (.inl ⟨t7, t8, x.sums, l6⟩) else (.inr ⟨x.carry, x.i, x.sums, x.out⟩))
def S.ref01_Mul_L4_vcs (x : S.ref01_Mul_L4) : Prop :=
  let b1 : Bool := decide (x.i < (x.sums.length : Int))
  let e2 : Int := x.sums.getD (Int.toNat x.i) 0
  let t3 : Int := IntKind.i64.wrap (e2 + x.carry)
  let t4 : Int := Int.tmod t3 256
  let t5 : Int := IntKind.u8.wrap t4
  ((b1 = true → (All [(0 : Int) ≤ x.i, x.i < (x.sums.length : Int), ((x.out.length + ([t5] : List Int).length : Nat) : Int) * 1 ≤ 140737488355328] ∧ True)) ∧ (b1 = false → True))
noncomputable def S.ref01_Mul_L4_run (x : S.ref01_Mul_L4) : S.ref01_Mul_L4 := theRun (fun x => x) S.ref01_Mul_L4_step S.ref01_Mul_L4_vcs x
@[ext] structure S.ref01_Mul_L6 where
  carry : Int
  out : (List Int)
def S.ref01_Mul_L6_step (x : S.ref01_Mul_L6) : S.ref01_Mul_L6 ⊕ (S.ref01_Mul_L6) :=
  let b1 : Bool := decide (x.carry > 0)
  let t2 : Int := Int.tmod x.carry 256
  let t3 : Int := IntKind.u8.wrap t2
  let l4 : List Int := x.out ++ ([t3] : List Int)
  let t5 : Int := IntKind.i64.wrap (Int.tdiv x.carry 256)
  (bif b1 then (.inl ⟨t5, l4⟩) else (.inr ⟨x.carry, x.out⟩))
def S.ref01_Mul_L6_vcs (x : S.ref01_Mul_L6) : Prop :=
  let b1 : Bool := decide (x.carry > 0)
  let t2 : Int := Int.tmod x.carry 256
  let t3 : Int := IntKind.u8.wrap t2
  ((b1 = true → (All [((x.out.length + ([t3] : List Int).length : Nat) : Int) * 1 ≤ 140737488355328] ∧ True)) ∧ (b1 = false → True))
noncomputable def S.ref01_Mul_L6_run (x : S.ref01_Mul_L6) : S.ref01_Mul_L6 := theRun (fun x => x) S.ref01_Mul_L6_step S.ref01_Mul_L6_vcs x
/-- sieveholesref01.Mul -/
noncomputable def S.ref01_Mul (a : (List Int)) (b : (List Int)) : (List Int) :=
  let t1 : Int := IntKind.i64.wrap ((a.length : Int) + (b.length : Int))
  let t2 : Int := IntKind.i64.wrap (t1 + 1)
  let x3 : S.ref01_Mul_L0 := (⟨a, b, 0, (List.replicate (Int.toNat t2) (0 : Int))⟩ : S.ref01_Mul_L0)
  let y4 : S.ref01_Mul_L0 := S.ref01_Mul_L0_run x3
  let x5 : S.ref01_Mul_L4 := (⟨0, 0, y4.sums, ([] : List Int)⟩ : S.ref01_Mul_L4)
  let y6 : S.ref01_Mul_L4 := S.ref01_Mul_L4_run x5
  let x7 : S.ref01_Mul_L6 := (⟨y6.carry, y6.out⟩ : S.ref01_Mul_L6)
  let y8 : S.ref01_Mul_L6 := S.ref01_Mul_L6_run x7
  let r9 : (List Int) := S.ref01_trim y8.out
  r9
def S.ref01_Mul_pre (a : (List Int)) (b : (List Int)) : Prop :=
  let t1 : Int := IntKind.i64.wrap ((a.length : Int) + (b.length : Int))
  let t2 : Int := IntKind.i64.wrap (t1 + 1)
  let x3 : S.ref01_Mul_L0 := (⟨a, b, 0, (List.replicate (Int.toNat t2) (0 : Int))⟩ : S.ref01_Mul_L0)
  let y4 : S.ref01_Mul_L0 := S.ref01_Mul_L0_run x3
  let x5 : S.ref01_Mul_L4 := (⟨0, 0, y4.sums, ([] : List Int)⟩ : S.ref01_Mul_L4)
  let y6 : S.ref01_Mul_L4 := S.ref01_Mul_L4_run x5
  let x7 : S.ref01_Mul_L6 := (⟨y6.carry, y6.out⟩ : S.ref01_Mul_L6)
  let y8 : S.ref01_Mul_L6 := S.ref01_Mul_L6_run x7
  (All [(0 : Int) ≤ t2, t2 = t2, t2 * 8 ≤ 140737488355328, Runs S.ref01_Mul_L0_step S.ref01_Mul_L0_vcs x3 (S.ref01_Mul_L0_run x3), Runs S.ref01_Mul_L4_step S.ref01_Mul_L4_vcs x5 (S.ref01_Mul_L4_run x5), Runs S.ref01_Mul_L6_step S.ref01_Mul_L6_vcs x7 (S.ref01_Mul_L6_run x7), S.ref01_trim_pre y8.out] ∧ True)
@[ext] structure S.ref01_Cmp_L0 where
  a : (List Int)
  b : (List Int)
  t4 : Int
  i : Int
def S.ref01_Cmp_L0_step (x : S.ref01_Cmp_L0) : S.ref01_Cmp_L0 ⊕ (Bool × S.ref01_Cmp_L0) :=
  let b1 : Bool := decide (x.i ≥ 0)
  let e2 : Int := x.a.getD (Int.toNat x.i) 0
  let e3 : Int := x.b.getD (Int.toNat x.i) 0
  let b4 : Bool := decide (e2 < e3)
  let e5 : Int := x.a.getD (Int.toNat x.i) 0
  let e6 : Int := x.b.getD (Int.toNat x.i) 0
  let b7 : Bool := decide (e5 > e6)
  let t8 : Int := IntKind.i64.wrap (x.i - 1)
  (bif b1 then (bif b4 then (.inr ⟨true, ⟨x.a, x.b, (-1), x.i⟩⟩) else (bif b7 then (.inr ⟨true, ⟨x.a, x.b, 1, x.i⟩⟩) else (.inl ⟨x.a, x.b, x.t4, t8⟩))) else (.inr ⟨false, ⟨x.a, x.b, x.t4, x.i⟩⟩))
def S.ref01_Cmp_L0_vcs (x : S.ref01_Cmp_L0) : Prop :=
  let b1 : Bool := decide (x.i ≥ 0)
  let e2 : Int := x.a.getD (Int.toNat x.i) 0
  let e3 : Int := x.b.getD (Int.toNat x.i) 0
  let b4 : Bool := decide (e2 < e3)
  let e5 : Int := x.a.getD (Int.toNat x.i) 0
  let e6 : Int := x.b.getD (Int.toNat x.i) 0
  let b7 : Bool := decide (e5 > e6)
  ((b1 = true → (All [(0 : Int) ≤ x.i, x.i < (x.a.length : Int), (0 : Int) ≤ x.i, x.i < (x.b.length : Int)] ∧ ((b4 = true → True) ∧ (b4 = false → (All [(0 : Int) ≤ x.i, x.i < (x.a.length : Int), (0 : Int) ≤ x.i, x.i < (x.b.length : Int)] ∧ ((b7 = true → True) ∧ (b7 = false → True))))))) ∧ (b1 = false → True))
noncomputable def S.ref01_Cmp_L0_run (x : S.ref01_Cmp_L0) : Bool × S.ref01_Cmp_L0 := theRun (fun x => ⟨true, x⟩) S.ref01_Cmp_L0_step S.ref01_Cmp_L0_vcs x
/-- sieveholesref01.Cmp -/
noncomputable def S.ref01_Cmp (a : (List Int)) (b : (List Int)) : Int :=
  let b1 : Bool := (a.length : Int) != (b.length : Int)
  let b2 : Bool := decide ((a.length : Int) < (b.length : Int))
  let t3 : Int := IntKind.i64.wrap ((a.length : Int) - 1)
  let x4 : S.ref01_Cmp_L0 := (⟨a, b, 0, t3⟩ : S.ref01_Cmp_L0)
  let y5 : Bool × S.ref01_Cmp_L0 := S.ref01_Cmp_L0_run x4
  (bif b1 then (bif b2 then (-1) else 1) else (bif y5.1 then y5.2.t4 else 0))
def S.ref01_Cmp_pre (a : (List Int)) (b : (List Int)) : Prop :=
  let b1 : Bool := (a.length : Int) != (b.length : Int)
  let b2 : Bool := decide ((a.length : Int) < (b.length : Int))
  let t3 : Int := IntKind.i64.wrap ((a.length : Int) - 1)
  let x4 : S.ref01_Cmp_L0 := (⟨a, b, 0, t3⟩ : S.ref01_Cmp_L0)
  let y5 : Bool × S.ref01_Cmp_L0 := S.ref01_Cmp_L0_run x4
  ((b1 = true → ((b2 = true → True) ∧ (b2 = false → True))) ∧ (b1 = false → (All [Runs S.ref01_Cmp_L0_step S.ref01_Cmp_L0_vcs x4 (S.ref01_Cmp_L0_run x4)] ∧ ((y5.1 = true → True) ∧ (y5.1 = false → True)))))
@[ext] structure S.ref01_Sub_L0 where
  a : (List Int)
  b : (List Int)
  borrow : Int
  i : Int
  out : (List Int)
def S.ref01_Sub_L0_step (x : S.ref01_Sub_L0) : S.ref01_Sub_L0 ⊕ (S.ref01_Sub_L0) :=
  let b1 : Bool := decide (x.i < (x.a.length : Int))
  let r2 : Int := S.ref01_at x.a x.i
  let r3 : Int := S.ref01_at x.b x.i
  let t4 : Int := IntKind.i64.wrap (r2 - r3)
  let t5 : Int := IntKind.i64.wrap (t4 - x.borrow)
  let b6 : Bool := decide (t5 < 0)
  let t7 : Int := IntKind.i64.wrap (t5 + 256)
  let t8 : Int := IntKind.u8.wrap (bif b6 then t7 else t5)
  let l9 : List Int := x.out ++ ([t8] : List Int)
  let t10 : Int := IntKind.i64.wrap (x.i + 1)
  (bif b1 then (.inl ⟨x.a, x.b, (bif b6 then 1 else 0), t10, l9⟩) else (.inr ⟨x.a, x.b, x.borrow, x.i, x.out⟩))
def S.ref01_Sub_L0_vcs (x : S.ref01_Sub_L0) : Prop :=
  let b1 : Bool := decide (x.i < (x.a.length : Int))
  let r2 : Int := S.ref01_at x.a x.i
  let r3 : Int := S.ref01_at x.b x.i
  let t4 : Int := IntKind.i64.wrap (r2 - r3)
  let t5 : Int := IntKind.i64.wrap (t4 - x.borrow)
  let b6 : Bool := decide (t5 < 0)
  let t7 : Int := IntKind.i64.wrap (t5 + 256)
  let t8 : Int := IntKind.u8.wrap (bif b6 then t7 else t5)
  ((b1 = true → (All [S.ref01_at_pre x.a x.i, S.ref01_at_pre x.b x.i, ((x.out.length + ([t8] : List Int).length : Nat) : Int) * 1 ≤ 140737488355328] ∧ True)) ∧ (b1 = false → True))
noncomputable def S.ref01_Sub_L0_run (x : S.ref01_Sub_L0) : S.ref01_Sub_L0 := theRun (fun x => x) S.ref01_Sub_L0_step S.ref01_Sub_L0_vcs x
/-- sieveholesref01.Sub -/
noncomputable def S.ref01_Sub (a : (List Int)) (b : (List Int)) : (List Int) :=
  let x1 : S.ref01_Sub_L0 := (⟨a, b, 0, 0, ([] : List Int)⟩ : S.ref01_Sub_L0)
  let y2 : S.ref01_Sub_L0 := S.ref01_Sub_L0_run x1
  let r3 : (List Int) := S.ref01_trim y2.out
  r3
def S.ref01_Sub_pre (a : (List Int)) (b : (List Int)) : Prop :=
  let x1 : S.ref01_Sub_L0 := (⟨a, b, 0, 0, ([] : List Int)⟩ : S.ref01_Sub_L0)
  let y2 : S.ref01_Sub_L0 := S.ref01_Sub_L0_run x1
  (All [Runs S.ref01_Sub_L0_step S.ref01_Sub_L0_vcs x1 (S.ref01_Sub_L0_run x1), S.ref01_trim_pre y2.out] ∧ True)
/-- sieveholesref01.Same -/
noncomputable def S.ref01_Same (a : (List Int)) (b : (List Int)) : Bool :=
  let r1 : Int := S.ref01_Cmp a b
  let b2 : Bool := r1 == 0
  b2
def S.ref01_Same_pre (a : (List Int)) (b : (List Int)) : Prop :=
  (All [S.ref01_Cmp_pre a b] ∧ True)
@[ext] structure S.law01_is_L2 where
  i : Int
  l : (List Int)
def S.law01_is_L2_step (x : S.law01_is_L2) : S.law01_is_L2 ⊕ (S.law01_is_L2) :=
  let b1 : Bool := decide (x.i < (x.l.length : Int))
  let l2 : List Int := x.l.set (Int.toNat x.i) 7
  let t3 : Int := IntKind.i64.wrap (x.i + 1)
  (bif b1 then (.inl ⟨t3, l2⟩) else (.inr ⟨x.i, x.l⟩))
def S.law01_is_L2_vcs (x : S.law01_is_L2) : Prop :=
  let b1 : Bool := decide (x.i < (x.l.length : Int))
  ((b1 = true → (All [(0 : Int) ≤ x.i, x.i < (x.l.length : Int)] ∧ True)) ∧ (b1 = false → True))
noncomputable def S.law01_is_L2_run (x : S.law01_is_L2) : S.law01_is_L2 := theRun (fun x => x) S.law01_is_L2_step S.law01_is_L2_vcs x
@[ext] structure S.law01_is_L0 where
  want : (List Int)
  t4 : Bool
  t : Int
  n : S.Num
noncomputable def S.law01_is_L0_step (x : S.law01_is_L0) : S.law01_is_L0 ⊕ (Bool × S.law01_is_L0) :=
  let b1 : Bool := decide (x.t < 2)
  let r2 : (List Int) := S.nat_Nat_All x.n
  let r3 : Int := S.nat_Nat_Len x.n
  let b4 : Bool := (r2.length : Int) != r3
  let b5 : Bool := decide ((r2.length : Int) > 0)
  let t6 : Int := IntKind.i64.wrap ((r2.length : Int) - 1)
  let e7 : Int := r2.getD (Int.toNat t6) 0
  let b8 : Bool := e7 == 0
  let p9 : Bool := (b5 && b8)
  let p10 : Bool := (b4 || p9)
  let r11 : (List Int) := S.ref01_Of r2
  let r12 : Bool := S.ref01_Same r11 x.want
  let b13 : Bool := !r12
  let p14 : Bool := (p10 || b13)
  let t17 : Int := IntKind.i64.wrap (x.t + 1)
  (bif b1 then (bif p14 then (.inr ⟨true, ⟨x.want, false, x.t, x.n⟩⟩) else (.inl ⟨x.want, x.t4, t17, x.n⟩)) else (.inr ⟨false, ⟨x.want, x.t4, x.t, x.n⟩⟩))
noncomputable def S.law01_is_L0_vcs (x : S.law01_is_L0) : Prop :=
  let b1 : Bool := decide (x.t < 2)
  let r2 : (List Int) := S.nat_Nat_All x.n
  let r3 : Int := S.nat_Nat_Len x.n
  let b4 : Bool := (r2.length : Int) != r3
  let b5 : Bool := decide ((r2.length : Int) > 0)
  let t6 : Int := IntKind.i64.wrap ((r2.length : Int) - 1)
  let e7 : Int := r2.getD (Int.toNat t6) 0
  let b8 : Bool := e7 == 0
  let p9 : Bool := (b5 && b8)
  let p10 : Bool := (b4 || p9)
  let r11 : (List Int) := S.ref01_Of r2
  let r12 : Bool := S.ref01_Same r11 x.want
  let b13 : Bool := !r12
  let p14 : Bool := (p10 || b13)
  let x15 : S.law01_is_L2 := (⟨0, r2⟩ : S.law01_is_L2)
  ((b1 = true → (All [S.nat_Nat_All_pre x.n, (b4 = false → (b5 = true → ((0 : Int) ≤ t6 ∧ t6 < (r2.length : Int)))), (p10 = false → S.ref01_Of_pre r2), (p10 = false → S.ref01_Same_pre r11 x.want)] ∧ ((p14 = true → True) ∧ (p14 = false → (All [Runs S.law01_is_L2_step S.law01_is_L2_vcs x15 (S.law01_is_L2_run x15)] ∧ True))))) ∧ (b1 = false → True))
noncomputable def S.law01_is_L0_run (x : S.law01_is_L0) : Bool × S.law01_is_L0 := theRun (fun x => ⟨true, x⟩) S.law01_is_L0_step S.law01_is_L0_vcs x
/-- sieveholeslaw01.is -/
noncomputable def S.law01_is (n : S.Num) (want : (List Int)) : Bool :=
  let x1 : S.law01_is_L0 := (⟨want, false, 0, n⟩ : S.law01_is_L0)
  let y2 : Bool × S.law01_is_L0 := S.law01_is_L0_run x1
  (bif y2.1 then y2.2.t4 else true)
def S.law01_is_pre (n : S.Num) (want : (List Int)) : Prop :=
  let x1 : S.law01_is_L0 := (⟨want, false, 0, n⟩ : S.law01_is_L0)
  let y2 : Bool × S.law01_is_L0 := S.law01_is_L0_run x1
  (All [Runs S.law01_is_L0_step S.law01_is_L0_vcs x1 (S.law01_is_L0_run x1)] ∧ ((y2.1 = true → True) ∧ (y2.1 = false → True)))
/-- (nat.Cap).Mul -/
noncomputable def S.nat_Cap_Mul (c : Int) (a : S.Num) (b : S.Num) : S.Num × Bool :=
  let r1 : S.Num := S.nat_Mul a b
  let r2 : S.Num × Bool := S.nat_Cap_fit c r1
  (r2.1, r2.2)
def S.nat_Cap_Mul_pre (c : Int) (a : S.Num) (b : S.Num) : Prop :=
  (All [S.nat_Mul_pre a b] ∧ True)
@[ext] structure S.ref01_Limbs_L2 where
  n : (List Int)
  i : Int
  vx : Int
  k : Int
def S.ref01_Limbs_L2_step (x : S.ref01_Limbs_L2) : S.ref01_Limbs_L2 ⊕ (S.ref01_Limbs_L2) :=
  let b1 : Bool := decide (x.k ≥ x.i)
  let t2 : Int := IntKind.u64.wrap (x.vx * 256)
  let e3 : Int := x.n.getD (Int.toNat x.k) 0
  let t4 : Int := IntKind.u64.wrap e3
  let t5 : Int := IntKind.u64.wrap (t2 + t4)
  let t6 : Int := IntKind.i64.wrap (x.k - 1)
  (bif b1 then (.inl ⟨x.n, x.i, t5, t6⟩) else (.inr ⟨x.n, x.i, x.vx, x.k⟩))
def S.ref01_Limbs_L2_vcs (x : S.ref01_Limbs_L2) : Prop :=
  let b1 : Bool := decide (x.k ≥ x.i)
  ((b1 = true → (All [(0 : Int) ≤ x.k, x.k < (x.n.length : Int)] ∧ True)) ∧ (b1 = false → True))
noncomputable def S.ref01_Limbs_L2_run (x : S.ref01_Limbs_L2) : S.ref01_Limbs_L2 := theRun (fun x => x) S.ref01_Limbs_L2_step S.ref01_Limbs_L2_vcs x
@[ext] structure S.ref01_Limbs_L0 where
  n : (List Int)
  i : Int
  out : (List Int)
noncomputable def S.ref01_Limbs_L0_step (x : S.ref01_Limbs_L0) : S.ref01_Limbs_L0 ⊕ (S.ref01_Limbs_L0) :=
  let b1 : Bool := decide (x.i < (x.n.length : Int))
  let t2 : Int := IntKind.i64.wrap (x.i + 8)
  let m3 : Int := if t2 < (x.n.length : Int) then t2 else (x.n.length : Int)
  let t4 : Int := IntKind.i64.wrap (m3 - 1)
  let x5 : S.ref01_Limbs_L2 := (⟨x.n, x.i, 0, t4⟩ : S.ref01_Limbs_L2)
  let y6 : S.ref01_Limbs_L2 := S.ref01_Limbs_L2_run x5
  let l7 : List Int := x.out ++ ([y6.vx] : List Int)
  let t8 : Int := IntKind.i64.wrap (y6.i + 8)
  (bif b1 then (.inl ⟨y6.n, t8, l7⟩) else (.inr ⟨x.n, x.i, x.out⟩))
noncomputable def S.ref01_Limbs_L0_vcs (x : S.ref01_Limbs_L0) : Prop :=
  let b1 : Bool := decide (x.i < (x.n.length : Int))
  let t2 : Int := IntKind.i64.wrap (x.i + 8)
  let m3 : Int := if t2 < (x.n.length : Int) then t2 else (x.n.length : Int)
  let t4 : Int := IntKind.i64.wrap (m3 - 1)
  let x5 : S.ref01_Limbs_L2 := (⟨x.n, x.i, 0, t4⟩ : S.ref01_Limbs_L2)
  let y6 : S.ref01_Limbs_L2 := S.ref01_Limbs_L2_run x5
  ((b1 = true → (All [Runs S.ref01_Limbs_L2_step S.ref01_Limbs_L2_vcs x5 (S.ref01_Limbs_L2_run x5), ((x.out.length + ([y6.vx] : List Int).length : Nat) : Int) * 8 ≤ 140737488355328] ∧ True)) ∧ (b1 = false → True))
noncomputable def S.ref01_Limbs_L0_run (x : S.ref01_Limbs_L0) : S.ref01_Limbs_L0 := theRun (fun x => x) S.ref01_Limbs_L0_step S.ref01_Limbs_L0_vcs x
/-- sieveholesref01.Limbs -/
noncomputable def S.ref01_Limbs (n : (List Int)) : (List Int) :=
  let x1 : S.ref01_Limbs_L0 := (⟨n, 0, ([] : List Int)⟩ : S.ref01_Limbs_L0)
  let y2 : S.ref01_Limbs_L0 := S.ref01_Limbs_L0_run x1
  y2.out
def S.ref01_Limbs_pre (n : (List Int)) : Prop :=
  let x1 : S.ref01_Limbs_L0 := (⟨n, 0, ([] : List Int)⟩ : S.ref01_Limbs_L0)
  (All [Runs S.ref01_Limbs_L0_step S.ref01_Limbs_L0_vcs x1 (S.ref01_Limbs_L0_run x1)] ∧ True)
/-- sieveholesref01.Fits -/
noncomputable def S.ref01_Fits (n : (List Int)) (limbs : Int) : Bool :=
  let r1 : (List Int) := S.ref01_Limbs n
  let m2 : Int := if limbs > 0 then limbs else 0
  let b3 : Bool := decide ((r1.length : Int) ≤ m2)
  b3
def S.ref01_Fits_pre (n : (List Int)) (limbs : Int) : Prop :=
  (All [S.ref01_Limbs_pre n] ∧ True)
@[ext] structure S.nat_Sum_L0 where
  t6 : (List S.Num)
  t7 : Int
  t8 : Int
  sum : S.Num
noncomputable def S.nat_Sum_L0_step (x : S.nat_Sum_L0) : S.nat_Sum_L0 ⊕ (S.nat_Sum_L0) :=
  let b1 : Bool := decide (x.t8 < x.t7)
  let e2 : S.Num := x.t6.getD (Int.toNat x.t8) (⟨[]⟩ : S.Num)
  let r3 : S.Num := S.nat_Add x.sum e2
  let t4 : Int := IntKind.i64.wrap (x.t8 + 1)
  (bif b1 then (.inl ⟨x.t6, x.t7, t4, r3⟩) else (.inr ⟨x.t6, x.t7, x.t8, x.sum⟩))
def S.nat_Sum_L0_vcs (x : S.nat_Sum_L0) : Prop :=
  let b1 : Bool := decide (x.t8 < x.t7)
  let e2 : S.Num := x.t6.getD (Int.toNat x.t8) (⟨[]⟩ : S.Num)
  ((b1 = true → (All [(0 : Int) ≤ x.t8, x.t8 < (x.t6.length : Int), S.nat_Add_pre x.sum e2] ∧ True)) ∧ (b1 = false → True))
noncomputable def S.nat_Sum_L0_run (x : S.nat_Sum_L0) : S.nat_Sum_L0 := theRun (fun x => x) S.nat_Sum_L0_step S.nat_Sum_L0_vcs x
/-- nat.Sum -/
noncomputable def S.nat_Sum (l : (List S.Num)) : S.Num :=
  let x1 : S.nat_Sum_L0 := (⟨l, (l.length : Int), 0, (⟨([] : List Int)⟩ : S.Num)⟩ : S.nat_Sum_L0)
  let y2 : S.nat_Sum_L0 := S.nat_Sum_L0_run x1
  y2.sum
def S.nat_Sum_pre (l : (List S.Num)) : Prop :=
  let x1 : S.nat_Sum_L0 := (⟨l, (l.length : Int), 0, (⟨([] : List Int)⟩ : S.Num)⟩ : S.nat_Sum_L0)
  (All [Runs S.nat_Sum_L0_step S.nat_Sum_L0_vcs x1 (S.nat_Sum_L0_run x1)] ∧ True)
/-- sieveholeslaw01.NatReckons -/
noncomputable def S.law01_NatReckons (a : (List Int)) (b : (List Int)) (c : Int) : Bool :=
  let b1 : Bool := decide ((a.length : Int) > 40)
  let b2 : Bool := decide ((b.length : Int) > 40)
  let p3 : Bool := (b1 || b2)
  let r4 : Bool := S.law01_works
  let r5 : (List Int) := S.ref01_Of a
  let r6 : (List Int) := S.ref01_Of b
  let r7 : S.Num := S.nat_Limbs a
  let r8 : S.Num := S.nat_Limbs b
  let r9 : (List Int) := S.ref01_Add r5 r6
  let r10 : (List Int) := S.ref01_Mul r5 r6
  let r11 : S.Num × Int := S.nat_Sub r7 r8
  let r12 : Int := S.ref01_Cmp r5 r6
  let b13 : Bool := decide (r12 < 0)
  let b14 : Bool := r11.2 == 11
  let b15 : Bool := !(b13 == b14)
  let b16 : Bool := !b13
  let b17 : Bool := r11.2 != 0
  let r18 : (List Int) := S.ref01_Sub r5 r6
  let r19 : Bool := S.law01_is r11.1 r18
  let b20 : Bool := !r19
  let p21 : Bool := (b17 || b20)
  let p22 : Bool := (b16 && p21)
  let p23 : Bool := (b15 || p22)
  let r24 : Bool := S.law01_is r11.1 ([] : List Int)
  let b25 : Bool := !r24
  let p26 : Bool := (b13 && b25)
  let p27 : Bool := (p23 || p26)
  let r28 : S.Num × Bool := S.nat_Cap_Add c r7 r8
  let r29 : S.Num × Bool := S.nat_Cap_Mul c r7 r8
  let r30 : Bool := S.ref01_Fits r9 c
  let b31 : Bool := !(r28.2 == r30)
  let r32 : Bool := S.ref01_Fits r10 c
  let b33 : Bool := !(r29.2 == r32)
  let p34 : Bool := (b31 || b33)
  let r35 : Bool := S.law01_is r28.1 r9
  let b36 : Bool := !r35
  let p37 : Bool := (r28.2 && b36)
  let p38 : Bool := (p34 || p37)
  let b39 : Bool := !r28.2
  let r40 : Bool := S.law01_is r28.1 ([] : List Int)
  let b41 : Bool := !r40
  let p42 : Bool := (b39 && b41)
  let p43 : Bool := (p38 || p42)
  let r44 : Bool := S.law01_is r29.1 r10
  let b45 : Bool := !r44
  let p46 : Bool := (r29.2 && b45)
  let p47 : Bool := (p43 || p46)
  let b48 : Bool := !r29.2
  let r49 : Bool := S.law01_is r29.1 ([] : List Int)
  let b50 : Bool := !r49
  let p51 : Bool := (b48 && b50)
  let p52 : Bool := (p47 || p51)
  let r53 : S.Num := S.nat_Add r7 r8
  let r54 : Bool := S.law01_is r53 r9
  let r55 : S.Num := S.nat_Mul r7 r8
  let r56 : Bool := S.law01_is r55 r10
  let p57 : Bool := (r54 && r56)
  let r58 : S.Num := S.nat_Sum ([r7, r8, r7] : List S.Num)
  let r59 : (List Int) := S.ref01_Add r9 r5
  let r60 : Bool := S.law01_is r58 r59
  let p61 : Bool := (p57 && r60)
  let r62 : S.Num := S.nat_Sum ([] : List S.Num)
  let r63 : Bool := S.law01_is r62 ([] : List Int)
  let p64 : Bool := (p61 && r63)
  let r65 : Bool := S.nat_Cap_Fits c r7
  let r66 : Bool := S.ref01_Fits r5 c
  let b67 : Bool := r65 == r66
  let p68 : Bool := (p64 && b67)
  let r69 : Bool := S.law01_is r7 r5
  let p70 : Bool := (p68 && r69)
  let r71 : Bool := S.law01_is r8 r6
  let p72 : Bool := (p70 && r71)
  let r73 : Bool := S.law01_works
  let p74 : Bool := (p72 && r73)
  (bif p3 then r4 else (bif p27 then false else (bif p52 then false else p74)))
def S.law01_NatReckons_pre (a : (List Int)) (b : (List Int)) (c : Int) : Prop :=
  let b1 : Bool := decide ((a.length : Int) > 40)
  let b2 : Bool := decide ((b.length : Int) > 40)
  let p3 : Bool := (b1 || b2)
  let r5 : (List Int) := S.ref01_Of a
  let r6 : (List Int) := S.ref01_Of b
  let r7 : S.Num := S.nat_Limbs a
  let r8 : S.Num := S.nat_Limbs b
  let r9 : (List Int) := S.ref01_Add r5 r6
  let r10 : (List Int) := S.ref01_Mul r5 r6
  let r11 : S.Num × Int := S.nat_Sub r7 r8
  let r12 : Int := S.ref01_Cmp r5 r6
  let b13 : Bool := decide (r12 < 0)
  let b14 : Bool := r11.2 == 11
  let b15 : Bool := !(b13 == b14)
  let b16 : Bool := !b13
  let b17 : Bool := r11.2 != 0
  let r18 : (List Int) := S.ref01_Sub r5 r6
  let r19 : Bool := S.law01_is r11.1 r18
  let b20 : Bool := !r19
  let p21 : Bool := (b17 || b20)
  let p22 : Bool := (b16 && p21)
  let p23 : Bool := (b15 || p22)
  let r24 : Bool := S.law01_is r11.1 ([] : List Int)
  let b25 : Bool := !r24
  let p26 : Bool := (b13 && b25)
  let p27 : Bool := (p23 || p26)
  let r28 : S.Num × Bool := S.nat_Cap_Add c r7 r8
  let r29 : S.Num × Bool := S.nat_Cap_Mul c r7 r8
  let r30 : Bool := S.ref01_Fits r9 c
  let b31 : Bool := !(r28.2 == r30)
  let r32 : Bool := S.ref01_Fits r10 c
  let b33 : Bool := !(r29.2 == r32)
  let p34 : Bool := (b31 || b33)
  let r35 : Bool := S.law01_is r28.1 r9
  let b36 : Bool := !r35
  let p37 : Bool := (r28.2 && b36)
  let p38 : Bool := (p34 || p37)
  let b39 : Bool := !r28.2
  let r40 : Bool := S.law01_is r28.1 ([] : List Int)
  let b41 : Bool := !r40
  let p42 : Bool := (b39 && b41)
  let p43 : Bool := (p38 || p42)
  let r44 : Bool := S.law01_is r29.1 r10
  let b45 : Bool := !r44
  let p46 : Bool := (r29.2 && b45)
  let p47 : Bool := (p43 || p46)
  let b48 : Bool := !r29.2
  let r49 : Bool := S.law01_is r29.1 ([] : List Int)
  let b50 : Bool := !r49
  let p51 : Bool := (b48 && b50)
  let p52 : Bool := (p47 || p51)
  let r53 : S.Num := S.nat_Add r7 r8
  let r54 : Bool := S.law01_is r53 r9
  let r55 : S.Num := S.nat_Mul r7 r8
  let r56 : Bool := S.law01_is r55 r10
  let p57 : Bool := (r54 && r56)
  let r58 : S.Num := S.nat_Sum ([r7, r8, r7] : List S.Num)
  let r59 : (List Int) := S.ref01_Add r9 r5
  let r60 : Bool := S.law01_is r58 r59
  let p61 : Bool := (p57 && r60)
  let r62 : S.Num := S.nat_Sum ([] : List S.Num)
  let r63 : Bool := S.law01_is r62 ([] : List Int)
  let p64 : Bool := (p61 && r63)
  let r65 : Bool := S.nat_Cap_Fits c r7
  let r66 : Bool := S.ref01_Fits r5 c
  let b67 : Bool := r65 == r66
  let p68 : Bool := (p64 && b67)
  let r69 : Bool := S.law01_is r7 r5
  let p70 : Bool := (p68 && r69)
  let r71 : Bool := S.law01_is r8 r6
  let p72 : Bool := (p70 && r71)
  ((p3 = true → (All [S.law01_works_pre] ∧ True)) ∧ (p3 = false → (All [S.ref01_Of_pre a, S.ref01_Of_pre b, S.nat_Limbs_pre a, S.nat_Limbs_pre b, S.ref01_Add_pre r5 r6, S.ref01_Mul_pre r5 r6, S.nat_Sub_pre r7 r8, S.ref01_Cmp_pre r5 r6, (b15 = false → (b16 = true → (b17 = false → S.ref01_Sub_pre r5 r6))), (b15 = false → (b16 = true → (b17 = false → S.law01_is_pre r11.1 r18))), (p23 = false → (b13 = true → S.law01_is_pre r11.1 ([] : List Int)))] ∧ ((p27 = true → True) ∧ (p27 = false → (All [S.nat_Cap_Add_pre c r7 r8, S.nat_Cap_Mul_pre c r7 r8, S.ref01_Fits_pre r9 c, (b31 = false → S.ref01_Fits_pre r10 c), (p34 = false → (r28.2 = true → S.law01_is_pre r28.1 r9)), (p38 = false → (b39 = true → S.law01_is_pre r28.1 ([] : List Int))), (p43 = false → (r29.2 = true → S.law01_is_pre r29.1 r10)), (p47 = false → (b48 = true → S.law01_is_pre r29.1 ([] : List Int)))] ∧ ((p52 = true → True) ∧ (p52 = false → (All [S.nat_Add_pre r7 r8, S.law01_is_pre r53 r9, (r54 = true → S.nat_Mul_pre r7 r8), (r54 = true → S.law01_is_pre r55 r10), (p57 = true → S.nat_Sum_pre ([r7, r8, r7] : List S.Num)), (p57 = true → S.ref01_Add_pre r9 r5), (p57 = true → S.law01_is_pre r58 r59), (p61 = true → S.nat_Sum_pre ([] : List S.Num)), (p61 = true → S.law01_is_pre r62 ([] : List Int)), (p64 = true → S.ref01_Fits_pre r5 c), (p68 = true → S.law01_is_pre r7 r5), (p70 = true → S.law01_is_pre r8 r6), (p72 = true → S.law01_works_pre)] ∧ True)))))))))
/-- (nat.Nat).Small -/
def S.nat_Nat_Small (n : S.Num) : Int × Bool :=
  let r1 : Int := S.nat_Nat_Len n
  let b2 : Bool := decide (r1 > 1)
  let r3 : Int := S.nat_Nat_limb n 0
  (bif b2 then (0, false) else (r3, true))
def S.nat_Nat_Small_pre (n : S.Num) : Prop :=
  let r1 : Int := S.nat_Nat_Len n
  let b2 : Bool := decide (r1 > 1)
  ((b2 = true → True) ∧ (b2 = false → (All [S.nat_Nat_limb_pre n 0] ∧ True)))
@[ext] structure S.nat_Max_L0 where
  t6 : (List S.Num)
  t7 : Int
  t8 : Int
  best : S.Num
noncomputable def S.nat_Max_L0_step (x : S.nat_Max_L0) : S.nat_Max_L0 ⊕ (S.nat_Max_L0) :=
  let b1 : Bool := decide (x.t8 < x.t7)
  let e2 : S.Num := x.t6.getD (Int.toNat x.t8) (⟨[]⟩ : S.Num)
  let r3 : Int := S.nat_Cmp e2 x.best
  let b4 : Bool := decide (r3 > 0)
  let t5 : Int := IntKind.i64.wrap (x.t8 + 1)
  (bif b1 then (.inl ⟨x.t6, x.t7, t5, (⟨(bif b4 then e2.limbs else x.best.limbs)⟩ : S.Num)⟩) else (.inr ⟨x.t6, x.t7, x.t8, x.best⟩))
def S.nat_Max_L0_vcs (x : S.nat_Max_L0) : Prop :=
  let b1 : Bool := decide (x.t8 < x.t7)
  let e2 : S.Num := x.t6.getD (Int.toNat x.t8) (⟨[]⟩ : S.Num)
  ((b1 = true → (All [(0 : Int) ≤ x.t8, x.t8 < (x.t6.length : Int), S.nat_Cmp_pre e2 x.best] ∧ True)) ∧ (b1 = false → True))
noncomputable def S.nat_Max_L0_run (x : S.nat_Max_L0) : S.nat_Max_L0 := theRun (fun x => x) S.nat_Max_L0_step S.nat_Max_L0_vcs x
/-- nat.Max -/
noncomputable def S.nat_Max (l : (List S.Num)) : S.Num :=
  let x1 : S.nat_Max_L0 := (⟨l, (l.length : Int), 0, (⟨([] : List Int)⟩ : S.Num)⟩ : S.nat_Max_L0)
  let y2 : S.nat_Max_L0 := S.nat_Max_L0_run x1
  let r3 : S.Num := S.nat_Limbs y2.best.limbs
  r3
def S.nat_Max_pre (l : (List S.Num)) : Prop :=
  let x1 : S.nat_Max_L0 := (⟨l, (l.length : Int), 0, (⟨([] : List Int)⟩ : S.Num)⟩ : S.nat_Max_L0)
  let y2 : S.nat_Max_L0 := S.nat_Max_L0_run x1
  (All [Runs S.nat_Max_L0_step S.nat_Max_L0_vcs x1 (S.nat_Max_L0_run x1), S.nat_Limbs_pre y2.best.limbs] ∧ True)
@[ext] structure S.law01_NatMakes_L0 where
  a : (List Int)
  t6 : Bool
  i : Int
  own : (List Int)
def S.law01_NatMakes_L0_step (x : S.law01_NatMakes_L0) : S.law01_NatMakes_L0 ⊕ (Bool × S.law01_NatMakes_L0) :=
  let b1 : Bool := decide (x.i < (x.own.length : Int))
  let e2 : Int := x.own.getD (Int.toNat x.i) 0
  let e3 : Int := x.a.getD (Int.toNat x.i) 0
  let b4 : Bool := e2 != e3
  let l5 : List Int := x.own.set (Int.toNat x.i) 99
  let t6 : Int := IntKind.i64.wrap (x.i + 1)
  (bif b1 then (bif b4 then (.inr ⟨true, ⟨x.a, false, x.i, x.own⟩⟩) else (.inl ⟨x.a, x.t6, t6, l5⟩)) else (.inr ⟨false, ⟨x.a, x.t6, x.i, x.own⟩⟩))
def S.law01_NatMakes_L0_vcs (x : S.law01_NatMakes_L0) : Prop :=
  let b1 : Bool := decide (x.i < (x.own.length : Int))
  let e2 : Int := x.own.getD (Int.toNat x.i) 0
  let e3 : Int := x.a.getD (Int.toNat x.i) 0
  let b4 : Bool := e2 != e3
  ((b1 = true → (All [(0 : Int) ≤ x.i, x.i < (x.own.length : Int), (0 : Int) ≤ x.i, x.i < (x.a.length : Int)] ∧ ((b4 = true → True) ∧ (b4 = false → (All [(0 : Int) ≤ x.i, x.i < (x.own.length : Int)] ∧ True))))) ∧ (b1 = false → True))
noncomputable def S.law01_NatMakes_L0_run (x : S.law01_NatMakes_L0) : Bool × S.law01_NatMakes_L0 := theRun (fun x => ⟨true, x⟩) S.law01_NatMakes_L0_step S.law01_NatMakes_L0_vcs x
/-- sieveholeslaw01.NatMakes -/
noncomputable def S.law01_NatMakes (a : (List Int)) (b : (List Int)) (n : Int) : Bool :=
  let b1 : Bool := decide ((a.length : Int) > 40)
  let b2 : Bool := decide ((b.length : Int) > 40)
  let p3 : Bool := (b1 || b2)
  let r4 : Bool := S.law01_works
  let r5 : (List Int) := S.ref01_Of a
  let r6 : (List Int) := S.ref01_Of b
  let l7 : List Int := ([] : List Int) ++ a
  let r8 : S.Num := S.nat_Limbs l7
  let r9 : S.Num := S.nat_Limbs b
  let x10 : S.law01_NatMakes_L0 := (⟨a, false, 0, l7⟩ : S.law01_NatMakes_L0)
  let y11 : Bool × S.law01_NatMakes_L0 := S.law01_NatMakes_L0_run x10
  let r12 : Int × Bool := S.nat_Nat_Small r8
  let r13 : (List Int) := S.ref01_Limbs r5
  let b14 : Bool := decide ((r13.length : Int) ≤ 1)
  let b15 : Bool := (r13.length : Int) == 1
  let e16 : Int := r13.getD (Int.toNat 0) 0
  let b17 : Bool := !(r12.2 == b14)
  let b18 : Bool := r12.1 != (bif b15 then e16 else 0)
  let p19 : Bool := (b17 || b18)
  let r20 : Bool := S.law01_is r8 r5
  let b21 : Bool := !r20
  let p22 : Bool := (p19 || b21)
  let r23 : S.Num := S.nat_Of n
  let r24 : (List Int) := S.ref01_Of ([n] : List Int)
  let r25 : Bool := S.law01_is r23 r24
  let b26 : Bool := !r25
  let p27 : Bool := (p22 || b26)
  let r28 : Bool := S.law01_is (⟨([] : List Int)⟩ : S.Num) ([] : List Int)
  let b29 : Bool := !r28
  let p30 : Bool := (p27 || b29)
  let r31 : Int := S.ref01_Cmp r6 r5
  let b32 : Bool := decide (r31 > 0)
  let r33 : Int := S.nat_Cmp r8 r9
  let r34 : Int := S.ref01_Cmp r5 r6
  let b35 : Bool := r33 == r34
  let r36 : Int := S.nat_Cmp r9 r8
  let r37 : Int := S.ref01_Cmp r6 r5
  let b38 : Bool := r36 == r37
  let p39 : Bool := (b35 && b38)
  let r40 : Int := S.nat_Cmp r8 r8
  let b41 : Bool := r40 == 0
  let p42 : Bool := (p39 && b41)
  let r43 : S.Num := S.nat_Max ([r8, r9] : List S.Num)
  let r44 : Bool := S.law01_is r43 (bif b32 then r6 else r5)
  let p45 : Bool := (p42 && r44)
  let r46 : S.Num := S.nat_Max ([] : List S.Num)
  let r47 : Bool := S.law01_is r46 ([] : List Int)
  let p48 : Bool := (p45 && r47)
  let r49 : S.Num := S.nat_Max ([(⟨([] : List Int)⟩ : S.Num), r9, (⟨([] : List Int)⟩ : S.Num)] : List S.Num)
  let r50 : Bool := S.law01_is r49 r6
  let p51 : Bool := (p48 && r50)
  let r52 : Bool := S.law01_works
  let p53 : Bool := (p51 && r52)
  (bif p3 then r4 else (bif y11.1 then y11.2.t6 else (bif p30 then false else p53)))
def S.law01_NatMakes_pre (a : (List Int)) (b : (List Int)) (n : Int) : Prop :=
  let b1 : Bool := decide ((a.length : Int) > 40)
  let b2 : Bool := decide ((b.length : Int) > 40)
  let p3 : Bool := (b1 || b2)
  let r5 : (List Int) := S.ref01_Of a
  let r6 : (List Int) := S.ref01_Of b
  let l7 : List Int := ([] : List Int) ++ a
  let r8 : S.Num := S.nat_Limbs l7
  let r9 : S.Num := S.nat_Limbs b
  let x10 : S.law01_NatMakes_L0 := (⟨a, false, 0, l7⟩ : S.law01_NatMakes_L0)
  let y11 : Bool × S.law01_NatMakes_L0 := S.law01_NatMakes_L0_run x10
  let r12 : Int × Bool := S.nat_Nat_Small r8
  let r13 : (List Int) := S.ref01_Limbs r5
  let b14 : Bool := decide ((r13.length : Int) ≤ 1)
  let b15 : Bool := (r13.length : Int) == 1
  let e16 : Int := r13.getD (Int.toNat 0) 0
  let b17 : Bool := !(r12.2 == b14)
  let b18 : Bool := r12.1 != (bif b15 then e16 else 0)
  let p19 : Bool := (b17 || b18)
  let r20 : Bool := S.law01_is r8 r5
  let b21 : Bool := !r20
  let p22 : Bool := (p19 || b21)
  let r23 : S.Num := S.nat_Of n
  let r24 : (List Int) := S.ref01_Of ([n] : List Int)
  let r25 : Bool := S.law01_is r23 r24
  let b26 : Bool := !r25
  let p27 : Bool := (p22 || b26)
  let r28 : Bool := S.law01_is (⟨([] : List Int)⟩ : S.Num) ([] : List Int)
  let b29 : Bool := !r28
  let p30 : Bool := (p27 || b29)
  let r31 : Int := S.ref01_Cmp r6 r5
  let b32 : Bool := decide (r31 > 0)
  let r33 : Int := S.nat_Cmp r8 r9
  let r34 : Int := S.ref01_Cmp r5 r6
  let b35 : Bool := r33 == r34
  let r36 : Int := S.nat_Cmp r9 r8
  let r37 : Int := S.ref01_Cmp r6 r5
  let b38 : Bool := r36 == r37
  let p39 : Bool := (b35 && b38)
  let r40 : Int := S.nat_Cmp r8 r8
  let b41 : Bool := r40 == 0
  let p42 : Bool := (p39 && b41)
  let r43 : S.Num := S.nat_Max ([r8, r9] : List S.Num)
  let r44 : Bool := S.law01_is r43 (bif b32 then r6 else r5)
  let p45 : Bool := (p42 && r44)
  let r46 : S.Num := S.nat_Max ([] : List S.Num)
  let r47 : Bool := S.law01_is r46 ([] : List Int)
  let p48 : Bool := (p45 && r47)
  let r49 : S.Num := S.nat_Max ([(⟨([] : List Int)⟩ : S.Num), r9, (⟨([] : List Int)⟩ : S.Num)] : List S.Num)
  let r50 : Bool := S.law01_is r49 r6
  let p51 : Bool := (p48 && r50)
  ((p3 = true → (All [S.law01_works_pre] ∧ True)) ∧ (p3 = false → (All [S.ref01_Of_pre a, S.ref01_Of_pre b, ((([] : List Int).length + a.length : Nat) : Int) * 8 ≤ 140737488355328, S.nat_Limbs_pre l7, S.nat_Limbs_pre b, Runs S.law01_NatMakes_L0_step S.law01_NatMakes_L0_vcs x10 (S.law01_NatMakes_L0_run x10)] ∧ ((y11.1 = true → True) ∧ (y11.1 = false → (All [S.nat_Nat_Small_pre r8, S.ref01_Limbs_pre r5, (b15 = true → ((0 : Int) ≤ 0 ∧ 0 < (r13.length : Int))), (p19 = false → S.law01_is_pre r8 r5), (p22 = false → S.nat_Of_pre n), (p22 = false → S.ref01_Of_pre ([n] : List Int)), (p22 = false → S.law01_is_pre r23 r24), (p27 = false → S.law01_is_pre (⟨([] : List Int)⟩ : S.Num) ([] : List Int))] ∧ ((p30 = true → True) ∧ (p30 = false → (All [S.ref01_Cmp_pre r6 r5, S.nat_Cmp_pre r8 r9, S.ref01_Cmp_pre r5 r6, (b35 = true → S.nat_Cmp_pre r9 r8), (b35 = true → S.ref01_Cmp_pre r6 r5), (p39 = true → S.nat_Cmp_pre r8 r8), (p42 = true → S.nat_Max_pre ([r8, r9] : List S.Num)), (p42 = true → S.law01_is_pre r43 (bif b32 then r6 else r5)), (p45 = true → S.nat_Max_pre ([] : List S.Num)), (p45 = true → S.law01_is_pre r46 ([] : List Int)), (p48 = true → S.nat_Max_pre ([(⟨([] : List Int)⟩ : S.Num), r9, (⟨([] : List Int)⟩ : S.Num)] : List S.Num)), (p48 = true → S.law01_is_pre r49 r6), (p51 = true → S.law01_works_pre)] ∧ True)))))))))
@[ext] structure S.law01_NatKnown_L4 where
  t0 : Bool
  l : (List (List Int))
  i : Int
  k : Int
  c : Int
noncomputable def S.law01_NatKnown_L4_step (x : S.law01_NatKnown_L4) : S.law01_NatKnown_L4 ⊕ (Bool × S.law01_NatKnown_L4) :=
  let b1 : Bool := decide (x.c < 8)
  let e2 : (List Int) := x.l.getD (Int.toNat x.i) []
  let e3 : (List Int) := x.l.getD (Int.toNat x.k) []
  let r4 : Bool := S.law01_NatReckons e2 e3 x.c
  let b5 : Bool := !r4
  let t6 : Int := IntKind.i64.wrap (x.c + 1)
  (bif b1 then (bif b5 then (.inr ⟨true, ⟨false, x.l, x.i, x.k, x.c⟩⟩) else (.inl ⟨x.t0, x.l, x.i, x.k, t6⟩)) else (.inr ⟨false, ⟨x.t0, x.l, x.i, x.k, x.c⟩⟩))
noncomputable def S.law01_NatKnown_L4_vcs (x : S.law01_NatKnown_L4) : Prop :=
  let b1 : Bool := decide (x.c < 8)
  let e2 : (List Int) := x.l.getD (Int.toNat x.i) []
  let e3 : (List Int) := x.l.getD (Int.toNat x.k) []
  let r4 : Bool := S.law01_NatReckons e2 e3 x.c
  let b5 : Bool := !r4
  ((b1 = true → (All [(0 : Int) ≤ x.i, x.i < (x.l.length : Int), (0 : Int) ≤ x.k, x.k < (x.l.length : Int), S.law01_NatReckons_pre e2 e3 x.c] ∧ ((b5 = true → True) ∧ (b5 = false → True)))) ∧ (b1 = false → True))
noncomputable def S.law01_NatKnown_L4_run (x : S.law01_NatKnown_L4) : Bool × S.law01_NatKnown_L4 := theRun (fun x => ⟨true, x⟩) S.law01_NatKnown_L4_step S.law01_NatKnown_L4_vcs x
@[ext] structure S.law01_NatKnown_L6 where
  t0 : Bool
  l : (List (List Int))
  i : Int
  k : Int
  m : Int
noncomputable def S.law01_NatKnown_L6_step (x : S.law01_NatKnown_L6) : S.law01_NatKnown_L6 ⊕ (Bool × S.law01_NatKnown_L6) :=
  let b1 : Bool := decide (x.m < (x.l.length : Int))
  let e2 : (List Int) := x.l.getD (Int.toNat x.i) []
  let e3 : (List Int) := x.l.getD (Int.toNat x.k) []
  let e4 : (List Int) := x.l.getD (Int.toNat x.m) []
  let r5 : Bool := S.law01_NatLaws e2 e3 e4
  let b6 : Bool := !r5
  let t7 : Int := IntKind.i64.wrap (x.m + 1)
  (bif b1 then (bif b6 then (.inr ⟨true, ⟨false, x.l, x.i, x.k, x.m⟩⟩) else (.inl ⟨x.t0, x.l, x.i, x.k, t7⟩)) else (.inr ⟨false, ⟨x.t0, x.l, x.i, x.k, x.m⟩⟩))
noncomputable def S.law01_NatKnown_L6_vcs (x : S.law01_NatKnown_L6) : Prop :=
  let b1 : Bool := decide (x.m < (x.l.length : Int))
  let e2 : (List Int) := x.l.getD (Int.toNat x.i) []
  let e3 : (List Int) := x.l.getD (Int.toNat x.k) []
  let e4 : (List Int) := x.l.getD (Int.toNat x.m) []
  let r5 : Bool := S.law01_NatLaws e2 e3 e4
  let b6 : Bool := !r5
  ((b1 = true → (All [(0 : Int) ≤ x.i, x.i < (x.l.length : Int), (0 : Int) ≤ x.k, x.k < (x.l.length : Int), (0 : Int) ≤ x.m, x.m < (x.l.length : Int), S.law01_NatLaws_pre e2 e3 e4] ∧ ((b6 = true → True) ∧ (b6 = false → True)))) ∧ (b1 = false → True))
noncomputable def S.law01_NatKnown_L6_run (x : S.law01_NatKnown_L6) : Bool × S.law01_NatKnown_L6 := theRun (fun x => ⟨true, x⟩) S.law01_NatKnown_L6_step S.law01_NatKnown_L6_vcs x
@[ext] structure S.law01_NatKnown_L2 where
  t0 : Bool
  l : (List (List Int))
  i : Int
  k : Int
noncomputable def S.law01_NatKnown_L2_step (x : S.law01_NatKnown_L2) : S.law01_NatKnown_L2 ⊕ (Bool × S.law01_NatKnown_L2) :=
  let b1 : Bool := decide (x.k < (x.l.length : Int))
  let x2 : S.law01_NatKnown_L4 := (⟨x.t0, x.l, x.i, x.k, (-1)⟩ : S.law01_NatKnown_L4)
  let y3 : Bool × S.law01_NatKnown_L4 := S.law01_NatKnown_L4_run x2
  let x4 : S.law01_NatKnown_L6 := (⟨y3.2.t0, y3.2.l, y3.2.i, y3.2.k, 0⟩ : S.law01_NatKnown_L6)
  let y5 : Bool × S.law01_NatKnown_L6 := S.law01_NatKnown_L6_run x4
  let e6 : (List Int) := y5.2.l.getD (Int.toNat y5.2.i) []
  let e7 : (List Int) := y5.2.l.getD (Int.toNat y5.2.k) []
  let t8 : Int := IntKind.i64.wrap (y5.2.i * y5.2.k)
  let t9 : Int := IntKind.u64.wrap t8
  let t10 : Int := IntKind.u64.wrap (t9 * 2 ^ min (Int.toNat 60) 64)
  let r11 : Bool := S.law01_NatMakes e6 e7 t10
  let b12 : Bool := !r11
  let t13 : Int := IntKind.i64.wrap (y5.2.k + 1)
  (bif b1 then (bif y3.1 then (.inr ⟨true, ⟨y3.2.t0, y3.2.l, y3.2.i, y3.2.k⟩⟩) else (bif y5.1 then (.inr ⟨true, ⟨y5.2.t0, y5.2.l, y5.2.i, y5.2.k⟩⟩) else (bif b12 then (.inr ⟨true, ⟨false, y5.2.l, y5.2.i, y5.2.k⟩⟩) else (.inl ⟨y5.2.t0, y5.2.l, y5.2.i, t13⟩)))) else (.inr ⟨false, ⟨x.t0, x.l, x.i, x.k⟩⟩))
noncomputable def S.law01_NatKnown_L2_vcs (x : S.law01_NatKnown_L2) : Prop :=
  let b1 : Bool := decide (x.k < (x.l.length : Int))
  let x2 : S.law01_NatKnown_L4 := (⟨x.t0, x.l, x.i, x.k, (-1)⟩ : S.law01_NatKnown_L4)
  let y3 : Bool × S.law01_NatKnown_L4 := S.law01_NatKnown_L4_run x2
  let x4 : S.law01_NatKnown_L6 := (⟨y3.2.t0, y3.2.l, y3.2.i, y3.2.k, 0⟩ : S.law01_NatKnown_L6)
  let y5 : Bool × S.law01_NatKnown_L6 := S.law01_NatKnown_L6_run x4
  let e6 : (List Int) := y5.2.l.getD (Int.toNat y5.2.i) []
  let e7 : (List Int) := y5.2.l.getD (Int.toNat y5.2.k) []
  let t8 : Int := IntKind.i64.wrap (y5.2.i * y5.2.k)
  let t9 : Int := IntKind.u64.wrap t8
  let t10 : Int := IntKind.u64.wrap (t9 * 2 ^ min (Int.toNat 60) 64)
  let r11 : Bool := S.law01_NatMakes e6 e7 t10
  let b12 : Bool := !r11
  ((b1 = true → (All [Runs S.law01_NatKnown_L4_step S.law01_NatKnown_L4_vcs x2 (S.law01_NatKnown_L4_run x2)] ∧ ((y3.1 = true → True) ∧ (y3.1 = false → (All [Runs S.law01_NatKnown_L6_step S.law01_NatKnown_L6_vcs x4 (S.law01_NatKnown_L6_run x4)] ∧ ((y5.1 = true → True) ∧ (y5.1 = false → (All [(0 : Int) ≤ y5.2.i, y5.2.i < (y5.2.l.length : Int), (0 : Int) ≤ y5.2.k, y5.2.k < (y5.2.l.length : Int), S.law01_NatMakes_pre e6 e7 t10] ∧ ((b12 = true → True) ∧ (b12 = false → True)))))))))) ∧ (b1 = false → True))
noncomputable def S.law01_NatKnown_L2_run (x : S.law01_NatKnown_L2) : Bool × S.law01_NatKnown_L2 := theRun (fun x => ⟨true, x⟩) S.law01_NatKnown_L2_step S.law01_NatKnown_L2_vcs x
@[ext] structure S.law01_NatKnown_L0 where
  t0 : Bool
  l : (List (List Int))
  i : Int
noncomputable def S.law01_NatKnown_L0_step (x : S.law01_NatKnown_L0) : S.law01_NatKnown_L0 ⊕ (Bool × S.law01_NatKnown_L0) :=
  let b1 : Bool := decide (x.i < (x.l.length : Int))
  let x2 : S.law01_NatKnown_L2 := (⟨x.t0, x.l, x.i, 0⟩ : S.law01_NatKnown_L2)
  let y3 : Bool × S.law01_NatKnown_L2 := S.law01_NatKnown_L2_run x2
  let t4 : Int := IntKind.i64.wrap (y3.2.i + 1)
  (bif b1 then (bif y3.1 then (.inr ⟨true, ⟨y3.2.t0, y3.2.l, y3.2.i⟩⟩) else (.inl ⟨y3.2.t0, y3.2.l, t4⟩)) else (.inr ⟨false, ⟨x.t0, x.l, x.i⟩⟩))
noncomputable def S.law01_NatKnown_L0_vcs (x : S.law01_NatKnown_L0) : Prop :=
  let b1 : Bool := decide (x.i < (x.l.length : Int))
  let x2 : S.law01_NatKnown_L2 := (⟨x.t0, x.l, x.i, 0⟩ : S.law01_NatKnown_L2)
  let y3 : Bool × S.law01_NatKnown_L2 := S.law01_NatKnown_L2_run x2
  ((b1 = true → (All [Runs S.law01_NatKnown_L2_step S.law01_NatKnown_L2_vcs x2 (S.law01_NatKnown_L2_run x2)] ∧ ((y3.1 = true → True) ∧ (y3.1 = false → True)))) ∧ (b1 = false → True))
noncomputable def S.law01_NatKnown_L0_run (x : S.law01_NatKnown_L0) : Bool × S.law01_NatKnown_L0 := theRun (fun x => ⟨true, x⟩) S.law01_NatKnown_L0_step S.law01_NatKnown_L0_vcs x
/-- sieveholeslaw01.NatKnown -/
noncomputable def S.law01_NatKnown : Bool :=
  let x1 : S.law01_NatKnown_L0 := (⟨false, ([([] : List Int), ([0] : List Int), ([1] : List Int), ([18446744073709551615] : List Int), ([0, 1] : List Int), ([18446744073709551615, 18446744073709551615] : List Int), ([5, 0, 0] : List Int), ([0, 0, 9223372036854775808] : List Int), ([9223372036854775808] : List Int), ([3, 7, 18446744073709551615, 9] : List Int)] : List (List Int)), 0⟩ : S.law01_NatKnown_L0)
  let y2 : Bool × S.law01_NatKnown_L0 := S.law01_NatKnown_L0_run x1
  let r3 : Bool := S.law01_works
  (bif y2.1 then y2.2.t0 else r3)
def S.law01_NatKnown_pre : Prop :=
  let x1 : S.law01_NatKnown_L0 := (⟨false, ([([] : List Int), ([0] : List Int), ([1] : List Int), ([18446744073709551615] : List Int), ([0, 1] : List Int), ([18446744073709551615, 18446744073709551615] : List Int), ([5, 0, 0] : List Int), ([0, 0, 9223372036854775808] : List Int), ([9223372036854775808] : List Int), ([3, 7, 18446744073709551615, 9] : List Int)] : List (List Int)), 0⟩ : S.law01_NatKnown_L0)
  let y2 : Bool × S.law01_NatKnown_L0 := S.law01_NatKnown_L0_run x1
  (All [Runs S.law01_NatKnown_L0_step S.law01_NatKnown_L0_vcs x1 (S.law01_NatKnown_L0_run x1)] ∧ ((y2.1 = true → True) ∧ (y2.1 = false → (All [S.law01_works_pre] ∧ True))))
/-- power.fit -/
noncomputable def S.power_fit (c : Int) (a : S.Num) : S.Num × Bool :=
  let r1 : Bool := S.nat_Cap_Fits c a
  let b2 : Bool := !r1
  let r3 : (List Int) := S.nat_Nat_All a
  let r4 : S.Num := S.nat_Limbs r3
  (bif b2 then ((⟨([] : List Int)⟩ : S.Num), false) else (r4, true))
def S.power_fit_pre (c : Int) (a : S.Num) : Prop :=
  let r1 : Bool := S.nat_Cap_Fits c a
  let b2 : Bool := !r1
  let r3 : (List Int) := S.nat_Nat_All a
  ((b2 = true → True) ∧ (b2 = false → (All [S.nat_Nat_All_pre a, S.nat_Limbs_pre r3] ∧ True)))
/-- power.great -/
noncomputable def S.power_great (a : S.Num) : Bool :=
  let r1 : S.Num := S.nat_Of 1
  let r2 : Int := S.nat_Cmp a r1
  let b3 : Bool := decide (r2 > 0)
  b3
def S.power_great_pre (a : S.Num) : Prop :=
  let r1 : S.Num := S.nat_Of 1
  (All [S.nat_Of_pre 1, S.nat_Cmp_pre a r1] ∧ True)
/-- power.most -/
def S.power_most (c : Int) : Int :=
  let b1 : Bool := decide (c ≤ 0)
  let t2 : Int := IntKind.u64.wrap c
  let b3 : Bool := decide (t2 > 288230376151711743)
  let t4 : Int := IntKind.u64.wrap c
  let t5 : Int := IntKind.u64.wrap (t4 * 64)
  (bif b1 then 0 else (bif b3 then 18446744073709551615 else t5))
/-- power.Pow$1 -/
noncomputable def S.power_Pow_1 (a0 : Int) (a1 : S.Num) (a2 : Bool) : Int × S.Num × Bool :=
  let r1 : S.Num × Bool := S.nat_Cap_Mul a0 a1 a1
  (a0, r1.1, r1.2)
def S.power_Pow_1_pre (a0 : Int) (a1 : S.Num) (a2 : Bool) : Prop :=
  (All [S.nat_Cap_Mul_pre a0 a1 a1] ∧ True)
/-- math/bits.Len64 -/
def S.math_bits_Len64 (x : Int) : Int :=
  let b1 : Bool := decide (x ≥ 4294967296)
  let t2 : Int := Int.fdiv x (2 ^ min (Int.toNat 32) 64)
  let b3 : Bool := decide ((bif b1 then t2 else x) ≥ 65536)
  let t4 : Int := Int.fdiv (bif b1 then t2 else x) (2 ^ min (Int.toNat 16) 64)
  let t5 : Int := IntKind.i64.wrap ((bif b1 then 32 else 0) + 16)
  let b6 : Bool := decide ((bif b3 then t4 else (bif b1 then t2 else x)) ≥ 256)
  let t7 : Int := Int.fdiv (bif b3 then t4 else (bif b1 then t2 else x)) (2 ^ min (Int.toNat 8) 64)
  let t8 : Int := IntKind.i64.wrap ((bif b3 then t5 else (bif b1 then 32 else 0)) + 8)
  let t9 : Int := IntKind.u8.wrap (bif b6 then t7 else (bif b3 then t4 else (bif b1 then t2 else x)))
  let t10 : Int := (((⟨#[0, 1, 2, 2, 3, 3, 3, 3, 4, 4, 4, 4, 4, 4, 4, 4, 5, 5, 5, 5, 5, 5, 5, 5, 5, 5, 5, 5, 5, 5, 5, 5, 6, 6, 6, 6, 6, 6, 6, 6, 6, 6, 6, 6, 6, 6, 6, 6, 6, 6, 6, 6, 6, 6, 6, 6, 6, 6, 6, 6, 6, 6, 6, 6, 7, 7, 7, 7, 7, 7, 7, 7, 7, 7, 7, 7, 7, 7, 7, 7, 7, 7, 7, 7, 7, 7, 7, 7, 7, 7, 7, 7, 7, 7, 7, 7, 7, 7, 7, 7, 7, 7, 7, 7, 7, 7, 7, 7, 7, 7, 7, 7, 7, 7, 7, 7, 7, 7, 7, 7, 7, 7, 7, 7, 7, 7, 7, 7, 8, 8, 8, 8, 8, 8, 8, 8, 8, 8, 8, 8, 8, 8, 8, 8, 8, 8, 8, 8, 8, 8, 8, 8, 8, 8, 8, 8, 8, 8, 8, 8, 8, 8, 8, 8, 8, 8, 8, 8, 8, 8, 8, 8, 8, 8, 8, 8, 8, 8, 8, 8, 8, 8, 8, 8, 8, 8, 8, 8, 8, 8, 8, 8, 8, 8, 8, 8, 8, 8, 8, 8, 8, 8, 8, 8, 8, 8, 8, 8, 8, 8, 8, 8, 8, 8, 8, 8, 8, 8, 8, 8, 8, 8, 8, 8, 8, 8, 8, 8, 8, 8, 8, 8, 8, 8, 8, 8, 8, 8, 8, 8, 8, 8, 8, 8, 8, 8, 8, 8, 8, 8, 8, 8, 8, 8, 8, 8]⟩ : ByteArray).data.toList.getD (Int.toNat t9) 0).toNat : Int)
  let t11 : Int := IntKind.i64.wrap t10
  let t12 : Int := IntKind.i64.wrap ((bif b6 then t8 else (bif b3 then t5 else (bif b1 then 32 else 0))) + t11)
  t12
def S.math_bits_Len64_pre (x : Int) : Prop :=
  let b1 : Bool := decide (x ≥ 4294967296)
  let t2 : Int := Int.fdiv x (2 ^ min (Int.toNat 32) 64)
  let b3 : Bool := decide ((bif b1 then t2 else x) ≥ 65536)
  let t4 : Int := Int.fdiv (bif b1 then t2 else x) (2 ^ min (Int.toNat 16) 64)
  let b6 : Bool := decide ((bif b3 then t4 else (bif b1 then t2 else x)) ≥ 256)
  let t7 : Int := Int.fdiv (bif b3 then t4 else (bif b1 then t2 else x)) (2 ^ min (Int.toNat 8) 64)
  let t9 : Int := IntKind.u8.wrap (bif b6 then t7 else (bif b3 then t4 else (bif b1 then t2 else x)))
  (All [(0 : Int) ≤ t9, t9 < ((⟨#[0, 1, 2, 2, 3, 3, 3, 3, 4, 4, 4, 4, 4, 4, 4, 4, 5, 5, 5, 5, 5, 5, 5, 5, 5, 5, 5, 5, 5, 5, 5, 5, 6, 6, 6, 6, 6, 6, 6, 6, 6, 6, 6, 6, 6, 6, 6, 6, 6, 6, 6, 6, 6, 6, 6, 6, 6, 6, 6, 6, 6, 6, 6, 6, 7, 7, 7, 7, 7, 7, 7, 7, 7, 7, 7, 7, 7, 7, 7, 7, 7, 7, 7, 7, 7, 7, 7, 7, 7, 7, 7, 7, 7, 7, 7, 7, 7, 7, 7, 7, 7, 7, 7, 7, 7, 7, 7, 7, 7, 7, 7, 7, 7, 7, 7, 7, 7, 7, 7, 7, 7, 7, 7, 7, 7, 7, 7, 7, 8, 8, 8, 8, 8, 8, 8, 8, 8, 8, 8, 8, 8, 8, 8, 8, 8, 8, 8, 8, 8, 8, 8, 8, 8, 8, 8, 8, 8, 8, 8, 8, 8, 8, 8, 8, 8, 8, 8, 8, 8, 8, 8, 8, 8, 8, 8, 8, 8, 8, 8, 8, 8, 8, 8, 8, 8, 8, 8, 8, 8, 8, 8, 8, 8, 8, 8, 8, 8, 8, 8, 8, 8, 8, 8, 8, 8, 8, 8, 8, 8, 8, 8, 8, 8, 8, 8, 8, 8, 8, 8, 8, 8, 8, 8, 8, 8, 8, 8, 8, 8, 8, 8, 8, 8, 8, 8, 8, 8, 8, 8, 8, 8, 8, 8, 8, 8, 8, 8, 8, 8, 8, 8, 8, 8, 8, 8, 8]⟩ : ByteArray).size : Int)] ∧ True)
@[ext] structure S.power_Pow_L1 where
  n : Int
  i : Int
  c : Int
  a : S.Num
  out : S.Num
  ok : Bool
noncomputable def S.power_Pow_L1_step (x : S.power_Pow_L1) : S.power_Pow_L1 ⊕ (S.power_Pow_L1) :=
  let b1 : Bool := decide (x.i ≥ 0)
  let r2 : Int × S.Num × Bool := S.power_Pow_1 x.c x.out x.ok
  let t3 : Int := Int.fdiv x.n (2 ^ min (Int.toNat x.i) 64)
  let t4 : Int := bits .and .u64 t3 1
  let b5 : Bool := t4 == 1
  let p6 : Bool := (r2.2.2 && b5)
  let r7 : S.Num × Bool := S.nat_Cap_Mul r2.1 r2.2.1 x.a
  let b8 : Bool := !(bif p6 then r7.2 else r2.2.2)
  let t9 : Int := IntKind.i64.wrap (x.i - 1)
  (bif b1 then (bif b8 then (.inr ⟨x.n, x.i, r2.1, x.a, (⟨(bif p6 then r7.1.limbs else r2.2.1.limbs)⟩ : S.Num), (bif p6 then r7.2 else r2.2.2)⟩) else (.inl ⟨x.n, t9, r2.1, x.a, (⟨(bif p6 then r7.1.limbs else r2.2.1.limbs)⟩ : S.Num), (bif p6 then r7.2 else r2.2.2)⟩)) else (.inr ⟨x.n, x.i, x.c, x.a, x.out, x.ok⟩))
noncomputable def S.power_Pow_L1_vcs (x : S.power_Pow_L1) : Prop :=
  let b1 : Bool := decide (x.i ≥ 0)
  let r2 : Int × S.Num × Bool := S.power_Pow_1 x.c x.out x.ok
  let t3 : Int := Int.fdiv x.n (2 ^ min (Int.toNat x.i) 64)
  let t4 : Int := bits .and .u64 t3 1
  let b5 : Bool := t4 == 1
  let p6 : Bool := (r2.2.2 && b5)
  let r7 : S.Num × Bool := S.nat_Cap_Mul r2.1 r2.2.1 x.a
  let b8 : Bool := !(bif p6 then r7.2 else r2.2.2)
  ((b1 = true → (All [S.power_Pow_1_pre x.c x.out x.ok, (r2.2.2 = true → (0 : Int) ≤ x.i), (p6 = true → S.nat_Cap_Mul_pre r2.1 r2.2.1 x.a)] ∧ ((b8 = true → True) ∧ (b8 = false → True)))) ∧ (b1 = false → True))
noncomputable def S.power_Pow_L1_run (x : S.power_Pow_L1) : S.power_Pow_L1 := theRun (fun x => x) S.power_Pow_L1_step S.power_Pow_L1_vcs x
/-- power.Pow -/
noncomputable def S.power_Pow (c : Int) (a : S.Num) (n : Int) : S.Num × Bool :=
  let b1 : Bool := n == 0
  let r2 : S.Num := S.nat_Of 1
  let r3 : S.Num × Bool := S.power_fit c r2
  let r4 : Bool := S.power_great a
  let b5 : Bool := !r4
  let r6 : S.Num × Bool := S.power_fit c a
  let r7 : Int := S.power_most c
  let b8 : Bool := decide (n > r7)
  let r9 : S.Num := S.nat_Of 1
  let r10 : Int := S.math_bits_Len64 n
  let t11 : Int := IntKind.i64.wrap (r10 - 1)
  let x12 : S.power_Pow_L1 := (⟨n, t11, c, a, r9, true⟩ : S.power_Pow_L1)
  let y13 : S.power_Pow_L1 := S.power_Pow_L1_run x12
  (bif b1 then (r3.1, r3.2) else (bif b5 then (r6.1, r6.2) else (bif b8 then ((⟨([] : List Int)⟩ : S.Num), false) else (y13.out, y13.ok))))
def S.power_Pow_pre (c : Int) (a : S.Num) (n : Int) : Prop :=
  let b1 : Bool := n == 0
  let r2 : S.Num := S.nat_Of 1
  let r4 : Bool := S.power_great a
  let b5 : Bool := !r4
  let r7 : Int := S.power_most c
  let b8 : Bool := decide (n > r7)
  let r9 : S.Num := S.nat_Of 1
  let r10 : Int := S.math_bits_Len64 n
  let t11 : Int := IntKind.i64.wrap (r10 - 1)
  let x12 : S.power_Pow_L1 := (⟨n, t11, c, a, r9, true⟩ : S.power_Pow_L1)
  ((b1 = true → (All [S.nat_Of_pre 1, S.power_fit_pre c r2] ∧ True)) ∧ (b1 = false → (All [S.power_great_pre a] ∧ ((b5 = true → (All [S.power_fit_pre c a] ∧ True)) ∧ (b5 = false → ((b8 = true → True) ∧ (b8 = false → (All [S.nat_Of_pre 1, S.math_bits_Len64_pre n, Runs S.power_Pow_L1_step S.power_Pow_L1_vcs x12 (S.power_Pow_L1_run x12)] ∧ True))))))))
@[ext] structure S.power_Sum_L1 where
  c : Int
  n : Int
  ok : Bool
  i : Int
  a : S.Num
  one : S.Num
  sum : S.Num
noncomputable def S.power_Sum_L1_step (x : S.power_Sum_L1) : S.power_Sum_L1 ⊕ (S.power_Sum_L1) :=
  let b1 : Bool := decide (x.i < x.n)
  let p2 : Bool := (b1 && x.ok)
  let r3 : S.Num × Bool := S.nat_Cap_Mul x.c x.sum x.a
  let r4 : S.Num × Bool := S.nat_Cap_Add x.c r3.1 x.one
  let t5 : Int := IntKind.u64.wrap (x.i + 1)
  (bif p2 then (.inl ⟨x.c, x.n, (bif r3.2 then r4.2 else r3.2), t5, x.a, x.one, (⟨(bif r3.2 then r4.1.limbs else r3.1.limbs)⟩ : S.Num)⟩) else (.inr ⟨x.c, x.n, x.ok, x.i, x.a, x.one, x.sum⟩))
noncomputable def S.power_Sum_L1_vcs (x : S.power_Sum_L1) : Prop :=
  let b1 : Bool := decide (x.i < x.n)
  let p2 : Bool := (b1 && x.ok)
  let r3 : S.Num × Bool := S.nat_Cap_Mul x.c x.sum x.a
  ((p2 = true → (All [S.nat_Cap_Mul_pre x.c x.sum x.a, (r3.2 = true → S.nat_Cap_Add_pre x.c r3.1 x.one)] ∧ True)) ∧ (p2 = false → True))
noncomputable def S.power_Sum_L1_run (x : S.power_Sum_L1) : S.power_Sum_L1 := theRun (fun x => x) S.power_Sum_L1_step S.power_Sum_L1_vcs x
/-- power.Sum -/
noncomputable def S.power_Sum (c : Int) (a : S.Num) (n : Int) : S.Num × Bool :=
  let r1 : Int := S.nat_Nat_Len a
  let b2 : Bool := r1 == 0
  let b3 : Bool := n == 0
  let p4 : Bool := (b2 || b3)
  let r5 : S.Num := S.nat_Of 1
  let r6 : S.Num × Bool := S.power_fit c r5
  let r7 : Bool := S.power_great a
  let b8 : Bool := !r7
  let r9 : S.Num := S.nat_Of n
  let r10 : S.Num := S.nat_Of 1
  let r11 : S.Num := S.nat_Add r9 r10
  let r12 : S.Num × Bool := S.power_fit c r11
  let r13 : Int := S.power_most c
  let b14 : Bool := decide (n ≥ r13)
  let r15 : S.Num := S.nat_Of 1
  let r16 : S.Num × Bool := S.power_fit c r15
  let x17 : S.power_Sum_L1 := (⟨c, n, r16.2, 0, a, r15, r16.1⟩ : S.power_Sum_L1)
  let y18 : S.power_Sum_L1 := S.power_Sum_L1_run x17
  (bif p4 then (r6.1, r6.2) else (bif b8 then (r12.1, r12.2) else (bif b14 then ((⟨([] : List Int)⟩ : S.Num), false) else (y18.sum, y18.ok))))
def S.power_Sum_pre (c : Int) (a : S.Num) (n : Int) : Prop :=
  let r1 : Int := S.nat_Nat_Len a
  let b2 : Bool := r1 == 0
  let b3 : Bool := n == 0
  let p4 : Bool := (b2 || b3)
  let r5 : S.Num := S.nat_Of 1
  let r7 : Bool := S.power_great a
  let b8 : Bool := !r7
  let r9 : S.Num := S.nat_Of n
  let r10 : S.Num := S.nat_Of 1
  let r11 : S.Num := S.nat_Add r9 r10
  let r13 : Int := S.power_most c
  let b14 : Bool := decide (n ≥ r13)
  let r15 : S.Num := S.nat_Of 1
  let r16 : S.Num × Bool := S.power_fit c r15
  let x17 : S.power_Sum_L1 := (⟨c, n, r16.2, 0, a, r15, r16.1⟩ : S.power_Sum_L1)
  ((p4 = true → (All [S.nat_Of_pre 1, S.power_fit_pre c r5] ∧ True)) ∧ (p4 = false → (All [S.power_great_pre a] ∧ ((b8 = true → (All [S.nat_Of_pre n, S.nat_Of_pre 1, S.nat_Add_pre r9 r10, S.power_fit_pre c r11] ∧ True)) ∧ (b8 = false → ((b14 = true → True) ∧ (b14 = false → (All [S.nat_Of_pre 1, S.power_fit_pre c r15, Runs S.power_Sum_L1_step S.power_Sum_L1_vcs x17 (S.power_Sum_L1_run x17)] ∧ True))))))))
/-- power.Bits -/
def S.power_Bits (a : S.Num) : Int :=
  let r1 : (List Int) := S.nat_Nat_All a
  let b2 : Bool := (r1.length : Int) == 0
  let t3 : Int := IntKind.i64.wrap ((r1.length : Int) - 1)
  let t4 : Int := IntKind.u64.wrap t3
  let t5 : Int := IntKind.u64.wrap (t4 * 64)
  let t6 : Int := IntKind.i64.wrap ((r1.length : Int) - 1)
  let e7 : Int := r1.getD (Int.toNat t6) 0
  let r8 : Int := S.math_bits_Len64 e7
  let t9 : Int := IntKind.u64.wrap r8
  let t10 : Int := IntKind.u64.wrap (t5 + t9)
  (bif b2 then 0 else t10)
def S.power_Bits_pre (a : S.Num) : Prop :=
  let r1 : (List Int) := S.nat_Nat_All a
  let b2 : Bool := (r1.length : Int) == 0
  let t6 : Int := IntKind.i64.wrap ((r1.length : Int) - 1)
  let e7 : Int := r1.getD (Int.toNat t6) 0
  (All [S.nat_Nat_All_pre a] ∧ ((b2 = true → True) ∧ (b2 = false → (All [(0 : Int) ≤ t6, t6 < (r1.length : Int), S.math_bits_Len64_pre e7] ∧ True))))
/-- power.Log -/
noncomputable def S.power_Log (a : S.Num) : Int :=
  let r1 : S.Num := S.nat_Of 1
  let r2 : S.Num × Int := S.nat_Sub a r1
  let b3 : Bool := r2.2 != 0
  let r4 : Int := S.power_Bits r2.1
  (bif b3 then 0 else r4)
def S.power_Log_pre (a : S.Num) : Prop :=
  let r1 : S.Num := S.nat_Of 1
  let r2 : S.Num × Int := S.nat_Sub a r1
  let b3 : Bool := r2.2 != 0
  (All [S.nat_Of_pre 1, S.nat_Sub_pre a r1] ∧ ((b3 = true → True) ∧ (b3 = false → (All [S.power_Bits_pre r2.1] ∧ True))))
@[ext] structure S.law03_works_L0 where
  t0 : Bool
  i : Int
noncomputable def S.law03_works_L0_step (x : S.law03_works_L0) : S.law03_works_L0 ⊕ (Bool × S.law03_works_L0) :=
  let b1 : Bool := decide (x.i < 6)
  let e2 : Int := ([0, 1, 2, 3, 256, 257] : List Int).getD (Int.toNat x.i) 0
  let r3 : S.Num := S.nat_Of e2
  let r4 : Int := S.power_Log r3
  let e5 : Int := ([0, 0, 1, 2, 8, 9] : List Int).getD (Int.toNat x.i) 0
  let b6 : Bool := r4 != e5
  let t7 : Int := IntKind.i64.wrap (x.i + 1)
  (bif b1 then (bif b6 then (.inr ⟨true, ⟨false, x.i⟩⟩) else (.inl ⟨x.t0, t7⟩)) else (.inr ⟨false, ⟨x.t0, x.i⟩⟩))
noncomputable def S.law03_works_L0_vcs (x : S.law03_works_L0) : Prop :=
  let b1 : Bool := decide (x.i < 6)
  let e2 : Int := ([0, 1, 2, 3, 256, 257] : List Int).getD (Int.toNat x.i) 0
  let r3 : S.Num := S.nat_Of e2
  let r4 : Int := S.power_Log r3
  let e5 : Int := ([0, 0, 1, 2, 8, 9] : List Int).getD (Int.toNat x.i) 0
  let b6 : Bool := r4 != e5
  ((b1 = true → (All [(0 : Int) ≤ x.i, x.i < (([0, 1, 2, 3, 256, 257] : List Int).length : Int), S.nat_Of_pre e2, S.power_Log_pre r3, (0 : Int) ≤ x.i, x.i < (([0, 0, 1, 2, 8, 9] : List Int).length : Int)] ∧ ((b6 = true → True) ∧ (b6 = false → True)))) ∧ (b1 = false → True))
noncomputable def S.law03_works_L0_run (x : S.law03_works_L0) : Bool × S.law03_works_L0 := theRun (fun x => ⟨true, x⟩) S.law03_works_L0_step S.law03_works_L0_vcs x
/-- sieveholeslaw03.works -/
noncomputable def S.law03_works : Bool :=
  let r1 : S.Num := S.nat_Of 2
  let r2 : S.Num × Bool := S.power_Pow 2 r1 64
  let r3 : S.Num := S.nat_Of 2
  let r4 : S.Num × Bool := S.power_Pow 2 r3 128
  let r5 : S.Num := S.nat_Of 3
  let r6 : S.Num × Bool := S.power_Sum 1 r5 3
  let r7 : S.Num := S.nat_Of 1
  let r8 : S.Num × Bool := S.power_Sum 1 r7 18446744073709551615
  let r9 : Int × Bool := S.nat_Nat_Small r6.1
  let x10 : S.law03_works_L0 := (⟨false, 0⟩ : S.law03_works_L0)
  let y11 : Bool × S.law03_works_L0 := S.law03_works_L0_run x10
  let r12 : Int := S.nat_Nat_Len r2.1
  let b13 : Bool := r12 == 2
  let p14 : Bool := (r2.2 && b13)
  let b15 : Bool := !r4.2
  let p16 : Bool := (p14 && b15)
  let p17 : Bool := (p16 && r6.2)
  let b18 : Bool := r9.1 == 40
  let p19 : Bool := (p17 && b18)
  let b20 : Bool := !r8.2
  let p21 : Bool := (p19 && b20)
  let r22 : S.Num := S.nat_Of 0
  let r23 : Int := S.power_Bits r22
  let b24 : Bool := r23 == 0
  let p25 : Bool := (p21 && b24)
  let r26 : S.Num := S.nat_Of 1
  let r27 : Int := S.power_Bits r26
  let b28 : Bool := r27 == 1
  let p29 : Bool := (p25 && b28)
  let r30 : S.Num := S.nat_Of 256
  let r31 : Int := S.power_Bits r30
  let b32 : Bool := r31 == 9
  let p33 : Bool := (p29 && b32)
  (bif y11.1 then y11.2.t0 else p33)
def S.law03_works_pre : Prop :=
  let r1 : S.Num := S.nat_Of 2
  let r2 : S.Num × Bool := S.power_Pow 2 r1 64
  let r3 : S.Num := S.nat_Of 2
  let r4 : S.Num × Bool := S.power_Pow 2 r3 128
  let r5 : S.Num := S.nat_Of 3
  let r6 : S.Num × Bool := S.power_Sum 1 r5 3
  let r7 : S.Num := S.nat_Of 1
  let r8 : S.Num × Bool := S.power_Sum 1 r7 18446744073709551615
  let r9 : Int × Bool := S.nat_Nat_Small r6.1
  let x10 : S.law03_works_L0 := (⟨false, 0⟩ : S.law03_works_L0)
  let y11 : Bool × S.law03_works_L0 := S.law03_works_L0_run x10
  let r12 : Int := S.nat_Nat_Len r2.1
  let b13 : Bool := r12 == 2
  let p14 : Bool := (r2.2 && b13)
  let b15 : Bool := !r4.2
  let p16 : Bool := (p14 && b15)
  let p17 : Bool := (p16 && r6.2)
  let b18 : Bool := r9.1 == 40
  let p19 : Bool := (p17 && b18)
  let b20 : Bool := !r8.2
  let p21 : Bool := (p19 && b20)
  let r22 : S.Num := S.nat_Of 0
  let r23 : Int := S.power_Bits r22
  let b24 : Bool := r23 == 0
  let p25 : Bool := (p21 && b24)
  let r26 : S.Num := S.nat_Of 1
  let r27 : Int := S.power_Bits r26
  let b28 : Bool := r27 == 1
  let p29 : Bool := (p25 && b28)
  let r30 : S.Num := S.nat_Of 256
  (All [S.nat_Of_pre 2, S.power_Pow_pre 2 r1 64, S.nat_Of_pre 2, S.power_Pow_pre 2 r3 128, S.nat_Of_pre 3, S.power_Sum_pre 1 r5 3, S.nat_Of_pre 1, S.power_Sum_pre 1 r7 18446744073709551615, S.nat_Nat_Small_pre r6.1, Runs S.law03_works_L0_step S.law03_works_L0_vcs x10 (S.law03_works_L0_run x10)] ∧ ((y11.1 = true → True) ∧ (y11.1 = false → (All [(p21 = true → S.nat_Of_pre 0), (p21 = true → S.power_Bits_pre r22), (p25 = true → S.nat_Of_pre 1), (p25 = true → S.power_Bits_pre r26), (p29 = true → S.nat_Of_pre 256), (p29 = true → S.power_Bits_pre r30)] ∧ True))))
/-- sieveholeslaw03.limit -/
def S.law03_limit (c : Int) : Int :=
  let m1 : Int := if 12 < c then 12 else c
  let m2 : Int := if m1 > (-3) then m1 else (-3)
  m2
/-- sieveholesref03.One -/
def S.ref03_One : (List Int) :=
  ([1] : List Int)
/-- sieveholesref03.over -/
noncomputable def S.ref03_over (n : (List Int)) (limbs : Int) : Bool :=
  let r1 : Bool := S.ref01_Fits n limbs
  let b2 : Bool := !r1
  b2
def S.ref03_over_pre (n : (List Int)) (limbs : Int) : Prop :=
  (All [S.ref01_Fits_pre n limbs] ∧ True)
@[ext] structure S.ref03_Pow_L0 where
  limbs : Int
  a : (List Int)
  n : Int
  t6 : (List Int)
  t7 : Bool
  out : (List Int)
  i : Int
noncomputable def S.ref03_Pow_L0_step (x : S.ref03_Pow_L0) : S.ref03_Pow_L0 ⊕ (Bool × S.ref03_Pow_L0) :=
  let b1 : Bool := decide (x.i < x.n)
  let r2 : Bool := S.ref03_over x.out x.limbs
  let r3 : (List Int) := S.ref01_Mul x.out x.a
  let t4 : Int := IntKind.u64.wrap (x.i + 1)
  (bif b1 then (bif r2 then (.inr ⟨true, ⟨x.limbs, x.a, x.n, ([] : List Int), false, x.out, x.i⟩⟩) else (.inl ⟨x.limbs, x.a, x.n, x.t6, x.t7, r3, t4⟩)) else (.inr ⟨false, ⟨x.limbs, x.a, x.n, x.t6, x.t7, x.out, x.i⟩⟩))
noncomputable def S.ref03_Pow_L0_vcs (x : S.ref03_Pow_L0) : Prop :=
  let b1 : Bool := decide (x.i < x.n)
  let r2 : Bool := S.ref03_over x.out x.limbs
  ((b1 = true → (All [S.ref03_over_pre x.out x.limbs] ∧ ((r2 = true → True) ∧ (r2 = false → (All [S.ref01_Mul_pre x.out x.a] ∧ True))))) ∧ (b1 = false → True))
noncomputable def S.ref03_Pow_L0_run (x : S.ref03_Pow_L0) : Bool × S.ref03_Pow_L0 := theRun (fun x => ⟨true, x⟩) S.ref03_Pow_L0_step S.ref03_Pow_L0_vcs x
/-- sieveholesref03.Pow -/
noncomputable def S.ref03_Pow (limbs : Int) (a : (List Int)) (n : Int) : (List Int) × Bool :=
  let b1 : Bool := n == 0
  let r2 : (List Int) := S.ref03_One
  let r3 : Bool := S.ref01_Same a r2
  let p4 : Bool := (b1 || r3)
  let r5 : (List Int) := S.ref03_One
  let r6 : (List Int) := S.ref03_One
  let r7 : Bool := S.ref03_over r6 limbs
  let b8 : Bool := !r7
  let b9 : Bool := (a.length : Int) == 0
  let r10 : (List Int) := S.ref03_One
  let x11 : S.ref03_Pow_L0 := (⟨limbs, a, n, ([] : List Int), false, r10, 0⟩ : S.ref03_Pow_L0)
  let y12 : Bool × S.ref03_Pow_L0 := S.ref03_Pow_L0_run x11
  let r13 : Bool := S.ref03_over y12.2.out y12.2.limbs
  let b14 : Bool := !r13
  (bif p4 then (r5, b8) else (bif b9 then (([] : List Int), true) else (bif y12.1 then (y12.2.t6, y12.2.t7) else (y12.2.out, b14))))
def S.ref03_Pow_pre (limbs : Int) (a : (List Int)) (n : Int) : Prop :=
  let b1 : Bool := n == 0
  let r2 : (List Int) := S.ref03_One
  let r3 : Bool := S.ref01_Same a r2
  let p4 : Bool := (b1 || r3)
  let r6 : (List Int) := S.ref03_One
  let b9 : Bool := (a.length : Int) == 0
  let r10 : (List Int) := S.ref03_One
  let x11 : S.ref03_Pow_L0 := (⟨limbs, a, n, ([] : List Int), false, r10, 0⟩ : S.ref03_Pow_L0)
  let y12 : Bool × S.ref03_Pow_L0 := S.ref03_Pow_L0_run x11
  (All [(b1 = false → S.ref01_Same_pre a r2)] ∧ ((p4 = true → (All [S.ref03_over_pre r6 limbs] ∧ True)) ∧ (p4 = false → ((b9 = true → True) ∧ (b9 = false → (All [Runs S.ref03_Pow_L0_step S.ref03_Pow_L0_vcs x11 (S.ref03_Pow_L0_run x11)] ∧ ((y12.1 = true → True) ∧ (y12.1 = false → (All [S.ref03_over_pre y12.2.out y12.2.limbs] ∧ True)))))))))
/-- sieveholeslaw03.is -/
noncomputable def S.law03_is (n : S.Num) (ok : Bool) (want : (List Int)) (fits : Bool) : Bool :=
  let b1 : Bool := !(ok == fits)
  let b2 : Bool := !ok
  let r3 : Int := S.nat_Nat_Len n
  let b4 : Bool := r3 == 0
  let r5 : (List Int) := S.nat_Nat_All n
  let r6 : (List Int) := S.ref01_Of r5
  let r7 : Bool := S.ref01_Same r6 want
  (bif b1 then false else (bif b2 then b4 else r7))
def S.law03_is_pre (n : S.Num) (ok : Bool) (want : (List Int)) (fits : Bool) : Prop :=
  let b1 : Bool := !(ok == fits)
  let b2 : Bool := !ok
  let r5 : (List Int) := S.nat_Nat_All n
  let r6 : (List Int) := S.ref01_Of r5
  ((b1 = true → True) ∧ (b1 = false → ((b2 = true → True) ∧ (b2 = false → (All [S.nat_Nat_All_pre n, S.ref01_Of_pre r5, S.ref01_Same_pre r6 want] ∧ True)))))
/-- sieveholesref03.small -/
noncomputable def S.ref03_small (a : (List Int)) : Bool :=
  let r1 : (List Int) := S.ref03_One
  let r2 : Int := S.ref01_Cmp a r1
  let b3 : Bool := decide (r2 ≤ 0)
  b3
def S.ref03_small_pre (a : (List Int)) : Prop :=
  let r1 : (List Int) := S.ref03_One
  (All [S.ref01_Cmp_pre a r1] ∧ True)
/-- sieveholesref03.Number -/
noncomputable def S.ref03_Number (n : Int) : (List Int) :=
  let r1 : (List Int) := S.ref01_Of ([n] : List Int)
  r1
def S.ref03_Number_pre (n : Int) : Prop :=
  (All [S.ref01_Of_pre ([n] : List Int)] ∧ True)
@[ext] structure S.ref03_Sum_L0 where
  limbs : Int
  a : (List Int)
  n : Int
  t6 : (List Int)
  t7 : Bool
  sum : (List Int)
  power : (List Int)
  i : Int
noncomputable def S.ref03_Sum_L0_step (x : S.ref03_Sum_L0) : S.ref03_Sum_L0 ⊕ (Bool × S.ref03_Sum_L0) :=
  let b1 : Bool := decide (x.i < x.n)
  let r2 : Bool := S.ref03_over x.sum x.limbs
  let r3 : (List Int) := S.ref01_Mul x.power x.a
  let r4 : (List Int) := S.ref01_Add x.sum r3
  let t5 : Int := IntKind.u64.wrap (x.i + 1)
  (bif b1 then (bif r2 then (.inr ⟨true, ⟨x.limbs, x.a, x.n, ([] : List Int), false, x.sum, x.power, x.i⟩⟩) else (.inl ⟨x.limbs, x.a, x.n, x.t6, x.t7, r4, r3, t5⟩)) else (.inr ⟨false, ⟨x.limbs, x.a, x.n, x.t6, x.t7, x.sum, x.power, x.i⟩⟩))
noncomputable def S.ref03_Sum_L0_vcs (x : S.ref03_Sum_L0) : Prop :=
  let b1 : Bool := decide (x.i < x.n)
  let r2 : Bool := S.ref03_over x.sum x.limbs
  let r3 : (List Int) := S.ref01_Mul x.power x.a
  ((b1 = true → (All [S.ref03_over_pre x.sum x.limbs] ∧ ((r2 = true → True) ∧ (r2 = false → (All [S.ref01_Mul_pre x.power x.a, S.ref01_Add_pre x.sum r3] ∧ True))))) ∧ (b1 = false → True))
noncomputable def S.ref03_Sum_L0_run (x : S.ref03_Sum_L0) : Bool × S.ref03_Sum_L0 := theRun (fun x => ⟨true, x⟩) S.ref03_Sum_L0_step S.ref03_Sum_L0_vcs x
/-- sieveholesref03.Sum -/
noncomputable def S.ref03_Sum (limbs : Int) (a : (List Int)) (n : Int) : (List Int) × Bool :=
  let b1 : Bool := (a.length : Int) == 0
  let r2 : (List Int) := S.ref03_One
  let r3 : (List Int) := S.ref03_One
  let r4 : Bool := S.ref03_over r3 limbs
  let b5 : Bool := !r4
  let r6 : Bool := S.ref03_small a
  let r7 : (List Int) := S.ref03_Number n
  let r8 : (List Int) := S.ref03_One
  let r9 : (List Int) := S.ref01_Add r7 r8
  let r10 : Bool := S.ref03_over r9 limbs
  let b11 : Bool := !r10
  let r12 : (List Int) := S.ref03_One
  let r13 : (List Int) := S.ref03_One
  let x14 : S.ref03_Sum_L0 := (⟨limbs, a, n, ([] : List Int), false, r12, r13, 0⟩ : S.ref03_Sum_L0)
  let y15 : Bool × S.ref03_Sum_L0 := S.ref03_Sum_L0_run x14
  let r16 : Bool := S.ref03_over y15.2.sum y15.2.limbs
  let b17 : Bool := !r16
  (bif b1 then (r2, b5) else (bif r6 then (r9, b11) else (bif y15.1 then (y15.2.t6, y15.2.t7) else (y15.2.sum, b17))))
def S.ref03_Sum_pre (limbs : Int) (a : (List Int)) (n : Int) : Prop :=
  let b1 : Bool := (a.length : Int) == 0
  let r3 : (List Int) := S.ref03_One
  let r6 : Bool := S.ref03_small a
  let r7 : (List Int) := S.ref03_Number n
  let r8 : (List Int) := S.ref03_One
  let r9 : (List Int) := S.ref01_Add r7 r8
  let r12 : (List Int) := S.ref03_One
  let r13 : (List Int) := S.ref03_One
  let x14 : S.ref03_Sum_L0 := (⟨limbs, a, n, ([] : List Int), false, r12, r13, 0⟩ : S.ref03_Sum_L0)
  let y15 : Bool × S.ref03_Sum_L0 := S.ref03_Sum_L0_run x14
  ((b1 = true → (All [S.ref03_over_pre r3 limbs] ∧ True)) ∧ (b1 = false → (All [S.ref03_small_pre a] ∧ ((r6 = true → (All [S.ref03_Number_pre n, S.ref01_Add_pre r7 r8, S.ref03_over_pre r9 limbs] ∧ True)) ∧ (r6 = false → (All [Runs S.ref03_Sum_L0_step S.ref03_Sum_L0_vcs x14 (S.ref03_Sum_L0_run x14)] ∧ ((y15.1 = true → True) ∧ (y15.1 = false → (All [S.ref03_over_pre y15.2.sum y15.2.limbs] ∧ True)))))))))
/-- power.Two -/
noncomputable def S.power_Two (c : Int) (n : Int) : S.Num × Bool :=
  let r1 : Int := S.power_most c
  let b2 : Bool := decide (n ≥ r1)
  let t3 : Int := IntKind.u64.wrap (Int.tdiv n 64)
  let t4 : Int := IntKind.u64.wrap (t3 + 1)
  let t5 : Int := IntKind.u64.wrap (Int.tdiv n 64)
  let t6 : Int := Int.tmod n 64
  let t7 : Int := IntKind.u64.wrap (1 * 2 ^ min (Int.toNat t6) 64)
  let l8 : List Int := (List.replicate (Int.toNat t4) (0 : Int)).set (Int.toNat t5) t7
  let r9 : S.Num := S.nat_Limbs l8
  (bif b2 then ((⟨([] : List Int)⟩ : S.Num), false) else (r9, true))
def S.power_Two_pre (c : Int) (n : Int) : Prop :=
  let r1 : Int := S.power_most c
  let b2 : Bool := decide (n ≥ r1)
  let t3 : Int := IntKind.u64.wrap (Int.tdiv n 64)
  let t4 : Int := IntKind.u64.wrap (t3 + 1)
  let t5 : Int := IntKind.u64.wrap (Int.tdiv n 64)
  let t6 : Int := Int.tmod n 64
  let t7 : Int := IntKind.u64.wrap (1 * 2 ^ min (Int.toNat t6) 64)
  let l8 : List Int := (List.replicate (Int.toNat t4) (0 : Int)).set (Int.toNat t5) t7
  ((b2 = true → True) ∧ (b2 = false → (All [(0 : Int) ≤ t4, t4 = t4, t4 * 8 ≤ 140737488355328, (0 : Int) ≤ t6, (0 : Int) ≤ t5, t5 < ((List.replicate (Int.toNat t4) (0 : Int)).length : Int), S.nat_Limbs_pre l8] ∧ True)))
/-- sieveholeslaw03.PowerPows -/
noncomputable def S.law03_PowerPows (c : Int) (a : (List Int)) (n : Int) : Bool :=
  let b1 : Bool := decide ((a.length : Int) > 6)
  let r2 : Bool := S.law03_works
  let r3 : Int := S.law03_limit c
  let r4 : (List Int) := S.ref01_Of a
  let r5 : S.Num := S.nat_Limbs a
  let m6 : Int := if 1000 < n then 1000 else n
  let r7 : S.Num × Bool := S.power_Pow r3 r5 n
  let r8 : (List Int) × Bool := S.ref03_Pow r3 r4 m6
  let r9 : Bool := S.law03_is r7.1 r7.2 r8.1 r8.2
  let b10 : Bool := !r9
  let r11 : S.Num × Bool := S.power_Sum r3 r5 n
  let r12 : (List Int) × Bool := S.ref03_Sum r3 r4 n
  let r13 : S.Num × Bool := S.power_Two r3 n
  let r14 : (List Int) × Bool := S.ref03_Pow r3 ([2] : List Int) m6
  let r15 : Bool := S.law03_is r11.1 r11.2 r12.1 r12.2
  let r16 : Bool := S.law03_is r13.1 r13.2 r14.1 r14.2
  let p17 : Bool := (r15 && r16)
  let r18 : (List Int) := S.nat_Nat_All r5
  let r19 : (List Int) := S.ref01_Of r18
  let r20 : Bool := S.ref01_Same r19 r4
  let p21 : Bool := (p17 && r20)
  let r22 : Bool := S.law03_works
  let p23 : Bool := (p21 && r22)
  (bif b1 then r2 else (bif b10 then false else p23))
def S.law03_PowerPows_pre (c : Int) (a : (List Int)) (n : Int) : Prop :=
  let b1 : Bool := decide ((a.length : Int) > 6)
  let r3 : Int := S.law03_limit c
  let r4 : (List Int) := S.ref01_Of a
  let r5 : S.Num := S.nat_Limbs a
  let m6 : Int := if 1000 < n then 1000 else n
  let r7 : S.Num × Bool := S.power_Pow r3 r5 n
  let r8 : (List Int) × Bool := S.ref03_Pow r3 r4 m6
  let r9 : Bool := S.law03_is r7.1 r7.2 r8.1 r8.2
  let b10 : Bool := !r9
  let r11 : S.Num × Bool := S.power_Sum r3 r5 n
  let r12 : (List Int) × Bool := S.ref03_Sum r3 r4 n
  let r13 : S.Num × Bool := S.power_Two r3 n
  let r14 : (List Int) × Bool := S.ref03_Pow r3 ([2] : List Int) m6
  let r15 : Bool := S.law03_is r11.1 r11.2 r12.1 r12.2
  let r16 : Bool := S.law03_is r13.1 r13.2 r14.1 r14.2
  let p17 : Bool := (r15 && r16)
  let r18 : (List Int) := S.nat_Nat_All r5
  let r19 : (List Int) := S.ref01_Of r18
  let r20 : Bool := S.ref01_Same r19 r4
  let p21 : Bool := (p17 && r20)
  ((b1 = true → (All [S.law03_works_pre] ∧ True)) ∧ (b1 = false → (All [S.ref01_Of_pre a, S.nat_Limbs_pre a, S.power_Pow_pre r3 r5 n, S.ref03_Pow_pre r3 r4 m6, S.law03_is_pre r7.1 r7.2 r8.1 r8.2] ∧ ((b10 = true → True) ∧ (b10 = false → (All [S.power_Sum_pre r3 r5 n, S.ref03_Sum_pre r3 r4 n, S.power_Two_pre r3 n, S.ref03_Pow_pre r3 ([2] : List Int) m6, S.law03_is_pre r11.1 r11.2 r12.1 r12.2, (r15 = true → S.law03_is_pre r13.1 r13.2 r14.1 r14.2), (p17 = true → S.nat_Nat_All_pre r5), (p17 = true → S.ref01_Of_pre r18), (p17 = true → S.ref01_Same_pre r19 r4), (p21 = true → S.law03_works_pre)] ∧ True))))))
/-- sieveholeslaw03.PowerLaws -/
noncomputable def S.law03_PowerLaws (a : (List Int)) (m : Int) (n : Int) : Bool :=
  let b1 : Bool := decide ((a.length : Int) > 3)
  let r2 : Bool := S.law03_works
  let r3 : S.Num := S.nat_Limbs a
  let t4 : Int := Int.tmod m 16
  let t5 : Int := IntKind.u64.wrap t4
  let t6 : Int := Int.tmod n 16
  let t7 : Int := IntKind.u64.wrap t6
  let r8 : S.Num × Bool := S.power_Pow 200 r3 t5
  let r9 : S.Num × Bool := S.power_Pow 200 r3 t7
  let t10 : Int := IntKind.u64.wrap (t5 + t7)
  let r11 : S.Num × Bool := S.power_Pow 200 r3 t10
  let r12 : S.Num × Bool := S.power_Sum 200 r3 t5
  let t13 : Int := IntKind.u64.wrap (t5 + 1)
  let r14 : S.Num × Bool := S.power_Sum 200 r3 t13
  let b15 : Bool := !r8.2
  let b16 : Bool := !r9.2
  let p17 : Bool := (b15 || b16)
  let b18 : Bool := !r11.2
  let p19 : Bool := (p17 || b18)
  let b20 : Bool := !r12.2
  let p21 : Bool := (p19 || b20)
  let b22 : Bool := !r14.2
  let p23 : Bool := (p21 || b22)
  let r24 : S.Num := S.nat_Mul r8.1 r9.1
  let r25 : Int := S.nat_Cmp r24 r11.1
  let b26 : Bool := r25 != 0
  let p27 : Bool := (p23 || b26)
  let r28 : S.Num := S.nat_Mul r12.1 r3
  let r29 : S.Num := S.nat_Of 1
  let r30 : S.Num := S.nat_Add r28 r29
  let r31 : Int := S.nat_Cmp r30 r14.1
  let b32 : Bool := r31 != 0
  let p33 : Bool := (p27 || b32)
  let r34 : Int := S.nat_Cmp r12.1 r8.1
  let b35 : Bool := decide (r34 < 0)
  let p36 : Bool := (p33 || b35)
  let r37 : Int := S.power_Log r3
  let r38 : S.Num × Bool := S.power_Two 200 r37
  let b39 : Bool := !r38.2
  let r40 : Int := S.nat_Cmp r38.1 r3
  let b41 : Bool := decide (r40 < 0)
  let p42 : Bool := (b39 || b41)
  let b43 : Bool := decide (r37 > 0)
  let t44 : Int := IntKind.u64.wrap (r37 - 1)
  let r45 : S.Num × Bool := S.power_Two 200 t44
  let b46 : Bool := !r45.2
  let r47 : Int := S.nat_Cmp r45.1 r3
  let b48 : Bool := decide (r47 ≥ 0)
  let p49 : Bool := (b46 || b48)
  let r50 : Bool := S.law03_works
  let r51 : Bool := S.law03_works
  (bif b1 then r2 else (bif p36 then false else (bif p42 then false else (bif b43 then (bif p49 then false else r50) else r51))))
def S.law03_PowerLaws_pre (a : (List Int)) (m : Int) (n : Int) : Prop :=
  let b1 : Bool := decide ((a.length : Int) > 3)
  let r3 : S.Num := S.nat_Limbs a
  let t4 : Int := Int.tmod m 16
  let t5 : Int := IntKind.u64.wrap t4
  let t6 : Int := Int.tmod n 16
  let t7 : Int := IntKind.u64.wrap t6
  let r8 : S.Num × Bool := S.power_Pow 200 r3 t5
  let r9 : S.Num × Bool := S.power_Pow 200 r3 t7
  let t10 : Int := IntKind.u64.wrap (t5 + t7)
  let r11 : S.Num × Bool := S.power_Pow 200 r3 t10
  let r12 : S.Num × Bool := S.power_Sum 200 r3 t5
  let t13 : Int := IntKind.u64.wrap (t5 + 1)
  let r14 : S.Num × Bool := S.power_Sum 200 r3 t13
  let b15 : Bool := !r8.2
  let b16 : Bool := !r9.2
  let p17 : Bool := (b15 || b16)
  let b18 : Bool := !r11.2
  let p19 : Bool := (p17 || b18)
  let b20 : Bool := !r12.2
  let p21 : Bool := (p19 || b20)
  let b22 : Bool := !r14.2
  let p23 : Bool := (p21 || b22)
  let r24 : S.Num := S.nat_Mul r8.1 r9.1
  let r25 : Int := S.nat_Cmp r24 r11.1
  let b26 : Bool := r25 != 0
  let p27 : Bool := (p23 || b26)
  let r28 : S.Num := S.nat_Mul r12.1 r3
  let r29 : S.Num := S.nat_Of 1
  let r30 : S.Num := S.nat_Add r28 r29
  let r31 : Int := S.nat_Cmp r30 r14.1
  let b32 : Bool := r31 != 0
  let p33 : Bool := (p27 || b32)
  let r34 : Int := S.nat_Cmp r12.1 r8.1
  let b35 : Bool := decide (r34 < 0)
  let p36 : Bool := (p33 || b35)
  let r37 : Int := S.power_Log r3
  let r38 : S.Num × Bool := S.power_Two 200 r37
  let b39 : Bool := !r38.2
  let r40 : Int := S.nat_Cmp r38.1 r3
  let b41 : Bool := decide (r40 < 0)
  let p42 : Bool := (b39 || b41)
  let b43 : Bool := decide (r37 > 0)
  let t44 : Int := IntKind.u64.wrap (r37 - 1)
  let r45 : S.Num × Bool := S.power_Two 200 t44
  let b46 : Bool := !r45.2
  let r47 : Int := S.nat_Cmp r45.1 r3
  let b48 : Bool := decide (r47 ≥ 0)
  let p49 : Bool := (b46 || b48)
  ((b1 = true → (All [S.law03_works_pre] ∧ True)) ∧ (b1 = false → (All [S.nat_Limbs_pre a, S.power_Pow_pre 200 r3 t5, S.power_Pow_pre 200 r3 t7, S.power_Pow_pre 200 r3 t10, S.power_Sum_pre 200 r3 t5, S.power_Sum_pre 200 r3 t13, (p23 = false → S.nat_Mul_pre r8.1 r9.1), (p23 = false → S.nat_Cmp_pre r24 r11.1), (p27 = false → S.nat_Mul_pre r12.1 r3), (p27 = false → S.nat_Of_pre 1), (p27 = false → S.nat_Add_pre r28 r29), (p27 = false → S.nat_Cmp_pre r30 r14.1), (p33 = false → S.nat_Cmp_pre r12.1 r8.1)] ∧ ((p36 = true → True) ∧ (p36 = false → (All [S.power_Log_pre r3, S.power_Two_pre 200 r37, (b39 = false → S.nat_Cmp_pre r38.1 r3)] ∧ ((p42 = true → True) ∧ (p42 = false → ((b43 = true → (All [S.power_Two_pre 200 t44, (b46 = false → S.nat_Cmp_pre r45.1 r3)] ∧ ((p49 = true → True) ∧ (p49 = false → (All [S.law03_works_pre] ∧ True))))) ∧ (b43 = false → (All [S.law03_works_pre] ∧ True)))))))))))
