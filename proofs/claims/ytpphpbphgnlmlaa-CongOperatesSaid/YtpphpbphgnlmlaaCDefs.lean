/-
  Printed by a program for this claim: functions of the code as plain functions, and that the code comes to them. Conditions: those that each theorem states.
-/
import Derived.Test.YtpphpbphgnlmlaaVm15
set_option linter.all false
open Go Vm
@[ext] structure S.Cong where
  M : Int
  R : Int
def S.Cong.ok (x : S.Cong) : Prop := (inr .u64 x.M) ∧ (inr .u64 x.R) ∧ True
/-- cong.Top -/
def S.cong_Top : S.Cong :=
  (⟨1, 0⟩ : S.Cong)
/-- cong.Const -/
def S.cong_Const (n : Int) : S.Cong :=
  let t1 : Int := IntKind.u64.wrap n
  (⟨0, t1⟩ : S.Cong)
/-- sieveholeslaw20.ref -/
def S.law20_ref (c : S.Cong) : S.Cong :=
  c
/-- sieveholesref20.Rest -/
def S.ref20_Rest (n : Int) (m : Int) : Int :=
  let b1 : Bool := decide (n ≥ 0)
  let t2 : Int := IntKind.u64.wrap n
  let t3 : Int := Int.tmod t2 m
  let t4 : Int := IntKind.u64.wrap (m - 1)
  let t5 : Int := IntKind.i64.wrap (n + 1)
  let t6 : Int := IntKind.i64.wrap (0 - t5)
  let t7 : Int := IntKind.u64.wrap t6
  let t8 : Int := Int.tmod t7 m
  let t9 : Int := IntKind.u64.wrap (t4 - t8)
  (bif b1 then t3 else t9)
def S.ref20_Rest_pre (n : Int) (m : Int) : Prop :=
  let b1 : Bool := decide (n ≥ 0)
  ((b1 = true → (All [m ≠ 0] ∧ True)) ∧ (b1 = false → (All [m ≠ 0] ∧ True)))
/-- sieveholesref20.Make -/
def S.ref20_Make (m : Int) (n : Int) : S.Cong :=
  let b1 : Bool := m == 0
  let t2 : Int := IntKind.u64.wrap n
  let r3 : Int := S.ref20_Rest n m
  (bif b1 then (⟨0, t2⟩ : S.Cong) else (⟨m, r3⟩ : S.Cong))
def S.ref20_Make_pre (m : Int) (n : Int) : Prop :=
  let b1 : Bool := m == 0
  ((b1 = true → True) ∧ (b1 = false → (All [S.ref20_Rest_pre n m] ∧ True)))
/-- cong.rest -/
def S.cong_rest (n : Int) (m : Int) : Int :=
  let b1 : Bool := decide (n < 0)
  let t2 : Int := IntKind.u64.wrap (m - 1)
  let t3 : Int := IntKind.u64.wrap n
  let t4 : Int := bits .xor .u64 (if IntKind.u64.signed then -1 else IntKind.u64.max) t3
  let t5 : Int := Int.tmod t4 m
  let t6 : Int := IntKind.u64.wrap (t2 - t5)
  let t7 : Int := IntKind.u64.wrap n
  let t8 : Int := Int.tmod t7 m
  (bif b1 then t6 else t8)
def S.cong_rest_pre (n : Int) (m : Int) : Prop :=
  let b1 : Bool := decide (n < 0)
  ((b1 = true → (All [m ≠ 0] ∧ True)) ∧ (b1 = false → (All [m ≠ 0] ∧ True)))
/-- cong.Make -/
def S.cong_Make (m : Int) (n : Int) : S.Cong :=
  let b1 : Bool := m == 0
  let r2 : S.Cong := S.cong_Const n
  let r3 : Int := S.cong_rest n m
  (bif b1 then r2 else (⟨m, r3⟩ : S.Cong))
def S.cong_Make_pre (m : Int) (n : Int) : Prop :=
  let b1 : Bool := m == 0
  ((b1 = true → True) ∧ (b1 = false → (All [S.cong_rest_pre n m] ∧ True)))
/-- (cong.Cong).single -/
def S.cong_Cong_single (c : S.Cong) : Bool :=
  let b1 : Bool := c.M == 0
  b1
/-- (cong.Cong).Right -/
def S.cong_Cong_Right (c : S.Cong) : Bool :=
  let r1 : Bool := S.cong_Cong_single c
  let b2 : Bool := decide (c.R < c.M)
  let p3 : Bool := (r1 || b2)
  p3
/-- sieveholesref20.Right -/
def S.ref20_Right (c : S.Cong) : Bool :=
  let b1 : Bool := c.M == 0
  let b2 : Bool := decide (c.R < c.M)
  let p3 : Bool := (b1 || b2)
  p3
@[ext] structure S.cong_gcd_L0 where
  a : Int
  b : Int
def S.cong_gcd_L0_step (x : S.cong_gcd_L0) : S.cong_gcd_L0 ⊕ (S.cong_gcd_L0) :=
  let b1 : Bool := x.b == 0
  let t2 : Int := Int.tmod x.a x.b
  (bif b1 then (.inr ⟨x.a, x.b⟩) else (.inl ⟨x.b, t2⟩))
def S.cong_gcd_L0_vcs (x : S.cong_gcd_L0) : Prop :=
  let b1 : Bool := x.b == 0
  ((b1 = true → True) ∧ (b1 = false → (All [x.b ≠ 0] ∧ True)))
noncomputable def S.cong_gcd_L0_run (x : S.cong_gcd_L0) : S.cong_gcd_L0 := theRun (fun x => x) S.cong_gcd_L0_step S.cong_gcd_L0_vcs x
/-- cong.gcd -/
noncomputable def S.cong_gcd (a : Int) (b : Int) : Int :=
  let x1 : S.cong_gcd_L0 := (⟨a, b⟩ : S.cong_gcd_L0)
  let y2 : S.cong_gcd_L0 := S.cong_gcd_L0_run x1
  y2.a
def S.cong_gcd_pre (a : Int) (b : Int) : Prop :=
  let x1 : S.cong_gcd_L0 := (⟨a, b⟩ : S.cong_gcd_L0)
  (All [Runs S.cong_gcd_L0_step S.cong_gcd_L0_vcs x1 (S.cong_gcd_L0_run x1)] ∧ True)
/-- (cong.Cong).number -/
def S.cong_Cong_number (c : S.Cong) : Int :=
  let t1 : Int := IntKind.i64.wrap c.R
  t1
/-- (cong.Cong).by -/
def S.cong_Cong_by (c : S.Cong) (g : Int) : Int :=
  let r1 : Bool := S.cong_Cong_single c
  let r2 : Int := S.cong_Cong_number c
  let r3 : Int := S.cong_rest r2 g
  let t4 : Int := Int.tmod c.R g
  (bif r1 then r3 else t4)
def S.cong_Cong_by_pre (c : S.Cong) (g : Int) : Prop :=
  let r1 : Bool := S.cong_Cong_single c
  let r2 : Int := S.cong_Cong_number c
  ((r1 = true → (All [S.cong_rest_pre r2 g] ∧ True)) ∧ (r1 = false → (All [g ≠ 0] ∧ True)))
/-- cong.far -/
def S.cong_far (a : Int) (b : Int) : Int :=
  let m1 : Int := if b > a then b else a
  let m2 : Int := if b < a then b else a
  let t3 : Int := IntKind.u64.wrap (m1 - m2)
  t3
/-- cong.Join -/
noncomputable def S.cong_Join (a : S.Cong) (b : S.Cong) : S.Cong :=
  let r1 : Int := S.cong_gcd a.M b.M
  let b2 : Bool := ((a.M == b.M) && (a.R == b.R))
  let b3 : Bool := r1 == 0
  let r4 : Int := S.cong_Cong_number a
  let r5 : Int := S.cong_Cong_number b
  let m6 : Int := if r5 > r4 then r5 else r4
  let t7 : Int := IntKind.u64.wrap m6
  let m8 : Int := if r5 < r4 then r5 else r4
  let t9 : Int := IntKind.u64.wrap m8
  let t10 : Int := IntKind.u64.wrap (t7 - t9)
  let r11 : S.Cong := S.cong_Make t10 r4
  let r12 : Int := S.cong_Cong_by a r1
  let r13 : Int := S.cong_Cong_by b r1
  let r14 : Int := S.cong_far r12 r13
  let r15 : Int := S.cong_gcd r1 r14
  let t16 : Int := Int.tmod r12 r15
  (bif b2 then a else (bif b3 then r11 else (⟨r15, t16⟩ : S.Cong)))
def S.cong_Join_pre (a : S.Cong) (b : S.Cong) : Prop :=
  let r1 : Int := S.cong_gcd a.M b.M
  let b2 : Bool := ((a.M == b.M) && (a.R == b.R))
  let b3 : Bool := r1 == 0
  let r4 : Int := S.cong_Cong_number a
  let r5 : Int := S.cong_Cong_number b
  let m6 : Int := if r5 > r4 then r5 else r4
  let t7 : Int := IntKind.u64.wrap m6
  let m8 : Int := if r5 < r4 then r5 else r4
  let t9 : Int := IntKind.u64.wrap m8
  let t10 : Int := IntKind.u64.wrap (t7 - t9)
  let r12 : Int := S.cong_Cong_by a r1
  let r13 : Int := S.cong_Cong_by b r1
  let r14 : Int := S.cong_far r12 r13
  let r15 : Int := S.cong_gcd r1 r14
  (All [S.cong_gcd_pre a.M b.M] ∧ ((b2 = true → True) ∧ (b2 = false → ((b3 = true → (All [S.cong_Make_pre t10 r4] ∧ True)) ∧ (b3 = false → (All [S.cong_Cong_by_pre a r1, S.cong_Cong_by_pre b r1, S.cong_gcd_pre r1 r14, r15 ≠ 0] ∧ True))))))
/-- (cong.Cong).Has -/
def S.cong_Cong_Has (c : S.Cong) (n : Int) : Bool :=
  let r1 : S.Cong := S.cong_Make c.M n
  let b2 : Bool := ((r1.M == c.M) && (r1.R == c.R))
  b2
def S.cong_Cong_Has_pre (c : S.Cong) (n : Int) : Prop :=
  (All [S.cong_Make_pre c.M n] ∧ True)
/-- (cong.Cong).if1 -/
def S.cong_Cong_if1 (c : S.Cong) (ok : Bool) : S.Cong × Bool :=
  let b1 : Bool := !ok
  (bif b1 then ((⟨0, 0⟩ : S.Cong), false) else (c, true))
/-- cong.Within -/
def S.cong_Within (a : S.Cong) (b : S.Cong) : Bool :=
  let r1 : Bool := S.cong_Cong_single b
  let b2 : Bool := ((a.M == b.M) && (a.R == b.R))
  let t3 : Int := Int.tmod a.M b.M
  let b4 : Bool := t3 == 0
  let r5 : Int := S.cong_Cong_by a b.M
  let b6 : Bool := r5 == b.R
  let p7 : Bool := (b4 && b6)
  (bif r1 then b2 else p7)
def S.cong_Within_pre (a : S.Cong) (b : S.Cong) : Prop :=
  let r1 : Bool := S.cong_Cong_single b
  let t3 : Int := Int.tmod a.M b.M
  let b4 : Bool := t3 == 0
  ((r1 = true → True) ∧ (r1 = false → (All [b.M ≠ 0, (b4 = true → S.cong_Cong_by_pre a b.M)] ∧ True)))
/-- cong.Meet -/
noncomputable def S.cong_Meet (a : S.Cong) (b : S.Cong) : S.Cong × Bool :=
  let r1 : Int := S.cong_gcd a.M b.M
  let r2 : Bool := S.cong_Cong_single a
  let r3 : Int := S.cong_Cong_number a
  let r4 : Bool := S.cong_Cong_Has b r3
  let r5 : S.Cong × Bool := S.cong_Cong_if1 a r4
  let r6 : Bool := S.cong_Cong_single b
  let r7 : Int := S.cong_Cong_number b
  let r8 : Bool := S.cong_Cong_Has a r7
  let r9 : S.Cong × Bool := S.cong_Cong_if1 b r8
  let r10 : Int := S.cong_Cong_by a r1
  let r11 : Int := S.cong_Cong_by b r1
  let b12 : Bool := r10 != r11
  let r13 : Bool := S.cong_Within a b
  let r14 : Bool := S.cong_Within b a
  let b15 : Bool := !r14
  let b16 : Bool := decide (a.M ≥ b.M)
  let p17 : Bool := (b15 && b16)
  let p18 : Bool := (r13 || p17)
  (bif r2 then (r5.1, r5.2) else (bif r6 then (r9.1, r9.2) else (bif b12 then ((⟨0, 0⟩ : S.Cong), false) else (bif p18 then (a, true) else (b, true)))))
def S.cong_Meet_pre (a : S.Cong) (b : S.Cong) : Prop :=
  let r1 : Int := S.cong_gcd a.M b.M
  let r2 : Bool := S.cong_Cong_single a
  let r3 : Int := S.cong_Cong_number a
  let r6 : Bool := S.cong_Cong_single b
  let r7 : Int := S.cong_Cong_number b
  let r10 : Int := S.cong_Cong_by a r1
  let r11 : Int := S.cong_Cong_by b r1
  let b12 : Bool := r10 != r11
  let r13 : Bool := S.cong_Within a b
  let r14 : Bool := S.cong_Within b a
  let b15 : Bool := !r14
  let b16 : Bool := decide (a.M ≥ b.M)
  let p17 : Bool := (b15 && b16)
  let p18 : Bool := (r13 || p17)
  (All [S.cong_gcd_pre a.M b.M] ∧ ((r2 = true → (All [S.cong_Cong_Has_pre b r3] ∧ True)) ∧ (r2 = false → ((r6 = true → (All [S.cong_Cong_Has_pre a r7] ∧ True)) ∧ (r6 = false → (All [S.cong_Cong_by_pre a r1, S.cong_Cong_by_pre b r1] ∧ ((b12 = true → True) ∧ (b12 = false → (All [S.cong_Within_pre a b, (r13 = false → S.cong_Within_pre b a)] ∧ ((p18 = true → True) ∧ (p18 = false → True)))))))))))
/-- (cong.Cong).number0 -/
def S.cong_Cong_number0 (c : S.Cong) (ok : Bool) : Int × Bool :=
  let b1 : Bool := !ok
  let r2 : Int := S.cong_Cong_number c
  (bif b1 then (0, false) else (r2, true))
/-- math/bits.Add64 -/
def S.math_bits_Add64 (x y c : Int) : Int × Int := ((x + y + c) % 18446744073709551616, (x + y + c) / 18446744073709551616)
def S.math_bits_Add64_pre (x y c : Int) : Prop := 0 ≤ x ∧ 0 ≤ y ∧ 0 ≤ c ∧ c ≤ 1
/-- cong.plus -/
def S.cong_plus (a : Int) (b : Int) (m : Int) : Int :=
  let r1 : Int × Int := S.math_bits_Add64 a b 0
  let b2 : Bool := decide (r1.2 > 0)
  let b3 : Bool := decide (r1.1 ≥ m)
  let p4 : Bool := (b2 || b3)
  let t5 : Int := IntKind.u64.wrap (r1.1 - m)
  (bif p4 then t5 else r1.1)
def S.cong_plus_pre (a : Int) (b : Int) (m : Int) : Prop :=
  (All [S.math_bits_Add64_pre a b 0] ∧ True)
/-- (cong.Cong).Least -/
def S.cong_Cong_Least (c : S.Cong) (a1 : Int) : Int × Bool :=
  let r1 : Bool := S.cong_Cong_single c
  let r2 : Int := S.cong_Cong_number c
  let b3 : Bool := decide (r2 ≥ a1)
  let r4 : Int × Bool := S.cong_Cong_number0 c b3
  let r5 : Int := S.cong_rest a1 c.M
  let t6 : Int := IntKind.u64.wrap (c.M - r5)
  let t7 : Int := Int.tmod t6 c.M
  let r8 : Int := S.cong_plus c.R t7 c.M
  let t9 : Int := IntKind.u64.wrap a1
  let t10 : Int := IntKind.u64.wrap (9223372036854775807 - t9)
  let b11 : Bool := decide (r8 > t10)
  let t12 : Int := IntKind.i64.wrap r8
  let t13 : Int := IntKind.i64.wrap (a1 + t12)
  (bif r1 then (r4.1, r4.2) else (bif b11 then (0, false) else (t13, true)))
def S.cong_Cong_Least_pre (c : S.Cong) (a1 : Int) : Prop :=
  let r1 : Bool := S.cong_Cong_single c
  let r5 : Int := S.cong_rest a1 c.M
  let t6 : Int := IntKind.u64.wrap (c.M - r5)
  let t7 : Int := Int.tmod t6 c.M
  let r8 : Int := S.cong_plus c.R t7 c.M
  let t9 : Int := IntKind.u64.wrap a1
  let t10 : Int := IntKind.u64.wrap (9223372036854775807 - t9)
  let b11 : Bool := decide (r8 > t10)
  ((r1 = true → True) ∧ (r1 = false → (All [S.cong_rest_pre a1 c.M, c.M ≠ 0, S.cong_plus_pre c.R t7 c.M] ∧ ((b11 = true → True) ∧ (b11 = false → True)))))
/-- cong.Add -/
noncomputable def S.cong_Add (a : S.Cong) (b : S.Cong) : S.Cong :=
  let r1 : Int := S.cong_gcd a.M b.M
  let b2 : Bool := r1 == 0
  let t3 : Int := IntKind.u64.wrap (a.R + b.R)
  let r4 : Int := S.cong_Cong_by a r1
  let r5 : Int := S.cong_Cong_by b r1
  let r6 : Int := S.cong_plus r4 r5 r1
  (bif b2 then (⟨0, t3⟩ : S.Cong) else (⟨r1, r6⟩ : S.Cong))
def S.cong_Add_pre (a : S.Cong) (b : S.Cong) : Prop :=
  let r1 : Int := S.cong_gcd a.M b.M
  let b2 : Bool := r1 == 0
  let r4 : Int := S.cong_Cong_by a r1
  let r5 : Int := S.cong_Cong_by b r1
  (All [S.cong_gcd_pre a.M b.M] ∧ ((b2 = true → True) ∧ (b2 = false → (All [S.cong_Cong_by_pre a r1, S.cong_Cong_by_pre b r1, S.cong_plus_pre r4 r5 r1] ∧ True))))
/-- math/bits.Mul64 -/
def S.math_bits_Mul64 (x : Int) (y : Int) : Int × Int :=
  let t1 : Int := bits .and .u64 x 4294967295
  let t2 : Int := Int.fdiv x (2 ^ min (Int.toNat 32) 64)
  let t3 : Int := bits .and .u64 y 4294967295
  let t4 : Int := Int.fdiv y (2 ^ min (Int.toNat 32) 64)
  let t5 : Int := IntKind.u64.wrap (t1 * t3)
  let t6 : Int := IntKind.u64.wrap (t2 * t3)
  let t7 : Int := Int.fdiv t5 (2 ^ min (Int.toNat 32) 64)
  let t8 : Int := IntKind.u64.wrap (t6 + t7)
  let t9 : Int := bits .and .u64 t8 4294967295
  let t10 : Int := Int.fdiv t8 (2 ^ min (Int.toNat 32) 64)
  let t11 : Int := IntKind.u64.wrap (t1 * t4)
  let t12 : Int := IntKind.u64.wrap (t9 + t11)
  let t13 : Int := IntKind.u64.wrap (t2 * t4)
  let t14 : Int := IntKind.u64.wrap (t13 + t10)
  let t15 : Int := Int.fdiv t12 (2 ^ min (Int.toNat 32) 64)
  let t16 : Int := IntKind.u64.wrap (t14 + t15)
  let t17 : Int := IntKind.u64.wrap (x * y)
  (t16, t17)
/-- cong.fits -/
def S.cong_fits (a : Int) (b : Int) : Int × Bool :=
  let r1 : Int × Int := S.math_bits_Mul64 a b
  let b2 : Bool := r1.1 == 0
  (r1.2, b2)
/-- math/bits.Len64 -/
def S.math_bits_Len64 (x : Int) : Int :=
  let b1 : Bool := decide (x ≥ 4294967296)
  let t2 : Int := Int.fdiv x (2 ^ min (Int.toNat 32) 64)
  let b3 : Bool := decide ((bif b1 then t2 else x) ≥ 65536)
  let t4 : Int := Int.fdiv (bif b1 then t2 else x) (2 ^ min (Int.toNat 16) 64)
  let t5 : Int := IntKind.i64.wrap ((bif b1 then 32 else 0) + 16)
  let b6 : Bool := decide ((bif b3 then t4 else (bif b1 then t2 else x)) ≥ 256)
  let t7 : Int := Int.fdiv (bif b3 then t4 else (bif b1 then t2 else x)) (2 ^ min (Int.toNat 8) 64)
  let t8 : Int := IntKind.i64.wrap ((bif b3 then t5 else (bif b1 then 32 else 0)) + 8)
  let t9 : Int := IntKind.u8.wrap (bif b6 then t7 else (bif b3 then t4 else (bif b1 then t2 else x)))
  let t10 : Int := (((⟨#[0, 1, 2, 2, 3, 3, 3, 3, 4, 4, 4, 4, 4, 4, 4, 4, 5, 5, 5, 5, 5, 5, 5, 5, 5, 5, 5, 5, 5, 5, 5, 5, 6, 6, 6, 6, 6, 6, 6, 6, 6, 6, 6, 6, 6, 6, 6, 6, 6, 6, 6, 6, 6, 6, 6, 6, 6, 6, 6, 6, 6, 6, 6, 6, 7, 7, 7, 7, 7, 7, 7, 7, 7, 7, 7, 7, 7, 7, 7, 7, 7, 7, 7, 7, 7, 7, 7, 7, 7, 7, 7, 7, 7, 7, 7, 7, 7, 7, 7, 7, 7, 7, 7, 7, 7, 7, 7, 7, 7, 7, 7, 7, 7, 7, 7, 7, 7, 7, 7, 7, 7, 7, 7, 7, 7, 7, 7, 7, 8, 8, 8, 8, 8, 8, 8, 8, 8, 8, 8, 8, 8, 8, 8, 8, 8, 8, 8, 8, 8, 8, 8, 8, 8, 8, 8, 8, 8, 8, 8, 8, 8, 8, 8, 8, 8, 8, 8, 8, 8, 8, 8, 8, 8, 8, 8, 8, 8, 8, 8, 8, 8, 8, 8, 8, 8, 8, 8, 8, 8, 8, 8, 8, 8, 8, 8, 8, 8, 8, 8, 8, 8, 8, 8, 8, 8, 8, 8, 8, 8, 8, 8, 8, 8, 8, 8, 8, 8, 8, 8, 8, 8, 8, 8, 8, 8, 8, 8, 8, 8, 8, 8, 8, 8, 8, 8, 8, 8, 8, 8, 8, 8, 8, 8, 8, 8, 8, 8, 8, 8, 8, 8, 8, 8, 8, 8, 8]⟩ : ByteArray).data.toList.getD (Int.toNat t9) 0).toNat : Int)
  let t11 : Int := IntKind.i64.wrap t10
  let t12 : Int := IntKind.i64.wrap ((bif b6 then t8 else (bif b3 then t5 else (bif b1 then 32 else 0))) + t11)
  t12
def S.math_bits_Len64_pre (x : Int) : Prop :=
  let b1 : Bool := decide (x ≥ 4294967296)
  let t2 : Int := Int.fdiv x (2 ^ min (Int.toNat 32) 64)
  let b3 : Bool := decide ((bif b1 then t2 else x) ≥ 65536)
  let t4 : Int := Int.fdiv (bif b1 then t2 else x) (2 ^ min (Int.toNat 16) 64)
  let b6 : Bool := decide ((bif b3 then t4 else (bif b1 then t2 else x)) ≥ 256)
  let t7 : Int := Int.fdiv (bif b3 then t4 else (bif b1 then t2 else x)) (2 ^ min (Int.toNat 8) 64)
  let t9 : Int := IntKind.u8.wrap (bif b6 then t7 else (bif b3 then t4 else (bif b1 then t2 else x)))
  (All [0 ≤ t9, t9 < ((⟨#[0, 1, 2, 2, 3, 3, 3, 3, 4, 4, 4, 4, 4, 4, 4, 4, 5, 5, 5, 5, 5, 5, 5, 5, 5, 5, 5, 5, 5, 5, 5, 5, 6, 6, 6, 6, 6, 6, 6, 6, 6, 6, 6, 6, 6, 6, 6, 6, 6, 6, 6, 6, 6, 6, 6, 6, 6, 6, 6, 6, 6, 6, 6, 6, 7, 7, 7, 7, 7, 7, 7, 7, 7, 7, 7, 7, 7, 7, 7, 7, 7, 7, 7, 7, 7, 7, 7, 7, 7, 7, 7, 7, 7, 7, 7, 7, 7, 7, 7, 7, 7, 7, 7, 7, 7, 7, 7, 7, 7, 7, 7, 7, 7, 7, 7, 7, 7, 7, 7, 7, 7, 7, 7, 7, 7, 7, 7, 7, 8, 8, 8, 8, 8, 8, 8, 8, 8, 8, 8, 8, 8, 8, 8, 8, 8, 8, 8, 8, 8, 8, 8, 8, 8, 8, 8, 8, 8, 8, 8, 8, 8, 8, 8, 8, 8, 8, 8, 8, 8, 8, 8, 8, 8, 8, 8, 8, 8, 8, 8, 8, 8, 8, 8, 8, 8, 8, 8, 8, 8, 8, 8, 8, 8, 8, 8, 8, 8, 8, 8, 8, 8, 8, 8, 8, 8, 8, 8, 8, 8, 8, 8, 8, 8, 8, 8, 8, 8, 8, 8, 8, 8, 8, 8, 8, 8, 8, 8, 8, 8, 8, 8, 8, 8, 8, 8, 8, 8, 8, 8, 8, 8, 8, 8, 8, 8, 8, 8, 8, 8, 8, 8, 8, 8, 8, 8, 8]⟩ : ByteArray).size : Int)] ∧ True)
/-- math/bits.LeadingZeros64 -/
def S.math_bits_LeadingZeros64 (x : Int) : Int :=
  let r1 : Int := S.math_bits_Len64 x
  let t2 : Int := IntKind.i64.wrap (64 - r1)
  t2
def S.math_bits_LeadingZeros64_pre (x : Int) : Prop :=
  (All [S.math_bits_Len64_pre x] ∧ True)
@[ext] structure S.math_bits_Div64_L0 where
  yn1 : Int
  yn0 : Int
  un1 : Int
  q1 : Int
  rhat : Int
def S.math_bits_Div64_L0_step (x : S.math_bits_Div64_L0) : S.math_bits_Div64_L0 ⊕ (S.math_bits_Div64_L0) :=
  let b1 : Bool := decide (x.q1 ≥ 4294967296)
  let t2 : Int := IntKind.u64.wrap (x.q1 * x.yn0)
  let t3 : Int := IntKind.u64.wrap (4294967296 * x.rhat)
  let t4 : Int := IntKind.u64.wrap (t3 + x.un1)
  let b5 : Bool := decide (t2 > t4)
  let p6 : Bool := (b1 || b5)
  let t7 : Int := IntKind.u64.wrap (x.q1 - 1)
  let t8 : Int := IntKind.u64.wrap (x.rhat + x.yn1)
  let b9 : Bool := decide (t8 ≥ 4294967296)
  (bif p6 then (bif b9 then (.inr ⟨x.yn1, x.yn0, x.un1, t7, t8⟩) else (.inl ⟨x.yn1, x.yn0, x.un1, t7, t8⟩)) else (.inr ⟨x.yn1, x.yn0, x.un1, x.q1, x.rhat⟩))
def S.math_bits_Div64_L0_vcs (x : S.math_bits_Div64_L0) : Prop :=
  let b1 : Bool := decide (x.q1 ≥ 4294967296)
  let t2 : Int := IntKind.u64.wrap (x.q1 * x.yn0)
  let t3 : Int := IntKind.u64.wrap (4294967296 * x.rhat)
  let t4 : Int := IntKind.u64.wrap (t3 + x.un1)
  let b5 : Bool := decide (t2 > t4)
  let p6 : Bool := (b1 || b5)
  let t8 : Int := IntKind.u64.wrap (x.rhat + x.yn1)
  let b9 : Bool := decide (t8 ≥ 4294967296)
  ((p6 = true → ((b9 = true → True) ∧ (b9 = false → True))) ∧ (p6 = false → True))
noncomputable def S.math_bits_Div64_L0_run (x : S.math_bits_Div64_L0) : S.math_bits_Div64_L0 := theRun (fun x => x) S.math_bits_Div64_L0_step S.math_bits_Div64_L0_vcs x
@[ext] structure S.math_bits_Div64_L2 where
  yn1 : Int
  yn0 : Int
  un0 : Int
  rhat : Int
  q0 : Int
def S.math_bits_Div64_L2_step (x : S.math_bits_Div64_L2) : S.math_bits_Div64_L2 ⊕ (S.math_bits_Div64_L2) :=
  let b1 : Bool := decide (x.q0 ≥ 4294967296)
  let t2 : Int := IntKind.u64.wrap (x.q0 * x.yn0)
  let t3 : Int := IntKind.u64.wrap (4294967296 * x.rhat)
  let t4 : Int := IntKind.u64.wrap (t3 + x.un0)
  let b5 : Bool := decide (t2 > t4)
  let p6 : Bool := (b1 || b5)
  let t7 : Int := IntKind.u64.wrap (x.q0 - 1)
  let t8 : Int := IntKind.u64.wrap (x.rhat + x.yn1)
  let b9 : Bool := decide (t8 ≥ 4294967296)
  (bif p6 then (bif b9 then (.inr ⟨x.yn1, x.yn0, x.un0, t8, t7⟩) else (.inl ⟨x.yn1, x.yn0, x.un0, t8, t7⟩)) else (.inr ⟨x.yn1, x.yn0, x.un0, x.rhat, x.q0⟩))
def S.math_bits_Div64_L2_vcs (x : S.math_bits_Div64_L2) : Prop :=
  let b1 : Bool := decide (x.q0 ≥ 4294967296)
  let t2 : Int := IntKind.u64.wrap (x.q0 * x.yn0)
  let t3 : Int := IntKind.u64.wrap (4294967296 * x.rhat)
  let t4 : Int := IntKind.u64.wrap (t3 + x.un0)
  let b5 : Bool := decide (t2 > t4)
  let p6 : Bool := (b1 || b5)
  let t8 : Int := IntKind.u64.wrap (x.rhat + x.yn1)
  let b9 : Bool := decide (t8 ≥ 4294967296)
  ((p6 = true → ((b9 = true → True) ∧ (b9 = false → True))) ∧ (p6 = false → True))
noncomputable def S.math_bits_Div64_L2_run (x : S.math_bits_Div64_L2) : S.math_bits_Div64_L2 := theRun (fun x => x) S.math_bits_Div64_L2_step S.math_bits_Div64_L2_vcs x
/-- math/bits.Div64 -/
noncomputable def S.math_bits_Div64 (hi : Int) (lo : Int) (y : Int) : Int × Int :=
  let b3 : Bool := hi == 0
  let t4 : Int := IntKind.u64.wrap (Int.tdiv lo y)
  let t5 : Int := Int.tmod lo y
  let r6 : Int := S.math_bits_LeadingZeros64 y
  let t7 : Int := IntKind.u64.wrap r6
  let t8 : Int := IntKind.u64.wrap (y * 2 ^ min (Int.toNat t7) 64)
  let t9 : Int := Int.fdiv t8 (2 ^ min (Int.toNat 32) 64)
  let t10 : Int := bits .and .u64 t8 4294967295
  let t11 : Int := IntKind.u64.wrap (hi * 2 ^ min (Int.toNat t7) 64)
  let t12 : Int := IntKind.u64.wrap (64 - t7)
  let t13 : Int := Int.fdiv lo (2 ^ min (Int.toNat t12) 64)
  let t14 : Int := bits .or .u64 t11 t13
  let t15 : Int := IntKind.u64.wrap (lo * 2 ^ min (Int.toNat t7) 64)
  let t16 : Int := Int.fdiv t15 (2 ^ min (Int.toNat 32) 64)
  let t17 : Int := bits .and .u64 t15 4294967295
  let t18 : Int := IntKind.u64.wrap (Int.tdiv t14 t9)
  let t19 : Int := IntKind.u64.wrap (t18 * t9)
  let t20 : Int := IntKind.u64.wrap (t14 - t19)
  let x21 : S.math_bits_Div64_L0 := (⟨t9, t10, t16, t18, t20⟩ : S.math_bits_Div64_L0)
  let y22 : S.math_bits_Div64_L0 := S.math_bits_Div64_L0_run x21
  let t23 : Int := IntKind.u64.wrap (t14 * 4294967296)
  let t24 : Int := IntKind.u64.wrap (t23 + y22.un1)
  let t25 : Int := IntKind.u64.wrap (y22.q1 * t8)
  let t26 : Int := IntKind.u64.wrap (t24 - t25)
  let t27 : Int := IntKind.u64.wrap (Int.tdiv t26 y22.yn1)
  let t28 : Int := IntKind.u64.wrap (t27 * y22.yn1)
  let t29 : Int := IntKind.u64.wrap (t26 - t28)
  let x30 : S.math_bits_Div64_L2 := (⟨y22.yn1, y22.yn0, t17, t29, t27⟩ : S.math_bits_Div64_L2)
  let y31 : S.math_bits_Div64_L2 := S.math_bits_Div64_L2_run x30
  let t32 : Int := IntKind.u64.wrap (y22.q1 * 4294967296)
  let t33 : Int := IntKind.u64.wrap (t32 + y31.q0)
  let t34 : Int := IntKind.u64.wrap (t26 * 4294967296)
  let t35 : Int := IntKind.u64.wrap (t34 + y31.un0)
  let t36 : Int := IntKind.u64.wrap (y31.q0 * t8)
  let t37 : Int := IntKind.u64.wrap (t35 - t36)
  let t38 : Int := Int.fdiv t37 (2 ^ min (Int.toNat t7) 64)
  (bif b3 then (t4, t5) else (t33, t38))
def S.math_bits_Div64_pre (hi : Int) (lo : Int) (y : Int) : Prop :=
  let b1 : Bool := y == 0
  let b2 : Bool := decide (y ≤ hi)
  let b3 : Bool := hi == 0
  let r6 : Int := S.math_bits_LeadingZeros64 y
  let t7 : Int := IntKind.u64.wrap r6
  let t8 : Int := IntKind.u64.wrap (y * 2 ^ min (Int.toNat t7) 64)
  let t9 : Int := Int.fdiv t8 (2 ^ min (Int.toNat 32) 64)
  let t10 : Int := bits .and .u64 t8 4294967295
  let t11 : Int := IntKind.u64.wrap (hi * 2 ^ min (Int.toNat t7) 64)
  let t12 : Int := IntKind.u64.wrap (64 - t7)
  let t13 : Int := Int.fdiv lo (2 ^ min (Int.toNat t12) 64)
  let t14 : Int := bits .or .u64 t11 t13
  let t15 : Int := IntKind.u64.wrap (lo * 2 ^ min (Int.toNat t7) 64)
  let t16 : Int := Int.fdiv t15 (2 ^ min (Int.toNat 32) 64)
  let t17 : Int := bits .and .u64 t15 4294967295
  let t18 : Int := IntKind.u64.wrap (Int.tdiv t14 t9)
  let t19 : Int := IntKind.u64.wrap (t18 * t9)
  let t20 : Int := IntKind.u64.wrap (t14 - t19)
  let x21 : S.math_bits_Div64_L0 := (⟨t9, t10, t16, t18, t20⟩ : S.math_bits_Div64_L0)
  let y22 : S.math_bits_Div64_L0 := S.math_bits_Div64_L0_run x21
  let t23 : Int := IntKind.u64.wrap (t14 * 4294967296)
  let t24 : Int := IntKind.u64.wrap (t23 + y22.un1)
  let t25 : Int := IntKind.u64.wrap (y22.q1 * t8)
  let t26 : Int := IntKind.u64.wrap (t24 - t25)
  let t27 : Int := IntKind.u64.wrap (Int.tdiv t26 y22.yn1)
  let t28 : Int := IntKind.u64.wrap (t27 * y22.yn1)
  let t29 : Int := IntKind.u64.wrap (t26 - t28)
  let x30 : S.math_bits_Div64_L2 := (⟨y22.yn1, y22.yn0, t17, t29, t27⟩ : S.math_bits_Div64_L2)
  ((b1 = true → False) ∧ (b1 = false → ((b2 = true → False) ∧ (b2 = false → ((b3 = true → (All [y ≠ 0, y ≠ 0] ∧ True)) ∧ (b3 = false → (All [S.math_bits_LeadingZeros64_pre y, 0 ≤ t7, 0 ≤ t7, 0 ≤ t12, 0 ≤ t7, t9 ≠ 0, Runs S.math_bits_Div64_L0_step S.math_bits_Div64_L0_vcs x21 (S.math_bits_Div64_L0_run x21), y22.yn1 ≠ 0, Runs S.math_bits_Div64_L2_step S.math_bits_Div64_L2_vcs x30 (S.math_bits_Div64_L2_run x30), 0 ≤ t7] ∧ True)))))))
/-- math/bits.Rem64 -/
noncomputable def S.math_bits_Rem64 (hi : Int) (lo : Int) (y : Int) : Int :=
  let t1 : Int := Int.tmod hi y
  let r2 : Int × Int := S.math_bits_Div64 t1 lo y
  r2.2
def S.math_bits_Rem64_pre (hi : Int) (lo : Int) (y : Int) : Prop :=
  let t1 : Int := Int.tmod hi y
  (All [y ≠ 0, S.math_bits_Div64_pre t1 lo y] ∧ True)
/-- cong.times -/
noncomputable def S.cong_times (a : Int) (b : Int) (m : Int) : Int :=
  let r1 : Int × Int := S.math_bits_Mul64 a b
  let r2 : Int := S.math_bits_Rem64 r1.1 r1.2 m
  r2
def S.cong_times_pre (a : Int) (b : Int) (m : Int) : Prop :=
  let r1 : Int × Int := S.math_bits_Mul64 a b
  (All [S.math_bits_Rem64_pre r1.1 r1.2 m] ∧ True)
/-- (cong.Cong).scaled -/
noncomputable def S.cong_Cong_scaled (c : S.Cong) (n : Int) : S.Cong :=
  let b1 : Bool := n == 0
  let t2 : Int := IntKind.u64.wrap n
  let b3 : Bool := decide (n < 0)
  let t4 : Int := IntKind.u64.wrap (0 - t2)
  let r5 : Int × Bool := S.cong_fits c.M (bif b3 then t4 else t2)
  let b6 : Bool := !r5.2
  let r7 : Int := S.cong_rest n (bif b6 then c.M else r5.1)
  let t8 : Int := Int.tmod c.R (bif b6 then c.M else r5.1)
  let r9 : Int := S.cong_times r7 t8 (bif b6 then c.M else r5.1)
  (bif b1 then (⟨0, 0⟩ : S.Cong) else (⟨(bif b6 then c.M else r5.1), r9⟩ : S.Cong))
def S.cong_Cong_scaled_pre (c : S.Cong) (n : Int) : Prop :=
  let b1 : Bool := n == 0
  let t2 : Int := IntKind.u64.wrap n
  let b3 : Bool := decide (n < 0)
  let t4 : Int := IntKind.u64.wrap (0 - t2)
  let r5 : Int × Bool := S.cong_fits c.M (bif b3 then t4 else t2)
  let b6 : Bool := !r5.2
  let r7 : Int := S.cong_rest n (bif b6 then c.M else r5.1)
  let t8 : Int := Int.tmod c.R (bif b6 then c.M else r5.1)
  ((b1 = true → True) ∧ (b1 = false → (All [S.cong_rest_pre n (bif b6 then c.M else r5.1), (bif b6 then c.M else r5.1) ≠ 0, S.cong_times_pre r7 t8 (bif b6 then c.M else r5.1)] ∧ True)))
/-- cong.Mul -/
noncomputable def S.cong_Mul (a : S.Cong) (b : S.Cong) : S.Cong :=
  let r1 : Bool := S.cong_Cong_single a
  let r2 : Bool := S.cong_Cong_single b
  let p3 : Bool := (r1 && r2)
  let t4 : Int := IntKind.u64.wrap (a.R * b.R)
  let r5 : Bool := S.cong_Cong_single a
  let r6 : Int := S.cong_Cong_number a
  let r7 : S.Cong := S.cong_Cong_scaled b r6
  let r8 : Bool := S.cong_Cong_single b
  let r9 : Int := S.cong_Cong_number b
  let r10 : S.Cong := S.cong_Cong_scaled a r9
  let r11 : Int := S.cong_gcd a.M b.M
  let r12 : Int := S.cong_gcd a.M a.R
  let r13 : Int := S.cong_gcd b.M b.R
  let r14 : Int × Bool := S.cong_fits r12 r13
  let b15 : Bool := decide (r14.1 > r11)
  let p16 : Bool := (r14.2 && b15)
  let r17 : Int := S.cong_Cong_by a r11
  let r18 : Int := S.cong_Cong_by b r11
  let r19 : Int := S.cong_times r17 r18 r11
  (bif p3 then (⟨0, t4⟩ : S.Cong) else (bif r5 then r7 else (bif r8 then r10 else (bif p16 then (⟨r14.1, 0⟩ : S.Cong) else (⟨r11, r19⟩ : S.Cong)))))
def S.cong_Mul_pre (a : S.Cong) (b : S.Cong) : Prop :=
  let r1 : Bool := S.cong_Cong_single a
  let r2 : Bool := S.cong_Cong_single b
  let p3 : Bool := (r1 && r2)
  let r5 : Bool := S.cong_Cong_single a
  let r6 : Int := S.cong_Cong_number a
  let r8 : Bool := S.cong_Cong_single b
  let r9 : Int := S.cong_Cong_number b
  let r11 : Int := S.cong_gcd a.M b.M
  let r12 : Int := S.cong_gcd a.M a.R
  let r13 : Int := S.cong_gcd b.M b.R
  let r14 : Int × Bool := S.cong_fits r12 r13
  let b15 : Bool := decide (r14.1 > r11)
  let p16 : Bool := (r14.2 && b15)
  let r17 : Int := S.cong_Cong_by a r11
  let r18 : Int := S.cong_Cong_by b r11
  ((p3 = true → True) ∧ (p3 = false → ((r5 = true → (All [S.cong_Cong_scaled_pre b r6] ∧ True)) ∧ (r5 = false → ((r8 = true → (All [S.cong_Cong_scaled_pre a r9] ∧ True)) ∧ (r8 = false → (All [S.cong_gcd_pre a.M b.M, S.cong_gcd_pre a.M a.R, S.cong_gcd_pre b.M b.R] ∧ ((p16 = true → True) ∧ (p16 = false → (All [S.cong_Cong_by_pre a r11, S.cong_Cong_by_pre b r11, S.cong_times_pre r17 r18 r11] ∧ True))))))))))
/-- (cong.Cong).Wrapped -/
def S.cong_Cong_Wrapped (c : S.Cong) : S.Cong :=
  let r1 : Bool := S.cong_Cong_single c
  let t2 : Int := IntKind.u64.wrap (0 - c.M)
  let t3 : Int := bits .and .u64 c.M t2
  let t4 : Int := Int.tmod c.R t3
  (bif r1 then c else (⟨t3, t4⟩ : S.Cong))
def S.cong_Cong_Wrapped_pre (c : S.Cong) : Prop :=
  let r1 : Bool := S.cong_Cong_single c
  let t2 : Int := IntKind.u64.wrap (0 - c.M)
  let t3 : Int := bits .and .u64 c.M t2
  ((r1 = true → True) ∧ (r1 = false → (All [t3 ≠ 0] ∧ True)))
/-- sieveholeslaw20.works -/
noncomputable def S.law20_works : Bool :=
  let r1 : S.Cong := S.cong_Const 3
  let r2 : S.Cong := S.cong_Const 11
  let r3 : S.Cong := S.cong_Join r1 r2
  let r4 : S.Cong := S.cong_Make 4 1
  let r5 : S.Cong := S.cong_Make 8 3
  let r6 : S.Cong × Bool := S.cong_Meet r4 r5
  let r7 : S.Cong := S.cong_Make 2 1
  let r8 : S.Cong := S.cong_Make 6 3
  let r9 : S.Cong × Bool := S.cong_Meet r7 r8
  let r10 : S.Cong := S.cong_Make 12 1
  let r11 : Int × Bool := S.cong_Cong_Least r10 (-5)
  let b12 : Bool := ((r3.M == 8) && (r3.R == 3))
  let r13 : S.Cong := S.cong_Const 4
  let r14 : S.Cong := S.cong_Join r3 r13
  let r15 : S.Cong := S.cong_Top
  let b16 : Bool := ((r14.M == r15.M) && (r14.R == r15.R))
  let p17 : Bool := (b12 && b16)
  let r18 : S.Cong := S.cong_Make 4 1
  let r19 : S.Cong := S.cong_Make 6 3
  let r20 : S.Cong := S.cong_Add r18 r19
  let b21 : Bool := ((r20.M == 2) && (r20.R == 0))
  let p22 : Bool := (p17 && b21)
  let r23 : S.Cong := S.cong_Const (-2)
  let r24 : S.Cong := S.cong_Make 4 1
  let r25 : S.Cong := S.cong_Mul r23 r24
  let b26 : Bool := ((r25.M == 8) && (r25.R == 6))
  let p27 : Bool := (p22 && b26)
  let r28 : S.Cong := S.cong_Make 4 0
  let r29 : S.Cong := S.cong_Make 6 0
  let r30 : S.Cong := S.cong_Mul r28 r29
  let b31 : Bool := ((r30.M == 24) && (r30.R == 0))
  let p32 : Bool := (p27 && b31)
  let b33 : Bool := !r6.2
  let p34 : Bool := (p32 && b33)
  let p35 : Bool := (p34 && r9.2)
  let b36 : Bool := ((r9.1.M == 6) && (r9.1.R == 3))
  let p37 : Bool := (p35 && b36)
  let r38 : S.Cong := S.cong_Cong_Wrapped r10
  let b39 : Bool := ((r38.M == 4) && (r38.R == 1))
  let p40 : Bool := (p37 && b39)
  let b41 : Bool := r11.1 == 1
  let p42 : Bool := (p40 && b41)
  let p43 : Bool := (p42 && r11.2)
  p43
def S.law20_works_pre : Prop :=
  let r1 : S.Cong := S.cong_Const 3
  let r2 : S.Cong := S.cong_Const 11
  let r3 : S.Cong := S.cong_Join r1 r2
  let r4 : S.Cong := S.cong_Make 4 1
  let r5 : S.Cong := S.cong_Make 8 3
  let r6 : S.Cong × Bool := S.cong_Meet r4 r5
  let r7 : S.Cong := S.cong_Make 2 1
  let r8 : S.Cong := S.cong_Make 6 3
  let r9 : S.Cong × Bool := S.cong_Meet r7 r8
  let r10 : S.Cong := S.cong_Make 12 1
  let b12 : Bool := ((r3.M == 8) && (r3.R == 3))
  let r13 : S.Cong := S.cong_Const 4
  let r14 : S.Cong := S.cong_Join r3 r13
  let r15 : S.Cong := S.cong_Top
  let b16 : Bool := ((r14.M == r15.M) && (r14.R == r15.R))
  let p17 : Bool := (b12 && b16)
  let r18 : S.Cong := S.cong_Make 4 1
  let r19 : S.Cong := S.cong_Make 6 3
  let r20 : S.Cong := S.cong_Add r18 r19
  let b21 : Bool := ((r20.M == 2) && (r20.R == 0))
  let p22 : Bool := (p17 && b21)
  let r23 : S.Cong := S.cong_Const (-2)
  let r24 : S.Cong := S.cong_Make 4 1
  let r25 : S.Cong := S.cong_Mul r23 r24
  let b26 : Bool := ((r25.M == 8) && (r25.R == 6))
  let p27 : Bool := (p22 && b26)
  let r28 : S.Cong := S.cong_Make 4 0
  let r29 : S.Cong := S.cong_Make 6 0
  let r30 : S.Cong := S.cong_Mul r28 r29
  let b31 : Bool := ((r30.M == 24) && (r30.R == 0))
  let p32 : Bool := (p27 && b31)
  let b33 : Bool := !r6.2
  let p34 : Bool := (p32 && b33)
  let p35 : Bool := (p34 && r9.2)
  let b36 : Bool := ((r9.1.M == 6) && (r9.1.R == 3))
  let p37 : Bool := (p35 && b36)
  (All [S.cong_Join_pre r1 r2, S.cong_Make_pre 4 1, S.cong_Make_pre 8 3, S.cong_Meet_pre r4 r5, S.cong_Make_pre 2 1, S.cong_Make_pre 6 3, S.cong_Meet_pre r7 r8, S.cong_Make_pre 12 1, S.cong_Cong_Least_pre r10 (-5), (b12 = true → S.cong_Join_pre r3 r13), (p17 = true → S.cong_Make_pre 4 1), (p17 = true → S.cong_Make_pre 6 3), (p17 = true → S.cong_Add_pre r18 r19), (p22 = true → S.cong_Make_pre 4 1), (p22 = true → S.cong_Mul_pre r23 r24), (p27 = true → S.cong_Make_pre 4 0), (p27 = true → S.cong_Make_pre 6 0), (p27 = true → S.cong_Mul_pre r28 r29), (p37 = true → S.cong_Cong_Wrapped_pre r10)] ∧ True)
/-- sieveholesref20.Has -/
def S.ref20_Has (c : S.Cong) (n : Int) : Bool :=
  let b1 : Bool := c.M == 0
  let t2 : Int := IntKind.u64.wrap n
  let b3 : Bool := t2 == c.R
  let r4 : Int := S.ref20_Rest n c.M
  let b5 : Bool := r4 == c.R
  (bif b1 then b3 else b5)
def S.ref20_Has_pre (c : S.Cong) (n : Int) : Prop :=
  let b1 : Bool := c.M == 0
  ((b1 = true → True) ∧ (b1 = false → (All [S.ref20_Rest_pre n c.M] ∧ True)))
/-- sieveholesref20.Of -/
def S.ref20_Of (c : S.Cong) (g : Int) : Int :=
  let b1 : Bool := c.M == 0
  let t2 : Int := IntKind.i64.wrap c.R
  let r3 : Int := S.ref20_Rest t2 g
  let t4 : Int := Int.tmod c.R g
  (bif b1 then r3 else t4)
def S.ref20_Of_pre (c : S.Cong) (g : Int) : Prop :=
  let b1 : Bool := c.M == 0
  let t2 : Int := IntKind.i64.wrap c.R
  ((b1 = true → (All [S.ref20_Rest_pre t2 g] ∧ True)) ∧ (b1 = false → (All [g ≠ 0] ∧ True)))
/-- sieveholesref20.Within -/
def S.ref20_Within (a : S.Cong) (b : S.Cong) : Bool :=
  let b1 : Bool := b.M == 0
  let b2 : Bool := ((a.M == b.M) && (a.R == b.R))
  let t3 : Int := Int.tmod a.M b.M
  let b4 : Bool := t3 == 0
  let r5 : Int := S.ref20_Of a b.M
  let b6 : Bool := r5 == b.R
  let p7 : Bool := (b4 && b6)
  (bif b1 then b2 else p7)
def S.ref20_Within_pre (a : S.Cong) (b : S.Cong) : Prop :=
  let b1 : Bool := b.M == 0
  let t3 : Int := Int.tmod a.M b.M
  let b4 : Bool := t3 == 0
  ((b1 = true → True) ∧ (b1 = false → (All [b.M ≠ 0, (b4 = true → S.ref20_Of_pre a b.M)] ∧ True)))
/-- sieveholeslaw20.CongMakes -/
noncomputable def S.law20_CongMakes (m : Int) (n : Int) (a : S.Cong) (b : S.Cong) : Bool :=
  let r1 : S.Cong := S.cong_Top
  let b2 : Bool := !((r1.M == 1) && (r1.R == 0))
  let r3 : S.Cong := S.cong_Const n
  let r4 : S.Cong := S.law20_ref r3
  let r5 : S.Cong := S.ref20_Make 0 n
  let b6 : Bool := !((r4.M == r5.M) && (r4.R == r5.R))
  let p7 : Bool := (b2 || b6)
  let r8 : S.Cong := S.cong_Make m n
  let r9 : S.Cong := S.law20_ref r8
  let r10 : S.Cong := S.ref20_Make m n
  let b11 : Bool := !((r9.M == r10.M) && (r9.R == r10.R))
  let p12 : Bool := (p7 || b11)
  let r13 : Bool := S.cong_Cong_Right a
  let r14 : S.Cong := S.law20_ref a
  let r15 : Bool := S.ref20_Right r14
  let b16 : Bool := !(r13 == r15)
  let p17 : Bool := (p12 || b16)
  let r18 : S.Cong := S.law20_ref a
  let r19 : Bool := S.ref20_Right r18
  let b20 : Bool := !r19
  let r21 : S.Cong := S.law20_ref b
  let r22 : Bool := S.ref20_Right r21
  let b23 : Bool := !r22
  let p24 : Bool := (b20 || b23)
  let r25 : Bool := S.law20_works
  let r26 : Bool := S.cong_Cong_Has a n
  let r27 : S.Cong := S.law20_ref a
  let r28 : Bool := S.ref20_Has r27 n
  let b29 : Bool := r26 == r28
  let r30 : Bool := S.cong_Within a b
  let r31 : S.Cong := S.law20_ref a
  let r32 : S.Cong := S.law20_ref b
  let r33 : Bool := S.ref20_Within r31 r32
  let b34 : Bool := r30 == r33
  let p35 : Bool := (b29 && b34)
  let r36 : Bool := S.cong_Within a a
  let p37 : Bool := (p35 && r36)
  let r38 : S.Cong := S.cong_Top
  let r39 : Bool := S.cong_Within a r38
  let p40 : Bool := (p37 && r39)
  let r41 : Bool := S.law20_works
  let p42 : Bool := (p40 && r41)
  (bif p17 then false else (bif p24 then r25 else p42))
def S.law20_CongMakes_pre (m : Int) (n : Int) (a : S.Cong) (b : S.Cong) : Prop :=
  let r1 : S.Cong := S.cong_Top
  let b2 : Bool := !((r1.M == 1) && (r1.R == 0))
  let r3 : S.Cong := S.cong_Const n
  let r4 : S.Cong := S.law20_ref r3
  let r5 : S.Cong := S.ref20_Make 0 n
  let b6 : Bool := !((r4.M == r5.M) && (r4.R == r5.R))
  let p7 : Bool := (b2 || b6)
  let r8 : S.Cong := S.cong_Make m n
  let r9 : S.Cong := S.law20_ref r8
  let r10 : S.Cong := S.ref20_Make m n
  let b11 : Bool := !((r9.M == r10.M) && (r9.R == r10.R))
  let p12 : Bool := (p7 || b11)
  let r13 : Bool := S.cong_Cong_Right a
  let r14 : S.Cong := S.law20_ref a
  let r15 : Bool := S.ref20_Right r14
  let b16 : Bool := !(r13 == r15)
  let p17 : Bool := (p12 || b16)
  let r18 : S.Cong := S.law20_ref a
  let r19 : Bool := S.ref20_Right r18
  let b20 : Bool := !r19
  let r21 : S.Cong := S.law20_ref b
  let r22 : Bool := S.ref20_Right r21
  let b23 : Bool := !r22
  let p24 : Bool := (b20 || b23)
  let r26 : Bool := S.cong_Cong_Has a n
  let r27 : S.Cong := S.law20_ref a
  let r28 : Bool := S.ref20_Has r27 n
  let b29 : Bool := r26 == r28
  let r30 : Bool := S.cong_Within a b
  let r31 : S.Cong := S.law20_ref a
  let r32 : S.Cong := S.law20_ref b
  let r33 : Bool := S.ref20_Within r31 r32
  let b34 : Bool := r30 == r33
  let p35 : Bool := (b29 && b34)
  let r36 : Bool := S.cong_Within a a
  let p37 : Bool := (p35 && r36)
  let r38 : S.Cong := S.cong_Top
  let r39 : Bool := S.cong_Within a r38
  let p40 : Bool := (p37 && r39)
  (All [(b2 = false → S.ref20_Make_pre 0 n), (p7 = false → S.cong_Make_pre m n), (p7 = false → S.ref20_Make_pre m n)] ∧ ((p17 = true → True) ∧ (p17 = false → ((p24 = true → (All [S.law20_works_pre] ∧ True)) ∧ (p24 = false → (All [S.cong_Cong_Has_pre a n, S.ref20_Has_pre r27 n, (b29 = true → S.cong_Within_pre a b), (b29 = true → S.ref20_Within_pre r31 r32), (p35 = true → S.cong_Within_pre a a), (p37 = true → S.cong_Within_pre a r38), (p40 = true → S.law20_works_pre)] ∧ True))))))
/-- sieveholesref20.Gcd -/
def S.ref20_Gcd_F : Nat → Int → Int → Int
  | 0, _, _ => 0
  | n + 1, a, b =>
  let b1 : Bool := b == 0
  let t2 : Int := Int.tmod a b
  let r3 : Int := S.ref20_Gcd_F n b t2
  (bif b1 then a else r3)
def S.ref20_Gcd_D : Nat → Int → Int → Prop
  | 0, _, _ => False
  | n + 1, a, b =>
  let b1 : Bool := b == 0
  let t2 : Int := Int.tmod a b
  ((b1 = true → True) ∧ (b1 = false → (All [b ≠ 0, S.ref20_Gcd_D n b t2] ∧ True)))
noncomputable def S.ref20_Gcd (a : Int) (b : Int) : Int := S.ref20_Gcd_F (Classical.epsilon fun n => S.ref20_Gcd_D n a b) a b
def S.ref20_Gcd_pre (a : Int) (b : Int) : Prop := ∃ n, S.ref20_Gcd_D n a b
/-- sieveholesref20.Meet -/
noncomputable def S.ref20_Meet (a : S.Cong) (b : S.Cong) : S.Cong × Bool :=
  let b1 : Bool := a.M == 0
  let b2 : Bool := b.M == 0
  let p3 : Bool := (b1 || b2)
  let b4 : Bool := decide (a.M > 0)
  let t5 : Int := IntKind.i64.wrap (bif b4 then b.R else a.R)
  let r6 : Bool := S.ref20_Has (⟨(bif b4 then a.M else b.M), (bif b4 then a.R else b.R)⟩ : S.Cong) t5
  let b7 : Bool := !r6
  let r8 : Int := S.ref20_Gcd a.M b.M
  let r9 : Int := S.ref20_Of a r8
  let r10 : Int := S.ref20_Of b r8
  let b11 : Bool := r9 != r10
  let r12 : Bool := S.ref20_Within a b
  let b13 : Bool := !r12
  let r14 : Bool := S.ref20_Within b a
  let b15 : Bool := decide (b.M > a.M)
  let p16 : Bool := (r14 || b15)
  let p17 : Bool := (b13 && p16)
  (bif p3 then (bif b7 then ((⟨0, 0⟩ : S.Cong), false) else ((⟨(bif b4 then b.M else a.M), (bif b4 then b.R else a.R)⟩ : S.Cong), true)) else (bif b11 then ((⟨0, 0⟩ : S.Cong), false) else (bif p17 then (b, true) else (a, true))))
def S.ref20_Meet_pre (a : S.Cong) (b : S.Cong) : Prop :=
  let b1 : Bool := a.M == 0
  let b2 : Bool := b.M == 0
  let p3 : Bool := (b1 || b2)
  let b4 : Bool := decide (a.M > 0)
  let t5 : Int := IntKind.i64.wrap (bif b4 then b.R else a.R)
  let r6 : Bool := S.ref20_Has (⟨(bif b4 then a.M else b.M), (bif b4 then a.R else b.R)⟩ : S.Cong) t5
  let b7 : Bool := !r6
  let r8 : Int := S.ref20_Gcd a.M b.M
  let r9 : Int := S.ref20_Of a r8
  let r10 : Int := S.ref20_Of b r8
  let b11 : Bool := r9 != r10
  let r12 : Bool := S.ref20_Within a b
  let b13 : Bool := !r12
  let r14 : Bool := S.ref20_Within b a
  let b15 : Bool := decide (b.M > a.M)
  let p16 : Bool := (r14 || b15)
  let p17 : Bool := (b13 && p16)
  ((p3 = true → (All [S.ref20_Has_pre (⟨(bif b4 then a.M else b.M), (bif b4 then a.R else b.R)⟩ : S.Cong) t5] ∧ ((b7 = true → True) ∧ (b7 = false → True)))) ∧ (p3 = false → (All [S.ref20_Gcd_pre a.M b.M, S.ref20_Of_pre a r8, S.ref20_Of_pre b r8] ∧ ((b11 = true → True) ∧ (b11 = false → (All [S.ref20_Within_pre a b, (b13 = true → S.ref20_Within_pre b a)] ∧ ((p17 = true → True) ∧ (p17 = false → True))))))))
/-- cong.Sub -/
noncomputable def S.cong_Sub (a : S.Cong) (b : S.Cong) : S.Cong :=
  let r1 : Int := S.cong_gcd a.M b.M
  let b2 : Bool := r1 == 0
  let t3 : Int := IntKind.u64.wrap (a.R - b.R)
  let r4 : Int := S.cong_Cong_by a r1
  let r5 : Int := S.cong_Cong_by b r1
  let t6 : Int := IntKind.u64.wrap (r1 - r5)
  let t7 : Int := Int.tmod t6 r1
  let r8 : Int := S.cong_plus r4 t7 r1
  (bif b2 then (⟨0, t3⟩ : S.Cong) else (⟨r1, r8⟩ : S.Cong))
def S.cong_Sub_pre (a : S.Cong) (b : S.Cong) : Prop :=
  let r1 : Int := S.cong_gcd a.M b.M
  let b2 : Bool := r1 == 0
  let r4 : Int := S.cong_Cong_by a r1
  let r5 : Int := S.cong_Cong_by b r1
  let t6 : Int := IntKind.u64.wrap (r1 - r5)
  let t7 : Int := Int.tmod t6 r1
  (All [S.cong_gcd_pre a.M b.M] ∧ ((b2 = true → True) ∧ (b2 = false → (All [S.cong_Cong_by_pre a r1, S.cong_Cong_by_pre b r1, r1 ≠ 0, S.cong_plus_pre r4 t7 r1] ∧ True))))
/-- sieveholesref20.far -/
def S.ref20_far (a : Int) (b : Int) : Int :=
  let b1 : Bool := decide (a < b)
  let t2 : Int := IntKind.u64.wrap (b - a)
  let t3 : Int := IntKind.u64.wrap (a - b)
  (bif b1 then t2 else t3)
/-- sieveholesref20.Join -/
noncomputable def S.ref20_Join (a : S.Cong) (b : S.Cong) : S.Cong :=
  let b1 : Bool := ((a.M == b.M) && (a.R == b.R))
  let r2 : Int := S.ref20_Gcd a.M b.M
  let b3 : Bool := r2 == 0
  let t4 : Int := IntKind.i64.wrap a.R
  let t5 : Int := IntKind.i64.wrap b.R
  let m6 : Int := if t5 > t4 then t5 else t4
  let t7 : Int := IntKind.u64.wrap m6
  let m8 : Int := if t5 < t4 then t5 else t4
  let t9 : Int := IntKind.u64.wrap m8
  let t10 : Int := IntKind.u64.wrap (t7 - t9)
  let r11 : S.Cong := S.ref20_Make t10 t4
  let r12 : Int := S.ref20_Of a r2
  let r13 : Int := S.ref20_Of b r2
  let r14 : Int := S.ref20_far r12 r13
  let r15 : Int := S.ref20_Gcd r2 r14
  let r16 : Int := S.ref20_Of a r2
  let t17 : Int := Int.tmod r16 r15
  (bif b1 then a else (bif b3 then r11 else (⟨r15, t17⟩ : S.Cong)))
def S.ref20_Join_pre (a : S.Cong) (b : S.Cong) : Prop :=
  let b1 : Bool := ((a.M == b.M) && (a.R == b.R))
  let r2 : Int := S.ref20_Gcd a.M b.M
  let b3 : Bool := r2 == 0
  let t4 : Int := IntKind.i64.wrap a.R
  let t5 : Int := IntKind.i64.wrap b.R
  let m6 : Int := if t5 > t4 then t5 else t4
  let t7 : Int := IntKind.u64.wrap m6
  let m8 : Int := if t5 < t4 then t5 else t4
  let t9 : Int := IntKind.u64.wrap m8
  let t10 : Int := IntKind.u64.wrap (t7 - t9)
  let r12 : Int := S.ref20_Of a r2
  let r13 : Int := S.ref20_Of b r2
  let r14 : Int := S.ref20_far r12 r13
  let r15 : Int := S.ref20_Gcd r2 r14
  ((b1 = true → True) ∧ (b1 = false → (All [S.ref20_Gcd_pre a.M b.M] ∧ ((b3 = true → (All [S.ref20_Make_pre t10 t4] ∧ True)) ∧ (b3 = false → (All [S.ref20_Of_pre a r2, S.ref20_Of_pre b r2, S.ref20_Gcd_pre r2 r14, S.ref20_Of_pre a r2, r15 ≠ 0] ∧ True))))))
/-- sieveholesref20.plus -/
def S.ref20_plus (a : Int) (b : Int) (m : Int) : Int :=
  let t1 : Int := IntKind.u64.wrap (m - b)
  let b2 : Bool := decide (a ≥ t1)
  let t3 : Int := IntKind.u64.wrap (m - b)
  let t4 : Int := IntKind.u64.wrap (a - t3)
  let t5 : Int := IntKind.u64.wrap (a + b)
  (bif b2 then t4 else t5)
/-- sieveholesref20.Add -/
noncomputable def S.ref20_Add (a : S.Cong) (b : S.Cong) : S.Cong :=
  let r1 : Int := S.ref20_Gcd a.M b.M
  let b2 : Bool := r1 == 0
  let t3 : Int := IntKind.u64.wrap (a.R + b.R)
  let r4 : Int := S.ref20_Of a r1
  let r5 : Int := S.ref20_Of b r1
  let r6 : Int := S.ref20_plus r4 r5 r1
  (bif b2 then (⟨0, t3⟩ : S.Cong) else (⟨r1, r6⟩ : S.Cong))
def S.ref20_Add_pre (a : S.Cong) (b : S.Cong) : Prop :=
  let r1 : Int := S.ref20_Gcd a.M b.M
  let b2 : Bool := r1 == 0
  (All [S.ref20_Gcd_pre a.M b.M] ∧ ((b2 = true → True) ∧ (b2 = false → (All [S.ref20_Of_pre a r1, S.ref20_Of_pre b r1] ∧ True))))
/-- sieveholesref20.minus -/
def S.ref20_minus (a : Int) (b : Int) (m : Int) : Int :=
  let b1 : Bool := decide (a ≥ b)
  let t2 : Int := IntKind.u64.wrap (a - b)
  let t3 : Int := IntKind.u64.wrap (m - b)
  let t4 : Int := IntKind.u64.wrap (a + t3)
  (bif b1 then t2 else t4)
/-- sieveholesref20.Sub -/
noncomputable def S.ref20_Sub (a : S.Cong) (b : S.Cong) : S.Cong :=
  let r1 : Int := S.ref20_Gcd a.M b.M
  let b2 : Bool := r1 == 0
  let t3 : Int := IntKind.u64.wrap (a.R - b.R)
  let r4 : Int := S.ref20_Of a r1
  let r5 : Int := S.ref20_Of b r1
  let r6 : Int := S.ref20_minus r4 r5 r1
  (bif b2 then (⟨0, t3⟩ : S.Cong) else (⟨r1, r6⟩ : S.Cong))
def S.ref20_Sub_pre (a : S.Cong) (b : S.Cong) : Prop :=
  let r1 : Int := S.ref20_Gcd a.M b.M
  let b2 : Bool := r1 == 0
  (All [S.ref20_Gcd_pre a.M b.M] ∧ ((b2 = true → True) ∧ (b2 = false → (All [S.ref20_Of_pre a r1, S.ref20_Of_pre b r1] ∧ True))))
/-- sieveholesref20.fits -/
def S.ref20_fits (a : Int) (b : Int) : Int × Bool :=
  let b1 : Bool := decide (a > 0)
  let t2 : Int := IntKind.u64.wrap (Int.tdiv 18446744073709551615 a)
  let b3 : Bool := decide (b > t2)
  let p4 : Bool := (b1 && b3)
  let t5 : Int := IntKind.u64.wrap (a * b)
  (bif p4 then (0, false) else (t5, true))
def S.ref20_fits_pre (a : Int) (b : Int) : Prop :=
  let b1 : Bool := decide (a > 0)
  let t2 : Int := IntKind.u64.wrap (Int.tdiv 18446744073709551615 a)
  let b3 : Bool := decide (b > t2)
  let p4 : Bool := (b1 && b3)
  (All [(b1 = true → a ≠ 0)] ∧ ((p4 = true → True) ∧ (p4 = false → True)))
@[ext] structure S.ref20_times_L0 where
  a : Int
  b : Int
  m : Int
  out : Int
def S.ref20_times_L0_step (x : S.ref20_times_L0) : S.ref20_times_L0 ⊕ (S.ref20_times_L0) :=
  let b1 : Bool := decide (x.b > 0)
  let t2 : Int := Int.tmod x.b 2
  let b3 : Bool := t2 == 1
  let r4 : Int := S.ref20_plus x.out x.a x.m
  let r5 : Int := S.ref20_plus x.a x.a x.m
  let t6 : Int := IntKind.u64.wrap (Int.tdiv x.b 2)
  (bif b1 then (.inl ⟨r5, t6, x.m, (bif b3 then r4 else x.out)⟩) else (.inr ⟨x.a, x.b, x.m, x.out⟩))
def S.ref20_times_L0_vcs (x : S.ref20_times_L0) : Prop :=
  let b1 : Bool := decide (x.b > 0)
  ((b1 = true → True) ∧ (b1 = false → True))
noncomputable def S.ref20_times_L0_run (x : S.ref20_times_L0) : S.ref20_times_L0 := theRun (fun x => x) S.ref20_times_L0_step S.ref20_times_L0_vcs x
/-- sieveholesref20.times -/
noncomputable def S.ref20_times (a : Int) (b : Int) (m : Int) : Int :=
  let x1 : S.ref20_times_L0 := (⟨a, b, m, 0⟩ : S.ref20_times_L0)
  let y2 : S.ref20_times_L0 := S.ref20_times_L0_run x1
  y2.out
def S.ref20_times_pre (a : Int) (b : Int) (m : Int) : Prop :=
  let x1 : S.ref20_times_L0 := (⟨a, b, m, 0⟩ : S.ref20_times_L0)
  (All [Runs S.ref20_times_L0_step S.ref20_times_L0_vcs x1 (S.ref20_times_L0_run x1)] ∧ True)
/-- sieveholesref20.scale -/
noncomputable def S.ref20_scale (c : S.Cong) (n : Int) : S.Cong :=
  let b1 : Bool := n == 0
  let t2 : Int := IntKind.u64.wrap n
  let b3 : Bool := decide (n < 0)
  let t4 : Int := IntKind.i64.wrap (0 - n)
  let t5 : Int := IntKind.u64.wrap t4
  let r6 : Int × Bool := S.ref20_fits c.M (bif b3 then t5 else t2)
  let b7 : Bool := !r6.2
  let r8 : Int := S.ref20_Rest n (bif b7 then c.M else r6.1)
  let t9 : Int := Int.tmod c.R (bif b7 then c.M else r6.1)
  let r10 : Int := S.ref20_times r8 t9 (bif b7 then c.M else r6.1)
  (bif b1 then (⟨0, 0⟩ : S.Cong) else (⟨(bif b7 then c.M else r6.1), r10⟩ : S.Cong))
def S.ref20_scale_pre (c : S.Cong) (n : Int) : Prop :=
  let b1 : Bool := n == 0
  let t2 : Int := IntKind.u64.wrap n
  let b3 : Bool := decide (n < 0)
  let t4 : Int := IntKind.i64.wrap (0 - n)
  let t5 : Int := IntKind.u64.wrap t4
  let r6 : Int × Bool := S.ref20_fits c.M (bif b3 then t5 else t2)
  let b7 : Bool := !r6.2
  let r8 : Int := S.ref20_Rest n (bif b7 then c.M else r6.1)
  let t9 : Int := Int.tmod c.R (bif b7 then c.M else r6.1)
  ((b1 = true → True) ∧ (b1 = false → (All [S.ref20_fits_pre c.M (bif b3 then t5 else t2), S.ref20_Rest_pre n (bif b7 then c.M else r6.1), (bif b7 then c.M else r6.1) ≠ 0, S.ref20_times_pre r8 t9 (bif b7 then c.M else r6.1)] ∧ True)))
/-- sieveholesref20.Mul -/
noncomputable def S.ref20_Mul (a : S.Cong) (b : S.Cong) : S.Cong :=
  let b1 : Bool := a.M == 0
  let b2 : Bool := b.M == 0
  let p3 : Bool := (b1 && b2)
  let t4 : Int := IntKind.u64.wrap (a.R * b.R)
  let b5 : Bool := a.M == 0
  let t6 : Int := IntKind.i64.wrap a.R
  let r7 : S.Cong := S.ref20_scale b t6
  let b8 : Bool := b.M == 0
  let t9 : Int := IntKind.i64.wrap b.R
  let r10 : S.Cong := S.ref20_scale a t9
  let r11 : Int := S.ref20_Gcd a.M b.M
  let r12 : Int := S.ref20_Gcd a.M a.R
  let r13 : Int := S.ref20_Gcd b.M b.R
  let r14 : Int × Bool := S.ref20_fits r12 r13
  let b15 : Bool := decide (r14.1 > r11)
  let p16 : Bool := (r14.2 && b15)
  let r17 : Int := S.ref20_Of a r11
  let r18 : Int := S.ref20_Of b r11
  let r19 : Int := S.ref20_times r17 r18 r11
  (bif p3 then (⟨0, t4⟩ : S.Cong) else (bif b5 then r7 else (bif b8 then r10 else (bif p16 then (⟨r14.1, 0⟩ : S.Cong) else (⟨r11, r19⟩ : S.Cong)))))
def S.ref20_Mul_pre (a : S.Cong) (b : S.Cong) : Prop :=
  let b1 : Bool := a.M == 0
  let b2 : Bool := b.M == 0
  let p3 : Bool := (b1 && b2)
  let b5 : Bool := a.M == 0
  let t6 : Int := IntKind.i64.wrap a.R
  let b8 : Bool := b.M == 0
  let t9 : Int := IntKind.i64.wrap b.R
  let r11 : Int := S.ref20_Gcd a.M b.M
  let r12 : Int := S.ref20_Gcd a.M a.R
  let r13 : Int := S.ref20_Gcd b.M b.R
  let r14 : Int × Bool := S.ref20_fits r12 r13
  let b15 : Bool := decide (r14.1 > r11)
  let p16 : Bool := (r14.2 && b15)
  let r17 : Int := S.ref20_Of a r11
  let r18 : Int := S.ref20_Of b r11
  ((p3 = true → True) ∧ (p3 = false → ((b5 = true → (All [S.ref20_scale_pre b t6] ∧ True)) ∧ (b5 = false → ((b8 = true → (All [S.ref20_scale_pre a t9] ∧ True)) ∧ (b8 = false → (All [S.ref20_Gcd_pre a.M b.M, S.ref20_Gcd_pre a.M a.R, S.ref20_Gcd_pre b.M b.R, S.ref20_fits_pre r12 r13] ∧ ((p16 = true → True) ∧ (p16 = false → (All [S.ref20_Of_pre a r11, S.ref20_Of_pre b r11, S.ref20_times_pre r17 r18 r11] ∧ True))))))))))
@[ext] structure S.ref20_Wrapped_L0 where
  p : Int
  c : S.Cong
def S.ref20_Wrapped_L0_step (x : S.ref20_Wrapped_L0) : S.ref20_Wrapped_L0 ⊕ (S.ref20_Wrapped_L0) :=
  let t1 : Int := Int.tmod x.c.M 2
  let b2 : Bool := t1 == 0
  let t3 : Int := IntKind.u64.wrap (2 * x.p)
  let t4 : Int := IntKind.u64.wrap (Int.tdiv x.c.M 2)
  (bif b2 then (.inl ⟨t3, (⟨t4, x.c.R⟩ : S.Cong)⟩) else (.inr ⟨x.p, x.c⟩))
def S.ref20_Wrapped_L0_vcs (x : S.ref20_Wrapped_L0) : Prop :=
  let t1 : Int := Int.tmod x.c.M 2
  let b2 : Bool := t1 == 0
  ((b2 = true → True) ∧ (b2 = false → True))
noncomputable def S.ref20_Wrapped_L0_run (x : S.ref20_Wrapped_L0) : S.ref20_Wrapped_L0 := theRun (fun x => x) S.ref20_Wrapped_L0_step S.ref20_Wrapped_L0_vcs x
/-- sieveholesref20.Wrapped -/
noncomputable def S.ref20_Wrapped (c : S.Cong) : S.Cong :=
  let b1 : Bool := c.M == 0
  let x2 : S.ref20_Wrapped_L0 := (⟨1, c⟩ : S.ref20_Wrapped_L0)
  let y3 : S.ref20_Wrapped_L0 := S.ref20_Wrapped_L0_run x2
  let t4 : Int := Int.tmod y3.c.R y3.p
  (bif b1 then c else (⟨y3.p, t4⟩ : S.Cong))
def S.ref20_Wrapped_pre (c : S.Cong) : Prop :=
  let b1 : Bool := c.M == 0
  let x2 : S.ref20_Wrapped_L0 := (⟨1, c⟩ : S.ref20_Wrapped_L0)
  let y3 : S.ref20_Wrapped_L0 := S.ref20_Wrapped_L0_run x2
  ((b1 = true → True) ∧ (b1 = false → (All [Runs S.ref20_Wrapped_L0_step S.ref20_Wrapped_L0_vcs x2 (S.ref20_Wrapped_L0_run x2), y3.p ≠ 0] ∧ True)))
@[ext] structure S.law20_CongOperates_L0 where
  t4 : Bool
  l : (List S.Cong)
  r : (List S.Cong)
  i : Int
def S.law20_CongOperates_L0_step (x : S.law20_CongOperates_L0) : S.law20_CongOperates_L0 ⊕ (Bool × S.law20_CongOperates_L0) :=
  let b1 : Bool := decide (x.i < (x.l.length : Int))
  let e2 : S.Cong := x.l.getD (Int.toNat x.i) (⟨0, 0⟩ : S.Cong)
  let r3 : S.Cong := S.law20_ref e2
  let e4 : S.Cong := x.r.getD (Int.toNat x.i) (⟨0, 0⟩ : S.Cong)
  let b5 : Bool := !((r3.M == e4.M) && (r3.R == e4.R))
  let e6 : S.Cong := x.l.getD (Int.toNat x.i) (⟨0, 0⟩ : S.Cong)
  let r7 : Bool := S.cong_Cong_Right e6
  let b8 : Bool := !r7
  let p9 : Bool := (b5 || b8)
  let t10 : Int := IntKind.i64.wrap (x.i + 1)
  (bif b1 then (bif p9 then (.inr ⟨true, ⟨false, x.l, x.r, x.i⟩⟩) else (.inl ⟨x.t4, x.l, x.r, t10⟩)) else (.inr ⟨false, ⟨x.t4, x.l, x.r, x.i⟩⟩))
def S.law20_CongOperates_L0_vcs (x : S.law20_CongOperates_L0) : Prop :=
  let b1 : Bool := decide (x.i < (x.l.length : Int))
  let e2 : S.Cong := x.l.getD (Int.toNat x.i) (⟨0, 0⟩ : S.Cong)
  let r3 : S.Cong := S.law20_ref e2
  let e4 : S.Cong := x.r.getD (Int.toNat x.i) (⟨0, 0⟩ : S.Cong)
  let b5 : Bool := !((r3.M == e4.M) && (r3.R == e4.R))
  let e6 : S.Cong := x.l.getD (Int.toNat x.i) (⟨0, 0⟩ : S.Cong)
  let r7 : Bool := S.cong_Cong_Right e6
  let b8 : Bool := !r7
  let p9 : Bool := (b5 || b8)
  ((b1 = true → (All [0 ≤ x.i, x.i < (x.l.length : Int), 0 ≤ x.i, x.i < (x.r.length : Int), (b5 = false → (0 ≤ x.i ∧ x.i < (x.l.length : Int)))] ∧ ((p9 = true → True) ∧ (p9 = false → True)))) ∧ (b1 = false → True))
noncomputable def S.law20_CongOperates_L0_run (x : S.law20_CongOperates_L0) : Bool × S.law20_CongOperates_L0 := theRun (fun x => ⟨true, x⟩) S.law20_CongOperates_L0_step S.law20_CongOperates_L0_vcs x
/-- sieveholeslaw20.CongOperates -/
noncomputable def S.law20_CongOperates (a : S.Cong) (b : S.Cong) : Bool :=
  let r1 : S.Cong := S.law20_ref a
  let r2 : S.Cong := S.law20_ref b
  let r3 : Bool := S.ref20_Right r1
  let b4 : Bool := !r3
  let r5 : Bool := S.ref20_Right r2
  let b6 : Bool := !r5
  let p7 : Bool := (b4 || b6)
  let r8 : Bool := S.law20_works
  let r9 : S.Cong × Bool := S.cong_Meet a b
  let r10 : S.Cong × Bool := S.ref20_Meet r1 r2
  let r11 : S.Cong := S.cong_Join a b
  let r12 : S.Cong := S.cong_Add a b
  let r13 : S.Cong := S.cong_Sub a b
  let r14 : S.Cong := S.cong_Mul a b
  let r15 : S.Cong := S.cong_Cong_Wrapped a
  let r16 : S.Cong := S.ref20_Join r1 r2
  let r17 : S.Cong := S.ref20_Add r1 r2
  let r18 : S.Cong := S.ref20_Sub r1 r2
  let r19 : S.Cong := S.ref20_Mul r1 r2
  let r20 : S.Cong := S.ref20_Wrapped r1
  let x21 : S.law20_CongOperates_L0 := (⟨false, ([r11, r12, r13, r14, r15, r9.1] : List S.Cong), ([r16, r17, r18, r19, r20, r10.1] : List S.Cong), 0⟩ : S.law20_CongOperates_L0)
  let y22 : Bool × S.law20_CongOperates_L0 := S.law20_CongOperates_L0_run x21
  let b23 : Bool := r9.2 == r10.2
  let r24 : Bool := S.law20_works
  let p25 : Bool := (b23 && r24)
  (bif p7 then r8 else (bif y22.1 then y22.2.t4 else p25))
def S.law20_CongOperates_pre (a : S.Cong) (b : S.Cong) : Prop :=
  let r1 : S.Cong := S.law20_ref a
  let r2 : S.Cong := S.law20_ref b
  let r3 : Bool := S.ref20_Right r1
  let b4 : Bool := !r3
  let r5 : Bool := S.ref20_Right r2
  let b6 : Bool := !r5
  let p7 : Bool := (b4 || b6)
  let r9 : S.Cong × Bool := S.cong_Meet a b
  let r10 : S.Cong × Bool := S.ref20_Meet r1 r2
  let r11 : S.Cong := S.cong_Join a b
  let r12 : S.Cong := S.cong_Add a b
  let r13 : S.Cong := S.cong_Sub a b
  let r14 : S.Cong := S.cong_Mul a b
  let r15 : S.Cong := S.cong_Cong_Wrapped a
  let r16 : S.Cong := S.ref20_Join r1 r2
  let r17 : S.Cong := S.ref20_Add r1 r2
  let r18 : S.Cong := S.ref20_Sub r1 r2
  let r19 : S.Cong := S.ref20_Mul r1 r2
  let r20 : S.Cong := S.ref20_Wrapped r1
  let x21 : S.law20_CongOperates_L0 := (⟨false, ([r11, r12, r13, r14, r15, r9.1] : List S.Cong), ([r16, r17, r18, r19, r20, r10.1] : List S.Cong), 0⟩ : S.law20_CongOperates_L0)
  let y22 : Bool × S.law20_CongOperates_L0 := S.law20_CongOperates_L0_run x21
  let b23 : Bool := r9.2 == r10.2
  ((p7 = true → (All [S.law20_works_pre] ∧ True)) ∧ (p7 = false → (All [S.cong_Meet_pre a b, S.ref20_Meet_pre r1 r2, S.cong_Join_pre a b, S.cong_Add_pre a b, S.cong_Sub_pre a b, S.cong_Mul_pre a b, S.cong_Cong_Wrapped_pre a, S.ref20_Join_pre r1 r2, S.ref20_Add_pre r1 r2, S.ref20_Sub_pre r1 r2, S.ref20_Mul_pre r1 r2, S.ref20_Wrapped_pre r1, Runs S.law20_CongOperates_L0_step S.law20_CongOperates_L0_vcs x21 (S.law20_CongOperates_L0_run x21)] ∧ ((y22.1 = true → True) ∧ (y22.1 = false → (All [(b23 = true → S.law20_works_pre)] ∧ True))))))
/-- (cong.Cong).Greatest -/
def S.cong_Cong_Greatest (c : S.Cong) (to : Int) : Int × Bool :=
  let r1 : Bool := S.cong_Cong_single c
  let r2 : Int := S.cong_Cong_number c
  let b3 : Bool := decide (r2 ≤ to)
  let r4 : Int × Bool := S.cong_Cong_number0 c b3
  let r5 : Int := S.cong_rest to c.M
  let t6 : Int := IntKind.u64.wrap (c.M - c.R)
  let t7 : Int := Int.tmod t6 c.M
  let r8 : Int := S.cong_plus r5 t7 c.M
  let t9 : Int := IntKind.u64.wrap to
  let t10 : Int := IntKind.u64.wrap (t9 + 9223372036854775808)
  let b11 : Bool := decide (r8 > t10)
  let t12 : Int := IntKind.i64.wrap r8
  let t13 : Int := IntKind.i64.wrap (to - t12)
  (bif r1 then (r4.1, r4.2) else (bif b11 then (0, false) else (t13, true)))
def S.cong_Cong_Greatest_pre (c : S.Cong) (to : Int) : Prop :=
  let r1 : Bool := S.cong_Cong_single c
  let r5 : Int := S.cong_rest to c.M
  let t6 : Int := IntKind.u64.wrap (c.M - c.R)
  let t7 : Int := Int.tmod t6 c.M
  let r8 : Int := S.cong_plus r5 t7 c.M
  let t9 : Int := IntKind.u64.wrap to
  let t10 : Int := IntKind.u64.wrap (t9 + 9223372036854775808)
  let b11 : Bool := decide (r8 > t10)
  ((r1 = true → True) ∧ (r1 = false → (All [S.cong_rest_pre to c.M, c.M ≠ 0, S.cong_plus_pre r5 t7 c.M] ∧ ((b11 = true → True) ∧ (b11 = false → True)))))
/-- sieveholeslaw20.near -/
def S.law20_near (c : S.Cong) (n : Int) : Int :=
  let r1 : Int × Bool := S.cong_Cong_Least c n
  let b2 : Bool := !r1.2
  let r3 : Int × Bool := S.cong_Cong_Greatest c n
  (bif b2 then r3.1 else r1.1)
def S.law20_near_pre (c : S.Cong) (n : Int) : Prop :=
  let r1 : Int × Bool := S.cong_Cong_Least c n
  let b2 : Bool := !r1.2
  (All [S.cong_Cong_Least_pre c n, (b2 = true → S.cong_Cong_Greatest_pre c n)] ∧ True)
/-- sieveholeslaw20.fit -/
def S.law20_fit (x : Int) (y : Int) : Bool × Bool × Bool :=
  let t1 : Int := IntKind.i64.wrap (x + y)
  let t2 : Int := IntKind.i64.wrap (x - y)
  let b3 : Bool := x == 0
  let b4 : Bool := x != (-1)
  let b5 : Bool := y != (-9223372036854775808)
  let p6 : Bool := (b4 || b5)
  let t7 : Int := IntKind.i64.wrap (x * y)
  let t8 : Int := IntKind.i64.wrap (Int.tdiv t7 x)
  let b9 : Bool := t8 == y
  let p10 : Bool := (p6 && b9)
  let b11 : Bool := x == (-9223372036854775808)
  let b12 : Bool := y == (-1)
  let p13 : Bool := (b11 && b12)
  let b14 : Bool := !p13
  let p15 : Bool := (p10 && b14)
  let p16 : Bool := (b3 || p15)
  let b17 : Bool := decide (t1 > x)
  let b18 : Bool := decide (y > 0)
  let b19 : Bool := b17 == b18
  let b20 : Bool := decide (t2 < x)
  let b21 : Bool := decide (y > 0)
  let b22 : Bool := b20 == b21
  (b19, b22, p16)
def S.law20_fit_pre (x : Int) (y : Int) : Prop :=
  let b3 : Bool := x == 0
  let b4 : Bool := x != (-1)
  let b5 : Bool := y != (-9223372036854775808)
  let p6 : Bool := (b4 || b5)
  (All [(b3 = false → (p6 = true → x ≠ 0))] ∧ True)
/-- sieveholeslaw20.CongSound -/
noncomputable def S.law20_CongSound (a : S.Cong) (b : S.Cong) (n : Int) (m : Int) : Bool :=
  let r1 : S.Cong := S.law20_ref a
  let r2 : Bool := S.ref20_Right r1
  let b3 : Bool := !r2
  let r4 : S.Cong := S.law20_ref b
  let r5 : Bool := S.ref20_Right r4
  let b6 : Bool := !r5
  let p7 : Bool := (b3 || b6)
  let r8 : Bool := S.law20_works
  let r9 : Int := S.law20_near a n
  let r10 : Int := S.law20_near b m
  let r11 : Bool := S.cong_Cong_Has a r9
  let b12 : Bool := !r11
  let r13 : Bool := S.cong_Cong_Has b r10
  let b14 : Bool := !r13
  let p15 : Bool := (b12 || b14)
  let r16 : Int × Bool := S.cong_Cong_Least a (-9223372036854775808)
  let r17 : Int × Bool := S.cong_Cong_Least b (-9223372036854775808)
  let p18 : Bool := (r16.2 && r17.2)
  let b19 : Bool := !p18
  let r20 : Bool := S.law20_works
  let p21 : Bool := (b19 && r20)
  let r22 : S.Cong := S.cong_Join a b
  let r23 : Bool := S.cong_Cong_Has r22 r9
  let b24 : Bool := !r23
  let r25 : Bool := S.cong_Cong_Has r22 r10
  let b26 : Bool := !r25
  let p27 : Bool := (b24 || b26)
  let r28 : Bool := S.cong_Within a r22
  let b29 : Bool := !r28
  let p30 : Bool := (p27 || b29)
  let r31 : Bool := S.cong_Within b r22
  let b32 : Bool := !r31
  let p33 : Bool := (p30 || b32)
  let r34 : S.Cong × Bool := S.cong_Meet a b
  let r35 : Bool := S.cong_Cong_Has b r9
  let b36 : Bool := !r34.2
  let r37 : Bool := S.cong_Cong_Has r34.1 r9
  let b38 : Bool := !r37
  let p39 : Bool := (b36 || b38)
  let p40 : Bool := (r35 && p39)
  let r41 : Bool := S.cong_Cong_Has a r10
  let b42 : Bool := !r34.2
  let r43 : Bool := S.cong_Cong_Has r34.1 r10
  let b44 : Bool := !r43
  let p45 : Bool := (b42 || b44)
  let p46 : Bool := (r41 && p45)
  let p47 : Bool := (p40 || p46)
  let r48 : Bool := S.cong_Within r34.1 a
  let b49 : Bool := !r48
  let p50 : Bool := (r34.2 && b49)
  let r51 : Bool := S.cong_Within r34.1 b
  let b52 : Bool := !r51
  let p53 : Bool := (p50 && b52)
  let p54 : Bool := (p47 || p53)
  let r55 : Bool × Bool × Bool := S.law20_fit r9 r10
  let r56 : S.Cong := S.cong_Add a b
  let r57 : S.Cong := S.cong_Sub a b
  let r58 : S.Cong := S.cong_Mul a b
  let t59 : Int := IntKind.i64.wrap (r9 + r10)
  let r60 : Bool := S.cong_Cong_Has r56 t59
  let b61 : Bool := !r60
  let p62 : Bool := (r55.1 && b61)
  let t63 : Int := IntKind.i64.wrap (r9 - r10)
  let r64 : Bool := S.cong_Cong_Has r57 t63
  let b65 : Bool := !r64
  let p66 : Bool := (r55.2.1 && b65)
  let p67 : Bool := (p62 || p66)
  let t68 : Int := IntKind.i64.wrap (r9 * r10)
  let r69 : Bool := S.cong_Cong_Has r58 t68
  let b70 : Bool := !r69
  let p71 : Bool := (r55.2.2 && b70)
  let p72 : Bool := (p67 || p71)
  let r73 : S.Cong := S.cong_Cong_Wrapped r56
  let t74 : Int := IntKind.i64.wrap (r9 + r10)
  let r75 : Bool := S.cong_Cong_Has r73 t74
  let r76 : S.Cong := S.cong_Cong_Wrapped r57
  let t77 : Int := IntKind.i64.wrap (r9 - r10)
  let r78 : Bool := S.cong_Cong_Has r76 t77
  let p79 : Bool := (r75 && r78)
  let r80 : S.Cong := S.cong_Cong_Wrapped r58
  let t81 : Int := IntKind.i64.wrap (r9 * r10)
  let r82 : Bool := S.cong_Cong_Has r80 t81
  let p83 : Bool := (p79 && r82)
  let r84 : S.Cong := S.cong_Cong_Wrapped r56
  let r85 : Bool := S.cong_Within r56 r84
  let p86 : Bool := (p83 && r85)
  let r87 : Bool := S.law20_works
  let p88 : Bool := (p86 && r87)
  (bif p7 then r8 else (bif p15 then p21 else (bif p33 then false else (bif p54 then false else (bif p72 then false else p88)))))
def S.law20_CongSound_pre (a : S.Cong) (b : S.Cong) (n : Int) (m : Int) : Prop :=
  let r1 : S.Cong := S.law20_ref a
  let r2 : Bool := S.ref20_Right r1
  let b3 : Bool := !r2
  let r4 : S.Cong := S.law20_ref b
  let r5 : Bool := S.ref20_Right r4
  let b6 : Bool := !r5
  let p7 : Bool := (b3 || b6)
  let r9 : Int := S.law20_near a n
  let r10 : Int := S.law20_near b m
  let r11 : Bool := S.cong_Cong_Has a r9
  let b12 : Bool := !r11
  let r13 : Bool := S.cong_Cong_Has b r10
  let b14 : Bool := !r13
  let p15 : Bool := (b12 || b14)
  let r16 : Int × Bool := S.cong_Cong_Least a (-9223372036854775808)
  let r17 : Int × Bool := S.cong_Cong_Least b (-9223372036854775808)
  let p18 : Bool := (r16.2 && r17.2)
  let b19 : Bool := !p18
  let r22 : S.Cong := S.cong_Join a b
  let r23 : Bool := S.cong_Cong_Has r22 r9
  let b24 : Bool := !r23
  let r25 : Bool := S.cong_Cong_Has r22 r10
  let b26 : Bool := !r25
  let p27 : Bool := (b24 || b26)
  let r28 : Bool := S.cong_Within a r22
  let b29 : Bool := !r28
  let p30 : Bool := (p27 || b29)
  let r31 : Bool := S.cong_Within b r22
  let b32 : Bool := !r31
  let p33 : Bool := (p30 || b32)
  let r34 : S.Cong × Bool := S.cong_Meet a b
  let r35 : Bool := S.cong_Cong_Has b r9
  let b36 : Bool := !r34.2
  let r37 : Bool := S.cong_Cong_Has r34.1 r9
  let b38 : Bool := !r37
  let p39 : Bool := (b36 || b38)
  let p40 : Bool := (r35 && p39)
  let r41 : Bool := S.cong_Cong_Has a r10
  let b42 : Bool := !r34.2
  let r43 : Bool := S.cong_Cong_Has r34.1 r10
  let b44 : Bool := !r43
  let p45 : Bool := (b42 || b44)
  let p46 : Bool := (r41 && p45)
  let p47 : Bool := (p40 || p46)
  let r48 : Bool := S.cong_Within r34.1 a
  let b49 : Bool := !r48
  let p50 : Bool := (r34.2 && b49)
  let r51 : Bool := S.cong_Within r34.1 b
  let b52 : Bool := !r51
  let p53 : Bool := (p50 && b52)
  let p54 : Bool := (p47 || p53)
  let r55 : Bool × Bool × Bool := S.law20_fit r9 r10
  let r56 : S.Cong := S.cong_Add a b
  let r57 : S.Cong := S.cong_Sub a b
  let r58 : S.Cong := S.cong_Mul a b
  let t59 : Int := IntKind.i64.wrap (r9 + r10)
  let r60 : Bool := S.cong_Cong_Has r56 t59
  let b61 : Bool := !r60
  let p62 : Bool := (r55.1 && b61)
  let t63 : Int := IntKind.i64.wrap (r9 - r10)
  let r64 : Bool := S.cong_Cong_Has r57 t63
  let b65 : Bool := !r64
  let p66 : Bool := (r55.2.1 && b65)
  let p67 : Bool := (p62 || p66)
  let t68 : Int := IntKind.i64.wrap (r9 * r10)
  let r69 : Bool := S.cong_Cong_Has r58 t68
  let b70 : Bool := !r69
  let p71 : Bool := (r55.2.2 && b70)
  let p72 : Bool := (p67 || p71)
  let r73 : S.Cong := S.cong_Cong_Wrapped r56
  let t74 : Int := IntKind.i64.wrap (r9 + r10)
  let r75 : Bool := S.cong_Cong_Has r73 t74
  let r76 : S.Cong := S.cong_Cong_Wrapped r57
  let t77 : Int := IntKind.i64.wrap (r9 - r10)
  let r78 : Bool := S.cong_Cong_Has r76 t77
  let p79 : Bool := (r75 && r78)
  let r80 : S.Cong := S.cong_Cong_Wrapped r58
  let t81 : Int := IntKind.i64.wrap (r9 * r10)
  let r82 : Bool := S.cong_Cong_Has r80 t81
  let p83 : Bool := (p79 && r82)
  let r84 : S.Cong := S.cong_Cong_Wrapped r56
  let r85 : Bool := S.cong_Within r56 r84
  let p86 : Bool := (p83 && r85)
  ((p7 = true → (All [S.law20_works_pre] ∧ True)) ∧ (p7 = false → (All [S.law20_near_pre a n, S.law20_near_pre b m, S.cong_Cong_Has_pre a r9, (b12 = false → S.cong_Cong_Has_pre b r10)] ∧ ((p15 = true → (All [S.cong_Cong_Least_pre a (-9223372036854775808), S.cong_Cong_Least_pre b (-9223372036854775808), (b19 = true → S.law20_works_pre)] ∧ True)) ∧ (p15 = false → (All [S.cong_Join_pre a b, S.cong_Cong_Has_pre r22 r9, (b24 = false → S.cong_Cong_Has_pre r22 r10), (p27 = false → S.cong_Within_pre a r22), (p30 = false → S.cong_Within_pre b r22)] ∧ ((p33 = true → True) ∧ (p33 = false → (All [S.cong_Meet_pre a b, S.cong_Cong_Has_pre b r9, (r35 = true → (b36 = false → S.cong_Cong_Has_pre r34.1 r9)), (p40 = false → S.cong_Cong_Has_pre a r10), (p40 = false → (r41 = true → (b42 = false → S.cong_Cong_Has_pre r34.1 r10))), (p47 = false → (r34.2 = true → S.cong_Within_pre r34.1 a)), (p47 = false → (p50 = true → S.cong_Within_pre r34.1 b))] ∧ ((p54 = true → True) ∧ (p54 = false → (All [S.law20_fit_pre r9 r10, S.cong_Add_pre a b, S.cong_Sub_pre a b, S.cong_Mul_pre a b, (r55.1 = true → S.cong_Cong_Has_pre r56 t59), (p62 = false → (r55.2.1 = true → S.cong_Cong_Has_pre r57 t63)), (p67 = false → (r55.2.2 = true → S.cong_Cong_Has_pre r58 t68))] ∧ ((p72 = true → True) ∧ (p72 = false → (All [S.cong_Cong_Wrapped_pre r56, S.cong_Cong_Has_pre r73 t74, (r75 = true → S.cong_Cong_Wrapped_pre r57), (r75 = true → S.cong_Cong_Has_pre r76 t77), (p79 = true → S.cong_Cong_Wrapped_pre r58), (p79 = true → S.cong_Cong_Has_pre r80 t81), (p83 = true → S.cong_Cong_Wrapped_pre r56), (p83 = true → S.cong_Within_pre r56 r84), (p86 = true → S.law20_works_pre)] ∧ True)))))))))))))))
/-- sieveholesref20.Least -/
def S.ref20_Least (c : S.Cong) (a1 : Int) : Int × Bool :=
  let b1 : Bool := c.M == 0
  let t2 : Int := IntKind.i64.wrap c.R
  let b3 : Bool := decide (t2 < a1)
  let t4 : Int := IntKind.i64.wrap c.R
  let r5 : Int := S.ref20_Rest a1 c.M
  let r6 : Int := S.ref20_minus c.R r5 c.M
  let t7 : Int := IntKind.u64.wrap a1
  let t8 : Int := IntKind.u64.wrap (9223372036854775807 - t7)
  let b9 : Bool := decide (r6 > t8)
  let t10 : Int := IntKind.u64.wrap a1
  let t11 : Int := IntKind.u64.wrap (t10 + r6)
  let t12 : Int := IntKind.i64.wrap t11
  (bif b1 then (bif b3 then (0, false) else (t4, true)) else (bif b9 then (0, false) else (t12, true)))
def S.ref20_Least_pre (c : S.Cong) (a1 : Int) : Prop :=
  let b1 : Bool := c.M == 0
  let t2 : Int := IntKind.i64.wrap c.R
  let b3 : Bool := decide (t2 < a1)
  let r5 : Int := S.ref20_Rest a1 c.M
  let r6 : Int := S.ref20_minus c.R r5 c.M
  let t7 : Int := IntKind.u64.wrap a1
  let t8 : Int := IntKind.u64.wrap (9223372036854775807 - t7)
  let b9 : Bool := decide (r6 > t8)
  ((b1 = true → ((b3 = true → True) ∧ (b3 = false → True))) ∧ (b1 = false → (All [S.ref20_Rest_pre a1 c.M] ∧ ((b9 = true → True) ∧ (b9 = false → True)))))
/-- sieveholesref20.Greatest -/
def S.ref20_Greatest (c : S.Cong) (to : Int) : Int × Bool :=
  let b1 : Bool := c.M == 0
  let t2 : Int := IntKind.i64.wrap c.R
  let b3 : Bool := decide (t2 > to)
  let t4 : Int := IntKind.i64.wrap c.R
  let r5 : Int := S.ref20_Rest to c.M
  let r6 : Int := S.ref20_minus r5 c.R c.M
  let t7 : Int := IntKind.u64.wrap to
  let t8 : Int := IntKind.u64.wrap (t7 - 9223372036854775808)
  let b9 : Bool := decide (r6 > t8)
  let t10 : Int := IntKind.u64.wrap to
  let t11 : Int := IntKind.u64.wrap (t10 - r6)
  let t12 : Int := IntKind.i64.wrap t11
  (bif b1 then (bif b3 then (0, false) else (t4, true)) else (bif b9 then (0, false) else (t12, true)))
def S.ref20_Greatest_pre (c : S.Cong) (to : Int) : Prop :=
  let b1 : Bool := c.M == 0
  let t2 : Int := IntKind.i64.wrap c.R
  let b3 : Bool := decide (t2 > to)
  let r5 : Int := S.ref20_Rest to c.M
  let r6 : Int := S.ref20_minus r5 c.R c.M
  let t7 : Int := IntKind.u64.wrap to
  let t8 : Int := IntKind.u64.wrap (t7 - 9223372036854775808)
  let b9 : Bool := decide (r6 > t8)
  ((b1 = true → ((b3 = true → True) ∧ (b3 = false → True))) ∧ (b1 = false → (All [S.ref20_Rest_pre to c.M] ∧ ((b9 = true → True) ∧ (b9 = false → True)))))
/-- (cong.Cong).Many -/
def S.cong_Cong_Many (c : S.Cong) (lo : Int) (hi : Int) : Int × Bool :=
  let r1 : Int × Bool := S.cong_Cong_Least c lo
  let r2 : Int × Bool := S.cong_Cong_Greatest c hi
  let b3 : Bool := !r1.2
  let b4 : Bool := !r2.2
  let p5 : Bool := (b3 || b4)
  let b6 : Bool := decide (r1.1 > r2.1)
  let p7 : Bool := (p5 || b6)
  let r8 : Bool := S.cong_Cong_single c
  let t9 : Int := IntKind.u64.wrap r2.1
  let t10 : Int := IntKind.u64.wrap r1.1
  let t11 : Int := IntKind.u64.wrap (t9 - t10)
  let t12 : Int := IntKind.u64.wrap (Int.tdiv t11 c.M)
  let t13 : Int := IntKind.u64.wrap (t12 + 1)
  let b14 : Bool := t12 != 18446744073709551615
  (bif p7 then (0, true) else (bif r8 then (1, true) else (t13, b14)))
def S.cong_Cong_Many_pre (c : S.Cong) (lo : Int) (hi : Int) : Prop :=
  let r1 : Int × Bool := S.cong_Cong_Least c lo
  let r2 : Int × Bool := S.cong_Cong_Greatest c hi
  let b3 : Bool := !r1.2
  let b4 : Bool := !r2.2
  let p5 : Bool := (b3 || b4)
  let b6 : Bool := decide (r1.1 > r2.1)
  let p7 : Bool := (p5 || b6)
  let r8 : Bool := S.cong_Cong_single c
  (All [S.cong_Cong_Least_pre c lo, S.cong_Cong_Greatest_pre c hi] ∧ ((p7 = true → True) ∧ (p7 = false → ((r8 = true → True) ∧ (r8 = false → (All [c.M ≠ 0] ∧ True))))))
/-- sieveholesref20.Many -/
def S.ref20_Many (c : S.Cong) (lo : Int) (hi : Int) : Int × Bool :=
  let r1 : Int × Bool := S.ref20_Least c lo
  let r2 : Int × Bool := S.ref20_Greatest c hi
  let b3 : Bool := !r1.2
  let b4 : Bool := !r2.2
  let p5 : Bool := (b3 || b4)
  let b6 : Bool := decide (r1.1 > r2.1)
  let p7 : Bool := (p5 || b6)
  let b8 : Bool := c.M == 0
  let t9 : Int := IntKind.u64.wrap r2.1
  let t10 : Int := IntKind.u64.wrap r1.1
  let t11 : Int := IntKind.u64.wrap (t9 - t10)
  let t12 : Int := IntKind.u64.wrap (Int.tdiv t11 c.M)
  let b13 : Bool := t12 == 18446744073709551615
  let t14 : Int := IntKind.u64.wrap (t12 + 1)
  (bif p7 then (0, true) else (bif b8 then (1, true) else (bif b13 then (0, false) else (t14, true))))
def S.ref20_Many_pre (c : S.Cong) (lo : Int) (hi : Int) : Prop :=
  let r1 : Int × Bool := S.ref20_Least c lo
  let r2 : Int × Bool := S.ref20_Greatest c hi
  let b3 : Bool := !r1.2
  let b4 : Bool := !r2.2
  let p5 : Bool := (b3 || b4)
  let b6 : Bool := decide (r1.1 > r2.1)
  let p7 : Bool := (p5 || b6)
  let b8 : Bool := c.M == 0
  let t9 : Int := IntKind.u64.wrap r2.1
  let t10 : Int := IntKind.u64.wrap r1.1
  let t11 : Int := IntKind.u64.wrap (t9 - t10)
  let t12 : Int := IntKind.u64.wrap (Int.tdiv t11 c.M)
  let b13 : Bool := t12 == 18446744073709551615
  (All [S.ref20_Least_pre c lo, S.ref20_Greatest_pre c hi] ∧ ((p7 = true → True) ∧ (p7 = false → ((b8 = true → True) ∧ (b8 = false → (All [c.M ≠ 0] ∧ ((b13 = true → True) ∧ (b13 = false → True))))))))
/-- sieveholeslaw20.CongCounts -/
noncomputable def S.law20_CongCounts (c : S.Cong) (lo : Int) (hi : Int) : Bool :=
  let r1 : S.Cong := S.law20_ref c
  let r2 : Bool := S.ref20_Right r1
  let b3 : Bool := !r2
  let r4 : Bool := S.law20_works
  let r5 : Int × Bool := S.cong_Cong_Least c lo
  let r6 : Int × Bool := S.ref20_Least r1 lo
  let r7 : Int × Bool := S.cong_Cong_Greatest c hi
  let r8 : Int × Bool := S.ref20_Greatest r1 hi
  let r9 : Int × Bool := S.cong_Cong_Many c lo hi
  let r10 : Int × Bool := S.ref20_Many r1 lo hi
  let b11 : Bool := r5.1 != r6.1
  let b12 : Bool := !(r5.2 == r6.2)
  let p13 : Bool := (b11 || b12)
  let b14 : Bool := r7.1 != r8.1
  let p15 : Bool := (p13 || b14)
  let b16 : Bool := !(r7.2 == r8.2)
  let p17 : Bool := (p15 || b16)
  let b18 : Bool := r9.1 != r10.1
  let p19 : Bool := (p17 || b18)
  let b20 : Bool := !(r9.2 == r10.2)
  let p21 : Bool := (p19 || b20)
  let r22 : Bool := S.cong_Cong_Has c r5.1
  let b23 : Bool := !r22
  let b24 : Bool := decide (r5.1 < lo)
  let p25 : Bool := (b23 || b24)
  let b26 : Bool := decide (c.M > 0)
  let t27 : Int := IntKind.u64.wrap r5.1
  let t28 : Int := IntKind.u64.wrap lo
  let t29 : Int := IntKind.u64.wrap (t27 - t28)
  let b30 : Bool := decide (t29 ≥ c.M)
  let p31 : Bool := (b26 && b30)
  let p32 : Bool := (p25 || p31)
  let p33 : Bool := (r5.2 && p32)
  let r34 : Bool := S.cong_Cong_Has c r7.1
  let b35 : Bool := !r34
  let b36 : Bool := decide (r7.1 > hi)
  let p37 : Bool := (b35 || b36)
  let b38 : Bool := decide (c.M > 0)
  let t39 : Int := IntKind.u64.wrap hi
  let t40 : Int := IntKind.u64.wrap r7.1
  let t41 : Int := IntKind.u64.wrap (t39 - t40)
  let b42 : Bool := decide (t41 ≥ c.M)
  let p43 : Bool := (b38 && b42)
  let p44 : Bool := (p37 || p43)
  let p45 : Bool := (r7.2 && p44)
  let p46 : Bool := (p33 || p45)
  let r47 : Bool := S.law20_works
  (bif b3 then r4 else (bif p21 then false else (bif p46 then false else r47)))
def S.law20_CongCounts_pre (c : S.Cong) (lo : Int) (hi : Int) : Prop :=
  let r1 : S.Cong := S.law20_ref c
  let r2 : Bool := S.ref20_Right r1
  let b3 : Bool := !r2
  let r5 : Int × Bool := S.cong_Cong_Least c lo
  let r6 : Int × Bool := S.ref20_Least r1 lo
  let r7 : Int × Bool := S.cong_Cong_Greatest c hi
  let r8 : Int × Bool := S.ref20_Greatest r1 hi
  let r9 : Int × Bool := S.cong_Cong_Many c lo hi
  let r10 : Int × Bool := S.ref20_Many r1 lo hi
  let b11 : Bool := r5.1 != r6.1
  let b12 : Bool := !(r5.2 == r6.2)
  let p13 : Bool := (b11 || b12)
  let b14 : Bool := r7.1 != r8.1
  let p15 : Bool := (p13 || b14)
  let b16 : Bool := !(r7.2 == r8.2)
  let p17 : Bool := (p15 || b16)
  let b18 : Bool := r9.1 != r10.1
  let p19 : Bool := (p17 || b18)
  let b20 : Bool := !(r9.2 == r10.2)
  let p21 : Bool := (p19 || b20)
  let r22 : Bool := S.cong_Cong_Has c r5.1
  let b23 : Bool := !r22
  let b24 : Bool := decide (r5.1 < lo)
  let p25 : Bool := (b23 || b24)
  let b26 : Bool := decide (c.M > 0)
  let t27 : Int := IntKind.u64.wrap r5.1
  let t28 : Int := IntKind.u64.wrap lo
  let t29 : Int := IntKind.u64.wrap (t27 - t28)
  let b30 : Bool := decide (t29 ≥ c.M)
  let p31 : Bool := (b26 && b30)
  let p32 : Bool := (p25 || p31)
  let p33 : Bool := (r5.2 && p32)
  let r34 : Bool := S.cong_Cong_Has c r7.1
  let b35 : Bool := !r34
  let b36 : Bool := decide (r7.1 > hi)
  let p37 : Bool := (b35 || b36)
  let b38 : Bool := decide (c.M > 0)
  let t39 : Int := IntKind.u64.wrap hi
  let t40 : Int := IntKind.u64.wrap r7.1
  let t41 : Int := IntKind.u64.wrap (t39 - t40)
  let b42 : Bool := decide (t41 ≥ c.M)
  let p43 : Bool := (b38 && b42)
  let p44 : Bool := (p37 || p43)
  let p45 : Bool := (r7.2 && p44)
  let p46 : Bool := (p33 || p45)
  ((b3 = true → (All [S.law20_works_pre] ∧ True)) ∧ (b3 = false → (All [S.cong_Cong_Least_pre c lo, S.ref20_Least_pre r1 lo, S.cong_Cong_Greatest_pre c hi, S.ref20_Greatest_pre r1 hi, S.cong_Cong_Many_pre c lo hi, S.ref20_Many_pre r1 lo hi] ∧ ((p21 = true → True) ∧ (p21 = false → (All [(r5.2 = true → S.cong_Cong_Has_pre c r5.1), (p33 = false → (r7.2 = true → S.cong_Cong_Has_pre c r7.1))] ∧ ((p46 = true → True) ∧ (p46 = false → (All [S.law20_works_pre] ∧ True)))))))))
