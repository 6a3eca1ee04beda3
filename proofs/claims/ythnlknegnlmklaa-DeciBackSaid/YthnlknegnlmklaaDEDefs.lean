/-
  Printed by a program for this claim: functions of the code as plain functions, and that the code comes to them. Conditions: those that each theorem states.
-/
import Derived.Test.YthnlknegnlmklaaVm15
set_option linter.all false
open Go Vm
@[ext] structure S.Num where
  limbs : (List Int)

/-- slices.Clone[[]uint64,uint64] -/
def S.slices_Cloneuint64_uint64 (s : List Int) : List Int := s
def S.slices_Cloneuint64_uint64_pre (s : List Int) : Prop := ((([] : List Int).length + s.length : Nat) : Int) * 8 ≤ 140737488355328
@[ext] structure S.nat_Limbs_L0 where
  l : (List Int)
def S.nat_Limbs_L0_step (x : S.nat_Limbs_L0) : S.nat_Limbs_L0 ⊕ (S.nat_Limbs_L0) :=
  let b1 : Bool := decide ((x.l.length : Int) > 0)
  let t2 : Int := IntKind.i64.wrap ((x.l.length : Int) - 1)
  let e3 : Int := x.l.getD (Int.toNat t2) 0
  let b4 : Bool := e3 == 0
  let p5 : Bool := (b1 && b4)
  let t6 : Int := IntKind.i64.wrap ((x.l.length : Int) - 1)
  let l7 : (List Int) := (x.l.take (Int.toNat t6)).drop (Int.toNat 0)
  (bif p5 then (.inl ⟨l7⟩) else (.inr ⟨x.l⟩))
def S.nat_Limbs_L0_vcs (x : S.nat_Limbs_L0) : Prop :=
  let b1 : Bool := decide ((x.l.length : Int) > 0)
  let t2 : Int := IntKind.i64.wrap ((x.l.length : Int) - 1)
  let e3 : Int := x.l.getD (Int.toNat t2) 0
  let b4 : Bool := e3 == 0
  let p5 : Bool := (b1 && b4)
  let t6 : Int := IntKind.i64.wrap ((x.l.length : Int) - 1)
  (All [(b1 = true → ((0 : Int) ≤ t2 ∧ t2 < (x.l.length : Int)))] ∧ ((p5 = true → (All [(0 : Int) ≤ 0, (0 : Int) ≤ t6, t6 ≤ (x.l.length : Int)] ∧ True)) ∧ (p5 = false → True)))
noncomputable def S.nat_Limbs_L0_run (x : S.nat_Limbs_L0) : S.nat_Limbs_L0 := theRun (fun x => x) S.nat_Limbs_L0_step S.nat_Limbs_L0_vcs x
/-- nat.Limbs -/
noncomputable def S.nat_Limbs (l : (List Int)) : S.Num :=
  let x1 : S.nat_Limbs_L0 := (⟨l⟩ : S.nat_Limbs_L0)
  let y2 : S.nat_Limbs_L0 := S.nat_Limbs_L0_run x1
  let r3 : (List Int) := S.slices_Cloneuint64_uint64 y2.l
  (⟨r3⟩ : S.Num)
def S.nat_Limbs_pre (l : (List Int)) : Prop :=
  let x1 : S.nat_Limbs_L0 := (⟨l⟩ : S.nat_Limbs_L0)
  let y2 : S.nat_Limbs_L0 := S.nat_Limbs_L0_run x1
  (All [Runs S.nat_Limbs_L0_step S.nat_Limbs_L0_vcs x1 (S.nat_Limbs_L0_run x1), S.slices_Cloneuint64_uint64_pre y2.l] ∧ True)
/-- (nat.Nat).All -/
def S.nat_Nat_All (n : S.Num) : (List Int) :=
  let r1 : (List Int) := S.slices_Cloneuint64_uint64 n.limbs
  r1
def S.nat_Nat_All_pre (n : S.Num) : Prop :=
  (All [S.slices_Cloneuint64_uint64_pre n.limbs] ∧ True)
/-- math/bits.Len64 -/
def S.math_bits_Len64 (x : Int) : Int :=
  let b1 : Bool := decide (x ≥ 4294967296)
  let t2 : Int := Int.fdiv x (2 ^ min (Int.toNat 32) 64)
  let b3 : Bool := decide ((bif b1 then t2 else x) ≥ 65536)
  let t4 : Int := Int.fdiv (bif b1 then t2 else x) (2 ^ min (Int.toNat 16) 64)
  let t5 : Int := IntKind.i64.wrap ((bif b1 then 32 else 0) + 16)
  let b6 : Bool := decide ((bif b3 then t4 else (bif b1 then t2 else x)) ≥ 256)
  let t7 : Int := Int.fdiv (bif b3 then t4 else (bif b1 then t2 else x)) (2 ^ min (Int.toNat 8) 64)
  let t8 : Int := IntKind.i64.wrap ((bif b3 then t5 else (bif b1 then 32 else 0)) + 8)
  let t9 : Int := IntKind.u8.wrap (bif b6 then t7 else (bif b3 then t4 else (bif b1 then t2 else x)))
  let t10 : Int := (((⟨#[0, 1, 2, 2, 3, 3, 3, 3, 4, 4, 4, 4, 4, 4, 4, 4, 5, 5, 5, 5, 5, 5, 5, 5, 5, 5, 5, 5, 5, 5, 5, 5, 6, 6, 6, 6, 6, 6, 6, 6, 6, 6, 6, 6, 6, 6, 6, 6, 6, 6, 6, 6, 6, 6, 6, 6, 6, 6, 6, 6, 6, 6, 6, 6, 7, 7, 7, 7, 7, 7, 7, 7, 7, 7, 7, 7, 7, 7, 7, 7, 7, 7, 7, 7, 7, 7, 7, 7, 7, 7, 7, 7, 7, 7, 7, 7, 7, 7, 7, 7, 7, 7, 7, 7, 7, 7, 7, 7, 7, 7, 7, 7, 7, 7, 7, 7, 7, 7, 7, 7, 7, 7, 7, 7, 7, 7, 7, 7, 8, 8, 8, 8, 8, 8, 8, 8, 8, 8, 8, 8, 8, 8, 8, 8, 8, 8, 8, 8, 8, 8, 8, 8, 8, 8, 8, 8, 8, 8, 8, 8, 8, 8, 8, 8, 8, 8, 8, 8, 8, 8, 8, 8, 8, 8, 8, 8, 8, 8, 8, 8, 8, 8, 8, 8, 8, 8, 8, 8, 8, 8, 8, 8, 8, 8, 8, 8, 8, 8, 8, 8, 8, 8, 8, 8, 8, 8, 8, 8, 8, 8, 8, 8, 8, 8, 8, 8, 8, 8, 8, 8, 8, 8, 8, 8, 8, 8, 8, 8, 8, 8, 8, 8, 8, 8, 8, 8, 8, 8, 8, 8, 8, 8, 8, 8, 8, 8, 8, 8, 8, 8, 8, 8, 8, 8, 8, 8]⟩ : ByteArray).data.toList.getD (Int.toNat t9) 0).toNat : Int)
  let t11 : Int := IntKind.i64.wrap t10
  let t12 : Int := IntKind.i64.wrap ((bif b6 then t8 else (bif b3 then t5 else (bif b1 then 32 else 0))) + t11)
  t12
def S.math_bits_Len64_pre (x : Int) : Prop :=
  let b1 : Bool := decide (x ≥ 4294967296)
  let t2 : Int := Int.fdiv x (2 ^ min (Int.toNat 32) 64)
  let b3 : Bool := decide ((bif b1 then t2 else x) ≥ 65536)
  let t4 : Int := Int.fdiv (bif b1 then t2 else x) (2 ^ min (Int.toNat 16) 64)
  let b6 : Bool := decide ((bif b3 then t4 else (bif b1 then t2 else x)) ≥ 256)
  let t7 : Int := Int.fdiv (bif b3 then t4 else (bif b1 then t2 else x)) (2 ^ min (Int.toNat 8) 64)
  let t9 : Int := IntKind.u8.wrap (bif b6 then t7 else (bif b3 then t4 else (bif b1 then t2 else x)))
  (All [(0 : Int) ≤ t9, t9 < ((⟨#[0, 1, 2, 2, 3, 3, 3, 3, 4, 4, 4, 4, 4, 4, 4, 4, 5, 5, 5, 5, 5, 5, 5, 5, 5, 5, 5, 5, 5, 5, 5, 5, 6, 6, 6, 6, 6, 6, 6, 6, 6, 6, 6, 6, 6, 6, 6, 6, 6, 6, 6, 6, 6, 6, 6, 6, 6, 6, 6, 6, 6, 6, 6, 6, 7, 7, 7, 7, 7, 7, 7, 7, 7, 7, 7, 7, 7, 7, 7, 7, 7, 7, 7, 7, 7, 7, 7, 7, 7, 7, 7, 7, 7, 7, 7, 7, 7, 7, 7, 7, 7, 7, 7, 7, 7, 7, 7, 7, 7, 7, 7, 7, 7, 7, 7, 7, 7, 7, 7, 7, 7, 7, 7, 7, 7, 7, 7, 7, 8, 8, 8, 8, 8, 8, 8, 8, 8, 8, 8, 8, 8, 8, 8, 8, 8, 8, 8, 8, 8, 8, 8, 8, 8, 8, 8, 8, 8, 8, 8, 8, 8, 8, 8, 8, 8, 8, 8, 8, 8, 8, 8, 8, 8, 8, 8, 8, 8, 8, 8, 8, 8, 8, 8, 8, 8, 8, 8, 8, 8, 8, 8, 8, 8, 8, 8, 8, 8, 8, 8, 8, 8, 8, 8, 8, 8, 8, 8, 8, 8, 8, 8, 8, 8, 8, 8, 8, 8, 8, 8, 8, 8, 8, 8, 8, 8, 8, 8, 8, 8, 8, 8, 8, 8, 8, 8, 8, 8, 8, 8, 8, 8, 8, 8, 8, 8, 8, 8, 8, 8, 8, 8, 8, 8, 8, 8, 8]⟩ : ByteArray).size : Int)] ∧ True)
/-- math/bits.LeadingZeros64 -/
def S.math_bits_LeadingZeros64 (x : Int) : Int :=
  let r1 : Int := S.math_bits_Len64 x
  let t2 : Int := IntKind.i64.wrap (64 - r1)
  t2
def S.math_bits_LeadingZeros64_pre (x : Int) : Prop :=
  (All [S.math_bits_Len64_pre x] ∧ True)
@[ext] structure S.math_bits_Div64_L0 where
  yn1 : Int
  yn0 : Int
  un1 : Int
  q1 : Int
  rhat : Int
def S.math_bits_Div64_L0_step (x : S.math_bits_Div64_L0) : S.math_bits_Div64_L0 ⊕ (S.math_bits_Div64_L0) :=
  let b1 : Bool := decide (x.q1 ≥ 4294967296)
  let t2 : Int := IntKind.u64.wrap (x.q1 * x.yn0)
  let t3 : Int := IntKind.u64.wrap (4294967296 * x.rhat)
  let t4 : Int := IntKind.u64.wrap (t3 + x.un1)
  let b5 : Bool := decide (t2 > t4)
  let p6 : Bool := (b1 || b5)
  let t7 : Int := IntKind.u64.wrap (x.q1 - 1)
  let t8 : Int := IntKind.u64.wrap (x.rhat + x.yn1)
  let b9 : Bool := decide (t8 ≥ 4294967296)
  (bif p6 then (bif b9 then (.inr ⟨x.yn1, x.yn0, x.un1, t7, t8⟩) else (.inl ⟨x.yn1, x.yn0, x.un1, t7, t8⟩)) else (.inr ⟨x.yn1, x.yn0, x.un1, x.q1, x.rhat⟩))
def S.math_bits_Div64_L0_vcs (x : S.math_bits_Div64_L0) : Prop :=
  let b1 : Bool := decide (x.q1 ≥ 4294967296)
  let t2 : Int := IntKind.u64.wrap (x.q1 * x.yn0)
  let t3 : Int := IntKind.u64.wrap (4294967296 * x.rhat)
  let t4 : Int := IntKind.u64.wrap (t3 + x.un1)
  let b5 : Bool := decide (t2 > t4)
  let p6 : Bool := (b1 || b5)
  let t8 : Int := IntKind.u64.wrap (x.rhat + x.yn1)
  let b9 : Bool := decide (t8 ≥ 4294967296)
  ((p6 = true → ((b9 = true → True) ∧ (b9 = false → True))) ∧ (p6 = false → True))
noncomputable def S.math_bits_Div64_L0_run (x : S.math_bits_Div64_L0) : S.math_bits_Div64_L0 := theRun (fun x => x) S.math_bits_Div64_L0_step S.math_bits_Div64_L0_vcs x
@[ext] structure S.math_bits_Div64_L2 where
  yn1 : Int
  yn0 : Int
  un0 : Int
  rhat : Int
  q0 : Int
def S.math_bits_Div64_L2_step (x : S.math_bits_Div64_L2) : S.math_bits_Div64_L2 ⊕ (S.math_bits_Div64_L2) :=
  let b1 : Bool := decide (x.q0 ≥ 4294967296)
  let t2 : Int := IntKind.u64.wrap (x.q0 * x.yn0)
  let t3 : Int := IntKind.u64.wrap (4294967296 * x.rhat)
  let t4 : Int := IntKind.u64.wrap (t3 + x.un0)
  let b5 : Bool := decide (t2 > t4)
  let p6 : Bool := (b1 || b5)
  let t7 : Int := IntKind.u64.wrap (x.q0 - 1)
  let t8 : Int := IntKind.u64.wrap (x.rhat + x.yn1)
  let b9 : Bool := decide (t8 ≥ 4294967296)
  (bif p6 then (bif b9 then (.inr ⟨x.yn1, x.yn0, x.un0, t8, t7⟩) else (.inl ⟨x.yn1, x.yn0, x.un0, t8, t7⟩)) else (.inr ⟨x.yn1, x.yn0, x.un0, x.rhat, x.q0⟩))
def S.math_bits_Div64_L2_vcs (x : S.math_bits_Div64_L2) : Prop :=
  let b1 : Bool := decide (x.q0 ≥ 4294967296)
  let t2 : Int := IntKind.u64.wrap (x.q0 * x.yn0)
  let t3 : Int := IntKind.u64.wrap (4294967296 * x.rhat)
  let t4 : Int := IntKind.u64.wrap (t3 + x.un0)
  let b5 : Bool := decide (t2 > t4)
  let p6 : Bool := (b1 || b5)
  let t8 : Int := IntKind.u64.wrap (x.rhat + x.yn1)
  let b9 : Bool := decide (t8 ≥ 4294967296)
  ((p6 = true → ((b9 = true → True) ∧ (b9 = false → True))) ∧ (p6 = false → True))
noncomputable def S.math_bits_Div64_L2_run (x : S.math_bits_Div64_L2) : S.math_bits_Div64_L2 := theRun (fun x => x) S.math_bits_Div64_L2_step S.math_bits_Div64_L2_vcs x
/-- math/bits.Div64 -/
noncomputable def S.math_bits_Div64 (hi : Int) (lo : Int) (y : Int) : Int × Int :=
  let b3 : Bool := hi == 0
  let t4 : Int := IntKind.u64.wrap (Int.tdiv lo y)
  let t5 : Int := Int.tmod lo y
  let r6 : Int := S.math_bits_LeadingZeros64 y
  let t7 : Int := IntKind.u64.wrap r6
  let t8 : Int := IntKind.u64.wrap (y * 2 ^ min (Int.toNat t7) 64)
  let t9 : Int := Int.fdiv t8 (2 ^ min (Int.toNat 32) 64)
  let t10 : Int := bits .and .u64 t8 4294967295
  let t11 : Int := IntKind.u64.wrap (hi * 2 ^ min (Int.toNat t7) 64)
  let t12 : Int := IntKind.u64.wrap (64 - t7)
  let t13 : Int := Int.fdiv lo (2 ^ min (Int.toNat t12) 64)
  let t14 : Int := bits .or .u64 t11 t13
  let t15 : Int := IntKind.u64.wrap (lo * 2 ^ min (Int.toNat t7) 64)
  let t16 : Int := Int.fdiv t15 (2 ^ min (Int.toNat 32) 64)
  let t17 : Int := bits .and .u64 t15 4294967295
  let t18 : Int := IntKind.u64.wrap (Int.tdiv t14 t9)
  let t19 : Int := IntKind.u64.wrap (t18 * t9)
  let t20 : Int := IntKind.u64.wrap (t14 - t19)
  let x21 : S.math_bits_Div64_L0 := (⟨t9, t10, t16, t18, t20⟩ : S.math_bits_Div64_L0)
  let y22 : S.math_bits_Div64_L0 := S.math_bits_Div64_L0_run x21
  let t23 : Int := IntKind.u64.wrap (t14 * 4294967296)
  let t24 : Int := IntKind.u64.wrap (t23 + y22.un1)
  let t25 : Int := IntKind.u64.wrap (y22.q1 * t8)
  let t26 : Int := IntKind.u64.wrap (t24 - t25)
  let t27 : Int := IntKind.u64.wrap (Int.tdiv t26 y22.yn1)
  let t28 : Int := IntKind.u64.wrap (t27 * y22.yn1)
  let t29 : Int := IntKind.u64.wrap (t26 - t28)
  let x30 : S.math_bits_Div64_L2 := (⟨y22.yn1, y22.yn0, t17, t29, t27⟩ : S.math_bits_Div64_L2)
  let y31 : S.math_bits_Div64_L2 := S.math_bits_Div64_L2_run x30
  let t32 : Int := IntKind.u64.wrap (y22.q1 * 4294967296)
  let t33 : Int := IntKind.u64.wrap (t32 + y31.q0)
  let t34 : Int := IntKind.u64.wrap (t26 * 4294967296)
  let t35 : Int := IntKind.u64.wrap (t34 + y31.un0)
  let t36 : Int := IntKind.u64.wrap (y31.q0 * t8)
  let t37 : Int := IntKind.u64.wrap (t35 - t36)
  let t38 : Int := Int.fdiv t37 (2 ^ min (Int.toNat t7) 64)
  (bif b3 then (t4, t5) else (t33, t38))
def S.math_bits_Div64_pre (hi : Int) (lo : Int) (y : Int) : Prop :=
  let b1 : Bool := y == 0
  let b2 : Bool := decide (y ≤ hi)
  let b3 : Bool := hi == 0
  let r6 : Int := S.math_bits_LeadingZeros64 y
  let t7 : Int := IntKind.u64.wrap r6
  let t8 : Int := IntKind.u64.wrap (y * 2 ^ min (Int.toNat t7) 64)
  let t9 : Int := Int.fdiv t8 (2 ^ min (Int.toNat 32) 64)
  let t10 : Int := bits .and .u64 t8 4294967295
  let t11 : Int := IntKind.u64.wrap (hi * 2 ^ min (Int.toNat t7) 64)
  let t12 : Int := IntKind.u64.wrap (64 - t7)
  let t13 : Int := Int.fdiv lo (2 ^ min (Int.toNat t12) 64)
  let t14 : Int := bits .or .u64 t11 t13
  let t15 : Int := IntKind.u64.wrap (lo * 2 ^ min (Int.toNat t7) 64)
  let t16 : Int := Int.fdiv t15 (2 ^ min (Int.toNat 32) 64)
  let t17 : Int := bits .and .u64 t15 4294967295
  let t18 : Int := IntKind.u64.wrap (Int.tdiv t14 t9)
  let t19 : Int := IntKind.u64.wrap (t18 * t9)
  let t20 : Int := IntKind.u64.wrap (t14 - t19)
  let x21 : S.math_bits_Div64_L0 := (⟨t9, t10, t16, t18, t20⟩ : S.math_bits_Div64_L0)
  let y22 : S.math_bits_Div64_L0 := S.math_bits_Div64_L0_run x21
  let t23 : Int := IntKind.u64.wrap (t14 * 4294967296)
  let t24 : Int := IntKind.u64.wrap (t23 + y22.un1)
  let t25 : Int := IntKind.u64.wrap (y22.q1 * t8)
  let t26 : Int := IntKind.u64.wrap (t24 - t25)
  let t27 : Int := IntKind.u64.wrap (Int.tdiv t26 y22.yn1)
  let t28 : Int := IntKind.u64.wrap (t27 * y22.yn1)
  let t29 : Int := IntKind.u64.wrap (t26 - t28)
  let x30 : S.math_bits_Div64_L2 := (⟨y22.yn1, y22.yn0, t17, t29, t27⟩ : S.math_bits_Div64_L2)
  ((b1 = true → False) ∧ (b1 = false → ((b2 = true → False) ∧ (b2 = false → ((b3 = true → (All [y ≠ 0, y ≠ 0] ∧ True)) ∧ (b3 = false → (All [S.math_bits_LeadingZeros64_pre y, (0 : Int) ≤ t7, (0 : Int) ≤ t7, (0 : Int) ≤ t12, (0 : Int) ≤ t7, t9 ≠ 0, Runs S.math_bits_Div64_L0_step S.math_bits_Div64_L0_vcs x21 (S.math_bits_Div64_L0_run x21), y22.yn1 ≠ 0, Runs S.math_bits_Div64_L2_step S.math_bits_Div64_L2_vcs x30 (S.math_bits_Div64_L2_run x30), (0 : Int) ≤ t7] ∧ True)))))))
/-- deci.Div: limbs, divided by a number that is not 0: the quotients, and what is left -/
def S.deci_Divq (d : Int) : List Int → List Int × Int
  | [] => ([], 0)
  | x :: l => (((S.deci_Divq d l).2 * 18446744073709551616 + x) / d :: (S.deci_Divq d l).1, ((S.deci_Divq d l).2 * 18446744073709551616 + x) % d)
noncomputable def S.deci_Div (n : S.Num) (d : Int) : S.Num × Int × Int :=
  bif d == 0 then (⟨[]⟩, 0, 2) else (S.nat_Limbs (S.deci_Divq d (S.nat_Nat_All n)).1, (S.deci_Divq d (S.nat_Nat_All n)).2, 0)
def S.deci_Div_pre (n : S.Num) (d : Int) : Prop := 0 ≤ d ∧ d ≤ 18446744073709551615 ∧ S.nat_Nat_All_pre n ∧ (∀ x ∈ S.nat_Nat_All n, 0 ≤ x ∧ x ≤ 18446744073709551615) ∧ (d ≠ 0 → S.nat_Limbs_pre (S.deci_Divq d (S.nat_Nat_All n)).1) ∧ (S.nat_Nat_All n).length ≤ 9223372036854775807 ∧ (∀ hi lo : Int, 0 ≤ hi → hi < d → 0 ≤ lo → lo ≤ 18446744073709551615 → S.math_bits_Div64_pre hi lo d ∧ S.math_bits_Div64 hi lo d = ((hi * 18446744073709551616 + lo) / d, (hi * 18446744073709551616 + lo) % d))
/-- (nat.Nat).Len -/
def S.nat_Nat_Len (n : S.Num) : Int :=
  (n.limbs.length : Int)
/-- (nat.Nat).limb -/
def S.nat_Nat_limb (n : S.Num) (i : Int) : Int :=
  let r1 : Int := S.nat_Nat_Len n
  let b2 : Bool := decide (i ≥ r1)
  let e3 : Int := n.limbs.getD (Int.toNat i) 0
  (bif b2 then 0 else e3)
def S.nat_Nat_limb_pre (n : S.Num) (i : Int) : Prop :=
  let r1 : Int := S.nat_Nat_Len n
  let b2 : Bool := decide (i ≥ r1)
  ((b2 = true → True) ∧ (b2 = false → (All [(0 : Int) ≤ i, i < (n.limbs.length : Int)] ∧ True)))
/-- (nat.Nat).Small -/
def S.nat_Nat_Small (n : S.Num) : Int × Bool :=
  let r1 : Int := S.nat_Nat_Len n
  let b2 : Bool := decide (r1 > 1)
  let r3 : Int := S.nat_Nat_limb n 0
  (bif b2 then (0, false) else (r3, true))
def S.nat_Nat_Small_pre (n : S.Num) : Prop :=
  let r1 : Int := S.nat_Nat_Len n
  let b2 : Bool := decide (r1 > 1)
  ((b2 = true → True) ∧ (b2 = false → (All [S.nat_Nat_limb_pre n 0] ∧ True)))
/-- deci.plain: is a text some number's digits? -/
def S.deci_plainb (s : ByteArray) (i : Nat) : Bool := decide (48 ≤ (s.get! i).toNat) && decide ((s.get! i).toNat ≤ 57) && !(decide (i = 0) && decide ((s.get! i).toNat = 48) && decide (s.size > 1))
def S.deci_plain (s : ByteArray) : Bool := (List.range s.size).all (S.deci_plainb s) && decide (s.size ≠ 0)
def S.deci_plain_pre (_s : ByteArray) : Prop := True
/-- nat.Of -/
noncomputable def S.nat_Of (n : Int) : S.Num :=
  let r1 : S.Num := S.nat_Limbs ([n] : List Int)
  r1
def S.nat_Of_pre (n : Int) : Prop :=
  (All [S.nat_Limbs_pre ([n] : List Int)] ∧ True)
/-- math/bits.Mul64 -/
def S.math_bits_Mul64 (x : Int) (y : Int) : Int × Int :=
  let t1 : Int := bits .and .u64 x 4294967295
  let t2 : Int := Int.fdiv x (2 ^ min (Int.toNat 32) 64)
  let t3 : Int := bits .and .u64 y 4294967295
  let t4 : Int := Int.fdiv y (2 ^ min (Int.toNat 32) 64)
  let t5 : Int := IntKind.u64.wrap (t1 * t3)
  let t6 : Int := IntKind.u64.wrap (t2 * t3)
  let t7 : Int := Int.fdiv t5 (2 ^ min (Int.toNat 32) 64)
  let t8 : Int := IntKind.u64.wrap (t6 + t7)
  let t9 : Int := bits .and .u64 t8 4294967295
  let t10 : Int := Int.fdiv t8 (2 ^ min (Int.toNat 32) 64)
  let t11 : Int := IntKind.u64.wrap (t1 * t4)
  let t12 : Int := IntKind.u64.wrap (t9 + t11)
  let t13 : Int := IntKind.u64.wrap (t2 * t4)
  let t14 : Int := IntKind.u64.wrap (t13 + t10)
  let t15 : Int := Int.fdiv t12 (2 ^ min (Int.toNat 32) 64)
  let t16 : Int := IntKind.u64.wrap (t14 + t15)
  let t17 : Int := IntKind.u64.wrap (x * y)
  (t16, t17)
/-- math/bits.Add64 -/
def S.math_bits_Add64 (x y c : Int) : Int × Int := ((x + y + c) % 18446744073709551616, (x + y + c) / 18446744073709551616)
def S.math_bits_Add64_pre (x y c : Int) : Prop := 0 ≤ x ∧ 0 ≤ y ∧ 0 ≤ c ∧ c ≤ 1
@[ext] structure S.nat_Mul_L2 where
  i : Int
  vx : Int
  carry : Int
  t29 : (List Int)
  t30 : Int
  t31 : Int
  l : (List Int)
def S.nat_Mul_L2_step (x : S.nat_Mul_L2) : S.nat_Mul_L2 ⊕ (S.nat_Mul_L2) :=
  let b1 : Bool := decide (x.t31 < x.t30)
  let e2 : Int := x.t29.getD (Int.toNat x.t31) 0
  let r3 : Int × Int := S.math_bits_Mul64 x.vx e2
  let t4 : Int := IntKind.i64.wrap (x.i + x.t31)
  let e5 : Int := x.l.getD (Int.toNat t4) 0
  let r6 : Int × Int := S.math_bits_Add64 r3.2 e5 0
  let t7 : Int := IntKind.u64.wrap (r3.1 + r6.2)
  let r8 : Int × Int := S.math_bits_Add64 r6.1 x.carry 0
  let t9 : Int := IntKind.i64.wrap (x.i + x.t31)
  let t10 : Int := IntKind.u64.wrap (t7 + r8.2)
  let l11 : List Int := x.l.set (Int.toNat t9) r8.1
  let t12 : Int := IntKind.i64.wrap (x.t31 + 1)
  (bif b1 then (.inl ⟨x.i, x.vx, t10, x.t29, x.t30, t12, l11⟩) else (.inr ⟨x.i, x.vx, x.carry, x.t29, x.t30, x.t31, x.l⟩))
def S.nat_Mul_L2_vcs (x : S.nat_Mul_L2) : Prop :=
  let b1 : Bool := decide (x.t31 < x.t30)
  let e2 : Int := x.t29.getD (Int.toNat x.t31) 0
  let r3 : Int × Int := S.math_bits_Mul64 x.vx e2
  let t4 : Int := IntKind.i64.wrap (x.i + x.t31)
  let e5 : Int := x.l.getD (Int.toNat t4) 0
  let r6 : Int × Int := S.math_bits_Add64 r3.2 e5 0
  let t9 : Int := IntKind.i64.wrap (x.i + x.t31)
  ((b1 = true → (All [(0 : Int) ≤ x.t31, x.t31 < (x.t29.length : Int), (0 : Int) ≤ t4, t4 < (x.l.length : Int), S.math_bits_Add64_pre r3.2 e5 0, S.math_bits_Add64_pre r6.1 x.carry 0, (0 : Int) ≤ t9, t9 < (x.l.length : Int)] ∧ True)) ∧ (b1 = false → True))
noncomputable def S.nat_Mul_L2_run (x : S.nat_Mul_L2) : S.nat_Mul_L2 := theRun (fun x => x) S.nat_Mul_L2_step S.nat_Mul_L2_vcs x
@[ext] structure S.nat_Mul_L0 where
  t21 : (List Int)
  t22 : Int
  t23 : Int
  l : (List Int)
  b : S.Num
noncomputable def S.nat_Mul_L0_step (x : S.nat_Mul_L0) : S.nat_Mul_L0 ⊕ (S.nat_Mul_L0) :=
  let b1 : Bool := decide (x.t23 < x.t22)
  let e2 : Int := x.t21.getD (Int.toNat x.t23) 0
  let x3 : S.nat_Mul_L2 := (⟨x.t23, e2, 0, x.b.limbs, (x.b.limbs.length : Int), 0, x.l⟩ : S.nat_Mul_L2)
  let y4 : S.nat_Mul_L2 := S.nat_Mul_L2_run x3
  let r5 : Int := S.nat_Nat_Len x.b
  let t6 : Int := IntKind.i64.wrap (y4.i + r5)
  let l7 : List Int := y4.l.set (Int.toNat t6) y4.carry
  let t8 : Int := IntKind.i64.wrap (x.t23 + 1)
  (bif b1 then (.inl ⟨x.t21, x.t22, t8, l7, x.b⟩) else (.inr ⟨x.t21, x.t22, x.t23, x.l, x.b⟩))
noncomputable def S.nat_Mul_L0_vcs (x : S.nat_Mul_L0) : Prop :=
  let b1 : Bool := decide (x.t23 < x.t22)
  let e2 : Int := x.t21.getD (Int.toNat x.t23) 0
  let x3 : S.nat_Mul_L2 := (⟨x.t23, e2, 0, x.b.limbs, (x.b.limbs.length : Int), 0, x.l⟩ : S.nat_Mul_L2)
  let y4 : S.nat_Mul_L2 := S.nat_Mul_L2_run x3
  let r5 : Int := S.nat_Nat_Len x.b
  let t6 : Int := IntKind.i64.wrap (y4.i + r5)
  ((b1 = true → (All [(0 : Int) ≤ x.t23, x.t23 < (x.t21.length : Int), Runs S.nat_Mul_L2_step S.nat_Mul_L2_vcs x3 (S.nat_Mul_L2_run x3), (0 : Int) ≤ t6, t6 < (y4.l.length : Int)] ∧ True)) ∧ (b1 = false → True))
noncomputable def S.nat_Mul_L0_run (x : S.nat_Mul_L0) : S.nat_Mul_L0 := theRun (fun x => x) S.nat_Mul_L0_step S.nat_Mul_L0_vcs x
/-- nat.Mul -/
noncomputable def S.nat_Mul (a : S.Num) (b : S.Num) : S.Num :=
  let r1 : Int := S.nat_Nat_Len a
  let r2 : Int := S.nat_Nat_Len b
  let t3 : Int := IntKind.i64.wrap (r1 + r2)
  let x4 : S.nat_Mul_L0 := (⟨a.limbs, (a.limbs.length : Int), 0, (List.replicate (Int.toNat t3) (0 : Int)), b⟩ : S.nat_Mul_L0)
  let y5 : S.nat_Mul_L0 := S.nat_Mul_L0_run x4
  let r6 : S.Num := S.nat_Limbs y5.l
  r6
def S.nat_Mul_pre (a : S.Num) (b : S.Num) : Prop :=
  let r1 : Int := S.nat_Nat_Len a
  let r2 : Int := S.nat_Nat_Len b
  let t3 : Int := IntKind.i64.wrap (r1 + r2)
  let x4 : S.nat_Mul_L0 := (⟨a.limbs, (a.limbs.length : Int), 0, (List.replicate (Int.toNat t3) (0 : Int)), b⟩ : S.nat_Mul_L0)
  let y5 : S.nat_Mul_L0 := S.nat_Mul_L0_run x4
  (All [(0 : Int) ≤ t3, t3 = t3, t3 * 8 ≤ 140737488355328, Runs S.nat_Mul_L0_step S.nat_Mul_L0_vcs x4 (S.nat_Mul_L0_run x4), S.nat_Limbs_pre y5.l] ∧ True)
/-- nat.Add$1 -/
def S.nat_Add_1 (x : Int) (y : Int) (a2 : Int) : Int × Int :=
  let r1 : Int × Int := S.math_bits_Add64 x y a2
  (r1.1, r1.2)
def S.nat_Add_1_pre (x : Int) (y : Int) (a2 : Int) : Prop :=
  (All [S.math_bits_Add64_pre x y a2] ∧ True)
@[ext] structure S.nat_Add_L0 where
  t14 : Int
  t15 : Int
  l : (List Int)
  a : S.Num
  b : S.Num
  carry : Int
def S.nat_Add_L0_step (x : S.nat_Add_L0) : S.nat_Add_L0 ⊕ (S.nat_Add_L0) :=
  let b1 : Bool := decide (x.t15 < x.t14)
  let r2 : Int := S.nat_Nat_limb x.a x.t15
  let r3 : Int := S.nat_Nat_limb x.b x.t15
  let r4 : Int × Int := S.nat_Add_1 r2 r3 x.carry
  let l5 : List Int := x.l ++ ([r4.1] : List Int)
  let t6 : Int := IntKind.i64.wrap (x.t15 + 1)
  (bif b1 then (.inl ⟨x.t14, t6, l5, x.a, x.b, r4.2⟩) else (.inr ⟨x.t14, x.t15, x.l, x.a, x.b, x.carry⟩))
def S.nat_Add_L0_vcs (x : S.nat_Add_L0) : Prop :=
  let b1 : Bool := decide (x.t15 < x.t14)
  let r2 : Int := S.nat_Nat_limb x.a x.t15
  let r3 : Int := S.nat_Nat_limb x.b x.t15
  let r4 : Int × Int := S.nat_Add_1 r2 r3 x.carry
  ((b1 = true → (All [S.nat_Nat_limb_pre x.a x.t15, S.nat_Nat_limb_pre x.b x.t15, S.nat_Add_1_pre r2 r3 x.carry, ((x.l.length + ([r4.1] : List Int).length : Nat) : Int) * 8 ≤ 140737488355328] ∧ True)) ∧ (b1 = false → True))
noncomputable def S.nat_Add_L0_run (x : S.nat_Add_L0) : S.nat_Add_L0 := theRun (fun x => x) S.nat_Add_L0_step S.nat_Add_L0_vcs x
/-- nat.Add -/
noncomputable def S.nat_Add (a : S.Num) (b : S.Num) : S.Num :=
  let r1 : Int := S.nat_Nat_Len a
  let r2 : Int := S.nat_Nat_Len b
  let m3 : Int := if r2 > r1 then r2 else r1
  let x4 : S.nat_Add_L0 := (⟨m3, 0, ([] : List Int), a, b, 0⟩ : S.nat_Add_L0)
  let y5 : S.nat_Add_L0 := S.nat_Add_L0_run x4
  let l6 : List Int := y5.l ++ ([y5.carry] : List Int)
  let r7 : S.Num := S.nat_Limbs l6
  r7
def S.nat_Add_pre (a : S.Num) (b : S.Num) : Prop :=
  let r1 : Int := S.nat_Nat_Len a
  let r2 : Int := S.nat_Nat_Len b
  let m3 : Int := if r2 > r1 then r2 else r1
  let x4 : S.nat_Add_L0 := (⟨m3, 0, ([] : List Int), a, b, 0⟩ : S.nat_Add_L0)
  let y5 : S.nat_Add_L0 := S.nat_Add_L0_run x4
  let l6 : List Int := y5.l ++ ([y5.carry] : List Int)
  (All [Runs S.nat_Add_L0_step S.nat_Add_L0_vcs x4 (S.nat_Add_L0_run x4), ((y5.l.length + ([y5.carry] : List Int).length : Nat) : Int) * 8 ≤ 140737488355328, S.nat_Limbs_pre l6] ∧ True)
/-- deci.value: the number of digits, eighteen by eighteen -/
def S.deci_valuex (s : ByteArray) : Int := s.data.toList.foldl (fun x c => x * 10 + ((c.toNat : Int) - 48)) 0
noncomputable def S.deci_valuef : Nat → ByteArray → S.Num → S.Num
  | 0, _, n => n
  | f + 1, s, n => if s.size = 0 then n else S.deci_valuef f (s.extract (min s.size 18) s.size) (S.nat_Add (S.nat_Mul n (S.nat_Of (10 ^ min s.size 18))) (S.nat_Of (S.deci_valuex (s.extract 0 (min s.size 18)))))
def S.deci_valueg : Nat → ByteArray → S.Num → Prop
  | 0, _, _ => True
  | f + 1, s, n => s.size = 0 ∨ (S.nat_Of_pre (10 ^ min s.size 18) ∧ S.nat_Of_pre (S.deci_valuex (s.extract 0 (min s.size 18))) ∧ S.nat_Mul_pre n (S.nat_Of (10 ^ min s.size 18)) ∧ S.nat_Add_pre (S.nat_Mul n (S.nat_Of (10 ^ min s.size 18))) (S.nat_Of (S.deci_valuex (s.extract 0 (min s.size 18)))) ∧ S.deci_valueg f (s.extract (min s.size 18) s.size) (S.nat_Add (S.nat_Mul n (S.nat_Of (10 ^ min s.size 18))) (S.nat_Of (S.deci_valuex (s.extract 0 (min s.size 18))))))
noncomputable def S.deci_value (s : ByteArray) : S.Num := S.deci_valuef s.size s ⟨[]⟩
def S.deci_value_pre (s : ByteArray) : Prop := (∀ c ∈ s.data.toList, 48 ≤ c.toNat ∧ c.toNat ≤ 57) ∧ S.deci_valueg s.size s ⟨[]⟩
/-- (nat.Cap).Fits -/
def S.nat_Cap_Fits (c : Int) (n : S.Num) : Bool :=
  let r1 : Int := S.nat_Nat_Len n
  let m2 : Int := if c > 0 then c else 0
  let b3 : Bool := decide (r1 ≤ m2)
  b3
/-- deci.Parse -/
noncomputable def S.deci_Parse (s : ByteArray) (c : Int) : S.Num × Int :=
  let r1 : Bool := S.deci_plain s
  let b2 : Bool := !r1
  let r3 : S.Num := S.deci_value s
  let r4 : Bool := S.nat_Cap_Fits c r3
  let b5 : Bool := !r4
  (bif b2 then ((⟨([] : List Int)⟩ : S.Num), 20) else (bif b5 then ((⟨([] : List Int)⟩ : S.Num), 10) else (r3, 0)))
def S.deci_Parse_pre (s : ByteArray) (c : Int) : Prop :=
  let r1 : Bool := S.deci_plain s
  let b2 : Bool := !r1
  let r3 : S.Num := S.deci_value s
  let r4 : Bool := S.nat_Cap_Fits c r3
  let b5 : Bool := !r4
  (All [S.deci_plain_pre s] ∧ ((b2 = true → True) ∧ (b2 = false → (All [S.deci_value_pre s] ∧ ((b5 = true → True) ∧ (b5 = false → True))))))
/-- internal/stringslite.HasPrefix -/
def S.internal_stringslite_HasPrefix (s : ByteArray) (a1 : ByteArray) : Bool :=
  let b1 : Bool := decide ((s.size : Int) ≥ (a1.size : Int))
  let s2 : ByteArray := s.extract (Int.toNat 0) (Int.toNat (a1.size : Int))
  let b3 : Bool := (s2.toList == a1.toList)
  let p4 : Bool := (b1 && b3)
  p4
def S.internal_stringslite_HasPrefix_pre (s : ByteArray) (a1 : ByteArray) : Prop :=
  let b1 : Bool := decide ((s.size : Int) ≥ (a1.size : Int))
  (All [(b1 = true → ((0 : Int) ≤ 0 ∧ (0 : Int) ≤ (a1.size : Int) ∧ (a1.size : Int) ≤ (s.size : Int)))] ∧ True)
/-- internal/stringslite.CutPrefix -/
def S.internal_stringslite_CutPrefix (s : ByteArray) (a1 : ByteArray) : ByteArray × Bool :=
  let r1 : Bool := S.internal_stringslite_HasPrefix s a1
  let b2 : Bool := !r1
  let s3 : ByteArray := s.extract (Int.toNat (a1.size : Int)) (Int.toNat (s.size : Int))
  (bif b2 then (s, false) else (s3, true))
def S.internal_stringslite_CutPrefix_pre (s : ByteArray) (a1 : ByteArray) : Prop :=
  let r1 : Bool := S.internal_stringslite_HasPrefix s a1
  let b2 : Bool := !r1
  (All [S.internal_stringslite_HasPrefix_pre s a1] ∧ ((b2 = true → True) ∧ (b2 = false → (All [(0 : Int) ≤ (a1.size : Int), (a1.size : Int) ≤ (s.size : Int), (s.size : Int) ≤ (s.size : Int)] ∧ True))))
/-- strings.CutPrefix -/
def S.strings_CutPrefix (s : ByteArray) (a1 : ByteArray) : ByteArray × Bool :=
  let r1 : ByteArray × Bool := S.internal_stringslite_CutPrefix s a1
  (r1.1, r1.2)
def S.strings_CutPrefix_pre (s : ByteArray) (a1 : ByteArray) : Prop :=
  (All [S.internal_stringslite_CutPrefix_pre s a1] ∧ True)
/-- deci.digits: a part's decimal digits, at least so many -/
def S.deci_digitsl : Nat → Nat → Nat → List UInt8
  | 0, _, _ => []
  | f + 1, n, many => if n = 0 ∧ many = 0 then [] else S.deci_digitsl f (n / 10) (many - 1) ++ [UInt8.ofNat (48 + n % 10)]
def S.deci_digits (n : Int) (many : Int) : ByteArray := ⟨(S.deci_digitsl (20 + many.toNat) n.toNat many.toNat).toArray⟩
def S.deci_digits_pre (n : Int) (many : Int) : Prop := 0 ≤ n ∧ n ≤ 18446744073709551615 ∧ 0 ≤ many ∧ many ≤ 1000
/-- deci.Whole -/
def S.deci_Whole (n : Int) : ByteArray :=
  let b1 : Bool := decide (n < 0)
  let t2 : Int := IntKind.u64.wrap n
  let t3 : Int := IntKind.u64.wrap (0 - t2)
  let r4 : ByteArray := S.deci_digits t3 1
  let s5 : ByteArray := (⟨#[45]⟩ : ByteArray) ++ r4
  let t6 : Int := IntKind.u64.wrap n
  let r7 : ByteArray := S.deci_digits t6 1
  (bif b1 then s5 else r7)
def S.deci_Whole_pre (n : Int) : Prop :=
  let b1 : Bool := decide (n < 0)
  let t2 : Int := IntKind.u64.wrap n
  let t3 : Int := IntKind.u64.wrap (0 - t2)
  let r4 : ByteArray := S.deci_digits t3 1
  let t6 : Int := IntKind.u64.wrap n
  ((b1 = true → (All [S.deci_digits_pre t3 1, (((⟨#[45]⟩ : ByteArray).size + r4.size : Nat) : Int) ≤ IntKind.i64.max] ∧ True)) ∧ (b1 = false → (All [S.deci_digits_pre t6 1] ∧ True)))
/-- deci.ParseWhole -/
noncomputable def S.deci_ParseWhole (s : ByteArray) : Int × Int :=
  let r1 : ByteArray × Bool := S.strings_CutPrefix s (⟨#[45]⟩ : ByteArray)
  let r2 : S.Num × Int := S.deci_Parse r1.1 1
  let r3 : Int × Bool := S.nat_Nat_Small r2.1
  let t4 : Int := IntKind.u64.wrap (0 - r3.1)
  let b5 : Bool := r2.2 != 0
  let t6 : Int := IntKind.i64.wrap (bif r1.2 then t4 else r3.1)
  let r7 : ByteArray := S.deci_Whole t6
  let b8 : Bool := !(r7.toList == s.toList)
  let p9 : Bool := (b5 || b8)
  let t10 : Int := IntKind.i64.wrap (bif r1.2 then t4 else r3.1)
  (bif p9 then (0, 20) else (t10, 0))
def S.deci_ParseWhole_pre (s : ByteArray) : Prop :=
  let r1 : ByteArray × Bool := S.strings_CutPrefix s (⟨#[45]⟩ : ByteArray)
  let r2 : S.Num × Int := S.deci_Parse r1.1 1
  let r3 : Int × Bool := S.nat_Nat_Small r2.1
  let t4 : Int := IntKind.u64.wrap (0 - r3.1)
  let b5 : Bool := r2.2 != 0
  let t6 : Int := IntKind.i64.wrap (bif r1.2 then t4 else r3.1)
  let r7 : ByteArray := S.deci_Whole t6
  let b8 : Bool := !(r7.toList == s.toList)
  let p9 : Bool := (b5 || b8)
  (All [S.strings_CutPrefix_pre s (⟨#[45]⟩ : ByteArray), S.deci_Parse_pre r1.1 1, S.nat_Nat_Small_pre r2.1, (b5 = false → S.deci_Whole_pre t6)] ∧ ((p9 = true → True) ∧ (p9 = false → True)))
/-- deci.Text -/
noncomputable def S.deci_Text_F : Nat → S.Num → ByteArray
  | 0, _ => (⟨#[]⟩ : ByteArray)
  | n + 1, a0 =>
  let r1 : S.Num × Int × Int := S.deci_Div a0 1000000000000000000
  let r2 : Int := S.nat_Nat_Len r1.1
  let b3 : Bool := decide (r2 > 0)
  let r4 : ByteArray := S.deci_Text_F n r1.1
  let r5 : ByteArray := S.deci_digits r1.2.1 18
  let s6 : ByteArray := r4 ++ r5
  let r7 : ByteArray := S.deci_digits r1.2.1 1
  (bif b3 then s6 else r7)
def S.deci_Text_D : Nat → S.Num → Prop
  | 0, _ => False
  | n + 1, a0 =>
  let r1 : S.Num × Int × Int := S.deci_Div a0 1000000000000000000
  let r2 : Int := S.nat_Nat_Len r1.1
  let b3 : Bool := decide (r2 > 0)
  let r4 : ByteArray := S.deci_Text_F n r1.1
  let r5 : ByteArray := S.deci_digits r1.2.1 18
  (All [S.deci_Div_pre a0 1000000000000000000] ∧ ((b3 = true → (All [S.deci_Text_D n r1.1, S.deci_digits_pre r1.2.1 18, ((r4.size + r5.size : Nat) : Int) ≤ IntKind.i64.max] ∧ True)) ∧ (b3 = false → (All [S.deci_digits_pre r1.2.1 1] ∧ True))))
noncomputable def S.deci_Text (a0 : S.Num) : ByteArray := S.deci_Text_F (Classical.epsilon fun n => S.deci_Text_D n a0) a0
def S.deci_Text_pre (a0 : S.Num) : Prop := ∃ n, S.deci_Text_D n a0
/-- deci.Digits -/
noncomputable def S.deci_Digits (n : S.Num) : Int :=
  let r1 : ByteArray := S.deci_Text n
  (r1.size : Int)
def S.deci_Digits_pre (n : S.Num) : Prop :=
  (All [S.deci_Text_pre n] ∧ True)
/-- sieveholeslaw02.works -/
noncomputable def S.law02_works : Bool :=
  let r1 : S.Num := S.nat_Limbs ([0, 1] : List Int)
  let r2 : S.Num × Int × Int := S.deci_Div r1 10
  let r3 : Int × Bool := S.nat_Nat_Small r2.1
  let r4 : S.Num × Int := S.deci_Parse (⟨#[48, 48, 55]⟩ : ByteArray) 9
  let r5 : S.Num × Int := S.deci_Parse (⟨#[49, 56, 52, 52, 54, 55, 52, 52, 48, 55, 51, 55, 48, 57, 53, 53, 49, 54, 49, 54]⟩ : ByteArray) 1
  let r6 : Int × Int := S.deci_ParseWhole (⟨#[45, 48]⟩ : ByteArray)
  let b7 : Bool := r2.2.2 == 0
  let b8 : Bool := r2.2.1 == 6
  let p9 : Bool := (b7 && b8)
  let p10 : Bool := (p9 && r3.2)
  let b11 : Bool := r3.1 == 1844674407370955161
  let p12 : Bool := (p10 && b11)
  let r13 : ByteArray := S.deci_Text r1
  let b14 : Bool := (r13.toList == (⟨#[49, 56, 52, 52, 54, 55, 52, 52, 48, 55, 51, 55, 48, 57, 53, 53, 49, 54, 49, 54]⟩ : ByteArray).toList)
  let p15 : Bool := (p12 && b14)
  let r16 : Int := S.deci_Digits r1
  let b17 : Bool := r16 == 20
  let p18 : Bool := (p15 && b17)
  let b19 : Bool := r4.2 == 20
  let p20 : Bool := (p18 && b19)
  let b21 : Bool := r5.2 == 10
  let p22 : Bool := (p20 && b21)
  let r23 : ByteArray := S.deci_Whole (-9223372036854775808)
  let b24 : Bool := (r23.toList == (⟨#[45, 57, 50, 50, 51, 51, 55, 50, 48, 51, 54, 56, 53, 52, 55, 55, 53, 56, 48, 56]⟩ : ByteArray).toList)
  let p25 : Bool := (p22 && b24)
  let b26 : Bool := r6.2 == 20
  let p27 : Bool := (p25 && b26)
  p27
def S.law02_works_pre : Prop :=
  let r1 : S.Num := S.nat_Limbs ([0, 1] : List Int)
  let r2 : S.Num × Int × Int := S.deci_Div r1 10
  let r3 : Int × Bool := S.nat_Nat_Small r2.1
  let r4 : S.Num × Int := S.deci_Parse (⟨#[48, 48, 55]⟩ : ByteArray) 9
  let r5 : S.Num × Int := S.deci_Parse (⟨#[49, 56, 52, 52, 54, 55, 52, 52, 48, 55, 51, 55, 48, 57, 53, 53, 49, 54, 49, 54]⟩ : ByteArray) 1
  let b7 : Bool := r2.2.2 == 0
  let b8 : Bool := r2.2.1 == 6
  let p9 : Bool := (b7 && b8)
  let p10 : Bool := (p9 && r3.2)
  let b11 : Bool := r3.1 == 1844674407370955161
  let p12 : Bool := (p10 && b11)
  let r13 : ByteArray := S.deci_Text r1
  let b14 : Bool := (r13.toList == (⟨#[49, 56, 52, 52, 54, 55, 52, 52, 48, 55, 51, 55, 48, 57, 53, 53, 49, 54, 49, 54]⟩ : ByteArray).toList)
  let p15 : Bool := (p12 && b14)
  let r16 : Int := S.deci_Digits r1
  let b17 : Bool := r16 == 20
  let p18 : Bool := (p15 && b17)
  let b19 : Bool := r4.2 == 20
  let p20 : Bool := (p18 && b19)
  let b21 : Bool := r5.2 == 10
  let p22 : Bool := (p20 && b21)
  (All [S.nat_Limbs_pre ([0, 1] : List Int), S.deci_Div_pre r1 10, S.nat_Nat_Small_pre r2.1, S.deci_Parse_pre (⟨#[48, 48, 55]⟩ : ByteArray) 9, S.deci_Parse_pre (⟨#[49, 56, 52, 52, 54, 55, 52, 52, 48, 55, 51, 55, 48, 57, 53, 53, 49, 54, 49, 54]⟩ : ByteArray) 1, S.deci_ParseWhole_pre (⟨#[45, 48]⟩ : ByteArray), (p12 = true → S.deci_Text_pre r1), (p15 = true → S.deci_Digits_pre r1), (p22 = true → S.deci_Whole_pre (-9223372036854775808))] ∧ True)
/-- sieveholeslaw02.own -/
def S.law02_own (l : (List Int)) : (List Int) :=
  let l1 : List Int := ([] : List Int) ++ l
  l1
def S.law02_own_pre (l : (List Int)) : Prop :=
  (All [((([] : List Int).length + l.length : Nat) : Int) * 8 ≤ 140737488355328] ∧ True)
@[ext] structure S.ref01_trim_L0 where
  out : (List Int)
def S.ref01_trim_L0_step (x : S.ref01_trim_L0) : S.ref01_trim_L0 ⊕ (S.ref01_trim_L0) :=
  let b1 : Bool := decide ((x.out.length : Int) > 0)
  let t2 : Int := IntKind.i64.wrap ((x.out.length : Int) - 1)
  let e3 : Int := x.out.getD (Int.toNat t2) 0
  let b4 : Bool := e3 == 0
  let p5 : Bool := (b1 && b4)
  let t6 : Int := IntKind.i64.wrap ((x.out.length : Int) - 1)
  let l7 : (List Int) := x.out.take (Int.toNat t6)
  (bif p5 then (.inl ⟨l7⟩) else (.inr ⟨x.out⟩))
def S.ref01_trim_L0_vcs (x : S.ref01_trim_L0) : Prop :=
  let b1 : Bool := decide ((x.out.length : Int) > 0)
  let t2 : Int := IntKind.i64.wrap ((x.out.length : Int) - 1)
  let e3 : Int := x.out.getD (Int.toNat t2) 0
  let b4 : Bool := e3 == 0
  let p5 : Bool := (b1 && b4)
  let t6 : Int := IntKind.i64.wrap ((x.out.length : Int) - 1)
  (All [(b1 = true → ((0 : Int) ≤ t2 ∧ t2 < (x.out.length : Int)))] ∧ ((p5 = true → (All [(0 : Int) ≤ t6, t6 ≤ (x.out.length : Int)] ∧ True)) ∧ (p5 = false → True)))
noncomputable def S.ref01_trim_L0_run (x : S.ref01_trim_L0) : S.ref01_trim_L0 := theRun (fun x => x) S.ref01_trim_L0_step S.ref01_trim_L0_vcs x
/-- sieveholesref01.trim -/
noncomputable def S.ref01_trim (l : (List Int)) : (List Int) :=
  let l1 : List Int := ([] : List Int) ++ l
  let x2 : S.ref01_trim_L0 := (⟨l1⟩ : S.ref01_trim_L0)
  let y3 : S.ref01_trim_L0 := S.ref01_trim_L0_run x2
  y3.out
def S.ref01_trim_pre (l : (List Int)) : Prop :=
  let l1 : List Int := ([] : List Int) ++ l
  let x2 : S.ref01_trim_L0 := (⟨l1⟩ : S.ref01_trim_L0)
  (All [((([] : List Int).length + l.length : Nat) : Int) * 1 ≤ 140737488355328, Runs S.ref01_trim_L0_step S.ref01_trim_L0_vcs x2 (S.ref01_trim_L0_run x2)] ∧ True)
@[ext] structure S.ref01_Of_L2 where
  n : Int
  k : Int
  out : (List Int)
def S.ref01_Of_L2_step (x : S.ref01_Of_L2) : S.ref01_Of_L2 ⊕ (S.ref01_Of_L2) :=
  let b1 : Bool := decide (x.k < 8)
  let t2 : Int := Int.tmod x.n 256
  let t3 : Int := IntKind.u8.wrap t2
  let l4 : List Int := x.out ++ ([t3] : List Int)
  let t5 : Int := IntKind.u64.wrap (Int.tdiv x.n 256)
  let t6 : Int := IntKind.i64.wrap (x.k + 1)
  (bif b1 then (.inl ⟨t5, t6, l4⟩) else (.inr ⟨x.n, x.k, x.out⟩))
def S.ref01_Of_L2_vcs (x : S.ref01_Of_L2) : Prop :=
  let b1 : Bool := decide (x.k < 8)
  let t2 : Int := Int.tmod x.n 256
  let t3 : Int := IntKind.u8.wrap t2
  ((b1 = true → (All [((x.out.length + ([t3] : List Int).length : Nat) : Int) * 1 ≤ 140737488355328] ∧ True)) ∧ (b1 = false → True))
noncomputable def S.ref01_Of_L2_run (x : S.ref01_Of_L2) : S.ref01_Of_L2 := theRun (fun x => x) S.ref01_Of_L2_step S.ref01_Of_L2_vcs x
@[ext] structure S.ref01_Of_L0 where
  l : (List Int)
  i : Int
  out : (List Int)
noncomputable def S.ref01_Of_L0_step (x : S.ref01_Of_L0) : S.ref01_Of_L0 ⊕ (S.ref01_Of_L0) :=
  let b1 : Bool := decide (x.i < (x.l.length : Int))
  let e2 : Int := x.l.getD (Int.toNat x.i) 0
  let x3 : S.ref01_Of_L2 := (⟨e2, 0, x.out⟩ : S.ref01_Of_L2)
  let y4 : S.ref01_Of_L2 := S.ref01_Of_L2_run x3
  let t5 : Int := IntKind.i64.wrap (x.i + 1)
  (bif b1 then (.inl ⟨x.l, t5, y4.out⟩) else (.inr ⟨x.l, x.i, x.out⟩))
noncomputable def S.ref01_Of_L0_vcs (x : S.ref01_Of_L0) : Prop :=
  let b1 : Bool := decide (x.i < (x.l.length : Int))
  let e2 : Int := x.l.getD (Int.toNat x.i) 0
  let x3 : S.ref01_Of_L2 := (⟨e2, 0, x.out⟩ : S.ref01_Of_L2)
  ((b1 = true → (All [(0 : Int) ≤ x.i, x.i < (x.l.length : Int), Runs S.ref01_Of_L2_step S.ref01_Of_L2_vcs x3 (S.ref01_Of_L2_run x3)] ∧ True)) ∧ (b1 = false → True))
noncomputable def S.ref01_Of_L0_run (x : S.ref01_Of_L0) : S.ref01_Of_L0 := theRun (fun x => x) S.ref01_Of_L0_step S.ref01_Of_L0_vcs x
/-- sieveholesref01.Of -/
noncomputable def S.ref01_Of (l : (List Int)) : (List Int) :=
  let x1 : S.ref01_Of_L0 := (⟨l, 0, ([] : List Int)⟩ : S.ref01_Of_L0)
  let y2 : S.ref01_Of_L0 := S.ref01_Of_L0_run x1
  let r3 : (List Int) := S.ref01_trim y2.out
  r3
def S.ref01_Of_pre (l : (List Int)) : Prop :=
  let x1 : S.ref01_Of_L0 := (⟨l, 0, ([] : List Int)⟩ : S.ref01_Of_L0)
  let y2 : S.ref01_Of_L0 := S.ref01_Of_L0_run x1
  (All [Runs S.ref01_Of_L0_step S.ref01_Of_L0_vcs x1 (S.ref01_Of_L0_run x1), S.ref01_trim_pre y2.out] ∧ True)
@[ext] structure S.ref01_Limbs_L2 where
  n : (List Int)
  i : Int
  vx : Int
  k : Int
def S.ref01_Limbs_L2_step (x : S.ref01_Limbs_L2) : S.ref01_Limbs_L2 ⊕ (S.ref01_Limbs_L2) :=
  let b1 : Bool := decide (x.k ≥ x.i)
  let t2 : Int := IntKind.u64.wrap (x.vx * 256)
  let e3 : Int := x.n.getD (Int.toNat x.k) 0
  let t4 : Int := IntKind.u64.wrap e3
  let t5 : Int := IntKind.u64.wrap (t2 + t4)
  let t6 : Int := IntKind.i64.wrap (x.k - 1)
  (bif b1 then (.inl ⟨x.n, x.i, t5, t6⟩) else (.inr ⟨x.n, x.i, x.vx, x.k⟩))
def S.ref01_Limbs_L2_vcs (x : S.ref01_Limbs_L2) : Prop :=
  let b1 : Bool := decide (x.k ≥ x.i)
  ((b1 = true → (All [(0 : Int) ≤ x.k, x.k < (x.n.length : Int)] ∧ True)) ∧ (b1 = false → True))
noncomputable def S.ref01_Limbs_L2_run (x : S.ref01_Limbs_L2) : S.ref01_Limbs_L2 := theRun (fun x => x) S.ref01_Limbs_L2_step S.ref01_Limbs_L2_vcs x
@[ext] structure S.ref01_Limbs_L0 where
  n : (List Int)
  i : Int
  out : (List Int)
noncomputable def S.ref01_Limbs_L0_step (x : S.ref01_Limbs_L0) : S.ref01_Limbs_L0 ⊕ (S.ref01_Limbs_L0) :=
  let b1 : Bool := decide (x.i < (x.n.length : Int))
  let t2 : Int := IntKind.i64.wrap (x.i + 8)
  let m3 : Int := if t2 < (x.n.length : Int) then t2 else (x.n.length : Int)
  let t4 : Int := IntKind.i64.wrap (m3 - 1)
  let x5 : S.ref01_Limbs_L2 := (⟨x.n, x.i, 0, t4⟩ : S.ref01_Limbs_L2)
  let y6 : S.ref01_Limbs_L2 := S.ref01_Limbs_L2_run x5
  let l7 : List Int := x.out ++ ([y6.vx] : List Int)
  let t8 : Int := IntKind.i64.wrap (y6.i + 8)
  (bif b1 then (.inl ⟨y6.n, t8, l7⟩) else (.inr ⟨x.n, x.i, x.out⟩))
noncomputable def S.ref01_Limbs_L0_vcs (x : S.ref01_Limbs_L0) : Prop :=
  let b1 : Bool := decide (x.i < (x.n.length : Int))
  let t2 : Int := IntKind.i64.wrap (x.i + 8)
  let m3 : Int := if t2 < (x.n.length : Int) then t2 else (x.n.length : Int)
  let t4 : Int := IntKind.i64.wrap (m3 - 1)
  let x5 : S.ref01_Limbs_L2 := (⟨x.n, x.i, 0, t4⟩ : S.ref01_Limbs_L2)
  let y6 : S.ref01_Limbs_L2 := S.ref01_Limbs_L2_run x5
  ((b1 = true → (All [Runs S.ref01_Limbs_L2_step S.ref01_Limbs_L2_vcs x5 (S.ref01_Limbs_L2_run x5), ((x.out.length + ([y6.vx] : List Int).length : Nat) : Int) * 8 ≤ 140737488355328] ∧ True)) ∧ (b1 = false → True))
noncomputable def S.ref01_Limbs_L0_run (x : S.ref01_Limbs_L0) : S.ref01_Limbs_L0 := theRun (fun x => x) S.ref01_Limbs_L0_step S.ref01_Limbs_L0_vcs x
/-- sieveholesref01.Limbs -/
noncomputable def S.ref01_Limbs (n : (List Int)) : (List Int) :=
  let x1 : S.ref01_Limbs_L0 := (⟨n, 0, ([] : List Int)⟩ : S.ref01_Limbs_L0)
  let y2 : S.ref01_Limbs_L0 := S.ref01_Limbs_L0_run x1
  y2.out
def S.ref01_Limbs_pre (n : (List Int)) : Prop :=
  let x1 : S.ref01_Limbs_L0 := (⟨n, 0, ([] : List Int)⟩ : S.ref01_Limbs_L0)
  (All [Runs S.ref01_Limbs_L0_step S.ref01_Limbs_L0_vcs x1 (S.ref01_Limbs_L0_run x1)] ∧ True)
@[ext] structure S.ref02_Div_L2 where
  n : (List Int)
  vby : Int
  left : Int
  i : Int
  digit : Int
  out : (List Int)
def S.ref02_Div_L2_step (x : S.ref02_Div_L2) : S.ref02_Div_L2 ⊕ (S.ref02_Div_L2) :=
  let b1 : Bool := decide (x.digit > 0)
  let b2 : Bool := decide (x.left ≥ 9223372036854775808)
  let t3 : Int := IntKind.u64.wrap (x.left * 2)
  let e4 : Int := x.n.getD (Int.toNat x.i) 0
  let t5 : Int := IntKind.i64.wrap e4
  let t6 : Int := IntKind.i64.wrap (Int.tdiv t5 x.digit)
  let t7 : Int := Int.tmod t6 2
  let t8 : Int := IntKind.u64.wrap t7
  let t9 : Int := IntKind.u64.wrap (t3 + t8)
  let b10 : Bool := decide (t9 ≥ x.vby)
  let p11 : Bool := (b2 || b10)
  let t12 : Int := IntKind.u64.wrap (t9 - x.vby)
  let e13 : Int := x.out.getD (Int.toNat x.i) 0
  let t14 : Int := IntKind.u8.wrap x.digit
  let t15 : Int := IntKind.u8.wrap (e13 + t14)
  let l16 : List Int := x.out.set (Int.toNat x.i) t15
  let t17 : Int := IntKind.i64.wrap (Int.tdiv x.digit 2)
  (bif b1 then (.inl ⟨x.n, x.vby, (bif p11 then t12 else t9), x.i, t17, (bif p11 then l16 else x.out)⟩) else (.inr ⟨x.n, x.vby, x.left, x.i, x.digit, x.out⟩))
def S.ref02_Div_L2_vcs (x : S.ref02_Div_L2) : Prop :=
  let b1 : Bool := decide (x.digit > 0)
  let b2 : Bool := decide (x.left ≥ 9223372036854775808)
  let t3 : Int := IntKind.u64.wrap (x.left * 2)
  let e4 : Int := x.n.getD (Int.toNat x.i) 0
  let t5 : Int := IntKind.i64.wrap e4
  let t6 : Int := IntKind.i64.wrap (Int.tdiv t5 x.digit)
  let t7 : Int := Int.tmod t6 2
  let t8 : Int := IntKind.u64.wrap t7
  let t9 : Int := IntKind.u64.wrap (t3 + t8)
  let b10 : Bool := decide (t9 ≥ x.vby)
  let p11 : Bool := (b2 || b10)
  ((b1 = true → (All [(0 : Int) ≤ x.i, x.i < (x.n.length : Int), x.digit ≠ 0, (p11 = true → ((0 : Int) ≤ x.i ∧ x.i < (x.out.length : Int) ∧ (0 : Int) ≤ x.i ∧ x.i < (x.out.length : Int)))] ∧ True)) ∧ (b1 = false → True))
noncomputable def S.ref02_Div_L2_run (x : S.ref02_Div_L2) : S.ref02_Div_L2 := theRun (fun x => x) S.ref02_Div_L2_step S.ref02_Div_L2_vcs x
@[ext] structure S.ref02_Div_L0 where
  n : (List Int)
  vby : Int
  left : Int
  i : Int
  out : (List Int)
noncomputable def S.ref02_Div_L0_step (x : S.ref02_Div_L0) : S.ref02_Div_L0 ⊕ (S.ref02_Div_L0) :=
  let b1 : Bool := decide (x.i ≥ 0)
  let x2 : S.ref02_Div_L2 := (⟨x.n, x.vby, x.left, x.i, 128, x.out⟩ : S.ref02_Div_L2)
  let y3 : S.ref02_Div_L2 := S.ref02_Div_L2_run x2
  let t4 : Int := IntKind.i64.wrap (y3.i - 1)
  (bif b1 then (.inl ⟨y3.n, y3.vby, y3.left, t4, y3.out⟩) else (.inr ⟨x.n, x.vby, x.left, x.i, x.out⟩))
noncomputable def S.ref02_Div_L0_vcs (x : S.ref02_Div_L0) : Prop :=
  let b1 : Bool := decide (x.i ≥ 0)
  let x2 : S.ref02_Div_L2 := (⟨x.n, x.vby, x.left, x.i, 128, x.out⟩ : S.ref02_Div_L2)
  ((b1 = true → (All [Runs S.ref02_Div_L2_step S.ref02_Div_L2_vcs x2 (S.ref02_Div_L2_run x2)] ∧ True)) ∧ (b1 = false → True))
noncomputable def S.ref02_Div_L0_run (x : S.ref02_Div_L0) : S.ref02_Div_L0 := theRun (fun x => x) S.ref02_Div_L0_step S.ref02_Div_L0_vcs x
/-- sieveholesref02.Div -/
noncomputable def S.ref02_Div (n : (List Int)) (a1 : Int) : (List Int) × Int × Int :=
  let b1 : Bool := a1 == 0
  let t2 : Int := IntKind.i64.wrap ((n.length : Int) - 1)
  let x3 : S.ref02_Div_L0 := (⟨n, a1, 0, t2, (List.replicate (Int.toNat (n.length : Int)) (0 : Int))⟩ : S.ref02_Div_L0)
  let y4 : S.ref02_Div_L0 := S.ref02_Div_L0_run x3
  let r5 : (List Int) := S.ref01_Limbs y4.out
  let r6 : (List Int) := S.ref01_Of r5
  (bif b1 then (([] : List Int), 0, 2) else (r6, y4.left, 0))
def S.ref02_Div_pre (n : (List Int)) (a1 : Int) : Prop :=
  let b1 : Bool := a1 == 0
  let t2 : Int := IntKind.i64.wrap ((n.length : Int) - 1)
  let x3 : S.ref02_Div_L0 := (⟨n, a1, 0, t2, (List.replicate (Int.toNat (n.length : Int)) (0 : Int))⟩ : S.ref02_Div_L0)
  let y4 : S.ref02_Div_L0 := S.ref02_Div_L0_run x3
  let r5 : (List Int) := S.ref01_Limbs y4.out
  ((b1 = true → True) ∧ (b1 = false → (All [(0 : Int) ≤ (n.length : Int), (n.length : Int) = (n.length : Int), (n.length : Int) * 1 ≤ 140737488355328, Runs S.ref02_Div_L0_step S.ref02_Div_L0_vcs x3 (S.ref02_Div_L0_run x3), S.ref01_Limbs_pre y4.out, S.ref01_Of_pre r5] ∧ True)))
/-- sieveholesdocs.Nat -/
noncomputable def S.docs_Nat (n : S.Num) : (List Int) :=
  let r1 : (List Int) := S.nat_Nat_All n
  let r2 : (List Int) := S.ref01_Of r1
  r2
def S.docs_Nat_pre (n : S.Num) : Prop :=
  let r1 : (List Int) := S.nat_Nat_All n
  (All [S.nat_Nat_All_pre n, S.ref01_Of_pre r1] ∧ True)
@[ext] structure S.ref01_Cmp_L0 where
  a : (List Int)
  b : (List Int)
  t4 : Int
  i : Int
def S.ref01_Cmp_L0_step (x : S.ref01_Cmp_L0) : S.ref01_Cmp_L0 ⊕ (Bool × S.ref01_Cmp_L0) :=
  let b1 : Bool := decide (x.i ≥ 0)
  let e2 : Int := x.a.getD (Int.toNat x.i) 0
  let e3 : Int := x.b.getD (Int.toNat x.i) 0
  let b4 : Bool := decide (e2 < e3)
  let e5 : Int := x.a.getD (Int.toNat x.i) 0
  let e6 : Int := x.b.getD (Int.toNat x.i) 0
  let b7 : Bool := decide (e5 > e6)
  let t8 : Int := IntKind.i64.wrap (x.i - 1)
  (bif b1 then (bif b4 then (.inr ⟨true, ⟨x.a, x.b, (-1), x.i⟩⟩) else (bif b7 then (.inr ⟨true, ⟨x.a, x.b, 1, x.i⟩⟩) else (.inl ⟨x.a, x.b, x.t4, t8⟩))) else (.inr ⟨false, ⟨x.a, x.b, x.t4, x.i⟩⟩))
def S.ref01_Cmp_L0_vcs (x : S.ref01_Cmp_L0) : Prop :=
  let b1 : Bool := decide (x.i ≥ 0)
  let e2 : Int := x.a.getD (Int.toNat x.i) 0
  let e3 : Int := x.b.getD (Int.toNat x.i) 0
  let b4 : Bool := decide (e2 < e3)
  let e5 : Int := x.a.getD (Int.toNat x.i) 0
  let e6 : Int := x.b.getD (Int.toNat x.i) 0
  let b7 : Bool := decide (e5 > e6)
  ((b1 = true → (All [(0 : Int) ≤ x.i, x.i < (x.a.length : Int), (0 : Int) ≤ x.i, x.i < (x.b.length : Int)] ∧ ((b4 = true → True) ∧ (b4 = false → (All [(0 : Int) ≤ x.i, x.i < (x.a.length : Int), (0 : Int) ≤ x.i, x.i < (x.b.length : Int)] ∧ ((b7 = true → True) ∧ (b7 = false → True))))))) ∧ (b1 = false → True))
noncomputable def S.ref01_Cmp_L0_run (x : S.ref01_Cmp_L0) : Bool × S.ref01_Cmp_L0 := theRun (fun x => ⟨true, x⟩) S.ref01_Cmp_L0_step S.ref01_Cmp_L0_vcs x
/-- sieveholesref01.Cmp -/
noncomputable def S.ref01_Cmp (a : (List Int)) (b : (List Int)) : Int :=
  let b1 : Bool := (a.length : Int) != (b.length : Int)
  let b2 : Bool := decide ((a.length : Int) < (b.length : Int))
  let t3 : Int := IntKind.i64.wrap ((a.length : Int) - 1)
  let x4 : S.ref01_Cmp_L0 := (⟨a, b, 0, t3⟩ : S.ref01_Cmp_L0)
  let y5 : Bool × S.ref01_Cmp_L0 := S.ref01_Cmp_L0_run x4
  (bif b1 then (bif b2 then (-1) else 1) else (bif y5.1 then y5.2.t4 else 0))
def S.ref01_Cmp_pre (a : (List Int)) (b : (List Int)) : Prop :=
  let b1 : Bool := (a.length : Int) != (b.length : Int)
  let b2 : Bool := decide ((a.length : Int) < (b.length : Int))
  let t3 : Int := IntKind.i64.wrap ((a.length : Int) - 1)
  let x4 : S.ref01_Cmp_L0 := (⟨a, b, 0, t3⟩ : S.ref01_Cmp_L0)
  let y5 : Bool × S.ref01_Cmp_L0 := S.ref01_Cmp_L0_run x4
  ((b1 = true → ((b2 = true → True) ∧ (b2 = false → True))) ∧ (b1 = false → (All [Runs S.ref01_Cmp_L0_step S.ref01_Cmp_L0_vcs x4 (S.ref01_Cmp_L0_run x4)] ∧ ((y5.1 = true → True) ∧ (y5.1 = false → True)))))
/-- sieveholesdocs.SameNat -/
noncomputable def S.docs_SameNat (n : S.Num) (r : (List Int)) : Bool :=
  let r1 : (List Int) := S.docs_Nat n
  let r2 : Int := S.ref01_Cmp r1 r
  let b3 : Bool := r2 == 0
  b3
def S.docs_SameNat_pre (n : S.Num) (r : (List Int)) : Prop :=
  let r1 : (List Int) := S.docs_Nat n
  (All [S.docs_Nat_pre n, S.ref01_Cmp_pre r1 r] ∧ True)
@[ext] structure S.law02_DeciDivides_L0 where
  vby : Int
  t4 : Bool
  r : (List Int)
  want : (List Int)
  left : Int
  f : Int
  t : Int
  n : S.Num
noncomputable def S.law02_DeciDivides_L0_step (x : S.law02_DeciDivides_L0) : S.law02_DeciDivides_L0 ⊕ (Bool × S.law02_DeciDivides_L0) :=
  let b1 : Bool := decide (x.t < 2)
  let r2 : S.Num × Int × Int := S.deci_Div x.n x.vby
  let b3 : Bool := r2.2.2 != x.f
  let b4 : Bool := r2.2.1 != x.left
  let p5 : Bool := (b3 || b4)
  let r6 : Bool := S.docs_SameNat r2.1 x.want
  let b7 : Bool := !r6
  let p8 : Bool := (p5 || b7)
  let r9 : Bool := S.docs_SameNat x.n x.r
  let b10 : Bool := !r9
  let p11 : Bool := (p8 || b10)
  let t12 : Int := IntKind.i64.wrap (x.t + 1)
  (bif b1 then (bif p11 then (.inr ⟨true, ⟨x.vby, false, x.r, x.want, x.left, x.f, x.t, x.n⟩⟩) else (.inl ⟨x.vby, x.t4, x.r, x.want, x.left, x.f, t12, x.n⟩)) else (.inr ⟨false, ⟨x.vby, x.t4, x.r, x.want, x.left, x.f, x.t, x.n⟩⟩))
noncomputable def S.law02_DeciDivides_L0_vcs (x : S.law02_DeciDivides_L0) : Prop :=
  let b1 : Bool := decide (x.t < 2)
  let r2 : S.Num × Int × Int := S.deci_Div x.n x.vby
  let b3 : Bool := r2.2.2 != x.f
  let b4 : Bool := r2.2.1 != x.left
  let p5 : Bool := (b3 || b4)
  let r6 : Bool := S.docs_SameNat r2.1 x.want
  let b7 : Bool := !r6
  let p8 : Bool := (p5 || b7)
  let r9 : Bool := S.docs_SameNat x.n x.r
  let b10 : Bool := !r9
  let p11 : Bool := (p8 || b10)
  ((b1 = true → (All [S.deci_Div_pre x.n x.vby, (p5 = false → S.docs_SameNat_pre r2.1 x.want), (p8 = false → S.docs_SameNat_pre x.n x.r)] ∧ ((p11 = true → True) ∧ (p11 = false → True)))) ∧ (b1 = false → True))
noncomputable def S.law02_DeciDivides_L0_run (x : S.law02_DeciDivides_L0) : Bool × S.law02_DeciDivides_L0 := theRun (fun x => ⟨true, x⟩) S.law02_DeciDivides_L0_step S.law02_DeciDivides_L0_vcs x
/-- sieveholeslaw02.DeciDivides -/
noncomputable def S.law02_DeciDivides (l : (List Int)) (a1 : Int) : Bool :=
  let b1 : Bool := decide ((l.length : Int) > 12)
  let r2 : Bool := S.law02_works
  let r3 : (List Int) := S.law02_own l
  let r4 : S.Num := S.nat_Limbs r3
  let r5 : (List Int) := S.ref01_Of l
  let r6 : (List Int) × Int × Int := S.ref02_Div r5 a1
  let x7 : S.law02_DeciDivides_L0 := (⟨a1, false, r5, r6.1, r6.2.1, r6.2.2, 0, r4⟩ : S.law02_DeciDivides_L0)
  let y8 : Bool × S.law02_DeciDivides_L0 := S.law02_DeciDivides_L0_run x7
  let r9 : Bool := S.law02_works
  (bif b1 then r2 else (bif y8.1 then y8.2.t4 else r9))
def S.law02_DeciDivides_pre (l : (List Int)) (a1 : Int) : Prop :=
  let b1 : Bool := decide ((l.length : Int) > 12)
  let r3 : (List Int) := S.law02_own l
  let r4 : S.Num := S.nat_Limbs r3
  let r5 : (List Int) := S.ref01_Of l
  let r6 : (List Int) × Int × Int := S.ref02_Div r5 a1
  let x7 : S.law02_DeciDivides_L0 := (⟨a1, false, r5, r6.1, r6.2.1, r6.2.2, 0, r4⟩ : S.law02_DeciDivides_L0)
  let y8 : Bool × S.law02_DeciDivides_L0 := S.law02_DeciDivides_L0_run x7
  ((b1 = true → (All [S.law02_works_pre] ∧ True)) ∧ (b1 = false → (All [S.law02_own_pre l, S.nat_Limbs_pre r3, S.ref01_Of_pre l, S.ref02_Div_pre r5 a1, Runs S.law02_DeciDivides_L0_step S.law02_DeciDivides_L0_vcs x7 (S.law02_DeciDivides_L0_run x7)] ∧ ((y8.1 = true → True) ∧ (y8.1 = false → (All [S.law02_works_pre] ∧ True))))))
/-- sieveholesref02.Text -/
noncomputable def S.ref02_Text_F : Nat → (List Int) → ByteArray
  | 0, _ => (⟨#[]⟩ : ByteArray)
  | n + 1, a0 =>
  let b1 : Bool := (a0.length : Int) == 0
  let r2 : (List Int) × Int × Int := S.ref02_Div a0 10
  let b3 : Bool := (r2.1.length : Int) == 0
  let t4 : Int := IntKind.u64.wrap (48 + r2.2.1)
  let t5 : Int := IntKind.u8.wrap t4
  let s6 : ByteArray := ([t5] : List Int).foldl (fun r n => r.push (UInt8.ofNat (Int.toNat n))) ByteArray.empty
  let r7 : ByteArray := S.ref02_Text_F n r2.1
  let t8 : Int := IntKind.u64.wrap (48 + r2.2.1)
  let t9 : Int := IntKind.u8.wrap t8
  let s10 : ByteArray := ([t9] : List Int).foldl (fun r n => r.push (UInt8.ofNat (Int.toNat n))) ByteArray.empty
  let s11 : ByteArray := r7 ++ s10
  (bif b1 then (⟨#[48]⟩ : ByteArray) else (bif b3 then s6 else s11))
def S.ref02_Text_D : Nat → (List Int) → Prop
  | 0, _ => False
  | n + 1, a0 =>
  let b1 : Bool := (a0.length : Int) == 0
  let r2 : (List Int) × Int × Int := S.ref02_Div a0 10
  let b3 : Bool := (r2.1.length : Int) == 0
  let r7 : ByteArray := S.ref02_Text_F n r2.1
  let t8 : Int := IntKind.u64.wrap (48 + r2.2.1)
  let t9 : Int := IntKind.u8.wrap t8
  let s10 : ByteArray := ([t9] : List Int).foldl (fun r n => r.push (UInt8.ofNat (Int.toNat n))) ByteArray.empty
  ((b1 = true → True) ∧ (b1 = false → (All [S.ref02_Div_pre a0 10] ∧ ((b3 = true → True) ∧ (b3 = false → (All [S.ref02_Text_D n r2.1, ((r7.size + s10.size : Nat) : Int) ≤ IntKind.i64.max] ∧ True))))))
noncomputable def S.ref02_Text (a0 : (List Int)) : ByteArray := S.ref02_Text_F (Classical.epsilon fun n => S.ref02_Text_D n a0) a0
def S.ref02_Text_pre (a0 : (List Int)) : Prop := ∃ n, S.ref02_Text_D n a0
/-- sieveholesref02.Whole -/
noncomputable def S.ref02_Whole (n : Int) : ByteArray :=
  let b1 : Bool := decide (n < 0)
  let t2 : Int := IntKind.i64.wrap (0 - n)
  let t3 : Int := IntKind.u64.wrap t2
  let r4 : (List Int) := S.ref01_Of ([t3] : List Int)
  let r5 : ByteArray := S.ref02_Text r4
  let s6 : ByteArray := (⟨#[45]⟩ : ByteArray) ++ r5
  let t7 : Int := IntKind.u64.wrap n
  let r8 : (List Int) := S.ref01_Of ([t7] : List Int)
  let r9 : ByteArray := S.ref02_Text r8
  (bif b1 then s6 else r9)
def S.ref02_Whole_pre (n : Int) : Prop :=
  let b1 : Bool := decide (n < 0)
  let t2 : Int := IntKind.i64.wrap (0 - n)
  let t3 : Int := IntKind.u64.wrap t2
  let r4 : (List Int) := S.ref01_Of ([t3] : List Int)
  let r5 : ByteArray := S.ref02_Text r4
  let t7 : Int := IntKind.u64.wrap n
  let r8 : (List Int) := S.ref01_Of ([t7] : List Int)
  ((b1 = true → (All [S.ref01_Of_pre ([t3] : List Int), S.ref02_Text_pre r4, (((⟨#[45]⟩ : ByteArray).size + r5.size : Nat) : Int) ≤ IntKind.i64.max] ∧ True)) ∧ (b1 = false → (All [S.ref01_Of_pre ([t7] : List Int), S.ref02_Text_pre r8] ∧ True)))
/-- sieveholeslaw02.DeciTexts -/
noncomputable def S.law02_DeciTexts (l : (List Int)) (n : Int) : Bool :=
  let b1 : Bool := decide ((l.length : Int) > 6)
  let r2 : Bool := S.law02_works
  let r3 : (List Int) := S.law02_own l
  let r4 : S.Num := S.nat_Limbs r3
  let r5 : (List Int) := S.ref01_Of l
  let r6 : ByteArray := S.ref02_Text r5
  let r7 : ByteArray := S.deci_Text r4
  let b8 : Bool := (r7.toList == r6.toList)
  let r9 : Int := S.deci_Digits r4
  let b10 : Bool := r9 == (r6.size : Int)
  let p11 : Bool := (b8 && b10)
  let r12 : ByteArray := S.deci_Whole n
  let r13 : ByteArray := S.ref02_Whole n
  let b14 : Bool := (r12.toList == r13.toList)
  let p15 : Bool := (p11 && b14)
  let r16 : Bool := S.law02_works
  let p17 : Bool := (p15 && r16)
  (bif b1 then r2 else p17)
def S.law02_DeciTexts_pre (l : (List Int)) (n : Int) : Prop :=
  let b1 : Bool := decide ((l.length : Int) > 6)
  let r3 : (List Int) := S.law02_own l
  let r4 : S.Num := S.nat_Limbs r3
  let r5 : (List Int) := S.ref01_Of l
  let r6 : ByteArray := S.ref02_Text r5
  let r7 : ByteArray := S.deci_Text r4
  let b8 : Bool := (r7.toList == r6.toList)
  let r9 : Int := S.deci_Digits r4
  let b10 : Bool := r9 == (r6.size : Int)
  let p11 : Bool := (b8 && b10)
  let r12 : ByteArray := S.deci_Whole n
  let r13 : ByteArray := S.ref02_Whole n
  let b14 : Bool := (r12.toList == r13.toList)
  let p15 : Bool := (p11 && b14)
  ((b1 = true → (All [S.law02_works_pre] ∧ True)) ∧ (b1 = false → (All [S.law02_own_pre l, S.nat_Limbs_pre r3, S.ref01_Of_pre l, S.ref02_Text_pre r5, S.deci_Text_pre r4, (b8 = true → S.deci_Digits_pre r4), (p11 = true → S.deci_Whole_pre n), (p11 = true → S.ref02_Whole_pre n), (p15 = true → S.law02_works_pre)] ∧ True)))
@[ext] structure S.ref01_Mul_L2 where
  a : (List Int)
  b : (List Int)
  i : Int
  k : Int
  sums : (List Int)
def S.ref01_Mul_L2_step (x : S.ref01_Mul_L2) : S.ref01_Mul_L2 ⊕ (S.ref01_Mul_L2) :=
  let b1 : Bool := decide (x.k < (x.b.length : Int))
  let t2 : Int := IntKind.i64.wrap (x.i + x.k)
  let e3 : Int := x.sums.getD (Int.toNat t2) 0
  let e4 : Int := x.a.getD (Int.toNat x.i) 0
  let t5 : Int := IntKind.i64.wrap e4
  let e6 : Int := x.b.getD (Int.toNat x.k) 0
  let t7 : Int := IntKind.i64.wrap e6
  let t8 : Int := IntKind.i64.wrap (t5 * t7)
  let t9 : Int := IntKind.i64.wrap (e3 + t8)
  let t10 : Int := IntKind.i64.wrap (x.i + x.k)
  let t11 : Int := Int.tmod t9 256
  let l12 : List Int := x.sums.set (Int.toNat t10) t11
  let t13 : Int := IntKind.i64.wrap (x.i + x.k)
  let t14 : Int := IntKind.i64.wrap (t13 + 1)
  let t15 : Int := IntKind.i64.wrap (x.i + x.k)
  let t16 : Int := IntKind.i64.wrap (t15 + 1)
  let e17 : Int := l12.getD (Int.toNat t16) 0
  let t18 : Int := IntKind.i64.wrap (Int.tdiv t9 256)
  let t19 : Int := IntKind.i64.wrap (e17 + t18)
  let l20 : List Int := l12.set (Int.toNat t14) t19
  let t21 : Int := IntKind.i64.wrap (x.k + 1)
  (bif b1 then (.inl ⟨x.a, x.b, x.i, t21, l20⟩) else (.inr ⟨x.a, x.b, x.i, x.k, x.sums⟩))
def S.ref01_Mul_L2_vcs (x : S.ref01_Mul_L2) : Prop :=
  let b1 : Bool := decide (x.k < (x.b.length : Int))
  let t2 : Int := IntKind.i64.wrap (x.i + x.k)
  let e3 : Int := x.sums.getD (Int.toNat t2) 0
  let e4 : Int := x.a.getD (Int.toNat x.i) 0
  let t5 : Int := IntKind.i64.wrap e4
  let e6 : Int := x.b.getD (Int.toNat x.k) 0
  let t7 : Int := IntKind.i64.wrap e6
  let t8 : Int := IntKind.i64.wrap (t5 * t7)
  let t9 : Int := IntKind.i64.wrap (e3 + t8)
  let t10 : Int := IntKind.i64.wrap (x.i + x.k)
  let t11 : Int := Int.tmod t9 256
  let l12 : List Int := x.sums.set (Int.toNat t10) t11
  let t13 : Int := IntKind.i64.wrap (x.i + x.k)
  let t14 : Int := IntKind.i64.wrap (t13 + 1)
  let t15 : Int := IntKind.i64.wrap (x.i + x.k)
  let t16 : Int := IntKind.i64.wrap (t15 + 1)
  ((b1 = true → (All [(0 : Int) ≤ t2, t2 < (x.sums.length : Int), (0 : Int) ≤ x.i, x.i < (x.a.length : Int), (0 : Int) ≤ x.k, x.k < (x.b.length : Int), (0 : Int) ≤ t10, t10 < (x.sums.length : Int), (0 : Int) ≤ t16, t16 < (l12.length : Int), (0 : Int) ≤ t14, t14 < (l12.length : Int)] ∧ True)) ∧ (b1 = false → True))
noncomputable def S.ref01_Mul_L2_run (x : S.ref01_Mul_L2) : S.ref01_Mul_L2 := theRun (fun x => x) S.ref01_Mul_L2_step S.ref01_Mul_L2_vcs x
@[ext] structure S.ref01_Mul_L0 where
  a : (List Int)
  b : (List Int)
  i : Int
  sums : (List Int)
noncomputable def S.ref01_Mul_L0_step (x : S.ref01_Mul_L0) : S.ref01_Mul_L0 ⊕ (S.ref01_Mul_L0) :=
  let b1 : Bool := decide (x.i < (x.a.length : Int))
  let x2 : S.ref01_Mul_L2 := (⟨x.a, x.b, x.i, 0, x.sums⟩ : S.ref01_Mul_L2)
  let y3 : S.ref01_Mul_L2 := S.ref01_Mul_L2_run x2
  let t4 : Int := IntKind.i64.wrap (y3.i + 1)
  (bif b1 then (.inl ⟨y3.a, y3.b, t4, y3.sums⟩) else (.inr ⟨x.a, x.b, x.i, x.sums⟩))
noncomputable def S.ref01_Mul_L0_vcs (x : S.ref01_Mul_L0) : Prop :=
  let b1 : Bool := decide (x.i < (x.a.length : Int))
  let x2 : S.ref01_Mul_L2 := (⟨x.a, x.b, x.i, 0, x.sums⟩ : S.ref01_Mul_L2)
  ((b1 = true → (All [Runs S.ref01_Mul_L2_step S.ref01_Mul_L2_vcs x2 (S.ref01_Mul_L2_run x2)] ∧ True)) ∧ (b1 = false → True))
noncomputable def S.ref01_Mul_L0_run (x : S.ref01_Mul_L0) : S.ref01_Mul_L0 := theRun (fun x => x) S.ref01_Mul_L0_step S.ref01_Mul_L0_vcs x
@[ext] structure S.ref01_Mul_L4 where
  carry : Int
  i : Int
  sums : (List Int)
  out : (List Int)
def S.ref01_Mul_L4_step (x : S.ref01_Mul_L4) : S.ref01_Mul_L4 ⊕ (S.ref01_Mul_L4) :=
  let b1 : Bool := decide (x.i < (x.sums.length : Int))
  let e2 : Int := x.sums.getD (Int.toNat x.i) 0
  let t3 : Int := IntKind.i64.wrap (e2 + x.carry)
  let t4 : Int := Int.tmod t3 256
  let t5 : Int := IntKind.u8.wrap t4
  let l6 : List Int := x.out ++ ([t5] : List Int)
  let t7 : Int := IntKind.i64.wrap (Int.tdiv t3 256)
  let t8 : Int := IntKind.i64.wrap (x.i + 1)
  (bif b1 then (.inl ⟨t7, t8, x.sums, l6⟩) else (.inr ⟨x.carry, x.i, x.sums, x.out⟩))
def S.ref01_Mul_L4_vcs (x : S.ref01_Mul_L4) : Prop :=
  let b1 : Bool := decide (x.i < (x.sums.length : Int))
  let e2 : Int := x.sums.getD (Int.toNat x.i) 0
  let t3 : Int := IntKind.i64.wrap (e2 + x.carry)
  let t4 : Int := Int.tmod t3 256
  let t5 : Int := IntKind.u8.wrap t4
  ((b1 = true → (All [(0 : Int) ≤ x.i, x.i < (x.sums.length : Int), ((x.out.length + ([t5] : List Int).length : Nat) : Int) * 1 ≤ 140737488355328] ∧ True)) ∧ (b1 = false → True))
noncomputable def S.ref01_Mul_L4_run (x : S.ref01_Mul_L4) : S.ref01_Mul_L4 := theRun (fun x => x) S.ref01_Mul_L4_step S.ref01_Mul_L4_vcs x
@[ext] structure S.ref01_Mul_L6 where
  carry : Int
  out : (List Int)
def S.ref01_Mul_L6_step (x : S.ref01_Mul_L6) : S.ref01_Mul_L6 ⊕ (S.ref01_Mul_L6) :=
  let b1 : Bool := decide (x.carry > 0)
  let t2 : Int := Int.tmod x.carry 256
  let t3 : Int := IntKind.u8.wrap t2
  let l4 : List Int := x.out ++ ([t3] : List Int)
  let t5 : Int := IntKind.i64.wrap (Int.tdiv x.carry 256)
  (bif b1 then (.inl ⟨t5, l4⟩) else (.inr ⟨x.carry, x.out⟩))
def S.ref01_Mul_L6_vcs (x : S.ref01_Mul_L6) : Prop :=
  let b1 : Bool := decide (x.carry > 0)
  let t2 : Int := Int.tmod x.carry 256
  let t3 : Int := IntKind.u8.wrap t2
  ((b1 = true → (All [((x.out.length + ([t3] : List Int).length : Nat) : Int) * 1 ≤ 140737488355328] ∧ True)) ∧ (b1 = false → True))
noncomputable def S.ref01_Mul_L6_run (x : S.ref01_Mul_L6) : S.ref01_Mul_L6 := theRun (fun x => x) S.ref01_Mul_L6_step S.ref01_Mul_L6_vcs x
/-- sieveholesref01.Mul -/
noncomputable def S.ref01_Mul (a : (List Int)) (b : (List Int)) : (List Int) :=
  let t1 : Int := IntKind.i64.wrap ((a.length : Int) + (b.length : Int))
  let t2 : Int := IntKind.i64.wrap (t1 + 1)
  let x3 : S.ref01_Mul_L0 := (⟨a, b, 0, (List.replicate (Int.toNat t2) (0 : Int))⟩ : S.ref01_Mul_L0)
  let y4 : S.ref01_Mul_L0 := S.ref01_Mul_L0_run x3
  let x5 : S.ref01_Mul_L4 := (⟨0, 0, y4.sums, ([] : List Int)⟩ : S.ref01_Mul_L4)
  let y6 : S.ref01_Mul_L4 := S.ref01_Mul_L4_run x5
  let x7 : S.ref01_Mul_L6 := (⟨y6.carry, y6.out⟩ : S.ref01_Mul_L6)
  let y8 : S.ref01_Mul_L6 := S.ref01_Mul_L6_run x7
  let r9 : (List Int) := S.ref01_trim y8.out
  r9
def S.ref01_Mul_pre (a : (List Int)) (b : (List Int)) : Prop :=
  let t1 : Int := IntKind.i64.wrap ((a.length : Int) + (b.length : Int))
  let t2 : Int := IntKind.i64.wrap (t1 + 1)
  let x3 : S.ref01_Mul_L0 := (⟨a, b, 0, (List.replicate (Int.toNat t2) (0 : Int))⟩ : S.ref01_Mul_L0)
  let y4 : S.ref01_Mul_L0 := S.ref01_Mul_L0_run x3
  let x5 : S.ref01_Mul_L4 := (⟨0, 0, y4.sums, ([] : List Int)⟩ : S.ref01_Mul_L4)
  let y6 : S.ref01_Mul_L4 := S.ref01_Mul_L4_run x5
  let x7 : S.ref01_Mul_L6 := (⟨y6.carry, y6.out⟩ : S.ref01_Mul_L6)
  let y8 : S.ref01_Mul_L6 := S.ref01_Mul_L6_run x7
  (All [(0 : Int) ≤ t2, t2 = t2, t2 * 8 ≤ 140737488355328, Runs S.ref01_Mul_L0_step S.ref01_Mul_L0_vcs x3 (S.ref01_Mul_L0_run x3), Runs S.ref01_Mul_L4_step S.ref01_Mul_L4_vcs x5 (S.ref01_Mul_L4_run x5), Runs S.ref01_Mul_L6_step S.ref01_Mul_L6_vcs x7 (S.ref01_Mul_L6_run x7), S.ref01_trim_pre y8.out] ∧ True)
/-- sieveholesref01.at -/
def S.ref01_at (n : (List Int)) (i : Int) : Int :=
  let b1 : Bool := decide (i < (n.length : Int))
  let e2 : Int := n.getD (Int.toNat i) 0
  let t3 : Int := IntKind.i64.wrap e2
  (bif b1 then t3 else 0)
def S.ref01_at_pre (n : (List Int)) (i : Int) : Prop :=
  let b1 : Bool := decide (i < (n.length : Int))
  ((b1 = true → (All [(0 : Int) ≤ i, i < (n.length : Int)] ∧ True)) ∧ (b1 = false → True))
@[ext] structure S.ref01_Add_L0 where
  a : (List Int)
  b : (List Int)
  carry : Int
  i : Int
  out : (List Int)
def S.ref01_Add_L0_step (x : S.ref01_Add_L0) : S.ref01_Add_L0 ⊕ (S.ref01_Add_L0) :=
  let b1 : Bool := decide (x.i < (x.a.length : Int))
  let b2 : Bool := decide (x.i < (x.b.length : Int))
  let p3 : Bool := (b1 || b2)
  let b4 : Bool := decide (x.carry > 0)
  let p5 : Bool := (p3 || b4)
  let r6 : Int := S.ref01_at x.a x.i
  let r7 : Int := S.ref01_at x.b x.i
  let t8 : Int := IntKind.i64.wrap (r6 + r7)
  let t9 : Int := IntKind.i64.wrap (t8 + x.carry)
  let t10 : Int := Int.tmod t9 256
  let t11 : Int := IntKind.u8.wrap t10
  let l12 : List Int := x.out ++ ([t11] : List Int)
  let t13 : Int := IntKind.i64.wrap (Int.tdiv t9 256)
  let t14 : Int := IntKind.i64.wrap (x.i + 1)
  (bif p5 then (.inl ⟨x.a, x.b, t13, t14, l12⟩) else (.inr ⟨x.a, x.b, x.carry, x.i, x.out⟩))
def S.ref01_Add_L0_vcs (x : S.ref01_Add_L0) : Prop :=
  let b1 : Bool := decide (x.i < (x.a.length : Int))
  let b2 : Bool := decide (x.i < (x.b.length : Int))
  let p3 : Bool := (b1 || b2)
  let b4 : Bool := decide (x.carry > 0)
  let p5 : Bool := (p3 || b4)
  let r6 : Int := S.ref01_at x.a x.i
  let r7 : Int := S.ref01_at x.b x.i
  let t8 : Int := IntKind.i64.wrap (r6 + r7)
  let t9 : Int := IntKind.i64.wrap (t8 + x.carry)
  let t10 : Int := Int.tmod t9 256
  let t11 : Int := IntKind.u8.wrap t10
  ((p5 = true → (All [S.ref01_at_pre x.a x.i, S.ref01_at_pre x.b x.i, ((x.out.length + ([t11] : List Int).length : Nat) : Int) * 1 ≤ 140737488355328] ∧ True)) ∧ (p5 = false → True))
noncomputable def S.ref01_Add_L0_run (x : S.ref01_Add_L0) : S.ref01_Add_L0 := theRun (fun x => x) S.ref01_Add_L0_step S.ref01_Add_L0_vcs x
/-- sieveholesref01.Add -/
noncomputable def S.ref01_Add (a : (List Int)) (b : (List Int)) : (List Int) :=
  let x1 : S.ref01_Add_L0 := (⟨a, b, 0, 0, ([] : List Int)⟩ : S.ref01_Add_L0)
  let y2 : S.ref01_Add_L0 := S.ref01_Add_L0_run x1
  let r3 : (List Int) := S.ref01_trim y2.out
  r3
def S.ref01_Add_pre (a : (List Int)) (b : (List Int)) : Prop :=
  let x1 : S.ref01_Add_L0 := (⟨a, b, 0, 0, ([] : List Int)⟩ : S.ref01_Add_L0)
  let y2 : S.ref01_Add_L0 := S.ref01_Add_L0_run x1
  (All [Runs S.ref01_Add_L0_step S.ref01_Add_L0_vcs x1 (S.ref01_Add_L0_run x1), S.ref01_trim_pre y2.out] ∧ True)
@[ext] structure S.ref02_Number_L0 where
  s : ByteArray
  t2 : (List Int)
  t3 : Bool
  out : (List Int)
  i : Int
noncomputable def S.ref02_Number_L0_step (x : S.ref02_Number_L0) : S.ref02_Number_L0 ⊕ (Bool × S.ref02_Number_L0) :=
  let b1 : Bool := decide (x.i < (x.s.size : Int))
  let t2 : Int := ((x.s.data.toList.getD (Int.toNat x.i) 0).toNat : Int)
  let b3 : Bool := decide (t2 < 48)
  let t4 : Int := ((x.s.data.toList.getD (Int.toNat x.i) 0).toNat : Int)
  let b5 : Bool := decide (t4 > 57)
  let p6 : Bool := (b3 || b5)
  let r7 : (List Int) := S.ref01_Mul x.out ([10] : List Int)
  let t8 : Int := ((x.s.data.toList.getD (Int.toNat x.i) 0).toNat : Int)
  let t9 : Int := IntKind.u8.wrap (t8 - 48)
  let t10 : Int := IntKind.u64.wrap t9
  let r11 : (List Int) := S.ref01_Of ([t10] : List Int)
  let r12 : (List Int) := S.ref01_Add r7 r11
  let t13 : Int := IntKind.i64.wrap (x.i + 1)
  (bif b1 then (bif p6 then (.inr ⟨true, ⟨x.s, ([] : List Int), false, x.out, x.i⟩⟩) else (.inl ⟨x.s, x.t2, x.t3, r12, t13⟩)) else (.inr ⟨false, ⟨x.s, x.t2, x.t3, x.out, x.i⟩⟩))
noncomputable def S.ref02_Number_L0_vcs (x : S.ref02_Number_L0) : Prop :=
  let b1 : Bool := decide (x.i < (x.s.size : Int))
  let t2 : Int := ((x.s.data.toList.getD (Int.toNat x.i) 0).toNat : Int)
  let b3 : Bool := decide (t2 < 48)
  let t4 : Int := ((x.s.data.toList.getD (Int.toNat x.i) 0).toNat : Int)
  let b5 : Bool := decide (t4 > 57)
  let p6 : Bool := (b3 || b5)
  let r7 : (List Int) := S.ref01_Mul x.out ([10] : List Int)
  let t8 : Int := ((x.s.data.toList.getD (Int.toNat x.i) 0).toNat : Int)
  let t9 : Int := IntKind.u8.wrap (t8 - 48)
  let t10 : Int := IntKind.u64.wrap t9
  let r11 : (List Int) := S.ref01_Of ([t10] : List Int)
  ((b1 = true → (All [(0 : Int) ≤ x.i, x.i < (x.s.size : Int), (b3 = false → ((0 : Int) ≤ x.i ∧ x.i < (x.s.size : Int)))] ∧ ((p6 = true → True) ∧ (p6 = false → (All [S.ref01_Mul_pre x.out ([10] : List Int), (0 : Int) ≤ x.i, x.i < (x.s.size : Int), S.ref01_Of_pre ([t10] : List Int), S.ref01_Add_pre r7 r11] ∧ True))))) ∧ (b1 = false → True))
noncomputable def S.ref02_Number_L0_run (x : S.ref02_Number_L0) : Bool × S.ref02_Number_L0 := theRun (fun x => ⟨true, x⟩) S.ref02_Number_L0_step S.ref02_Number_L0_vcs x
/-- sieveholesref02.Number -/
noncomputable def S.ref02_Number (s : ByteArray) : (List Int) × Bool :=
  let x1 : S.ref02_Number_L0 := (⟨s, ([] : List Int), false, ([] : List Int), 0⟩ : S.ref02_Number_L0)
  let y2 : Bool × S.ref02_Number_L0 := S.ref02_Number_L0_run x1
  let b3 : Bool := !(y2.2.s.toList == (⟨#[]⟩ : ByteArray).toList)
  let r4 : ByteArray := S.ref02_Text y2.2.out
  let b5 : Bool := (r4.toList == y2.2.s.toList)
  let p6 : Bool := (b3 && b5)
  (bif y2.1 then (y2.2.t2, y2.2.t3) else (y2.2.out, p6))
def S.ref02_Number_pre (s : ByteArray) : Prop :=
  let x1 : S.ref02_Number_L0 := (⟨s, ([] : List Int), false, ([] : List Int), 0⟩ : S.ref02_Number_L0)
  let y2 : Bool × S.ref02_Number_L0 := S.ref02_Number_L0_run x1
  let b3 : Bool := !(y2.2.s.toList == (⟨#[]⟩ : ByteArray).toList)
  (All [Runs S.ref02_Number_L0_step S.ref02_Number_L0_vcs x1 (S.ref02_Number_L0_run x1)] ∧ ((y2.1 = true → True) ∧ (y2.1 = false → (All [(b3 = true → S.ref02_Text_pre y2.2.out)] ∧ True))))
/-- sieveholesref01.Fits -/
noncomputable def S.ref01_Fits (n : (List Int)) (limbs : Int) : Bool :=
  let r1 : (List Int) := S.ref01_Limbs n
  let m2 : Int := if limbs > 0 then limbs else 0
  let b3 : Bool := decide ((r1.length : Int) ≤ m2)
  b3
def S.ref01_Fits_pre (n : (List Int)) (limbs : Int) : Prop :=
  (All [S.ref01_Limbs_pre n] ∧ True)
/-- sieveholesref02.Parse -/
noncomputable def S.ref02_Parse (s : ByteArray) (limbs : Int) : (List Int) × Int :=
  let r1 : (List Int) × Bool := S.ref02_Number s
  let b2 : Bool := !r1.2
  let r3 : Bool := S.ref01_Fits r1.1 limbs
  let b4 : Bool := !r3
  (bif b2 then (([] : List Int), 20) else (bif b4 then (([] : List Int), 10) else (r1.1, 0)))
def S.ref02_Parse_pre (s : ByteArray) (limbs : Int) : Prop :=
  let r1 : (List Int) × Bool := S.ref02_Number s
  let b2 : Bool := !r1.2
  let r3 : Bool := S.ref01_Fits r1.1 limbs
  let b4 : Bool := !r3
  (All [S.ref02_Number_pre s] ∧ ((b2 = true → True) ∧ (b2 = false → (All [S.ref01_Fits_pre r1.1 limbs] ∧ ((b4 = true → True) ∧ (b4 = false → True))))))
/-- sieveholesref02.ParseWhole -/
noncomputable def S.ref02_ParseWhole (s : ByteArray) : Int × Int :=
  let b1 : Bool := !(s.toList == (⟨#[]⟩ : ByteArray).toList)
  let t2 : Int := ((s.data.toList.getD (Int.toNat 0) 0).toNat : Int)
  let b3 : Bool := t2 == 45
  let p4 : Bool := (b1 && b3)
  let s5 : ByteArray := s.extract (Int.toNat 1) (Int.toNat (s.size : Int))
  let r6 : (List Int) × Bool := S.ref02_Number (bif p4 then s5 else s)
  let r7 : (List Int) := S.ref01_Limbs r6.1
  let b8 : Bool := !r6.2
  let b9 : Bool := decide ((r7.length : Int) > 1)
  let p10 : Bool := (b8 || b9)
  let b11 : Bool := (r7.length : Int) == 1
  let e12 : Int := r7.getD (Int.toNat 0) 0
  let t13 : Int := IntKind.i64.wrap (bif b11 then e12 else 0)
  let t14 : Int := IntKind.i64.wrap (0 - t13)
  let r15 : ByteArray := S.ref02_Whole (bif p4 then t14 else t13)
  let b16 : Bool := !(r15.toList == s.toList)
  (bif p10 then (0, 20) else (bif b16 then (0, 20) else ((bif p4 then t14 else t13), 0)))
def S.ref02_ParseWhole_pre (s : ByteArray) : Prop :=
  let b1 : Bool := !(s.toList == (⟨#[]⟩ : ByteArray).toList)
  let t2 : Int := ((s.data.toList.getD (Int.toNat 0) 0).toNat : Int)
  let b3 : Bool := t2 == 45
  let p4 : Bool := (b1 && b3)
  let s5 : ByteArray := s.extract (Int.toNat 1) (Int.toNat (s.size : Int))
  let r6 : (List Int) × Bool := S.ref02_Number (bif p4 then s5 else s)
  let r7 : (List Int) := S.ref01_Limbs r6.1
  let b8 : Bool := !r6.2
  let b9 : Bool := decide ((r7.length : Int) > 1)
  let p10 : Bool := (b8 || b9)
  let b11 : Bool := (r7.length : Int) == 1
  let e12 : Int := r7.getD (Int.toNat 0) 0
  let t13 : Int := IntKind.i64.wrap (bif b11 then e12 else 0)
  let t14 : Int := IntKind.i64.wrap (0 - t13)
  let r15 : ByteArray := S.ref02_Whole (bif p4 then t14 else t13)
  let b16 : Bool := !(r15.toList == s.toList)
  (All [(b1 = true → ((0 : Int) ≤ 0 ∧ 0 < (s.size : Int))), (p4 = true → ((0 : Int) ≤ 1 ∧ (1 : Int) ≤ (s.size : Int) ∧ (s.size : Int) ≤ (s.size : Int))), S.ref02_Number_pre (bif p4 then s5 else s), S.ref01_Limbs_pre r6.1] ∧ ((p10 = true → True) ∧ (p10 = false → (All [(b11 = true → ((0 : Int) ≤ 0 ∧ 0 < (r7.length : Int))), S.ref02_Whole_pre (bif p4 then t14 else t13)] ∧ ((b16 = true → True) ∧ (b16 = false → True))))))
/-- sieveholeslaw02.DeciReads -/
noncomputable def S.law02_DeciReads (s : ByteArray) (limbs : Int) : Bool :=
  let b1 : Bool := decide ((s.size : Int) > 60)
  let r2 : Bool := S.law02_works
  let r3 : S.Num × Int := S.deci_Parse s limbs
  let r4 : (List Int) × Int := S.ref02_Parse s limbs
  let r5 : Int × Int := S.deci_ParseWhole s
  let r6 : Int × Int := S.ref02_ParseWhole s
  let b7 : Bool := r3.2 == r4.2
  let r8 : Bool := S.docs_SameNat r3.1 r4.1
  let p9 : Bool := (b7 && r8)
  let b10 : Bool := r5.1 == r6.1
  let p11 : Bool := (p9 && b10)
  let b12 : Bool := r5.2 == r6.2
  let p13 : Bool := (p11 && b12)
  let r14 : Bool := S.law02_works
  let p15 : Bool := (p13 && r14)
  (bif b1 then r2 else p15)
def S.law02_DeciReads_pre (s : ByteArray) (limbs : Int) : Prop :=
  let b1 : Bool := decide ((s.size : Int) > 60)
  let r3 : S.Num × Int := S.deci_Parse s limbs
  let r4 : (List Int) × Int := S.ref02_Parse s limbs
  let r5 : Int × Int := S.deci_ParseWhole s
  let r6 : Int × Int := S.ref02_ParseWhole s
  let b7 : Bool := r3.2 == r4.2
  let r8 : Bool := S.docs_SameNat r3.1 r4.1
  let p9 : Bool := (b7 && r8)
  let b10 : Bool := r5.1 == r6.1
  let p11 : Bool := (p9 && b10)
  let b12 : Bool := r5.2 == r6.2
  let p13 : Bool := (p11 && b12)
  ((b1 = true → (All [S.law02_works_pre] ∧ True)) ∧ (b1 = false → (All [S.deci_Parse_pre s limbs, S.ref02_Parse_pre s limbs, S.deci_ParseWhole_pre s, S.ref02_ParseWhole_pre s, (b7 = true → S.docs_SameNat_pre r3.1 r4.1), (p13 = true → S.law02_works_pre)] ∧ True)))
/-- cmp.isNaN[uint64] -/
def S.cmp_isNaNuint64 (x : Int) : Bool :=
  let b1 : Bool := x != x
  b1
/-- cmp.Compare[uint64] -/
def S.cmp_Compareuint64 (x : Int) (y : Int) : Int :=
  let r1 : Bool := S.cmp_isNaNuint64 x
  let r2 : Bool := S.cmp_isNaNuint64 y
  let b3 : Bool := decide (x < y)
  let b4 : Bool := decide (x > y)
  (bif r1 then (bif r2 then 0 else (-1)) else (bif r2 then 1 else (bif b3 then (-1) else (bif b4 then 1 else 0))))
@[ext] structure S.nat_Cmp_L0 where
  t4 : Int
  i : Int
  a : S.Num
  b : S.Num
def S.nat_Cmp_L0_step (x : S.nat_Cmp_L0) : S.nat_Cmp_L0 ⊕ (Bool × S.nat_Cmp_L0) :=
  let b1 : Bool := decide (x.i ≥ 0)
  let r2 : Int := S.nat_Nat_limb x.a x.i
  let r3 : Int := S.nat_Nat_limb x.b x.i
  let r4 : Int := S.cmp_Compareuint64 r2 r3
  let b5 : Bool := r4 != 0
  let t6 : Int := IntKind.i64.wrap (x.i - 1)
  (bif b1 then (bif b5 then (.inr ⟨true, ⟨r4, x.i, x.a, x.b⟩⟩) else (.inl ⟨x.t4, t6, x.a, x.b⟩)) else (.inr ⟨false, ⟨x.t4, x.i, x.a, x.b⟩⟩))
def S.nat_Cmp_L0_vcs (x : S.nat_Cmp_L0) : Prop :=
  let b1 : Bool := decide (x.i ≥ 0)
  let r2 : Int := S.nat_Nat_limb x.a x.i
  let r3 : Int := S.nat_Nat_limb x.b x.i
  let r4 : Int := S.cmp_Compareuint64 r2 r3
  let b5 : Bool := r4 != 0
  ((b1 = true → (All [S.nat_Nat_limb_pre x.a x.i, S.nat_Nat_limb_pre x.b x.i] ∧ ((b5 = true → True) ∧ (b5 = false → True)))) ∧ (b1 = false → True))
noncomputable def S.nat_Cmp_L0_run (x : S.nat_Cmp_L0) : Bool × S.nat_Cmp_L0 := theRun (fun x => ⟨true, x⟩) S.nat_Cmp_L0_step S.nat_Cmp_L0_vcs x
/-- nat.Cmp -/
noncomputable def S.nat_Cmp (a : S.Num) (b : S.Num) : Int :=
  let r1 : Int := S.nat_Nat_Len a
  let r2 : Int := S.nat_Nat_Len b
  let m3 : Int := if r2 > r1 then r2 else r1
  let t4 : Int := IntKind.i64.wrap (m3 - 1)
  let x5 : S.nat_Cmp_L0 := (⟨0, t4, a, b⟩ : S.nat_Cmp_L0)
  let y6 : Bool × S.nat_Cmp_L0 := S.nat_Cmp_L0_run x5
  (bif y6.1 then y6.2.t4 else 0)
def S.nat_Cmp_pre (a : S.Num) (b : S.Num) : Prop :=
  let r1 : Int := S.nat_Nat_Len a
  let r2 : Int := S.nat_Nat_Len b
  let m3 : Int := if r2 > r1 then r2 else r1
  let t4 : Int := IntKind.i64.wrap (m3 - 1)
  let x5 : S.nat_Cmp_L0 := (⟨0, t4, a, b⟩ : S.nat_Cmp_L0)
  let y6 : Bool × S.nat_Cmp_L0 := S.nat_Cmp_L0_run x5
  (All [Runs S.nat_Cmp_L0_step S.nat_Cmp_L0_vcs x5 (S.nat_Cmp_L0_run x5)] ∧ ((y6.1 = true → True) ∧ (y6.1 = false → True)))
/-- sieveholeslaw02.DeciBack -/
noncomputable def S.law02_DeciBack (a : (List Int)) (b : (List Int)) (a2 : Int) (n : Int) (s : ByteArray) : Bool :=
  let b1 : Bool := decide ((a.length : Int) > 6)
  let b2 : Bool := decide ((b.length : Int) > 6)
  let p3 : Bool := (b1 || b2)
  let b4 : Bool := decide ((s.size : Int) > 60)
  let p5 : Bool := (p3 || b4)
  let r6 : Bool := S.law02_works
  let r7 : (List Int) := S.law02_own a
  let r8 : S.Num := S.nat_Limbs r7
  let r9 : (List Int) := S.law02_own b
  let r10 : S.Num := S.nat_Limbs r9
  let r11 : S.Num × Int × Int := S.deci_Div r8 a2
  let b12 : Bool := r11.2.2 == 0
  let b13 : Bool := decide (a2 > 0)
  let b14 : Bool := !(b12 == b13)
  let b15 : Bool := r11.2.2 == 0
  let b16 : Bool := decide (r11.2.1 ≥ a2)
  let r17 : S.Num := S.nat_Of a2
  let r18 : S.Num := S.nat_Mul r11.1 r17
  let r19 : S.Num := S.nat_Of r11.2.1
  let r20 : S.Num := S.nat_Add r18 r19
  let r21 : Int := S.nat_Cmp r20 r8
  let b22 : Bool := r21 != 0
  let p23 : Bool := (b16 || b22)
  let p24 : Bool := (b15 && p23)
  let p25 : Bool := (b14 || p24)
  let r26 : ByteArray := S.deci_Text r8
  let r27 : ByteArray := S.deci_Text r10
  let r28 : Int := S.nat_Nat_Len r8
  let r29 : S.Num × Int := S.deci_Parse r26 r28
  let b30 : Bool := r29.2 != 0
  let r31 : Int := S.nat_Cmp r29.1 r8
  let b32 : Bool := r31 != 0
  let p33 : Bool := (b30 || b32)
  let r34 : Int := S.deci_Digits r8
  let b35 : Bool := (r26.size : Int) != r34
  let p36 : Bool := (p33 || b35)
  let r37 : Int := S.nat_Nat_Len r8
  let t38 : Int := IntKind.i64.wrap (r37 - 1)
  let r39 : S.Num × Int := S.deci_Parse r26 t38
  let b40 : Bool := r39.2 == 10
  let r41 : Int := S.nat_Nat_Len r8
  let b42 : Bool := decide (r41 > 0)
  let b43 : Bool := !(b40 == b42)
  let b44 : Bool := r39.2 != 10
  let b45 : Bool := r39.2 != 0
  let p46 : Bool := (b44 && b45)
  let p47 : Bool := (b43 || p46)
  let r48 : Int := S.nat_Cmp r8 r10
  let b49 : Bool := decide ((r26.size : Int) < (r27.size : Int))
  let b50 : Bool := (r26.size : Int) == (r27.size : Int)
  let b51 : Bool := Op.bytesLess r26.toList r27.toList
  let p52 : Bool := (b50 && b51)
  let p53 : Bool := (b49 || p52)
  let b54 : Bool := decide (r48 < 0)
  let b55 : Bool := !(b54 == p53)
  let b56 : Bool := r48 == 0
  let b57 : Bool := (r26.toList == r27.toList)
  let b58 : Bool := !(b56 == b57)
  let p59 : Bool := (b55 || b58)
  let r60 : ByteArray := S.deci_Whole n
  let r61 : Int × Int := S.deci_ParseWhole r60
  let b62 : Bool := r61.2 != 0
  let b63 : Bool := r61.1 != n
  let p64 : Bool := (b62 || b63)
  let r65 : S.Num × Int := S.deci_Parse s 9
  let r66 : Int × Int := S.deci_ParseWhole s
  let b67 : Bool := r65.2 != 0
  let r68 : ByteArray := S.deci_Text r65.1
  let b69 : Bool := (r68.toList == s.toList)
  let p70 : Bool := (b67 || b69)
  let b71 : Bool := r66.2 != 0
  let r72 : ByteArray := S.deci_Whole r66.1
  let b73 : Bool := (r72.toList == s.toList)
  let p74 : Bool := (b71 || b73)
  let p75 : Bool := (p70 && p74)
  let r76 : Bool := S.law02_works
  let p77 : Bool := (p75 && r76)
  (bif p5 then r6 else (bif p25 then false else (bif p36 then false else (bif p47 then false else (bif p59 then false else (bif p64 then false else p77))))))
def S.law02_DeciBack_pre (a : (List Int)) (b : (List Int)) (a2 : Int) (n : Int) (s : ByteArray) : Prop :=
  let b1 : Bool := decide ((a.length : Int) > 6)
  let b2 : Bool := decide ((b.length : Int) > 6)
  let p3 : Bool := (b1 || b2)
  let b4 : Bool := decide ((s.size : Int) > 60)
  let p5 : Bool := (p3 || b4)
  let r7 : (List Int) := S.law02_own a
  let r8 : S.Num := S.nat_Limbs r7
  let r9 : (List Int) := S.law02_own b
  let r10 : S.Num := S.nat_Limbs r9
  let r11 : S.Num × Int × Int := S.deci_Div r8 a2
  let b12 : Bool := r11.2.2 == 0
  let b13 : Bool := decide (a2 > 0)
  let b14 : Bool := !(b12 == b13)
  let b15 : Bool := r11.2.2 == 0
  let b16 : Bool := decide (r11.2.1 ≥ a2)
  let r17 : S.Num := S.nat_Of a2
  let r18 : S.Num := S.nat_Mul r11.1 r17
  let r19 : S.Num := S.nat_Of r11.2.1
  let r20 : S.Num := S.nat_Add r18 r19
  let r21 : Int := S.nat_Cmp r20 r8
  let b22 : Bool := r21 != 0
  let p23 : Bool := (b16 || b22)
  let p24 : Bool := (b15 && p23)
  let p25 : Bool := (b14 || p24)
  let r26 : ByteArray := S.deci_Text r8
  let r27 : ByteArray := S.deci_Text r10
  let r28 : Int := S.nat_Nat_Len r8
  let r29 : S.Num × Int := S.deci_Parse r26 r28
  let b30 : Bool := r29.2 != 0
  let r31 : Int := S.nat_Cmp r29.1 r8
  let b32 : Bool := r31 != 0
  let p33 : Bool := (b30 || b32)
  let r34 : Int := S.deci_Digits r8
  let b35 : Bool := (r26.size : Int) != r34
  let p36 : Bool := (p33 || b35)
  let r37 : Int := S.nat_Nat_Len r8
  let t38 : Int := IntKind.i64.wrap (r37 - 1)
  let r39 : S.Num × Int := S.deci_Parse r26 t38
  let b40 : Bool := r39.2 == 10
  let r41 : Int := S.nat_Nat_Len r8
  let b42 : Bool := decide (r41 > 0)
  let b43 : Bool := !(b40 == b42)
  let b44 : Bool := r39.2 != 10
  let b45 : Bool := r39.2 != 0
  let p46 : Bool := (b44 && b45)
  let p47 : Bool := (b43 || p46)
  let r48 : Int := S.nat_Cmp r8 r10
  let b49 : Bool := decide ((r26.size : Int) < (r27.size : Int))
  let b50 : Bool := (r26.size : Int) == (r27.size : Int)
  let b51 : Bool := Op.bytesLess r26.toList r27.toList
  let p52 : Bool := (b50 && b51)
  let p53 : Bool := (b49 || p52)
  let b54 : Bool := decide (r48 < 0)
  let b55 : Bool := !(b54 == p53)
  let b56 : Bool := r48 == 0
  let b57 : Bool := (r26.toList == r27.toList)
  let b58 : Bool := !(b56 == b57)
  let p59 : Bool := (b55 || b58)
  let r60 : ByteArray := S.deci_Whole n
  let r61 : Int × Int := S.deci_ParseWhole r60
  let b62 : Bool := r61.2 != 0
  let b63 : Bool := r61.1 != n
  let p64 : Bool := (b62 || b63)
  let r65 : S.Num × Int := S.deci_Parse s 9
  let r66 : Int × Int := S.deci_ParseWhole s
  let b67 : Bool := r65.2 != 0
  let r68 : ByteArray := S.deci_Text r65.1
  let b69 : Bool := (r68.toList == s.toList)
  let p70 : Bool := (b67 || b69)
  let b71 : Bool := r66.2 != 0
  let r72 : ByteArray := S.deci_Whole r66.1
  let b73 : Bool := (r72.toList == s.toList)
  let p74 : Bool := (b71 || b73)
  let p75 : Bool := (p70 && p74)
  ((p5 = true → (All [S.law02_works_pre] ∧ True)) ∧ (p5 = false → (All [S.law02_own_pre a, S.nat_Limbs_pre r7, S.law02_own_pre b, S.nat_Limbs_pre r9, S.deci_Div_pre r8 a2, (b14 = false → (b15 = true → (b16 = false → S.nat_Of_pre a2))), (b14 = false → (b15 = true → (b16 = false → S.nat_Mul_pre r11.1 r17))), (b14 = false → (b15 = true → (b16 = false → S.nat_Of_pre r11.2.1))), (b14 = false → (b15 = true → (b16 = false → S.nat_Add_pre r18 r19))), (b14 = false → (b15 = true → (b16 = false → S.nat_Cmp_pre r20 r8)))] ∧ ((p25 = true → True) ∧ (p25 = false → (All [S.deci_Text_pre r8, S.deci_Text_pre r10, S.deci_Parse_pre r26 r28, (b30 = false → S.nat_Cmp_pre r29.1 r8), (p33 = false → S.deci_Digits_pre r8)] ∧ ((p36 = true → True) ∧ (p36 = false → (All [S.deci_Parse_pre r26 t38] ∧ ((p47 = true → True) ∧ (p47 = false → (All [S.nat_Cmp_pre r8 r10] ∧ ((p59 = true → True) ∧ (p59 = false → (All [S.deci_Whole_pre n, S.deci_ParseWhole_pre r60] ∧ ((p64 = true → True) ∧ (p64 = false → (All [S.deci_Parse_pre s 9, S.deci_ParseWhole_pre s, (b67 = false → S.deci_Text_pre r65.1), (p70 = true → (b71 = false → S.deci_Whole_pre r66.1)), (p75 = true → S.law02_works_pre)] ∧ True))))))))))))))))))
