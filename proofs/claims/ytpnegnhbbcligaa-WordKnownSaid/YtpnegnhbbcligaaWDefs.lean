/-
  Printed by a program for this claim: functions of the code as plain functions, and that the code comes to them. Conditions: those that each theorem states.
-/
import Derived.Test.YtpnegnhbbcligaaVm15
set_option linter.all false
open Go Vm


/-- cmp.isNaN[int64] -/
def S.cmp_isNaNint64 (x : Int) : Bool :=
  let b1 : Bool := x != x
  b1
/-- cmp.Compare[int64] -/
def S.cmp_Compareint64 (x : Int) (y : Int) : Int :=
  let r1 : Bool := S.cmp_isNaNint64 x
  let r2 : Bool := S.cmp_isNaNint64 y
  let b3 : Bool := decide (x < y)
  let b4 : Bool := decide (x > y)
  (bif r1 then (bif r2 then 0 else (-1)) else (bif r2 then 1 else (bif b3 then (-1) else (bif b4 then 1 else 0))))
/-- word.compares -/
def S.word_compares (op : Int) (a : Int) (b : Int) : Bool × Bool :=
  let r1 : Int := S.cmp_Compareint64 a b
  let b2 : Bool := op == 3
  let b3 : Bool := op == 2
  let b4 : Bool := op == 7
  let b5 : Bool := op == 4
  let b6 : Bool := op == 5
  let b7 : Bool := op == 6
  let b8 : Bool := r1 == 0
  let b9 : Bool := !(b8 == true)
  let b10 : Bool := r1 == 0
  let b11 : Bool := !(b10 == false)
  let b12 : Bool := decide (r1 < 0)
  let b13 : Bool := !(b12 == true)
  let b14 : Bool := decide (r1 < 0)
  let b15 : Bool := !(b14 == false)
  let b16 : Bool := decide (r1 > 0)
  let b17 : Bool := !(b16 == true)
  let b18 : Bool := decide (r1 > 0)
  let b19 : Bool := !(b18 == false)
  (bif b2 then (b9, true) else (bif b3 then (b11, true) else (bif b4 then (b13, true) else (bif b5 then (b15, true) else (bif b6 then (b17, true) else (bif b7 then (b19, true) else (false, false)))))))
/-- word.Bit -/
def S.word_Bit (x : Bool) : Int :=
  (bif x then 1 else 0)
/-- word.Truth -/
def S.word_Truth (n : Int) : Bool :=
  let b1 : Bool := n != 0
  b1
/-- word.reckons$1 -/
def S.word_reckons_1 (a : Int) (b : Int) : Int :=
  let r1 : Bool := S.word_Truth a
  let r2 : Bool := S.word_Truth b
  let p3 : Bool := (r1 || r2)
  let r4 : Int := S.word_Bit p3
  r4
/-- word.reckons$2 -/
def S.word_reckons_2 (a : Int) (b : Int) : Int :=
  let r1 : Bool := S.word_Truth a
  let r2 : Bool := S.word_Truth b
  let p3 : Bool := (r1 && r2)
  let r4 : Int := S.word_Bit p3
  r4
/-- word.reckons$3 -/
def S.word_reckons_3 (a : Int) (b : Int) : Int :=
  let t1 : Int := bits .or .i64 a b
  t1
/-- word.reckons$4 -/
def S.word_reckons_4 (a : Int) (b : Int) : Int :=
  let t1 : Int := bits .xor .i64 a b
  t1
/-- word.reckons$5 -/
def S.word_reckons_5 (a : Int) (b : Int) : Int :=
  let t1 : Int := bits .and .i64 a b
  t1
/-- word.Shift -/
def S.word_Shift (b : Int) : Int :=
  let t1 : Int := bits .and .i64 b 63
  let t2 : Int := IntKind.u64.wrap t1
  t2
/-- word.reckons$6 -/
def S.word_reckons_6 (a : Int) (b : Int) : Int :=
  let r1 : Int := S.word_Shift b
  let t2 : Int := IntKind.i64.wrap (a * 2 ^ min (Int.toNat r1) 64)
  t2
def S.word_reckons_6_pre (a : Int) (b : Int) : Prop :=
  let r1 : Int := S.word_Shift b
  (All [(0 : Int) ≤ r1] ∧ True)
/-- word.reckons$7 -/
def S.word_reckons_7 (a : Int) (b : Int) : Int :=
  let r1 : Int := S.word_Shift b
  let t2 : Int := Int.fdiv a (2 ^ min (Int.toNat r1) 64)
  t2
def S.word_reckons_7_pre (a : Int) (b : Int) : Prop :=
  let r1 : Int := S.word_Shift b
  (All [(0 : Int) ≤ r1] ∧ True)
/-- word.reckons$8 -/
def S.word_reckons_8 (a : Int) (b : Int) : Int :=
  let t1 : Int := IntKind.i64.wrap (a + b)
  t1
/-- word.reckons$9 -/
def S.word_reckons_9 (a : Int) (b : Int) : Int :=
  let t1 : Int := IntKind.i64.wrap (a - b)
  t1
/-- word.reckons$10 -/
def S.word_reckons_10 (a : Int) (b : Int) : Int :=
  let t1 : Int := IntKind.i64.wrap (a * b)
  t1
/-- word.reckons$11 -/
def S.word_reckons_11 (a : Int) (b : Int) : Int :=
  let t1 : Int := IntKind.i64.wrap (Int.tdiv a b)
  t1
def S.word_reckons_11_pre (a : Int) (b : Int) : Prop :=
  (All [b ≠ 0] ∧ True)
/-- word.reckons$12 -/
def S.word_reckons_12 (a : Int) (b : Int) : Int :=
  let t1 : Int := Int.tmod a b
  t1
def S.word_reckons_12_pre (a : Int) (b : Int) : Prop :=
  (All [b ≠ 0] ∧ True)
/-- word.reckons -/
def S.word_reckons : (List (Int × Go.Value)) :=
  ([(0, .func (.func 127) #[] #[]), (1, .func (.func 128) #[] #[]), (8, .func (.func 129) #[] #[]), (9, .func (.func 130) #[] #[]), (10, .func (.func 131) #[] #[]), (11, .func (.func 132) #[] #[]), (12, .func (.func 133) #[] #[]), (13, .func (.func 134) #[] #[]), (14, .func (.func 135) #[] #[]), (15, .func (.func 136) #[] #[]), (16, .func (.func 137) #[] #[]), (17, .func (.func 138) #[] #[])] : List (Int × Go.Value))
/-- word.Traps -/
def S.word_Traps (op : Int) : Bool :=
  let b1 : Bool := op == 16
  let b2 : Bool := op == 17
  let p3 : Bool := (b1 || b2)
  p3
/-- word.Do -/
def S.word_Do (op : Int) (a : Int) (b : Int) : Int × Bool :=
  let r1 : Bool × Bool := S.word_compares op a b
  let r2 : Int := S.word_Bit r1.1
  let b4 : Bool := op == 0
  let b5 : Bool := op == 1
  let b6 : Bool := op == 8
  let b7 : Bool := op == 9
  let b8 : Bool := op == 10
  let b9 : Bool := op == 11
  let b10 : Bool := op == 12
  let b11 : Bool := op == 13
  let b12 : Bool := op == 14
  let b13 : Bool := op == 15
  let b14 : Bool := op == 16
  let b15 : Bool := op == 17
  let b16 : Bool := b4 || (b5 || (b6 || (b7 || (b8 || (b9 || (b10 || (b11 || (b12 || (b13 || (b14 || (b15 || (false))))))))))))
  let b17 : Bool := !b16
  let r18 : Bool := S.word_Traps op
  let b19 : Bool := b == 0
  let p20 : Bool := (r18 && b19)
  let p21 : Bool := (b17 || p20)
  let r22 : Int := S.word_reckons_1 a b
  let r23 : Int := S.word_reckons_2 a b
  let r24 : Int := S.word_reckons_3 a b
  let r25 : Int := S.word_reckons_4 a b
  let r26 : Int := S.word_reckons_5 a b
  let r27 : Int := S.word_reckons_6 a b
  let r28 : Int := S.word_reckons_7 a b
  let r29 : Int := S.word_reckons_8 a b
  let r30 : Int := S.word_reckons_9 a b
  let r31 : Int := S.word_reckons_10 a b
  let r32 : Int := S.word_reckons_11 a b
  let r33 : Int := S.word_reckons_12 a b
  let m34 : Int := (bif b14 then r32 else r33)
  let m35 : Int := (bif b13 then r31 else m34)
  let m36 : Int := (bif b12 then r30 else m35)
  let m37 : Int := (bif b11 then r29 else m36)
  let m38 : Int := (bif b10 then r28 else m37)
  let m39 : Int := (bif b9 then r27 else m38)
  let m40 : Int := (bif b8 then r26 else m39)
  let m41 : Int := (bif b7 then r25 else m40)
  let m42 : Int := (bif b6 then r24 else m41)
  let m43 : Int := (bif b5 then r23 else m42)
  let m44 : Int := (bif b4 then r22 else m43)
  (bif r1.2 then (r2, true) else (bif p21 then (0, false) else (m44, true)))
def S.word_Do_pre (op : Int) (a : Int) (b : Int) : Prop :=
  let r1 : Bool × Bool := S.word_compares op a b
  let b4 : Bool := op == 0
  let b5 : Bool := op == 1
  let b6 : Bool := op == 8
  let b7 : Bool := op == 9
  let b8 : Bool := op == 10
  let b9 : Bool := op == 11
  let b10 : Bool := op == 12
  let b11 : Bool := op == 13
  let b12 : Bool := op == 14
  let b13 : Bool := op == 15
  let b14 : Bool := op == 16
  let b15 : Bool := op == 17
  let b16 : Bool := b4 || (b5 || (b6 || (b7 || (b8 || (b9 || (b10 || (b11 || (b12 || (b13 || (b14 || (b15 || (false))))))))))))
  let b17 : Bool := !b16
  let r18 : Bool := S.word_Traps op
  let b19 : Bool := b == 0
  let p20 : Bool := (r18 && b19)
  let p21 : Bool := (b17 || p20)
  ((r1.2 = true → True) ∧ (r1.2 = false → ((p21 = true → True) ∧ (p21 = false → (All [((b4 = true → True) ∧ (b4 = false → ((b5 = true → True) ∧ (b5 = false → ((b6 = true → True) ∧ (b6 = false → ((b7 = true → True) ∧ (b7 = false → ((b8 = true → True) ∧ (b8 = false → ((b9 = true → S.word_reckons_6_pre a b) ∧ (b9 = false → ((b10 = true → S.word_reckons_7_pre a b) ∧ (b10 = false → ((b11 = true → True) ∧ (b11 = false → ((b12 = true → True) ∧ (b12 = false → ((b13 = true → True) ∧ (b13 = false → ((b14 = true → S.word_reckons_11_pre a b) ∧ (b14 = false → (b15 = true ∧ S.word_reckons_12_pre a b)))))))))))))))))))))))] ∧ True)))))
/-- sieveholesref09.bit -/
def S.ref09_bit (x : Bool) : Int :=
  (bif x then 1 else 0)
@[ext] structure S.ref09_digits_L0 where
  u : Int
  i : Int
  out : (List Int)
def S.ref09_digits_L0_step (x : S.ref09_digits_L0) : S.ref09_digits_L0 ⊕ (S.ref09_digits_L0) :=
  let b1 : Bool := decide (x.i < 64)
  let t2 : Int := Int.tmod x.u 2
  let t3 : Int := IntKind.i64.wrap t2
  let l4 : List Int := x.out.set (Int.toNat x.i) t3
  let t5 : Int := IntKind.u64.wrap (Int.tdiv x.u 2)
  let t6 : Int := IntKind.i64.wrap (x.i + 1)
  (bif b1 then (.inl ⟨t5, t6, l4⟩) else (.inr ⟨x.u, x.i, x.out⟩))
def S.ref09_digits_L0_vcs (x : S.ref09_digits_L0) : Prop :=
  let b1 : Bool := decide (x.i < 64)
  ((b1 = true → (All [(0 : Int) ≤ x.i, x.i < (64 : Int)] ∧ True)) ∧ (b1 = false → True))
noncomputable def S.ref09_digits_L0_run (x : S.ref09_digits_L0) : S.ref09_digits_L0 := theRun (fun x => x) S.ref09_digits_L0_step S.ref09_digits_L0_vcs x
/-- sieveholesref09.digits -/
noncomputable def S.ref09_digits (n : Int) : (List Int) :=
  let t1 : Int := IntKind.u64.wrap n
  let x2 : S.ref09_digits_L0 := (⟨t1, 0, (List.replicate 64 (0 : Int))⟩ : S.ref09_digits_L0)
  let y3 : S.ref09_digits_L0 := S.ref09_digits_L0_run x2
  y3.out
def S.ref09_digits_pre (n : Int) : Prop :=
  let t1 : Int := IntKind.u64.wrap n
  let x2 : S.ref09_digits_L0 := (⟨t1, 0, (List.replicate 64 (0 : Int))⟩ : S.ref09_digits_L0)
  (All [Runs S.ref09_digits_L0_step S.ref09_digits_L0_vcs x2 (S.ref09_digits_L0_run x2)] ∧ True)
@[ext] structure S.ref09_less_L0 where
  t4 : Bool
  i : Int
  vx : (List Int)
  y : (List Int)
def S.ref09_less_L0_step (x : S.ref09_less_L0) : S.ref09_less_L0 ⊕ (Bool × S.ref09_less_L0) :=
  let b1 : Bool := decide (x.i ≥ 0)
  let e2 : Int := x.vx.getD (Int.toNat x.i) 0
  let e3 : Int := x.y.getD (Int.toNat x.i) 0
  let b4 : Bool := e2 != e3
  let e5 : Int := x.vx.getD (Int.toNat x.i) 0
  let e6 : Int := x.y.getD (Int.toNat x.i) 0
  let b7 : Bool := decide (e5 < e6)
  let t8 : Int := IntKind.i64.wrap (x.i - 1)
  (bif b1 then (bif b4 then (.inr ⟨true, ⟨b7, x.i, x.vx, x.y⟩⟩) else (.inl ⟨x.t4, t8, x.vx, x.y⟩)) else (.inr ⟨false, ⟨x.t4, x.i, x.vx, x.y⟩⟩))
def S.ref09_less_L0_vcs (x : S.ref09_less_L0) : Prop :=
  let b1 : Bool := decide (x.i ≥ 0)
  let e2 : Int := x.vx.getD (Int.toNat x.i) 0
  let e3 : Int := x.y.getD (Int.toNat x.i) 0
  let b4 : Bool := e2 != e3
  ((b1 = true → (All [(0 : Int) ≤ x.i, x.i < (64 : Int), (0 : Int) ≤ x.i, x.i < (64 : Int)] ∧ ((b4 = true → (All [(0 : Int) ≤ x.i, x.i < (64 : Int), (0 : Int) ≤ x.i, x.i < (64 : Int)] ∧ True)) ∧ (b4 = false → True)))) ∧ (b1 = false → True))
noncomputable def S.ref09_less_L0_run (x : S.ref09_less_L0) : Bool × S.ref09_less_L0 := theRun (fun x => ⟨true, x⟩) S.ref09_less_L0_step S.ref09_less_L0_vcs x
/-- sieveholesref09.less -/
noncomputable def S.ref09_less (a : Int) (b : Int) : Bool :=
  let r1 : (List Int) := S.ref09_digits a
  let r2 : (List Int) := S.ref09_digits b
  let e3 : Int := r1.getD (Int.toNat 63) 0
  let e4 : Int := r2.getD (Int.toNat 63) 0
  let b5 : Bool := e3 != e4
  let e6 : Int := r1.getD (Int.toNat 63) 0
  let b7 : Bool := e6 == 1
  let x8 : S.ref09_less_L0 := (⟨false, 62, r1, r2⟩ : S.ref09_less_L0)
  let y9 : Bool × S.ref09_less_L0 := S.ref09_less_L0_run x8
  (bif b5 then b7 else (bif y9.1 then y9.2.t4 else false))
def S.ref09_less_pre (a : Int) (b : Int) : Prop :=
  let r1 : (List Int) := S.ref09_digits a
  let r2 : (List Int) := S.ref09_digits b
  let e3 : Int := r1.getD (Int.toNat 63) 0
  let e4 : Int := r2.getD (Int.toNat 63) 0
  let b5 : Bool := e3 != e4
  let x8 : S.ref09_less_L0 := (⟨false, 62, r1, r2⟩ : S.ref09_less_L0)
  let y9 : Bool × S.ref09_less_L0 := S.ref09_less_L0_run x8
  (All [S.ref09_digits_pre a, S.ref09_digits_pre b, (0 : Int) ≤ 63, (63 : Int) < (64 : Int), (0 : Int) ≤ 63, (63 : Int) < (64 : Int)] ∧ ((b5 = true → (All [(0 : Int) ≤ 63, (63 : Int) < (64 : Int)] ∧ True)) ∧ (b5 = false → (All [Runs S.ref09_less_L0_step S.ref09_less_L0_vcs x8 (S.ref09_less_L0_run x8)] ∧ ((y9.1 = true → True) ∧ (y9.1 = false → True))))))
@[ext] structure S.ref09_number_L0 where
  u : Int
  i : Int
  d : (List Int)
def S.ref09_number_L0_step (x : S.ref09_number_L0) : S.ref09_number_L0 ⊕ (S.ref09_number_L0) :=
  let b1 : Bool := decide (x.i ≥ 0)
  let t2 : Int := IntKind.u64.wrap (2 * x.u)
  let e3 : Int := x.d.getD (Int.toNat x.i) 0
  let t4 : Int := IntKind.u64.wrap e3
  let t5 : Int := IntKind.u64.wrap (t2 + t4)
  let t6 : Int := IntKind.i64.wrap (x.i - 1)
  (bif b1 then (.inl ⟨t5, t6, x.d⟩) else (.inr ⟨x.u, x.i, x.d⟩))
def S.ref09_number_L0_vcs (x : S.ref09_number_L0) : Prop :=
  let b1 : Bool := decide (x.i ≥ 0)
  ((b1 = true → (All [(0 : Int) ≤ x.i, x.i < (64 : Int)] ∧ True)) ∧ (b1 = false → True))
noncomputable def S.ref09_number_L0_run (x : S.ref09_number_L0) : S.ref09_number_L0 := theRun (fun x => x) S.ref09_number_L0_step S.ref09_number_L0_vcs x
/-- sieveholesref09.number -/
noncomputable def S.ref09_number (d : (List Int)) : Int :=
  let x1 : S.ref09_number_L0 := (⟨0, 63, d⟩ : S.ref09_number_L0)
  let y2 : S.ref09_number_L0 := S.ref09_number_L0_run x1
  let t3 : Int := IntKind.i64.wrap y2.u
  t3
def S.ref09_number_pre (d : (List Int)) : Prop :=
  let x1 : S.ref09_number_L0 := (⟨0, 63, d⟩ : S.ref09_number_L0)
  (All [Runs S.ref09_number_L0_step S.ref09_number_L0_vcs x1 (S.ref09_number_L0_run x1)] ∧ True)
@[ext] structure S.ref09_each_L0 where
  how : Int
  i : Int
  vx : (List Int)
  y : (List Int)
  out : (List Int)
def S.ref09_each_L0_step (x : S.ref09_each_L0) : S.ref09_each_L0 ⊕ (S.ref09_each_L0) :=
  let b1 : Bool := decide (x.i < 64)
  let e2 : Int := x.vx.getD (Int.toNat x.i) 0
  let e3 : Int := x.y.getD (Int.toNat x.i) 0
  let t4 : Int := IntKind.i64.wrap (e2 + e3)
  let b5 : Bool := x.how == 0
  let b6 : Bool := decide (t4 > 0)
  let p7 : Bool := (b5 && b6)
  let b8 : Bool := x.how == 1
  let b9 : Bool := t4 == 1
  let p10 : Bool := (b8 && b9)
  let p11 : Bool := (p7 || p10)
  let b12 : Bool := x.how == 2
  let b13 : Bool := t4 == 2
  let p14 : Bool := (b12 && b13)
  let p15 : Bool := (p11 || p14)
  let l16 : List Int := x.out.set (Int.toNat x.i) 1
  let t17 : Int := IntKind.i64.wrap (x.i + 1)
  (bif b1 then (.inl ⟨x.how, t17, x.vx, x.y, (bif p15 then l16 else x.out)⟩) else (.inr ⟨x.how, x.i, x.vx, x.y, x.out⟩))
def S.ref09_each_L0_vcs (x : S.ref09_each_L0) : Prop :=
  let b1 : Bool := decide (x.i < 64)
  let e2 : Int := x.vx.getD (Int.toNat x.i) 0
  let e3 : Int := x.y.getD (Int.toNat x.i) 0
  let t4 : Int := IntKind.i64.wrap (e2 + e3)
  let b5 : Bool := x.how == 0
  let b6 : Bool := decide (t4 > 0)
  let p7 : Bool := (b5 && b6)
  let b8 : Bool := x.how == 1
  let b9 : Bool := t4 == 1
  let p10 : Bool := (b8 && b9)
  let p11 : Bool := (p7 || p10)
  let b12 : Bool := x.how == 2
  let b13 : Bool := t4 == 2
  let p14 : Bool := (b12 && b13)
  let p15 : Bool := (p11 || p14)
  ((b1 = true → (All [(0 : Int) ≤ x.i, x.i < (64 : Int), (0 : Int) ≤ x.i, x.i < (64 : Int), (p15 = true → ((0 : Int) ≤ x.i ∧ x.i < (64 : Int)))] ∧ True)) ∧ (b1 = false → True))
noncomputable def S.ref09_each_L0_run (x : S.ref09_each_L0) : S.ref09_each_L0 := theRun (fun x => x) S.ref09_each_L0_step S.ref09_each_L0_vcs x
/-- sieveholesref09.each -/
noncomputable def S.ref09_each (a : Int) (b : Int) (how : Int) : Int :=
  let r1 : (List Int) := S.ref09_digits a
  let r2 : (List Int) := S.ref09_digits b
  let x3 : S.ref09_each_L0 := (⟨how, 0, r1, r2, (List.replicate 64 (0 : Int))⟩ : S.ref09_each_L0)
  let y4 : S.ref09_each_L0 := S.ref09_each_L0_run x3
  let r5 : Int := S.ref09_number y4.out
  r5
def S.ref09_each_pre (a : Int) (b : Int) (how : Int) : Prop :=
  let r1 : (List Int) := S.ref09_digits a
  let r2 : (List Int) := S.ref09_digits b
  let x3 : S.ref09_each_L0 := (⟨how, 0, r1, r2, (List.replicate 64 (0 : Int))⟩ : S.ref09_each_L0)
  let y4 : S.ref09_each_L0 := S.ref09_each_L0_run x3
  (All [S.ref09_digits_pre a, S.ref09_digits_pre b, Runs S.ref09_each_L0_step S.ref09_each_L0_vcs x3 (S.ref09_each_L0_run x3), S.ref09_number_pre y4.out] ∧ True)
@[ext] structure S.ref09_Shift_L0 where
  n : Int
  i : Int
  d : (List Int)
def S.ref09_Shift_L0_step (x : S.ref09_Shift_L0) : S.ref09_Shift_L0 ⊕ (S.ref09_Shift_L0) :=
  let b1 : Bool := decide (x.i ≥ 0)
  let t2 : Int := IntKind.i64.wrap (2 * x.n)
  let e3 : Int := x.d.getD (Int.toNat x.i) 0
  let t4 : Int := IntKind.i64.wrap (t2 + e3)
  let t5 : Int := IntKind.i64.wrap (x.i - 1)
  (bif b1 then (.inl ⟨t4, t5, x.d⟩) else (.inr ⟨x.n, x.i, x.d⟩))
def S.ref09_Shift_L0_vcs (x : S.ref09_Shift_L0) : Prop :=
  let b1 : Bool := decide (x.i ≥ 0)
  ((b1 = true → (All [(0 : Int) ≤ x.i, x.i < (64 : Int)] ∧ True)) ∧ (b1 = false → True))
noncomputable def S.ref09_Shift_L0_run (x : S.ref09_Shift_L0) : S.ref09_Shift_L0 := theRun (fun x => x) S.ref09_Shift_L0_step S.ref09_Shift_L0_vcs x
/-- sieveholesref09.Shift -/
noncomputable def S.ref09_Shift (b : Int) : Int :=
  let r1 : (List Int) := S.ref09_digits b
  let x2 : S.ref09_Shift_L0 := (⟨0, 5, r1⟩ : S.ref09_Shift_L0)
  let y3 : S.ref09_Shift_L0 := S.ref09_Shift_L0_run x2
  y3.n
def S.ref09_Shift_pre (b : Int) : Prop :=
  let r1 : (List Int) := S.ref09_digits b
  let x2 : S.ref09_Shift_L0 := (⟨0, 5, r1⟩ : S.ref09_Shift_L0)
  (All [S.ref09_digits_pre b, Runs S.ref09_Shift_L0_step S.ref09_Shift_L0_vcs x2 (S.ref09_Shift_L0_run x2)] ∧ True)
@[ext] structure S.ref09_shift_L0 where
  vby : Int
  i : Int
  vx : (List Int)
  out : (List Int)
def S.ref09_shift_L0_step (x : S.ref09_shift_L0) : S.ref09_shift_L0 ⊕ (S.ref09_shift_L0) :=
  let b1 : Bool := decide (x.i < 64)
  let t2 : Int := IntKind.i64.wrap (x.i - x.vby)
  let b3 : Bool := decide (t2 > 63)
  let b4 : Bool := decide ((bif b3 then 63 else t2) ≥ 0)
  let e5 : Int := x.vx.getD (Int.toNat (bif b3 then 63 else t2)) 0
  let l6 : List Int := x.out.set (Int.toNat x.i) e5
  let t7 : Int := IntKind.i64.wrap (x.i + 1)
  (bif b1 then (.inl ⟨x.vby, t7, x.vx, (bif b4 then l6 else x.out)⟩) else (.inr ⟨x.vby, x.i, x.vx, x.out⟩))
def S.ref09_shift_L0_vcs (x : S.ref09_shift_L0) : Prop :=
  let b1 : Bool := decide (x.i < 64)
  let t2 : Int := IntKind.i64.wrap (x.i - x.vby)
  let b3 : Bool := decide (t2 > 63)
  let b4 : Bool := decide ((bif b3 then 63 else t2) ≥ 0)
  ((b1 = true → (All [(b4 = true → ((0 : Int) ≤ (bif b3 then 63 else t2) ∧ (bif b3 then 63 else t2) < (64 : Int) ∧ (0 : Int) ≤ x.i ∧ x.i < (64 : Int)))] ∧ True)) ∧ (b1 = false → True))
noncomputable def S.ref09_shift_L0_run (x : S.ref09_shift_L0) : S.ref09_shift_L0 := theRun (fun x => x) S.ref09_shift_L0_step S.ref09_shift_L0_vcs x
/-- sieveholesref09.shift -/
noncomputable def S.ref09_shift (a : Int) (a1 : Int) : Int :=
  let r1 : (List Int) := S.ref09_digits a
  let x2 : S.ref09_shift_L0 := (⟨a1, 0, r1, (List.replicate 64 (0 : Int))⟩ : S.ref09_shift_L0)
  let y3 : S.ref09_shift_L0 := S.ref09_shift_L0_run x2
  let r4 : Int := S.ref09_number y3.out
  r4
def S.ref09_shift_pre (a : Int) (a1 : Int) : Prop :=
  let r1 : (List Int) := S.ref09_digits a
  let x2 : S.ref09_shift_L0 := (⟨a1, 0, r1, (List.replicate 64 (0 : Int))⟩ : S.ref09_shift_L0)
  let y3 : S.ref09_shift_L0 := S.ref09_shift_L0_run x2
  (All [S.ref09_digits_pre a, Runs S.ref09_shift_L0_step S.ref09_shift_L0_vcs x2 (S.ref09_shift_L0_run x2), S.ref09_number_pre y3.out] ∧ True)
@[ext] structure S.ref09_add_L0 where
  carry : Int
  i : Int
  vx : (List Int)
  y : (List Int)
  out : (List Int)
def S.ref09_add_L0_step (x : S.ref09_add_L0) : S.ref09_add_L0 ⊕ (S.ref09_add_L0) :=
  let b1 : Bool := decide (x.i < 64)
  let e2 : Int := x.vx.getD (Int.toNat x.i) 0
  let e3 : Int := x.y.getD (Int.toNat x.i) 0
  let t4 : Int := IntKind.i64.wrap (e2 + e3)
  let t5 : Int := IntKind.i64.wrap (t4 + x.carry)
  let t6 : Int := Int.tmod t5 2
  let l7 : List Int := x.out.set (Int.toNat x.i) t6
  let t8 : Int := IntKind.i64.wrap (Int.tdiv t5 2)
  let t9 : Int := IntKind.i64.wrap (x.i + 1)
  (bif b1 then (.inl ⟨t8, t9, x.vx, x.y, l7⟩) else (.inr ⟨x.carry, x.i, x.vx, x.y, x.out⟩))
def S.ref09_add_L0_vcs (x : S.ref09_add_L0) : Prop :=
  let b1 : Bool := decide (x.i < 64)
  ((b1 = true → (All [(0 : Int) ≤ x.i, x.i < (64 : Int), (0 : Int) ≤ x.i, x.i < (64 : Int), (0 : Int) ≤ x.i, x.i < (64 : Int)] ∧ True)) ∧ (b1 = false → True))
noncomputable def S.ref09_add_L0_run (x : S.ref09_add_L0) : S.ref09_add_L0 := theRun (fun x => x) S.ref09_add_L0_step S.ref09_add_L0_vcs x
/-- sieveholesref09.add -/
noncomputable def S.ref09_add (a : Int) (b : Int) : Int :=
  let r1 : (List Int) := S.ref09_digits a
  let r2 : (List Int) := S.ref09_digits b
  let x3 : S.ref09_add_L0 := (⟨0, 0, r1, r2, (List.replicate 64 (0 : Int))⟩ : S.ref09_add_L0)
  let y4 : S.ref09_add_L0 := S.ref09_add_L0_run x3
  let r5 : Int := S.ref09_number y4.out
  r5
def S.ref09_add_pre (a : Int) (b : Int) : Prop :=
  let r1 : (List Int) := S.ref09_digits a
  let r2 : (List Int) := S.ref09_digits b
  let x3 : S.ref09_add_L0 := (⟨0, 0, r1, r2, (List.replicate 64 (0 : Int))⟩ : S.ref09_add_L0)
  let y4 : S.ref09_add_L0 := S.ref09_add_L0_run x3
  (All [S.ref09_digits_pre a, S.ref09_digits_pre b, Runs S.ref09_add_L0_step S.ref09_add_L0_vcs x3 (S.ref09_add_L0_run x3), S.ref09_number_pre y4.out] ∧ True)
@[ext] structure S.ref09_Inv_L0 where
  i : Int
  vx : (List Int)
def S.ref09_Inv_L0_step (x : S.ref09_Inv_L0) : S.ref09_Inv_L0 ⊕ (S.ref09_Inv_L0) :=
  let b1 : Bool := decide (x.i < 64)
  let e2 : Int := x.vx.getD (Int.toNat x.i) 0
  let t3 : Int := IntKind.i64.wrap (1 - e2)
  let l4 : List Int := x.vx.set (Int.toNat x.i) t3
  let t5 : Int := IntKind.i64.wrap (x.i + 1)
  (bif b1 then (.inl ⟨t5, l4⟩) else (.inr ⟨x.i, x.vx⟩))
def S.ref09_Inv_L0_vcs (x : S.ref09_Inv_L0) : Prop :=
  let b1 : Bool := decide (x.i < 64)
  ((b1 = true → (All [(0 : Int) ≤ x.i, x.i < (64 : Int), (0 : Int) ≤ x.i, x.i < (64 : Int)] ∧ True)) ∧ (b1 = false → True))
noncomputable def S.ref09_Inv_L0_run (x : S.ref09_Inv_L0) : S.ref09_Inv_L0 := theRun (fun x => x) S.ref09_Inv_L0_step S.ref09_Inv_L0_vcs x
/-- sieveholesref09.Inv -/
noncomputable def S.ref09_Inv (a : Int) : Int :=
  let r1 : (List Int) := S.ref09_digits a
  let x2 : S.ref09_Inv_L0 := (⟨0, r1⟩ : S.ref09_Inv_L0)
  let y3 : S.ref09_Inv_L0 := S.ref09_Inv_L0_run x2
  let r4 : Int := S.ref09_number y3.vx
  r4
def S.ref09_Inv_pre (a : Int) : Prop :=
  let r1 : (List Int) := S.ref09_digits a
  let x2 : S.ref09_Inv_L0 := (⟨0, r1⟩ : S.ref09_Inv_L0)
  let y3 : S.ref09_Inv_L0 := S.ref09_Inv_L0_run x2
  (All [S.ref09_digits_pre a, Runs S.ref09_Inv_L0_step S.ref09_Inv_L0_vcs x2 (S.ref09_Inv_L0_run x2), S.ref09_number_pre y3.vx] ∧ True)
/-- sieveholesref09.neg -/
noncomputable def S.ref09_neg (a : Int) : Int :=
  let r1 : Int := S.ref09_Inv a
  let r2 : Int := S.ref09_add r1 1
  r2
def S.ref09_neg_pre (a : Int) : Prop :=
  let r1 : Int := S.ref09_Inv a
  (All [S.ref09_Inv_pre a, S.ref09_add_pre r1 1] ∧ True)
@[ext] structure S.ref09_mul_L0 where
  a : Int
  sum : Int
  i : Int
  y : (List Int)
noncomputable def S.ref09_mul_L0_step (x : S.ref09_mul_L0) : S.ref09_mul_L0 ⊕ (S.ref09_mul_L0) :=
  let b1 : Bool := decide (x.i < 64)
  let e2 : Int := x.y.getD (Int.toNat x.i) 0
  let b3 : Bool := e2 == 1
  let r4 : Int := S.ref09_add x.sum x.a
  let r5 : Int := S.ref09_add x.a x.a
  let t6 : Int := IntKind.i64.wrap (x.i + 1)
  (bif b1 then (.inl ⟨r5, (bif b3 then r4 else x.sum), t6, x.y⟩) else (.inr ⟨x.a, x.sum, x.i, x.y⟩))
def S.ref09_mul_L0_vcs (x : S.ref09_mul_L0) : Prop :=
  let b1 : Bool := decide (x.i < 64)
  let e2 : Int := x.y.getD (Int.toNat x.i) 0
  let b3 : Bool := e2 == 1
  ((b1 = true → (All [(0 : Int) ≤ x.i, x.i < (64 : Int), (b3 = true → S.ref09_add_pre x.sum x.a), S.ref09_add_pre x.a x.a] ∧ True)) ∧ (b1 = false → True))
noncomputable def S.ref09_mul_L0_run (x : S.ref09_mul_L0) : S.ref09_mul_L0 := theRun (fun x => x) S.ref09_mul_L0_step S.ref09_mul_L0_vcs x
/-- sieveholesref09.mul -/
noncomputable def S.ref09_mul (a : Int) (b : Int) : Int :=
  let r1 : (List Int) := S.ref09_digits b
  let x2 : S.ref09_mul_L0 := (⟨a, 0, 0, r1⟩ : S.ref09_mul_L0)
  let y3 : S.ref09_mul_L0 := S.ref09_mul_L0_run x2
  y3.sum
def S.ref09_mul_pre (a : Int) (b : Int) : Prop :=
  let r1 : (List Int) := S.ref09_digits b
  let x2 : S.ref09_mul_L0 := (⟨a, 0, 0, r1⟩ : S.ref09_mul_L0)
  (All [S.ref09_digits_pre b, Runs S.ref09_mul_L0_step S.ref09_mul_L0_vcs x2 (S.ref09_mul_L0_run x2)] ∧ True)
/-- sieveholesref09.size -/
noncomputable def S.ref09_size (a : Int) : Int :=
  let b1 : Bool := decide (a < 0)
  let r2 : Int := S.ref09_neg a
  let t3 : Int := IntKind.u64.wrap r2
  let t4 : Int := IntKind.u64.wrap a
  (bif b1 then t3 else t4)
def S.ref09_size_pre (a : Int) : Prop :=
  let b1 : Bool := decide (a < 0)
  ((b1 = true → (All [S.ref09_neg_pre a] ∧ True)) ∧ (b1 = false → True))
/-- sieveholesref09.quotient -/
noncomputable def S.ref09_quotient (a : Int) (b : Int) : Int :=
  let r1 : Int := S.ref09_size a
  let r2 : Int := S.ref09_size b
  let t3 : Int := IntKind.u64.wrap (Int.tdiv r1 r2)
  let b4 : Bool := decide (a < 0)
  let b5 : Bool := decide (b < 0)
  let b6 : Bool := !(b4 == b5)
  let t7 : Int := IntKind.i64.wrap t3
  let r8 : Int := S.ref09_neg t7
  let t9 : Int := IntKind.i64.wrap t3
  (bif b6 then r8 else t9)
def S.ref09_quotient_pre (a : Int) (b : Int) : Prop :=
  let r1 : Int := S.ref09_size a
  let r2 : Int := S.ref09_size b
  let t3 : Int := IntKind.u64.wrap (Int.tdiv r1 r2)
  let b4 : Bool := decide (a < 0)
  let b5 : Bool := decide (b < 0)
  let b6 : Bool := !(b4 == b5)
  let t7 : Int := IntKind.i64.wrap t3
  (All [S.ref09_size_pre a, S.ref09_size_pre b, r2 ≠ 0] ∧ ((b6 = true → (All [S.ref09_neg_pre t7] ∧ True)) ∧ (b6 = false → True)))
/-- sieveholesref09.Do -/
noncomputable def S.ref09_Do (op : Int) (a : Int) (b : Int) : Int × Bool :=
  let b1 : Bool := op == 16
  let b2 : Bool := op == 17
  let p3 : Bool := (b1 || b2)
  let b4 : Bool := b == 0
  let p5 : Bool := (p3 && b4)
  let b6 : Bool := op == 0
  let b7 : Bool := a != 0
  let b8 : Bool := b != 0
  let p9 : Bool := (b7 || b8)
  let r10 : Int := S.ref09_bit p9
  let b11 : Bool := op == 1
  let b12 : Bool := a != 0
  let b13 : Bool := b != 0
  let p14 : Bool := (b12 && b13)
  let r15 : Int := S.ref09_bit p14
  let b16 : Bool := op == 2
  let b17 : Bool := a == b
  let r18 : Int := S.ref09_bit b17
  let b19 : Bool := op == 3
  let b20 : Bool := a != b
  let r21 : Int := S.ref09_bit b20
  let b22 : Bool := op == 4
  let r23 : Bool := S.ref09_less a b
  let r24 : Int := S.ref09_bit r23
  let b25 : Bool := op == 5
  let r26 : Bool := S.ref09_less b a
  let b27 : Bool := !r26
  let r28 : Int := S.ref09_bit b27
  let b29 : Bool := op == 6
  let r30 : Bool := S.ref09_less b a
  let r31 : Int := S.ref09_bit r30
  let b32 : Bool := op == 7
  let r33 : Bool := S.ref09_less a b
  let b34 : Bool := !r33
  let r35 : Int := S.ref09_bit b34
  let b36 : Bool := op == 8
  let b37 : Bool := op == 9
  let b38 : Bool := op == 10
  let t39 : Int := IntKind.i64.wrap (op - 8)
  let r40 : Int := S.ref09_each a b t39
  let b41 : Bool := op == 11
  let r42 : Int := S.ref09_Shift b
  let r43 : Int := S.ref09_shift a r42
  let b44 : Bool := op == 12
  let r45 : Int := S.ref09_Shift b
  let t46 : Int := IntKind.i64.wrap (0 - r45)
  let r47 : Int := S.ref09_shift a t46
  let b48 : Bool := op == 13
  let r49 : Int := S.ref09_add a b
  let b50 : Bool := op == 14
  let r51 : Int := S.ref09_neg b
  let r52 : Int := S.ref09_add a r51
  let b53 : Bool := op == 15
  let r54 : Int := S.ref09_mul a b
  let b55 : Bool := op == 16
  let r56 : Int := S.ref09_quotient a b
  let b57 : Bool := op == 17
  let r58 : Int := S.ref09_quotient a b
  let r59 : Int := S.ref09_mul r58 b
  let r60 : Int := S.ref09_neg r59
  let r61 : Int := S.ref09_add a r60
  (bif p5 then (0, false) else (bif b6 then (r10, true) else (bif b11 then (r15, true) else (bif b16 then (r18, true) else (bif b19 then (r21, true) else (bif b22 then (r24, true) else (bif b25 then (r28, true) else (bif b29 then (r31, true) else (bif b32 then (r35, true) else (bif (bif b36 then b36 else (bif b37 then b37 else b38)) then (r40, true) else (bif b41 then (r43, true) else (bif b44 then (r47, true) else (bif b48 then (r49, true) else (bif b50 then (r52, true) else (bif b53 then (r54, true) else (bif b55 then (r56, true) else (bif b57 then (r61, true) else (0, false))))))))))))))))))
def S.ref09_Do_pre (op : Int) (a : Int) (b : Int) : Prop :=
  let b1 : Bool := op == 16
  let b2 : Bool := op == 17
  let p3 : Bool := (b1 || b2)
  let b4 : Bool := b == 0
  let p5 : Bool := (p3 && b4)
  let b6 : Bool := op == 0
  let b11 : Bool := op == 1
  let b16 : Bool := op == 2
  let b19 : Bool := op == 3
  let b22 : Bool := op == 4
  let b25 : Bool := op == 5
  let b29 : Bool := op == 6
  let b32 : Bool := op == 7
  let b36 : Bool := op == 8
  let b37 : Bool := op == 9
  let b38 : Bool := op == 10
  let t39 : Int := IntKind.i64.wrap (op - 8)
  let b41 : Bool := op == 11
  let r42 : Int := S.ref09_Shift b
  let b44 : Bool := op == 12
  let r45 : Int := S.ref09_Shift b
  let t46 : Int := IntKind.i64.wrap (0 - r45)
  let b48 : Bool := op == 13
  let b50 : Bool := op == 14
  let r51 : Int := S.ref09_neg b
  let b53 : Bool := op == 15
  let b55 : Bool := op == 16
  let b57 : Bool := op == 17
  let r58 : Int := S.ref09_quotient a b
  let r59 : Int := S.ref09_mul r58 b
  let r60 : Int := S.ref09_neg r59
  ((p5 = true → True) ∧ (p5 = false → ((b6 = true → True) ∧ (b6 = false → ((b11 = true → True) ∧ (b11 = false → ((b16 = true → True) ∧ (b16 = false → ((b19 = true → True) ∧ (b19 = false → ((b22 = true → (All [S.ref09_less_pre a b] ∧ True)) ∧ (b22 = false → ((b25 = true → (All [S.ref09_less_pre b a] ∧ True)) ∧ (b25 = false → ((b29 = true → (All [S.ref09_less_pre b a] ∧ True)) ∧ (b29 = false → ((b32 = true → (All [S.ref09_less_pre a b] ∧ True)) ∧ (b32 = false → (((bif b36 then b36 else (bif b37 then b37 else b38)) = true → (All [S.ref09_each_pre a b t39] ∧ True)) ∧ ((bif b36 then b36 else (bif b37 then b37 else b38)) = false → ((b41 = true → (All [S.ref09_Shift_pre b, S.ref09_shift_pre a r42] ∧ True)) ∧ (b41 = false → ((b44 = true → (All [S.ref09_Shift_pre b, S.ref09_shift_pre a t46] ∧ True)) ∧ (b44 = false → ((b48 = true → (All [S.ref09_add_pre a b] ∧ True)) ∧ (b48 = false → ((b50 = true → (All [S.ref09_neg_pre b, S.ref09_add_pre a r51] ∧ True)) ∧ (b50 = false → ((b53 = true → (All [S.ref09_mul_pre a b] ∧ True)) ∧ (b53 = false → ((b55 = true → (All [S.ref09_quotient_pre a b] ∧ True)) ∧ (b55 = false → ((b57 = true → (All [S.ref09_quotient_pre a b, S.ref09_mul_pre r58 b, S.ref09_neg_pre r59, S.ref09_add_pre a r60] ∧ True)) ∧ (b57 = false → True))))))))))))))))))))))))))))))))))
/-- word.One -/
def S.word_One (op : Int) (a : Int) : Int × Bool :=
  let b1 : Bool := op == 18
  let t2 : Int := IntKind.i64.wrap (0 - a)
  let b3 : Bool := op == 19
  let r4 : Bool := S.word_Truth a
  let b5 : Bool := !r4
  let r6 : Int := S.word_Bit b5
  let b7 : Bool := op == 20
  let t8 : Int := bits .xor .i64 (if IntKind.i64.signed then -1 else IntKind.i64.max) a
  (bif b1 then (t2, true) else (bif b3 then (r6, true) else (bif b7 then (t8, true) else (0, false))))
/-- sieveholesref09.One -/
noncomputable def S.ref09_One (op : Int) (a : Int) : Int × Bool :=
  let b1 : Bool := op == 18
  let r2 : Int := S.ref09_neg a
  let b3 : Bool := op == 19
  let b4 : Bool := a == 0
  let r5 : Int := S.ref09_bit b4
  let b6 : Bool := op == 20
  let r7 : Int := S.ref09_Inv a
  (bif b1 then (r2, true) else (bif b3 then (r5, true) else (bif b6 then (r7, true) else (0, false))))
def S.ref09_One_pre (op : Int) (a : Int) : Prop :=
  let b1 : Bool := op == 18
  let b3 : Bool := op == 19
  let b6 : Bool := op == 20
  ((b1 = true → (All [S.ref09_neg_pre a] ∧ True)) ∧ (b1 = false → ((b3 = true → True) ∧ (b3 = false → ((b6 = true → (All [S.ref09_Inv_pre a] ∧ True)) ∧ (b6 = false → True))))))
/-- sieveholeslaw09.less -/
noncomputable def S.law09_less (a : Int) (b : Int) : Int :=
  let r1 : Int × Bool := S.ref09_Do 4 a b
  r1.1
def S.law09_less_pre (a : Int) (b : Int) : Prop :=
  (All [S.ref09_Do_pre 4 a b] ∧ True)
/-- sieveholeslaw09.makes -/
def S.law09_makes (op : Int) (a : Int) (b : Int) (want : Int) : Bool :=
  let r1 : Int × Bool := S.word_Do op a b
  let b2 : Bool := r1.1 == want
  let p3 : Bool := (r1.2 && b2)
  p3
def S.law09_makes_pre (op : Int) (a : Int) (b : Int) (want : Int) : Prop :=
  (All [S.word_Do_pre op a b] ∧ True)
/-- sieveholeslaw09.works -/
def S.law09_works : Bool :=
  let r1 : Int × Bool := S.word_Do 16 1 0
  let r2 : Bool := S.law09_makes 13 9223372036854775807 1 (-9223372036854775808)
  let r3 : Bool := S.law09_makes 16 (-7) 2 (-3)
  let p4 : Bool := (r2 && r3)
  let r5 : Bool := S.law09_makes 17 (-7) 2 (-1)
  let p6 : Bool := (p4 && r5)
  let r7 : Bool := S.law09_makes 16 (-9223372036854775808) (-1) (-9223372036854775808)
  let p8 : Bool := (p6 && r7)
  let r9 : Bool := S.law09_makes 17 (-9223372036854775808) (-1) 0
  let p10 : Bool := (p8 && r9)
  let r11 : Bool := S.law09_makes 12 (-1) 70 (-1)
  let p12 : Bool := (p10 && r11)
  let r13 : Bool := S.law09_makes 11 3 (-1) (-9223372036854775808)
  let p14 : Bool := (p12 && r13)
  let b15 : Bool := r1.1 == 0
  let p16 : Bool := (p14 && b15)
  let b17 : Bool := !r1.2
  let p18 : Bool := (p16 && b17)
  p18
def S.law09_works_pre : Prop :=
  let r2 : Bool := S.law09_makes 13 9223372036854775807 1 (-9223372036854775808)
  let r3 : Bool := S.law09_makes 16 (-7) 2 (-3)
  let p4 : Bool := (r2 && r3)
  let r5 : Bool := S.law09_makes 17 (-7) 2 (-1)
  let p6 : Bool := (p4 && r5)
  let r7 : Bool := S.law09_makes 16 (-9223372036854775808) (-1) (-9223372036854775808)
  let p8 : Bool := (p6 && r7)
  let r9 : Bool := S.law09_makes 17 (-9223372036854775808) (-1) 0
  let p10 : Bool := (p8 && r9)
  let r11 : Bool := S.law09_makes 12 (-1) 70 (-1)
  let p12 : Bool := (p10 && r11)
  (All [S.word_Do_pre 16 1 0, S.law09_makes_pre 13 9223372036854775807 1 (-9223372036854775808), (r2 = true → S.law09_makes_pre 16 (-7) 2 (-3)), (p4 = true → S.law09_makes_pre 17 (-7) 2 (-1)), (p6 = true → S.law09_makes_pre 16 (-9223372036854775808) (-1) (-9223372036854775808)), (p8 = true → S.law09_makes_pre 17 (-9223372036854775808) (-1) 0), (p10 = true → S.law09_makes_pre 12 (-1) 70 (-1)), (p12 = true → S.law09_makes_pre 11 3 (-1) (-9223372036854775808))] ∧ True)
/-- sieveholeslaw09.WordDoes -/
noncomputable def S.law09_WordDoes (op : Int) (a : Int) (b : Int) : Bool :=
  let r1 : Int × Bool := S.word_Do op a b
  let r2 : Int × Bool := S.ref09_Do op a b
  let r3 : Int × Bool := S.word_One op a
  let r4 : Int × Bool := S.ref09_One op a
  let b5 : Bool := r1.1 == r2.1
  let b6 : Bool := r1.2 == r2.2
  let p7 : Bool := (b5 && b6)
  let b8 : Bool := r3.1 == r4.1
  let p9 : Bool := (p7 && b8)
  let b10 : Bool := r3.2 == r4.2
  let p11 : Bool := (p9 && b10)
  let r12 : Bool := S.word_Truth a
  let b13 : Bool := a != 0
  let b14 : Bool := r12 == b13
  let p15 : Bool := (p11 && b14)
  let b16 : Bool := decide (a < b)
  let r17 : Int := S.word_Bit b16
  let r18 : Int := S.law09_less a b
  let b19 : Bool := r17 == r18
  let p20 : Bool := (p15 && b19)
  let r21 : Int := S.word_Shift b
  let t22 : Int := IntKind.i64.wrap r21
  let r23 : Int := S.ref09_Shift b
  let b24 : Bool := t22 == r23
  let p25 : Bool := (p20 && b24)
  let r26 : Bool := S.word_Traps op
  let b27 : Bool := op == 16
  let b28 : Bool := op == 17
  let p29 : Bool := (b27 || b28)
  let b30 : Bool := r26 == p29
  let p31 : Bool := (p25 && b30)
  let r32 : Bool := S.law09_works
  let p33 : Bool := (p31 && r32)
  p33
def S.law09_WordDoes_pre (op : Int) (a : Int) (b : Int) : Prop :=
  let r1 : Int × Bool := S.word_Do op a b
  let r2 : Int × Bool := S.ref09_Do op a b
  let r3 : Int × Bool := S.word_One op a
  let r4 : Int × Bool := S.ref09_One op a
  let b5 : Bool := r1.1 == r2.1
  let b6 : Bool := r1.2 == r2.2
  let p7 : Bool := (b5 && b6)
  let b8 : Bool := r3.1 == r4.1
  let p9 : Bool := (p7 && b8)
  let b10 : Bool := r3.2 == r4.2
  let p11 : Bool := (p9 && b10)
  let r12 : Bool := S.word_Truth a
  let b13 : Bool := a != 0
  let b14 : Bool := r12 == b13
  let p15 : Bool := (p11 && b14)
  let b16 : Bool := decide (a < b)
  let r17 : Int := S.word_Bit b16
  let r18 : Int := S.law09_less a b
  let b19 : Bool := r17 == r18
  let p20 : Bool := (p15 && b19)
  let r21 : Int := S.word_Shift b
  let t22 : Int := IntKind.i64.wrap r21
  let r23 : Int := S.ref09_Shift b
  let b24 : Bool := t22 == r23
  let p25 : Bool := (p20 && b24)
  let r26 : Bool := S.word_Traps op
  let b27 : Bool := op == 16
  let b28 : Bool := op == 17
  let p29 : Bool := (b27 || b28)
  let b30 : Bool := r26 == p29
  let p31 : Bool := (p25 && b30)
  (All [S.word_Do_pre op a b, S.ref09_Do_pre op a b, S.ref09_One_pre op a, (p15 = true → S.law09_less_pre a b), (p20 = true → S.ref09_Shift_pre b), (p31 = true → S.law09_works_pre)] ∧ True)
/-- sieveholeslaw09.WordLaws -/
def S.law09_WordLaws (a : Int) (b : Int) : Bool :=
  let r1 : Int × Bool := S.word_Do 16 a b
  let r2 : Int × Bool := S.word_Do 17 a b
  let b3 : Bool := b != 0
  let b4 : Bool := !(r1.2 == b3)
  let b5 : Bool := !(r2.2 == r1.2)
  let p6 : Bool := (b4 || b5)
  let r7 : Int × Bool := S.word_Do 15 r1.1 b
  let r8 : Int × Bool := S.word_Do 13 r7.1 r2.1
  let b9 : Bool := r8.1 != a
  let b10 : Bool := r2.1 != 0
  let b11 : Bool := decide (r2.1 < 0)
  let b12 : Bool := decide (a < 0)
  let b13 : Bool := !(b11 == b12)
  let p14 : Bool := (b10 && b13)
  let p15 : Bool := (b9 || p14)
  let b16 : Bool := decide (b > 0)
  let b17 : Bool := decide (r2.1 ≥ b)
  let t18 : Int := IntKind.i64.wrap (0 - b)
  let b19 : Bool := decide (r2.1 ≤ t18)
  let p20 : Bool := (b17 || b19)
  let p21 : Bool := (b16 && p20)
  let p22 : Bool := (p15 || p21)
  let b23 : Bool := decide (b < 0)
  let b24 : Bool := b != (-9223372036854775808)
  let p25 : Bool := (b23 && b24)
  let t26 : Int := IntKind.i64.wrap (0 - b)
  let b27 : Bool := decide (r2.1 ≥ t26)
  let b28 : Bool := decide (r2.1 ≤ b)
  let p29 : Bool := (b27 || b28)
  let p30 : Bool := (p25 && p29)
  let p31 : Bool := (p22 || p30)
  let r32 : Int × Bool := S.word_Do 11 a b
  let r33 : Int × Bool := S.word_Do 12 r32.1 b
  let r34 : Int := S.word_Shift b
  let t35 : Int := IntKind.u64.wrap (63 - r34)
  let t36 : Int := Int.fdiv a (2 ^ min (Int.toNat t35) 64)
  let b37 : Bool := decide (r34 < 64)
  let b38 : Bool := t36 == 0
  let b39 : Bool := t36 == (-1)
  let p40 : Bool := (b38 || b39)
  let p41 : Bool := (b37 && p40)
  let b42 : Bool := r33.1 != a
  let p43 : Bool := (p41 && b42)
  let r44 : Int × Bool := S.word_Do 4 a b
  let r45 : Int × Bool := S.word_Do 2 a b
  let r46 : Int × Bool := S.word_Do 6 a b
  let r47 : Int × Bool := S.word_Do 5 a b
  let r48 : Int × Bool := S.word_Do 7 a b
  let r49 : Int × Bool := S.word_Do 3 a b
  let r50 : Int × Bool := S.word_One 20 a
  let r51 : Int × Bool := S.word_One 18 a
  let r52 : Int × Bool := S.word_Do 14 r51.1 1
  let r53 : Int × Bool := S.word_One 20 r50.1
  let t54 : Int := IntKind.i64.wrap (r44.1 + r45.1)
  let t55 : Int := IntKind.i64.wrap (t54 + r46.1)
  let b56 : Bool := t55 == 1
  let t57 : Int := IntKind.i64.wrap (r44.1 + r45.1)
  let b58 : Bool := r47.1 == t57
  let p59 : Bool := (b56 && b58)
  let t60 : Int := IntKind.i64.wrap (r46.1 + r45.1)
  let b61 : Bool := r48.1 == t60
  let p62 : Bool := (p59 && b61)
  let t63 : Int := IntKind.i64.wrap (1 - r45.1)
  let b64 : Bool := r49.1 == t63
  let p65 : Bool := (p62 && b64)
  let b66 : Bool := r50.1 == r52.1
  let p67 : Bool := (p65 && b66)
  let b68 : Bool := r53.1 == a
  let p69 : Bool := (p67 && b68)
  let r70 : Bool := S.law09_works
  let p71 : Bool := (p69 && r70)
  let r72 : Int × Bool := S.word_Do 11 a b
  let r73 : Int × Bool := S.word_Do 12 r72.1 b
  let r74 : Int := S.word_Shift b
  let t75 : Int := IntKind.u64.wrap (63 - r74)
  let t76 : Int := Int.fdiv a (2 ^ min (Int.toNat t75) 64)
  let b77 : Bool := decide (r74 < 64)
  let b78 : Bool := t76 == 0
  let b79 : Bool := t76 == (-1)
  let p80 : Bool := (b78 || b79)
  let p81 : Bool := (b77 && p80)
  let b82 : Bool := r73.1 != a
  let p83 : Bool := (p81 && b82)
  let r84 : Int × Bool := S.word_Do 4 a b
  let r85 : Int × Bool := S.word_Do 2 a b
  let r86 : Int × Bool := S.word_Do 6 a b
  let r87 : Int × Bool := S.word_Do 5 a b
  let r88 : Int × Bool := S.word_Do 7 a b
  let r89 : Int × Bool := S.word_Do 3 a b
  let r90 : Int × Bool := S.word_One 20 a
  let r91 : Int × Bool := S.word_One 18 a
  let r92 : Int × Bool := S.word_Do 14 r91.1 1
  let r93 : Int × Bool := S.word_One 20 r90.1
  let t94 : Int := IntKind.i64.wrap (r84.1 + r85.1)
  let t95 : Int := IntKind.i64.wrap (t94 + r86.1)
  let b96 : Bool := t95 == 1
  let t97 : Int := IntKind.i64.wrap (r84.1 + r85.1)
  let b98 : Bool := r87.1 == t97
  let p99 : Bool := (b96 && b98)
  let t100 : Int := IntKind.i64.wrap (r86.1 + r85.1)
  let b101 : Bool := r88.1 == t100
  let p102 : Bool := (p99 && b101)
  let t103 : Int := IntKind.i64.wrap (1 - r85.1)
  let b104 : Bool := r89.1 == t103
  let p105 : Bool := (p102 && b104)
  let b106 : Bool := r90.1 == r92.1
  let p107 : Bool := (p105 && b106)
  let b108 : Bool := r93.1 == a
  let p109 : Bool := (p107 && b108)
  let r110 : Bool := S.law09_works
  let p111 : Bool := (p109 && r110)
  (bif p6 then false else (bif r1.2 then (bif p31 then false else (bif p43 then false else p71)) else (bif p83 then false else p111)))
def S.law09_WordLaws_pre (a : Int) (b : Int) : Prop :=
  let r1 : Int × Bool := S.word_Do 16 a b
  let r2 : Int × Bool := S.word_Do 17 a b
  let b3 : Bool := b != 0
  let b4 : Bool := !(r1.2 == b3)
  let b5 : Bool := !(r2.2 == r1.2)
  let p6 : Bool := (b4 || b5)
  let r7 : Int × Bool := S.word_Do 15 r1.1 b
  let r8 : Int × Bool := S.word_Do 13 r7.1 r2.1
  let b9 : Bool := r8.1 != a
  let b10 : Bool := r2.1 != 0
  let b11 : Bool := decide (r2.1 < 0)
  let b12 : Bool := decide (a < 0)
  let b13 : Bool := !(b11 == b12)
  let p14 : Bool := (b10 && b13)
  let p15 : Bool := (b9 || p14)
  let b16 : Bool := decide (b > 0)
  let b17 : Bool := decide (r2.1 ≥ b)
  let t18 : Int := IntKind.i64.wrap (0 - b)
  let b19 : Bool := decide (r2.1 ≤ t18)
  let p20 : Bool := (b17 || b19)
  let p21 : Bool := (b16 && p20)
  let p22 : Bool := (p15 || p21)
  let b23 : Bool := decide (b < 0)
  let b24 : Bool := b != (-9223372036854775808)
  let p25 : Bool := (b23 && b24)
  let t26 : Int := IntKind.i64.wrap (0 - b)
  let b27 : Bool := decide (r2.1 ≥ t26)
  let b28 : Bool := decide (r2.1 ≤ b)
  let p29 : Bool := (b27 || b28)
  let p30 : Bool := (p25 && p29)
  let p31 : Bool := (p22 || p30)
  let r32 : Int × Bool := S.word_Do 11 a b
  let r33 : Int × Bool := S.word_Do 12 r32.1 b
  let r34 : Int := S.word_Shift b
  let t35 : Int := IntKind.u64.wrap (63 - r34)
  let t36 : Int := Int.fdiv a (2 ^ min (Int.toNat t35) 64)
  let b37 : Bool := decide (r34 < 64)
  let b38 : Bool := t36 == 0
  let b39 : Bool := t36 == (-1)
  let p40 : Bool := (b38 || b39)
  let p41 : Bool := (b37 && p40)
  let b42 : Bool := r33.1 != a
  let p43 : Bool := (p41 && b42)
  let r44 : Int × Bool := S.word_Do 4 a b
  let r45 : Int × Bool := S.word_Do 2 a b
  let r46 : Int × Bool := S.word_Do 6 a b
  let r47 : Int × Bool := S.word_Do 5 a b
  let r48 : Int × Bool := S.word_Do 7 a b
  let r49 : Int × Bool := S.word_Do 3 a b
  let r50 : Int × Bool := S.word_One 20 a
  let r51 : Int × Bool := S.word_One 18 a
  let r52 : Int × Bool := S.word_Do 14 r51.1 1
  let r53 : Int × Bool := S.word_One 20 r50.1
  let t54 : Int := IntKind.i64.wrap (r44.1 + r45.1)
  let t55 : Int := IntKind.i64.wrap (t54 + r46.1)
  let b56 : Bool := t55 == 1
  let t57 : Int := IntKind.i64.wrap (r44.1 + r45.1)
  let b58 : Bool := r47.1 == t57
  let p59 : Bool := (b56 && b58)
  let t60 : Int := IntKind.i64.wrap (r46.1 + r45.1)
  let b61 : Bool := r48.1 == t60
  let p62 : Bool := (p59 && b61)
  let t63 : Int := IntKind.i64.wrap (1 - r45.1)
  let b64 : Bool := r49.1 == t63
  let p65 : Bool := (p62 && b64)
  let b66 : Bool := r50.1 == r52.1
  let p67 : Bool := (p65 && b66)
  let b68 : Bool := r53.1 == a
  let p69 : Bool := (p67 && b68)
  let r72 : Int × Bool := S.word_Do 11 a b
  let r73 : Int × Bool := S.word_Do 12 r72.1 b
  let r74 : Int := S.word_Shift b
  let t75 : Int := IntKind.u64.wrap (63 - r74)
  let t76 : Int := Int.fdiv a (2 ^ min (Int.toNat t75) 64)
  let b77 : Bool := decide (r74 < 64)
  let b78 : Bool := t76 == 0
  let b79 : Bool := t76 == (-1)
  let p80 : Bool := (b78 || b79)
  let p81 : Bool := (b77 && p80)
  let b82 : Bool := r73.1 != a
  let p83 : Bool := (p81 && b82)
  let r84 : Int × Bool := S.word_Do 4 a b
  let r85 : Int × Bool := S.word_Do 2 a b
  let r86 : Int × Bool := S.word_Do 6 a b
  let r87 : Int × Bool := S.word_Do 5 a b
  let r88 : Int × Bool := S.word_Do 7 a b
  let r89 : Int × Bool := S.word_Do 3 a b
  let r90 : Int × Bool := S.word_One 20 a
  let r91 : Int × Bool := S.word_One 18 a
  let r92 : Int × Bool := S.word_Do 14 r91.1 1
  let r93 : Int × Bool := S.word_One 20 r90.1
  let t94 : Int := IntKind.i64.wrap (r84.1 + r85.1)
  let t95 : Int := IntKind.i64.wrap (t94 + r86.1)
  let b96 : Bool := t95 == 1
  let t97 : Int := IntKind.i64.wrap (r84.1 + r85.1)
  let b98 : Bool := r87.1 == t97
  let p99 : Bool := (b96 && b98)
  let t100 : Int := IntKind.i64.wrap (r86.1 + r85.1)
  let b101 : Bool := r88.1 == t100
  let p102 : Bool := (p99 && b101)
  let t103 : Int := IntKind.i64.wrap (1 - r85.1)
  let b104 : Bool := r89.1 == t103
  let p105 : Bool := (p102 && b104)
  let b106 : Bool := r90.1 == r92.1
  let p107 : Bool := (p105 && b106)
  let b108 : Bool := r93.1 == a
  let p109 : Bool := (p107 && b108)
  (All [S.word_Do_pre 16 a b, S.word_Do_pre 17 a b] ∧ ((p6 = true → True) ∧ (p6 = false → ((r1.2 = true → (All [S.word_Do_pre 15 r1.1 b, S.word_Do_pre 13 r7.1 r2.1] ∧ ((p31 = true → True) ∧ (p31 = false → (All [S.word_Do_pre 11 a b, S.word_Do_pre 12 r32.1 b, (0 : Int) ≤ t35] ∧ ((p43 = true → True) ∧ (p43 = false → (All [S.word_Do_pre 4 a b, S.word_Do_pre 2 a b, S.word_Do_pre 6 a b, S.word_Do_pre 5 a b, S.word_Do_pre 7 a b, S.word_Do_pre 3 a b, S.word_Do_pre 14 r51.1 1, (p69 = true → S.law09_works_pre)] ∧ True)))))))) ∧ (r1.2 = false → (All [S.word_Do_pre 11 a b, S.word_Do_pre 12 r72.1 b, (0 : Int) ≤ t75] ∧ ((p83 = true → True) ∧ (p83 = false → (All [S.word_Do_pre 4 a b, S.word_Do_pre 2 a b, S.word_Do_pre 6 a b, S.word_Do_pre 5 a b, S.word_Do_pre 7 a b, S.word_Do_pre 3 a b, S.word_Do_pre 14 r91.1 1, (p109 = true → S.law09_works_pre)] ∧ True)))))))))
@[ext] structure S.law09_WordKnown_L4 where
  t0 : Bool
  l : (List Int)
  i : Int
  k : Int
  op : Int
noncomputable def S.law09_WordKnown_L4_step (x : S.law09_WordKnown_L4) : S.law09_WordKnown_L4 ⊕ (Bool × S.law09_WordKnown_L4) :=
  let b1 : Bool := decide (x.op < 22)
  let e2 : Int := x.l.getD (Int.toNat x.i) 0
  let e3 : Int := x.l.getD (Int.toNat x.k) 0
  let r4 : Bool := S.law09_WordDoes x.op e2 e3
  let b5 : Bool := !r4
  let t6 : Int := IntKind.i64.wrap (x.op + 1)
  (bif b1 then (bif b5 then (.inr ⟨true, ⟨false, x.l, x.i, x.k, x.op⟩⟩) else (.inl ⟨x.t0, x.l, x.i, x.k, t6⟩)) else (.inr ⟨false, ⟨x.t0, x.l, x.i, x.k, x.op⟩⟩))
noncomputable def S.law09_WordKnown_L4_vcs (x : S.law09_WordKnown_L4) : Prop :=
  let b1 : Bool := decide (x.op < 22)
  let e2 : Int := x.l.getD (Int.toNat x.i) 0
  let e3 : Int := x.l.getD (Int.toNat x.k) 0
  let r4 : Bool := S.law09_WordDoes x.op e2 e3
  let b5 : Bool := !r4
  ((b1 = true → (All [(0 : Int) ≤ x.i, x.i < (x.l.length : Int), (0 : Int) ≤ x.k, x.k < (x.l.length : Int), S.law09_WordDoes_pre x.op e2 e3] ∧ ((b5 = true → True) ∧ (b5 = false → True)))) ∧ (b1 = false → True))
noncomputable def S.law09_WordKnown_L4_run (x : S.law09_WordKnown_L4) : Bool × S.law09_WordKnown_L4 := theRun (fun x => ⟨true, x⟩) S.law09_WordKnown_L4_step S.law09_WordKnown_L4_vcs x
@[ext] structure S.law09_WordKnown_L2 where
  t0 : Bool
  l : (List Int)
  i : Int
  k : Int
noncomputable def S.law09_WordKnown_L2_step (x : S.law09_WordKnown_L2) : S.law09_WordKnown_L2 ⊕ (Bool × S.law09_WordKnown_L2) :=
  let b1 : Bool := decide (x.k < (x.l.length : Int))
  let x2 : S.law09_WordKnown_L4 := (⟨x.t0, x.l, x.i, x.k, (-1)⟩ : S.law09_WordKnown_L4)
  let y3 : Bool × S.law09_WordKnown_L4 := S.law09_WordKnown_L4_run x2
  let e4 : Int := y3.2.l.getD (Int.toNat y3.2.i) 0
  let e5 : Int := y3.2.l.getD (Int.toNat y3.2.k) 0
  let r6 : Bool := S.law09_WordLaws e4 e5
  let b7 : Bool := !r6
  let t8 : Int := IntKind.i64.wrap (y3.2.k + 1)
  (bif b1 then (bif y3.1 then (.inr ⟨true, ⟨y3.2.t0, y3.2.l, y3.2.i, y3.2.k⟩⟩) else (bif b7 then (.inr ⟨true, ⟨false, y3.2.l, y3.2.i, y3.2.k⟩⟩) else (.inl ⟨y3.2.t0, y3.2.l, y3.2.i, t8⟩))) else (.inr ⟨false, ⟨x.t0, x.l, x.i, x.k⟩⟩))
noncomputable def S.law09_WordKnown_L2_vcs (x : S.law09_WordKnown_L2) : Prop :=
  let b1 : Bool := decide (x.k < (x.l.length : Int))
  let x2 : S.law09_WordKnown_L4 := (⟨x.t0, x.l, x.i, x.k, (-1)⟩ : S.law09_WordKnown_L4)
  let y3 : Bool × S.law09_WordKnown_L4 := S.law09_WordKnown_L4_run x2
  let e4 : Int := y3.2.l.getD (Int.toNat y3.2.i) 0
  let e5 : Int := y3.2.l.getD (Int.toNat y3.2.k) 0
  let r6 : Bool := S.law09_WordLaws e4 e5
  let b7 : Bool := !r6
  ((b1 = true → (All [Runs S.law09_WordKnown_L4_step S.law09_WordKnown_L4_vcs x2 (S.law09_WordKnown_L4_run x2)] ∧ ((y3.1 = true → True) ∧ (y3.1 = false → (All [(0 : Int) ≤ y3.2.i, y3.2.i < (y3.2.l.length : Int), (0 : Int) ≤ y3.2.k, y3.2.k < (y3.2.l.length : Int), S.law09_WordLaws_pre e4 e5] ∧ ((b7 = true → True) ∧ (b7 = false → True))))))) ∧ (b1 = false → True))
noncomputable def S.law09_WordKnown_L2_run (x : S.law09_WordKnown_L2) : Bool × S.law09_WordKnown_L2 := theRun (fun x => ⟨true, x⟩) S.law09_WordKnown_L2_step S.law09_WordKnown_L2_vcs x
@[ext] structure S.law09_WordKnown_L0 where
  t0 : Bool
  l : (List Int)
  i : Int
noncomputable def S.law09_WordKnown_L0_step (x : S.law09_WordKnown_L0) : S.law09_WordKnown_L0 ⊕ (Bool × S.law09_WordKnown_L0) :=
  let b1 : Bool := decide (x.i < (x.l.length : Int))
  let x2 : S.law09_WordKnown_L2 := (⟨x.t0, x.l, x.i, 0⟩ : S.law09_WordKnown_L2)
  let y3 : Bool × S.law09_WordKnown_L2 := S.law09_WordKnown_L2_run x2
  let t4 : Int := IntKind.i64.wrap (y3.2.i + 1)
  (bif b1 then (bif y3.1 then (.inr ⟨true, ⟨y3.2.t0, y3.2.l, y3.2.i⟩⟩) else (.inl ⟨y3.2.t0, y3.2.l, t4⟩)) else (.inr ⟨false, ⟨x.t0, x.l, x.i⟩⟩))
noncomputable def S.law09_WordKnown_L0_vcs (x : S.law09_WordKnown_L0) : Prop :=
  let b1 : Bool := decide (x.i < (x.l.length : Int))
  let x2 : S.law09_WordKnown_L2 := (⟨x.t0, x.l, x.i, 0⟩ : S.law09_WordKnown_L2)
  let y3 : Bool × S.law09_WordKnown_L2 := S.law09_WordKnown_L2_run x2
  ((b1 = true → (All [Runs S.law09_WordKnown_L2_step S.law09_WordKnown_L2_vcs x2 (S.law09_WordKnown_L2_run x2)] ∧ ((y3.1 = true → True) ∧ (y3.1 = false → True)))) ∧ (b1 = false → True))
noncomputable def S.law09_WordKnown_L0_run (x : S.law09_WordKnown_L0) : Bool × S.law09_WordKnown_L0 := theRun (fun x => ⟨true, x⟩) S.law09_WordKnown_L0_step S.law09_WordKnown_L0_vcs x
/-- sieveholeslaw09.WordKnown -/
noncomputable def S.law09_WordKnown : Bool :=
  let x1 : S.law09_WordKnown_L0 := (⟨false, ([0, 1, (-1), 2, (-2), 3, 7, (-7), 62, 63, 64, 65, 2147483648, (-2147483648), 4611686018427387904, 4611686018427387909, 9223372036854775807, 9223372036854775806, (-9223372036854775808), (-9223372036854775807)] : List Int), 0⟩ : S.law09_WordKnown_L0)
  let y2 : Bool × S.law09_WordKnown_L0 := S.law09_WordKnown_L0_run x1
  let r3 : Bool := S.law09_works
  (bif y2.1 then y2.2.t0 else r3)
def S.law09_WordKnown_pre : Prop :=
  let x1 : S.law09_WordKnown_L0 := (⟨false, ([0, 1, (-1), 2, (-2), 3, 7, (-7), 62, 63, 64, 65, 2147483648, (-2147483648), 4611686018427387904, 4611686018427387909, 9223372036854775807, 9223372036854775806, (-9223372036854775808), (-9223372036854775807)] : List Int), 0⟩ : S.law09_WordKnown_L0)
  let y2 : Bool × S.law09_WordKnown_L0 := S.law09_WordKnown_L0_run x1
  (All [Runs S.law09_WordKnown_L0_step S.law09_WordKnown_L0_vcs x1 (S.law09_WordKnown_L0_run x1)] ∧ ((y2.1 = true → True) ∧ (y2.1 = false → (All [S.law09_works_pre] ∧ True))))
