/-
  Printed by a program: functions that this program's statement does not reach, but the plain texts name. Conditions: none.
-/
import Derived.Test.YthplfkeecpkmhaaGreatDoorKDDefs
set_option linter.all false
open Go Vm
@[ext] structure S.ref01_trim_L0 where
  out : (List Int)
def S.ref01_trim_L0_step (x : S.ref01_trim_L0) : S.ref01_trim_L0 ⊕ (S.ref01_trim_L0) :=
  let b1 : Bool := decide ((x.out.length : Int) > 0)
  let t2 : Int := IntKind.i64.wrap ((x.out.length : Int) - 1)
  let e3 : Int := x.out.getD (Int.toNat t2) 0
  let b4 : Bool := e3 == 0
  let p5 : Bool := (b1 && b4)
  let t6 : Int := IntKind.i64.wrap ((x.out.length : Int) - 1)
  let l7 : (List Int) := x.out.take (Int.toNat t6)
  (bif p5 then (.inl ⟨l7⟩) else (.inr ⟨x.out⟩))
def S.ref01_trim_L0_vcs (x : S.ref01_trim_L0) : Prop :=
  let b1 : Bool := decide ((x.out.length : Int) > 0)
  let t2 : Int := IntKind.i64.wrap ((x.out.length : Int) - 1)
  let e3 : Int := x.out.getD (Int.toNat t2) 0
  let b4 : Bool := e3 == 0
  let p5 : Bool := (b1 && b4)
  let t6 : Int := IntKind.i64.wrap ((x.out.length : Int) - 1)
  (All [(b1 = true → ((0 : Int) ≤ t2 ∧ t2 < (x.out.length : Int)))] ∧ ((p5 = true → (All [(0 : Int) ≤ t6, t6 ≤ (x.out.length : Int)] ∧ True)) ∧ (p5 = false → True)))
noncomputable def S.ref01_trim_L0_run (x : S.ref01_trim_L0) : S.ref01_trim_L0 := theRun (fun x => x) S.ref01_trim_L0_step S.ref01_trim_L0_vcs x
noncomputable def S.ref01_trim (l : (List Int)) : (List Int) :=
  let l1 : List Int := ([] : List Int) ++ l
  let x2 : S.ref01_trim_L0 := (⟨l1⟩ : S.ref01_trim_L0)
  let y3 : S.ref01_trim_L0 := S.ref01_trim_L0_run x2
  y3.out
def S.ref01_trim_pre (l : (List Int)) : Prop :=
  let l1 : List Int := ([] : List Int) ++ l
  let x2 : S.ref01_trim_L0 := (⟨l1⟩ : S.ref01_trim_L0)
  (All [((([] : List Int).length + l.length : Nat) : Int) * 1 ≤ 140737488355328, Runs S.ref01_trim_L0_step S.ref01_trim_L0_vcs x2 (S.ref01_trim_L0_run x2)] ∧ True)
@[ext] structure S.ref01_Of_L2 where
  n : Int
  k : Int
  out : (List Int)
def S.ref01_Of_L2_step (x : S.ref01_Of_L2) : S.ref01_Of_L2 ⊕ (S.ref01_Of_L2) :=
  let b1 : Bool := decide (x.k < 8)
  let t2 : Int := Int.tmod x.n 256
  let t3 : Int := IntKind.u8.wrap t2
  let l4 : List Int := x.out ++ ([t3] : List Int)
  let t5 : Int := IntKind.u64.wrap (Int.tdiv x.n 256)
  let t6 : Int := IntKind.i64.wrap (x.k + 1)
  (bif b1 then (.inl ⟨t5, t6, l4⟩) else (.inr ⟨x.n, x.k, x.out⟩))
def S.ref01_Of_L2_vcs (x : S.ref01_Of_L2) : Prop :=
  let b1 : Bool := decide (x.k < 8)
  let t2 : Int := Int.tmod x.n 256
  let t3 : Int := IntKind.u8.wrap t2
  ((b1 = true → (All [((x.out.length + ([t3] : List Int).length : Nat) : Int) * 1 ≤ 140737488355328] ∧ True)) ∧ (b1 = false → True))
noncomputable def S.ref01_Of_L2_run (x : S.ref01_Of_L2) : S.ref01_Of_L2 := theRun (fun x => x) S.ref01_Of_L2_step S.ref01_Of_L2_vcs x
@[ext] structure S.ref01_Of_L0 where
  l : (List Int)
  i : Int
  out : (List Int)
noncomputable def S.ref01_Of_L0_step (x : S.ref01_Of_L0) : S.ref01_Of_L0 ⊕ (S.ref01_Of_L0) :=
  let b1 : Bool := decide (x.i < (x.l.length : Int))
  let e2 : Int := x.l.getD (Int.toNat x.i) 0
  let x3 : S.ref01_Of_L2 := (⟨e2, 0, x.out⟩ : S.ref01_Of_L2)
  let y4 : S.ref01_Of_L2 := S.ref01_Of_L2_run x3
  let t5 : Int := IntKind.i64.wrap (x.i + 1)
  (bif b1 then (.inl ⟨x.l, t5, y4.out⟩) else (.inr ⟨x.l, x.i, x.out⟩))
noncomputable def S.ref01_Of_L0_vcs (x : S.ref01_Of_L0) : Prop :=
  let b1 : Bool := decide (x.i < (x.l.length : Int))
  let e2 : Int := x.l.getD (Int.toNat x.i) 0
  let x3 : S.ref01_Of_L2 := (⟨e2, 0, x.out⟩ : S.ref01_Of_L2)
  ((b1 = true → (All [(0 : Int) ≤ x.i, x.i < (x.l.length : Int), Runs S.ref01_Of_L2_step S.ref01_Of_L2_vcs x3 (S.ref01_Of_L2_run x3)] ∧ True)) ∧ (b1 = false → True))
noncomputable def S.ref01_Of_L0_run (x : S.ref01_Of_L0) : S.ref01_Of_L0 := theRun (fun x => x) S.ref01_Of_L0_step S.ref01_Of_L0_vcs x
noncomputable def S.ref01_Of (l : (List Int)) : (List Int) :=
  let x1 : S.ref01_Of_L0 := (⟨l, 0, ([] : List Int)⟩ : S.ref01_Of_L0)
  let y2 : S.ref01_Of_L0 := S.ref01_Of_L0_run x1
  let r3 : (List Int) := S.ref01_trim y2.out
  r3
def S.ref01_Of_pre (l : (List Int)) : Prop :=
  let x1 : S.ref01_Of_L0 := (⟨l, 0, ([] : List Int)⟩ : S.ref01_Of_L0)
  let y2 : S.ref01_Of_L0 := S.ref01_Of_L0_run x1
  (All [Runs S.ref01_Of_L0_step S.ref01_Of_L0_vcs x1 (S.ref01_Of_L0_run x1), S.ref01_trim_pre y2.out] ∧ True)
@[ext] structure S.ref01_Limbs_L2 where
  n : (List Int)
  i : Int
  vx : Int
  k : Int
def S.ref01_Limbs_L2_step (x : S.ref01_Limbs_L2) : S.ref01_Limbs_L2 ⊕ (S.ref01_Limbs_L2) :=
  let b1 : Bool := decide (x.k ≥ x.i)
  let t2 : Int := IntKind.u64.wrap (x.vx * 256)
  let e3 : Int := x.n.getD (Int.toNat x.k) 0
  let t4 : Int := IntKind.u64.wrap e3
  let t5 : Int := IntKind.u64.wrap (t2 + t4)
  let t6 : Int := IntKind.i64.wrap (x.k - 1)
  (bif b1 then (.inl ⟨x.n, x.i, t5, t6⟩) else (.inr ⟨x.n, x.i, x.vx, x.k⟩))
def S.ref01_Limbs_L2_vcs (x : S.ref01_Limbs_L2) : Prop :=
  let b1 : Bool := decide (x.k ≥ x.i)
  ((b1 = true → (All [(0 : Int) ≤ x.k, x.k < (x.n.length : Int)] ∧ True)) ∧ (b1 = false → True))
noncomputable def S.ref01_Limbs_L2_run (x : S.ref01_Limbs_L2) : S.ref01_Limbs_L2 := theRun (fun x => x) S.ref01_Limbs_L2_step S.ref01_Limbs_L2_vcs x
@[ext] structure S.ref01_Limbs_L0 where
  n : (List Int)
  i : Int
  out : (List Int)
noncomputable def S.ref01_Limbs_L0_step (x : S.ref01_Limbs_L0) : S.ref01_Limbs_L0 ⊕ (S.ref01_Limbs_L0) :=
  let b1 : Bool := decide (x.i < (x.n.length : Int))
  let t2 : Int := IntKind.i64.wrap (x.i + 8)
  let m3 : Int := if t2 < (x.n.length : Int) then t2 else (x.n.length : Int)
  let t4 : Int := IntKind.i64.wrap (m3 - 1)
  let x5 : S.ref01_Limbs_L2 := (⟨x.n, x.i, 0, t4⟩ : S.ref01_Limbs_L2)
  let y6 : S.ref01_Limbs_L2 := S.ref01_Limbs_L2_run x5
  let l7 : List Int := x.out ++ ([y6.vx] : List Int)
  let t8 : Int := IntKind.i64.wrap (y6.i + 8)
  (bif b1 then (.inl ⟨y6.n, t8, l7⟩) else (.inr ⟨x.n, x.i, x.out⟩))
noncomputable def S.ref01_Limbs_L0_vcs (x : S.ref01_Limbs_L0) : Prop :=
  let b1 : Bool := decide (x.i < (x.n.length : Int))
  let t2 : Int := IntKind.i64.wrap (x.i + 8)
  let m3 : Int := if t2 < (x.n.length : Int) then t2 else (x.n.length : Int)
  let t4 : Int := IntKind.i64.wrap (m3 - 1)
  let x5 : S.ref01_Limbs_L2 := (⟨x.n, x.i, 0, t4⟩ : S.ref01_Limbs_L2)
  let y6 : S.ref01_Limbs_L2 := S.ref01_Limbs_L2_run x5
  ((b1 = true → (All [Runs S.ref01_Limbs_L2_step S.ref01_Limbs_L2_vcs x5 (S.ref01_Limbs_L2_run x5), ((x.out.length + ([y6.vx] : List Int).length : Nat) : Int) * 8 ≤ 140737488355328] ∧ True)) ∧ (b1 = false → True))
noncomputable def S.ref01_Limbs_L0_run (x : S.ref01_Limbs_L0) : S.ref01_Limbs_L0 := theRun (fun x => x) S.ref01_Limbs_L0_step S.ref01_Limbs_L0_vcs x
noncomputable def S.ref01_Limbs (n : (List Int)) : (List Int) :=
  let x1 : S.ref01_Limbs_L0 := (⟨n, 0, ([] : List Int)⟩ : S.ref01_Limbs_L0)
  let y2 : S.ref01_Limbs_L0 := S.ref01_Limbs_L0_run x1
  y2.out
def S.ref01_Limbs_pre (n : (List Int)) : Prop :=
  let x1 : S.ref01_Limbs_L0 := (⟨n, 0, ([] : List Int)⟩ : S.ref01_Limbs_L0)
  (All [Runs S.ref01_Limbs_L0_step S.ref01_Limbs_L0_vcs x1 (S.ref01_Limbs_L0_run x1)] ∧ True)
@[ext] structure S.ref02_Div_L2 where
  n : (List Int)
  vby : Int
  left : Int
  i : Int
  digit : Int
  out : (List Int)
def S.ref02_Div_L2_step (x : S.ref02_Div_L2) : S.ref02_Div_L2 ⊕ (S.ref02_Div_L2) :=
  let b1 : Bool := decide (x.digit > 0)
  let b2 : Bool := decide (x.left ≥ 9223372036854775808)
  let t3 : Int := IntKind.u64.wrap (x.left * 2)
  let e4 : Int := x.n.getD (Int.toNat x.i) 0
  let t5 : Int := IntKind.i64.wrap e4
  let t6 : Int := IntKind.i64.wrap (Int.tdiv t5 x.digit)
  let t7 : Int := Int.tmod t6 2
  let t8 : Int := IntKind.u64.wrap t7
  let t9 : Int := IntKind.u64.wrap (t3 + t8)
  let b10 : Bool := decide (t9 ≥ x.vby)
  let p11 : Bool := (b2 || b10)
  let t12 : Int := IntKind.u64.wrap (t9 - x.vby)
  let e13 : Int := x.out.getD (Int.toNat x.i) 0
  let t14 : Int := IntKind.u8.wrap x.digit
  let t15 : Int := IntKind.u8.wrap (e13 + t14)
  let l16 : List Int := x.out.set (Int.toNat x.i) t15
  let t17 : Int := IntKind.i64.wrap (Int.tdiv x.digit 2)
  (bif b1 then (.inl ⟨x.n, x.vby, (bif p11 then t12 else t9), x.i, t17, (bif p11 then l16 else x.out)⟩) else (.inr ⟨x.n, x.vby, x.left, x.i, x.digit, x.out⟩))
def S.ref02_Div_L2_vcs (x : S.ref02_Div_L2) : Prop :=
  let b1 : Bool := decide (x.digit > 0)
  let b2 : Bool := decide (x.left ≥ 9223372036854775808)
  let t3 : Int := IntKind.u64.wrap (x.left * 2)
  let e4 : Int := x.n.getD (Int.toNat x.i) 0
  let t5 : Int := IntKind.i64.wrap e4
  let t6 : Int := IntKind.i64.wrap (Int.tdiv t5 x.digit)
  let t7 : Int := Int.tmod t6 2
  let t8 : Int := IntKind.u64.wrap t7
  let t9 : Int := IntKind.u64.wrap (t3 + t8)
  let b10 : Bool := decide (t9 ≥ x.vby)
  let p11 : Bool := (b2 || b10)
  ((b1 = true → (All [(0 : Int) ≤ x.i, x.i < (x.n.length : Int), x.digit ≠ 0, (p11 = true → ((0 : Int) ≤ x.i ∧ x.i < (x.out.length : Int) ∧ (0 : Int) ≤ x.i ∧ x.i < (x.out.length : Int)))] ∧ True)) ∧ (b1 = false → True))
noncomputable def S.ref02_Div_L2_run (x : S.ref02_Div_L2) : S.ref02_Div_L2 := theRun (fun x => x) S.ref02_Div_L2_step S.ref02_Div_L2_vcs x
@[ext] structure S.ref02_Div_L0 where
  n : (List Int)
  vby : Int
  left : Int
  i : Int
  out : (List Int)
noncomputable def S.ref02_Div_L0_step (x : S.ref02_Div_L0) : S.ref02_Div_L0 ⊕ (S.ref02_Div_L0) :=
  let b1 : Bool := decide (x.i ≥ 0)
  let x2 : S.ref02_Div_L2 := (⟨x.n, x.vby, x.left, x.i, 128, x.out⟩ : S.ref02_Div_L2)
  let y3 : S.ref02_Div_L2 := S.ref02_Div_L2_run x2
  let t4 : Int := IntKind.i64.wrap (y3.i - 1)
  (bif b1 then (.inl ⟨y3.n, y3.vby, y3.left, t4, y3.out⟩) else (.inr ⟨x.n, x.vby, x.left, x.i, x.out⟩))
noncomputable def S.ref02_Div_L0_vcs (x : S.ref02_Div_L0) : Prop :=
  let b1 : Bool := decide (x.i ≥ 0)
  let x2 : S.ref02_Div_L2 := (⟨x.n, x.vby, x.left, x.i, 128, x.out⟩ : S.ref02_Div_L2)
  ((b1 = true → (All [Runs S.ref02_Div_L2_step S.ref02_Div_L2_vcs x2 (S.ref02_Div_L2_run x2)] ∧ True)) ∧ (b1 = false → True))
noncomputable def S.ref02_Div_L0_run (x : S.ref02_Div_L0) : S.ref02_Div_L0 := theRun (fun x => x) S.ref02_Div_L0_step S.ref02_Div_L0_vcs x
noncomputable def S.ref02_Div (n : (List Int)) (a1 : Int) : (List Int) × Int × Int :=
  let b1 : Bool := a1 == 0
  let t2 : Int := IntKind.i64.wrap ((n.length : Int) - 1)
  let x3 : S.ref02_Div_L0 := (⟨n, a1, 0, t2, (List.replicate (Int.toNat (n.length : Int)) (0 : Int))⟩ : S.ref02_Div_L0)
  let y4 : S.ref02_Div_L0 := S.ref02_Div_L0_run x3
  let r5 : (List Int) := S.ref01_Limbs y4.out
  let r6 : (List Int) := S.ref01_Of r5
  (bif b1 then (([] : List Int), 0, 2) else (r6, y4.left, 0))
def S.ref02_Div_pre (n : (List Int)) (a1 : Int) : Prop :=
  let b1 : Bool := a1 == 0
  let t2 : Int := IntKind.i64.wrap ((n.length : Int) - 1)
  let x3 : S.ref02_Div_L0 := (⟨n, a1, 0, t2, (List.replicate (Int.toNat (n.length : Int)) (0 : Int))⟩ : S.ref02_Div_L0)
  let y4 : S.ref02_Div_L0 := S.ref02_Div_L0_run x3
  let r5 : (List Int) := S.ref01_Limbs y4.out
  ((b1 = true → True) ∧ (b1 = false → (All [(0 : Int) ≤ (n.length : Int), (n.length : Int) = (n.length : Int), (n.length : Int) * 1 ≤ 140737488355328, Runs S.ref02_Div_L0_step S.ref02_Div_L0_vcs x3 (S.ref02_Div_L0_run x3), S.ref01_Limbs_pre y4.out, S.ref01_Of_pre r5] ∧ True)))
noncomputable def S.ref02_Text_F : Nat → (List Int) → ByteArray
  | 0, _ => (⟨#[]⟩ : ByteArray)
  | n + 1, a0 =>
  let b1 : Bool := (a0.length : Int) == 0
  let r2 : (List Int) × Int × Int := S.ref02_Div a0 10
  let b3 : Bool := (r2.1.length : Int) == 0
  let t4 : Int := IntKind.u64.wrap (48 + r2.2.1)
  let t5 : Int := IntKind.u8.wrap t4
  let s6 : ByteArray := ([t5] : List Int).foldl (fun r n => r.push (UInt8.ofNat (Int.toNat n))) ByteArray.empty
  let r7 : ByteArray := S.ref02_Text_F n r2.1
  let t8 : Int := IntKind.u64.wrap (48 + r2.2.1)
  let t9 : Int := IntKind.u8.wrap t8
  let s10 : ByteArray := ([t9] : List Int).foldl (fun r n => r.push (UInt8.ofNat (Int.toNat n))) ByteArray.empty
  let s11 : ByteArray := r7 ++ s10
  (bif b1 then (⟨#[48]⟩ : ByteArray) else (bif b3 then s6 else s11))
def S.ref02_Text_D : Nat → (List Int) → Prop
  | 0, _ => False
  | n + 1, a0 =>
  let b1 : Bool := (a0.length : Int) == 0
  let r2 : (List Int) × Int × Int := S.ref02_Div a0 10
  let b3 : Bool := (r2.1.length : Int) == 0
  let r7 : ByteArray := S.ref02_Text_F n r2.1
  let t8 : Int := IntKind.u64.wrap (48 + r2.2.1)
  let t9 : Int := IntKind.u8.wrap t8
  let s10 : ByteArray := ([t9] : List Int).foldl (fun r n => r.push (UInt8.ofNat (Int.toNat n))) ByteArray.empty
  ((b1 = true → True) ∧ (b1 = false → (All [S.ref02_Div_pre a0 10] ∧ ((b3 = true → True) ∧ (b3 = false → (All [S.ref02_Text_D n r2.1, ((r7.size + s10.size : Nat) : Int) ≤ IntKind.i64.max] ∧ True))))))
noncomputable def S.ref02_Text (a0 : (List Int)) : ByteArray := S.ref02_Text_F (Classical.epsilon fun n => S.ref02_Text_D n a0) a0
def S.ref02_Text_pre (a0 : (List Int)) : Prop := ∃ n, S.ref02_Text_D n a0
noncomputable def S.ref02_Whole (n : Int) : ByteArray :=
  let b1 : Bool := decide (n < 0)
  let t2 : Int := IntKind.i64.wrap (0 - n)
  let t3 : Int := IntKind.u64.wrap t2
  let r4 : (List Int) := S.ref01_Of ([t3] : List Int)
  let r5 : ByteArray := S.ref02_Text r4
  let s6 : ByteArray := (⟨#[45]⟩ : ByteArray) ++ r5
  let t7 : Int := IntKind.u64.wrap n
  let r8 : (List Int) := S.ref01_Of ([t7] : List Int)
  let r9 : ByteArray := S.ref02_Text r8
  (bif b1 then s6 else r9)
def S.ref02_Whole_pre (n : Int) : Prop :=
  let b1 : Bool := decide (n < 0)
  let t2 : Int := IntKind.i64.wrap (0 - n)
  let t3 : Int := IntKind.u64.wrap t2
  let r4 : (List Int) := S.ref01_Of ([t3] : List Int)
  let r5 : ByteArray := S.ref02_Text r4
  let t7 : Int := IntKind.u64.wrap n
  let r8 : (List Int) := S.ref01_Of ([t7] : List Int)
  ((b1 = true → (All [S.ref01_Of_pre ([t3] : List Int), S.ref02_Text_pre r4, (((⟨#[45]⟩ : ByteArray).size + r5.size : Nat) : Int) ≤ IntKind.i64.max] ∧ True)) ∧ (b1 = false → (All [S.ref01_Of_pre ([t7] : List Int), S.ref02_Text_pre r8] ∧ True)))
def S.inter_Join_1 (a : S.Inter) (b : S.Inter) : S.Inter :=
  let r1 : Bool := S.inter_Inter_IsEmpty a
  let r2 : Bool := S.inter_Inter_IsEmpty b
  let m3 : Int := if b.Lo < a.Lo then b.Lo else a.Lo
  let m4 : Int := if b.Hi > a.Hi then b.Hi else a.Hi
  (bif r1 then b else (bif r2 then a else (⟨m3, m4⟩ : S.Inter)))
@[ext] structure S.inter_fold_inter_Join_1_L0 where
  t9 : (List S.Inter)
  t10 : Int
  t11 : Int
  first : S.Inter
def S.inter_fold_inter_Join_1_L0_step (x : S.inter_fold_inter_Join_1_L0) : S.inter_fold_inter_Join_1_L0 ⊕ (S.inter_fold_inter_Join_1_L0) :=
  let b1 : Bool := decide (x.t11 < x.t10)
  let e2 : S.Inter := x.t9.getD (Int.toNat x.t11) (⟨0, 0⟩ : S.Inter)
  let r3 : S.Inter := S.inter_Join_1 x.first e2
  let t4 : Int := IntKind.i64.wrap (x.t11 + 1)
  (bif b1 then (.inl ⟨x.t9, x.t10, t4, r3⟩) else (.inr ⟨x.t9, x.t10, x.t11, x.first⟩))
def S.inter_fold_inter_Join_1_L0_vcs (x : S.inter_fold_inter_Join_1_L0) : Prop :=
  let b1 : Bool := decide (x.t11 < x.t10)
  ((b1 = true → (All [(0 : Int) ≤ x.t11, x.t11 < (x.t9.length : Int)] ∧ True)) ∧ (b1 = false → True))
noncomputable def S.inter_fold_inter_Join_1_L0_run (x : S.inter_fold_inter_Join_1_L0) : S.inter_fold_inter_Join_1_L0 := theRun (fun x => x) S.inter_fold_inter_Join_1_L0_step S.inter_fold_inter_Join_1_L0_vcs x
noncomputable def S.inter_fold_inter_Join_1 (first : S.Inter) (l : (List S.Inter)) : S.Inter :=
  let x1 : S.inter_fold_inter_Join_1_L0 := (⟨l, (l.length : Int), 0, first⟩ : S.inter_fold_inter_Join_1_L0)
  let y2 : S.inter_fold_inter_Join_1_L0 := S.inter_fold_inter_Join_1_L0_run x1
  let r3 : S.Inter := S.inter_Inter_plain y2.first
  r3
def S.inter_fold_inter_Join_1_pre (first : S.Inter) (l : (List S.Inter)) : Prop :=
  let x1 : S.inter_fold_inter_Join_1_L0 := (⟨l, (l.length : Int), 0, first⟩ : S.inter_fold_inter_Join_1_L0)
  (All [Runs S.inter_fold_inter_Join_1_L0_step S.inter_fold_inter_Join_1_L0_vcs x1 (S.inter_fold_inter_Join_1_L0_run x1)] ∧ True)
noncomputable def S.inter_Join (l : (List S.Inter)) : S.Inter :=
  let r1 : S.Inter := S.inter_Empty
  let r2 : S.Inter := S.inter_fold_inter_Join_1 r1 l
  r2
def S.inter_Join_pre (l : (List S.Inter)) : Prop :=
  let r1 : S.Inter := S.inter_Empty
  (All [S.inter_fold_inter_Join_1_pre r1 l] ∧ True)
def S.cong_far (a : Int) (b : Int) : Int :=
  let m1 : Int := if b > a then b else a
  let m2 : Int := if b < a then b else a
  let t3 : Int := IntKind.u64.wrap (m1 - m2)
  t3
noncomputable def S.cong_Join (a : S.Cong) (b : S.Cong) : S.Cong :=
  let r1 : Int := S.cong_gcd a.M b.M
  let b2 : Bool := ((a.M == b.M) && (a.R == b.R))
  let b3 : Bool := r1 == 0
  let r4 : Int := S.cong_Cong_number a
  let r5 : Int := S.cong_Cong_number b
  let m6 : Int := if r5 > r4 then r5 else r4
  let t7 : Int := IntKind.u64.wrap m6
  let m8 : Int := if r5 < r4 then r5 else r4
  let t9 : Int := IntKind.u64.wrap m8
  let t10 : Int := IntKind.u64.wrap (t7 - t9)
  let r11 : S.Cong := S.cong_Make t10 r4
  let r12 : Int := S.cong_Cong_by a r1
  let r13 : Int := S.cong_Cong_by b r1
  let r14 : Int := S.cong_far r12 r13
  let r15 : Int := S.cong_gcd r1 r14
  let t16 : Int := Int.tmod r12 r15
  (bif b2 then a else (bif b3 then r11 else (⟨r15, t16⟩ : S.Cong)))
def S.cong_Join_pre (a : S.Cong) (b : S.Cong) : Prop :=
  let r1 : Int := S.cong_gcd a.M b.M
  let b2 : Bool := ((a.M == b.M) && (a.R == b.R))
  let b3 : Bool := r1 == 0
  let r4 : Int := S.cong_Cong_number a
  let r5 : Int := S.cong_Cong_number b
  let m6 : Int := if r5 > r4 then r5 else r4
  let t7 : Int := IntKind.u64.wrap m6
  let m8 : Int := if r5 < r4 then r5 else r4
  let t9 : Int := IntKind.u64.wrap m8
  let t10 : Int := IntKind.u64.wrap (t7 - t9)
  let r12 : Int := S.cong_Cong_by a r1
  let r13 : Int := S.cong_Cong_by b r1
  let r14 : Int := S.cong_far r12 r13
  let r15 : Int := S.cong_gcd r1 r14
  (All [S.cong_gcd_pre a.M b.M] ∧ ((b2 = true → True) ∧ (b2 = false → ((b3 = true → (All [S.cong_Make_pre t10 r4] ∧ True)) ∧ (b3 = false → (All [S.cong_Cong_by_pre a r1, S.cong_Cong_by_pre b r1, S.cong_gcd_pre r1 r14, r15 ≠ 0] ∧ True))))))
def S.ref19_Join (a : S.Inter) (b : S.Inter) : S.Inter :=
  let r1 : Bool := S.ref19_Empty a
  let r2 : S.Inter := S.ref19_Plain b
  let r3 : Bool := S.ref19_Empty b
  let m4 : Int := if b.Lo < a.Lo then b.Lo else a.Lo
  let m5 : Int := if b.Hi > a.Hi then b.Hi else a.Hi
  (bif r1 then r2 else (bif r3 then a else (⟨m4, m5⟩ : S.Inter)))
def S.ref20_far (a : Int) (b : Int) : Int :=
  let b1 : Bool := decide (a < b)
  let t2 : Int := IntKind.u64.wrap (b - a)
  let t3 : Int := IntKind.u64.wrap (a - b)
  (bif b1 then t2 else t3)
noncomputable def S.ref20_Join (a : S.Cong) (b : S.Cong) : S.Cong :=
  let b1 : Bool := ((a.M == b.M) && (a.R == b.R))
  let r2 : Int := S.ref20_Gcd a.M b.M
  let b3 : Bool := r2 == 0
  let t4 : Int := IntKind.i64.wrap a.R
  let t5 : Int := IntKind.i64.wrap b.R
  let m6 : Int := if t5 > t4 then t5 else t4
  let t7 : Int := IntKind.u64.wrap m6
  let m8 : Int := if t5 < t4 then t5 else t4
  let t9 : Int := IntKind.u64.wrap m8
  let t10 : Int := IntKind.u64.wrap (t7 - t9)
  let r11 : S.Cong := S.ref20_Make t10 t4
  let r12 : Int := S.ref20_Of a r2
  let r13 : Int := S.ref20_Of b r2
  let r14 : Int := S.ref20_far r12 r13
  let r15 : Int := S.ref20_Gcd r2 r14
  let r16 : Int := S.ref20_Of a r2
  let t17 : Int := Int.tmod r16 r15
  (bif b1 then a else (bif b3 then r11 else (⟨r15, t17⟩ : S.Cong)))
def S.ref20_Join_pre (a : S.Cong) (b : S.Cong) : Prop :=
  let b1 : Bool := ((a.M == b.M) && (a.R == b.R))
  let r2 : Int := S.ref20_Gcd a.M b.M
  let b3 : Bool := r2 == 0
  let t4 : Int := IntKind.i64.wrap a.R
  let t5 : Int := IntKind.i64.wrap b.R
  let m6 : Int := if t5 > t4 then t5 else t4
  let t7 : Int := IntKind.u64.wrap m6
  let m8 : Int := if t5 < t4 then t5 else t4
  let t9 : Int := IntKind.u64.wrap m8
  let t10 : Int := IntKind.u64.wrap (t7 - t9)
  let r12 : Int := S.ref20_Of a r2
  let r13 : Int := S.ref20_Of b r2
  let r14 : Int := S.ref20_far r12 r13
  let r15 : Int := S.ref20_Gcd r2 r14
  ((b1 = true → True) ∧ (b1 = false → (All [S.ref20_Gcd_pre a.M b.M] ∧ ((b3 = true → (All [S.ref20_Make_pre t10 t4] ∧ True)) ∧ (b3 = false → (All [S.ref20_Of_pre a r2, S.ref20_Of_pre b r2, S.ref20_Gcd_pre r2 r14, S.ref20_Of_pre a r2, r15 ≠ 0] ∧ True))))))
noncomputable def S.inter_Widen (a : S.Inter) (b : S.Inter) : S.Inter :=
  let r1 : S.Inter := S.inter_Join ([a, b] : List S.Inter)
  let r2 : Bool := S.inter_Inter_IsEmpty a
  let b3 : Bool := decide (r1.Lo < a.Lo)
  let b4 : Bool := decide (r1.Hi > a.Hi)
  (bif r2 then r1 else (⟨(bif b3 then (-9223372036854775808) else r1.Lo), (bif b4 then 9223372036854775807 else r1.Hi)⟩ : S.Inter))
def S.inter_Widen_pre (a : S.Inter) (b : S.Inter) : Prop :=
  let r2 : Bool := S.inter_Inter_IsEmpty a
  (All [S.inter_Join_pre ([a, b] : List S.Inter)] ∧ ((r2 = true → True) ∧ (r2 = false → True)))
def S.ref19_Widen (a : S.Inter) (b : S.Inter) : S.Inter :=
  let r1 : Bool := S.ref19_Empty a
  let r2 : S.Inter := S.ref19_Plain b
  let r3 : Bool := S.ref19_Empty b
  let b4 : Bool := decide (b.Lo < a.Lo)
  let r5 : Int := S.ref19_Least
  let b6 : Bool := decide (b.Hi > a.Hi)
  let r7 : Int := S.ref19_Most
  (bif r1 then r2 else (bif r3 then a else (⟨(bif b4 then r5 else a.Lo), (bif b6 then r7 else a.Hi)⟩ : S.Inter)))
def S.inter_Narrow (a : S.Inter) (b : S.Inter) : S.Inter :=
  let r1 : Bool := S.inter_Inter_IsEmpty a
  let r2 : Bool := S.inter_Inter_IsEmpty b
  let p3 : Bool := (r1 || r2)
  let r4 : S.Inter := S.inter_Empty
  let b5 : Bool := a.Lo == (-9223372036854775808)
  let b6 : Bool := a.Hi == 9223372036854775807
  let r7 : S.Inter := S.inter_Inter_plain (⟨(bif b5 then b.Lo else a.Lo), (bif b6 then b.Hi else a.Hi)⟩ : S.Inter)
  (bif p3 then r4 else r7)
def S.ref19_Narrow (a : S.Inter) (b : S.Inter) : S.Inter :=
  let r1 : Bool := S.ref19_Empty a
  let r2 : Bool := S.ref19_Empty b
  let p3 : Bool := (r1 || r2)
  let r4 : Int := S.ref19_Least
  let b5 : Bool := a.Lo == r4
  let r6 : Int := S.ref19_Most
  let b7 : Bool := a.Hi == r6
  let r8 : S.Inter := S.ref19_Plain (⟨(bif b5 then b.Lo else a.Lo), (bif b7 then b.Hi else a.Hi)⟩ : S.Inter)
  (bif p3 then (⟨1, 0⟩ : S.Inter) else r8)
