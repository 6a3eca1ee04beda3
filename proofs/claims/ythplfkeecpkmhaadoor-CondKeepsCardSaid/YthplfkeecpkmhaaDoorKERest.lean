/-
  Printed by a program: functions that this program's statement does not reach, but the plain texts name. Conditions: none.
-/
import Derived.Test.YthplfkeecpkmhaaDoorKEDefs
set_option linter.all false
open Go Vm
def S.docs_Value (v : S.Value) : S.Value :=
  v
def S.ref19_Empty (i : S.Inter) : Bool :=
  let b1 : Bool := decide (i.Lo > i.Hi)
  b1
def S.ref21_Bottom : S.Value :=
  (⟨(⟨1, 0⟩ : S.Inter), (⟨1, 0⟩ : S.Cong)⟩ : S.Value)
def S.ref19_Has (i : S.Inter) (n : Int) : Bool :=
  let b1 : Bool := decide (n ≥ i.Lo)
  let b2 : Bool := decide (n ≤ i.Hi)
  let p3 : Bool := (b1 && b2)
  p3
def S.ref20_Rest (n : Int) (m : Int) : Int :=
  let b1 : Bool := decide (n ≥ 0)
  let t2 : Int := IntKind.u64.wrap n
  let t3 : Int := Int.tmod t2 m
  let t4 : Int := IntKind.u64.wrap (m - 1)
  let t5 : Int := IntKind.i64.wrap (n + 1)
  let t6 : Int := IntKind.i64.wrap (0 - t5)
  let t7 : Int := IntKind.u64.wrap t6
  let t8 : Int := Int.tmod t7 m
  let t9 : Int := IntKind.u64.wrap (t4 - t8)
  (bif b1 then t3 else t9)
def S.ref20_Rest_pre (n : Int) (m : Int) : Prop :=
  let b1 : Bool := decide (n ≥ 0)
  ((b1 = true → (All [m ≠ 0] ∧ True)) ∧ (b1 = false → (All [m ≠ 0] ∧ True)))
def S.ref20_Make (m : Int) (n : Int) : S.Cong :=
  let b1 : Bool := m == 0
  let t2 : Int := IntKind.u64.wrap n
  let r3 : Int := S.ref20_Rest n m
  (bif b1 then (⟨0, t2⟩ : S.Cong) else (⟨m, r3⟩ : S.Cong))
def S.ref20_Make_pre (m : Int) (n : Int) : Prop :=
  let b1 : Bool := m == 0
  ((b1 = true → True) ∧ (b1 = false → (All [S.ref20_Rest_pre n m] ∧ True)))
def S.ref21_One (n : Int) : S.Value :=
  let r1 : S.Cong := S.ref20_Make 0 n
  (⟨(⟨n, n⟩ : S.Inter), r1⟩ : S.Value)
def S.ref21_One_pre (n : Int) : Prop :=
  (All [S.ref20_Make_pre 0 n] ∧ True)
def S.ref21_up (c : S.Cong) (n : Int) : Int :=
  let r1 : Int := S.ref20_Rest n c.M
  let b2 : Bool := decide (r1 ≤ c.R)
  let t3 : Int := IntKind.u64.wrap (c.R - r1)
  let t4 : Int := IntKind.u64.wrap (r1 - c.R)
  let t5 : Int := IntKind.u64.wrap (c.M - t4)
  (bif b2 then t3 else t5)
def S.ref21_up_pre (c : S.Cong) (n : Int) : Prop :=
  let r1 : Int := S.ref20_Rest n c.M
  let b2 : Bool := decide (r1 ≤ c.R)
  (All [S.ref20_Rest_pre n c.M] ∧ ((b2 = true → True) ∧ (b2 = false → True)))
def S.ref21_down (c : S.Cong) (n : Int) : Int :=
  let r1 : Int := S.ref20_Rest n c.M
  let b2 : Bool := decide (c.R ≤ r1)
  let t3 : Int := IntKind.u64.wrap (r1 - c.R)
  let t4 : Int := IntKind.u64.wrap (c.R - r1)
  let t5 : Int := IntKind.u64.wrap (c.M - t4)
  (bif b2 then t3 else t5)
def S.ref21_down_pre (c : S.Cong) (n : Int) : Prop :=
  let r1 : Int := S.ref20_Rest n c.M
  let b2 : Bool := decide (c.R ≤ r1)
  (All [S.ref20_Rest_pre n c.M] ∧ ((b2 = true → True) ∧ (b2 = false → True)))
def S.ref21_Make (i : S.Inter) (c : S.Cong) : S.Value :=
  let r1 : Bool := S.ref19_Empty i
  let r2 : S.Value := S.ref21_Bottom
  let b3 : Bool := c.M == 0
  let t4 : Int := IntKind.i64.wrap c.R
  let r5 : Bool := S.ref19_Has i t4
  let b6 : Bool := !r5
  let r7 : S.Value := S.ref21_Bottom
  let t8 : Int := IntKind.i64.wrap c.R
  let r9 : S.Value := S.ref21_One t8
  let t10 : Int := Int.tmod c.R c.M
  let r11 : Int := S.ref21_up (⟨c.M, t10⟩ : S.Cong) i.Lo
  let r12 : Int := S.ref21_down (⟨c.M, t10⟩ : S.Cong) i.Hi
  let t13 : Int := IntKind.u64.wrap i.Hi
  let t14 : Int := IntKind.u64.wrap i.Lo
  let t15 : Int := IntKind.u64.wrap (t13 - t14)
  let b16 : Bool := decide (r11 > t15)
  let b17 : Bool := decide (r12 > t15)
  let p18 : Bool := (b16 || b17)
  let t19 : Int := IntKind.u64.wrap (t15 - r12)
  let b20 : Bool := decide (r11 > t19)
  let p21 : Bool := (p18 || b20)
  let r22 : S.Value := S.ref21_Bottom
  let t23 : Int := IntKind.u64.wrap i.Lo
  let t24 : Int := IntKind.u64.wrap (t23 + r11)
  let t25 : Int := IntKind.i64.wrap t24
  let t26 : Int := IntKind.u64.wrap i.Hi
  let t27 : Int := IntKind.u64.wrap (t26 - r12)
  let t28 : Int := IntKind.i64.wrap t27
  let b29 : Bool := t25 == t28
  let r30 : S.Value := S.ref21_One t25
  (bif r1 then r2 else (bif b3 then (bif b6 then r7 else r9) else (bif p21 then r22 else (bif b29 then r30 else (⟨(⟨t25, t28⟩ : S.Inter), (⟨c.M, t10⟩ : S.Cong)⟩ : S.Value)))))
def S.ref21_Make_pre (i : S.Inter) (c : S.Cong) : Prop :=
  let r1 : Bool := S.ref19_Empty i
  let b3 : Bool := c.M == 0
  let t4 : Int := IntKind.i64.wrap c.R
  let r5 : Bool := S.ref19_Has i t4
  let b6 : Bool := !r5
  let t8 : Int := IntKind.i64.wrap c.R
  let t10 : Int := Int.tmod c.R c.M
  let r11 : Int := S.ref21_up (⟨c.M, t10⟩ : S.Cong) i.Lo
  let r12 : Int := S.ref21_down (⟨c.M, t10⟩ : S.Cong) i.Hi
  let t13 : Int := IntKind.u64.wrap i.Hi
  let t14 : Int := IntKind.u64.wrap i.Lo
  let t15 : Int := IntKind.u64.wrap (t13 - t14)
  let b16 : Bool := decide (r11 > t15)
  let b17 : Bool := decide (r12 > t15)
  let p18 : Bool := (b16 || b17)
  let t19 : Int := IntKind.u64.wrap (t15 - r12)
  let b20 : Bool := decide (r11 > t19)
  let p21 : Bool := (p18 || b20)
  let t23 : Int := IntKind.u64.wrap i.Lo
  let t24 : Int := IntKind.u64.wrap (t23 + r11)
  let t25 : Int := IntKind.i64.wrap t24
  let t26 : Int := IntKind.u64.wrap i.Hi
  let t27 : Int := IntKind.u64.wrap (t26 - r12)
  let t28 : Int := IntKind.i64.wrap t27
  let b29 : Bool := t25 == t28
  ((r1 = true → True) ∧ (r1 = false → ((b3 = true → ((b6 = true → True) ∧ (b6 = false → (All [S.ref21_One_pre t8] ∧ True)))) ∧ (b3 = false → (All [c.M ≠ 0, S.ref21_up_pre (⟨c.M, t10⟩ : S.Cong) i.Lo, S.ref21_down_pre (⟨c.M, t10⟩ : S.Cong) i.Hi] ∧ ((p21 = true → True) ∧ (p21 = false → ((b29 = true → (All [S.ref21_One_pre t25] ∧ True)) ∧ (b29 = false → True)))))))))
def S.ref21_Plain (v : S.Value) : S.Value :=
  let r1 : S.Value := S.ref21_Make v.I v.C
  r1
def S.ref21_Plain_pre (v : S.Value) : Prop :=
  (All [S.ref21_Make_pre v.I v.C] ∧ True)
def S.ref19_Least : Int :=
  (-9223372036854775808)
def S.ref19_Most : Int :=
  9223372036854775807
def S.ref21_Top : S.Value :=
  let r1 : Int := S.ref19_Least
  let r2 : Int := S.ref19_Most
  (⟨(⟨r1, r2⟩ : S.Inter), (⟨1, 0⟩ : S.Cong)⟩ : S.Value)
def S.ref20_Has (c : S.Cong) (n : Int) : Bool :=
  let b1 : Bool := c.M == 0
  let t2 : Int := IntKind.u64.wrap n
  let b3 : Bool := t2 == c.R
  let r4 : Int := S.ref20_Rest n c.M
  let b5 : Bool := r4 == c.R
  (bif b1 then b3 else b5)
def S.ref20_Has_pre (c : S.Cong) (n : Int) : Prop :=
  let b1 : Bool := c.M == 0
  ((b1 = true → True) ∧ (b1 = false → (All [S.ref20_Rest_pre n c.M] ∧ True)))
def S.ref21_Has (v : S.Value) (n : Int) : Bool :=
  let b1 : Bool := decide (v.C.M > 0)
  let t2 : Int := Int.tmod v.C.R v.C.M
  let r3 : Bool := S.ref19_Has v.I n
  let r4 : Bool := S.ref20_Has (⟨v.C.M, (bif b1 then t2 else v.C.R)⟩ : S.Cong) n
  let p5 : Bool := (r3 && r4)
  p5
def S.ref21_Has_pre (v : S.Value) (n : Int) : Prop :=
  let b1 : Bool := decide (v.C.M > 0)
  let t2 : Int := Int.tmod v.C.R v.C.M
  let r3 : Bool := S.ref19_Has v.I n
  (All [(b1 = true → v.C.M ≠ 0), (r3 = true → S.ref20_Has_pre (⟨v.C.M, (bif b1 then t2 else v.C.R)⟩ : S.Cong) n)] ∧ True)
@[ext] structure S.ref01_trim_L0 where
  out : (List Int)
def S.ref01_trim_L0_step (x : S.ref01_trim_L0) : S.ref01_trim_L0 ⊕ (S.ref01_trim_L0) :=
  let b1 : Bool := decide ((x.out.length : Int) > 0)
  let t2 : Int := IntKind.i64.wrap ((x.out.length : Int) - 1)
  let e3 : Int := x.out.getD (Int.toNat t2) 0
  let b4 : Bool := e3 == 0
  let p5 : Bool := (b1 && b4)
  let t6 : Int := IntKind.i64.wrap ((x.out.length : Int) - 1)
  let l7 : (List Int) := x.out.take (Int.toNat t6)
  (bif p5 then (.inl ⟨l7⟩) else (.inr ⟨x.out⟩))
def S.ref01_trim_L0_vcs (x : S.ref01_trim_L0) : Prop :=
  let b1 : Bool := decide ((x.out.length : Int) > 0)
  let t2 : Int := IntKind.i64.wrap ((x.out.length : Int) - 1)
  let e3 : Int := x.out.getD (Int.toNat t2) 0
  let b4 : Bool := e3 == 0
  let p5 : Bool := (b1 && b4)
  let t6 : Int := IntKind.i64.wrap ((x.out.length : Int) - 1)
  (All [(b1 = true → ((0 : Int) ≤ t2 ∧ t2 < (x.out.length : Int)))] ∧ ((p5 = true → (All [(0 : Int) ≤ t6, t6 ≤ (x.out.length : Int)] ∧ True)) ∧ (p5 = false → True)))
noncomputable def S.ref01_trim_L0_run (x : S.ref01_trim_L0) : S.ref01_trim_L0 := theRun (fun x => x) S.ref01_trim_L0_step S.ref01_trim_L0_vcs x
noncomputable def S.ref01_trim (l : (List Int)) : (List Int) :=
  let l1 : List Int := ([] : List Int) ++ l
  let x2 : S.ref01_trim_L0 := (⟨l1⟩ : S.ref01_trim_L0)
  let y3 : S.ref01_trim_L0 := S.ref01_trim_L0_run x2
  y3.out
def S.ref01_trim_pre (l : (List Int)) : Prop :=
  let l1 : List Int := ([] : List Int) ++ l
  let x2 : S.ref01_trim_L0 := (⟨l1⟩ : S.ref01_trim_L0)
  (All [((([] : List Int).length + l.length : Nat) : Int) * 1 ≤ 140737488355328, Runs S.ref01_trim_L0_step S.ref01_trim_L0_vcs x2 (S.ref01_trim_L0_run x2)] ∧ True)
@[ext] structure S.ref01_Of_L2 where
  n : Int
  k : Int
  out : (List Int)
def S.ref01_Of_L2_step (x : S.ref01_Of_L2) : S.ref01_Of_L2 ⊕ (S.ref01_Of_L2) :=
  let b1 : Bool := decide (x.k < 8)
  let t2 : Int := Int.tmod x.n 256
  let t3 : Int := IntKind.u8.wrap t2
  let l4 : List Int := x.out ++ ([t3] : List Int)
  let t5 : Int := IntKind.u64.wrap (Int.tdiv x.n 256)
  let t6 : Int := IntKind.i64.wrap (x.k + 1)
  (bif b1 then (.inl ⟨t5, t6, l4⟩) else (.inr ⟨x.n, x.k, x.out⟩))
def S.ref01_Of_L2_vcs (x : S.ref01_Of_L2) : Prop :=
  let b1 : Bool := decide (x.k < 8)
  let t2 : Int := Int.tmod x.n 256
  let t3 : Int := IntKind.u8.wrap t2
  ((b1 = true → (All [((x.out.length + ([t3] : List Int).length : Nat) : Int) * 1 ≤ 140737488355328] ∧ True)) ∧ (b1 = false → True))
noncomputable def S.ref01_Of_L2_run (x : S.ref01_Of_L2) : S.ref01_Of_L2 := theRun (fun x => x) S.ref01_Of_L2_step S.ref01_Of_L2_vcs x
@[ext] structure S.ref01_Of_L0 where
  l : (List Int)
  i : Int
  out : (List Int)
noncomputable def S.ref01_Of_L0_step (x : S.ref01_Of_L0) : S.ref01_Of_L0 ⊕ (S.ref01_Of_L0) :=
  let b1 : Bool := decide (x.i < (x.l.length : Int))
  let e2 : Int := x.l.getD (Int.toNat x.i) 0
  let x3 : S.ref01_Of_L2 := (⟨e2, 0, x.out⟩ : S.ref01_Of_L2)
  let y4 : S.ref01_Of_L2 := S.ref01_Of_L2_run x3
  let t5 : Int := IntKind.i64.wrap (x.i + 1)
  (bif b1 then (.inl ⟨x.l, t5, y4.out⟩) else (.inr ⟨x.l, x.i, x.out⟩))
noncomputable def S.ref01_Of_L0_vcs (x : S.ref01_Of_L0) : Prop :=
  let b1 : Bool := decide (x.i < (x.l.length : Int))
  let e2 : Int := x.l.getD (Int.toNat x.i) 0
  let x3 : S.ref01_Of_L2 := (⟨e2, 0, x.out⟩ : S.ref01_Of_L2)
  ((b1 = true → (All [(0 : Int) ≤ x.i, x.i < (x.l.length : Int), Runs S.ref01_Of_L2_step S.ref01_Of_L2_vcs x3 (S.ref01_Of_L2_run x3)] ∧ True)) ∧ (b1 = false → True))
noncomputable def S.ref01_Of_L0_run (x : S.ref01_Of_L0) : S.ref01_Of_L0 := theRun (fun x => x) S.ref01_Of_L0_step S.ref01_Of_L0_vcs x
noncomputable def S.ref01_Of (l : (List Int)) : (List Int) :=
  let x1 : S.ref01_Of_L0 := (⟨l, 0, ([] : List Int)⟩ : S.ref01_Of_L0)
  let y2 : S.ref01_Of_L0 := S.ref01_Of_L0_run x1
  let r3 : (List Int) := S.ref01_trim y2.out
  r3
def S.ref01_Of_pre (l : (List Int)) : Prop :=
  let x1 : S.ref01_Of_L0 := (⟨l, 0, ([] : List Int)⟩ : S.ref01_Of_L0)
  let y2 : S.ref01_Of_L0 := S.ref01_Of_L0_run x1
  (All [Runs S.ref01_Of_L0_step S.ref01_Of_L0_vcs x1 (S.ref01_Of_L0_run x1), S.ref01_trim_pre y2.out] ∧ True)
@[ext] structure S.ref01_Limbs_L2 where
  n : (List Int)
  i : Int
  vx : Int
  k : Int
def S.ref01_Limbs_L2_step (x : S.ref01_Limbs_L2) : S.ref01_Limbs_L2 ⊕ (S.ref01_Limbs_L2) :=
  let b1 : Bool := decide (x.k ≥ x.i)
  let t2 : Int := IntKind.u64.wrap (x.vx * 256)
  let e3 : Int := x.n.getD (Int.toNat x.k) 0
  let t4 : Int := IntKind.u64.wrap e3
  let t5 : Int := IntKind.u64.wrap (t2 + t4)
  let t6 : Int := IntKind.i64.wrap (x.k - 1)
  (bif b1 then (.inl ⟨x.n, x.i, t5, t6⟩) else (.inr ⟨x.n, x.i, x.vx, x.k⟩))
def S.ref01_Limbs_L2_vcs (x : S.ref01_Limbs_L2) : Prop :=
  let b1 : Bool := decide (x.k ≥ x.i)
  ((b1 = true → (All [(0 : Int) ≤ x.k, x.k < (x.n.length : Int)] ∧ True)) ∧ (b1 = false → True))
noncomputable def S.ref01_Limbs_L2_run (x : S.ref01_Limbs_L2) : S.ref01_Limbs_L2 := theRun (fun x => x) S.ref01_Limbs_L2_step S.ref01_Limbs_L2_vcs x
@[ext] structure S.ref01_Limbs_L0 where
  n : (List Int)
  i : Int
  out : (List Int)
noncomputable def S.ref01_Limbs_L0_step (x : S.ref01_Limbs_L0) : S.ref01_Limbs_L0 ⊕ (S.ref01_Limbs_L0) :=
  let b1 : Bool := decide (x.i < (x.n.length : Int))
  let t2 : Int := IntKind.i64.wrap (x.i + 8)
  let m3 : Int := if t2 < (x.n.length : Int) then t2 else (x.n.length : Int)
  let t4 : Int := IntKind.i64.wrap (m3 - 1)
  let x5 : S.ref01_Limbs_L2 := (⟨x.n, x.i, 0, t4⟩ : S.ref01_Limbs_L2)
  let y6 : S.ref01_Limbs_L2 := S.ref01_Limbs_L2_run x5
  let l7 : List Int := x.out ++ ([y6.vx] : List Int)
  let t8 : Int := IntKind.i64.wrap (y6.i + 8)
  (bif b1 then (.inl ⟨y6.n, t8, l7⟩) else (.inr ⟨x.n, x.i, x.out⟩))
noncomputable def S.ref01_Limbs_L0_vcs (x : S.ref01_Limbs_L0) : Prop :=
  let b1 : Bool := decide (x.i < (x.n.length : Int))
  let t2 : Int := IntKind.i64.wrap (x.i + 8)
  let m3 : Int := if t2 < (x.n.length : Int) then t2 else (x.n.length : Int)
  let t4 : Int := IntKind.i64.wrap (m3 - 1)
  let x5 : S.ref01_Limbs_L2 := (⟨x.n, x.i, 0, t4⟩ : S.ref01_Limbs_L2)
  let y6 : S.ref01_Limbs_L2 := S.ref01_Limbs_L2_run x5
  ((b1 = true → (All [Runs S.ref01_Limbs_L2_step S.ref01_Limbs_L2_vcs x5 (S.ref01_Limbs_L2_run x5), ((x.out.length + ([y6.vx] : List Int).length : Nat) : Int) * 8 ≤ 140737488355328] ∧ True)) ∧ (b1 = false → True))
noncomputable def S.ref01_Limbs_L0_run (x : S.ref01_Limbs_L0) : S.ref01_Limbs_L0 := theRun (fun x => x) S.ref01_Limbs_L0_step S.ref01_Limbs_L0_vcs x
noncomputable def S.ref01_Limbs (n : (List Int)) : (List Int) :=
  let x1 : S.ref01_Limbs_L0 := (⟨n, 0, ([] : List Int)⟩ : S.ref01_Limbs_L0)
  let y2 : S.ref01_Limbs_L0 := S.ref01_Limbs_L0_run x1
  y2.out
def S.ref01_Limbs_pre (n : (List Int)) : Prop :=
  let x1 : S.ref01_Limbs_L0 := (⟨n, 0, ([] : List Int)⟩ : S.ref01_Limbs_L0)
  (All [Runs S.ref01_Limbs_L0_step S.ref01_Limbs_L0_vcs x1 (S.ref01_Limbs_L0_run x1)] ∧ True)
@[ext] structure S.ref02_Div_L2 where
  n : (List Int)
  vby : Int
  left : Int
  i : Int
  digit : Int
  out : (List Int)
def S.ref02_Div_L2_step (x : S.ref02_Div_L2) : S.ref02_Div_L2 ⊕ (S.ref02_Div_L2) :=
  let b1 : Bool := decide (x.digit > 0)
  let b2 : Bool := decide (x.left ≥ 9223372036854775808)
  let t3 : Int := IntKind.u64.wrap (x.left * 2)
  let e4 : Int := x.n.getD (Int.toNat x.i) 0
  let t5 : Int := IntKind.i64.wrap e4
  let t6 : Int := IntKind.i64.wrap (Int.tdiv t5 x.digit)
  let t7 : Int := Int.tmod t6 2
  let t8 : Int := IntKind.u64.wrap t7
  let t9 : Int := IntKind.u64.wrap (t3 + t8)
  let b10 : Bool := decide (t9 ≥ x.vby)
  let p11 : Bool := (b2 || b10)
  let t12 : Int := IntKind.u64.wrap (t9 - x.vby)
  let e13 : Int := x.out.getD (Int.toNat x.i) 0
  let t14 : Int := IntKind.u8.wrap x.digit
  let t15 : Int := IntKind.u8.wrap (e13 + t14)
  let l16 : List Int := x.out.set (Int.toNat x.i) t15
  let t17 : Int := IntKind.i64.wrap (Int.tdiv x.digit 2)
  (bif b1 then (.inl ⟨x.n, x.vby, (bif p11 then t12 else t9), x.i, t17, (bif p11 then l16 else x.out)⟩) else (.inr ⟨x.n, x.vby, x.left, x.i, x.digit, x.out⟩))
def S.ref02_Div_L2_vcs (x : S.ref02_Div_L2) : Prop :=
  let b1 : Bool := decide (x.digit > 0)
  let b2 : Bool := decide (x.left ≥ 9223372036854775808)
  let t3 : Int := IntKind.u64.wrap (x.left * 2)
  let e4 : Int := x.n.getD (Int.toNat x.i) 0
  let t5 : Int := IntKind.i64.wrap e4
  let t6 : Int := IntKind.i64.wrap (Int.tdiv t5 x.digit)
  let t7 : Int := Int.tmod t6 2
  let t8 : Int := IntKind.u64.wrap t7
  let t9 : Int := IntKind.u64.wrap (t3 + t8)
  let b10 : Bool := decide (t9 ≥ x.vby)
  let p11 : Bool := (b2 || b10)
  ((b1 = true → (All [(0 : Int) ≤ x.i, x.i < (x.n.length : Int), x.digit ≠ 0, (p11 = true → ((0 : Int) ≤ x.i ∧ x.i < (x.out.length : Int) ∧ (0 : Int) ≤ x.i ∧ x.i < (x.out.length : Int)))] ∧ True)) ∧ (b1 = false → True))
noncomputable def S.ref02_Div_L2_run (x : S.ref02_Div_L2) : S.ref02_Div_L2 := theRun (fun x => x) S.ref02_Div_L2_step S.ref02_Div_L2_vcs x
@[ext] structure S.ref02_Div_L0 where
  n : (List Int)
  vby : Int
  left : Int
  i : Int
  out : (List Int)
noncomputable def S.ref02_Div_L0_step (x : S.ref02_Div_L0) : S.ref02_Div_L0 ⊕ (S.ref02_Div_L0) :=
  let b1 : Bool := decide (x.i ≥ 0)
  let x2 : S.ref02_Div_L2 := (⟨x.n, x.vby, x.left, x.i, 128, x.out⟩ : S.ref02_Div_L2)
  let y3 : S.ref02_Div_L2 := S.ref02_Div_L2_run x2
  let t4 : Int := IntKind.i64.wrap (y3.i - 1)
  (bif b1 then (.inl ⟨y3.n, y3.vby, y3.left, t4, y3.out⟩) else (.inr ⟨x.n, x.vby, x.left, x.i, x.out⟩))
noncomputable def S.ref02_Div_L0_vcs (x : S.ref02_Div_L0) : Prop :=
  let b1 : Bool := decide (x.i ≥ 0)
  let x2 : S.ref02_Div_L2 := (⟨x.n, x.vby, x.left, x.i, 128, x.out⟩ : S.ref02_Div_L2)
  ((b1 = true → (All [Runs S.ref02_Div_L2_step S.ref02_Div_L2_vcs x2 (S.ref02_Div_L2_run x2)] ∧ True)) ∧ (b1 = false → True))
noncomputable def S.ref02_Div_L0_run (x : S.ref02_Div_L0) : S.ref02_Div_L0 := theRun (fun x => x) S.ref02_Div_L0_step S.ref02_Div_L0_vcs x
noncomputable def S.ref02_Div (n : (List Int)) (a1 : Int) : (List Int) × Int × Int :=
  let b1 : Bool := a1 == 0
  let t2 : Int := IntKind.i64.wrap ((n.length : Int) - 1)
  let x3 : S.ref02_Div_L0 := (⟨n, a1, 0, t2, (List.replicate (Int.toNat (n.length : Int)) (0 : Int))⟩ : S.ref02_Div_L0)
  let y4 : S.ref02_Div_L0 := S.ref02_Div_L0_run x3
  let r5 : (List Int) := S.ref01_Limbs y4.out
  let r6 : (List Int) := S.ref01_Of r5
  (bif b1 then (([] : List Int), 0, 2) else (r6, y4.left, 0))
def S.ref02_Div_pre (n : (List Int)) (a1 : Int) : Prop :=
  let b1 : Bool := a1 == 0
  let t2 : Int := IntKind.i64.wrap ((n.length : Int) - 1)
  let x3 : S.ref02_Div_L0 := (⟨n, a1, 0, t2, (List.replicate (Int.toNat (n.length : Int)) (0 : Int))⟩ : S.ref02_Div_L0)
  let y4 : S.ref02_Div_L0 := S.ref02_Div_L0_run x3
  let r5 : (List Int) := S.ref01_Limbs y4.out
  ((b1 = true → True) ∧ (b1 = false → (All [(0 : Int) ≤ (n.length : Int), (n.length : Int) = (n.length : Int), (n.length : Int) * 1 ≤ 140737488355328, Runs S.ref02_Div_L0_step S.ref02_Div_L0_vcs x3 (S.ref02_Div_L0_run x3), S.ref01_Limbs_pre y4.out, S.ref01_Of_pre r5] ∧ True)))
noncomputable def S.ref02_Text_F : Nat → (List Int) → ByteArray
  | 0, _ => (⟨#[]⟩ : ByteArray)
  | n + 1, a0 =>
  let b1 : Bool := (a0.length : Int) == 0
  let r2 : (List Int) × Int × Int := S.ref02_Div a0 10
  let b3 : Bool := (r2.1.length : Int) == 0
  let t4 : Int := IntKind.u64.wrap (48 + r2.2.1)
  let t5 : Int := IntKind.u8.wrap t4
  let s6 : ByteArray := ([t5] : List Int).foldl (fun r n => r.push (UInt8.ofNat (Int.toNat n))) ByteArray.empty
  let r7 : ByteArray := S.ref02_Text_F n r2.1
  let t8 : Int := IntKind.u64.wrap (48 + r2.2.1)
  let t9 : Int := IntKind.u8.wrap t8
  let s10 : ByteArray := ([t9] : List Int).foldl (fun r n => r.push (UInt8.ofNat (Int.toNat n))) ByteArray.empty
  let s11 : ByteArray := r7 ++ s10
  (bif b1 then (⟨#[48]⟩ : ByteArray) else (bif b3 then s6 else s11))
def S.ref02_Text_D : Nat → (List Int) → Prop
  | 0, _ => False
  | n + 1, a0 =>
  let b1 : Bool := (a0.length : Int) == 0
  let r2 : (List Int) × Int × Int := S.ref02_Div a0 10
  let b3 : Bool := (r2.1.length : Int) == 0
  let r7 : ByteArray := S.ref02_Text_F n r2.1
  let t8 : Int := IntKind.u64.wrap (48 + r2.2.1)
  let t9 : Int := IntKind.u8.wrap t8
  let s10 : ByteArray := ([t9] : List Int).foldl (fun r n => r.push (UInt8.ofNat (Int.toNat n))) ByteArray.empty
  ((b1 = true → True) ∧ (b1 = false → (All [S.ref02_Div_pre a0 10] ∧ ((b3 = true → True) ∧ (b3 = false → (All [S.ref02_Text_D n r2.1, ((r7.size + s10.size : Nat) : Int) ≤ IntKind.i64.max] ∧ True))))))
noncomputable def S.ref02_Text (a0 : (List Int)) : ByteArray := S.ref02_Text_F (Classical.epsilon fun n => S.ref02_Text_D n a0) a0
def S.ref02_Text_pre (a0 : (List Int)) : Prop := ∃ n, S.ref02_Text_D n a0
noncomputable def S.ref02_Whole (n : Int) : ByteArray :=
  let b1 : Bool := decide (n < 0)
  let t2 : Int := IntKind.i64.wrap (0 - n)
  let t3 : Int := IntKind.u64.wrap t2
  let r4 : (List Int) := S.ref01_Of ([t3] : List Int)
  let r5 : ByteArray := S.ref02_Text r4
  let s6 : ByteArray := (⟨#[45]⟩ : ByteArray) ++ r5
  let t7 : Int := IntKind.u64.wrap n
  let r8 : (List Int) := S.ref01_Of ([t7] : List Int)
  let r9 : ByteArray := S.ref02_Text r8
  (bif b1 then s6 else r9)
def S.ref02_Whole_pre (n : Int) : Prop :=
  let b1 : Bool := decide (n < 0)
  let t2 : Int := IntKind.i64.wrap (0 - n)
  let t3 : Int := IntKind.u64.wrap t2
  let r4 : (List Int) := S.ref01_Of ([t3] : List Int)
  let r5 : ByteArray := S.ref02_Text r4
  let t7 : Int := IntKind.u64.wrap n
  let r8 : (List Int) := S.ref01_Of ([t7] : List Int)
  ((b1 = true → (All [S.ref01_Of_pre ([t3] : List Int), S.ref02_Text_pre r4, (((⟨#[45]⟩ : ByteArray).size + r5.size : Nat) : Int) ≤ IntKind.i64.max] ∧ True)) ∧ (b1 = false → (All [S.ref01_Of_pre ([t7] : List Int), S.ref02_Text_pre r8] ∧ True)))
def S.inter_Join_1 (a : S.Inter) (b : S.Inter) : S.Inter :=
  let r1 : Bool := S.inter_Inter_IsEmpty a
  let r2 : Bool := S.inter_Inter_IsEmpty b
  let m3 : Int := if b.Lo < a.Lo then b.Lo else a.Lo
  let m4 : Int := if b.Hi > a.Hi then b.Hi else a.Hi
  (bif r1 then b else (bif r2 then a else (⟨m3, m4⟩ : S.Inter)))
@[ext] structure S.inter_fold_inter_Join_1_L0 where
  t9 : (List S.Inter)
  t10 : Int
  t11 : Int
  first : S.Inter
def S.inter_fold_inter_Join_1_L0_step (x : S.inter_fold_inter_Join_1_L0) : S.inter_fold_inter_Join_1_L0 ⊕ (S.inter_fold_inter_Join_1_L0) :=
  let b1 : Bool := decide (x.t11 < x.t10)
  let e2 : S.Inter := x.t9.getD (Int.toNat x.t11) (⟨0, 0⟩ : S.Inter)
  let r3 : S.Inter := S.inter_Join_1 x.first e2
  let t4 : Int := IntKind.i64.wrap (x.t11 + 1)
  (bif b1 then (.inl ⟨x.t9, x.t10, t4, r3⟩) else (.inr ⟨x.t9, x.t10, x.t11, x.first⟩))
def S.inter_fold_inter_Join_1_L0_vcs (x : S.inter_fold_inter_Join_1_L0) : Prop :=
  let b1 : Bool := decide (x.t11 < x.t10)
  ((b1 = true → (All [(0 : Int) ≤ x.t11, x.t11 < (x.t9.length : Int)] ∧ True)) ∧ (b1 = false → True))
noncomputable def S.inter_fold_inter_Join_1_L0_run (x : S.inter_fold_inter_Join_1_L0) : S.inter_fold_inter_Join_1_L0 := theRun (fun x => x) S.inter_fold_inter_Join_1_L0_step S.inter_fold_inter_Join_1_L0_vcs x
noncomputable def S.inter_fold_inter_Join_1 (first : S.Inter) (l : (List S.Inter)) : S.Inter :=
  let x1 : S.inter_fold_inter_Join_1_L0 := (⟨l, (l.length : Int), 0, first⟩ : S.inter_fold_inter_Join_1_L0)
  let y2 : S.inter_fold_inter_Join_1_L0 := S.inter_fold_inter_Join_1_L0_run x1
  let r3 : S.Inter := S.inter_Inter_plain y2.first
  r3
def S.inter_fold_inter_Join_1_pre (first : S.Inter) (l : (List S.Inter)) : Prop :=
  let x1 : S.inter_fold_inter_Join_1_L0 := (⟨l, (l.length : Int), 0, first⟩ : S.inter_fold_inter_Join_1_L0)
  (All [Runs S.inter_fold_inter_Join_1_L0_step S.inter_fold_inter_Join_1_L0_vcs x1 (S.inter_fold_inter_Join_1_L0_run x1)] ∧ True)
noncomputable def S.inter_Join (l : (List S.Inter)) : S.Inter :=
  let r1 : S.Inter := S.inter_Empty
  let r2 : S.Inter := S.inter_fold_inter_Join_1 r1 l
  r2
def S.inter_Join_pre (l : (List S.Inter)) : Prop :=
  let r1 : S.Inter := S.inter_Empty
  (All [S.inter_fold_inter_Join_1_pre r1 l] ∧ True)
def S.cong_far (a : Int) (b : Int) : Int :=
  let m1 : Int := if b > a then b else a
  let m2 : Int := if b < a then b else a
  let t3 : Int := IntKind.u64.wrap (m1 - m2)
  t3
noncomputable def S.cong_Join (a : S.Cong) (b : S.Cong) : S.Cong :=
  let r1 : Int := S.cong_gcd a.M b.M
  let b2 : Bool := ((a.M == b.M) && (a.R == b.R))
  let b3 : Bool := r1 == 0
  let r4 : Int := S.cong_Cong_number a
  let r5 : Int := S.cong_Cong_number b
  let m6 : Int := if r5 > r4 then r5 else r4
  let t7 : Int := IntKind.u64.wrap m6
  let m8 : Int := if r5 < r4 then r5 else r4
  let t9 : Int := IntKind.u64.wrap m8
  let t10 : Int := IntKind.u64.wrap (t7 - t9)
  let r11 : S.Cong := S.cong_Make t10 r4
  let r12 : Int := S.cong_Cong_by a r1
  let r13 : Int := S.cong_Cong_by b r1
  let r14 : Int := S.cong_far r12 r13
  let r15 : Int := S.cong_gcd r1 r14
  let t16 : Int := Int.tmod r12 r15
  (bif b2 then a else (bif b3 then r11 else (⟨r15, t16⟩ : S.Cong)))
def S.cong_Join_pre (a : S.Cong) (b : S.Cong) : Prop :=
  let r1 : Int := S.cong_gcd a.M b.M
  let b2 : Bool := ((a.M == b.M) && (a.R == b.R))
  let b3 : Bool := r1 == 0
  let r4 : Int := S.cong_Cong_number a
  let r5 : Int := S.cong_Cong_number b
  let m6 : Int := if r5 > r4 then r5 else r4
  let t7 : Int := IntKind.u64.wrap m6
  let m8 : Int := if r5 < r4 then r5 else r4
  let t9 : Int := IntKind.u64.wrap m8
  let t10 : Int := IntKind.u64.wrap (t7 - t9)
  let r12 : Int := S.cong_Cong_by a r1
  let r13 : Int := S.cong_Cong_by b r1
  let r14 : Int := S.cong_far r12 r13
  let r15 : Int := S.cong_gcd r1 r14
  (All [S.cong_gcd_pre a.M b.M] ∧ ((b2 = true → True) ∧ (b2 = false → ((b3 = true → (All [S.cong_Make_pre t10 r4] ∧ True)) ∧ (b3 = false → (All [S.cong_Cong_by_pre a r1, S.cong_Cong_by_pre b r1, S.cong_gcd_pre r1 r14, r15 ≠ 0] ∧ True))))))
def S.ref19_Plain (i : S.Inter) : S.Inter :=
  let b1 : Bool := decide (i.Lo > i.Hi)
  (bif b1 then (⟨1, 0⟩ : S.Inter) else i)
def S.ref19_Join (a : S.Inter) (b : S.Inter) : S.Inter :=
  let r1 : Bool := S.ref19_Empty a
  let r2 : S.Inter := S.ref19_Plain b
  let r3 : Bool := S.ref19_Empty b
  let m4 : Int := if b.Lo < a.Lo then b.Lo else a.Lo
  let m5 : Int := if b.Hi > a.Hi then b.Hi else a.Hi
  (bif r1 then r2 else (bif r3 then a else (⟨m4, m5⟩ : S.Inter)))
def S.ref20_Gcd_F : Nat → Int → Int → Int
  | 0, _, _ => 0
  | n + 1, a, b =>
  let b1 : Bool := b == 0
  let t2 : Int := Int.tmod a b
  let r3 : Int := S.ref20_Gcd_F n b t2
  (bif b1 then a else r3)
def S.ref20_Gcd_D : Nat → Int → Int → Prop
  | 0, _, _ => False
  | n + 1, a, b =>
  let b1 : Bool := b == 0
  let t2 : Int := Int.tmod a b
  ((b1 = true → True) ∧ (b1 = false → (All [b ≠ 0, S.ref20_Gcd_D n b t2] ∧ True)))
noncomputable def S.ref20_Gcd (a : Int) (b : Int) : Int := S.ref20_Gcd_F (Classical.epsilon fun n => S.ref20_Gcd_D n a b) a b
def S.ref20_Gcd_pre (a : Int) (b : Int) : Prop := ∃ n, S.ref20_Gcd_D n a b
def S.ref20_Of (c : S.Cong) (g : Int) : Int :=
  let b1 : Bool := c.M == 0
  let t2 : Int := IntKind.i64.wrap c.R
  let r3 : Int := S.ref20_Rest t2 g
  let t4 : Int := Int.tmod c.R g
  (bif b1 then r3 else t4)
def S.ref20_Of_pre (c : S.Cong) (g : Int) : Prop :=
  let b1 : Bool := c.M == 0
  let t2 : Int := IntKind.i64.wrap c.R
  ((b1 = true → (All [S.ref20_Rest_pre t2 g] ∧ True)) ∧ (b1 = false → (All [g ≠ 0] ∧ True)))
def S.ref20_far (a : Int) (b : Int) : Int :=
  let b1 : Bool := decide (a < b)
  let t2 : Int := IntKind.u64.wrap (b - a)
  let t3 : Int := IntKind.u64.wrap (a - b)
  (bif b1 then t2 else t3)
noncomputable def S.ref20_Join (a : S.Cong) (b : S.Cong) : S.Cong :=
  let b1 : Bool := ((a.M == b.M) && (a.R == b.R))
  let r2 : Int := S.ref20_Gcd a.M b.M
  let b3 : Bool := r2 == 0
  let t4 : Int := IntKind.i64.wrap a.R
  let t5 : Int := IntKind.i64.wrap b.R
  let m6 : Int := if t5 > t4 then t5 else t4
  let t7 : Int := IntKind.u64.wrap m6
  let m8 : Int := if t5 < t4 then t5 else t4
  let t9 : Int := IntKind.u64.wrap m8
  let t10 : Int := IntKind.u64.wrap (t7 - t9)
  let r11 : S.Cong := S.ref20_Make t10 t4
  let r12 : Int := S.ref20_Of a r2
  let r13 : Int := S.ref20_Of b r2
  let r14 : Int := S.ref20_far r12 r13
  let r15 : Int := S.ref20_Gcd r2 r14
  let r16 : Int := S.ref20_Of a r2
  let t17 : Int := Int.tmod r16 r15
  (bif b1 then a else (bif b3 then r11 else (⟨r15, t17⟩ : S.Cong)))
def S.ref20_Join_pre (a : S.Cong) (b : S.Cong) : Prop :=
  let b1 : Bool := ((a.M == b.M) && (a.R == b.R))
  let r2 : Int := S.ref20_Gcd a.M b.M
  let b3 : Bool := r2 == 0
  let t4 : Int := IntKind.i64.wrap a.R
  let t5 : Int := IntKind.i64.wrap b.R
  let m6 : Int := if t5 > t4 then t5 else t4
  let t7 : Int := IntKind.u64.wrap m6
  let m8 : Int := if t5 < t4 then t5 else t4
  let t9 : Int := IntKind.u64.wrap m8
  let t10 : Int := IntKind.u64.wrap (t7 - t9)
  let r12 : Int := S.ref20_Of a r2
  let r13 : Int := S.ref20_Of b r2
  let r14 : Int := S.ref20_far r12 r13
  let r15 : Int := S.ref20_Gcd r2 r14
  ((b1 = true → True) ∧ (b1 = false → (All [S.ref20_Gcd_pre a.M b.M] ∧ ((b3 = true → (All [S.ref20_Make_pre t10 t4] ∧ True)) ∧ (b3 = false → (All [S.ref20_Of_pre a r2, S.ref20_Of_pre b r2, S.ref20_Gcd_pre r2 r14, S.ref20_Of_pre a r2, r15 ≠ 0] ∧ True))))))
def S.ref20_Within (a : S.Cong) (b : S.Cong) : Bool :=
  let b1 : Bool := b.M == 0
  let b2 : Bool := ((a.M == b.M) && (a.R == b.R))
  let t3 : Int := Int.tmod a.M b.M
  let b4 : Bool := t3 == 0
  let r5 : Int := S.ref20_Of a b.M
  let b6 : Bool := r5 == b.R
  let p7 : Bool := (b4 && b6)
  (bif b1 then b2 else p7)
def S.ref20_Within_pre (a : S.Cong) (b : S.Cong) : Prop :=
  let b1 : Bool := b.M == 0
  let t3 : Int := Int.tmod a.M b.M
  let b4 : Bool := t3 == 0
  ((b1 = true → True) ∧ (b1 = false → (All [b.M ≠ 0, (b4 = true → S.ref20_Of_pre a b.M)] ∧ True)))
noncomputable def S.ref20_Meet (a : S.Cong) (b : S.Cong) : S.Cong × Bool :=
  let b1 : Bool := a.M == 0
  let b2 : Bool := b.M == 0
  let p3 : Bool := (b1 || b2)
  let b4 : Bool := decide (a.M > 0)
  let t5 : Int := IntKind.i64.wrap (bif b4 then b.R else a.R)
  let r6 : Bool := S.ref20_Has (⟨(bif b4 then a.M else b.M), (bif b4 then a.R else b.R)⟩ : S.Cong) t5
  let b7 : Bool := !r6
  let r8 : Int := S.ref20_Gcd a.M b.M
  let r9 : Int := S.ref20_Of a r8
  let r10 : Int := S.ref20_Of b r8
  let b11 : Bool := r9 != r10
  let r12 : Bool := S.ref20_Within a b
  let b13 : Bool := !r12
  let r14 : Bool := S.ref20_Within b a
  let b15 : Bool := decide (b.M > a.M)
  let p16 : Bool := (r14 || b15)
  let p17 : Bool := (b13 && p16)
  (bif p3 then (bif b7 then ((⟨0, 0⟩ : S.Cong), false) else ((⟨(bif b4 then b.M else a.M), (bif b4 then b.R else a.R)⟩ : S.Cong), true)) else (bif b11 then ((⟨0, 0⟩ : S.Cong), false) else (bif p17 then (b, true) else (a, true))))
def S.ref20_Meet_pre (a : S.Cong) (b : S.Cong) : Prop :=
  let b1 : Bool := a.M == 0
  let b2 : Bool := b.M == 0
  let p3 : Bool := (b1 || b2)
  let b4 : Bool := decide (a.M > 0)
  let t5 : Int := IntKind.i64.wrap (bif b4 then b.R else a.R)
  let r6 : Bool := S.ref20_Has (⟨(bif b4 then a.M else b.M), (bif b4 then a.R else b.R)⟩ : S.Cong) t5
  let b7 : Bool := !r6
  let r8 : Int := S.ref20_Gcd a.M b.M
  let r9 : Int := S.ref20_Of a r8
  let r10 : Int := S.ref20_Of b r8
  let b11 : Bool := r9 != r10
  let r12 : Bool := S.ref20_Within a b
  let b13 : Bool := !r12
  let r14 : Bool := S.ref20_Within b a
  let b15 : Bool := decide (b.M > a.M)
  let p16 : Bool := (r14 || b15)
  let p17 : Bool := (b13 && p16)
  ((p3 = true → (All [S.ref20_Has_pre (⟨(bif b4 then a.M else b.M), (bif b4 then a.R else b.R)⟩ : S.Cong) t5] ∧ ((b7 = true → True) ∧ (b7 = false → True)))) ∧ (p3 = false → (All [S.ref20_Gcd_pre a.M b.M, S.ref20_Of_pre a r8, S.ref20_Of_pre b r8] ∧ ((b11 = true → True) ∧ (b11 = false → (All [S.ref20_Within_pre a b, (b13 = true → S.ref20_Within_pre b a)] ∧ ((p17 = true → True) ∧ (p17 = false → True))))))))
def S.ref19_Meet (a : S.Inter) (b : S.Inter) : S.Inter :=
  let m1 : Int := if b.Lo > a.Lo then b.Lo else a.Lo
  let m2 : Int := if b.Hi < a.Hi then b.Hi else a.Hi
  let r3 : S.Inter := S.ref19_Plain (⟨m1, m2⟩ : S.Inter)
  r3
noncomputable def S.ref21_Meet (a : S.Value) (b : S.Value) : S.Value :=
  let r1 : S.Cong × Bool := S.ref20_Meet a.C b.C
  let b2 : Bool := !r1.2
  let r3 : S.Value := S.ref21_Bottom
  let r4 : S.Inter := S.ref19_Meet a.I b.I
  let r5 : S.Value := S.ref21_Make r4 r1.1
  (bif b2 then r3 else r5)
def S.ref21_Meet_pre (a : S.Value) (b : S.Value) : Prop :=
  let r1 : S.Cong × Bool := S.ref20_Meet a.C b.C
  let b2 : Bool := !r1.2
  let r4 : S.Inter := S.ref19_Meet a.I b.I
  (All [S.ref20_Meet_pre a.C b.C] ∧ ((b2 = true → True) ∧ (b2 = false → (All [S.ref21_Make_pre r4 r1.1] ∧ True))))
noncomputable def S.inter_Widen (a : S.Inter) (b : S.Inter) : S.Inter :=
  let r1 : S.Inter := S.inter_Join ([a, b] : List S.Inter)
  let r2 : Bool := S.inter_Inter_IsEmpty a
  let b3 : Bool := decide (r1.Lo < a.Lo)
  let b4 : Bool := decide (r1.Hi > a.Hi)
  (bif r2 then r1 else (⟨(bif b3 then (-9223372036854775808) else r1.Lo), (bif b4 then 9223372036854775807 else r1.Hi)⟩ : S.Inter))
def S.inter_Widen_pre (a : S.Inter) (b : S.Inter) : Prop :=
  let r2 : Bool := S.inter_Inter_IsEmpty a
  (All [S.inter_Join_pre ([a, b] : List S.Inter)] ∧ ((r2 = true → True) ∧ (r2 = false → True)))
def S.ref19_Widen (a : S.Inter) (b : S.Inter) : S.Inter :=
  let r1 : Bool := S.ref19_Empty a
  let r2 : S.Inter := S.ref19_Plain b
  let r3 : Bool := S.ref19_Empty b
  let b4 : Bool := decide (b.Lo < a.Lo)
  let r5 : Int := S.ref19_Least
  let b6 : Bool := decide (b.Hi > a.Hi)
  let r7 : Int := S.ref19_Most
  (bif r1 then r2 else (bif r3 then a else (⟨(bif b4 then r5 else a.Lo), (bif b6 then r7 else a.Hi)⟩ : S.Inter)))
def S.inter_Narrow (a : S.Inter) (b : S.Inter) : S.Inter :=
  let r1 : Bool := S.inter_Inter_IsEmpty a
  let r2 : Bool := S.inter_Inter_IsEmpty b
  let p3 : Bool := (r1 || r2)
  let r4 : S.Inter := S.inter_Empty
  let b5 : Bool := a.Lo == (-9223372036854775808)
  let b6 : Bool := a.Hi == 9223372036854775807
  let r7 : S.Inter := S.inter_Inter_plain (⟨(bif b5 then b.Lo else a.Lo), (bif b6 then b.Hi else a.Hi)⟩ : S.Inter)
  (bif p3 then r4 else r7)
def S.ref19_Narrow (a : S.Inter) (b : S.Inter) : S.Inter :=
  let r1 : Bool := S.ref19_Empty a
  let r2 : Bool := S.ref19_Empty b
  let p3 : Bool := (r1 || r2)
  let r4 : Int := S.ref19_Least
  let b5 : Bool := a.Lo == r4
  let r6 : Int := S.ref19_Most
  let b7 : Bool := a.Hi == r6
  let r8 : S.Inter := S.ref19_Plain (⟨(bif b5 then b.Lo else a.Lo), (bif b7 then b.Hi else a.Hi)⟩ : S.Inter)
  (bif p3 then (⟨1, 0⟩ : S.Inter) else r8)
def S.ref24_Truth (v : S.Value) : Bool × Bool :=
  let r1 : S.Value := S.ref21_Bottom
  let b2 : Bool := ((v.I.Lo == r1.I.Lo) && ((v.I.Hi == r1.I.Hi) && ((v.C.M == r1.C.M) && (v.C.R == r1.C.R))))
  let r3 : S.Value := S.ref21_One 0
  let b4 : Bool := !((v.I.Lo == r3.I.Lo) && ((v.I.Hi == r3.I.Hi) && ((v.C.M == r3.C.M) && (v.C.R == r3.C.R))))
  let r5 : Bool := S.ref21_Has v 0
  (bif b2 then (false, false) else (b4, r5))
def S.ref24_Truth_pre (v : S.Value) : Prop :=
  let r1 : S.Value := S.ref21_Bottom
  let b2 : Bool := ((v.I.Lo == r1.I.Lo) && ((v.I.Hi == r1.I.Hi) && ((v.C.M == r1.C.M) && (v.C.R == r1.C.R))))
  ((b2 = true → True) ∧ (b2 = false → (All [S.ref21_One_pre 0, S.ref21_Has_pre v 0] ∧ True)))
def S.ref24_within (v : S.Value) (i : S.Inter) (c : S.Cong) : S.Value :=
  let r1 : Bool := S.ref20_Within c v.C
  let r2 : S.Value := S.ref21_Make i c
  let r3 : S.Value := S.ref21_Make i v.C
  (bif r1 then r2 else r3)
def S.ref24_within_pre (v : S.Value) (i : S.Inter) (c : S.Cong) : Prop :=
  let r1 : Bool := S.ref20_Within c v.C
  (All [S.ref20_Within_pre c v.C] ∧ ((r1 = true → (All [S.ref21_Make_pre i c] ∧ True)) ∧ (r1 = false → (All [S.ref21_Make_pre i v.C] ∧ True))))
noncomputable def S.ref24_alike (a : S.Value) (b : S.Value) : S.Value × S.Value :=
  let r1 : S.Cong × Bool := S.ref20_Meet a.C b.C
  let b2 : Bool := !r1.2
  let r3 : S.Value := S.ref21_Bottom
  let r4 : S.Value := S.ref21_Bottom
  let r5 : S.Inter := S.ref19_Meet a.I b.I
  let r6 : S.Value := S.ref24_within a r5 b.C
  let r7 : S.Value := S.ref24_within b r5 a.C
  (bif b2 then (r3, r4) else (r6, r7))
def S.ref24_alike_pre (a : S.Value) (b : S.Value) : Prop :=
  let r1 : S.Cong × Bool := S.ref20_Meet a.C b.C
  let b2 : Bool := !r1.2
  let r5 : S.Inter := S.ref19_Meet a.I b.I
  (All [S.ref20_Meet_pre a.C b.C] ∧ ((b2 = true → True) ∧ (b2 = false → (All [S.ref24_within_pre a r5 b.C, S.ref24_within_pre b r5 a.C] ∧ True))))
noncomputable def S.ref24_tells_F : Nat → Int → S.Value → S.Value → Bool × Bool
  | 0, _, _, _ => (false, false)
  | n + 1, op, a, b =>
  let r1 : Bool × Bool := S.ref24_Truth a
  let r2 : Bool × Bool := S.ref24_Truth b
  let b3 : Bool := op == 0
  let p4 : Bool := (r1.1 || r2.1)
  let p5 : Bool := (r1.2 && r2.2)
  let b6 : Bool := op == 1
  let p7 : Bool := (r1.1 && r2.1)
  let p8 : Bool := (r1.2 || r2.2)
  let b9 : Bool := op == 2
  let r10 : S.Value × S.Value := S.ref24_alike a b
  let r11 : S.Value := S.ref21_Bottom
  let b12 : Bool := !((r10.1.I.Lo == r11.I.Lo) && ((r10.1.I.Hi == r11.I.Hi) && ((r10.1.C.M == r11.C.M) && (r10.1.C.R == r11.C.R))))
  let r13 : S.Value := S.ref21_Bottom
  let b14 : Bool := !((r10.2.I.Lo == r13.I.Lo) && ((r10.2.I.Hi == r13.I.Hi) && ((r10.2.C.M == r13.C.M) && (r10.2.C.R == r13.C.R))))
  let p15 : Bool := (b12 && b14)
  let b16 : Bool := !((a.I.Lo == b.I.Lo) && ((a.I.Hi == b.I.Hi) && ((a.C.M == b.C.M) && (a.C.R == b.C.R))))
  let b17 : Bool := a.I.Lo != a.I.Hi
  let p18 : Bool := (b16 || b17)
  let b19 : Bool := op == 3
  let r20 : Bool × Bool := S.ref24_tells_F n 2 a b
  let b21 : Bool := op == 4
  let b22 : Bool := decide (a.I.Lo < b.I.Hi)
  let b23 : Bool := decide (a.I.Hi ≥ b.I.Lo)
  let b24 : Bool := op == 5
  let b25 : Bool := decide (a.I.Lo ≤ b.I.Hi)
  let b26 : Bool := decide (a.I.Hi > b.I.Lo)
  let t27 : Int := IntKind.i64.wrap (op - 2)
  let r28 : Bool × Bool := S.ref24_tells_F n t27 b a
  (bif b3 then (p4, p5) else (bif b6 then (p7, p8) else (bif b9 then (p15, p18) else (bif b19 then (r20.2, r20.1) else (bif b21 then (b22, b23) else (bif b24 then (b25, b26) else (r28.1, r28.2)))))))
def S.ref24_tells_D : Nat → Int → S.Value → S.Value → Prop
  | 0, _, _, _ => False
  | n + 1, op, a, b =>
  let b3 : Bool := op == 0
  let b6 : Bool := op == 1
  let b9 : Bool := op == 2
  let b19 : Bool := op == 3
  let b21 : Bool := op == 4
  let b24 : Bool := op == 5
  let t27 : Int := IntKind.i64.wrap (op - 2)
  (All [S.ref24_Truth_pre a, S.ref24_Truth_pre b] ∧ ((b3 = true → True) ∧ (b3 = false → ((b6 = true → True) ∧ (b6 = false → ((b9 = true → (All [S.ref24_alike_pre a b] ∧ True)) ∧ (b9 = false → ((b19 = true → (All [S.ref24_tells_D n 2 a b] ∧ True)) ∧ (b19 = false → ((b21 = true → True) ∧ (b21 = false → ((b24 = true → True) ∧ (b24 = false → (All [S.ref24_tells_D n t27 b a] ∧ True))))))))))))))
noncomputable def S.ref24_tells (op : Int) (a : S.Value) (b : S.Value) : Bool × Bool := S.ref24_tells_F (Classical.epsilon fun n => S.ref24_tells_D n op a b) op a b
def S.ref24_tells_pre (op : Int) (a : S.Value) (b : S.Value) : Prop := ∃ n, S.ref24_tells_D n op a b
def S.ref24_most : Int :=
  9223372036854775807
def S.ref24_from (v : S.Value) (n : Int) : S.Value :=
  let r1 : Int := S.ref24_most
  let r2 : S.Inter := S.ref19_Meet v.I (⟨n, r1⟩ : S.Inter)
  let r3 : S.Value := S.ref21_Make r2 v.C
  r3
def S.ref24_from_pre (v : S.Value) (n : Int) : Prop :=
  let r1 : Int := S.ref24_most
  let r2 : S.Inter := S.ref19_Meet v.I (⟨n, r1⟩ : S.Inter)
  (All [S.ref21_Make_pre r2 v.C] ∧ True)
def S.ref24_above (v : S.Value) (n : Int) : S.Value :=
  let r1 : Int := S.ref24_most
  let b2 : Bool := n == r1
  let r3 : S.Value := S.ref21_Bottom
  let t4 : Int := IntKind.i64.wrap (n + 1)
  let r5 : S.Value := S.ref24_from v t4
  (bif b2 then r3 else r5)
def S.ref24_above_pre (v : S.Value) (n : Int) : Prop :=
  let r1 : Int := S.ref24_most
  let b2 : Bool := n == r1
  let t4 : Int := IntKind.i64.wrap (n + 1)
  ((b2 = true → True) ∧ (b2 = false → (All [S.ref24_from_pre v t4] ∧ True)))
def S.ref24_least : Int :=
  (-9223372036854775808)
def S.ref24_upto (v : S.Value) (n : Int) : S.Value :=
  let r1 : Int := S.ref24_least
  let r2 : S.Inter := S.ref19_Meet v.I (⟨r1, n⟩ : S.Inter)
  let r3 : S.Value := S.ref21_Make r2 v.C
  r3
def S.ref24_upto_pre (v : S.Value) (n : Int) : Prop :=
  let r1 : Int := S.ref24_least
  let r2 : S.Inter := S.ref19_Meet v.I (⟨r1, n⟩ : S.Inter)
  (All [S.ref21_Make_pre r2 v.C] ∧ True)
def S.ref24_below (v : S.Value) (n : Int) : S.Value :=
  let r1 : Int := S.ref24_least
  let b2 : Bool := n == r1
  let r3 : S.Value := S.ref21_Bottom
  let t4 : Int := IntKind.i64.wrap (n - 1)
  let r5 : S.Value := S.ref24_upto v t4
  (bif b2 then r3 else r5)
def S.ref24_below_pre (v : S.Value) (n : Int) : Prop :=
  let r1 : Int := S.ref24_least
  let b2 : Bool := n == r1
  let t4 : Int := IntKind.i64.wrap (n - 1)
  ((b2 = true → True) ∧ (b2 = false → (All [S.ref24_upto_pre v t4] ∧ True)))
def S.ref24_Without (v : S.Value) (n : Int) : S.Value :=
  let r1 : S.Value := S.ref21_Plain v
  let r2 : S.Value := S.ref21_Bottom
  let b3 : Bool := ((r1.I.Lo == r2.I.Lo) && ((r1.I.Hi == r2.I.Hi) && ((r1.C.M == r2.C.M) && (r1.C.R == r2.C.R))))
  let b4 : Bool := n == r1.I.Lo
  let r5 : S.Value := S.ref24_above r1 n
  let b6 : Bool := n == r1.I.Hi
  let r7 : S.Value := S.ref24_below r1 n
  (bif b3 then r1 else (bif b4 then r5 else (bif b6 then r7 else r1)))
def S.ref24_Without_pre (v : S.Value) (n : Int) : Prop :=
  let r1 : S.Value := S.ref21_Plain v
  let r2 : S.Value := S.ref21_Bottom
  let b3 : Bool := ((r1.I.Lo == r2.I.Lo) && ((r1.I.Hi == r2.I.Hi) && ((r1.C.M == r2.C.M) && (r1.C.R == r2.C.R))))
  let b4 : Bool := n == r1.I.Lo
  let b6 : Bool := n == r1.I.Hi
  (All [S.ref21_Plain_pre v] ∧ ((b3 = true → True) ∧ (b3 = false → ((b4 = true → (All [S.ref24_above_pre r1 n] ∧ True)) ∧ (b4 = false → ((b6 = true → (All [S.ref24_below_pre r1 n] ∧ True)) ∧ (b6 = false → True)))))))
noncomputable def S.ref24_Only (v : S.Value) (truth : Bool) : S.Value :=
  let r1 : S.Value := S.ref24_Without v 0
  let r2 : S.Value := S.ref21_Plain v
  let r3 : S.Value := S.ref21_One 0
  let r4 : S.Value := S.ref21_Meet r2 r3
  (bif truth then r1 else r4)
def S.ref24_Only_pre (v : S.Value) (truth : Bool) : Prop :=
  let r2 : S.Value := S.ref21_Plain v
  let r3 : S.Value := S.ref21_One 0
  ((truth = true → (All [S.ref24_Without_pre v 0] ∧ True)) ∧ (truth = false → (All [S.ref21_Plain_pre v, S.ref21_One_pre 0, S.ref21_Meet_pre r2 r3] ∧ True)))
noncomputable def S.ref24_left_F : Nat → Int → S.Value → S.Value → S.Value × S.Value
  | 0, _, _, _ => ((⟨(⟨0, 0⟩ : S.Inter), (⟨0, 0⟩ : S.Cong)⟩ : S.Value), (⟨(⟨0, 0⟩ : S.Inter), (⟨0, 0⟩ : S.Cong)⟩ : S.Value))
  | n + 1, op, a, b =>
  let b1 : Bool := op == 1
  let r2 : S.Value := S.ref24_Only a true
  let r3 : S.Value := S.ref24_Only b true
  let b4 : Bool := op == 2
  let r5 : S.Value × S.Value := S.ref24_alike a b
  let b6 : Bool := op == 3
  let b7 : Bool := b.I.Lo == b.I.Hi
  let r8 : S.Value := S.ref24_Without a b.I.Lo
  let b9 : Bool := a.I.Lo == a.I.Hi
  let r10 : S.Value := S.ref24_Without b a.I.Lo
  let b11 : Bool := op == 4
  let r12 : S.Value := S.ref24_below a b.I.Hi
  let r13 : S.Value := S.ref24_above b a.I.Lo
  let b14 : Bool := op == 5
  let r15 : S.Value := S.ref24_upto a b.I.Hi
  let r16 : S.Value := S.ref24_from b a.I.Lo
  let b17 : Bool := op == 6
  let b18 : Bool := op == 7
  let t19 : Int := IntKind.i64.wrap (op - 2)
  let r20 : S.Value × S.Value := S.ref24_left_F n t19 b a
  (bif b1 then (r2, r3) else (bif b4 then (r5.1, r5.2) else (bif b6 then ((⟨(⟨(bif b7 then r8.I.Lo else a.I.Lo), (bif b7 then r8.I.Hi else a.I.Hi)⟩ : S.Inter), (⟨(bif b7 then r8.C.M else a.C.M), (bif b7 then r8.C.R else a.C.R)⟩ : S.Cong)⟩ : S.Value), (⟨(⟨(bif b9 then r10.I.Lo else b.I.Lo), (bif b9 then r10.I.Hi else b.I.Hi)⟩ : S.Inter), (⟨(bif b9 then r10.C.M else b.C.M), (bif b9 then r10.C.R else b.C.R)⟩ : S.Cong)⟩ : S.Value)) else (bif b11 then (r12, r13) else (bif b14 then (r15, r16) else (bif (bif b17 then b17 else b18) then (r20.2, r20.1) else (a, b)))))))
def S.ref24_left_D : Nat → Int → S.Value → S.Value → Prop
  | 0, _, _, _ => False
  | n + 1, op, a, b =>
  let b1 : Bool := op == 1
  let b4 : Bool := op == 2
  let b6 : Bool := op == 3
  let b7 : Bool := b.I.Lo == b.I.Hi
  let b9 : Bool := a.I.Lo == a.I.Hi
  let b11 : Bool := op == 4
  let b14 : Bool := op == 5
  let b17 : Bool := op == 6
  let b18 : Bool := op == 7
  let t19 : Int := IntKind.i64.wrap (op - 2)
  ((b1 = true → (All [S.ref24_Only_pre a true, S.ref24_Only_pre b true] ∧ True)) ∧ (b1 = false → ((b4 = true → (All [S.ref24_alike_pre a b] ∧ True)) ∧ (b4 = false → ((b6 = true → (All [(b7 = true → S.ref24_Without_pre a b.I.Lo), (b9 = true → S.ref24_Without_pre b a.I.Lo)] ∧ True)) ∧ (b6 = false → ((b11 = true → (All [S.ref24_below_pre a b.I.Hi, S.ref24_above_pre b a.I.Lo] ∧ True)) ∧ (b11 = false → ((b14 = true → (All [S.ref24_upto_pre a b.I.Hi, S.ref24_from_pre b a.I.Lo] ∧ True)) ∧ (b14 = false → (((bif b17 then b17 else b18) = true → (All [S.ref24_left_D n t19 b a] ∧ True)) ∧ ((bif b17 then b17 else b18) = false → True))))))))))))
noncomputable def S.ref24_left (op : Int) (a : S.Value) (b : S.Value) : S.Value × S.Value := S.ref24_left_F (Classical.epsilon fun n => S.ref24_left_D n op a b) op a b
def S.ref24_left_pre (op : Int) (a : S.Value) (b : S.Value) : Prop := ∃ n, S.ref24_left_D n op a b
noncomputable def S.ref24_Refine (op : Int) (a : S.Value) (b : S.Value) (truth : Bool) : S.Value × S.Value :=
  let r1 : S.Value := S.ref21_Plain a
  let r2 : S.Value := S.ref21_Plain b
  let r3 : S.Value := S.ref21_Bottom
  let b4 : Bool := !((r1.I.Lo == r3.I.Lo) && ((r1.I.Hi == r3.I.Hi) && ((r1.C.M == r3.C.M) && (r1.C.R == r3.C.R))))
  let r5 : S.Value := S.ref21_Bottom
  let b6 : Bool := !((r2.I.Lo == r5.I.Lo) && ((r2.I.Hi == r5.I.Hi) && ((r2.C.M == r5.C.M) && (r2.C.R == r5.C.R))))
  let p7 : Bool := (b4 && b6)
  let b8 : Bool := decide (op ≥ 0)
  let b9 : Bool := decide (op ≤ 7)
  let p10 : Bool := (b8 && b9)
  let r11 : Bool × Bool := S.ref24_tells op r1 r2
  let b12 : Bool := !(bif p10 then r11.1 else true)
  let p13 : Bool := (truth && b12)
  let b14 : Bool := !truth
  let b15 : Bool := !(bif p10 then r11.2 else true)
  let p16 : Bool := (b14 && b15)
  let p17 : Bool := (p13 || p16)
  let r18 : S.Value := S.ref21_Bottom
  let r19 : S.Value := S.ref21_Bottom
  let r20 : S.Value × S.Value := S.ref24_left op r1 r2
  let b21 : Bool := op == 0
  let r22 : S.Value := S.ref24_Only r1 false
  let r23 : S.Value := S.ref24_Only r2 false
  let b24 : Bool := decide (op ≥ 2)
  let b25 : Bool := decide (op ≤ 7)
  let p26 : Bool := (b24 && b25)
  let e27 : Int := ([0, 0, 3, 2, 7, 6, 5, 4] : List Int).getD (Int.toNat op) 0
  let r28 : S.Value × S.Value := S.ref24_left e27 r1 r2
  let r29 : S.Value := S.ref21_Bottom
  let b30 : Bool := (((bif truth then r20.1.I.Lo else (bif b21 then r22.I.Lo else (bif p26 then r28.1.I.Lo else r1.I.Lo))) == r29.I.Lo) && (((bif truth then r20.1.I.Hi else (bif b21 then r22.I.Hi else (bif p26 then r28.1.I.Hi else r1.I.Hi))) == r29.I.Hi) && (((bif truth then r20.1.C.M else (bif b21 then r22.C.M else (bif p26 then r28.1.C.M else r1.C.M))) == r29.C.M) && ((bif truth then r20.1.C.R else (bif b21 then r22.C.R else (bif p26 then r28.1.C.R else r1.C.R))) == r29.C.R))))
  let r31 : S.Value := S.ref21_Bottom
  let b32 : Bool := (((bif truth then r20.2.I.Lo else (bif b21 then r23.I.Lo else (bif p26 then r28.2.I.Lo else r2.I.Lo))) == r31.I.Lo) && (((bif truth then r20.2.I.Hi else (bif b21 then r23.I.Hi else (bif p26 then r28.2.I.Hi else r2.I.Hi))) == r31.I.Hi) && (((bif truth then r20.2.C.M else (bif b21 then r23.C.M else (bif p26 then r28.2.C.M else r2.C.M))) == r31.C.M) && ((bif truth then r20.2.C.R else (bif b21 then r23.C.R else (bif p26 then r28.2.C.R else r2.C.R))) == r31.C.R))))
  let p33 : Bool := (b30 || b32)
  let r34 : S.Value := S.ref21_Bottom
  let r35 : S.Value := S.ref21_Bottom
  let r36 : S.Value := S.ref21_Bottom
  let b37 : Bool := ((r1.I.Lo == r36.I.Lo) && ((r1.I.Hi == r36.I.Hi) && ((r1.C.M == r36.C.M) && (r1.C.R == r36.C.R))))
  let r38 : S.Value := S.ref21_Bottom
  let b39 : Bool := ((r2.I.Lo == r38.I.Lo) && ((r2.I.Hi == r38.I.Hi) && ((r2.C.M == r38.C.M) && (r2.C.R == r38.C.R))))
  let p40 : Bool := (b37 || b39)
  let r41 : S.Value := S.ref21_Bottom
  let r42 : S.Value := S.ref21_Bottom
  (bif p7 then (bif p17 then (r18, r19) else (bif p33 then (r34, r35) else ((⟨(⟨(bif truth then r20.1.I.Lo else (bif b21 then r22.I.Lo else (bif p26 then r28.1.I.Lo else r1.I.Lo))), (bif truth then r20.1.I.Hi else (bif b21 then r22.I.Hi else (bif p26 then r28.1.I.Hi else r1.I.Hi)))⟩ : S.Inter), (⟨(bif truth then r20.1.C.M else (bif b21 then r22.C.M else (bif p26 then r28.1.C.M else r1.C.M))), (bif truth then r20.1.C.R else (bif b21 then r22.C.R else (bif p26 then r28.1.C.R else r1.C.R)))⟩ : S.Cong)⟩ : S.Value), (⟨(⟨(bif truth then r20.2.I.Lo else (bif b21 then r23.I.Lo else (bif p26 then r28.2.I.Lo else r2.I.Lo))), (bif truth then r20.2.I.Hi else (bif b21 then r23.I.Hi else (bif p26 then r28.2.I.Hi else r2.I.Hi)))⟩ : S.Inter), (⟨(bif truth then r20.2.C.M else (bif b21 then r23.C.M else (bif p26 then r28.2.C.M else r2.C.M))), (bif truth then r20.2.C.R else (bif b21 then r23.C.R else (bif p26 then r28.2.C.R else r2.C.R)))⟩ : S.Cong)⟩ : S.Value)))) else (bif p40 then (r41, r42) else (r1, r2)))
def S.ref24_Refine_pre (op : Int) (a : S.Value) (b : S.Value) (truth : Bool) : Prop :=
  let r1 : S.Value := S.ref21_Plain a
  let r2 : S.Value := S.ref21_Plain b
  let r3 : S.Value := S.ref21_Bottom
  let b4 : Bool := !((r1.I.Lo == r3.I.Lo) && ((r1.I.Hi == r3.I.Hi) && ((r1.C.M == r3.C.M) && (r1.C.R == r3.C.R))))
  let r5 : S.Value := S.ref21_Bottom
  let b6 : Bool := !((r2.I.Lo == r5.I.Lo) && ((r2.I.Hi == r5.I.Hi) && ((r2.C.M == r5.C.M) && (r2.C.R == r5.C.R))))
  let p7 : Bool := (b4 && b6)
  let b8 : Bool := decide (op ≥ 0)
  let b9 : Bool := decide (op ≤ 7)
  let p10 : Bool := (b8 && b9)
  let r11 : Bool × Bool := S.ref24_tells op r1 r2
  let b12 : Bool := !(bif p10 then r11.1 else true)
  let p13 : Bool := (truth && b12)
  let b14 : Bool := !truth
  let b15 : Bool := !(bif p10 then r11.2 else true)
  let p16 : Bool := (b14 && b15)
  let p17 : Bool := (p13 || p16)
  let r20 : S.Value × S.Value := S.ref24_left op r1 r2
  let b21 : Bool := op == 0
  let r22 : S.Value := S.ref24_Only r1 false
  let r23 : S.Value := S.ref24_Only r2 false
  let b24 : Bool := decide (op ≥ 2)
  let b25 : Bool := decide (op ≤ 7)
  let p26 : Bool := (b24 && b25)
  let e27 : Int := ([0, 0, 3, 2, 7, 6, 5, 4] : List Int).getD (Int.toNat op) 0
  let r28 : S.Value × S.Value := S.ref24_left e27 r1 r2
  let r29 : S.Value := S.ref21_Bottom
  let b30 : Bool := (((bif truth then r20.1.I.Lo else (bif b21 then r22.I.Lo else (bif p26 then r28.1.I.Lo else r1.I.Lo))) == r29.I.Lo) && (((bif truth then r20.1.I.Hi else (bif b21 then r22.I.Hi else (bif p26 then r28.1.I.Hi else r1.I.Hi))) == r29.I.Hi) && (((bif truth then r20.1.C.M else (bif b21 then r22.C.M else (bif p26 then r28.1.C.M else r1.C.M))) == r29.C.M) && ((bif truth then r20.1.C.R else (bif b21 then r22.C.R else (bif p26 then r28.1.C.R else r1.C.R))) == r29.C.R))))
  let r31 : S.Value := S.ref21_Bottom
  let b32 : Bool := (((bif truth then r20.2.I.Lo else (bif b21 then r23.I.Lo else (bif p26 then r28.2.I.Lo else r2.I.Lo))) == r31.I.Lo) && (((bif truth then r20.2.I.Hi else (bif b21 then r23.I.Hi else (bif p26 then r28.2.I.Hi else r2.I.Hi))) == r31.I.Hi) && (((bif truth then r20.2.C.M else (bif b21 then r23.C.M else (bif p26 then r28.2.C.M else r2.C.M))) == r31.C.M) && ((bif truth then r20.2.C.R else (bif b21 then r23.C.R else (bif p26 then r28.2.C.R else r2.C.R))) == r31.C.R))))
  let p33 : Bool := (b30 || b32)
  let r36 : S.Value := S.ref21_Bottom
  let b37 : Bool := ((r1.I.Lo == r36.I.Lo) && ((r1.I.Hi == r36.I.Hi) && ((r1.C.M == r36.C.M) && (r1.C.R == r36.C.R))))
  let r38 : S.Value := S.ref21_Bottom
  let b39 : Bool := ((r2.I.Lo == r38.I.Lo) && ((r2.I.Hi == r38.I.Hi) && ((r2.C.M == r38.C.M) && (r2.C.R == r38.C.R))))
  let p40 : Bool := (b37 || b39)
  (All [S.ref21_Plain_pre a, S.ref21_Plain_pre b] ∧ ((p7 = true → (All [(p10 = true → S.ref24_tells_pre op r1 r2)] ∧ ((p17 = true → True) ∧ (p17 = false → (All [(truth = true → S.ref24_left_pre op r1 r2), (truth = false → ((b21 = true → (S.ref24_Only_pre r1 false ∧ S.ref24_Only_pre r2 false)) ∧ (b21 = false → (p26 = true → ((0 : Int) ≤ op ∧ op < (([0, 0, 3, 2, 7, 6, 5, 4] : List Int).length : Int) ∧ S.ref24_left_pre e27 r1 r2)))))] ∧ ((p33 = true → True) ∧ (p33 = false → True))))))) ∧ (p7 = false → ((p40 = true → True) ∧ (p40 = false → True)))))
def S.ref24_truth (yes : Bool) (no : Bool) : S.Value :=
  let p1 : Bool := (yes && no)
  let r2 : S.Value := S.ref21_Top
  let r3 : S.Value := S.ref21_Make (⟨0, 1⟩ : S.Inter) r2.C
  let r4 : S.Value := S.ref21_One 1
  let r5 : S.Value := S.ref21_One 0
  let r6 : S.Value := S.ref21_Bottom
  (bif p1 then r3 else (bif yes then r4 else (bif no then r5 else r6)))
def S.ref24_truth_pre (yes : Bool) (no : Bool) : Prop :=
  let p1 : Bool := (yes && no)
  let r2 : S.Value := S.ref21_Top
  ((p1 = true → (All [S.ref21_Make_pre (⟨0, 1⟩ : S.Inter) r2.C] ∧ True)) ∧ (p1 = false → ((yes = true → (All [S.ref21_One_pre 1] ∧ True)) ∧ (yes = false → ((no = true → (All [S.ref21_One_pre 0] ∧ True)) ∧ (no = false → True))))))
noncomputable def S.ref24_Do (op : Int) (a : S.Value) (b : S.Value) : S.Value :=
  let r1 : S.Value := S.ref21_Plain a
  let r2 : S.Value := S.ref21_Plain b
  let r3 : S.Value := S.ref21_Bottom
  let b4 : Bool := ((r1.I.Lo == r3.I.Lo) && ((r1.I.Hi == r3.I.Hi) && ((r1.C.M == r3.C.M) && (r1.C.R == r3.C.R))))
  let r5 : S.Value := S.ref21_Bottom
  let b6 : Bool := ((r2.I.Lo == r5.I.Lo) && ((r2.I.Hi == r5.I.Hi) && ((r2.C.M == r5.C.M) && (r2.C.R == r5.C.R))))
  let p7 : Bool := (b4 || b6)
  let r8 : S.Value := S.ref21_Bottom
  let b9 : Bool := decide (op < 0)
  let b10 : Bool := decide (op > 7)
  let p11 : Bool := (b9 || b10)
  let r12 : S.Value := S.ref21_Top
  let r13 : Bool × Bool := S.ref24_tells op r1 r2
  let r14 : S.Value := S.ref24_truth r13.1 r13.2
  (bif p7 then r8 else (bif p11 then r12 else r14))
def S.ref24_Do_pre (op : Int) (a : S.Value) (b : S.Value) : Prop :=
  let r1 : S.Value := S.ref21_Plain a
  let r2 : S.Value := S.ref21_Plain b
  let r3 : S.Value := S.ref21_Bottom
  let b4 : Bool := ((r1.I.Lo == r3.I.Lo) && ((r1.I.Hi == r3.I.Hi) && ((r1.C.M == r3.C.M) && (r1.C.R == r3.C.R))))
  let r5 : S.Value := S.ref21_Bottom
  let b6 : Bool := ((r2.I.Lo == r5.I.Lo) && ((r2.I.Hi == r5.I.Hi) && ((r2.C.M == r5.C.M) && (r2.C.R == r5.C.R))))
  let p7 : Bool := (b4 || b6)
  let b9 : Bool := decide (op < 0)
  let b10 : Bool := decide (op > 7)
  let p11 : Bool := (b9 || b10)
  let r13 : Bool × Bool := S.ref24_tells op r1 r2
  (All [S.ref21_Plain_pre a, S.ref21_Plain_pre b] ∧ ((p7 = true → True) ∧ (p7 = false → ((p11 = true → True) ∧ (p11 = false → (All [S.ref24_tells_pre op r1 r2, S.ref24_truth_pre r13.1 r13.2] ∧ True))))))
noncomputable def S.law24_CondTells (op : Int) (a : S.Value) (b : S.Value) (truth : Bool) (n : Int) : Bool :=
  let r1 : S.Value := S.docs_Value a
  let r2 : S.Value := S.docs_Value b
  let r3 : S.Value × S.Value := S.cond_Refine op a b truth
  let r4 : S.Value × S.Value := S.ref24_Refine op r1 r2 truth
  let r5 : Bool × Bool := S.cond_Truth a
  let r6 : S.Value := S.ref21_Plain r1
  let r7 : Bool × Bool := S.ref24_Truth r6
  let r8 : S.Value := S.cond_Do op a b
  let r9 : S.Value := S.docs_Value r8
  let r10 : S.Value := S.ref24_Do op r1 r2
  let b11 : Bool := ((r9.I.Lo == r10.I.Lo) && ((r9.I.Hi == r10.I.Hi) && ((r9.C.M == r10.C.M) && (r9.C.R == r10.C.R))))
  let r12 : S.Value := S.docs_Value r3.1
  let b13 : Bool := ((r12.I.Lo == r4.1.I.Lo) && ((r12.I.Hi == r4.1.I.Hi) && ((r12.C.M == r4.1.C.M) && (r12.C.R == r4.1.C.R))))
  let p14 : Bool := (b11 && b13)
  let r15 : S.Value := S.docs_Value r3.2
  let b16 : Bool := ((r15.I.Lo == r4.2.I.Lo) && ((r15.I.Hi == r4.2.I.Hi) && ((r15.C.M == r4.2.C.M) && (r15.C.R == r4.2.C.R))))
  let p17 : Bool := (p14 && b16)
  let b18 : Bool := r5.1 == r7.1
  let p19 : Bool := (p17 && b18)
  let b20 : Bool := r5.2 == r7.2
  let p21 : Bool := (p19 && b20)
  let r22 : S.Value := S.cond_Without a n
  let r23 : S.Value := S.docs_Value r22
  let r24 : S.Value := S.ref24_Without r1 n
  let b25 : Bool := ((r23.I.Lo == r24.I.Lo) && ((r23.I.Hi == r24.I.Hi) && ((r23.C.M == r24.C.M) && (r23.C.R == r24.C.R))))
  let p26 : Bool := (p21 && b25)
  let r27 : S.Value := S.cond_Only a truth
  let r28 : S.Value := S.docs_Value r27
  let r29 : S.Value := S.ref24_Only r1 truth
  let b30 : Bool := ((r28.I.Lo == r29.I.Lo) && ((r28.I.Hi == r29.I.Hi) && ((r28.C.M == r29.C.M) && (r28.C.R == r29.C.R))))
  let p31 : Bool := (p26 && b30)
  let r32 : Bool := S.law24_works
  let p33 : Bool := (p31 && r32)
  p33
def S.law24_CondTells_pre (op : Int) (a : S.Value) (b : S.Value) (truth : Bool) (n : Int) : Prop :=
  let r1 : S.Value := S.docs_Value a
  let r2 : S.Value := S.docs_Value b
  let r3 : S.Value × S.Value := S.cond_Refine op a b truth
  let r4 : S.Value × S.Value := S.ref24_Refine op r1 r2 truth
  let r5 : Bool × Bool := S.cond_Truth a
  let r6 : S.Value := S.ref21_Plain r1
  let r7 : Bool × Bool := S.ref24_Truth r6
  let r8 : S.Value := S.cond_Do op a b
  let r9 : S.Value := S.docs_Value r8
  let r10 : S.Value := S.ref24_Do op r1 r2
  let b11 : Bool := ((r9.I.Lo == r10.I.Lo) && ((r9.I.Hi == r10.I.Hi) && ((r9.C.M == r10.C.M) && (r9.C.R == r10.C.R))))
  let r12 : S.Value := S.docs_Value r3.1
  let b13 : Bool := ((r12.I.Lo == r4.1.I.Lo) && ((r12.I.Hi == r4.1.I.Hi) && ((r12.C.M == r4.1.C.M) && (r12.C.R == r4.1.C.R))))
  let p14 : Bool := (b11 && b13)
  let r15 : S.Value := S.docs_Value r3.2
  let b16 : Bool := ((r15.I.Lo == r4.2.I.Lo) && ((r15.I.Hi == r4.2.I.Hi) && ((r15.C.M == r4.2.C.M) && (r15.C.R == r4.2.C.R))))
  let p17 : Bool := (p14 && b16)
  let b18 : Bool := r5.1 == r7.1
  let p19 : Bool := (p17 && b18)
  let b20 : Bool := r5.2 == r7.2
  let p21 : Bool := (p19 && b20)
  let r22 : S.Value := S.cond_Without a n
  let r23 : S.Value := S.docs_Value r22
  let r24 : S.Value := S.ref24_Without r1 n
  let b25 : Bool := ((r23.I.Lo == r24.I.Lo) && ((r23.I.Hi == r24.I.Hi) && ((r23.C.M == r24.C.M) && (r23.C.R == r24.C.R))))
  let p26 : Bool := (p21 && b25)
  let r27 : S.Value := S.cond_Only a truth
  let r28 : S.Value := S.docs_Value r27
  let r29 : S.Value := S.ref24_Only r1 truth
  let b30 : Bool := ((r28.I.Lo == r29.I.Lo) && ((r28.I.Hi == r29.I.Hi) && ((r28.C.M == r29.C.M) && (r28.C.R == r29.C.R))))
  let p31 : Bool := (p26 && b30)
  (All [S.cond_Refine_pre op a b truth, S.ref24_Refine_pre op r1 r2 truth, S.cond_Truth_pre a, S.ref21_Plain_pre r1, S.ref24_Truth_pre r6, S.cond_Do_pre op a b, S.ref24_Do_pre op r1 r2, (p21 = true → S.cond_Without_pre a n), (p21 = true → S.ref24_Without_pre r1 n), (p26 = true → S.cond_Only_pre a truth), (p26 = true → S.ref24_Only_pre r1 truth), (p31 = true → S.law24_works_pre)] ∧ True)
