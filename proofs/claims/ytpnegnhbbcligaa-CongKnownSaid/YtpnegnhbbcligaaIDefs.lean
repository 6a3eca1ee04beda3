/-
  Printed by a program for this claim: functions of the code as plain functions, and that the code comes to them. Conditions: those that each theorem states.
-/
import Derived.Test.YtpnegnhbbcligaaVm15
set_option linter.all false
open Go Vm
@[ext] structure S.Inter where
  Lo : Int
  Hi : Int
@[ext] structure S.Cong where
  M : Int
  R : Int
def S.Inter.ok (x : S.Inter) : Prop := (inr .i64 x.Lo) ∧ (inr .i64 x.Hi) ∧ True
def S.Cong.ok (x : S.Cong) : Prop := (inr .u64 x.M) ∧ (inr .u64 x.R) ∧ True
/-- sieveholeslaw19.ref -/
def S.law19_ref (i : S.Inter) : S.Inter :=
  i
/-- inter.Empty -/
def S.inter_Empty : S.Inter :=
  (⟨1, 0⟩ : S.Inter)
/-- inter.Of -/
def S.inter_Of (lo : Int) (hi : Int) : S.Inter :=
  let b1 : Bool := decide (lo > hi)
  let r2 : S.Inter := S.inter_Empty
  (bif b1 then r2 else (⟨lo, hi⟩ : S.Inter))
/-- (inter.Inter).plain -/
def S.inter_Inter_plain (i : S.Inter) : S.Inter :=
  let r1 : S.Inter := S.inter_Of i.Lo i.Hi
  r1
/-- (inter.Inter).IsEmpty -/
def S.inter_Inter_IsEmpty (i : S.Inter) : Bool :=
  let r1 : S.Inter := S.inter_Inter_plain i
  let r2 : S.Inter := S.inter_Empty
  let b3 : Bool := ((r1.Lo == r2.Lo) && (r1.Hi == r2.Hi))
  b3
/-- inter.Whole -/
def S.inter_Whole : S.Inter :=
  (⟨(-9223372036854775808), 9223372036854775807⟩ : S.Inter)
/-- (inter.Inter).Size -/
def S.inter_Inter_Size (i : S.Inter) : Int × Bool :=
  let r1 : Bool := S.inter_Inter_IsEmpty i
  let r2 : S.Inter := S.inter_Whole
  let b3 : Bool := ((i.Lo == r2.Lo) && (i.Hi == r2.Hi))
  let t4 : Int := IntKind.u64.wrap i.Hi
  let t5 : Int := IntKind.u64.wrap i.Lo
  let t6 : Int := IntKind.u64.wrap (t4 - t5)
  let t7 : Int := IntKind.u64.wrap (t6 + 1)
  (bif r1 then (0, true) else (bif b3 then (0, false) else (t7, true)))
/-- sieveholesref19.Empty -/
def S.ref19_Empty (i : S.Inter) : Bool :=
  let b1 : Bool := decide (i.Lo > i.Hi)
  b1
/-- sieveholesref19.Least -/
def S.ref19_Least : Int :=
  (-9223372036854775808)
/-- sieveholesref19.Most -/
def S.ref19_Most : Int :=
  9223372036854775807
/-- sieveholesref19.Size -/
def S.ref19_Size (i : S.Inter) : Int × Bool :=
  let r1 : Bool := S.ref19_Empty i
  let r2 : Int := S.ref19_Least
  let b3 : Bool := i.Lo == r2
  let r4 : Int := S.ref19_Most
  let b5 : Bool := i.Hi == r4
  let p6 : Bool := (b3 && b5)
  let t7 : Int := IntKind.i64.wrap (i.Hi - i.Lo)
  let t8 : Int := IntKind.u64.wrap t7
  let t9 : Int := IntKind.u64.wrap (t8 + 1)
  (bif r1 then (0, true) else (bif p6 then (0, false) else (t9, true)))
/-- inter.One -/
def S.inter_One (n : Int) : S.Inter :=
  (⟨n, n⟩ : S.Inter)
/-- (inter.Inter).Single -/
def S.inter_Inter_Single (i : S.Inter) : Int × Bool :=
  let r1 : S.Inter := S.inter_One i.Lo
  let b2 : Bool := !((i.Lo == r1.Lo) && (i.Hi == r1.Hi))
  (bif b2 then (0, false) else (i.Lo, true))
/-- (inter.Inter).Near -/
def S.inter_Inter_Near (i : S.Inter) (n : Int) : Int × Bool :=
  let r1 : Bool := S.inter_Inter_IsEmpty i
  let m2 : Int := if i.Hi < n then i.Hi else n
  let m3 : Int := if m2 > i.Lo then m2 else i.Lo
  (bif r1 then (0, false) else (m3, true))
/-- sieveholesref19.Near -/
def S.ref19_Near (i : S.Inter) (n : Int) : Int × Bool :=
  let r1 : Bool := S.ref19_Empty i
  let b2 : Bool := decide (n < i.Lo)
  let b3 : Bool := decide (n > i.Hi)
  (bif r1 then (0, false) else (bif b2 then (i.Lo, true) else (bif b3 then (i.Hi, true) else (n, true))))
/-- (inter.Inter).Has -/
def S.inter_Inter_Has (i : S.Inter) (n : Int) : Bool :=
  let b1 : Bool := decide (i.Lo ≤ n)
  let b2 : Bool := decide (n ≤ i.Hi)
  let p3 : Bool := (b1 && b2)
  p3
/-- sieveholesref19.Has -/
def S.ref19_Has (i : S.Inter) (n : Int) : Bool :=
  let b1 : Bool := decide (n ≥ i.Lo)
  let b2 : Bool := decide (n ≤ i.Hi)
  let p3 : Bool := (b1 && b2)
  p3
/-- inter.Within -/
def S.inter_Within (a : S.Inter) (b : S.Inter) : Bool :=
  let r1 : Bool := S.inter_Inter_IsEmpty a
  let r2 : Bool := S.inter_Inter_Has b a.Lo
  let r3 : Bool := S.inter_Inter_Has b a.Hi
  let p4 : Bool := (r2 && r3)
  let p5 : Bool := (r1 || p4)
  p5
/-- sieveholesref19.Within -/
def S.ref19_Within (a : S.Inter) (b : S.Inter) : Bool :=
  let r1 : Bool := S.ref19_Empty a
  let b2 : Bool := decide (a.Lo ≥ b.Lo)
  let b3 : Bool := decide (a.Hi ≤ b.Hi)
  let p4 : Bool := (b2 && b3)
  let p5 : Bool := (r1 || p4)
  p5
/-- inter.Same -/
def S.inter_Same (a : S.Inter) (b : S.Inter) : Bool :=
  let r1 : S.Inter := S.inter_Inter_plain a
  let r2 : S.Inter := S.inter_Inter_plain b
  let b3 : Bool := ((r1.Lo == r2.Lo) && (r1.Hi == r2.Hi))
  b3
/-- sieveholesref19.Plain -/
def S.ref19_Plain (i : S.Inter) : S.Inter :=
  let b1 : Bool := decide (i.Lo > i.Hi)
  (bif b1 then (⟨1, 0⟩ : S.Inter) else i)
/-- sieveholesref19.Same -/
def S.ref19_Same (a : S.Inter) (b : S.Inter) : Bool :=
  let r1 : S.Inter := S.ref19_Plain a
  let r2 : S.Inter := S.ref19_Plain b
  let b3 : Bool := ((r1.Lo == r2.Lo) && (r1.Hi == r2.Hi))
  b3
/-- inter.Join$1 -/
def S.inter_Join_1 (a : S.Inter) (b : S.Inter) : S.Inter :=
  let r1 : Bool := S.inter_Inter_IsEmpty a
  let r2 : Bool := S.inter_Inter_IsEmpty b
  let m3 : Int := if b.Lo < a.Lo then b.Lo else a.Lo
  let m4 : Int := if b.Hi > a.Hi then b.Hi else a.Hi
  (bif r1 then b else (bif r2 then a else (⟨m3, m4⟩ : S.Inter)))
/-- inter.Meet$1 -/
def S.inter_Meet_1 (a : S.Inter) (b : S.Inter) : S.Inter :=
  let m1 : Int := if b.Lo > a.Lo then b.Lo else a.Lo
  let m2 : Int := if b.Hi < a.Hi then b.Hi else a.Hi
  let r3 : S.Inter := S.inter_Of m1 m2
  r3
@[ext] structure S.inter_fold_inter_Join_1_L0 where
  t9 : (List S.Inter)
  t10 : Int
  t11 : Int
  first : S.Inter
def S.inter_fold_inter_Join_1_L0_step (x : S.inter_fold_inter_Join_1_L0) : S.inter_fold_inter_Join_1_L0 ⊕ (S.inter_fold_inter_Join_1_L0) :=
  let b1 : Bool := decide (x.t11 < x.t10)
  let e2 : S.Inter := x.t9.getD (Int.toNat x.t11) (⟨0, 0⟩ : S.Inter)
  let r3 : S.Inter := S.inter_Join_1 x.first e2
  let t4 : Int := IntKind.i64.wrap (x.t11 + 1)
  (bif b1 then (.inl ⟨x.t9, x.t10, t4, r3⟩) else (.inr ⟨x.t9, x.t10, x.t11, x.first⟩))
def S.inter_fold_inter_Join_1_L0_vcs (x : S.inter_fold_inter_Join_1_L0) : Prop :=
  let b1 : Bool := decide (x.t11 < x.t10)
  ((b1 = true → (All [(0 : Int) ≤ x.t11, x.t11 < (x.t9.length : Int)] ∧ True)) ∧ (b1 = false → True))
noncomputable def S.inter_fold_inter_Join_1_L0_run (x : S.inter_fold_inter_Join_1_L0) : S.inter_fold_inter_Join_1_L0 := theRun (fun x => x) S.inter_fold_inter_Join_1_L0_step S.inter_fold_inter_Join_1_L0_vcs x
/-- inter.fold -/
noncomputable def S.inter_fold_inter_Join_1 (first : S.Inter) (l : (List S.Inter)) : S.Inter :=
  let x1 : S.inter_fold_inter_Join_1_L0 := (⟨l, (l.length : Int), 0, first⟩ : S.inter_fold_inter_Join_1_L0)
  let y2 : S.inter_fold_inter_Join_1_L0 := S.inter_fold_inter_Join_1_L0_run x1
  let r3 : S.Inter := S.inter_Inter_plain y2.first
  r3
def S.inter_fold_inter_Join_1_pre (first : S.Inter) (l : (List S.Inter)) : Prop :=
  let x1 : S.inter_fold_inter_Join_1_L0 := (⟨l, (l.length : Int), 0, first⟩ : S.inter_fold_inter_Join_1_L0)
  (All [Runs S.inter_fold_inter_Join_1_L0_step S.inter_fold_inter_Join_1_L0_vcs x1 (S.inter_fold_inter_Join_1_L0_run x1)] ∧ True)
@[ext] structure S.inter_fold_inter_Meet_1_L0 where
  t9 : (List S.Inter)
  t10 : Int
  t11 : Int
  first : S.Inter
def S.inter_fold_inter_Meet_1_L0_step (x : S.inter_fold_inter_Meet_1_L0) : S.inter_fold_inter_Meet_1_L0 ⊕ (S.inter_fold_inter_Meet_1_L0) :=
  let b1 : Bool := decide (x.t11 < x.t10)
  let e2 : S.Inter := x.t9.getD (Int.toNat x.t11) (⟨0, 0⟩ : S.Inter)
  let r3 : S.Inter := S.inter_Meet_1 x.first e2
  let t4 : Int := IntKind.i64.wrap (x.t11 + 1)
  (bif b1 then (.inl ⟨x.t9, x.t10, t4, r3⟩) else (.inr ⟨x.t9, x.t10, x.t11, x.first⟩))
def S.inter_fold_inter_Meet_1_L0_vcs (x : S.inter_fold_inter_Meet_1_L0) : Prop :=
  let b1 : Bool := decide (x.t11 < x.t10)
  ((b1 = true → (All [(0 : Int) ≤ x.t11, x.t11 < (x.t9.length : Int)] ∧ True)) ∧ (b1 = false → True))
noncomputable def S.inter_fold_inter_Meet_1_L0_run (x : S.inter_fold_inter_Meet_1_L0) : S.inter_fold_inter_Meet_1_L0 := theRun (fun x => x) S.inter_fold_inter_Meet_1_L0_step S.inter_fold_inter_Meet_1_L0_vcs x
/-- inter.fold -/
noncomputable def S.inter_fold_inter_Meet_1 (first : S.Inter) (l : (List S.Inter)) : S.Inter :=
  let x1 : S.inter_fold_inter_Meet_1_L0 := (⟨l, (l.length : Int), 0, first⟩ : S.inter_fold_inter_Meet_1_L0)
  let y2 : S.inter_fold_inter_Meet_1_L0 := S.inter_fold_inter_Meet_1_L0_run x1
  let r3 : S.Inter := S.inter_Inter_plain y2.first
  r3
def S.inter_fold_inter_Meet_1_pre (first : S.Inter) (l : (List S.Inter)) : Prop :=
  let x1 : S.inter_fold_inter_Meet_1_L0 := (⟨l, (l.length : Int), 0, first⟩ : S.inter_fold_inter_Meet_1_L0)
  (All [Runs S.inter_fold_inter_Meet_1_L0_step S.inter_fold_inter_Meet_1_L0_vcs x1 (S.inter_fold_inter_Meet_1_L0_run x1)] ∧ True)
/-- inter.Join -/
noncomputable def S.inter_Join (l : (List S.Inter)) : S.Inter :=
  let r1 : S.Inter := S.inter_Empty
  let r2 : S.Inter := S.inter_fold_inter_Join_1 r1 l
  r2
def S.inter_Join_pre (l : (List S.Inter)) : Prop :=
  let r1 : S.Inter := S.inter_Empty
  (All [S.inter_fold_inter_Join_1_pre r1 l] ∧ True)
/-- inter.Meet -/
noncomputable def S.inter_Meet (l : (List S.Inter)) : S.Inter :=
  let r1 : S.Inter := S.inter_Whole
  let r2 : S.Inter := S.inter_fold_inter_Meet_1 r1 l
  r2
def S.inter_Meet_pre (l : (List S.Inter)) : Prop :=
  let r1 : S.Inter := S.inter_Whole
  (All [S.inter_fold_inter_Meet_1_pre r1 l] ∧ True)
/-- inter.Widen -/
noncomputable def S.inter_Widen (a : S.Inter) (b : S.Inter) : S.Inter :=
  let r1 : S.Inter := S.inter_Join ([a, b] : List S.Inter)
  let r2 : Bool := S.inter_Inter_IsEmpty a
  let b3 : Bool := decide (r1.Lo < a.Lo)
  let b4 : Bool := decide (r1.Hi > a.Hi)
  (bif r2 then r1 else (⟨(bif b3 then (-9223372036854775808) else r1.Lo), (bif b4 then 9223372036854775807 else r1.Hi)⟩ : S.Inter))
def S.inter_Widen_pre (a : S.Inter) (b : S.Inter) : Prop :=
  let r2 : Bool := S.inter_Inter_IsEmpty a
  (All [S.inter_Join_pre ([a, b] : List S.Inter)] ∧ ((r2 = true → True) ∧ (r2 = false → True)))
/-- inter.Narrow -/
def S.inter_Narrow (a : S.Inter) (b : S.Inter) : S.Inter :=
  let r1 : Bool := S.inter_Inter_IsEmpty a
  let r2 : Bool := S.inter_Inter_IsEmpty b
  let p3 : Bool := (r1 || r2)
  let r4 : S.Inter := S.inter_Empty
  let b5 : Bool := a.Lo == (-9223372036854775808)
  let b6 : Bool := a.Hi == 9223372036854775807
  let r7 : S.Inter := S.inter_Inter_plain (⟨(bif b5 then b.Lo else a.Lo), (bif b6 then b.Hi else a.Hi)⟩ : S.Inter)
  (bif p3 then r4 else r7)
/-- sieveholeslaw19.works -/
noncomputable def S.law19_works : Bool :=
  let r1 : S.Inter := S.inter_Of 0 9223372036854775807
  let r2 : S.Inter := S.inter_Of (-1) 1
  let r3 : Int × Bool := S.inter_Inter_Size r2
  let r4 : S.Inter := S.inter_Whole
  let r5 : Int × Bool := S.inter_Inter_Size r4
  let r6 : S.Inter := S.inter_Of 1 3
  let r7 : S.Inter := S.inter_Of 7 9
  let r8 : S.Inter := S.inter_Join ([r6, r7] : List S.Inter)
  let b9 : Bool := ((r8.Lo == 1) && (r8.Hi == 9))
  let r10 : S.Inter := S.inter_Of 1 3
  let r11 : S.Inter := S.inter_Of 7 9
  let r12 : S.Inter := S.inter_Meet ([r10, r11] : List S.Inter)
  let b13 : Bool := ((r12.Lo == 1) && (r12.Hi == 0))
  let p14 : Bool := (b9 && b13)
  let r15 : S.Inter := S.inter_Of 0 5
  let r16 : S.Inter := S.inter_Of 0 6
  let r17 : S.Inter := S.inter_Widen r15 r16
  let b18 : Bool := ((r17.Lo == r1.Lo) && (r17.Hi == r1.Hi))
  let p19 : Bool := (p14 && b18)
  let r20 : S.Inter := S.inter_Of 0 9
  let r21 : S.Inter := S.inter_Narrow r1 r20
  let b22 : Bool := ((r21.Lo == 0) && (r21.Hi == 9))
  let p23 : Bool := (p19 && b22)
  let b24 : Bool := r3.1 == 3
  let p25 : Bool := (p23 && b24)
  let p26 : Bool := (p25 && r3.2)
  let b27 : Bool := !r5.2
  let p28 : Bool := (p26 && b27)
  p28
def S.law19_works_pre : Prop :=
  let r6 : S.Inter := S.inter_Of 1 3
  let r7 : S.Inter := S.inter_Of 7 9
  let r8 : S.Inter := S.inter_Join ([r6, r7] : List S.Inter)
  let b9 : Bool := ((r8.Lo == 1) && (r8.Hi == 9))
  let r10 : S.Inter := S.inter_Of 1 3
  let r11 : S.Inter := S.inter_Of 7 9
  let r12 : S.Inter := S.inter_Meet ([r10, r11] : List S.Inter)
  let b13 : Bool := ((r12.Lo == 1) && (r12.Hi == 0))
  let p14 : Bool := (b9 && b13)
  let r15 : S.Inter := S.inter_Of 0 5
  let r16 : S.Inter := S.inter_Of 0 6
  (All [S.inter_Join_pre ([r6, r7] : List S.Inter), (b9 = true → S.inter_Meet_pre ([r10, r11] : List S.Inter)), (p14 = true → S.inter_Widen_pre r15 r16)] ∧ True)
/-- sieveholeslaw19.InterTells -/
noncomputable def S.law19_InterTells (a : S.Inter) (b : S.Inter) (n : Int) : Bool :=
  let r1 : S.Inter := S.law19_ref a
  let r2 : S.Inter := S.law19_ref b
  let r3 : Int × Bool := S.inter_Inter_Size a
  let r4 : Int × Bool := S.ref19_Size r1
  let r5 : Int × Bool := S.inter_Inter_Single a
  let r6 : Int × Bool := S.inter_Inter_Near a n
  let r7 : Int × Bool := S.ref19_Near r1 n
  let b8 : Bool := r3.1 != r4.1
  let b9 : Bool := !(r3.2 == r4.2)
  let p10 : Bool := (b8 || b9)
  let b11 : Bool := a.Lo == a.Hi
  let b12 : Bool := !(r5.2 == b11)
  let p13 : Bool := (p10 || b12)
  let b14 : Bool := r5.1 != a.Lo
  let p15 : Bool := (r5.2 && b14)
  let p16 : Bool := (p13 || p15)
  let b17 : Bool := !r5.2
  let b18 : Bool := r5.1 != 0
  let p19 : Bool := (b17 && b18)
  let p20 : Bool := (p16 || p19)
  let b21 : Bool := r6.1 != r7.1
  let p22 : Bool := (p20 || b21)
  let b23 : Bool := !(r6.2 == r7.2)
  let p24 : Bool := (p22 || b23)
  let r25 : Int := S.ref19_Least
  let r26 : Int := S.ref19_Most
  let r27 : Bool := S.inter_Inter_IsEmpty a
  let r28 : Bool := S.ref19_Empty r1
  let b29 : Bool := r27 == r28
  let r30 : Bool := S.inter_Inter_Has a n
  let r31 : Bool := S.ref19_Has r1 n
  let b32 : Bool := r30 == r31
  let p33 : Bool := (b29 && b32)
  let r34 : Bool := S.inter_Within a b
  let r35 : Bool := S.ref19_Within r1 r2
  let b36 : Bool := r34 == r35
  let p37 : Bool := (p33 && b36)
  let r38 : Bool := S.inter_Same a b
  let r39 : Bool := S.ref19_Same r1 r2
  let b40 : Bool := r38 == r39
  let p41 : Bool := (p37 && b40)
  let r42 : S.Inter := S.inter_Of a.Lo b.Hi
  let r43 : S.Inter := S.law19_ref r42
  let r44 : S.Inter := S.ref19_Plain (⟨a.Lo, b.Hi⟩ : S.Inter)
  let b45 : Bool := ((r43.Lo == r44.Lo) && (r43.Hi == r44.Hi))
  let p46 : Bool := (p41 && b45)
  let r47 : S.Inter := S.inter_One n
  let r48 : S.Inter := S.law19_ref r47
  let b49 : Bool := ((r48.Lo == n) && (r48.Hi == n))
  let p50 : Bool := (p46 && b49)
  let r51 : S.Inter := S.inter_Whole
  let r52 : S.Inter := S.law19_ref r51
  let b53 : Bool := ((r52.Lo == r25) && (r52.Hi == r26))
  let p54 : Bool := (p50 && b53)
  let r55 : S.Inter := S.inter_Empty
  let r56 : S.Inter := S.law19_ref r55
  let b57 : Bool := ((r56.Lo == 1) && (r56.Hi == 0))
  let p58 : Bool := (p54 && b57)
  let r59 : Bool := S.law19_works
  let p60 : Bool := (p58 && r59)
  (bif p24 then false else p60)
def S.law19_InterTells_pre (a : S.Inter) (b : S.Inter) (n : Int) : Prop :=
  let r1 : S.Inter := S.law19_ref a
  let r2 : S.Inter := S.law19_ref b
  let r3 : Int × Bool := S.inter_Inter_Size a
  let r4 : Int × Bool := S.ref19_Size r1
  let r5 : Int × Bool := S.inter_Inter_Single a
  let r6 : Int × Bool := S.inter_Inter_Near a n
  let r7 : Int × Bool := S.ref19_Near r1 n
  let b8 : Bool := r3.1 != r4.1
  let b9 : Bool := !(r3.2 == r4.2)
  let p10 : Bool := (b8 || b9)
  let b11 : Bool := a.Lo == a.Hi
  let b12 : Bool := !(r5.2 == b11)
  let p13 : Bool := (p10 || b12)
  let b14 : Bool := r5.1 != a.Lo
  let p15 : Bool := (r5.2 && b14)
  let p16 : Bool := (p13 || p15)
  let b17 : Bool := !r5.2
  let b18 : Bool := r5.1 != 0
  let p19 : Bool := (b17 && b18)
  let p20 : Bool := (p16 || p19)
  let b21 : Bool := r6.1 != r7.1
  let p22 : Bool := (p20 || b21)
  let b23 : Bool := !(r6.2 == r7.2)
  let p24 : Bool := (p22 || b23)
  let r25 : Int := S.ref19_Least
  let r26 : Int := S.ref19_Most
  let r27 : Bool := S.inter_Inter_IsEmpty a
  let r28 : Bool := S.ref19_Empty r1
  let b29 : Bool := r27 == r28
  let r30 : Bool := S.inter_Inter_Has a n
  let r31 : Bool := S.ref19_Has r1 n
  let b32 : Bool := r30 == r31
  let p33 : Bool := (b29 && b32)
  let r34 : Bool := S.inter_Within a b
  let r35 : Bool := S.ref19_Within r1 r2
  let b36 : Bool := r34 == r35
  let p37 : Bool := (p33 && b36)
  let r38 : Bool := S.inter_Same a b
  let r39 : Bool := S.ref19_Same r1 r2
  let b40 : Bool := r38 == r39
  let p41 : Bool := (p37 && b40)
  let r42 : S.Inter := S.inter_Of a.Lo b.Hi
  let r43 : S.Inter := S.law19_ref r42
  let r44 : S.Inter := S.ref19_Plain (⟨a.Lo, b.Hi⟩ : S.Inter)
  let b45 : Bool := ((r43.Lo == r44.Lo) && (r43.Hi == r44.Hi))
  let p46 : Bool := (p41 && b45)
  let r47 : S.Inter := S.inter_One n
  let r48 : S.Inter := S.law19_ref r47
  let b49 : Bool := ((r48.Lo == n) && (r48.Hi == n))
  let p50 : Bool := (p46 && b49)
  let r51 : S.Inter := S.inter_Whole
  let r52 : S.Inter := S.law19_ref r51
  let b53 : Bool := ((r52.Lo == r25) && (r52.Hi == r26))
  let p54 : Bool := (p50 && b53)
  let r55 : S.Inter := S.inter_Empty
  let r56 : S.Inter := S.law19_ref r55
  let b57 : Bool := ((r56.Lo == 1) && (r56.Hi == 0))
  let p58 : Bool := (p54 && b57)
  ((p24 = true → True) ∧ (p24 = false → (All [(p58 = true → S.law19_works_pre)] ∧ True)))
/-- sieveholesref19.Join -/
def S.ref19_Join (a : S.Inter) (b : S.Inter) : S.Inter :=
  let r1 : Bool := S.ref19_Empty a
  let r2 : S.Inter := S.ref19_Plain b
  let r3 : Bool := S.ref19_Empty b
  let m4 : Int := if b.Lo < a.Lo then b.Lo else a.Lo
  let m5 : Int := if b.Hi > a.Hi then b.Hi else a.Hi
  (bif r1 then r2 else (bif r3 then a else (⟨m4, m5⟩ : S.Inter)))
/-- sieveholesref19.Meet -/
def S.ref19_Meet (a : S.Inter) (b : S.Inter) : S.Inter :=
  let m1 : Int := if b.Lo > a.Lo then b.Lo else a.Lo
  let m2 : Int := if b.Hi < a.Hi then b.Hi else a.Hi
  let r3 : S.Inter := S.ref19_Plain (⟨m1, m2⟩ : S.Inter)
  r3
/-- sieveholesref19.Widen -/
def S.ref19_Widen (a : S.Inter) (b : S.Inter) : S.Inter :=
  let r1 : Bool := S.ref19_Empty a
  let r2 : S.Inter := S.ref19_Plain b
  let r3 : Bool := S.ref19_Empty b
  let b4 : Bool := decide (b.Lo < a.Lo)
  let r5 : Int := S.ref19_Least
  let b6 : Bool := decide (b.Hi > a.Hi)
  let r7 : Int := S.ref19_Most
  (bif r1 then r2 else (bif r3 then a else (⟨(bif b4 then r5 else a.Lo), (bif b6 then r7 else a.Hi)⟩ : S.Inter)))
/-- sieveholesref19.Narrow -/
def S.ref19_Narrow (a : S.Inter) (b : S.Inter) : S.Inter :=
  let r1 : Bool := S.ref19_Empty a
  let r2 : Bool := S.ref19_Empty b
  let p3 : Bool := (r1 || r2)
  let r4 : Int := S.ref19_Least
  let b5 : Bool := a.Lo == r4
  let r6 : Int := S.ref19_Most
  let b7 : Bool := a.Hi == r6
  let r8 : S.Inter := S.ref19_Plain (⟨(bif b5 then b.Lo else a.Lo), (bif b7 then b.Hi else a.Hi)⟩ : S.Inter)
  (bif p3 then (⟨1, 0⟩ : S.Inter) else r8)
@[ext] structure S.law19_InterJoins_L0 where
  l : (List S.Inter)
  i : Int
  join : S.Inter
  meet : S.Inter
def S.law19_InterJoins_L0_step (x : S.law19_InterJoins_L0) : S.law19_InterJoins_L0 ⊕ (S.law19_InterJoins_L0) :=
  let b1 : Bool := decide (x.i < (x.l.length : Int))
  let e2 : S.Inter := x.l.getD (Int.toNat x.i) (⟨0, 0⟩ : S.Inter)
  let r3 : S.Inter := S.law19_ref e2
  let r4 : S.Inter := S.ref19_Join x.join r3
  let e5 : S.Inter := x.l.getD (Int.toNat x.i) (⟨0, 0⟩ : S.Inter)
  let r6 : S.Inter := S.law19_ref e5
  let r7 : S.Inter := S.ref19_Meet x.meet r6
  let t8 : Int := IntKind.i64.wrap (x.i + 1)
  (bif b1 then (.inl ⟨x.l, t8, r4, r7⟩) else (.inr ⟨x.l, x.i, x.join, x.meet⟩))
def S.law19_InterJoins_L0_vcs (x : S.law19_InterJoins_L0) : Prop :=
  let b1 : Bool := decide (x.i < (x.l.length : Int))
  ((b1 = true → (All [(0 : Int) ≤ x.i, x.i < (x.l.length : Int), (0 : Int) ≤ x.i, x.i < (x.l.length : Int)] ∧ True)) ∧ (b1 = false → True))
noncomputable def S.law19_InterJoins_L0_run (x : S.law19_InterJoins_L0) : S.law19_InterJoins_L0 := theRun (fun x => x) S.law19_InterJoins_L0_step S.law19_InterJoins_L0_vcs x
/-- sieveholeslaw19.InterJoins -/
noncomputable def S.law19_InterJoins (l : (List S.Inter)) (a : S.Inter) (b : S.Inter) : Bool :=
  let b1 : Bool := decide ((l.length : Int) > 20)
  let r2 : Bool := S.law19_works
  let r3 : Int := S.ref19_Least
  let r4 : Int := S.ref19_Most
  let x5 : S.law19_InterJoins_L0 := (⟨l, 0, (⟨1, 0⟩ : S.Inter), (⟨r3, r4⟩ : S.Inter)⟩ : S.law19_InterJoins_L0)
  let y6 : S.law19_InterJoins_L0 := S.law19_InterJoins_L0_run x5
  let r7 : S.Inter := S.inter_Join y6.l
  let r8 : S.Inter := S.law19_ref r7
  let b9 : Bool := ((r8.Lo == y6.join.Lo) && (r8.Hi == y6.join.Hi))
  let r10 : S.Inter := S.inter_Meet y6.l
  let r11 : S.Inter := S.law19_ref r10
  let b12 : Bool := ((r11.Lo == y6.meet.Lo) && (r11.Hi == y6.meet.Hi))
  let p13 : Bool := (b9 && b12)
  let r14 : S.Inter := S.inter_Join ([a, b] : List S.Inter)
  let r15 : S.Inter := S.law19_ref r14
  let r16 : S.Inter := S.law19_ref a
  let r17 : S.Inter := S.law19_ref b
  let r18 : S.Inter := S.ref19_Join r16 r17
  let b19 : Bool := ((r15.Lo == r18.Lo) && (r15.Hi == r18.Hi))
  let p20 : Bool := (p13 && b19)
  let r21 : S.Inter := S.inter_Widen a b
  let r22 : S.Inter := S.law19_ref r21
  let r23 : S.Inter := S.law19_ref a
  let r24 : S.Inter := S.law19_ref b
  let r25 : S.Inter := S.ref19_Widen r23 r24
  let b26 : Bool := ((r22.Lo == r25.Lo) && (r22.Hi == r25.Hi))
  let p27 : Bool := (p20 && b26)
  let r28 : S.Inter := S.inter_Narrow a b
  let r29 : S.Inter := S.law19_ref r28
  let r30 : S.Inter := S.law19_ref a
  let r31 : S.Inter := S.law19_ref b
  let r32 : S.Inter := S.ref19_Narrow r30 r31
  let b33 : Bool := ((r29.Lo == r32.Lo) && (r29.Hi == r32.Hi))
  let p34 : Bool := (p27 && b33)
  let r35 : Bool := S.law19_works
  let p36 : Bool := (p34 && r35)
  (bif b1 then r2 else p36)
def S.law19_InterJoins_pre (l : (List S.Inter)) (a : S.Inter) (b : S.Inter) : Prop :=
  let b1 : Bool := decide ((l.length : Int) > 20)
  let r3 : Int := S.ref19_Least
  let r4 : Int := S.ref19_Most
  let x5 : S.law19_InterJoins_L0 := (⟨l, 0, (⟨1, 0⟩ : S.Inter), (⟨r3, r4⟩ : S.Inter)⟩ : S.law19_InterJoins_L0)
  let y6 : S.law19_InterJoins_L0 := S.law19_InterJoins_L0_run x5
  let r7 : S.Inter := S.inter_Join y6.l
  let r8 : S.Inter := S.law19_ref r7
  let b9 : Bool := ((r8.Lo == y6.join.Lo) && (r8.Hi == y6.join.Hi))
  let r10 : S.Inter := S.inter_Meet y6.l
  let r11 : S.Inter := S.law19_ref r10
  let b12 : Bool := ((r11.Lo == y6.meet.Lo) && (r11.Hi == y6.meet.Hi))
  let p13 : Bool := (b9 && b12)
  let r14 : S.Inter := S.inter_Join ([a, b] : List S.Inter)
  let r15 : S.Inter := S.law19_ref r14
  let r16 : S.Inter := S.law19_ref a
  let r17 : S.Inter := S.law19_ref b
  let r18 : S.Inter := S.ref19_Join r16 r17
  let b19 : Bool := ((r15.Lo == r18.Lo) && (r15.Hi == r18.Hi))
  let p20 : Bool := (p13 && b19)
  let r21 : S.Inter := S.inter_Widen a b
  let r22 : S.Inter := S.law19_ref r21
  let r23 : S.Inter := S.law19_ref a
  let r24 : S.Inter := S.law19_ref b
  let r25 : S.Inter := S.ref19_Widen r23 r24
  let b26 : Bool := ((r22.Lo == r25.Lo) && (r22.Hi == r25.Hi))
  let p27 : Bool := (p20 && b26)
  let r28 : S.Inter := S.inter_Narrow a b
  let r29 : S.Inter := S.law19_ref r28
  let r30 : S.Inter := S.law19_ref a
  let r31 : S.Inter := S.law19_ref b
  let r32 : S.Inter := S.ref19_Narrow r30 r31
  let b33 : Bool := ((r29.Lo == r32.Lo) && (r29.Hi == r32.Hi))
  let p34 : Bool := (p27 && b33)
  ((b1 = true → (All [S.law19_works_pre] ∧ True)) ∧ (b1 = false → (All [Runs S.law19_InterJoins_L0_step S.law19_InterJoins_L0_vcs x5 (S.law19_InterJoins_L0_run x5), S.inter_Join_pre y6.l, (b9 = true → S.inter_Meet_pre y6.l), (p13 = true → S.inter_Join_pre ([a, b] : List S.Inter)), (p20 = true → S.inter_Widen_pre a b), (p34 = true → S.law19_works_pre)] ∧ True)))
@[ext] structure S.law19_InterLattice_L0 where
  l : (List S.Inter)
  turns : Int
  i : Int
  vx : S.Inter
noncomputable def S.law19_InterLattice_L0_step (x : S.law19_InterLattice_L0) : S.law19_InterLattice_L0 ⊕ (S.law19_InterLattice_L0) :=
  let b1 : Bool := decide (x.i < (x.l.length : Int))
  let e2 : S.Inter := x.l.getD (Int.toNat x.i) (⟨0, 0⟩ : S.Inter)
  let r3 : S.Inter := S.inter_Widen x.vx e2
  let r4 : Bool := S.inter_Same x.vx r3
  let b5 : Bool := !r4
  let t6 : Int := IntKind.i64.wrap (x.turns + 1)
  let t7 : Int := IntKind.i64.wrap (x.i + 1)
  (bif b1 then (.inl ⟨x.l, (bif b5 then t6 else x.turns), t7, r3⟩) else (.inr ⟨x.l, x.turns, x.i, x.vx⟩))
def S.law19_InterLattice_L0_vcs (x : S.law19_InterLattice_L0) : Prop :=
  let b1 : Bool := decide (x.i < (x.l.length : Int))
  let e2 : S.Inter := x.l.getD (Int.toNat x.i) (⟨0, 0⟩ : S.Inter)
  ((b1 = true → (All [(0 : Int) ≤ x.i, x.i < (x.l.length : Int), S.inter_Widen_pre x.vx e2] ∧ True)) ∧ (b1 = false → True))
noncomputable def S.law19_InterLattice_L0_run (x : S.law19_InterLattice_L0) : S.law19_InterLattice_L0 := theRun (fun x => x) S.law19_InterLattice_L0_step S.law19_InterLattice_L0_vcs x
/-- sieveholeslaw19.InterLattice -/
noncomputable def S.law19_InterLattice (a : S.Inter) (b : S.Inter) (c : S.Inter) (n : Int) (l : (List S.Inter)) : Bool :=
  let b1 : Bool := decide ((l.length : Int) > 30)
  let r2 : Bool := S.law19_works
  let r3 : S.Inter := S.inter_Join ([a, b] : List S.Inter)
  let r4 : S.Inter := S.inter_Meet ([a, b] : List S.Inter)
  let r5 : Bool := S.inter_Inter_Has a n
  let r6 : Bool := S.inter_Inter_Has b n
  let p7 : Bool := (r5 || r6)
  let r8 : Bool := S.inter_Inter_Has r3 n
  let b9 : Bool := !r8
  let p10 : Bool := (p7 && b9)
  let r11 : Bool := S.inter_Inter_Has r4 n
  let r12 : Bool := S.inter_Inter_Has a n
  let r13 : Bool := S.inter_Inter_Has b n
  let p14 : Bool := (r12 && r13)
  let b15 : Bool := !(r11 == p14)
  let p16 : Bool := (p10 || b15)
  let r17 : S.Inter := S.inter_Join ([b, a] : List S.Inter)
  let b18 : Bool := !((r3.Lo == r17.Lo) && (r3.Hi == r17.Hi))
  let p19 : Bool := (p16 || b18)
  let r20 : S.Inter := S.inter_Meet ([b, a] : List S.Inter)
  let b21 : Bool := !((r4.Lo == r20.Lo) && (r4.Hi == r20.Hi))
  let p22 : Bool := (p19 || b21)
  let r23 : S.Inter := S.inter_Join ([r3, c] : List S.Inter)
  let r24 : S.Inter := S.inter_Join ([b, c] : List S.Inter)
  let r25 : S.Inter := S.inter_Join ([a, r24] : List S.Inter)
  let b26 : Bool := !((r23.Lo == r25.Lo) && (r23.Hi == r25.Hi))
  let r27 : S.Inter := S.inter_Meet ([r4, c] : List S.Inter)
  let r28 : S.Inter := S.inter_Meet ([b, c] : List S.Inter)
  let r29 : S.Inter := S.inter_Meet ([a, r28] : List S.Inter)
  let b30 : Bool := !((r27.Lo == r29.Lo) && (r27.Hi == r29.Hi))
  let p31 : Bool := (b26 || b30)
  let r32 : S.Inter := S.inter_Join ([a, r4] : List S.Inter)
  let r33 : Bool := S.inter_Same r32 a
  let b34 : Bool := !r33
  let p35 : Bool := (p31 || b34)
  let r36 : S.Inter := S.inter_Meet ([a, r3] : List S.Inter)
  let r37 : Bool := S.inter_Same r36 a
  let b38 : Bool := !r37
  let p39 : Bool := (p35 || b38)
  let r40 : Bool := S.inter_Within a b
  let r41 : Bool := S.inter_Same r3 b
  let b42 : Bool := !(r40 == r41)
  let p43 : Bool := (p39 || b42)
  let r44 : S.Inter := S.inter_Widen a b
  let r45 : Bool := S.inter_Within r3 r44
  let b46 : Bool := !r45
  let r47 : Bool := S.inter_Inter_Has a n
  let r48 : Bool := S.inter_Inter_Has b n
  let p49 : Bool := (r47 && r48)
  let r50 : S.Inter := S.inter_Narrow a b
  let r51 : Bool := S.inter_Inter_Has r50 n
  let b52 : Bool := !r51
  let p53 : Bool := (p49 && b52)
  let p54 : Bool := (b46 || p53)
  let r55 : Bool := S.inter_Within b a
  let r56 : S.Inter := S.inter_Narrow a b
  let r57 : Bool := S.inter_Within r56 a
  let b58 : Bool := !r57
  let p59 : Bool := (r55 && b58)
  let p60 : Bool := (p54 || p59)
  let x61 : S.law19_InterLattice_L0 := (⟨l, 0, 0, a⟩ : S.law19_InterLattice_L0)
  let y62 : S.law19_InterLattice_L0 := S.law19_InterLattice_L0_run x61
  let b63 : Bool := decide (y62.turns ≤ 3)
  let r64 : Bool := S.law19_works
  let p65 : Bool := (b63 && r64)
  (bif b1 then r2 else (bif p22 then false else (bif p43 then false else (bif p60 then false else p65))))
def S.law19_InterLattice_pre (a : S.Inter) (b : S.Inter) (c : S.Inter) (n : Int) (l : (List S.Inter)) : Prop :=
  let b1 : Bool := decide ((l.length : Int) > 30)
  let r3 : S.Inter := S.inter_Join ([a, b] : List S.Inter)
  let r4 : S.Inter := S.inter_Meet ([a, b] : List S.Inter)
  let r5 : Bool := S.inter_Inter_Has a n
  let r6 : Bool := S.inter_Inter_Has b n
  let p7 : Bool := (r5 || r6)
  let r8 : Bool := S.inter_Inter_Has r3 n
  let b9 : Bool := !r8
  let p10 : Bool := (p7 && b9)
  let r11 : Bool := S.inter_Inter_Has r4 n
  let r12 : Bool := S.inter_Inter_Has a n
  let r13 : Bool := S.inter_Inter_Has b n
  let p14 : Bool := (r12 && r13)
  let b15 : Bool := !(r11 == p14)
  let p16 : Bool := (p10 || b15)
  let r17 : S.Inter := S.inter_Join ([b, a] : List S.Inter)
  let b18 : Bool := !((r3.Lo == r17.Lo) && (r3.Hi == r17.Hi))
  let p19 : Bool := (p16 || b18)
  let r20 : S.Inter := S.inter_Meet ([b, a] : List S.Inter)
  let b21 : Bool := !((r4.Lo == r20.Lo) && (r4.Hi == r20.Hi))
  let p22 : Bool := (p19 || b21)
  let r23 : S.Inter := S.inter_Join ([r3, c] : List S.Inter)
  let r24 : S.Inter := S.inter_Join ([b, c] : List S.Inter)
  let r25 : S.Inter := S.inter_Join ([a, r24] : List S.Inter)
  let b26 : Bool := !((r23.Lo == r25.Lo) && (r23.Hi == r25.Hi))
  let r27 : S.Inter := S.inter_Meet ([r4, c] : List S.Inter)
  let r28 : S.Inter := S.inter_Meet ([b, c] : List S.Inter)
  let r29 : S.Inter := S.inter_Meet ([a, r28] : List S.Inter)
  let b30 : Bool := !((r27.Lo == r29.Lo) && (r27.Hi == r29.Hi))
  let p31 : Bool := (b26 || b30)
  let r32 : S.Inter := S.inter_Join ([a, r4] : List S.Inter)
  let r33 : Bool := S.inter_Same r32 a
  let b34 : Bool := !r33
  let p35 : Bool := (p31 || b34)
  let r36 : S.Inter := S.inter_Meet ([a, r3] : List S.Inter)
  let r37 : Bool := S.inter_Same r36 a
  let b38 : Bool := !r37
  let p39 : Bool := (p35 || b38)
  let r40 : Bool := S.inter_Within a b
  let r41 : Bool := S.inter_Same r3 b
  let b42 : Bool := !(r40 == r41)
  let p43 : Bool := (p39 || b42)
  let r44 : S.Inter := S.inter_Widen a b
  let r45 : Bool := S.inter_Within r3 r44
  let b46 : Bool := !r45
  let r47 : Bool := S.inter_Inter_Has a n
  let r48 : Bool := S.inter_Inter_Has b n
  let p49 : Bool := (r47 && r48)
  let r50 : S.Inter := S.inter_Narrow a b
  let r51 : Bool := S.inter_Inter_Has r50 n
  let b52 : Bool := !r51
  let p53 : Bool := (p49 && b52)
  let p54 : Bool := (b46 || p53)
  let r55 : Bool := S.inter_Within b a
  let r56 : S.Inter := S.inter_Narrow a b
  let r57 : Bool := S.inter_Within r56 a
  let b58 : Bool := !r57
  let p59 : Bool := (r55 && b58)
  let p60 : Bool := (p54 || p59)
  let x61 : S.law19_InterLattice_L0 := (⟨l, 0, 0, a⟩ : S.law19_InterLattice_L0)
  let y62 : S.law19_InterLattice_L0 := S.law19_InterLattice_L0_run x61
  let b63 : Bool := decide (y62.turns ≤ 3)
  ((b1 = true → (All [S.law19_works_pre] ∧ True)) ∧ (b1 = false → (All [S.inter_Join_pre ([a, b] : List S.Inter), S.inter_Meet_pre ([a, b] : List S.Inter), (p16 = false → S.inter_Join_pre ([b, a] : List S.Inter)), (p19 = false → S.inter_Meet_pre ([b, a] : List S.Inter))] ∧ ((p22 = true → True) ∧ (p22 = false → (All [S.inter_Join_pre ([r3, c] : List S.Inter), S.inter_Join_pre ([b, c] : List S.Inter), S.inter_Join_pre ([a, r24] : List S.Inter), (b26 = false → S.inter_Meet_pre ([r4, c] : List S.Inter)), (b26 = false → S.inter_Meet_pre ([b, c] : List S.Inter)), (b26 = false → S.inter_Meet_pre ([a, r28] : List S.Inter)), (p31 = false → S.inter_Join_pre ([a, r4] : List S.Inter)), (p35 = false → S.inter_Meet_pre ([a, r3] : List S.Inter))] ∧ ((p43 = true → True) ∧ (p43 = false → (All [S.inter_Widen_pre a b] ∧ ((p60 = true → True) ∧ (p60 = false → (All [Runs S.law19_InterLattice_L0_step S.law19_InterLattice_L0_vcs x61 (S.law19_InterLattice_L0_run x61), (b63 = true → S.law19_works_pre)] ∧ True))))))))))))
@[ext] structure S.law19_InterKnown_L2 where
  ends : (List Int)
  i : Int
  k : Int
  l : (List S.Inter)
def S.law19_InterKnown_L2_step (x : S.law19_InterKnown_L2) : S.law19_InterKnown_L2 ⊕ (S.law19_InterKnown_L2) :=
  let b1 : Bool := decide (x.k < 6)
  let e2 : Int := x.ends.getD (Int.toNat x.i) 0
  let e3 : Int := x.ends.getD (Int.toNat x.k) 0
  let l4 : List S.Inter := x.l ++ ([(⟨e2, e3⟩ : S.Inter)] : List S.Inter)
  let t5 : Int := IntKind.i64.wrap (x.k + 1)
  (bif b1 then (.inl ⟨x.ends, x.i, t5, l4⟩) else (.inr ⟨x.ends, x.i, x.k, x.l⟩))
def S.law19_InterKnown_L2_vcs (x : S.law19_InterKnown_L2) : Prop :=
  let b1 : Bool := decide (x.k < 6)
  let e2 : Int := x.ends.getD (Int.toNat x.i) 0
  let e3 : Int := x.ends.getD (Int.toNat x.k) 0
  ((b1 = true → (All [(0 : Int) ≤ x.i, x.i < (x.ends.length : Int), (0 : Int) ≤ x.k, x.k < (x.ends.length : Int), ((x.l.length + ([(⟨e2, e3⟩ : S.Inter)] : List S.Inter).length : Nat) : Int) * 16 ≤ 140737488355328] ∧ True)) ∧ (b1 = false → True))
noncomputable def S.law19_InterKnown_L2_run (x : S.law19_InterKnown_L2) : S.law19_InterKnown_L2 := theRun (fun x => x) S.law19_InterKnown_L2_step S.law19_InterKnown_L2_vcs x
@[ext] structure S.law19_InterKnown_L0 where
  ends : (List Int)
  i : Int
  l : (List S.Inter)
noncomputable def S.law19_InterKnown_L0_step (x : S.law19_InterKnown_L0) : S.law19_InterKnown_L0 ⊕ (S.law19_InterKnown_L0) :=
  let b1 : Bool := decide (x.i < 6)
  let x2 : S.law19_InterKnown_L2 := (⟨x.ends, x.i, 0, x.l⟩ : S.law19_InterKnown_L2)
  let y3 : S.law19_InterKnown_L2 := S.law19_InterKnown_L2_run x2
  let t4 : Int := IntKind.i64.wrap (y3.i + 1)
  (bif b1 then (.inl ⟨y3.ends, t4, y3.l⟩) else (.inr ⟨x.ends, x.i, x.l⟩))
noncomputable def S.law19_InterKnown_L0_vcs (x : S.law19_InterKnown_L0) : Prop :=
  let b1 : Bool := decide (x.i < 6)
  let x2 : S.law19_InterKnown_L2 := (⟨x.ends, x.i, 0, x.l⟩ : S.law19_InterKnown_L2)
  ((b1 = true → (All [Runs S.law19_InterKnown_L2_step S.law19_InterKnown_L2_vcs x2 (S.law19_InterKnown_L2_run x2)] ∧ True)) ∧ (b1 = false → True))
noncomputable def S.law19_InterKnown_L0_run (x : S.law19_InterKnown_L0) : S.law19_InterKnown_L0 := theRun (fun x => x) S.law19_InterKnown_L0_step S.law19_InterKnown_L0_vcs x
@[ext] structure S.law19_InterKnown_L6 where
  t0 : Bool
  ends : (List Int)
  i : Int
  k : Int
  l129 : (List S.Inter)
noncomputable def S.law19_InterKnown_L6_step (x : S.law19_InterKnown_L6) : S.law19_InterKnown_L6 ⊕ (Bool × S.law19_InterKnown_L6) :=
  let b1 : Bool := decide (x.k < (x.l129.length : Int))
  let t2 : Int := IntKind.i64.wrap (x.i + x.k)
  let t3 : Int := Int.tmod t2 6
  let e4 : Int := x.ends.getD (Int.toNat t3) 0
  let e5 : S.Inter := x.l129.getD (Int.toNat x.i) (⟨0, 0⟩ : S.Inter)
  let e6 : S.Inter := x.l129.getD (Int.toNat x.k) (⟨0, 0⟩ : S.Inter)
  let r7 : Bool := S.law19_InterTells e5 e6 e4
  let b8 : Bool := !r7
  let t9 : Int := Int.tmod x.i 30
  let t10 : Int := Int.tmod x.i 30
  let t11 : Int := Int.tmod x.k 6
  let t12 : Int := IntKind.i64.wrap (t10 + t11)
  let l13 : (List S.Inter) := (x.l129.take (Int.toNat t12)).drop (Int.toNat t9)
  let e14 : S.Inter := x.l129.getD (Int.toNat x.i) (⟨0, 0⟩ : S.Inter)
  let e15 : S.Inter := x.l129.getD (Int.toNat x.k) (⟨0, 0⟩ : S.Inter)
  let r16 : Bool := S.law19_InterJoins l13 e14 e15
  let b17 : Bool := !r16
  let p18 : Bool := (b8 || b17)
  let e19 : S.Inter := x.l129.getD (Int.toNat x.i) (⟨0, 0⟩ : S.Inter)
  let e20 : S.Inter := x.l129.getD (Int.toNat x.k) (⟨0, 0⟩ : S.Inter)
  let t21 : Int := IntKind.i64.wrap (x.i * 5)
  let t22 : Int := IntKind.i64.wrap (t21 + x.k)
  let t23 : Int := Int.tmod t22 36
  let e24 : S.Inter := x.l129.getD (Int.toNat t23) (⟨0, 0⟩ : S.Inter)
  let t25 : Int := Int.tmod x.k 20
  let t26 : Int := Int.tmod x.k 20
  let t27 : Int := IntKind.i64.wrap (t26 + 9)
  let l28 : (List S.Inter) := (x.l129.take (Int.toNat t27)).drop (Int.toNat t25)
  let r29 : Bool := S.law19_InterLattice e19 e20 e24 e4 l28
  let b30 : Bool := !r29
  let p31 : Bool := (p18 || b30)
  let t32 : Int := IntKind.i64.wrap (x.k + 1)
  (bif b1 then (bif p31 then (.inr ⟨true, ⟨false, x.ends, x.i, x.k, x.l129⟩⟩) else (.inl ⟨x.t0, x.ends, x.i, t32, x.l129⟩)) else (.inr ⟨false, ⟨x.t0, x.ends, x.i, x.k, x.l129⟩⟩))
noncomputable def S.law19_InterKnown_L6_vcs (x : S.law19_InterKnown_L6) : Prop :=
  let b1 : Bool := decide (x.k < (x.l129.length : Int))
  let t2 : Int := IntKind.i64.wrap (x.i + x.k)
  let t3 : Int := Int.tmod t2 6
  let e4 : Int := x.ends.getD (Int.toNat t3) 0
  let e5 : S.Inter := x.l129.getD (Int.toNat x.i) (⟨0, 0⟩ : S.Inter)
  let e6 : S.Inter := x.l129.getD (Int.toNat x.k) (⟨0, 0⟩ : S.Inter)
  let r7 : Bool := S.law19_InterTells e5 e6 e4
  let b8 : Bool := !r7
  let t9 : Int := Int.tmod x.i 30
  let t10 : Int := Int.tmod x.i 30
  let t11 : Int := Int.tmod x.k 6
  let t12 : Int := IntKind.i64.wrap (t10 + t11)
  let l13 : (List S.Inter) := (x.l129.take (Int.toNat t12)).drop (Int.toNat t9)
  let e14 : S.Inter := x.l129.getD (Int.toNat x.i) (⟨0, 0⟩ : S.Inter)
  let e15 : S.Inter := x.l129.getD (Int.toNat x.k) (⟨0, 0⟩ : S.Inter)
  let r16 : Bool := S.law19_InterJoins l13 e14 e15
  let b17 : Bool := !r16
  let p18 : Bool := (b8 || b17)
  let e19 : S.Inter := x.l129.getD (Int.toNat x.i) (⟨0, 0⟩ : S.Inter)
  let e20 : S.Inter := x.l129.getD (Int.toNat x.k) (⟨0, 0⟩ : S.Inter)
  let t21 : Int := IntKind.i64.wrap (x.i * 5)
  let t22 : Int := IntKind.i64.wrap (t21 + x.k)
  let t23 : Int := Int.tmod t22 36
  let e24 : S.Inter := x.l129.getD (Int.toNat t23) (⟨0, 0⟩ : S.Inter)
  let t25 : Int := Int.tmod x.k 20
  let t26 : Int := Int.tmod x.k 20
  let t27 : Int := IntKind.i64.wrap (t26 + 9)
  let l28 : (List S.Inter) := (x.l129.take (Int.toNat t27)).drop (Int.toNat t25)
  let r29 : Bool := S.law19_InterLattice e19 e20 e24 e4 l28
  let b30 : Bool := !r29
  let p31 : Bool := (p18 || b30)
  ((b1 = true → (All [(0 : Int) ≤ t3, t3 < (x.ends.length : Int), (0 : Int) ≤ x.i, x.i < (x.l129.length : Int), (0 : Int) ≤ x.k, x.k < (x.l129.length : Int), S.law19_InterTells_pre e5 e6 e4, (b8 = false → ((0 : Int) ≤ t9 ∧ t9 ≤ t12 ∧ t12 ≤ (x.l129.length : Int))), (b8 = false → ((0 : Int) ≤ x.i ∧ x.i < (x.l129.length : Int))), (b8 = false → ((0 : Int) ≤ x.k ∧ x.k < (x.l129.length : Int))), (b8 = false → S.law19_InterJoins_pre l13 e14 e15), (p18 = false → ((0 : Int) ≤ x.i ∧ x.i < (x.l129.length : Int))), (p18 = false → ((0 : Int) ≤ x.k ∧ x.k < (x.l129.length : Int))), (p18 = false → ((0 : Int) ≤ t23 ∧ t23 < (x.l129.length : Int))), (p18 = false → ((0 : Int) ≤ t25 ∧ t25 ≤ t27 ∧ t27 ≤ (x.l129.length : Int))), (p18 = false → S.law19_InterLattice_pre e19 e20 e24 e4 l28)] ∧ ((p31 = true → True) ∧ (p31 = false → True)))) ∧ (b1 = false → True))
noncomputable def S.law19_InterKnown_L6_run (x : S.law19_InterKnown_L6) : Bool × S.law19_InterKnown_L6 := theRun (fun x => ⟨true, x⟩) S.law19_InterKnown_L6_step S.law19_InterKnown_L6_vcs x
@[ext] structure S.law19_InterKnown_L4 where
  t0 : Bool
  ends : (List Int)
  i : Int
  l129 : (List S.Inter)
noncomputable def S.law19_InterKnown_L4_step (x : S.law19_InterKnown_L4) : S.law19_InterKnown_L4 ⊕ (Bool × S.law19_InterKnown_L4) :=
  let b1 : Bool := decide (x.i < (x.l129.length : Int))
  let x2 : S.law19_InterKnown_L6 := (⟨x.t0, x.ends, x.i, 0, x.l129⟩ : S.law19_InterKnown_L6)
  let y3 : Bool × S.law19_InterKnown_L6 := S.law19_InterKnown_L6_run x2
  let t4 : Int := IntKind.i64.wrap (y3.2.i + 1)
  (bif b1 then (bif y3.1 then (.inr ⟨true, ⟨y3.2.t0, y3.2.ends, y3.2.i, y3.2.l129⟩⟩) else (.inl ⟨y3.2.t0, y3.2.ends, t4, y3.2.l129⟩)) else (.inr ⟨false, ⟨x.t0, x.ends, x.i, x.l129⟩⟩))
noncomputable def S.law19_InterKnown_L4_vcs (x : S.law19_InterKnown_L4) : Prop :=
  let b1 : Bool := decide (x.i < (x.l129.length : Int))
  let x2 : S.law19_InterKnown_L6 := (⟨x.t0, x.ends, x.i, 0, x.l129⟩ : S.law19_InterKnown_L6)
  let y3 : Bool × S.law19_InterKnown_L6 := S.law19_InterKnown_L6_run x2
  ((b1 = true → (All [Runs S.law19_InterKnown_L6_step S.law19_InterKnown_L6_vcs x2 (S.law19_InterKnown_L6_run x2)] ∧ ((y3.1 = true → True) ∧ (y3.1 = false → True)))) ∧ (b1 = false → True))
noncomputable def S.law19_InterKnown_L4_run (x : S.law19_InterKnown_L4) : Bool × S.law19_InterKnown_L4 := theRun (fun x => ⟨true, x⟩) S.law19_InterKnown_L4_step S.law19_InterKnown_L4_vcs x
/-- sieveholeslaw19.InterKnown -/
noncomputable def S.law19_InterKnown : Bool :=
  let r1 : Int := S.ref19_Least
  let r2 : Int := S.ref19_Most
  let t3 : Int := IntKind.i64.wrap (r1 + 1)
  let x4 : S.law19_InterKnown_L0 := (⟨([r1, t3, (-1), 0, 1, r2] : List Int), 0, ([] : List S.Inter)⟩ : S.law19_InterKnown_L0)
  let y5 : S.law19_InterKnown_L0 := S.law19_InterKnown_L0_run x4
  let x6 : S.law19_InterKnown_L4 := (⟨false, y5.ends, 0, y5.l⟩ : S.law19_InterKnown_L4)
  let y7 : Bool × S.law19_InterKnown_L4 := S.law19_InterKnown_L4_run x6
  let e8 : S.Inter := y7.2.l129.getD (Int.toNat 0) (⟨0, 0⟩ : S.Inter)
  let e9 : S.Inter := y7.2.l129.getD (Int.toNat 1) (⟨0, 0⟩ : S.Inter)
  let r10 : Bool := S.law19_InterJoins ([] : List S.Inter) e8 e9
  let r11 : Bool := S.law19_works
  let p12 : Bool := (r10 && r11)
  (bif y7.1 then y7.2.t0 else p12)
def S.law19_InterKnown_pre : Prop :=
  let r1 : Int := S.ref19_Least
  let r2 : Int := S.ref19_Most
  let t3 : Int := IntKind.i64.wrap (r1 + 1)
  let x4 : S.law19_InterKnown_L0 := (⟨([r1, t3, (-1), 0, 1, r2] : List Int), 0, ([] : List S.Inter)⟩ : S.law19_InterKnown_L0)
  let y5 : S.law19_InterKnown_L0 := S.law19_InterKnown_L0_run x4
  let x6 : S.law19_InterKnown_L4 := (⟨false, y5.ends, 0, y5.l⟩ : S.law19_InterKnown_L4)
  let y7 : Bool × S.law19_InterKnown_L4 := S.law19_InterKnown_L4_run x6
  let e8 : S.Inter := y7.2.l129.getD (Int.toNat 0) (⟨0, 0⟩ : S.Inter)
  let e9 : S.Inter := y7.2.l129.getD (Int.toNat 1) (⟨0, 0⟩ : S.Inter)
  let r10 : Bool := S.law19_InterJoins ([] : List S.Inter) e8 e9
  (All [Runs S.law19_InterKnown_L0_step S.law19_InterKnown_L0_vcs x4 (S.law19_InterKnown_L0_run x4), Runs S.law19_InterKnown_L4_step S.law19_InterKnown_L4_vcs x6 (S.law19_InterKnown_L4_run x6)] ∧ ((y7.1 = true → True) ∧ (y7.1 = false → (All [(0 : Int) ≤ 0, 0 < (y7.2.l129.length : Int), (0 : Int) ≤ 1, 1 < (y7.2.l129.length : Int), S.law19_InterJoins_pre ([] : List S.Inter) e8 e9, (r10 = true → S.law19_works_pre)] ∧ True))))
/-- cong.Top -/
def S.cong_Top : S.Cong :=
  (⟨1, 0⟩ : S.Cong)
/-- cong.Const -/
def S.cong_Const (n : Int) : S.Cong :=
  let t1 : Int := IntKind.u64.wrap n
  (⟨0, t1⟩ : S.Cong)
/-- sieveholeslaw20.ref -/
def S.law20_ref (c : S.Cong) : S.Cong :=
  c
/-- sieveholesref20.Rest -/
def S.ref20_Rest (n : Int) (m : Int) : Int :=
  let b1 : Bool := decide (n ≥ 0)
  let t2 : Int := IntKind.u64.wrap n
  let t3 : Int := Int.tmod t2 m
  let t4 : Int := IntKind.u64.wrap (m - 1)
  let t5 : Int := IntKind.i64.wrap (n + 1)
  let t6 : Int := IntKind.i64.wrap (0 - t5)
  let t7 : Int := IntKind.u64.wrap t6
  let t8 : Int := Int.tmod t7 m
  let t9 : Int := IntKind.u64.wrap (t4 - t8)
  (bif b1 then t3 else t9)
def S.ref20_Rest_pre (n : Int) (m : Int) : Prop :=
  let b1 : Bool := decide (n ≥ 0)
  ((b1 = true → (All [m ≠ 0] ∧ True)) ∧ (b1 = false → (All [m ≠ 0] ∧ True)))
/-- sieveholesref20.Make -/
def S.ref20_Make (m : Int) (n : Int) : S.Cong :=
  let b1 : Bool := m == 0
  let t2 : Int := IntKind.u64.wrap n
  let r3 : Int := S.ref20_Rest n m
  (bif b1 then (⟨0, t2⟩ : S.Cong) else (⟨m, r3⟩ : S.Cong))
def S.ref20_Make_pre (m : Int) (n : Int) : Prop :=
  let b1 : Bool := m == 0
  ((b1 = true → True) ∧ (b1 = false → (All [S.ref20_Rest_pre n m] ∧ True)))
/-- cong.rest -/
def S.cong_rest (n : Int) (m : Int) : Int :=
  let b1 : Bool := decide (n < 0)
  let t2 : Int := IntKind.u64.wrap (m - 1)
  let t3 : Int := IntKind.u64.wrap n
  let t4 : Int := bits .xor .u64 (if IntKind.u64.signed then -1 else IntKind.u64.max) t3
  let t5 : Int := Int.tmod t4 m
  let t6 : Int := IntKind.u64.wrap (t2 - t5)
  let t7 : Int := IntKind.u64.wrap n
  let t8 : Int := Int.tmod t7 m
  (bif b1 then t6 else t8)
def S.cong_rest_pre (n : Int) (m : Int) : Prop :=
  let b1 : Bool := decide (n < 0)
  ((b1 = true → (All [m ≠ 0] ∧ True)) ∧ (b1 = false → (All [m ≠ 0] ∧ True)))
/-- cong.Make -/
def S.cong_Make (m : Int) (n : Int) : S.Cong :=
  let b1 : Bool := m == 0
  let r2 : S.Cong := S.cong_Const n
  let r3 : Int := S.cong_rest n m
  (bif b1 then r2 else (⟨m, r3⟩ : S.Cong))
def S.cong_Make_pre (m : Int) (n : Int) : Prop :=
  let b1 : Bool := m == 0
  ((b1 = true → True) ∧ (b1 = false → (All [S.cong_rest_pre n m] ∧ True)))
/-- (cong.Cong).single -/
def S.cong_Cong_single (c : S.Cong) : Bool :=
  let b1 : Bool := c.M == 0
  b1
/-- (cong.Cong).Right -/
def S.cong_Cong_Right (c : S.Cong) : Bool :=
  let r1 : Bool := S.cong_Cong_single c
  let b2 : Bool := decide (c.R < c.M)
  let p3 : Bool := (r1 || b2)
  p3
/-- sieveholesref20.Right -/
def S.ref20_Right (c : S.Cong) : Bool :=
  let b1 : Bool := c.M == 0
  let b2 : Bool := decide (c.R < c.M)
  let p3 : Bool := (b1 || b2)
  p3
@[ext] structure S.cong_gcd_L0 where
  a : Int
  b : Int
def S.cong_gcd_L0_step (x : S.cong_gcd_L0) : S.cong_gcd_L0 ⊕ (S.cong_gcd_L0) :=
  let b1 : Bool := x.b == 0
  let t2 : Int := Int.tmod x.a x.b
  (bif b1 then (.inr ⟨x.a, x.b⟩) else (.inl ⟨x.b, t2⟩))
def S.cong_gcd_L0_vcs (x : S.cong_gcd_L0) : Prop :=
  let b1 : Bool := x.b == 0
  ((b1 = true → True) ∧ (b1 = false → (All [x.b ≠ 0] ∧ True)))
noncomputable def S.cong_gcd_L0_run (x : S.cong_gcd_L0) : S.cong_gcd_L0 := theRun (fun x => x) S.cong_gcd_L0_step S.cong_gcd_L0_vcs x
/-- cong.gcd -/
noncomputable def S.cong_gcd (a : Int) (b : Int) : Int :=
  let x1 : S.cong_gcd_L0 := (⟨a, b⟩ : S.cong_gcd_L0)
  let y2 : S.cong_gcd_L0 := S.cong_gcd_L0_run x1
  y2.a
def S.cong_gcd_pre (a : Int) (b : Int) : Prop :=
  let x1 : S.cong_gcd_L0 := (⟨a, b⟩ : S.cong_gcd_L0)
  (All [Runs S.cong_gcd_L0_step S.cong_gcd_L0_vcs x1 (S.cong_gcd_L0_run x1)] ∧ True)
/-- (cong.Cong).number -/
def S.cong_Cong_number (c : S.Cong) : Int :=
  let t1 : Int := IntKind.i64.wrap c.R
  t1
/-- (cong.Cong).by -/
def S.cong_Cong_by (c : S.Cong) (g : Int) : Int :=
  let r1 : Bool := S.cong_Cong_single c
  let r2 : Int := S.cong_Cong_number c
  let r3 : Int := S.cong_rest r2 g
  let t4 : Int := Int.tmod c.R g
  (bif r1 then r3 else t4)
def S.cong_Cong_by_pre (c : S.Cong) (g : Int) : Prop :=
  let r1 : Bool := S.cong_Cong_single c
  let r2 : Int := S.cong_Cong_number c
  ((r1 = true → (All [S.cong_rest_pre r2 g] ∧ True)) ∧ (r1 = false → (All [g ≠ 0] ∧ True)))
/-- cong.far -/
def S.cong_far (a : Int) (b : Int) : Int :=
  let m1 : Int := if b > a then b else a
  let m2 : Int := if b < a then b else a
  let t3 : Int := IntKind.u64.wrap (m1 - m2)
  t3
/-- cong.Join -/
noncomputable def S.cong_Join (a : S.Cong) (b : S.Cong) : S.Cong :=
  let r1 : Int := S.cong_gcd a.M b.M
  let b2 : Bool := ((a.M == b.M) && (a.R == b.R))
  let b3 : Bool := r1 == 0
  let r4 : Int := S.cong_Cong_number a
  let r5 : Int := S.cong_Cong_number b
  let m6 : Int := if r5 > r4 then r5 else r4
  let t7 : Int := IntKind.u64.wrap m6
  let m8 : Int := if r5 < r4 then r5 else r4
  let t9 : Int := IntKind.u64.wrap m8
  let t10 : Int := IntKind.u64.wrap (t7 - t9)
  let r11 : S.Cong := S.cong_Make t10 r4
  let r12 : Int := S.cong_Cong_by a r1
  let r13 : Int := S.cong_Cong_by b r1
  let r14 : Int := S.cong_far r12 r13
  let r15 : Int := S.cong_gcd r1 r14
  let t16 : Int := Int.tmod r12 r15
  (bif b2 then a else (bif b3 then r11 else (⟨r15, t16⟩ : S.Cong)))
def S.cong_Join_pre (a : S.Cong) (b : S.Cong) : Prop :=
  let r1 : Int := S.cong_gcd a.M b.M
  let b2 : Bool := ((a.M == b.M) && (a.R == b.R))
  let b3 : Bool := r1 == 0
  let r4 : Int := S.cong_Cong_number a
  let r5 : Int := S.cong_Cong_number b
  let m6 : Int := if r5 > r4 then r5 else r4
  let t7 : Int := IntKind.u64.wrap m6
  let m8 : Int := if r5 < r4 then r5 else r4
  let t9 : Int := IntKind.u64.wrap m8
  let t10 : Int := IntKind.u64.wrap (t7 - t9)
  let r12 : Int := S.cong_Cong_by a r1
  let r13 : Int := S.cong_Cong_by b r1
  let r14 : Int := S.cong_far r12 r13
  let r15 : Int := S.cong_gcd r1 r14
  (All [S.cong_gcd_pre a.M b.M] ∧ ((b2 = true → True) ∧ (b2 = false → ((b3 = true → (All [S.cong_Make_pre t10 r4] ∧ True)) ∧ (b3 = false → (All [S.cong_Cong_by_pre a r1, S.cong_Cong_by_pre b r1, S.cong_gcd_pre r1 r14, r15 ≠ 0] ∧ True))))))
/-- (cong.Cong).Has -/
def S.cong_Cong_Has (c : S.Cong) (n : Int) : Bool :=
  let r1 : S.Cong := S.cong_Make c.M n
  let b2 : Bool := ((r1.M == c.M) && (r1.R == c.R))
  b2
def S.cong_Cong_Has_pre (c : S.Cong) (n : Int) : Prop :=
  (All [S.cong_Make_pre c.M n] ∧ True)
/-- (cong.Cong).if1 -/
def S.cong_Cong_if1 (c : S.Cong) (ok : Bool) : S.Cong × Bool :=
  let b1 : Bool := !ok
  (bif b1 then ((⟨0, 0⟩ : S.Cong), false) else (c, true))
/-- cong.Within -/
def S.cong_Within (a : S.Cong) (b : S.Cong) : Bool :=
  let r1 : Bool := S.cong_Cong_single b
  let b2 : Bool := ((a.M == b.M) && (a.R == b.R))
  let t3 : Int := Int.tmod a.M b.M
  let b4 : Bool := t3 == 0
  let r5 : Int := S.cong_Cong_by a b.M
  let b6 : Bool := r5 == b.R
  let p7 : Bool := (b4 && b6)
  (bif r1 then b2 else p7)
def S.cong_Within_pre (a : S.Cong) (b : S.Cong) : Prop :=
  let r1 : Bool := S.cong_Cong_single b
  let t3 : Int := Int.tmod a.M b.M
  let b4 : Bool := t3 == 0
  ((r1 = true → True) ∧ (r1 = false → (All [b.M ≠ 0, (b4 = true → S.cong_Cong_by_pre a b.M)] ∧ True)))
/-- cong.Meet -/
noncomputable def S.cong_Meet (a : S.Cong) (b : S.Cong) : S.Cong × Bool :=
  let r1 : Int := S.cong_gcd a.M b.M
  let r2 : Bool := S.cong_Cong_single a
  let r3 : Int := S.cong_Cong_number a
  let r4 : Bool := S.cong_Cong_Has b r3
  let r5 : S.Cong × Bool := S.cong_Cong_if1 a r4
  let r6 : Bool := S.cong_Cong_single b
  let r7 : Int := S.cong_Cong_number b
  let r8 : Bool := S.cong_Cong_Has a r7
  let r9 : S.Cong × Bool := S.cong_Cong_if1 b r8
  let r10 : Int := S.cong_Cong_by a r1
  let r11 : Int := S.cong_Cong_by b r1
  let b12 : Bool := r10 != r11
  let r13 : Bool := S.cong_Within a b
  let r14 : Bool := S.cong_Within b a
  let b15 : Bool := !r14
  let b16 : Bool := decide (a.M ≥ b.M)
  let p17 : Bool := (b15 && b16)
  let p18 : Bool := (r13 || p17)
  (bif r2 then (r5.1, r5.2) else (bif r6 then (r9.1, r9.2) else (bif b12 then ((⟨0, 0⟩ : S.Cong), false) else (bif p18 then (a, true) else (b, true)))))
def S.cong_Meet_pre (a : S.Cong) (b : S.Cong) : Prop :=
  let r1 : Int := S.cong_gcd a.M b.M
  let r2 : Bool := S.cong_Cong_single a
  let r3 : Int := S.cong_Cong_number a
  let r6 : Bool := S.cong_Cong_single b
  let r7 : Int := S.cong_Cong_number b
  let r10 : Int := S.cong_Cong_by a r1
  let r11 : Int := S.cong_Cong_by b r1
  let b12 : Bool := r10 != r11
  let r13 : Bool := S.cong_Within a b
  let r14 : Bool := S.cong_Within b a
  let b15 : Bool := !r14
  let b16 : Bool := decide (a.M ≥ b.M)
  let p17 : Bool := (b15 && b16)
  let p18 : Bool := (r13 || p17)
  (All [S.cong_gcd_pre a.M b.M] ∧ ((r2 = true → (All [S.cong_Cong_Has_pre b r3] ∧ True)) ∧ (r2 = false → ((r6 = true → (All [S.cong_Cong_Has_pre a r7] ∧ True)) ∧ (r6 = false → (All [S.cong_Cong_by_pre a r1, S.cong_Cong_by_pre b r1] ∧ ((b12 = true → True) ∧ (b12 = false → (All [S.cong_Within_pre a b, (r13 = false → S.cong_Within_pre b a)] ∧ ((p18 = true → True) ∧ (p18 = false → True)))))))))))
/-- (cong.Cong).number0 -/
def S.cong_Cong_number0 (c : S.Cong) (ok : Bool) : Int × Bool :=
  let b1 : Bool := !ok
  let r2 : Int := S.cong_Cong_number c
  (bif b1 then (0, false) else (r2, true))
/-- math/bits.Add64 -/
def S.math_bits_Add64 (x y c : Int) : Int × Int := ((x + y + c) % 18446744073709551616, (x + y + c) / 18446744073709551616)
def S.math_bits_Add64_pre (x y c : Int) : Prop := 0 ≤ x ∧ 0 ≤ y ∧ 0 ≤ c ∧ c ≤ 1
/-- cong.plus -/
def S.cong_plus (a : Int) (b : Int) (m : Int) : Int :=
  let r1 : Int × Int := S.math_bits_Add64 a b 0
  let b2 : Bool := decide (r1.2 > 0)
  let b3 : Bool := decide (r1.1 ≥ m)
  let p4 : Bool := (b2 || b3)
  let t5 : Int := IntKind.u64.wrap (r1.1 - m)
  (bif p4 then t5 else r1.1)
def S.cong_plus_pre (a : Int) (b : Int) (m : Int) : Prop :=
  (All [S.math_bits_Add64_pre a b 0] ∧ True)
/-- (cong.Cong).Least -/
def S.cong_Cong_Least (c : S.Cong) (a1 : Int) : Int × Bool :=
  let r1 : Bool := S.cong_Cong_single c
  let r2 : Int := S.cong_Cong_number c
  let b3 : Bool := decide (r2 ≥ a1)
  let r4 : Int × Bool := S.cong_Cong_number0 c b3
  let r5 : Int := S.cong_rest a1 c.M
  let t6 : Int := IntKind.u64.wrap (c.M - r5)
  let t7 : Int := Int.tmod t6 c.M
  let r8 : Int := S.cong_plus c.R t7 c.M
  let t9 : Int := IntKind.u64.wrap a1
  let t10 : Int := IntKind.u64.wrap (9223372036854775807 - t9)
  let b11 : Bool := decide (r8 > t10)
  let t12 : Int := IntKind.i64.wrap r8
  let t13 : Int := IntKind.i64.wrap (a1 + t12)
  (bif r1 then (r4.1, r4.2) else (bif b11 then (0, false) else (t13, true)))
def S.cong_Cong_Least_pre (c : S.Cong) (a1 : Int) : Prop :=
  let r1 : Bool := S.cong_Cong_single c
  let r5 : Int := S.cong_rest a1 c.M
  let t6 : Int := IntKind.u64.wrap (c.M - r5)
  let t7 : Int := Int.tmod t6 c.M
  let r8 : Int := S.cong_plus c.R t7 c.M
  let t9 : Int := IntKind.u64.wrap a1
  let t10 : Int := IntKind.u64.wrap (9223372036854775807 - t9)
  let b11 : Bool := decide (r8 > t10)
  ((r1 = true → True) ∧ (r1 = false → (All [S.cong_rest_pre a1 c.M, c.M ≠ 0, S.cong_plus_pre c.R t7 c.M] ∧ ((b11 = true → True) ∧ (b11 = false → True)))))
/-- cong.Add -/
noncomputable def S.cong_Add (a : S.Cong) (b : S.Cong) : S.Cong :=
  let r1 : Int := S.cong_gcd a.M b.M
  let b2 : Bool := r1 == 0
  let t3 : Int := IntKind.u64.wrap (a.R + b.R)
  let r4 : Int := S.cong_Cong_by a r1
  let r5 : Int := S.cong_Cong_by b r1
  let r6 : Int := S.cong_plus r4 r5 r1
  (bif b2 then (⟨0, t3⟩ : S.Cong) else (⟨r1, r6⟩ : S.Cong))
def S.cong_Add_pre (a : S.Cong) (b : S.Cong) : Prop :=
  let r1 : Int := S.cong_gcd a.M b.M
  let b2 : Bool := r1 == 0
  let r4 : Int := S.cong_Cong_by a r1
  let r5 : Int := S.cong_Cong_by b r1
  (All [S.cong_gcd_pre a.M b.M] ∧ ((b2 = true → True) ∧ (b2 = false → (All [S.cong_Cong_by_pre a r1, S.cong_Cong_by_pre b r1, S.cong_plus_pre r4 r5 r1] ∧ True))))
/-- math/bits.Mul64 -/
def S.math_bits_Mul64 (x : Int) (y : Int) : Int × Int :=
  let t1 : Int := bits .and .u64 x 4294967295
  let t2 : Int := Int.fdiv x (2 ^ min (Int.toNat 32) 64)
  let t3 : Int := bits .and .u64 y 4294967295
  let t4 : Int := Int.fdiv y (2 ^ min (Int.toNat 32) 64)
  let t5 : Int := IntKind.u64.wrap (t1 * t3)
  let t6 : Int := IntKind.u64.wrap (t2 * t3)
  let t7 : Int := Int.fdiv t5 (2 ^ min (Int.toNat 32) 64)
  let t8 : Int := IntKind.u64.wrap (t6 + t7)
  let t9 : Int := bits .and .u64 t8 4294967295
  let t10 : Int := Int.fdiv t8 (2 ^ min (Int.toNat 32) 64)
  let t11 : Int := IntKind.u64.wrap (t1 * t4)
  let t12 : Int := IntKind.u64.wrap (t9 + t11)
  let t13 : Int := IntKind.u64.wrap (t2 * t4)
  let t14 : Int := IntKind.u64.wrap (t13 + t10)
  let t15 : Int := Int.fdiv t12 (2 ^ min (Int.toNat 32) 64)
  let t16 : Int := IntKind.u64.wrap (t14 + t15)
  let t17 : Int := IntKind.u64.wrap (x * y)
  (t16, t17)
/-- cong.fits -/
def S.cong_fits (a : Int) (b : Int) : Int × Bool :=
  let r1 : Int × Int := S.math_bits_Mul64 a b
  let b2 : Bool := r1.1 == 0
  (r1.2, b2)
/-- math/bits.Len64 -/
def S.math_bits_Len64 (x : Int) : Int :=
  let b1 : Bool := decide (x ≥ 4294967296)
  let t2 : Int := Int.fdiv x (2 ^ min (Int.toNat 32) 64)
  let b3 : Bool := decide ((bif b1 then t2 else x) ≥ 65536)
  let t4 : Int := Int.fdiv (bif b1 then t2 else x) (2 ^ min (Int.toNat 16) 64)
  let t5 : Int := IntKind.i64.wrap ((bif b1 then 32 else 0) + 16)
  let b6 : Bool := decide ((bif b3 then t4 else (bif b1 then t2 else x)) ≥ 256)
  let t7 : Int := Int.fdiv (bif b3 then t4 else (bif b1 then t2 else x)) (2 ^ min (Int.toNat 8) 64)
  let t8 : Int := IntKind.i64.wrap ((bif b3 then t5 else (bif b1 then 32 else 0)) + 8)
  let t9 : Int := IntKind.u8.wrap (bif b6 then t7 else (bif b3 then t4 else (bif b1 then t2 else x)))
  let t10 : Int := (((⟨#[0, 1, 2, 2, 3, 3, 3, 3, 4, 4, 4, 4, 4, 4, 4, 4, 5, 5, 5, 5, 5, 5, 5, 5, 5, 5, 5, 5, 5, 5, 5, 5, 6, 6, 6, 6, 6, 6, 6, 6, 6, 6, 6, 6, 6, 6, 6, 6, 6, 6, 6, 6, 6, 6, 6, 6, 6, 6, 6, 6, 6, 6, 6, 6, 7, 7, 7, 7, 7, 7, 7, 7, 7, 7, 7, 7, 7, 7, 7, 7, 7, 7, 7, 7, 7, 7, 7, 7, 7, 7, 7, 7, 7, 7, 7, 7, 7, 7, 7, 7, 7, 7, 7, 7, 7, 7, 7, 7, 7, 7, 7, 7, 7, 7, 7, 7, 7, 7, 7, 7, 7, 7, 7, 7, 7, 7, 7, 7, 8, 8, 8, 8, 8, 8, 8, 8, 8, 8, 8, 8, 8, 8, 8, 8, 8, 8, 8, 8, 8, 8, 8, 8, 8, 8, 8, 8, 8, 8, 8, 8, 8, 8, 8, 8, 8, 8, 8, 8, 8, 8, 8, 8, 8, 8, 8, 8, 8, 8, 8, 8, 8, 8, 8, 8, 8, 8, 8, 8, 8, 8, 8, 8, 8, 8, 8, 8, 8, 8, 8, 8, 8, 8, 8, 8, 8, 8, 8, 8, 8, 8, 8, 8, 8, 8, 8, 8, 8, 8, 8, 8, 8, 8, 8, 8, 8, 8, 8, 8, 8, 8, 8, 8, 8, 8, 8, 8, 8, 8, 8, 8, 8, 8, 8, 8, 8, 8, 8, 8, 8, 8, 8, 8, 8, 8, 8, 8]⟩ : ByteArray).data.toList.getD (Int.toNat t9) 0).toNat : Int)
  let t11 : Int := IntKind.i64.wrap t10
  let t12 : Int := IntKind.i64.wrap ((bif b6 then t8 else (bif b3 then t5 else (bif b1 then 32 else 0))) + t11)
  t12
def S.math_bits_Len64_pre (x : Int) : Prop :=
  let b1 : Bool := decide (x ≥ 4294967296)
  let t2 : Int := Int.fdiv x (2 ^ min (Int.toNat 32) 64)
  let b3 : Bool := decide ((bif b1 then t2 else x) ≥ 65536)
  let t4 : Int := Int.fdiv (bif b1 then t2 else x) (2 ^ min (Int.toNat 16) 64)
  let b6 : Bool := decide ((bif b3 then t4 else (bif b1 then t2 else x)) ≥ 256)
  let t7 : Int := Int.fdiv (bif b3 then t4 else (bif b1 then t2 else x)) (2 ^ min (Int.toNat 8) 64)
  let t9 : Int := IntKind.u8.wrap (bif b6 then t7 else (bif b3 then t4 else (bif b1 then t2 else x)))
  (All [(0 : Int) ≤ t9, t9 < ((⟨#[0, 1, 2, 2, 3, 3, 3, 3, 4, 4, 4, 4, 4, 4, 4, 4, 5, 5, 5, 5, 5, 5, 5, 5, 5, 5, 5, 5, 5, 5, 5, 5, 6, 6, 6, 6, 6, 6, 6, 6, 6, 6, 6, 6, 6, 6, 6, 6, 6, 6, 6, 6, 6, 6, 6, 6, 6, 6, 6, 6, 6, 6, 6, 6, 7, 7, 7, 7, 7, 7, 7, 7, 7, 7, 7, 7, 7, 7, 7, 7, 7, 7, 7, 7, 7, 7, 7, 7, 7, 7, 7, 7, 7, 7, 7, 7, 7, 7, 7, 7, 7, 7, 7, 7, 7, 7, 7, 7, 7, 7, 7, 7, 7, 7, 7, 7, 7, 7, 7, 7, 7, 7, 7, 7, 7, 7, 7, 7, 8, 8, 8, 8, 8, 8, 8, 8, 8, 8, 8, 8, 8, 8, 8, 8, 8, 8, 8, 8, 8, 8, 8, 8, 8, 8, 8, 8, 8, 8, 8, 8, 8, 8, 8, 8, 8, 8, 8, 8, 8, 8, 8, 8, 8, 8, 8, 8, 8, 8, 8, 8, 8, 8, 8, 8, 8, 8, 8, 8, 8, 8, 8, 8, 8, 8, 8, 8, 8, 8, 8, 8, 8, 8, 8, 8, 8, 8, 8, 8, 8, 8, 8, 8, 8, 8, 8, 8, 8, 8, 8, 8, 8, 8, 8, 8, 8, 8, 8, 8, 8, 8, 8, 8, 8, 8, 8, 8, 8, 8, 8, 8, 8, 8, 8, 8, 8, 8, 8, 8, 8, 8, 8, 8, 8, 8, 8, 8]⟩ : ByteArray).size : Int)] ∧ True)
/-- math/bits.LeadingZeros64 -/
def S.math_bits_LeadingZeros64 (x : Int) : Int :=
  let r1 : Int := S.math_bits_Len64 x
  let t2 : Int := IntKind.i64.wrap (64 - r1)
  t2
def S.math_bits_LeadingZeros64_pre (x : Int) : Prop :=
  (All [S.math_bits_Len64_pre x] ∧ True)
@[ext] structure S.math_bits_Div64_L0 where
  yn1 : Int
  yn0 : Int
  un1 : Int
  q1 : Int
  rhat : Int
def S.math_bits_Div64_L0_step (x : S.math_bits_Div64_L0) : S.math_bits_Div64_L0 ⊕ (S.math_bits_Div64_L0) :=
  let b1 : Bool := decide (x.q1 ≥ 4294967296)
  let t2 : Int := IntKind.u64.wrap (x.q1 * x.yn0)
  let t3 : Int := IntKind.u64.wrap (4294967296 * x.rhat)
  let t4 : Int := IntKind.u64.wrap (t3 + x.un1)
  let b5 : Bool := decide (t2 > t4)
  let p6 : Bool := (b1 || b5)
  let t7 : Int := IntKind.u64.wrap (x.q1 - 1)
  let t8 : Int := IntKind.u64.wrap (x.rhat + x.yn1)
  let b9 : Bool := decide (t8 ≥ 4294967296)
  (bif p6 then (bif b9 then (.inr ⟨x.yn1, x.yn0, x.un1, t7, t8⟩) else (.inl ⟨x.yn1, x.yn0, x.un1, t7, t8⟩)) else (.inr ⟨x.yn1, x.yn0, x.un1, x.q1, x.rhat⟩))
def S.math_bits_Div64_L0_vcs (x : S.math_bits_Div64_L0) : Prop :=
  let b1 : Bool := decide (x.q1 ≥ 4294967296)
  let t2 : Int := IntKind.u64.wrap (x.q1 * x.yn0)
  let t3 : Int := IntKind.u64.wrap (4294967296 * x.rhat)
  let t4 : Int := IntKind.u64.wrap (t3 + x.un1)
  let b5 : Bool := decide (t2 > t4)
  let p6 : Bool := (b1 || b5)
  let t8 : Int := IntKind.u64.wrap (x.rhat + x.yn1)
  let b9 : Bool := decide (t8 ≥ 4294967296)
  ((p6 = true → ((b9 = true → True) ∧ (b9 = false → True))) ∧ (p6 = false → True))
noncomputable def S.math_bits_Div64_L0_run (x : S.math_bits_Div64_L0) : S.math_bits_Div64_L0 := theRun (fun x => x) S.math_bits_Div64_L0_step S.math_bits_Div64_L0_vcs x
@[ext] structure S.math_bits_Div64_L2 where
  yn1 : Int
  yn0 : Int
  un0 : Int
  rhat : Int
  q0 : Int
def S.math_bits_Div64_L2_step (x : S.math_bits_Div64_L2) : S.math_bits_Div64_L2 ⊕ (S.math_bits_Div64_L2) :=
  let b1 : Bool := decide (x.q0 ≥ 4294967296)
  let t2 : Int := IntKind.u64.wrap (x.q0 * x.yn0)
  let t3 : Int := IntKind.u64.wrap (4294967296 * x.rhat)
  let t4 : Int := IntKind.u64.wrap (t3 + x.un0)
  let b5 : Bool := decide (t2 > t4)
  let p6 : Bool := (b1 || b5)
  let t7 : Int := IntKind.u64.wrap (x.q0 - 1)
  let t8 : Int := IntKind.u64.wrap (x.rhat + x.yn1)
  let b9 : Bool := decide (t8 ≥ 4294967296)
  (bif p6 then (bif b9 then (.inr ⟨x.yn1, x.yn0, x.un0, t8, t7⟩) else (.inl ⟨x.yn1, x.yn0, x.un0, t8, t7⟩)) else (.inr ⟨x.yn1, x.yn0, x.un0, x.rhat, x.q0⟩))
def S.math_bits_Div64_L2_vcs (x : S.math_bits_Div64_L2) : Prop :=
  let b1 : Bool := decide (x.q0 ≥ 4294967296)
  let t2 : Int := IntKind.u64.wrap (x.q0 * x.yn0)
  let t3 : Int := IntKind.u64.wrap (4294967296 * x.rhat)
  let t4 : Int := IntKind.u64.wrap (t3 + x.un0)
  let b5 : Bool := decide (t2 > t4)
  let p6 : Bool := (b1 || b5)
  let t8 : Int := IntKind.u64.wrap (x.rhat + x.yn1)
  let b9 : Bool := decide (t8 ≥ 4294967296)
  ((p6 = true → ((b9 = true → True) ∧ (b9 = false → True))) ∧ (p6 = false → True))
noncomputable def S.math_bits_Div64_L2_run (x : S.math_bits_Div64_L2) : S.math_bits_Div64_L2 := theRun (fun x => x) S.math_bits_Div64_L2_step S.math_bits_Div64_L2_vcs x
/-- math/bits.Div64 -/
noncomputable def S.math_bits_Div64 (hi : Int) (lo : Int) (y : Int) : Int × Int :=
  let b3 : Bool := hi == 0
  let t4 : Int := IntKind.u64.wrap (Int.tdiv lo y)
  let t5 : Int := Int.tmod lo y
  let r6 : Int := S.math_bits_LeadingZeros64 y
  let t7 : Int := IntKind.u64.wrap r6
  let t8 : Int := IntKind.u64.wrap (y * 2 ^ min (Int.toNat t7) 64)
  let t9 : Int := Int.fdiv t8 (2 ^ min (Int.toNat 32) 64)
  let t10 : Int := bits .and .u64 t8 4294967295
  let t11 : Int := IntKind.u64.wrap (hi * 2 ^ min (Int.toNat t7) 64)
  let t12 : Int := IntKind.u64.wrap (64 - t7)
  let t13 : Int := Int.fdiv lo (2 ^ min (Int.toNat t12) 64)
  let t14 : Int := bits .or .u64 t11 t13
  let t15 : Int := IntKind.u64.wrap (lo * 2 ^ min (Int.toNat t7) 64)
  let t16 : Int := Int.fdiv t15 (2 ^ min (Int.toNat 32) 64)
  let t17 : Int := bits .and .u64 t15 4294967295
  let t18 : Int := IntKind.u64.wrap (Int.tdiv t14 t9)
  let t19 : Int := IntKind.u64.wrap (t18 * t9)
  let t20 : Int := IntKind.u64.wrap (t14 - t19)
  let x21 : S.math_bits_Div64_L0 := (⟨t9, t10, t16, t18, t20⟩ : S.math_bits_Div64_L0)
  let y22 : S.math_bits_Div64_L0 := S.math_bits_Div64_L0_run x21
  let t23 : Int := IntKind.u64.wrap (t14 * 4294967296)
  let t24 : Int := IntKind.u64.wrap (t23 + y22.un1)
  let t25 : Int := IntKind.u64.wrap (y22.q1 * t8)
  let t26 : Int := IntKind.u64.wrap (t24 - t25)
  let t27 : Int := IntKind.u64.wrap (Int.tdiv t26 y22.yn1)
  let t28 : Int := IntKind.u64.wrap (t27 * y22.yn1)
  let t29 : Int := IntKind.u64.wrap (t26 - t28)
  let x30 : S.math_bits_Div64_L2 := (⟨y22.yn1, y22.yn0, t17, t29, t27⟩ : S.math_bits_Div64_L2)
  let y31 : S.math_bits_Div64_L2 := S.math_bits_Div64_L2_run x30
  let t32 : Int := IntKind.u64.wrap (y22.q1 * 4294967296)
  let t33 : Int := IntKind.u64.wrap (t32 + y31.q0)
  let t34 : Int := IntKind.u64.wrap (t26 * 4294967296)
  let t35 : Int := IntKind.u64.wrap (t34 + y31.un0)
  let t36 : Int := IntKind.u64.wrap (y31.q0 * t8)
  let t37 : Int := IntKind.u64.wrap (t35 - t36)
  let t38 : Int := Int.fdiv t37 (2 ^ min (Int.toNat t7) 64)
  (bif b3 then (t4, t5) else (t33, t38))
def S.math_bits_Div64_pre (hi : Int) (lo : Int) (y : Int) : Prop :=
  let b1 : Bool := y == 0
  let b2 : Bool := decide (y ≤ hi)
  let b3 : Bool := hi == 0
  let r6 : Int := S.math_bits_LeadingZeros64 y
  let t7 : Int := IntKind.u64.wrap r6
  let t8 : Int := IntKind.u64.wrap (y * 2 ^ min (Int.toNat t7) 64)
  let t9 : Int := Int.fdiv t8 (2 ^ min (Int.toNat 32) 64)
  let t10 : Int := bits .and .u64 t8 4294967295
  let t11 : Int := IntKind.u64.wrap (hi * 2 ^ min (Int.toNat t7) 64)
  let t12 : Int := IntKind.u64.wrap (64 - t7)
  let t13 : Int := Int.fdiv lo (2 ^ min (Int.toNat t12) 64)
  let t14 : Int := bits .or .u64 t11 t13
  let t15 : Int := IntKind.u64.wrap (lo * 2 ^ min (Int.toNat t7) 64)
  let t16 : Int := Int.fdiv t15 (2 ^ min (Int.toNat 32) 64)
  let t17 : Int := bits .and .u64 t15 4294967295
  let t18 : Int := IntKind.u64.wrap (Int.tdiv t14 t9)
  let t19 : Int := IntKind.u64.wrap (t18 * t9)
  let t20 : Int := IntKind.u64.wrap (t14 - t19)
  let x21 : S.math_bits_Div64_L0 := (⟨t9, t10, t16, t18, t20⟩ : S.math_bits_Div64_L0)
  let y22 : S.math_bits_Div64_L0 := S.math_bits_Div64_L0_run x21
  let t23 : Int := IntKind.u64.wrap (t14 * 4294967296)
  let t24 : Int := IntKind.u64.wrap (t23 + y22.un1)
  let t25 : Int := IntKind.u64.wrap (y22.q1 * t8)
  let t26 : Int := IntKind.u64.wrap (t24 - t25)
  let t27 : Int := IntKind.u64.wrap (Int.tdiv t26 y22.yn1)
  let t28 : Int := IntKind.u64.wrap (t27 * y22.yn1)
  let t29 : Int := IntKind.u64.wrap (t26 - t28)
  let x30 : S.math_bits_Div64_L2 := (⟨y22.yn1, y22.yn0, t17, t29, t27⟩ : S.math_bits_Div64_L2)
  ((b1 = true → False) ∧ (b1 = false → ((b2 = true → False) ∧ (b2 = false → ((b3 = true → (All [y ≠ 0, y ≠ 0] ∧ True)) ∧ (b3 = false → (All [S.math_bits_LeadingZeros64_pre y, (0 : Int) ≤ t7, (0 : Int) ≤ t7, (0 : Int) ≤ t12, (0 : Int) ≤ t7, t9 ≠ 0, Runs S.math_bits_Div64_L0_step S.math_bits_Div64_L0_vcs x21 (S.math_bits_Div64_L0_run x21), y22.yn1 ≠ 0, Runs S.math_bits_Div64_L2_step S.math_bits_Div64_L2_vcs x30 (S.math_bits_Div64_L2_run x30), (0 : Int) ≤ t7] ∧ True)))))))
/-- math/bits.Rem64 -/
noncomputable def S.math_bits_Rem64 (hi : Int) (lo : Int) (y : Int) : Int :=
  let t1 : Int := Int.tmod hi y
  let r2 : Int × Int := S.math_bits_Div64 t1 lo y
  r2.2
def S.math_bits_Rem64_pre (hi : Int) (lo : Int) (y : Int) : Prop :=
  let t1 : Int := Int.tmod hi y
  (All [y ≠ 0, S.math_bits_Div64_pre t1 lo y] ∧ True)
/-- cong.times -/
noncomputable def S.cong_times (a : Int) (b : Int) (m : Int) : Int :=
  let r1 : Int × Int := S.math_bits_Mul64 a b
  let r2 : Int := S.math_bits_Rem64 r1.1 r1.2 m
  r2
def S.cong_times_pre (a : Int) (b : Int) (m : Int) : Prop :=
  let r1 : Int × Int := S.math_bits_Mul64 a b
  (All [S.math_bits_Rem64_pre r1.1 r1.2 m] ∧ True)
/-- (cong.Cong).scaled -/
noncomputable def S.cong_Cong_scaled (c : S.Cong) (n : Int) : S.Cong :=
  let b1 : Bool := n == 0
  let t2 : Int := IntKind.u64.wrap n
  let b3 : Bool := decide (n < 0)
  let t4 : Int := IntKind.u64.wrap (0 - t2)
  let r5 : Int × Bool := S.cong_fits c.M (bif b3 then t4 else t2)
  let b6 : Bool := !r5.2
  let r7 : Int := S.cong_rest n (bif b6 then c.M else r5.1)
  let t8 : Int := Int.tmod c.R (bif b6 then c.M else r5.1)
  let r9 : Int := S.cong_times r7 t8 (bif b6 then c.M else r5.1)
  (bif b1 then (⟨0, 0⟩ : S.Cong) else (⟨(bif b6 then c.M else r5.1), r9⟩ : S.Cong))
def S.cong_Cong_scaled_pre (c : S.Cong) (n : Int) : Prop :=
  let b1 : Bool := n == 0
  let t2 : Int := IntKind.u64.wrap n
  let b3 : Bool := decide (n < 0)
  let t4 : Int := IntKind.u64.wrap (0 - t2)
  let r5 : Int × Bool := S.cong_fits c.M (bif b3 then t4 else t2)
  let b6 : Bool := !r5.2
  let r7 : Int := S.cong_rest n (bif b6 then c.M else r5.1)
  let t8 : Int := Int.tmod c.R (bif b6 then c.M else r5.1)
  ((b1 = true → True) ∧ (b1 = false → (All [S.cong_rest_pre n (bif b6 then c.M else r5.1), (bif b6 then c.M else r5.1) ≠ 0, S.cong_times_pre r7 t8 (bif b6 then c.M else r5.1)] ∧ True)))
/-- cong.Mul -/
noncomputable def S.cong_Mul (a : S.Cong) (b : S.Cong) : S.Cong :=
  let r1 : Bool := S.cong_Cong_single a
  let r2 : Bool := S.cong_Cong_single b
  let p3 : Bool := (r1 && r2)
  let t4 : Int := IntKind.u64.wrap (a.R * b.R)
  let r5 : Bool := S.cong_Cong_single a
  let r6 : Int := S.cong_Cong_number a
  let r7 : S.Cong := S.cong_Cong_scaled b r6
  let r8 : Bool := S.cong_Cong_single b
  let r9 : Int := S.cong_Cong_number b
  let r10 : S.Cong := S.cong_Cong_scaled a r9
  let r11 : Int := S.cong_gcd a.M b.M
  let r12 : Int := S.cong_gcd a.M a.R
  let r13 : Int := S.cong_gcd b.M b.R
  let r14 : Int × Bool := S.cong_fits r12 r13
  let b15 : Bool := decide (r14.1 > r11)
  let p16 : Bool := (r14.2 && b15)
  let r17 : Int := S.cong_Cong_by a r11
  let r18 : Int := S.cong_Cong_by b r11
  let r19 : Int := S.cong_times r17 r18 r11
  (bif p3 then (⟨0, t4⟩ : S.Cong) else (bif r5 then r7 else (bif r8 then r10 else (bif p16 then (⟨r14.1, 0⟩ : S.Cong) else (⟨r11, r19⟩ : S.Cong)))))
def S.cong_Mul_pre (a : S.Cong) (b : S.Cong) : Prop :=
  let r1 : Bool := S.cong_Cong_single a
  let r2 : Bool := S.cong_Cong_single b
  let p3 : Bool := (r1 && r2)
  let r5 : Bool := S.cong_Cong_single a
  let r6 : Int := S.cong_Cong_number a
  let r8 : Bool := S.cong_Cong_single b
  let r9 : Int := S.cong_Cong_number b
  let r11 : Int := S.cong_gcd a.M b.M
  let r12 : Int := S.cong_gcd a.M a.R
  let r13 : Int := S.cong_gcd b.M b.R
  let r14 : Int × Bool := S.cong_fits r12 r13
  let b15 : Bool := decide (r14.1 > r11)
  let p16 : Bool := (r14.2 && b15)
  let r17 : Int := S.cong_Cong_by a r11
  let r18 : Int := S.cong_Cong_by b r11
  ((p3 = true → True) ∧ (p3 = false → ((r5 = true → (All [S.cong_Cong_scaled_pre b r6] ∧ True)) ∧ (r5 = false → ((r8 = true → (All [S.cong_Cong_scaled_pre a r9] ∧ True)) ∧ (r8 = false → (All [S.cong_gcd_pre a.M b.M, S.cong_gcd_pre a.M a.R, S.cong_gcd_pre b.M b.R] ∧ ((p16 = true → True) ∧ (p16 = false → (All [S.cong_Cong_by_pre a r11, S.cong_Cong_by_pre b r11, S.cong_times_pre r17 r18 r11] ∧ True))))))))))
/-- (cong.Cong).Wrapped -/
def S.cong_Cong_Wrapped (c : S.Cong) : S.Cong :=
  let r1 : Bool := S.cong_Cong_single c
  let t2 : Int := IntKind.u64.wrap (0 - c.M)
  let t3 : Int := bits .and .u64 c.M t2
  let t4 : Int := Int.tmod c.R t3
  (bif r1 then c else (⟨t3, t4⟩ : S.Cong))
def S.cong_Cong_Wrapped_pre (c : S.Cong) : Prop :=
  let r1 : Bool := S.cong_Cong_single c
  let t2 : Int := IntKind.u64.wrap (0 - c.M)
  let t3 : Int := bits .and .u64 c.M t2
  ((r1 = true → True) ∧ (r1 = false → (All [t3 ≠ 0] ∧ True)))
/-- sieveholeslaw20.works -/
noncomputable def S.law20_works : Bool :=
  let r1 : S.Cong := S.cong_Const 3
  let r2 : S.Cong := S.cong_Const 11
  let r3 : S.Cong := S.cong_Join r1 r2
  let r4 : S.Cong := S.cong_Make 4 1
  let r5 : S.Cong := S.cong_Make 8 3
  let r6 : S.Cong × Bool := S.cong_Meet r4 r5
  let r7 : S.Cong := S.cong_Make 2 1
  let r8 : S.Cong := S.cong_Make 6 3
  let r9 : S.Cong × Bool := S.cong_Meet r7 r8
  let r10 : S.Cong := S.cong_Make 12 1
  let r11 : Int × Bool := S.cong_Cong_Least r10 (-5)
  let b12 : Bool := ((r3.M == 8) && (r3.R == 3))
  let r13 : S.Cong := S.cong_Const 4
  let r14 : S.Cong := S.cong_Join r3 r13
  let r15 : S.Cong := S.cong_Top
  let b16 : Bool := ((r14.M == r15.M) && (r14.R == r15.R))
  let p17 : Bool := (b12 && b16)
  let r18 : S.Cong := S.cong_Make 4 1
  let r19 : S.Cong := S.cong_Make 6 3
  let r20 : S.Cong := S.cong_Add r18 r19
  let b21 : Bool := ((r20.M == 2) && (r20.R == 0))
  let p22 : Bool := (p17 && b21)
  let r23 : S.Cong := S.cong_Const (-2)
  let r24 : S.Cong := S.cong_Make 4 1
  let r25 : S.Cong := S.cong_Mul r23 r24
  let b26 : Bool := ((r25.M == 8) && (r25.R == 6))
  let p27 : Bool := (p22 && b26)
  let r28 : S.Cong := S.cong_Make 4 0
  let r29 : S.Cong := S.cong_Make 6 0
  let r30 : S.Cong := S.cong_Mul r28 r29
  let b31 : Bool := ((r30.M == 24) && (r30.R == 0))
  let p32 : Bool := (p27 && b31)
  let b33 : Bool := !r6.2
  let p34 : Bool := (p32 && b33)
  let p35 : Bool := (p34 && r9.2)
  let b36 : Bool := ((r9.1.M == 6) && (r9.1.R == 3))
  let p37 : Bool := (p35 && b36)
  let r38 : S.Cong := S.cong_Cong_Wrapped r10
  let b39 : Bool := ((r38.M == 4) && (r38.R == 1))
  let p40 : Bool := (p37 && b39)
  let b41 : Bool := r11.1 == 1
  let p42 : Bool := (p40 && b41)
  let p43 : Bool := (p42 && r11.2)
  p43
def S.law20_works_pre : Prop :=
  let r1 : S.Cong := S.cong_Const 3
  let r2 : S.Cong := S.cong_Const 11
  let r3 : S.Cong := S.cong_Join r1 r2
  let r4 : S.Cong := S.cong_Make 4 1
  let r5 : S.Cong := S.cong_Make 8 3
  let r6 : S.Cong × Bool := S.cong_Meet r4 r5
  let r7 : S.Cong := S.cong_Make 2 1
  let r8 : S.Cong := S.cong_Make 6 3
  let r9 : S.Cong × Bool := S.cong_Meet r7 r8
  let r10 : S.Cong := S.cong_Make 12 1
  let b12 : Bool := ((r3.M == 8) && (r3.R == 3))
  let r13 : S.Cong := S.cong_Const 4
  let r14 : S.Cong := S.cong_Join r3 r13
  let r15 : S.Cong := S.cong_Top
  let b16 : Bool := ((r14.M == r15.M) && (r14.R == r15.R))
  let p17 : Bool := (b12 && b16)
  let r18 : S.Cong := S.cong_Make 4 1
  let r19 : S.Cong := S.cong_Make 6 3
  let r20 : S.Cong := S.cong_Add r18 r19
  let b21 : Bool := ((r20.M == 2) && (r20.R == 0))
  let p22 : Bool := (p17 && b21)
  let r23 : S.Cong := S.cong_Const (-2)
  let r24 : S.Cong := S.cong_Make 4 1
  let r25 : S.Cong := S.cong_Mul r23 r24
  let b26 : Bool := ((r25.M == 8) && (r25.R == 6))
  let p27 : Bool := (p22 && b26)
  let r28 : S.Cong := S.cong_Make 4 0
  let r29 : S.Cong := S.cong_Make 6 0
  let r30 : S.Cong := S.cong_Mul r28 r29
  let b31 : Bool := ((r30.M == 24) && (r30.R == 0))
  let p32 : Bool := (p27 && b31)
  let b33 : Bool := !r6.2
  let p34 : Bool := (p32 && b33)
  let p35 : Bool := (p34 && r9.2)
  let b36 : Bool := ((r9.1.M == 6) && (r9.1.R == 3))
  let p37 : Bool := (p35 && b36)
  (All [S.cong_Join_pre r1 r2, S.cong_Make_pre 4 1, S.cong_Make_pre 8 3, S.cong_Meet_pre r4 r5, S.cong_Make_pre 2 1, S.cong_Make_pre 6 3, S.cong_Meet_pre r7 r8, S.cong_Make_pre 12 1, S.cong_Cong_Least_pre r10 (-5), (b12 = true → S.cong_Join_pre r3 r13), (p17 = true → S.cong_Make_pre 4 1), (p17 = true → S.cong_Make_pre 6 3), (p17 = true → S.cong_Add_pre r18 r19), (p22 = true → S.cong_Make_pre 4 1), (p22 = true → S.cong_Mul_pre r23 r24), (p27 = true → S.cong_Make_pre 4 0), (p27 = true → S.cong_Make_pre 6 0), (p27 = true → S.cong_Mul_pre r28 r29), (p37 = true → S.cong_Cong_Wrapped_pre r10)] ∧ True)
/-- sieveholesref20.Has -/
def S.ref20_Has (c : S.Cong) (n : Int) : Bool :=
  let b1 : Bool := c.M == 0
  let t2 : Int := IntKind.u64.wrap n
  let b3 : Bool := t2 == c.R
  let r4 : Int := S.ref20_Rest n c.M
  let b5 : Bool := r4 == c.R
  (bif b1 then b3 else b5)
def S.ref20_Has_pre (c : S.Cong) (n : Int) : Prop :=
  let b1 : Bool := c.M == 0
  ((b1 = true → True) ∧ (b1 = false → (All [S.ref20_Rest_pre n c.M] ∧ True)))
/-- sieveholesref20.Of -/
def S.ref20_Of (c : S.Cong) (g : Int) : Int :=
  let b1 : Bool := c.M == 0
  let t2 : Int := IntKind.i64.wrap c.R
  let r3 : Int := S.ref20_Rest t2 g
  let t4 : Int := Int.tmod c.R g
  (bif b1 then r3 else t4)
def S.ref20_Of_pre (c : S.Cong) (g : Int) : Prop :=
  let b1 : Bool := c.M == 0
  let t2 : Int := IntKind.i64.wrap c.R
  ((b1 = true → (All [S.ref20_Rest_pre t2 g] ∧ True)) ∧ (b1 = false → (All [g ≠ 0] ∧ True)))
/-- sieveholesref20.Within -/
def S.ref20_Within (a : S.Cong) (b : S.Cong) : Bool :=
  let b1 : Bool := b.M == 0
  let b2 : Bool := ((a.M == b.M) && (a.R == b.R))
  let t3 : Int := Int.tmod a.M b.M
  let b4 : Bool := t3 == 0
  let r5 : Int := S.ref20_Of a b.M
  let b6 : Bool := r5 == b.R
  let p7 : Bool := (b4 && b6)
  (bif b1 then b2 else p7)
def S.ref20_Within_pre (a : S.Cong) (b : S.Cong) : Prop :=
  let b1 : Bool := b.M == 0
  let t3 : Int := Int.tmod a.M b.M
  let b4 : Bool := t3 == 0
  ((b1 = true → True) ∧ (b1 = false → (All [b.M ≠ 0, (b4 = true → S.ref20_Of_pre a b.M)] ∧ True)))
/-- sieveholeslaw20.CongMakes -/
noncomputable def S.law20_CongMakes (m : Int) (n : Int) (a : S.Cong) (b : S.Cong) : Bool :=
  let r1 : S.Cong := S.cong_Top
  let b2 : Bool := !((r1.M == 1) && (r1.R == 0))
  let r3 : S.Cong := S.cong_Const n
  let r4 : S.Cong := S.law20_ref r3
  let r5 : S.Cong := S.ref20_Make 0 n
  let b6 : Bool := !((r4.M == r5.M) && (r4.R == r5.R))
  let p7 : Bool := (b2 || b6)
  let r8 : S.Cong := S.cong_Make m n
  let r9 : S.Cong := S.law20_ref r8
  let r10 : S.Cong := S.ref20_Make m n
  let b11 : Bool := !((r9.M == r10.M) && (r9.R == r10.R))
  let p12 : Bool := (p7 || b11)
  let r13 : Bool := S.cong_Cong_Right a
  let r14 : S.Cong := S.law20_ref a
  let r15 : Bool := S.ref20_Right r14
  let b16 : Bool := !(r13 == r15)
  let p17 : Bool := (p12 || b16)
  let r18 : S.Cong := S.law20_ref a
  let r19 : Bool := S.ref20_Right r18
  let b20 : Bool := !r19
  let r21 : S.Cong := S.law20_ref b
  let r22 : Bool := S.ref20_Right r21
  let b23 : Bool := !r22
  let p24 : Bool := (b20 || b23)
  let r25 : Bool := S.law20_works
  let r26 : Bool := S.cong_Cong_Has a n
  let r27 : S.Cong := S.law20_ref a
  let r28 : Bool := S.ref20_Has r27 n
  let b29 : Bool := r26 == r28
  let r30 : Bool := S.cong_Within a b
  let r31 : S.Cong := S.law20_ref a
  let r32 : S.Cong := S.law20_ref b
  let r33 : Bool := S.ref20_Within r31 r32
  let b34 : Bool := r30 == r33
  let p35 : Bool := (b29 && b34)
  let r36 : Bool := S.cong_Within a a
  let p37 : Bool := (p35 && r36)
  let r38 : S.Cong := S.cong_Top
  let r39 : Bool := S.cong_Within a r38
  let p40 : Bool := (p37 && r39)
  let r41 : Bool := S.law20_works
  let p42 : Bool := (p40 && r41)
  (bif p17 then false else (bif p24 then r25 else p42))
def S.law20_CongMakes_pre (m : Int) (n : Int) (a : S.Cong) (b : S.Cong) : Prop :=
  let r1 : S.Cong := S.cong_Top
  let b2 : Bool := !((r1.M == 1) && (r1.R == 0))
  let r3 : S.Cong := S.cong_Const n
  let r4 : S.Cong := S.law20_ref r3
  let r5 : S.Cong := S.ref20_Make 0 n
  let b6 : Bool := !((r4.M == r5.M) && (r4.R == r5.R))
  let p7 : Bool := (b2 || b6)
  let r8 : S.Cong := S.cong_Make m n
  let r9 : S.Cong := S.law20_ref r8
  let r10 : S.Cong := S.ref20_Make m n
  let b11 : Bool := !((r9.M == r10.M) && (r9.R == r10.R))
  let p12 : Bool := (p7 || b11)
  let r13 : Bool := S.cong_Cong_Right a
  let r14 : S.Cong := S.law20_ref a
  let r15 : Bool := S.ref20_Right r14
  let b16 : Bool := !(r13 == r15)
  let p17 : Bool := (p12 || b16)
  let r18 : S.Cong := S.law20_ref a
  let r19 : Bool := S.ref20_Right r18
  let b20 : Bool := !r19
  let r21 : S.Cong := S.law20_ref b
  let r22 : Bool := S.ref20_Right r21
  let b23 : Bool := !r22
  let p24 : Bool := (b20 || b23)
  let r26 : Bool := S.cong_Cong_Has a n
  let r27 : S.Cong := S.law20_ref a
  let r28 : Bool := S.ref20_Has r27 n
  let b29 : Bool := r26 == r28
  let r30 : Bool := S.cong_Within a b
  let r31 : S.Cong := S.law20_ref a
  let r32 : S.Cong := S.law20_ref b
  let r33 : Bool := S.ref20_Within r31 r32
  let b34 : Bool := r30 == r33
  let p35 : Bool := (b29 && b34)
  let r36 : Bool := S.cong_Within a a
  let p37 : Bool := (p35 && r36)
  let r38 : S.Cong := S.cong_Top
  let r39 : Bool := S.cong_Within a r38
  let p40 : Bool := (p37 && r39)
  (All [(b2 = false → S.ref20_Make_pre 0 n), (p7 = false → S.cong_Make_pre m n), (p7 = false → S.ref20_Make_pre m n)] ∧ ((p17 = true → True) ∧ (p17 = false → ((p24 = true → (All [S.law20_works_pre] ∧ True)) ∧ (p24 = false → (All [S.cong_Cong_Has_pre a n, S.ref20_Has_pre r27 n, (b29 = true → S.cong_Within_pre a b), (b29 = true → S.ref20_Within_pre r31 r32), (p35 = true → S.cong_Within_pre a a), (p37 = true → S.cong_Within_pre a r38), (p40 = true → S.law20_works_pre)] ∧ True))))))
/-- sieveholesref20.Gcd -/
def S.ref20_Gcd_F : Nat → Int → Int → Int
  | 0, _, _ => 0
  | n + 1, a, b =>
  let b1 : Bool := b == 0
  let t2 : Int := Int.tmod a b
  let r3 : Int := S.ref20_Gcd_F n b t2
  (bif b1 then a else r3)
def S.ref20_Gcd_D : Nat → Int → Int → Prop
  | 0, _, _ => False
  | n + 1, a, b =>
  let b1 : Bool := b == 0
  let t2 : Int := Int.tmod a b
  ((b1 = true → True) ∧ (b1 = false → (All [b ≠ 0, S.ref20_Gcd_D n b t2] ∧ True)))
noncomputable def S.ref20_Gcd (a : Int) (b : Int) : Int := S.ref20_Gcd_F (Classical.epsilon fun n => S.ref20_Gcd_D n a b) a b
def S.ref20_Gcd_pre (a : Int) (b : Int) : Prop := ∃ n, S.ref20_Gcd_D n a b
/-- sieveholesref20.Meet -/
noncomputable def S.ref20_Meet (a : S.Cong) (b : S.Cong) : S.Cong × Bool :=
  let b1 : Bool := a.M == 0
  let b2 : Bool := b.M == 0
  let p3 : Bool := (b1 || b2)
  let b4 : Bool := decide (a.M > 0)
  let t5 : Int := IntKind.i64.wrap (bif b4 then b.R else a.R)
  let r6 : Bool := S.ref20_Has (⟨(bif b4 then a.M else b.M), (bif b4 then a.R else b.R)⟩ : S.Cong) t5
  let b7 : Bool := !r6
  let r8 : Int := S.ref20_Gcd a.M b.M
  let r9 : Int := S.ref20_Of a r8
  let r10 : Int := S.ref20_Of b r8
  let b11 : Bool := r9 != r10
  let r12 : Bool := S.ref20_Within a b
  let b13 : Bool := !r12
  let r14 : Bool := S.ref20_Within b a
  let b15 : Bool := decide (b.M > a.M)
  let p16 : Bool := (r14 || b15)
  let p17 : Bool := (b13 && p16)
  (bif p3 then (bif b7 then ((⟨0, 0⟩ : S.Cong), false) else ((⟨(bif b4 then b.M else a.M), (bif b4 then b.R else a.R)⟩ : S.Cong), true)) else (bif b11 then ((⟨0, 0⟩ : S.Cong), false) else (bif p17 then (b, true) else (a, true))))
def S.ref20_Meet_pre (a : S.Cong) (b : S.Cong) : Prop :=
  let b1 : Bool := a.M == 0
  let b2 : Bool := b.M == 0
  let p3 : Bool := (b1 || b2)
  let b4 : Bool := decide (a.M > 0)
  let t5 : Int := IntKind.i64.wrap (bif b4 then b.R else a.R)
  let r6 : Bool := S.ref20_Has (⟨(bif b4 then a.M else b.M), (bif b4 then a.R else b.R)⟩ : S.Cong) t5
  let b7 : Bool := !r6
  let r8 : Int := S.ref20_Gcd a.M b.M
  let r9 : Int := S.ref20_Of a r8
  let r10 : Int := S.ref20_Of b r8
  let b11 : Bool := r9 != r10
  let r12 : Bool := S.ref20_Within a b
  let b13 : Bool := !r12
  let r14 : Bool := S.ref20_Within b a
  let b15 : Bool := decide (b.M > a.M)
  let p16 : Bool := (r14 || b15)
  let p17 : Bool := (b13 && p16)
  ((p3 = true → (All [S.ref20_Has_pre (⟨(bif b4 then a.M else b.M), (bif b4 then a.R else b.R)⟩ : S.Cong) t5] ∧ ((b7 = true → True) ∧ (b7 = false → True)))) ∧ (p3 = false → (All [S.ref20_Gcd_pre a.M b.M, S.ref20_Of_pre a r8, S.ref20_Of_pre b r8] ∧ ((b11 = true → True) ∧ (b11 = false → (All [S.ref20_Within_pre a b, (b13 = true → S.ref20_Within_pre b a)] ∧ ((p17 = true → True) ∧ (p17 = false → True))))))))
/-- cong.Sub -/
noncomputable def S.cong_Sub (a : S.Cong) (b : S.Cong) : S.Cong :=
  let r1 : Int := S.cong_gcd a.M b.M
  let b2 : Bool := r1 == 0
  let t3 : Int := IntKind.u64.wrap (a.R - b.R)
  let r4 : Int := S.cong_Cong_by a r1
  let r5 : Int := S.cong_Cong_by b r1
  let t6 : Int := IntKind.u64.wrap (r1 - r5)
  let t7 : Int := Int.tmod t6 r1
  let r8 : Int := S.cong_plus r4 t7 r1
  (bif b2 then (⟨0, t3⟩ : S.Cong) else (⟨r1, r8⟩ : S.Cong))
def S.cong_Sub_pre (a : S.Cong) (b : S.Cong) : Prop :=
  let r1 : Int := S.cong_gcd a.M b.M
  let b2 : Bool := r1 == 0
  let r4 : Int := S.cong_Cong_by a r1
  let r5 : Int := S.cong_Cong_by b r1
  let t6 : Int := IntKind.u64.wrap (r1 - r5)
  let t7 : Int := Int.tmod t6 r1
  (All [S.cong_gcd_pre a.M b.M] ∧ ((b2 = true → True) ∧ (b2 = false → (All [S.cong_Cong_by_pre a r1, S.cong_Cong_by_pre b r1, r1 ≠ 0, S.cong_plus_pre r4 t7 r1] ∧ True))))
/-- sieveholesref20.far -/
def S.ref20_far (a : Int) (b : Int) : Int :=
  let b1 : Bool := decide (a < b)
  let t2 : Int := IntKind.u64.wrap (b - a)
  let t3 : Int := IntKind.u64.wrap (a - b)
  (bif b1 then t2 else t3)
/-- sieveholesref20.Join -/
noncomputable def S.ref20_Join (a : S.Cong) (b : S.Cong) : S.Cong :=
  let b1 : Bool := ((a.M == b.M) && (a.R == b.R))
  let r2 : Int := S.ref20_Gcd a.M b.M
  let b3 : Bool := r2 == 0
  let t4 : Int := IntKind.i64.wrap a.R
  let t5 : Int := IntKind.i64.wrap b.R
  let m6 : Int := if t5 > t4 then t5 else t4
  let t7 : Int := IntKind.u64.wrap m6
  let m8 : Int := if t5 < t4 then t5 else t4
  let t9 : Int := IntKind.u64.wrap m8
  let t10 : Int := IntKind.u64.wrap (t7 - t9)
  let r11 : S.Cong := S.ref20_Make t10 t4
  let r12 : Int := S.ref20_Of a r2
  let r13 : Int := S.ref20_Of b r2
  let r14 : Int := S.ref20_far r12 r13
  let r15 : Int := S.ref20_Gcd r2 r14
  let r16 : Int := S.ref20_Of a r2
  let t17 : Int := Int.tmod r16 r15
  (bif b1 then a else (bif b3 then r11 else (⟨r15, t17⟩ : S.Cong)))
def S.ref20_Join_pre (a : S.Cong) (b : S.Cong) : Prop :=
  let b1 : Bool := ((a.M == b.M) && (a.R == b.R))
  let r2 : Int := S.ref20_Gcd a.M b.M
  let b3 : Bool := r2 == 0
  let t4 : Int := IntKind.i64.wrap a.R
  let t5 : Int := IntKind.i64.wrap b.R
  let m6 : Int := if t5 > t4 then t5 else t4
  let t7 : Int := IntKind.u64.wrap m6
  let m8 : Int := if t5 < t4 then t5 else t4
  let t9 : Int := IntKind.u64.wrap m8
  let t10 : Int := IntKind.u64.wrap (t7 - t9)
  let r12 : Int := S.ref20_Of a r2
  let r13 : Int := S.ref20_Of b r2
  let r14 : Int := S.ref20_far r12 r13
  let r15 : Int := S.ref20_Gcd r2 r14
  ((b1 = true → True) ∧ (b1 = false → (All [S.ref20_Gcd_pre a.M b.M] ∧ ((b3 = true → (All [S.ref20_Make_pre t10 t4] ∧ True)) ∧ (b3 = false → (All [S.ref20_Of_pre a r2, S.ref20_Of_pre b r2, S.ref20_Gcd_pre r2 r14, S.ref20_Of_pre a r2, r15 ≠ 0] ∧ True))))))
/-- sieveholesref20.plus -/
def S.ref20_plus (a : Int) (b : Int) (m : Int) : Int :=
  let t1 : Int := IntKind.u64.wrap (m - b)
  let b2 : Bool := decide (a ≥ t1)
  let t3 : Int := IntKind.u64.wrap (m - b)
  let t4 : Int := IntKind.u64.wrap (a - t3)
  let t5 : Int := IntKind.u64.wrap (a + b)
  (bif b2 then t4 else t5)
/-- sieveholesref20.Add -/
noncomputable def S.ref20_Add (a : S.Cong) (b : S.Cong) : S.Cong :=
  let r1 : Int := S.ref20_Gcd a.M b.M
  let b2 : Bool := r1 == 0
  let t3 : Int := IntKind.u64.wrap (a.R + b.R)
  let r4 : Int := S.ref20_Of a r1
  let r5 : Int := S.ref20_Of b r1
  let r6 : Int := S.ref20_plus r4 r5 r1
  (bif b2 then (⟨0, t3⟩ : S.Cong) else (⟨r1, r6⟩ : S.Cong))
def S.ref20_Add_pre (a : S.Cong) (b : S.Cong) : Prop :=
  let r1 : Int := S.ref20_Gcd a.M b.M
  let b2 : Bool := r1 == 0
  (All [S.ref20_Gcd_pre a.M b.M] ∧ ((b2 = true → True) ∧ (b2 = false → (All [S.ref20_Of_pre a r1, S.ref20_Of_pre b r1] ∧ True))))
/-- sieveholesref20.minus -/
def S.ref20_minus (a : Int) (b : Int) (m : Int) : Int :=
  let b1 : Bool := decide (a ≥ b)
  let t2 : Int := IntKind.u64.wrap (a - b)
  let t3 : Int := IntKind.u64.wrap (m - b)
  let t4 : Int := IntKind.u64.wrap (a + t3)
  (bif b1 then t2 else t4)
/-- sieveholesref20.Sub -/
noncomputable def S.ref20_Sub (a : S.Cong) (b : S.Cong) : S.Cong :=
  let r1 : Int := S.ref20_Gcd a.M b.M
  let b2 : Bool := r1 == 0
  let t3 : Int := IntKind.u64.wrap (a.R - b.R)
  let r4 : Int := S.ref20_Of a r1
  let r5 : Int := S.ref20_Of b r1
  let r6 : Int := S.ref20_minus r4 r5 r1
  (bif b2 then (⟨0, t3⟩ : S.Cong) else (⟨r1, r6⟩ : S.Cong))
def S.ref20_Sub_pre (a : S.Cong) (b : S.Cong) : Prop :=
  let r1 : Int := S.ref20_Gcd a.M b.M
  let b2 : Bool := r1 == 0
  (All [S.ref20_Gcd_pre a.M b.M] ∧ ((b2 = true → True) ∧ (b2 = false → (All [S.ref20_Of_pre a r1, S.ref20_Of_pre b r1] ∧ True))))
/-- sieveholesref20.fits -/
def S.ref20_fits (a : Int) (b : Int) : Int × Bool :=
  let b1 : Bool := decide (a > 0)
  let t2 : Int := IntKind.u64.wrap (Int.tdiv 18446744073709551615 a)
  let b3 : Bool := decide (b > t2)
  let p4 : Bool := (b1 && b3)
  let t5 : Int := IntKind.u64.wrap (a * b)
  (bif p4 then (0, false) else (t5, true))
def S.ref20_fits_pre (a : Int) (b : Int) : Prop :=
  let b1 : Bool := decide (a > 0)
  let t2 : Int := IntKind.u64.wrap (Int.tdiv 18446744073709551615 a)
  let b3 : Bool := decide (b > t2)
  let p4 : Bool := (b1 && b3)
  (All [(b1 = true → a ≠ 0)] ∧ ((p4 = true → True) ∧ (p4 = false → True)))
@[ext] structure S.ref20_times_L0 where
  a : Int
  b : Int
  m : Int
  out : Int
def S.ref20_times_L0_step (x : S.ref20_times_L0) : S.ref20_times_L0 ⊕ (S.ref20_times_L0) :=
  let b1 : Bool := decide (x.b > 0)
  let t2 : Int := Int.tmod x.b 2
  let b3 : Bool := t2 == 1
  let r4 : Int := S.ref20_plus x.out x.a x.m
  let r5 : Int := S.ref20_plus x.a x.a x.m
  let t6 : Int := IntKind.u64.wrap (Int.tdiv x.b 2)
  (bif b1 then (.inl ⟨r5, t6, x.m, (bif b3 then r4 else x.out)⟩) else (.inr ⟨x.a, x.b, x.m, x.out⟩))
def S.ref20_times_L0_vcs (x : S.ref20_times_L0) : Prop :=
  let b1 : Bool := decide (x.b > 0)
  ((b1 = true → True) ∧ (b1 = false → True))
noncomputable def S.ref20_times_L0_run (x : S.ref20_times_L0) : S.ref20_times_L0 := theRun (fun x => x) S.ref20_times_L0_step S.ref20_times_L0_vcs x
/-- sieveholesref20.times -/
noncomputable def S.ref20_times (a : Int) (b : Int) (m : Int) : Int :=
  let x1 : S.ref20_times_L0 := (⟨a, b, m, 0⟩ : S.ref20_times_L0)
  let y2 : S.ref20_times_L0 := S.ref20_times_L0_run x1
  y2.out
def S.ref20_times_pre (a : Int) (b : Int) (m : Int) : Prop :=
  let x1 : S.ref20_times_L0 := (⟨a, b, m, 0⟩ : S.ref20_times_L0)
  (All [Runs S.ref20_times_L0_step S.ref20_times_L0_vcs x1 (S.ref20_times_L0_run x1)] ∧ True)
/-- sieveholesref20.scale -/
noncomputable def S.ref20_scale (c : S.Cong) (n : Int) : S.Cong :=
  let b1 : Bool := n == 0
  let t2 : Int := IntKind.u64.wrap n
  let b3 : Bool := decide (n < 0)
  let t4 : Int := IntKind.i64.wrap (0 - n)
  let t5 : Int := IntKind.u64.wrap t4
  let r6 : Int × Bool := S.ref20_fits c.M (bif b3 then t5 else t2)
  let b7 : Bool := !r6.2
  let r8 : Int := S.ref20_Rest n (bif b7 then c.M else r6.1)
  let t9 : Int := Int.tmod c.R (bif b7 then c.M else r6.1)
  let r10 : Int := S.ref20_times r8 t9 (bif b7 then c.M else r6.1)
  (bif b1 then (⟨0, 0⟩ : S.Cong) else (⟨(bif b7 then c.M else r6.1), r10⟩ : S.Cong))
def S.ref20_scale_pre (c : S.Cong) (n : Int) : Prop :=
  let b1 : Bool := n == 0
  let t2 : Int := IntKind.u64.wrap n
  let b3 : Bool := decide (n < 0)
  let t4 : Int := IntKind.i64.wrap (0 - n)
  let t5 : Int := IntKind.u64.wrap t4
  let r6 : Int × Bool := S.ref20_fits c.M (bif b3 then t5 else t2)
  let b7 : Bool := !r6.2
  let r8 : Int := S.ref20_Rest n (bif b7 then c.M else r6.1)
  let t9 : Int := Int.tmod c.R (bif b7 then c.M else r6.1)
  ((b1 = true → True) ∧ (b1 = false → (All [S.ref20_fits_pre c.M (bif b3 then t5 else t2), S.ref20_Rest_pre n (bif b7 then c.M else r6.1), (bif b7 then c.M else r6.1) ≠ 0, S.ref20_times_pre r8 t9 (bif b7 then c.M else r6.1)] ∧ True)))
/-- sieveholesref20.Mul -/
noncomputable def S.ref20_Mul (a : S.Cong) (b : S.Cong) : S.Cong :=
  let b1 : Bool := a.M == 0
  let b2 : Bool := b.M == 0
  let p3 : Bool := (b1 && b2)
  let t4 : Int := IntKind.u64.wrap (a.R * b.R)
  let b5 : Bool := a.M == 0
  let t6 : Int := IntKind.i64.wrap a.R
  let r7 : S.Cong := S.ref20_scale b t6
  let b8 : Bool := b.M == 0
  let t9 : Int := IntKind.i64.wrap b.R
  let r10 : S.Cong := S.ref20_scale a t9
  let r11 : Int := S.ref20_Gcd a.M b.M
  let r12 : Int := S.ref20_Gcd a.M a.R
  let r13 : Int := S.ref20_Gcd b.M b.R
  let r14 : Int × Bool := S.ref20_fits r12 r13
  let b15 : Bool := decide (r14.1 > r11)
  let p16 : Bool := (r14.2 && b15)
  let r17 : Int := S.ref20_Of a r11
  let r18 : Int := S.ref20_Of b r11
  let r19 : Int := S.ref20_times r17 r18 r11
  (bif p3 then (⟨0, t4⟩ : S.Cong) else (bif b5 then r7 else (bif b8 then r10 else (bif p16 then (⟨r14.1, 0⟩ : S.Cong) else (⟨r11, r19⟩ : S.Cong)))))
def S.ref20_Mul_pre (a : S.Cong) (b : S.Cong) : Prop :=
  let b1 : Bool := a.M == 0
  let b2 : Bool := b.M == 0
  let p3 : Bool := (b1 && b2)
  let b5 : Bool := a.M == 0
  let t6 : Int := IntKind.i64.wrap a.R
  let b8 : Bool := b.M == 0
  let t9 : Int := IntKind.i64.wrap b.R
  let r11 : Int := S.ref20_Gcd a.M b.M
  let r12 : Int := S.ref20_Gcd a.M a.R
  let r13 : Int := S.ref20_Gcd b.M b.R
  let r14 : Int × Bool := S.ref20_fits r12 r13
  let b15 : Bool := decide (r14.1 > r11)
  let p16 : Bool := (r14.2 && b15)
  let r17 : Int := S.ref20_Of a r11
  let r18 : Int := S.ref20_Of b r11
  ((p3 = true → True) ∧ (p3 = false → ((b5 = true → (All [S.ref20_scale_pre b t6] ∧ True)) ∧ (b5 = false → ((b8 = true → (All [S.ref20_scale_pre a t9] ∧ True)) ∧ (b8 = false → (All [S.ref20_Gcd_pre a.M b.M, S.ref20_Gcd_pre a.M a.R, S.ref20_Gcd_pre b.M b.R, S.ref20_fits_pre r12 r13] ∧ ((p16 = true → True) ∧ (p16 = false → (All [S.ref20_Of_pre a r11, S.ref20_Of_pre b r11, S.ref20_times_pre r17 r18 r11] ∧ True))))))))))
@[ext] structure S.ref20_Wrapped_L0 where
  p : Int
  c : S.Cong
def S.ref20_Wrapped_L0_step (x : S.ref20_Wrapped_L0) : S.ref20_Wrapped_L0 ⊕ (S.ref20_Wrapped_L0) :=
  let t1 : Int := Int.tmod x.c.M 2
  let b2 : Bool := t1 == 0
  let t3 : Int := IntKind.u64.wrap (2 * x.p)
  let t4 : Int := IntKind.u64.wrap (Int.tdiv x.c.M 2)
  (bif b2 then (.inl ⟨t3, (⟨t4, x.c.R⟩ : S.Cong)⟩) else (.inr ⟨x.p, x.c⟩))
def S.ref20_Wrapped_L0_vcs (x : S.ref20_Wrapped_L0) : Prop :=
  let t1 : Int := Int.tmod x.c.M 2
  let b2 : Bool := t1 == 0
  ((b2 = true → True) ∧ (b2 = false → True))
noncomputable def S.ref20_Wrapped_L0_run (x : S.ref20_Wrapped_L0) : S.ref20_Wrapped_L0 := theRun (fun x => x) S.ref20_Wrapped_L0_step S.ref20_Wrapped_L0_vcs x
/-- sieveholesref20.Wrapped -/
noncomputable def S.ref20_Wrapped (c : S.Cong) : S.Cong :=
  let b1 : Bool := c.M == 0
  let x2 : S.ref20_Wrapped_L0 := (⟨1, c⟩ : S.ref20_Wrapped_L0)
  let y3 : S.ref20_Wrapped_L0 := S.ref20_Wrapped_L0_run x2
  let t4 : Int := Int.tmod y3.c.R y3.p
  (bif b1 then c else (⟨y3.p, t4⟩ : S.Cong))
def S.ref20_Wrapped_pre (c : S.Cong) : Prop :=
  let b1 : Bool := c.M == 0
  let x2 : S.ref20_Wrapped_L0 := (⟨1, c⟩ : S.ref20_Wrapped_L0)
  let y3 : S.ref20_Wrapped_L0 := S.ref20_Wrapped_L0_run x2
  ((b1 = true → True) ∧ (b1 = false → (All [Runs S.ref20_Wrapped_L0_step S.ref20_Wrapped_L0_vcs x2 (S.ref20_Wrapped_L0_run x2), y3.p ≠ 0] ∧ True)))
@[ext] structure S.law20_CongOperates_L0 where
  t4 : Bool
  l : (List S.Cong)
  r : (List S.Cong)
  i : Int
def S.law20_CongOperates_L0_step (x : S.law20_CongOperates_L0) : S.law20_CongOperates_L0 ⊕ (Bool × S.law20_CongOperates_L0) :=
  let b1 : Bool := decide (x.i < (x.l.length : Int))
  let e2 : S.Cong := x.l.getD (Int.toNat x.i) (⟨0, 0⟩ : S.Cong)
  let r3 : S.Cong := S.law20_ref e2
  let e4 : S.Cong := x.r.getD (Int.toNat x.i) (⟨0, 0⟩ : S.Cong)
  let b5 : Bool := !((r3.M == e4.M) && (r3.R == e4.R))
  let e6 : S.Cong := x.l.getD (Int.toNat x.i) (⟨0, 0⟩ : S.Cong)
  let r7 : Bool := S.cong_Cong_Right e6
  let b8 : Bool := !r7
  let p9 : Bool := (b5 || b8)
  let t10 : Int := IntKind.i64.wrap (x.i + 1)
  (bif b1 then (bif p9 then (.inr ⟨true, ⟨false, x.l, x.r, x.i⟩⟩) else (.inl ⟨x.t4, x.l, x.r, t10⟩)) else (.inr ⟨false, ⟨x.t4, x.l, x.r, x.i⟩⟩))
def S.law20_CongOperates_L0_vcs (x : S.law20_CongOperates_L0) : Prop :=
  let b1 : Bool := decide (x.i < (x.l.length : Int))
  let e2 : S.Cong := x.l.getD (Int.toNat x.i) (⟨0, 0⟩ : S.Cong)
  let r3 : S.Cong := S.law20_ref e2
  let e4 : S.Cong := x.r.getD (Int.toNat x.i) (⟨0, 0⟩ : S.Cong)
  let b5 : Bool := !((r3.M == e4.M) && (r3.R == e4.R))
  let e6 : S.Cong := x.l.getD (Int.toNat x.i) (⟨0, 0⟩ : S.Cong)
  let r7 : Bool := S.cong_Cong_Right e6
  let b8 : Bool := !r7
  let p9 : Bool := (b5 || b8)
  ((b1 = true → (All [(0 : Int) ≤ x.i, x.i < (x.l.length : Int), (0 : Int) ≤ x.i, x.i < (x.r.length : Int), (b5 = false → ((0 : Int) ≤ x.i ∧ x.i < (x.l.length : Int)))] ∧ ((p9 = true → True) ∧ (p9 = false → True)))) ∧ (b1 = false → True))
noncomputable def S.law20_CongOperates_L0_run (x : S.law20_CongOperates_L0) : Bool × S.law20_CongOperates_L0 := theRun (fun x => ⟨true, x⟩) S.law20_CongOperates_L0_step S.law20_CongOperates_L0_vcs x
/-- sieveholeslaw20.CongOperates -/
noncomputable def S.law20_CongOperates (a : S.Cong) (b : S.Cong) : Bool :=
  let r1 : S.Cong := S.law20_ref a
  let r2 : S.Cong := S.law20_ref b
  let r3 : Bool := S.ref20_Right r1
  let b4 : Bool := !r3
  let r5 : Bool := S.ref20_Right r2
  let b6 : Bool := !r5
  let p7 : Bool := (b4 || b6)
  let r8 : Bool := S.law20_works
  let r9 : S.Cong × Bool := S.cong_Meet a b
  let r10 : S.Cong × Bool := S.ref20_Meet r1 r2
  let r11 : S.Cong := S.cong_Join a b
  let r12 : S.Cong := S.cong_Add a b
  let r13 : S.Cong := S.cong_Sub a b
  let r14 : S.Cong := S.cong_Mul a b
  let r15 : S.Cong := S.cong_Cong_Wrapped a
  let r16 : S.Cong := S.ref20_Join r1 r2
  let r17 : S.Cong := S.ref20_Add r1 r2
  let r18 : S.Cong := S.ref20_Sub r1 r2
  let r19 : S.Cong := S.ref20_Mul r1 r2
  let r20 : S.Cong := S.ref20_Wrapped r1
  let x21 : S.law20_CongOperates_L0 := (⟨false, ([r11, r12, r13, r14, r15, r9.1] : List S.Cong), ([r16, r17, r18, r19, r20, r10.1] : List S.Cong), 0⟩ : S.law20_CongOperates_L0)
  let y22 : Bool × S.law20_CongOperates_L0 := S.law20_CongOperates_L0_run x21
  let b23 : Bool := r9.2 == r10.2
  let r24 : Bool := S.law20_works
  let p25 : Bool := (b23 && r24)
  (bif p7 then r8 else (bif y22.1 then y22.2.t4 else p25))
def S.law20_CongOperates_pre (a : S.Cong) (b : S.Cong) : Prop :=
  let r1 : S.Cong := S.law20_ref a
  let r2 : S.Cong := S.law20_ref b
  let r3 : Bool := S.ref20_Right r1
  let b4 : Bool := !r3
  let r5 : Bool := S.ref20_Right r2
  let b6 : Bool := !r5
  let p7 : Bool := (b4 || b6)
  let r9 : S.Cong × Bool := S.cong_Meet a b
  let r10 : S.Cong × Bool := S.ref20_Meet r1 r2
  let r11 : S.Cong := S.cong_Join a b
  let r12 : S.Cong := S.cong_Add a b
  let r13 : S.Cong := S.cong_Sub a b
  let r14 : S.Cong := S.cong_Mul a b
  let r15 : S.Cong := S.cong_Cong_Wrapped a
  let r16 : S.Cong := S.ref20_Join r1 r2
  let r17 : S.Cong := S.ref20_Add r1 r2
  let r18 : S.Cong := S.ref20_Sub r1 r2
  let r19 : S.Cong := S.ref20_Mul r1 r2
  let r20 : S.Cong := S.ref20_Wrapped r1
  let x21 : S.law20_CongOperates_L0 := (⟨false, ([r11, r12, r13, r14, r15, r9.1] : List S.Cong), ([r16, r17, r18, r19, r20, r10.1] : List S.Cong), 0⟩ : S.law20_CongOperates_L0)
  let y22 : Bool × S.law20_CongOperates_L0 := S.law20_CongOperates_L0_run x21
  let b23 : Bool := r9.2 == r10.2
  ((p7 = true → (All [S.law20_works_pre] ∧ True)) ∧ (p7 = false → (All [S.cong_Meet_pre a b, S.ref20_Meet_pre r1 r2, S.cong_Join_pre a b, S.cong_Add_pre a b, S.cong_Sub_pre a b, S.cong_Mul_pre a b, S.cong_Cong_Wrapped_pre a, S.ref20_Join_pre r1 r2, S.ref20_Add_pre r1 r2, S.ref20_Sub_pre r1 r2, S.ref20_Mul_pre r1 r2, S.ref20_Wrapped_pre r1, Runs S.law20_CongOperates_L0_step S.law20_CongOperates_L0_vcs x21 (S.law20_CongOperates_L0_run x21)] ∧ ((y22.1 = true → True) ∧ (y22.1 = false → (All [(b23 = true → S.law20_works_pre)] ∧ True))))))
/-- (cong.Cong).Greatest -/
def S.cong_Cong_Greatest (c : S.Cong) (to : Int) : Int × Bool :=
  let r1 : Bool := S.cong_Cong_single c
  let r2 : Int := S.cong_Cong_number c
  let b3 : Bool := decide (r2 ≤ to)
  let r4 : Int × Bool := S.cong_Cong_number0 c b3
  let r5 : Int := S.cong_rest to c.M
  let t6 : Int := IntKind.u64.wrap (c.M - c.R)
  let t7 : Int := Int.tmod t6 c.M
  let r8 : Int := S.cong_plus r5 t7 c.M
  let t9 : Int := IntKind.u64.wrap to
  let t10 : Int := IntKind.u64.wrap (t9 + 9223372036854775808)
  let b11 : Bool := decide (r8 > t10)
  let t12 : Int := IntKind.i64.wrap r8
  let t13 : Int := IntKind.i64.wrap (to - t12)
  (bif r1 then (r4.1, r4.2) else (bif b11 then (0, false) else (t13, true)))
def S.cong_Cong_Greatest_pre (c : S.Cong) (to : Int) : Prop :=
  let r1 : Bool := S.cong_Cong_single c
  let r5 : Int := S.cong_rest to c.M
  let t6 : Int := IntKind.u64.wrap (c.M - c.R)
  let t7 : Int := Int.tmod t6 c.M
  let r8 : Int := S.cong_plus r5 t7 c.M
  let t9 : Int := IntKind.u64.wrap to
  let t10 : Int := IntKind.u64.wrap (t9 + 9223372036854775808)
  let b11 : Bool := decide (r8 > t10)
  ((r1 = true → True) ∧ (r1 = false → (All [S.cong_rest_pre to c.M, c.M ≠ 0, S.cong_plus_pre r5 t7 c.M] ∧ ((b11 = true → True) ∧ (b11 = false → True)))))
/-- sieveholeslaw20.near -/
def S.law20_near (c : S.Cong) (n : Int) : Int :=
  let r1 : Int × Bool := S.cong_Cong_Least c n
  let b2 : Bool := !r1.2
  let r3 : Int × Bool := S.cong_Cong_Greatest c n
  (bif b2 then r3.1 else r1.1)
def S.law20_near_pre (c : S.Cong) (n : Int) : Prop :=
  let r1 : Int × Bool := S.cong_Cong_Least c n
  let b2 : Bool := !r1.2
  (All [S.cong_Cong_Least_pre c n, (b2 = true → S.cong_Cong_Greatest_pre c n)] ∧ True)
/-- sieveholeslaw20.fit -/
def S.law20_fit (x : Int) (y : Int) : Bool × Bool × Bool :=
  let t1 : Int := IntKind.i64.wrap (x + y)
  let t2 : Int := IntKind.i64.wrap (x - y)
  let b3 : Bool := x == 0
  let b4 : Bool := x != (-1)
  let b5 : Bool := y != (-9223372036854775808)
  let p6 : Bool := (b4 || b5)
  let t7 : Int := IntKind.i64.wrap (x * y)
  let t8 : Int := IntKind.i64.wrap (Int.tdiv t7 x)
  let b9 : Bool := t8 == y
  let p10 : Bool := (p6 && b9)
  let b11 : Bool := x == (-9223372036854775808)
  let b12 : Bool := y == (-1)
  let p13 : Bool := (b11 && b12)
  let b14 : Bool := !p13
  let p15 : Bool := (p10 && b14)
  let p16 : Bool := (b3 || p15)
  let b17 : Bool := decide (t1 > x)
  let b18 : Bool := decide (y > 0)
  let b19 : Bool := b17 == b18
  let b20 : Bool := decide (t2 < x)
  let b21 : Bool := decide (y > 0)
  let b22 : Bool := b20 == b21
  (b19, b22, p16)
def S.law20_fit_pre (x : Int) (y : Int) : Prop :=
  let b3 : Bool := x == 0
  let b4 : Bool := x != (-1)
  let b5 : Bool := y != (-9223372036854775808)
  let p6 : Bool := (b4 || b5)
  (All [(b3 = false → (p6 = true → x ≠ 0))] ∧ True)
/-- sieveholeslaw20.CongSound -/
noncomputable def S.law20_CongSound (a : S.Cong) (b : S.Cong) (n : Int) (m : Int) : Bool :=
  let r1 : S.Cong := S.law20_ref a
  let r2 : Bool := S.ref20_Right r1
  let b3 : Bool := !r2
  let r4 : S.Cong := S.law20_ref b
  let r5 : Bool := S.ref20_Right r4
  let b6 : Bool := !r5
  let p7 : Bool := (b3 || b6)
  let r8 : Bool := S.law20_works
  let r9 : Int := S.law20_near a n
  let r10 : Int := S.law20_near b m
  let r11 : Bool := S.cong_Cong_Has a r9
  let b12 : Bool := !r11
  let r13 : Bool := S.cong_Cong_Has b r10
  let b14 : Bool := !r13
  let p15 : Bool := (b12 || b14)
  let r16 : Int × Bool := S.cong_Cong_Least a (-9223372036854775808)
  let r17 : Int × Bool := S.cong_Cong_Least b (-9223372036854775808)
  let p18 : Bool := (r16.2 && r17.2)
  let b19 : Bool := !p18
  let r20 : Bool := S.law20_works
  let p21 : Bool := (b19 && r20)
  let r22 : S.Cong := S.cong_Join a b
  let r23 : Bool := S.cong_Cong_Has r22 r9
  let b24 : Bool := !r23
  let r25 : Bool := S.cong_Cong_Has r22 r10
  let b26 : Bool := !r25
  let p27 : Bool := (b24 || b26)
  let r28 : Bool := S.cong_Within a r22
  let b29 : Bool := !r28
  let p30 : Bool := (p27 || b29)
  let r31 : Bool := S.cong_Within b r22
  let b32 : Bool := !r31
  let p33 : Bool := (p30 || b32)
  let r34 : S.Cong × Bool := S.cong_Meet a b
  let r35 : Bool := S.cong_Cong_Has b r9
  let b36 : Bool := !r34.2
  let r37 : Bool := S.cong_Cong_Has r34.1 r9
  let b38 : Bool := !r37
  let p39 : Bool := (b36 || b38)
  let p40 : Bool := (r35 && p39)
  let r41 : Bool := S.cong_Cong_Has a r10
  let b42 : Bool := !r34.2
  let r43 : Bool := S.cong_Cong_Has r34.1 r10
  let b44 : Bool := !r43
  let p45 : Bool := (b42 || b44)
  let p46 : Bool := (r41 && p45)
  let p47 : Bool := (p40 || p46)
  let r48 : Bool := S.cong_Within r34.1 a
  let b49 : Bool := !r48
  let p50 : Bool := (r34.2 && b49)
  let r51 : Bool := S.cong_Within r34.1 b
  let b52 : Bool := !r51
  let p53 : Bool := (p50 && b52)
  let p54 : Bool := (p47 || p53)
  let r55 : Bool × Bool × Bool := S.law20_fit r9 r10
  let r56 : S.Cong := S.cong_Add a b
  let r57 : S.Cong := S.cong_Sub a b
  let r58 : S.Cong := S.cong_Mul a b
  let t59 : Int := IntKind.i64.wrap (r9 + r10)
  let r60 : Bool := S.cong_Cong_Has r56 t59
  let b61 : Bool := !r60
  let p62 : Bool := (r55.1 && b61)
  let t63 : Int := IntKind.i64.wrap (r9 - r10)
  let r64 : Bool := S.cong_Cong_Has r57 t63
  let b65 : Bool := !r64
  let p66 : Bool := (r55.2.1 && b65)
  let p67 : Bool := (p62 || p66)
  let t68 : Int := IntKind.i64.wrap (r9 * r10)
  let r69 : Bool := S.cong_Cong_Has r58 t68
  let b70 : Bool := !r69
  let p71 : Bool := (r55.2.2 && b70)
  let p72 : Bool := (p67 || p71)
  let r73 : S.Cong := S.cong_Cong_Wrapped r56
  let t74 : Int := IntKind.i64.wrap (r9 + r10)
  let r75 : Bool := S.cong_Cong_Has r73 t74
  let r76 : S.Cong := S.cong_Cong_Wrapped r57
  let t77 : Int := IntKind.i64.wrap (r9 - r10)
  let r78 : Bool := S.cong_Cong_Has r76 t77
  let p79 : Bool := (r75 && r78)
  let r80 : S.Cong := S.cong_Cong_Wrapped r58
  let t81 : Int := IntKind.i64.wrap (r9 * r10)
  let r82 : Bool := S.cong_Cong_Has r80 t81
  let p83 : Bool := (p79 && r82)
  let r84 : S.Cong := S.cong_Cong_Wrapped r56
  let r85 : Bool := S.cong_Within r56 r84
  let p86 : Bool := (p83 && r85)
  let r87 : Bool := S.law20_works
  let p88 : Bool := (p86 && r87)
  (bif p7 then r8 else (bif p15 then p21 else (bif p33 then false else (bif p54 then false else (bif p72 then false else p88)))))
def S.law20_CongSound_pre (a : S.Cong) (b : S.Cong) (n : Int) (m : Int) : Prop :=
  let r1 : S.Cong := S.law20_ref a
  let r2 : Bool := S.ref20_Right r1
  let b3 : Bool := !r2
  let r4 : S.Cong := S.law20_ref b
  let r5 : Bool := S.ref20_Right r4
  let b6 : Bool := !r5
  let p7 : Bool := (b3 || b6)
  let r9 : Int := S.law20_near a n
  let r10 : Int := S.law20_near b m
  let r11 : Bool := S.cong_Cong_Has a r9
  let b12 : Bool := !r11
  let r13 : Bool := S.cong_Cong_Has b r10
  let b14 : Bool := !r13
  let p15 : Bool := (b12 || b14)
  let r16 : Int × Bool := S.cong_Cong_Least a (-9223372036854775808)
  let r17 : Int × Bool := S.cong_Cong_Least b (-9223372036854775808)
  let p18 : Bool := (r16.2 && r17.2)
  let b19 : Bool := !p18
  let r22 : S.Cong := S.cong_Join a b
  let r23 : Bool := S.cong_Cong_Has r22 r9
  let b24 : Bool := !r23
  let r25 : Bool := S.cong_Cong_Has r22 r10
  let b26 : Bool := !r25
  let p27 : Bool := (b24 || b26)
  let r28 : Bool := S.cong_Within a r22
  let b29 : Bool := !r28
  let p30 : Bool := (p27 || b29)
  let r31 : Bool := S.cong_Within b r22
  let b32 : Bool := !r31
  let p33 : Bool := (p30 || b32)
  let r34 : S.Cong × Bool := S.cong_Meet a b
  let r35 : Bool := S.cong_Cong_Has b r9
  let b36 : Bool := !r34.2
  let r37 : Bool := S.cong_Cong_Has r34.1 r9
  let b38 : Bool := !r37
  let p39 : Bool := (b36 || b38)
  let p40 : Bool := (r35 && p39)
  let r41 : Bool := S.cong_Cong_Has a r10
  let b42 : Bool := !r34.2
  let r43 : Bool := S.cong_Cong_Has r34.1 r10
  let b44 : Bool := !r43
  let p45 : Bool := (b42 || b44)
  let p46 : Bool := (r41 && p45)
  let p47 : Bool := (p40 || p46)
  let r48 : Bool := S.cong_Within r34.1 a
  let b49 : Bool := !r48
  let p50 : Bool := (r34.2 && b49)
  let r51 : Bool := S.cong_Within r34.1 b
  let b52 : Bool := !r51
  let p53 : Bool := (p50 && b52)
  let p54 : Bool := (p47 || p53)
  let r55 : Bool × Bool × Bool := S.law20_fit r9 r10
  let r56 : S.Cong := S.cong_Add a b
  let r57 : S.Cong := S.cong_Sub a b
  let r58 : S.Cong := S.cong_Mul a b
  let t59 : Int := IntKind.i64.wrap (r9 + r10)
  let r60 : Bool := S.cong_Cong_Has r56 t59
  let b61 : Bool := !r60
  let p62 : Bool := (r55.1 && b61)
  let t63 : Int := IntKind.i64.wrap (r9 - r10)
  let r64 : Bool := S.cong_Cong_Has r57 t63
  let b65 : Bool := !r64
  let p66 : Bool := (r55.2.1 && b65)
  let p67 : Bool := (p62 || p66)
  let t68 : Int := IntKind.i64.wrap (r9 * r10)
  let r69 : Bool := S.cong_Cong_Has r58 t68
  let b70 : Bool := !r69
  let p71 : Bool := (r55.2.2 && b70)
  let p72 : Bool := (p67 || p71)
  let r73 : S.Cong := S.cong_Cong_Wrapped r56
  let t74 : Int := IntKind.i64.wrap (r9 + r10)
  let r75 : Bool := S.cong_Cong_Has r73 t74
  let r76 : S.Cong := S.cong_Cong_Wrapped r57
  let t77 : Int := IntKind.i64.wrap (r9 - r10)
  let r78 : Bool := S.cong_Cong_Has r76 t77
  let p79 : Bool := (r75 && r78)
  let r80 : S.Cong := S.cong_Cong_Wrapped r58
  let t81 : Int := IntKind.i64.wrap (r9 * r10)
  let r82 : Bool := S.cong_Cong_Has r80 t81
  let p83 : Bool := (p79 && r82)
  let r84 : S.Cong := S.cong_Cong_Wrapped r56
  let r85 : Bool := S.cong_Within r56 r84
  let p86 : Bool := (p83 && r85)
  ((p7 = true → (All [S.law20_works_pre] ∧ True)) ∧ (p7 = false → (All [S.law20_near_pre a n, S.law20_near_pre b m, S.cong_Cong_Has_pre a r9, (b12 = false → S.cong_Cong_Has_pre b r10)] ∧ ((p15 = true → (All [S.cong_Cong_Least_pre a (-9223372036854775808), S.cong_Cong_Least_pre b (-9223372036854775808), (b19 = true → S.law20_works_pre)] ∧ True)) ∧ (p15 = false → (All [S.cong_Join_pre a b, S.cong_Cong_Has_pre r22 r9, (b24 = false → S.cong_Cong_Has_pre r22 r10), (p27 = false → S.cong_Within_pre a r22), (p30 = false → S.cong_Within_pre b r22)] ∧ ((p33 = true → True) ∧ (p33 = false → (All [S.cong_Meet_pre a b, S.cong_Cong_Has_pre b r9, (r35 = true → (b36 = false → S.cong_Cong_Has_pre r34.1 r9)), (p40 = false → S.cong_Cong_Has_pre a r10), (p40 = false → (r41 = true → (b42 = false → S.cong_Cong_Has_pre r34.1 r10))), (p47 = false → (r34.2 = true → S.cong_Within_pre r34.1 a)), (p47 = false → (p50 = true → S.cong_Within_pre r34.1 b))] ∧ ((p54 = true → True) ∧ (p54 = false → (All [S.law20_fit_pre r9 r10, S.cong_Add_pre a b, S.cong_Sub_pre a b, S.cong_Mul_pre a b, (r55.1 = true → S.cong_Cong_Has_pre r56 t59), (p62 = false → (r55.2.1 = true → S.cong_Cong_Has_pre r57 t63)), (p67 = false → (r55.2.2 = true → S.cong_Cong_Has_pre r58 t68))] ∧ ((p72 = true → True) ∧ (p72 = false → (All [S.cong_Cong_Wrapped_pre r56, S.cong_Cong_Has_pre r73 t74, (r75 = true → S.cong_Cong_Wrapped_pre r57), (r75 = true → S.cong_Cong_Has_pre r76 t77), (p79 = true → S.cong_Cong_Wrapped_pre r58), (p79 = true → S.cong_Cong_Has_pre r80 t81), (p83 = true → S.cong_Cong_Wrapped_pre r56), (p83 = true → S.cong_Within_pre r56 r84), (p86 = true → S.law20_works_pre)] ∧ True)))))))))))))))
/-- sieveholesref20.Least -/
def S.ref20_Least (c : S.Cong) (a1 : Int) : Int × Bool :=
  let b1 : Bool := c.M == 0
  let t2 : Int := IntKind.i64.wrap c.R
  let b3 : Bool := decide (t2 < a1)
  let t4 : Int := IntKind.i64.wrap c.R
  let r5 : Int := S.ref20_Rest a1 c.M
  let r6 : Int := S.ref20_minus c.R r5 c.M
  let t7 : Int := IntKind.u64.wrap a1
  let t8 : Int := IntKind.u64.wrap (9223372036854775807 - t7)
  let b9 : Bool := decide (r6 > t8)
  let t10 : Int := IntKind.u64.wrap a1
  let t11 : Int := IntKind.u64.wrap (t10 + r6)
  let t12 : Int := IntKind.i64.wrap t11
  (bif b1 then (bif b3 then (0, false) else (t4, true)) else (bif b9 then (0, false) else (t12, true)))
def S.ref20_Least_pre (c : S.Cong) (a1 : Int) : Prop :=
  let b1 : Bool := c.M == 0
  let t2 : Int := IntKind.i64.wrap c.R
  let b3 : Bool := decide (t2 < a1)
  let r5 : Int := S.ref20_Rest a1 c.M
  let r6 : Int := S.ref20_minus c.R r5 c.M
  let t7 : Int := IntKind.u64.wrap a1
  let t8 : Int := IntKind.u64.wrap (9223372036854775807 - t7)
  let b9 : Bool := decide (r6 > t8)
  ((b1 = true → ((b3 = true → True) ∧ (b3 = false → True))) ∧ (b1 = false → (All [S.ref20_Rest_pre a1 c.M] ∧ ((b9 = true → True) ∧ (b9 = false → True)))))
/-- sieveholesref20.Greatest -/
def S.ref20_Greatest (c : S.Cong) (to : Int) : Int × Bool :=
  let b1 : Bool := c.M == 0
  let t2 : Int := IntKind.i64.wrap c.R
  let b3 : Bool := decide (t2 > to)
  let t4 : Int := IntKind.i64.wrap c.R
  let r5 : Int := S.ref20_Rest to c.M
  let r6 : Int := S.ref20_minus r5 c.R c.M
  let t7 : Int := IntKind.u64.wrap to
  let t8 : Int := IntKind.u64.wrap (t7 - 9223372036854775808)
  let b9 : Bool := decide (r6 > t8)
  let t10 : Int := IntKind.u64.wrap to
  let t11 : Int := IntKind.u64.wrap (t10 - r6)
  let t12 : Int := IntKind.i64.wrap t11
  (bif b1 then (bif b3 then (0, false) else (t4, true)) else (bif b9 then (0, false) else (t12, true)))
def S.ref20_Greatest_pre (c : S.Cong) (to : Int) : Prop :=
  let b1 : Bool := c.M == 0
  let t2 : Int := IntKind.i64.wrap c.R
  let b3 : Bool := decide (t2 > to)
  let r5 : Int := S.ref20_Rest to c.M
  let r6 : Int := S.ref20_minus r5 c.R c.M
  let t7 : Int := IntKind.u64.wrap to
  let t8 : Int := IntKind.u64.wrap (t7 - 9223372036854775808)
  let b9 : Bool := decide (r6 > t8)
  ((b1 = true → ((b3 = true → True) ∧ (b3 = false → True))) ∧ (b1 = false → (All [S.ref20_Rest_pre to c.M] ∧ ((b9 = true → True) ∧ (b9 = false → True)))))
/-- (cong.Cong).Many -/
def S.cong_Cong_Many (c : S.Cong) (lo : Int) (hi : Int) : Int × Bool :=
  let r1 : Int × Bool := S.cong_Cong_Least c lo
  let r2 : Int × Bool := S.cong_Cong_Greatest c hi
  let b3 : Bool := !r1.2
  let b4 : Bool := !r2.2
  let p5 : Bool := (b3 || b4)
  let b6 : Bool := decide (r1.1 > r2.1)
  let p7 : Bool := (p5 || b6)
  let r8 : Bool := S.cong_Cong_single c
  let t9 : Int := IntKind.u64.wrap r2.1
  let t10 : Int := IntKind.u64.wrap r1.1
  let t11 : Int := IntKind.u64.wrap (t9 - t10)
  let t12 : Int := IntKind.u64.wrap (Int.tdiv t11 c.M)
  let t13 : Int := IntKind.u64.wrap (t12 + 1)
  let b14 : Bool := t12 != 18446744073709551615
  (bif p7 then (0, true) else (bif r8 then (1, true) else (t13, b14)))
def S.cong_Cong_Many_pre (c : S.Cong) (lo : Int) (hi : Int) : Prop :=
  let r1 : Int × Bool := S.cong_Cong_Least c lo
  let r2 : Int × Bool := S.cong_Cong_Greatest c hi
  let b3 : Bool := !r1.2
  let b4 : Bool := !r2.2
  let p5 : Bool := (b3 || b4)
  let b6 : Bool := decide (r1.1 > r2.1)
  let p7 : Bool := (p5 || b6)
  let r8 : Bool := S.cong_Cong_single c
  (All [S.cong_Cong_Least_pre c lo, S.cong_Cong_Greatest_pre c hi] ∧ ((p7 = true → True) ∧ (p7 = false → ((r8 = true → True) ∧ (r8 = false → (All [c.M ≠ 0] ∧ True))))))
/-- sieveholesref20.Many -/
def S.ref20_Many (c : S.Cong) (lo : Int) (hi : Int) : Int × Bool :=
  let r1 : Int × Bool := S.ref20_Least c lo
  let r2 : Int × Bool := S.ref20_Greatest c hi
  let b3 : Bool := !r1.2
  let b4 : Bool := !r2.2
  let p5 : Bool := (b3 || b4)
  let b6 : Bool := decide (r1.1 > r2.1)
  let p7 : Bool := (p5 || b6)
  let b8 : Bool := c.M == 0
  let t9 : Int := IntKind.u64.wrap r2.1
  let t10 : Int := IntKind.u64.wrap r1.1
  let t11 : Int := IntKind.u64.wrap (t9 - t10)
  let t12 : Int := IntKind.u64.wrap (Int.tdiv t11 c.M)
  let b13 : Bool := t12 == 18446744073709551615
  let t14 : Int := IntKind.u64.wrap (t12 + 1)
  (bif p7 then (0, true) else (bif b8 then (1, true) else (bif b13 then (0, false) else (t14, true))))
def S.ref20_Many_pre (c : S.Cong) (lo : Int) (hi : Int) : Prop :=
  let r1 : Int × Bool := S.ref20_Least c lo
  let r2 : Int × Bool := S.ref20_Greatest c hi
  let b3 : Bool := !r1.2
  let b4 : Bool := !r2.2
  let p5 : Bool := (b3 || b4)
  let b6 : Bool := decide (r1.1 > r2.1)
  let p7 : Bool := (p5 || b6)
  let b8 : Bool := c.M == 0
  let t9 : Int := IntKind.u64.wrap r2.1
  let t10 : Int := IntKind.u64.wrap r1.1
  let t11 : Int := IntKind.u64.wrap (t9 - t10)
  let t12 : Int := IntKind.u64.wrap (Int.tdiv t11 c.M)
  let b13 : Bool := t12 == 18446744073709551615
  (All [S.ref20_Least_pre c lo, S.ref20_Greatest_pre c hi] ∧ ((p7 = true → True) ∧ (p7 = false → ((b8 = true → True) ∧ (b8 = false → (All [c.M ≠ 0] ∧ ((b13 = true → True) ∧ (b13 = false → True))))))))
/-- sieveholeslaw20.CongCounts -/
noncomputable def S.law20_CongCounts (c : S.Cong) (lo : Int) (hi : Int) : Bool :=
  let r1 : S.Cong := S.law20_ref c
  let r2 : Bool := S.ref20_Right r1
  let b3 : Bool := !r2
  let r4 : Bool := S.law20_works
  let r5 : Int × Bool := S.cong_Cong_Least c lo
  let r6 : Int × Bool := S.ref20_Least r1 lo
  let r7 : Int × Bool := S.cong_Cong_Greatest c hi
  let r8 : Int × Bool := S.ref20_Greatest r1 hi
  let r9 : Int × Bool := S.cong_Cong_Many c lo hi
  let r10 : Int × Bool := S.ref20_Many r1 lo hi
  let b11 : Bool := r5.1 != r6.1
  let b12 : Bool := !(r5.2 == r6.2)
  let p13 : Bool := (b11 || b12)
  let b14 : Bool := r7.1 != r8.1
  let p15 : Bool := (p13 || b14)
  let b16 : Bool := !(r7.2 == r8.2)
  let p17 : Bool := (p15 || b16)
  let b18 : Bool := r9.1 != r10.1
  let p19 : Bool := (p17 || b18)
  let b20 : Bool := !(r9.2 == r10.2)
  let p21 : Bool := (p19 || b20)
  let r22 : Bool := S.cong_Cong_Has c r5.1
  let b23 : Bool := !r22
  let b24 : Bool := decide (r5.1 < lo)
  let p25 : Bool := (b23 || b24)
  let b26 : Bool := decide (c.M > 0)
  let t27 : Int := IntKind.u64.wrap r5.1
  let t28 : Int := IntKind.u64.wrap lo
  let t29 : Int := IntKind.u64.wrap (t27 - t28)
  let b30 : Bool := decide (t29 ≥ c.M)
  let p31 : Bool := (b26 && b30)
  let p32 : Bool := (p25 || p31)
  let p33 : Bool := (r5.2 && p32)
  let r34 : Bool := S.cong_Cong_Has c r7.1
  let b35 : Bool := !r34
  let b36 : Bool := decide (r7.1 > hi)
  let p37 : Bool := (b35 || b36)
  let b38 : Bool := decide (c.M > 0)
  let t39 : Int := IntKind.u64.wrap hi
  let t40 : Int := IntKind.u64.wrap r7.1
  let t41 : Int := IntKind.u64.wrap (t39 - t40)
  let b42 : Bool := decide (t41 ≥ c.M)
  let p43 : Bool := (b38 && b42)
  let p44 : Bool := (p37 || p43)
  let p45 : Bool := (r7.2 && p44)
  let p46 : Bool := (p33 || p45)
  let r47 : Bool := S.law20_works
  (bif b3 then r4 else (bif p21 then false else (bif p46 then false else r47)))
def S.law20_CongCounts_pre (c : S.Cong) (lo : Int) (hi : Int) : Prop :=
  let r1 : S.Cong := S.law20_ref c
  let r2 : Bool := S.ref20_Right r1
  let b3 : Bool := !r2
  let r5 : Int × Bool := S.cong_Cong_Least c lo
  let r6 : Int × Bool := S.ref20_Least r1 lo
  let r7 : Int × Bool := S.cong_Cong_Greatest c hi
  let r8 : Int × Bool := S.ref20_Greatest r1 hi
  let r9 : Int × Bool := S.cong_Cong_Many c lo hi
  let r10 : Int × Bool := S.ref20_Many r1 lo hi
  let b11 : Bool := r5.1 != r6.1
  let b12 : Bool := !(r5.2 == r6.2)
  let p13 : Bool := (b11 || b12)
  let b14 : Bool := r7.1 != r8.1
  let p15 : Bool := (p13 || b14)
  let b16 : Bool := !(r7.2 == r8.2)
  let p17 : Bool := (p15 || b16)
  let b18 : Bool := r9.1 != r10.1
  let p19 : Bool := (p17 || b18)
  let b20 : Bool := !(r9.2 == r10.2)
  let p21 : Bool := (p19 || b20)
  let r22 : Bool := S.cong_Cong_Has c r5.1
  let b23 : Bool := !r22
  let b24 : Bool := decide (r5.1 < lo)
  let p25 : Bool := (b23 || b24)
  let b26 : Bool := decide (c.M > 0)
  let t27 : Int := IntKind.u64.wrap r5.1
  let t28 : Int := IntKind.u64.wrap lo
  let t29 : Int := IntKind.u64.wrap (t27 - t28)
  let b30 : Bool := decide (t29 ≥ c.M)
  let p31 : Bool := (b26 && b30)
  let p32 : Bool := (p25 || p31)
  let p33 : Bool := (r5.2 && p32)
  let r34 : Bool := S.cong_Cong_Has c r7.1
  let b35 : Bool := !r34
  let b36 : Bool := decide (r7.1 > hi)
  let p37 : Bool := (b35 || b36)
  let b38 : Bool := decide (c.M > 0)
  let t39 : Int := IntKind.u64.wrap hi
  let t40 : Int := IntKind.u64.wrap r7.1
  let t41 : Int := IntKind.u64.wrap (t39 - t40)
  let b42 : Bool := decide (t41 ≥ c.M)
  let p43 : Bool := (b38 && b42)
  let p44 : Bool := (p37 || p43)
  let p45 : Bool := (r7.2 && p44)
  let p46 : Bool := (p33 || p45)
  ((b3 = true → (All [S.law20_works_pre] ∧ True)) ∧ (b3 = false → (All [S.cong_Cong_Least_pre c lo, S.ref20_Least_pre r1 lo, S.cong_Cong_Greatest_pre c hi, S.ref20_Greatest_pre r1 hi, S.cong_Cong_Many_pre c lo hi, S.ref20_Many_pre r1 lo hi] ∧ ((p21 = true → True) ∧ (p21 = false → (All [(r5.2 = true → S.cong_Cong_Has_pre c r5.1), (p33 = false → (r7.2 = true → S.cong_Cong_Has_pre c r7.1))] ∧ ((p46 = true → True) ∧ (p46 = false → (All [S.law20_works_pre] ∧ True)))))))))
@[ext] structure S.law20_CongKnown_L2 where
  m : Int
  n : Int
  l : (List S.Cong)
def S.law20_CongKnown_L2_step (x : S.law20_CongKnown_L2) : S.law20_CongKnown_L2 ⊕ (S.law20_CongKnown_L2) :=
  let b1 : Bool := decide (x.n < 4)
  let r2 : S.Cong := S.ref20_Make x.m x.n
  let l3 : List S.Cong := x.l ++ ([(⟨x.m, r2.R⟩ : S.Cong)] : List S.Cong)
  let t4 : Int := IntKind.i64.wrap (x.n + 1)
  (bif b1 then (.inl ⟨x.m, t4, l3⟩) else (.inr ⟨x.m, x.n, x.l⟩))
def S.law20_CongKnown_L2_vcs (x : S.law20_CongKnown_L2) : Prop :=
  let b1 : Bool := decide (x.n < 4)
  let r2 : S.Cong := S.ref20_Make x.m x.n
  ((b1 = true → (All [S.ref20_Make_pre x.m x.n, ((x.l.length + ([(⟨x.m, r2.R⟩ : S.Cong)] : List S.Cong).length : Nat) : Int) * 16 ≤ 140737488355328] ∧ True)) ∧ (b1 = false → True))
noncomputable def S.law20_CongKnown_L2_run (x : S.law20_CongKnown_L2) : S.law20_CongKnown_L2 := theRun (fun x => x) S.law20_CongKnown_L2_step S.law20_CongKnown_L2_vcs x
@[ext] structure S.law20_CongKnown_L0 where
  m : Int
  l : (List S.Cong)
noncomputable def S.law20_CongKnown_L0_step (x : S.law20_CongKnown_L0) : S.law20_CongKnown_L0 ⊕ (S.law20_CongKnown_L0) :=
  let b1 : Bool := decide (x.m < 13)
  let x2 : S.law20_CongKnown_L2 := (⟨x.m, (-2), x.l⟩ : S.law20_CongKnown_L2)
  let y3 : S.law20_CongKnown_L2 := S.law20_CongKnown_L2_run x2
  let t4 : Int := IntKind.u64.wrap (y3.m + 1)
  (bif b1 then (.inl ⟨t4, y3.l⟩) else (.inr ⟨x.m, x.l⟩))
noncomputable def S.law20_CongKnown_L0_vcs (x : S.law20_CongKnown_L0) : Prop :=
  let b1 : Bool := decide (x.m < 13)
  let x2 : S.law20_CongKnown_L2 := (⟨x.m, (-2), x.l⟩ : S.law20_CongKnown_L2)
  ((b1 = true → (All [Runs S.law20_CongKnown_L2_step S.law20_CongKnown_L2_vcs x2 (S.law20_CongKnown_L2_run x2)] ∧ True)) ∧ (b1 = false → True))
noncomputable def S.law20_CongKnown_L0_run (x : S.law20_CongKnown_L0) : S.law20_CongKnown_L0 := theRun (fun x => x) S.law20_CongKnown_L0_step S.law20_CongKnown_L0_vcs x
@[ext] structure S.law20_CongKnown_L6 where
  t0 : Bool
  i : Int
  k : Int
  l : (List S.Cong)
noncomputable def S.law20_CongKnown_L6_step (x : S.law20_CongKnown_L6) : S.law20_CongKnown_L6 ⊕ (Bool × S.law20_CongKnown_L6) :=
  let b1 : Bool := decide (x.k < (x.l.length : Int))
  let e2 : S.Cong := x.l.getD (Int.toNat x.i) (⟨0, 0⟩ : S.Cong)
  let e3 : S.Cong := x.l.getD (Int.toNat x.k) (⟨0, 0⟩ : S.Cong)
  let r4 : Bool := S.law20_CongOperates e2 e3
  let b5 : Bool := !r4
  let t6 : Int := IntKind.i64.wrap (x.i + x.k)
  let t7 : Int := Int.tmod t6 5
  let b8 : Bool := t7 == 0
  let e9 : S.Cong := x.l.getD (Int.toNat x.i) (⟨0, 0⟩ : S.Cong)
  let e10 : S.Cong := x.l.getD (Int.toNat x.k) (⟨0, 0⟩ : S.Cong)
  let t11 : Int := IntKind.i64.wrap (x.i - 40)
  let t12 : Int := IntKind.i64.wrap (x.k - 30)
  let r13 : Bool := S.law20_CongSound e9 e10 t11 t12
  let b14 : Bool := !r13
  let p15 : Bool := (b8 && b14)
  let p16 : Bool := (b5 || p15)
  let t17 : Int := IntKind.i64.wrap (x.k + 1)
  (bif b1 then (bif p16 then (.inr ⟨true, ⟨false, x.i, x.k, x.l⟩⟩) else (.inl ⟨x.t0, x.i, t17, x.l⟩)) else (.inr ⟨false, ⟨x.t0, x.i, x.k, x.l⟩⟩))
noncomputable def S.law20_CongKnown_L6_vcs (x : S.law20_CongKnown_L6) : Prop :=
  let b1 : Bool := decide (x.k < (x.l.length : Int))
  let e2 : S.Cong := x.l.getD (Int.toNat x.i) (⟨0, 0⟩ : S.Cong)
  let e3 : S.Cong := x.l.getD (Int.toNat x.k) (⟨0, 0⟩ : S.Cong)
  let r4 : Bool := S.law20_CongOperates e2 e3
  let b5 : Bool := !r4
  let t6 : Int := IntKind.i64.wrap (x.i + x.k)
  let t7 : Int := Int.tmod t6 5
  let b8 : Bool := t7 == 0
  let e9 : S.Cong := x.l.getD (Int.toNat x.i) (⟨0, 0⟩ : S.Cong)
  let e10 : S.Cong := x.l.getD (Int.toNat x.k) (⟨0, 0⟩ : S.Cong)
  let t11 : Int := IntKind.i64.wrap (x.i - 40)
  let t12 : Int := IntKind.i64.wrap (x.k - 30)
  let r13 : Bool := S.law20_CongSound e9 e10 t11 t12
  let b14 : Bool := !r13
  let p15 : Bool := (b8 && b14)
  let p16 : Bool := (b5 || p15)
  ((b1 = true → (All [(0 : Int) ≤ x.i, x.i < (x.l.length : Int), (0 : Int) ≤ x.k, x.k < (x.l.length : Int), S.law20_CongOperates_pre e2 e3, (b5 = false → (b8 = true → ((0 : Int) ≤ x.i ∧ x.i < (x.l.length : Int)))), (b5 = false → (b8 = true → ((0 : Int) ≤ x.k ∧ x.k < (x.l.length : Int)))), (b5 = false → (b8 = true → S.law20_CongSound_pre e9 e10 t11 t12))] ∧ ((p16 = true → True) ∧ (p16 = false → True)))) ∧ (b1 = false → True))
noncomputable def S.law20_CongKnown_L6_run (x : S.law20_CongKnown_L6) : Bool × S.law20_CongKnown_L6 := theRun (fun x => ⟨true, x⟩) S.law20_CongKnown_L6_step S.law20_CongKnown_L6_vcs x
@[ext] structure S.law20_CongKnown_L4 where
  t0 : Bool
  i : Int
  l : (List S.Cong)
noncomputable def S.law20_CongKnown_L4_step (x : S.law20_CongKnown_L4) : S.law20_CongKnown_L4 ⊕ (Bool × S.law20_CongKnown_L4) :=
  let b1 : Bool := decide (x.i < (x.l.length : Int))
  let x2 : S.law20_CongKnown_L6 := (⟨x.t0, x.i, 0, x.l⟩ : S.law20_CongKnown_L6)
  let y3 : Bool × S.law20_CongKnown_L6 := S.law20_CongKnown_L6_run x2
  let t4 : Int := IntKind.u64.wrap y3.2.i
  let t5 : Int := IntKind.i64.wrap (y3.2.i - 30)
  let e6 : S.Cong := y3.2.l.getD (Int.toNat y3.2.i) (⟨0, 0⟩ : S.Cong)
  let t7 : Int := IntKind.i64.wrap (y3.2.i * 7)
  let t8 : Int := Int.tmod t7 (y3.2.l.length : Int)
  let e9 : S.Cong := y3.2.l.getD (Int.toNat t8) (⟨0, 0⟩ : S.Cong)
  let r10 : Bool := S.law20_CongMakes t4 t5 e6 e9
  let b11 : Bool := !r10
  let e12 : S.Cong := y3.2.l.getD (Int.toNat y3.2.i) (⟨0, 0⟩ : S.Cong)
  let t13 : Int := Int.tmod y3.2.i 9
  let t14 : Int := IntKind.i64.wrap (t13 - 4)
  let t15 : Int := Int.tmod y3.2.i 7
  let r16 : Bool := S.law20_CongCounts e12 t14 t15
  let b17 : Bool := !r16
  let p18 : Bool := (b11 || b17)
  let t19 : Int := IntKind.i64.wrap (y3.2.i + 1)
  (bif b1 then (bif y3.1 then (.inr ⟨true, ⟨y3.2.t0, y3.2.i, y3.2.l⟩⟩) else (bif p18 then (.inr ⟨true, ⟨false, y3.2.i, y3.2.l⟩⟩) else (.inl ⟨y3.2.t0, t19, y3.2.l⟩))) else (.inr ⟨false, ⟨x.t0, x.i, x.l⟩⟩))
noncomputable def S.law20_CongKnown_L4_vcs (x : S.law20_CongKnown_L4) : Prop :=
  let b1 : Bool := decide (x.i < (x.l.length : Int))
  let x2 : S.law20_CongKnown_L6 := (⟨x.t0, x.i, 0, x.l⟩ : S.law20_CongKnown_L6)
  let y3 : Bool × S.law20_CongKnown_L6 := S.law20_CongKnown_L6_run x2
  let t4 : Int := IntKind.u64.wrap y3.2.i
  let t5 : Int := IntKind.i64.wrap (y3.2.i - 30)
  let e6 : S.Cong := y3.2.l.getD (Int.toNat y3.2.i) (⟨0, 0⟩ : S.Cong)
  let t7 : Int := IntKind.i64.wrap (y3.2.i * 7)
  let t8 : Int := Int.tmod t7 (y3.2.l.length : Int)
  let e9 : S.Cong := y3.2.l.getD (Int.toNat t8) (⟨0, 0⟩ : S.Cong)
  let r10 : Bool := S.law20_CongMakes t4 t5 e6 e9
  let b11 : Bool := !r10
  let e12 : S.Cong := y3.2.l.getD (Int.toNat y3.2.i) (⟨0, 0⟩ : S.Cong)
  let t13 : Int := Int.tmod y3.2.i 9
  let t14 : Int := IntKind.i64.wrap (t13 - 4)
  let t15 : Int := Int.tmod y3.2.i 7
  let r16 : Bool := S.law20_CongCounts e12 t14 t15
  let b17 : Bool := !r16
  let p18 : Bool := (b11 || b17)
  ((b1 = true → (All [Runs S.law20_CongKnown_L6_step S.law20_CongKnown_L6_vcs x2 (S.law20_CongKnown_L6_run x2)] ∧ ((y3.1 = true → True) ∧ (y3.1 = false → (All [(0 : Int) ≤ y3.2.i, y3.2.i < (y3.2.l.length : Int), (y3.2.l.length : Int) ≠ 0, (0 : Int) ≤ t8, t8 < (y3.2.l.length : Int), S.law20_CongMakes_pre t4 t5 e6 e9, (b11 = false → ((0 : Int) ≤ y3.2.i ∧ y3.2.i < (y3.2.l.length : Int))), (b11 = false → S.law20_CongCounts_pre e12 t14 t15)] ∧ ((p18 = true → True) ∧ (p18 = false → True))))))) ∧ (b1 = false → True))
noncomputable def S.law20_CongKnown_L4_run (x : S.law20_CongKnown_L4) : Bool × S.law20_CongKnown_L4 := theRun (fun x => ⟨true, x⟩) S.law20_CongKnown_L4_step S.law20_CongKnown_L4_vcs x
@[ext] structure S.law20_CongKnown_L12 where
  t0 : Bool
  mods : (List Int)
  nums : (List Int)
  i : Int
  k : Int
  n : Int
noncomputable def S.law20_CongKnown_L12_step (x : S.law20_CongKnown_L12) : S.law20_CongKnown_L12 ⊕ (Bool × S.law20_CongKnown_L12) :=
  let b1 : Bool := decide (x.n < (x.nums.length : Int))
  let e2 : Int := x.mods.getD (Int.toNat x.i) 0
  let e3 : Int := x.nums.getD (Int.toNat x.n) 0
  let r4 : S.Cong := S.ref20_Make e2 e3
  let e5 : Int := x.mods.getD (Int.toNat x.k) 0
  let t6 : Int := IntKind.i64.wrap (x.n + x.i)
  let t7 : Int := IntKind.i64.wrap (t6 + x.k)
  let t8 : Int := Int.tmod t7 7
  let e9 : Int := x.nums.getD (Int.toNat t8) 0
  let r10 : S.Cong := S.ref20_Make e5 e9
  let e11 : Int := x.mods.getD (Int.toNat x.i) 0
  let e12 : Int := x.nums.getD (Int.toNat x.n) 0
  let r13 : Bool := S.law20_CongMakes e11 e12 r4 r10
  let b14 : Bool := !r13
  let r15 : Bool := S.law20_CongOperates r4 r10
  let b16 : Bool := !r15
  let p17 : Bool := (b14 || b16)
  let e18 : Int := x.nums.getD (Int.toNat x.n) 0
  let t19 : Int := IntKind.i64.wrap (x.n + x.k)
  let t20 : Int := Int.tmod t19 7
  let e21 : Int := x.nums.getD (Int.toNat t20) 0
  let r22 : Bool := S.law20_CongCounts r4 e18 e21
  let b23 : Bool := !r22
  let p24 : Bool := (p17 || b23)
  let e25 : Int := x.nums.getD (Int.toNat x.n) 0
  let t26 : Int := IntKind.i64.wrap (x.n + 1)
  let t27 : Int := Int.tmod t26 7
  let e28 : Int := x.nums.getD (Int.toNat t27) 0
  let r29 : Bool := S.law20_CongSound r4 r10 e25 e28
  let b30 : Bool := !r29
  let p31 : Bool := (p24 || b30)
  let t32 : Int := IntKind.i64.wrap (x.n + 1)
  (bif b1 then (bif p31 then (.inr ⟨true, ⟨false, x.mods, x.nums, x.i, x.k, x.n⟩⟩) else (.inl ⟨x.t0, x.mods, x.nums, x.i, x.k, t32⟩)) else (.inr ⟨false, ⟨x.t0, x.mods, x.nums, x.i, x.k, x.n⟩⟩))
noncomputable def S.law20_CongKnown_L12_vcs (x : S.law20_CongKnown_L12) : Prop :=
  let b1 : Bool := decide (x.n < (x.nums.length : Int))
  let e2 : Int := x.mods.getD (Int.toNat x.i) 0
  let e3 : Int := x.nums.getD (Int.toNat x.n) 0
  let r4 : S.Cong := S.ref20_Make e2 e3
  let e5 : Int := x.mods.getD (Int.toNat x.k) 0
  let t6 : Int := IntKind.i64.wrap (x.n + x.i)
  let t7 : Int := IntKind.i64.wrap (t6 + x.k)
  let t8 : Int := Int.tmod t7 7
  let e9 : Int := x.nums.getD (Int.toNat t8) 0
  let r10 : S.Cong := S.ref20_Make e5 e9
  let e11 : Int := x.mods.getD (Int.toNat x.i) 0
  let e12 : Int := x.nums.getD (Int.toNat x.n) 0
  let r13 : Bool := S.law20_CongMakes e11 e12 r4 r10
  let b14 : Bool := !r13
  let r15 : Bool := S.law20_CongOperates r4 r10
  let b16 : Bool := !r15
  let p17 : Bool := (b14 || b16)
  let e18 : Int := x.nums.getD (Int.toNat x.n) 0
  let t19 : Int := IntKind.i64.wrap (x.n + x.k)
  let t20 : Int := Int.tmod t19 7
  let e21 : Int := x.nums.getD (Int.toNat t20) 0
  let r22 : Bool := S.law20_CongCounts r4 e18 e21
  let b23 : Bool := !r22
  let p24 : Bool := (p17 || b23)
  let e25 : Int := x.nums.getD (Int.toNat x.n) 0
  let t26 : Int := IntKind.i64.wrap (x.n + 1)
  let t27 : Int := Int.tmod t26 7
  let e28 : Int := x.nums.getD (Int.toNat t27) 0
  let r29 : Bool := S.law20_CongSound r4 r10 e25 e28
  let b30 : Bool := !r29
  let p31 : Bool := (p24 || b30)
  ((b1 = true → (All [(0 : Int) ≤ x.i, x.i < (x.mods.length : Int), (0 : Int) ≤ x.n, x.n < (x.nums.length : Int), S.ref20_Make_pre e2 e3, (0 : Int) ≤ x.k, x.k < (x.mods.length : Int), (0 : Int) ≤ t8, t8 < (x.nums.length : Int), S.ref20_Make_pre e5 e9, (0 : Int) ≤ x.i, x.i < (x.mods.length : Int), (0 : Int) ≤ x.n, x.n < (x.nums.length : Int), S.law20_CongMakes_pre e11 e12 r4 r10, (b14 = false → S.law20_CongOperates_pre r4 r10), (p17 = false → ((0 : Int) ≤ x.n ∧ x.n < (x.nums.length : Int))), (p17 = false → ((0 : Int) ≤ t20 ∧ t20 < (x.nums.length : Int))), (p17 = false → S.law20_CongCounts_pre r4 e18 e21), (p24 = false → ((0 : Int) ≤ x.n ∧ x.n < (x.nums.length : Int))), (p24 = false → ((0 : Int) ≤ t27 ∧ t27 < (x.nums.length : Int))), (p24 = false → S.law20_CongSound_pre r4 r10 e25 e28)] ∧ ((p31 = true → True) ∧ (p31 = false → True)))) ∧ (b1 = false → True))
noncomputable def S.law20_CongKnown_L12_run (x : S.law20_CongKnown_L12) : Bool × S.law20_CongKnown_L12 := theRun (fun x => ⟨true, x⟩) S.law20_CongKnown_L12_step S.law20_CongKnown_L12_vcs x
@[ext] structure S.law20_CongKnown_L10 where
  t0 : Bool
  mods : (List Int)
  nums : (List Int)
  i : Int
  k : Int
noncomputable def S.law20_CongKnown_L10_step (x : S.law20_CongKnown_L10) : S.law20_CongKnown_L10 ⊕ (Bool × S.law20_CongKnown_L10) :=
  let b1 : Bool := decide (x.k < (x.mods.length : Int))
  let x2 : S.law20_CongKnown_L12 := (⟨x.t0, x.mods, x.nums, x.i, x.k, 0⟩ : S.law20_CongKnown_L12)
  let y3 : Bool × S.law20_CongKnown_L12 := S.law20_CongKnown_L12_run x2
  let t4 : Int := IntKind.i64.wrap (y3.2.k + 1)
  (bif b1 then (bif y3.1 then (.inr ⟨true, ⟨y3.2.t0, y3.2.mods, y3.2.nums, y3.2.i, y3.2.k⟩⟩) else (.inl ⟨y3.2.t0, y3.2.mods, y3.2.nums, y3.2.i, t4⟩)) else (.inr ⟨false, ⟨x.t0, x.mods, x.nums, x.i, x.k⟩⟩))
noncomputable def S.law20_CongKnown_L10_vcs (x : S.law20_CongKnown_L10) : Prop :=
  let b1 : Bool := decide (x.k < (x.mods.length : Int))
  let x2 : S.law20_CongKnown_L12 := (⟨x.t0, x.mods, x.nums, x.i, x.k, 0⟩ : S.law20_CongKnown_L12)
  let y3 : Bool × S.law20_CongKnown_L12 := S.law20_CongKnown_L12_run x2
  ((b1 = true → (All [Runs S.law20_CongKnown_L12_step S.law20_CongKnown_L12_vcs x2 (S.law20_CongKnown_L12_run x2)] ∧ ((y3.1 = true → True) ∧ (y3.1 = false → True)))) ∧ (b1 = false → True))
noncomputable def S.law20_CongKnown_L10_run (x : S.law20_CongKnown_L10) : Bool × S.law20_CongKnown_L10 := theRun (fun x => ⟨true, x⟩) S.law20_CongKnown_L10_step S.law20_CongKnown_L10_vcs x
@[ext] structure S.law20_CongKnown_L8 where
  t0 : Bool
  mods : (List Int)
  nums : (List Int)
  i : Int
noncomputable def S.law20_CongKnown_L8_step (x : S.law20_CongKnown_L8) : S.law20_CongKnown_L8 ⊕ (Bool × S.law20_CongKnown_L8) :=
  let b1 : Bool := decide (x.i < (x.mods.length : Int))
  let x2 : S.law20_CongKnown_L10 := (⟨x.t0, x.mods, x.nums, x.i, 0⟩ : S.law20_CongKnown_L10)
  let y3 : Bool × S.law20_CongKnown_L10 := S.law20_CongKnown_L10_run x2
  let t4 : Int := IntKind.i64.wrap (y3.2.i + 1)
  (bif b1 then (bif y3.1 then (.inr ⟨true, ⟨y3.2.t0, y3.2.mods, y3.2.nums, y3.2.i⟩⟩) else (.inl ⟨y3.2.t0, y3.2.mods, y3.2.nums, t4⟩)) else (.inr ⟨false, ⟨x.t0, x.mods, x.nums, x.i⟩⟩))
noncomputable def S.law20_CongKnown_L8_vcs (x : S.law20_CongKnown_L8) : Prop :=
  let b1 : Bool := decide (x.i < (x.mods.length : Int))
  let x2 : S.law20_CongKnown_L10 := (⟨x.t0, x.mods, x.nums, x.i, 0⟩ : S.law20_CongKnown_L10)
  let y3 : Bool × S.law20_CongKnown_L10 := S.law20_CongKnown_L10_run x2
  ((b1 = true → (All [Runs S.law20_CongKnown_L10_step S.law20_CongKnown_L10_vcs x2 (S.law20_CongKnown_L10_run x2)] ∧ ((y3.1 = true → True) ∧ (y3.1 = false → True)))) ∧ (b1 = false → True))
noncomputable def S.law20_CongKnown_L8_run (x : S.law20_CongKnown_L8) : Bool × S.law20_CongKnown_L8 := theRun (fun x => ⟨true, x⟩) S.law20_CongKnown_L8_step S.law20_CongKnown_L8_vcs x
/-- sieveholeslaw20.CongKnown -/
noncomputable def S.law20_CongKnown : Bool :=
  let x1 : S.law20_CongKnown_L0 := (⟨0, ([] : List S.Cong)⟩ : S.law20_CongKnown_L0)
  let y2 : S.law20_CongKnown_L0 := S.law20_CongKnown_L0_run x1
  let x3 : S.law20_CongKnown_L4 := (⟨false, 0, y2.l⟩ : S.law20_CongKnown_L4)
  let y4 : Bool × S.law20_CongKnown_L4 := S.law20_CongKnown_L4_run x3
  let x5 : S.law20_CongKnown_L8 := (⟨y4.2.t0, ([0, 1, 2, 3, 4294967296, 9223372036854775807, 9223372036854775808, 9223372036854775809, 18446744073709551614, 18446744073709551615] : List Int), ([0, 1, (-1), 9223372036854775807, (-9223372036854775808), 1099511627776, 7] : List Int), 0⟩ : S.law20_CongKnown_L8)
  let y6 : Bool × S.law20_CongKnown_L8 := S.law20_CongKnown_L8_run x5
  let r7 : Bool := S.law20_CongMakes 3 5 (⟨3, 3⟩ : S.Cong) (⟨0, 0⟩ : S.Cong)
  let r8 : Bool := S.law20_CongCounts (⟨1, 0⟩ : S.Cong) (-9223372036854775808) 9223372036854775807
  let p9 : Bool := (r7 && r8)
  let r10 : Bool := S.law20_works
  let p11 : Bool := (p9 && r10)
  (bif y4.1 then y4.2.t0 else (bif y6.1 then y6.2.t0 else p11))
def S.law20_CongKnown_pre : Prop :=
  let x1 : S.law20_CongKnown_L0 := (⟨0, ([] : List S.Cong)⟩ : S.law20_CongKnown_L0)
  let y2 : S.law20_CongKnown_L0 := S.law20_CongKnown_L0_run x1
  let x3 : S.law20_CongKnown_L4 := (⟨false, 0, y2.l⟩ : S.law20_CongKnown_L4)
  let y4 : Bool × S.law20_CongKnown_L4 := S.law20_CongKnown_L4_run x3
  let x5 : S.law20_CongKnown_L8 := (⟨y4.2.t0, ([0, 1, 2, 3, 4294967296, 9223372036854775807, 9223372036854775808, 9223372036854775809, 18446744073709551614, 18446744073709551615] : List Int), ([0, 1, (-1), 9223372036854775807, (-9223372036854775808), 1099511627776, 7] : List Int), 0⟩ : S.law20_CongKnown_L8)
  let y6 : Bool × S.law20_CongKnown_L8 := S.law20_CongKnown_L8_run x5
  let r7 : Bool := S.law20_CongMakes 3 5 (⟨3, 3⟩ : S.Cong) (⟨0, 0⟩ : S.Cong)
  let r8 : Bool := S.law20_CongCounts (⟨1, 0⟩ : S.Cong) (-9223372036854775808) 9223372036854775807
  let p9 : Bool := (r7 && r8)
  (All [Runs S.law20_CongKnown_L0_step S.law20_CongKnown_L0_vcs x1 (S.law20_CongKnown_L0_run x1), Runs S.law20_CongKnown_L4_step S.law20_CongKnown_L4_vcs x3 (S.law20_CongKnown_L4_run x3)] ∧ ((y4.1 = true → True) ∧ (y4.1 = false → (All [Runs S.law20_CongKnown_L8_step S.law20_CongKnown_L8_vcs x5 (S.law20_CongKnown_L8_run x5)] ∧ ((y6.1 = true → True) ∧ (y6.1 = false → (All [S.law20_CongMakes_pre 3 5 (⟨3, 3⟩ : S.Cong) (⟨0, 0⟩ : S.Cong), (r7 = true → S.law20_CongCounts_pre (⟨1, 0⟩ : S.Cong) (-9223372036854775808) 9223372036854775807), (p9 = true → S.law20_works_pre)] ∧ True)))))))
