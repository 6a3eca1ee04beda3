/-
  Printed by a program for this claim: functions of the code as plain functions, and that the code comes to them. Conditions: those that each theorem states.
-/
import Derived.Test.YtpphpbphgnlmlaaVm14
set_option linter.all false
open Go Vm
@[ext] structure S.Inter where
  Lo : Int
  Hi : Int
def S.Inter.ok (x : S.Inter) : Prop := (inr .i64 x.Lo) ∧ (inr .i64 x.Hi) ∧ True
/-- sieveholeslaw19.ref -/
def S.law19_ref (i : S.Inter) : S.Inter :=
  i
/-- inter.Empty -/
def S.inter_Empty : S.Inter :=
  (⟨1, 0⟩ : S.Inter)
/-- inter.Of -/
def S.inter_Of (lo : Int) (hi : Int) : S.Inter :=
  let b1 : Bool := decide (lo > hi)
  let r2 : S.Inter := S.inter_Empty
  (bif b1 then r2 else (⟨lo, hi⟩ : S.Inter))
/-- (inter.Inter).plain -/
def S.inter_Inter_plain (i : S.Inter) : S.Inter :=
  let r1 : S.Inter := S.inter_Of i.Lo i.Hi
  r1
/-- (inter.Inter).IsEmpty -/
def S.inter_Inter_IsEmpty (i : S.Inter) : Bool :=
  let r1 : S.Inter := S.inter_Inter_plain i
  let r2 : S.Inter := S.inter_Empty
  let b3 : Bool := ((r1.Lo == r2.Lo) && (r1.Hi == r2.Hi))
  b3
/-- inter.Whole -/
def S.inter_Whole : S.Inter :=
  (⟨(-9223372036854775808), 9223372036854775807⟩ : S.Inter)
/-- (inter.Inter).Size -/
def S.inter_Inter_Size (i : S.Inter) : Int × Bool :=
  let r1 : Bool := S.inter_Inter_IsEmpty i
  let r2 : S.Inter := S.inter_Whole
  let b3 : Bool := ((i.Lo == r2.Lo) && (i.Hi == r2.Hi))
  let t4 : Int := IntKind.u64.wrap i.Hi
  let t5 : Int := IntKind.u64.wrap i.Lo
  let t6 : Int := IntKind.u64.wrap (t4 - t5)
  let t7 : Int := IntKind.u64.wrap (t6 + 1)
  (bif r1 then (0, true) else (bif b3 then (0, false) else (t7, true)))
/-- sieveholesref19.Empty -/
def S.ref19_Empty (i : S.Inter) : Bool :=
  let b1 : Bool := decide (i.Lo > i.Hi)
  b1
/-- sieveholesref19.Least -/
def S.ref19_Least : Int :=
  (-9223372036854775808)
/-- sieveholesref19.Most -/
def S.ref19_Most : Int :=
  9223372036854775807
/-- sieveholesref19.Size -/
def S.ref19_Size (i : S.Inter) : Int × Bool :=
  let r1 : Bool := S.ref19_Empty i
  let r2 : Int := S.ref19_Least
  let b3 : Bool := i.Lo == r2
  let r4 : Int := S.ref19_Most
  let b5 : Bool := i.Hi == r4
  let p6 : Bool := (b3 && b5)
  let t7 : Int := IntKind.i64.wrap (i.Hi - i.Lo)
  let t8 : Int := IntKind.u64.wrap t7
  let t9 : Int := IntKind.u64.wrap (t8 + 1)
  (bif r1 then (0, true) else (bif p6 then (0, false) else (t9, true)))
/-- inter.One -/
def S.inter_One (n : Int) : S.Inter :=
  (⟨n, n⟩ : S.Inter)
/-- (inter.Inter).Single -/
def S.inter_Inter_Single (i : S.Inter) : Int × Bool :=
  let r1 : S.Inter := S.inter_One i.Lo
  let b2 : Bool := !((i.Lo == r1.Lo) && (i.Hi == r1.Hi))
  (bif b2 then (0, false) else (i.Lo, true))
/-- (inter.Inter).Near -/
def S.inter_Inter_Near (i : S.Inter) (n : Int) : Int × Bool :=
  let r1 : Bool := S.inter_Inter_IsEmpty i
  let m2 : Int := if i.Hi < n then i.Hi else n
  let m3 : Int := if m2 > i.Lo then m2 else i.Lo
  (bif r1 then (0, false) else (m3, true))
/-- sieveholesref19.Near -/
def S.ref19_Near (i : S.Inter) (n : Int) : Int × Bool :=
  let r1 : Bool := S.ref19_Empty i
  let b2 : Bool := decide (n < i.Lo)
  let b3 : Bool := decide (n > i.Hi)
  (bif r1 then (0, false) else (bif b2 then (i.Lo, true) else (bif b3 then (i.Hi, true) else (n, true))))
/-- (inter.Inter).Has -/
def S.inter_Inter_Has (i : S.Inter) (n : Int) : Bool :=
  let b1 : Bool := decide (i.Lo ≤ n)
  let b2 : Bool := decide (n ≤ i.Hi)
  let p3 : Bool := (b1 && b2)
  p3
/-- sieveholesref19.Has -/
def S.ref19_Has (i : S.Inter) (n : Int) : Bool :=
  let b1 : Bool := decide (n ≥ i.Lo)
  let b2 : Bool := decide (n ≤ i.Hi)
  let p3 : Bool := (b1 && b2)
  p3
/-- inter.Within -/
def S.inter_Within (a : S.Inter) (b : S.Inter) : Bool :=
  let r1 : Bool := S.inter_Inter_IsEmpty a
  let r2 : Bool := S.inter_Inter_Has b a.Lo
  let r3 : Bool := S.inter_Inter_Has b a.Hi
  let p4 : Bool := (r2 && r3)
  let p5 : Bool := (r1 || p4)
  p5
/-- sieveholesref19.Within -/
def S.ref19_Within (a : S.Inter) (b : S.Inter) : Bool :=
  let r1 : Bool := S.ref19_Empty a
  let b2 : Bool := decide (a.Lo ≥ b.Lo)
  let b3 : Bool := decide (a.Hi ≤ b.Hi)
  let p4 : Bool := (b2 && b3)
  let p5 : Bool := (r1 || p4)
  p5
/-- inter.Same -/
def S.inter_Same (a : S.Inter) (b : S.Inter) : Bool :=
  let r1 : S.Inter := S.inter_Inter_plain a
  let r2 : S.Inter := S.inter_Inter_plain b
  let b3 : Bool := ((r1.Lo == r2.Lo) && (r1.Hi == r2.Hi))
  b3
/-- sieveholesref19.Plain -/
def S.ref19_Plain (i : S.Inter) : S.Inter :=
  let b1 : Bool := decide (i.Lo > i.Hi)
  (bif b1 then (⟨1, 0⟩ : S.Inter) else i)
/-- sieveholesref19.Same -/
def S.ref19_Same (a : S.Inter) (b : S.Inter) : Bool :=
  let r1 : S.Inter := S.ref19_Plain a
  let r2 : S.Inter := S.ref19_Plain b
  let b3 : Bool := ((r1.Lo == r2.Lo) && (r1.Hi == r2.Hi))
  b3
/-- inter.Join$1 -/
def S.inter_Join_1 (a : S.Inter) (b : S.Inter) : S.Inter :=
  let r1 : Bool := S.inter_Inter_IsEmpty a
  let r2 : Bool := S.inter_Inter_IsEmpty b
  let m3 : Int := if b.Lo < a.Lo then b.Lo else a.Lo
  let m4 : Int := if b.Hi > a.Hi then b.Hi else a.Hi
  (bif r1 then b else (bif r2 then a else (⟨m3, m4⟩ : S.Inter)))
/-- inter.Meet$1 -/
def S.inter_Meet_1 (a : S.Inter) (b : S.Inter) : S.Inter :=
  let m1 : Int := if b.Lo > a.Lo then b.Lo else a.Lo
  let m2 : Int := if b.Hi < a.Hi then b.Hi else a.Hi
  let r3 : S.Inter := S.inter_Of m1 m2
  r3
@[ext] structure S.inter_fold_75_L0 where
  t9 : (List S.Inter)
  t10 : Int
  t11 : Int
  first : S.Inter
def S.inter_fold_75_L0_step (x : S.inter_fold_75_L0) : S.inter_fold_75_L0 ⊕ (S.inter_fold_75_L0) :=
  let b1 : Bool := decide (x.t11 < x.t10)
  let e2 : S.Inter := x.t9.getD (Int.toNat x.t11) (⟨0, 0⟩ : S.Inter)
  let r3 : S.Inter := S.inter_Join_1 x.first e2
  let t4 : Int := IntKind.i64.wrap (x.t11 + 1)
  (bif b1 then (.inl ⟨x.t9, x.t10, t4, r3⟩) else (.inr ⟨x.t9, x.t10, x.t11, x.first⟩))
def S.inter_fold_75_L0_vcs (x : S.inter_fold_75_L0) : Prop :=
  let b1 : Bool := decide (x.t11 < x.t10)
  ((b1 = true → (All [0 ≤ x.t11, x.t11 < (x.t9.length : Int)] ∧ True)) ∧ (b1 = false → True))
noncomputable def S.inter_fold_75_L0_run (x : S.inter_fold_75_L0) : S.inter_fold_75_L0 := theRun (fun x => x) S.inter_fold_75_L0_step S.inter_fold_75_L0_vcs x
/-- inter.fold -/
noncomputable def S.inter_fold_75 (first : S.Inter) (l : (List S.Inter)) : S.Inter :=
  let x1 : S.inter_fold_75_L0 := (⟨l, (l.length : Int), 0, first⟩ : S.inter_fold_75_L0)
  let y2 : S.inter_fold_75_L0 := S.inter_fold_75_L0_run x1
  let r3 : S.Inter := S.inter_Inter_plain y2.first
  r3
def S.inter_fold_75_pre (first : S.Inter) (l : (List S.Inter)) : Prop :=
  let x1 : S.inter_fold_75_L0 := (⟨l, (l.length : Int), 0, first⟩ : S.inter_fold_75_L0)
  (All [Runs S.inter_fold_75_L0_step S.inter_fold_75_L0_vcs x1 (S.inter_fold_75_L0_run x1)] ∧ True)
@[ext] structure S.inter_fold_76_L0 where
  t9 : (List S.Inter)
  t10 : Int
  t11 : Int
  first : S.Inter
def S.inter_fold_76_L0_step (x : S.inter_fold_76_L0) : S.inter_fold_76_L0 ⊕ (S.inter_fold_76_L0) :=
  let b1 : Bool := decide (x.t11 < x.t10)
  let e2 : S.Inter := x.t9.getD (Int.toNat x.t11) (⟨0, 0⟩ : S.Inter)
  let r3 : S.Inter := S.inter_Meet_1 x.first e2
  let t4 : Int := IntKind.i64.wrap (x.t11 + 1)
  (bif b1 then (.inl ⟨x.t9, x.t10, t4, r3⟩) else (.inr ⟨x.t9, x.t10, x.t11, x.first⟩))
def S.inter_fold_76_L0_vcs (x : S.inter_fold_76_L0) : Prop :=
  let b1 : Bool := decide (x.t11 < x.t10)
  ((b1 = true → (All [0 ≤ x.t11, x.t11 < (x.t9.length : Int)] ∧ True)) ∧ (b1 = false → True))
noncomputable def S.inter_fold_76_L0_run (x : S.inter_fold_76_L0) : S.inter_fold_76_L0 := theRun (fun x => x) S.inter_fold_76_L0_step S.inter_fold_76_L0_vcs x
/-- inter.fold -/
noncomputable def S.inter_fold_76 (first : S.Inter) (l : (List S.Inter)) : S.Inter :=
  let x1 : S.inter_fold_76_L0 := (⟨l, (l.length : Int), 0, first⟩ : S.inter_fold_76_L0)
  let y2 : S.inter_fold_76_L0 := S.inter_fold_76_L0_run x1
  let r3 : S.Inter := S.inter_Inter_plain y2.first
  r3
def S.inter_fold_76_pre (first : S.Inter) (l : (List S.Inter)) : Prop :=
  let x1 : S.inter_fold_76_L0 := (⟨l, (l.length : Int), 0, first⟩ : S.inter_fold_76_L0)
  (All [Runs S.inter_fold_76_L0_step S.inter_fold_76_L0_vcs x1 (S.inter_fold_76_L0_run x1)] ∧ True)
/-- inter.Join -/
noncomputable def S.inter_Join (l : (List S.Inter)) : S.Inter :=
  let r1 : S.Inter := S.inter_Empty
  let r2 : S.Inter := S.inter_fold_75 r1 l
  r2
def S.inter_Join_pre (l : (List S.Inter)) : Prop :=
  let r1 : S.Inter := S.inter_Empty
  (All [S.inter_fold_75_pre r1 l] ∧ True)
/-- inter.Meet -/
noncomputable def S.inter_Meet (l : (List S.Inter)) : S.Inter :=
  let r1 : S.Inter := S.inter_Whole
  let r2 : S.Inter := S.inter_fold_76 r1 l
  r2
def S.inter_Meet_pre (l : (List S.Inter)) : Prop :=
  let r1 : S.Inter := S.inter_Whole
  (All [S.inter_fold_76_pre r1 l] ∧ True)
/-- inter.Widen -/
noncomputable def S.inter_Widen (a : S.Inter) (b : S.Inter) : S.Inter :=
  let r1 : S.Inter := S.inter_Join ([a, b] : List S.Inter)
  let r2 : Bool := S.inter_Inter_IsEmpty a
  let b3 : Bool := decide (r1.Lo < a.Lo)
  let b4 : Bool := decide (r1.Hi > a.Hi)
  (bif r2 then r1 else (⟨(bif b3 then (-9223372036854775808) else r1.Lo), (bif b4 then 9223372036854775807 else r1.Hi)⟩ : S.Inter))
def S.inter_Widen_pre (a : S.Inter) (b : S.Inter) : Prop :=
  let r2 : Bool := S.inter_Inter_IsEmpty a
  (All [S.inter_Join_pre ([a, b] : List S.Inter)] ∧ ((r2 = true → True) ∧ (r2 = false → True)))
/-- inter.Narrow -/
def S.inter_Narrow (a : S.Inter) (b : S.Inter) : S.Inter :=
  let r1 : Bool := S.inter_Inter_IsEmpty a
  let r2 : Bool := S.inter_Inter_IsEmpty b
  let p3 : Bool := (r1 || r2)
  let r4 : S.Inter := S.inter_Empty
  let b5 : Bool := a.Lo == (-9223372036854775808)
  let b6 : Bool := a.Hi == 9223372036854775807
  let r7 : S.Inter := S.inter_Inter_plain (⟨(bif b5 then b.Lo else a.Lo), (bif b6 then b.Hi else a.Hi)⟩ : S.Inter)
  (bif p3 then r4 else r7)
/-- sieveholeslaw19.works -/
noncomputable def S.law19_works : Bool :=
  let r1 : S.Inter := S.inter_Of 0 9223372036854775807
  let r2 : S.Inter := S.inter_Of (-1) 1
  let r3 : Int × Bool := S.inter_Inter_Size r2
  let r4 : S.Inter := S.inter_Whole
  let r5 : Int × Bool := S.inter_Inter_Size r4
  let r6 : S.Inter := S.inter_Of 1 3
  let r7 : S.Inter := S.inter_Of 7 9
  let r8 : S.Inter := S.inter_Join ([r6, r7] : List S.Inter)
  let b9 : Bool := ((r8.Lo == 1) && (r8.Hi == 9))
  let r10 : S.Inter := S.inter_Of 1 3
  let r11 : S.Inter := S.inter_Of 7 9
  let r12 : S.Inter := S.inter_Meet ([r10, r11] : List S.Inter)
  let b13 : Bool := ((r12.Lo == 1) && (r12.Hi == 0))
  let p14 : Bool := (b9 && b13)
  let r15 : S.Inter := S.inter_Of 0 5
  let r16 : S.Inter := S.inter_Of 0 6
  let r17 : S.Inter := S.inter_Widen r15 r16
  let b18 : Bool := ((r17.Lo == r1.Lo) && (r17.Hi == r1.Hi))
  let p19 : Bool := (p14 && b18)
  let r20 : S.Inter := S.inter_Of 0 9
  let r21 : S.Inter := S.inter_Narrow r1 r20
  let b22 : Bool := ((r21.Lo == 0) && (r21.Hi == 9))
  let p23 : Bool := (p19 && b22)
  let b24 : Bool := r3.1 == 3
  let p25 : Bool := (p23 && b24)
  let p26 : Bool := (p25 && r3.2)
  let b27 : Bool := !r5.2
  let p28 : Bool := (p26 && b27)
  p28
def S.law19_works_pre : Prop :=
  let r6 : S.Inter := S.inter_Of 1 3
  let r7 : S.Inter := S.inter_Of 7 9
  let r8 : S.Inter := S.inter_Join ([r6, r7] : List S.Inter)
  let b9 : Bool := ((r8.Lo == 1) && (r8.Hi == 9))
  let r10 : S.Inter := S.inter_Of 1 3
  let r11 : S.Inter := S.inter_Of 7 9
  let r12 : S.Inter := S.inter_Meet ([r10, r11] : List S.Inter)
  let b13 : Bool := ((r12.Lo == 1) && (r12.Hi == 0))
  let p14 : Bool := (b9 && b13)
  let r15 : S.Inter := S.inter_Of 0 5
  let r16 : S.Inter := S.inter_Of 0 6
  (All [S.inter_Join_pre ([r6, r7] : List S.Inter), (b9 = true → S.inter_Meet_pre ([r10, r11] : List S.Inter)), (p14 = true → S.inter_Widen_pre r15 r16)] ∧ True)
/-- sieveholeslaw19.InterTells -/
noncomputable def S.law19_InterTells (a : S.Inter) (b : S.Inter) (n : Int) : Bool :=
  let r1 : S.Inter := S.law19_ref a
  let r2 : S.Inter := S.law19_ref b
  let r3 : Int × Bool := S.inter_Inter_Size a
  let r4 : Int × Bool := S.ref19_Size r1
  let r5 : Int × Bool := S.inter_Inter_Single a
  let r6 : Int × Bool := S.inter_Inter_Near a n
  let r7 : Int × Bool := S.ref19_Near r1 n
  let b8 : Bool := r3.1 != r4.1
  let b9 : Bool := !(r3.2 == r4.2)
  let p10 : Bool := (b8 || b9)
  let b11 : Bool := a.Lo == a.Hi
  let b12 : Bool := !(r5.2 == b11)
  let p13 : Bool := (p10 || b12)
  let b14 : Bool := r5.1 != a.Lo
  let p15 : Bool := (r5.2 && b14)
  let p16 : Bool := (p13 || p15)
  let b17 : Bool := !r5.2
  let b18 : Bool := r5.1 != 0
  let p19 : Bool := (b17 && b18)
  let p20 : Bool := (p16 || p19)
  let b21 : Bool := r6.1 != r7.1
  let p22 : Bool := (p20 || b21)
  let b23 : Bool := !(r6.2 == r7.2)
  let p24 : Bool := (p22 || b23)
  let r25 : Int := S.ref19_Least
  let r26 : Int := S.ref19_Most
  let r27 : Bool := S.inter_Inter_IsEmpty a
  let r28 : Bool := S.ref19_Empty r1
  let b29 : Bool := r27 == r28
  let r30 : Bool := S.inter_Inter_Has a n
  let r31 : Bool := S.ref19_Has r1 n
  let b32 : Bool := r30 == r31
  let p33 : Bool := (b29 && b32)
  let r34 : Bool := S.inter_Within a b
  let r35 : Bool := S.ref19_Within r1 r2
  let b36 : Bool := r34 == r35
  let p37 : Bool := (p33 && b36)
  let r38 : Bool := S.inter_Same a b
  let r39 : Bool := S.ref19_Same r1 r2
  let b40 : Bool := r38 == r39
  let p41 : Bool := (p37 && b40)
  let r42 : S.Inter := S.inter_Of a.Lo b.Hi
  let r43 : S.Inter := S.law19_ref r42
  let r44 : S.Inter := S.ref19_Plain (⟨a.Lo, b.Hi⟩ : S.Inter)
  let b45 : Bool := ((r43.Lo == r44.Lo) && (r43.Hi == r44.Hi))
  let p46 : Bool := (p41 && b45)
  let r47 : S.Inter := S.inter_One n
  let r48 : S.Inter := S.law19_ref r47
  let b49 : Bool := ((r48.Lo == n) && (r48.Hi == n))
  let p50 : Bool := (p46 && b49)
  let r51 : S.Inter := S.inter_Whole
  let r52 : S.Inter := S.law19_ref r51
  let b53 : Bool := ((r52.Lo == r25) && (r52.Hi == r26))
  let p54 : Bool := (p50 && b53)
  let r55 : S.Inter := S.inter_Empty
  let r56 : S.Inter := S.law19_ref r55
  let b57 : Bool := ((r56.Lo == 1) && (r56.Hi == 0))
  let p58 : Bool := (p54 && b57)
  let r59 : Bool := S.law19_works
  let p60 : Bool := (p58 && r59)
  (bif p24 then false else p60)
def S.law19_InterTells_pre (a : S.Inter) (b : S.Inter) (n : Int) : Prop :=
  let r1 : S.Inter := S.law19_ref a
  let r2 : S.Inter := S.law19_ref b
  let r3 : Int × Bool := S.inter_Inter_Size a
  let r4 : Int × Bool := S.ref19_Size r1
  let r5 : Int × Bool := S.inter_Inter_Single a
  let r6 : Int × Bool := S.inter_Inter_Near a n
  let r7 : Int × Bool := S.ref19_Near r1 n
  let b8 : Bool := r3.1 != r4.1
  let b9 : Bool := !(r3.2 == r4.2)
  let p10 : Bool := (b8 || b9)
  let b11 : Bool := a.Lo == a.Hi
  let b12 : Bool := !(r5.2 == b11)
  let p13 : Bool := (p10 || b12)
  let b14 : Bool := r5.1 != a.Lo
  let p15 : Bool := (r5.2 && b14)
  let p16 : Bool := (p13 || p15)
  let b17 : Bool := !r5.2
  let b18 : Bool := r5.1 != 0
  let p19 : Bool := (b17 && b18)
  let p20 : Bool := (p16 || p19)
  let b21 : Bool := r6.1 != r7.1
  let p22 : Bool := (p20 || b21)
  let b23 : Bool := !(r6.2 == r7.2)
  let p24 : Bool := (p22 || b23)
  let r25 : Int := S.ref19_Least
  let r26 : Int := S.ref19_Most
  let r27 : Bool := S.inter_Inter_IsEmpty a
  let r28 : Bool := S.ref19_Empty r1
  let b29 : Bool := r27 == r28
  let r30 : Bool := S.inter_Inter_Has a n
  let r31 : Bool := S.ref19_Has r1 n
  let b32 : Bool := r30 == r31
  let p33 : Bool := (b29 && b32)
  let r34 : Bool := S.inter_Within a b
  let r35 : Bool := S.ref19_Within r1 r2
  let b36 : Bool := r34 == r35
  let p37 : Bool := (p33 && b36)
  let r38 : Bool := S.inter_Same a b
  let r39 : Bool := S.ref19_Same r1 r2
  let b40 : Bool := r38 == r39
  let p41 : Bool := (p37 && b40)
  let r42 : S.Inter := S.inter_Of a.Lo b.Hi
  let r43 : S.Inter := S.law19_ref r42
  let r44 : S.Inter := S.ref19_Plain (⟨a.Lo, b.Hi⟩ : S.Inter)
  let b45 : Bool := ((r43.Lo == r44.Lo) && (r43.Hi == r44.Hi))
  let p46 : Bool := (p41 && b45)
  let r47 : S.Inter := S.inter_One n
  let r48 : S.Inter := S.law19_ref r47
  let b49 : Bool := ((r48.Lo == n) && (r48.Hi == n))
  let p50 : Bool := (p46 && b49)
  let r51 : S.Inter := S.inter_Whole
  let r52 : S.Inter := S.law19_ref r51
  let b53 : Bool := ((r52.Lo == r25) && (r52.Hi == r26))
  let p54 : Bool := (p50 && b53)
  let r55 : S.Inter := S.inter_Empty
  let r56 : S.Inter := S.law19_ref r55
  let b57 : Bool := ((r56.Lo == 1) && (r56.Hi == 0))
  let p58 : Bool := (p54 && b57)
  ((p24 = true → True) ∧ (p24 = false → (All [(p58 = true → S.law19_works_pre)] ∧ True)))
/-- sieveholesref19.Join -/
def S.ref19_Join (a : S.Inter) (b : S.Inter) : S.Inter :=
  let r1 : Bool := S.ref19_Empty a
  let r2 : S.Inter := S.ref19_Plain b
  let r3 : Bool := S.ref19_Empty b
  let m4 : Int := if b.Lo < a.Lo then b.Lo else a.Lo
  let m5 : Int := if b.Hi > a.Hi then b.Hi else a.Hi
  (bif r1 then r2 else (bif r3 then a else (⟨m4, m5⟩ : S.Inter)))
/-- sieveholesref19.Meet -/
def S.ref19_Meet (a : S.Inter) (b : S.Inter) : S.Inter :=
  let m1 : Int := if b.Lo > a.Lo then b.Lo else a.Lo
  let m2 : Int := if b.Hi < a.Hi then b.Hi else a.Hi
  let r3 : S.Inter := S.ref19_Plain (⟨m1, m2⟩ : S.Inter)
  r3
/-- sieveholesref19.Widen -/
def S.ref19_Widen (a : S.Inter) (b : S.Inter) : S.Inter :=
  let r1 : Bool := S.ref19_Empty a
  let r2 : S.Inter := S.ref19_Plain b
  let r3 : Bool := S.ref19_Empty b
  let b4 : Bool := decide (b.Lo < a.Lo)
  let r5 : Int := S.ref19_Least
  let b6 : Bool := decide (b.Hi > a.Hi)
  let r7 : Int := S.ref19_Most
  (bif r1 then r2 else (bif r3 then a else (⟨(bif b4 then r5 else a.Lo), (bif b6 then r7 else a.Hi)⟩ : S.Inter)))
/-- sieveholesref19.Narrow -/
def S.ref19_Narrow (a : S.Inter) (b : S.Inter) : S.Inter :=
  let r1 : Bool := S.ref19_Empty a
  let r2 : Bool := S.ref19_Empty b
  let p3 : Bool := (r1 || r2)
  let r4 : Int := S.ref19_Least
  let b5 : Bool := a.Lo == r4
  let r6 : Int := S.ref19_Most
  let b7 : Bool := a.Hi == r6
  let r8 : S.Inter := S.ref19_Plain (⟨(bif b5 then b.Lo else a.Lo), (bif b7 then b.Hi else a.Hi)⟩ : S.Inter)
  (bif p3 then (⟨1, 0⟩ : S.Inter) else r8)
@[ext] structure S.law19_InterJoins_L0 where
  l : (List S.Inter)
  i : Int
  join : S.Inter
  meet : S.Inter
def S.law19_InterJoins_L0_step (x : S.law19_InterJoins_L0) : S.law19_InterJoins_L0 ⊕ (S.law19_InterJoins_L0) :=
  let b1 : Bool := decide (x.i < (x.l.length : Int))
  let e2 : S.Inter := x.l.getD (Int.toNat x.i) (⟨0, 0⟩ : S.Inter)
  let r3 : S.Inter := S.law19_ref e2
  let r4 : S.Inter := S.ref19_Join x.join r3
  let e5 : S.Inter := x.l.getD (Int.toNat x.i) (⟨0, 0⟩ : S.Inter)
  let r6 : S.Inter := S.law19_ref e5
  let r7 : S.Inter := S.ref19_Meet x.meet r6
  let t8 : Int := IntKind.i64.wrap (x.i + 1)
  (bif b1 then (.inl ⟨x.l, t8, r4, r7⟩) else (.inr ⟨x.l, x.i, x.join, x.meet⟩))
def S.law19_InterJoins_L0_vcs (x : S.law19_InterJoins_L0) : Prop :=
  let b1 : Bool := decide (x.i < (x.l.length : Int))
  ((b1 = true → (All [0 ≤ x.i, x.i < (x.l.length : Int), 0 ≤ x.i, x.i < (x.l.length : Int)] ∧ True)) ∧ (b1 = false → True))
noncomputable def S.law19_InterJoins_L0_run (x : S.law19_InterJoins_L0) : S.law19_InterJoins_L0 := theRun (fun x => x) S.law19_InterJoins_L0_step S.law19_InterJoins_L0_vcs x
/-- sieveholeslaw19.InterJoins -/
noncomputable def S.law19_InterJoins (l : (List S.Inter)) (a : S.Inter) (b : S.Inter) : Bool :=
  let b1 : Bool := decide ((l.length : Int) > 20)
  let r2 : Bool := S.law19_works
  let r3 : Int := S.ref19_Least
  let r4 : Int := S.ref19_Most
  let x5 : S.law19_InterJoins_L0 := (⟨l, 0, (⟨1, 0⟩ : S.Inter), (⟨r3, r4⟩ : S.Inter)⟩ : S.law19_InterJoins_L0)
  let y6 : S.law19_InterJoins_L0 := S.law19_InterJoins_L0_run x5
  let r7 : S.Inter := S.inter_Join y6.l
  let r8 : S.Inter := S.law19_ref r7
  let b9 : Bool := ((r8.Lo == y6.join.Lo) && (r8.Hi == y6.join.Hi))
  let r10 : S.Inter := S.inter_Meet y6.l
  let r11 : S.Inter := S.law19_ref r10
  let b12 : Bool := ((r11.Lo == y6.meet.Lo) && (r11.Hi == y6.meet.Hi))
  let p13 : Bool := (b9 && b12)
  let r14 : S.Inter := S.inter_Join ([a, b] : List S.Inter)
  let r15 : S.Inter := S.law19_ref r14
  let r16 : S.Inter := S.law19_ref a
  let r17 : S.Inter := S.law19_ref b
  let r18 : S.Inter := S.ref19_Join r16 r17
  let b19 : Bool := ((r15.Lo == r18.Lo) && (r15.Hi == r18.Hi))
  let p20 : Bool := (p13 && b19)
  let r21 : S.Inter := S.inter_Widen a b
  let r22 : S.Inter := S.law19_ref r21
  let r23 : S.Inter := S.law19_ref a
  let r24 : S.Inter := S.law19_ref b
  let r25 : S.Inter := S.ref19_Widen r23 r24
  let b26 : Bool := ((r22.Lo == r25.Lo) && (r22.Hi == r25.Hi))
  let p27 : Bool := (p20 && b26)
  let r28 : S.Inter := S.inter_Narrow a b
  let r29 : S.Inter := S.law19_ref r28
  let r30 : S.Inter := S.law19_ref a
  let r31 : S.Inter := S.law19_ref b
  let r32 : S.Inter := S.ref19_Narrow r30 r31
  let b33 : Bool := ((r29.Lo == r32.Lo) && (r29.Hi == r32.Hi))
  let p34 : Bool := (p27 && b33)
  let r35 : Bool := S.law19_works
  let p36 : Bool := (p34 && r35)
  (bif b1 then r2 else p36)
def S.law19_InterJoins_pre (l : (List S.Inter)) (a : S.Inter) (b : S.Inter) : Prop :=
  let b1 : Bool := decide ((l.length : Int) > 20)
  let r3 : Int := S.ref19_Least
  let r4 : Int := S.ref19_Most
  let x5 : S.law19_InterJoins_L0 := (⟨l, 0, (⟨1, 0⟩ : S.Inter), (⟨r3, r4⟩ : S.Inter)⟩ : S.law19_InterJoins_L0)
  let y6 : S.law19_InterJoins_L0 := S.law19_InterJoins_L0_run x5
  let r7 : S.Inter := S.inter_Join y6.l
  let r8 : S.Inter := S.law19_ref r7
  let b9 : Bool := ((r8.Lo == y6.join.Lo) && (r8.Hi == y6.join.Hi))
  let r10 : S.Inter := S.inter_Meet y6.l
  let r11 : S.Inter := S.law19_ref r10
  let b12 : Bool := ((r11.Lo == y6.meet.Lo) && (r11.Hi == y6.meet.Hi))
  let p13 : Bool := (b9 && b12)
  let r14 : S.Inter := S.inter_Join ([a, b] : List S.Inter)
  let r15 : S.Inter := S.law19_ref r14
  let r16 : S.Inter := S.law19_ref a
  let r17 : S.Inter := S.law19_ref b
  let r18 : S.Inter := S.ref19_Join r16 r17
  let b19 : Bool := ((r15.Lo == r18.Lo) && (r15.Hi == r18.Hi))
  let p20 : Bool := (p13 && b19)
  let r21 : S.Inter := S.inter_Widen a b
  let r22 : S.Inter := S.law19_ref r21
  let r23 : S.Inter := S.law19_ref a
  let r24 : S.Inter := S.law19_ref b
  let r25 : S.Inter := S.ref19_Widen r23 r24
  let b26 : Bool := ((r22.Lo == r25.Lo) && (r22.Hi == r25.Hi))
  let p27 : Bool := (p20 && b26)
  let r28 : S.Inter := S.inter_Narrow a b
  let r29 : S.Inter := S.law19_ref r28
  let r30 : S.Inter := S.law19_ref a
  let r31 : S.Inter := S.law19_ref b
  let r32 : S.Inter := S.ref19_Narrow r30 r31
  let b33 : Bool := ((r29.Lo == r32.Lo) && (r29.Hi == r32.Hi))
  let p34 : Bool := (p27 && b33)
  ((b1 = true → (All [S.law19_works_pre] ∧ True)) ∧ (b1 = false → (All [Runs S.law19_InterJoins_L0_step S.law19_InterJoins_L0_vcs x5 (S.law19_InterJoins_L0_run x5), S.inter_Join_pre y6.l, (b9 = true → S.inter_Meet_pre y6.l), (p13 = true → S.inter_Join_pre ([a, b] : List S.Inter)), (p20 = true → S.inter_Widen_pre a b), (p34 = true → S.law19_works_pre)] ∧ True)))
@[ext] structure S.law19_InterLattice_L0 where
  l : (List S.Inter)
  turns : Int
  i : Int
  vx : S.Inter
noncomputable def S.law19_InterLattice_L0_step (x : S.law19_InterLattice_L0) : S.law19_InterLattice_L0 ⊕ (S.law19_InterLattice_L0) :=
  let b1 : Bool := decide (x.i < (x.l.length : Int))
  let e2 : S.Inter := x.l.getD (Int.toNat x.i) (⟨0, 0⟩ : S.Inter)
  let r3 : S.Inter := S.inter_Widen x.vx e2
  let r4 : Bool := S.inter_Same x.vx r3
  let b5 : Bool := !r4
  let t6 : Int := IntKind.i64.wrap (x.turns + 1)
  let t7 : Int := IntKind.i64.wrap (x.i + 1)
  (bif b1 then (.inl ⟨x.l, (bif b5 then t6 else x.turns), t7, r3⟩) else (.inr ⟨x.l, x.turns, x.i, x.vx⟩))
def S.law19_InterLattice_L0_vcs (x : S.law19_InterLattice_L0) : Prop :=
  let b1 : Bool := decide (x.i < (x.l.length : Int))
  let e2 : S.Inter := x.l.getD (Int.toNat x.i) (⟨0, 0⟩ : S.Inter)
  ((b1 = true → (All [0 ≤ x.i, x.i < (x.l.length : Int), S.inter_Widen_pre x.vx e2] ∧ True)) ∧ (b1 = false → True))
noncomputable def S.law19_InterLattice_L0_run (x : S.law19_InterLattice_L0) : S.law19_InterLattice_L0 := theRun (fun x => x) S.law19_InterLattice_L0_step S.law19_InterLattice_L0_vcs x
/-- sieveholeslaw19.InterLattice -/
noncomputable def S.law19_InterLattice (a : S.Inter) (b : S.Inter) (c : S.Inter) (n : Int) (l : (List S.Inter)) : Bool :=
  let b1 : Bool := decide ((l.length : Int) > 30)
  let r2 : Bool := S.law19_works
  let r3 : S.Inter := S.inter_Join ([a, b] : List S.Inter)
  let r4 : S.Inter := S.inter_Meet ([a, b] : List S.Inter)
  let r5 : Bool := S.inter_Inter_Has a n
  let r6 : Bool := S.inter_Inter_Has b n
  let p7 : Bool := (r5 || r6)
  let r8 : Bool := S.inter_Inter_Has r3 n
  let b9 : Bool := !r8
  let p10 : Bool := (p7 && b9)
  let r11 : Bool := S.inter_Inter_Has r4 n
  let r12 : Bool := S.inter_Inter_Has a n
  let r13 : Bool := S.inter_Inter_Has b n
  let p14 : Bool := (r12 && r13)
  let b15 : Bool := !(r11 == p14)
  let p16 : Bool := (p10 || b15)
  let r17 : S.Inter := S.inter_Join ([b, a] : List S.Inter)
  let b18 : Bool := !((r3.Lo == r17.Lo) && (r3.Hi == r17.Hi))
  let p19 : Bool := (p16 || b18)
  let r20 : S.Inter := S.inter_Meet ([b, a] : List S.Inter)
  let b21 : Bool := !((r4.Lo == r20.Lo) && (r4.Hi == r20.Hi))
  let p22 : Bool := (p19 || b21)
  let r23 : S.Inter := S.inter_Join ([r3, c] : List S.Inter)
  let r24 : S.Inter := S.inter_Join ([b, c] : List S.Inter)
  let r25 : S.Inter := S.inter_Join ([a, r24] : List S.Inter)
  let b26 : Bool := !((r23.Lo == r25.Lo) && (r23.Hi == r25.Hi))
  let r27 : S.Inter := S.inter_Meet ([r4, c] : List S.Inter)
  let r28 : S.Inter := S.inter_Meet ([b, c] : List S.Inter)
  let r29 : S.Inter := S.inter_Meet ([a, r28] : List S.Inter)
  let b30 : Bool := !((r27.Lo == r29.Lo) && (r27.Hi == r29.Hi))
  let p31 : Bool := (b26 || b30)
  let r32 : S.Inter := S.inter_Join ([a, r4] : List S.Inter)
  let r33 : Bool := S.inter_Same r32 a
  let b34 : Bool := !r33
  let p35 : Bool := (p31 || b34)
  let r36 : S.Inter := S.inter_Meet ([a, r3] : List S.Inter)
  let r37 : Bool := S.inter_Same r36 a
  let b38 : Bool := !r37
  let p39 : Bool := (p35 || b38)
  let r40 : Bool := S.inter_Within a b
  let r41 : Bool := S.inter_Same r3 b
  let b42 : Bool := !(r40 == r41)
  let p43 : Bool := (p39 || b42)
  let r44 : S.Inter := S.inter_Widen a b
  let r45 : Bool := S.inter_Within r3 r44
  let b46 : Bool := !r45
  let r47 : Bool := S.inter_Inter_Has a n
  let r48 : Bool := S.inter_Inter_Has b n
  let p49 : Bool := (r47 && r48)
  let r50 : S.Inter := S.inter_Narrow a b
  let r51 : Bool := S.inter_Inter_Has r50 n
  let b52 : Bool := !r51
  let p53 : Bool := (p49 && b52)
  let p54 : Bool := (b46 || p53)
  let r55 : Bool := S.inter_Within b a
  let r56 : S.Inter := S.inter_Narrow a b
  let r57 : Bool := S.inter_Within r56 a
  let b58 : Bool := !r57
  let p59 : Bool := (r55 && b58)
  let p60 : Bool := (p54 || p59)
  let x61 : S.law19_InterLattice_L0 := (⟨l, 0, 0, a⟩ : S.law19_InterLattice_L0)
  let y62 : S.law19_InterLattice_L0 := S.law19_InterLattice_L0_run x61
  let b63 : Bool := decide (y62.turns ≤ 3)
  let r64 : Bool := S.law19_works
  let p65 : Bool := (b63 && r64)
  (bif b1 then r2 else (bif p22 then false else (bif p43 then false else (bif p60 then false else p65))))
def S.law19_InterLattice_pre (a : S.Inter) (b : S.Inter) (c : S.Inter) (n : Int) (l : (List S.Inter)) : Prop :=
  let b1 : Bool := decide ((l.length : Int) > 30)
  let r3 : S.Inter := S.inter_Join ([a, b] : List S.Inter)
  let r4 : S.Inter := S.inter_Meet ([a, b] : List S.Inter)
  let r5 : Bool := S.inter_Inter_Has a n
  let r6 : Bool := S.inter_Inter_Has b n
  let p7 : Bool := (r5 || r6)
  let r8 : Bool := S.inter_Inter_Has r3 n
  let b9 : Bool := !r8
  let p10 : Bool := (p7 && b9)
  let r11 : Bool := S.inter_Inter_Has r4 n
  let r12 : Bool := S.inter_Inter_Has a n
  let r13 : Bool := S.inter_Inter_Has b n
  let p14 : Bool := (r12 && r13)
  let b15 : Bool := !(r11 == p14)
  let p16 : Bool := (p10 || b15)
  let r17 : S.Inter := S.inter_Join ([b, a] : List S.Inter)
  let b18 : Bool := !((r3.Lo == r17.Lo) && (r3.Hi == r17.Hi))
  let p19 : Bool := (p16 || b18)
  let r20 : S.Inter := S.inter_Meet ([b, a] : List S.Inter)
  let b21 : Bool := !((r4.Lo == r20.Lo) && (r4.Hi == r20.Hi))
  let p22 : Bool := (p19 || b21)
  let r23 : S.Inter := S.inter_Join ([r3, c] : List S.Inter)
  let r24 : S.Inter := S.inter_Join ([b, c] : List S.Inter)
  let r25 : S.Inter := S.inter_Join ([a, r24] : List S.Inter)
  let b26 : Bool := !((r23.Lo == r25.Lo) && (r23.Hi == r25.Hi))
  let r27 : S.Inter := S.inter_Meet ([r4, c] : List S.Inter)
  let r28 : S.Inter := S.inter_Meet ([b, c] : List S.Inter)
  let r29 : S.Inter := S.inter_Meet ([a, r28] : List S.Inter)
  let b30 : Bool := !((r27.Lo == r29.Lo) && (r27.Hi == r29.Hi))
  let p31 : Bool := (b26 || b30)
  let r32 : S.Inter := S.inter_Join ([a, r4] : List S.Inter)
  let r33 : Bool := S.inter_Same r32 a
  let b34 : Bool := !r33
  let p35 : Bool := (p31 || b34)
  let r36 : S.Inter := S.inter_Meet ([a, r3] : List S.Inter)
  let r37 : Bool := S.inter_Same r36 a
  let b38 : Bool := !r37
  let p39 : Bool := (p35 || b38)
  let r40 : Bool := S.inter_Within a b
  let r41 : Bool := S.inter_Same r3 b
  let b42 : Bool := !(r40 == r41)
  let p43 : Bool := (p39 || b42)
  let r44 : S.Inter := S.inter_Widen a b
  let r45 : Bool := S.inter_Within r3 r44
  let b46 : Bool := !r45
  let r47 : Bool := S.inter_Inter_Has a n
  let r48 : Bool := S.inter_Inter_Has b n
  let p49 : Bool := (r47 && r48)
  let r50 : S.Inter := S.inter_Narrow a b
  let r51 : Bool := S.inter_Inter_Has r50 n
  let b52 : Bool := !r51
  let p53 : Bool := (p49 && b52)
  let p54 : Bool := (b46 || p53)
  let r55 : Bool := S.inter_Within b a
  let r56 : S.Inter := S.inter_Narrow a b
  let r57 : Bool := S.inter_Within r56 a
  let b58 : Bool := !r57
  let p59 : Bool := (r55 && b58)
  let p60 : Bool := (p54 || p59)
  let x61 : S.law19_InterLattice_L0 := (⟨l, 0, 0, a⟩ : S.law19_InterLattice_L0)
  let y62 : S.law19_InterLattice_L0 := S.law19_InterLattice_L0_run x61
  let b63 : Bool := decide (y62.turns ≤ 3)
  ((b1 = true → (All [S.law19_works_pre] ∧ True)) ∧ (b1 = false → (All [S.inter_Join_pre ([a, b] : List S.Inter), S.inter_Meet_pre ([a, b] : List S.Inter), (p16 = false → S.inter_Join_pre ([b, a] : List S.Inter)), (p19 = false → S.inter_Meet_pre ([b, a] : List S.Inter))] ∧ ((p22 = true → True) ∧ (p22 = false → (All [S.inter_Join_pre ([r3, c] : List S.Inter), S.inter_Join_pre ([b, c] : List S.Inter), S.inter_Join_pre ([a, r24] : List S.Inter), (b26 = false → S.inter_Meet_pre ([r4, c] : List S.Inter)), (b26 = false → S.inter_Meet_pre ([b, c] : List S.Inter)), (b26 = false → S.inter_Meet_pre ([a, r28] : List S.Inter)), (p31 = false → S.inter_Join_pre ([a, r4] : List S.Inter)), (p35 = false → S.inter_Meet_pre ([a, r3] : List S.Inter))] ∧ ((p43 = true → True) ∧ (p43 = false → (All [S.inter_Widen_pre a b] ∧ ((p60 = true → True) ∧ (p60 = false → (All [Runs S.law19_InterLattice_L0_step S.law19_InterLattice_L0_vcs x61 (S.law19_InterLattice_L0_run x61), (b63 = true → S.law19_works_pre)] ∧ True))))))))))))
