/-
  Printed by a program out of the plain texts of another seat: what the smaller packages' functions compute, in plain words. Conditions: those that each theorem states.
-/
import Derived.Test.YtcgafjhkefcdfaaGreatDoorQSDefs
import Derived.IntWalk
set_option linter.all false
open Go Vm
def S.ref19_Empty (i : S.Inter) : Bool :=
  let b1 : Bool := decide (i.Lo > i.Hi)
  b1
def S.ref19_Least : Int :=
  (-9223372036854775808)
def S.ref19_Most : Int :=
  9223372036854775807
def S.ref19_Has (i : S.Inter) (n : Int) : Bool :=
  let b1 : Bool := decide (n ≥ i.Lo)
  let b2 : Bool := decide (n ≤ i.Hi)
  let p3 : Bool := (b1 && b2)
  p3
def S.ref19_Within (a : S.Inter) (b : S.Inter) : Bool :=
  let r1 : Bool := S.ref19_Empty a
  let b2 : Bool := decide (a.Lo ≥ b.Lo)
  let b3 : Bool := decide (a.Hi ≤ b.Hi)
  let p4 : Bool := (b2 && b3)
  let p5 : Bool := (r1 || p4)
  p5
def S.inter_Same (a : S.Inter) (b : S.Inter) : Bool :=
  let r1 : S.Inter := S.inter_Inter_plain a
  let r2 : S.Inter := S.inter_Inter_plain b
  let b3 : Bool := ((r1.Lo == r2.Lo) && (r1.Hi == r2.Hi))
  b3
def S.ref19_Plain (i : S.Inter) : S.Inter :=
  let b1 : Bool := decide (i.Lo > i.Hi)
  (bif b1 then (⟨1, 0⟩ : S.Inter) else i)
def S.ref19_Same (a : S.Inter) (b : S.Inter) : Bool :=
  let r1 : S.Inter := S.ref19_Plain a
  let r2 : S.Inter := S.ref19_Plain b
  let b3 : Bool := ((r1.Lo == r2.Lo) && (r1.Hi == r2.Hi))
  b3
def S.inter_Join_1 (a : S.Inter) (b : S.Inter) : S.Inter :=
  let r1 : Bool := S.inter_Inter_IsEmpty a
  let r2 : Bool := S.inter_Inter_IsEmpty b
  let m3 : Int := if b.Lo < a.Lo then b.Lo else a.Lo
  let m4 : Int := if b.Hi > a.Hi then b.Hi else a.Hi
  (bif r1 then b else (bif r2 then a else (⟨m3, m4⟩ : S.Inter)))
def S.inter_Meet_1 (a : S.Inter) (b : S.Inter) : S.Inter :=
  let m1 : Int := if b.Lo > a.Lo then b.Lo else a.Lo
  let m2 : Int := if b.Hi < a.Hi then b.Hi else a.Hi
  let r3 : S.Inter := S.inter_Of m1 m2
  r3
@[ext] structure S.inter_fold_inter_Join_1_L0 where
  t9 : (List S.Inter)
  t10 : Int
  t11 : Int
  first : S.Inter
def S.inter_fold_inter_Join_1_L0_step (x : S.inter_fold_inter_Join_1_L0) : S.inter_fold_inter_Join_1_L0 ⊕ (S.inter_fold_inter_Join_1_L0) :=
  let b1 : Bool := decide (x.t11 < x.t10)
  let e2 : S.Inter := x.t9.getD (Int.toNat x.t11) (⟨0, 0⟩ : S.Inter)
  let r3 : S.Inter := S.inter_Join_1 x.first e2
  let t4 : Int := IntKind.i64.wrap (x.t11 + 1)
  (bif b1 then (.inl ⟨x.t9, x.t10, t4, r3⟩) else (.inr ⟨x.t9, x.t10, x.t11, x.first⟩))
def S.inter_fold_inter_Join_1_L0_vcs (x : S.inter_fold_inter_Join_1_L0) : Prop :=
  let b1 : Bool := decide (x.t11 < x.t10)
  ((b1 = true → (All [(0 : Int) ≤ x.t11, x.t11 < (x.t9.length : Int)] ∧ True)) ∧ (b1 = false → True))
noncomputable def S.inter_fold_inter_Join_1_L0_run (x : S.inter_fold_inter_Join_1_L0) : S.inter_fold_inter_Join_1_L0 := theRun (fun x => x) S.inter_fold_inter_Join_1_L0_step S.inter_fold_inter_Join_1_L0_vcs x
noncomputable def S.inter_fold_inter_Join_1 (first : S.Inter) (l : (List S.Inter)) : S.Inter :=
  let x1 : S.inter_fold_inter_Join_1_L0 := (⟨l, (l.length : Int), 0, first⟩ : S.inter_fold_inter_Join_1_L0)
  let y2 : S.inter_fold_inter_Join_1_L0 := S.inter_fold_inter_Join_1_L0_run x1
  let r3 : S.Inter := S.inter_Inter_plain y2.first
  r3
def S.inter_fold_inter_Join_1_pre (first : S.Inter) (l : (List S.Inter)) : Prop :=
  let x1 : S.inter_fold_inter_Join_1_L0 := (⟨l, (l.length : Int), 0, first⟩ : S.inter_fold_inter_Join_1_L0)
  (All [Runs S.inter_fold_inter_Join_1_L0_step S.inter_fold_inter_Join_1_L0_vcs x1 (S.inter_fold_inter_Join_1_L0_run x1)] ∧ True)
@[ext] structure S.inter_fold_inter_Meet_1_L0 where
  t9 : (List S.Inter)
  t10 : Int
  t11 : Int
  first : S.Inter
def S.inter_fold_inter_Meet_1_L0_step (x : S.inter_fold_inter_Meet_1_L0) : S.inter_fold_inter_Meet_1_L0 ⊕ (S.inter_fold_inter_Meet_1_L0) :=
  let b1 : Bool := decide (x.t11 < x.t10)
  let e2 : S.Inter := x.t9.getD (Int.toNat x.t11) (⟨0, 0⟩ : S.Inter)
  let r3 : S.Inter := S.inter_Meet_1 x.first e2
  let t4 : Int := IntKind.i64.wrap (x.t11 + 1)
  (bif b1 then (.inl ⟨x.t9, x.t10, t4, r3⟩) else (.inr ⟨x.t9, x.t10, x.t11, x.first⟩))
def S.inter_fold_inter_Meet_1_L0_vcs (x : S.inter_fold_inter_Meet_1_L0) : Prop :=
  let b1 : Bool := decide (x.t11 < x.t10)
  ((b1 = true → (All [(0 : Int) ≤ x.t11, x.t11 < (x.t9.length : Int)] ∧ True)) ∧ (b1 = false → True))
noncomputable def S.inter_fold_inter_Meet_1_L0_run (x : S.inter_fold_inter_Meet_1_L0) : S.inter_fold_inter_Meet_1_L0 := theRun (fun x => x) S.inter_fold_inter_Meet_1_L0_step S.inter_fold_inter_Meet_1_L0_vcs x
noncomputable def S.inter_fold_inter_Meet_1 (first : S.Inter) (l : (List S.Inter)) : S.Inter :=
  let x1 : S.inter_fold_inter_Meet_1_L0 := (⟨l, (l.length : Int), 0, first⟩ : S.inter_fold_inter_Meet_1_L0)
  let y2 : S.inter_fold_inter_Meet_1_L0 := S.inter_fold_inter_Meet_1_L0_run x1
  let r3 : S.Inter := S.inter_Inter_plain y2.first
  r3
def S.inter_fold_inter_Meet_1_pre (first : S.Inter) (l : (List S.Inter)) : Prop :=
  let x1 : S.inter_fold_inter_Meet_1_L0 := (⟨l, (l.length : Int), 0, first⟩ : S.inter_fold_inter_Meet_1_L0)
  (All [Runs S.inter_fold_inter_Meet_1_L0_step S.inter_fold_inter_Meet_1_L0_vcs x1 (S.inter_fold_inter_Meet_1_L0_run x1)] ∧ True)
noncomputable def S.inter_Join (l : (List S.Inter)) : S.Inter :=
  let r1 : S.Inter := S.inter_Empty
  let r2 : S.Inter := S.inter_fold_inter_Join_1 r1 l
  r2
def S.inter_Join_pre (l : (List S.Inter)) : Prop :=
  let r1 : S.Inter := S.inter_Empty
  (All [S.inter_fold_inter_Join_1_pre r1 l] ∧ True)
noncomputable def S.inter_Meet (l : (List S.Inter)) : S.Inter :=
  let r1 : S.Inter := S.inter_Whole
  let r2 : S.Inter := S.inter_fold_inter_Meet_1 r1 l
  r2
def S.inter_Meet_pre (l : (List S.Inter)) : Prop :=
  let r1 : S.Inter := S.inter_Whole
  (All [S.inter_fold_inter_Meet_1_pre r1 l] ∧ True)
noncomputable def S.inter_Widen (a : S.Inter) (b : S.Inter) : S.Inter :=
  let r1 : S.Inter := S.inter_Join ([a, b] : List S.Inter)
  let r2 : Bool := S.inter_Inter_IsEmpty a
  let b3 : Bool := decide (r1.Lo < a.Lo)
  let b4 : Bool := decide (r1.Hi > a.Hi)
  (bif r2 then r1 else (⟨(bif b3 then (-9223372036854775808) else r1.Lo), (bif b4 then 9223372036854775807 else r1.Hi)⟩ : S.Inter))
def S.inter_Widen_pre (a : S.Inter) (b : S.Inter) : Prop :=
  let r2 : Bool := S.inter_Inter_IsEmpty a
  (All [S.inter_Join_pre ([a, b] : List S.Inter)] ∧ ((r2 = true → True) ∧ (r2 = false → True)))
def S.inter_Narrow (a : S.Inter) (b : S.Inter) : S.Inter :=
  let r1 : Bool := S.inter_Inter_IsEmpty a
  let r2 : Bool := S.inter_Inter_IsEmpty b
  let p3 : Bool := (r1 || r2)
  let r4 : S.Inter := S.inter_Empty
  let b5 : Bool := a.Lo == (-9223372036854775808)
  let b6 : Bool := a.Hi == 9223372036854775807
  let r7 : S.Inter := S.inter_Inter_plain (⟨(bif b5 then b.Lo else a.Lo), (bif b6 then b.Hi else a.Hi)⟩ : S.Inter)
  (bif p3 then r4 else r7)
def S.ref19_Join (a : S.Inter) (b : S.Inter) : S.Inter :=
  let r1 : Bool := S.ref19_Empty a
  let r2 : S.Inter := S.ref19_Plain b
  let r3 : Bool := S.ref19_Empty b
  let m4 : Int := if b.Lo < a.Lo then b.Lo else a.Lo
  let m5 : Int := if b.Hi > a.Hi then b.Hi else a.Hi
  (bif r1 then r2 else (bif r3 then a else (⟨m4, m5⟩ : S.Inter)))
def S.ref19_Meet (a : S.Inter) (b : S.Inter) : S.Inter :=
  let m1 : Int := if b.Lo > a.Lo then b.Lo else a.Lo
  let m2 : Int := if b.Hi < a.Hi then b.Hi else a.Hi
  let r3 : S.Inter := S.ref19_Plain (⟨m1, m2⟩ : S.Inter)
  r3
def S.ref19_Widen (a : S.Inter) (b : S.Inter) : S.Inter :=
  let r1 : Bool := S.ref19_Empty a
  let r2 : S.Inter := S.ref19_Plain b
  let r3 : Bool := S.ref19_Empty b
  let b4 : Bool := decide (b.Lo < a.Lo)
  let r5 : Int := S.ref19_Least
  let b6 : Bool := decide (b.Hi > a.Hi)
  let r7 : Int := S.ref19_Most
  (bif r1 then r2 else (bif r3 then a else (⟨(bif b4 then r5 else a.Lo), (bif b6 then r7 else a.Hi)⟩ : S.Inter)))
def S.ref19_Narrow (a : S.Inter) (b : S.Inter) : S.Inter :=
  let r1 : Bool := S.ref19_Empty a
  let r2 : Bool := S.ref19_Empty b
  let p3 : Bool := (r1 || r2)
  let r4 : Int := S.ref19_Least
  let b5 : Bool := a.Lo == r4
  let r6 : Int := S.ref19_Most
  let b7 : Bool := a.Hi == r6
  let r8 : S.Inter := S.ref19_Plain (⟨(bif b5 then b.Lo else a.Lo), (bif b7 then b.Hi else a.Hi)⟩ : S.Inter)
  (bif p3 then (⟨1, 0⟩ : S.Inter) else r8)
namespace SI
open S
theorem plain_eq (i : S.Inter) : S.inter_Inter_plain i = S.ref19_Plain i := by
  simp only [inter_Inter_plain, inter_Of, ref19_Plain, inter_Empty]
theorem Plain_def (i : S.Inter) : S.ref19_Plain i = if i.Lo > i.Hi then ⟨1, 0⟩ else i := by
  by_cases h : i.Lo > i.Hi <;> simp [ref19_Plain, h]
theorem Empty_def (i : S.Inter) : S.ref19_Empty i = decide (i.Lo > i.Hi) := rfl
theorem Of_eq (lo hi : Int) : S.inter_Of lo hi = S.ref19_Plain ⟨lo, hi⟩ := by
  simp only [inter_Of, ref19_Plain, inter_Empty]
theorem isEmpty_eq (i : S.Inter) : S.inter_Inter_IsEmpty i = decide (i.Lo > i.Hi) := by
  simp only [inter_Inter_IsEmpty, plain_eq, Plain_def, inter_Empty]
  by_cases h : i.Lo > i.Hi
  · simp [h]
  · simp only [h, if_false, decide_false, Bool.and_eq_false_iff, beq_eq_false_iff_ne]
    omega
theorem Has_eq (i : S.Inter) (n : Int) : S.inter_Inter_Has i n = S.ref19_Has i n := rfl
theorem Within_eq (a b : S.Inter) : S.inter_Within a b = S.ref19_Within a b := by
  simp only [inter_Within, ref19_Within, isEmpty_eq, Empty_def, inter_Inter_Has]
  rw [Bool.eq_iff_iff]; simp; omega
theorem Same_eq (a b : S.Inter) : S.inter_Same a b = S.ref19_Same a b := by
  simp only [inter_Same, ref19_Same, plain_eq]
theorem fold75 (first : S.Inter) (l : List S.Inter) (hl : l.length ≤ maxLen) : S.inter_fold_inter_Join_1_pre first l ∧ S.inter_fold_inter_Join_1 first l = S.ref19_Plain (l.foldl S.inter_Join_1 first) := by
  have hr : Runs inter_fold_inter_Join_1_L0_step inter_fold_inter_Join_1_L0_vcs ⟨l, (l.length : Int), 0, first⟩ ⟨l, (l.length : Int), (l.length : Int), l.foldl S.inter_Join_1 first⟩ := by
    have := Runs.count (step := inter_fold_inter_Join_1_L0_step) (vcs := inter_fold_inter_Join_1_L0_vcs) l.length (fun i => ⟨l, (l.length : Int), (i : Int), (l.take i).foldl S.inter_Join_1 first⟩) ⟨l, (l.length : Int), (l.length : Int), l.foldl S.inter_Join_1 first⟩ ?_ ?_
    · simpa using this
    · intro i hi
      have h1 : IntKind.i64.wrap ((i : Int) + 1) = ((i + 1 : Nat) : Int) := by rw [IntWalk.i64_in]; · rfl
                                                                               · unfold maxLen at hl; omega
      refine ⟨by simp [inter_fold_inter_Join_1_L0_vcs, All, hi], ?_⟩
      simp [inter_fold_inter_Join_1_L0_step, hi, h1, foldl_take _ ⟨0, 0⟩ _ _ hi]
    · exact ⟨by simp [inter_fold_inter_Join_1_L0_vcs], by simp [inter_fold_inter_Join_1_L0_step]⟩
  have e := theRun_eq (d := fun x => x) hr
  have e' : inter_fold_inter_Join_1_L0_run ⟨l, (l.length : Int), 0, first⟩ = _ := e
  refine ⟨?_, by simp only [inter_fold_inter_Join_1, e', plain_eq]⟩
  simp only [inter_fold_inter_Join_1_pre, e', All, and_true]
  exact hr
theorem fold76 (first : S.Inter) (l : List S.Inter) (hl : l.length ≤ maxLen) : S.inter_fold_inter_Meet_1_pre first l ∧ S.inter_fold_inter_Meet_1 first l = S.ref19_Plain (l.foldl S.inter_Meet_1 first) := by
  have hr : Runs inter_fold_inter_Meet_1_L0_step inter_fold_inter_Meet_1_L0_vcs ⟨l, (l.length : Int), 0, first⟩ ⟨l, (l.length : Int), (l.length : Int), l.foldl S.inter_Meet_1 first⟩ := by
    have := Runs.count (step := inter_fold_inter_Meet_1_L0_step) (vcs := inter_fold_inter_Meet_1_L0_vcs) l.length (fun i => ⟨l, (l.length : Int), (i : Int), (l.take i).foldl S.inter_Meet_1 first⟩) ⟨l, (l.length : Int), (l.length : Int), l.foldl S.inter_Meet_1 first⟩ ?_ ?_
    · simpa using this
    · intro i hi
      have h1 : IntKind.i64.wrap ((i : Int) + 1) = ((i + 1 : Nat) : Int) := by rw [IntWalk.i64_in]; · rfl
                                                                               · unfold maxLen at hl; omega
      refine ⟨by simp [inter_fold_inter_Meet_1_L0_vcs, All, hi], ?_⟩
      simp [inter_fold_inter_Meet_1_L0_step, hi, h1, foldl_take _ ⟨0, 0⟩ _ _ hi]
    · exact ⟨by simp [inter_fold_inter_Meet_1_L0_vcs], by simp [inter_fold_inter_Meet_1_L0_step]⟩
  have e := theRun_eq (d := fun x => x) hr
  have e' : inter_fold_inter_Meet_1_L0_run ⟨l, (l.length : Int), 0, first⟩ = _ := e
  refine ⟨?_, by simp only [inter_fold_inter_Meet_1, e', plain_eq]⟩
  simp only [inter_fold_inter_Meet_1_pre, e', All, and_true]
  exact hr
theorem Join_pre (l : List S.Inter) (hl : l.length ≤ maxLen) : S.inter_Join_pre l := by
  simp only [inter_Join_pre, All, and_true]; exact (fold75 _ _ hl).1
theorem Join_eq (l : List S.Inter) (hl : l.length ≤ maxLen) : S.inter_Join l = S.ref19_Plain (l.foldl S.inter_Join_1 ⟨1, 0⟩) := (fold75 _ _ hl).2
theorem Meet_pre (l : List S.Inter) (hl : l.length ≤ maxLen) : S.inter_Meet_pre l := by
  simp only [inter_Meet_pre, All, and_true]; exact (fold76 _ _ hl).1
theorem Meet_eq (l : List S.Inter) (hl : l.length ≤ maxLen) : S.inter_Meet l = S.ref19_Plain (l.foldl S.inter_Meet_1 S.inter_Whole) := (fold76 _ _ hl).2
theorem two_le (a b : S.Inter) : [a, b].length ≤ maxLen := by simp [maxLen]
theorem Join2 (a b : S.Inter) : S.inter_Join [a, b] = S.ref19_Plain (S.inter_Join_1 (S.inter_Join_1 ⟨1, 0⟩ a) b) := Join_eq _ (two_le a b)
theorem Meet2 (a b : S.Inter) : S.inter_Meet [a, b] = S.ref19_Plain (S.inter_Meet_1 (S.inter_Meet_1 S.inter_Whole a) b) := Meet_eq _ (two_le a b)
theorem Join2_pre (a b : S.Inter) : S.inter_Join_pre [a, b] := Join_pre _ (two_le a b)
theorem Meet2_pre (a b : S.Inter) : S.inter_Meet_pre [a, b] := Meet_pre _ (two_le a b)
theorem Widen_pre (a b : S.Inter) : S.inter_Widen_pre a b := by
  simp only [inter_Widen_pre, All]; exact ⟨Join2_pre a b, by simp⟩
theorem Join_def (a b : S.Inter) : S.ref19_Join a b = if a.Lo > a.Hi then S.ref19_Plain b else if b.Lo > b.Hi then a else ⟨if b.Lo < a.Lo then b.Lo else a.Lo, if b.Hi > a.Hi then b.Hi else a.Hi⟩ := by
  simp only [ref19_Join, Empty_def, cond_eq_if, decide_eq_true_eq]
theorem Meet_def (a b : S.Inter) : S.ref19_Meet a b = S.ref19_Plain ⟨if b.Lo > a.Lo then b.Lo else a.Lo, if b.Hi < a.Hi then b.Hi else a.Hi⟩ := rfl
theorem Join_step (a b : S.Inter) : S.ref19_Plain (S.inter_Join_1 a b) = S.ref19_Join (S.ref19_Plain a) b := by
  by_cases ha : a.Lo > a.Hi
  · simp [inter_Join_1, isEmpty_eq, Plain_def, Join_def, ha]
  · by_cases hb : b.Lo > b.Hi
    · simp [inter_Join_1, isEmpty_eq, Plain_def, Join_def, ha, hb]
    · simp only [inter_Join_1, isEmpty_eq, Plain_def, Join_def, ha, hb, decide_false, cond_false, if_false]
      rw [if_neg (by split <;> split <;> omega)]
theorem Plain_no {lo hi : Int} (h : lo > hi) : S.ref19_Plain ⟨lo, hi⟩ = ⟨1, 0⟩ := by rw [Plain_def, if_pos h]
theorem Plain_yes {lo hi : Int} (h : ¬ lo > hi) : S.ref19_Plain ⟨lo, hi⟩ = ⟨lo, hi⟩ := by rw [Plain_def, if_neg h]
theorem Plain_idem (i : S.Inter) : S.ref19_Plain (S.ref19_Plain i) = S.ref19_Plain i := by
  by_cases h : i.Lo > i.Hi
  · rw [Plain_def i, if_pos h]; rfl
  · rw [Plain_def i, if_neg h, Plain_def i, if_neg h]
theorem Meet_step (a b : S.Inter) : S.ref19_Plain (S.inter_Meet_1 a b) = S.ref19_Meet (S.ref19_Plain a) b := by
  simp only [inter_Meet_1, Of_eq, Meet_def, Plain_idem]
  by_cases ha : a.Lo > a.Hi
  · rw [Plain_def a, if_pos ha, Plain_no (by split <;> split <;> omega), Plain_no (by dsimp only; split <;> split <;> omega)]
  · rw [Plain_def a, if_neg ha]
theorem Meet_fold (l : List S.Inter) : ∀ a, S.ref19_Plain (l.foldl S.inter_Meet_1 a) = l.foldl S.ref19_Meet (S.ref19_Plain a) := by
  induction l with
  | nil => intro a; rfl
  | cons b l ih => intro a; simp only [List.foldl_cons, ih, Meet_step]
theorem J2 (a b : S.Inter) : S.inter_Join [a, b] = S.ref19_Join (S.ref19_Plain a) b := by
  rw [Join2, Join_step, Join_step]; rfl
theorem J2' (a b : S.Inter) : S.inter_Join [a, b] = S.ref19_Join a b := by
  rw [J2]
  by_cases ha : a.Lo > a.Hi <;> simp [Join_def, Plain_def, ha]
theorem Widen_eq (a b : S.Inter) : S.inter_Widen a b = S.ref19_Widen a b := by
  simp only [inter_Widen, J2', isEmpty_eq, ref19_Widen, Empty_def, ref19_Least, ref19_Most]
  by_cases ha : a.Lo > a.Hi
  · simp [Join_def, ha]
  · by_cases hb : b.Lo > b.Hi
    · simp [Join_def, ha, hb]
    · simp only [Join_def, ha, hb, decide_false, cond_false, if_false]
      by_cases h1 : b.Lo < a.Lo <;> by_cases h2 : b.Hi > a.Hi <;> simp [h1, h2]
theorem Narrow_eq (a b : S.Inter) : S.inter_Narrow a b = S.ref19_Narrow a b := by
  simp only [inter_Narrow, isEmpty_eq, ref19_Narrow, Empty_def, ref19_Least, ref19_Most, plain_eq, inter_Empty]
instance : DecidableEq S.Inter := fun a b => decidable_of_iff (a.Lo = b.Lo ∧ a.Hi = b.Hi) (by rw [S.Inter.ext_iff])
theorem ok_iff (a : S.Inter) : S.Inter.ok a ↔ (-9223372036854775808 ≤ a.Lo ∧ a.Lo ≤ 9223372036854775807) ∧ (-9223372036854775808 ≤ a.Hi ∧ a.Hi ≤ 9223372036854775807) := by
  simp [S.Inter.ok, inr, IntKind.min, IntKind.max, IntKind.signed, IntKind.bits]
theorem J_n {a b : S.Inter} (ha : ¬ a.Lo > a.Hi) (hb : ¬ b.Lo > b.Hi) : S.ref19_Join a b = ⟨min a.Lo b.Lo, max a.Hi b.Hi⟩ := by
  rw [Join_def, if_neg ha, if_neg hb]; congr 1 <;> split <;> omega
theorem J_1 {a b : S.Inter} (ha : a.Lo > a.Hi) : S.ref19_Join a b = S.ref19_Plain b := by rw [Join_def, if_pos ha]
theorem J_2 {a b : S.Inter} (ha : ¬ a.Lo > a.Hi) (hb : b.Lo > b.Hi) : S.ref19_Join a b = a := by rw [Join_def, if_neg ha, if_pos hb]
theorem P_n {a : S.Inter} (ha : ¬ a.Lo > a.Hi) : S.ref19_Plain a = a := by rw [Plain_def, if_neg ha]
theorem P_1 {a : S.Inter} (ha : a.Lo > a.Hi) : S.ref19_Plain a = ⟨1, 0⟩ := by rw [Plain_def, if_pos ha]
theorem M_m (a b : S.Inter) : S.ref19_Meet a b = S.ref19_Plain ⟨max a.Lo b.Lo, min a.Hi b.Hi⟩ := by
  rw [Meet_def]; congr 2 <;> split <;> omega
theorem J_comm (a b : S.Inter) : S.ref19_Join a b = S.ref19_Join b a := by
  by_cases ha : a.Lo > a.Hi <;> by_cases hb : b.Lo > b.Hi
  · rw [J_1 ha, J_1 hb, P_1 ha, P_1 hb]
  · rw [J_1 ha, J_2 hb ha, P_n hb]
  · rw [J_1 hb, J_2 ha hb, P_n ha]
  · rw [J_n ha hb, J_n hb ha]; congr 1 <;> omega
theorem M_plain (a b : S.Inter) : S.ref19_Meet (S.ref19_Plain a) b = S.ref19_Meet a b := by
  by_cases ha : a.Lo > a.Hi
  · rw [P_1 ha, M_m, M_m, Plain_no (by dsimp only; omega), Plain_no (by omega)]
  · rw [P_n ha]
theorem Within_def (a b : S.Inter) : S.ref19_Within a b = decide (a.Lo > a.Hi ∨ (b.Lo ≤ a.Lo ∧ a.Hi ≤ b.Hi)) := by
  simp only [ref19_Within, Empty_def]; rw [Bool.eq_iff_iff]; simp
theorem Has_def (a : S.Inter) (n : Int) : S.ref19_Has a n = decide (a.Lo ≤ n ∧ n ≤ a.Hi) := by
  simp only [ref19_Has]; rw [Bool.eq_iff_iff]; simp
theorem M2 (a b : S.Inter) (ha : S.Inter.ok a) : S.inter_Meet [a, b] = S.ref19_Meet a b := by
  rw [Meet_eq _ (two_le a b), Meet_fold]
  show S.ref19_Meet (S.ref19_Meet S.inter_Whole a) b = _
  have : S.ref19_Meet S.inter_Whole a = S.ref19_Plain a := by
    rw [ok_iff] at ha
    have e1 : max S.inter_Whole.Lo a.Lo = a.Lo := by simp only [inter_Whole]; omega
    have e2 : min S.inter_Whole.Hi a.Hi = a.Hi := by simp only [inter_Whole]; omega
    rw [M_m, e1, e2]
  rw [this, M_plain]
theorem ok_M (a b : S.Inter) (ha : S.Inter.ok a) (hb : S.Inter.ok b) : S.Inter.ok (S.ref19_Meet a b) := by
  rw [ok_iff] at ha hb ⊢
  rw [M_m]
  by_cases h : (max a.Lo b.Lo) > (min a.Hi b.Hi)
  · rw [Plain_no h]; decide
  · rw [Plain_yes h]; dsimp only; omega
theorem Narrow_def (a b : S.Inter) : S.ref19_Narrow a b = if a.Lo > a.Hi ∨ b.Lo > b.Hi then ⟨1, 0⟩ else S.ref19_Plain ⟨if a.Lo = -9223372036854775808 then b.Lo else a.Lo, if a.Hi = 9223372036854775807 then b.Hi else a.Hi⟩ := by
  simp only [ref19_Narrow, Empty_def, ref19_Least, ref19_Most, cond_eq_if, Bool.or_eq_true, decide_eq_true_eq, beq_iff_eq]
theorem has_narrow (a b : S.Inter) (n : Int) (h1 : S.ref19_Has a n = true) (h2 : S.ref19_Has b n = true) : S.ref19_Has (S.ref19_Narrow a b) n = true := by
  simp only [Has_def, decide_eq_true_iff] at h1 h2 ⊢
  rw [Narrow_def, if_neg (by omega), Plain_yes (by split <;> split <;> omega)]
  dsimp only
  split <;> split <;> omega
end SI
