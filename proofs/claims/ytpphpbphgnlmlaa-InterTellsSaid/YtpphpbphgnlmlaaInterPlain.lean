/-
  Intervals: what the program's functions make of them, in plain words.
-/
import Derived.Test.YtpphpbphgnlmlaaDefs
import Derived.IntWalk
set_option linter.all false
open Go Vm
namespace S
attribute [simp] S.law19_ref

theorem plain_eq (i : S.Inter) : S.inter_Inter_plain i = S.ref19_Plain i := by
  simp only [inter_Inter_plain, inter_Of, ref19_Plain, inter_Empty]
theorem Plain_def (i : S.Inter) : S.ref19_Plain i = if i.Lo > i.Hi then ⟨1, 0⟩ else i := by
  by_cases h : i.Lo > i.Hi <;> simp [ref19_Plain, h]
theorem Empty_def (i : S.Inter) : S.ref19_Empty i = decide (i.Lo > i.Hi) := rfl
theorem Of_eq (lo hi : Int) : S.inter_Of lo hi = S.ref19_Plain ⟨lo, hi⟩ := by
  simp only [inter_Of, ref19_Plain, inter_Empty]
theorem isEmpty_eq (i : S.Inter) : S.inter_Inter_IsEmpty i = decide (i.Lo > i.Hi) := by
  simp only [inter_Inter_IsEmpty, plain_eq, Plain_def, inter_Empty]
  by_cases h : i.Lo > i.Hi
  · simp [h]
  · simp only [h, if_false, decide_false, Bool.and_eq_false_iff, beq_eq_false_iff_ne]
    omega
theorem Size_eq (i : S.Inter) : S.inter_Inter_Size i = S.ref19_Size i := by
  simp only [inter_Inter_Size, ref19_Size, isEmpty_eq, Empty_def, inter_Whole, ref19_Least, ref19_Most, IntKind.wrap_u64, IntKind.wrap_i64]
  have : (((i.Hi % 18446744073709551616 - i.Lo % 18446744073709551616) % 18446744073709551616 + 1) % 18446744073709551616) = (((i.Hi - i.Lo + 9223372036854775808) % 18446744073709551616 - 9223372036854775808) % 18446744073709551616 + 1) % 18446744073709551616 := by omega
  simp only [this]
theorem Near_eq (i : S.Inter) (n : Int) : S.inter_Inter_Near i n = S.ref19_Near i n := by
  simp only [inter_Inter_Near, ref19_Near, isEmpty_eq, Empty_def]
  by_cases h : i.Lo > i.Hi
  · simp [h]
  · by_cases h1 : n < i.Lo <;> by_cases h2 : n > i.Hi <;> simp [h, h1, h2] <;> (repeat' split) <;> omega
theorem Has_eq (i : S.Inter) (n : Int) : S.inter_Inter_Has i n = S.ref19_Has i n := rfl
theorem Within_eq (a b : S.Inter) : S.inter_Within a b = S.ref19_Within a b := by
  simp only [inter_Within, ref19_Within, isEmpty_eq, Empty_def, inter_Inter_Has]
  rw [Bool.eq_iff_iff]; simp; omega
theorem Same_eq (a b : S.Inter) : S.inter_Same a b = S.ref19_Same a b := by
  simp only [inter_Same, ref19_Same, plain_eq]

theorem loop_fold (l : List S.Inter) (first : S.Inter) (f : S.Inter → S.Inter → S.Inter) (hl : l.length ≤ maxLen) : True := trivial

theorem fold75 (first : S.Inter) (l : List S.Inter) (hl : l.length ≤ maxLen) : S.inter_fold_75_pre first l ∧ S.inter_fold_75 first l = S.ref19_Plain (l.foldl S.inter_Join_1 first) := by
  have hr : Runs inter_fold_75_L0_step inter_fold_75_L0_vcs ⟨l, (l.length : Int), 0, first⟩ ⟨l, (l.length : Int), (l.length : Int), l.foldl S.inter_Join_1 first⟩ := by
    have := Runs.count (step := inter_fold_75_L0_step) (vcs := inter_fold_75_L0_vcs) l.length (fun i => ⟨l, (l.length : Int), (i : Int), (l.take i).foldl S.inter_Join_1 first⟩) ⟨l, (l.length : Int), (l.length : Int), l.foldl S.inter_Join_1 first⟩ ?_ ?_
    · simpa using this
    · intro i hi
      have h1 : IntKind.i64.wrap ((i : Int) + 1) = ((i + 1 : Nat) : Int) := by rw [IntWalk.i64_in]; · rfl
                                                                               · unfold maxLen at hl; omega
      refine ⟨by simp [inter_fold_75_L0_vcs, All, hi], ?_⟩
      simp [inter_fold_75_L0_step, hi, h1, foldl_take _ ⟨0, 0⟩ _ _ hi]
    · exact ⟨by simp [inter_fold_75_L0_vcs], by simp [inter_fold_75_L0_step]⟩
  have e := theRun_eq (d := fun x => x) hr
  have e' : inter_fold_75_L0_run ⟨l, (l.length : Int), 0, first⟩ = _ := e
  refine ⟨?_, by simp only [inter_fold_75, e', plain_eq]⟩
  simp only [inter_fold_75_pre, e', All, and_true]
  exact hr

theorem fold76 (first : S.Inter) (l : List S.Inter) (hl : l.length ≤ maxLen) : S.inter_fold_76_pre first l ∧ S.inter_fold_76 first l = S.ref19_Plain (l.foldl S.inter_Meet_1 first) := by
  have hr : Runs inter_fold_76_L0_step inter_fold_76_L0_vcs ⟨l, (l.length : Int), 0, first⟩ ⟨l, (l.length : Int), (l.length : Int), l.foldl S.inter_Meet_1 first⟩ := by
    have := Runs.count (step := inter_fold_76_L0_step) (vcs := inter_fold_76_L0_vcs) l.length (fun i => ⟨l, (l.length : Int), (i : Int), (l.take i).foldl S.inter_Meet_1 first⟩) ⟨l, (l.length : Int), (l.length : Int), l.foldl S.inter_Meet_1 first⟩ ?_ ?_
    · simpa using this
    · intro i hi
      have h1 : IntKind.i64.wrap ((i : Int) + 1) = ((i + 1 : Nat) : Int) := by rw [IntWalk.i64_in]; · rfl
                                                                               · unfold maxLen at hl; omega
      refine ⟨by simp [inter_fold_76_L0_vcs, All, hi], ?_⟩
      simp [inter_fold_76_L0_step, hi, h1, foldl_take _ ⟨0, 0⟩ _ _ hi]
    · exact ⟨by simp [inter_fold_76_L0_vcs], by simp [inter_fold_76_L0_step]⟩
  have e := theRun_eq (d := fun x => x) hr
  have e' : inter_fold_76_L0_run ⟨l, (l.length : Int), 0, first⟩ = _ := e
  refine ⟨?_, by simp only [inter_fold_76, e', plain_eq]⟩
  simp only [inter_fold_76_pre, e', All, and_true]
  exact hr

theorem Join_pre (l : List S.Inter) (hl : l.length ≤ maxLen) : S.inter_Join_pre l := by
  simp only [inter_Join_pre, All, and_true]; exact (fold75 _ _ hl).1
theorem Join_eq (l : List S.Inter) (hl : l.length ≤ maxLen) : S.inter_Join l = S.ref19_Plain (l.foldl S.inter_Join_1 ⟨1, 0⟩) := (fold75 _ _ hl).2
theorem Meet_pre (l : List S.Inter) (hl : l.length ≤ maxLen) : S.inter_Meet_pre l := by
  simp only [inter_Meet_pre, All, and_true]; exact (fold76 _ _ hl).1
theorem Meet_eq (l : List S.Inter) (hl : l.length ≤ maxLen) : S.inter_Meet l = S.ref19_Plain (l.foldl S.inter_Meet_1 S.inter_Whole) := (fold76 _ _ hl).2
theorem two_le (a b : S.Inter) : [a, b].length ≤ maxLen := by simp [maxLen]
theorem Join2 (a b : S.Inter) : S.inter_Join [a, b] = S.ref19_Plain (S.inter_Join_1 (S.inter_Join_1 ⟨1, 0⟩ a) b) := Join_eq _ (two_le a b)
theorem Meet2 (a b : S.Inter) : S.inter_Meet [a, b] = S.ref19_Plain (S.inter_Meet_1 (S.inter_Meet_1 S.inter_Whole a) b) := Meet_eq _ (two_le a b)
theorem Join2_pre (a b : S.Inter) : S.inter_Join_pre [a, b] := Join_pre _ (two_le a b)
theorem Meet2_pre (a b : S.Inter) : S.inter_Meet_pre [a, b] := Meet_pre _ (two_le a b)
theorem Widen_pre (a b : S.Inter) : S.inter_Widen_pre a b := by
  simp only [inter_Widen_pre, All]; exact ⟨Join2_pre a b, by simp⟩

theorem works_pre : S.law19_works_pre := by
  simp only [law19_works_pre, All, and_true]
  exact ⟨Join2_pre _ _, fun _ => Meet2_pre _ _, fun _ => Widen_pre _ _⟩
theorem works : S.law19_works = true := by
  simp only [law19_works, Join2, Meet2, inter_Widen, Size_eq]
  decide +kernel

theorem tells (a b : S.Inter) (n : Int) : S.law19_InterTells_pre a b n ∧ S.law19_InterTells a b n = true := by
  refine ⟨?_, ?_⟩
  · simp only [law19_InterTells_pre, All, and_true, implies_true, true_and]
    exact fun _ _ => works_pre
  · simp only [law19_InterTells, law19_ref, Size_eq, Near_eq, isEmpty_eq, Has_eq, Within_eq, Same_eq, Of_eq, works, Empty_def]
    have : S.inter_Inter_Single a = (if a.Lo = a.Hi then (a.Lo, true) else (0, false)) := by
      simp only [inter_Inter_Single, inter_One]
      by_cases h : a.Lo = a.Hi
      · simp [h]
      · have h' : (a.Hi == a.Lo) = false := by rw [beq_eq_false_iff_ne]; omega
        simp [h, h']
    rw [this]
    by_cases h : a.Lo = a.Hi <;> simp [h, inter_One, inter_Whole, ref19_Least, ref19_Most, inter_Empty]
theorem tells_law (a b : S.Inter) (n : Int) (_ : S.Inter.ok a) (_ : S.Inter.ok b) (_ : inr .i64 n) : S.law19_InterTells_pre a b n ∧ S.law19_InterTells a b n = true := tells a b n
end S
