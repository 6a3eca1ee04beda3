/-
  Printed by a program out of the plain texts of another seat: what the smaller packages' functions compute, in plain words. Conditions: those that each theorem states.
-/
import Derived.Test.YthplfkeecpkmhaaDoorVDRest
import Derived.IntWalk
set_option linter.all false
open Go Vm
def S.inter_Inter_Size (i : S.Inter) : Int × Bool :=
  let r1 : Bool := S.inter_Inter_IsEmpty i
  let r2 : S.Inter := S.inter_Whole
  let b3 : Bool := ((i.Lo == r2.Lo) && (i.Hi == r2.Hi))
  let t4 : Int := IntKind.u64.wrap i.Hi
  let t5 : Int := IntKind.u64.wrap i.Lo
  let t6 : Int := IntKind.u64.wrap (t4 - t5)
  let t7 : Int := IntKind.u64.wrap (t6 + 1)
  (bif r1 then (0, true) else (bif b3 then (0, false) else (t7, true)))
def S.ref19_Size (i : S.Inter) : Int × Bool :=
  let r1 : Bool := S.ref19_Empty i
  let r2 : Int := S.ref19_Least
  let b3 : Bool := i.Lo == r2
  let r4 : Int := S.ref19_Most
  let b5 : Bool := i.Hi == r4
  let p6 : Bool := (b3 && b5)
  let t7 : Int := IntKind.i64.wrap (i.Hi - i.Lo)
  let t8 : Int := IntKind.u64.wrap t7
  let t9 : Int := IntKind.u64.wrap (t8 + 1)
  (bif r1 then (0, true) else (bif p6 then (0, false) else (t9, true)))
def S.inter_Inter_Near (i : S.Inter) (n : Int) : Int × Bool :=
  let r1 : Bool := S.inter_Inter_IsEmpty i
  let m2 : Int := if i.Hi < n then i.Hi else n
  let m3 : Int := if m2 > i.Lo then m2 else i.Lo
  (bif r1 then (0, false) else (m3, true))
def S.ref19_Near (i : S.Inter) (n : Int) : Int × Bool :=
  let r1 : Bool := S.ref19_Empty i
  let b2 : Bool := decide (n < i.Lo)
  let b3 : Bool := decide (n > i.Hi)
  (bif r1 then (0, false) else (bif b2 then (i.Lo, true) else (bif b3 then (i.Hi, true) else (n, true))))
def S.ref19_Within (a : S.Inter) (b : S.Inter) : Bool :=
  let r1 : Bool := S.ref19_Empty a
  let b2 : Bool := decide (a.Lo ≥ b.Lo)
  let b3 : Bool := decide (a.Hi ≤ b.Hi)
  let p4 : Bool := (b2 && b3)
  let p5 : Bool := (r1 || p4)
  p5
def S.inter_Same (a : S.Inter) (b : S.Inter) : Bool :=
  let r1 : S.Inter := S.inter_Inter_plain a
  let r2 : S.Inter := S.inter_Inter_plain b
  let b3 : Bool := ((r1.Lo == r2.Lo) && (r1.Hi == r2.Hi))
  b3
def S.ref19_Same (a : S.Inter) (b : S.Inter) : Bool :=
  let r1 : S.Inter := S.ref19_Plain a
  let r2 : S.Inter := S.ref19_Plain b
  let b3 : Bool := ((r1.Lo == r2.Lo) && (r1.Hi == r2.Hi))
  b3
namespace SI
open S
theorem plain_eq (i : S.Inter) : S.inter_Inter_plain i = S.ref19_Plain i := by
  simp only [inter_Inter_plain, inter_Of, ref19_Plain, inter_Empty]
theorem Plain_def (i : S.Inter) : S.ref19_Plain i = if i.Lo > i.Hi then ⟨1, 0⟩ else i := by
  by_cases h : i.Lo > i.Hi <;> simp [ref19_Plain, h]
theorem Empty_def (i : S.Inter) : S.ref19_Empty i = decide (i.Lo > i.Hi) := rfl
theorem Of_eq (lo hi : Int) : S.inter_Of lo hi = S.ref19_Plain ⟨lo, hi⟩ := by
  simp only [inter_Of, ref19_Plain, inter_Empty]
theorem isEmpty_eq (i : S.Inter) : S.inter_Inter_IsEmpty i = decide (i.Lo > i.Hi) := by
  simp only [inter_Inter_IsEmpty, plain_eq, Plain_def, inter_Empty]
  by_cases h : i.Lo > i.Hi
  · simp [h]
  · simp only [h, if_false, decide_false, Bool.and_eq_false_iff, beq_eq_false_iff_ne]
    omega
theorem Size_eq (i : S.Inter) : S.inter_Inter_Size i = S.ref19_Size i := by
  simp only [inter_Inter_Size, ref19_Size, isEmpty_eq, Empty_def, inter_Whole, ref19_Least, ref19_Most, IntKind.wrap_u64, IntKind.wrap_i64]
  have : (((i.Hi % 18446744073709551616 - i.Lo % 18446744073709551616) % 18446744073709551616 + 1) % 18446744073709551616) = (((i.Hi - i.Lo + 9223372036854775808) % 18446744073709551616 - 9223372036854775808) % 18446744073709551616 + 1) % 18446744073709551616 := by omega
  simp only [this]
theorem Near_eq (i : S.Inter) (n : Int) : S.inter_Inter_Near i n = S.ref19_Near i n := by
  simp only [inter_Inter_Near, ref19_Near, isEmpty_eq, Empty_def]
  by_cases h : i.Lo > i.Hi
  · simp [h]
  · by_cases h1 : n < i.Lo <;> by_cases h2 : n > i.Hi <;> simp [h, h1, h2] <;> (repeat' split) <;> omega
theorem Has_eq (i : S.Inter) (n : Int) : S.inter_Inter_Has i n = S.ref19_Has i n := rfl
theorem Within_eq (a b : S.Inter) : S.inter_Within a b = S.ref19_Within a b := by
  simp only [inter_Within, ref19_Within, isEmpty_eq, Empty_def, inter_Inter_Has]
  rw [Bool.eq_iff_iff]; simp; omega
theorem Same_eq (a b : S.Inter) : S.inter_Same a b = S.ref19_Same a b := by
  simp only [inter_Same, ref19_Same, plain_eq]
theorem fold75 (first : S.Inter) (l : List S.Inter) (hl : l.length ≤ maxLen) : S.inter_fold_inter_Join_1_pre first l ∧ S.inter_fold_inter_Join_1 first l = S.ref19_Plain (l.foldl S.inter_Join_1 first) := by
  have hr : Runs inter_fold_inter_Join_1_L0_step inter_fold_inter_Join_1_L0_vcs ⟨l, (l.length : Int), 0, first⟩ ⟨l, (l.length : Int), (l.length : Int), l.foldl S.inter_Join_1 first⟩ := by
    have := Runs.count (step := inter_fold_inter_Join_1_L0_step) (vcs := inter_fold_inter_Join_1_L0_vcs) l.length (fun i => ⟨l, (l.length : Int), (i : Int), (l.take i).foldl S.inter_Join_1 first⟩) ⟨l, (l.length : Int), (l.length : Int), l.foldl S.inter_Join_1 first⟩ ?_ ?_
    · simpa using this
    · intro i hi
      have h1 : IntKind.i64.wrap ((i : Int) + 1) = ((i + 1 : Nat) : Int) := by rw [IntWalk.i64_in]; · rfl
                                                                               · unfold maxLen at hl; omega
      refine ⟨by simp [inter_fold_inter_Join_1_L0_vcs, All, hi], ?_⟩
      simp [inter_fold_inter_Join_1_L0_step, hi, h1, foldl_take _ ⟨0, 0⟩ _ _ hi]
    · exact ⟨by simp [inter_fold_inter_Join_1_L0_vcs], by simp [inter_fold_inter_Join_1_L0_step]⟩
  have e := theRun_eq (d := fun x => x) hr
  have e' : inter_fold_inter_Join_1_L0_run ⟨l, (l.length : Int), 0, first⟩ = _ := e
  refine ⟨?_, by simp only [inter_fold_inter_Join_1, e', plain_eq]⟩
  simp only [inter_fold_inter_Join_1_pre, e', All, and_true]
  exact hr
theorem fold76 (first : S.Inter) (l : List S.Inter) (hl : l.length ≤ maxLen) : S.inter_fold_inter_Meet_1_pre first l ∧ S.inter_fold_inter_Meet_1 first l = S.ref19_Plain (l.foldl S.inter_Meet_1 first) := by
  have hr : Runs inter_fold_inter_Meet_1_L0_step inter_fold_inter_Meet_1_L0_vcs ⟨l, (l.length : Int), 0, first⟩ ⟨l, (l.length : Int), (l.length : Int), l.foldl S.inter_Meet_1 first⟩ := by
    have := Runs.count (step := inter_fold_inter_Meet_1_L0_step) (vcs := inter_fold_inter_Meet_1_L0_vcs) l.length (fun i => ⟨l, (l.length : Int), (i : Int), (l.take i).foldl S.inter_Meet_1 first⟩) ⟨l, (l.length : Int), (l.length : Int), l.foldl S.inter_Meet_1 first⟩ ?_ ?_
    · simpa using this
    · intro i hi
      have h1 : IntKind.i64.wrap ((i : Int) + 1) = ((i + 1 : Nat) : Int) := by rw [IntWalk.i64_in]; · rfl
                                                                               · unfold maxLen at hl; omega
      refine ⟨by simp [inter_fold_inter_Meet_1_L0_vcs, All, hi], ?_⟩
      simp [inter_fold_inter_Meet_1_L0_step, hi, h1, foldl_take _ ⟨0, 0⟩ _ _ hi]
    · exact ⟨by simp [inter_fold_inter_Meet_1_L0_vcs], by simp [inter_fold_inter_Meet_1_L0_step]⟩
  have e := theRun_eq (d := fun x => x) hr
  have e' : inter_fold_inter_Meet_1_L0_run ⟨l, (l.length : Int), 0, first⟩ = _ := e
  refine ⟨?_, by simp only [inter_fold_inter_Meet_1, e', plain_eq]⟩
  simp only [inter_fold_inter_Meet_1_pre, e', All, and_true]
  exact hr
theorem Join_pre (l : List S.Inter) (hl : l.length ≤ maxLen) : S.inter_Join_pre l := by
  simp only [inter_Join_pre, All, and_true]; exact (fold75 _ _ hl).1
theorem Join_eq (l : List S.Inter) (hl : l.length ≤ maxLen) : S.inter_Join l = S.ref19_Plain (l.foldl S.inter_Join_1 ⟨1, 0⟩) := (fold75 _ _ hl).2
theorem Meet_pre (l : List S.Inter) (hl : l.length ≤ maxLen) : S.inter_Meet_pre l := by
  simp only [inter_Meet_pre, All, and_true]; exact (fold76 _ _ hl).1
theorem Meet_eq (l : List S.Inter) (hl : l.length ≤ maxLen) : S.inter_Meet l = S.ref19_Plain (l.foldl S.inter_Meet_1 S.inter_Whole) := (fold76 _ _ hl).2
theorem two_le (a b : S.Inter) : [a, b].length ≤ maxLen := by simp [maxLen]
theorem Join2 (a b : S.Inter) : S.inter_Join [a, b] = S.ref19_Plain (S.inter_Join_1 (S.inter_Join_1 ⟨1, 0⟩ a) b) := Join_eq _ (two_le a b)
theorem Meet2 (a b : S.Inter) : S.inter_Meet [a, b] = S.ref19_Plain (S.inter_Meet_1 (S.inter_Meet_1 S.inter_Whole a) b) := Meet_eq _ (two_le a b)
theorem Join2_pre (a b : S.Inter) : S.inter_Join_pre [a, b] := Join_pre _ (two_le a b)
theorem Meet2_pre (a b : S.Inter) : S.inter_Meet_pre [a, b] := Meet_pre _ (two_le a b)
theorem Widen_pre (a b : S.Inter) : S.inter_Widen_pre a b := by
  simp only [inter_Widen_pre, All]; exact ⟨Join2_pre a b, by simp⟩
theorem eta (i : S.Inter) : (⟨i.Lo, i.Hi⟩ : S.Inter) = i := rfl
theorem Join_def (a b : S.Inter) : S.ref19_Join a b = if a.Lo > a.Hi then S.ref19_Plain b else if b.Lo > b.Hi then a else ⟨if b.Lo < a.Lo then b.Lo else a.Lo, if b.Hi > a.Hi then b.Hi else a.Hi⟩ := by
  simp only [ref19_Join, Empty_def, cond_eq_if, decide_eq_true_eq]
theorem Meet_def (a b : S.Inter) : S.ref19_Meet a b = S.ref19_Plain ⟨if b.Lo > a.Lo then b.Lo else a.Lo, if b.Hi < a.Hi then b.Hi else a.Hi⟩ := rfl
theorem Join_step (a b : S.Inter) : S.ref19_Plain (S.inter_Join_1 a b) = S.ref19_Join (S.ref19_Plain a) b := by
  by_cases ha : a.Lo > a.Hi
  · simp [inter_Join_1, isEmpty_eq, Plain_def, Join_def, ha]
  · by_cases hb : b.Lo > b.Hi
    · simp [inter_Join_1, isEmpty_eq, Plain_def, Join_def, ha, hb]
    · simp only [inter_Join_1, isEmpty_eq, Plain_def, Join_def, ha, hb, decide_false, cond_false, if_false]
      rw [if_neg (by split <;> split <;> omega)]
theorem Plain_no {lo hi : Int} (h : lo > hi) : S.ref19_Plain ⟨lo, hi⟩ = ⟨1, 0⟩ := by rw [Plain_def, if_pos h]
theorem Plain_yes {lo hi : Int} (h : ¬ lo > hi) : S.ref19_Plain ⟨lo, hi⟩ = ⟨lo, hi⟩ := by rw [Plain_def, if_neg h]
theorem Plain_idem (i : S.Inter) : S.ref19_Plain (S.ref19_Plain i) = S.ref19_Plain i := by
  by_cases h : i.Lo > i.Hi
  · rw [Plain_def i, if_pos h]; rfl
  · rw [Plain_def i, if_neg h, Plain_def i, if_neg h]
theorem Meet_step (a b : S.Inter) : S.ref19_Plain (S.inter_Meet_1 a b) = S.ref19_Meet (S.ref19_Plain a) b := by
  simp only [inter_Meet_1, Of_eq, Meet_def, Plain_idem]
  by_cases ha : a.Lo > a.Hi
  · rw [Plain_def a, if_pos ha, Plain_no (by split <;> split <;> omega), Plain_no (by dsimp only; split <;> split <;> omega)]
  · rw [Plain_def a, if_neg ha]
theorem Join_fold (l : List S.Inter) : ∀ a, S.ref19_Plain (l.foldl S.inter_Join_1 a) = l.foldl S.ref19_Join (S.ref19_Plain a) := by
  induction l with
  | nil => intro a; rfl
  | cons b l ih => intro a; simp only [List.foldl_cons, ih, Join_step]
theorem Meet_fold (l : List S.Inter) : ∀ a, S.ref19_Plain (l.foldl S.inter_Meet_1 a) = l.foldl S.ref19_Meet (S.ref19_Plain a) := by
  induction l with
  | nil => intro a; rfl
  | cons b l ih => intro a; simp only [List.foldl_cons, ih, Meet_step]
theorem J2 (a b : S.Inter) : S.inter_Join [a, b] = S.ref19_Join (S.ref19_Plain a) b := by
  rw [Join2, Join_step, Join_step]; rfl
theorem J2' (a b : S.Inter) : S.inter_Join [a, b] = S.ref19_Join a b := by
  rw [J2]
  by_cases ha : a.Lo > a.Hi <;> simp [Join_def, Plain_def, ha]
theorem Widen_eq (a b : S.Inter) : S.inter_Widen a b = S.ref19_Widen a b := by
  simp only [inter_Widen, J2', isEmpty_eq, ref19_Widen, Empty_def, ref19_Least, ref19_Most]
  by_cases ha : a.Lo > a.Hi
  · simp [Join_def, ha]
  · by_cases hb : b.Lo > b.Hi
    · simp [Join_def, ha, hb]
    · simp only [Join_def, ha, hb, decide_false, cond_false, if_false]
      by_cases h1 : b.Lo < a.Lo <;> by_cases h2 : b.Hi > a.Hi <;> simp [h1, h2]
theorem Narrow_eq (a b : S.Inter) : S.inter_Narrow a b = S.ref19_Narrow a b := by
  simp only [inter_Narrow, isEmpty_eq, ref19_Narrow, Empty_def, ref19_Least, ref19_Most, plain_eq, inter_Empty]
instance : DecidableEq S.Inter := fun a b => decidable_of_iff (a.Lo = b.Lo ∧ a.Hi = b.Hi) (by rw [S.Inter.ext_iff])
theorem ok_iff (a : S.Inter) : S.Inter.ok a ↔ (-9223372036854775808 ≤ a.Lo ∧ a.Lo ≤ 9223372036854775807) ∧ (-9223372036854775808 ≤ a.Hi ∧ a.Hi ≤ 9223372036854775807) := by
  simp [S.Inter.ok, inr, IntKind.min, IntKind.max, IntKind.signed, IntKind.bits]
theorem J_n {a b : S.Inter} (ha : ¬ a.Lo > a.Hi) (hb : ¬ b.Lo > b.Hi) : S.ref19_Join a b = ⟨min a.Lo b.Lo, max a.Hi b.Hi⟩ := by
  rw [Join_def, if_neg ha, if_neg hb]; congr 1 <;> split <;> omega
theorem J_1 {a b : S.Inter} (ha : a.Lo > a.Hi) : S.ref19_Join a b = S.ref19_Plain b := by rw [Join_def, if_pos ha]
theorem J_2 {a b : S.Inter} (ha : ¬ a.Lo > a.Hi) (hb : b.Lo > b.Hi) : S.ref19_Join a b = a := by rw [Join_def, if_neg ha, if_pos hb]
theorem P_n {a : S.Inter} (ha : ¬ a.Lo > a.Hi) : S.ref19_Plain a = a := by rw [Plain_def, if_neg ha]
theorem P_1 {a : S.Inter} (ha : a.Lo > a.Hi) : S.ref19_Plain a = ⟨1, 0⟩ := by rw [Plain_def, if_pos ha]
theorem M_m (a b : S.Inter) : S.ref19_Meet a b = S.ref19_Plain ⟨max a.Lo b.Lo, min a.Hi b.Hi⟩ := by
  rw [Meet_def]; congr 2 <;> split <;> omega
theorem e10 : (⟨1, 0⟩ : S.Inter).Lo > (⟨1, 0⟩ : S.Inter).Hi := by decide
theorem J_comm (a b : S.Inter) : S.ref19_Join a b = S.ref19_Join b a := by
  by_cases ha : a.Lo > a.Hi <;> by_cases hb : b.Lo > b.Hi
  · rw [J_1 ha, J_1 hb, P_1 ha, P_1 hb]
  · rw [J_1 ha, J_2 hb ha, P_n hb]
  · rw [J_1 hb, J_2 ha hb, P_n ha]
  · rw [J_n ha hb, J_n hb ha]; congr 1 <;> omega
theorem M_comm (a b : S.Inter) : S.ref19_Meet a b = S.ref19_Meet b a := by
  rw [M_m, M_m, Int.max_comm, Int.min_comm]
theorem J_ne {a b : S.Inter} (ha : ¬ a.Lo > a.Hi) (hb : ¬ b.Lo > b.Hi) : ¬ (S.ref19_Join a b).Lo > (S.ref19_Join a b).Hi := by rw [J_n ha hb]; dsimp only; omega
theorem J_plain (a b : S.Inter) : S.ref19_Join a (S.ref19_Plain b) = S.ref19_Join a b := by
  rw [J_comm, J_comm a b]
  by_cases hb : b.Lo > b.Hi
  · rw [J_1 hb, P_1 hb, J_1 e10]
  · rw [P_n hb]
theorem J_plain' (a b : S.Inter) : S.ref19_Join (S.ref19_Plain a) b = S.ref19_Join a b := by rw [J_comm, J_plain, J_comm]
theorem J_assoc (a b c : S.Inter) : S.ref19_Join (S.ref19_Join a b) c = S.ref19_Join a (S.ref19_Join b c) := by
  by_cases ha : a.Lo > a.Hi
  · have : S.ref19_Plain (S.ref19_Join b c) = S.ref19_Join b c := by
      by_cases hb : b.Lo > b.Hi
      · rw [J_1 hb, Plain_idem]
      · by_cases hc : c.Lo > c.Hi
        · rw [J_2 hb hc, P_n hb]
        · exact P_n (J_ne hb hc)
    rw [J_1 ha, J_1 ha, J_plain', this]
  · by_cases hb : b.Lo > b.Hi
    · rw [J_2 ha hb, J_1 hb, J_plain]
    · by_cases hc : c.Lo > c.Hi
      · rw [J_2 hb hc, J_2 (J_ne ha hb) hc]
      · rw [J_n (J_ne ha hb) hc, J_n ha (J_ne hb hc), J_n ha hb, J_n hb hc]; congr 1 <;> dsimp only <;> omega
theorem M_plain (a b : S.Inter) : S.ref19_Meet (S.ref19_Plain a) b = S.ref19_Meet a b := by
  by_cases ha : a.Lo > a.Hi
  · rw [P_1 ha, M_m, M_m, Plain_no (by dsimp only; omega), Plain_no (by omega)]
  · rw [P_n ha]
theorem M_plain' (a b : S.Inter) : S.ref19_Meet a (S.ref19_Plain b) = S.ref19_Meet a b := by rw [M_comm, M_plain, M_comm]
theorem M_assoc (a b c : S.Inter) : S.ref19_Meet (S.ref19_Meet a b) c = S.ref19_Meet a (S.ref19_Meet b c) := by
  rw [M_m a b, M_plain, M_m b c, M_plain', M_m, M_m]
  congr 2 <;> dsimp only <;> omega
theorem Same_plain (a b : S.Inter) : S.ref19_Same a b = decide (S.ref19_Plain a = S.ref19_Plain b) := by
  simp only [ref19_Same]
  rw [Bool.eq_iff_iff]; simp [S.Inter.ext_iff]
theorem P_Join (a b : S.Inter) : S.ref19_Plain (S.ref19_Join a b) = S.ref19_Join a b := by
  by_cases ha : a.Lo > a.Hi
  · rw [J_1 ha, Plain_idem]
  · by_cases hb : b.Lo > b.Hi
    · rw [J_2 ha hb, P_n ha]
    · exact P_n (J_ne ha hb)
theorem P_Meet (a b : S.Inter) : S.ref19_Plain (S.ref19_Meet a b) = S.ref19_Meet a b := by rw [M_m, Plain_idem]
theorem absorb1 (a b : S.Inter) : S.ref19_Same (S.ref19_Join a (S.ref19_Meet a b)) a = true := by
  rw [Same_plain, P_Join, decide_eq_true_iff]
  by_cases ha : a.Lo > a.Hi
  · rw [J_1 ha, P_1 ha, P_Meet, M_m, Plain_no (by omega)]
  · rw [M_m, J_plain, P_n ha]
    by_cases h : (max a.Lo b.Lo) > (min a.Hi b.Hi)
    · rw [J_2 ha h]
    · rw [J_n ha h]; ext <;> dsimp only <;> omega
theorem absorb2 (a b : S.Inter) : S.ref19_Same (S.ref19_Meet a (S.ref19_Join a b)) a = true := by
  rw [Same_plain, P_Meet, decide_eq_true_iff]
  by_cases ha : a.Lo > a.Hi
  · rw [M_m, P_1 ha, Plain_no (by omega)]
  · by_cases hb : b.Lo > b.Hi
    · rw [J_2 ha hb, M_m, P_n ha]; rw [show max a.Lo a.Lo = a.Lo by omega, show min a.Hi a.Hi = a.Hi by omega]; exact P_n ha
    · rw [J_n ha hb, M_m, P_n ha]; dsimp only
      rw [show max a.Lo (min a.Lo b.Lo) = a.Lo by omega, show min a.Hi (max a.Hi b.Hi) = a.Hi by omega]; exact P_n ha
theorem Within_def (a b : S.Inter) : S.ref19_Within a b = decide (a.Lo > a.Hi ∨ (b.Lo ≤ a.Lo ∧ a.Hi ≤ b.Hi)) := by
  simp only [ref19_Within, Empty_def]; rw [Bool.eq_iff_iff]; simp
theorem within_same (a b : S.Inter) : S.ref19_Within a b = S.ref19_Same (S.ref19_Join a b) b := by
  rw [Within_def, Same_plain, P_Join]
  rw [Bool.eq_iff_iff, decide_eq_true_iff, decide_eq_true_iff]
  by_cases ha : a.Lo > a.Hi
  · rw [J_1 ha]; simp [ha]
  · by_cases hb : b.Lo > b.Hi
    · rw [J_2 ha hb, P_1 hb, S.Inter.ext_iff]; dsimp only; omega
    · rw [J_n ha hb, P_n hb, S.Inter.ext_iff]; dsimp only; omega
theorem Has_def (a : S.Inter) (n : Int) : S.ref19_Has a n = decide (a.Lo ≤ n ∧ n ≤ a.Hi) := by
  simp only [ref19_Has]; rw [Bool.eq_iff_iff]; simp
theorem Has_J (a b : S.Inter) (n : Int) (h : S.ref19_Has a n = true ∨ S.ref19_Has b n = true) : S.ref19_Has (S.ref19_Join a b) n = true := by
  simp only [Has_def, decide_eq_true_iff] at h ⊢
  by_cases ha : a.Lo > a.Hi
  · have hb : ¬ b.Lo > b.Hi := by omega
    rw [J_1 ha, P_n hb]; omega
  · by_cases hb : b.Lo > b.Hi
    · rw [J_2 ha hb]; omega
    · rw [J_n ha hb]; dsimp only; omega
theorem Has_M (a b : S.Inter) (n : Int) : S.ref19_Has (S.ref19_Meet a b) n = (S.ref19_Has a n && S.ref19_Has b n) := by
  rw [Bool.eq_iff_iff]
  simp only [Has_def, Bool.and_eq_true, decide_eq_true_iff, M_m]
  by_cases h : (max a.Lo b.Lo) > (min a.Hi b.Hi)
  · rw [Plain_no h]; dsimp only; omega
  · rw [Plain_yes h]; dsimp only; omega
theorem M2 (a b : S.Inter) (ha : S.Inter.ok a) : S.inter_Meet [a, b] = S.ref19_Meet a b := by
  rw [Meet_eq _ (two_le a b), Meet_fold]
  show S.ref19_Meet (S.ref19_Meet S.inter_Whole a) b = _
  have : S.ref19_Meet S.inter_Whole a = S.ref19_Plain a := by
    rw [ok_iff] at ha
    have e1 : max S.inter_Whole.Lo a.Lo = a.Lo := by simp only [inter_Whole]; omega
    have e2 : min S.inter_Whole.Hi a.Hi = a.Hi := by simp only [inter_Whole]; omega
    rw [M_m, e1, e2]
  rw [this, M_plain]
theorem ok_M (a b : S.Inter) (ha : S.Inter.ok a) (hb : S.Inter.ok b) : S.Inter.ok (S.ref19_Meet a b) := by
  rw [ok_iff] at ha hb ⊢
  rw [M_m]
  by_cases h : (max a.Lo b.Lo) > (min a.Hi b.Hi)
  · rw [Plain_no h]; decide
  · rw [Plain_yes h]; dsimp only; omega
theorem within_widen (a b : S.Inter) (hb : S.Inter.ok b) : S.ref19_Within (S.ref19_Join a b) (S.ref19_Widen a b) = true := by
  rw [ok_iff] at hb
  rw [Within_def, decide_eq_true_iff]
  simp only [ref19_Widen, Empty_def]
  by_cases ha : a.Lo > a.Hi
  · rw [J_1 ha]; simp only [ha, decide_true, cond_true]; omega
  · by_cases hb : b.Lo > b.Hi
    · rw [J_2 ha hb]; simp only [ha, hb, decide_true, decide_false, cond_true, cond_false]; omega
    · rw [J_n ha hb]; simp only [ha, hb, decide_false, cond_false]
      simp only [cond_eq_if, decide_eq_true_eq, ref19_Least, ref19_Most]
      split <;> split <;> omega
theorem Narrow_def (a b : S.Inter) : S.ref19_Narrow a b = if a.Lo > a.Hi ∨ b.Lo > b.Hi then ⟨1, 0⟩ else S.ref19_Plain ⟨if a.Lo = -9223372036854775808 then b.Lo else a.Lo, if a.Hi = 9223372036854775807 then b.Hi else a.Hi⟩ := by
  simp only [ref19_Narrow, Empty_def, ref19_Least, ref19_Most, cond_eq_if, Bool.or_eq_true, decide_eq_true_eq, beq_iff_eq]
theorem has_narrow (a b : S.Inter) (n : Int) (h1 : S.ref19_Has a n = true) (h2 : S.ref19_Has b n = true) : S.ref19_Has (S.ref19_Narrow a b) n = true := by
  simp only [Has_def, decide_eq_true_iff] at h1 h2 ⊢
  rw [Narrow_def, if_neg (by omega), Plain_yes (by split <;> split <;> omega)]
  dsimp only
  split <;> split <;> omega
theorem within_narrow (a b : S.Inter) (h : S.ref19_Within b a = true) : S.ref19_Within (S.ref19_Narrow a b) a = true := by
  simp only [Within_def, decide_eq_true_iff] at h ⊢
  rw [Narrow_def]
  by_cases h1 : a.Lo > a.Hi ∨ b.Lo > b.Hi
  · rw [if_pos h1]; left; decide
  · rw [if_neg h1]
    by_cases h2 : (if a.Lo = -9223372036854775808 then b.Lo else a.Lo) > (if a.Hi = 9223372036854775807 then b.Hi else a.Hi)
    · rw [Plain_no h2]; left; decide
    · rw [Plain_yes h2]; right; dsimp only; split <;> split <;> omega
/-- How wide an interval is already. -/
def width (x : S.Inter) : Int := if x.Lo > x.Hi then 0 else 1 + (if x.Lo = -9223372036854775808 then 1 else 0) + (if x.Hi = 9223372036854775807 then 1 else 0)
theorem width_le (x : S.Inter) : 0 ≤ width x ∧ width x ≤ 3 := by unfold width; repeat' split
                                                                 all_goals omega
theorem widen_width (x e : S.Inter) (he : S.Inter.ok e) : width x + (if S.ref19_Same x (S.ref19_Widen x e) = true then 0 else 1) ≤ width (S.ref19_Widen x e) := by
  rw [ok_iff] at he
  simp only [Same_plain, decide_eq_true_iff]
  have hw := width_le (S.ref19_Widen x e)
  by_cases hx : x.Lo > x.Hi
  · have e1 : S.ref19_Widen x e = S.ref19_Plain e := by simp only [ref19_Widen, Empty_def, hx, decide_true, cond_true]
    rw [e1] at hw ⊢
    rw [Plain_idem]
    have : width x = 0 := by unfold width; rw [if_pos hx]
    by_cases h : e.Lo > e.Hi
    · rw [if_pos (by rw [P_1 hx, P_1 h])]; omega
    · have h3 : 1 ≤ width (S.ref19_Plain e) := by rw [P_n h]; unfold width; rw [if_neg h]; repeat' split
                                                  all_goals omega
      split <;> omega
  · by_cases he2 : e.Lo > e.Hi
    · have e1 : S.ref19_Widen x e = x := by simp only [ref19_Widen, Empty_def, hx, he2, decide_true, decide_false, cond_true, cond_false]
      rw [e1]; simp
    · have e1 : S.ref19_Widen x e = ⟨if e.Lo < x.Lo then -9223372036854775808 else x.Lo, if e.Hi > x.Hi then 9223372036854775807 else x.Hi⟩ := by
        simp only [ref19_Widen, Empty_def, hx, he2, decide_false, cond_false]
        simp only [cond_eq_if, decide_eq_true_eq, ref19_Least, ref19_Most]
      rw [e1, P_n hx, Plain_yes (by split <;> split <;> omega)]
      unfold width
      rw [if_neg hx]
      dsimp only
      rw [if_neg (c := (ite _ _ _ : Int) > _) (by split <;> split <;> omega)]
      by_cases h1 : e.Lo < x.Lo <;> by_cases h2 : e.Hi > x.Hi <;> simp only [h1, h2, if_true, if_false]
      · rw [if_neg (show ¬ x.Lo = -9223372036854775808 by omega), if_neg (show ¬ x.Hi = 9223372036854775807 by omega)]; split <;> omega
      · rw [if_neg (show ¬ x.Lo = -9223372036854775808 by omega)]; split <;> split <;> omega
      · rw [if_neg (show ¬ x.Hi = 9223372036854775807 by omega)]; split <;> split <;> omega
      · omega
end SI
