/-
  The greatest of numbers; a number's own limbs.
-/
import Derived.Test.YthgfoemcjkokjaaNatPlain16
set_option linter.all false
open Go Vm
namespace S

theorem MakesL0_runs (a : List Int) (hl : a.length ≤ 1000000) : ∃ y, Runs law01_NatMakes_L0_step law01_NatMakes_L0_vcs ⟨a, false, 0, a⟩ y ∧ y.1 = false := by
  refine Runs.of (fun s => ∃ i : Nat, s.a = a ∧ s.i = (i : Int) ∧ i ≤ a.length ∧ s.own.length = a.length ∧ ∀ j, i ≤ j → s.own.getD j 0 = a.getD j 0) (fun s => ((a.length : Int) - s.i).toNat) _ ?_ _ ⟨0, rfl, rfl, by omega, rfl, fun _ _ => rfl⟩
  rintro ⟨a', t, i', o⟩ ⟨i, h1, h2, h3, h4, h5⟩
  dsimp only at *
  subst h1 h2
  by_cases hi : i < a'.length
  · have hi' : (i : Int) < (o.length : Int) := by omega
    have w1 : IntKind.i64.wrap ((i : Int) + 1) = ((i + 1 : Nat) : Int) := by rw [IntWalk.i64_in] <;> omega
    have he := h5 i (Nat.le_refl _)
    refine ⟨?_, ?_⟩
    · simp only [law01_NatMakes_L0_vcs, All, hi', decide_true, true_implies, and_true, true_and, Bool.true_eq_false, false_implies, Int.toNat_natCast, he, bne_self_eq_false, Bool.false_eq_true]
      omega
    · simp only [law01_NatMakes_L0_step, hi', decide_true, cond_true, Int.toNat_natCast, he, bne_self_eq_false, cond_false, w1]
      refine ⟨⟨i + 1, trivial, rfl, by omega, by rw [List.length_set]; exact h4, fun j hj => ?_⟩, by omega⟩
      rw [getD_set_ne _ _ _ _ (by omega)]; exact h5 j (by omega)
  · have hi' : ¬ (i : Int) < (o.length : Int) := by omega
    refine ⟨by simp [law01_NatMakes_L0_vcs, hi'], ?_⟩
    simp only [law01_NatMakes_L0_step, hi', decide_false, cond_false]

theorem Max_runs (L : List Nat) (hs : ∀ x ∈ L, small x) (hl : L.length ≤ 1000) :
    ∃ y, Runs nat_Max_L0_step nat_Max_L0_vcs ⟨L.map num, (L.length : Int), 0, num 0⟩ y ∧ y.best = num (L.foldl max 0) ∧ small (L.foldl max 0) := by
  refine Runs.of (R := fun y : S.nat_Max_L0 => y.best = num (L.foldl max 0) ∧ small (L.foldl max 0)) (fun s : S.nat_Max_L0 => ∃ i : Nat, s.t6 = L.map num ∧ s.t7 = (L.length : Int) ∧ s.t8 = (i : Int) ∧ i ≤ L.length ∧ s.best = num ((L.take i).foldl max 0) ∧ small ((L.take i).foldl max 0))
    (fun s : S.nat_Max_L0 => ((L.length : Int) - s.t8).toNat) ?_ _ ⟨0, rfl, rfl, rfl, by omega, rfl, by show small 0; exact s1 (by omega)⟩
  rintro ⟨l, n, k, b⟩ ⟨i, h1, h2, h3, h4, h5, h6⟩
  dsimp only at *
  subst h1 h2 h3 h5
  by_cases hi : i < L.length
  · have hi' : (i : Int) < (L.length : Int) := by omega
    have w1 : IntKind.i64.wrap ((i : Int) + 1) = ((i + 1 : Nat) : Int) := by rw [IntWalk.i64_in] <;> omega
    have sx := hs _ (List.getElem_mem hi)
    have e : (L.map num).getD i ⟨[]⟩ = num L[i] := by
      rw [List.getD_eq_getElem?_getD, List.getElem?_map, List.getElem?_eq_getElem hi]; rfl
    obtain ⟨p, q⟩ := nCmp L[i] ((L.take i).foldl max 0) sx h6
    have et : (L.take (i + 1)).foldl max 0 = max ((L.take i).foldl max 0) L[i] := by
      rw [List.take_succ_eq_append_getElem hi, List.foldl_append]; rfl
    generalize (L.take i).foldl max 0 = m at *
    generalize L[i] = x at *
    refine ⟨?_, ?_⟩
    · simp only [nat_Max_L0_vcs, All, hi', decide_true, true_implies, and_true, Bool.true_eq_false, false_implies, Int.toNat_natCast, e, List.length_map]
      exact ⟨by omega, trivial, p⟩
    · simp only [nat_Max_L0_step, hi', decide_true, cond_true, Int.toNat_natCast, e, q, w1]
      by_cases hx : x > m
      · have : decide (sg ((x : Int) - m) > 0) = true := decide_eq_true (by unfold sg; rw [if_neg (by omega), if_pos (by omega)]; decide)
        have hmx : max m x = x := Nat.max_eq_right (by omega)
        rw [this, cond_true]
        exact ⟨⟨i + 1, trivial, trivial, rfl, by omega, by rw [et, hmx]; first | done | rfl, by rw [et, hmx]; exact sx⟩, by omega⟩
      · have : decide (sg ((x : Int) - m) > 0) = false := decide_eq_false (by unfold sg; split <;> (try split) <;> omega)
        have hmx : max m x = m := Nat.max_eq_left (by omega)
        rw [this, cond_false]
        exact ⟨⟨i + 1, trivial, trivial, rfl, by omega, by rw [et, hmx]; first | done | rfl, by rw [et, hmx]; exact h6⟩, by omega⟩
  · have hi' : ¬ (i : Int) < (L.length : Int) := by omega
    refine ⟨by simp [nat_Max_L0_vcs, hi'], ?_⟩
    simp only [nat_Max_L0_step, hi', decide_false, cond_false]
    rw [List.take_of_length_le (by omega)] at h6 ⊢
    exact ⟨rfl, h6⟩
end S
