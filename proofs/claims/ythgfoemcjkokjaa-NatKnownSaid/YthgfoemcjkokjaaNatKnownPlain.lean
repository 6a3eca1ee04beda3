/-
  The chapter's examples of numbers, in plain words.
-/
import Derived.Test.YthgfoemcjkokjaaNatPlain18
set_option linter.all false
open Go Vm
namespace S

def Good (l : List Int) : Prop := (∀ x ∈ l, inr .u64 x) ∧ l.length ≤ maxLen
theorem good_get {l : List (List Int)} (h : ∀ e ∈ l, Good e) (i : Nat) (hi : i < l.length) : Good (l.getD i []) := by
  rw [List.getD_eq_getElem?_getD, List.getElem?_eq_getElem hi]; exact h _ (List.getElem_mem _)

section
variable (l : List (List Int)) (hl : (l.length : Int) = 10) (hg : ∀ e ∈ l, Good e)
include hl hg
theorem nk_L4 (t : Bool) (i k : Int) (hi : 0 ≤ i ∧ i < 10) (hk : 0 ≤ k ∧ k < 10) : ∃ y, Runs law01_NatKnown_L4_step law01_NatKnown_L4_vcs ⟨t, l, i, k, -1⟩ y ∧ (y.1 = false ∧ y.2.l = l ∧ y.2.i = i ∧ y.2.k = k) := by
  refine Runs.of (fun s => s.l = l ∧ s.i = i ∧ s.k = k ∧ -1 ≤ s.c ∧ s.c ≤ 8) (fun s => (8 - s.c).toNat) _ ?_ _ ⟨rfl, rfl, rfl, by simp, by simp⟩
  rintro ⟨t, l', i', k', c⟩ ⟨h1, h2, h3, h4, h5⟩
  dsimp only at *
  subst h1 h2 h3
  by_cases hc : c < 8
  · have w1 : IntKind.i64.wrap (c + 1) = c + 1 := by rw [IntWalk.i64_in]; omega
    have g1 := good_get hg i'.toNat (by omega); have g2 := good_get hg k'.toNat (by omega)
    obtain ⟨p, q⟩ := NatReckons_law _ _ c g1 g2 (inr_i64.2 (by omega))
    refine ⟨?_, ?_⟩
    · simp only [law01_NatKnown_L4_vcs, All, hc, hl, hi, hk, decide_true, true_implies, p, q, Bool.not_true, and_true, true_and, implies_true, Bool.true_eq_false, Bool.false_eq_true, false_implies]
    · simp only [law01_NatKnown_L4_step, hc, decide_true, cond_true, q, Bool.not_true, cond_false, w1]
      exact ⟨⟨trivial, trivial, trivial, by omega, by omega⟩, by omega⟩
  · refine ⟨by simp [law01_NatKnown_L4_vcs, hc], ?_⟩
    simp only [law01_NatKnown_L4_step, hc, decide_false, cond_false]
    exact ⟨trivial, trivial, trivial, trivial⟩
theorem nk_L6 (t : Bool) (i k : Int) (hi : 0 ≤ i ∧ i < 10) (hk : 0 ≤ k ∧ k < 10) : ∃ y, Runs law01_NatKnown_L6_step law01_NatKnown_L6_vcs ⟨t, l, i, k, 0⟩ y ∧ (y.1 = false ∧ y.2.l = l ∧ y.2.i = i ∧ y.2.k = k) := by
  refine Runs.of (fun s => s.l = l ∧ s.i = i ∧ s.k = k ∧ 0 ≤ s.m ∧ s.m ≤ 10) (fun s => (10 - s.m).toNat) _ ?_ _ ⟨rfl, rfl, rfl, by simp, by simp⟩
  rintro ⟨t, l', i', k', c⟩ ⟨h1, h2, h3, h4, h5⟩
  dsimp only at *
  subst h1 h2 h3
  by_cases hc : c < 10
  · have w1 : IntKind.i64.wrap (c + 1) = c + 1 := by rw [IntWalk.i64_in]; omega
    have g1 := good_get hg i'.toNat (by omega); have g2 := good_get hg k'.toNat (by omega); have g3 := good_get hg c.toNat (by omega)
    obtain ⟨p, q⟩ := NatLaws_law _ _ _ g1 g2 g3
    refine ⟨?_, ?_⟩
    · simp only [law01_NatKnown_L6_vcs, All, hc, h4, hl, hi, hk, decide_true, true_implies, p, q, Bool.not_true, and_true, true_and, implies_true, Bool.true_eq_false, Bool.false_eq_true, false_implies]
    · simp only [law01_NatKnown_L6_step, hl, hc, decide_true, cond_true, q, Bool.not_true, cond_false, w1]
      exact ⟨⟨trivial, trivial, trivial, by omega, by omega⟩, by omega⟩
  · refine ⟨by simp [law01_NatKnown_L6_vcs, hl, hc], ?_⟩
    simp only [law01_NatKnown_L6_step, hl, hc, decide_false, cond_false]
    exact ⟨trivial, trivial, trivial, trivial⟩
theorem nk_L2 (t : Bool) (i : Int) (hi : 0 ≤ i ∧ i < 10) : ∃ y, Runs law01_NatKnown_L2_step law01_NatKnown_L2_vcs ⟨t, l, i, 0⟩ y ∧ (y.1 = false ∧ y.2.l = l ∧ y.2.i = i) := by
  refine Runs.of (fun s => s.l = l ∧ s.i = i ∧ 0 ≤ s.k ∧ s.k ≤ 10) (fun s => (10 - s.k).toNat) _ ?_ _ ⟨rfl, rfl, by simp, by simp⟩
  rintro ⟨t, l', i', k'⟩ ⟨h1, h2, h4, h5⟩
  dsimp only at *
  subst h1 h2
  by_cases hk : k' < 10
  · obtain ⟨⟨b4, y4⟩, r4, q1, q2, q3, q4⟩ := nk_L4 _ hl hg t i' k' hi ⟨h4, hk⟩
    have e4 : law01_NatKnown_L4_run ⟨t, _, i', k', -1⟩ = (b4, y4) := theRun_eq (d := fun x => ⟨true, x⟩) r4
    obtain ⟨⟨b6, y6⟩, r6, s1, s2, s3, s4⟩ := nk_L6 _ hl hg y4.t0 i' k' hi ⟨h4, hk⟩
    have e6 : law01_NatKnown_L6_run ⟨y4.t0, _, i', k', 0⟩ = (b6, y6) := theRun_eq (d := fun x => ⟨true, x⟩) r6
    dsimp only at q1 q2 q3 q4 s1 s2 s3 s4
    subst q1 s1
    have w1 : IntKind.i64.wrap (k' + 1) = k' + 1 := by rw [IntWalk.i64_in]; omega
    have g1 := good_get hg i'.toNat (by omega); have g2 := good_get hg k'.toNat (by omega)
    have gu : ∀ z : Int, inr .u64 (IntKind.u64.wrap z) := fun z => by rw [inr_u64, IntKind.wrap_u64]; omega
    obtain ⟨p, q⟩ := NatMakes_law _ _ _ g1 g2 (gu (IntKind.u64.wrap (IntKind.i64.wrap (i' * k')) * 2 ^ min (Int.toNat 60) 64))
    refine ⟨?_, ?_⟩
    · simp only [law01_NatKnown_L2_vcs, All, hk, hl, decide_true, true_implies, e4, q2, q3, q4, e6, s2, s3, s4, p, q, hi, h4, Bool.not_true, and_true, true_and, implies_true, Bool.true_eq_false, Bool.false_eq_true, false_implies]
      exact ⟨r4, r6⟩
    · simp only [law01_NatKnown_L2_step, hl, hk, decide_true, cond_true, e4, q2, q3, q4, e6, s2, s3, s4, q, Bool.not_true, cond_false, w1]
      exact ⟨⟨trivial, trivial, by omega, by omega⟩, by omega⟩
  · refine ⟨by simp [law01_NatKnown_L2_vcs, hl, hk], ?_⟩
    simp only [law01_NatKnown_L2_step, hl, hk, decide_false, cond_false]
    exact ⟨trivial, trivial, trivial⟩
theorem nk_L0 (t : Bool) : ∃ y, Runs law01_NatKnown_L0_step law01_NatKnown_L0_vcs ⟨t, l, 0⟩ y ∧ y.1 = false := by
  refine Runs.of (fun s => s.l = l ∧ 0 ≤ s.i ∧ s.i ≤ 10) (fun s => (10 - s.i).toNat) _ ?_ _ ⟨rfl, by simp, by simp⟩
  rintro ⟨t, l', i'⟩ ⟨h1, h4, h5⟩
  dsimp only at *
  subst h1
  by_cases hi : i' < 10
  · obtain ⟨⟨b, y⟩, r, q1, q2, q3⟩ := nk_L2 _ hl hg t i' ⟨h4, hi⟩
    have e : law01_NatKnown_L2_run ⟨t, _, i', 0⟩ = (b, y) := theRun_eq (d := fun x => ⟨true, x⟩) r
    dsimp only at q1 q2 q3
    subst q1
    have w1 : IntKind.i64.wrap (i' + 1) = i' + 1 := by rw [IntWalk.i64_in]; omega
    refine ⟨?_, ?_⟩
    · simp only [law01_NatKnown_L0_vcs, All, hi, hl, decide_true, true_implies, e, and_true, implies_true, Bool.true_eq_false, Bool.false_eq_true, false_implies]
      exact r
    · simp only [law01_NatKnown_L0_step, hl, hi, decide_true, cond_true, e, q2, q3, cond_false, w1]
      exact ⟨⟨trivial, by omega, by omega⟩, by omega⟩
  · refine ⟨by simp [law01_NatKnown_L0_vcs, hl, hi], ?_⟩
    simp only [law01_NatKnown_L0_step, hl, hi, decide_false, cond_false]
end
theorem NatKnown_law : S.law01_NatKnown_pre ∧ S.law01_NatKnown = true := by
  obtain ⟨wp, wv⟩ := works_both
  have hg : ∀ e ∈ ([([] : List Int), ([0] : List Int), ([1] : List Int), ([18446744073709551615] : List Int), ([0, 1] : List Int), ([18446744073709551615, 18446744073709551615] : List Int), ([5, 0, 0] : List Int), ([0, 0, 9223372036854775808] : List Int), ([9223372036854775808] : List Int), ([3, 7, 18446744073709551615, 9] : List Int)] : List (List Int)), Good e := by
    intro e he
    have hm : (10 : Nat) ≤ maxLen := by decide
    simp only [List.mem_cons, List.not_mem_nil, or_false] at he
    rcases he with rfl | rfl | rfl | rfl | rfl | rfl | rfl | rfl | rfl | rfl <;> refine ⟨fun x hx => ?_, Nat.le_trans (by decide) hm⟩ <;> rw [inr_u64] <;> simp at hx <;> omega
  obtain ⟨⟨b, y⟩, r, q⟩ := nk_L0 _ rfl hg false
  have e : law01_NatKnown_L0_run ⟨false, _, 0⟩ = (b, y) := theRun_eq (d := fun x => ⟨true, x⟩) r
  dsimp only at q
  subst q
  refine ⟨?_, ?_⟩
  · simp only [law01_NatKnown_pre, All, e, wp, implies_true, and_true, Bool.false_eq_true, false_implies, true_implies]; exact r
  · simp only [law01_NatKnown, e, wv, cond_false]
end S
