/-
  The closed statement: each operator of numbers about the bounds, with each other.
-/
import Derived.Test.YtpnegnhbbcligaaWordPlain6
set_option linter.all false
open Go Vm
namespace S

theorem wk_get {l : List Int} (h : ∀ x ∈ l, I64 x) (n : Nat) : I64 (l.getD n 0) := by
  rw [List.getD_eq_getElem?_getD]
  cases hn : l[n]? with
  | none => exact ⟨by decide, by decide⟩
  | some x => exact h x (List.mem_of_getElem? hn)
theorem wk_L4 (l : List Int) (hl : l.length ≤ 1000) (hok : ∀ x ∈ l, I64 x) (t : Bool) (i k : Int) (hi : 0 ≤ i ∧ i < (l.length : Int)) (hk : 0 ≤ k ∧ k < (l.length : Int)) :
    ∃ y, Runs law09_WordKnown_L4_step law09_WordKnown_L4_vcs ⟨t, l, i, k, -1⟩ y ∧ (y.1 = false ∧ y.2.t0 = t ∧ y.2.l = l ∧ y.2.i = i ∧ y.2.k = k) := by
  refine Runs.of (fun s => s.t0 = t ∧ s.l = l ∧ s.i = i ∧ s.k = k ∧ -1 ≤ s.op ∧ s.op ≤ 22) (fun s => (22 - s.op).toNat) _ ?_ _ ⟨rfl, rfl, rfl, rfl, Int.le_refl _, (by decide : (-1 : Int) ≤ 22)⟩
  rintro ⟨t', l', i', k', op⟩ ⟨h1, h2, h3, h4, h5, h6⟩
  dsimp only at *
  subst h1 h2 h3 h4
  obtain ⟨p, q⟩ := WordDoes_all op _ _ (wk_get hok i'.toNat) (wk_get hok k'.toNat)
  by_cases ho : op < 22
  · have e : IntKind.i64.wrap (op + 1) = op + 1 := IntWalk.i64_in _ (by omega)
    refine ⟨?_, ?_⟩
    · simp only [law09_WordKnown_L4_vcs, All, hi.1, hi.2, hk.1, hk.2, p, implies_true, and_self]
    · simp only [law09_WordKnown_L4_step, decide_eq_true ho, q, Bool.not_true, cond_true, cond_false, e]
      exact ⟨⟨trivial, trivial, trivial, trivial, by omega, by omega⟩, by omega⟩
  · refine ⟨by simp [law09_WordKnown_L4_vcs, ho], ?_⟩
    simp only [law09_WordKnown_L4_step, decide_eq_false ho, cond_false]
    exact ⟨trivial, trivial, trivial, trivial, trivial⟩
theorem wk_L2 (l : List Int) (hl : l.length ≤ 1000) (hok : ∀ x ∈ l, I64 x) (t : Bool) (i : Int) (hi : 0 ≤ i ∧ i < (l.length : Int)) :
    ∃ y, Runs law09_WordKnown_L2_step law09_WordKnown_L2_vcs ⟨t, l, i, 0⟩ y ∧ (y.1 = false ∧ y.2.t0 = t ∧ y.2.l = l ∧ y.2.i = i) := by
  refine Runs.of (fun s => s.t0 = t ∧ s.l = l ∧ s.i = i ∧ 0 ≤ s.k ∧ s.k ≤ (l.length : Int)) (fun s => ((l.length : Int) - s.k).toNat) _ ?_ _ ⟨rfl, rfl, rfl, Int.le_refl _, Int.natCast_nonneg _⟩
  rintro ⟨t', l', i', k⟩ ⟨h1, h2, h3, h4, h5⟩
  dsimp only at *
  subst h1 h2 h3
  by_cases ho : k < (l'.length : Int)
  · obtain ⟨y, hr, y1, y2, y3, y4, y5⟩ := wk_L4 l' hl hok t' i' k hi ⟨h4, ho⟩
    have er : law09_WordKnown_L4_run ⟨t', l', i', k, -1⟩ = y := theRun_eq (d := fun x => ⟨true, x⟩) hr
    obtain ⟨p, q⟩ := WordLaws_all _ _ (wk_get hok i'.toNat) (wk_get hok k.toNat)
    have e : IntKind.i64.wrap (k + 1) = k + 1 := IntWalk.i64_in _ (by omega)
    refine ⟨?_, ?_⟩
    · simp only [law09_WordKnown_L2_vcs, All, er, hr, y1, y3, y4, y5, hi.1, hi.2, h4, ho, p, implies_true, and_self]
    · simp only [law09_WordKnown_L2_step, decide_eq_true ho, er, y1, y2, y3, y4, y5, q, Bool.not_true, cond_true, cond_false, e]
      exact ⟨⟨trivial, trivial, trivial, by omega, by omega⟩, by omega⟩
  · refine ⟨by simp [law09_WordKnown_L2_vcs, ho], ?_⟩
    simp only [law09_WordKnown_L2_step, decide_eq_false ho, cond_false]
    exact ⟨trivial, trivial, trivial, trivial⟩
theorem wk_L0 (l : List Int) (hl : l.length ≤ 1000) (hok : ∀ x ∈ l, I64 x) (t : Bool) :
    ∃ y, Runs law09_WordKnown_L0_step law09_WordKnown_L0_vcs ⟨t, l, 0⟩ y ∧ y.1 = false := by
  refine Runs.of (fun s => s.l = l ∧ 0 ≤ s.i ∧ s.i ≤ (l.length : Int)) (fun s => ((l.length : Int) - s.i).toNat) _ ?_ _ ⟨rfl, Int.le_refl _, Int.natCast_nonneg _⟩
  rintro ⟨t', l', i⟩ ⟨h2, h4, h5⟩
  dsimp only at *
  subst h2
  by_cases ho : i < (l'.length : Int)
  · obtain ⟨y, hr, y1, y2, y3, y4⟩ := wk_L2 l' hl hok t' i ⟨h4, ho⟩
    have er : law09_WordKnown_L2_run ⟨t', l', i, 0⟩ = y := theRun_eq (d := fun x => ⟨true, x⟩) hr
    have e : IntKind.i64.wrap (i + 1) = i + 1 := IntWalk.i64_in _ (by omega)
    refine ⟨?_, ?_⟩
    · simp only [law09_WordKnown_L0_vcs, All, er, hr, y1, implies_true, and_self]
    · simp only [law09_WordKnown_L0_step, decide_eq_true ho, er, y1, y2, y3, y4, cond_true, cond_false, e]
      exact ⟨⟨trivial, by omega, by omega⟩, by omega⟩
  · refine ⟨by simp [law09_WordKnown_L0_vcs, ho], ?_⟩
    simp only [law09_WordKnown_L0_step, decide_eq_false ho, cond_false]
theorem WordKnown_law : S.law09_WordKnown_pre ∧ S.law09_WordKnown = true := by
  obtain ⟨wp, wv⟩ := works09
  obtain ⟨y, hr, hy⟩ := wk_L0 ([0, 1, (-1), 2, (-2), 3, 7, (-7), 62, 63, 64, 65, 2147483648, (-2147483648), 4611686018427387904, 4611686018427387909, 9223372036854775807, 9223372036854775806, (-9223372036854775808), (-9223372036854775807)] : List Int) (by decide) (by
    have : ∀ x ∈ ([0, 1, (-1), 2, (-2), 3, 7, (-7), 62, 63, 64, 65, 2147483648, (-2147483648), 4611686018427387904, 4611686018427387909, 9223372036854775807, 9223372036854775806, (-9223372036854775808), (-9223372036854775807)] : List Int), -9223372036854775808 ≤ x ∧ x ≤ 9223372036854775807 := by decide
    exact this) false
  have er := theRun_eq (d := fun x => (⟨true, x⟩ : Bool × law09_WordKnown_L0)) hr
  have er : law09_WordKnown_L0_run _ = y := er
  refine ⟨?_, ?_⟩
  · simp only [law09_WordKnown_pre, All, er, hr, hy, wp, implies_true, and_self]
  · simp only [law09_WordKnown, er, hy, wv, cond_false]
end S
