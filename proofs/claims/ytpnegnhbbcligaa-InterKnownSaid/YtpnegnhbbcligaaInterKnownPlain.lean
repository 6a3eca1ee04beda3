/-
  The chapter's examples of intervals, in plain words.
-/
import Derived.Test.YtpnegnhbbcligaaInterPlain
set_option linter.all false
open Go Vm
namespace S

theorem known_getD {l : List S.Inter} {n : Nat} (h : ∀ a ∈ l, S.Inter.ok a) (hn : n < l.length) : S.Inter.ok (l.getD n ⟨0, 0⟩) := by
  rw [List.getD_eq_getElem?_getD, List.getElem?_eq_getElem hn]; exact h _ (List.getElem_mem _)
theorem known_getE {l : List Int} {n : Nat} (h : ∀ a ∈ l, inr .i64 a) (hn : n < l.length) : inr .i64 (l.getD n 0) := by
  rw [List.getD_eq_getElem?_getD, List.getElem?_eq_getElem hn]; exact h _ (List.getElem_mem _)

theorem known_L2 (E : List Int) (hE : E.length = 6) (hEo : ∀ e ∈ E, inr .i64 e) (i : Int) (hi : 0 ≤ i ∧ i < 6) (l : List S.Inter) (hl : (l.length : Int) = 6 * i) (hok : ∀ a ∈ l, S.Inter.ok a) :
    ∃ y, Runs law19_InterKnown_L2_step law19_InterKnown_L2_vcs ⟨E, i, 0, l⟩ y ∧ (y.ends = E ∧ y.i = i ∧ (y.l.length : Int) = 6 * i + 6 ∧ ∀ a ∈ y.l, S.Inter.ok a) := by
  refine Runs.of (fun x => x.ends = E ∧ x.i = i ∧ 0 ≤ x.k ∧ x.k ≤ 6 ∧ (x.l.length : Int) = 6 * i + x.k ∧ ∀ a ∈ x.l, S.Inter.ok a) (fun x => (6 - x.k).toNat) _ ?_ _ ⟨rfl, rfl, by simp, by simp, by simpa using hl, hok⟩
  rintro ⟨_, _, k, l⟩ ⟨rfl, rfl, h0, h1, h2, h3⟩
  dsimp only at *
  by_cases hk : k < 6
  · have e1 : IntKind.i64.wrap (k + 1) = k + 1 := by rw [IntWalk.i64_in]; omega
    refine ⟨?_, ?_⟩
    · simp only [law19_InterKnown_L2_vcs, All, hk, hi, h0, hE, decide_true, true_implies, and_true, List.length_cons, List.length_nil]
      simp; omega
    · simp only [law19_InterKnown_L2_step, hk, decide_true, cond_true, e1]
      refine ⟨⟨trivial, trivial, by omega, by omega, ?_, ?_⟩, by omega⟩
      · simp; omega
      · intro a ha
        rcases List.mem_append.1 ha with h | h
        · exact h3 a h
        · simp only [List.mem_singleton] at h
          subst h
          exact ⟨known_getE hEo (by omega), known_getE hEo (by omega), trivial⟩
  · refine ⟨by simp [law19_InterKnown_L2_vcs, hk], ?_⟩
    simp only [law19_InterKnown_L2_step, hk, decide_false, cond_false]
    exact ⟨trivial, trivial, by omega, h3⟩

theorem known_L0 (E : List Int) (hE : E.length = 6) (hEo : ∀ e ∈ E, inr .i64 e) :
    ∃ y, Runs law19_InterKnown_L0_step law19_InterKnown_L0_vcs ⟨E, 0, []⟩ y ∧ (y.ends = E ∧ (y.l.length : Int) = 36 ∧ ∀ a ∈ y.l, S.Inter.ok a) := by
  refine Runs.of (fun x => x.ends = E ∧ 0 ≤ x.i ∧ x.i ≤ 6 ∧ (x.l.length : Int) = 6 * x.i ∧ ∀ a ∈ x.l, S.Inter.ok a) (fun x => (6 - x.i).toNat) _ ?_ _ ⟨rfl, by simp, by simp, by simp, by simp⟩
  rintro ⟨_, i, l⟩ ⟨rfl, h0, h1, h2, h3⟩
  dsimp only at *
  by_cases hi : i < 6
  · obtain ⟨y, hr, h4, h5, h6, h7⟩ := known_L2 _ hE hEo i ⟨h0, hi⟩ l h2 h3
    have e : law19_InterKnown_L2_run ⟨_, i, 0, l⟩ = y := theRun_eq (d := fun x => x) hr
    have e1 : IntKind.i64.wrap (i + 1) = i + 1 := by rw [IntWalk.i64_in]; omega
    refine ⟨by simp only [law19_InterKnown_L0_vcs, All, hi, decide_true, true_implies, e, and_true]; exact ⟨hr, by simp⟩, ?_⟩
    simp only [law19_InterKnown_L0_step, hi, decide_true, cond_true, e, h5, e1]
    exact ⟨⟨h4, by omega, by omega, by omega, h7⟩, by omega⟩
  · refine ⟨by simp [law19_InterKnown_L0_vcs, hi], ?_⟩
    simp only [law19_InterKnown_L0_step, hi, decide_false, cond_false]
    exact ⟨trivial, by omega, h3⟩

theorem known_L6 (E : List Int) (hE : E.length = 6) (hEo : ∀ e ∈ E, inr .i64 e) (l : List S.Inter) (hl : (l.length : Int) = 36) (hok : ∀ a ∈ l, S.Inter.ok a) (t : Bool) (i : Int) (hi : 0 ≤ i ∧ i < 36) :
    ∃ y, Runs law19_InterKnown_L6_step law19_InterKnown_L6_vcs ⟨t, E, i, 0, l⟩ y ∧ (y.1 = false ∧ y.2.ends = E ∧ y.2.i = i ∧ y.2.l129 = l) := by
  refine Runs.of (fun x => x.ends = E ∧ x.i = i ∧ x.l129 = l ∧ 0 ≤ x.k ∧ x.k ≤ 36) (fun x => (36 - x.k).toNat) _ ?_ _ ⟨rfl, rfl, rfl, by simp, by simp⟩
  rintro ⟨t, E', i', k, l'⟩ ⟨h3, h4, h5, h0, h1⟩
  dsimp only at *
  subst h3 h4 h5
  by_cases hk : k < 36
  · have w1 : IntKind.i64.wrap (k + 1) = k + 1 := by rw [IntWalk.i64_in]; omega
    have m30 : 0 ≤ i'.tmod 30 ∧ i'.tmod 30 < 30 := by rw [Int.tmod_eq_emod_of_nonneg hi.1]; omega
    have m6 : 0 ≤ k.tmod 6 ∧ k.tmod 6 < 6 := by rw [Int.tmod_eq_emod_of_nonneg h0]; omega
    have m20 : 0 ≤ k.tmod 20 ∧ k.tmod 20 < 20 := by rw [Int.tmod_eq_emod_of_nonneg h0]; omega
    have w2 : IntKind.i64.wrap (i'.tmod 30 + k.tmod 6) = i'.tmod 30 + k.tmod 6 := by rw [IntWalk.i64_in]; omega
    have w3 : IntKind.i64.wrap (i' * 5) = i' * 5 := by rw [IntWalk.i64_in]; omega
    have w4 : IntKind.i64.wrap (i' * 5 + k) = i' * 5 + k := by rw [IntWalk.i64_in]; omega
    have w5 : IntKind.i64.wrap (i' + k) = i' + k := by rw [IntWalk.i64_in]; omega
    have w6 : IntKind.i64.wrap (k.tmod 20 + 9) = k.tmod 20 + 9 := by rw [IntWalk.i64_in]; omega
    have m36 : 0 ≤ (i' * 5 + k).tmod 36 ∧ (i' * 5 + k).tmod 36 < 36 := by rw [Int.tmod_eq_emod_of_nonneg (by omega)]; omega
    have m6' : 0 ≤ (i' + k).tmod 6 ∧ (i' + k).tmod 6 < 6 := by rw [Int.tmod_eq_emod_of_nonneg (by omega)]; omega
    have ok : ∀ j : Int, 0 ≤ j → j < 36 → S.Inter.ok (l'.getD j.toNat ⟨0, 0⟩) := fun j _ _ => known_getD hok (by omega)
    have okp : ∀ p q : Nat, (∀ a ∈ (l'.take p).drop q, S.Inter.ok a) ∧ ((l'.take p).drop q).length ≤ maxLen := fun p q =>
      ⟨fun a ha => hok a (List.mem_of_mem_take (List.mem_of_mem_drop ha)), by
        have : ((l'.take p).drop q).length ≤ l'.length := by simp [List.length_drop, List.length_take]; omega
        have : (36 : Nat) ≤ maxLen := by decide
        omega⟩
    obtain ⟨p1, q1⟩ := tells (l'.getD i'.toNat ⟨0, 0⟩) (l'.getD k.toNat ⟨0, 0⟩) (E'.getD ((i' + k).tmod 6).toNat 0)
    obtain ⟨p2, q2⟩ := joins_law ((l'.take (i'.tmod 30 + k.tmod 6).toNat).drop (i'.tmod 30).toNat) (l'.getD i'.toNat ⟨0, 0⟩) (l'.getD k.toNat ⟨0, 0⟩) (okp _ _) (ok _ hi.1 hi.2) (ok _ h0 hk)
    obtain ⟨p3, q3⟩ := lattice_law (l'.getD i'.toNat ⟨0, 0⟩) (l'.getD k.toNat ⟨0, 0⟩) (l'.getD ((i' * 5 + k).tmod 36).toNat ⟨0, 0⟩) (E'.getD ((i' + k).tmod 6).toNat 0) ((l'.take (k.tmod 20 + 9).toNat).drop (k.tmod 20).toNat)
      (ok _ hi.1 hi.2) (ok _ h0 hk) (ok _ m36.1 m36.2) (known_getE hEo (by omega)) (okp _ _)
    refine ⟨?_, ?_⟩
    · simp only [law19_InterKnown_L6_vcs, All, hl, hE, hk, decide_true, true_implies, w2, w3, w4, w5, w6, q1, q2, q3, Bool.not_true, Bool.or_false, p1, p2, p3, and_true, hi, h0, true_and, implies_true, Bool.false_eq_true, Bool.true_eq_false, false_implies]
      simp only [m30.1, m6'.1, m36.1, m36.2, m20.1, true_and]
      omega
    · simp only [law19_InterKnown_L6_step, hl, hk, decide_true, cond_true, w1, w2, w3, w4, w5, w6, q1, q2, q3, Bool.not_true, Bool.or_false, cond_false]
      exact ⟨⟨trivial, trivial, trivial, by omega, by omega⟩, by omega⟩
  · refine ⟨by simp [law19_InterKnown_L6_vcs, hl, hk], ?_⟩
    simp only [law19_InterKnown_L6_step, hl, hk, decide_false, cond_false]
    exact ⟨trivial, trivial, trivial, trivial⟩

theorem known_L4 (E : List Int) (hE : E.length = 6) (hEo : ∀ e ∈ E, inr .i64 e) (l : List S.Inter) (hl : (l.length : Int) = 36) (hok : ∀ a ∈ l, S.Inter.ok a) (t : Bool) :
    ∃ y, Runs law19_InterKnown_L4_step law19_InterKnown_L4_vcs ⟨t, E, 0, l⟩ y ∧ (y.1 = false ∧ y.2.l129 = l) := by
  refine Runs.of (fun x => x.ends = E ∧ x.l129 = l ∧ 0 ≤ x.i ∧ x.i ≤ 36) (fun x => (36 - x.i).toNat) _ ?_ _ ⟨rfl, rfl, by simp, by simp⟩
  rintro ⟨t, E', i', l'⟩ ⟨h3, h4, h0, h1⟩
  dsimp only at *
  subst h3 h4
  by_cases hi : i' < 36
  · obtain ⟨⟨b, y⟩, hr, h5, h6, h7, h8⟩ := known_L6 _ hE hEo _ hl hok t i' ⟨h0, hi⟩
    have e : law19_InterKnown_L6_run ⟨t, _, i', 0, _⟩ = (b, y) := theRun_eq (d := fun x => ⟨true, x⟩) hr
    dsimp only at h5 h6 h7 h8
    subst h5 h6
    have w1 : IntKind.i64.wrap (i' + 1) = i' + 1 := by rw [IntWalk.i64_in]; omega
    refine ⟨?_, ?_⟩
    · simp only [law19_InterKnown_L4_vcs, All, hl, hi, decide_true, true_implies, e, and_true]
      exact ⟨⟨hr, by simp⟩, by simp⟩
    · simp only [law19_InterKnown_L4_step, hl, hi, decide_true, cond_true, e, cond_false, h7, h8, w1]
      exact ⟨⟨trivial, trivial, by omega, by omega⟩, by omega⟩
  · refine ⟨by simp [law19_InterKnown_L4_vcs, hl, hi], ?_⟩
    simp only [law19_InterKnown_L4_step, hl, hi, decide_false, cond_false]
    exact ⟨trivial, trivial⟩

theorem known_law : S.law19_InterKnown_pre ∧ S.law19_InterKnown = true := by
  have hw : IntKind.i64.wrap (S.ref19_Least + 1) = -9223372036854775807 := by decide +kernel
  have hE : ∀ e ∈ ([S.ref19_Least, -9223372036854775807, -1, 0, 1, S.ref19_Most] : List Int), inr .i64 e := by
    intro e he
    simp only [List.mem_cons, List.not_mem_nil, or_false, ref19_Least, ref19_Most] at he
    rcases he with rfl | rfl | rfl | rfl | rfl | rfl <;> exact ⟨by decide, by decide⟩
  obtain ⟨y, hr, h1, h2, h3⟩ := known_L0 _ rfl hE
  have e : law19_InterKnown_L0_run ⟨_, 0, []⟩ = y := theRun_eq (d := fun x => x) hr
  obtain ⟨⟨b, z⟩, hr', h4, h5⟩ := known_L4 _ rfl hE _ h2 h3 false
  have e' : law19_InterKnown_L4_run ⟨false, _, 0, y.l⟩ = (b, z) := theRun_eq (d := fun x => ⟨true, x⟩) hr'
  dsimp only at h4 h5
  subst h4
  obtain ⟨p1, q1⟩ := joins_law [] (y.l.getD (Int.toNat 0) ⟨0, 0⟩) (y.l.getD (Int.toNat 1) ⟨0, 0⟩) ⟨by simp, by simp⟩ (known_getD h3 (by omega)) (known_getD h3 (by omega))
  refine ⟨?_, ?_⟩
  · simp only [law19_InterKnown_pre, All, hw, e, h1, e', h5, p1, works_pre]
    refine ⟨⟨hr, hr'⟩, by simp, ?_⟩
    simp [h2]
  · simp only [law19_InterKnown, hw, e, h1, e', h5, q1, works, cond_false, Bool.and_self]
end S
