/-
  The chapter's examples of congruences, in plain words.
-/
import Derived.Test.YtpnegnhbbcligaaCongPlain9
set_option linter.all false
open Go Vm
namespace S

theorem ck_getD {l : List S.Cong} {n : Nat} (h : ∀ a ∈ l, S.Cong.ok a) (hn : n < l.length) : S.Cong.ok (l.getD n ⟨0, 0⟩) := by
  rw [List.getD_eq_getElem?_getD, List.getElem?_eq_getElem hn]; exact h _ (List.getElem_mem _)
theorem ck_getE {k : IntKind} {l : List Int} {n : Nat} (h : ∀ a ∈ l, inr k a) (hn : n < l.length) : inr k (l.getD n 0) := by
  rw [List.getD_eq_getElem?_getD, List.getElem?_eq_getElem hn]; exact h _ (List.getElem_mem _)
theorem mk_ok (m n : Int) (hm : inr .u64 m) : S.Cong.ok (mk m n) := by
  rw [inr_u64] at hm
  rw [ok_iff]; unfold mk
  by_cases h : m = 0
  · rw [if_pos h]; dsimp only; rw [IntKind.wrap_u64]; omega
  · rw [if_neg h]; dsimp only; have := mod_range n m (by omega); omega
theorem mk_M (m n : Int) : (⟨m, (mk m n).R⟩ : S.Cong) = mk m n := by
  unfold mk; split <;> simp_all
theorem i64n (n : Int) (h : -9223372036854775808 ≤ n ∧ n ≤ 9223372036854775807) : inr .i64 n := inr_i64.2 h

theorem ck_L2 (m : Int) (hm : 0 ≤ m ∧ m < 13) (l : List S.Cong) (hl : (l.length : Int) = 6 * m) (hok : ∀ a ∈ l, S.Cong.ok a) :
    ∃ y, Runs law20_CongKnown_L2_step law20_CongKnown_L2_vcs ⟨m, -2, l⟩ y ∧ (y.m = m ∧ (y.l.length : Int) = 6 * m + 6 ∧ ∀ a ∈ y.l, S.Cong.ok a) := by
  refine Runs.of (fun x => x.m = m ∧ -2 ≤ x.n ∧ x.n ≤ 4 ∧ (x.l.length : Int) = 6 * m + (x.n + 2) ∧ ∀ a ∈ x.l, S.Cong.ok a) (fun x => (4 - x.n).toNat) _ ?_ _ ⟨rfl, by simp, by simp, by simpa using hl, hok⟩
  rintro ⟨m', k, l⟩ ⟨h4, h0, h1, h2, h3⟩
  dsimp only at *
  subst h4
  have um : inr .u64 m' := inr_u64.2 (by omega)
  by_cases hk : k < 4
  · have e1 : IntKind.i64.wrap (k + 1) = k + 1 := by rw [IntWalk.i64_in]; omega
    have em := refMake_eq m' k (i64n k (by omega)) um
    refine ⟨?_, ?_⟩
    · simp only [law20_CongKnown_L2_vcs, All, hk, decide_true, true_implies, and_true, List.length_cons, List.length_nil]
      refine ⟨⟨refMake_pre _ _, ?_⟩, by simp⟩
      omega
    · simp only [law20_CongKnown_L2_step, hk, decide_true, cond_true, e1, em, mk_M]
      refine ⟨⟨trivial, by omega, by omega, ?_, ?_⟩, by omega⟩
      · simp; omega
      · intro a ha
        rcases List.mem_append.1 ha with h | h
        · exact h3 a h
        · simp only [List.mem_singleton] at h
          subst h
          exact mk_ok _ _ um
  · refine ⟨by simp [law20_CongKnown_L2_vcs, hk], ?_⟩
    simp only [law20_CongKnown_L2_step, hk, decide_false, cond_false]
    exact ⟨trivial, by omega, h3⟩

theorem ck_L0 : ∃ y, Runs law20_CongKnown_L0_step law20_CongKnown_L0_vcs ⟨0, []⟩ y ∧ ((y.l.length : Int) = 78 ∧ ∀ a ∈ y.l, S.Cong.ok a) := by
  refine Runs.of (fun x => 0 ≤ x.m ∧ x.m ≤ 13 ∧ (x.l.length : Int) = 6 * x.m ∧ ∀ a ∈ x.l, S.Cong.ok a) (fun x => (13 - x.m).toNat) _ ?_ _ ⟨by simp, by simp, by simp, by simp⟩
  rintro ⟨i, l⟩ ⟨h0, h1, h2, h3⟩
  dsimp only at *
  by_cases hi : i < 13
  · obtain ⟨y, hr, h5, h6, h7⟩ := ck_L2 i ⟨h0, hi⟩ l h2 h3
    have e : law20_CongKnown_L2_run ⟨i, -2, l⟩ = y := theRun_eq (d := fun x => x) hr
    have e1 : IntKind.u64.wrap (i + 1) = i + 1 := by rw [IntKind.wrap_u64]; omega
    refine ⟨by simp only [law20_CongKnown_L0_vcs, All, hi, decide_true, true_implies, e, and_true]; exact ⟨hr, by simp⟩, ?_⟩
    simp only [law20_CongKnown_L0_step, hi, decide_true, cond_true, e, h5, e1]
    exact ⟨⟨by omega, by omega, by omega, h7⟩, by omega⟩
  · refine ⟨by simp [law20_CongKnown_L0_vcs, hi], ?_⟩
    simp only [law20_CongKnown_L0_step, hi, decide_false, cond_false]
    exact ⟨by omega, h3⟩

theorem ck_L6 (l : List S.Cong) (hl : (l.length : Int) = 78) (hok : ∀ a ∈ l, S.Cong.ok a) (t : Bool) (i : Int) (hi : 0 ≤ i ∧ i < 78) :
    ∃ y, Runs law20_CongKnown_L6_step law20_CongKnown_L6_vcs ⟨t, i, 0, l⟩ y ∧ (y.1 = false ∧ y.2.i = i ∧ y.2.l = l) := by
  refine Runs.of (fun x => x.i = i ∧ x.l = l ∧ 0 ≤ x.k ∧ x.k ≤ 78) (fun x => (78 - x.k).toNat) _ ?_ _ ⟨rfl, rfl, by simp, by simp⟩
  rintro ⟨t, i', k, l'⟩ ⟨h4, h5, h0, h1⟩
  dsimp only at *
  subst h4 h5
  by_cases hk : k < 78
  · have w1 : IntKind.i64.wrap (k + 1) = k + 1 := by rw [IntWalk.i64_in]; omega
    have w2 : IntKind.i64.wrap (i' - 40) = i' - 40 := by rw [IntWalk.i64_in]; omega
    have w3 : IntKind.i64.wrap (k - 30) = k - 30 := by rw [IntWalk.i64_in]; omega
    have o1 := ck_getD (n := i'.toNat) hok (by omega)
    have o2 := ck_getD (n := k.toNat) hok (by omega)
    obtain ⟨p1, q1⟩ := CongOperates_law _ _ o1 o2
    obtain ⟨p2, q2⟩ := CongSound_law _ _ (i' - 40) (k - 30) o1 o2 (i64n _ (by omega)) (i64n _ (by omega))
    refine ⟨?_, ?_⟩
    · simp only [law20_CongKnown_L6_vcs, All, hl, hk, hi, h0, decide_true, true_implies, w2, w3, q1, q2, p1, p2, Bool.not_true, Bool.and_false, Bool.or_false, and_true, true_and, implies_true, Bool.false_eq_true, Bool.true_eq_false, false_implies]
    · simp only [law20_CongKnown_L6_step, hl, hk, decide_true, cond_true, w1, w2, w3, q1, q2, Bool.not_true, Bool.and_false, Bool.or_false, cond_false]
      exact ⟨⟨trivial, trivial, by omega, by omega⟩, by omega⟩
  · refine ⟨by simp [law20_CongKnown_L6_vcs, hl, hk], ?_⟩
    simp only [law20_CongKnown_L6_step, hl, hk, decide_false, cond_false]
    exact ⟨trivial, trivial, trivial⟩

theorem ck_L4 (l : List S.Cong) (hl : (l.length : Int) = 78) (hok : ∀ a ∈ l, S.Cong.ok a) (t : Bool) :
    ∃ y, Runs law20_CongKnown_L4_step law20_CongKnown_L4_vcs ⟨t, 0, l⟩ y ∧ (y.1 = false) := by
  refine Runs.of (fun x => x.l = l ∧ 0 ≤ x.i ∧ x.i ≤ 78) (fun x => (78 - x.i).toNat) _ ?_ _ ⟨rfl, by simp, by simp⟩
  rintro ⟨t, i', l'⟩ ⟨h3, h0, h1⟩
  dsimp only at *
  subst h3
  by_cases hi : i' < 78
  · obtain ⟨⟨b, y⟩, hr, h5, h7, h8⟩ := ck_L6 _ hl hok t i' ⟨h0, hi⟩
    have e : law20_CongKnown_L6_run ⟨t, i', 0, _⟩ = (b, y) := theRun_eq (d := fun x => ⟨true, x⟩) hr
    dsimp only at h5 h7 h8
    subst h5
    have w1 : IntKind.i64.wrap (i' + 1) = i' + 1 := by rw [IntWalk.i64_in]; omega
    have w2 : IntKind.u64.wrap i' = i' := by rw [IntKind.wrap_u64]; omega
    have w3 : IntKind.i64.wrap (i' - 30) = i' - 30 := by rw [IntWalk.i64_in]; omega
    have w4 : IntKind.i64.wrap (i' * 7) = i' * 7 := by rw [IntWalk.i64_in]; omega
    have m9 : 0 ≤ i'.tmod 9 ∧ i'.tmod 9 < 9 := by rw [Int.tmod_eq_emod_of_nonneg h0]; omega
    have m7 : 0 ≤ i'.tmod 7 ∧ i'.tmod 7 < 7 := by rw [Int.tmod_eq_emod_of_nonneg h0]; omega
    have m78 : 0 ≤ (i' * 7).tmod 78 ∧ (i' * 7).tmod 78 < 78 := by rw [Int.tmod_eq_emod_of_nonneg (by omega)]; omega
    have w5 : IntKind.i64.wrap (i'.tmod 9 - 4) = i'.tmod 9 - 4 := by rw [IntWalk.i64_in]; omega
    have o1 := ck_getD (n := i'.toNat) hok (by omega)
    have o2 := ck_getD (n := ((i' * 7).tmod 78).toNat) hok (by omega)
    obtain ⟨p1, q1⟩ := CongMakes_law i' (i' - 30) _ _ (inr_u64.2 (by omega)) (i64n _ (by omega)) o1 o2
    obtain ⟨p2, q2⟩ := CongCounts_law _ (i'.tmod 9 - 4) (i'.tmod 7) o1 (i64n _ (by omega)) (i64n _ (by omega))
    refine ⟨?_, ?_⟩
    · simp only [law20_CongKnown_L4_vcs, All, hl, hi, decide_true, true_implies, e, h7, h8, w2, w3, w4, w5, p1, q1, p2, q2, h0, m78.1, m78.2, Bool.not_true, Bool.or_self, and_true, true_and, implies_true, Bool.false_eq_true, Bool.true_eq_false, false_implies, ne_eq]
      exact ⟨hr, by decide⟩
    · simp only [law20_CongKnown_L4_step, hl, hi, decide_true, cond_true, e, cond_false, h7, h8, w1, w2, w3, w4, w5, q1, q2, Bool.not_true, Bool.or_self]
      exact ⟨⟨trivial, by omega, by omega⟩, by omega⟩
  · refine ⟨by simp [law20_CongKnown_L4_vcs, hl, hi], ?_⟩
    simp only [law20_CongKnown_L4_step, hl, hi, decide_false, cond_false]

theorem ck_L12 (M N : List Int) (hM : M.length = 10) (hMo : ∀ e ∈ M, inr .u64 e) (hN : N.length = 7) (hNo : ∀ e ∈ N, inr .i64 e) (t : Bool) (i k : Int) (hi : 0 ≤ i ∧ i < 10) (hk : 0 ≤ k ∧ k < 10) :
    ∃ y, Runs law20_CongKnown_L12_step law20_CongKnown_L12_vcs ⟨t, M, N, i, k, 0⟩ y ∧ (y.1 = false ∧ y.2.mods = M ∧ y.2.nums = N ∧ y.2.i = i ∧ y.2.k = k) := by
  refine Runs.of (fun x => x.mods = M ∧ x.nums = N ∧ x.i = i ∧ x.k = k ∧ 0 ≤ x.n ∧ x.n ≤ 7) (fun x => (7 - x.n).toNat) _ ?_ _ ⟨rfl, rfl, rfl, rfl, by simp, by simp⟩
  rintro ⟨t, M', N', i', k', n⟩ ⟨h2, h3, h4, h5, h0, h1⟩
  dsimp only at *
  subst h2 h3 h4 h5
  have hM' : (M'.length : Int) = 10 := by omega
  have hN' : (N'.length : Int) = 7 := by omega
  by_cases hn : n < 7
  · have w1 : IntKind.i64.wrap (n + 1) = n + 1 := by rw [IntWalk.i64_in]; omega
    have w2 : IntKind.i64.wrap (n + i') = n + i' := by rw [IntWalk.i64_in]; omega
    have w3 : IntKind.i64.wrap (n + i' + k') = n + i' + k' := by rw [IntWalk.i64_in]; omega
    have w4 : IntKind.i64.wrap (n + k') = n + k' := by rw [IntWalk.i64_in]; omega
    have m1 : 0 ≤ (n + i' + k').tmod 7 ∧ (n + i' + k').tmod 7 < 7 := by rw [Int.tmod_eq_emod_of_nonneg (by omega)]; omega
    have m2 : 0 ≤ (n + k').tmod 7 ∧ (n + k').tmod 7 < 7 := by rw [Int.tmod_eq_emod_of_nonneg (by omega)]; omega
    have m3 : 0 ≤ (n + 1).tmod 7 ∧ (n + 1).tmod 7 < 7 := by rw [Int.tmod_eq_emod_of_nonneg (by omega)]; omega
    have a1 := ck_getE (n := i'.toNat) hMo (by omega)
    have a2 := ck_getE (n := n.toNat) hNo (by omega)
    have a3 := ck_getE (n := k'.toNat) hMo (by omega)
    have a4 := ck_getE (n := ((n + i' + k').tmod 7).toNat) hNo (by omega)
    have a5 := ck_getE (n := ((n + k').tmod 7).toNat) hNo (by omega)
    have a6 := ck_getE (n := ((n + 1).tmod 7).toNat) hNo (by omega)
    have o1 := mk_ok (M'.getD i'.toNat 0) (N'.getD n.toNat 0) a1
    have o2 := mk_ok (M'.getD k'.toNat 0) (N'.getD ((n + i' + k').tmod 7).toNat 0) a3
    have r1 := refMake_eq _ _ a2 a1
    have r2 := refMake_eq _ _ a4 a3
    obtain ⟨p1, q1⟩ := CongMakes_law _ _ _ _ a1 a2 o1 o2
    obtain ⟨p2, q2⟩ := CongOperates_law _ _ o1 o2
    obtain ⟨p3, q3⟩ := CongCounts_law _ _ _ o1 a2 a5
    obtain ⟨p4, q4⟩ := CongSound_law _ _ _ _ o1 o2 a2 a6
    refine ⟨?_, ?_⟩
    · simp only [law20_CongKnown_L12_vcs, All, hM', hN', hi, hk, hn, h0, decide_true, true_implies, w1, w2, w3, w4, r1, r2, p1, q1, p2, q2, p3, q3, p4, q4, m1, m2, m3, refMake_pre, Bool.not_true, Bool.or_self, and_true, true_and, implies_true, Bool.false_eq_true, Bool.true_eq_false, false_implies, and_self]
    · simp only [law20_CongKnown_L12_step, hN', hn, decide_true, cond_true, w1, w2, w3, w4, r1, r2, q1, q2, q3, q4, Bool.not_true, Bool.or_self, cond_false]
      exact ⟨⟨trivial, trivial, trivial, trivial, by omega, by omega⟩, by omega⟩
  · refine ⟨by simp [law20_CongKnown_L12_vcs, hN', hn], ?_⟩
    simp only [law20_CongKnown_L12_step, hN', hn, decide_false, cond_false]
    exact ⟨trivial, trivial, trivial, trivial, trivial⟩

theorem ck_L10 (M N : List Int) (hM : M.length = 10) (hMo : ∀ e ∈ M, inr .u64 e) (hN : N.length = 7) (hNo : ∀ e ∈ N, inr .i64 e) (t : Bool) (i : Int) (hi : 0 ≤ i ∧ i < 10) :
    ∃ y, Runs law20_CongKnown_L10_step law20_CongKnown_L10_vcs ⟨t, M, N, i, 0⟩ y ∧ (y.1 = false ∧ y.2.mods = M ∧ y.2.nums = N ∧ y.2.i = i) := by
  refine Runs.of (fun x => x.mods = M ∧ x.nums = N ∧ x.i = i ∧ 0 ≤ x.k ∧ x.k ≤ 10) (fun x => (10 - x.k).toNat) _ ?_ _ ⟨rfl, rfl, rfl, by simp, by simp⟩
  rintro ⟨t, M', N', i', k'⟩ ⟨h2, h3, h4, h0, h1⟩
  dsimp only at *
  subst h2 h3 h4
  have hM' : (M'.length : Int) = 10 := by omega
  by_cases hk : k' < 10
  · obtain ⟨⟨b, y⟩, hr, h5, h6, h7, h8, h9⟩ := ck_L12 _ _ hM hMo hN hNo t i' k' hi ⟨h0, hk⟩
    have e : law20_CongKnown_L12_run ⟨t, _, _, i', k', 0⟩ = (b, y) := theRun_eq (d := fun x => ⟨true, x⟩) hr
    dsimp only at h5 h6 h7 h8 h9
    subst h5
    have w1 : IntKind.i64.wrap (k' + 1) = k' + 1 := by rw [IntWalk.i64_in]; omega
    refine ⟨?_, ?_⟩
    · simp only [law20_CongKnown_L10_vcs, All, hM', hk, decide_true, true_implies, e, and_true]
      exact ⟨⟨hr, by simp⟩, by simp⟩
    · simp only [law20_CongKnown_L10_step, hM', hk, decide_true, cond_true, e, cond_false, h6, h7, h8, h9, w1]
      exact ⟨⟨trivial, trivial, trivial, by omega, by omega⟩, by omega⟩
  · refine ⟨by simp [law20_CongKnown_L10_vcs, hM', hk], ?_⟩
    simp only [law20_CongKnown_L10_step, hM', hk, decide_false, cond_false]
    exact ⟨trivial, trivial, trivial, trivial⟩

theorem ck_L8 (M N : List Int) (hM : M.length = 10) (hMo : ∀ e ∈ M, inr .u64 e) (hN : N.length = 7) (hNo : ∀ e ∈ N, inr .i64 e) (t : Bool) :
    ∃ y, Runs law20_CongKnown_L8_step law20_CongKnown_L8_vcs ⟨t, M, N, 0⟩ y ∧ (y.1 = false) := by
  refine Runs.of (fun x => x.mods = M ∧ x.nums = N ∧ 0 ≤ x.i ∧ x.i ≤ 10) (fun x => (10 - x.i).toNat) _ ?_ _ ⟨rfl, rfl, by simp, by simp⟩
  rintro ⟨t, M', N', i'⟩ ⟨h2, h3, h0, h1⟩
  dsimp only at *
  subst h2 h3
  have hM' : (M'.length : Int) = 10 := by omega
  by_cases hi : i' < 10
  · obtain ⟨⟨b, y⟩, hr, h5, h6, h7, h8⟩ := ck_L10 _ _ hM hMo hN hNo t i' ⟨h0, hi⟩
    have e : law20_CongKnown_L10_run ⟨t, _, _, i', 0⟩ = (b, y) := theRun_eq (d := fun x => ⟨true, x⟩) hr
    dsimp only at h5 h6 h7 h8
    subst h5
    have w1 : IntKind.i64.wrap (i' + 1) = i' + 1 := by rw [IntWalk.i64_in]; omega
    refine ⟨?_, ?_⟩
    · simp only [law20_CongKnown_L8_vcs, All, hM', hi, decide_true, true_implies, e, and_true]
      exact ⟨⟨hr, by simp⟩, by simp⟩
    · simp only [law20_CongKnown_L8_step, hM', hi, decide_true, cond_true, e, cond_false, h6, h7, h8, w1]
      exact ⟨⟨trivial, trivial, by omega, by omega⟩, by omega⟩
  · refine ⟨by simp [law20_CongKnown_L8_vcs, hM', hi], ?_⟩
    simp only [law20_CongKnown_L8_step, hM', hi, decide_false, cond_false]

theorem CongKnown_law : S.law20_CongKnown_pre ∧ S.law20_CongKnown = true := by
  obtain ⟨y, hr, h2, h3⟩ := ck_L0
  have e : law20_CongKnown_L0_run ⟨0, []⟩ = y := theRun_eq (d := fun x => x) hr
  obtain ⟨⟨b, z⟩, hr', h4⟩ := ck_L4 _ h2 h3 false
  have e' : law20_CongKnown_L4_run ⟨false, 0, y.l⟩ = (b, z) := theRun_eq (d := fun x => ⟨true, x⟩) hr'
  dsimp only at h4
  subst h4
  have hMo : ∀ e ∈ ([0, 1, 2, 3, 4294967296, 9223372036854775807, 9223372036854775808, 9223372036854775809, 18446744073709551614, 18446744073709551615] : List Int), inr .u64 e := by
    intro e he
    simp only [List.mem_cons, List.not_mem_nil, or_false] at he
    rw [inr_u64]; omega
  have hNo : ∀ e ∈ ([0, 1, (-1), 9223372036854775807, (-9223372036854775808), 1099511627776, 7] : List Int), inr .i64 e := by
    intro e he
    simp only [List.mem_cons, List.not_mem_nil, or_false] at he
    rw [inr_i64]; omega
  obtain ⟨⟨c, u⟩, hu, h5⟩ := ck_L8 _ _ rfl hMo rfl hNo z.t0
  have eu : law20_CongKnown_L8_run ⟨z.t0, _, _, 0⟩ = (c, u) := theRun_eq (d := fun x => ⟨true, x⟩) hu
  dsimp only at h5
  subst h5
  obtain ⟨p1, q1⟩ := CongMakes_law 3 5 ⟨3, 3⟩ ⟨0, 0⟩ (inr_u64.2 (by omega)) (i64n _ (by omega)) (by rw [ok_iff]; decide) (by rw [ok_iff]; decide)
  obtain ⟨p2, q2⟩ := CongCounts_law ⟨1, 0⟩ (-9223372036854775808) 9223372036854775807 (by rw [ok_iff]; decide) (i64n _ (by omega)) (i64n _ (by omega))
  refine ⟨?_, ?_⟩
  · simp only [law20_CongKnown_pre, All, e, e', eu, p1, p2, works_pre]
    refine ⟨⟨hr, hr'⟩, by simp, fun _ => ⟨hu, by simp, by simp⟩⟩
  · simp only [law20_CongKnown, e, e', eu, q1, q2, works, cond_false, Bool.and_self]
end S
