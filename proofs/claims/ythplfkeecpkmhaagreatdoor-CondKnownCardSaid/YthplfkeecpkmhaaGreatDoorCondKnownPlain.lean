/-
  The statement CondKnown, in plain words.
-/
import Derived.Test.YthplfkeecpkmhaaGreatDoorCondPlain9
set_option linter.all false
open Go Vm
namespace SV
open S SC

theorem ck_getV {l : List S.Value} {n : Nat} (h : ∀ a ∈ l, S.Value.ok a) (hn : n < l.length) : S.Value.ok (l.getD n ⟨⟨0, 0⟩, ⟨0, 0⟩⟩) := by
  rw [List.getD_eq_getElem?_getD, List.getElem?_eq_getElem hn]; exact h _ (List.getElem_mem hn)
theorem ck_tmod (a b : Int) (ha : 0 ≤ a) (hb : 0 < b) : Int.tmod a b = a % b ∧ 0 ≤ a % b ∧ a % b < b := ⟨Int.tmod_eq_emod_of_nonneg ha, Int.emod_nonneg _ (by omega), Int.emod_lt_of_pos _ hb⟩
theorem ck_ok {v : S.Value} (h : RV v) : S.Value.ok v := (ok_iff' v).2 h.ok
theorem ck_make {m n : Int} (hm : inr .u64 m) (hn : inr .i64 n) : S.Cong.ok (S.cong_Make m n) := by
  rw [Make_eq _ _ hn hm]
  have hb := inr_u64.1 hm
  rw [ok_iff]
  unfold mk
  by_cases hz : m = 0
  · rw [if_pos hz]; dsimp only; rw [IntKind.wrap_u64]; omega
  · rw [if_neg hz]
    have := mod_range n m (by omega)
    dsimp only; omega

theorem ck_L2 (lo : Int) (hlo : -2 ≤ lo ∧ lo < 3) (l : List S.Value) (hl : (l.length : Int) = 5 * (lo + 2)) (hok : ∀ a ∈ l, S.Value.ok a) :
    ∃ y, Runs law24_CondKnown_L2_step law24_CondKnown_L2_vcs ⟨lo, 0, l⟩ y ∧ (y.lo = lo ∧ (y.l.length : Int) = 5 * (lo + 2) + 5 ∧ ∀ a ∈ y.l, S.Value.ok a) := by
  refine Runs.of (fun x => x.lo = lo ∧ 0 ≤ x.m ∧ x.m ≤ 5 ∧ (x.l.length : Int) = 5 * (lo + 2) + x.m ∧ ∀ a ∈ x.l, S.Value.ok a) (fun x => (5 - x.m).toNat) _ ?_ _ ⟨rfl, by simp, by simp, by simpa using hl, hok⟩
  rintro ⟨lo', m, l⟩ ⟨e1, h0, h1, h2, h3⟩
  dsimp only at e1 h0 h1 h2 h3
  subst e1
  by_cases hm : m < 5
  · have d1 : decide (m < 5) = true := decide_eq_true hm
    have e1 : IntKind.u64.wrap (m + 1) = m + 1 := by rw [IntKind.wrap_u64]; omega
    have e2 : IntKind.i64.wrap m = m := by rw [IntKind.wrap_i64]; omega
    have e3 : IntKind.i64.wrap (lo' + m) = lo' + m := by rw [IntKind.wrap_i64]; omega
    have e4 : IntKind.i64.wrap (lo' + m - 1) = lo' + m - 1 := by rw [IntKind.wrap_i64]; omega
    obtain ⟨r1, r2, r3⟩ := ck_tmod m 3 h0 (by decide)
    refine ⟨?_, ?_⟩
    · simp only [law24_CondKnown_L2_vcs, All, d1, true_implies, and_true, List.length_cons, List.length_nil]
      exact ⟨⟨Make_pre _ _, by omega⟩, fun h => by cases h⟩
    · simp only [law24_CondKnown_L2_step, d1, cond_true, e1, e2, e3, e4, r1]
      refine ⟨⟨trivial, by omega, by omega, ?_, ?_⟩, by omega⟩
      · simp; omega
      · intro a ha
        rcases List.mem_append.1 ha with h | h
        · exact h3 a h
        · simp only [List.mem_singleton] at h
          subst h
          exact ⟨⟨inr_i64.2 (by dsimp only; omega), inr_i64.2 (by dsimp only; omega), trivial⟩, ck_make (inr_u64.2 (by omega)) (inr_i64.2 (by omega)), trivial⟩
  · have d1 : decide (m < 5) = false := decide_eq_false hm
    refine ⟨by simp only [law24_CondKnown_L2_vcs, d1]; exact ⟨(fun h => by cases h), fun _ => trivial⟩, ?_⟩
    simp only [law24_CondKnown_L2_step, d1, cond_false]
    exact ⟨trivial, by omega, h3⟩

theorem ck_L0 : ∃ y, Runs law24_CondKnown_L0_step law24_CondKnown_L0_vcs ⟨-2, []⟩ y ∧ ((y.l.length : Int) = 25 ∧ ∀ a ∈ y.l, S.Value.ok a) := by
  refine Runs.of (fun x => -2 ≤ x.lo ∧ x.lo ≤ 3 ∧ (x.l.length : Int) = 5 * (x.lo + 2) ∧ ∀ a ∈ x.l, S.Value.ok a) (fun x => (3 - x.lo).toNat) _ ?_ _ ⟨by simp, by simp, by simp, by simp⟩
  rintro ⟨lo, l⟩ ⟨h0, h1, h2, h3⟩
  dsimp only at h0 h1 h2 h3
  by_cases hi : lo < 3
  · have d1 : decide (lo < 3) = true := decide_eq_true hi
    obtain ⟨y, hr, h4, h5, h6⟩ := ck_L2 lo ⟨h0, hi⟩ l h2 h3
    have e : law24_CondKnown_L2_run ⟨lo, 0, l⟩ = y := theRun_eq (d := fun x => x) hr
    have e1 : IntKind.i64.wrap (lo + 1) = lo + 1 := by rw [IntKind.wrap_i64]; omega
    refine ⟨?_, ?_⟩
    · simp only [law24_CondKnown_L0_vcs, All, d1, true_implies, e, and_true]
      exact ⟨hr, fun h => by cases h⟩
    · simp only [law24_CondKnown_L0_step, d1, cond_true, e, h4, e1]
      exact ⟨⟨by omega, by omega, by omega, h6⟩, by omega⟩
  · have d1 : decide (lo < 3) = false := decide_eq_false hi
    refine ⟨by simp only [law24_CondKnown_L0_vcs, d1]; exact ⟨(fun h => by cases h), fun _ => trivial⟩, ?_⟩
    simp only [law24_CondKnown_L0_step, d1, cond_false]
    exact ⟨by omega, h3⟩

theorem ck_L8 (l : List S.Value) (hl : (l.length : Int) = 33) (hok : ∀ a ∈ l, S.Value.ok a) (t : Bool) (i k : Int) (hi : 0 ≤ i ∧ i < 33) (hk : 0 ≤ k ∧ k < 33) :
    ∃ y, Runs law24_CondKnown_L8_step law24_CondKnown_L8_vcs ⟨t, i, k, 0, l⟩ y ∧ (y.1 = false ∧ y.2.i = i ∧ y.2.k = k ∧ y.2.l = l) := by
  refine Runs.of (fun x => x.i = i ∧ x.k = k ∧ x.l = l ∧ 0 ≤ x.op ∧ x.op ≤ 8) (fun x => (8 - x.op).toNat) _ ?_ _ ⟨rfl, rfl, rfl, by simp, by simp⟩
  rintro ⟨t', i', k', op, l'⟩ ⟨e1, e2, e3, h0, h1⟩
  dsimp only at e1 e2 e3 h0 h1
  subst e1 e2 e3
  have vi := ck_getV hok (n := i'.toNat) (by omega)
  have vk := ck_getV hok (n := k'.toNat) (by omega)
  have li : inr .i64 (l'.getD i'.toNat ⟨⟨0, 0⟩, ⟨0, 0⟩⟩).I.Hi := inr_i64.2 ((ok_iff' _).1 vi).1.2
  have lk : inr .i64 (l'.getD k'.toNat ⟨⟨0, 0⟩, ⟨0, 0⟩⟩).I.Lo := inr_i64.2 ((ok_iff' _).1 vk).1.1
  by_cases hb : (decide (op < 8) && (Int.tmod (IntKind.i64.wrap (i' + k')) 3 == 0)) = true
  · have hop : op < 8 := by rw [Bool.and_eq_true, decide_eq_true_iff] at hb; exact hb.1
    have e1 : IntKind.i64.wrap (op + 1) = op + 1 := by rw [IntKind.wrap_i64]; omega
    have ho : inr .i64 op := inr_i64.2 (by omega)
    obtain ⟨a1, a2⟩ := CondTells_law op (l'.getD i'.toNat ⟨⟨0, 0⟩, ⟨0, 0⟩⟩) (l'.getD k'.toNat ⟨⟨0, 0⟩, ⟨0, 0⟩⟩) true _ ho vi vk trivial lk
    obtain ⟨b1, b2⟩ := CondTells_law op (l'.getD i'.toNat ⟨⟨0, 0⟩, ⟨0, 0⟩⟩) (l'.getD k'.toNat ⟨⟨0, 0⟩, ⟨0, 0⟩⟩) false (l'.getD i'.toNat ⟨⟨0, 0⟩, ⟨0, 0⟩⟩).I.Hi ho vi vk trivial li
    obtain ⟨c1, c2⟩ := CondSound_law op (l'.getD i'.toNat ⟨⟨0, 0⟩, ⟨0, 0⟩⟩) (l'.getD k'.toNat ⟨⟨0, 0⟩, ⟨0, 0⟩⟩) (l'.getD k'.toNat ⟨⟨0, 0⟩, ⟨0, 0⟩⟩).I.Lo (l'.getD i'.toNat ⟨⟨0, 0⟩, ⟨0, 0⟩⟩).I.Hi ho vi vk lk li
    have q1 : 0 ≤ i' ∧ i' < (l'.length : Int) := ⟨hi.1, by omega⟩
    have q2 : 0 ≤ k' ∧ k' < (l'.length : Int) := ⟨hk.1, by omega⟩
    refine ⟨?_, ?_⟩
    · simp only [law24_CondKnown_L8_vcs, hb, All, and_true, true_implies]
      exact ⟨⟨⟨q1.1, q1.2, q2.1, q2.2, q2.1, q2.2, a1, fun _ => q1, fun _ => q2, fun _ => q1, fun _ => b1, fun _ => q1, fun _ => q2, fun _ => q2, fun _ => q1, fun _ => c1⟩, fun _ => trivial, fun _ => trivial⟩, fun h => by cases h⟩
    · simp only [law24_CondKnown_L8_step, hb, a2, b2, c2, e1, cond_true, Bool.not_true, Bool.or_false, cond_false]
      exact ⟨⟨trivial, trivial, trivial, by omega, by omega⟩, by omega⟩
  · have hb := Bool.eq_false_iff.2 hb
    refine ⟨by simp only [law24_CondKnown_L8_vcs, hb]; exact ⟨(fun h => by cases h), fun _ => trivial⟩, ?_⟩
    simp only [law24_CondKnown_L8_step, hb, cond_false]
    exact ⟨trivial, trivial, trivial, trivial⟩

theorem ck_L6 (l : List S.Value) (hl : (l.length : Int) = 33) (hok : ∀ a ∈ l, S.Value.ok a) (t : Bool) (i : Int) (hi : 0 ≤ i ∧ i < 33) :
    ∃ y, Runs law24_CondKnown_L6_step law24_CondKnown_L6_vcs ⟨t, i, 0, l⟩ y ∧ (y.1 = false ∧ y.2.i = i ∧ y.2.l = l) := by
  refine Runs.of (fun x => x.i = i ∧ x.l = l ∧ 0 ≤ x.k ∧ x.k ≤ 33) (fun x => (33 - x.k).toNat) _ ?_ _ ⟨rfl, rfl, by simp, by simp⟩
  rintro ⟨t', i', k, l'⟩ ⟨e1, e2, h0, h1⟩
  dsimp only at e1 e2 h0 h1
  subst e1 e2
  by_cases hk : k < 33
  · have hd : decide (k < (l'.length : Int)) = true := by rw [decide_eq_true_iff]; omega
    have e1 : IntKind.i64.wrap (k + 1) = k + 1 := by rw [IntKind.wrap_i64]; omega
    have e2 : IntKind.i64.wrap (3 * k) = 3 * k := by rw [IntKind.wrap_i64]; omega
    have e3 : IntKind.i64.wrap (i' + 3 * k) = i' + 3 * k := by rw [IntKind.wrap_i64]; omega
    obtain ⟨a1, a2, a3⟩ := ck_tmod (i' + 3 * k) 10 (by omega) (by decide)
    obtain ⟨b1, b2, b3⟩ := ck_tmod k 5 h0 (by decide)
    obtain ⟨c1, c2, c3⟩ := ck_tmod i' 5 hi.1 (by decide)
    obtain ⟨f1, f2, f3⟩ := ck_tmod k 7 h0 (by decide)
    have e4 : IntKind.i64.wrap ((i' + 3 * k) % 10 - 1) = (i' + 3 * k) % 10 - 1 := by rw [IntKind.wrap_i64]; omega
    have e5 : IntKind.i64.wrap (k % 5 - 2) = k % 5 - 2 := by rw [IntKind.wrap_i64]; omega
    have e6 : IntKind.i64.wrap (i' % 5 - 2) = i' % 5 - 2 := by rw [IntKind.wrap_i64]; omega
    have e7 : IntKind.i64.wrap (k % 7 - 3) = k % 7 - 3 := by rw [IntKind.wrap_i64]; omega
    have vi := ck_getV hok (n := i'.toNat) (by omega)
    have vk := ck_getV hok (n := k.toNat) (by omega)
    have ho : inr .i64 (i' + 3 * k) := inr_i64.2 (by omega)
    obtain ⟨t1, t2⟩ := CondTells_law ((i' + 3 * k) % 10 - 1) _ _ (Int.tmod (i' + 3 * k) 3 == 0) (k % 5 - 2) (inr_i64.2 (by omega)) vi vk trivial (inr_i64.2 (by omega))
    obtain ⟨k1, k2⟩ := CondKeeps_law (i' + 3 * k) _ _ (Int.tmod (i' + 3 * k) 2 == 0) ho vi vk trivial
    obtain ⟨x1, x2⟩ := CondExact_law (i' + 3 * k) _ _ ho vi vk
    obtain ⟨s1, s2⟩ := CondSound_law (i' + 3 * k) _ _ (i' % 5 - 2) (k % 7 - 3) ho vi vk (inr_i64.2 (by omega)) (inr_i64.2 (by omega))
    obtain ⟨y, hr, h4, h5, h6, h7⟩ := ck_L8 l' hl hok t' i' k hi ⟨h0, hk⟩
    have e : law24_CondKnown_L8_run ⟨t', i', k, 0, l'⟩ = y := theRun_eq (d := fun x => (true, x)) hr
    have q1 : 0 ≤ i' ∧ i' < (l'.length : Int) := ⟨hi.1, by omega⟩
    have q2 : 0 ≤ k ∧ k < (l'.length : Int) := ⟨h0, by omega⟩
    refine ⟨?_, ?_⟩
    · simp only [law24_CondKnown_L6_vcs, hd, e1, e2, e3, e4, e5, e6, e7, a1, b1, c1, f1, t2, k2, x2, s2, e, All, and_true, true_implies]
      exact ⟨⟨⟨q1.1, q1.2, q2.1, q2.2, t1, fun _ => q1, fun _ => q2, fun _ => k1, fun _ => q1, fun _ => q2, fun _ => x1, fun _ => q1, fun _ => q2, fun _ => s1⟩, fun _ => trivial, fun _ => ⟨hr, fun _ => trivial, fun _ => trivial⟩⟩, fun h => by cases h⟩
    · simp only [law24_CondKnown_L6_step, hd, e1, e2, e3, e4, e5, e6, e7, a1, b1, c1, f1, t2, k2, x2, s2, e, h4, h5, h6, h7, cond_true, Bool.not_true, Bool.or_false, cond_false]
      exact ⟨⟨trivial, trivial, by omega, by omega⟩, by omega⟩
  · have hd : decide (k < (l'.length : Int)) = false := by rw [decide_eq_false_iff_not]; omega
    refine ⟨by simp only [law24_CondKnown_L6_vcs, hd]; exact ⟨(fun h => by cases h), fun _ => trivial⟩, ?_⟩
    simp only [law24_CondKnown_L6_step, hd, cond_false]
    exact ⟨trivial, trivial, trivial⟩

theorem ck_L4 (l : List S.Value) (hl : (l.length : Int) = 33) (hok : ∀ a ∈ l, S.Value.ok a) (t : Bool) : ∃ y, Runs law24_CondKnown_L4_step law24_CondKnown_L4_vcs ⟨t, 0, l⟩ y ∧ y.1 = false := by
  refine Runs.of (fun x => x.l = l ∧ 0 ≤ x.i ∧ x.i ≤ 33) (fun x => (33 - x.i).toNat) _ ?_ _ ⟨rfl, by simp, by simp⟩
  rintro ⟨t', i, l'⟩ ⟨e1, h0, h1⟩
  dsimp only at e1 h0 h1
  subst e1
  by_cases hi : i < 33
  · have hd : decide (i < (l'.length : Int)) = true := by rw [decide_eq_true_iff]; omega
    obtain ⟨y, hr, h4, h5, h6⟩ := ck_L6 l' hl hok t' i ⟨h0, hi⟩
    have e : law24_CondKnown_L6_run ⟨t', i, 0, l'⟩ = y := theRun_eq (d := fun x => (true, x)) hr
    have e1 : IntKind.i64.wrap (i + 1) = i + 1 := by rw [IntKind.wrap_i64]; omega
    refine ⟨?_, ?_⟩
    · simp only [law24_CondKnown_L4_vcs, All, hd, true_implies, e, and_true]
      exact ⟨⟨hr, fun _ => trivial, fun _ => trivial⟩, fun h => by cases h⟩
    · simp only [law24_CondKnown_L4_step, hd, cond_true, e, h4, h5, h6, e1, cond_false]
      exact ⟨⟨trivial, by omega, by omega⟩, by omega⟩
  · have hd : decide (i < (l'.length : Int)) = false := by rw [decide_eq_false_iff_not]; omega
    refine ⟨by simp only [law24_CondKnown_L4_vcs, hd]; exact ⟨(fun h => by cases h), fun _ => trivial⟩, ?_⟩
    simp only [law24_CondKnown_L4_step, hd, cond_false]

theorem CondKnown_law : S.law24_CondKnown_pre ∧ S.law24_CondKnown = true := by
  obtain ⟨y0, r0, a1, a2⟩ := ck_L0
  have e0 : law24_CondKnown_L0_run ⟨-2, []⟩ = y0 := theRun_eq (d := fun x => x) r0
  have w1 : IntKind.i64.wrap (-9223372036854775808 + 1) = -9223372036854775807 := by decide
  have w2 : IntKind.i64.wrap (9223372036854775807 - 2) = 9223372036854775805 := by decide
  obtain ⟨p1, p2, _⟩ := Range_pre' (-9223372036854775808) (-9223372036854775807) imin (by unfold I64; decide)
  obtain ⟨q1, q2, _⟩ := Range_pre' 9223372036854775805 9223372036854775807 (by unfold I64; decide) imax
  obtain ⟨s1, s2, _⟩ := Range_pre' (-9223372036854775808) (-1) imin (by unfold I64; decide)
  have hl : ∀ v ∈ y0.l ++ ([S.value_Top, S.value_One (-9223372036854775808), S.value_One 9223372036854775807, S.value_Range (-9223372036854775808) (-9223372036854775807), S.value_Range 9223372036854775805 9223372036854775807, S.value_Range (-9223372036854775808) (-1), (⟨S.inter_Whole, S.cong_Make 4 1⟩ : S.Value), S.value_Bottom] : List S.Value), S.Value.ok v := by
    intro v hv
    rcases List.mem_append.1 hv with h | h
    · exact a2 v h
    · simp only [List.mem_cons, List.not_mem_nil, or_false] at h
      rcases h with rfl | rfl | rfl | rfl | rfl | rfl | rfl | rfl
      · exact ck_ok top_rv
      · exact ck_ok (one_rv imin)
      · exact ck_ok (one_rv imax)
      · exact (ok_iff' _).2 p2
      · exact (ok_iff' _).2 q2
      · exact (ok_iff' _).2 s2
      · exact ⟨⟨inr_i64.2 imin, inr_i64.2 imax, trivial⟩, ck_make (inr_u64.2 (by decide)) (inr_i64.2 (by decide)), trivial⟩
      · exact ck_ok bot_rv
  obtain ⟨y4, r4, b1⟩ := ck_L4 _ (by simp; omega) hl false
  have e4 : law24_CondKnown_L4_run _ = y4 := theRun_eq (d := fun x => (true, x)) r4
  refine ⟨?_, ?_⟩
  · simp only [law24_CondKnown_pre, e0, w1, w2, All, and_true]
    rw [e4]
    exact ⟨⟨r0, p1, q1, s1, Make_pre _ _, by simp; omega, r4⟩, fun _ => trivial, fun _ => works24.1⟩
  · simp only [law24_CondKnown, e0, w1, w2]
    rw [e4, b1, works24.2]; rfl
end SV
