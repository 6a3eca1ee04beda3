/-
  The law ValueKnown, in plain words.
-/
import Derived.Test.YthplfkeecpkmhaaGreatDoorValLaw3
set_option linter.all false
open Go Vm
namespace SV
open S SC

theorem vk_getE {k : IntKind} {l : List Int} {n : Nat} (h : ∀ a ∈ l, inr k a) (hn : n < l.length) : inr k (l.getD n 0) := by
  rw [List.getD_eq_getElem?_getD, List.getElem?_eq_getElem hn]; exact h _ (List.getElem_mem hn)
theorem vk_getV {l : List S.Value} {n : Nat} (h : ∀ a ∈ l, S.Value.ok a) (hn : n < l.length) : S.Value.ok (l.getD n ⟨⟨0, 0⟩, ⟨0, 0⟩⟩) := by
  rw [List.getD_eq_getElem?_getD, List.getElem?_eq_getElem hn]; exact h _ (List.getElem_mem hn)
theorem tmod_r (a b : Int) (ha : 0 ≤ a) (hb : 0 < b) : Int.tmod a b = a % b ∧ 0 ≤ a % b ∧ a % b < b := ⟨Int.tmod_eq_emod_of_nonneg ha, Int.emod_nonneg _ (by omega), Int.emod_lt_of_pos _ hb⟩


theorem vk_L2 (E Mo : List Int) (hE : E.length = 7) (hEo : ∀ e ∈ E, inr .i64 e) (hM : Mo.length = 7) (hMo : ∀ e ∈ Mo, inr .u64 e) (t : Bool) (i : Int) (hi : 0 ≤ i ∧ i < 7) (l : List S.Value) (hl : (l.length : Int) = 7 * i) (hok : ∀ a ∈ l, S.Value.ok a) :
    ∃ y, Runs law21_ValueKnown_L2_step law21_ValueKnown_L2_vcs ⟨t, E, Mo, i, 0, l⟩ y ∧ (y.1 = false ∧ y.2.t0 = t ∧ y.2.ends = E ∧ y.2.mods = Mo ∧ y.2.i = i ∧ (y.2.l.length : Int) = 7 * i + 7 ∧ ∀ a ∈ y.2.l, S.Value.ok a) := by
  refine Runs.of (fun x => x.t0 = t ∧ x.ends = E ∧ x.mods = Mo ∧ x.i = i ∧ 0 ≤ x.k ∧ x.k ≤ 7 ∧ (x.l.length : Int) = 7 * i + x.k ∧ ∀ a ∈ x.l, S.Value.ok a) (fun x => (7 - x.k).toNat) _ ?_ _ ⟨rfl, rfl, rfl, rfl, by simp, by simp, by simpa using hl, hok⟩
  rintro ⟨t, E, Mo, i, k, l⟩ ⟨rfl, rfl, rfl, rfl, h0, h1, h2, h3⟩
  dsimp only at *
  by_cases hk : k < 7
  · have e1 : IntKind.i64.wrap (k + 1) = k + 1 := by rw [IntKind.wrap_i64]; omega
    have e2 : IntKind.i64.wrap (i + k) = i + k := by rw [IntKind.wrap_i64]; omega
    have e3 : IntKind.i64.wrap (k * 9) = k * 9 := by rw [IntKind.wrap_i64]; omega
    have hik : 0 ≤ i * k ∧ i * k ≤ 49 := by
      refine ⟨Int.mul_nonneg hi.1 h0, ?_⟩
      have := Int.mul_le_mul (show i ≤ 7 by omega) (show k ≤ 7 by omega) h0 (by decide)
      omega
    have e4 : IntKind.i64.wrap (i * k) = i * k := by rw [IntKind.wrap_i64]; omega
    obtain ⟨r1, r2, r3⟩ := tmod_r (i + k) 7 (by omega) (by decide)
    obtain ⟨r4, r5, r6⟩ := tmod_r (i * k) 7 hik.1 (by decide)
    have oi := vk_getE hEo (n := i.toNat) (by omega)
    have ok_ := vk_getE hEo (n := k.toNat) (by omega)
    have om := vk_getE hMo (n := ((i + k) % 7).toNat) (by omega)
    have on := vk_getE hEo (n := ((i * k) % 7).toNat) (by omega)
    have omk := vk_getE hMo (n := k.toNat) (by omega)
    have hw : ∀ x : Int, inr .u64 (IntKind.u64.wrap x) := fun x => by rw [inr_u64, IntKind.wrap_u64]; omega
    have hI : S.Inter.ok ⟨E.getD i.toNat 0, E.getD k.toNat 0⟩ := ⟨oi, ok_, trivial⟩
    have hC : S.Cong.ok ⟨Mo.getD ((i + k) % 7).toNat 0, IntKind.u64.wrap (IntKind.u64.wrap i * 2 ^ min (k * 9).toNat 64)⟩ := ⟨om, hw _, trivial⟩
    have t1 := ValueTells_law _ _ (E.getD ((i * k) % 7).toNat 0) k hI hC on (inr_i64.2 (by omega))
    have hMk : S.Cong.ok (S.cong_Make (Mo.getD k.toNat 0) (E.getD i.toNat 0)) := by
      rw [Make_eq _ _ oi omk]
      have hb := inr_u64.1 omk
      rw [ok_iff]
      unfold mk
      by_cases hz : Mo.getD k.toNat 0 = 0
      · rw [if_pos hz]; dsimp only; rw [IntKind.wrap_u64]; omega
      · rw [if_neg hz]
        have := mod_range (E.getD i.toNat 0) (Mo.getD k.toNat 0) (by omega)
        dsimp only; omega
    have t2 := ValueTells_law _ _ (E.getD k.toNat 0) 9 hI hMk ok_ (inr_i64.2 (by decide))
    refine ⟨?_, ?_⟩
    · simp only [law21_ValueKnown_L2_vcs, All, hk, decide_true, true_implies, and_true, e2, e3, e4, r1, r4, t1.2, t2.2, List.length_cons, List.length_nil]
      exact ⟨⟨⟨hi.1, by omega, h0, by omega, r2, by omega, by omega, r5, by omega, t1.1, fun _ => ⟨h0, by omega⟩, fun _ => ⟨hi.1, by omega⟩, fun _ => Make_pre _ _, fun _ => ⟨h0, by omega⟩, fun _ => t2.1⟩, fun _ => trivial, fun _ => by omega⟩, fun h => by cases h⟩
    · simp only [law21_ValueKnown_L2_step, hk, decide_true, cond_true, e1, e2, e3, e4, r1, r4, t1.2, t2.2, Bool.not_true, Bool.or_false, cond_false]
      refine ⟨⟨trivial, trivial, trivial, trivial, by omega, by omega, ?_, ?_⟩, by omega⟩
      · simp; omega
      · intro a ha
        rcases List.mem_append.1 ha with h | h
        · exact h3 a h
        · simp only [List.mem_singleton] at h
          subst h
          exact ⟨hI, hC, trivial⟩
  · refine ⟨by simp only [law21_ValueKnown_L2_vcs, hk, decide_false]; exact ⟨(fun h => by cases h), fun _ => trivial⟩, ?_⟩
    simp only [law21_ValueKnown_L2_step, hk, decide_false, cond_false]
    exact ⟨trivial, trivial, trivial, trivial, trivial, by omega, h3⟩

theorem vk_L0 (E Mo : List Int) (hE : E.length = 7) (hEo : ∀ e ∈ E, inr .i64 e) (hM : Mo.length = 7) (hMo : ∀ e ∈ Mo, inr .u64 e) (t : Bool) : ∃ y, Runs law21_ValueKnown_L0_step law21_ValueKnown_L0_vcs ⟨t, E, Mo, 0, []⟩ y ∧ (y.1 = false ∧ y.2.ends = E ∧ (y.2.l.length : Int) = 49 ∧ ∀ a ∈ y.2.l, S.Value.ok a) := by
  refine Runs.of (fun x => x.ends = E ∧ x.mods = Mo ∧ 0 ≤ x.i ∧ x.i ≤ 7 ∧ (x.l.length : Int) = 7 * x.i ∧ ∀ a ∈ x.l, S.Value.ok a) (fun x => (7 - x.i).toNat) _ ?_ _ ⟨rfl, rfl, by simp, by simp, by simp, by simp⟩
  rintro ⟨t', E, Mo, i, l⟩ ⟨rfl, rfl, h0, h1, h2, h3⟩
  dsimp only at *
  by_cases hi : i < 7
  · obtain ⟨y, hr, h4, h5, h6, h7, h8, h9, h10⟩ := vk_L2 E Mo hE hEo hM hMo t' i ⟨h0, hi⟩ l h2 h3
    have e : law21_ValueKnown_L2_run ⟨t', E, Mo, i, 0, l⟩ = y := theRun_eq (d := fun x => (true, x)) hr
    have e1 : IntKind.i64.wrap (i + 1) = i + 1 := by rw [IntKind.wrap_i64]; omega
    refine ⟨?_, ?_⟩
    · simp only [law21_ValueKnown_L0_vcs, All, hi, decide_true, true_implies, e, and_true]
      exact ⟨⟨hr, fun _ => trivial, fun _ => trivial⟩, fun h => by cases h⟩
    · simp only [law21_ValueKnown_L0_step, hi, decide_true, cond_true, e, h4, h8, e1, cond_false]
      exact ⟨⟨h6, h7, by omega, by omega, by omega, h10⟩, by omega⟩
  · refine ⟨by simp only [law21_ValueKnown_L0_vcs, hi, decide_false]; exact ⟨(fun h => by cases h), fun _ => trivial⟩, ?_⟩
    simp only [law21_ValueKnown_L0_step, hi, decide_false, cond_false]
    exact ⟨trivial, trivial, by omega, h3⟩


theorem sub_ok (E : List Int) (hE : E.length = 7) (hEo : ∀ e ∈ E, inr .i64 e) (l : List S.Value) (hl : (l.length : Int) = 49) (hok : ∀ a ∈ l, S.Value.ok a) (a b : Nat) : (∀ v ∈ (l.take a).drop b, S.Value.ok v) ∧ ((l.take a).drop b).length ≤ maxLen :=
  ⟨fun v hv => hok v (List.mem_of_mem_take (List.mem_of_mem_drop hv)), by simp [maxLen]; omega⟩

theorem vk_L6 (E : List Int) (hE : E.length = 7) (hEo : ∀ e ∈ E, inr .i64 e) (l : List S.Value) (hl : (l.length : Int) = 49) (hok : ∀ a ∈ l, S.Value.ok a) (t : Bool) (i : Int) (hi : 0 ≤ i ∧ i < 49) :
    ∃ y, Runs law21_ValueKnown_L6_step law21_ValueKnown_L6_vcs ⟨t, E, i, 0, l⟩ y ∧ (y.1 = false ∧ y.2.ends = E ∧ y.2.i = i ∧ y.2.l195 = l) := by
  refine Runs.of (fun x => x.ends = E ∧ x.i = i ∧ x.l195 = l ∧ 0 ≤ x.k ∧ x.k ≤ 49) (fun x => (49 - x.k).toNat) _ ?_ _ ⟨rfl, rfl, rfl, by simp, by simp⟩
  rintro ⟨t', E, i, k, l⟩ ⟨rfl, rfl, rfl, h0, h1⟩
  dsimp only at *
  by_cases hk : k < 49
  · have hd : decide (k < (l.length : Int)) = true := by rw [decide_eq_true_iff]; omega
    have e1 : IntKind.i64.wrap (k + 1) = k + 1 := by rw [IntKind.wrap_i64]; omega
    have e2 : IntKind.i64.wrap (i + k) = i + k := by rw [IntKind.wrap_i64]; omega
    obtain ⟨a1, a2, a3⟩ := tmod_r i 40 hi.1 (by decide)
    obtain ⟨b1, b2, b3⟩ := tmod_r k 5 h0 (by decide)
    obtain ⟨c1, c2, c3⟩ := tmod_r k 7 h0 (by decide)
    obtain ⟨d1, d2, d3⟩ := tmod_r k 40 h0 (by decide)
    obtain ⟨f1, f2, f3⟩ := tmod_r (i + k) 7 (by omega) (by decide)
    have e3 : IntKind.i64.wrap (i % 40 + k % 5) = i % 40 + k % 5 := by rw [IntKind.wrap_i64]; omega
    have e4 : IntKind.i64.wrap (k % 40 + 4) = k % 40 + 4 := by rw [IntKind.wrap_i64]; omega
    have vi := vk_getV hok (n := i.toNat) (by omega)
    have vk := vk_getV hok (n := k.toNat) (by omega)
    have hn : (∀ n ∈ (E.take (k % 7).toNat).drop (Int.toNat 0), inr .i64 n) ∧ ((E.take (k % 7).toNat).drop (Int.toNat 0)).length ≤ maxLen :=
      ⟨fun n h => hEo n (List.mem_of_mem_take (List.mem_of_mem_drop h)), by simp [maxLen]; omega⟩
    have j := ValueJoins_law _ _ _ _ (sub_ok E hE hEo l hl hok (i % 40 + k % 5).toNat (i % 40).toNat) vi vk hn
    have la := ValueLattice_law _ _ (E.getD ((i + k) % 7).toNat 0) _ vi vk (vk_getE hEo (by omega)) (sub_ok E hE hEo l hl hok (k % 40 + 4).toNat (k % 40).toNat)
    refine ⟨?_, ?_⟩
    · simp only [law21_ValueKnown_L6_vcs, All, hd, true_implies, and_true, a1, b1, c1, d1, e2, e3, e4, f1, j.2, la.2]
      exact ⟨⟨⟨a2, by omega, by omega, hi.1, by omega, h0, by omega, by omega, c2, by omega, j.1, fun _ _ => ⟨hi.1, by omega⟩, fun _ _ => ⟨h0, by omega⟩, fun _ _ => ⟨f2, by omega⟩, fun _ _ => ⟨d2, by omega, by omega⟩, fun _ _ => la.1⟩, fun _ => trivial, fun _ => trivial⟩, fun h => by cases h⟩
    · simp only [law21_ValueKnown_L6_step, hd, cond_true, a1, b1, c1, d1, e1, e2, e3, e4, f1, j.2, la.2, Bool.not_true, Bool.and_false, Bool.or_false, cond_false]
      exact ⟨⟨trivial, trivial, trivial, by omega, by omega⟩, by omega⟩
  · have hd : decide (k < (l.length : Int)) = false := by rw [decide_eq_false_iff_not]; omega
    refine ⟨by simp only [law21_ValueKnown_L6_vcs, hd]; exact ⟨(fun h => by cases h), fun _ => trivial⟩, ?_⟩
    simp only [law21_ValueKnown_L6_step, hd, cond_false]
    exact ⟨trivial, trivial, trivial, trivial⟩

theorem vk_L4 (E : List Int) (hE : E.length = 7) (hEo : ∀ e ∈ E, inr .i64 e) (l : List S.Value) (hl : (l.length : Int) = 49) (hok : ∀ a ∈ l, S.Value.ok a) (t : Bool) : ∃ y, Runs law21_ValueKnown_L4_step law21_ValueKnown_L4_vcs ⟨t, E, 0, l⟩ y ∧ y.1 = false := by
  refine Runs.of (fun x => x.ends = E ∧ x.l195 = l ∧ 0 ≤ x.i ∧ x.i ≤ 49) (fun x => (49 - x.i).toNat) _ ?_ _ ⟨rfl, rfl, by simp, by simp⟩
  rintro ⟨t', E, i, l⟩ ⟨rfl, rfl, h0, h1⟩
  dsimp only at *
  by_cases hi : i < 49
  · have hd : decide (i < (l.length : Int)) = true := by rw [decide_eq_true_iff]; omega
    obtain ⟨y, hr, h4, h5, h6, h7⟩ := vk_L6 E hE hEo l hl hok t' i ⟨h0, hi⟩
    have e : law21_ValueKnown_L6_run ⟨t', E, i, 0, l⟩ = y := theRun_eq (d := fun x => (true, x)) hr
    have e1 : IntKind.i64.wrap (i + 1) = i + 1 := by rw [IntKind.wrap_i64]; omega
    refine ⟨?_, ?_⟩
    · simp only [law21_ValueKnown_L4_vcs, All, hd, true_implies, e, and_true]
      exact ⟨⟨hr, fun _ => trivial, fun _ => trivial⟩, fun h => by cases h⟩
    · simp only [law21_ValueKnown_L4_step, hd, cond_true, e, h4, h6, e1, cond_false]
      exact ⟨⟨h5, h7, by omega, by omega⟩, by omega⟩
  · have hd : decide (i < (l.length : Int)) = false := by rw [decide_eq_false_iff_not]; omega
    refine ⟨by simp only [law21_ValueKnown_L4_vcs, hd]; exact ⟨(fun h => by cases h), fun _ => trivial⟩, ?_⟩
    simp only [law21_ValueKnown_L4_step, hd, cond_false]

theorem vk_L10 (s : Int) : ∃ y, Runs law21_ValueKnown_L10_step law21_ValueKnown_L10_vcs ⟨s, 0, []⟩ y ∧ (y.vset = s ∧ y.numbers.length ≤ 8 ∧ ∀ n ∈ y.numbers, I64 n) := by
  refine Runs.of (fun x => x.vset = s ∧ 0 ≤ x.i ∧ x.i ≤ 8 ∧ (x.numbers.length : Int) ≤ x.i ∧ ∀ n ∈ x.numbers, I64 n) (fun x => (8 - x.i).toNat) _ ?_ _ ⟨rfl, by simp, by simp, by simp, by simp⟩
  rintro ⟨s, i, ns⟩ ⟨rfl, h0, h1, h2, h3⟩
  dsimp only at *
  by_cases hi : i < 8
  · have e1 : IntKind.i64.wrap (i + 1) = i + 1 := by rw [IntKind.wrap_i64]; omega
    have e2 : IntKind.i64.wrap (i * 5) = i * 5 := by rw [IntKind.wrap_i64]; omega
    obtain ⟨a1, a2, a3⟩ := tmod_r (i * 5) 8 (by omega) (by decide)
    refine ⟨?_, ?_⟩
    · simp only [law21_ValueKnown_L10_vcs, All, hi, decide_true, true_implies, and_true, List.length_cons, List.length_nil]
      exact ⟨⟨h0, fun _ => by omega⟩, fun h => by cases h⟩
    · simp only [law21_ValueKnown_L10_step, hi, decide_true, cond_true, e1, e2, a1]
      generalize (Int.tmod (Int.fdiv s (2 ^ min i.toNat 64)) 2 == 1) = b
      refine ⟨⟨trivial, by omega, by omega, ?_, ?_⟩, by omega⟩
      · cases b
        · simp only [cond_false]; omega
        · simp; omega
      · intro n hn
        cases b
        · exact h3 n hn
        · rcases List.mem_append.1 hn with h | h
          · exact h3 n h
          · simp only [List.mem_singleton] at h
            subst h; unfold I64; omega
  · refine ⟨by simp only [law21_ValueKnown_L10_vcs, hi, decide_false]; exact ⟨(fun h => by cases h), fun _ => trivial⟩, ?_⟩
    simp only [law21_ValueKnown_L10_step, hi, decide_false, cond_false]
    exact ⟨trivial, by omega, h3⟩

theorem vok {v : S.Value} (h : RV v) : S.Value.ok v := (ok_iff' v).2 h.ok

theorem vk_L8 (t : Bool) : ∃ y, Runs law21_ValueKnown_L8_step law21_ValueKnown_L8_vcs ⟨t, 0⟩ y ∧ y.1 = false := by
  refine Runs.of (fun x => 0 ≤ x.vset ∧ x.vset ≤ 256) (fun x => (256 - x.vset).toNat) _ ?_ _ ⟨by simp, by simp⟩
  rintro ⟨t', s⟩ ⟨h0, h1⟩
  dsimp only at *
  by_cases hs : s < 256
  · obtain ⟨y, hr, h4, h5, h6⟩ := vk_L10 s
    have e : law21_ValueKnown_L10_run ⟨s, 0, []⟩ = y := theRun_eq (d := fun x => x) hr
    have e1 : IntKind.i64.wrap (s + 1) = s + 1 := by rw [IntKind.wrap_i64]; omega
    have e5 : IntKind.i64.wrap (Int.tdiv (y.numbers.length : Int) 2) = ((y.numbers.length / 2 : Nat) : Int) := by
      rw [Int.tdiv_eq_ediv_of_nonneg (by omega), IntKind.wrap_i64]; omega
    obtain ⟨o1, _, o3⟩ := Of_eq' y.numbers (by omega) h6
    have hsub : ∀ n ∈ (y.numbers.take (Int.toNat ((y.numbers.length / 2 : Nat) : Int))).drop (Int.toNat 0), I64 n := fun n h => h6 n (List.mem_of_mem_take (List.mem_of_mem_drop h))
    obtain ⟨p1, _, p3⟩ := Of_eq' _ (show ((y.numbers.take (Int.toNat ((y.numbers.length / 2 : Nat) : Int))).drop (Int.toNat 0)).length ≤ 1000 by simp; omega) hsub
    have r9 : RV (S.value_One 9) := .inr (one_NB (by unfold I64; decide))
    obtain ⟨g1, g2, _⟩ := Range_pre' 1 6 (by unfold I64; decide) (by unfold I64; decide)
    have la := ValueLattice_law (S.value_Of y.numbers) (S.value_Of ((y.numbers.take (Int.toNat ((y.numbers.length / 2 : Nat) : Int))).drop (Int.toNat 0))) 3 [S.value_Of y.numbers, S.value_One 9] (vok o3) (vok p3) (inr_i64.2 (by decide)) ⟨fun v hv => by
      simp only [List.mem_cons, List.not_mem_nil, or_false] at hv
      rcases hv with rfl | rfl
      · exact vok o3
      · exact vok r9, by simp [maxLen]⟩
    have j := ValueJoins_law [] (S.value_Of y.numbers) (S.value_Range 1 6) y.numbers ⟨by simp, by simp⟩ (vok o3) ((ok_iff' _).2 g2) ⟨fun n h => inr_i64.2 (h6 n h), by simp [maxLen]; omega⟩
    refine ⟨?_, ?_⟩
    · simp only [law21_ValueKnown_L8_vcs, All, hs, decide_true, true_implies, and_true, e, e5, la.2, j.2]
      exact ⟨⟨⟨hr, o1, by omega, by omega, by omega, p1, la.1, fun _ => g1, fun _ => j.1⟩, fun _ => trivial, fun _ => trivial⟩, fun h => by cases h⟩
    · simp only [law21_ValueKnown_L8_step, hs, decide_true, cond_true, e, e5, la.2, j.2, h4, e1, Bool.not_true, Bool.or_false, cond_false]
      exact ⟨⟨by omega, by omega⟩, by omega⟩
  · refine ⟨by simp only [law21_ValueKnown_L8_vcs, hs, decide_false]; exact ⟨(fun h => by cases h), fun _ => trivial⟩, ?_⟩
    simp only [law21_ValueKnown_L8_step, hs, decide_false, cond_false]

theorem ValueKnown_law : S.law21_ValueKnown_pre ∧ S.law21_ValueKnown = true := by
  obtain ⟨w1, w2⟩ := works_all
  obtain ⟨y0, r0, a1, a2, a3, a4⟩ := vk_L0 [(-9223372036854775808), (-9223372036854775807), (-3), 0, 1, 6, 9223372036854775807] [0, 1, 2, 3, 6, 9223372036854775808, 18446744073709551615] rfl (by intro e he; rw [inr_i64]; simp at he; omega) rfl (by intro e he; rw [inr_u64]; simp at he; omega) false
  have e0 : law21_ValueKnown_L0_run ⟨false, [(-9223372036854775808), (-9223372036854775807), (-3), 0, 1, 6, 9223372036854775807], [0, 1, 2, 3, 6, 9223372036854775808, 18446744073709551615], 0, []⟩ = y0 := theRun_eq (d := fun x => (true, x)) r0
  obtain ⟨y4, r4, b1⟩ := vk_L4 [(-9223372036854775808), (-9223372036854775807), (-3), 0, 1, 6, 9223372036854775807] rfl (by intro e he; rw [inr_i64]; simp at he; omega) y0.2.l a3 a4 y0.2.t0
  have e4 : law21_ValueKnown_L4_run ⟨y0.2.t0, y0.2.ends, 0, y0.2.l⟩ = y4 := by rw [a2]; exact theRun_eq (d := fun x => (true, x)) r4
  obtain ⟨y8, r8, c1⟩ := vk_L8 y4.2.t0
  have e8 : law21_ValueKnown_L8_run ⟨y4.2.t0, 0⟩ = y8 := theRun_eq (d := fun x => (true, x)) r8
  refine ⟨?_, ?_⟩
  · simp only [law21_ValueKnown_pre, e0, e4, e8, All, and_true]
    rw [← a2] at r4
    exact ⟨r0, fun _ => trivial, fun _ => ⟨r4, fun _ => trivial, fun _ => ⟨r8, fun _ => trivial, fun _ => w1⟩⟩⟩
  · simp only [law21_ValueKnown, e0, e4, e8, a1, b1, c1, w2, cond_false]
end SV
