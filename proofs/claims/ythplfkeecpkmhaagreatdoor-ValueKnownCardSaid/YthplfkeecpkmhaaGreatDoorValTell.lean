/-
  Values: how many numbers, which, and the text, in the program and in the reference.
-/
import Derived.Test.YthplfkeecpkmhaaGreatDoorValOps
import Derived.Test.YthplfkeecpkmhaaGreatDoorTextPlain
set_option linter.all false
open Go Vm
namespace SV
open S SC

theorem least_at {c : S.Cong} (hc : CR c) {n : Int} (hn : I64 n) (h : has c n = true) : least c n = (n, true) := by
  rcases least_spec hc hn with ⟨a1, a2, a3, a4, a5⟩ | ⟨_, a2⟩
  · have := a5 n hn h (Int.le_refl _)
    exact Prod.ext (show (least c n).1 = n by omega) a1
  · exact absurd (Int.le_refl n) (a2 n hn h)
theorem greatest_at {c : S.Cong} (hc : CR c) {n : Int} (hn : I64 n) (h : has c n = true) : greatest c n = (n, true) := by
  rcases greatest_spec hc hn with ⟨a1, a2, a3, a4, a5⟩ | ⟨_, a2⟩
  · have := a5 n hn h (Int.le_refl _)
    exact Prod.ext (show (greatest c n).1 = n by omega) a1
  · exact absurd (Int.le_refl n) (a2 n hn h)

/-- From the least to the greatest in steps. -/
theorem NB.steps {v : S.Value} (h : NB v) : ∃ k : Nat, v.I.Lo + (k : Int) * v.C.M = v.I.Hi ∧ (v.C.M = 0 → k = 0) ∧ (v.I.Hi - v.I.Lo) / v.C.M = k := by
  have r := CR_ranges h.c
  have hle := h.le
  by_cases hM : v.C.M = 0
  · have e1 := has_con' h.lo hM h.hl
    have e2 := has_con' h.hi hM h.hh
    refine ⟨0, by omega, fun _ => rfl, ?_⟩
    rw [hM]; simp
  · have e1 := has_val hM h.hl
    have e2 := has_val hM h.hh
    have hd : v.C.M ∣ v.I.Hi - v.I.Lo := by
      have e : (v.I.Hi - v.I.Lo) % v.C.M = 0 := by rw [Int.sub_emod, e1, e2, Int.sub_self, Int.zero_emod]
      exact Int.dvd_of_emod_eq_zero e
    obtain ⟨q, hq⟩ := hd
    have hq0 : 0 ≤ q := by
      rcases Int.lt_or_le q 0 with h0 | h0
      · have h1 := Int.mul_neg_of_pos_of_neg (show 0 < v.C.M by omega) h0
        omega
      · exact h0
    obtain ⟨k, rfl⟩ := Int.eq_ofNat_of_zero_le hq0
    refine ⟨k, by rw [Int.mul_comm]; omega, fun h => absurd h hM, ?_⟩
    rw [hq]; exact Int.mul_ediv_cancel_left _ hM

theorem isBot_red {v : S.Value} (h : VOK v) : S.value_Value_IsBottom (red v) = decide (red v = bot) := by rw [isBot, red_red h]

theorem Card_eq {v : S.Value} (h : VOK v) : S.value_Value_Card v = S.ref21_Card (red v) ∧ S.value_Value_Card_pre v ∧ S.ref21_Card_pre (red v) := by
  have hr := red_rv h
  have e : S.value_Value_Card v = bif decide (red v = bot) then (0, true) else ((S.cong_Cong_Many (red v).C (red v).I.Lo (red v).I.Hi).1, (S.cong_Cong_Many (red v).C (red v).I.Lo (red v).I.Hi).2) := by
    rw [← isBot_red h]; rfl
  have hp : S.value_Value_Card_pre v ↔ ((S.value_Value_reduced_pre v ∧ S.value_Value_IsBottom_pre (red v)) ∧ ((decide (red v = bot) = true → True) ∧ (decide (red v = bot) = false → S.cong_Cong_Many_pre (red v).C (red v).I.Lo (red v).I.Hi))) := by
    rw [← isBot_red h]; simp only [value_Value_Card_pre, All, and_true]; rfl
  rw [e, hp]
  have p1 : S.ref21_Card_pre (red v) := by
    simp only [ref21_Card_pre, All, and_true]
    exact ⟨fun _ => trivial, fun _ => ⟨fun _ => trivial, fun _ => ⟨fun _ => trivial, fun hb => beq_eq_false_iff_ne.1 hb⟩⟩⟩
  have e2 : S.ref21_Card (red v) = bif decide (red v = bot) then (0, true) else (bif decide (red v = top) then (0, false) else (bif (red v).C.M == 0 then (1, true) else (IntKind.u64.wrap (IntKind.u64.wrap (Int.tdiv (IntKind.u64.wrap (IntKind.u64.wrap (red v).I.Hi - IntKind.u64.wrap (red v).I.Lo)) (red v).C.M) + 1), true))) := by
    simp only [ref21_Card, rbot_eq, rtop_eq, eqv]
  rw [e2]
  rcases hr with hb | nb
  · rw [hb]
    refine ⟨rfl, ⟨⟨red_pre h, isBot_pre (hb ▸ (red_rv h).ok)⟩, fun _ => trivial, (fun hh => by simp at hh)⟩, hb ▸ p1⟩
  · have hne := nb.ne
    have hrg := CR_ranges nb.c
    obtain ⟨l1, _, l3, _⟩ := Least_both _ _ nb.c.1 nb.c.2 (inr_i64.2 nb.lo)
    obtain ⟨g1, _, g3, _⟩ := Greatest_both _ _ nb.c.1 nb.c.2 (inr_i64.2 nb.hi)
    rw [least_at nb.c nb.lo nb.hl] at l1
    rw [greatest_at nb.c nb.hi nb.hh] at g1
    have hle := nb.le
    have hlo := nb.lo; have hhi := nb.hi
    unfold I64 at hlo hhi
    obtain ⟨k, k1, k2, k3⟩ := nb.steps
    rw [decide_eq_false hne, cond_false, cond_false]
    refine ⟨?_, ⟨⟨red_pre h, isBot_pre (red_rv h).ok⟩, fun _ => trivial, fun _ => ?_⟩, p1⟩
    · simp only [cong_Cong_Many, l1, g1, cong_Cong_single, Bool.not_true, Bool.false_or, decide_eq_false (show ¬ (red v).I.Lo > (red v).I.Hi by omega), cond_false]
      have hw : IntKind.u64.wrap (IntKind.u64.wrap (red v).I.Hi - IntKind.u64.wrap (red v).I.Lo) = (red v).I.Hi - (red v).I.Lo := by
        rw [IntKind.wrap_u64, IntKind.wrap_u64, IntKind.wrap_u64]; omega
      rw [hw]
      by_cases hM : (red v).C.M = 0
      · have ht : red v ≠ top := fun e => by rw [e] at hM; simp [top] at hM
        rw [show ((red v).C.M == 0) = true by simpa using hM, decide_eq_false ht]
        rfl
      · rw [show ((red v).C.M == 0) = false from beq_eq_false_iff_ne.2 hM, cond_false, cond_false]
        have htd : Int.tdiv ((red v).I.Hi - (red v).I.Lo) (red v).C.M = k := by rw [Int.tdiv_eq_ediv_of_nonneg (by omega)]; exact k3
        rw [htd]
        have hkM : (k : Int) ≤ (k : Int) * (red v).C.M := by
          have := Int.mul_le_mul_of_nonneg_left (show (1 : Int) ≤ (red v).C.M by omega) (Int.natCast_nonneg k)
          omega
        have hkw : IntKind.u64.wrap (k : Int) = k := by rw [IntKind.wrap_u64]; omega
        rw [hkw]
        by_cases ht : red v = top
        · have hk : (k : Int) = 18446744073709551615 := by
            rw [ht] at k1; simp only [top] at k1; omega
          rw [decide_eq_true ht, hk]; rfl
        · rw [decide_eq_false ht, cond_false]
          have hk : (k : Int) ≠ 18446744073709551615 := fun hk => ht (by
            have hMge : (red v).C.M = 1 := by
              rcases Int.lt_or_le (red v).C.M 2 with h2 | h2
              · omega
              · have := Int.mul_le_mul_of_nonneg_left h2 (Int.natCast_nonneg k)
                omega
            have hR : (red v).C.R = 0 := by omega
            rw [hMge] at k1
            exact S.Value.ext (S.Inter.ext (show (red v).I.Lo = -9223372036854775808 by omega) (show (red v).I.Hi = 9223372036854775807 by omega)) (S.Cong.ext hMge hR))
          rw [show ((k : Int) != 18446744073709551615) = true by simpa using hk]
    · simp only [cong_Cong_Many_pre, All, and_true, cong_Cong_single]
      exact ⟨⟨l3, g3⟩, fun _ => trivial, fun _ => ⟨fun _ => trivial, fun hb => beq_eq_false_iff_ne.1 hb⟩⟩

theorem Single_eq {v : S.Value} (h : VOK v) : S.value_Value_Single v = (if (red v).I.Lo = (red v).I.Hi then ((red v).I.Lo, true) else (0, false)) ∧ S.value_Value_Single_pre v := by
  refine ⟨?_, by simp only [value_Value_Single_pre, All, and_true]; exact red_pre h⟩
  have e : S.value_Value_Single v = ((S.inter_Inter_Single (red v).I).1, (S.inter_Inter_Single (red v).I).2) := rfl
  rw [e]
  simp only [inter_Inter_Single, inter_One]
  by_cases hh : (red v).I.Lo = (red v).I.Hi
  · rw [if_pos hh, ← hh]; simp
  · rw [if_neg hh]
    have : ((red v).I.Hi == (red v).I.Lo) = false := beq_eq_false_iff_ne.2 fun e => hh e.symm
    simp [this]

/-! ### Some of them -/

def sq (v : S.Value) (n : Nat) : List Int := (List.range n).map fun (j : Nat) => v.I.Lo + (j : Int) * v.C.M
theorem sq_succ (v : S.Value) (n : Nat) : sq v (n + 1) = sq v n ++ [v.I.Lo + (n : Int) * v.C.M] := by simp [sq, List.range_succ]
theorem sq_len (v : S.Value) (n : Nat) : (sq v n).length = n := by simp [sq]

theorem Some_val {v : S.Value} (h : VOK v) (most : Int) (hm : most ≤ 1000000) : S.value_Value_Some_pre v most ∧ (red v = bot → S.value_Value_Some v most = []) ∧
    ∀ (k : Nat), NB (red v) → (red v).I.Lo + (k : Int) * (red v).C.M = (red v).I.Hi → ((red v).C.M = 0 → k = 0) → S.value_Value_Some v most = sq (red v) (min most.toNat (k + 1)) := by
  have hr := red_rv h
  have e : S.value_Value_Some v most = bif decide (red v = bot) then [] else (List.range (min most.toNat (((red v).I.Hi - (red v).I.Lo) / (red v).C.M + 1).toNat)).map fun (j : Nat) => (red v).I.Lo + (j : Int) * (red v).C.M := by
    rw [← isBot_red h]; rfl
  refine ⟨⟨red_pre h, isBot_pre hr.ok, hm, fun hb => ?_⟩, fun hb => by rw [e, decide_eq_true hb]; rfl, fun k nb k1 k2 => ?_⟩
  · have hb' : decide (red v = bot) = false := by rw [← isBot_red h]; exact hb
    have nb := hr.resolve_left (of_decide_eq_false hb')
    obtain ⟨k, k1, k2, _⟩ := nb.steps
    have rg := CR_ranges nb.c
    exact ⟨k, k1, nb.lo.1, nb.hi.2, rg.1, by show (red v).C.M < _; omega, k2⟩
  · rw [e, decide_eq_false nb.ne, cond_false]
    obtain ⟨k', k1', k2', k3'⟩ := nb.steps
    have : k' = k := by
      by_cases hM : (red v).C.M = 0
      · rw [k2 hM, k2' hM]
      · have e1 : (k : Int) * (red v).C.M = (k' : Int) * (red v).C.M := by omega
        have := Int.eq_of_mul_eq_mul_right hM e1
        omega
    subst this
    rw [k3', show ((k' : Int) + 1).toNat = k' + 1 by omega]
    rfl

theorem rSome_eq {v : S.Value} (nb : NB v) (most : Int) (hm : most ≤ 1000000) (k : Nat) (k1 : v.I.Lo + (k : Int) * v.C.M = v.I.Hi) (k2 : v.C.M = 0 → k = 0) :
    S.ref21_Some_pre v most ∧ S.ref21_Some v most = sq v (min most.toNat (k + 1)) := by
  have rg := CR_ranges nb.c
  have hlo := nb.lo; have hhi := nb.hi
  unfold I64 at hlo hhi
  have mono : ∀ j : Nat, j ≤ k → 0 ≤ (j : Int) * v.C.M ∧ (j : Int) * v.C.M ≤ (k : Int) * v.C.M := fun j hj => by
    refine ⟨Int.mul_nonneg (Int.natCast_nonneg j) rg.1, Int.mul_le_mul_of_nonneg_right (by omega) rg.1⟩
  have hne : ∀ j : Nat, j < k → v.I.Lo + (j : Int) * v.C.M ≠ v.I.Hi := fun j hj he => by
    have hM : v.C.M ≠ 0 := fun h => by have := k2 h; omega
    have e1 : (k : Int) * v.C.M = (j : Int) * v.C.M := by omega
    have := Int.eq_of_mul_eq_mul_right hM e1
    omega
  have hstep : ∀ j : Nat, j < k → IntKind.i64.wrap (IntKind.u64.wrap (IntKind.u64.wrap (v.I.Lo + (j : Int) * v.C.M) + v.C.M)) = v.I.Lo + ((j + 1 : Nat) : Int) * v.C.M := fun j hj => by
    have h1 := mono j (by omega); have h2 := mono (j + 1) (by omega)
    have e : ((j + 1 : Nat) : Int) * v.C.M = (j : Int) * v.C.M + v.C.M := by push_cast; rw [Int.add_mul, Int.one_mul]
    rw [e] at h2 ⊢
    rw [IntKind.wrap_u64, IntKind.wrap_u64, IntKind.wrap_i64]
    generalize (j : Int) * v.C.M = x at *
    omega
  have hround : ∀ j : Nat, (j : Int) < most → j < k → ref21_Some_L0_vcs ⟨most, v.I.Lo + (j : Int) * v.C.M, sq v j, v⟩ ∧ ref21_Some_L0_step ⟨most, v.I.Lo + (j : Int) * v.C.M, sq v j, v⟩ = .inl ⟨most, v.I.Lo + ((j + 1 : Nat) : Int) * v.C.M, sq v (j + 1), v⟩ := fun j hj hjk => by
    have hd : decide (((sq v j).length : Int) < most) = true := by rw [decide_eq_true_iff, sq_len]; exact hj
    have hb : (v.I.Lo + (j : Int) * v.C.M == v.I.Hi) = false := beq_eq_false_iff_ne.2 (hne j hjk)
    refine ⟨?_, ?_⟩
    · simp only [ref21_Some_L0_vcs, hd, All, and_true, sq_len]
      exact ⟨fun _ => ⟨by simp; omega, fun _ => trivial, fun _ => trivial⟩, fun _ => trivial⟩
    · simp only [ref21_Some_L0_step, hd, hb, cond_true, cond_false, hstep j hjk, sq_succ]
  have hrun : ∃ fl, ∃ y : S.ref21_Some_L0, Runs ref21_Some_L0_step ref21_Some_L0_vcs ⟨most, v.I.Lo, [], v⟩ ⟨fl, y⟩ ∧ y.out = sq v (min most.toNat (k + 1)) := by
    by_cases hc : most.toNat ≤ k
    · refine ⟨false, ⟨most, v.I.Lo + ((most.toNat : Nat) : Int) * v.C.M, sq v most.toNat, v⟩, ?_, by rw [Nat.min_eq_left (by omega)]⟩
      have := Runs.count (step := ref21_Some_L0_step) (vcs := ref21_Some_L0_vcs) most.toNat (fun j => ⟨most, v.I.Lo + (j : Int) * v.C.M, sq v j, v⟩) (false, (⟨most, v.I.Lo + ((most.toNat : Nat) : Int) * v.C.M, sq v most.toNat, v⟩ : S.ref21_Some_L0)) (fun j hj => hround j (by omega) (by omega)) ?_
      · simpa [sq] using this
      · have hd : decide (((sq v most.toNat).length : Int) < most) = false := by rw [decide_eq_false_iff_not, sq_len]; omega
        refine ⟨?_, ?_⟩
        · simp only [ref21_Some_L0_vcs, hd]; exact ⟨(fun h => by cases h), fun _ => trivial⟩
        · simp only [ref21_Some_L0_step, hd, cond_false]
    · refine ⟨true, ⟨most, v.I.Lo + (k : Int) * v.C.M, sq v (k + 1), v⟩, ?_, by rw [Nat.min_eq_right (by omega)]⟩
      have := Runs.count (step := ref21_Some_L0_step) (vcs := ref21_Some_L0_vcs) k (fun j => ⟨most, v.I.Lo + (j : Int) * v.C.M, sq v j, v⟩) (true, (⟨most, v.I.Lo + (k : Int) * v.C.M, sq v (k + 1), v⟩ : S.ref21_Some_L0)) (fun j hj => hround j (by omega) hj) ?_
      · simpa [sq] using this
      · have hd : decide (((sq v k).length : Int) < most) = true := by rw [decide_eq_true_iff, sq_len]; omega
        have hb : (v.I.Lo + (k : Int) * v.C.M == v.I.Hi) = true := by simpa using k1
        refine ⟨?_, ?_⟩
        · simp only [ref21_Some_L0_vcs, hd, All, and_true, sq_len]
          exact ⟨fun _ => ⟨by simp; omega, fun _ => trivial, fun _ => trivial⟩, fun _ => trivial⟩
        · simp only [ref21_Some_L0_step, hd, hb, cond_true, sq_succ]
  obtain ⟨fl, y, hr, hy⟩ := hrun
  have e : ref21_Some_L0_run ⟨most, v.I.Lo, [], v⟩ = (fl, y) := theRun_eq (d := fun x => (true, x)) hr
  refine ⟨?_, ?_⟩
  · simp only [ref21_Some_pre, rbot_eq, eqv, e, All, and_true]
    exact ⟨fun _ => trivial, fun _ => ⟨hr, fun _ => trivial, fun _ => trivial⟩⟩
  · simp only [ref21_Some, rbot_eq, eqv, e, decide_eq_false nb.ne, cond_false, hy]
    cases fl <;> rfl

theorem Some_eq {v : S.Value} (h : VOK v) (most : Int) (hm : most ≤ 1000000) : S.value_Value_Some_pre v most ∧ S.ref21_Some_pre (red v) most ∧ S.value_Value_Some v most = S.ref21_Some (red v) most ∧ ((S.value_Value_Some v most).length : Int) ≤ 1000000 := by
  obtain ⟨p, b, e⟩ := Some_val h most hm
  rcases red_rv h with hb | nb
  · have eb : S.ref21_Some (red v) most = [] := by simp only [ref21_Some, rbot_eq, eqv, decide_eq_true hb, cond_true]
    refine ⟨p, ?_, by rw [b hb, eb], by rw [b hb]; simp⟩
    simp only [ref21_Some_pre, rbot_eq, eqv, decide_eq_true hb]
    exact ⟨fun _ => trivial, fun h => by cases h⟩
  · obtain ⟨k, k1, k2, _⟩ := nb.steps
    obtain ⟨q1, q2⟩ := rSome_eq nb most hm k k1 k2
    rw [e k nb k1 k2, q2]
    exact ⟨p, q1, rfl, by rw [sq_len]; omega⟩

theorem same_refl (l : List Int) (hl : (l.length : Int) ≤ 1000000) : S.law21_same_pre l l ∧ S.law21_same l l = true := by
  have hr : Runs law21_same_L0_step law21_same_L0_vcs ⟨l, l, false, 0⟩ (false, (⟨l, l, false, (l.length : Int)⟩ : S.law21_same_L0)) := by
    have := Runs.count (step := law21_same_L0_step) (vcs := law21_same_L0_vcs) l.length (fun j => ⟨l, l, false, (j : Int)⟩) (false, (⟨l, l, false, (l.length : Int)⟩ : S.law21_same_L0)) ?_ ?_
    · simpa using this
    · intro j hj
      have hd : decide ((j : Int) < (l.length : Int)) = true := by rw [decide_eq_true_iff]; omega
      have hw : IntKind.i64.wrap ((j : Int) + 1) = ((j + 1 : Nat) : Int) := by rw [IntKind.wrap_i64]; omega
      refine ⟨?_, ?_⟩
      · simp only [law21_same_L0_vcs, hd, All, and_true]
        exact ⟨fun _ => ⟨⟨by omega, by omega, by omega, by omega⟩, fun _ => trivial, fun _ => trivial⟩, fun _ => trivial⟩
      · simp only [law21_same_L0_step, hd, hw, bne_self_eq_false, cond_true, cond_false]
    · have hd : decide ((l.length : Int) < (l.length : Int)) = false := by simp
      refine ⟨?_, ?_⟩
      · simp only [law21_same_L0_vcs, hd]; exact ⟨(fun h => by cases h), fun _ => trivial⟩
      · simp only [law21_same_L0_step, hd, cond_false]
  have e : law21_same_L0_run ⟨l, l, false, 0⟩ = _ := theRun_eq (d := fun x => (true, x)) hr
  refine ⟨?_, ?_⟩
  · simp only [law21_same_pre, e, All, and_true]
    exact ⟨fun _ => trivial, fun _ => ⟨hr, fun _ => trivial, fun _ => trivial⟩⟩
  · simp only [law21_same, e, bne_self_eq_false, cond_false]

/-! ### Texts -/
open SD (ba ba_app ba_size ba_one dec_small dec_big dec_len tens itoa_len refWhole)

theorem dig_F (n : Nat) : ∀ a : Int, 0 ≤ a → a < 18446744073709551616 → S.ref21_digits_D n a → S.ref21_digits_F n a = ba (Lib.decDigits a.toNat) := by
  induction n with
  | zero => intro a _ _ h; exact h.elim
  | succ n ih =>
    intro a h0 h1 h
    have t1 : IntKind.u64.wrap (Int.tdiv a 10) = ((a.toNat / 10 : Nat) : Int) := by rw [Int.tdiv_eq_ediv_of_nonneg h0, IntKind.wrap_u64]; omega
    have t2 : Int.tmod a 10 = ((a.toNat % 10 : Nat) : Int) := by rw [Int.tmod_eq_emod_of_nonneg h0]; omega
    simp only [ref21_digits_D, t1, t2, All, and_true] at h
    simp only [ref21_digits_F, t1, t2, ba_one]
    by_cases hs : a < 10
    · have e : (IntKind.u8.wrap (IntKind.u64.wrap (48 + a))).toNat = 48 + a.toNat := by rw [IntKind.wrap_u64, IntKind.wrap_u8]; omega
      rw [decide_eq_true hs, cond_true, dec_small (by omega), e]
    · rw [decide_eq_false hs, cond_false, dec_big (by omega)]
      obtain ⟨h3, h4, _⟩ := h.2 (decide_eq_false hs)
      rw [ih _ (by omega) (by omega) h3, ih _ (by omega) (by omega) h4, ba_app, Int.toNat_natCast, Int.toNat_natCast, dec_small (m := a.toNat % 10) (by omega)]

theorem dig_D : ∀ (k : Nat) (a : Int), 0 ≤ a → a < 18446744073709551616 → a.toNat < 10 ^ (k + 1) → k ≤ 1000 → S.ref21_digits_D (k + 1) a
  | k, a, h0, h1, h, hk => by
    have t1 : IntKind.u64.wrap (Int.tdiv a 10) = ((a.toNat / 10 : Nat) : Int) := by rw [Int.tdiv_eq_ediv_of_nonneg h0, IntKind.wrap_u64]; omega
    have t2 : Int.tmod a 10 = ((a.toNat % 10 : Nat) : Int) := by rw [Int.tmod_eq_emod_of_nonneg h0]; omega
    simp only [ref21_digits_D, t1, t2, All, and_true]
    refine ⟨fun _ => trivial, fun hs => ?_⟩
    have hs' := of_decide_eq_false hs
    cases k with
    | zero => simp at h; omega
    | succ k =>
      have hlt : a.toNat / 10 < 10 ^ (k + 1) := by rw [Nat.pow_succ] at h; omega
      have hlt2 : a.toNat % 10 < 10 ^ (k + 1) := Nat.lt_of_lt_of_le (show a.toNat % 10 < 10 by omega) (by have := Nat.pow_le_pow_right (n := 10) (by decide) (show 1 ≤ k + 1 by omega); simpa using this)
      have d1 := dig_D k ((a.toNat / 10 : Nat) : Int) (by omega) (by omega) (by rw [Int.toNat_natCast]; exact hlt) (by omega)
      have d2 := dig_D k ((a.toNat % 10 : Nat) : Int) (by omega) (by omega) (by rw [Int.toNat_natCast]; exact hlt2) (by omega)
      refine ⟨d1, d2, ?_⟩
      rw [dig_F _ _ (by omega) (by omega) d1, dig_F _ _ (by omega) (by omega) d2, ba_size, ba_size, Int.toNat_natCast, Int.toNat_natCast]
      have l1 := dec_len k _ hlt
      have l2 := dec_len k _ hlt2
      have e : IntKind.i64.max = 9223372036854775807 := by decide
      rw [e]; omega

theorem refDigits (a : Int) (h : 0 ≤ a ∧ a ≤ 18446744073709551615) : S.ref21_digits_pre a ∧ S.ref21_digits a = ba (Lib.decDigits a.toNat) := by
  have hp : S.ref21_digits_pre a := ⟨_, dig_D 19 a h.1 (by omega) (by omega) (by decide)⟩
  exact ⟨hp, dig_F _ a h.1 (by omega) (Classical.epsilon_spec hp)⟩

theorem fmtI_eq (n : Int) (h : I64 n) : S.strconv_FormatInt_pre n 10 ∧ S.strconv_FormatInt n 10 = ba (Lib.itoa n) := by
  refine ⟨?_, rfl⟩
  simp only [strconv_FormatInt_pre, All, and_true]; exact ⟨rfl, h.1, h.2⟩
theorem fmtU_eq (n : Int) (h : 0 ≤ n ∧ n ≤ 18446744073709551615) : S.strconv_FormatUint_pre n 10 ∧ S.strconv_FormatUint n 10 = ba (Lib.decDigits n.toNat) := by
  refine ⟨?_, rfl⟩
  simp only [strconv_FormatUint_pre, All, and_true]; exact ⟨rfl, h.1, by omega⟩

theorem Text_eq {v : S.Value} (h : VOK v) : S.value_Value_Text_pre v ∧ S.ref21_Text_pre (red v) ∧ S.value_Value_Text v = S.ref21_Text (red v) := by
  have hr := red_rv h
  obtain ⟨s1, s2⟩ := Single_eq hr.ok
  rw [red_of hr] at s1
  have hi := hr.ir
  have rg := CR_ranges hr.cr
  obtain ⟨a1, a2⟩ := fmtI_eq _ hi.1
  obtain ⟨b1, b2⟩ := fmtI_eq _ hi.2
  obtain ⟨c1, c2⟩ := fmtU_eq _ ⟨rg.2.1, rg.2.2.2.2⟩
  obtain ⟨d1, d2⟩ := fmtU_eq _ ⟨rg.1, rg.2.2.2.1⟩
  obtain ⟨w1, w2⟩ := refWhole _ hi.1
  obtain ⟨x1, x2⟩ := refWhole _ hi.2
  obtain ⟨y1, y2⟩ := refDigits _ ⟨rg.2.1, rg.2.2.2.2⟩
  obtain ⟨z1, z2⟩ := refDigits _ ⟨rg.1, rg.2.2.2.1⟩
  have l1 := itoa_len _ hi.1; have l2 := itoa_len _ hi.2
  have l3 := dec_len 19 (red v).C.R.toNat (by omega)
  have l4 := dec_len 19 (red v).C.M.toNat (by omega)
  have em : IntKind.i64.max = 9223372036854775807 := by decide
  have e1 : (⟨#[91]⟩ : ByteArray) = ba [91] := rfl
  have e2 : (⟨#[44, 32]⟩ : ByteArray) = ba [44, 32] := rfl
  have e3 : (⟨#[93]⟩ : ByteArray) = ba [93] := rfl
  have e4 : (⟨#[32]⟩ : ByteArray) = ba [32] := rfl
  have e5 : (⟨#[32, 109, 111, 100, 32]⟩ : ByteArray) = ba [32, 109, 111, 100, 32] := rfl
  have rv : S.value_Value_reduced v = red v := rfl
  refine ⟨?_, ?_, ?_⟩
  · simp only [value_Value_Text_pre, rv, isBot_red h, s1, a2, b2, c2, d2, e1, e2, e3, e4, e5, ba_app, ba_size, em, All, and_true, List.length_append, List.length_cons, List.length_nil]
    refine ⟨⟨red_pre h, isBot_pre hr.ok⟩, fun _ => trivial, fun _ => ⟨s2, fun hh => ?_, fun _ => ⟨a1, by omega, by omega, b1, by omega, by omega, fun _ => ⟨c1, by omega, by omega, d1, by omega, by omega⟩⟩⟩⟩
    split
    · exact a1
    · rename_i hne; rw [if_neg hne] at hh; cases hh
  · simp only [ref21_Text_pre, rbot_eq, eqv, w2, x2, y2, z2, e1, e2, e3, e4, e5, ba_app, ba_size, em, All, and_true, List.length_append, List.length_cons, List.length_nil]
    exact ⟨fun _ => trivial, fun _ => ⟨fun _ => w1, fun _ => ⟨w1, by omega, by omega, x1, by omega, by omega, fun _ => ⟨by omega, y1, by omega, by omega, z1, by omega⟩⟩⟩⟩
  · simp only [value_Value_Text, ref21_Text, rv, isBot_red h, rbot_eq, eqv, s1, a2, b2, c2, d2, w2, x2, y2, z2, e1, e2, e3, e4, e5, ba_app]
    by_cases hh : (red v).I.Lo = (red v).I.Hi
    · rw [if_pos hh, show ((red v).I.Lo == (red v).I.Hi) = true by simpa using hh]
      simp only [cond_true]
      rw [a2]
    · rw [if_neg hh, show ((red v).I.Lo == (red v).I.Hi) = false from beq_eq_false_iff_ne.2 hh]
      simp only [cond_false, List.append_assoc]
end SV
