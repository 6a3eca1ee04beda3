/-
  The law ValueLattice, in plain words.
-/
import Derived.Test.YthplfkeecpkmhaaGreatDoorValLaw2
set_option linter.all false
open Go Vm
namespace SV
open S SC

theorem has_b {v : S.Value} (hv : VOK v) {n : Int} (hn : I64 n) : S.value_Value_Has v n = decide (Le (one n) (red v)) := by
  rw [Bool.eq_iff_iff, (has_iff' hv hn).1, decide_eq_true_iff]
theorem within_b {a b : S.Value} (ha : VOK a) (hb : VOK b) : S.value_Within a b = decide (Le (red a) (red b)) := by
  rw [Bool.eq_iff_iff, (within_eq ha hb).1, decide_eq_true_iff]

/-- What is widened time and again. -/
noncomputable def wx (a : S.Value) (l : List S.Value) : Nat → S.Value
  | 0 => a
  | i + 1 => if 0 < l.length then Wd (red (wx a l i)) (red (l.getD (i % l.length) ⟨⟨0, 0⟩, ⟨0, 0⟩⟩)) else wx a l i

theorem getD_ok {l : List S.Value} (ho : ∀ v ∈ l, VOK v) {i : Nat} (hi : i < l.length) : VOK (l.getD i ⟨⟨0, 0⟩, ⟨0, 0⟩⟩) := by
  rw [List.getD_eq_getElem?_getD, List.getElem?_eq_getElem hi]
  exact ho _ (List.getElem_mem hi)

theorem wx_ok {a : S.Value} (ha : VOK a) {l : List S.Value} (ho : ∀ v ∈ l, VOK v) : ∀ i, VOK (wx a l i)
  | 0 => ha
  | i + 1 => by
    unfold wx
    by_cases h : 0 < l.length
    · rw [if_pos h]
      exact (Wd_rv (red_rv (wx_ok ha ho i)) (red_rv (getD_ok ho (Nat.mod_lt _ h)))).ok
    · rw [if_neg h]; exact wx_ok ha ho i

theorem wx_le {a : S.Value} (ha : VOK a) {l : List S.Value} (ho : ∀ v ∈ l, VOK v) (h : 0 < l.length) (i : Nat) : Le (red (wx a l i)) (red (wx a l (i + 1))) ∧ Le (red (l.getD (i % l.length) ⟨⟨0, 0⟩, ⟨0, 0⟩⟩)) (red (wx a l (i + 1))) := by
  have r1 := red_rv (wx_ok ha ho i)
  have r2 := red_rv (getD_ok ho (Nat.mod_lt i h))
  have r3 := Wd_rv r1 r2
  have e : wx a l (i + 1) = Wd (red (wx a l i)) (red (l.getD (i % l.length) ⟨⟨0, 0⟩, ⟨0, 0⟩⟩)) := by
    rw [wx, if_pos h]
  rw [e, red_of r3]
  have j := J_le_Wd r1 r2
  exact ⟨(J_l r1 r2).trans r1 (J_rv r1 r2) r3 j, (J_r r1 r2).trans r2 (J_rv r1 r2) r3 j⟩

theorem wx_all {a : S.Value} (ha : VOK a) {l : List S.Value} (ho : ∀ v ∈ l, VOK v) (h : 0 < l.length) (j : Nat) : ∀ i, j < i → Le (red (l.getD (j % l.length) ⟨⟨0, 0⟩, ⟨0, 0⟩⟩)) (red (wx a l i))
  | 0, hi => absurd hi (Nat.not_lt_zero _)
  | i + 1, hi => by
    obtain ⟨k1, k2⟩ := wx_le ha ho h i
    by_cases e : j = i
    · subst e; exact k2
    · exact (wx_all ha ho h j i (by omega)).trans (red_rv (getD_ok ho (Nat.mod_lt _ h))) (red_rv (wx_ok ha ho i)) (red_rv (wx_ok ha ho (i + 1))) k1

theorem L2_run (a : S.Value) (ha : VOK a) (l : List S.Value) (ho : ∀ v ∈ l, VOK v) (hl : l.length ≤ 1000) :
    Runs law21_ValueLattice_L2_step law21_ValueLattice_L2_vcs ⟨l, 0, a⟩ ⟨l, 400, wx a l 400⟩ := by
  have := Runs.count (step := law21_ValueLattice_L2_step) (vcs := law21_ValueLattice_L2_vcs) 400 (fun i => ⟨l, (i : Int), wx a l i⟩) ⟨l, 400, wx a l 400⟩ ?_ ?_
  · exact this
  · intro i hi
    have hd : decide ((i : Int) < 400) = true := by rw [decide_eq_true_iff]; omega
    have hw : IntKind.i64.wrap ((i : Int) + 1) = ((i + 1 : Nat) : Int) := by rw [IntKind.wrap_i64]; omega
    have ht : Int.tmod (i : Int) (l.length : Int) = ((i % l.length : Nat) : Int) := by rw [Int.tmod_eq_emod_of_nonneg (by omega)]; simp
    by_cases h : 0 < l.length
    · have hb : decide ((l.length : Int) > 0) = true := by rw [decide_eq_true_iff]; omega
      obtain ⟨e, p⟩ := Widen_eq (wx_ok ha ho i) (getD_ok ho (Nat.mod_lt i h))
      have hlt := Nat.mod_lt i h
      refine ⟨?_, ?_⟩
      · simp only [law21_ValueLattice_L2_vcs, hd, hb, ht, Int.toNat_natCast, All, and_true]
        exact ⟨fun _ _ => ⟨by omega, by omega, by omega, p⟩, fun _ => trivial⟩
      · simp only [law21_ValueLattice_L2_step, hd, hb, ht, Int.toNat_natCast, hw, e, cond_true]
        rw [wx, if_pos h]
    · have hb : decide ((l.length : Int) > 0) = false := by rw [decide_eq_false_iff_not]; omega
      refine ⟨?_, ?_⟩
      · simp only [law21_ValueLattice_L2_vcs, hd, hb, All, and_true]
        exact ⟨fun _ h => (by cases h), fun _ => trivial⟩
      · simp only [law21_ValueLattice_L2_step, hd, hb, hw, cond_true, cond_false]
        rw [wx, if_neg h]
  · exact ⟨by simp only [law21_ValueLattice_L2_vcs]; exact ⟨(fun h => by simp at h), fun _ => trivial⟩, by simp [law21_ValueLattice_L2_step]⟩

theorem L4_run (x : S.Value) (hx : VOK x) (l : List S.Value) (ho : ∀ v ∈ l, VOK v) (hl : l.length ≤ 1000) (b : Bool) (hle : ∀ j, j < l.length → Le (red (l.getD j ⟨⟨0, 0⟩, ⟨0, 0⟩⟩)) (red x)) :
    Runs law21_ValueLattice_L4_step law21_ValueLattice_L4_vcs ⟨l, b, 0, x⟩ (false, (⟨l, b, (l.length : Int), x⟩ : S.law21_ValueLattice_L4)) := by
  have := Runs.count (step := law21_ValueLattice_L4_step) (vcs := law21_ValueLattice_L4_vcs) l.length (fun i => ⟨l, b, (i : Int), x⟩) (false, (⟨l, b, (l.length : Int), x⟩ : S.law21_ValueLattice_L4)) ?_ ?_
  · simpa using this
  · intro i hi
    have hd : decide ((i : Int) < (l.length : Int)) = true := by rw [decide_eq_true_iff]; omega
    have hw : IntKind.i64.wrap ((i : Int) + 1) = ((i + 1 : Nat) : Int) := by rw [IntKind.wrap_i64]; omega
    have hv := getD_ok ho hi
    obtain ⟨e, p⟩ := Widen_eq hx hv
    have rx := red_rv hx; have rv := red_rv hv
    have hst := Wd_stay rx rv (hle i hi)
    rw [hst] at e
    obtain ⟨s1, s2⟩ := Same_eq rx.ok hx
    rw [red_of rx] at s1
    have w1 := within_b hv hx
    have w2 := (within_eq hv hx).2
    rw [decide_eq_true (hle i hi)] at w1
    simp only [decide_true] at s1
    refine ⟨?_, ?_⟩
    · simp only [law21_ValueLattice_L4_vcs, hd, Int.toNat_natCast, e, All, and_true]
      exact ⟨fun _ => ⟨⟨by omega, by omega, p, s2, fun _ => ⟨by omega, by omega⟩, fun _ => w2⟩, fun _ => trivial, fun _ => trivial⟩, fun _ => trivial⟩
    · simp only [law21_ValueLattice_L4_step, hd, Int.toNat_natCast, e, s1, w1, hw, cond_true]
      rfl
  · exact ⟨by simp only [law21_ValueLattice_L4_vcs]; exact ⟨(fun h => by simp at h), fun _ => trivial⟩, by simp [law21_ValueLattice_L4_step]⟩

theorem sq_getD (v : S.Value) (n : Nat) {j : Nat} (hj : j < n) : (sq v n).getD j 0 = v.I.Lo + (j : Int) * v.C.M := by
  rw [List.getD_eq_getElem?_getD, List.getElem?_eq_getElem (by rw [sq_len]; exact hj)]
  simp [sq]

/-- The numbers that are told are the value's, and rise. -/
theorem L0_run (a : S.Value) (ha : VOK a) (nb : NB (red a)) (k : Nat) (k1 : (red a).I.Lo + (k : Int) * (red a).C.M = (red a).I.Hi) (k2 : (red a).C.M = 0 → k = 0) (m : Nat) (hm : m ≤ k + 1) (hm2 : m ≤ 1000) (b : Bool) :
    Runs law21_ValueLattice_L0_step law21_ValueLattice_L0_vcs ⟨b, sq (red a) m, 0, a⟩ (false, (⟨b, sq (red a) m, (m : Int), a⟩ : S.law21_ValueLattice_L0)) := by
  have rg := CR_ranges nb.c
  have hlo := nb.lo; have hhi := nb.hi
  unfold I64 at hlo hhi
  have := Runs.count (step := law21_ValueLattice_L0_step) (vcs := law21_ValueLattice_L0_vcs) m (fun i => ⟨b, sq (red a) m, (i : Int), a⟩) (false, (⟨b, sq (red a) m, (m : Int), a⟩ : S.law21_ValueLattice_L0)) ?_ ?_
  · simpa using this
  · intro j hj
    have hd : decide ((j : Int) < ((sq (red a) m).length : Int)) = true := by rw [decide_eq_true_iff, sq_len]; omega
    have hw : IntKind.i64.wrap ((j : Int) + 1) = ((j + 1 : Nat) : Int) := by rw [IntKind.wrap_i64]; omega
    have g0 : 0 ≤ (j : Int) * (red a).C.M := Int.mul_nonneg (Int.natCast_nonneg j) rg.1
    have g1 : (j : Int) * (red a).C.M ≤ (k : Int) * (red a).C.M := Int.mul_le_mul_of_nonneg_right (by omega) rg.1
    have hn : I64 ((red a).I.Lo + (j : Int) * (red a).C.M) := by unfold I64; omega
    have hh : has (red a).C ((red a).I.Lo + (j : Int) * (red a).C.M) = true := by
      rw [has_iff]
      by_cases hM : (red a).C.M = 0
      · left
        refine ⟨hM, ?_⟩
        rw [hM, Int.mul_zero, Int.add_zero]
        rcases (has_iff _ _).1 nb.hl with ⟨_, h⟩ | ⟨h, _⟩
        · exact h
        · exact absurd hM h
      · right
        refine ⟨hM, ?_⟩
        rw [Int.add_mul_emod_self_right]
        exact has_val hM nb.hl
    have hH : S.value_Value_Has a ((red a).I.Lo + (j : Int) * (red a).C.M) = true := by
      rw [has_b ha hn, decide_eq_true_iff, le_one (red_rv ha) hn]
      exact ⟨by omega, by omega, hh⟩
    have hHp := (has_iff' ha hn).2
    have e1 := sq_getD (red a) m hj
    have hr : (decide ((j : Int) > 0) && decide ((sq (red a) m).getD (Int.toNat (j : Int)) 0 ≤ (sq (red a) m).getD (Int.toNat (IntKind.i64.wrap ((j : Int) - 1))) 0)) = false := by
      by_cases h0 : j = 0
      · subst h0; rfl
      · have hw1 : IntKind.i64.wrap ((j : Int) - 1) = ((j - 1 : Nat) : Int) := by rw [IntKind.wrap_i64]; omega
        rw [hw1, Int.toNat_natCast, Int.toNat_natCast, e1, sq_getD (red a) m (show j - 1 < m by omega)]
        have hM : (red a).C.M ≠ 0 := fun h => by have := k2 h; omega
        have e2 : (j : Int) * (red a).C.M = ((j - 1 : Nat) : Int) * (red a).C.M + (red a).C.M := by
          obtain ⟨d, rfl⟩ : ∃ d, j = d + 1 := ⟨j - 1, by omega⟩
          rw [show d + 1 - 1 = d by omega]
          push_cast
          rw [Int.add_mul, Int.one_mul]
        rw [e2]
        generalize ((j - 1 : Nat) : Int) * (red a).C.M = z
        rw [Bool.and_eq_false_iff]; right; rw [decide_eq_false_iff_not]; omega
    refine ⟨?_, ?_⟩
    · simp only [law21_ValueLattice_L0_vcs, hd, Int.toNat_natCast, e1, hH, All, and_true, sq_len]
      refine ⟨fun _ => ⟨⟨by omega, by omega, hHp, fun _ _ => ⟨by omega, by omega⟩, fun _ h0 => ?_⟩, fun _ => trivial, fun _ => trivial⟩, fun _ => trivial⟩
      have h0' := of_decide_eq_true h0
      rw [show IntKind.i64.wrap ((j : Int) - 1) = (j : Int) - 1 by rw [IntKind.wrap_i64]; omega]
      omega
    · simp only [law21_ValueLattice_L0_step, hd, hr, hw, cond_true, Bool.or_false]
      rw [Int.toNat_natCast, e1, hH]
      rfl
  · have hd : decide ((m : Int) < ((sq (red a) m).length : Int)) = false := by rw [decide_eq_false_iff_not, sq_len]; omega
    refine ⟨?_, ?_⟩
    · simp only [law21_ValueLattice_L0_vcs, hd]; exact ⟨(fun h => by cases h), fun _ => trivial⟩
    · simp only [law21_ValueLattice_L0_step, hd, cond_false]

/-- What is told of how many, and of some of them. -/
theorem some_card (a : S.Value) (ha : VOK a) : (((S.value_Value_Card a).2 && decide ((S.value_Value_Card a).1 ≤ 20)) && (((S.value_Value_Some a 20).length : Int) != IntKind.i64.wrap (S.value_Value_Card a).1)) = false ∧
    ((!(S.value_Value_Card a).2 || decide ((S.value_Value_Card a).1 > 20)) && (((S.value_Value_Some a 20).length : Int) != 20)) = false ∧
    ∃ m : Nat, ∀ b, Runs law21_ValueLattice_L0_step law21_ValueLattice_L0_vcs ⟨b, S.value_Value_Some a 20, 0, a⟩ (false, (⟨b, S.value_Value_Some a 20, (m : Int), a⟩ : S.law21_ValueLattice_L0)) := by
  obtain ⟨c1, _, _⟩ := Card_eq ha
  obtain ⟨p, s0, s1⟩ := Some_val ha 20 (by decide)
  have e2 : S.ref21_Card (red a) = bif decide (red a = bot) then (0, true) else (bif decide (red a = top) then (0, false) else (bif (red a).C.M == 0 then (1, true) else (IntKind.u64.wrap (IntKind.u64.wrap (Int.tdiv (IntKind.u64.wrap (IntKind.u64.wrap (red a).I.Hi - IntKind.u64.wrap (red a).I.Lo)) (red a).C.M) + 1), true))) := by
    simp only [ref21_Card, rbot_eq, rtop_eq, eqv]
  rw [c1, e2]
  rcases red_rv ha with hb | nb
  · rw [s0 hb, decide_eq_true hb]
    refine ⟨rfl, rfl, 0, fun b => .done _ _ ?_ ?_⟩
    · simp only [law21_ValueLattice_L0_vcs]; exact ⟨(fun h => by simp at h), fun _ => trivial⟩
    · simp [law21_ValueLattice_L0_step]
  · obtain ⟨k, k1, k2, k3⟩ := nb.steps
    have rg := CR_ranges nb.c
    have hlo := nb.lo; have hhi := nb.hi; have hle := nb.le
    unfold I64 at hlo hhi
    rw [s1 k nb k1 k2, decide_eq_false nb.ne, cond_false]
    have hlen : ((sq (red a) (min (20 : Int).toNat (k + 1))).length : Int) = ((min 20 (k + 1) : Nat) : Int) := by rw [sq_len]; rfl
    rw [hlen]
    have hkM : (red a).C.M ≠ 0 → (k : Int) ≤ (k : Int) * (red a).C.M := fun hM => by
      have := Int.mul_le_mul_of_nonneg_left (show (1 : Int) ≤ (red a).C.M by omega) (Int.natCast_nonneg k)
      omega
    refine ⟨?_, ?_, _, fun b => L0_run a ha nb k k1 k2 _ (by omega) (by omega) b⟩
    · by_cases ht : red a = top
      · rw [decide_eq_true ht]; rfl
      · rw [decide_eq_false ht, cond_false]
        by_cases hM : (red a).C.M = 0
        · rw [show ((red a).C.M == 0) = true by simpa using hM, k2 hM]; rfl
        · rw [show ((red a).C.M == 0) = false from beq_eq_false_iff_ne.2 hM, cond_false]
          have hw : IntKind.u64.wrap (IntKind.u64.wrap (red a).I.Hi - IntKind.u64.wrap (red a).I.Lo) = (red a).I.Hi - (red a).I.Lo := by
            rw [IntKind.wrap_u64, IntKind.wrap_u64, IntKind.wrap_u64]; omega
          have hkM' := hkM hM
          rw [hw, show Int.tdiv ((red a).I.Hi - (red a).I.Lo) (red a).C.M = k by rw [Int.tdiv_eq_ediv_of_nonneg (by omega)]; exact k3]
          by_cases h20 : IntKind.u64.wrap (IntKind.u64.wrap (k : Int) + 1) ≤ 20
          · have hk : (k : Int) ≠ 18446744073709551615 := fun hk => ht (by
              have hMge : (red a).C.M = 1 := by
                rcases Int.lt_or_le (red a).C.M 2 with h2 | h2
                · omega
                · have := Int.mul_le_mul_of_nonneg_left h2 (Int.natCast_nonneg k)
                  omega
              have hR : (red a).C.R = 0 := by omega
              rw [hMge] at k1
              exact S.Value.ext (S.Inter.ext (show (red a).I.Lo = -9223372036854775808 by omega) (show (red a).I.Hi = 9223372036854775807 by omega)) (S.Cong.ext hMge hR))
            have hkk : (k : Int) + 1 ≤ 20 := by
              rw [IntKind.wrap_u64, IntKind.wrap_u64] at h20; omega
            have e : IntKind.i64.wrap (IntKind.u64.wrap (IntKind.u64.wrap (k : Int) + 1)) = ((min 20 (k + 1) : Nat) : Int) := by
              rw [IntKind.wrap_u64, IntKind.wrap_u64, IntKind.wrap_i64]; omega
            rw [e]; simp
          · rw [decide_eq_false h20]; simp
    · by_cases ht : red a = top
      · rw [decide_eq_true ht]
        have hk : 20 ≤ k := by rw [ht] at k1; simp only [top] at k1; omega
        rw [Nat.min_eq_left (by omega)]; rfl
      · rw [decide_eq_false ht, cond_false]
        by_cases hM : (red a).C.M = 0
        · rw [show ((red a).C.M == 0) = true by simpa using hM]; rfl
        · rw [show ((red a).C.M == 0) = false from beq_eq_false_iff_ne.2 hM, cond_false]
          have hw : IntKind.u64.wrap (IntKind.u64.wrap (red a).I.Hi - IntKind.u64.wrap (red a).I.Lo) = (red a).I.Hi - (red a).I.Lo := by
            rw [IntKind.wrap_u64, IntKind.wrap_u64, IntKind.wrap_u64]; omega
          have hkM' := hkM hM
          rw [hw, show Int.tdiv ((red a).I.Hi - (red a).I.Lo) (red a).C.M = k by rw [Int.tdiv_eq_ediv_of_nonneg (by omega)]; exact k3]
          by_cases h20 : IntKind.u64.wrap (IntKind.u64.wrap (k : Int) + 1) > 20
          · have hkk : 20 ≤ k := by
              rw [IntKind.wrap_u64, IntKind.wrap_u64] at h20; omega
            rw [Nat.min_eq_left (by omega)]; simp
          · rw [decide_eq_false h20]; rfl

theorem ValueLattice_law (a b : S.Value) (n : Int) (l : List S.Value) (ha : S.Value.ok a) (hb : S.Value.ok b) (hn : inr .i64 n) (hl : (∀ v ∈ l, S.Value.ok v) ∧ l.length ≤ maxLen) :
    S.law21_ValueLattice_pre a b n l ∧ S.law21_ValueLattice a b n l = true := by
  obtain ⟨w1, w2⟩ := works_all
  by_cases h12 : (l.length : Int) > 12
  · refine ⟨?_, ?_⟩
    · simp only [law21_ValueLattice_pre, decide_eq_true h12, All, and_true]; exact ⟨fun _ => w1, fun h => by cases h⟩
    · simp only [law21_ValueLattice, decide_eq_true h12, w2, cond_true]
  · have hd := decide_eq_false h12
    have va := (ok_iff' a).1 ha; have vb := (ok_iff' b).1 hb
    have hn' : I64 n := inr_i64.1 hn
    have ho : ∀ v ∈ l, VOK v := fun v hv => (ok_iff' v).1 (hl.1 v hv)
    have ra := red_rv va; have rb := red_rv vb
    have ro : RV (one n) := .inr (one_NB hn')
    obtain ⟨j1, j2⟩ := Join2 va vb
    obtain ⟨j3, j4⟩ := Join2 vb va
    obtain ⟨m1, m2⟩ := Meet2 va vb
    obtain ⟨x1, x2⟩ := Widen_eq va vb
    obtain ⟨n1, n2⟩ := Narrow_eq va vb
    have rj := J_rv ra rb; have rm := M_rv ra rb; have rw_ := Wd_rv ra rb; have rn := Nr_rv ra rb
    have rj' := J_rv rb ra
    have hj := has_b rj.ok hn'; have hm := has_b rm.ok hn'; have hnr := has_b rn.ok hn'
    have hA := has_b va hn'; have hB := has_b vb hn'
    have wab := within_b va vb; have wba := within_b vb va
    have waj := within_b va rj.ok; have wmj := within_b rm.ok rj.ok; have wjw := within_b rj.ok rw_.ok
    obtain ⟨sjb, sjb'⟩ := Same_eq rj.ok vb
    obtain ⟨sab, sab'⟩ := Same_eq va vb
    obtain ⟨sjj, sjj'⟩ := Same_eq rj.ok rj'.ok
    rw [red_of rj] at hj waj wmj wjw sjb sjj
    rw [red_of rm] at hm wmj
    rw [red_of rn] at hnr
    rw [red_of rw_] at wjw
    rw [red_of rj'] at sjj
    have sjk : S.value_Same (J (red a) (red b)) (J (red b) (red a)) = true := by rw [sjj, J_comm rb ra]; simp
    have pj := (has_iff' rj.ok hn').2; have pm := (has_iff' rm.ok hn').2; have pn := (has_iff' rn.ok hn').2
    have pa := (has_iff' va hn').2; have pb := (has_iff' vb hn').2
    have qab := (within_eq va vb).2; have qba := (within_eq vb va).2; have qaj := (within_eq va rj.ok).2; have qmj := (within_eq rm.ok rj.ok).2; have qjw := (within_eq rj.ok rw_.ok).2
    have laj : Le (red a) (J (red a) (red b)) := J_l ra rb
    have lbj : Le (red b) (J (red a) (red b)) := J_r ra rb
    have lmj : Le (M (red a) (red b)) (J (red a) (red b)) := by
      rcases M_le ra rb with h | h
      · exact h.trans rm ra rj laj
      · exact h.trans rm rb rj lbj
    have f1 : ((decide (Le (one n) (red a)) || decide (Le (one n) (red b))) && !decide (Le (one n) (J (red a) (red b)))) = false := by
      by_cases h : Le (one n) (red a) ∨ Le (one n) (red b)
      · have : Le (one n) (J (red a) (red b)) := by
          rcases h with h | h
          · exact h.trans ro ra rj laj
          · exact h.trans ro rb rj lbj
        rw [decide_eq_true this]; simp
      · have h' := not_or.1 h
        rw [decide_eq_false h'.1, decide_eq_false h'.2]; rfl
    have f2 : ((decide (Le (one n) (red a)) && decide (Le (one n) (red b))) && !decide (Le (one n) (M (red a) (red b)))) = false := by
      by_cases h : Le (one n) (red a) ∧ Le (one n) (red b)
      · rw [decide_eq_true (M_has ra rb hn' h.1 h.2)]; simp
      · rw [← Bool.decide_and, decide_eq_false h]; rfl
    have f3 : ((decide (Le (red a) (red b)) && decide (Le (one n) (red a))) && !decide (Le (one n) (red b))) = false := by
      by_cases h : Le (red a) (red b) ∧ Le (one n) (red a)
      · rw [decide_eq_true (h.2.trans ro ra rb h.1)]; simp
      · rw [← Bool.decide_and, decide_eq_false h]; rfl
    have f4 : decide (Le (red a) (red b)) = decide (J (red a) (red b) = red b) := by
      refine decide_eq_decide.2 ⟨fun h => J_of_le ra rb h, fun h => ?_⟩
      have := laj; rw [h] at this; exact this
    have f7 : decide (red a = red b) = (decide (Le (red a) (red b)) && decide (Le (red b) (red a))) := by
      rw [← Bool.decide_and]
      refine decide_eq_decide.2 ⟨fun h => by rw [h]; exact ⟨Le.refl rb, Le.refl rb⟩, fun h => Le.antisymm ra rb h.1 h.2⟩
    have f9 : ((decide (Le (one n) (red a)) && decide (Le (one n) (red b))) && !decide (Le (one n) (Nr (red a) (red b)))) = false := by
      by_cases h : Le (one n) (red a) ∧ Le (one n) (red b)
      · rw [decide_eq_true (Nr_has ra rb hn' h.1 h.2)]; simp
      · rw [← Bool.decide_and, decide_eq_false h]; rfl
    obtain ⟨g1, g2, m, g3⟩ := some_card a va
    have e0 : law21_ValueLattice_L0_run ⟨false, S.value_Value_Some a 20, 0, a⟩ = _ := theRun_eq (d := fun x => (true, x)) (g3 false)
    have h2 := L2_run a va l ho (by omega)
    have e2 : law21_ValueLattice_L2_run ⟨l, 0, a⟩ = _ := theRun_eq (d := fun x => x) h2
    have hle : ∀ j, j < l.length → Le (red (l.getD j ⟨⟨0, 0⟩, ⟨0, 0⟩⟩)) (red (wx a l 400)) := fun j hj => by
      have := wx_all va ho (by omega) j 400 (by omega)
      rwa [Nat.mod_eq_of_lt hj] at this
    have h4 := L4_run (wx a l 400) (wx_ok va ho 400) l ho (by omega) false hle
    have e4 : law21_ValueLattice_L4_run ⟨l, false, 0, wx a l 400⟩ = _ := theRun_eq (d := fun x => (true, x)) h4
    obtain ⟨_, c2, _⟩ := Card_eq va
    have sp := (Some_eq va 20 (by decide)).1
    refine ⟨?_, ?_⟩
    · simp only [law21_ValueLattice_pre, hd, j1, j3, m1, x1, n1, e0, e2, e4, All, and_true]
      exact ⟨(fun h => by cases h), fun _ => ⟨⟨j2, m2, pa, fun _ => pb, fun _ => pj, fun _ => pa, fun _ _ => pb, fun _ _ => pm, fun _ => qab, fun _ _ => pa, fun _ _ => pb, fun _ => qab, fun _ => sjb', fun _ => qaj, fun _ => qmj⟩, fun _ => trivial, fun _ => ⟨⟨sab', qab, fun _ => qba, fun _ => j4, fun _ => sjj', fun _ => pa, fun _ _ => pb, fun _ _ => n2, fun _ _ => pn, fun _ => x2, fun _ => qjw⟩, fun _ => trivial, fun _ => ⟨⟨c2, sp⟩, fun _ => trivial, fun _ => ⟨g3 false, fun _ => trivial, fun _ => ⟨⟨h2, h4⟩, fun _ => trivial, fun _ => w1⟩⟩⟩⟩⟩⟩
    · simp only [law21_ValueLattice, hd, j1, j3, m1, x1, n1, e0, e2, e4, hj, hm, hnr, hA, hB, wab, wba, waj, wmj, wjw, sjb, sab, sjk, f1, f2, f3, ← f4, f7, f9, g1, g2, w2, decide_eq_true laj, decide_eq_true lmj, decide_eq_true (J_le_Wd ra rb), decide_true, cond_false, Bool.or_false, Bool.false_or, beq_self_eq_true, Bool.not_true]
end SV
