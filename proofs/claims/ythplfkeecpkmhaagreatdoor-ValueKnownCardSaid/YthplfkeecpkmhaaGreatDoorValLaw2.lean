/-
  The law ValueJoins, in plain words.
-/
import Derived.Test.YthplfkeecpkmhaaGreatDoorValLaw1
set_option linter.all false
open Go Vm
namespace SV
open S SC

theorem foldJ_rv : ∀ (l : List S.Value) (f : S.Value), RV f → (∀ v ∈ l, RV v) → RV (l.foldl J f) := by
  intro l
  induction l with
  | nil => intro f hf _; exact hf
  | cons a l ih => intro f hf h; exact ih _ (J_rv hf (h a (List.mem_cons_self ..))) fun v hv => h v (List.mem_cons_of_mem _ hv)
theorem foldM_rv : ∀ (l : List S.Value) (f : S.Value), RV f → (∀ v ∈ l, RV v) → RV (l.foldl M f) := by
  intro l
  induction l with
  | nil => intro f hf _; exact hf
  | cons a l ih => intro f hf h; exact ih _ (M_rv hf (h a (List.mem_cons_self ..))) fun v hv => h v (List.mem_cons_of_mem _ hv)

theorem jm_run (l : List S.Value) (hl : l.length ≤ 1000) (ho : ∀ v ∈ l, VOK v) :
    Runs law21_ValueJoins_L0_step law21_ValueJoins_L0_vcs ⟨l, 0, bot, top⟩ ⟨l, (l.length : Int), (l.map red).foldl J bot, (l.map red).foldl M top⟩ := by
  have hlen : (l.map red).take l.length = l.map red := List.take_of_length_le (by simp)
  have := Runs.count (step := law21_ValueJoins_L0_step) (vcs := law21_ValueJoins_L0_vcs) l.length (fun i => ⟨l, (i : Int), ((l.map red).take i).foldl J bot, ((l.map red).take i).foldl M top⟩) ⟨l, (l.length : Int), (l.map red).foldl J bot, (l.map red).foldl M top⟩ ?_ ?_
  · simpa using this
  · intro i hi
    have h1 : IntKind.i64.wrap ((i : Int) + 1) = ((i + 1 : Nat) : Int) := by rw [IntKind.wrap_i64]; omega
    have hm : (l.getD i ⟨⟨0, 0⟩, ⟨0, 0⟩⟩) = l[i] := by rw [List.getD_eq_getElem?_getD, List.getElem?_eq_getElem hi]; rfl
    have hv : VOK l[i] := ho _ (List.getElem_mem hi)
    have hm' : ∀ v ∈ (l.map red).take i, RV v := fun v hv => by
      obtain ⟨u, hu, rfl⟩ := List.mem_map.1 (List.mem_of_mem_take hv)
      exact red_rv (ho u hu)
    obtain ⟨_, _, j1, j2⟩ := J_eq (foldJ_rv _ bot (.inl rfl) hm') (red_rv hv)
    obtain ⟨_, _, m1, m2⟩ := M_eq (foldM_rv _ top (.inr top_NB) hm') (red_rv hv)
    obtain ⟨p1, p2⟩ := plain_red hv
    have hi' : i < (l.map red).length := by simpa using hi
    have s1 : ((l.map red).take (i + 1)).foldl J bot = J (((l.map red).take i).foldl J bot) (red l[i]) := by
      rw [List.take_add_one, List.foldl_append, List.getElem?_eq_getElem hi']; simp
    have s2 : ((l.map red).take (i + 1)).foldl M top = M (((l.map red).take i).foldl M top) (red l[i]) := by
      rw [List.take_add_one, List.foldl_append, List.getElem?_eq_getElem hi']; simp
    have hd : decide ((i : Int) < (l.length : Int)) = true := by simpa using hi
    refine ⟨?_, ?_⟩
    · simp only [law21_ValueJoins_L0_vcs, Int.toNat_natCast, hm, p1, All, and_true]
      exact ⟨fun _ => ⟨Int.natCast_nonneg i, by omega, p2, j2, Int.natCast_nonneg i, by omega, p2, m2⟩, fun _ => trivial⟩
    · simp only [law21_ValueJoins_L0_step, Int.toNat_natCast, hm, hd, cond_true, h1, p1, j1, m1, s1, s2]
  · refine ⟨?_, ?_⟩
    · simp only [law21_ValueJoins_L0_vcs]; exact ⟨(fun h => by simp at h), fun _ => trivial⟩
    · simp [law21_ValueJoins_L0_step, hlen]

theorem of_run (l : List Int) (hl : l.length ≤ 1000) (ho : ∀ n ∈ l, I64 n) :
    Runs law21_ValueJoins_L2_step law21_ValueJoins_L2_vcs ⟨l, 0, bot⟩ ⟨l, (l.length : Int), (l.map one).foldl J bot⟩ := by
  have hlen : (l.map one).take l.length = l.map one := List.take_of_length_le (by simp)
  have := Runs.count (step := law21_ValueJoins_L2_step) (vcs := law21_ValueJoins_L2_vcs) l.length (fun i => ⟨l, (i : Int), ((l.map one).take i).foldl J bot⟩) ⟨l, (l.length : Int), (l.map one).foldl J bot⟩ ?_ ?_
  · simpa using this
  · intro i hi
    have h1 : IntKind.i64.wrap ((i : Int) + 1) = ((i + 1 : Nat) : Int) := by rw [IntKind.wrap_i64]; omega
    have hm : (l.getD i 0) = l[i] := by rw [List.getD_eq_getElem?_getD, List.getElem?_eq_getElem hi]; rfl
    have hv : I64 l[i] := ho _ (List.getElem_mem hi)
    have hm' : ∀ v ∈ (l.map one).take i, RV v := fun v hv => by
      obtain ⟨u, hu, rfl⟩ := List.mem_map.1 (List.mem_of_mem_take hv)
      exact .inr (one_NB (ho u hu))
    obtain ⟨_, _, j1, j2⟩ := J_eq (foldJ_rv _ bot (.inl rfl) hm') (.inr (one_NB hv))
    have hi' : i < (l.map one).length := by simpa using hi
    have s1 : ((l.map one).take (i + 1)).foldl J bot = J (((l.map one).take i).foldl J bot) (one l[i]) := by
      rw [List.take_add_one, List.foldl_append, List.getElem?_eq_getElem hi']; simp
    have hd : decide ((i : Int) < (l.length : Int)) = true := by simpa using hi
    refine ⟨?_, ?_⟩
    · simp only [law21_ValueJoins_L2_vcs, Int.toNat_natCast, hm, rone_eq, All, and_true]
      exact ⟨fun _ => ⟨Int.natCast_nonneg i, by omega, rone_pre _, j2⟩, fun _ => trivial⟩
    · simp only [law21_ValueJoins_L2_step, Int.toNat_natCast, hm, hd, cond_true, h1, rone_eq, j1, s1]
  · refine ⟨?_, ?_⟩
    · simp only [law21_ValueJoins_L2_vcs]; exact ⟨(fun h => by simp at h), fun _ => trivial⟩
    · simp [law21_ValueJoins_L2_step, hlen]

theorem Of_run (l : List Int) (hl : l.length ≤ 1000) :
    Runs value_Of_L0_step value_Of_L0_vcs ⟨l, (l.length : Int), 0, []⟩ ⟨l, (l.length : Int), (l.length : Int), l.map one⟩ := by
  have hlen : (l.map one).take l.length = l.map one := List.take_of_length_le (by simp)
  have := Runs.count (step := value_Of_L0_step) (vcs := value_Of_L0_vcs) l.length (fun i => ⟨l, (l.length : Int), (i : Int), (l.map one).take i⟩) ⟨l, (l.length : Int), (l.length : Int), l.map one⟩ ?_ ?_
  · simpa using this
  · intro i hi
    have h1 : IntKind.i64.wrap ((i : Int) + 1) = ((i + 1 : Nat) : Int) := by rw [IntKind.wrap_i64]; omega
    have hm : (l.getD i 0) = l[i] := by rw [List.getD_eq_getElem?_getD, List.getElem?_eq_getElem hi]; rfl
    have hi' : i < (l.map one).length := by simpa using hi
    have s1 : (l.map one).take (i + 1) = (l.map one).take i ++ [one l[i]] := by
      rw [List.take_add_one, List.getElem?_eq_getElem hi']; simp
    have hd : decide ((i : Int) < (l.length : Int)) = true := by simpa using hi
    have ht : ((l.map one).take i).length = i := by simp; omega
    refine ⟨?_, ?_⟩
    · simp only [value_Of_L0_vcs, Int.toNat_natCast, hm, All, and_true, List.length_cons, List.length_nil, ht]
      exact ⟨fun _ => ⟨Int.natCast_nonneg i, by omega, by omega⟩, fun _ => trivial⟩
    · simp only [value_Of_L0_step, Int.toNat_natCast, hm, hd, cond_true, h1, one_eq, s1]
  · refine ⟨?_, ?_⟩
    · simp only [value_Of_L0_vcs]; exact ⟨(fun h => by simp at h), fun _ => trivial⟩
    · simp [value_Of_L0_step, hlen]

theorem Of_eq' (l : List Int) (hl : l.length ≤ 1000) (ho : ∀ n ∈ l, I64 n) : S.value_Of_pre l ∧ S.value_Of l = (l.map one).foldl J bot ∧ RV (S.value_Of l) := by
  have hr := Of_run l hl
  have e : value_Of_L0_run ⟨l, (l.length : Int), 0, []⟩ = _ := theRun_eq (d := fun x => x) hr
  have hall : ∀ v ∈ l.map one, RV v := fun v hv => by
    obtain ⟨u, hu, rfl⟩ := List.mem_map.1 hv
    exact .inr (one_NB (ho u hu))
  obtain ⟨j1, j2, j3⟩ := Join_list (l.map one) (by simp [maxLen]; omega) (fun v hv => (hall v hv).ok)
  have hm : (l.map one).map red = l.map one := by
    rw [List.map_map]
    refine List.map_congr_left fun n hn => ?_
    exact red_of (.inr (one_NB (ho n hn)))
  rw [hm] at j1
  have eo : S.value_Of l = S.value_Join (l.map one) := by simp only [value_Of, e]
  refine ⟨?_, by rw [eo, j1], by rw [eo]; exact j3⟩
  simp only [value_Of_pre, e, All, and_true]
  exact ⟨hr, j2⟩

theorem rWiden_eq {a b : S.Value} (ha : RV a) (hb : RV b) : S.ref21_Widen a b = Wd a b ∧ S.ref21_Widen_pre a b := by
  obtain ⟨_, _, j1, j2⟩ := J_eq ha hb
  obtain ⟨p1, p2, _⟩ := Join_both a.C b.C ha.cr.1 hb.cr.1 ha.cr.2
  have hj := join_CR ha.cr hb.cr
  unfold Wd
  by_cases h : a = bot ∨ b = bot
  · have hd : (decide (a = bot) || decide (b = bot)) = true := by simpa using h
    rw [if_pos h]
    refine ⟨?_, ?_⟩
    · simp only [ref21_Widen, rbot_eq, eqv, hd, cond_true, j1]
    · simp only [ref21_Widen_pre, rbot_eq, eqv, hd, All, and_true]
      exact ⟨fun _ => j2, fun h => by cases h⟩
  · have hd : (decide (a = bot) || decide (b = bot)) = false := by simpa using h
    rw [if_neg h]
    have h' := not_or.1 h
    have w := (Widen_ir (ha.resolve_left h'.1) (hb.resolve_left h'.2)).1
    refine ⟨?_, ?_⟩
    · simp only [ref21_Widen, rbot_eq, eqv, hd, cond_false, ← p2]
      exact (Make_same _ _ w hj.1).symm
    · simp only [ref21_Widen_pre, rbot_eq, eqv, hd, All, and_true, ← p2]
      exact ⟨(fun h => by cases h), fun _ => ⟨p1, (rmade _ _ w hj.1).2⟩⟩

theorem rNarrow_eq {a b : S.Value} (ha : RV a) (hb : RV b) : S.ref21_Narrow a b = Nr a b ∧ S.ref21_Narrow_pre a b := by
  obtain ⟨p1, p2, _⟩ := Meet_both a.C b.C ha.cr.1 hb.cr.1 ha.cr.2 hb.cr.2
  have hi := Narrow_ir ha.ir hb.ir
  refine ⟨?_, ?_⟩
  · simp only [ref21_Narrow, rbot_eq, eqv, ← p2]
    by_cases h : a = bot ∨ b = bot
    · rw [Nr_bot ha hb h]
      rcases h with h | h
      · simp [h]
      · simp [h]
    · have h' := not_or.1 h
      rw [decide_eq_false h'.1, decide_eq_false h'.2]
      unfold Nr
      cases hm : (S.cong_Meet a.C b.C).2 with
      | true => exact (Make_same _ _ hi (meet_CR ha.cr hb.cr hm).2.1).symm
      | false => rfl
  · simp only [ref21_Narrow_pre, rbot_eq, eqv, ← p2, All, and_true]
    refine ⟨p1, fun _ => trivial, fun h => ?_⟩
    have hm : (S.cong_Meet a.C b.C).2 = true := by
      cases hm : (S.cong_Meet a.C b.C).2 with
      | true => rfl
      | false => rw [hm] at h; simp at h
    exact (rmade _ _ hi (meet_CR ha.cr hb.cr hm).2.1).2

theorem rWithin_eq {a b : S.Value} (ha : RV a) (hb : RV b) : S.ref21_Within a b = decide (Le a b) ∧ S.ref21_Within_pre a b := by
  rcases ha with rfl | na
  · refine ⟨?_, ?_⟩
    · simp only [ref21_Within, rbot_eq, eqv, decide_true, cond_true]
      exact (decide_eq_true Le.bot).symm
    · simp only [ref21_Within_pre, rbot_eq, eqv, decide_true]
      exact ⟨fun _ => trivial, fun h => by cases h⟩
  · obtain ⟨l1, l2⟩ := rhas_eq hb na.lo
    obtain ⟨h1, h2⟩ := rhas_eq hb na.hi
    have rb := CR_ranges hb.cr
    have ra := CR_ranges na.c
    refine ⟨?_, ?_⟩
    · simp only [ref21_Within, rbot_eq, eqv, decide_eq_false na.ne, cond_false, l1, h1]
      by_cases he : a.I.Lo = a.I.Hi
      · rw [show (a.I.Lo == a.I.Hi) = true by simpa using he, cond_true]
        have ea : one a.I.Lo = a := S.Value.ext (S.Inter.ext rfl he) (na.one he).symm
        rw [ea]
      · rw [show (a.I.Lo == a.I.Hi) = false from beq_eq_false_iff_ne.2 he, cond_false, tmod_pos _ _ ra.1, Bool.eq_iff_iff]
        simp only [Bool.and_eq_true, decide_eq_true_iff, beq_iff_eq]
        rw [le_one hb na.lo, le_one hb na.hi]
        have hle := na.le
        constructor
        · rintro ⟨⟨⟨⟨a1, a2, a3⟩, b1, b2, b3⟩, hM⟩, hd⟩
          right
          exact ⟨a1, b2, (le_num na.c hb.cr na.lo na.hl).2 (.inr ⟨by omega, Int.dvd_of_emod_eq_zero hd, has_val (by omega) a3⟩)⟩
        · rintro (h | ⟨a1, a2, a3⟩)
          · exact absurd h na.ne
          · have b1 := le_has na.c hb.cr a3 na.lo na.hl
            have b2 := le_has na.c hb.cr a3 na.hi na.hh
            rcases (le_num na.c hb.cr na.lo na.hl).1 a3 with ⟨hM, _⟩ | ⟨hM, hd, _⟩
            · have e1 := has_con' na.lo hM b1
              have e2 := has_con' na.hi hM b2
              exact absurd (e1.trans e2.symm) he
            · exact ⟨⟨⟨⟨a1, by omega, b1⟩, by omega, a2, b2⟩, by omega⟩, Int.emod_eq_zero_of_dvd hd⟩
    · simp only [ref21_Within_pre, rbot_eq, eqv, All, and_true]
      refine ⟨fun _ => trivial, fun _ => ⟨fun _ => l2, fun _ => ⟨l2, fun _ => h2, fun h => ?_⟩⟩⟩
      rw [Bool.and_eq_true] at h
      have := of_decide_eq_true h.2
      omega

theorem ValueJoins_law (l : List S.Value) (a b : S.Value) (numbers : List Int) (hl : (∀ v ∈ l, S.Value.ok v) ∧ l.length ≤ maxLen) (ha : S.Value.ok a) (hb : S.Value.ok b) (hn : (∀ n ∈ numbers, inr .i64 n) ∧ numbers.length ≤ maxLen) :
    S.law21_ValueJoins_pre l a b numbers ∧ S.law21_ValueJoins l a b numbers = true := by
  obtain ⟨w1, w2⟩ := works_all
  by_cases h12 : (l.length : Int) > 12 ∨ (numbers.length : Int) > 12
  · have hd : (decide ((l.length : Int) > 12) || decide ((numbers.length : Int) > 12)) = true := by simpa using h12
    refine ⟨?_, ?_⟩
    · simp only [law21_ValueJoins_pre, hd, All, and_true]; exact ⟨fun _ => w1, fun h => by cases h⟩
    · simp only [law21_ValueJoins, hd, w2, cond_true]
  · have hd : (decide ((l.length : Int) > 12) || decide ((numbers.length : Int) > 12)) = false := by simpa using h12
    have h1 : l.length ≤ 1000 := by omega
    have h2 : numbers.length ≤ 1000 := by omega
    have ho : ∀ v ∈ l, VOK v := fun v hv => (ok_iff' v).1 (hl.1 v hv)
    have hon : ∀ n ∈ numbers, I64 n := fun n h => inr_i64.1 (hn.1 n h)
    have va := (ok_iff' a).1 ha
    have vb := (ok_iff' b).1 hb
    have r0 := jm_run l h1 ho
    have e0 : law21_ValueJoins_L0_run ⟨l, 0, bot, top⟩ = _ := theRun_eq (d := fun x => x) r0
    have r2 := of_run numbers h2 hon
    have e2 : law21_ValueJoins_L2_run ⟨numbers, 0, bot⟩ = _ := theRun_eq (d := fun x => x) r2
    obtain ⟨j1, j2, _⟩ := Join_list l hl.2 ho
    obtain ⟨m1, m2, _⟩ := Meet_list l hl.2 ho
    obtain ⟨o1, o2, _⟩ := Of_eq' numbers h2 hon
    obtain ⟨p1, p2⟩ := plain_red va
    obtain ⟨q1, q2⟩ := plain_red vb
    have ra := red_rv va; have rb := red_rv vb
    obtain ⟨x1, x2⟩ := Widen_eq va vb
    obtain ⟨x3, x4⟩ := rWiden_eq ra rb
    obtain ⟨n1, n2⟩ := Narrow_eq va vb
    obtain ⟨n3, n4⟩ := rNarrow_eq ra rb
    obtain ⟨i1, i2⟩ := within_eq va vb
    obtain ⟨i3, i4⟩ := rWithin_eq ra rb
    obtain ⟨s1, s2⟩ := Same_eq va vb
    have iw : S.value_Within a b = decide (Le (red a) (red b)) := by rw [Bool.eq_iff_iff, i1, decide_eq_true_iff]
    refine ⟨?_, ?_⟩
    · simp only [law21_ValueJoins_pre, hd, rbot_eq, rtop_eq, e0, e2, p1, q1, docs_Value, All, and_true]
      exact ⟨(fun h => by cases h), fun _ => ⟨r0, r2, p2, q2, j2, fun _ => m2, fun _ => o1, fun _ => x2, fun _ => x4, fun _ => n2, fun _ => n4, fun _ => i2, fun _ => i4, fun _ => s2, fun _ => w1⟩⟩
    · simp only [law21_ValueJoins, hd, rbot_eq, rtop_eq, e0, e2, p1, q1, docs_Value, j1, m1, o2, x1, x3, n1, n3, iw, i3, s1, w2, eqv, cond_false]
      simp
end SV
