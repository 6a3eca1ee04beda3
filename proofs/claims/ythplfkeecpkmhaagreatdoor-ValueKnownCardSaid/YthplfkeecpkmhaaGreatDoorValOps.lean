/-
  Values: joins and meets of many; what is widened and narrowed; in the program and in the reference.
-/
import Derived.Test.YthplfkeecpkmhaaGreatDoorValOrder
set_option linter.all false
open Go Vm
namespace SV
open S SC

theorem J_rv {a b : S.Value} (ha : RV a) (hb : RV b) : RV (J a b) := by
  unfold J
  by_cases h1 : a = bot
  · rw [if_pos h1]; exact hb
  · rw [if_neg h1]
    by_cases h2 : b = bot
    · rw [if_pos h2]; exact ha
    · rw [if_neg h2]
      exact Make_rv (hull_ir (ha.resolve_left h1) (hb.resolve_left h2)) (join_CR ha.cr hb.cr)
theorem J_l {a b : S.Value} (ha : RV a) (hb : RV b) : Le a (J a b) := by
  unfold J
  by_cases h1 : a = bot
  · rw [h1]; exact Le.bot
  · rw [if_neg h1]
    by_cases h2 : b = bot
    · rw [if_pos h2]; exact Le.refl ha
    · rw [if_neg h2]
      have na := ha.resolve_left h1; have nb := hb.resolve_left h2
      exact le_made (Make_red (hull_ir na nb) (join_CR ha.cr hb.cr)) (join_CR ha.cr hb.cr) na (by unfold hull; dsimp only; omega) (by unfold hull; dsimp only; omega) (join_l ha.cr hb.cr)
theorem J_r {a b : S.Value} (ha : RV a) (hb : RV b) : Le b (J a b) := by
  unfold J
  by_cases h1 : a = bot
  · rw [if_pos h1]; exact Le.refl hb
  · rw [if_neg h1]
    by_cases h2 : b = bot
    · rw [h2]; exact Le.bot
    · rw [if_neg h2]
      have na := ha.resolve_left h1; have nb := hb.resolve_left h2
      exact le_made (Make_red (hull_ir na nb) (join_CR ha.cr hb.cr)) (join_CR ha.cr hb.cr) nb (by unfold hull; dsimp only; omega) (by unfold hull; dsimp only; omega) (join_r ha.cr hb.cr)
theorem J_least {a b c : S.Value} (ha : RV a) (hb : RV b) (hc : RV c) (h1 : Le a c) (h2 : Le b c) : Le (J a b) c := by
  unfold J
  by_cases e1 : a = bot
  · rw [if_pos e1]; exact h2
  · rw [if_neg e1]
    by_cases e2 : b = bot
    · rw [if_pos e2]; exact h1
    · rw [if_neg e2]
      have na := ha.resolve_left e1; have nb := hb.resolve_left e2
      rcases h1 with h1 | ⟨p1, p2, p3⟩
      · exact absurd h1 e1
      · rcases h2 with h2 | ⟨q1, q2, q3⟩
        · exact absurd h2 e2
        · exact made_le (Make_red (hull_ir na nb) (join_CR ha.cr hb.cr)) (join_CR ha.cr hb.cr) hc (by unfold hull; dsimp only; omega) (by unfold hull; dsimp only; omega) (join_least ha.cr hb.cr hc.cr p3 q3)
theorem J_of_le {a b : S.Value} (ha : RV a) (hb : RV b) (h : Le a b) : J a b = b :=
  Le.antisymm (J_rv ha hb) hb (J_least ha hb hb h (Le.refl hb)) (J_r ha hb)
theorem J_comm {a b : S.Value} (ha : RV a) (hb : RV b) : J a b = J b a :=
  Le.antisymm (J_rv ha hb) (J_rv hb ha) (J_least ha hb (J_rv hb ha) (J_r hb ha) (J_l hb ha)) (J_least hb ha (J_rv ha hb) (J_r ha hb) (J_l ha hb))

/-! ### Meets -/

theorem ok_of_ir {i : S.Inter} (h : IR i) : S.Inter.ok i := by rw [SI.ok_iff]; exact h
theorem ir_of_ok {i : S.Inter} (h : S.Inter.ok i) : IR i := by rw [SI.ok_iff] at h; exact h
theorem M_ir {a b : S.Inter} (ha : IR a) (hb : IR b) : IR (S.ref19_Meet a b) := ir_of_ok (SI.ok_M a b (ok_of_ir ha) (ok_of_ir hb))

noncomputable def M (a b : S.Value) : S.Value := bif (S.cong_Meet a.C b.C).2 then S.value_Make (S.ref19_Meet a.I b.I) (S.cong_Meet a.C b.C).1 else bot

theorem M_eq {a b : S.Value} (ha : RV a) (hb : RV b) : S.value_Meet_1 a b = M a b ∧ S.value_Meet_1_pre a b ∧ S.ref21_Meet a b = M a b ∧ S.ref21_Meet_pre a b := by
  obtain ⟨p1, p2, _⟩ := Meet_both a.C b.C ha.cr.1 hb.cr.1 ha.cr.2 hb.cr.2
  have hi := M_ir ha.ir hb.ir
  simp only [value_Meet_1, value_Meet_1_pre, ref21_Meet, ref21_Meet_pre, bot_eq, rbot_eq, M, All, and_true, SI.M2 a.I b.I (ok_of_ir ha.ir), ← p2]
  cases h : (S.cong_Meet a.C b.C).2 with
  | true =>
    have hc := (meet_CR ha.cr hb.cr h).2
    simp only [Bool.not_true, cond_true, cond_false]
    exact ⟨trivial, ⟨Meet_pre _ _ ha.cr.1 hb.cr.1, (fun h => by cases h), fun _ => ⟨SI.Meet2_pre _ _, Make_pre' hi hc⟩⟩, (Make_same _ _ hi hc.1).symm, ⟨p1, (fun h => by cases h), fun _ => (rmade _ _ hi hc.1).2⟩⟩
  | false =>
    simp only [Bool.not_false, cond_true, cond_false]
    exact ⟨trivial, ⟨Meet_pre _ _ ha.cr.1 hb.cr.1, fun _ => trivial, (fun h => by cases h)⟩, trivial, ⟨p1, fun _ => trivial, (fun h => by cases h)⟩⟩

theorem M_rv {a b : S.Value} (ha : RV a) (hb : RV b) : RV (M a b) := by
  unfold M
  cases h : (S.cong_Meet a.C b.C).2 with
  | true => exact Make_rv (M_ir ha.ir hb.ir) (meet_CR ha.cr hb.cr h).2
  | false => exact .inl rfl

theorem M_le {a b : S.Value} (ha : RV a) (hb : RV b) : Le (M a b) a ∨ Le (M a b) b := by
  unfold M
  cases h : (S.cong_Meet a.C b.C).2 with
  | false => exact .inl Le.bot
  | true =>
    obtain ⟨hc, hcr⟩ := meet_CR ha.cr hb.cr h
    have hm := Make_red (M_ir ha.ir hb.ir) hcr
    simp only [cond_true]
    by_cases he : max a.I.Lo b.I.Lo > min a.I.Hi b.I.Hi
    · rw [SI.M_m, SI.Plain_no he] at hm ⊢
      left; left
      exact hm.unique (.no fun n _ h => by have := h.1; have := h.2.1; simp at *; omega)
    · rw [SI.M_m, SI.Plain_yes he] at hm ⊢
      rcases hc with e | e
      · left; exact made_le hm hcr ha (by dsimp only; omega) (by dsimp only; omega) (by rw [e]; exact le_refl ha.cr)
      · right; exact made_le hm hcr hb (by dsimp only; omega) (by dsimp only; omega) (by rw [e]; exact le_refl hb.cr)

theorem M_has {a b : S.Value} (ha : RV a) (hb : RV b) {n : Int} (hn : I64 n) (h1 : Le (one n) a) (h2 : Le (one n) b) : Le (one n) (M a b) := by
  obtain ⟨a1, a2, a3⟩ := (le_one ha hn).1 h1
  obtain ⟨b1, b2, b3⟩ := (le_one hb hn).1 h2
  obtain ⟨m1, m2⟩ := Meet_has a.C b.C ha.cr.1 hb.cr.1 n hn a3 b3
  have hcr := (meet_CR ha.cr hb.cr m1).2
  unfold M
  rw [m1, cond_true]
  refine le_made (Make_red (M_ir ha.ir hb.ir) hcr) hcr (one_NB hn) ?_ ?_ ((const_le hn hcr).2 m2)
  · rw [SI.M_m, SI.Plain_yes (by omega)]; dsimp only [one]; omega
  · rw [SI.M_m, SI.Plain_yes (by omega)]; dsimp only [one]; omega

/-! ### What goes far, and what takes it back -/

theorem Widen_ir {a b : S.Value} (ha : NB a) (hb : NB b) : IR (S.ref19_Widen a.I b.I) ∧ (S.ref19_Widen a.I b.I).Lo ≤ min a.I.Lo b.I.Lo ∧ max a.I.Hi b.I.Hi ≤ (S.ref19_Widen a.I b.I).Hi ∧ (b.I.Lo ≥ a.I.Lo → b.I.Hi ≤ a.I.Hi → S.ref19_Widen a.I b.I = a.I) := by
  have h1 := ha.le; have h2 := hb.le; have a1 := ha.lo; have a2 := ha.hi; have b1 := hb.lo; have b2 := hb.hi
  unfold I64 at a1 a2 b1 b2
  simp only [ref19_Widen, SI.Empty_def, decide_eq_false (show ¬ a.I.Lo > a.I.Hi by omega), decide_eq_false (show ¬ b.I.Lo > b.I.Hi by omega), cond_false, ref19_Least, ref19_Most]
  unfold IR I64
  by_cases c1 : b.I.Lo < a.I.Lo
  · by_cases c2 : b.I.Hi > a.I.Hi
    · simp only [c1, c2, decide_true, cond_true]; exact ⟨by omega, by omega, by omega, fun h => by omega⟩
    · simp only [c1, c2, decide_true, decide_false, cond_true, cond_false]; exact ⟨by omega, by omega, by omega, fun h => by omega⟩
  · by_cases c2 : b.I.Hi > a.I.Hi
    · simp only [c1, c2, decide_true, decide_false, cond_true, cond_false]; exact ⟨by omega, by omega, by omega, fun h => by omega⟩
    · simp only [c1, c2, decide_false, cond_false]; exact ⟨by omega, by omega, by omega, fun _ _ => trivial⟩

noncomputable def Wd (a b : S.Value) : S.Value := if a = bot ∨ b = bot then J a b else S.value_Make (S.ref19_Widen a.I b.I) (S.cong_Join a.C b.C)

theorem Wd_rv {a b : S.Value} (ha : RV a) (hb : RV b) : RV (Wd a b) := by
  unfold Wd
  by_cases h : a = bot ∨ b = bot
  · rw [if_pos h]; exact J_rv ha hb
  · rw [if_neg h]
    have h' := not_or.1 h
    exact Make_rv (Widen_ir (ha.resolve_left h'.1) (hb.resolve_left h'.2)).1 (join_CR ha.cr hb.cr)

theorem J_le_Wd {a b : S.Value} (ha : RV a) (hb : RV b) : Le (J a b) (Wd a b) := by
  unfold Wd
  by_cases h : a = bot ∨ b = bot
  · rw [if_pos h]; exact Le.refl (J_rv ha hb)
  · rw [if_neg h]
    obtain ⟨h1, h2⟩ := not_or.1 h
    have na := ha.resolve_left h1; have nb := hb.resolve_left h2
    obtain ⟨w1, w2, w3, _⟩ := Widen_ir na nb
    have hm := Make_red w1 (join_CR ha.cr hb.cr)
    have hw := Make_rv w1 (join_CR ha.cr hb.cr)
    exact J_least ha hb hw (le_made hm (join_CR ha.cr hb.cr) na (by omega) (by omega) (join_l ha.cr hb.cr)) (le_made hm (join_CR ha.cr hb.cr) nb (by omega) (by omega) (join_r ha.cr hb.cr))

theorem Wd_stay {a b : S.Value} (ha : RV a) (hb : RV b) (h : Le b a) : Wd a b = a := by
  unfold Wd
  by_cases h0 : a = bot ∨ b = bot
  · rw [if_pos h0, J_comm ha hb]; exact J_of_le hb ha h
  · rw [if_neg h0]
    obtain ⟨h1, h2⟩ := not_or.1 h0
    have na := ha.resolve_left h1; have nb := hb.resolve_left h2
    rcases h with h | ⟨p1, p2, p3⟩
    · exact absurd h h2
    · obtain ⟨_, _, _, w4⟩ := Widen_ir na nb
      rw [w4 p1 p2, join_comm ha.cr hb.cr, join_of_le hb.cr ha.cr p3]
      exact Make_self ha

noncomputable def Nr (a b : S.Value) : S.Value := bif (S.cong_Meet a.C b.C).2 then S.value_Make (S.ref19_Narrow a.I b.I) (S.cong_Meet a.C b.C).1 else bot

theorem Narrow_ir {a b : S.Inter} (ha : IR a) (hb : IR b) : IR (S.ref19_Narrow a b) := by
  rw [SI.Narrow_def]
  unfold IR I64 at *
  split
  · decide
  · have hx : -9223372036854775808 ≤ (if a.Lo = -9223372036854775808 then b.Lo else a.Lo) ∧ (if a.Lo = -9223372036854775808 then b.Lo else a.Lo) ≤ 9223372036854775807 := by split <;> omega
    have hy : -9223372036854775808 ≤ (if a.Hi = 9223372036854775807 then b.Hi else a.Hi) ∧ (if a.Hi = 9223372036854775807 then b.Hi else a.Hi) ≤ 9223372036854775807 := by split <;> omega
    generalize (if a.Lo = -9223372036854775808 then b.Lo else a.Lo) = x at *
    generalize (if a.Hi = 9223372036854775807 then b.Hi else a.Hi) = y at *
    rw [SI.Plain_def]
    by_cases h : (⟨x, y⟩ : S.Inter).Lo > (⟨x, y⟩ : S.Inter).Hi
    · rw [if_pos h]; decide
    · rw [if_neg h]; exact ⟨hx, hy⟩
theorem Nr_rv {a b : S.Value} (ha : RV a) (hb : RV b) : RV (Nr a b) := by
  unfold Nr
  cases h : (S.cong_Meet a.C b.C).2 with
  | true => exact Make_rv (Narrow_ir ha.ir hb.ir) (meet_CR ha.cr hb.cr h).2
  | false => exact .inl rfl
theorem Nr_has {a b : S.Value} (ha : RV a) (hb : RV b) {n : Int} (hn : I64 n) (h1 : Le (one n) a) (h2 : Le (one n) b) : Le (one n) (Nr a b) := by
  obtain ⟨a1, a2, a3⟩ := (le_one ha hn).1 h1
  obtain ⟨b1, b2, b3⟩ := (le_one hb hn).1 h2
  obtain ⟨m1, m2⟩ := Meet_has a.C b.C ha.cr.1 hb.cr.1 n hn a3 b3
  have hcr := (meet_CR ha.cr hb.cr m1).2
  have hN := SI.has_narrow a.I b.I n (by rw [SI.Has_def, decide_eq_true_iff]; exact ⟨a1, a2⟩) (by rw [SI.Has_def, decide_eq_true_iff]; exact ⟨b1, b2⟩)
  rw [SI.Has_def, decide_eq_true_iff] at hN
  unfold Nr
  rw [m1, cond_true]
  exact le_made (Make_red (Narrow_ir ha.ir hb.ir) hcr) hcr (one_NB hn) hN.1 hN.2 ((const_le hn hcr).2 m2)
theorem Nr_bot {a b : S.Value} (ha : RV a) (hb : RV b) (h : a = bot ∨ b = bot) : Nr a b = bot := by
  unfold Nr
  cases hc : (S.cong_Meet a.C b.C).2 with
  | false => rfl
  | true =>
    have hm := Make_red (Narrow_ir ha.ir hb.ir) (meet_CR ha.cr hb.cr hc).2
    rw [cond_true]
    have e : S.ref19_Narrow a.I b.I = ⟨1, 0⟩ := by
      rw [SI.Narrow_def, if_pos]
      rcases h with rfl | rfl
      · left; decide
      · right; decide
    rw [e] at hm ⊢
    exact hm.unique (.no fun n _ h => by have := h.1; have := h.2.1; simp at *; omega)

/-! ### The program's, of values as they come in -/

theorem fold_J (first : S.Value) (l : List S.Value) (hf : RV first) (hl : l.length ≤ maxLen) (ho : ∀ v ∈ l, VOK v) :
    S.value_fold_value_Join_1_pre first l ∧ S.value_fold_value_Join_1 first l = (l.map red).foldl J first ∧ RV ((l.map red).foldl J first) := by
  have hacc : ∀ (l : List S.Value) (first : S.Value), RV first → (∀ v ∈ l, VOK v) → RV ((l.map red).foldl J first) := by
    intro l
    induction l with
    | nil => intro f hf _; exact hf
    | cons a l ih => intro f hf h; exact ih _ (J_rv hf (red_rv (h a (List.mem_cons_self ..)))) fun v hv => h v (List.mem_cons_of_mem _ hv)
  have hr : Runs value_fold_value_Join_1_L0_step value_fold_value_Join_1_L0_vcs ⟨l, (l.length : Int), 0, first⟩ ⟨l, (l.length : Int), (l.length : Int), (l.map red).foldl J first⟩ := by
    have hlen : (l.map red).take l.length = l.map red := List.take_of_length_le (by simp)
    have := Runs.count (step := value_fold_value_Join_1_L0_step) (vcs := value_fold_value_Join_1_L0_vcs) l.length (fun i => ⟨l, (l.length : Int), (i : Int), ((l.map red).take i).foldl J first⟩) ⟨l, (l.length : Int), (l.length : Int), (l.map red).foldl J first⟩ ?_ ?_
    · simpa using this
    · intro i hi
      have h1 : IntKind.i64.wrap ((i : Int) + 1) = ((i + 1 : Nat) : Int) := by rw [IntWalk.i64_in]; · rfl
                                                                               · unfold maxLen at hl; omega
      have hm : (l.getD i ⟨⟨0, 0⟩, ⟨0, 0⟩⟩) = l[i] := by rw [List.getD_eq_getElem?_getD, List.getElem?_eq_getElem hi]; rfl
      have hv : VOK l[i] := ho _ (List.getElem_mem hi)
      have hacc' : RV (((l.map red).take i).foldl J first) := by
        rw [← List.map_take]; exact hacc _ _ hf fun v hv => ho v (List.mem_of_mem_take hv)
      obtain ⟨j1, j2, _⟩ := J_eq hacc' (red_rv hv)
      have hi' : i < (l.map red).length := by simpa using hi
      have hstep : ((l.map red).take (i + 1)).foldl J first = J (((l.map red).take i).foldl J first) (red l[i]) := by
        rw [List.take_add_one, List.foldl_append, List.getElem?_eq_getElem hi']; simp
      have hd : decide ((i : Int) < (l.length : Int)) = true := by simpa using hi
      refine ⟨?_, ?_⟩
      · simp only [value_fold_value_Join_1_L0_vcs, Int.toNat_natCast, hm, All, and_true]
        exact ⟨fun _ => ⟨Int.natCast_nonneg i, by omega, red_pre hv, j2⟩, fun _ => trivial⟩
      · simp only [value_fold_value_Join_1_L0_step, Int.toNat_natCast, hm, hd, cond_true, h1]
        rw [show S.value_Value_reduced l[i] = red l[i] from rfl, j1, hstep]
    · exact ⟨by simp [value_fold_value_Join_1_L0_vcs], by simp [value_fold_value_Join_1_L0_step, hlen]⟩
  have e : value_fold_value_Join_1_L0_run ⟨l, (l.length : Int), 0, first⟩ = _ := theRun_eq (d := fun x => x) hr
  refine ⟨?_, by simp only [value_fold_value_Join_1, e], hacc l first hf ho⟩
  simp only [value_fold_value_Join_1_pre, e, All, and_true]
  exact hr

theorem fold_M (first : S.Value) (l : List S.Value) (hf : RV first) (hl : l.length ≤ maxLen) (ho : ∀ v ∈ l, VOK v) :
    S.value_fold_value_Meet_1_pre first l ∧ S.value_fold_value_Meet_1 first l = (l.map red).foldl M first ∧ RV ((l.map red).foldl M first) := by
  have hacc : ∀ (l : List S.Value) (first : S.Value), RV first → (∀ v ∈ l, VOK v) → RV ((l.map red).foldl M first) := by
    intro l
    induction l with
    | nil => intro f hf _; exact hf
    | cons a l ih => intro f hf h; exact ih _ (M_rv hf (red_rv (h a (List.mem_cons_self ..)))) fun v hv => h v (List.mem_cons_of_mem _ hv)
  have hr : Runs value_fold_value_Meet_1_L0_step value_fold_value_Meet_1_L0_vcs ⟨l, (l.length : Int), 0, first⟩ ⟨l, (l.length : Int), (l.length : Int), (l.map red).foldl M first⟩ := by
    have hlen : (l.map red).take l.length = l.map red := List.take_of_length_le (by simp)
    have := Runs.count (step := value_fold_value_Meet_1_L0_step) (vcs := value_fold_value_Meet_1_L0_vcs) l.length (fun i => ⟨l, (l.length : Int), (i : Int), ((l.map red).take i).foldl M first⟩) ⟨l, (l.length : Int), (l.length : Int), (l.map red).foldl M first⟩ ?_ ?_
    · simpa using this
    · intro i hi
      have h1 : IntKind.i64.wrap ((i : Int) + 1) = ((i + 1 : Nat) : Int) := by rw [IntWalk.i64_in]; · rfl
                                                                               · unfold maxLen at hl; omega
      have hm : (l.getD i ⟨⟨0, 0⟩, ⟨0, 0⟩⟩) = l[i] := by rw [List.getD_eq_getElem?_getD, List.getElem?_eq_getElem hi]; rfl
      have hv : VOK l[i] := ho _ (List.getElem_mem hi)
      have hacc' : RV (((l.map red).take i).foldl M first) := by
        rw [← List.map_take]; exact hacc _ _ hf fun v hv => ho v (List.mem_of_mem_take hv)
      obtain ⟨j1, j2, _⟩ := M_eq hacc' (red_rv hv)
      have hi' : i < (l.map red).length := by simpa using hi
      have hstep : ((l.map red).take (i + 1)).foldl M first = M (((l.map red).take i).foldl M first) (red l[i]) := by
        rw [List.take_add_one, List.foldl_append, List.getElem?_eq_getElem hi']; simp
      have hd : decide ((i : Int) < (l.length : Int)) = true := by simpa using hi
      refine ⟨?_, ?_⟩
      · simp only [value_fold_value_Meet_1_L0_vcs, Int.toNat_natCast, hm, All, and_true]
        exact ⟨fun _ => ⟨Int.natCast_nonneg i, by omega, red_pre hv, j2⟩, fun _ => trivial⟩
      · simp only [value_fold_value_Meet_1_L0_step, Int.toNat_natCast, hm, hd, cond_true, h1]
        rw [show S.value_Value_reduced l[i] = red l[i] from rfl, j1, hstep]
    · exact ⟨by simp [value_fold_value_Meet_1_L0_vcs], by simp [value_fold_value_Meet_1_L0_step, hlen]⟩
  have e : value_fold_value_Meet_1_L0_run ⟨l, (l.length : Int), 0, first⟩ = _ := theRun_eq (d := fun x => x) hr
  refine ⟨?_, by simp only [value_fold_value_Meet_1, e], hacc l first hf ho⟩
  simp only [value_fold_value_Meet_1_pre, e, All, and_true]
  exact hr

def top : S.Value := ⟨⟨-9223372036854775808, 9223372036854775807⟩, ⟨1, 0⟩⟩
theorem top_eq : S.value_Top = top := rfl
theorem rtop_eq : S.ref21_Top = top := rfl
theorem top_NB : NB top := ⟨by unfold I64; decide, by unfold I64; decide, by decide, top_CR, top_has _, top_has _, fun h => by revert h; decide⟩

theorem Join_list (l : List S.Value) (hl : l.length ≤ maxLen) (ho : ∀ v ∈ l, VOK v) : S.value_Join l = (l.map red).foldl J bot ∧ S.value_Join_pre l ∧ RV (S.value_Join l) := by
  obtain ⟨p, e, r⟩ := fold_J bot l (.inl rfl) hl ho
  have e' : S.value_Join l = (l.map red).foldl J bot := e
  refine ⟨e', ?_, by rw [e']; exact r⟩
  simp only [value_Join_pre, bot_eq, All, and_true]; exact p
theorem Meet_list (l : List S.Value) (hl : l.length ≤ maxLen) (ho : ∀ v ∈ l, VOK v) : S.value_Meet l = (l.map red).foldl M top ∧ S.value_Meet_pre l ∧ RV (S.value_Meet l) := by
  obtain ⟨p, e, r⟩ := fold_M top l (.inr top_NB) hl ho
  have e' : S.value_Meet l = (l.map red).foldl M top := e
  refine ⟨e', ?_, by rw [e']; exact r⟩
  simp only [value_Meet_pre, top_eq, All, and_true]; exact p

theorem J_bot {a : S.Value} : J bot a = a := by unfold J; rw [if_pos rfl]
theorem M_top {a : S.Value} (ha : RV a) : M top a = a := by
  have h1 : (S.cong_Meet top.C a.C).2 = true ∧ (S.cong_Meet top.C a.C).1 = a.C := by
    have hw := wit_i64 ha.cr
    obtain ⟨m1, m2⟩ := Meet_has top.C a.C top_CR.1 ha.cr.1 _ hw (top_has _) (wit_has ha.cr)
    refine ⟨m1, ?_⟩
    have ra := CR_ranges ha.cr
    simp only [cong_Meet, cong_Cong_single, cong_Cong_if1, top]
    simp only [show ((1 : Int) == 0) = false from rfl, cond_false]
    have n2 := inr_i64.2 (num_i64 a.C.R)
    by_cases hM : a.C.M = 0
    · simp only [hM, show ((0 : Int) == 0) = true from rfl, cond_true]
      have : S.cong_Cong_Has ⟨1, 0⟩ (S.cong_Cong_number a.C) = true := by
        rw [show S.cong_Cong_number a.C = IntKind.i64.wrap a.C.R from rfl, Has_eq ⟨1, 0⟩ _ top_CR.1 n2]; exact top_has _
      rw [this]; rfl
    · rw [show (a.C.M == 0) = false from beq_eq_false_iff_ne.2 hM, cond_false]
      simp only [cong_Meet, cong_Cong_single, cong_Cong_if1, top, show ((1 : Int) == 0) = false from rfl, show (a.C.M == 0) = false from beq_eq_false_iff_ne.2 hM, cond_false] at m1
      cases hb : (S.cong_Cong_by ⟨1, 0⟩ (S.cong_gcd (⟨1, 0⟩ : S.Cong).M a.C.M) != S.cong_Cong_by a.C (S.cong_gcd (⟨1, 0⟩ : S.Cong).M a.C.M)) with
      | true =>
        exfalso
        have hb' : (S.cong_Cong_by { M := 1, R := 0 } (S.cong_gcd 1 a.C.M) != S.cong_Cong_by a.C (S.cong_gcd 1 a.C.M)) = true := hb
        rw [hb'] at m1; cases m1
      | false =>
        rw [cond_false]
        cases hq : S.cong_Within ⟨1, 0⟩ a.C with
        | true =>
          have : (⟨1, 0⟩ : S.Cong) = a.C := le_antisymm top_CR ha.cr hq (le_top ha.cr)
          simp only [Bool.true_or, cond_true]; exact this
        | false =>
          have hw2 : S.cong_Within a.C ⟨1, 0⟩ = true := le_top ha.cr
          rw [hw2]; rfl
  unfold M
  rw [h1.1, h1.2, cond_true]
  rcases ha with rfl | h
  · have hm := Make_red (M_ir (show IR top.I from ⟨top_NB.lo, top_NB.hi⟩) (show IR bot.I from RV.ir (.inl rfl))) top_CR
    refine hm.unique (.no fun n _ h => ?_)
    have q1 := h.1; have q2 := h.2.1
    rw [SI.M_m] at q1 q2
    rw [SI.Plain_no (by decide)] at q1 q2
    simp at q1 q2; omega
  · have e : S.ref19_Meet top.I a.I = a.I := by
      have h1 := h.lo; have h2 := h.hi; have h3 := h.le
      unfold I64 at h1 h2
      rw [SI.M_m, show max top.I.Lo a.I.Lo = a.I.Lo by simp only [top]; omega, show min top.I.Hi a.I.Hi = a.I.Hi by simp only [top]; omega]
      exact SI.P_n (show ¬ a.I.Lo > a.I.Hi by omega)
    rw [e]; exact Make_self (.inr h)

theorem two_le (a b : S.Value) : [a, b].length ≤ maxLen := by simp [maxLen]
theorem Join2 {a b : S.Value} (ha : VOK a) (hb : VOK b) : S.value_Join [a, b] = J (red a) (red b) ∧ S.value_Join_pre [a, b] := by
  obtain ⟨e, p, _⟩ := Join_list [a, b] (two_le a b) (by simp [ha, hb])
  refine ⟨?_, p⟩
  rw [e]; simp only [List.map_cons, List.map_nil, List.foldl_cons, List.foldl_nil, J_bot]
theorem Meet2 {a b : S.Value} (ha : VOK a) (hb : VOK b) : S.value_Meet [a, b] = M (red a) (red b) ∧ S.value_Meet_pre [a, b] := by
  obtain ⟨e, p, _⟩ := Meet_list [a, b] (two_le a b) (by simp [ha, hb])
  refine ⟨?_, p⟩
  rw [e]; simp only [List.map_cons, List.map_nil, List.foldl_cons, List.foldl_nil, M_top (red_rv ha)]

theorem Widen_eq {a b : S.Value} (ha : VOK a) (hb : VOK b) : S.value_Widen a b = Wd (red a) (red b) ∧ S.value_Widen_pre a b := by
  have ra := red_rv ha; have rb := red_rv hb
  obtain ⟨j1, j2⟩ := Join2 ra.ok rb.ok
  rw [red_of ra, red_of rb] at j1
  have e : S.value_Widen a b = bif (decide (red a = bot) || decide (red b = bot)) then S.value_Join [red a, red b] else S.value_Make (S.inter_Widen (red a).I (red b).I) (S.cong_Join (red a).C (red b).C) := by
    simp only [value_Widen, bot_eq, eqv]; rfl
  have hp : S.value_Widen_pre a b ↔ ((S.value_Value_reduced_pre a ∧ S.value_Value_reduced_pre b) ∧ (((decide (red a = bot) || decide (red b = bot)) = true → S.value_Join_pre [red a, red b]) ∧ ((decide (red a = bot) || decide (red b = bot)) = false → (S.inter_Widen_pre (red a).I (red b).I ∧ S.cong_Join_pre (red a).C (red b).C ∧ S.value_Make_pre (S.inter_Widen (red a).I (red b).I) (S.cong_Join (red a).C (red b).C))))) := by
    simp only [value_Widen_pre, bot_eq, eqv, All, and_true]; rfl
  rw [hp, e]
  unfold Wd
  by_cases h : red a = bot ∨ red b = bot
  · have hd : (decide (red a = bot) || decide (red b = bot)) = true := by simpa using h
    rw [hd, cond_true, if_pos h]
    exact ⟨j1, ⟨red_pre ha, red_pre hb⟩, fun _ => j2, (fun h => by cases h)⟩
  · have hd : (decide (red a = bot) || decide (red b = bot)) = false := by simpa using h
    rw [hd, cond_false, if_neg h, SI.Widen_eq]
    have h' := not_or.1 h
    have w := (Widen_ir (ra.resolve_left h'.1) (rb.resolve_left h'.2)).1
    exact ⟨rfl, ⟨red_pre ha, red_pre hb⟩, (fun h => by cases h), fun _ => ⟨SI.Widen_pre _ _, Join_pre _ _ ra.cr.1 rb.cr.1, Make_pre' w (join_CR ra.cr rb.cr)⟩⟩

theorem Narrow_eq {a b : S.Value} (ha : VOK a) (hb : VOK b) : S.value_Narrow a b = Nr (red a) (red b) ∧ S.value_Narrow_pre a b := by
  have ra := red_rv ha; have rb := red_rv hb
  have e : S.value_Narrow a b = bif !(S.cong_Meet (red a).C (red b).C).2 then bot else S.value_Make (S.inter_Narrow (red a).I (red b).I) (S.cong_Meet (red a).C (red b).C).1 := by
    simp only [value_Narrow, bot_eq]; rfl
  have hp : S.value_Narrow_pre a b ↔ ((S.value_Value_reduced_pre a ∧ S.value_Value_reduced_pre b ∧ S.cong_Meet_pre (red a).C (red b).C) ∧ (((!(S.cong_Meet (red a).C (red b).C).2) = true → True) ∧ ((!(S.cong_Meet (red a).C (red b).C).2) = false → S.value_Make_pre (S.inter_Narrow (red a).I (red b).I) (S.cong_Meet (red a).C (red b).C).1))) := by
    simp only [value_Narrow_pre, bot_eq, All, and_true]; rfl
  rw [hp, e, SI.Narrow_eq]
  unfold Nr
  cases h : (S.cong_Meet (red a).C (red b).C).2 with
  | true =>
    have hc := (meet_CR ra.cr rb.cr h).2
    exact ⟨rfl, ⟨red_pre ha, red_pre hb, Meet_pre _ _ ra.cr.1 rb.cr.1⟩, fun _ => trivial, fun _ => Make_pre' (Narrow_ir ra.ir rb.ir) hc⟩
  | false => exact ⟨rfl, ⟨red_pre ha, red_pre hb, Meet_pre _ _ ra.cr.1 rb.cr.1⟩, fun _ => trivial, (fun h => by cases h)⟩

theorem Same_eq {a b : S.Value} (ha : VOK a) (hb : VOK b) : S.value_Same a b = decide (red a = red b) ∧ S.value_Same_pre a b := by
  refine ⟨?_, ?_⟩
  · simp only [value_Same, eqv]; rfl
  · simp only [value_Same_pre, All, and_true]; exact ⟨red_pre ha, red_pre hb⟩
end SV
