/-
  Refine, in the program and in the reference.
-/
import Derived.Test.YthplfkeecpkmhaaGreatDoorCondPlain3
set_option linter.all false
open Go Vm
namespace SV
open S SC

theorem fr01 : fr r01 1 = one 1 := by unfold fr; decide
theorem fr00 : fr (one 0) 1 = bot := by unfold fr; decide
theorem one_ne {n : Int} (h : I64 n) : one n ≠ bot := (one_NB h).ne
theorem r01_ne : r01 ≠ bot := r01_NB.ne
theorem le01 : Le (one 0) r01 := (le_one (.inr r01_NB) i0).2 ⟨by decide, by decide, by decide⟩
theorem le0t : Le (one 0) top := (le_one (.inr top_NB) i0).2 ⟨by decide, by decide, by decide⟩
theorem nle10 : ¬ Le (one 0) (one 1) := fun h => by
  have := (le_one (one_rv i1) i0).1 h
  exact absurd this.1 (by decide)

theorem on_tv (y n t : Bool) : on (tv y n) t = (bif t then (bif y then one 1 else bot) else (bif n then one 0 else bot)) := by
  cases t
  · show M (tv y n) (one 0) = _
    rw [M_one (tv_rv y n) i0]
    cases y <;> cases n
    · exact if_neg fun h => one_ne i0 (Le.of_bot (one_rv i0) h)
    · exact if_pos (Le.refl (one_rv i0))
    · exact if_neg nle10
    · exact if_pos le01
  · show wo (tv y n) 0 = _
    cases y <;> cases n
    · exact if_pos rfl
    · refine (if_neg (one_ne i0)).trans ((if_pos rfl).trans ?_)
      exact (if_neg (by decide)).trans fr00
    · refine (if_neg (one_ne i1)).trans ((if_neg ?_).trans (if_neg ?_))
      · show ¬ (0 : Int) = 1; decide
      · show ¬ (0 : Int) = 1; decide
    · refine (if_neg r01_ne).trans ((if_pos rfl).trans ?_)
      exact (if_neg (by decide)).trans fr01
theorem on_tv_bot (y n t : Bool) : decide (on (tv y n) t = bot) = ((t && !y) || (!t && !n)) := by
  rw [on_tv]
  cases t <;> cases y <;> cases n <;> simp [one_ne i0, one_ne i1]
theorem on_top (t : Bool) : on top t ≠ bot := by
  cases t
  · show M top (one 0) ≠ bot
    rw [M_one (.inr top_NB) i0, if_pos le0t]; exact one_ne i0
  · show wo top 0 ≠ bot
    have : wo top 0 = top := (if_neg top_NB.ne).trans ((if_neg (by decide)).trans (if_neg (by decide)))
    rw [this]; exact top_NB.ne
theorem on_bot (t : Bool) : on bot t = bot := by
  cases t
  rotate_left
  · show wo bot 0 = bot
    unfold wo; exact if_pos rfl
  · show M bot (one 0) = bot
    rw [M_one (.inl rfl) i0]; exact if_neg fun h => one_ne i0 (Le.of_bot (one_rv i0) h)

/-- What no operator tells. -/
noncomputable def never (op : Int) (a b : S.Value) (t : Bool) : Prop :=
  a = bot ∨ b = bot ∨ ((0 ≤ op ∧ op ≤ 7) ∧ ((t && !(tl op a b).1) || (!t && !(tl op a b).2)) = true)
theorem on_dv (op : Int) (a b : S.Value) (t : Bool) : on (dv op a b) t = bot ↔ never op a b t := by
  unfold dv never
  by_cases h : a = bot ∨ b = bot
  · rw [if_pos h]
    exact ⟨fun _ => h.elim .inl fun h => .inr (.inl h), fun _ => on_bot t⟩
  · rw [if_neg h]
    have h' := not_or.1 h
    by_cases ho : op < 0 ∨ op > 7
    · rw [if_pos ho]
      exact ⟨fun h => absurd h (on_top t), fun h => (h.elim (fun h => absurd h h'.1) fun h => h.elim (fun h => absurd h h'.2) fun h => by omega)⟩
    · rw [if_neg ho, ← on_tv_bot, decide_eq_true_iff]
      exact ⟨fun h => .inr (.inr ⟨by omega, h⟩), fun h => h.elim (fun h => absurd h h'.1) fun h => h.elim (fun h => absurd h h'.2) fun h => h.2⟩

open Classical in
noncomputable def rf (op : Int) (a b : S.Value) (t : Bool) : S.Value × S.Value :=
  if never op a b t ∨ (lfs op a b t).1 = bot ∨ (lfs op a b t).2 = bot then (bot, bot) else lfs op a b t

theorem rf_rv (op : Int) {a b : S.Value} (ha : RV a) (hb : RV b) (t : Bool) : RV (rf op a b t).1 ∧ RV (rf op a b t).2 := by
  unfold rf
  split
  · exact ⟨bot_rv, bot_rv⟩
  · exact lfs_rv op ha hb t

theorem Refine_eq (op : Int) {a b : S.Value} (ha : VOK a) (hb : VOK b) (t : Bool) : S.cond_Refine op a b t = rf op (red a) (red b) t ∧ S.cond_Refine_pre op a b t := by
  have ra := red_rv ha; have rb := red_rv hb
  obtain ⟨d1, d2⟩ := Do_eq op ra.ok rb.ok
  rw [red_of ra, red_of rb] at d1
  have dr := dv_rv op (red a) (red b)
  obtain ⟨o1, o2, _⟩ := Only_all dr.ok t
  rw [red_of dr] at o1
  have onr := on_rv dr t
  obtain ⟨l1, l2⟩ := lefts_eq op ra rb t
  obtain ⟨v1, v2⟩ := lfs_rv op ra rb t
  have hd := on_dv op (red a) (red b) t
  have hB : S.value_Bottom = bot := bot_eq
  simp only [cond_Refine, cond_Refine_pre, plain_eq, d1, o1, l1, hB, isBot_rv onr, All, and_true]
  unfold rf
  by_cases h : never op (red a) (red b) t
  · rw [decide_eq_true (hd.2 h), Bool.not_true]
    simp only [cond_false, eta_v]
    rw [isBot_rv bot_rv, decide_eq_true rfl, Bool.true_or, cond_true, if_pos (.inl h)]
    exact ⟨rfl, ⟨plain_pre' ha, plain_pre' hb, d2, o2, isBot_pre onr.ok, (fun h => by cases h), isBot_pre bot_rv.ok, (fun h => by cases h)⟩, fun _ => trivial, (fun h => by cases h)⟩
  · rw [decide_eq_false fun h' => h (hd.1 h'), Bool.not_false]
    simp only [cond_true, eta_v]
    rw [isBot_rv v1, isBot_rv v2]
    refine ⟨?_, ⟨plain_pre' ha, plain_pre' hb, d2, o2, isBot_pre onr.ok, fun _ => l2, isBot_pre v1.ok, fun _ => isBot_pre v2.ok⟩, fun _ => trivial, fun _ => trivial⟩
    by_cases h2 : (lfs op (red a) (red b) t).1 = bot ∨ (lfs op (red a) (red b) t).2 = bot
    · rw [if_pos (.inr h2), show (decide ((lfs op (red a) (red b) t).1 = bot) || decide ((lfs op (red a) (red b) t).2 = bot)) = true by simpa using h2]; rfl
    · rw [if_neg (not_or.2 ⟨h, h2⟩), show (decide ((lfs op (red a) (red b) t).1 = bot) || decide ((lfs op (red a) (red b) t).2 = bot)) = false by simpa using h2]; rfl

theorem rPlain {a : S.Value} (h : VOK a) : S.ref21_Plain a = red a ∧ S.ref21_Plain_pre a :=
  ⟨(Make_same _ _ h.1 h.2).symm, by simp only [ref21_Plain_pre, All, and_true]; exact (rmade _ _ h.1 h.2).2⟩

theorem rRefine_eq (op : Int) {a b : S.Value} (ha : VOK a) (hb : VOK b) (t : Bool) : S.ref24_Refine op a b t = rf op (red a) (red b) t ∧ S.ref24_Refine_pre op a b t := by
  have ra := red_rv ha; have rb := red_rv hb
  obtain ⟨_, _, o1, o2⟩ := Only_all ra.ok false
  obtain ⟨_, _, p1, p2⟩ := Only_all rb.ok false
  rw [red_of ra] at o1
  rw [red_of rb] at p1
  have hq : ∀ x k : Int, (x == k) = decide (x = k) := fun x k => by rw [Bool.eq_iff_iff]; simp
  have hl : lfs op (red a) (red b) t = (bif t then lf op (red a) (red b) else bif decide (op = 0) then (on (red a) false, on (red b) false) else bif (decide (op ≥ 2) && decide (op ≤ 7)) then lf (([0, 0, 3, 2, 7, 6, 5, 4] : List Int).getD (Int.toNat op) 0) (red a) (red b) else (red a, red b)) := by
    unfold lfs
    cases t
    · rw [cond_false, cond_false, Bool.cond_decide]
      by_cases h0 : op = 0
      · rw [if_pos h0, if_pos h0]
      · rw [if_neg h0, if_neg h0]
        by_cases h : 2 ≤ op ∧ op ≤ 7
        · have : op = 2 ∨ op = 3 ∨ op = 4 ∨ op = 5 ∨ op = 6 ∨ op = 7 := by omega
          rcases this with rfl | rfl | rfl | rfl | rfl | rfl <;> rfl
        · rw [if_neg h, show (decide (op ≥ 2) && decide (op ≤ 7)) = false by
            rw [Bool.and_eq_false_iff, decide_eq_false_iff_not, decide_eq_false_iff_not]; omega]
          rfl
    · rfl
  have l1 : (bif t then (lf op (red a) (red b)).1 else bif decide (op = 0) then on (red a) false else bif (decide (op ≥ 2) && decide (op ≤ 7)) then (lf (([0, 0, 3, 2, 7, 6, 5, 4] : List Int).getD (Int.toNat op) 0) (red a) (red b)).1 else red a) = (lfs op (red a) (red b) t).1 := by
    rw [hl]; cases t <;> cases decide (op = 0) <;> cases (decide (op ≥ 2) && decide (op ≤ 7)) <;> rfl
  have l2 : (bif t then (lf op (red a) (red b)).2 else bif decide (op = 0) then on (red b) false else bif (decide (op ≥ 2) && decide (op ≤ 7)) then (lf (([0, 0, 3, 2, 7, 6, 5, 4] : List Int).getD (Int.toNat op) 0) (red a) (red b)).2 else red b) = (lfs op (red a) (red b) t).2 := by
    rw [hl]; cases t <;> cases decide (op = 0) <;> cases (decide (op ≥ 2) && decide (op ≤ 7)) <;> rfl
  have q : ∀ (c d e : Bool) (x y z w : S.Value) (g : S.Value → Int), (bif c then g x else bif d then g y else bif e then g z else g w) = g (bif c then x else bif d then y else bif e then z else w) := by
    intro c d e x y z w g; cases c <;> cases d <;> cases e <;> rfl
  have q1 := fun c d e x y z w => q c d e x y z w fun v => v.I.Lo
  have q2 := fun c d e x y z w => q c d e x y z w fun v => v.I.Hi
  have q3 := fun c d e x y z w => q c d e x y z w fun v => v.C.M
  have q4 := fun c d e x y z w => q c d e x y z w fun v => v.C.R
  refine ⟨?_, ?_⟩
  · simp only [ref24_Refine, (rPlain ha).1, (rPlain hb).1, rbot_eq, o1, p1, (rleft_eq _ ra rb).1, hq, q1, q2, q3, q4, l1, l2, eta_v]
    simp only [← hq, eqv]
    unfold rf
    by_cases hb' : red a = bot ∨ red b = bot
    · rw [if_pos (.inl (hb'.elim .inl fun h => .inr (.inl h)))]
      rw [show (!decide (red a = bot) && !decide (red b = bot)) = false by rw [← Bool.not_or, show (decide (red a = bot) || decide (red b = bot)) = true by simpa using hb']; rfl, cond_false]
      rw [show (decide (red a = bot) || decide (red b = bot)) = true by simpa using hb']; rfl
    · have h' := not_or.1 hb'
      rw [decide_eq_false h'.1, decide_eq_false h'.2, Bool.not_false, Bool.and_self, cond_true]
      have hn : ((t && !(bif (decide (op ≥ 0) && decide (op ≤ 7)) then (S.ref24_tells op (red a) (red b)).1 else true)) || (!t && !(bif (decide (op ≥ 0) && decide (op ≤ 7)) then (S.ref24_tells op (red a) (red b)).2 else true))) = true ↔ never op (red a) (red b) t := by
        unfold never
        by_cases ho : 0 ≤ op ∧ op ≤ 7
        · rw [(rtells_eq (ra.resolve_left h'.1) (rb.resolve_left h'.2) ho).1, decide_eq_true (show op ≥ 0 from ho.1), decide_eq_true ho.2]
          exact ⟨fun h => .inr (.inr ⟨ho, h⟩), fun h => h.elim (fun h => absurd h h'.1) fun h => h.elim (fun h => absurd h h'.2) fun h => h.2⟩
        · rw [show (decide (op ≥ 0) && decide (op ≤ 7)) = false by
            rw [Bool.and_eq_false_iff, decide_eq_false_iff_not, decide_eq_false_iff_not]; omega]
          refine ⟨fun h => absurd h (by cases t <;> simp), fun h => h.elim (fun h => absurd h h'.1) fun h => h.elim (fun h => absurd h h'.2) fun h => absurd h.1 ho⟩
      by_cases h : never op (red a) (red b) t
      · rw [hn.2 h, if_pos (.inl h)]; rfl
      · rw [Bool.eq_false_iff.2 fun e => h (hn.1 e), cond_false]
        by_cases h2 : (lfs op (red a) (red b) t).1 = bot ∨ (lfs op (red a) (red b) t).2 = bot
        · rw [if_pos (.inr h2), show (decide ((lfs op (red a) (red b) t).1 = bot) || decide ((lfs op (red a) (red b) t).2 = bot)) = true by simpa using h2]; rfl
        · rw [if_neg (not_or.2 ⟨h, h2⟩), show (decide ((lfs op (red a) (red b) t).1 = bot) || decide ((lfs op (red a) (red b) t).2 = bot)) = false by simpa using h2]; rfl
  · simp only [ref24_Refine_pre, (rPlain ha).1, (rPlain hb).1, rbot_eq, eqv, All, and_true]
    refine ⟨⟨(rPlain ha).2, (rPlain hb).2⟩, fun h => ⟨fun ho => ?_, fun _ => trivial, fun _ => ⟨⟨fun _ => (rleft_eq _ ra rb).2, fun _ => ⟨fun _ => ⟨o2, p2⟩, fun _ hp => ?_⟩⟩, fun _ => trivial, fun _ => trivial⟩⟩, fun _ => ⟨fun _ => trivial, fun _ => trivial⟩⟩
    · rw [Bool.and_eq_true, decide_eq_true_iff, decide_eq_true_iff] at ho
      rw [Bool.and_eq_true, Bool.not_eq_true', Bool.not_eq_true', decide_eq_false_iff_not, decide_eq_false_iff_not] at h
      exact (rtells_eq (ra.resolve_left h.1) (rb.resolve_left h.2) ho).2
    · rw [Bool.and_eq_true, decide_eq_true_iff, decide_eq_true_iff] at hp
      refine ⟨by omega, ?_, (rleft_eq _ ra rb).2⟩
      show op < 8
      omega
end SV
