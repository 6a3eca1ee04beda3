/-
  Where the operator may tell so, something is left, and it stays; the statement CondKeeps.
-/
import Derived.Test.YthplfkeecpkmhaaGreatDoorCondPlain6
set_option linter.all false
open Go Vm
namespace SV
open S SC

/-- The operator may tell so. -/
def may (op : Int) (a b : S.Value) (t : Bool) : Prop := ((t && (tl op a b).1) || (!t && (tl op a b).2)) = true
theorem may_t {op : Int} {a b : S.Value} : may op a b true ↔ (tl op a b).1 = true := by simp [may]
theorem may_f {op : Int} {a b : S.Value} : may op a b false ↔ (tl op a b).2 = true := by simp [may]
theorem never_iff {op : Int} (ho : 0 ≤ op ∧ op ≤ 7) {a b : S.Value} (ha : NB a) (hb : NB b) (t : Bool) : never op a b t ↔ ¬ may op a b t := by
  unfold never may
  constructor
  · rintro (h | h | ⟨_, h⟩)
    · exact absurd h ha.ne
    · exact absurd h hb.ne
    · revert h; cases t <;> cases (tl op a b).1 <;> cases (tl op a b).2 <;> simp
  · intro h
    refine .inr (.inr ⟨ho, ?_⟩)
    revert h; cases t <;> cases (tl op a b).1 <;> cases (tl op a b).2 <;> simp

theorem Tr1 {v : S.Value} (h : NB v) : (Tr v).1 = true ↔ v ≠ one 0 := by
  unfold Tr; simp [h.ne]
theorem Tr2 {v : S.Value} : (Tr v).2 = true ↔ Le (one 0) v := by unfold Tr; simp

/-- What is left is not empty; and, but of Eq and Ne, it stays. -/
theorem keeps {op : Int} (ho : 0 ≤ op ∧ op ≤ 7) {a b : S.Value} (ha : NB a) (hb : NB b) (t : Bool) (hm : may op a b t) :
    NB (lfs op a b t).1 ∧ NB (lfs op a b t).2 ∧ (op ≠ 2 → op ≠ 3 → may op (lfs op a b t).1 (lfs op a b t).2 t ∧ lfs op (lfs op a b t).1 (lfs op a b t).2 t = lfs op a b t) := by
  have n0 := one_NB i0
  -- the four orders
  have K4 : a.I.Lo < b.I.Hi → NB (be a b.I.Hi) ∧ NB (ab b a.I.Lo) ∧ (be a b.I.Hi).I.Lo < (ab b a.I.Lo).I.Hi ∧ (be (be a b.I.Hi) (ab b a.I.Lo).I.Hi, ab (ab b a.I.Lo) (be a b.I.Hi).I.Lo) = (be a b.I.Hi, ab b a.I.Lo) := fun h => by
    obtain ⟨p1, p2, p3⟩ := be_spec ha hb.hi h
    obtain ⟨q1, q2, q3⟩ := ab_spec hb ha.lo h
    refine ⟨p1, q1, by omega, ?_⟩
    rw [be_self p1 (by omega), ab_self q1 (by omega)]
  have K5 : a.I.Lo ≤ b.I.Hi → NB (up a b.I.Hi) ∧ NB (fr b a.I.Lo) ∧ (up a b.I.Hi).I.Lo ≤ (fr b a.I.Lo).I.Hi ∧ (up (up a b.I.Hi) (fr b a.I.Lo).I.Hi, fr (fr b a.I.Lo) (up a b.I.Hi).I.Lo) = (up a b.I.Hi, fr b a.I.Lo) := fun h => by
    obtain ⟨p1, p2, p3⟩ := up_spec ha hb.hi h
    obtain ⟨q1, q2, q3⟩ := fr_spec hb ha.lo h
    refine ⟨p1, q1, by omega, ?_⟩
    rw [up_self p1 (by omega), fr_self q1 (by omega)]
  have K6 : b.I.Lo < a.I.Hi → NB (ab a b.I.Lo) ∧ NB (be b a.I.Hi) ∧ (be b a.I.Hi).I.Lo < (ab a b.I.Lo).I.Hi ∧ (ab (ab a b.I.Lo) (be b a.I.Hi).I.Lo, be (be b a.I.Hi) (ab a b.I.Lo).I.Hi) = (ab a b.I.Lo, be b a.I.Hi) := fun h => by
    obtain ⟨p1, p2, p3⟩ := ab_spec ha hb.lo h
    obtain ⟨q1, q2, q3⟩ := be_spec hb ha.hi h
    refine ⟨p1, q1, by omega, ?_⟩
    rw [ab_self p1 (by omega), be_self q1 (by omega)]
  have K7 : b.I.Lo ≤ a.I.Hi → NB (fr a b.I.Lo) ∧ NB (up b a.I.Hi) ∧ (up b a.I.Hi).I.Lo ≤ (fr a b.I.Lo).I.Hi ∧ (fr (fr a b.I.Lo) (up b a.I.Hi).I.Lo, up (up b a.I.Hi) (fr a b.I.Lo).I.Hi) = (fr a b.I.Lo, up b a.I.Hi) := fun h => by
    obtain ⟨p1, p2, p3⟩ := fr_spec ha hb.lo h
    obtain ⟨q1, q2, q3⟩ := up_spec hb ha.hi h
    refine ⟨p1, q1, by omega, ?_⟩
    rw [fr_self p1 (by omega), up_self q1 (by omega)]
  have AL : (tl 2 a b).1 = true → NB (al a b).1 ∧ NB (al a b).2 := fun h => by
    obtain ⟨r1, r2⟩ := al_rv (.inr ha) (.inr hb)
    simp [tl] at h
    exact ⟨nb_of r1 h.1, nb_of r2 h.2⟩
  have WT : (tl 3 a b).1 = true → NB (wt a b) ∧ NB (wt b a) := fun h => by
    have h' : ¬ (a.I.Lo = a.I.Hi ∧ b.I.Lo = b.I.Hi ∧ a.I.Lo = b.I.Lo) := by
      intro hh
      have : (tl 3 a b).1 = !decide (a.I.Lo = a.I.Hi ∧ b.I.Lo = b.I.Hi ∧ a.I.Lo = b.I.Lo) := rfl
      rw [this, decide_eq_true hh] at h; cases h
    exact ⟨wt_ne ha hb h', wt_ne hb ha fun hh => h' ⟨hh.2.1, hh.1, hh.2.2.symm⟩⟩
  have t2f : (tl 2 a b).2 = (tl 3 a b).1 := rfl
  have t3f : (tl 3 a b).2 = (tl 2 a b).1 := rfl
  have t4 : ∀ x y : S.Value, tl 4 x y = (decide (x.I.Lo < y.I.Hi), decide (x.I.Hi ≥ y.I.Lo)) := fun _ _ => rfl
  have t5 : ∀ x y : S.Value, tl 5 x y = (decide (x.I.Lo ≤ y.I.Hi), decide (x.I.Hi > y.I.Lo)) := fun _ _ => rfl
  have t6 : ∀ x y : S.Value, tl 6 x y = (decide (y.I.Lo < x.I.Hi), decide (y.I.Hi ≥ x.I.Lo)) := fun _ _ => rfl
  have t7 : ∀ x y : S.Value, tl 7 x y = (decide (y.I.Lo ≤ x.I.Hi), decide (y.I.Hi > x.I.Lo)) := fun _ _ => rfl
  cases t
  · rw [may_f] at hm
    rcases op8 ho with rfl | rfl | rfl | rfl | rfl | rfl | rfl | rfl
    · have e : ∀ x y : S.Value, lfs 0 x y false = (on x false, on y false) := fun _ _ => rfl
      have hh : Le (one 0) a ∧ Le (one 0) b := by
        have : (tl 0 a b).2 = ((Tr a).2 && (Tr b).2) := rfl
        rw [this, Bool.and_eq_true, Tr2, Tr2] at hm; exact hm
      have e1 : on a false = one 0 := (on_f (.inr ha)).trans (if_pos hh.1)
      have e2 : on b false = one 0 := (on_f (.inr hb)).trans (if_pos hh.2)
      have e3 : on (one 0) false = one 0 := (on_f (one_rv i0)).trans (if_pos (Le.refl (one_rv i0)))
      rw [e, e1, e2]
      refine ⟨n0, n0, fun _ _ => ⟨?_, by rw [e, e3]⟩⟩
      rw [may_f]
      show ((Tr (one 0)).2 && (Tr (one 0)).2) = true
      rw [Bool.and_self, Tr2]; exact Le.refl (one_rv i0)
    · exact ⟨ha, hb, fun _ _ => ⟨may_f.2 hm, rfl⟩⟩
    · obtain ⟨w1, w2⟩ := WT (t2f ▸ hm)
      exact ⟨w1, w2, fun h => absurd rfl h⟩
    · obtain ⟨w1, w2⟩ := AL (t3f ▸ hm)
      exact ⟨w1, w2, fun _ h => absurd rfl h⟩
    · rw [t4, decide_eq_true_iff] at hm
      obtain ⟨k1, k2, k3, k4⟩ := K7 hm
      exact ⟨k1, k2, fun _ _ => ⟨may_f.2 (by rw [t4, decide_eq_true_iff]; exact k3), k4⟩⟩
    · rw [t5, decide_eq_true_iff] at hm
      obtain ⟨k1, k2, k3, k4⟩ := K6 hm
      exact ⟨k1, k2, fun _ _ => ⟨may_f.2 (by rw [t5, decide_eq_true_iff]; exact k3), k4⟩⟩
    · rw [t6, decide_eq_true_iff] at hm
      obtain ⟨k1, k2, k3, k4⟩ := K5 hm
      exact ⟨k1, k2, fun _ _ => ⟨may_f.2 (by rw [t6, decide_eq_true_iff]; exact k3), k4⟩⟩
    · rw [t7, decide_eq_true_iff] at hm
      obtain ⟨k1, k2, k3, k4⟩ := K4 hm
      exact ⟨k1, k2, fun _ _ => ⟨may_f.2 (by rw [t7, decide_eq_true_iff]; exact k3), k4⟩⟩
  · rw [may_t] at hm
    rcases op8 ho with rfl | rfl | rfl | rfl | rfl | rfl | rfl | rfl
    · exact ⟨ha, hb, fun _ _ => ⟨may_t.2 hm, rfl⟩⟩
    · have e : ∀ x y : S.Value, lfs 1 x y true = (wo x 0, wo y 0) := fun _ _ => rfl
      have hh : a ≠ one 0 ∧ b ≠ one 0 := by
        have : (tl 1 a b).1 = ((Tr a).1 && (Tr b).1) := rfl
        rw [this, Bool.and_eq_true, Tr1 ha, Tr1 hb] at hm; exact hm
      obtain ⟨p1, p2, p3⟩ := wo_spec ha i0 hh.1
      obtain ⟨q1, q2, q3⟩ := wo_spec hb i0 hh.2
      rw [e]
      refine ⟨p1, q1, fun _ _ => ⟨?_, by rw [e, wo_self p2 p3, wo_self q2 q3]⟩⟩
      rw [may_t]
      show ((Tr (wo a 0)).1 && (Tr (wo b 0)).1) = true
      rw [Bool.and_eq_true, Tr1 p1, Tr1 q1]
      exact ⟨fun h => p2 (by rw [h]; rfl), fun h => q2 (by rw [h]; rfl)⟩
    · obtain ⟨w1, w2⟩ := AL hm
      exact ⟨w1, w2, fun h => absurd rfl h⟩
    · obtain ⟨w1, w2⟩ := WT hm
      exact ⟨w1, w2, fun _ h => absurd rfl h⟩
    · rw [t4, decide_eq_true_iff] at hm
      obtain ⟨k1, k2, k3, k4⟩ := K4 hm
      exact ⟨k1, k2, fun _ _ => ⟨may_t.2 (by rw [t4, decide_eq_true_iff]; exact k3), k4⟩⟩
    · rw [t5, decide_eq_true_iff] at hm
      obtain ⟨k1, k2, k3, k4⟩ := K5 hm
      exact ⟨k1, k2, fun _ _ => ⟨may_t.2 (by rw [t5, decide_eq_true_iff]; exact k3), k4⟩⟩
    · rw [t6, decide_eq_true_iff] at hm
      obtain ⟨k1, k2, k3, k4⟩ := K6 hm
      exact ⟨k1, k2, fun _ _ => ⟨may_t.2 (by rw [t6, decide_eq_true_iff]; exact k3), k4⟩⟩
    · rw [t7, decide_eq_true_iff] at hm
      obtain ⟨k1, k2, k3, k4⟩ := K7 hm
      exact ⟨k1, k2, fun _ _ => ⟨may_t.2 (by rw [t7, decide_eq_true_iff]; exact k3), k4⟩⟩

theorem rf_yes {op : Int} (ho : 0 ≤ op ∧ op ≤ 7) {a b : S.Value} (ha : NB a) (hb : NB b) (t : Bool) (hm : may op a b t) : rf op a b t = lfs op a b t := by
  obtain ⟨k1, k2, _⟩ := keeps ho ha hb t hm
  unfold rf
  exact if_neg (not_or.2 ⟨fun h => (never_iff ho ha hb t).1 h hm, not_or.2 ⟨k1.ne, k2.ne⟩⟩)
theorem rf_no {op : Int} {a b : S.Value} (t : Bool) (hm : never op a b t) : rf op a b t = (bot, bot) := if_pos (.inl hm)

theorem Tr_tv (y n : Bool) : Tr (tv y n) = (y, n) := by
  cases y <;> cases n
  · have : ¬ Le (one 0) bot := fun h => one_ne i0 (Le.of_bot (one_rv i0) h)
    simp [Tr, tv, this]
  · have := Le.refl (one_rv i0)
    simp [Tr, tv, this]
  · have e : one 1 ≠ one 0 := by decide
    simp [Tr, tv, nle10, one_ne i1, e]
  · have e : r01 ≠ one 0 := by decide
    simp [Tr, tv, le01, r01_ne, e]
theorem tv_le (y n : Bool) : Le (tv y n) r01 := by
  cases y <;> cases n
  · exact Le.bot
  · exact le01
  · exact (le_one (.inr r01_NB) i1).2 ⟨by decide, by decide, by decide⟩
  · exact Le.refl (.inr r01_NB)

theorem Rg01 : S.value_Range_pre 0 1 ∧ VOK (S.value_Range 0 1) ∧ red (S.value_Range 0 1) = r01 := by
  obtain ⟨h1, h2, _⟩ := Range_pre' 0 1 i0 i1
  refine ⟨h1, h2, ?_⟩
  rw [rg01]; exact red_of (.inr r01_NB)

/-- An operator brought to Or to Ge. -/
theorem op_in (op : Int) (h : I64 op) : 0 ≤ Int.tmod (IntKind.i64.wrap (Int.tmod op 8 + 8)) 8 ∧ Int.tmod (IntKind.i64.wrap (Int.tmod op 8 + 8)) 8 ≤ 7 := by
  have h1 : Int.tmod op 8 > -8 ∧ Int.tmod op 8 < 8 := ⟨Int.lt_tmod_of_pos op (by decide), Int.tmod_lt_of_pos op (by decide)⟩
  rw [IntKind.wrap_i64, Int.tmod_eq_emod_of_nonneg (by omega)]
  omega

theorem CondKeeps_law (op : Int) (a b : S.Value) (truth : Bool) (ho : inr .i64 op) (ha : S.Value.ok a) (hb : S.Value.ok b) (_ht : True) : S.law24_CondKeeps_pre op a b truth ∧ S.law24_CondKeeps op a b truth = true := by
  have ha' := (ok_iff' a).1 ha
  have hb' := (ok_iff' b).1 hb
  have hop := op_in op (inr_i64.1 ho)
  have ra := red_rv ha'; have rb := red_rv hb'
  simp only [law24_CondKeeps_pre, law24_CondKeeps]
  generalize Int.tmod (IntKind.i64.wrap (Int.tmod op 8 + 8)) 8 = o at hop ⊢
  obtain ⟨r1, r2⟩ := Refine_eq o ha' hb' truth
  rw [r1]
  obtain ⟨v1, v2⟩ := rf_rv o ra rb truth
  obtain ⟨l1, l2⟩ := rf_le o ra rb truth
  obtain ⟨s1, s2⟩ := Refine_eq o v1.ok v2.ok truth
  rw [red_of v1, red_of v2] at s1
  rw [s1]
  obtain ⟨w1, w2⟩ := rf_rv o v1 v2 truth
  obtain ⟨m1, m2⟩ := rf_le o v1 v2 truth
  obtain ⟨d1, d2⟩ := Do_eq o ha' hb'
  rw [d1]
  have dr := dv_rv o (red a) (red b)
  obtain ⟨t1, t2⟩ := Truth_eq dr.ok
  rw [red_of dr] at t1
  obtain ⟨g1, g2, g3⟩ := Rg01
  have in1 := within_b v1.ok ha'
  rw [red_of v1, decide_eq_true l1] at in1
  have in2 := within_b v2.ok hb'
  rw [red_of v2, decide_eq_true l2] at in2
  have in3 := within_b w1.ok v1.ok
  rw [red_of v1, red_of w1, decide_eq_true m1] at in3
  have in4 := within_b w2.ok v2.ok
  rw [red_of v2, red_of w2, decide_eq_true m2] at in4
  -- what there is to know
  have hdv : Le (dv o (red a) (red b)) r01 := by
    unfold dv
    split
    · exact Le.bot
    · rw [if_neg (by omega)]; exact tv_le _ _
  have in5 := within_b dr.ok g2
  rw [red_of dr, g3, decide_eq_true hdv] at in5
  have key : (o ≠ 2 ∧ o ≠ 3 → rf o (rf o (red a) (red b) truth).1 (rf o (red a) (red b) truth).2 truth = rf o (red a) (red b) truth) ∧
      ((rf o (red a) (red b) truth).1 = bot ↔ (rf o (red a) (red b) truth).2 = bot) ∧
      (dv o (red a) (red b) = bot → (rf o (red a) (red b) truth).1 = bot) ∧
      (((truth && (Tr (dv o (red a) (red b))).1) || (!truth && (Tr (dv o (red a) (red b))).2)) = !decide ((rf o (red a) (red b) truth).1 = bot)) := by
    by_cases hn : red a = bot ∨ red b = bot
    · have nv : never o (red a) (red b) truth := hn.elim .inl fun h => .inr (.inl h)
      have ed : dv o (red a) (red b) = bot := if_pos hn
      rw [rf_no _ nv, ed]
      refine ⟨fun _ => rf_no _ (.inl rfl), Iff.rfl, fun _ => rfl, ?_⟩
      have : Tr bot = (false, false) := Tr_tv false false
      rw [this]; cases truth <;> simp
    · have na := nb_of ra (not_or.1 hn).1
      have nb := nb_of rb (not_or.1 hn).2
      have ed : dv o (red a) (red b) = tv (tl o (red a) (red b)).1 (tl o (red a) (red b)).2 := by
        unfold dv; rw [if_neg hn, if_neg (by omega)]
      rw [ed, Tr_tv]
      by_cases hm : may o (red a) (red b) truth
      · obtain ⟨k1, k2, k3⟩ := keeps hop na nb truth hm
        rw [rf_yes hop na nb truth hm]
        refine ⟨fun h23 => ?_, ⟨fun h => absurd h k1.ne, fun h => absurd h k2.ne⟩, fun h => ?_, ?_⟩
        · obtain ⟨q1, q2⟩ := k3 h23.1 h23.2
          rw [rf_yes hop k1 k2 truth q1, q2]
        · have := Tr_tv (tl o (red a) (red b)).1 (tl o (red a) (red b)).2
          rw [h, show Tr bot = (false, false) from Tr_tv false false] at this
          unfold may at hm
          rw [← congrArg Prod.fst this, ← congrArg Prod.snd this] at hm
          exact absurd hm (by cases truth <;> simp)
        · unfold may at hm
          rw [hm, decide_eq_false k1.ne]; rfl
      · rw [rf_no _ ((never_iff hop na nb truth).2 hm)]
        refine ⟨fun _ => rf_no _ (.inl rfl), Iff.rfl, fun _ => rfl, ?_⟩
        unfold may at hm
        rw [Bool.eq_false_iff.2 hm, decide_eq_true rfl]; rfl
  obtain ⟨key1, key2, key3, key4⟩ := key
  refine ⟨?_, ?_⟩
  · simp only [All, and_true]
    refine ⟨⟨r2, s2, (within_eq v1.ok ha').2, fun _ => (within_eq v2.ok hb').2, fun _ => (within_eq w1.ok v1.ok).2, fun _ => (within_eq w2.ok v2.ok).2, fun _ => isBot_pre v1.ok, fun _ => isBot_pre v2.ok⟩, fun _ => trivial, fun _ => ⟨⟨d2, isBot_pre dr.ok, fun _ => isBot_pre v1.ok, fun _ => g1, fun _ => (within_eq dr.ok g2).2⟩, fun _ => trivial, fun _ => ⟨t2, isBot_pre v1.ok, fun _ => works24.1⟩⟩⟩
  · rw [in1, in2, in3, in4, in5, t1, isBot_rv v1, isBot_rv v2, isBot_rv dr, works24.2]
    simp only [eqv]
    rw [key4, show (!(decide ((rf o (red a) (red b) truth).1 = bot) == decide ((rf o (red a) (red b) truth).2 = bot))) = false by
      rw [show decide ((rf o (red a) (red b) truth).1 = bot) = decide ((rf o (red a) (red b) truth).2 = bot) from decide_eq_decide.2 key2]; simp]
    rw [show (decide (dv o (red a) (red b) = bot) && !decide ((rf o (red a) (red b) truth).1 = bot)) = false by
      by_cases h : dv o (red a) (red b) = bot
      · rw [decide_eq_true (key3 h)]; simp
      · rw [decide_eq_false h]; rfl]
    rw [show ((o != 2 && o != 3) && (!decide ((rf o (rf o (red a) (red b) truth).1 (rf o (red a) (red b) truth).2 truth).1 = (rf o (red a) (red b) truth).1) || !decide ((rf o (rf o (red a) (red b) truth).1 (rf o (red a) (red b) truth).2 truth).2 = (rf o (red a) (red b) truth).2))) = false by
      by_cases h : o ≠ 2 ∧ o ≠ 3
      · rw [key1 h]; simp
      · rw [show (o != 2 && o != 3) = false by simp only [Bool.and_eq_false_iff, bne_eq_false_iff_eq]; omega]; rfl]
    simp
end SV
