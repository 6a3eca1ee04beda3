/-
  Truth and comparisons: what the program's functions compute, and the reference's.
-/
import Derived.Test.YthplfkeecpkmhaaGreatDoorKDVal
set_option linter.all false
open Go Vm
namespace SV
open S SC

theorem eqn {a b : S.Value} : (!((a.I.Lo == b.I.Lo) && ((a.I.Hi == b.I.Hi) && ((a.C.M == b.C.M) && (a.C.R == b.C.R))))) = !decide (a = b) := by rw [eqv]
theorem bot_rv : RV bot := .inl rfl
theorem one_rv {n : Int} (h : I64 n) : RV (one n) := .inr (one_NB h)
theorem i0 : I64 0 := by unfold I64; decide
theorem i1 : I64 1 := by unfold I64; decide
theorem zero_eq : S.cond_zero = one 0 := rfl
theorem plain_eq (v : S.Value) : S.cond_plain v = red v := rfl
theorem plain_pre' {v : S.Value} (h : VOK v) : S.cond_plain_pre v := by
  simp only [cond_plain_pre, All, and_true]; exact (made _ _ h.1 h.2).2
theorem isBot_rv {v : S.Value} (h : RV v) : S.value_Value_IsBottom v = decide (v = bot) := by rw [isBot, red_of h]

/-- Whether a value may be true, and false. -/
def Tr (v : S.Value) : Bool × Bool := (!decide (v = bot) && !decide (v = one 0), decide (Le (one 0) v))

theorem Truth_eq {v : S.Value} (h : VOK v) : S.cond_Truth v = Tr (red v) ∧ S.cond_Truth_pre v := by
  have hr := red_rv h
  refine ⟨?_, ?_⟩
  · simp only [cond_Truth, plain_eq, isBot_red h, zero_eq, eqv]
    rw [has_b hr.ok i0, red_of hr]; rfl
  · simp only [cond_Truth_pre, plain_eq, All, and_true]
    exact ⟨plain_pre' h, isBot_pre hr.ok, (has_iff' hr.ok i0).2⟩
theorem rTruth_eq {v : S.Value} (h : RV v) : S.ref24_Truth v = Tr v ∧ S.ref24_Truth_pre v := by
  obtain ⟨r1, r2⟩ := rhas_eq h i0
  refine ⟨?_, ?_⟩
  · simp only [ref24_Truth, rbot_eq, rone_eq, eqv, r1, Tr]
    by_cases hb : v = bot
    · have : ¬ Le (one 0) bot := fun hl => (one_NB i0).ne (Le.of_bot (one_rv i0) hl)
      rw [hb, decide_eq_false this]; simp
    · rw [decide_eq_false hb]; simp
  · simp only [ref24_Truth_pre, rbot_eq, rone_eq, eqv, All, and_true]
    exact ⟨fun _ => trivial, fun _ => ⟨rone_pre _, r2⟩⟩

/-! ### What is left where both are the same -/

noncomputable def al (a b : S.Value) : S.Value × S.Value :=
  if (S.cong_Meet a.C b.C).2 = true then
    (S.value_Make (S.ref19_Meet a.I b.I) (if S.cong_Within b.C a.C = true then b.C else a.C), S.value_Make (S.ref19_Meet a.I b.I) (if S.cong_Within a.C b.C = true then a.C else b.C))
  else (bot, bot)

theorem al_rv {a b : S.Value} (ha : RV a) (hb : RV b) : RV (al a b).1 ∧ RV (al a b).2 := by
  have hi := M_ir ha.ir hb.ir
  unfold al
  by_cases h : (S.cong_Meet a.C b.C).2 = true
  · rw [if_pos h]
    refine ⟨Make_rv hi ?_, Make_rv hi ?_⟩
    · split
      · exact hb.cr
      · exact ha.cr
    · split
      · exact ha.cr
      · exact hb.cr
  · rw [if_neg h]; exact ⟨bot_rv, bot_rv⟩

theorem eta_v (v : S.Value) : (⟨⟨v.I.Lo, v.I.Hi⟩, ⟨v.C.M, v.C.R⟩⟩ : S.Value) = v := rfl

theorem alike_eq {a b : S.Value} (ha : RV a) (hb : RV b) : S.cond_alike a b = al a b ∧ S.cond_alike_pre a b := by
  have hi := M_ir ha.ir hb.ir
  have m := SI.M2 a.I b.I (ok_of_ir ha.ir)
  refine ⟨?_, ?_⟩
  · simp only [cond_alike, m, bot_eq]
    unfold al
    cases h : (S.cong_Meet a.C b.C).2 with
    | false => rfl
    | true =>
      rw [if_pos rfl]
      cases h1 : S.cong_Within b.C a.C <;> cases h2 : S.cong_Within a.C b.C <;> simp [eta_v]
  · simp only [cond_alike_pre, m, All, and_true]
    exact ⟨Meet_pre _ _ ha.cr.1 hb.cr.1, fun _ => trivial, fun _ => ⟨SI.Meet2_pre _ _, Make_pre' hi ha.cr, Make_pre' hi hb.cr, Within_pre _ _, fun _ => Make_pre' hi hb.cr, Within_pre _ _, fun _ => Make_pre' hi ha.cr⟩⟩

theorem ralike_eq {a b : S.Value} (ha : RV a) (hb : RV b) : S.ref24_alike a b = al a b ∧ S.ref24_alike_pre a b := by
  have hi := M_ir ha.ir hb.ir
  obtain ⟨p1, p2, _⟩ := Meet_both a.C b.C ha.cr.1 hb.cr.1 ha.cr.2 hb.cr.2
  have w1 := Within_eq b.C a.C hb.cr.1 ha.cr.1
  have w2 := Within_eq a.C b.C ha.cr.1 hb.cr.1
  have m1 := Make_same _ _ hi ha.cr.1; have m2 := Make_same _ _ hi hb.cr.1
  have q1 := (rmade _ _ hi ha.cr.1).2; have q2 := (rmade _ _ hi hb.cr.1).2
  refine ⟨?_, ?_⟩
  · simp only [ref24_alike, ref24_within, ← p2, rbot_eq, ← w1, ← w2, ← m1, ← m2]
    unfold al
    cases h : (S.cong_Meet a.C b.C).2 with
    | false => rfl
    | true =>
      rw [if_pos rfl]
      cases h1 : S.cong_Within b.C a.C <;> cases h2 : S.cong_Within a.C b.C <;> simp
  · simp only [ref24_alike_pre, ref24_within_pre, All, and_true]
    exact ⟨p1, fun _ => trivial, fun _ => ⟨⟨refWithin_pre _ _, fun _ => q2, fun _ => q1⟩, ⟨refWithin_pre _ _, fun _ => q1, fun _ => q2⟩⟩⟩

theorem single_eq {a b : S.Value} (ha : RV a) (hb : RV b) : S.cond_single a b = decide (a.I.Lo = a.I.Hi ∧ b.I.Lo = b.I.Hi ∧ a.I.Lo = b.I.Lo) ∧ S.cond_single_pre a b := by
  obtain ⟨a1, a2⟩ := Single_eq ha.ok
  obtain ⟨b1, b2⟩ := Single_eq hb.ok
  rw [red_of ha] at a1
  rw [red_of hb] at b1
  refine ⟨?_, by simp only [cond_single_pre, All, and_true]; exact ⟨a2, b2⟩⟩
  simp only [cond_single, a1, b1]
  by_cases h1 : a.I.Lo = a.I.Hi
  · by_cases h2 : b.I.Lo = b.I.Hi
    · rw [if_pos h1, if_pos h2]
      by_cases h3 : a.I.Lo = b.I.Lo
      · rw [decide_eq_true ⟨h1, h2, h3⟩]; simp [h3]
      · rw [decide_eq_false fun h => h3 h.2.2]
        simp only [Bool.and_self, Bool.true_and]
        exact beq_eq_false_iff_ne.2 h3
    · rw [if_neg h2, decide_eq_false fun h => h2 h.2.1]; simp
  · rw [if_neg h1, decide_eq_false fun h => h1 h.1]; simp

/-! ### What an operator tells -/

noncomputable def tl (op : Int) (a b : S.Value) : Bool × Bool :=
  if op = 0 then ((Tr a).1 || (Tr b).1, (Tr a).2 && (Tr b).2)
  else if op = 1 then ((Tr a).1 && (Tr b).1, (Tr a).2 || (Tr b).2)
  else if op = 2 then (!decide ((al a b).1 = bot) && !decide ((al a b).2 = bot), !decide (a.I.Lo = a.I.Hi ∧ b.I.Lo = b.I.Hi ∧ a.I.Lo = b.I.Lo))
  else if op = 3 then (!decide (a.I.Lo = a.I.Hi ∧ b.I.Lo = b.I.Hi ∧ a.I.Lo = b.I.Lo), !decide ((al a b).1 = bot) && !decide ((al a b).2 = bot))
  else if op = 4 then (decide (a.I.Lo < b.I.Hi), decide (a.I.Hi ≥ b.I.Lo))
  else if op = 5 then (decide (a.I.Lo ≤ b.I.Hi), decide (a.I.Hi > b.I.Lo))
  else if op = 6 then (decide (b.I.Lo < a.I.Hi), decide (b.I.Hi ≥ a.I.Lo))
  else (decide (b.I.Lo ≤ a.I.Hi), decide (b.I.Hi > a.I.Lo))

theorem beq_t {a b : Int} (h : a = b) : (a == b) = true := by simpa using h
theorem beq_f {a b : Int} (h : ¬ a = b) : (a == b) = false := beq_eq_false_iff_ne.2 h

theorem op8 {op : Int} (h : 0 ≤ op ∧ op ≤ 7) : op = 0 ∨ op = 1 ∨ op = 2 ∨ op = 3 ∨ op = 4 ∨ op = 5 ∨ op = 6 ∨ op = 7 := by omega

theorem tells_F {a b : S.Value} (ha : RV a) (hb : RV b) : ∀ (n : Nat) (op : Int), 0 ≤ op ∧ op ≤ 7 → S.cond_tells_D n op a b → S.cond_tells_F n op a b = tl op a b
  | 0, _, _, h => h.elim
  | n + 1, op, ho, h => by
    obtain ⟨t1, _⟩ := Truth_eq ha.ok
    obtain ⟨t2, _⟩ := Truth_eq hb.ok
    rw [red_of ha] at t1
    rw [red_of hb] at t2
    obtain ⟨l1, _⟩ := alike_eq ha hb
    obtain ⟨r1, r2⟩ := al_rv ha hb
    obtain ⟨s1, _⟩ := single_eq ha hb
    have h3 : op = 3 → S.cond_tells_F n 2 a b = tl 2 a b := fun e => by
      subst e
      refine tells_F ha hb n 2 (by decide) ?_
      simp only [cond_tells_D, All, and_true] at h
      exact ((h.2.2 rfl).2 rfl).1 rfl
    simp only [cond_tells_F, t1, t2, l1, isBot_rv r1, isBot_rv r2, s1]
    rcases op8 ho with rfl | rfl | rfl | rfl | rfl | rfl | rfl | rfl
    · simp [tl]
    · simp [tl]
    · simp [tl]
    · rw [h3 rfl]; simp [tl]
    · simp [tl]
    · simp [tl]
    · simp [tl]
    · simp [tl]

theorem tells_D {a b : S.Value} (ha : RV a) (hb : RV b) (op : Int) : S.cond_tells_D 2 op a b := by
  obtain ⟨_, t1⟩ := Truth_eq ha.ok
  obtain ⟨_, t2⟩ := Truth_eq hb.ok
  obtain ⟨l1, l2⟩ := alike_eq ha hb
  obtain ⟨r1, r2⟩ := al_rv ha hb
  obtain ⟨_, s2⟩ := single_eq ha hb
  have hD : S.cond_tells_D 1 2 a b := by
    simp only [cond_tells_D, All, and_true, l1]
    exact ⟨⟨t1, t2⟩, (fun h => by cases h), fun _ => ⟨(fun h => by cases h), fun _ => ⟨(fun h => by cases h), fun _ => ⟨fun _ => ⟨l2, isBot_pre r1.ok, fun _ => isBot_pre r2.ok, s2⟩, (fun h => by cases h)⟩⟩⟩⟩
  rw [show (2 : Nat) = 1 + 1 from rfl, cond_tells_D]
  simp only [All, and_true, l1]
  exact ⟨⟨t1, t2⟩, fun _ => trivial, fun _ => ⟨fun _ => trivial, fun _ => ⟨fun _ => hD, fun _ => ⟨fun _ => ⟨l2, isBot_pre r1.ok, fun _ => isBot_pre r2.ok, s2⟩, fun _ => ⟨fun _ => trivial, fun _ => ⟨fun _ => trivial, fun _ => trivial⟩⟩⟩⟩⟩⟩

theorem tells_eq {a b : S.Value} (ha : RV a) (hb : RV b) {op : Int} (ho : 0 ≤ op ∧ op ≤ 7) : S.cond_tells op a b = tl op a b ∧ S.cond_tells_pre op a b := by
  have hp : S.cond_tells_pre op a b := ⟨2, tells_D ha hb op⟩
  exact ⟨tells_F ha hb _ op ho (Classical.epsilon_spec hp), hp⟩

theorem rsingle {a b : S.Value} (ha : NB a) (hb : NB b) : ((!((a.I.Lo == b.I.Lo) && ((a.I.Hi == b.I.Hi) && ((a.C.M == b.C.M) && (a.C.R == b.C.R))))) || a.I.Lo != a.I.Hi) = !decide (a.I.Lo = a.I.Hi ∧ b.I.Lo = b.I.Hi ∧ a.I.Lo = b.I.Lo) := by
  rw [eqv]
  by_cases h1 : a.I.Lo = a.I.Hi
  · by_cases h2 : a = b
    · subst h2; simp [h1]
    · have : ¬ (a.I.Lo = a.I.Hi ∧ b.I.Lo = b.I.Hi ∧ a.I.Lo = b.I.Lo) := fun h => h2 (by
        refine S.Value.ext (S.Inter.ext h.2.2 (by omega)) ?_
        rw [ha.one h.1, hb.one h.2.1, h.2.2])
      rw [decide_eq_false h2, decide_eq_false this]; rfl
  · have : ¬ (a.I.Lo = a.I.Hi ∧ b.I.Lo = b.I.Hi ∧ a.I.Lo = b.I.Lo) := fun h => h1 h.1
    rw [decide_eq_false this, show (a.I.Lo != a.I.Hi) = true by simpa using h1]; simp

theorem rtells_F : ∀ (n : Nat) (op : Int) (a b : S.Value), NB a → NB b → 0 ≤ op ∧ op ≤ 7 → S.ref24_tells_D n op a b → S.ref24_tells_F n op a b = tl op a b
  | 0, _, _, _, _, _, _, h => h.elim
  | n + 1, op, a, b, ha, hb, ho, h => by
    obtain ⟨t1, _⟩ := rTruth_eq (.inr ha)
    obtain ⟨t2, _⟩ := rTruth_eq (.inr hb)
    obtain ⟨l1, _⟩ := ralike_eq (.inr ha) (.inr hb)
    simp only [ref24_tells_D, All, and_true] at h
    simp only [ref24_tells_F, t1, t2, l1, rbot_eq, eqv, rsingle ha hb]
    have hs := rsingle ha hb
    rw [eqv] at hs
    rw [hs]
    rcases op8 ho with rfl | rfl | rfl | rfl | rfl | rfl | rfl | rfl
    · simp [tl]
    · simp [tl]
    · simp [tl]
    · have := rtells_F n 2 a b ha hb (by decide) (((h.2.2 rfl).2 rfl).2 rfl |>.1 rfl)
      rw [this]; simp [tl]
    · simp [tl]
    · simp [tl]
    · have e : IntKind.i64.wrap (6 - 2) = 4 := by decide
      rw [e] at h ⊢
      have := rtells_F n 4 b a hb ha (by decide) (((((h.2.2 rfl).2 rfl).2 rfl).2 rfl).2 rfl |>.2 rfl)
      rw [this]; simp [tl]
    · have e : IntKind.i64.wrap (7 - 2) = 5 := by decide
      rw [e] at h ⊢
      have := rtells_F n 5 b a hb ha (by decide) (((((h.2.2 rfl).2 rfl).2 rfl).2 rfl).2 rfl |>.2 rfl)
      rw [this]; simp [tl]
end SV
