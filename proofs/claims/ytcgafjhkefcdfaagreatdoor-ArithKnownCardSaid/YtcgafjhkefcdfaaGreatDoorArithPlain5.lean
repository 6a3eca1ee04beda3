/-
  The statement ArithLaws, in plain words.
-/
import Derived.Test.YtcgafjhkefcdfaaGreatDoorArithPlain3
set_option linter.all false
open Go Vm
namespace SV
open S SC AM
theorem ArithLaws_law (a b : S.Value) (op : Int) (ha : S.Value.ok a) (hb : S.Value.ok b) (ho : inr .i64 op) : S.law22_ArithLaws_pre a b op ∧ S.law22_ArithLaws a b op = true := by
 have ha' := (ok_iff' a).1 ha
 have hb' := (ok_iff' b).1 hb
 have ra := red_rv ha'; have rb := red_rv hb'
 have hma : S.value_Make a.I a.C = red a := rfl
 have mpa : S.value_Make_pre a.I a.C := (made _ _ ha'.1 ha'.2).2
 have ba := isBot_red ha'
 have z0 := (one_rv i0).ok
 have z1 := (one_rv i1).ok
 have key : ∃ z, Runs law22_ArithLaws_L0_step law22_ArithLaws_L0_vcs ⟨false, 0, a, b⟩ z ∧ (z.1 = false ∧ z.2.a = a ∧ z.2.b = b) := by
  refine Runs.of (fun s => s.a = a ∧ s.b = b ∧ (s.i = 0 ∨ s.i = 2 ∨ s.i = 4)) (fun s => (4 - s.i).toNat) _ ?_ _ ⟨rfl, rfl, .inl rfl⟩
  rintro ⟨t, i, a', b'⟩ ⟨e1, e2, h0⟩
  dsimp only at e1 e2 h0
  subst e1 e2
  by_cases h3 : i < 3
  ·have d1 : decide (i < 3) = true := decide_eq_true h3
   have d4 : IntKind.i64.wrap (i + 2) = i + 2 := by rw [IntKind.wrap_i64]; omega
   obtain ⟨o, ho, e3⟩ : ∃ o, (o = 13 ∨ o = 15) ∧ S.law22_ops.getD i.toNat 0 = o := by
    have : i = 0 ∨ i = 2 := by omega
    rcases this with rfl | rfl
    ·exact ⟨13, .inl rfl, rfl⟩
    ·exact ⟨15, .inr rfl, rfl⟩
   have hlen : (S.law22_ops.length : Int) = 3 := rfl
   obtain ⟨D1, D2⟩ := arDo (op := o) ha' hb'
   obtain ⟨C1, C2⟩ := arDo (op := o) hb' ha'
   rw [← dar_comm ho ra rb] at C1
   refine ⟨?_, ?_⟩
   ·simp only [law22_ArithLaws_L0_vcs, d1, e3, hlen, All, and_true, true_implies]
    exact ⟨⟨⟨by omega, h3, D2, by omega, h3, C2⟩, fun _ => trivial, fun _ => trivial⟩, fun h => by cases h⟩
   ·simp only [law22_ArithLaws_L0_step, d1, d4, e3, D1, C1, eqv, decide_true, Bool.not_true, cond_true, cond_false]
    exact ⟨⟨trivial, trivial, by omega⟩, by omega⟩
  ·have d1 : decide (i < 3) = false := decide_eq_false h3
   refine ⟨by simp only [law22_ArithLaws_L0_vcs, d1]; exact ⟨(fun h => by cases h), fun _ => trivial⟩, ?_⟩
   simp only [law22_ArithLaws_L0_step, d1, cond_false]
   exact ⟨trivial, trivial, trivial⟩
 obtain ⟨z, r, y1, y2, y3⟩ := key
 have e : law22_ArithLaws_L0_run ⟨false, 0, a, b⟩ = z := theRun_eq (d := fun x => (true, x)) r
 obtain ⟨A1, A2⟩ := arDo (op := 13) ha' z0
 rw [red_of (one_rv i0), dar_zero (.inl rfl) ra] at A1
 obtain ⟨B1, B2⟩ := arDo (op := 15) z1 ha'
 rw [red_of (one_rv i1), dar_mul1 ra] at B1
 obtain ⟨C1, C2⟩ := arDo (op := 14) ha' z0
 rw [red_of (one_rv i0), dar_zero (.inr rfl) ra] at C1
 obtain ⟨W1, W2'⟩ := arWraps (op := 14) z0 hb'
 rw [red_of (one_rv i0)] at W1
 obtain ⟨V1, V2⟩ := arWraps (op := 14) ha' hb'
 obtain ⟨D1, D2⟩ := arDo (op := 14) ha' hb'
 obtain ⟨N1, N2⟩ := arNeg hb'
 have nr := dar_rv 14 (one_rv i0) rb
 obtain ⟨F1, F2⟩ := arDo (op := 13) ha' nr.ok
 rw [red_of nr] at F1
 have dr := dar_rv 14 ra rb
 have fr := dar_rv 13 ra nr
 obtain ⟨S1, S2⟩ := Same_eq dr.ok fr.ok
 rw [red_of dr, red_of fr] at S1
 obtain ⟨M1', M2'⟩ := arDo (op := 15) ra.ok z0
 rw [red_of ra, red_of (one_rv i0)] at M1'
 have mr := dar_rv 15 ra (one_rv i0)
 obtain ⟨T1, T2⟩ := Single_eq mr.ok
 rw [red_of mr] at T1
 obtain ⟨P1, P2⟩ := arDo (op := op) ha' bot_rv.ok
 rw [red_of bot_rv, dar_bot_r] at P1
 obtain ⟨Q1, Q2⟩ := arDo (op := op) bot_rv.ok hb'
 rw [red_of bot_rv, dar_bot_l] at Q1
 obtain ⟨R1, R2⟩ := arNeg bot_rv.ok
 rw [red_of bot_rv, dar_bot_r] at R1
 have bbot : S.value_Value_IsBottom bot = true := by rw [isBot, red_of bot_rv]; exact decide_eq_true rfl
 have k26 : ((!decide (wrs 14 (one 0) (red b)) && !decide (wrs 14 (red a) (red b))) && !decide (dar 14 (red a) (red b) = dar 13 (red a) (dar 14 (one 0) (red b)))) = false := by
  by_cases h : wrs 14 (one 0) (red b)
  ·rw [decide_eq_true h]; rfl
  ·rw [dar_neg ra rb h, decide_eq_true rfl, Bool.not_true, Bool.and_false]
 have k35 : (!decide (red a = bot) && (!(if (dar 15 (red a) (one 0)).I.Lo = (dar 15 (red a) (one 0)).I.Hi then ((dar 15 (red a) (one 0)).I.Lo, true) else (0, false)).2 || (if (dar 15 (red a) (one 0)).I.Lo = (dar 15 (red a) (one 0)).I.Hi then ((dar 15 (red a) (one 0)).I.Lo, true) else (0, false)).1 != 0)) = false := by
  by_cases h : red a = bot
  ·rw [decide_eq_true h]; rfl
  ·rw [dar_mul0 (nb_of ra h), decide_eq_false h, if_pos (show (one 0).I.Lo = (one 0).I.Hi from rfl)]; rfl
 have hne : ∀ v : S.Value, (!decide (v = v)) = false := fun v => by rw [decide_eq_true rfl]; rfl
 refine ⟨?_, ?_⟩
 ·simp only [law22_ArithLaws_pre, hma, e, y1, y2, y3, one_eq, bot_eq, A1, B1, C1, W1, V1, D1, N1, F1, S1, M1', T1, ba, P1, Q1, R1, bbot, eqv, All, and_true]
  exact ⟨⟨mpa, r⟩, (fun h => by cases h), fun _ => ⟨⟨A2, fun _ => B2, fun _ => C2⟩, fun _ => trivial, fun _ => ⟨⟨W2', fun _ => V2, fun _ => D2, fun _ => N2, fun _ => F2, fun _ => S2⟩, fun _ => trivial, fun _ => ⟨⟨M2', T2, isBot_pre ra.ok⟩, fun _ => trivial, fun _ => ⟨P2, isBot_pre bot_rv.ok, fun _ => Q2, fun _ => isBot_pre bot_rv.ok, fun _ => R2, fun _ => isBot_pre bot_rv.ok, fun _ => works22.1⟩⟩⟩⟩⟩
 ·simp only [law22_ArithLaws, hma, e, y1, y2, y3, one_eq, bot_eq, A1, B1, C1, W1, V1, D1, N1, F1, S1, M1', T1, ba, P1, Q1, R1, bbot, eqv, works22.2, k26, k35, hne]
  rfl
end SV
