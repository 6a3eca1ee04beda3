/-
  What is made of two congruences is the reference's, and right.
-/
import Derived.Test.YtpnegnhbbcligaaCongPlain3
set_option linter.all false
open Go Vm
namespace S

def B (c : S.Cong) (g : Int) : Int := if c.M = 0 then IntKind.i64.wrap c.R % g else c.R % g
theorem B_range (c : S.Cong) (g : Int) (hg : 0 < g) : 0 ≤ B c g ∧ B c g < g := by unfold B; split <;> exact mod_range _ g hg
theorem nb {x : Int} (h : (x == 0) = false) : x ≠ 0 := beq_eq_false_iff_ne.1 h

theorem far_eq (x y : Int) (hx : 0 ≤ x ∧ x ≤ 18446744073709551615) (hy : 0 ≤ y ∧ y ≤ 18446744073709551615) : S.ref20_far x y = S.cong_far x y ∧ 0 ≤ S.cong_far x y ∧ S.cong_far x y ≤ 18446744073709551615 := by
  simp only [ref20_far, cong_far]
  by_cases h : x < y
  · rw [decide_eq_true h, cond_true, if_pos h, if_neg (show ¬ y < x by omega), IntWalk.u64_in _ (by omega)]; omega
  · rw [decide_eq_false h, cond_false, if_neg (show ¬ y > x by omega)]
    by_cases h2 : y < x
    · rw [if_pos h2, IntWalk.u64_in _ (by omega)]; omega
    · rw [if_neg h2, IntWalk.u64_in _ (by omega), IntWalk.u64_in _ (by omega)]; omega
theorem mk_right (m n : Int) (hm : inr .u64 m) : S.cong_Cong_Right (mk m n) = true := by
  rw [inr_u64] at hm
  rw [Right_eq, Right_iff]
  unfold mk
  split
  · left; rfl
  · right; exact (mod_range n m (by omega)).2
section
variable (a b : S.Cong) (ha : S.Cong.ok a) (hb : S.Cong.ok b)
include ha hb
theorem Add_both : S.ref20_Add_pre a b ∧ S.cong_Add a b = S.ref20_Add a b ∧ S.cong_Cong_Right (S.cong_Add a b) = true := by
  have ha' := (ok_iff a).1 ha; have hb' := (ok_iff b).1 hb
  have g0 := G_pos a.M b.M ha'.1.1 hb'.1.1
  simp only [ref20_Add_pre, cong_Add, ref20_Add, gcd_eq _ _ ha'.1.1 hb'.1.1, Gcd_eq _ _ ha'.1.1 hb'.1.1, All, and_true]
  cases h : (G a.M b.M == 0) with
  | true => exact ⟨⟨Gcd_pre _ _ ha'.1.1 hb'.1.1, fun _ => trivial, fun h => Bool.noConfusion h⟩, rfl, rfl⟩
  | false =>
    have hg := nb h
    have hg1 : 0 < G a.M b.M := by omega
    have hg2 : G a.M b.M ≤ 18446744073709551615 := by omega
    have ra := B_range a _ hg1; have rb := B_range b _ hg1
    have e1 : S.cong_Cong_by a (G a.M b.M) = B a (G a.M b.M) := by_eq a _ ha hg1 hg2
    have e2 : S.cong_Cong_by b (G a.M b.M) = B b (G a.M b.M) := by_eq b _ hb hg1 hg2
    have e3 : S.ref20_Of a (G a.M b.M) = B a (G a.M b.M) := Of_eq a _ ha hg1 hg2
    have e4 : S.ref20_Of b (G a.M b.M) = B b (G a.M b.M) := Of_eq b _ hb hg1 hg2
    simp only [e1, e2, e3, e4, plus_eq _ _ _ ra rb hg2, refplus_eq _ _ _ ra rb hg2, cond_false]
    refine ⟨⟨Gcd_pre _ _ ha'.1.1 hb'.1.1, fun h => Bool.noConfusion h, fun _ => ⟨Of_pre _ _ hg, Of_pre _ _ hg⟩⟩, trivial, ?_⟩
    rw [Right_eq, Right_iff]; right; exact (mod_range _ _ hg1).2
theorem Sub_both : S.cong_Sub_pre a b ∧ S.ref20_Sub_pre a b ∧ S.cong_Sub a b = S.ref20_Sub a b ∧ S.cong_Cong_Right (S.cong_Sub a b) = true := by
  have ha' := (ok_iff a).1 ha; have hb' := (ok_iff b).1 hb
  have g0 := G_pos a.M b.M ha'.1.1 hb'.1.1
  simp only [cong_Sub_pre, ref20_Sub_pre, cong_Sub, ref20_Sub, gcd_eq _ _ ha'.1.1 hb'.1.1, Gcd_eq _ _ ha'.1.1 hb'.1.1, All, and_true]
  cases h : (G a.M b.M == 0) with
  | true => exact ⟨⟨gcd_pre _ _ ha'.1.1 hb'.1.1, fun _ => trivial, fun h => Bool.noConfusion h⟩, ⟨Gcd_pre _ _ ha'.1.1 hb'.1.1, fun _ => trivial, fun h => Bool.noConfusion h⟩, rfl, rfl⟩
  | false =>
    have hg := nb h
    have hg1 : 0 < G a.M b.M := by omega
    have hg2 : G a.M b.M ≤ 18446744073709551615 := by omega
    have ra := B_range a _ hg1; have rb := B_range b _ hg1
    have e1 : S.cong_Cong_by a (G a.M b.M) = B a (G a.M b.M) := by_eq a _ ha hg1 hg2
    have e2 : S.cong_Cong_by b (G a.M b.M) = B b (G a.M b.M) := by_eq b _ hb hg1 hg2
    have e3 : S.ref20_Of a (G a.M b.M) = B a (G a.M b.M) := Of_eq a _ ha hg1 hg2
    have e4 : S.ref20_Of b (G a.M b.M) = B b (G a.M b.M) := Of_eq b _ hb hg1 hg2
    obtain ⟨v, p⟩ := neg_plus (B a (G a.M b.M)) (B b (G a.M b.M)) _ hg1 ra rb hg2
    simp only [e1, e2, e3, e4, v, refminus_eq _ _ _ ra rb hg2, cond_false]
    refine ⟨⟨gcd_pre _ _ ha'.1.1 hb'.1.1, fun h => Bool.noConfusion h, fun _ => ⟨by_pre _ _ hg, by_pre _ _ hg, hg, p⟩⟩, ⟨Gcd_pre _ _ ha'.1.1 hb'.1.1, fun h => Bool.noConfusion h, fun _ => ⟨Of_pre _ _ hg, Of_pre _ _ hg⟩⟩, trivial, ?_⟩
    rw [Right_eq, Right_iff]; right; exact (mod_range _ _ hg1).2
theorem Join_both (hr : S.ref20_Right a = true) : S.ref20_Join_pre a b ∧ S.cong_Join a b = S.ref20_Join a b ∧ S.cong_Cong_Right (S.cong_Join a b) = true := by
  have ha' := (ok_iff a).1 ha; have hb' := (ok_iff b).1 hb
  have g0 := G_pos a.M b.M ha'.1.1 hb'.1.1
  simp only [ref20_Join_pre, cong_Join, ref20_Join, gcd_eq a.M b.M ha'.1.1 hb'.1.1, Gcd_eq a.M b.M ha'.1.1 hb'.1.1, All, and_true, cong_Cong_number]
  cases hab : ((a.M == b.M) && (a.R == b.R)) with
  | true => exact ⟨⟨fun _ => trivial, fun h => Bool.noConfusion h⟩, rfl, hr⟩
  | false =>
    cases h : (G a.M b.M == 0) with
    | true =>
      have hw : ∀ x : Int, inr .u64 (IntKind.u64.wrap x) := fun x => by rw [inr_u64, IntKind.wrap_u64]; omega
      simp only [Make_eq _ _ (inr_i64.2 (num_i64 a.R)) (hw _), refMake_eq _ _ (inr_i64.2 (num_i64 a.R)) (hw _), cond_true, cond_false]
      exact ⟨⟨fun h => Bool.noConfusion h, fun _ => ⟨Gcd_pre _ _ ha'.1.1 hb'.1.1, fun _ => refMake_pre _ _, fun h => Bool.noConfusion h⟩⟩, rfl, mk_right _ _ (hw _)⟩
    | false =>
      have hg := nb h
      have hg1 : 0 < G a.M b.M := by omega
      have hg2 : G a.M b.M ≤ 18446744073709551615 := by omega
      have ra := B_range a _ hg1; have rb := B_range b _ hg1
      have e1 : S.cong_Cong_by a (G a.M b.M) = B a (G a.M b.M) := by_eq a _ ha hg1 hg2
      have e2 : S.cong_Cong_by b (G a.M b.M) = B b (G a.M b.M) := by_eq b _ hb hg1 hg2
      have e3 : S.ref20_Of a (G a.M b.M) = B a (G a.M b.M) := Of_eq a _ ha hg1 hg2
      have e4 : S.ref20_Of b (G a.M b.M) = B b (G a.M b.M) := Of_eq b _ hb hg1 hg2
      obtain ⟨f1, f2, f3⟩ := far_eq (B a (G a.M b.M)) (B b (G a.M b.M)) (by omega) (by omega)
      have g1 := G_pos _ _ g0.1 f2
      have hm : G (G a.M b.M) (S.cong_far (B a (G a.M b.M)) (B b (G a.M b.M))) ≠ 0 := fun e => hg (g1.2.2.2.1 e).1
      simp only [e1, e2, e3, e4, f1, gcd_eq _ _ g0.1 f2, Gcd_eq _ _ g0.1 f2, cond_false]
      refine ⟨⟨fun h => Bool.noConfusion h, fun _ => ⟨Gcd_pre _ _ ha'.1.1 hb'.1.1, fun h => Bool.noConfusion h, fun _ => ⟨Of_pre _ _ hg, Of_pre _ _ hg, Gcd_pre _ _ g0.1 f2, Of_pre _ _ hg, hm⟩⟩⟩, trivial, ?_⟩
      rw [Right_eq, Right_iff, tmod_pos _ _ ra.1]; right; exact (mod_range _ _ (by omega)).2
theorem Meet_both (hra : S.ref20_Right a = true) (hrb : S.ref20_Right b = true) : S.ref20_Meet_pre a b ∧ S.cong_Meet a b = S.ref20_Meet a b ∧ S.cong_Cong_Right (S.cong_Meet a b).1 = true := by
  have ha' := (ok_iff a).1 ha; have hb' := (ok_iff b).1 hb
  have g0 := G_pos a.M b.M ha'.1.1 hb'.1.1
  have n1 := inr_i64.2 (num_i64 a.R); have n2 := inr_i64.2 (num_i64 b.R)
  simp only [ref20_Meet_pre, cong_Meet, ref20_Meet, gcd_eq a.M b.M ha'.1.1 hb'.1.1, Gcd_eq a.M b.M ha'.1.1 hb'.1.1, All, and_true, cong_Cong_number, cong_Cong_single, cong_Cong_if1, Has_eq b _ hb n1, Has_eq a _ ha n2]
  cases h1 : (a.M == 0) with
  | true =>
    have e : a.M = 0 := by simpa using h1
    have hd : decide (a.M > 0) = false := by simp; omega
    simp only [hd, cond_false, cond_true, Bool.true_or]
    have := refHas_eq b _ hb n1
    rw [show (⟨b.M, b.R⟩ : S.Cong) = b from rfl, show (⟨a.M, a.R⟩ : S.Cong) = a from rfl, this]
    refine ⟨⟨fun _ => ⟨refHas_pre _ _, by simp⟩, fun h => Bool.noConfusion h⟩, ?_, ?_⟩
    · cases has b (IntKind.i64.wrap a.R) <;> rfl
    · cases has b (IntKind.i64.wrap a.R)
      · rfl
      · exact hra
  | false =>
    have hM := nb h1
    cases h2 : (b.M == 0) with
    | true =>
      have hd : decide (a.M > 0) = true := by simp; omega
      simp only [hd, cond_false, cond_true, Bool.or_true]
      have := refHas_eq a _ ha n2
      rw [show (⟨b.M, b.R⟩ : S.Cong) = b from rfl, show (⟨a.M, a.R⟩ : S.Cong) = a from rfl, this]
      refine ⟨⟨fun _ => ⟨refHas_pre _ _, by simp⟩, fun h => Bool.noConfusion h⟩, ?_, ?_⟩
      · cases has a (IntKind.i64.wrap b.R) <;> rfl
      · cases has a (IntKind.i64.wrap b.R)
        · rfl
        · exact hrb
    | false =>
      have hg : G a.M b.M ≠ 0 := fun e => hM (g0.2.2.2.1 e).1
      have hg1 : 0 < G a.M b.M := by omega
      have hg2 : G a.M b.M ≤ 18446744073709551615 := by omega
      have e1 : S.cong_Cong_by a (G a.M b.M) = S.ref20_Of a (G a.M b.M) := (by_eq a _ ha hg1 hg2).trans (Of_eq a _ ha hg1 hg2).symm
      have e2 : S.cong_Cong_by b (G a.M b.M) = S.ref20_Of b (G a.M b.M) := (by_eq b _ hb hg1 hg2).trans (Of_eq b _ hb hg1 hg2).symm
      simp only [e1, e2, Within_eq a b ha hb, Within_eq b a hb ha, cond_false, Bool.or_false]
      refine ⟨⟨fun h => Bool.noConfusion h, fun _ => ⟨⟨Gcd_pre _ _ ha'.1.1 hb'.1.1, Of_pre _ _ hg, Of_pre _ _ hg⟩, fun _ => trivial, fun _ => ⟨⟨refWithin_pre _ _, fun _ => refWithin_pre _ _⟩, by simp⟩⟩⟩, ?_, ?_⟩
      · cases (S.ref20_Of a (G a.M b.M) != S.ref20_Of b (G a.M b.M))
        · have hge : decide (a.M ≥ b.M) = !decide (b.M > a.M) := by
            by_cases hc : b.M > a.M
            · rw [decide_eq_true hc, decide_eq_false (by omega)]; rfl
            · rw [decide_eq_false hc, decide_eq_true (by omega)]; rfl
          rw [hge]
          cases S.ref20_Within a b <;> cases S.ref20_Within b a <;> cases decide (b.M > a.M) <;> rfl
        · rfl
      · cases (S.ref20_Of a (G a.M b.M) != S.ref20_Of b (G a.M b.M))
        · simp only [cond_false]
          cases (S.ref20_Within a b || (!S.ref20_Within b a && decide (a.M ≥ b.M)))
          · exact hrb
          · exact hra
        · rfl
end
end S
