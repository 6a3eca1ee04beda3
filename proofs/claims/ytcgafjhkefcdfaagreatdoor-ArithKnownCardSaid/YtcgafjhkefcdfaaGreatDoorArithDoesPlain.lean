/-
  The statement ArithDoes, in plain words.
-/
import Derived.Test.YtcgafjhkefcdfaaGreatDoorArithRef
set_option linter.all false
open Go Vm
namespace SV
open S SC AM
theorem rcg {op : Int} {a b : S.Cong} (ha : CR a) (hb : CR b) : S.ref22_congruence op a b = cg op a b ∧ S.ref22_congruence_pre op a b := by
 have e1 := (Add_both a b ha.1 hb.1)
 have e2 := (Sub_both a b ha.1 hb.1)
 have e3 := (Mul_both a b ha.1 hb.1)
 refine ⟨?_, ?_⟩
 ·simp only [ref22_congruence, cg, ← e1.2.1, ← e2.2.2.1, ← e3.2.2.1]
  by_cases h1 : op = 13
  ·rw [if_pos h1, show (op == 13) = true by simpa using h1]; rfl
  ·rw [if_neg h1, show (op == 13) = false by simpa using h1]
   by_cases h2 : op = 14
   ·rw [if_pos h2, show (op == 14) = true by simpa using h2]; rfl
   ·rw [if_neg h2, show (op == 14) = false by simpa using h2]; rfl
 ·simp only [ref22_congruence_pre, All, and_true]
  exact ⟨fun _ => e1.1, fun _ => ⟨fun _ => e2.2.1, fun _ => e3.2.1⟩⟩
theorem rdo13 {op : Int} (ho : known op) {x y : Int} (hx : I64 x) (hy : I64 y) : S.ref09_Do op x y = (IntKind.i64.wrap (E op x y), true) ∧ S.ref09_Do_pre op x y := by
 obtain ⟨a1, a2⟩ := SW.add_eq x y
 obtain ⟨n1, n2⟩ := SW.neg_eq y
 obtain ⟨b1, b2⟩ := SW.add_eq x (S.ref09_neg y)
 obtain ⟨m1, m2⟩ := SW.mul_eq x y
 rcases ho with rfl | rfl | rfl
 ·refine ⟨?_, ?_⟩
  ·rw [show S.ref09_Do 13 x y = (S.ref09_add x y, true) from rfl, a2]; rfl
  ·simp [ref09_Do_pre, All, a1]
 ·refine ⟨?_, ?_⟩
  ·rw [show S.ref09_Do 14 x y = (S.ref09_add x (S.ref09_neg y), true) from rfl, b2, n2, show E 14 x y = x - y from rfl]
   congr 1
   rw [IntKind.wrap_i64, IntKind.wrap_i64, IntKind.wrap_i64]; omega
  ·simp [ref09_Do_pre, All, n1, b1]
 ·refine ⟨?_, ?_⟩
  ·rw [show S.ref09_Do 15 x y = (S.ref09_mul x y, true) from rfl, m2, E15]
  ·simp [ref09_Do_pre, All, m1]
theorem known_r (op : Int) : (decide (op < 13) || decide (op > 15)) = !decide (known op) := by
 by_cases h : known op
 ·rw [decide_eq_true h]
  unfold known at h
  rw [decide_eq_false (show ¬ op < 13 by omega), decide_eq_false (show ¬ op > 15 by omega)]; rfl
 ·rw [decide_eq_false h]
  unfold known at h
  by_cases h1 : op < 13
  ·rw [decide_eq_true h1]; rfl
  ·rw [decide_eq_true (show op > 15 by omega), Bool.or_true]; rfl
theorem plain22 {a : S.Value} (h : VOK a) : S.ref21_Plain a = red a ∧ S.ref21_Plain_pre a :=
 ⟨(Make_same _ _ h.1 h.2).symm, by simp only [ref21_Plain_pre, All, and_true]; exact (rmade _ _ h.1 h.2).2⟩
theorem rDo {op : Int} {a b : S.Value} (ha : VOK a) (hb : VOK b) : S.ref22_Do op a b = dar op (red a) (red b) ∧ S.ref22_Do_pre op a b := by
 have ra := red_rv ha; have rb := red_rv hb
 obtain ⟨pa, ppa⟩ := plain22 ha
 obtain ⟨pb, ppb⟩ := plain22 hb
 obtain ⟨c1, c2⟩ := rcg (op := op) ra.cr rb.cr
 have hc := cg_CR op ra.cr rb.cr
 obtain ⟨_, wp, we, _⟩ := Wrapped_both _ hc.1
 have hwc := Wr_CR hc
 have e1 := eqv (red a) bot
 have e2 := eqv (red b) bot
 simp only [ref22_Do, ref22_Do_pre, pa, pb, rbot_eq, rtop_eq, rone_eq, known_r, c1, ← we, All, and_true]
 rw [e1, e2]
 unfold dar
 by_cases hbot : red a = bot ∨ red b = bot
 ·rw [if_pos hbot, show (decide (red a = bot) || decide (red b = bot)) = true by simpa using hbot]
  exact ⟨rfl, ⟨ppa, ppb⟩, fun _ => trivial, fun h => by cases h⟩
 ·rw [if_neg hbot, show (decide (red a = bot) || decide (red b = bot)) = false by simpa using hbot]
  by_cases hk : known op
  ·rw [if_neg (not_not_intro hk), decide_eq_true hk]
   simp only [Bool.not_true, cond_false]
   by_cases hs : (red a).I.Lo = (red a).I.Hi ∧ (red b).I.Lo = (red b).I.Hi
   ·obtain ⟨d1, d2⟩ := rdo13 hk ra.ir.1 rb.ir.1
    rw [if_pos hs, show ((red a).I.Lo == (red a).I.Hi && (red b).I.Lo == (red b).I.Hi) = true by simp [hs.1, hs.2], d1]
    exact ⟨rfl, ⟨ppa, ppb⟩, (fun h => by cases h), fun _ => ⟨(fun h => by cases h), fun _ => ⟨fun _ => ⟨d2, rone_pre _⟩, fun h => by cases h⟩⟩⟩
   ·have hs2 : ((red a).I.Lo == (red a).I.Hi && (red b).I.Lo == (red b).I.Hi) = false := by
     rw [Bool.eq_false_iff]
     intro h
     rw [Bool.and_eq_true, beq_iff_eq, beq_iff_eq] at h
     exact hs h
    obtain ⟨B1, B2⟩ := Bounds_eq hk ra.ir rb.ir
    obtain ⟨g1, g2⟩ := lo4_range (op := op) ra.ir rb.ir
    obtain ⟨r1, r2⟩ := Round_eq (z := lo4 op (red a) (red b)) (by omega)
    obtain ⟨q1, q2⟩ := Round_eq (z := hi4 op (red a) (red b)) (by omega)
    obtain ⟨k1, k2⟩ := cmp_RR (x := lo4 op (red a) (red b)) (y := hi4 op (red a) (red b)) (by omega) (by omega)
    obtain ⟨z1, z2⟩ := cmp_zero (x := lo4 op (red a) (red b)) (by omega)
    rw [hs2, if_neg hs, B1]
    dsimp only
    rw [r1, q1]
    dsimp only
    rw [k2, z2]
    have wr := wr_ir (lo4 op (red a) (red b)) (hi4 op (red a) (red b))
    by_cases f1 : rnd (lo4 op (red a) (red b)) ≠ rnd (hi4 op (red a) (red b))
    ·rw [if_pos f1, decide_eq_true f1]
     refine ⟨?_, ⟨ppa, ppb⟩, (fun h => by cases h), fun _ => ⟨(fun h => by cases h), fun _ => ⟨(fun h => by cases h), fun _ => ⟨⟨B2, r2, q2, c2, k1⟩, fun _ => ⟨wp, (rmade _ _ whole_ir hwc.1).2⟩, fun h => by cases h⟩⟩⟩⟩
     rw [cond_false, cond_true]
     exact (Make_same _ _ whole_ir hwc.1).symm
    ·rw [if_neg f1, decide_eq_false f1]
     by_cases f2 : rnd (lo4 op (red a) (red b)) ≠ 0
     ·rw [if_pos f2, decide_eq_true f2]
      refine ⟨?_, ⟨ppa, ppb⟩, (fun h => by cases h), fun _ => ⟨(fun h => by cases h), fun _ => ⟨(fun h => by cases h), fun _ => ⟨⟨B2, r2, q2, c2, k1⟩, (fun h => by cases h), fun _ => ⟨zero_RR.2, z1, fun _ => wp, (rmade _ _ wr hwc.1).2⟩⟩⟩⟩⟩
      exact (Make_same _ _ wr hwc.1).symm
     ·rw [if_neg f2, decide_eq_false f2]
      refine ⟨?_, ⟨ppa, ppb⟩, (fun h => by cases h), fun _ => ⟨(fun h => by cases h), fun _ => ⟨(fun h => by cases h), fun _ => ⟨⟨B2, r2, q2, c2, k1⟩, (fun h => by cases h), fun _ => ⟨zero_RR.2, z1, fun _ => wp, (rmade _ _ wr hc.1).2⟩⟩⟩⟩⟩
      exact (Make_same _ _ wr hc.1).symm
  ·rw [if_pos hk, decide_eq_false hk]
   exact ⟨rfl, ⟨ppa, ppb⟩, (fun h => by cases h), fun _ => ⟨fun _ => trivial, fun h => by cases h⟩⟩
theorem rNeg {a : S.Value} (ha : VOK a) : S.ref22_Neg a = dar 14 (one 0) (red a) ∧ S.ref22_Neg_pre a := by
 obtain ⟨h1, h2⟩ := rDo (op := 14) (one_rv i0).ok ha
 rw [red_of (one_rv i0)] at h1
 refine ⟨?_, ?_⟩
 ·simp only [ref22_Neg, rone_eq]; exact h1
 ·simp only [ref22_Neg_pre, rone_eq, All, and_true]; exact ⟨rone_pre _, h2⟩
theorem rWraps {op : Int} {a b : S.Value} (ha : VOK a) (hb : VOK b) : S.ref22_Wraps op a b = decide (wrs op (red a) (red b)) ∧ S.ref22_Wraps_pre op a b := by
 have ra := red_rv ha; have rb := red_rv hb
 obtain ⟨pa, ppa⟩ := plain22 ha
 obtain ⟨pb, ppb⟩ := plain22 hb
 have e1 := eqv (red a) bot
 have e2 := eqv (red b) bot
 simp only [ref22_Wraps, ref22_Wraps_pre, pa, pb, rbot_eq, known_r, All, and_true]
 rw [e1, e2]
 by_cases hx : (!decide (known op) || decide (red a = bot) || decide (red b = bot)) = true
 ·rw [hx]
  refine ⟨?_, ⟨ppa, ppb⟩, fun _ => trivial, fun h => by cases h⟩
  rw [cond_true]
  refine (decide_eq_false fun h => ?_).symm
  simp [h.1, h.2.1, h.2.2.1] at hx
 ·have hx := Bool.eq_false_iff.2 hx
  rw [hx]
  simp only [Bool.or_eq_false_iff, decide_eq_false_iff_not, Bool.not_eq_false', decide_eq_true_iff] at hx
  obtain ⟨⟨hk, na⟩, nb⟩ := hx
  obtain ⟨B1, B2⟩ := Bounds_eq hk ra.ir rb.ir
  obtain ⟨g1, g2⟩ := lo4_range (op := op) ra.ir rb.ir
  obtain ⟨r1, r2⟩ := Round_eq (z := lo4 op (red a) (red b)) (by omega)
  obtain ⟨q1, q2⟩ := Round_eq (z := hi4 op (red a) (red b)) (by omega)
  obtain ⟨z1, z2⟩ := cmp_zero (x := lo4 op (red a) (red b)) (by omega)
  obtain ⟨y1, y2⟩ := cmp_zero (x := hi4 op (red a) (red b)) (by omega)
  rw [B1]
  dsimp only
  rw [r1, q1]
  dsimp only
  rw [z2, y2]
  refine ⟨?_, ⟨ppa, ppb⟩, (fun h => by cases h), fun _ => ?_⟩
  ·rw [cond_false, Bool.eq_iff_iff]
   simp [wrs, na, nb, hk]
  ·first
    | exact ⟨B2, r2, q2, zero_RR.2, z1, fun _ => zero_RR.2, fun _ => y1⟩
    | exact ⟨B2, r2, q2, zero_RR.2, z1, fun _ => ⟨zero_RR.2, y1⟩⟩
    | exact ⟨B2, r2, zero_RR.2, z1, q2, fun _ => zero_RR.2, fun _ => y1⟩
theorem ArithDoes_law (op : Int) (a b : S.Value) (_ho : inr .i64 op) (ha : S.Value.ok a) (hb : S.Value.ok b) : S.law22_ArithDoes_pre op a b ∧ S.law22_ArithDoes op a b = true := by
 have ha' := (ok_iff' a).1 ha
 have hb' := (ok_iff' b).1 hb
 have dv : ∀ v, S.docs_Value v = v := fun _ => rfl
 obtain ⟨d1, d2⟩ := arDo (op := op) ha' hb'
 obtain ⟨r1, r2⟩ := rDo (op := op) ha' hb'
 obtain ⟨n1, n2⟩ := arNeg ha'
 obtain ⟨m1, m2⟩ := rNeg ha'
 obtain ⟨w1, w2⟩ := arWraps (op := op) ha' hb'
 obtain ⟨v1, v2⟩ := rWraps (op := op) ha' hb'
 refine ⟨?_, ?_⟩
 ·simp only [law22_ArithDoes_pre, dv, d1, r1, n1, m1, w1, v1, All, and_true]
  exact ⟨d2, n2, r2, fun _ => m2, fun _ => w2, fun _ => v2, fun _ => works22.1⟩
 ·simp only [law22_ArithDoes, dv, d1, r1, n1, m1, w1, v1, eqv, works22.2, decide_true, beq_self_eq_true, Bool.and_self]
end SV
