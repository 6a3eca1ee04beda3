/-
  Products: their laws; the chapter's examples.
-/
import Derived.Test.YtcgafjhkefcdfaaGreatDoorArithPlain2
set_option linter.all false
open Go Vm
namespace SV
open S SC AM
open SD (ba ba_app ba_size dec_small dec_big)
theorem scaled_M {c : S.Cong} (hc : CR c) {n : Int} (hn : I64 n) (h0 : n ≠ 0) :
  (S.cong_Cong_scaled c n).M = if c.M * (if n < 0 then -n else n) < 18446744073709551616 then c.M * (if n < 0 then -n else n) else c.M := by
 have hM := (CR_M hc).1
 unfold I64 at hn
 have e1 : (bif decide (n < 0) then IntKind.u64.wrap (0 - IntKind.u64.wrap n) else IntKind.u64.wrap n) = if n < 0 then -n else n := by
  by_cases h : n < 0
  ·rw [decide_eq_true h, cond_true, if_pos h, IntKind.wrap_u64, IntKind.wrap_u64]; omega
  ·rw [decide_eq_false h, cond_false, if_neg h, IntKind.wrap_u64]; omega
 have hA : 0 ≤ (if n < 0 then -n else n) ∧ (if n < 0 then -n else n) ≤ 18446744073709551615 := by split <;> omega
 simp only [cong_Cong_scaled, e1]
 generalize (if n < 0 then -n else n) = A at *
 rw [show (n == 0) = false from beq_eq_false_iff_ne.2 h0, cond_false, fits_eq c.M A hM hA]
 by_cases h : c.M * A < 18446744073709551616
 ·simp only [if_pos h]; rfl
 ·simp only [if_neg h]; rfl
theorem single_b (c : S.Cong) : S.cong_Cong_single c = (c.M == 0) := rfl
theorem cg15 (a b : S.Cong) : cg 15 a b = S.cong_Mul a b := by unfold cg; rw [if_neg (by decide), if_neg (by decide)]
theorem fits_comm {x y : Int} (hx : 0 ≤ x ∧ x ≤ 18446744073709551615) (hy : 0 ≤ y ∧ y ≤ 18446744073709551615) : S.cong_fits x y = S.cong_fits y x := by
 rw [fits_eq x y hx hy, fits_eq y x hy hx, Int.mul_comm]
theorem Mul_M {a b : S.Cong} (ha : CR a) (hb : CR b) : (S.cong_Mul a b).M = (S.cong_Mul b a).M := by
 obtain ⟨a1, a2⟩ := CR_M ha
 obtain ⟨b1, b2⟩ := CR_M hb
 have ga := G_pos a.M a.R a1.1 a2.1
 have gb := G_pos b.M b.R b1.1 b2.1
 simp only [cong_Mul, single_b, gcd_eq _ _ a1.1 b1.1, gcd_eq _ _ b1.1 a1.1, gcd_eq _ _ a1.1 a2.1, gcd_eq _ _ b1.1 b2.1]
 cases h3 : (a.M == 0) with
 | true =>
  cases h4 : (b.M == 0) with
  | true => simp only [Bool.and_self, cond_true]
  | false => simp only [Bool.and_false, Bool.false_and, cond_true, cond_false]
 | false =>
  have n3 : a.M ≠ 0 := by simpa using h3
  cases h4 : (b.M == 0) with
  | true => simp only [Bool.and_false, Bool.false_and, cond_true, cond_false]
  | false =>
   have n4 : b.M ≠ 0 := by simpa using h4
   rw [fits_comm (x := G a.M a.R) (y := G b.M b.R) (by omega) (by omega), G_comm b.M a.M]
   generalize S.cong_fits (G b.M b.R) (G a.M a.R) = p
   simp only [Bool.and_self, Bool.false_and, Bool.and_false, cond_false]
   cases (p.2 && decide (p.1 > G a.M b.M))
   ·simp only [cond_false]
   ·simp only [cond_true]
theorem Mul_comm' {a b : S.Cong} (ha : CR a) (hb : CR b) : S.cong_Mul a b = S.cong_Mul b a := by
 have h1 := cg_has 15 ha hb (wit_i64 ha) (wit_i64 hb) (wit_has ha) (wit_has hb)
 have h2 := cg_has 15 hb ha (wit_i64 hb) (wit_i64 ha) (wit_has hb) (wit_has ha)
 have e : E 15 (wit a) (wit b) = E 15 (wit b) (wit a) := by unfold E; simp only [show ¬ (15 : Int) = 13 by decide, show ¬ (15 : Int) = 14 by decide, if_false]; rw [Int.mul_comm]
 rw [← e, cg15] at h2
 rw [cg15] at h1
 exact same_of (Mul_M ha hb) h1 h2
theorem Mul_single {a : S.Cong} (ha : CR a) (hM : a.M ≠ 0) (n : Int) (h : I64 n) : S.cong_Mul (S.cong_Const n) a = S.cong_Cong_scaled a n := by
 have e : S.cong_Cong_number (S.cong_Const n) = n := by
  show IntKind.i64.wrap (IntKind.u64.wrap n) = n
  unfold I64 at h
  rw [IntKind.wrap_i64, IntKind.wrap_u64]; omega
 simp only [cong_Mul, single_b, e, const_M]
 rw [show (a.M == 0) = false from beq_eq_false_iff_ne.2 hM]; rfl
theorem Mul_one {a : S.Cong} (ha : CR a) : S.cong_Mul (S.cong_Const 1) a = a := by
 have h1 := cg_has 15 (const_CR (n := 1)) ha i1 (wit_i64 ha) const_has (wit_has ha)
 have e : E 15 1 (wit a) = wit a := by unfold E; simp only [show ¬ (15 : Int) = 13 by decide, show ¬ (15 : Int) = 14 by decide, if_false]; omega
 rw [e, cg15] at h1
 refine same_of ?_ h1 (wit_has ha)
 clear h1
 by_cases hM : a.M = 0
 ·simp only [cong_Mul, single_b, const_M, hM]; rfl
 ·rw [Mul_single ha hM 1 i1, scaled_M ha i1 (by decide)]
  have := (CR_M ha).1
  rw [if_neg (show ¬ (1 : Int) < 0 by decide), Int.mul_one, if_pos (by omega)]
theorem E15 (x y : Int) : E 15 x y = x * y := by unfold E; simp only [show ¬ (15 : Int) = 13 by decide, show ¬ (15 : Int) = 14 by decide, if_false]
theorem dar_comm {op : Int} (ho : op = 13 ∨ op = 15) {a b : S.Value} (ha : RV a) (hb : RV b) : dar op a b = dar op b a := by
 have hE : ∀ x y, E op x y = E op y x := fun x y => by
  rcases ho with rfl | rfl
  ·unfold E; rw [if_pos rfl, if_pos rfl, Int.add_comm]
  ·rw [E15, E15, Int.mul_comm]
 have hc : cg op a.C b.C = cg op b.C a.C := by
  unfold cg
  rcases ho with rfl | rfl
  ·rw [if_pos rfl, if_pos rfl]; exact Add_comm' ha.cr hb.cr
  ·simp only [show ¬ (15 : Int) = 13 by decide, show ¬ (15 : Int) = 14 by decide, if_false]; exact Mul_comm' ha.cr hb.cr
 obtain ⟨h1, h2⟩ := b_comm op a.I.Lo a.I.Hi b.I.Lo b.I.Hi ho
 have h1' : lo4 op a b = lo4 op b a := h1
 have h2' : hi4 op a b = hi4 op b a := h2
 unfold dar
 rw [hE a.I.Lo b.I.Lo, h1', h2', hc]
 by_cases e : a = bot ∨ b = bot
 ·rw [if_pos e, if_pos e.symm]
 ·rw [if_neg e, if_neg (show ¬ (b = bot ∨ a = bot) from fun h => e h.symm)]
  by_cases hs : a.I.Lo = a.I.Hi ∧ b.I.Lo = b.I.Hi
  ·rw [if_pos hs, if_pos (show b.I.Lo = b.I.Hi ∧ a.I.Lo = a.I.Hi from hs.symm)]
  ·rw [if_neg hs, if_neg (show ¬ (b.I.Lo = b.I.Hi ∧ a.I.Lo = a.I.Hi) from fun h => hs h.symm)]
theorem dar_mul1 {a : S.Value} (ha : RV a) : dar 15 (one 1) a = a := by
 by_cases hb : a = bot
 ·rw [hb]; exact dar_bot_r _ _
 ·have na := nb_of ha hb
  have hle := na.le
  have e1 : lo4 15 (one 1) a = a.I.Lo := by unfold lo4 blo; show min (min (E 15 1 a.I.Lo) (E 15 1 a.I.Hi)) (min (E 15 1 a.I.Lo) (E 15 1 a.I.Hi)) = _; rw [E15, E15]; omega
  have e2 : hi4 15 (one 1) a = a.I.Hi := by unfold hi4 bhi; show max (max (E 15 1 a.I.Lo) (E 15 1 a.I.Hi)) (max (E 15 1 a.I.Lo) (E 15 1 a.I.Hi)) = _; rw [E15, E15]; omega
  have ec : cg 15 (one 1).C a.C = a.C := Mul_one na.c
  obtain ⟨_, _, h⟩ := dar_ends (op := 15) (by unfold known; omega) (one_NB i1) na (by rw [e1, e2]; exact ⟨(rnd0 _).2 na.lo, (rnd0 _).2 na.hi⟩)
  rw [h, e1, e2, ec]
  by_cases hs : a.I.Lo = a.I.Hi
  ·rw [if_pos hs]; exact S.Value.ext (S.Inter.ext rfl hs) (na.one hs).symm
  ·rw [if_neg hs]
theorem dar_mul0 {a : S.Value} (na : NB a) : dar 15 a (one 0) = one 0 := by
 have e1 : lo4 15 a (one 0) = 0 := by unfold lo4 blo; show min (min (E 15 a.I.Lo 0) (E 15 a.I.Lo 0)) (min (E 15 a.I.Hi 0) (E 15 a.I.Hi 0)) = _; rw [E15, E15]; omega
 have e2 : hi4 15 a (one 0) = 0 := by unfold hi4 bhi; show max (max (E 15 a.I.Lo 0) (E 15 a.I.Lo 0)) (max (E 15 a.I.Hi 0) (E 15 a.I.Hi 0)) = _; rw [E15, E15]; omega
 obtain ⟨_, _, h⟩ := dar_ends (op := 15) (by unfold known; omega) na (one_NB i0) (by rw [e1, e2]; exact ⟨by decide, by decide⟩)
 rw [h, e1, e2]; exact if_pos rfl
def rr (lo hi : Int) : S.Value := ⟨⟨lo, hi⟩, ⟨1, 0⟩⟩
theorem has_one (n : Int) : has ⟨1, 0⟩ n = true := by rw [has_iff]; exact .inr ⟨by decide, by show n % 1 = 0; omega⟩
theorem rr_NB {lo hi : Int} (h : I64 lo) (h' : I64 hi) (hl : lo ≤ hi) (hne : lo ≠ hi) : NB (rr lo hi) :=
 ⟨h, h', hl, top_CR, has_one lo, has_one hi, fun e => absurd e hne⟩
theorem M1 {c : S.Cong} (hc : CR c) (h : c.M = 1) : c = ⟨1, 0⟩ := by
 have := CR_ranges hc
 exact S.Cong.ext h (by show c.R = 0; omega)
theorem rn {n : Int} (h : -9223372036854775808 ≤ n ∧ n ≤ 9223372036854775807) : I64 n := h
theorem cTop : CR (⟨1, 0⟩ : S.Cong) := top_CR
theorem dig18 (n : Nat) (h : 10 ≤ n) : Lib.decDigits n = Lib.decDigits (n / 10) ++ [UInt8.ofNat (48 + n % 10)] := dec_big (by omega)
theorem t805 : Lib.itoa (-9223372036854775805) = [45, 57, 50, 50, 51, 51, 55, 50, 48, 51, 54, 56, 53, 52, 55, 55, 53, 56, 48, 53] := by
 unfold Lib.itoa
 rw [if_pos (by decide)]
 show 45 :: Lib.decDigits 9223372036854775805 = _
 iterate 18 rw [dig18 _ (by decide)]
 rw [dec_small (by decide)]; rfl
theorem t804 : Lib.itoa (-9223372036854775804) = [45, 57, 50, 50, 51, 51, 55, 50, 48, 51, 54, 56, 53, 52, 55, 55, 53, 56, 48, 52] := by
 unfold Lib.itoa
 rw [if_pos (by decide)]
 show 45 :: Lib.decDigits 9223372036854775804 = _
 iterate 18 rw [dig18 _ (by decide)]
 rw [dec_small (by decide)]; rfl
theorem tm8 : Lib.itoa (-8) = [45, 56] := by
 unfold Lib.itoa
 rw [if_pos (by decide)]
 show 45 :: Lib.decDigits 8 = _
 rw [dec_small (by decide)]; rfl
theorem t15 : Lib.itoa 15 = [49, 53] := by
 unfold Lib.itoa
 rw [if_neg (by decide)]
 show Lib.decDigits 15 = _
 rw [dig18 _ (by decide), dec_small (by decide)]; rfl
theorem t12 : Lib.itoa 12 = [49, 50] := by
 unfold Lib.itoa
 rw [if_neg (by decide)]
 show Lib.decDigits 12 = _
 rw [dig18 _ (by decide), dec_small (by decide)]; rfl
theorem works22 : S.law22_works_pre ∧ S.law22_works = true := by
 have k13 : known 13 := .inl rfl
 have k14 : known 14 := .inr (.inl rfl)
 have k15 : known 15 := .inr (.inr rfl)
 have c20 : CR ⟨2, 0⟩ := ⟨by rw [ok_iff]; decide, by decide⟩
 have c41 : CR ⟨4, 1⟩ := ⟨by rw [ok_iff]; decide, by decide⟩
 have c21 : CR ⟨2, 1⟩ := ⟨by rw [ok_iff]; decide, by decide⟩
 have c40 : CR ⟨4, 0⟩ := ⟨by rw [ok_iff]; decide, by decide⟩
 have ma : S.value_Make ⟨0, 6⟩ (S.cong_Make 2 0) = ⟨⟨0, 6⟩, ⟨2, 0⟩⟩ := by decide
 have mb : S.value_Make ⟨1, 9⟩ (S.cong_Make 4 1) = ⟨⟨1, 9⟩, ⟨4, 1⟩⟩ := by decide
 have na : NB ⟨⟨0, 6⟩, ⟨2, 0⟩⟩ := ⟨by unfold I64; decide, by unfold I64; decide, by decide, c20, by decide, by decide, by decide⟩
 have nb : NB ⟨⟨1, 9⟩, ⟨4, 1⟩⟩ := ⟨by unfold I64; decide, by unfold I64; decide, by decide, c41, by decide, by decide, by decide⟩
 have n5 : NB ⟨⟨1, 15⟩, ⟨2, 1⟩⟩ := ⟨by unfold I64; decide, by unfold I64; decide, by decide, c21, by decide, by decide, by decide⟩
 have n10 : NB ⟨⟨-8, 12⟩, ⟨4, 0⟩⟩ := ⟨by unfold I64; decide, by unfold I64; decide, by decide, c40, by decide, by decide, by decide⟩
 have i4 : I64 4 := rn (by decide)
 have i5 : I64 5 := rn (by decide)
 have nm := rr_NB (lo := -2) (hi := 3) (rn (by decide)) (rn (by decide)) (by decide) (by decide)
 have nM := rr_NB (lo := 9223372036854775806) (hi := 9223372036854775807) (rn (by decide)) (rn (by decide)) (by decide) (by decide)
 have n0M := rr_NB (lo := 0) (hi := 9223372036854775807) (rn (by decide)) (rn (by decide)) (by decide) (by decide)
 have n12 := rr_NB (lo := 1) (hi := 2) (rn (by decide)) (rn (by decide)) (by decide) (by decide)
 have nL := rr_NB (lo := -9223372036854775808) (hi := 0) (rn (by decide)) (rn (by decide)) (by decide) (by decide)
 have n17 := rr_NB (lo := -9223372036854775805) (hi := -9223372036854775804) (rn (by decide)) (rn (by decide)) (by decide) (by decide)
 have g1 : S.value_Range (-2) 3 = rr (-2) 3 := by decide
 have g2 : S.value_Range 9223372036854775806 9223372036854775807 = rr 9223372036854775806 9223372036854775807 := by decide
 have g3 : S.value_Range 0 9223372036854775807 = rr 0 9223372036854775807 := by decide
 have g4 : S.value_Range 1 2 = rr 1 2 := by decide
 have g5 : S.value_Range (-9223372036854775808) 0 = rr (-9223372036854775808) 0 := by decide
 have w14 : IntKind.i64.wrap (9223372036854775807 - 1) = 9223372036854775806 := by decide
 have wr1 : S.cong_Cong_Wrapped ⟨1, 0⟩ = ⟨1, 0⟩ := by decide
 have mw : S.value_Make S.inter_Whole ⟨1, 0⟩ = top := by decide
 obtain ⟨d5, p5⟩ := arDo (op := 13) (RV.ok (.inr na)) (RV.ok (.inr nb))
 rw [red_of (.inr na), red_of (.inr nb)] at d5
 have q5 : cg 13 (⟨2, 0⟩ : S.Cong) ⟨4, 1⟩ = ⟨2, 1⟩ := by
  have h := cg_has 13 c20 c41 i0 i1 (by decide) (by decide)
  exact same_of (Add_M c20 c41) h (by decide)
 obtain ⟨_, _, f5⟩ := dar_ends k13 na nb ⟨by decide, by decide⟩
 rw [show lo4 13 (⟨⟨0, 6⟩, ⟨2, 0⟩⟩ : S.Value) ⟨⟨1, 9⟩, ⟨4, 1⟩⟩ = 1 by decide, show hi4 13 (⟨⟨0, 6⟩, ⟨2, 0⟩⟩ : S.Value) ⟨⟨1, 9⟩, ⟨4, 1⟩⟩ = 15 by decide, if_neg (by decide), q5] at f5
 rw [f5] at d5
 obtain ⟨d10, p10⟩ := arDo (op := 15) (RV.ok (.inr nm)) (one_rv i4).ok
 rw [red_of (.inr nm), red_of (one_rv i4)] at d10
 have q10 : cg 15 (rr (-2) 3).C (one 4).C = ⟨4, 0⟩ := by
  have h := cg_has 15 cTop (const_CR (n := 4)) i0 i4 (has_one 0) const_has
  have e : cg 15 (rr (-2) 3).C (one 4).C = S.cong_Mul (S.cong_Const 4) ⟨1, 0⟩ := (cg15 _ _).trans (Mul_comm' (a := ⟨1, 0⟩) (b := S.cong_Const 4) cTop const_CR)
  refine same_of ?_ h (by decide)
  rw [e, Mul_single cTop (by decide) 4 i4, scaled_M cTop i4 (by decide)]; rfl
 obtain ⟨_, _, f10⟩ := dar_ends k15 nm (one_NB i4) ⟨by decide, by decide⟩
 rw [show lo4 15 (rr (-2) 3) (one 4) = -8 by decide, show hi4 15 (rr (-2) 3) (one 4) = 12 by decide, if_neg (by decide), q10] at f10
 rw [f10] at d10
 obtain ⟨d17, p17⟩ := arDo (op := 13) (RV.ok (.inr nM)) (one_rv i5).ok
 rw [red_of (.inr nM), red_of (one_rv i5)] at d17
 have q17 : cg 13 (rr 9223372036854775806 9223372036854775807).C (one 5).C = ⟨1, 0⟩ := by
  refine M1 (cg_CR 13 cTop const_CR) ?_
  show (S.cong_Add ⟨1, 0⟩ (S.cong_Const 5)).M = 1
  rw [Add_M cTop const_CR]; rfl
 have f17 : dar 13 (rr 9223372036854775806 9223372036854775807) (one 5) = rr (-9223372036854775805) (-9223372036854775804) := by
  unfold dar
  rw [if_neg (not_or.2 ⟨nM.ne, one_ne i5⟩), if_neg (not_not_intro k13), if_neg (by decide), if_neg (by decide), if_pos (by decide), q17, wr1]
  rw [show IntKind.i64.wrap (lo4 13 (rr 9223372036854775806 9223372036854775807) (one 5)) = -9223372036854775805 by decide, show IntKind.i64.wrap (hi4 13 (rr 9223372036854775806 9223372036854775807) (one 5)) = -9223372036854775804 by decide]
  rw [Make_ends (lo := -9223372036854775805) (hi := -9223372036854775804) n17.lo n17.hi (by decide) cTop (has_one _) (has_one _), if_neg (by decide)]; rfl
 rw [f17] at d17
 obtain ⟨d23, p23⟩ := arDo (op := 13) (RV.ok (.inr n0M)) (RV.ok (.inr n12))
 rw [red_of (.inr n0M), red_of (.inr n12)] at d23
 have f23 : dar 13 (rr 0 9223372036854775807) (rr 1 2) = top := by
  unfold dar
  rw [if_neg (not_or.2 ⟨n0M.ne, n12.ne⟩), if_neg (not_not_intro k13), if_neg (by decide), if_pos (by decide)]
  have : cg 13 (rr 0 9223372036854775807).C (rr 1 2).C = ⟨1, 0⟩ := M1 (cg_CR 13 cTop cTop) (by
   show (S.cong_Add ⟨1, 0⟩ ⟨1, 0⟩).M = 1
   rw [Add_M cTop cTop]; rfl)
  rw [this, wr1, mw]
 rw [f23] at d23
 obtain ⟨d28, p28⟩ := arNeg (RV.ok (.inr nL))
 rw [red_of (.inr nL)] at d28
 have f28 : dar 14 (one 0) (rr (-9223372036854775808) 0) = top := by
  unfold dar
  rw [if_neg (not_or.2 ⟨one_ne i0, nL.ne⟩), if_neg (not_not_intro k14), if_neg (by decide), if_pos (by decide)]
  have : cg 14 (one 0).C (rr (-9223372036854775808) 0).C = ⟨1, 0⟩ := M1 (cg_CR 14 const_CR cTop) (by
   show (S.cong_Sub (S.cong_Const 0) ⟨1, 0⟩).M = 1
   rw [Sub_M const_CR cTop]; rfl)
  rw [this, wr1, mw]
 rw [f28] at d28
 have x5 := Text_val (.inr n5) n5.ne (by decide)
 have x10 := Text_val (.inr n10) n10.ne (by decide)
 have x17 := Text_val (.inr n17) n17.ne (by decide)
 have w1 : Lib.itoa 1 = [49] := itoa_d (n := 1) (by decide)
 have m2 : Lib.decDigits 2 = [50] := by rw [dec_small (by decide)]; rfl
 have m1 : Lib.decDigits 1 = [49] := by rw [dec_small (by decide)]; rfl
 have m4 : Lib.decDigits 4 = [52] := by rw [dec_small (by decide)]; rfl
 have m0 : Lib.decDigits 0 = [48] := by rw [dec_small (by decide)]; rfl
 rw [show ((⟨⟨1, 15⟩, ⟨2, 1⟩⟩ : S.Value).I.Lo) = 1 from rfl, show ((⟨⟨1, 15⟩, ⟨2, 1⟩⟩ : S.Value).I.Hi) = 15 from rfl, w1, t15, if_pos (by decide), show Int.toNat ((⟨⟨1, 15⟩, ⟨2, 1⟩⟩ : S.Value).C.R) = 1 from rfl, show Int.toNat ((⟨⟨1, 15⟩, ⟨2, 1⟩⟩ : S.Value).C.M) = 2 from rfl, m1, m2] at x5
 rw [show ((⟨⟨-8, 12⟩, ⟨4, 0⟩⟩ : S.Value).I.Lo) = -8 from rfl, show ((⟨⟨-8, 12⟩, ⟨4, 0⟩⟩ : S.Value).I.Hi) = 12 from rfl, tm8, t12, if_pos (by decide), show Int.toNat ((⟨⟨-8, 12⟩, ⟨4, 0⟩⟩ : S.Value).C.R) = 0 from rfl, show Int.toNat ((⟨⟨-8, 12⟩, ⟨4, 0⟩⟩ : S.Value).C.M) = 4 from rfl, m0, m4] at x10
 rw [show ((rr (-9223372036854775805) (-9223372036854775804)).I.Lo) = -9223372036854775805 from rfl, show ((rr (-9223372036854775805) (-9223372036854775804)).I.Hi) = -9223372036854775804 from rfl, t805, t804, if_neg (by decide)] at x17
 have p := fun {lo hi : Int} (h : I64 lo) (h' : I64 hi) => (Range_pre' lo hi h h').1
 refine ⟨?_, ?_⟩
 ·simp only [law22_works_pre, ma, mb, one_eq, g1, g2, g3, g4, g5, w14, d5, d10, d17, d23, All, and_true]
  exact ⟨Make_pre _ _, Make_pre' ⟨i0, rn (by decide)⟩ ⟨by rw [ok_iff]; decide, by decide⟩, Make_pre _ _, Make_pre' ⟨i1, rn (by decide)⟩ ⟨by rw [ok_iff]; decide, by decide⟩, p5, Text_ok (RV.ok (.inr n5)), fun _ => p (rn (by decide)) (rn (by decide)), fun _ => p10, fun _ => Text_ok (RV.ok (.inr n10)), fun _ => p (rn (by decide)) (rn (by decide)), fun _ => p17, fun _ => Text_ok (RV.ok (.inr n17)), fun _ => p (rn (by decide)) (rn (by decide)), fun _ => p (rn (by decide)) (rn (by decide)), fun _ => p23, fun _ => p (rn (by decide)) (rn (by decide)), fun _ => p28⟩
 ·simp only [law22_works, ma, mb, one_eq, g1, g2, g3, g4, g5, w14, d5, d10, d17, d23, d28, x5, x10, x17, top_eq, eqv, ba_eq]
  simp
end SV
