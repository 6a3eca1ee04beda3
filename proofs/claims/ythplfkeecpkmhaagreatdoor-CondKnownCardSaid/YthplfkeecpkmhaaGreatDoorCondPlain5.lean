/-
  The chapter's examples, and the statement CondTells.
-/
import Derived.Test.YthplfkeecpkmhaaGreatDoorCondPlain4
set_option linter.all false
open Go Vm
namespace SV
open S SC
open SD (ba ba_app ba_size dec_small dec_big)

def rr (lo hi : Int) : S.Value := ⟨⟨lo, hi⟩, ⟨1, 0⟩⟩
theorem rr_NB {lo hi : Int} (h : I64 lo) (h' : I64 hi) (hl : lo ≤ hi) (hne : lo ≠ hi) : NB (rr lo hi) :=
  ⟨h, h', hl, top_CR, has_val' 0 lo, has_val' 0 hi, fun e => absurd e hne⟩
where has_val' : ∀ (r n : Int), has ⟨1, 0⟩ n = true := fun _ n => by rw [has_iff]; exact .inr ⟨by decide, by show n % 1 = 0 % 1; omega⟩

theorem Text_one {n : Int} (h : I64 n) : S.value_Value_Text (one n) = ba (Lib.itoa n) := by
  have hr := one_rv h
  have rv : S.value_Value_reduced (one n) = one n := red_of hr
  obtain ⟨s1, _⟩ := Single_eq hr.ok
  rw [red_of hr, if_pos (show (one n).I.Lo = (one n).I.Hi from rfl)] at s1
  obtain ⟨_, a2⟩ := fmtI_eq _ h
  have hb : S.value_Value_IsBottom (one n) = false := by rw [isBot_rv hr]; exact decide_eq_false (one_ne h)
  simp only [value_Value_Text, rv, hb, s1, cond_false, cond_true]
  exact a2

theorem rf_val {op : Int} {a b x y : S.Value} {t : Bool} (h : ¬ never op a b t) (e : lfs op a b t = (x, y)) (hx : x ≠ bot) (hy : y ≠ bot) : rf op a b t = (x, y) := by
  unfold rf
  rw [e, if_neg (not_or.2 ⟨h, not_or.2 ⟨hx, hy⟩⟩)]

theorem odd_even : S.value_Make S.inter_Whole (S.cong_Make 2 1) = ⟨⟨-9223372036854775807, 9223372036854775807⟩, ⟨2, 1⟩⟩ ∧ S.value_Make S.inter_Whole (S.cong_Make 2 0) = ⟨⟨-9223372036854775808, 9223372036854775806⟩, ⟨2, 0⟩⟩ := by
  constructor <;> decide

theorem meet_oe : S.cong_Meet ⟨2, 1⟩ ⟨2, 0⟩ = (⟨0, 0⟩, false) := by
  simp (disch := decide +kernel) only [cong_Meet, SC.gcd_eq]; decide +kernel

theorem works24 : S.law24_works_pre ∧ S.law24_works = true := by
  have n01 := rr_NB (lo := 0) (hi := 1) (by unfold I64; decide) (by unfold I64; decide) (by decide) (by decide)
  have n09 := rr_NB (lo := 0) (hi := 9) (by unfold I64; decide) (by unfold I64; decide) (by decide) (by decide)
  have n25 := rr_NB (lo := 2) (hi := 5) (by unfold I64; decide) (by unfold I64; decide) (by decide) (by decide)
  have n04 := rr_NB (lo := 0) (hi := 4) (by unfold I64; decide) (by unfold I64; decide) (by decide) (by decide)
  have n29 := rr_NB (lo := 2) (hi := 9) (by unfold I64; decide) (by unfold I64; decide) (by decide) (by decide)
  have n03 := rr_NB (lo := 0) (hi := 3) (by unfold I64; decide) (by unfold I64; decide) (by decide) (by decide)
  have n39 := rr_NB (lo := 3) (hi := 9) (by unfold I64; decide) (by unfold I64; decide) (by decide) (by decide)
  have nm3 := rr_NB (lo := -1) (hi := 3) (by unfold I64; decide) (by unfold I64; decide) (by decide) (by decide)
  have i4 : I64 4 := by unfold I64; decide
  have g09 : S.value_Range 0 9 = rr 0 9 := by decide
  have g25 : S.value_Range 2 5 = rr 2 5 := by decide
  have g04 : S.value_Range 0 4 = rr 0 4 := by decide
  have g03 : S.value_Range 0 3 = rr 0 3 := by decide
  have g39 : S.value_Range 3 9 = rr 3 9 := by decide
  have gm3 : S.value_Range (-1) 3 = rr (-1) 3 := by decide
  obtain ⟨ro, re⟩ := odd_even
  have co : CR (S.cong_Make 2 1) := ⟨by rw [ok_iff]; decide, by decide⟩
  have ce : CR (S.cong_Make 2 0) := ⟨by rw [ok_iff]; decide, by decide⟩
  have iw : IR S.inter_Whole := ⟨imin, imax⟩
  have vo : RV (⟨⟨-9223372036854775807, 9223372036854775807⟩, ⟨2, 1⟩⟩ : S.Value) := ro ▸ Make_rv iw co
  have ve : RV (⟨⟨-9223372036854775808, 9223372036854775806⟩, ⟨2, 0⟩⟩ : S.Value) := re ▸ Make_rv iw ce
  -- what the operators tell
  obtain ⟨d1, d2⟩ := Do_eq 4 (RV.ok (.inr n03)) (RV.ok (.inr n39))
  rw [red_of (.inr n03), red_of (.inr n39)] at d1
  have d1' : dv 4 (rr 0 3) (rr 3 9) = rr 0 1 := by
    unfold dv
    rw [if_neg (by rintro (h | h); exact n03.ne h; exact n39.ne h), if_neg (by decide)]
    rfl
  rw [d1'] at d1
  obtain ⟨e1, e2⟩ := Do_eq 2 vo.ok ve.ok
  rw [red_of vo, red_of ve] at e1
  have e1' : dv 2 (⟨⟨-9223372036854775807, 9223372036854775807⟩, ⟨2, 1⟩⟩ : S.Value) (⟨⟨-9223372036854775808, 9223372036854775806⟩, ⟨2, 0⟩⟩ : S.Value) = one 0 := by
    unfold dv
    rw [if_neg (by decide), if_neg (by decide)]
    have : al (⟨⟨-9223372036854775807, 9223372036854775807⟩, ⟨2, 1⟩⟩ : S.Value) (⟨⟨-9223372036854775808, 9223372036854775806⟩, ⟨2, 0⟩⟩ : S.Value) = (bot, bot) := by
      unfold al
      rw [show (S.cong_Meet _ _) = ((⟨0, 0⟩ : S.Cong), false) from meet_oe]
      exact if_neg (by decide)
    have ht : tl 2 (⟨⟨-9223372036854775807, 9223372036854775807⟩, ⟨2, 1⟩⟩ : S.Value) (⟨⟨-9223372036854775808, 9223372036854775806⟩, ⟨2, 0⟩⟩ : S.Value) = (false, true) := by
      simp [tl, this]
    rw [ht]; rfl
  rw [e1'] at e1
  -- what is left
  obtain ⟨f1, f2⟩ := Refine_eq 4 (RV.ok (.inr n09)) (RV.ok (.inr n25)) true
  rw [red_of (.inr n09), red_of (.inr n25)] at f1
  have b1 : be (rr 0 9) 5 = rr 0 4 := by unfold be up; decide
  have b2 : ab (rr 2 5) 0 = rr 2 5 := by unfold ab fr; decide
  rw [rf_val (x := rr 0 4) (y := rr 2 5) (fun h => h.elim (fun h => n09.ne h) fun h => h.elim (fun h => n25.ne h) fun h => absurd h.2 (by simp [tl, rr]))
    (by show (be (rr 0 9) 5, ab (rr 2 5) 0) = _; rw [b1, b2]) n04.ne n25.ne] at f1
  obtain ⟨h1, h2⟩ := Refine_eq 4 (RV.ok (.inr n09)) (RV.ok (.inr n25)) false
  rw [red_of (.inr n09), red_of (.inr n25)] at h1
  have c1 : fr (rr 0 9) 2 = rr 2 9 := by unfold fr; decide
  have c2 : up (rr 2 5) 9 = rr 2 5 := by unfold up; decide
  rw [rf_val (x := rr 2 9) (y := rr 2 5) (fun h => h.elim (fun h => n09.ne h) fun h => h.elim (fun h => n25.ne h) fun h => absurd h.2 (by simp [tl, rr]))
    (by show (fr (rr 0 9) 2, up (rr 2 5) 9) = _; rw [c1, c2]) n29.ne n25.ne] at h1
  obtain ⟨k1, k2⟩ := Refine_eq 3 (RV.ok (.inr n04)) (one_rv i4).ok true
  rw [red_of (.inr n04), red_of (one_rv i4)] at k1
  have m1 : wo (rr 0 4) 4 = rr 0 3 := by unfold wo ab be up fr; decide
  rw [rf_val (x := rr 0 3) (y := one 4) (fun h => h.elim (fun h => n04.ne h) fun h => h.elim (fun h => one_ne i4 h) fun h => absurd h.2 (by simp [tl, rr, one]))
    (by show (wo (rr 0 4) 4, one 4) = _; rw [m1]) n03.ne (one_ne i4)] at k1
  obtain ⟨o1, o2, _⟩ := Only_all (RV.ok (.inr nm3)) true
  rw [red_of (.inr nm3)] at o1
  have o1' : on (rr (-1) 3) true = rr (-1) 3 := by
    show wo (rr (-1) 3) 0 = _
    unfold wo ab be up fr; decide
  rw [o1'] at o1
  have tx : ∀ {lo hi : Int} (h : NB (rr lo hi)), lo ≠ hi → S.value_Value_Text (rr lo hi) = ba ([91] ++ Lib.itoa lo ++ [44, 32] ++ Lib.itoa hi ++ [93]) := fun {lo hi} h hne => by
    rw [Text_val (.inr h) h.ne hne, if_neg (show ¬ (rr lo hi).C.M > 1 by show ¬ (1 : Int) > 1; decide), List.append_nil]; rfl
  have w0 : Lib.itoa 0 = [48] := itoa_d (n := 0) (by decide)
  have w1 : Lib.itoa 1 = [49] := itoa_d (n := 1) (by decide)
  have w2 : Lib.itoa 2 = [50] := itoa_d (n := 2) (by decide)
  have w3 : Lib.itoa 3 = [51] := itoa_d (n := 3) (by decide)
  have w4 : Lib.itoa 4 = [52] := itoa_d (n := 4) (by decide)
  have w5 : Lib.itoa 5 = [53] := itoa_d (n := 5) (by decide)
  have w9 : Lib.itoa 9 = [57] := itoa_d (n := 9) (by decide)
  have wm : Lib.itoa (-1) = [45, 49] := by
    unfold Lib.itoa
    rw [if_pos (by decide)]
    show 45 :: Lib.decDigits 1 = _
    rw [dec_small (by decide)]; rfl
  have t01 := tx n01 (by decide)
  have t04 := tx n04 (by decide)
  have t25 := tx n25 (by decide)
  have t29 := tx n29 (by decide)
  have t03 := tx n03 (by decide)
  have tm3 := tx nm3 (by decide)
  have t4 := Text_one i4
  have t0 := Text_one i0
  rw [w0, w1] at t01
  rw [w0, w4] at t04
  rw [w2, w5] at t25
  rw [w2, w9] at t29
  rw [w0, w3] at t03
  rw [wm, w3] at tm3
  rw [w4] at t4
  rw [w0] at t0
  have p := fun {lo hi : Int} (h : I64 lo) (h' : I64 hi) => (Range_pre' lo hi h h').1
  refine ⟨?_, ?_⟩
  · simp only [law24_works_pre, one_eq, g09, g25, g04, g03, g39, gm3, ro, re, d1, e1, f1, h1, k1, o1, All, and_true]
    exact ⟨p (by unfold I64; decide) (by unfold I64; decide), p (by unfold I64; decide) (by unfold I64; decide), f2, p (by unfold I64; decide) (by unfold I64; decide), p (by unfold I64; decide) (by unfold I64; decide), h2, p (by unfold I64; decide) (by unfold I64; decide), k2, Make_pre _ _, Make_pre' iw co, Make_pre _ _, Make_pre' iw ce, p (by unfold I64; decide) (by unfold I64; decide), p (by unfold I64; decide) (by unfold I64; decide), d2, (Text_eq (RV.ok (.inr n01))).1, fun _ => e2, fun _ => (Text_eq (one_rv i0).ok).1, fun _ => (Text_eq (RV.ok (.inr n04))).1, fun _ => (Text_eq (RV.ok (.inr n25))).1, fun _ => (Text_eq (RV.ok (.inr n29))).1, fun _ => (Text_eq (RV.ok (.inr n25))).1, fun _ => (Text_eq (RV.ok (.inr n03))).1, fun _ => (Text_eq (one_rv i4).ok).1, fun _ => p (by unfold I64; decide) (by unfold I64; decide), fun _ => o2, fun _ => (Text_eq (RV.ok (.inr nm3))).1⟩
  · simp only [law24_works, one_eq, g09, g25, g04, g03, g39, gm3, ro, re, d1, e1, f1, h1, k1, o1, t01, t04, t25, t29, t03, tm3, t4, t0, ba_eq]
    simp

theorem CondTells_law (op : Int) (a b : S.Value) (truth : Bool) (n : Int) (_ho : inr .i64 op) (ha : S.Value.ok a) (hb : S.Value.ok b) (_ht : True) (hn : inr .i64 n) : S.law24_CondTells_pre op a b truth n ∧ S.law24_CondTells op a b truth n = true := by
  have ha' := (ok_iff' a).1 ha
  have hb' := (ok_iff' b).1 hb
  have hn' : I64 n := by rw [inr_i64] at hn; exact hn
  obtain ⟨r1, r2⟩ := Refine_eq op ha' hb' truth
  obtain ⟨s1, s2⟩ := rRefine_eq op ha' hb' truth
  obtain ⟨t1, t2⟩ := Truth_eq ha'
  obtain ⟨p1, p2⟩ := rPlain ha'
  obtain ⟨u1, u2⟩ := rTruth_eq (red_rv ha')
  obtain ⟨d1, d2⟩ := Do_eq op ha' hb'
  obtain ⟨e1, e2⟩ := rDo_eq op ha' hb'
  obtain ⟨w1, w2, w3, w4⟩ := Without_all ha' hn'
  obtain ⟨o1, o2, o3, o4⟩ := Only_all ha' truth
  refine ⟨?_, ?_⟩
  · simp only [law24_CondTells_pre, docs_Value, p1, All, and_true]
    exact ⟨r2, s2, t2, p2, u2, d2, e2, fun _ => w2, fun _ => w4, fun _ => o2, fun _ => o4, fun _ => works24.1⟩
  · simp only [law24_CondTells, docs_Value, p1, r1, s1, t1, u1, d1, e1, w1, w3, o1, o3, works24.2, beq_self_eq_true, Bool.and_self]
end SV
