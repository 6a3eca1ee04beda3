/-
  The laws ValueTells and ValueJoins, in plain words.
-/
import Derived.Test.YthplfkeecpkmhaaGreatDoorValTell
set_option linter.all false
open Go Vm
namespace SV
open S SC
open SD (ba ba_app ba_size dec_small dec_big)

theorem Text_val {v : S.Value} (hr : RV v) (hn : v ≠ bot) (hs : v.I.Lo ≠ v.I.Hi) : S.value_Value_Text v = ba ([91] ++ Lib.itoa v.I.Lo ++ [44, 32] ++ Lib.itoa v.I.Hi ++ [93] ++ (if v.C.M > 1 then [32] ++ Lib.decDigits v.C.R.toNat ++ [32, 109, 111, 100, 32] ++ Lib.decDigits v.C.M.toNat else [])) := by
  have h := hr.ok
  have rr := red_of hr
  have rv : S.value_Value_reduced v = v := rr
  obtain ⟨s1, _⟩ := Single_eq h
  rw [rr] at s1
  have hb : S.value_Value_IsBottom v = false := by rw [isBot, rr]; exact decide_eq_false hn
  have hi := hr.ir
  have rg := CR_ranges hr.cr
  obtain ⟨_, a2⟩ := fmtI_eq _ hi.1
  obtain ⟨_, b2⟩ := fmtI_eq _ hi.2
  obtain ⟨_, c2⟩ := fmtU_eq _ ⟨rg.2.1, rg.2.2.2.2⟩
  obtain ⟨_, d2⟩ := fmtU_eq _ ⟨rg.1, rg.2.2.2.1⟩
  have e1 : (⟨#[91]⟩ : ByteArray) = ba [91] := rfl
  have e2 : (⟨#[44, 32]⟩ : ByteArray) = ba [44, 32] := rfl
  have e3 : (⟨#[93]⟩ : ByteArray) = ba [93] := rfl
  have e4 : (⟨#[32]⟩ : ByteArray) = ba [32] := rfl
  have e5 : (⟨#[32, 109, 111, 100, 32]⟩ : ByteArray) = ba [32, 109, 111, 100, 32] := rfl
  simp only [value_Value_Text, rv, hb, s1, if_neg hs, a2, b2, c2, d2, e1, e2, e3, e4, e5, ba_app, cond_false]
  by_cases hM : v.C.M > 1
  · rw [decide_eq_true hM, cond_true, if_pos hM]
  · rw [decide_eq_false hM, cond_false, if_neg hM, List.append_nil]

theorem itoa_d {n : Nat} (h : n < 10) : Lib.itoa (n : Int) = [UInt8.ofNat (48 + n)] := by
  unfold Lib.itoa
  rw [if_neg (by omega), Int.toNat_natCast, dec_small h]

theorem Text_bot : S.value_Value_Text bot = (⟨#[110, 111, 110, 101]⟩ : ByteArray) := by
  have hb : S.value_Value_IsBottom (S.value_Value_reduced bot) = true := by
    rw [isBot]
    exact decide_eq_true (by rw [show S.value_Value_reduced bot = red bot from rfl, red_of (.inl rfl), red_of (.inl rfl)])
  simp only [value_Value_Text, hb, cond_true]

theorem IsBot_bot : S.value_Value_IsBottom bot = true := by rw [isBot, red_of (.inl rfl)]; simp

def wa : S.Value := ⟨⟨4, 8⟩, ⟨4, 0⟩⟩
def wj : S.Value := ⟨⟨2, 8⟩, ⟨6, 2⟩⟩
theorem i64c {n : Int} (h : -9223372036854775808 ≤ n ∧ n ≤ 9223372036854775807) : I64 n := h
theorem wa_NB : NB wa := ⟨by unfold I64; decide, by unfold I64; decide, by decide, ⟨by rw [ok_iff]; decide, by decide⟩, by decide, by decide, by decide⟩
theorem wj_NB : NB wj := ⟨by unfold I64; decide, by unfold I64; decide, by decide, ⟨by rw [ok_iff]; decide, by decide⟩, by decide, by decide, by decide⟩
theorem mk_a : S.value_Make (S.inter_Of 1 10) (S.cong_Make 4 0) = wa := by decide
theorem mk_b : S.value_Make (S.inter_Of 5 7) (S.cong_Make 4 0) = bot := by decide
theorem rg39 : S.value_Range 3 9 = ⟨⟨3, 9⟩, ⟨1, 0⟩⟩ := by decide
theorem rg09 : S.value_Range 0 9 = ⟨⟨0, 9⟩, ⟨1, 0⟩⟩ := by decide

theorem join28 : J (one 2) (one 8) = wj := by
  have h2 : RV (one 2) := .inr (one_NB (by unfold I64; decide))
  have h8 : RV (one 8) := .inr (one_NB (by unfold I64; decide))
  unfold J
  rw [if_neg (one_NB (by unfold I64; decide)).ne, if_neg (one_NB (by unfold I64; decide)).ne]
  have hj : S.cong_Join (one 2).C (one 8).C = ⟨6, 2⟩ := by
    rw [(Join_val (one 2).C (one 8).C h2.cr.1 h8.cr.1 (by decide)).1 (by decide)]
    decide
  rw [hj]
  decide

theorem meet_top {c : S.Cong} (hc : CR c) (hM : c.M ≠ 0) : S.cong_Meet c ⟨1, 0⟩ = (c, true) := by
  have hw := wit_i64 hc
  obtain ⟨m1, _⟩ := Meet_has c ⟨1, 0⟩ hc.1 top_CR.1 _ hw (wit_has hc) (top_has _)
  have hw2 : S.cong_Within c ⟨1, 0⟩ = true := le_top hc
  revert m1
  simp only [cong_Meet, cong_Cong_single, cong_Cong_if1, hw2, show (c.M == 0) = false from beq_eq_false_iff_ne.2 hM, show ((1 : Int) == 0) = false from rfl, cond_false, Bool.true_or, cond_true]
  generalize (S.cong_Cong_by c (S.cong_gcd c.M 1) != S.cong_Cong_by ⟨1, 0⟩ (S.cong_gcd c.M 1)) = p
  cases p <;> simp

theorem meet38 : M wj ⟨⟨3, 9⟩, ⟨1, 0⟩⟩ = one 8 := by
  unfold M
  rw [meet_top wj_NB.c (by decide)]
  decide

theorem r39_NB : NB ⟨⟨3, 9⟩, ⟨1, 0⟩⟩ := ⟨by unfold I64; decide, by unfold I64; decide, by decide, top_CR, by decide, by decide, by decide⟩
theorem r09_NB : NB ⟨⟨0, 9⟩, ⟨1, 0⟩⟩ := ⟨by unfold I64; decide, by unfold I64; decide, by decide, top_CR, by decide, by decide, by decide⟩

theorem Range_pre' (lo hi : Int) (h : I64 lo) (h' : I64 hi) : S.value_Range_pre lo hi ∧ VOK (S.value_Range lo hi) ∧ red (S.value_Range lo hi) = red ⟨⟨lo, hi⟩, ⟨1, 0⟩⟩ := by
  have e : S.inter_Of lo hi = S.ref19_Plain ⟨lo, hi⟩ := SI.Of_eq lo hi
  have hi1 : IR (S.inter_Of lo hi) := by
    rw [e, SI.Plain_def]
    by_cases hh : (⟨lo, hi⟩ : S.Inter).Lo > (⟨lo, hi⟩ : S.Inter).Hi
    · rw [if_pos hh]; exact ⟨by unfold I64; decide, by unfold I64; decide⟩
    · rw [if_neg hh]; exact ⟨h, h'⟩
  have hv : VOK ⟨⟨lo, hi⟩, ⟨1, 0⟩⟩ := ⟨⟨h, h'⟩, top_CR.1⟩
  have hm := Make_red hi1 top_CR
  have hrv := hm.rv top_CR
  have ev : S.value_Range lo hi = S.value_Make (S.inter_Of lo hi) S.cong_Top := rfl
  refine ⟨?_, by rw [ev]; exact hrv.ok, ?_⟩
  · simp only [value_Range_pre, All, and_true]; exact Make_pre' hi1 top_CR
  · rw [ev, red_of hrv]
    have h2 := red_made hv
    rw [show rc (⟨⟨lo, hi⟩, ⟨1, 0⟩⟩ : S.Value).C = ⟨1, 0⟩ from rc_of top_CR] at h2
    rw [e, SI.Plain_def] at hm ⊢
    by_cases hh : (⟨lo, hi⟩ : S.Inter).Lo > (⟨lo, hi⟩ : S.Inter).Hi
    · rw [if_pos hh] at hm ⊢
      have : S.value_Make ⟨1, 0⟩ S.cong_Top = bot := hm.unique (.no fun n _ h => by have := h.1; have := h.2.1; simp at *; omega)
      rw [this]
      exact (Made.no fun n _ h => by have := h.1; have := h.2.1; simp at *; omega).unique h2
    · rw [if_neg hh] at hm ⊢
      exact hm.unique h2

theorem ba_eq (l : List UInt8) : ba l = ⟨l.toArray⟩ := rfl

theorem works_all : S.law21_works_pre ∧ S.law21_works = true := by
  have o2 : RV (S.value_One 2) := .inr (one_NB (by unfold I64; decide))
  have o8 : RV (S.value_One 8) := .inr (one_NB (by unfold I64; decide))
  obtain ⟨j1, j2⟩ := Join2 o2.ok o8.ok
  rw [red_of o2, red_of o8, one_eq, one_eq, join28] at j1
  rw [one_eq, one_eq] at j2
  have hj : RV wj := .inr wj_NB
  have h39 : RV ⟨⟨3, 9⟩, ⟨1, 0⟩⟩ := .inr r39_NB
  have h09 : RV ⟨⟨0, 9⟩, ⟨1, 0⟩⟩ := .inr r09_NB
  obtain ⟨m1, m2⟩ := Meet2 hj.ok h39.ok
  rw [red_of hj, red_of h39, meet38] at m1
  obtain ⟨c1, c2, _⟩ := Card_eq hj.ok
  rw [red_of hj] at c1
  have ho8 : RV (one 8) := .inr (one_NB (by unfold I64; decide))
  obtain ⟨s1, s2⟩ := Single_eq ho8.ok
  rw [red_of ho8, if_pos (show (one 8).I.Lo = (one 8).I.Hi from rfl)] at s1
  have ha : RV wa := .inr wa_NB
  have ta := Text_val ha wa_NB.ne (by decide)
  have tj := Text_val hj wj_NB.ne (by decide)
  have t9 := Text_val h09 r09_NB.ne (by decide)
  have hw : ∀ n : Nat, n < 10 → Lib.itoa (n : Int) = [UInt8.ofNat (48 + n)] := fun n h => itoa_d h
  have w0 : Lib.itoa 0 = [48] := itoa_d (n := 0) (by decide)
  have w2 : Lib.itoa 2 = [50] := itoa_d (n := 2) (by decide)
  have w4 : Lib.itoa 4 = [52] := itoa_d (n := 4) (by decide)
  have w8 : Lib.itoa 8 = [56] := itoa_d (n := 8) (by decide)
  have w9 : Lib.itoa 9 = [57] := itoa_d (n := 9) (by decide)
  have x0 : Lib.decDigits 0 = [48] := dec_small (by decide)
  have x2 : Lib.decDigits 2 = [50] := dec_small (by decide)
  have x4 : Lib.decDigits 4 = [52] := dec_small (by decide)
  have x6 : Lib.decDigits 6 = [54] := dec_small (by decide)
  have ta' : S.value_Value_Text wa = ⟨#[91, 52, 44, 32, 56, 93, 32, 48, 32, 109, 111, 100, 32, 52]⟩ := by
    rw [ta]
    simp only [wa, w4, w8, show ((4 : Int) > 1) = True by simp, if_true, show (4 : Int).toNat = 4 from rfl, show (0 : Int).toNat = 0 from rfl, x0, x4]
    rfl
  have tj' : S.value_Value_Text wj = ⟨#[91, 50, 44, 32, 56, 93, 32, 50, 32, 109, 111, 100, 32, 54]⟩ := by
    rw [tj]
    simp only [wj, w2, w8, show ((6 : Int) > 1) = True by simp, if_true, show (6 : Int).toNat = 6 from rfl, show (2 : Int).toNat = 2 from rfl, x2, x6]
    rfl
  have t9' : S.value_Value_Text ⟨⟨0, 9⟩, ⟨1, 0⟩⟩ = ⟨#[91, 48, 44, 32, 57, 93]⟩ := by
    rw [t9]
    simp only [w0, w9, show ¬ ((1 : Int) > 1) by simp, if_false]
    rfl
  have cv : S.ref21_Card wj = (2, true) := by decide
  rw [cv] at c1
  have i110 : IR (S.inter_Of 1 10) := ⟨by unfold I64; decide, by unfold I64; decide⟩
  have i57 : IR (S.inter_Of 5 7) := ⟨by unfold I64; decide, by unfold I64; decide⟩
  have c40 : CR (S.cong_Make 4 0) := ⟨by rw [ok_iff]; decide, by decide⟩
  refine ⟨?_, ?_⟩
  · simp only [law21_works_pre, one_eq, j1, rg39, rg09, m1, mk_a, mk_b, All, and_true]
    exact ⟨Make_pre _ _, Make_pre' i110 c40, Make_pre _ _, Make_pre' i57 c40, j2, c2, (Range_pre' 3 9 (by unfold I64; decide) (by unfold I64; decide)).1, m2, s2, (Text_eq ha.ok).1, fun _ => isBot_pre (RV.ok (.inl rfl)), fun _ => (Text_eq (RV.ok (.inl rfl))).1, fun _ => (Text_eq hj.ok).1, fun _ => (Range_pre' 0 9 (by unfold I64; decide) (by unfold I64; decide)).1, fun _ => (Text_eq h09.ok).1⟩
  · simp only [law21_works, one_eq, j1, rg39, rg09, m1, mk_a, mk_b, ta', tj', t9', Text_bot, IsBot_bot, c1, s1]
    simp [one]

/-! ### ValueTells -/

theorem L2_any : ∀ (l : List Int), (l.length : Int) ≤ 1000000 → ∃ y, Runs law21_ValueTells_L2_step law21_ValueTells_L2_vcs ⟨0, l⟩ y := by
  intro l hl
  obtain ⟨y, hy, _⟩ := Runs.of (step := law21_ValueTells_L2_step) (vcs := law21_ValueTells_L2_vcs) (fun s => ∃ j : Nat, s.k = (j : Int) ∧ s.l.length = l.length ∧ j ≤ l.length) (fun s => ((l.length : Int) - s.k).toNat) (fun _ => True) (by
    rintro ⟨k, l'⟩ ⟨j, h1, h2, h3⟩
    dsimp only at h1 h2
    subst h1
    by_cases hj : j < l.length
    · have hd : decide ((j : Int) < (l'.length : Int)) = true := by rw [decide_eq_true_iff]; omega
      have hw : IntKind.i64.wrap ((j : Int) + 1) = ((j + 1 : Nat) : Int) := by rw [IntKind.wrap_i64]; omega
      refine ⟨?_, ?_⟩
      · simp only [law21_ValueTells_L2_vcs, hd, All, and_true]; exact ⟨fun _ => ⟨by omega, by omega⟩, fun _ => trivial⟩
      · simp only [law21_ValueTells_L2_step, hd, cond_true, hw]
        exact ⟨⟨j + 1, rfl, by simpa using h2, by omega⟩, by omega⟩
    · have hd : decide ((j : Int) < (l'.length : Int)) = false := by rw [decide_eq_false_iff_not]; omega
      refine ⟨?_, ?_⟩
      · simp only [law21_ValueTells_L2_vcs, hd]; exact ⟨(fun h => by cases h), fun _ => trivial⟩
      · simp only [law21_ValueTells_L2_step, hd, cond_false]) ⟨0, l⟩ ⟨0, rfl, rfl, Nat.zero_le _⟩
  exact ⟨y, hy⟩

theorem rcard_shape (v : S.Value) (n most : Int) (b : Bool) (t : Int) (ht : t = 0 ∨ t = 1) (w made : S.Value) (hv : (if t = 1 then made else w) = v) (h : VOK v) (hn : I64 n) (hm : most ≤ 40) :
    law21_ValueTells_L0_vcs ⟨n, most, b, t, w, red v, made⟩ ∧ law21_ValueTells_L0_step ⟨n, most, b, t, w, red v, made⟩ = .inl ⟨n, most, b, t + 1, v, red v, made⟩ := by
  have hr := red_rv h
  have eV : (⟨(⟨(bif t == 1 then made.I.Lo else w.I.Lo), (bif t == 1 then made.I.Hi else w.I.Hi)⟩ : S.Inter), (⟨(bif t == 1 then made.C.M else w.C.M), (bif t == 1 then made.C.R else w.C.R)⟩ : S.Cong)⟩ : S.Value) = v := by
    rw [← hv]
    rcases ht with rfl | rfl <;> rfl
  obtain ⟨c1, c2, c3⟩ := Card_eq h
  obtain ⟨s1, s2⟩ := Single_eq h
  obtain ⟨q1, q2, q3, q4⟩ := Some_eq h most (by omega)
  obtain ⟨t1, t2, t3⟩ := Text_eq h
  obtain ⟨h1, h2⟩ := has_iff' h hn
  obtain ⟨r1, r2⟩ := rhas_eq hr hn
  have hhas : S.value_Value_Has v n = S.ref21_Has (red v) n := by
    rw [r1, Bool.eq_iff_iff, h1, decide_eq_true_iff]
  obtain ⟨e1, e2⟩ := same_refl (S.value_Value_Some v most) q4
  obtain ⟨y, hy⟩ := L2_any (S.value_Value_Some v most) q4
  have ey : law21_ValueTells_L2_run ⟨0, S.value_Value_Some v most⟩ = y := theRun_eq (d := fun x => x) hy
  have hd : decide (t < 2) = true := by rw [decide_eq_true_iff]; omega
  have hw : IntKind.i64.wrap (t + 1) = t + 1 := by rw [IntKind.wrap_i64]; omega
  have hs : ((((!((S.value_Value_Single v).2 == ((red v).I.Lo == (red v).I.Hi))) || ((S.value_Value_Single v).2 && ((S.value_Value_Single v).1 != (red v).I.Lo)))) || ((!(S.value_Value_Single v).2) && ((S.value_Value_Single v).1 != 0))) = false := by
    rw [s1]
    by_cases hh : (red v).I.Lo = (red v).I.Hi
    · rw [if_pos hh, show ((red v).I.Lo == (red v).I.Hi) = true by simpa using hh]; simp
    · rw [if_neg hh, show ((red v).I.Lo == (red v).I.Hi) = false from beq_eq_false_iff_ne.2 hh]; simp
  have hbt : S.value_Value_IsBottom v = decide (red v = bot) := isBot v
  refine ⟨?_, ?_⟩
  · simp only [law21_ValueTells_L0_vcs, eV, hd, ey, All, and_true]
    exact ⟨fun _ => ⟨⟨c2, c3, s2, q1, fun _ => isBot_pre h, fun _ => h2, fun _ => r2, fun _ => q2, fun _ => by rw [← q3]; exact e1, fun _ => t1, fun _ => t2⟩, fun _ => trivial, fun _ => hy⟩, fun _ => trivial⟩
  · simp only [law21_ValueTells_L0_step, eV, hd, hw, c1, rbot_eq, eqv, hbt, hhas, ← q3, e2, t3, cond_true]
    have hfin : ((S.ref21_Card (red v)).1 != (S.ref21_Card (red v)).1 || !((S.ref21_Card (red v)).2 == (S.ref21_Card (red v)).2)) = false := by simp
    rw [hfin]
    simp only [Bool.false_or, beq_self_eq_true, Bool.not_true, Bool.or_false]
    rw [hs]
    rfl

theorem ValueTells_law (i : S.Inter) (c : S.Cong) (n most : Int) (hi : S.Inter.ok i) (hc : S.Cong.ok c) (hn : inr .i64 n) (hm : inr .i64 most) : S.law21_ValueTells_pre i c n most ∧ S.law21_ValueTells i c n most = true := by
  have hv : VOK ⟨i, c⟩ := ⟨ir_of_ok hi, hc⟩
  have hn' : I64 n := inr_i64.1 hn
  obtain ⟨p1, p2⟩ := plain_red hv
  have em : S.value_Make i c = red ⟨i, c⟩ := rfl
  have hr := red_rv hv
  obtain ⟨w1, w2⟩ := works_all
  have hmm : (if 40 < most then 40 else most) ≤ 40 := by split <;> omega
  have hrun : Runs law21_ValueTells_L0_step law21_ValueTells_L0_vcs ⟨n, (if 40 < most then 40 else most), false, 0, ⟨i, c⟩, red ⟨i, c⟩, red ⟨i, c⟩⟩ (false, (⟨n, (if 40 < most then 40 else most), false, 2, red ⟨i, c⟩, red ⟨i, c⟩, red ⟨i, c⟩⟩ : S.law21_ValueTells_L0)) := by
    have a0 := rcard_shape ⟨i, c⟩ n _ false 0 (.inl rfl) ⟨i, c⟩ (red ⟨i, c⟩) rfl hv hn' hmm
    have a1 := rcard_shape (red ⟨i, c⟩) n _ false 1 (.inr rfl) ⟨i, c⟩ (red ⟨i, c⟩) rfl hr.ok hn' hmm
    rw [red_of hr] at a1
    refine .next _ _ _ a0.1 a0.2 (.next _ _ _ a1.1 a1.2 (.done _ _ ?_ ?_))
    · simp only [law21_ValueTells_L0_vcs]
      exact ⟨(fun h => by simp at h), fun _ => trivial⟩
    · simp [law21_ValueTells_L0_step]
  have e : law21_ValueTells_L0_run ⟨n, (if 40 < most then 40 else most), false, 0, ⟨i, c⟩, red ⟨i, c⟩, red ⟨i, c⟩⟩ = _ := theRun_eq (d := fun x => (true, x)) hrun
  obtain ⟨g1, g2, g3⟩ := Range_pre' i.Lo i.Hi hv.1.1 hv.1.2
  have hv1 : VOK ⟨i, ⟨1, 0⟩⟩ := ⟨hv.1, top_CR.1⟩
  have hb : (!((red (⟨i, c⟩ : S.Value)).I.Lo == (red ⟨i, c⟩).I.Lo && ((red ⟨i, c⟩).I.Hi == (red ⟨i, c⟩).I.Hi && ((red ⟨i, c⟩).C.M == (red ⟨i, c⟩).C.M && (red ⟨i, c⟩).C.R == (red ⟨i, c⟩).C.R)))) = false := by simp
  refine ⟨?_, ?_⟩
  · simp only [law21_ValueTells_pre, p1, em, docs_Value, e, All, and_true]
    exact ⟨⟨p2, (made _ _ hv.1 hc).2⟩, fun _ => trivial, fun _ => ⟨hrun, fun _ => trivial, fun _ => ⟨rone_pre _, fun _ => g1, fun _ => (plain_red g2).2, fun _ => (plain_red hv1).2, fun _ => w1⟩⟩⟩
  · have pp : S.law21_plain (S.value_Range i.Lo i.Hi) = S.law21_plain ⟨i, S.cong_Top⟩ := by
      rw [(plain_red g2).1, g3]; exact (plain_red hv1).1.symm
    simp only [law21_ValueTells, p1, em, docs_Value, e, w2, pp, one_eq, rone_eq, top_eq, rtop_eq, bot_eq, rbot_eq]
    simp
end SV
