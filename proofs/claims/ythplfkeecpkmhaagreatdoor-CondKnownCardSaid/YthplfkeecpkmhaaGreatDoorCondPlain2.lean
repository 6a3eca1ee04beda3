/-
  What is left of values: from a number on, up to one, without one; in the program and in the reference.
-/
import Derived.Test.YthplfkeecpkmhaaGreatDoorCondPlain
set_option linter.all false
open Go Vm
namespace SV
open S SC

theorem rtells_D {a b : S.Value} (ha : NB a) (hb : NB b) {op : Int} (ho : 0 ≤ op ∧ op ≤ 7) : S.ref24_tells_D 2 op a b := by
  have base : ∀ {x y : S.Value}, NB x → NB y → ∀ {o : Int}, (o = 0 ∨ o = 1 ∨ o = 2 ∨ o = 4 ∨ o = 5) → S.ref24_tells_D 1 o x y := fun {x y} hx hy {o} ho => by
    obtain ⟨_, t1⟩ := rTruth_eq (.inr hx)
    obtain ⟨_, t2⟩ := rTruth_eq (.inr hy)
    obtain ⟨_, l2⟩ := ralike_eq (.inr hx) (.inr hy)
    simp only [ref24_tells_D, All, and_true]
    refine ⟨⟨t1, t2⟩, ?_⟩
    rcases ho with rfl | rfl | rfl | rfl | rfl <;> simp [l2]
  obtain ⟨_, t1⟩ := rTruth_eq (.inr ha)
  obtain ⟨_, t2⟩ := rTruth_eq (.inr hb)
  obtain ⟨_, l2⟩ := ralike_eq (.inr ha) (.inr hb)
  rw [show (2 : Nat) = 1 + 1 from rfl, ref24_tells_D]
  simp only [All, and_true]
  refine ⟨⟨t1, t2⟩, ?_⟩
  have e6 : IntKind.i64.wrap 4 = 4 := by decide
  have e7 : IntKind.i64.wrap 5 = 5 := by decide
  rcases op8 ho with rfl | rfl | rfl | rfl | rfl | rfl | rfl | rfl
  · simp
  · simp
  · simp [l2]
  · simp [base ha hb (o := 2) (by simp)]
  · simp
  · simp
  · simp [e6, base hb ha (o := 4) (by simp)]
  · simp [e7, base hb ha (o := 5) (by simp)]

theorem rtells_eq {a b : S.Value} (ha : NB a) (hb : NB b) {op : Int} (ho : 0 ≤ op ∧ op ≤ 7) : S.ref24_tells op a b = tl op a b ∧ S.ref24_tells_pre op a b := by
  have hp : S.ref24_tells_pre op a b := ⟨2, rtells_D ha hb ho⟩
  exact ⟨rtells_F _ op a b ha hb ho (Classical.epsilon_spec hp), hp⟩

/-! ### Truth values -/

def r01 : S.Value := ⟨⟨0, 1⟩, ⟨1, 0⟩⟩
theorem r01_NB : NB r01 := ⟨by unfold I64; decide, by unfold I64; decide, by decide, top_CR, by decide, by decide, by decide⟩
def tv (yes no : Bool) : S.Value := bif yes && no then r01 else bif yes then one 1 else bif no then one 0 else bot
theorem rg01 : S.value_Range 0 1 = r01 := by decide
theorem tv_rv (yes no : Bool) : RV (tv yes no) := by
  cases yes <;> cases no
  · exact bot_rv
  · exact one_rv i0
  · exact one_rv i1
  · exact .inr r01_NB
theorem truth_eq (yes no : Bool) : S.cond_truth yes no = tv yes no ∧ S.cond_truth_pre yes no := by
  refine ⟨?_, ?_⟩
  · simp only [cond_truth, rg01, one_eq, zero_eq, bot_eq, tv]
  · simp only [cond_truth_pre, All, and_true]
    exact ⟨fun _ => (Range_pre' 0 1 i0 i1).1, fun _ => ⟨fun _ => trivial, fun _ => ⟨fun _ => trivial, fun _ => trivial⟩⟩⟩
theorem rtruth_eq (yes no : Bool) : S.ref24_truth yes no = tv yes no ∧ S.ref24_truth_pre yes no := by
  have hi : IR ⟨0, 1⟩ := ⟨i0, i1⟩
  refine ⟨?_, ?_⟩
  · have e : S.ref21_Make ⟨0, 1⟩ S.ref21_Top.C = r01 := by decide
    simp only [ref24_truth, rone_eq, rbot_eq, e, tv]
  · simp only [ref24_truth_pre, All, and_true]
    exact ⟨fun _ => (rmade _ _ hi top_CR.1).2, fun _ => ⟨fun _ => rone_pre _, fun _ => ⟨fun _ => rone_pre _, fun _ => trivial⟩⟩⟩

/-- The truth value of an operator. -/
noncomputable def dv (op : Int) (a b : S.Value) : S.Value :=
  if a = bot ∨ b = bot then bot else if op < 0 ∨ op > 7 then top else tv (tl op a b).1 (tl op a b).2
theorem top_rv : RV top := .inr top_NB
theorem dv_rv (op : Int) (a b : S.Value) : RV (dv op a b) := by
  unfold dv
  split
  · exact bot_rv
  · split
    · exact top_rv
    · exact tv_rv _ _

theorem Do_eq (op : Int) {a b : S.Value} (ha : VOK a) (hb : VOK b) : S.cond_Do op a b = dv op (red a) (red b) ∧ S.cond_Do_pre op a b := by
  have ra := red_rv ha; have rb := red_rv hb
  have h1 := isBot_red ha; have h2 := isBot_red hb
  unfold dv
  refine ⟨?_, ?_⟩
  · simp only [cond_Do, plain_eq, h1, h2, bot_eq, top_eq]
    by_cases hb' : red a = bot ∨ red b = bot
    · rw [if_pos hb', show (decide (red a = bot) || decide (red b = bot)) = true by simpa using hb']; rfl
    · rw [if_neg hb', show (decide (red a = bot) || decide (red b = bot)) = false by simpa using hb', cond_false]
      by_cases ho : op < 0 ∨ op > 7
      · rw [if_pos ho, show (decide (op < 0) || decide (op > 7)) = true by simpa using ho]; rfl
      · rw [if_neg ho, show (decide (op < 0) || decide (op > 7)) = false by simpa using ho, cond_false]
        rw [(tells_eq ra rb (op := op) (by omega)).1, (truth_eq _ _).1]
  · simp only [cond_Do_pre, plain_eq, All, and_true]
    refine ⟨⟨plain_pre' ha, plain_pre' hb, isBot_pre ra.ok, fun _ => isBot_pre rb.ok⟩, fun _ => trivial, fun _ => ⟨fun _ => trivial, fun ho => ?_⟩⟩
    rw [Bool.or_eq_false_iff, decide_eq_false_iff_not, decide_eq_false_iff_not] at ho
    exact ⟨(tells_eq ra rb (op := op) (by omega)).2, (truth_eq _ _).2⟩

theorem rDo_eq (op : Int) {a b : S.Value} (ha : VOK a) (hb : VOK b) : S.ref24_Do op a b = dv op (red a) (red b) ∧ S.ref24_Do_pre op a b := by
  have ra := red_rv ha; have rb := red_rv hb
  have pa : S.ref21_Plain a = red a := (Make_same _ _ ha.1 ha.2).symm
  have pb : S.ref21_Plain b = red b := (Make_same _ _ hb.1 hb.2).symm
  have qa : S.ref21_Plain_pre a := by simp only [ref21_Plain_pre, All, and_true]; exact (rmade _ _ ha.1 ha.2).2
  have qb : S.ref21_Plain_pre b := by simp only [ref21_Plain_pre, All, and_true]; exact (rmade _ _ hb.1 hb.2).2
  unfold dv
  refine ⟨?_, ?_⟩
  · simp only [ref24_Do, pa, pb, rbot_eq, rtop_eq, eqv]
    by_cases hb' : red a = bot ∨ red b = bot
    · rw [if_pos hb', show (decide (red a = bot) || decide (red b = bot)) = true by simpa using hb']; rfl
    · rw [if_neg hb', show (decide (red a = bot) || decide (red b = bot)) = false by simpa using hb', cond_false]
      by_cases ho : op < 0 ∨ op > 7
      · rw [if_pos ho, show (decide (op < 0) || decide (op > 7)) = true by simpa using ho]; rfl
      · rw [if_neg ho, show (decide (op < 0) || decide (op > 7)) = false by simpa using ho, cond_false]
        have h' := not_or.1 hb'
        rw [(rtells_eq (ra.resolve_left h'.1) (rb.resolve_left h'.2) (op := op) (by omega)).1, (rtruth_eq _ _).1]
  · simp only [ref24_Do_pre, pa, pb, rbot_eq, eqv, All, and_true]
    refine ⟨⟨qa, qb⟩, fun _ => trivial, fun hb' => ⟨fun _ => trivial, fun ho => ?_⟩⟩
    rw [Bool.or_eq_false_iff, decide_eq_false_iff_not, decide_eq_false_iff_not] at ho hb'
    exact ⟨(rtells_eq (ra.resolve_left hb'.1) (rb.resolve_left hb'.2) (op := op) (by omega)).2, (rtruth_eq _ _).2⟩

/-! ### From a number on, up to one -/

noncomputable def fr (v : S.Value) (n : Int) : S.Value := S.value_Make (S.ref19_Meet v.I ⟨n, 9223372036854775807⟩) v.C
noncomputable def up (v : S.Value) (n : Int) : S.Value := S.value_Make (S.ref19_Meet v.I ⟨-9223372036854775808, n⟩) v.C
noncomputable def ab (v : S.Value) (n : Int) : S.Value := if n = 9223372036854775807 then bot else fr v (n + 1)
noncomputable def be (v : S.Value) (n : Int) : S.Value := if n = -9223372036854775808 then bot else up v (n - 1)

theorem imax : I64 9223372036854775807 := by unfold I64; decide
theorem imin : I64 (-9223372036854775808) := by unfold I64; decide
theorem fr_ir {v : S.Value} (h : RV v) {n : Int} (hn : I64 n) : IR (S.ref19_Meet v.I ⟨n, 9223372036854775807⟩) := M_ir h.ir ⟨hn, imax⟩
theorem up_ir {v : S.Value} (h : RV v) {n : Int} (hn : I64 n) : IR (S.ref19_Meet v.I ⟨-9223372036854775808, n⟩) := M_ir h.ir ⟨imin, hn⟩
theorem fr_rv {v : S.Value} (h : RV v) {n : Int} (hn : I64 n) : RV (fr v n) := Make_rv (fr_ir h hn) h.cr
theorem up_rv {v : S.Value} (h : RV v) {n : Int} (hn : I64 n) : RV (up v n) := Make_rv (up_ir h hn) h.cr
theorem ab_rv {v : S.Value} (h : RV v) {n : Int} (hn : I64 n) : RV (ab v n) := by
  unfold ab; split
  · exact bot_rv
  · exact fr_rv h (by unfold I64 at *; omega)
theorem be_rv {v : S.Value} (h : RV v) {n : Int} (hn : I64 n) : RV (be v n) := by
  unfold be; split
  · exact bot_rv
  · exact up_rv h (by unfold I64 at *; omega)

theorem Of_ok {lo hi : Int} (h : lo ≤ hi) : S.inter_Of lo hi = ⟨lo, hi⟩ := by
  rw [SI.Of_eq, SI.Plain_yes (by omega)]
theorem from_eq {v : S.Value} (h : RV v) {n : Int} (hn : I64 n) : S.cond_from v n = fr v n ∧ S.cond_from_pre v n := by
  have hn' := hn
  unfold I64 at hn'
  have e := Of_ok hn'.2
  refine ⟨?_, ?_⟩
  · simp only [cond_from, cond_between, e, SI.M2 v.I _ (ok_of_ir h.ir)]; rfl
  · simp only [cond_from_pre, cond_between_pre, e, SI.M2 v.I _ (ok_of_ir h.ir), All, and_true]
    exact ⟨SI.Meet2_pre _ _, Make_pre' (fr_ir h hn) h.cr⟩
theorem upto_eq {v : S.Value} (h : RV v) {n : Int} (hn : I64 n) : S.cond_upto v n = up v n ∧ S.cond_upto_pre v n := by
  have hn' := hn
  unfold I64 at hn'
  have e := Of_ok hn'.1
  refine ⟨?_, ?_⟩
  · simp only [cond_upto, cond_between, e, SI.M2 v.I _ (ok_of_ir h.ir)]; rfl
  · simp only [cond_upto_pre, cond_between_pre, e, SI.M2 v.I _ (ok_of_ir h.ir), All, and_true]
    exact ⟨SI.Meet2_pre _ _, Make_pre' (up_ir h hn) h.cr⟩
theorem rfrom_eq {v : S.Value} (h : RV v) {n : Int} (hn : I64 n) : S.ref24_from v n = fr v n ∧ S.ref24_from_pre v n := by
  refine ⟨?_, ?_⟩
  · simp only [ref24_from, ref24_most]; exact (Make_same _ _ (fr_ir h hn) h.cr.1).symm
  · simp only [ref24_from_pre, ref24_most, All, and_true]; exact (rmade _ _ (fr_ir h hn) h.cr.1).2
theorem rupto_eq {v : S.Value} (h : RV v) {n : Int} (hn : I64 n) : S.ref24_upto v n = up v n ∧ S.ref24_upto_pre v n := by
  refine ⟨?_, ?_⟩
  · simp only [ref24_upto, ref24_least]; exact (Make_same _ _ (up_ir h hn) h.cr.1).symm
  · simp only [ref24_upto_pre, ref24_least, All, and_true]; exact (rmade _ _ (up_ir h hn) h.cr.1).2

theorem above_all {v : S.Value} (h : RV v) {n : Int} (hn : I64 n) : S.cond_above v n = ab v n ∧ S.cond_above_pre v n ∧ S.ref24_above v n = ab v n ∧ S.ref24_above_pre v n := by
  unfold ab
  by_cases e : n = 9223372036854775807
  · have hb : (n == 9223372036854775807) = true := beq_t e
    simp only [cond_above, cond_above_pre, ref24_above, ref24_above_pre, ref24_most, hb, if_pos e, bot_eq, rbot_eq]
    exact ⟨rfl, ⟨fun _ => trivial, fun h => by cases h⟩, rfl, ⟨fun _ => trivial, fun h => by cases h⟩⟩
  · have hb : (n == 9223372036854775807) = false := beq_f e
    have hn' := hn
    unfold I64 at hn'
    have hw : IntKind.i64.wrap (n + 1) = n + 1 := by rw [IntKind.wrap_i64]; omega
    have hn1 : I64 (n + 1) := by unfold I64; omega
    simp only [cond_above, cond_above_pre, ref24_above, ref24_above_pre, ref24_most, hb, if_neg e, hw, cond_false, All, and_true]
    exact ⟨(from_eq h hn1).1, ⟨(fun h => by cases h), fun _ => (from_eq h hn1).2⟩, (rfrom_eq h hn1).1, ⟨(fun h => by cases h), fun _ => (rfrom_eq h hn1).2⟩⟩
theorem below_all {v : S.Value} (h : RV v) {n : Int} (hn : I64 n) : S.cond_below v n = be v n ∧ S.cond_below_pre v n ∧ S.ref24_below v n = be v n ∧ S.ref24_below_pre v n := by
  unfold be
  by_cases e : n = -9223372036854775808
  · have hb : (n == -9223372036854775808) = true := beq_t e
    simp only [cond_below, cond_below_pre, ref24_below, ref24_below_pre, ref24_least, hb, if_pos e, bot_eq, rbot_eq]
    exact ⟨rfl, ⟨fun _ => trivial, fun h => by cases h⟩, rfl, ⟨fun _ => trivial, fun h => by cases h⟩⟩
  · have hb : (n == -9223372036854775808) = false := beq_f e
    have hn' := hn
    unfold I64 at hn'
    have hw : IntKind.i64.wrap (n - 1) = n - 1 := by rw [IntKind.wrap_i64]; omega
    have hn1 : I64 (n - 1) := by unfold I64; omega
    simp only [cond_below, cond_below_pre, ref24_below, ref24_below_pre, ref24_least, hb, if_neg e, hw, cond_false, All, and_true]
    exact ⟨(upto_eq h hn1).1, ⟨(fun h => by cases h), fun _ => (upto_eq h hn1).2⟩, (rupto_eq h hn1).1, ⟨(fun h => by cases h), fun _ => (rupto_eq h hn1).2⟩⟩

/-- Without a number. -/
noncomputable def wo (v : S.Value) (n : Int) : S.Value := if v = bot then v else if n = v.I.Lo then ab v n else if n = v.I.Hi then be v n else v
theorem wo_rv {v : S.Value} (h : RV v) {n : Int} (hn : I64 n) : RV (wo v n) := by
  unfold wo; split
  · exact h
  · split
    · exact ab_rv h hn
    · split
      · exact be_rv h hn
      · exact h

theorem Without_all {v : S.Value} (h : VOK v) {n : Int} (hn : I64 n) : S.cond_Without v n = wo (red v) n ∧ S.cond_Without_pre v n ∧ S.ref24_Without v n = wo (red v) n ∧ S.ref24_Without_pre v n := by
  have hr := red_rv h
  have pv : S.ref21_Plain v = red v := (Make_same _ _ h.1 h.2).symm
  have qv : S.ref21_Plain_pre v := by simp only [ref21_Plain_pre, All, and_true]; exact (rmade _ _ h.1 h.2).2
  obtain ⟨a1, a2, a3, a4⟩ := above_all hr hn
  obtain ⟨b1, b2, b3, b4⟩ := below_all hr hn
  simp only [cond_Without, cond_Without_pre, ref24_Without, ref24_Without_pre, plain_eq, isBot_red h, pv, rbot_eq, eqv, a1, a3, b1, b3, All, and_true]
  unfold wo
  refine ⟨?_, ⟨⟨plain_pre' h, isBot_pre hr.ok⟩, fun _ => trivial, fun _ => ⟨fun _ => a2, fun _ => ⟨fun _ => b2, fun _ => trivial⟩⟩⟩, ?_, ⟨qv, fun _ => trivial, fun _ => ⟨fun _ => a4, fun _ => ⟨fun _ => b4, fun _ => trivial⟩⟩⟩⟩
  · by_cases e1 : red v = bot
    · simp [e1]
    · by_cases e2 : n = (red v).I.Lo
      · simp [e1, e2]
      · by_cases e3 : n = (red v).I.Hi
        · rw [decide_eq_false e1, if_neg e1, if_neg e2, if_pos e3, beq_f e2, beq_t e3]; rfl
        · rw [decide_eq_false e1, if_neg e1, if_neg e2, if_neg e3, beq_f e2, beq_f e3]; rfl
  · by_cases e1 : red v = bot
    · simp [e1]
    · by_cases e2 : n = (red v).I.Lo
      · simp [e1, e2]
      · by_cases e3 : n = (red v).I.Hi
        · rw [decide_eq_false e1, if_neg e1, if_neg e2, if_pos e3, beq_f e2, beq_t e3]; rfl
        · rw [decide_eq_false e1, if_neg e1, if_neg e2, if_neg e3, beq_f e2, beq_f e3]; rfl

/-- What is left of a value that is true, or false. -/
noncomputable def on (v : S.Value) (t : Bool) : S.Value := bif t then wo v 0 else M v (one 0)
theorem on_rv {v : S.Value} (h : RV v) (t : Bool) : RV (on v t) := by
  cases t
  · exact M_rv h (one_rv i0)
  · exact wo_rv h i0

theorem Only_all {v : S.Value} (h : VOK v) (t : Bool) : S.cond_Only v t = on (red v) t ∧ S.cond_Only_pre v t ∧ S.ref24_Only v t = on (red v) t ∧ S.ref24_Only_pre v t := by
  have hr := red_rv h
  have pv : S.ref21_Plain v = red v := (Make_same _ _ h.1 h.2).symm
  have qv : S.ref21_Plain_pre v := by simp only [ref21_Plain_pre, All, and_true]; exact (rmade _ _ h.1 h.2).2
  obtain ⟨w1, w2, w3, w4⟩ := Without_all h i0
  obtain ⟨m1, m2⟩ := Meet2 hr.ok (one_rv i0).ok
  rw [red_of hr, red_of (one_rv i0)] at m1
  obtain ⟨_, _, k1, k2⟩ := M_eq hr (one_rv i0)
  simp only [cond_Only, cond_Only_pre, ref24_Only, ref24_Only_pre, plain_eq, zero_eq, rone_eq, pv, w1, w3, m1, k1, on, All, and_true]
  exact ⟨trivial, ⟨fun _ => w2, fun _ => ⟨plain_pre' h, m2⟩⟩, trivial, ⟨fun _ => w4, fun _ => ⟨qv, rone_pre _, k2⟩⟩⟩

/-! ### What one number has in common with a value -/

theorem meet_const {c : S.Cong} (hc : CR c) {n : Int} (hn : I64 n) : (S.cong_Meet c (S.cong_Const n)).2 = has c n := by
  have hn' := hn
  unfold I64 at hn'
  have n2 := inr_i64.2 (num_i64 c.R)
  have hcn : S.cong_Cong_number (S.cong_Const n) = n := by
    show IntKind.i64.wrap (IntKind.u64.wrap n) = n
    rw [IntKind.wrap_u64, IntKind.wrap_i64]; omega
  simp only [cong_Meet, cong_Cong_single, cong_Cong_if1, hcn]
  by_cases hM : c.M = 0
  · rw [show (c.M == 0) = true from beq_t hM, cond_true, show S.cong_Cong_number c = IntKind.i64.wrap c.R from rfl, Has_eq _ _ const_CR.1 n2]
    have e : has (S.cong_Const n) (IntKind.i64.wrap c.R) = has c n := by
      rw [Bool.eq_iff_iff, has_iff, has_iff]
      have r := CR_ranges hc
      simp only [hM, cong_Const]
      constructor
      · rintro (⟨_, h⟩ | ⟨h, _⟩)
        · left; refine ⟨trivial, ?_⟩
          rw [← h, IntKind.wrap_u64, IntKind.wrap_i64]; omega
        · exact absurd rfl h
      · rintro (⟨_, h⟩ | ⟨h, _⟩)
        · left; refine ⟨trivial, ?_⟩
          rw [h, IntKind.wrap_u64, IntKind.wrap_i64]; omega
        · exact absurd rfl h
    rw [e]
    cases has c n <;> rfl
  · rw [show (c.M == 0) = false from beq_f hM, cond_false, show ((S.cong_Const n).M == 0) = true from rfl, cond_true, Has_eq _ _ hc.1 (inr_i64.2 hn)]
    cases has c n <;> rfl

theorem M_one {v : S.Value} (hv : RV v) {n : Int} (hn : I64 n) : M v (one n) = if Le (one n) v then one n else bot := by
  have ho : RV (one n) := one_rv hn
  by_cases h : Le (one n) v
  · rw [if_pos h]
    have h1 := M_has hv ho hn h (Le.refl ho)
    have hM := M_rv hv ho
    refine Le.antisymm hM ho ?_ h1
    obtain ⟨l1, l2, l3⟩ := (le_one hv hn).1 h
    unfold M
    have hm : (S.cong_Meet v.C (one n).C).2 = true := by rw [show (one n).C = S.cong_Const n from rfl, meet_const hv.cr hn]; exact l3
    have hcr := (meet_CR hv.cr ho.cr hm).2
    rw [hm, cond_true]
    have hmk := Make_red (M_ir hv.ir ho.ir) hcr
    revert hmk
    generalize S.value_Make _ _ = w
    intro hmk
    cases hmk with
    | no _ => exact Le.bot
    | yes lo hi hl hh hle k1 k2 _ =>
      have a1 := k1.1; have a2 := k2.2.1
      rw [SI.M_m, SI.Plain_yes (show ¬ max v.I.Lo (one n).I.Lo > min v.I.Hi (one n).I.Hi by simp only [one]; omega)] at a1 a2
      simp only [one] at a1 a2
      have e1 : lo = n := by omega
      have e2 : hi = n := by omega
      rw [if_pos (e1.trans e2.symm), e1]
      exact Le.refl ho
  · rw [if_neg h]
    unfold M
    cases hm : (S.cong_Meet v.C (one n).C).2 with
    | false => rfl
    | true =>
      have hh : has v.C n = true := by rw [← meet_const hv.cr hn]; exact hm
      have hcr := (meet_CR hv.cr ho.cr hm).2
      have hmk := Make_red (M_ir hv.ir ho.ir) hcr
      rw [cond_true]
      refine hmk.unique (.no fun m hm' h' => ?_)
      have a1 := h'.1; have a2 := h'.2.1
      rw [SI.M_m] at a1 a2
      by_cases hin : v.I.Lo ≤ n ∧ n ≤ v.I.Hi
      · exact h ((le_one hv hn).2 ⟨hin.1, hin.2, hh⟩)
      · rw [SI.Plain_no (show max v.I.Lo (one n).I.Lo > min v.I.Hi (one n).I.Hi by simp only [one]; omega)] at a1 a2
        simp at a1 a2; omega
end SV
