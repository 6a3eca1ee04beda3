/-
  Values: those that are reduced; their order; joins, meets, what is widened and narrowed.
-/
import Derived.Test.YthplfkeecpkmhaaGreatDoorValMake
set_option linter.all false
open Go Vm
namespace SV
open S SC

theorem eqv (a b : S.Value) : ((a.I.Lo == b.I.Lo) && ((a.I.Hi == b.I.Hi) && ((a.C.M == b.C.M) && (a.C.R == b.C.R)))) = decide (a = b) := by
  rw [Bool.eq_iff_iff]; simp [S.Value.ext_iff, S.Inter.ext_iff, S.Cong.ext_iff, and_assoc]

/-- Reduced, with numbers. -/
structure NB (v : S.Value) : Prop where
  lo : I64 v.I.Lo
  hi : I64 v.I.Hi
  le : v.I.Lo ≤ v.I.Hi
  c : CR v.C
  hl : has v.C v.I.Lo = true
  hh : has v.C v.I.Hi = true
  one : v.I.Lo = v.I.Hi → v.C = S.cong_Const v.I.Lo

def RV (v : S.Value) : Prop := v = bot ∨ NB v

theorem NB.ne {v : S.Value} (h : NB v) : v ≠ bot := by
  rintro rfl; have := h.le; simp [bot] at this
theorem one_NB {n : Int} (h : I64 n) : NB (one n) := ⟨h, h, Int.le_refl _, const_CR, const_has, const_has, fun _ => rfl⟩
theorem RV.cr {v : S.Value} (h : RV v) : CR v.C := by
  rcases h with rfl | h
  · exact top_CR
  · exact h.c
theorem RV.ir {v : S.Value} (h : RV v) : IR v.I := by
  rcases h with rfl | h
  · exact ⟨by unfold I64; decide, by unfold I64; decide⟩
  · exact ⟨h.lo, h.hi⟩

theorem Made.rv {i : S.Inter} {c : S.Cong} {v : S.Value} (h : Made i c v) (hc : CR c) : RV v := by
  cases h with
  | no h => exact .inl rfl
  | yes lo hi hl hh hle h1 h2 h =>
    right
    by_cases e : lo = hi
    · rw [if_pos e]; exact one_NB hl
    · rw [if_neg e]; exact ⟨hl, hh, hle, hc, h1.2.2, h2.2.2, fun h => absurd h e⟩

theorem Made.self {v : S.Value} (h : RV v) : Made v.I v.C v := by
  rcases h with rfl | h
  · exact .no fun n _ h => by have := h.1; have := h.2.1; simp only [bot] at *; omega
  · have hm := Made.yes (i := v.I) (c := v.C) _ _ h.lo h.hi h.le ⟨Int.le_refl _, h.le, h.hl⟩ ⟨h.le, Int.le_refl _, h.hh⟩ (fun n hn hh => ⟨hh.1, hh.2.1⟩)
    by_cases e : v.I.Lo = v.I.Hi
    · rw [if_pos e] at hm
      have : one v.I.Lo = v := S.Value.ext (S.Inter.ext rfl e) (h.one e).symm
      rwa [this] at hm
    · rwa [if_neg e] at hm

/-- A value as it comes in. -/
def VOK (v : S.Value) : Prop := IR v.I ∧ S.Cong.ok v.C
theorem RV.ok {v : S.Value} (h : RV v) : VOK v := ⟨h.ir, h.cr.1⟩
theorem ok_iff' (v : S.Value) : S.Value.ok v ↔ VOK v := by
  unfold S.Value.ok VOK IR S.Inter.ok I64; rw [inr_i64, inr_i64]; simp only [and_true]

/-- Reduced. -/
def red (v : S.Value) : S.Value := S.value_Value_reduced v
theorem red_made {v : S.Value} (h : VOK v) : Made v.I (rc v.C) (red v) := (made _ _ h.1 h.2).1
theorem red_rv {v : S.Value} (h : VOK v) : RV (red v) := (red_made h).rv (rc_CR h.2)
theorem red_pre {v : S.Value} (h : VOK v) : S.value_Value_reduced_pre v := by
  simp only [value_Value_reduced_pre, All, and_true]; exact (made _ _ h.1 h.2).2
theorem red_of {v : S.Value} (h : RV v) : red v = v := by
  have h1 := red_made h.ok
  rw [rc_of h.cr] at h1
  exact h1.unique (Made.self h)
theorem red_red {v : S.Value} (h : VOK v) : red (red v) = red v := red_of (red_rv h)
theorem Make_red {i : S.Inter} {c : S.Cong} (hi : IR i) (hc : CR c) : Made i c (S.value_Make i c) := by
  have := (made i c hi hc.1).1
  rwa [rc_of hc] at this
theorem Make_pre' {i : S.Inter} {c : S.Cong} (hi : IR i) (hc : CR c) : S.value_Make_pre i c := (made i c hi hc.1).2
theorem Make_rv {i : S.Inter} {c : S.Cong} (hi : IR i) (hc : CR c) : RV (S.value_Make i c) := (Make_red hi hc).rv hc
theorem Make_self {v : S.Value} (h : RV v) : S.value_Make v.I v.C = v := (Make_red h.ir h.cr).unique (Made.self h)
theorem plain_red {v : S.Value} (h : VOK v) : S.law21_plain v = red v ∧ S.law21_plain_pre v := by
  refine ⟨(Make_same v.I v.C h.1 h.2).symm, ?_⟩
  simp only [law21_plain_pre, ref21_Plain_pre, docs_Value, All, and_true]
  exact (rmade v.I v.C h.1 h.2).2

theorem isBot (v : S.Value) : S.value_Value_IsBottom v = decide (red v = bot) := by
  simp only [value_Value_IsBottom, bot_eq, eqv]; rfl
theorem isBot_pre {v : S.Value} (h : VOK v) : S.value_Value_IsBottom_pre v := by
  simp only [value_Value_IsBottom_pre, All, and_true]; exact red_pre h

/-- One within another. -/
def Le (a b : S.Value) : Prop := a = bot ∨ (b.I.Lo ≤ a.I.Lo ∧ a.I.Hi ≤ b.I.Hi ∧ S.cong_Within a.C b.C = true)

instance (a b : S.Value) : Decidable (Le a b) := by unfold Le; exact inferInstance

theorem within_eq {a b : S.Value} (ha : VOK a) (hb : VOK b) : (S.value_Within a b = true ↔ Le (red a) (red b)) ∧ S.value_Within_pre a b := by
  refine ⟨?_, ?_⟩
  · have e : S.value_Within a b = (decide (red a = bot) || (S.inter_Within (red a).I (red b).I && S.cong_Within (red a).C (red b).C)) := by
      simp only [value_Within, bot_eq, eqv]; rfl
    rw [e, Bool.or_eq_true, decide_eq_true_eq, Bool.and_eq_true]
    unfold Le
    rcases red_rv ha with h | h
    · simp [h]
    · rw [SI.Within_eq, SI.Within_def, decide_eq_true_eq]
      have hn := h.ne
      have hle := h.le
      constructor
      · rintro (h1 | ⟨h1, h2⟩)
        · exact .inl h1
        · right; refine ⟨?_, ?_, h2⟩ <;> omega
      · rintro (h1 | ⟨h1, h2, h3⟩)
        · exact .inl h1
        · exact .inr ⟨.inr ⟨h1, h2⟩, h3⟩
  · simp only [value_Within_pre, All, and_true]
    exact ⟨red_pre ha, red_pre hb, fun _ _ => Within_pre _ _⟩

theorem Le.refl {a : S.Value} (h : RV a) : Le a a := .inr ⟨Int.le_refl _, Int.le_refl _, le_refl h.cr⟩
theorem Le.bot {a : S.Value} : Le bot a := .inl rfl
theorem Le.of_bot {a : S.Value} (ha : RV a) (h : Le a SV.bot) : a = SV.bot := by
  rcases h with h | ⟨h1, h2, _⟩
  · exact h
  · rcases ha with h | h
    · exact h
    · have := h.le; simp only [SV.bot] at h1 h2; omega
theorem Le.trans {a b c : S.Value} (ha : RV a) (hb : RV b) (hc : RV c) (h1 : Le a b) (h2 : Le b c) : Le a c := by
  rcases h1 with h1 | ⟨p1, p2, p3⟩
  · exact .inl h1
  · rcases h2 with h2 | ⟨q1, q2, q3⟩
    · subst h2
      exact .inl (Le.of_bot ha (.inr ⟨p1, p2, p3⟩))
    · exact .inr ⟨Int.le_trans q1 p1, Int.le_trans p2 q2, le_trans ha.cr hb.cr hc.cr p3 q3⟩
theorem Le.antisymm {a b : S.Value} (ha : RV a) (hb : RV b) (h1 : Le a b) (h2 : Le b a) : a = b := by
  rcases h1 with h1 | ⟨p1, p2, p3⟩
  · subst h1; exact (Le.of_bot hb h2).symm
  · rcases h2 with h2 | ⟨q1, q2, q3⟩
    · subst h2; exact Le.of_bot ha (.inr ⟨p1, p2, p3⟩)
    · exact S.Value.ext (S.Inter.ext (by omega) (by omega)) (le_antisymm ha.cr hb.cr p3 q3)

/-- What is made lies within whatever its parts lie in. -/
theorem made_le {i : S.Inter} {c : S.Cong} {v b : S.Value} (hm : Made i c v) (hc : CR c) (hb : RV b) (h1 : b.I.Lo ≤ i.Lo) (h2 : i.Hi ≤ b.I.Hi) (h3 : S.cong_Within c b.C = true) : Le v b := by
  cases hm with
  | no _ => exact .inl rfl
  | yes lo hi hl hh hle k1 k2 _ =>
    right
    have k11 := k1.1; have k12 := k1.2.1; have k21 := k2.1; have k22 := k2.2.1
    by_cases e : lo = hi
    · rw [if_pos e]
      refine ⟨by dsimp only [one]; omega, by dsimp only [one]; omega, ?_⟩
      exact (const_le hl hb.cr).2 (le_has hc hb.cr h3 hl k1.2.2)
    · rw [if_neg e]
      exact ⟨by dsimp only; omega, by dsimp only; omega, h3⟩

/-- Whatever lies within both parts lies within what is made of them. -/
theorem le_made {i : S.Inter} {c : S.Cong} {v a : S.Value} (hm : Made i c v) (hc : CR c) (ha : NB a) (h1 : i.Lo ≤ a.I.Lo) (h2 : a.I.Hi ≤ i.Hi) (h3 : S.cong_Within a.C c = true) : Le a v := by
  have hal := le_has ha.c hc h3 ha.lo ha.hl
  have hah := le_has ha.c hc h3 ha.hi ha.hh
  have hle := ha.le
  have i1 : In i c a.I.Lo := ⟨h1, by omega, hal⟩
  have i2 : In i c a.I.Hi := ⟨by omega, h2, hah⟩
  cases hm with
  | no h => exact absurd i1 (h _ ha.lo)
  | yes lo hi hl hh hle k1 k2 k3 =>
    have b1 := k3 _ ha.lo i1
    have b2 := k3 _ ha.hi i2
    right
    by_cases e : lo = hi
    · rw [if_pos e]
      refine ⟨by dsimp only [one]; omega, by dsimp only [one]; omega, ?_⟩
      have e1 : a.I.Lo = a.I.Hi := by omega
      have e2 : a.I.Lo = lo := by omega
      rw [ha.one e1, e2]
      exact le_refl const_CR
    · rw [if_neg e]
      exact ⟨b1.1, b2.2, h3⟩

/-- A number of a value. -/
theorem has_iff' {v : S.Value} (hv : VOK v) {n : Int} (hn : I64 n) : (S.value_Value_Has v n = true ↔ Le (one n) (red v)) ∧ S.value_Value_Has_pre v n := by
  have ho : RV (one n) := .inr (one_NB hn)
  have hw := within_eq ho.ok hv
  rw [red_of ho] at hw
  refine ⟨hw.1, ?_⟩
  simp only [value_Value_Has_pre, All, and_true, one_eq]
  exact hw.2

theorem le_one {v : S.Value} (hv : RV v) {n : Int} (hn : I64 n) : Le (one n) v ↔ v.I.Lo ≤ n ∧ n ≤ v.I.Hi ∧ has v.C n = true := by
  unfold Le
  rw [const_le hn hv.cr |> fun h => show S.cong_Within (one n).C v.C = true ↔ has v.C n = true from h]
  constructor
  · rintro (h | h)
    · exact absurd h (one_NB hn).ne
    · exact h
  · exact .inr

theorem rhas_eq {v : S.Value} (hv : RV v) {n : Int} (hn : I64 n) : S.ref21_Has v n = decide (Le (one n) v) ∧ S.ref21_Has_pre v n := by
  have r := CR_ranges hv.cr
  have e : (⟨v.C.M, (bif decide (v.C.M > 0) then Int.tmod v.C.R v.C.M else v.C.R)⟩ : S.Cong) = v.C := by
    by_cases h : v.C.M > 0
    · rw [decide_eq_true h, cond_true, tmod_pos _ _ r.2.1, Int.emod_eq_of_lt r.2.1 (by omega)]
    · rw [decide_eq_false h]; rfl
  refine ⟨?_, ?_⟩
  · simp only [ref21_Has, e, SI.Has_def, refHas_eq v.C n hv.cr.1 (inr_i64.2 hn)]
    rw [Bool.eq_iff_iff, Bool.and_eq_true, decide_eq_true_eq, decide_eq_true_eq, le_one hv hn, and_assoc]
  · simp only [ref21_Has_pre, All, and_true, e]
    exact ⟨fun h => by have := of_decide_eq_true h; omega, fun _ => refHas_pre _ _⟩

/-! ### Joins -/

def hull (a b : S.Inter) : S.Inter := ⟨min a.Lo b.Lo, max a.Hi b.Hi⟩
theorem hull_eq {a b : S.Value} (ha : NB a) (hb : NB b) : S.inter_Join [a.I, b.I] = hull a.I b.I ∧ S.ref19_Join a.I b.I = hull a.I b.I := by
  have h1 := ha.le; have h2 := hb.le
  rw [SI.J2', SI.J_n (by omega) (by omega)]
  exact ⟨rfl, rfl⟩
theorem hull_ir {a b : S.Value} (ha : NB a) (hb : NB b) : IR (hull a.I b.I) := by
  have := ha.lo; have := ha.hi; have := hb.lo; have := hb.hi
  unfold IR hull I64 at *; dsimp only; omega

/-- Two, joined. -/
noncomputable def J (a b : S.Value) : S.Value := if a = bot then b else if b = bot then a else S.value_Make (hull a.I b.I) (S.cong_Join a.C b.C)

theorem eqv' (b a : S.Value) : ((b.I.Lo == a.I.Lo) && ((b.I.Hi == a.I.Hi) && ((b.C.M == a.C.M) && (b.C.R == a.C.R)))) = decide (a = b) := by
  rw [eqv]; exact decide_eq_decide.2 eq_comm

theorem J_eq {a b : S.Value} (ha : RV a) (hb : RV b) : S.value_Join_1 a b = J a b ∧ S.value_Join_1_pre a b ∧ S.ref21_Join a b = J a b ∧ S.ref21_Join_pre a b := by
  have hj := join_CR ha.cr hb.cr
  obtain ⟨p1, p2, _⟩ := Join_both a.C b.C ha.cr.1 hb.cr.1 ha.cr.2
  simp only [value_Join_1, value_Join_1_pre, ref21_Join, ref21_Join_pre, bot_eq, rbot_eq, eqv, eqv', J, All, and_true]
  by_cases h1 : a = bot
  · simp only [h1, decide_true, cond_true, if_true]
    refine ⟨?_, ⟨fun _ => trivial, fun h => by simp at h⟩, ?_, ⟨fun _ => trivial, fun h => by simp at h⟩⟩
    · simp
    · simp
  · by_cases h2 : b = bot
    · have h1' : ¬ bot = a := fun e => h1 e.symm
      simp only [h1, h1', h2, decide_true, decide_false, cond_true, cond_false, if_true, if_false]
      refine ⟨?_, ⟨fun h => by simp at h, fun _ => ⟨fun _ => trivial, fun h => by simp at h⟩⟩, ?_, ⟨fun h => by simp at h, fun _ => ⟨fun _ => trivial, fun h => by simp at h⟩⟩⟩
      · simp [h1']
      · simp
    · have na : NB a := ha.resolve_left h1
      have nb' : NB b := hb.resolve_left h2
      have h1' : ¬ bot = a := fun e => h1 e.symm
      have h2' : ¬ bot = b := fun e => h2 e.symm
      obtain ⟨q1, q2⟩ := hull_eq na nb'
      have hi := hull_ir na nb'
      simp only [h1, h1', h2, h2', decide_false, cond_false, if_false, q1, q2, ← p2, Make_same _ _ hi hj.1]
      have h3 : ∀ {x : S.Value}, x = x := fun {x} => rfl
      refine ⟨?_, ⟨fun h => by simp at h, fun _ => ⟨fun h => by simp at h, fun _ => ⟨SI.Join2_pre _ _, Join_pre _ _ ha.cr.1 hb.cr.1, Make_pre' hi hj⟩⟩⟩, ?_, ⟨fun h => by simp at h, fun _ => ⟨fun h => by simp at h, fun _ => ⟨p1, (rmade _ _ hi hj.1).2⟩⟩⟩⟩
      · simp [h1', h2']
      · simp
end SV
