/-
  Values: how one is made of an interval and a congruence, in the program and in the reference.
-/
import Derived.Test.YthplfkeecpkmhaaGreatDoorValCong
set_option linter.all false
open Go Vm
namespace SV
open S SC

instance : DecidableEq S.Inter := fun a b => decidable_of_iff (a.Lo = b.Lo ∧ a.Hi = b.Hi) (by rw [S.Inter.ext_iff])
instance : DecidableEq S.Value := fun a b => decidable_of_iff (a.I = b.I ∧ a.C = b.C) (by rw [S.Value.ext_iff])

def bot : S.Value := ⟨⟨1, 0⟩, ⟨1, 0⟩⟩
def one (n : Int) : S.Value := ⟨⟨n, n⟩, S.cong_Const n⟩
def IR (i : S.Inter) : Prop := I64 i.Lo ∧ I64 i.Hi

theorem bot_eq : S.value_Bottom = bot := rfl
theorem rbot_eq : S.ref21_Bottom = bot := rfl
theorem one_eq (n : Int) : S.value_One n = one n := rfl
theorem rone_eq (n : Int) : S.ref21_One n = one n := by
  simp only [ref21_One, ref20_Make]; rfl
theorem rone_pre (n : Int) : S.ref21_One_pre n := by
  simp only [ref21_One_pre, All, and_true]; exact refMake_pre _ _

theorem mod_le {x m r : Int} (hm : 0 < m) (hx : 0 ≤ x) (h : x % m = r % m) : r % m ≤ x := by
  rw [← h]
  have := Int.emod_add_mul_ediv x m
  have h2 : 0 ≤ m * (x / m) := Int.mul_nonneg (by omega) (Int.ediv_nonneg hx (by omega))
  omega

/-- The least number of a congruence from n on. -/
theorem least_spec {c : S.Cong} (hc : CR c) {n : Int} (hn : I64 n) :
    ((least c n).2 = true ∧ I64 (least c n).1 ∧ has c (least c n).1 = true ∧ n ≤ (least c n).1 ∧ ∀ m, I64 m → has c m = true → n ≤ m → (least c n).1 ≤ m) ∨
    ((least c n).2 = false ∧ ∀ m, I64 m → has c m = true → ¬ n ≤ m) := by
  have r := CR_ranges hc
  unfold least
  by_cases hM : c.M = 0
  · rw [if_pos hM]
    have hw : wit c = IntKind.i64.wrap c.R := by unfold wit; rw [if_pos hM]
    have h1 := wit_i64 hc; have h2 := wit_has hc
    rw [hw] at h1 h2
    split
    · rename_i h
      exact .inl ⟨rfl, h1, h2, h, fun m hm hh _ => by rw [has_con' hm hM hh, hw]; exact Int.le_refl _⟩
    · rename_i h
      exact .inr ⟨rfl, fun m hm hh hle => h (by rw [has_con' hm hM hh, hw] at hle; exact hle)⟩
  · rw [if_neg hM]
    have hpos : 0 < c.M := by omega
    have q := mod_range (c.R - n) c.M hpos
    unfold I64 at hn
    have key : ∀ m, has c m = true → n ≤ m → (c.R - n) % c.M ≤ m - n := fun m hh hle => by
      have e := has_val hM hh
      refine mod_le hpos (by omega) ?_
      rw [Int.sub_emod, e, ← Int.emod_eq_of_lt r.2.1 (show c.R < c.M by omega), ← Int.sub_emod, Int.emod_eq_of_lt r.2.1 (show c.R < c.M by omega)]
    split
    · rename_i h
      exact .inr ⟨rfl, fun m hm hh hle => by have := key m hh hle; unfold I64 at hm; omega⟩
    · rename_i h
      refine .inl ⟨rfl, by unfold I64; dsimp only; omega, ?_, by dsimp only; omega, fun m hm hh hle => by have := key m hh hle; dsimp only; omega⟩
      rw [has_iff]; refine .inr ⟨hM, ?_⟩
      rw [Int.add_emod, Int.emod_emod_of_dvd _ (Int.dvd_refl _), ← Int.add_emod, show n + (c.R - n) = c.R by omega]
      exact Int.emod_eq_of_lt r.2.1 (by omega)

theorem greatest_spec {c : S.Cong} (hc : CR c) {n : Int} (hn : I64 n) :
    ((greatest c n).2 = true ∧ I64 (greatest c n).1 ∧ has c (greatest c n).1 = true ∧ (greatest c n).1 ≤ n ∧ ∀ m, I64 m → has c m = true → m ≤ n → m ≤ (greatest c n).1) ∨
    ((greatest c n).2 = false ∧ ∀ m, I64 m → has c m = true → ¬ m ≤ n) := by
  have r := CR_ranges hc
  unfold greatest
  by_cases hM : c.M = 0
  · rw [if_pos hM]
    have hw : wit c = IntKind.i64.wrap c.R := by unfold wit; rw [if_pos hM]
    have h1 := wit_i64 hc; have h2 := wit_has hc
    rw [hw] at h1 h2
    split
    · rename_i h
      exact .inl ⟨rfl, h1, h2, h, fun m hm hh _ => by rw [has_con' hm hM hh, hw]; exact Int.le_refl _⟩
    · rename_i h
      exact .inr ⟨rfl, fun m hm hh hle => h (by rw [has_con' hm hM hh, hw] at hle; exact hle)⟩
  · rw [if_neg hM]
    have hpos : 0 < c.M := by omega
    have q := mod_range (n - c.R) c.M hpos
    unfold I64 at hn
    have key : ∀ m, has c m = true → m ≤ n → (n - c.R) % c.M ≤ n - m := fun m hh hle => by
      have e := has_val hM hh
      refine mod_le hpos (by omega) ?_
      rw [Int.sub_emod, e, ← Int.emod_eq_of_lt r.2.1 (show c.R < c.M by omega), ← Int.sub_emod, Int.emod_eq_of_lt r.2.1 (show c.R < c.M by omega)]
    split
    · rename_i h
      exact .inr ⟨rfl, fun m hm hh hle => by have := key m hh hle; unfold I64 at hm; omega⟩
    · rename_i h
      refine .inl ⟨rfl, by unfold I64; dsimp only; omega, ?_, by dsimp only; omega, fun m hm hh hle => by have := key m hh hle; dsimp only; omega⟩
      rw [has_iff]; refine .inr ⟨hM, ?_⟩
      rw [Int.sub_emod, Int.emod_emod_of_dvd _ (Int.dvd_refl _), ← Int.sub_emod, show n - (n - c.R) = c.R by omega]
      exact Int.emod_eq_of_lt r.2.1 (by omega)

/-- A number of an interval and of a congruence. -/
def In (i : S.Inter) (c : S.Cong) (n : Int) : Prop := i.Lo ≤ n ∧ n ≤ i.Hi ∧ has c n = true

/-- What is made of them. -/
inductive Made (i : S.Inter) (c : S.Cong) : S.Value → Prop
  | no (h : ∀ n, I64 n → ¬ In i c n) : Made i c bot
  | yes (lo hi : Int) (hl : I64 lo) (hh : I64 hi) (hle : lo ≤ hi) (h1 : In i c lo) (h2 : In i c hi) (h : ∀ n, I64 n → In i c n → lo ≤ n ∧ n ≤ hi) : Made i c (if lo = hi then one lo else ⟨⟨lo, hi⟩, c⟩)

theorem Made.unique {i : S.Inter} {c : S.Cong} {v v' : S.Value} (h : Made i c v) (h' : Made i c v') : v = v' := by
  cases h with
  | no h =>
    cases h' with
    | no _ => rfl
    | yes lo hi hl hh hle h1 _ _ => exact absurd h1 (h lo hl)
  | yes lo hi hl hh hle h1 h2 h3 =>
    cases h' with
    | no h' => exact absurd h1 (h' lo hl)
    | yes lo' hi' hl' hh' hle' h1' h2' h3' =>
      have a := h3 lo' hl' h1'; have b := h3 hi' hh' h2'; have c := h3' lo hl h1; have d := h3' hi hh h2
      obtain rfl : lo = lo' := by omega
      obtain rfl : hi = hi' := by omega
      rfl

/-- The congruence, made right. -/
def rc (c : S.Cong) : S.Cong := if c.M = 0 then c else ⟨c.M, c.R % c.M⟩

theorem rc_CR {c : S.Cong} (hc : S.Cong.ok c) : CR (rc c) := by
  rw [ok_iff] at hc
  unfold rc
  by_cases h : c.M = 0
  · rw [if_pos h]; exact ⟨by rw [ok_iff]; exact hc, by rw [Right_iff]; exact .inl h⟩
  · rw [if_neg h]
    have q := mod_range c.R c.M (by omega)
    refine ⟨by rw [ok_iff]; dsimp only; omega, by rw [Right_iff]; exact .inr q.2⟩
theorem rc_of {c : S.Cong} (hc : CR c) : rc c = c := by
  have r := CR_ranges hc
  unfold rc
  by_cases h : c.M = 0
  · rw [if_pos h]
  · rw [if_neg h]
    exact S.Cong.ext rfl (Int.emod_eq_of_lt r.2.1 (by omega))

theorem rc_cut (c : S.Cong) (hc : S.Cong.ok c) : (⟨c.M, (bif !(S.cong_Cong_Right c) then Int.tmod c.R c.M else c.R)⟩ : S.Cong) = rc c := by
  have hc' := (ok_iff c).1 hc
  cases h : S.cong_Cong_Right c with
  | true =>
    rw [Right_eq] at h
    have h' := (Right_iff c).1 h
    rw [rc_of ⟨hc, h⟩]; rfl
  | false =>
    have : ¬ (c.M = 0 ∨ c.R < c.M) := fun e => by rw [← Right_iff, ← Right_eq, h] at e; cases e
    unfold rc
    rw [if_neg (by omega), Bool.not_false, cond_true, tmod_pos _ _ hc'.2.1]

theorem made (i : S.Inter) (c : S.Cong) (hi : IR i) (hc : S.Cong.ok c) : Made i (rc c) (S.value_Make i c) ∧ S.value_Make_pre i c := by
  have hr := rc_CR hc
  obtain ⟨l1, _, l3, _⟩ := Least_both (rc c) i.Lo hr.1 hr.2 (inr_i64.2 hi.1)
  obtain ⟨g1, _, g3, _⟩ := Greatest_both (rc c) i.Hi hr.1 hr.2 (inr_i64.2 hi.2)
  refine ⟨?_, ?_⟩
  · simp only [value_Make, rc_cut c hc, l1, g1, SI.isEmpty_eq]
    by_cases he : i.Lo > i.Hi
    · rw [decide_eq_true he]
      simp only [Bool.true_or, cond_true]
      exact .no fun n _ h => by have := h.1; have := h.2.1; omega
    · rw [decide_eq_false he]
      rcases least_spec hr hi.1 with ⟨a1, a2, a3, a4, a5⟩ | ⟨a1, a2⟩
      · rcases greatest_spec hr hi.2 with ⟨b1, b2, b3, b4, b5⟩ | ⟨b1, b2⟩
        · rw [a1, b1]
          simp only [Bool.not_true, Bool.false_or]
          by_cases hgt : (least (rc c) i.Lo).1 > (greatest (rc c) i.Hi).1
          · rw [decide_eq_true hgt]
            exact .no fun n hn h => by have := a5 n hn h.2.2 h.1; have := b5 n hn h.2.2 h.2.1; omega
          · rw [decide_eq_false hgt, cond_false]
            have hm := Made.yes (i := i) (c := rc c) _ _ a2 b2 (by omega) ⟨a4, by omega, a3⟩ ⟨by omega, b4, b3⟩ (fun n hn h => ⟨a5 n hn h.2.2 h.1, b5 n hn h.2.2 h.2.1⟩)
            by_cases he2 : (least (rc c) i.Lo).1 = (greatest (rc c) i.Hi).1
            · rw [if_pos he2] at hm
              rw [show ((least (rc c) i.Lo).1 == (greatest (rc c) i.Hi).1) = true by simpa using he2, cond_true]
              exact hm
            · rw [if_neg he2] at hm
              rw [show ((least (rc c) i.Lo).1 == (greatest (rc c) i.Hi).1) = false from beq_eq_false_iff_ne.2 he2, cond_false]
              rw [SI.Of_eq, SI.P_n (by dsimp only; exact hgt)]
              exact hm
        · rw [b1]
          simp only [Bool.not_false, Bool.or_true, Bool.true_or, cond_true]
          exact .no fun n hn h => b2 n hn h.2.2 h.2.1
      · rw [a1]
        simp only [Bool.not_false, Bool.or_true, Bool.true_or, cond_true]
        exact .no fun n hn h => a2 n hn h.2.2 h.1
  · simp only [value_Make_pre, rc_cut c hc, All, and_true]
    refine ⟨⟨fun h hM => ?_, l3, g3⟩, fun _ => trivial, fun _ => ⟨fun _ => trivial, fun _ => trivial⟩⟩
    have : S.cong_Cong_Right c = true := by rw [Right_eq, Right_iff]; exact .inl hM
    rw [this] at h; cases h

theorem up_eq (M R n : Int) (hM : 0 < M) (hM2 : M ≤ 18446744073709551615) (hR : 0 ≤ R ∧ R < M) (hn : I64 n) : S.ref21_up ⟨M, R⟩ n = (R - n) % M ∧ S.ref21_up_pre ⟨M, R⟩ n := by
  have e := Rest_eq n M hn hM hM2
  have q := mod_range n M hM
  refine ⟨?_, ?_⟩
  · simp only [ref21_up, e]
    have h := Int.emod_add_mul_ediv n M
    by_cases hle : n % M ≤ R
    · rw [decide_eq_true hle, cond_true, IntWalk.u64_in _ (by omega)]
      symm
      refine emod_unique (q := -(n / M)) ?_ (by omega) (by omega)
      rw [Int.mul_neg]; omega
    · rw [decide_eq_false hle, cond_false, IntWalk.u64_in (n % M - R) (by omega), IntWalk.u64_in _ (by omega)]
      symm
      refine emod_unique (q := -(n / M) - 1) ?_ (by omega) (by omega)
      rw [Int.mul_sub, Int.mul_neg]; omega
  · simp only [ref21_up_pre, All, and_true]
    exact ⟨Rest_pre _ _ (by omega), fun _ => trivial, fun _ => trivial⟩

theorem down_eq (M R n : Int) (hM : 0 < M) (hM2 : M ≤ 18446744073709551615) (hR : 0 ≤ R ∧ R < M) (hn : I64 n) : S.ref21_down ⟨M, R⟩ n = (n - R) % M ∧ S.ref21_down_pre ⟨M, R⟩ n := by
  have e := Rest_eq n M hn hM hM2
  have q := mod_range n M hM
  refine ⟨?_, ?_⟩
  · simp only [ref21_down, e]
    have h := Int.emod_add_mul_ediv n M
    by_cases hle : R ≤ n % M
    · rw [decide_eq_true hle, cond_true, IntWalk.u64_in _ (by omega)]
      symm
      refine emod_unique (q := n / M) ?_ (by omega) (by omega)
      omega
    · rw [decide_eq_false hle, cond_false, IntWalk.u64_in (R - n % M) (by omega), IntWalk.u64_in _ (by omega)]
      symm
      refine emod_unique (q := n / M - 1) ?_ (by omega) (by omega)
      rw [Int.mul_sub]; omega
  · simp only [ref21_down_pre, All, and_true]
    exact ⟨Rest_pre _ _ (by omega), fun _ => trivial, fun _ => trivial⟩

theorem rmade (i : S.Inter) (c : S.Cong) (hi : IR i) (hc : S.Cong.ok c) : Made i (rc c) (S.ref21_Make i c) ∧ S.ref21_Make_pre i c := by
  have hr := rc_CR hc
  have hc' := (ok_iff c).1 hc
  by_cases hM : c.M = 0
  · have hrc : rc c = c := by unfold rc; rw [if_pos hM]
    rw [hrc] at hr ⊢
    have hw : IntKind.i64.wrap c.R = wit c := by unfold wit; rw [if_pos hM]
    have h1 := wit_i64 hr; have h2 := wit_has hr
    refine ⟨?_, ?_⟩
    · simp only [ref21_Make, SI.Empty_def, hM, rbot_eq, rone_eq, hw, SI.Has_def]
      by_cases he : i.Lo > i.Hi
      · rw [decide_eq_true he, cond_true]
        exact .no fun n _ h => by have := h.1; have := h.2.1; omega
      · rw [decide_eq_false he]
        simp only [show ((0 : Int) == 0) = true from rfl, cond_true, cond_false]
        by_cases hin : i.Lo ≤ wit c ∧ wit c ≤ i.Hi
        · rw [decide_eq_true hin]
          have hm := Made.yes (i := i) (c := c) _ _ h1 h1 (Int.le_refl _) ⟨hin.1, hin.2, h2⟩ ⟨hin.1, hin.2, h2⟩ (fun n hn h => by rw [has_con' hn hM h.2.2]; exact ⟨Int.le_refl _, Int.le_refl _⟩)
          rw [if_pos rfl] at hm
          exact hm
        · rw [decide_eq_false hin]
          exact .no fun n hn h => hin (by rw [← has_con' hn hM h.2.2]; exact ⟨h.1, h.2.1⟩)
    · simp only [ref21_Make_pre, hM, All, and_true]
      exact ⟨fun _ => trivial, fun _ => ⟨fun _ => ⟨fun _ => trivial, fun _ => rone_pre _⟩, fun h => by cases h⟩⟩
  · have hrc : rc c = ⟨c.M, c.R % c.M⟩ := by unfold rc; rw [if_neg hM]
    have hpos : 0 < c.M := by omega
    have q := mod_range c.R c.M hpos
    obtain ⟨u1, u2⟩ := up_eq c.M (c.R % c.M) i.Lo hpos hc'.1.2 q hi.1
    obtain ⟨d1, d2⟩ := down_eq c.M (c.R % c.M) i.Hi hpos hc'.1.2 q hi.2
    have qa := mod_range (c.R % c.M - i.Lo) c.M hpos
    have qb := mod_range (i.Hi - c.R % c.M) c.M hpos
    obtain ⟨⟨i1, i2⟩, ⟨i3, i4⟩⟩ := hi
    have hspan : ¬ i.Lo > i.Hi → IntKind.u64.wrap (IntKind.u64.wrap i.Hi - IntKind.u64.wrap i.Lo) = i.Hi - i.Lo := fun he => by
      rw [IntKind.wrap_u64, IntKind.wrap_u64, IntKind.wrap_u64]; omega
    refine ⟨?_, ?_⟩
    · simp only [ref21_Make, SI.Empty_def, rbot_eq, rone_eq, tmod_pos _ _ hc'.2.1, u1, d1]
      by_cases he : i.Lo > i.Hi
      · rw [decide_eq_true he, cond_true]
        exact .no fun n _ h => by have := h.1; have := h.2.1; omega
      · rw [decide_eq_false he, show (c.M == 0) = false from beq_eq_false_iff_ne.2 hM, cond_false, cond_false, hspan he]
        have la := least_spec hr (n := i.Lo) ⟨i1, i2⟩
        have ga := greatest_spec hr (n := i.Hi) ⟨i3, i4⟩
        simp only [least, greatest, hrc, if_neg hM] at la ga
        generalize (c.R % c.M - i.Lo) % c.M = a at *
        generalize (i.Hi - c.R % c.M) % c.M = b at *
        have none : i.Lo + a > i.Hi - b → Made i (rc c) bot := fun hgt => by
          rw [hrc]
          refine .no fun n hn h => ?_
          have hn' := hn
          unfold I64 at hn'
          rcases la with ⟨l1, _, _, _, l5⟩ | ⟨_, l2⟩
          · rcases ga with ⟨g1, _, _, _, g5⟩ | ⟨_, g2⟩
            · have k1 := l5 n hn h.2.2 h.1
              have k2 := g5 n hn h.2.2 h.2.1
              split at k1
              · rename_i hh; rw [if_pos hh] at l1; cases l1
              · split at k2
                · rename_i hh; rw [if_pos hh] at g1; cases g1
                · dsimp only at k1 k2; omega
            · exact g2 n hn h.2.2 h.2.1
          · exact l2 n hn h.2.2 h.1
        by_cases ha : a > i.Hi - i.Lo
        · rw [decide_eq_true ha]
          simp only [Bool.true_or, cond_true]
          exact none (by omega)
        · by_cases hb : b > i.Hi - i.Lo
          · rw [decide_eq_true hb]
            simp only [Bool.true_or, Bool.or_true, cond_true]
            exact none (by omega)
          · rw [decide_eq_false ha, decide_eq_false hb, IntWalk.u64_in (i.Hi - i.Lo - b) (by omega)]
            by_cases hab : a > i.Hi - i.Lo - b
            · rw [decide_eq_true hab]
              simp only [Bool.or_true, cond_true]
              exact none (by omega)
            · rw [decide_eq_false hab]
              simp only [Bool.or_false, cond_false]
              have e1 : IntKind.i64.wrap (IntKind.u64.wrap (IntKind.u64.wrap i.Lo + a)) = i.Lo + a := by
                rw [IntKind.wrap_u64, IntKind.wrap_u64, IntKind.wrap_i64]; omega
              have e2 : IntKind.i64.wrap (IntKind.u64.wrap (IntKind.u64.wrap i.Hi - b)) = i.Hi - b := by
                rw [IntKind.wrap_u64, IntKind.wrap_u64, IntKind.wrap_i64]; omega
              rw [e1, e2, hrc]
              have l1 : ¬ a > 9223372036854775807 - i.Lo := by omega
              have g1 : ¬ b > i.Hi + 9223372036854775808 := by omega
              rw [if_neg l1] at la
              rw [if_neg g1] at ga
              rcases la with ⟨_, l2, l3, l4, l5⟩ | ⟨l1, _⟩
              · rcases ga with ⟨_, g2, g3, g4, g5⟩ | ⟨g1, _⟩
                · dsimp only at l2 l3 l4 l5 g2 g3 g4 g5
                  have hm := Made.yes (i := i) (c := ⟨c.M, c.R % c.M⟩) (i.Lo + a) (i.Hi - b) l2 g2 (by omega) ⟨l4, by omega, l3⟩ ⟨by omega, g4, g3⟩ (fun n hn h => ⟨l5 n hn h.2.2 h.1, g5 n hn h.2.2 h.2.1⟩)
                  by_cases he2 : i.Lo + a = i.Hi - b
                  · rw [if_pos he2] at hm
                    rw [show (i.Lo + a == i.Hi - b) = true by simpa using he2, cond_true]
                    exact hm
                  · rw [if_neg he2] at hm
                    rw [show (i.Lo + a == i.Hi - b) = false from beq_eq_false_iff_ne.2 he2, cond_false]
                    exact hm
                · cases g1
              · cases l1
    · simp only [ref21_Make_pre, All, and_true, tmod_pos _ _ hc'.2.1]
      exact ⟨fun _ => trivial, fun _ => ⟨fun h => absurd (by simpa using h) hM, fun _ => ⟨⟨hM, u2, d2⟩, fun _ => trivial, fun _ => ⟨fun _ => rone_pre _, fun _ => trivial⟩⟩⟩⟩

theorem Make_same (i : S.Inter) (c : S.Cong) (hi : IR i) (hc : S.Cong.ok c) : S.value_Make i c = S.ref21_Make i c := (made i c hi hc).1.unique (rmade i c hi hc).1
end SV
