/-
  Printed by a program out of the plain texts of another seat: what the smaller packages' functions compute, in plain words. Conditions: those that each theorem states.
-/
import Derived.Test.YtcgafjhkefcdfaaGreatDoorQKDefs
import Derived.Test.YtcgafjhkefcdfaaGreatDoorQKInter
import Derived.Test.YtcgafjhkefcdfaaGreatDoorQKCong
import Derived.Test.YtcgafjhkefcdfaaGreatDoorQKNat
import Derived.Test.YtcgafjhkefcdfaaGreatDoorQKDiv
set_option linter.all false
open Go Vm
def S.ref19_Meet (a : S.Inter) (b : S.Inter) : S.Inter :=
 let m1 : Int := if b.Lo > a.Lo then b.Lo else a.Lo
 let m2 : Int := if b.Hi < a.Hi then b.Hi else a.Hi
 let r3 : S.Inter := S.ref19_Plain (⟨m1, m2⟩ : S.Inter)
 r3
namespace SV
open S
open S SC
def CR (c : S.Cong) : Prop := S.Cong.ok c ∧ S.ref20_Right c = true
def wit (c : S.Cong) : Int := if c.M = 0 then IntKind.i64.wrap c.R else if c.R ≤ 9223372036854775807 then c.R else c.R - c.M
theorem wit_i64 {c : S.Cong} (h : CR c) : I64 (wit c) := by
 obtain ⟨h1, h2⟩ := h
 rw [ok_iff] at h1; rw [Right_iff] at h2
 unfold wit I64
 by_cases hM : c.M = 0
 ·rw [if_pos hM, IntKind.wrap_i64]; omega
 ·rw [if_neg hM]
  split <;> omega
theorem wit_has {c : S.Cong} (h : CR c) : has c (wit c) = true := by
 obtain ⟨h1, h2⟩ := h
 rw [ok_iff] at h1; rw [Right_iff] at h2
 rw [has_iff]
 unfold wit
 by_cases hM : c.M = 0
 ·left; rw [if_pos hM, IntKind.wrap_i64, IntKind.wrap_u64]; omega
 ·right
  rw [if_neg hM]
  refine ⟨hM, ?_⟩
  split
  ·exact Int.emod_eq_of_lt (by omega) (by omega)
  ·rw [Int.sub_emod_right]; exact Int.emod_eq_of_lt (by omega) (by omega)
theorem le_iff {a b : S.Cong} (ha : CR a) (hb : CR b) : S.cong_Within a b = true ↔ (b.M = 0 ∧ a = b) ∨ (b.M ≠ 0 ∧ b.M ∣ a.M ∧ wit a % b.M = b.R) := by
 rw [Within_iff a b ha.1 hb.1]
 have h : b.M ∣ a.M → B a b.M = wit a % b.M := fun hd => B_has a (wit a) b.M (wit_i64 ha) (wit_has ha) hd
 constructor
 ·rintro (h1 | ⟨h1, h2, h3⟩)
  ·exact .inl h1
  ·have hd := Int.dvd_of_emod_eq_zero h2
   exact .inr ⟨h1, hd, by rw [← h hd]; exact h3⟩
 ·rintro (h1 | ⟨h1, h2, h3⟩)
  ·exact .inl h1
  ·exact .inr ⟨h1, Int.emod_eq_zero_of_dvd h2, by rw [h h2]; exact h3⟩
theorem has_val {c : S.Cong} {n : Int} (hM : c.M ≠ 0) (h : has c n = true) : n % c.M = c.R := by
 rcases (has_iff c n).1 h with ⟨h, _⟩ | ⟨_, h⟩
 ·exact absurd h hM
 ·exact h
theorem has_con' {c : S.Cong} {n : Int} (hn : I64 n) (hM : c.M = 0) (h : has c n = true) : n = wit c := by
 rcases (has_iff c n).1 h with ⟨_, h⟩ | ⟨h, _⟩
 ·unfold wit; rw [if_pos hM]; exact (num_of _ _ hn h).symm
 ·exact absurd hM h
theorem le_num {a b : S.Cong} (ha : CR a) (hb : CR b) {n : Int} (hn : I64 n) (h : has a n = true) : S.cong_Within a b = true ↔ (b.M = 0 ∧ a = b) ∨ (b.M ≠ 0 ∧ b.M ∣ a.M ∧ n % b.M = b.R) := by
 rw [le_iff ha hb]
 have key : b.M ∣ a.M → wit a % b.M = n % b.M := fun hd => by
  rw [← B_has a (wit a) b.M (wit_i64 ha) (wit_has ha) hd, ← B_has a n b.M hn h hd]
 constructor
 ·rintro (h1 | ⟨h1, h2, h3⟩)
  ·exact .inl h1
  ·exact .inr ⟨h1, h2, by rw [← key h2]; exact h3⟩
 ·rintro (h1 | ⟨h1, h2, h3⟩)
  ·exact .inl h1
  ·exact .inr ⟨h1, h2, by rw [key h2]; exact h3⟩
theorem le_refl {a : S.Cong} (ha : CR a) : S.cong_Within a a = true := Within_self a ha.1 ha.2
theorem le_has {a b : S.Cong} (ha : CR a) (hb : CR b) (h : S.cong_Within a b = true) {n : Int} (hn : I64 n) (hh : has a n = true) : has b n = true := by
 rcases (le_num ha hb hn hh).1 h with ⟨_, e⟩ | ⟨h1, _, h3⟩
 ·rw [← e]; exact hh
 ·rw [has_iff]; exact .inr ⟨h1, h3⟩
theorem le_trans {a b c : S.Cong} (ha : CR a) (hb : CR b) (hc : CR c) (h1 : S.cong_Within a b = true) (h2 : S.cong_Within b c = true) : S.cong_Within a c = true := by
 have hw := wit_has ha; have hi := wit_i64 ha
 have hwb := le_has ha hb h1 hi hw
 rcases (le_num ha hb hi hw).1 h1 with ⟨_, e⟩ | ⟨b1, b2, b3⟩
 ·rw [e]; exact h2
 ·rcases (le_num hb hc hi hwb).1 h2 with ⟨_, e⟩ | ⟨c1, c2, c3⟩
  ·rw [← e]; exact h1
  ·exact (le_num ha hc hi hw).2 (.inr ⟨c1, Int.dvd_trans c2 b2, c3⟩)
theorem CR_ranges {a : S.Cong} (ha : CR a) : 0 ≤ a.M ∧ 0 ≤ a.R ∧ (a.M = 0 ∨ a.R < a.M) ∧ a.M ≤ 18446744073709551615 ∧ a.R ≤ 18446744073709551615 := by
 obtain ⟨h1, h2⟩ := ha
 rw [ok_iff] at h1; rw [Right_iff] at h2
 omega
theorem const_CR {n : Int} : CR (S.cong_Const n) := by
 refine ⟨?_, ?_⟩
 ·rw [ok_iff]; simp only [cong_Const]; refine ⟨by decide, ?_⟩
  rw [IntKind.wrap_u64]; omega
 ·rw [Right_iff]; exact .inl rfl
theorem const_has {n : Int} : has (S.cong_Const n) n = true := by
 rw [has_iff]; exact .inl ⟨rfl, rfl⟩
theorem const_le {n : Int} (hn : I64 n) {c : S.Cong} (hc : CR c) : S.cong_Within (S.cong_Const n) c = true ↔ has c n = true := by
 constructor
 ·intro h; exact le_has const_CR hc h hn const_has
 ·intro h
  rw [le_num const_CR hc hn const_has]
  rcases (has_iff c n).1 h with ⟨h1, h2⟩ | ⟨h1, h2⟩
  ·exact .inl ⟨h1, S.Cong.ext h1.symm h2⟩
  ·exact .inr ⟨h1, ⟨0, by simp [cong_Const]⟩, h2⟩
theorem top_CR : CR S.cong_Top := ⟨by rw [ok_iff]; decide, by decide⟩
theorem top_has (n : Int) : has S.cong_Top n = true := by
 rw [has_iff]; exact .inr ⟨by decide, Int.emod_one n⟩
open S SC
instance : DecidableEq S.Inter := fun a b => decidable_of_iff (a.Lo = b.Lo ∧ a.Hi = b.Hi) (by rw [S.Inter.ext_iff])
instance : DecidableEq S.Value := fun a b => decidable_of_iff (a.I = b.I ∧ a.C = b.C) (by rw [S.Value.ext_iff])
def bot : S.Value := ⟨⟨1, 0⟩, ⟨1, 0⟩⟩
def one (n : Int) : S.Value := ⟨⟨n, n⟩, S.cong_Const n⟩
def IR (i : S.Inter) : Prop := I64 i.Lo ∧ I64 i.Hi
theorem bot_eq : S.value_Bottom = bot := rfl
theorem rbot_eq : S.ref21_Bottom = bot := rfl
theorem one_eq (n : Int) : S.value_One n = one n := rfl
theorem rone_eq (n : Int) : S.ref21_One n = one n := by
 simp only [ref21_One, ref20_Make]; rfl
theorem rone_pre (n : Int) : S.ref21_One_pre n := by
 simp only [ref21_One_pre, All, and_true]; exact refMake_pre _ _
theorem mod_le {x m r : Int} (hm : 0 < m) (hx : 0 ≤ x) (h : x % m = r % m) : r % m ≤ x := by
 rw [← h]
 have := Int.emod_add_mul_ediv x m
 have h2 : 0 ≤ m * (x / m) := Int.mul_nonneg (by omega) (Int.ediv_nonneg hx (by omega))
 omega
theorem least_spec {c : S.Cong} (hc : CR c) {n : Int} (hn : I64 n) :
  ((least c n).2 = true ∧ I64 (least c n).1 ∧ has c (least c n).1 = true ∧ n ≤ (least c n).1 ∧ ∀ m, I64 m → has c m = true → n ≤ m → (least c n).1 ≤ m) ∨
  ((least c n).2 = false ∧ ∀ m, I64 m → has c m = true → ¬ n ≤ m) := by
 have r := CR_ranges hc
 unfold least
 by_cases hM : c.M = 0
 ·rw [if_pos hM]
  have hw : wit c = IntKind.i64.wrap c.R := by unfold wit; rw [if_pos hM]
  have h1 := wit_i64 hc; have h2 := wit_has hc
  rw [hw] at h1 h2
  split
  ·rename_i h
   exact .inl ⟨rfl, h1, h2, h, fun m hm hh _ => by rw [has_con' hm hM hh, hw]; exact Int.le_refl _⟩
  ·rename_i h
   exact .inr ⟨rfl, fun m hm hh hle => h (by rw [has_con' hm hM hh, hw] at hle; exact hle)⟩
 ·rw [if_neg hM]
  have hpos : 0 < c.M := by omega
  have q := mod_range (c.R - n) c.M hpos
  unfold I64 at hn
  have key : ∀ m, has c m = true → n ≤ m → (c.R - n) % c.M ≤ m - n := fun m hh hle => by
   have e := has_val hM hh
   refine mod_le hpos (by omega) ?_
   rw [Int.sub_emod, e, ← Int.emod_eq_of_lt r.2.1 (show c.R < c.M by omega), ← Int.sub_emod, Int.emod_eq_of_lt r.2.1 (show c.R < c.M by omega)]
  split
  ·rename_i h
   exact .inr ⟨rfl, fun m hm hh hle => by have := key m hh hle; unfold I64 at hm; omega⟩
  ·rename_i h
   refine .inl ⟨rfl, by unfold I64; dsimp only; omega, ?_, by dsimp only; omega, fun m hm hh hle => by have := key m hh hle; dsimp only; omega⟩
   rw [has_iff]; refine .inr ⟨hM, ?_⟩
   rw [Int.add_emod, Int.emod_emod_of_dvd _ (Int.dvd_refl _), ← Int.add_emod, show n + (c.R - n) = c.R by omega]
   exact Int.emod_eq_of_lt r.2.1 (by omega)
theorem greatest_spec {c : S.Cong} (hc : CR c) {n : Int} (hn : I64 n) :
  ((greatest c n).2 = true ∧ I64 (greatest c n).1 ∧ has c (greatest c n).1 = true ∧ (greatest c n).1 ≤ n ∧ ∀ m, I64 m → has c m = true → m ≤ n → m ≤ (greatest c n).1) ∨
  ((greatest c n).2 = false ∧ ∀ m, I64 m → has c m = true → ¬ m ≤ n) := by
 have r := CR_ranges hc
 unfold greatest
 by_cases hM : c.M = 0
 ·rw [if_pos hM]
  have hw : wit c = IntKind.i64.wrap c.R := by unfold wit; rw [if_pos hM]
  have h1 := wit_i64 hc; have h2 := wit_has hc
  rw [hw] at h1 h2
  split
  ·rename_i h
   exact .inl ⟨rfl, h1, h2, h, fun m hm hh _ => by rw [has_con' hm hM hh, hw]; exact Int.le_refl _⟩
  ·rename_i h
   exact .inr ⟨rfl, fun m hm hh hle => h (by rw [has_con' hm hM hh, hw] at hle; exact hle)⟩
 ·rw [if_neg hM]
  have hpos : 0 < c.M := by omega
  have q := mod_range (n - c.R) c.M hpos
  unfold I64 at hn
  have key : ∀ m, has c m = true → m ≤ n → (n - c.R) % c.M ≤ n - m := fun m hh hle => by
   have e := has_val hM hh
   refine mod_le hpos (by omega) ?_
   rw [Int.sub_emod, e, ← Int.emod_eq_of_lt r.2.1 (show c.R < c.M by omega), ← Int.sub_emod, Int.emod_eq_of_lt r.2.1 (show c.R < c.M by omega)]
  split
  ·rename_i h
   exact .inr ⟨rfl, fun m hm hh hle => by have := key m hh hle; unfold I64 at hm; omega⟩
  ·rename_i h
   refine .inl ⟨rfl, by unfold I64; dsimp only; omega, ?_, by dsimp only; omega, fun m hm hh hle => by have := key m hh hle; dsimp only; omega⟩
   rw [has_iff]; refine .inr ⟨hM, ?_⟩
   rw [Int.sub_emod, Int.emod_emod_of_dvd _ (Int.dvd_refl _), ← Int.sub_emod, show n - (n - c.R) = c.R by omega]
   exact Int.emod_eq_of_lt r.2.1 (by omega)
def In (i : S.Inter) (c : S.Cong) (n : Int) : Prop := i.Lo ≤ n ∧ n ≤ i.Hi ∧ has c n = true
inductive Made (i : S.Inter) (c : S.Cong) : S.Value → Prop
 | no (h : ∀ n, I64 n → ¬ In i c n) : Made i c bot
 | yes (lo hi : Int) (hl : I64 lo) (hh : I64 hi) (hle : lo ≤ hi) (h1 : In i c lo) (h2 : In i c hi) (h : ∀ n, I64 n → In i c n → lo ≤ n ∧ n ≤ hi) : Made i c (if lo = hi then one lo else ⟨⟨lo, hi⟩, c⟩)
theorem Made.unique {i : S.Inter} {c : S.Cong} {v v' : S.Value} (h : Made i c v) (h' : Made i c v') : v = v' := by
 cases h with
 | no h =>
  cases h' with
  | no _ => rfl
  | yes lo hi hl hh hle h1 _ _ => exact absurd h1 (h lo hl)
 | yes lo hi hl hh hle h1 h2 h3 =>
  cases h' with
  | no h' => exact absurd h1 (h' lo hl)
  | yes lo' hi' hl' hh' hle' h1' h2' h3' =>
   have a := h3 lo' hl' h1'; have b := h3 hi' hh' h2'; have c := h3' lo hl h1; have d := h3' hi hh h2
   obtain rfl : lo = lo' := by omega
   obtain rfl : hi = hi' := by omega
   rfl
def rc (c : S.Cong) : S.Cong := if c.M = 0 then c else ⟨c.M, c.R % c.M⟩
theorem rc_CR {c : S.Cong} (hc : S.Cong.ok c) : CR (rc c) := by
 rw [ok_iff] at hc
 unfold rc
 by_cases h : c.M = 0
 ·rw [if_pos h]; exact ⟨by rw [ok_iff]; exact hc, by rw [Right_iff]; exact .inl h⟩
 ·rw [if_neg h]
  have q := mod_range c.R c.M (by omega)
  refine ⟨by rw [ok_iff]; dsimp only; omega, by rw [Right_iff]; exact .inr q.2⟩
theorem rc_of {c : S.Cong} (hc : CR c) : rc c = c := by
 have r := CR_ranges hc
 unfold rc
 by_cases h : c.M = 0
 ·rw [if_pos h]
 ·rw [if_neg h]
  exact S.Cong.ext rfl (Int.emod_eq_of_lt r.2.1 (by omega))
theorem rc_cut (c : S.Cong) (hc : S.Cong.ok c) : (⟨c.M, (bif !(S.cong_Cong_Right c) then Int.tmod c.R c.M else c.R)⟩ : S.Cong) = rc c := by
 have hc' := (ok_iff c).1 hc
 cases h : S.cong_Cong_Right c with
 | true =>
  rw [Right_eq] at h
  have h' := (Right_iff c).1 h
  rw [rc_of ⟨hc, h⟩]; rfl
 | false =>
  have : ¬ (c.M = 0 ∨ c.R < c.M) := fun e => by rw [← Right_iff, ← Right_eq, h] at e; cases e
  unfold rc
  rw [if_neg (by omega), Bool.not_false, cond_true, tmod_pos _ _ hc'.2.1]
theorem made (i : S.Inter) (c : S.Cong) (hi : IR i) (hc : S.Cong.ok c) : Made i (rc c) (S.value_Make i c) ∧ S.value_Make_pre i c := by
 have hr := rc_CR hc
 obtain ⟨l1, _, l3, _⟩ := Least_both (rc c) i.Lo hr.1 hr.2 (inr_i64.2 hi.1)
 obtain ⟨g1, _, g3, _⟩ := Greatest_both (rc c) i.Hi hr.1 hr.2 (inr_i64.2 hi.2)
 refine ⟨?_, ?_⟩
 ·simp only [value_Make, rc_cut c hc, l1, g1, SI.isEmpty_eq]
  by_cases he : i.Lo > i.Hi
  ·rw [decide_eq_true he]
   simp only [Bool.true_or, cond_true]
   exact .no fun n _ h => by have := h.1; have := h.2.1; omega
  ·rw [decide_eq_false he]
   rcases least_spec hr hi.1 with ⟨a1, a2, a3, a4, a5⟩ | ⟨a1, a2⟩
   ·rcases greatest_spec hr hi.2 with ⟨b1, b2, b3, b4, b5⟩ | ⟨b1, b2⟩
    ·rw [a1, b1]
     simp only [Bool.not_true, Bool.false_or]
     by_cases hgt : (least (rc c) i.Lo).1 > (greatest (rc c) i.Hi).1
     ·rw [decide_eq_true hgt]
      exact .no fun n hn h => by have := a5 n hn h.2.2 h.1; have := b5 n hn h.2.2 h.2.1; omega
     ·rw [decide_eq_false hgt, cond_false]
      have hm := Made.yes (i := i) (c := rc c) _ _ a2 b2 (by omega) ⟨a4, by omega, a3⟩ ⟨by omega, b4, b3⟩ (fun n hn h => ⟨a5 n hn h.2.2 h.1, b5 n hn h.2.2 h.2.1⟩)
      by_cases he2 : (least (rc c) i.Lo).1 = (greatest (rc c) i.Hi).1
      ·rw [if_pos he2] at hm
       rw [show ((least (rc c) i.Lo).1 == (greatest (rc c) i.Hi).1) = true by simpa using he2, cond_true]
       exact hm
      ·rw [if_neg he2] at hm
       rw [show ((least (rc c) i.Lo).1 == (greatest (rc c) i.Hi).1) = false from beq_eq_false_iff_ne.2 he2, cond_false]
       rw [SI.Of_eq, SI.P_n (by dsimp only; exact hgt)]
       exact hm
    ·rw [b1]
     simp only [Bool.not_false, Bool.or_true, Bool.true_or, cond_true]
     exact .no fun n hn h => b2 n hn h.2.2 h.2.1
   ·rw [a1]
    simp only [Bool.not_false, Bool.or_true, Bool.true_or, cond_true]
    exact .no fun n hn h => a2 n hn h.2.2 h.1
 ·simp only [value_Make_pre, rc_cut c hc, All, and_true]
  refine ⟨⟨fun h hM => ?_, l3, g3⟩, fun _ => trivial, fun _ => ⟨fun _ => trivial, fun _ => trivial⟩⟩
  have : S.cong_Cong_Right c = true := by rw [Right_eq, Right_iff]; exact .inl hM
  rw [this] at h; cases h
theorem up_eq (M R n : Int) (hM : 0 < M) (hM2 : M ≤ 18446744073709551615) (hR : 0 ≤ R ∧ R < M) (hn : I64 n) : S.ref21_up ⟨M, R⟩ n = (R - n) % M ∧ S.ref21_up_pre ⟨M, R⟩ n := by
 have e := Rest_eq n M hn hM hM2
 have q := mod_range n M hM
 refine ⟨?_, ?_⟩
 ·simp only [ref21_up, e]
  have h := Int.emod_add_mul_ediv n M
  by_cases hle : n % M ≤ R
  ·rw [decide_eq_true hle, cond_true, IntWalk.u64_in _ (by omega)]
   symm
   refine emod_unique (q := -(n / M)) ?_ (by omega) (by omega)
   rw [Int.mul_neg]; omega
  ·rw [decide_eq_false hle, cond_false, IntWalk.u64_in (n % M - R) (by omega), IntWalk.u64_in _ (by omega)]
   symm
   refine emod_unique (q := -(n / M) - 1) ?_ (by omega) (by omega)
   rw [Int.mul_sub, Int.mul_neg]; omega
 ·simp only [ref21_up_pre, All, and_true]
  exact ⟨Rest_pre _ _ (by omega), fun _ => trivial, fun _ => trivial⟩
theorem down_eq (M R n : Int) (hM : 0 < M) (hM2 : M ≤ 18446744073709551615) (hR : 0 ≤ R ∧ R < M) (hn : I64 n) : S.ref21_down ⟨M, R⟩ n = (n - R) % M ∧ S.ref21_down_pre ⟨M, R⟩ n := by
 have e := Rest_eq n M hn hM hM2
 have q := mod_range n M hM
 refine ⟨?_, ?_⟩
 ·simp only [ref21_down, e]
  have h := Int.emod_add_mul_ediv n M
  by_cases hle : R ≤ n % M
  ·rw [decide_eq_true hle, cond_true, IntWalk.u64_in _ (by omega)]
   symm
   refine emod_unique (q := n / M) ?_ (by omega) (by omega)
   omega
  ·rw [decide_eq_false hle, cond_false, IntWalk.u64_in (R - n % M) (by omega), IntWalk.u64_in _ (by omega)]
   symm
   refine emod_unique (q := n / M - 1) ?_ (by omega) (by omega)
   rw [Int.mul_sub]; omega
 ·simp only [ref21_down_pre, All, and_true]
  exact ⟨Rest_pre _ _ (by omega), fun _ => trivial, fun _ => trivial⟩
theorem rmade (i : S.Inter) (c : S.Cong) (hi : IR i) (hc : S.Cong.ok c) : Made i (rc c) (S.ref21_Make i c) ∧ S.ref21_Make_pre i c := by
 have hr := rc_CR hc
 have hc' := (ok_iff c).1 hc
 by_cases hM : c.M = 0
 ·have hrc : rc c = c := by unfold rc; rw [if_pos hM]
  rw [hrc] at hr ⊢
  have hw : IntKind.i64.wrap c.R = wit c := by unfold wit; rw [if_pos hM]
  have h1 := wit_i64 hr; have h2 := wit_has hr
  refine ⟨?_, ?_⟩
  ·simp only [ref21_Make, SI.Empty_def, hM, rbot_eq, rone_eq, hw, SI.Has_def]
   by_cases he : i.Lo > i.Hi
   ·rw [decide_eq_true he, cond_true]
    exact .no fun n _ h => by have := h.1; have := h.2.1; omega
   ·rw [decide_eq_false he]
    simp only [show ((0 : Int) == 0) = true from rfl, cond_true, cond_false]
    by_cases hin : i.Lo ≤ wit c ∧ wit c ≤ i.Hi
    ·rw [decide_eq_true hin]
     have hm := Made.yes (i := i) (c := c) _ _ h1 h1 (Int.le_refl _) ⟨hin.1, hin.2, h2⟩ ⟨hin.1, hin.2, h2⟩ (fun n hn h => by rw [has_con' hn hM h.2.2]; exact ⟨Int.le_refl _, Int.le_refl _⟩)
     rw [if_pos rfl] at hm
     exact hm
    ·rw [decide_eq_false hin]
     exact .no fun n hn h => hin (by rw [← has_con' hn hM h.2.2]; exact ⟨h.1, h.2.1⟩)
  ·simp only [ref21_Make_pre, hM, All, and_true]
   exact ⟨fun _ => trivial, fun _ => ⟨fun _ => ⟨fun _ => trivial, fun _ => rone_pre _⟩, fun h => by cases h⟩⟩
 ·have hrc : rc c = ⟨c.M, c.R % c.M⟩ := by unfold rc; rw [if_neg hM]
  have hpos : 0 < c.M := by omega
  have q := mod_range c.R c.M hpos
  obtain ⟨u1, u2⟩ := up_eq c.M (c.R % c.M) i.Lo hpos hc'.1.2 q hi.1
  obtain ⟨d1, d2⟩ := down_eq c.M (c.R % c.M) i.Hi hpos hc'.1.2 q hi.2
  have qa := mod_range (c.R % c.M - i.Lo) c.M hpos
  have qb := mod_range (i.Hi - c.R % c.M) c.M hpos
  obtain ⟨⟨i1, i2⟩, ⟨i3, i4⟩⟩ := hi
  have hspan : ¬ i.Lo > i.Hi → IntKind.u64.wrap (IntKind.u64.wrap i.Hi - IntKind.u64.wrap i.Lo) = i.Hi - i.Lo := fun he => by
   rw [IntKind.wrap_u64, IntKind.wrap_u64, IntKind.wrap_u64]; omega
  refine ⟨?_, ?_⟩
  ·simp only [ref21_Make, SI.Empty_def, rbot_eq, rone_eq, tmod_pos _ _ hc'.2.1, u1, d1]
   by_cases he : i.Lo > i.Hi
   ·rw [decide_eq_true he, cond_true]
    exact .no fun n _ h => by have := h.1; have := h.2.1; omega
   ·rw [decide_eq_false he, show (c.M == 0) = false from beq_eq_false_iff_ne.2 hM, cond_false, cond_false, hspan he]
    have la := least_spec hr (n := i.Lo) ⟨i1, i2⟩
    have ga := greatest_spec hr (n := i.Hi) ⟨i3, i4⟩
    simp only [least, greatest, hrc, if_neg hM] at la ga
    generalize (c.R % c.M - i.Lo) % c.M = a at *
    generalize (i.Hi - c.R % c.M) % c.M = b at *
    have none : i.Lo + a > i.Hi - b → Made i (rc c) bot := fun hgt => by
     rw [hrc]
     refine .no fun n hn h => ?_
     have hn' := hn
     unfold I64 at hn'
     rcases la with ⟨l1, _, _, _, l5⟩ | ⟨_, l2⟩
     ·rcases ga with ⟨g1, _, _, _, g5⟩ | ⟨_, g2⟩
      ·have k1 := l5 n hn h.2.2 h.1
       have k2 := g5 n hn h.2.2 h.2.1
       split at k1
       ·rename_i hh; rw [if_pos hh] at l1; cases l1
       ·split at k2
        ·rename_i hh; rw [if_pos hh] at g1; cases g1
        ·dsimp only at k1 k2; omega
      ·exact g2 n hn h.2.2 h.2.1
     ·exact l2 n hn h.2.2 h.1
    by_cases ha : a > i.Hi - i.Lo
    ·rw [decide_eq_true ha]
     simp only [Bool.true_or, cond_true]
     exact none (by omega)
    ·by_cases hb : b > i.Hi - i.Lo
     ·rw [decide_eq_true hb]
      simp only [Bool.true_or, Bool.or_true, cond_true]
      exact none (by omega)
     ·rw [decide_eq_false ha, decide_eq_false hb, IntWalk.u64_in (i.Hi - i.Lo - b) (by omega)]
      by_cases hab : a > i.Hi - i.Lo - b
      ·rw [decide_eq_true hab]
       simp only [Bool.or_true, cond_true]
       exact none (by omega)
      ·rw [decide_eq_false hab]
       simp only [Bool.or_false, cond_false]
       have e1 : IntKind.i64.wrap (IntKind.u64.wrap (IntKind.u64.wrap i.Lo + a)) = i.Lo + a := by
        rw [IntKind.wrap_u64, IntKind.wrap_u64, IntKind.wrap_i64]; omega
       have e2 : IntKind.i64.wrap (IntKind.u64.wrap (IntKind.u64.wrap i.Hi - b)) = i.Hi - b := by
        rw [IntKind.wrap_u64, IntKind.wrap_u64, IntKind.wrap_i64]; omega
       rw [e1, e2, hrc]
       have l1 : ¬ a > 9223372036854775807 - i.Lo := by omega
       have g1 : ¬ b > i.Hi + 9223372036854775808 := by omega
       rw [if_neg l1] at la
       rw [if_neg g1] at ga
       rcases la with ⟨_, l2, l3, l4, l5⟩ | ⟨l1, _⟩
       ·rcases ga with ⟨_, g2, g3, g4, g5⟩ | ⟨g1, _⟩
        ·dsimp only at l2 l3 l4 l5 g2 g3 g4 g5
         have hm := Made.yes (i := i) (c := ⟨c.M, c.R % c.M⟩) (i.Lo + a) (i.Hi - b) l2 g2 (by omega) ⟨l4, by omega, l3⟩ ⟨by omega, g4, g3⟩ (fun n hn h => ⟨l5 n hn h.2.2 h.1, g5 n hn h.2.2 h.2.1⟩)
         by_cases he2 : i.Lo + a = i.Hi - b
         ·rw [if_pos he2] at hm
          rw [show (i.Lo + a == i.Hi - b) = true by simpa using he2, cond_true]
          exact hm
         ·rw [if_neg he2] at hm
          rw [show (i.Lo + a == i.Hi - b) = false from beq_eq_false_iff_ne.2 he2, cond_false]
          exact hm
        ·cases g1
       ·cases l1
  ·simp only [ref21_Make_pre, All, and_true, tmod_pos _ _ hc'.2.1]
   exact ⟨fun _ => trivial, fun _ => ⟨fun h => absurd (by simpa using h) hM, fun _ => ⟨⟨hM, u2, d2⟩, fun _ => trivial, fun _ => ⟨fun _ => rone_pre _, fun _ => trivial⟩⟩⟩⟩
theorem Make_same (i : S.Inter) (c : S.Cong) (hi : IR i) (hc : S.Cong.ok c) : S.value_Make i c = S.ref21_Make i c := (made i c hi hc).1.unique (rmade i c hi hc).1
open S SC
theorem eqv (a b : S.Value) : ((a.I.Lo == b.I.Lo) && ((a.I.Hi == b.I.Hi) && ((a.C.M == b.C.M) && (a.C.R == b.C.R)))) = decide (a = b) := by
 rw [Bool.eq_iff_iff]; simp [S.Value.ext_iff, S.Inter.ext_iff, S.Cong.ext_iff, and_assoc]
structure NB (v : S.Value) : Prop where
 lo : I64 v.I.Lo
 hi : I64 v.I.Hi
 le : v.I.Lo ≤ v.I.Hi
 c : CR v.C
 hl : has v.C v.I.Lo = true
 hh : has v.C v.I.Hi = true
 one : v.I.Lo = v.I.Hi → v.C = S.cong_Const v.I.Lo
def RV (v : S.Value) : Prop := v = bot ∨ NB v
theorem NB.ne {v : S.Value} (h : NB v) : v ≠ bot := by
 rintro rfl; have := h.le; simp [bot] at this
theorem one_NB {n : Int} (h : I64 n) : NB (one n) := ⟨h, h, Int.le_refl _, const_CR, const_has, const_has, fun _ => rfl⟩
theorem RV.cr {v : S.Value} (h : RV v) : CR v.C := by
 rcases h with rfl | h
 ·exact top_CR
 ·exact h.c
theorem RV.ir {v : S.Value} (h : RV v) : IR v.I := by
 rcases h with rfl | h
 ·exact ⟨by unfold I64; decide, by unfold I64; decide⟩
 ·exact ⟨h.lo, h.hi⟩
theorem Made.rv {i : S.Inter} {c : S.Cong} {v : S.Value} (h : Made i c v) (hc : CR c) : RV v := by
 cases h with
 | no h => exact .inl rfl
 | yes lo hi hl hh hle h1 h2 h =>
  right
  by_cases e : lo = hi
  ·rw [if_pos e]; exact one_NB hl
  ·rw [if_neg e]; exact ⟨hl, hh, hle, hc, h1.2.2, h2.2.2, fun h => absurd h e⟩
theorem Made.self {v : S.Value} (h : RV v) : Made v.I v.C v := by
 rcases h with rfl | h
 ·exact .no fun n _ h => by have := h.1; have := h.2.1; simp only [bot] at *; omega
 ·have hm := Made.yes (i := v.I) (c := v.C) _ _ h.lo h.hi h.le ⟨Int.le_refl _, h.le, h.hl⟩ ⟨h.le, Int.le_refl _, h.hh⟩ (fun n hn hh => ⟨hh.1, hh.2.1⟩)
  by_cases e : v.I.Lo = v.I.Hi
  ·rw [if_pos e] at hm
   have : one v.I.Lo = v := S.Value.ext (S.Inter.ext rfl e) (h.one e).symm
   rwa [this] at hm
  ·rwa [if_neg e] at hm
def VOK (v : S.Value) : Prop := IR v.I ∧ S.Cong.ok v.C
theorem RV.ok {v : S.Value} (h : RV v) : VOK v := ⟨h.ir, h.cr.1⟩
theorem ok_iff' (v : S.Value) : S.Value.ok v ↔ VOK v := by
 unfold S.Value.ok VOK IR S.Inter.ok I64; rw [inr_i64, inr_i64]; simp only [and_true]
def red (v : S.Value) : S.Value := S.value_Value_reduced v
theorem red_made {v : S.Value} (h : VOK v) : Made v.I (rc v.C) (red v) := (made _ _ h.1 h.2).1
theorem red_rv {v : S.Value} (h : VOK v) : RV (red v) := (red_made h).rv (rc_CR h.2)
theorem red_pre {v : S.Value} (h : VOK v) : S.value_Value_reduced_pre v := by
 simp only [value_Value_reduced_pre, All, and_true]; exact (made _ _ h.1 h.2).2
theorem red_of {v : S.Value} (h : RV v) : red v = v := by
 have h1 := red_made h.ok
 rw [rc_of h.cr] at h1
 exact h1.unique (Made.self h)
theorem red_red {v : S.Value} (h : VOK v) : red (red v) = red v := red_of (red_rv h)
theorem Make_red {i : S.Inter} {c : S.Cong} (hi : IR i) (hc : CR c) : Made i c (S.value_Make i c) := by
 have := (made i c hi hc.1).1
 rwa [rc_of hc] at this
theorem Make_pre' {i : S.Inter} {c : S.Cong} (hi : IR i) (hc : CR c) : S.value_Make_pre i c := (made i c hi hc.1).2
theorem Make_rv {i : S.Inter} {c : S.Cong} (hi : IR i) (hc : CR c) : RV (S.value_Make i c) := (Make_red hi hc).rv hc
theorem isBot (v : S.Value) : S.value_Value_IsBottom v = decide (red v = bot) := by
 simp only [value_Value_IsBottom, bot_eq, eqv]; rfl
theorem isBot_pre {v : S.Value} (h : VOK v) : S.value_Value_IsBottom_pre v := by
 simp only [value_Value_IsBottom_pre, All, and_true]; exact red_pre h
def Le (a b : S.Value) : Prop := a = bot ∨ (b.I.Lo ≤ a.I.Lo ∧ a.I.Hi ≤ b.I.Hi ∧ S.cong_Within a.C b.C = true)
instance (a b : S.Value) : Decidable (Le a b) := by unfold Le; exact inferInstance
theorem within_eq {a b : S.Value} (ha : VOK a) (hb : VOK b) : (S.value_Within a b = true ↔ Le (red a) (red b)) ∧ S.value_Within_pre a b := by
 refine ⟨?_, ?_⟩
 ·have e : S.value_Within a b = (decide (red a = bot) || (S.inter_Within (red a).I (red b).I && S.cong_Within (red a).C (red b).C)) := by
   simp only [value_Within, bot_eq, eqv]; rfl
  rw [e, Bool.or_eq_true, decide_eq_true_eq, Bool.and_eq_true]
  unfold Le
  rcases red_rv ha with h | h
  ·simp [h]
  ·rw [SI.Within_eq, SI.Within_def, decide_eq_true_eq]
   have hn := h.ne
   have hle := h.le
   constructor
   ·rintro (h1 | ⟨h1, h2⟩)
    ·exact .inl h1
    ·right; refine ⟨?_, ?_, h2⟩ <;> omega
   ·rintro (h1 | ⟨h1, h2, h3⟩)
    ·exact .inl h1
    ·exact .inr ⟨.inr ⟨h1, h2⟩, h3⟩
 ·simp only [value_Within_pre, All, and_true]
  exact ⟨red_pre ha, red_pre hb, fun _ _ => Within_pre _ _⟩
theorem Le.refl {a : S.Value} (h : RV a) : Le a a := .inr ⟨Int.le_refl _, Int.le_refl _, le_refl h.cr⟩
theorem Le.bot {a : S.Value} : Le bot a := .inl rfl
theorem Le.of_bot {a : S.Value} (ha : RV a) (h : Le a SV.bot) : a = SV.bot := by
 rcases h with h | ⟨h1, h2, _⟩
 ·exact h
 ·rcases ha with h | h
  ·exact h
  ·have := h.le; simp only [SV.bot] at h1 h2; omega
theorem Le.trans {a b c : S.Value} (ha : RV a) (hb : RV b) (hc : RV c) (h1 : Le a b) (h2 : Le b c) : Le a c := by
 rcases h1 with h1 | ⟨p1, p2, p3⟩
 ·exact .inl h1
 ·rcases h2 with h2 | ⟨q1, q2, q3⟩
  ·subst h2
   exact .inl (Le.of_bot ha (.inr ⟨p1, p2, p3⟩))
  ·exact .inr ⟨Int.le_trans q1 p1, Int.le_trans p2 q2, le_trans ha.cr hb.cr hc.cr p3 q3⟩
theorem le_made {i : S.Inter} {c : S.Cong} {v a : S.Value} (hm : Made i c v) (hc : CR c) (ha : NB a) (h1 : i.Lo ≤ a.I.Lo) (h2 : a.I.Hi ≤ i.Hi) (h3 : S.cong_Within a.C c = true) : Le a v := by
 have hal := le_has ha.c hc h3 ha.lo ha.hl
 have hah := le_has ha.c hc h3 ha.hi ha.hh
 have hle := ha.le
 have i1 : In i c a.I.Lo := ⟨h1, by omega, hal⟩
 have i2 : In i c a.I.Hi := ⟨by omega, h2, hah⟩
 cases hm with
 | no h => exact absurd i1 (h _ ha.lo)
 | yes lo hi hl hh hle k1 k2 k3 =>
  have b1 := k3 _ ha.lo i1
  have b2 := k3 _ ha.hi i2
  right
  by_cases e : lo = hi
  ·rw [if_pos e]
   refine ⟨by dsimp only [one]; omega, by dsimp only [one]; omega, ?_⟩
   have e1 : a.I.Lo = a.I.Hi := by omega
   have e2 : a.I.Lo = lo := by omega
   rw [ha.one e1, e2]
   exact le_refl const_CR
  ·rw [if_neg e]
   exact ⟨b1.1, b2.2, h3⟩
theorem has_iff' {v : S.Value} (hv : VOK v) {n : Int} (hn : I64 n) : (S.value_Value_Has v n = true ↔ Le (one n) (red v)) ∧ S.value_Value_Has_pre v n := by
 have ho : RV (one n) := .inr (one_NB hn)
 have hw := within_eq ho.ok hv
 rw [red_of ho] at hw
 refine ⟨hw.1, ?_⟩
 simp only [value_Value_Has_pre, All, and_true, one_eq]
 exact hw.2
theorem le_one {v : S.Value} (hv : RV v) {n : Int} (hn : I64 n) : Le (one n) v ↔ v.I.Lo ≤ n ∧ n ≤ v.I.Hi ∧ has v.C n = true := by
 unfold Le
 rw [const_le hn hv.cr |> fun h => show S.cong_Within (one n).C v.C = true ↔ has v.C n = true from h]
 constructor
 ·rintro (h | h)
  ·exact absurd h (one_NB hn).ne
  ·exact h
 ·exact .inr
open S SC
noncomputable def M (a b : S.Value) : S.Value := bif (S.cong_Meet a.C b.C).2 then S.value_Make (S.ref19_Meet a.I b.I) (S.cong_Meet a.C b.C).1 else bot
def top : S.Value := ⟨⟨-9223372036854775808, 9223372036854775807⟩, ⟨1, 0⟩⟩
theorem top_eq : S.value_Top = top := rfl
theorem rtop_eq : S.ref21_Top = top := rfl
theorem top_NB : NB top := ⟨by unfold I64; decide, by unfold I64; decide, by decide, top_CR, top_has _, top_has _, fun h => by revert h; decide⟩
theorem Same_eq {a b : S.Value} (ha : VOK a) (hb : VOK b) : S.value_Same a b = decide (red a = red b) ∧ S.value_Same_pre a b := by
 refine ⟨?_, ?_⟩
 ·simp only [value_Same, eqv]; rfl
 ·simp only [value_Same_pre, All, and_true]; exact ⟨red_pre ha, red_pre hb⟩
open S SC
theorem isBot_red {v : S.Value} (h : VOK v) : S.value_Value_IsBottom (red v) = decide (red v = bot) := by rw [isBot, red_red h]
theorem Single_eq {v : S.Value} (h : VOK v) : S.value_Value_Single v = (if (red v).I.Lo = (red v).I.Hi then ((red v).I.Lo, true) else (0, false)) ∧ S.value_Value_Single_pre v := by
 refine ⟨?_, by simp only [value_Value_Single_pre, All, and_true]; exact red_pre h⟩
 have e : S.value_Value_Single v = ((S.inter_Inter_Single (red v).I).1, (S.inter_Inter_Single (red v).I).2) := rfl
 rw [e]
 simp only [inter_Inter_Single, inter_One]
 by_cases hh : (red v).I.Lo = (red v).I.Hi
 ·rw [if_pos hh, ← hh]; simp
 ·rw [if_neg hh]
  have : ((red v).I.Hi == (red v).I.Lo) = false := beq_eq_false_iff_ne.2 fun e => hh e.symm
  simp [this]
open SD (ba ba_app ba_size dec_small dec_len itoa_len)
theorem fmtI_eq (n : Int) (h : I64 n) : S.strconv_FormatInt_pre n 10 ∧ S.strconv_FormatInt n 10 = ba (Lib.itoa n) := by
 refine ⟨?_, rfl⟩
 simp only [strconv_FormatInt_pre, All, and_true]; exact ⟨rfl, h.1, h.2⟩
theorem fmtU_eq (n : Int) (h : 0 ≤ n ∧ n ≤ 18446744073709551615) : S.strconv_FormatUint_pre n 10 ∧ S.strconv_FormatUint n 10 = ba (Lib.decDigits n.toNat) := by
 refine ⟨?_, rfl⟩
 simp only [strconv_FormatUint_pre, All, and_true]; exact ⟨rfl, h.1, by omega⟩
theorem Text_ok {v : S.Value} (h : VOK v) : S.value_Value_Text_pre v := by
 have hr := red_rv h
 obtain ⟨s1, s2⟩ := Single_eq hr.ok
 rw [red_of hr] at s1
 have hi := hr.ir
 have rg := CR_ranges hr.cr
 obtain ⟨a1, a2⟩ := fmtI_eq _ hi.1
 obtain ⟨b1, b2⟩ := fmtI_eq _ hi.2
 obtain ⟨c1, c2⟩ := fmtU_eq _ ⟨rg.2.1, rg.2.2.2.2⟩
 obtain ⟨d1, d2⟩ := fmtU_eq _ ⟨rg.1, rg.2.2.2.1⟩
 have l1 := itoa_len _ hi.1; have l2 := itoa_len _ hi.2
 have l3 := dec_len 19 (red v).C.R.toNat (by omega)
 have l4 := dec_len 19 (red v).C.M.toNat (by omega)
 have em : IntKind.i64.max = 9223372036854775807 := by decide
 have e1 : (⟨#[91]⟩ : ByteArray) = ba [91] := rfl
 have e2 : (⟨#[44, 32]⟩ : ByteArray) = ba [44, 32] := rfl
 have e3 : (⟨#[93]⟩ : ByteArray) = ba [93] := rfl
 have e4 : (⟨#[32]⟩ : ByteArray) = ba [32] := rfl
 have e5 : (⟨#[32, 109, 111, 100, 32]⟩ : ByteArray) = ba [32, 109, 111, 100, 32] := rfl
 have rv : S.value_Value_reduced v = red v := rfl
 simp only [value_Value_Text_pre, rv, isBot_red h, s1, a2, b2, c2, d2, e1, e2, e3, e4, e5, ba_app, ba_size, em, All, and_true, List.length_append, List.length_cons, List.length_nil]
 refine ⟨⟨red_pre h, isBot_pre hr.ok⟩, fun _ => trivial, fun _ => ⟨s2, fun hh => ?_, fun _ => ⟨a1, by omega, by omega, b1, by omega, by omega, fun _ => ⟨c1, by omega, by omega, d1, by omega, by omega⟩⟩⟩⟩
 split
 ·exact a1
 ·rename_i hne; rw [if_neg hne] at hh; cases hh
open S SC
open SD (ba ba_app ba_size dec_small)
theorem Text_val {v : S.Value} (hr : RV v) (hn : v ≠ bot) (hs : v.I.Lo ≠ v.I.Hi) : S.value_Value_Text v = ba ([91] ++ Lib.itoa v.I.Lo ++ [44, 32] ++ Lib.itoa v.I.Hi ++ [93] ++ (if v.C.M > 1 then [32] ++ Lib.decDigits v.C.R.toNat ++ [32, 109, 111, 100, 32] ++ Lib.decDigits v.C.M.toNat else [])) := by
 have h := hr.ok
 have rr := red_of hr
 have rv : S.value_Value_reduced v = v := rr
 obtain ⟨s1, _⟩ := Single_eq h
 rw [rr] at s1
 have hb : S.value_Value_IsBottom v = false := by rw [isBot, rr]; exact decide_eq_false hn
 have hi := hr.ir
 have rg := CR_ranges hr.cr
 obtain ⟨_, a2⟩ := fmtI_eq _ hi.1
 obtain ⟨_, b2⟩ := fmtI_eq _ hi.2
 obtain ⟨_, c2⟩ := fmtU_eq _ ⟨rg.2.1, rg.2.2.2.2⟩
 obtain ⟨_, d2⟩ := fmtU_eq _ ⟨rg.1, rg.2.2.2.1⟩
 have e1 : (⟨#[91]⟩ : ByteArray) = ba [91] := rfl
 have e2 : (⟨#[44, 32]⟩ : ByteArray) = ba [44, 32] := rfl
 have e3 : (⟨#[93]⟩ : ByteArray) = ba [93] := rfl
 have e4 : (⟨#[32]⟩ : ByteArray) = ba [32] := rfl
 have e5 : (⟨#[32, 109, 111, 100, 32]⟩ : ByteArray) = ba [32, 109, 111, 100, 32] := rfl
 simp only [value_Value_Text, rv, hb, s1, if_neg hs, a2, b2, c2, d2, e1, e2, e3, e4, e5, ba_app, cond_false]
 by_cases hM : v.C.M > 1
 ·rw [decide_eq_true hM, cond_true, if_pos hM]
 ·rw [decide_eq_false hM, cond_false, if_neg hM, List.append_nil]
theorem itoa_d {n : Nat} (h : n < 10) : Lib.itoa (n : Int) = [UInt8.ofNat (48 + n)] := by
 unfold Lib.itoa
 rw [if_neg (by omega), Int.toNat_natCast, dec_small h]
theorem Range_pre' (lo hi : Int) (h : I64 lo) (h' : I64 hi) : S.value_Range_pre lo hi ∧ VOK (S.value_Range lo hi) ∧ red (S.value_Range lo hi) = red ⟨⟨lo, hi⟩, ⟨1, 0⟩⟩ := by
 have e : S.inter_Of lo hi = S.ref19_Plain ⟨lo, hi⟩ := SI.Of_eq lo hi
 have hi1 : IR (S.inter_Of lo hi) := by
  rw [e, SI.Plain_def]
  by_cases hh : (⟨lo, hi⟩ : S.Inter).Lo > (⟨lo, hi⟩ : S.Inter).Hi
  ·rw [if_pos hh]; exact ⟨by unfold I64; decide, by unfold I64; decide⟩
  ·rw [if_neg hh]; exact ⟨h, h'⟩
 have hv : VOK ⟨⟨lo, hi⟩, ⟨1, 0⟩⟩ := ⟨⟨h, h'⟩, top_CR.1⟩
 have hm := Make_red hi1 top_CR
 have hrv := hm.rv top_CR
 have ev : S.value_Range lo hi = S.value_Make (S.inter_Of lo hi) S.cong_Top := rfl
 refine ⟨?_, by rw [ev]; exact hrv.ok, ?_⟩
 ·simp only [value_Range_pre, All, and_true]; exact Make_pre' hi1 top_CR
 ·rw [ev, red_of hrv]
  have h2 := red_made hv
  rw [show rc (⟨⟨lo, hi⟩, ⟨1, 0⟩⟩ : S.Value).C = ⟨1, 0⟩ from rc_of top_CR] at h2
  rw [e, SI.Plain_def] at hm ⊢
  by_cases hh : (⟨lo, hi⟩ : S.Inter).Lo > (⟨lo, hi⟩ : S.Inter).Hi
  ·rw [if_pos hh] at hm ⊢
   have : S.value_Make ⟨1, 0⟩ S.cong_Top = bot := hm.unique (.no fun n _ h => by have := h.1; have := h.2.1; simp at *; omega)
   rw [this]
   exact (Made.no fun n _ h => by have := h.1; have := h.2.1; simp at *; omega).unique h2
  ·rw [if_neg hh] at hm ⊢
   exact hm.unique h2
theorem ba_eq (l : List UInt8) : ba l = ⟨l.toArray⟩ := rfl
open S SC
open S SC
theorem has_b {v : S.Value} (hv : VOK v) {n : Int} (hn : I64 n) : S.value_Value_Has v n = decide (Le (one n) (red v)) := by
 rw [Bool.eq_iff_iff, (has_iff' hv hn).1, decide_eq_true_iff]
end SV
