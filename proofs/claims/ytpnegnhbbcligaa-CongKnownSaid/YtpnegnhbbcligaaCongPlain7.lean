/-
  What numbers a join, a meet, a sum, a difference and a product of congruences have.
-/
import Derived.Test.YtpnegnhbbcligaaCongPlain6
set_option linter.all false
open Go Vm
namespace S

def I64 (x : Int) : Prop := -9223372036854775808 ≤ x ∧ x ≤ 9223372036854775807

theorem has_iff (c : S.Cong) (x : Int) : has c x = true ↔ (c.M = 0 ∧ IntKind.u64.wrap x = c.R) ∨ (c.M ≠ 0 ∧ x % c.M = c.R) := by
  by_cases h : c.M = 0
  · have hm : mk c.M x = ⟨0, IntKind.u64.wrap x⟩ := if_pos h
    simp only [has, hm, decide_eq_true_eq, S.Cong.ext_iff]
    constructor
    · rintro ⟨_, h2⟩; exact .inl ⟨h, h2⟩
    · rintro (⟨_, h2⟩ | ⟨h2, _⟩)
      · exact ⟨h.symm, h2⟩
      · exact absurd h h2
  · have hm : mk c.M x = ⟨c.M, x % c.M⟩ := if_neg h
    simp only [has, hm, decide_eq_true_eq, S.Cong.ext_iff, true_and]
    constructor
    · intro h2; exact .inr ⟨h, h2⟩
    · rintro (⟨h2, _⟩ | ⟨_, h2⟩)
      · exact absurd h2 h
      · exact h2
theorem num_of (R x : Int) (hx : I64 x) (h : IntKind.u64.wrap x = R) : IntKind.i64.wrap R = x := by
  obtain ⟨h1, h2⟩ := hx
  rw [← h, IntKind.wrap_i64, IntKind.wrap_u64]; omega
theorem mod_mod_dvd (x m g : Int) (h : g ∣ m) : x % m % g = x % g := Int.emod_emod_of_dvd x h
theorem B_has (c : S.Cong) (x g : Int) (hx : I64 x) (h : has c x = true) (hd : g ∣ c.M) : B c g = x % g := by
  rcases (has_iff c x).1 h with ⟨h1, h2⟩ | ⟨h1, h2⟩
  · unfold B; rw [if_pos h1, num_of _ _ hx h2]
  · unfold B; rw [if_neg h1, ← h2, mod_mod_dvd x _ _ hd]
theorem G_dvd (a b : Int) (ha : 0 ≤ a) (hb : 0 ≤ b) : G a b ∣ a ∧ G a b ∣ b := by
  obtain ⟨A, rfl⟩ := Int.eq_ofNat_of_zero_le ha
  obtain ⟨B, rfl⟩ := Int.eq_ofNat_of_zero_le hb
  simp only [G, Int.toNat_natCast]
  exact ⟨Int.natCast_dvd_natCast.2 (Nat.gcd_dvd_left _ _), Int.natCast_dvd_natCast.2 (Nat.gcd_dvd_right _ _)⟩
theorem emod_of_dvd_sub (x y m : Int) (h : m ∣ x - y) : x % m = y % m := by
  obtain ⟨k, hk⟩ := h
  rw [show x = y + m * k by omega, Int.add_mul_emod_self_left]

theorem Within_iff (a b : S.Cong) (ha : S.Cong.ok a) (hb : S.Cong.ok b) : S.cong_Within a b = true ↔ (b.M = 0 ∧ a = b) ∨ (b.M ≠ 0 ∧ a.M % b.M = 0 ∧ B a b.M = b.R) := by
  have ha' := (ok_iff a).1 ha; have hb' := (ok_iff b).1 hb
  simp only [cong_Within, cong_Cong_single, eqb]
  by_cases h : b.M = 0
  · rw [show (b.M == 0) = true by simpa using h, cond_true, decide_eq_true_eq]
    constructor
    · intro e; exact .inl ⟨h, e⟩
    · rintro (⟨_, e⟩ | ⟨e, _⟩)
      · exact e
      · exact absurd h e
  · rw [show (b.M == 0) = false from beq_eq_false_iff_ne.2 h, cond_false, tmod_pos _ _ ha'.1.1, by_eq a b.M ha (by omega) hb'.1.2, Bool.and_eq_true, beq_iff_eq, beq_iff_eq]
    constructor
    · rintro ⟨e1, e2⟩; exact .inr ⟨h, e1, e2⟩
    · rintro (⟨e, _⟩ | ⟨_, e1, e2⟩)
      · exact absurd e h
      · exact ⟨e1, e2⟩

theorem Join_val (a b : S.Cong) (ha : S.Cong.ok a) (hb : S.Cong.ok b) (hab : a ≠ b) :
    (G a.M b.M = 0 → S.cong_Join a b = mk (IntKind.u64.wrap (IntKind.u64.wrap (max (IntKind.i64.wrap a.R) (IntKind.i64.wrap b.R)) - IntKind.u64.wrap (min (IntKind.i64.wrap a.R) (IntKind.i64.wrap b.R)))) (IntKind.i64.wrap a.R)) ∧
    (G a.M b.M ≠ 0 → S.cong_Join a b = ⟨G (G a.M b.M) (S.cong_far (B a (G a.M b.M)) (B b (G a.M b.M))), B a (G a.M b.M) % G (G a.M b.M) (S.cong_far (B a (G a.M b.M)) (B b (G a.M b.M)))⟩) := by
  have ha' := (ok_iff a).1 ha; have hb' := (ok_iff b).1 hb
  have g0 := G_pos a.M b.M ha'.1.1 hb'.1.1
  have hne : ((a.M == b.M) && (a.R == b.R)) = false := by rw [eqb]; exact decide_eq_false hab
  simp only [cong_Join, gcd_eq a.M b.M ha'.1.1 hb'.1.1, hne, cond_false]
  refine ⟨fun h => ?_, fun h => ?_⟩
  · have hw : ∀ x : Int, inr .u64 (IntKind.u64.wrap x) := fun x => by rw [inr_u64, IntKind.wrap_u64]; omega
    have e1 : (if S.cong_Cong_number b > S.cong_Cong_number a then S.cong_Cong_number b else S.cong_Cong_number a) = max (S.cong_Cong_number a) (S.cong_Cong_number b) := by split <;> omega
    have e2 : (if S.cong_Cong_number b < S.cong_Cong_number a then S.cong_Cong_number b else S.cong_Cong_number a) = min (S.cong_Cong_number a) (S.cong_Cong_number b) := by split <;> omega
    rw [h, show ((0 : Int) == 0) = true from rfl, cond_true, Make_eq _ (S.cong_Cong_number a) (inr_i64.2 (num_i64 a.R)) (hw _), e1, e2]
    rfl
  · have hg1 : 0 < G a.M b.M := by omega
    have hg2 : G a.M b.M ≤ 18446744073709551615 := by omega
    have ra := B_range a _ hg1; have rb := B_range b _ hg1
    have e1 : S.cong_Cong_by a (G a.M b.M) = B a (G a.M b.M) := by_eq a _ ha hg1 hg2
    have e2 : S.cong_Cong_by b (G a.M b.M) = B b (G a.M b.M) := by_eq b _ hb hg1 hg2
    obtain ⟨f1, f2, f3⟩ := far_eq (B a (G a.M b.M)) (B b (G a.M b.M)) (by omega) (by omega)
    rw [show (G a.M b.M == 0) = false from beq_eq_false_iff_ne.2 h, cond_false, e1, e2, gcd_eq _ _ g0.1 f2, tmod_pos _ _ ra.1]

theorem far_dvd (x y : Int) (hx : 0 ≤ x ∧ x ≤ 18446744073709551615) (hy : 0 ≤ y ∧ y ≤ 18446744073709551615) (m : Int) (h : m ∣ S.cong_far x y) : m ∣ x - y := by
  have e : S.cong_far x y = x - y ∨ S.cong_far x y = -(x - y) := by
    simp only [cong_far]
    by_cases h : x < y
    · right; rw [if_pos h, if_neg (show ¬ y < x by omega), IntWalk.u64_in _ (by omega)]; omega
    · left
      rw [if_neg (show ¬ y > x by omega)]
      by_cases h2 : y < x
      · rw [if_pos h2, IntWalk.u64_in _ (by omega)]
      · rw [if_neg h2, IntWalk.u64_in _ (by omega)]; omega
  rcases e with e | e
  · rw [e] at h; exact h
  · rw [e] at h; exact Int.dvd_neg.1 h

section
variable (a b : S.Cong) (ha : S.Cong.ok a) (hb : S.Cong.ok b) (hra : S.ref20_Right a = true) (hrb : S.ref20_Right b = true) (x y : Int) (hx : I64 x) (hy : I64 y) (hax : has a x = true) (hby : has b y = true)
include ha hb hra hrb hx hy hax hby
theorem Join_has : S.Cong.ok (S.cong_Join a b) ∧ has (S.cong_Join a b) x = true ∧ has (S.cong_Join a b) y = true ∧ S.cong_Within a (S.cong_Join a b) = true ∧ S.cong_Within b (S.cong_Join a b) = true := by
  have ha' := (ok_iff a).1 ha; have hb' := (ok_iff b).1 hb
  have g0 := G_pos a.M b.M ha'.1.1 hb'.1.1
  by_cases hab : a = b
  · subst hab
    have e : S.cong_Join a a = a := by
      simp [cong_Join]
    rw [e]
    exact ⟨ha, hax, hby, Within_self a ha hra, Within_self a ha hra⟩
  · obtain ⟨j0, j1⟩ := Join_val a b ha hb hab
    by_cases hg : G a.M b.M = 0
    · obtain ⟨hM, hN⟩ := g0.2.2.2.1 hg
      have hax' : IntKind.u64.wrap x = a.R := by
        rcases (has_iff a x).1 hax with ⟨_, h⟩ | ⟨h, _⟩
        · exact h
        · exact absurd hM h
      have hby' : IntKind.u64.wrap y = b.R := by
        rcases (has_iff b y).1 hby with ⟨_, h⟩ | ⟨h, _⟩
        · exact h
        · exact absurd hN h
      have n1 := num_of _ _ hx hax'
      have n2 := num_of _ _ hy hby'
      rw [j0 hg, n1, n2]
      have hd : ∃ d, IntKind.u64.wrap (IntKind.u64.wrap (max x y) - IntKind.u64.wrap (min x y)) = d ∧ d = max x y - min x y := ⟨_, rfl, by
        obtain ⟨x1, x2⟩ := hx; obtain ⟨y1, y2⟩ := hy
        rw [IntKind.wrap_u64, IntKind.wrap_u64, IntKind.wrap_u64]; omega⟩
      obtain ⟨d, e1, e2⟩ := hd
      rw [e1]
      have hxy : x ≠ y := by
        intro e; apply hab
        rw [S.Cong.ext_iff]; refine ⟨by rw [hM, hN], ?_⟩
        rw [← hax', ← hby', e]
      have hd0 : 0 < d := by omega
      have hd1 : d ≤ 18446744073709551615 := by obtain ⟨x1, x2⟩ := hx; obtain ⟨y1, y2⟩ := hy; omega
      have em : mk d x = ⟨d, x % d⟩ := if_neg (by omega)
      have hr := mod_range x d hd0
      have hyx : y % d = x % d := by
        refine emod_of_dvd_sub _ _ _ ?_
        by_cases h : x ≤ y
        · exact ⟨1, by omega⟩
        · exact ⟨-1, by omega⟩
      have hok : S.Cong.ok (mk d x) := by rw [ok_iff, em]; dsimp only; omega
      rw [em] at hok ⊢
      have hne : d ≠ 0 := by omega
      refine ⟨hok, (has_iff _ _).2 (.inr ⟨hne, rfl⟩), (has_iff _ _).2 (.inr ⟨hne, hyx⟩), (Within_iff _ _ ha hok).2 (.inr ⟨hne, ?_, ?_⟩), (Within_iff _ _ hb hok).2 (.inr ⟨hne, ?_, ?_⟩)⟩
      · rw [hM]; exact Int.zero_emod _
      · exact B_has a x d hx hax (by rw [hM]; exact Int.dvd_zero d)
      · rw [hN]; exact Int.zero_emod _
      · rw [B_has b y d hy hby (by rw [hN]; exact Int.dvd_zero d)]; exact hyx
    · rw [j1 hg]
      have hg1 : 0 < G a.M b.M := by omega
      have hg2 : G a.M b.M ≤ 18446744073709551615 := by omega
      obtain ⟨d1, d2⟩ := G_dvd a.M b.M ha'.1.1 hb'.1.1
      have ba := B_has a x _ hx hax d1
      have bb := B_has b y _ hy hby d2
      have ra := B_range a _ hg1; have rb := B_range b _ hg1
      obtain ⟨f1, f2, f3⟩ := far_eq (B a (G a.M b.M)) (B b (G a.M b.M)) (by omega) (by omega)
      have g1 := G_pos _ _ g0.1 f2
      obtain ⟨k1, k2⟩ := G_dvd _ _ g0.1 f2
      have k3 := far_dvd _ _ (by omega) (by omega) _ k2
      generalize G (G a.M b.M) (S.cong_far (B a (G a.M b.M)) (B b (G a.M b.M))) = m at *
      have hm : 0 < m := by
        have : m ≠ 0 := fun e => hg (g1.2.2.2.1 e).1
        omega
      have hm2 : m ≤ 18446744073709551615 := by omega
      have hR : B a (G a.M b.M) % m = x % m := by rw [ba, mod_mod_dvd _ _ _ k1]
      have hyx : y % m = x % m := by
        have e1 : B b (G a.M b.M) % m = y % m := by rw [bb, mod_mod_dvd _ _ _ k1]
        rw [← e1, ← hR]; exact (emod_of_dvd_sub _ _ _ k3).symm
      rw [hR]
      have hr := mod_range x m hm
      have hok : S.Cong.ok ⟨m, x % m⟩ := by rw [ok_iff]; dsimp only; omega
      have hne : m ≠ 0 := by omega
      have m1 : m ∣ a.M := Int.dvd_trans k1 d1
      have m2 : m ∣ b.M := Int.dvd_trans k1 d2
      refine ⟨hok, (has_iff _ _).2 (.inr ⟨hne, rfl⟩), (has_iff _ _).2 (.inr ⟨hne, hyx⟩), (Within_iff _ _ ha hok).2 (.inr ⟨hne, ?_, ?_⟩), (Within_iff _ _ hb hok).2 (.inr ⟨hne, ?_, ?_⟩)⟩
      · exact Int.emod_eq_zero_of_dvd m1
      · exact B_has a x m hx hax m1
      · exact Int.emod_eq_zero_of_dvd m2
      · rw [B_has b y m hy hby m2]; exact hyx
end
end S
