/-
  Digits turned about, products, quotients, and which number is less.
-/
import Derived.Test.YtpnegnhbbcligaaWordPlain
set_option linter.all false
open Go Vm
namespace S

theorem inv_div (z p : Int) (h : 0 < p) : (-z - 1) / p = -(z / p) - 1 := by
  have h1 := Int.mul_ediv_add_emod z p
  have h2 := Int.emod_nonneg z (Int.ne_of_gt h)
  have h3 := Int.emod_lt_of_pos z h
  have : -z - 1 = (p - 1 - z % p) + p * (-(z / p) - 1) := by rw [Int.mul_sub, Int.mul_neg]; omega
  rw [this, Int.add_mul_ediv_left _ _ (Int.ne_of_gt h), Int.ediv_eq_zero_of_lt (by omega) (by omega)]; omega
theorem ib_inv (z : Int) (i : Nat) : ib (-z - 1) i = 1 - ib z i := by
  unfold ib; rw [inv_div z _ (p2 i)]; omega
/-- The first i digits turned about. -/
def Q (z : Int) (i : Nat) : List Int := (List.range i).map (ib (-z - 1)) ++ (D z).drop i
theorem D_drop (z : Int) (i : Nat) (h : i < 64) : (D z).drop i = ib z i :: (D z).drop (i + 1) := by
  rw [List.drop_eq_getElem_cons (by rw [D_len]; exact h)]
  congr 1
  simp [D]
theorem Q_get (z : Int) (i : Nat) (h : i < 64) : (Q z i).getD i 0 = ib z i := by
  unfold Q
  rw [D_drop z i h, List.getD_eq_getElem?_getD, List.getElem?_append_right (by simp)]
  simp
theorem Q_set (z : Int) (i : Nat) (h : i < 64) : (Q z i).set i (1 - ib z i) = Q z (i + 1) := by
  unfold Q
  rw [D_drop z i h, List.set_append_right _ _ (by simp), List.length_map, List.length_range, Nat.sub_self, List.range_succ, List.map_append, List.append_assoc, ← ib_inv]
  rfl
theorem Q_64 (z : Int) : Q z 64 = D (-z - 1) := by
  unfold Q
  rw [List.drop_of_length_le (by rw [D_len]; decide), List.append_nil]; rfl

theorem Inv_eq (a : Int) : S.ref09_Inv_pre a ∧ S.ref09_Inv a = IntKind.i64.wrap (-a - 1) := by
  obtain ⟨pa, ea⟩ := digits_eq a
  obtain ⟨pn, en⟩ := number_eq (-a - 1)
  obtain ⟨y, hr, hy⟩ := Runs.of (step := ref09_Inv_L0_step) (vcs := ref09_Inv_L0_vcs) (fun s => ∃ i : Nat, i ≤ 64 ∧ s.i = (i : Int) ∧ s.vx = Q a i) (fun s => (64 - s.i).toNat) (fun y => y.vx = D (-a - 1)) (by
    rintro ⟨i', vx⟩ ⟨i, h1, h2, h3⟩
    dsimp only at *
    subst h2 h3
    by_cases hi : i < 64
    · have hb : decide ((i : Int) < 64) = true := decide_eq_true (by omega)
      have ra := ib_range a i
      have e1 : IntKind.i64.wrap (1 - ib a i) = 1 - ib a i := IntWalk.i64_in _ (by omega)
      have e5 : IntKind.i64.wrap ((i : Int) + 1) = ((i + 1 : Nat) : Int) := by rw [IntWalk.i64_in] <;> omega
      refine ⟨?_, ?_⟩
      · simp only [ref09_Inv_L0_vcs, hb, All, true_implies, Bool.true_eq_false, false_implies, and_true]
        omega
      · simp only [ref09_Inv_L0_step, hb, cond_true, tn, Q_get a i hi, e1, e5, Q_set a i hi]
        exact ⟨⟨i + 1, by omega, rfl, rfl⟩, by omega⟩
    · have : i = 64 := by omega
      subst this
      refine ⟨by simp [ref09_Inv_L0_vcs], ?_⟩
      have hb : decide (((64 : Nat) : Int) < 64) = false := rfl
      simp only [ref09_Inv_L0_step, hb, cond_false, Q_64]) ⟨0, D a⟩ ⟨0, by omega, rfl, rfl⟩
  have e : ref09_Inv_L0_run ⟨0, D a⟩ = y := theRun_eq (d := fun x => x) hr
  refine ⟨?_, ?_⟩
  · simp only [ref09_Inv_pre, ea, e, All, hr, hy, pa, pn, and_self]
  · simp only [ref09_Inv, ea, e, hy, en]
theorem neg_eq (a : Int) : S.ref09_neg_pre a ∧ S.ref09_neg a = IntKind.i64.wrap (0 - a) := by
  obtain ⟨p1, e1⟩ := Inv_eq a
  obtain ⟨p2, e2⟩ := add_eq (IntKind.i64.wrap (-a - 1)) 1
  refine ⟨?_, ?_⟩
  · simp only [ref09_neg_pre, e1, All, p1, p2, and_self]
  · rw [show S.ref09_neg a = S.ref09_add (S.ref09_Inv a) 1 from rfl, e1, e2]; simp only [w64]; omega

theorem wrap_add (x y : Int) : IntKind.i64.wrap (IntKind.i64.wrap x + IntKind.i64.wrap y) = IntKind.i64.wrap (x + y) := by
  simp only [w64]; omega
theorem mod_succ (b : Int) (i : Nat) : b % 2 ^ (i + 1) = b % 2 ^ i + 2 ^ i * ib b i := by
  have h := p2 i
  have h1 := Int.mul_ediv_add_emod b (2 ^ i)
  have h2 := Int.mul_ediv_add_emod b (2 ^ (i + 1))
  have h3 := div_succ b i
  have h4 : ib b i = b / 2 ^ i % 2 := rfl
  rw [h3] at h2
  have e : (2 : Int) ^ (i + 1) * (b / 2 ^ i / 2) = 2 ^ i * (2 * (b / 2 ^ i / 2)) := by rw [Int.pow_succ, Int.mul_assoc]
  rw [e] at h2
  have h5 : 2 * (b / 2 ^ i / 2) = b / 2 ^ i - ib b i := by omega
  rw [h5, Int.mul_sub] at h2
  omega
theorem mul_eq (a b : Int) : S.ref09_mul_pre a b ∧ S.ref09_mul a b = IntKind.i64.wrap (a * b) := by
  obtain ⟨pb, eb⟩ := digits_eq b
  obtain ⟨y, hr, hy⟩ := Runs.of (step := ref09_mul_L0_step) (vcs := ref09_mul_L0_vcs) (fun s => ∃ i : Nat, i ≤ 64 ∧ s.i = (i : Int) ∧ IntKind.i64.wrap s.a = IntKind.i64.wrap (a * 2 ^ i) ∧ s.sum = IntKind.i64.wrap (a * (b % 2 ^ i)) ∧ s.y = D b) (fun s => (64 - s.i).toNat) (fun y => y.sum = IntKind.i64.wrap (a * b)) (by
    rintro ⟨s, t, i', vy⟩ ⟨i, h1, h2, h3, h4, h5⟩
    dsimp only at *
    subst h2 h4 h5
    by_cases hi : i < 64
    · have hb : decide ((i : Int) < 64) = true := decide_eq_true (by omega)
      obtain ⟨p1, e1⟩ := add_eq (IntKind.i64.wrap (a * (b % 2 ^ i))) s
      obtain ⟨p2', e2⟩ := add_eq s s
      have rb := ib_range b i
      have e5 : IntKind.i64.wrap ((i : Int) + 1) = ((i + 1 : Nat) : Int) := by rw [IntWalk.i64_in] <;> omega
      have e3 : IntKind.i64.wrap (s + s) = IntKind.i64.wrap (a * 2 ^ (i + 1)) := by
        have : a * 2 ^ (i + 1) = a * 2 ^ i + a * 2 ^ i := by rw [Int.pow_succ, ← Int.mul_assoc]; omega
        rw [this, ← wrap_add s s, h3, wrap_add]
      have e4 : IntKind.i64.wrap (IntKind.i64.wrap (a * (b % 2 ^ i)) + s) = IntKind.i64.wrap (a * (b % 2 ^ i) + a * 2 ^ i) := by
        have h := wrap_add (IntKind.i64.wrap (a * (b % 2 ^ i))) s
        rw [h3] at h
        rw [← h]
        simp only [w64]; omega
      refine ⟨?_, ?_⟩
      · simp only [ref09_mul_L0_vcs, hb, All, p1, p2', true_implies, Bool.true_eq_false, false_implies, and_true, implies_true]
        omega
      · simp only [ref09_mul_L0_step, hb, cond_true, tn, D_get b i hi, e1, e2, e3, e5]
        refine ⟨⟨i + 1, by omega, rfl, ?_, ?_, trivial⟩, by omega⟩
        · simp only [w64]; omega
        · rw [mod_succ]
          rcases (show ib b i = 0 ∨ ib b i = 1 by omega) with h | h
          · have hbit : (ib b i == 1) = false := by rw [h]; rfl
            rw [hbit, h, cond_false, Int.mul_zero, Int.add_zero]
          · have hbit : (ib b i == 1) = true := by rw [h]; rfl
            rw [hbit, h, cond_true, Int.mul_one, Int.mul_add]; exact e4
    · have : i = 64 := by omega
      subst this
      refine ⟨by simp [ref09_mul_L0_vcs], ?_⟩
      have hb : decide (((64 : Nat) : Int) < 64) = false := rfl
      simp only [ref09_mul_L0_step, hb, cond_false]
      have e : (2 : Int) ^ 64 = 18446744073709551616 := rfl
      rw [e]
      have h1 := Int.mul_ediv_add_emod b 18446744073709551616
      have h2 : a * b = a * (b % 18446744073709551616) + 18446744073709551616 * (a * (b / 18446744073709551616)) := by
        conv => lhs; rw [← h1, Int.mul_add]
        rw [← Int.mul_assoc, Int.mul_comm a 18446744073709551616, Int.mul_assoc]; omega
      rw [h2]
      generalize a * (b % 18446744073709551616) = u
      generalize a * (b / 18446744073709551616) = v
      simp only [w64]; omega) ⟨a, 0, 0, D b⟩ ⟨0, by omega, rfl, by rw [Int.pow_zero, Int.mul_one], by rw [Int.pow_zero, Int.emod_one, Int.mul_zero]; rfl, rfl⟩
  have e : ref09_mul_L0_run ⟨a, 0, 0, D b⟩ = y := theRun_eq (d := fun x => x) hr
  refine ⟨?_, ?_⟩
  · simp only [ref09_mul_pre, eb, e, All, hr, pb, and_self]
  · simp only [ref09_mul, eb, e, hy]

def I64 (x : Int) : Prop := -9223372036854775808 ≤ x ∧ x ≤ 9223372036854775807
theorem size_eq (a : Int) (h : I64 a) : S.ref09_size_pre a ∧ S.ref09_size a = if a < 0 then -a else a := by
  obtain ⟨p1, e1⟩ := neg_eq a
  obtain ⟨h1, h2⟩ := h
  refine ⟨by simp only [ref09_size_pre, All, p1, implies_true, and_self], ?_⟩
  simp only [ref09_size, e1]
  by_cases h0 : a < 0
  · rw [decide_eq_true h0, cond_true, if_pos h0, w64, wu64]; omega
  · rw [decide_eq_false h0, cond_false, if_neg h0, wu64]; omega
theorem tdiv_sign (a b : Int) (hb : b ≠ 0) : Int.tdiv a b = if (decide (a < 0) == decide (b < 0)) = true then (if a < 0 then -a else a) / (if b < 0 then -b else b) else -((if a < 0 then -a else a) / (if b < 0 then -b else b)) := by
  by_cases ha : a < 0
  · obtain ⟨x, rfl⟩ : ∃ x : Int, a = -x := ⟨-a, by omega⟩
    rw [Int.neg_tdiv]
    by_cases hb0 : b < 0
    · obtain ⟨y, rfl⟩ : ∃ y : Int, b = -y := ⟨-b, by omega⟩
      rw [Int.tdiv_neg, if_pos ha, if_pos hb0, decide_eq_true ha, decide_eq_true hb0, if_pos (by decide), Int.neg_neg, Int.neg_neg, Int.neg_neg, Int.tdiv_eq_ediv_of_nonneg (by omega)]
    · rw [if_pos ha, if_neg hb0, decide_eq_true ha, decide_eq_false hb0, if_neg (by decide), Int.neg_neg, Int.tdiv_eq_ediv_of_nonneg (by omega)]
  · by_cases hb0 : b < 0
    · obtain ⟨y, rfl⟩ : ∃ y : Int, b = -y := ⟨-b, by omega⟩
      rw [Int.tdiv_neg, if_neg ha, if_pos hb0, decide_eq_false ha, decide_eq_true hb0, if_neg (by decide), Int.neg_neg, Int.tdiv_eq_ediv_of_nonneg (by omega)]
    · rw [if_neg ha, if_neg hb0, decide_eq_false ha, decide_eq_false hb0, if_pos (by decide), Int.tdiv_eq_ediv_of_nonneg (by omega)]
theorem quotient_eq (a b : Int) (ha : I64 a) (hb : I64 b) (h0 : b ≠ 0) : S.ref09_quotient_pre a b ∧ S.ref09_quotient a b = IntKind.i64.wrap (Int.tdiv a b) := by
  obtain ⟨p1, e1⟩ := size_eq a ha
  obtain ⟨p2', e2⟩ := size_eq b hb
  have ht := tdiv_sign a b h0
  obtain ⟨a1, a2⟩ := ha
  obtain ⟨b1, b2⟩ := hb
  have hA : 0 ≤ (if a < 0 then -a else a) ∧ (if a < 0 then -a else a) ≤ 9223372036854775808 := by split <;> omega
  have hB : 1 ≤ (if b < 0 then -b else b) := by split <;> omega
  generalize (if a < 0 then -a else a) = A at *
  generalize (if b < 0 then -b else b) = B at *
  have hq : 0 ≤ A / B ∧ A / B ≤ 9223372036854775808 := ⟨Int.ediv_nonneg hA.1 (by omega), Int.le_trans (Int.ediv_le_self _ hA.1) hA.2⟩
  have hw : IntKind.u64.wrap (Int.tdiv A B) = A / B := by rw [Int.tdiv_eq_ediv_of_nonneg hA.1, wu64]; omega
  generalize A / B = q at *
  obtain ⟨p3, e3⟩ := neg_eq (IntKind.i64.wrap q)
  refine ⟨?_, ?_⟩
  · simp only [ref09_quotient_pre, e1, e2, hw, All, p1, p2', p3, implies_true, and_self, and_true, true_and]
    omega
  · simp only [ref09_quotient, e1, e2, hw, e3, ht]
    cases (decide (a < 0) == decide (b < 0))
    · simp only [Bool.not_false, cond_true, Bool.false_eq_true, if_false, w64]; omega
    · simp only [Bool.not_true, cond_false, if_true]

theorem less_eq (a b : Int) (ha : I64 a) (hb : I64 b) : S.ref09_less_pre a b ∧ S.ref09_less a b = decide (a < b) := by
  obtain ⟨pa, ea⟩ := digits_eq a
  obtain ⟨pb, eb⟩ := digits_eq b
  have g63 : ∀ z, (D z).getD (Int.toNat 63) 0 = ib z 63 := fun z => D_get z 63 (by decide)
  have s63 : ∀ z, I64 z → ib z 63 = if z < 0 then 1 else 0 := by
    intro z hz
    obtain ⟨h1, h2⟩ := hz
    have e : (2 : Int) ^ 63 = 9223372036854775808 := rfl
    unfold ib; rw [e]; split <;> omega
  have ia := s63 a ha
  have ib' := s63 b hb
  have c0 : (0 : Int) ≤ 63 := by decide
  have c1 : (63 : Int) < 64 := by decide
  by_cases hs : (a < 0) = (b < 0)
  · have hne : (ib a 63 != ib b 63) = false := by rw [ia, ib']; simp only [hs]; exact bne_self_eq_false _
    have hq : a / 2 ^ 63 = b / 2 ^ 63 := by
      have e : (2 : Int) ^ 63 = 9223372036854775808 := rfl
      obtain ⟨h1, h2⟩ := ha
      obtain ⟨h3, h4⟩ := hb
      rw [e]
      by_cases h : a < 0
      · have : b < 0 := by rw [← hs]; exact h
        omega
      · have : ¬ b < 0 := by rw [← hs]; exact h
        omega
    obtain ⟨y, hr, hy⟩ := Runs.of (step := ref09_less_L0_step) (vcs := ref09_less_L0_vcs) (fun s => ∃ j : Nat, j ≤ 63 ∧ s.i = (j : Int) - 1 ∧ a / 2 ^ j = b / 2 ^ j ∧ s.vx = D a ∧ s.y = D b) (fun s => (s.i + 1).toNat) (fun y => (bif y.1 then y.2.t4 else false) = decide (a < b)) (by
      rintro ⟨t, i', vx, vy⟩ ⟨j, h1, h2, h3, h4, h5⟩
      dsimp only at *
      subst h2 h4 h5
      cases j with
      | zero =>
        refine ⟨by simp [ref09_less_L0_vcs], ?_⟩
        have hb : decide (((0 : Nat) : Int) - 1 ≥ 0) = false := rfl
        simp only [ref09_less_L0_step, hb, cond_false]
        rw [div_zero, div_zero] at h3
        rw [h3]; simp
      | succ i =>
        have hi : ((i + 1 : Nat) : Int) - 1 = (i : Int) := by omega
        have hb : decide ((i : Int) ≥ 0) = true := decide_eq_true (by omega)
        have e4 : IntKind.i64.wrap ((i : Int) - 1) = (i : Int) - 1 := IntWalk.i64_in _ (by omega)
        have da := div_succ a i
        have db := div_succ b i
        have xa : ib a i = a / 2 ^ i % 2 := rfl
        have xb : ib b i = b / 2 ^ i % 2 := rfl
        refine ⟨?_, ?_⟩
        · simp only [ref09_less_L0_vcs, hi, hb, All, true_implies, Bool.true_eq_false, false_implies, and_true, implies_true]
          refine ⟨by omega, fun _ => by omega⟩
        · simp only [ref09_less_L0_step, hi, hb, cond_true, tn, D_get a i (by omega), D_get b i (by omega), e4]
          by_cases he : ib a i = ib b i
          · have : (ib a i != ib b i) = false := by rw [he]; exact bne_self_eq_false _
            rw [this, cond_false]
            exact ⟨⟨i, by omega, rfl, by omega, rfl, rfl⟩, by dsimp only; omega⟩
          · have : (ib a i != ib b i) = true := by rw [bne_iff_ne]; exact he
            rw [this, cond_true]
            simp only [cond_true]
            apply decide_eq_decide.2
            have hp := p2 i
            have ha' := Int.mul_ediv_add_emod a (2 ^ i)
            have hb' := Int.mul_ediv_add_emod b (2 ^ i)
            have ra := Int.emod_nonneg a (Int.ne_of_gt hp)
            have rb := Int.emod_nonneg b (Int.ne_of_gt hp)
            have la := Int.emod_lt_of_pos a hp
            have lb := Int.emod_lt_of_pos b hp
            have key : ∀ u v r s : Int, u < v → 0 ≤ s → r < 2 ^ i → 2 ^ i * u + r < 2 ^ i * v + s := fun u v r s h1 h2 h3 => by
              have := Int.mul_le_mul_of_nonneg_left (show u + 1 ≤ v by omega) (Int.le_of_lt hp)
              rw [Int.mul_add, Int.mul_one] at this
              omega
            constructor
            · intro h
              have := key _ _ _ _ (show a / 2 ^ i < b / 2 ^ i by omega) rb la
              omega
            · intro h
              rcases Int.lt_or_gt_of_ne he with h' | h'
              · exact h'
              · have := key _ _ _ _ (show b / 2 ^ i < a / 2 ^ i by omega) ra lb
                omega) ⟨false, 62, D a, D b⟩ ⟨63, by omega, rfl, hq, rfl, rfl⟩
    have e : ref09_less_L0_run ⟨false, 62, D a, D b⟩ = y := theRun_eq (d := fun x => ⟨true, x⟩) hr
    refine ⟨?_, ?_⟩
    · simp only [ref09_less_pre, ea, eb, g63, hne, e, All, pa, pb, hr, c0, c1, implies_true, and_self, Bool.false_eq_true, false_implies]
    · simp only [ref09_less, ea, eb, g63, hne, e, cond_false, hy]
  · have hne : (ib a 63 != ib b 63) = true := by
      rw [ia, ib', bne_iff_ne]
      intro h
      apply hs
      apply propext
      by_cases h1 : a < 0 <;> by_cases h2 : b < 0 <;> simp_all
    refine ⟨?_, ?_⟩
    · simp only [ref09_less_pre, ea, eb, g63, hne, All, pa, pb, c0, c1, implies_true, and_self, Bool.true_eq_false, false_implies]
    · simp only [ref09_less, ea, eb, g63, hne, cond_true]
      rw [ia]
      by_cases h1 : a < 0
      · have h2 : ¬ b < 0 := fun h2 => hs (propext ⟨fun _ => h2, fun _ => h1⟩)
        rw [if_pos h1, decide_eq_true (show a < b by omega)]; rfl
      · have h2 : b < 0 := by
          by_cases h2 : b < 0
          · exact h2
          · exact absurd (propext ⟨fun h => absurd h h1, fun h => absurd h h2⟩) hs
        rw [if_neg h1, decide_eq_false (show ¬ a < b by omega)]; rfl
end S
