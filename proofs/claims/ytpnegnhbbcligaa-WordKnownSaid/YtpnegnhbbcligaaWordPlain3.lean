/-
  Shifts, and what is made digit by digit.
-/
import Derived.Test.YtpnegnhbbcligaaWordPlain2
set_option linter.all false
open Go Vm
namespace S

theorem Shift_ref (b : Int) : S.ref09_Shift_pre b ∧ S.ref09_Shift b = b % 64 := by
  obtain ⟨pb, eb⟩ := digits_eq b
  obtain ⟨y, hr, hy⟩ := Runs.of (step := ref09_Shift_L0_step) (vcs := ref09_Shift_L0_vcs) (fun s => ∃ j : Nat, j ≤ 6 ∧ s.i = (j : Int) - 1 ∧ s.n = b % 64 / 2 ^ j ∧ s.d = D b) (fun s => (s.i + 1).toNat) (fun y => y.n = b % 64) (by
    rintro ⟨u, i', d⟩ ⟨j, h1, h2, h3, h4⟩
    dsimp only at *
    subst h2 h3 h4
    cases j with
    | zero =>
      refine ⟨by simp [ref09_Shift_L0_vcs], ?_⟩
      have hb : decide (((0 : Nat) : Int) - 1 ≥ 0) = false := rfl
      simp only [ref09_Shift_L0_step, hb, cond_false, div_zero]
    | succ i =>
      have hb : decide ((i : Int) ≥ 0) = true := decide_eq_true (by omega)
      have hi : ((i + 1 : Nat) : Int) - 1 = (i : Int) := by omega
      have hds := div_succ (b % 64) i
      have hbit : ib b i = b % 64 / 2 ^ i % 2 := by
        unfold ib
        match i, h1 with
        | 0, _ => simp only [Int.pow_zero, Int.ediv_one]; omega
        | 1, _ => show b / 2 % 2 = b % 64 / 2 % 2; omega
        | 2, _ => show b / 4 % 2 = b % 64 / 4 % 2; omega
        | 3, _ => show b / 8 % 2 = b % 64 / 8 % 2; omega
        | 4, _ => show b / 16 % 2 = b % 64 / 16 % 2; omega
        | 5, _ => show b / 32 % 2 = b % 64 / 32 % 2; omega
        | n + 6, h => omega
      have hd : 0 ≤ b % 64 / 2 ^ i ∧ b % 64 / 2 ^ i < 64 := ⟨Int.ediv_nonneg (by omega) (Int.le_of_lt (p2 i)), Int.lt_of_le_of_lt (Int.ediv_le_self _ (by omega)) (by omega)⟩
      have rb := ib_range b i
      have e1 : IntKind.i64.wrap (2 * (b % 64 / 2 ^ (i + 1))) = 2 * (b % 64 / 2 ^ (i + 1)) := IntWalk.i64_in _ (by omega)
      have e3 : IntKind.i64.wrap (2 * (b % 64 / 2 ^ (i + 1)) + ib b i) = b % 64 / 2 ^ i := by rw [IntWalk.i64_in _ (by omega)]; omega
      have e4 : IntKind.i64.wrap ((i : Int) - 1) = (i : Int) - 1 := IntWalk.i64_in _ (by omega)
      refine ⟨?_, ?_⟩
      · simp only [ref09_Shift_L0_vcs, hi, hb, All, true_implies, Bool.true_eq_false, false_implies, and_true]
        omega
      · simp only [ref09_Shift_L0_step, hi, hb, cond_true, tn, D_get b i (by omega), e1, e3, e4]
        exact ⟨⟨i, by omega, rfl, rfl, trivial⟩, by omega⟩) ⟨0, 5, D b⟩ ⟨6, by omega, rfl, by
          show (0 : Int) = b % 64 / 64
          omega, rfl⟩
  have e : ref09_Shift_L0_run ⟨0, 5, D b⟩ = y := theRun_eq (d := fun x => x) hr
  refine ⟨?_, ?_⟩
  · simp only [ref09_Shift_pre, eb, e, All, hr, pb, and_self]
  · simp only [ref09_Shift, eb, e, hy]

theorem div_big (a : Int) (h : I64 a) (j : Nat) (hj : 63 ≤ j) : a / 2 ^ j = if a < 0 then -1 else 0 := by
  obtain ⟨h1, h2⟩ := h
  have hp : (9223372036854775808 : Int) ≤ 2 ^ j := by
    have h3 := Nat.pow_le_pow_right (n := 2) (by decide) hj
    have h4 : ((2 ^ 63 : Nat) : Int) ≤ ((2 ^ j : Nat) : Int) := Int.ofNat_le.2 h3
    simpa using h4
  generalize (2 : Int) ^ j = p at *
  split
  · have : a = (a + p) + p * (-1) := by omega
    rw [this, Int.add_mul_ediv_left _ _ (by omega), Int.ediv_eq_zero_of_lt (by omega) (by omega)]; rfl
  · exact Int.ediv_eq_zero_of_lt (by omega) (by omega)
theorem ib_big (a : Int) (h : I64 a) (j : Nat) (hj : 63 ≤ j) : ib a 63 = ib a j := by
  unfold ib
  rw [div_big a h 63 (Nat.le_refl _), div_big a h j hj]
theorem ib_up (a : Int) (k i : Nat) : ib (a * 2 ^ k) i = if k ≤ i then ib a (i - k) else 0 := by
  unfold ib
  split
  · rename_i h
    have e : (2 : Int) ^ i = 2 ^ k * 2 ^ (i - k) := by rw [← Int.pow_add]; congr 1; omega
    rw [e, Int.mul_comm a, Int.mul_ediv_mul_of_pos _ _ (p2 k)]
  · rename_i h
    have e : (2 : Int) ^ k = 2 ^ i * (2 * 2 ^ (k - i - 1)) := by
      rw [show (2 : Int) * 2 ^ (k - i - 1) = 2 ^ (k - i - 1 + 1) by rw [Int.pow_succ, Int.mul_comm], ← Int.pow_add]; congr 1; omega
    rw [e, Int.mul_comm a, Int.mul_assoc, Int.mul_ediv_cancel_left _ (Int.ne_of_gt (p2 i)), Int.mul_assoc]; omega
theorem ib_down (a : Int) (k i : Nat) : ib (a / 2 ^ k) i = ib a (i + k) := by
  unfold ib
  have e : a / 2 ^ k / 2 ^ i = a / 2 ^ (i + k) := by
    have h := p2 k
    rw [Int.pow_add, Int.mul_comm (2 ^ i)]
    generalize (2 : Int) ^ k = p at *
    rw [Int.ediv_ediv, if_neg (by omega), Int.sub_zero]
  rw [e]

/-- What comes to a place when digits are moved. -/
def from_ (i v : Int) : Int := if i - v > 63 then 63 else i - v
theorem shift_loop (a v z : Int) (ha : I64 a) (hv : -63 ≤ v ∧ v ≤ 63) (hz : ∀ i : Nat, i < 64 → ib z i = if 0 ≤ from_ i v then ib a (from_ i v).toNat else 0) : S.ref09_shift_pre a v ∧ S.ref09_shift a v = IntKind.i64.wrap z := by
  obtain ⟨pa, ea⟩ := digits_eq a
  obtain ⟨pn, en⟩ := number_eq z
  obtain ⟨y, hr, hy⟩ := Runs.of (step := ref09_shift_L0_step) (vcs := ref09_shift_L0_vcs) (fun s => ∃ i : Nat, i ≤ 64 ∧ s.i = (i : Int) ∧ s.vby = v ∧ s.vx = D a ∧ s.out = P z i) (fun s => (64 - s.i).toNat) (fun y => y.out = D z) (by
    rintro ⟨v', i', vx, out⟩ ⟨i, h1, h2, h3, h4, h5⟩
    dsimp only at *
    subst h2 h3 h4 h5
    by_cases hi : i < 64
    · have hb : decide ((i : Int) < 64) = true := decide_eq_true (by omega)
      have e2 : IntKind.i64.wrap ((i : Int) - v') = (i : Int) - v' := IntWalk.i64_in _ (by omega)
      have e5 : IntKind.i64.wrap ((i : Int) + 1) = ((i + 1 : Nat) : Int) := by rw [IntWalk.i64_in] <;> omega
      have hf : (bif decide ((i : Int) - v' > 63) then 63 else (i : Int) - v') = from_ i v' := by
        unfold from_
        by_cases h : (i : Int) - v' > 63
        · rw [decide_eq_true h, if_pos h]; rfl
        · rw [decide_eq_false h, if_neg h]; rfl
      have hle : from_ i v' ≤ 63 := by unfold from_; split <;> omega
      have hzi := hz i hi
      refine ⟨?_, ?_⟩
      · simp only [ref09_shift_L0_vcs, hb, e2, hf, All, true_implies, Bool.true_eq_false, false_implies, and_true, decide_eq_true_eq]
        intro h; omega
      · simp only [ref09_shift_L0_step, hb, cond_true, tn, e2, e5, hf]
        refine ⟨⟨i + 1, by omega, rfl, trivial, trivial, ?_⟩, by omega⟩
        by_cases h0 : from_ i v' ≥ 0
        · have hlt : (from_ i v').toNat < 64 := by omega
          rw [decide_eq_true h0, cond_true, D_get a _ hlt]
          rw [if_pos h0] at hzi
          rw [← hzi, P_set z i hi]
        · rw [decide_eq_false h0, cond_false]
          rw [if_neg h0] at hzi
          exact P_keep z i hi hzi
    · have : i = 64 := by omega
      subst this
      refine ⟨by simp [ref09_shift_L0_vcs], ?_⟩
      have hb : decide (((64 : Nat) : Int) < 64) = false := rfl
      simp only [ref09_shift_L0_step, hb, cond_false, P_64]) ⟨v, 0, D a, List.replicate 64 (0 : Int)⟩ ⟨0, by omega, rfl, rfl, rfl, (P_zero _).symm⟩
  have e : ref09_shift_L0_run ⟨v, 0, D a, List.replicate 64 (0 : Int)⟩ = y := theRun_eq (d := fun x => x) hr
  refine ⟨?_, ?_⟩
  · simp only [ref09_shift_pre, ea, e, All, hr, hy, pa, pn, and_self]
  · simp only [ref09_shift, ea, e, hy, en]
theorem shift_up (a : Int) (k : Nat) (ha : I64 a) (hk : k ≤ 63) : S.ref09_shift_pre a k ∧ S.ref09_shift a k = IntKind.i64.wrap (a * 2 ^ k) := by
  refine shift_loop a k _ ha (by omega) fun i hi => ?_
  rw [ib_up]
  have hf : from_ i k = (i : Int) - k := by unfold from_; rw [if_neg (by omega)]
  rw [hf]
  by_cases h : k ≤ i
  · rw [if_pos h, if_pos (by omega)]; congr 1; omega
  · rw [if_neg h, if_neg (by omega)]
theorem shift_down (a : Int) (k : Nat) (ha : I64 a) (hk : k ≤ 63) : S.ref09_shift_pre a (-(k : Int)) ∧ S.ref09_shift a (-(k : Int)) = a / 2 ^ k := by
  have h := shift_loop a (-(k : Int)) (a / 2 ^ k) ha (by omega) fun i hi => by
    rw [ib_down]
    by_cases h : i + k ≤ 63
    · have hf : from_ i (-(k : Int)) = ((i + k : Nat) : Int) := by unfold from_; rw [if_neg (by omega)]; omega
      rw [hf, if_pos (by omega), Int.toNat_natCast]
    · have hf : from_ i (-(k : Int)) = 63 := by unfold from_; rw [if_pos (by omega)]
      rw [hf, if_pos (by decide)]
      exact (ib_big a ha _ (by omega)).symm
  refine ⟨h.1, h.2.trans ?_⟩
  obtain ⟨h1, h2⟩ := ha
  have hp := p2 k
  have hlo : -9223372036854775808 ≤ a / 2 ^ k := by
    rw [Int.le_ediv_iff_mul_le hp]
    have := Int.mul_le_mul_of_nonneg_left (show (1 : Int) ≤ 2 ^ k by omega) (show (0 : Int) ≤ 9223372036854775808 by decide)
    rw [Int.neg_mul]; omega
  have hhi : a / 2 ^ k ≤ 9223372036854775807 := by
    by_cases h0 : 0 ≤ a
    · exact Int.le_trans (Int.ediv_le_self _ h0) h2
    · have := Int.ediv_neg_of_neg_of_pos (show a < 0 by omega) hp
      omega
  exact IntWalk.i64_in _ ⟨hlo, hhi⟩

/-! ### Digit by digit -/
theorem bv_bit (v : BitVec 64) (i : Nat) : ib (v.toNat : Int) i = if v.getLsbD i then 1 else 0 := by
  have h1 : v.getLsbD i = v.toNat.testBit i := rfl
  rw [h1, Nat.testBit_eq_decide_div_mod_eq]
  unfold ib
  have e : ((2 : Int) ^ i) = ((2 ^ i : Nat) : Int) := by simp
  rw [e, ← Int.natCast_ediv]
  by_cases h : v.toNat / 2 ^ i % 2 = 1
  · rw [decide_eq_true h, if_pos rfl]; omega
  · rw [decide_eq_false h, if_neg (by decide)]; omega
theorem ofInt_bit (a : Int) (i : Nat) (hi : i < 64) : ib a i = if (BitVec.ofInt 64 a).getLsbD i then 1 else 0 := by
  rw [← bv_bit, BitVec.toNat_ofInt]
  have h : (((a % ((2 ^ 64 : Nat) : Int)).toNat : Nat) : Int) = a % 18446744073709551616 := by
    have : ((2 ^ 64 : Nat) : Int) = 18446744073709551616 := rfl
    rw [this]; omega
  rw [h, ib_mod a i hi]
def opOf : Int → BinOp := fun h => if h = 0 then .or else if h = 1 then .xor else .and
theorem each_eq (a b h : Int) (hh : h = 0 ∨ h = 1 ∨ h = 2) : S.ref09_each_pre a b h ∧ S.ref09_each a b h = bits (opOf h) .i64 a b := by
  obtain ⟨pa, ea⟩ := digits_eq a
  obtain ⟨pb, eb⟩ := digits_eq b
  obtain ⟨z, hz, hw⟩ : ∃ z : Int, (∀ i, i < 64 → ib z i = if (h = 0 ∧ ib a i + ib b i > 0) ∨ (h = 1 ∧ ib a i + ib b i = 1) ∨ (h = 2 ∧ ib a i + ib b i = 2) then 1 else 0) ∧ IntKind.i64.wrap z = bits (opOf h) .i64 a b := by
    rcases hh with rfl | rfl | rfl
    · refine ⟨((BitVec.ofInt 64 a ||| BitVec.ofInt 64 b).toNat : Int), fun i hi => ?_, rfl⟩
      rw [bv_bit, ofInt_bit a i hi, ofInt_bit b i hi, BitVec.getLsbD_or]
      cases (BitVec.ofInt 64 a).getLsbD i <;> cases (BitVec.ofInt 64 b).getLsbD i <;> decide
    · refine ⟨((BitVec.ofInt 64 a ^^^ BitVec.ofInt 64 b).toNat : Int), fun i hi => ?_, rfl⟩
      rw [bv_bit, ofInt_bit a i hi, ofInt_bit b i hi, BitVec.getLsbD_xor]
      cases (BitVec.ofInt 64 a).getLsbD i <;> cases (BitVec.ofInt 64 b).getLsbD i <;> decide
    · refine ⟨((BitVec.ofInt 64 a &&& BitVec.ofInt 64 b).toNat : Int), fun i hi => ?_, rfl⟩
      rw [bv_bit, ofInt_bit a i hi, ofInt_bit b i hi, BitVec.getLsbD_and]
      cases (BitVec.ofInt 64 a).getLsbD i <;> cases (BitVec.ofInt 64 b).getLsbD i <;> decide
  obtain ⟨pn, en⟩ := number_eq z
  obtain ⟨y, hr, hy⟩ := Runs.of (step := ref09_each_L0_step) (vcs := ref09_each_L0_vcs) (fun s => ∃ i : Nat, i ≤ 64 ∧ s.i = (i : Int) ∧ s.how = h ∧ s.vx = D a ∧ s.y = D b ∧ s.out = P z i) (fun s => (64 - s.i).toNat) (fun y => y.out = D z) (by
    rintro ⟨how, i', vx, vy, out⟩ ⟨i, h1, h2, h3, h4, h5, h6⟩
    dsimp only at *
    subst h2 h3 h4 h5 h6
    by_cases hi : i < 64
    · have hb : decide ((i : Int) < 64) = true := decide_eq_true (by omega)
      have ra := ib_range a i
      have rb := ib_range b i
      have e1 : IntKind.i64.wrap (ib a i + ib b i) = ib a i + ib b i := IntWalk.i64_in _ (by omega)
      have e5 : IntKind.i64.wrap ((i : Int) + 1) = ((i + 1 : Nat) : Int) := by rw [IntWalk.i64_in] <;> omega
      have hzi := hz i hi
      have hp : ((how == 0 && decide (ib a i + ib b i > 0)) || (how == 1 && ib a i + ib b i == 1) || (how == 2 && ib a i + ib b i == 2)) = decide ((how = 0 ∧ ib a i + ib b i > 0) ∨ (how = 1 ∧ ib a i + ib b i = 1) ∨ (how = 2 ∧ ib a i + ib b i = 2)) := by
        rw [Bool.eq_iff_iff]; simp [or_assoc]
      refine ⟨?_, ?_⟩
      · simp only [ref09_each_L0_vcs, hb, All, true_implies, Bool.true_eq_false, false_implies, and_true]
        refine ⟨by omega, by omega, by omega, by omega, fun _ => by omega⟩
      · simp only [ref09_each_L0_step, hb, cond_true, tn, D_get a i hi, D_get b i hi, e1, e5, hp]
        refine ⟨⟨i + 1, by omega, rfl, trivial, trivial, trivial, ?_⟩, by omega⟩
        by_cases hc : (how = 0 ∧ ib a i + ib b i > 0) ∨ (how = 1 ∧ ib a i + ib b i = 1) ∨ (how = 2 ∧ ib a i + ib b i = 2)
        · rw [if_pos hc] at hzi
          rw [decide_eq_true hc, cond_true, ← hzi, P_set z i hi]
        · rw [if_neg hc] at hzi
          rw [decide_eq_false hc, cond_false]
          exact P_keep z i hi hzi
    · have : i = 64 := by omega
      subst this
      refine ⟨by simp [ref09_each_L0_vcs], ?_⟩
      have hb : decide (((64 : Nat) : Int) < 64) = false := rfl
      simp only [ref09_each_L0_step, hb, cond_false, P_64]) ⟨h, 0, D a, D b, List.replicate 64 (0 : Int)⟩ ⟨0, by omega, rfl, rfl, rfl, rfl, (P_zero _).symm⟩
  have e : ref09_each_L0_run ⟨h, 0, D a, D b, List.replicate 64 (0 : Int)⟩ = y := theRun_eq (d := fun x => x) hr
  refine ⟨?_, ?_⟩
  · simp only [ref09_each_pre, ea, eb, e, All, hr, hy, pa, pb, pn, and_self]
  · simp only [ref09_each, ea, eb, e, hy, en, hw]
end S
