/-
  Numbers as rows of 64 digits: what the reference's functions make of them, in plain words.
-/
import Derived.Test.YtpnegnhbbcligaaWDefs
import Derived.IntWalk
import Derived.Laws.BitsAllLaws
set_option linter.all false
open Go Vm
namespace S

theorem w64 (x : Int) : IntKind.i64.wrap x = (x + 9223372036854775808) % 18446744073709551616 - 9223372036854775808 := by
  rw [IntKind.wrap_i64]
theorem wu64 (x : Int) : IntKind.u64.wrap x = x % 18446744073709551616 := IntKind.wrap_u64 x

/-- The digit of a number at a place. -/
def ib (z : Int) (i : Nat) : Int := z / 2 ^ i % 2
theorem p2 (i : Nat) : (0 : Int) < 2 ^ i := Int.pow_pos (by decide)
theorem ib_range (z : Int) (i : Nat) : 0 ≤ ib z i ∧ ib z i ≤ 1 := by unfold ib; omega
theorem div_succ (z : Int) (i : Nat) : z / 2 ^ (i + 1) = z / 2 ^ i / 2 := by
  have h := p2 i
  rw [Int.pow_succ]
  generalize (2 : Int) ^ i = p at h
  rw [Int.ediv_ediv, if_neg (by omega), Int.sub_zero]
theorem div_zero (z : Int) : z / 2 ^ 0 = z := by rw [Int.pow_zero, Int.ediv_one]
theorem pow_split (i : Nat) (h : i < 64) : (18446744073709551616 : Int) = 2 ^ i * (2 * 2 ^ (63 - i)) := by
  have e : (2 : Int) ^ i * (2 * 2 ^ (63 - i)) = 2 ^ (i + ((63 - i) + 1)) := by rw [Int.pow_add, Int.pow_succ, Int.mul_comm (2 ^ (63 - i)) 2]
  rw [e, show i + ((63 - i) + 1) = 64 by omega]; rfl
theorem ib_mod (z : Int) (i : Nat) (h : i < 64) : ib (z % 18446744073709551616) i = ib z i := by
  unfold ib
  have h1 := Int.emod_add_ediv_mul z 18446744073709551616
  have e := pow_split i h
  generalize hr : z % 18446744073709551616 = r at *
  generalize hq : z / 18446744073709551616 = q at *
  have h2 : z = r + 2 ^ i * (2 * 2 ^ (63 - i) * q) := by
    rw [← Int.mul_assoc, ← e, Int.mul_comm]; omega
  rw [h2, Int.add_mul_ediv_left _ _ (Int.ne_of_gt (p2 i)), Int.mul_assoc, Int.add_mul_emod_self_left]

def D (z : Int) : List Int := (List.range 64).map (ib z)
/-- The first i digits; the others are 0. -/
def P (z : Int) (i : Nat) : List Int := (List.range i).map (ib z) ++ List.replicate (64 - i) 0
theorem D_len (z : Int) : (D z).length = 64 := by simp [D]
theorem D_get (z : Int) (i : Nat) (h : i < 64) : (D z).getD i 0 = ib z i := by
  simp [D, List.getD_eq_getElem?_getD, List.getElem?_map, List.getElem?_range h]
theorem D_mod (z : Int) : D (z % 18446744073709551616) = D z := by
  unfold D
  apply List.map_congr_left
  intro i hi
  exact ib_mod z i (by simpa using hi)
theorem P_zero (z : Int) : P z 0 = List.replicate 64 (0 : Int) := by simp [P]
theorem P_64 (z : Int) : P z 64 = D z := by simp [P, D]
theorem P_set (z : Int) (i : Nat) (h : i < 64) : (P z i).set i (ib z i) = P z (i + 1) := by
  unfold P
  rw [List.set_append_right _ _ (by simp), List.length_map, List.length_range, Nat.sub_self, List.range_succ, List.map_append, List.append_assoc, show 64 - i = (64 - (i + 1)) + 1 by omega, List.replicate_succ]
  rfl
theorem P_keep (z : Int) (i : Nat) (h : i < 64) (h0 : ib z i = 0) : P z i = P z (i + 1) := by
  rw [← P_set z i h, h0]
  unfold P
  rw [List.set_append_right _ _ (by simp), List.length_map, List.length_range, Nat.sub_self, show 64 - i = (64 - (i + 1)) + 1 by omega, List.replicate_succ]
  rfl
theorem tn (i : Nat) : Int.toNat (i : Int) = i := Int.toNat_natCast i

theorem digits_eq (n : Int) : S.ref09_digits_pre n ∧ S.ref09_digits n = D n := by
  have hu : 0 ≤ IntKind.u64.wrap n ∧ IntKind.u64.wrap n < 18446744073709551616 := by rw [wu64]; omega
  have eD : D (IntKind.u64.wrap n) = D n := by rw [wu64, D_mod]
  generalize hU : IntKind.u64.wrap n = U at *
  obtain ⟨y, hr, hy⟩ := Runs.of (step := ref09_digits_L0_step) (vcs := ref09_digits_L0_vcs) (fun s => ∃ i : Nat, i ≤ 64 ∧ s.i = (i : Int) ∧ s.u = U / 2 ^ i ∧ s.out = P U i) (fun s => (64 - s.i).toNat) (fun y => y.out = D U) (by
    rintro ⟨u, i', out⟩ ⟨i, h1, h2, h3, h4⟩
    dsimp only at *
    subst h2 h3 h4
    have r := ib_range U i
    have hd : 0 ≤ U / 2 ^ i ∧ U / 2 ^ i < 18446744073709551616 := ⟨Int.ediv_nonneg hu.1 (Int.le_of_lt (p2 i)), Int.lt_of_le_of_lt (Int.ediv_le_self _ hu.1) hu.2⟩
    by_cases hi : i < 64
    · have hb : decide ((i : Int) < 64) = true := decide_eq_true (by omega)
      have e1 : IntKind.i64.wrap (Int.tmod (U / 2 ^ i) 2) = ib U i := by
        rw [Int.tmod_eq_emod_of_nonneg hd.1]; exact IntWalk.i64_in _ (by unfold ib at r; omega)
      have e2 : IntKind.u64.wrap (Int.tdiv (U / 2 ^ i) 2) = U / 2 ^ (i + 1) := by
        rw [Int.tdiv_eq_ediv_of_nonneg hd.1, ← div_succ]
        have := div_succ U i
        exact IntWalk.u64_in _ (by omega)
      have e3 : IntKind.i64.wrap ((i : Int) + 1) = ((i + 1 : Nat) : Int) := by rw [IntWalk.i64_in] <;> omega
      refine ⟨?_, ?_⟩
      · simp only [ref09_digits_L0_vcs, hb, All, true_implies, Bool.true_eq_false, false_implies, and_true]
        omega
      · simp only [ref09_digits_L0_step, hb, cond_true, e1, e2, e3, tn, P_set U i hi]
        exact ⟨⟨i + 1, by omega, rfl, rfl, rfl⟩, by omega⟩
    · have : i = 64 := by omega
      subst this
      refine ⟨by simp [ref09_digits_L0_vcs], ?_⟩
      have hb : decide (((64 : Nat) : Int) < 64) = false := rfl
      simp only [ref09_digits_L0_step, hb, cond_false, P_64]) ⟨U, 0, List.replicate 64 (0 : Int)⟩ ⟨0, by omega, rfl, (div_zero U).symm, (P_zero U).symm⟩
  have e : ref09_digits_L0_run ⟨U, 0, List.replicate 64 (0 : Int)⟩ = y := theRun_eq (d := fun x => x) hr
  refine ⟨?_, ?_⟩
  · simp only [ref09_digits_pre, hU, e, All, hr, and_self]
  · simp only [ref09_digits, hU, e, hy, eD]

theorem number_eq (z : Int) : S.ref09_number_pre (D z) ∧ S.ref09_number (D z) = IntKind.i64.wrap z := by
  have hu : 0 ≤ z % 18446744073709551616 ∧ z % 18446744073709551616 < 18446744073709551616 := by omega
  have eD : ∀ i, i < 64 → (D z).getD i 0 = ib (z % 18446744073709551616) i := fun i hi => by rw [D_get z i hi, ib_mod z i hi]
  have eW : IntKind.i64.wrap z = IntKind.i64.wrap (z % 18446744073709551616) := by rw [w64, w64]; omega
  rw [eW]
  generalize z % 18446744073709551616 = Z at *
  obtain ⟨y, hr, hy⟩ := Runs.of (step := ref09_number_L0_step) (vcs := ref09_number_L0_vcs) (fun s => ∃ j : Nat, j ≤ 64 ∧ s.i = (j : Int) - 1 ∧ s.u = Z / 2 ^ j ∧ s.d = D z) (fun s => (s.i + 1).toNat) (fun y => y.u = Z) (by
    rintro ⟨u, i', d⟩ ⟨j, h1, h2, h3, h4⟩
    dsimp only at *
    subst h2 h3 h4
    cases j with
    | zero =>
      refine ⟨by simp [ref09_number_L0_vcs], ?_⟩
      have hb : decide (((0 : Nat) : Int) - 1 ≥ 0) = false := rfl
      simp only [ref09_number_L0_step, hb, cond_false, div_zero]
    | succ i =>
      have hd : 0 ≤ Z / 2 ^ i ∧ Z / 2 ^ i < 18446744073709551616 := ⟨Int.ediv_nonneg hu.1 (Int.le_of_lt (p2 i)), Int.lt_of_le_of_lt (Int.ediv_le_self _ hu.1) hu.2⟩
      have hds := div_succ Z i
      have hb : decide ((i : Int) ≥ 0) = true := decide_eq_true (by omega)
      have hi : ((i + 1 : Nat) : Int) - 1 = (i : Int) := by omega
      have hbit : ib Z i = Z / 2 ^ i % 2 := rfl
      have e1 : IntKind.u64.wrap (2 * (Z / 2 ^ (i + 1))) = 2 * (Z / 2 ^ (i + 1)) := IntWalk.u64_in _ (by omega)
      have e2 : IntKind.u64.wrap (ib Z i) = ib Z i := IntWalk.u64_in _ (by omega)
      have e3 : IntKind.u64.wrap (2 * (Z / 2 ^ (i + 1)) + ib Z i) = Z / 2 ^ i := by rw [IntWalk.u64_in _ (by omega)]; omega
      have e4 : IntKind.i64.wrap ((i : Int) - 1) = (i : Int) - 1 := IntWalk.i64_in _ (by omega)
      refine ⟨?_, ?_⟩
      · simp only [ref09_number_L0_vcs, hb, All, hi, true_implies, Bool.true_eq_false, false_implies, and_true]
        omega
      · simp only [ref09_number_L0_step, hb, cond_true, hi, tn, eD i (by omega), e1, e2, e3, e4]
        exact ⟨⟨i, by omega, rfl, rfl, trivial⟩, by omega⟩) ⟨0, 63, D z⟩ ⟨64, by omega, rfl, by
          show (0 : Int) = Z / 2 ^ 64
          have : (2 : Int) ^ 64 = 18446744073709551616 := rfl
          rw [this]; omega, rfl⟩
  have e : ref09_number_L0_run ⟨0, 63, D z⟩ = y := theRun_eq (d := fun x => x) hr
  refine ⟨?_, ?_⟩
  · simp only [ref09_number_pre, e, All, hr, and_self]
  · simp only [ref09_number, e, hy]

theorem add_eq (a b : Int) : S.ref09_add_pre a b ∧ S.ref09_add a b = IntKind.i64.wrap (a + b) := by
  obtain ⟨pa, ea⟩ := digits_eq a
  obtain ⟨pb, eb⟩ := digits_eq b
  obtain ⟨pn, en⟩ := number_eq (a + b)
  obtain ⟨y, hr, hy⟩ := Runs.of (step := ref09_add_L0_step) (vcs := ref09_add_L0_vcs) (fun s => ∃ i : Nat, i ≤ 64 ∧ s.i = (i : Int) ∧ s.carry = (a + b) / 2 ^ i - a / 2 ^ i - b / 2 ^ i ∧ (0 ≤ s.carry ∧ s.carry ≤ 1) ∧ s.vx = D a ∧ s.y = D b ∧ s.out = P (a + b) i) (fun s => (64 - s.i).toNat) (fun y => y.out = D (a + b)) (by
    rintro ⟨c, i', vx, vy, out⟩ ⟨i, h1, h2, h3, h4, h5, h6, h7⟩
    dsimp only at *
    subst h2 h5 h6 h7
    by_cases hi : i < 64
    · have hb : decide ((i : Int) < 64) = true := decide_eq_true (by omega)
      have ra := ib_range a i
      have rb := ib_range b i
      have ia : ib a i = a / 2 ^ i % 2 := rfl
      have ib' : ib b i = b / 2 ^ i % 2 := rfl
      have iab : ib (a + b) i = (a + b) / 2 ^ i % 2 := rfl
      have da := div_succ a i
      have db := div_succ b i
      have dab := div_succ (a + b) i
      generalize a / 2 ^ i = X at *
      generalize b / 2 ^ i = Y at *
      generalize (a + b) / 2 ^ i = Z at *
      have e1 : IntKind.i64.wrap (ib a i + ib b i) = ib a i + ib b i := IntWalk.i64_in _ (by omega)
      have e2 : IntKind.i64.wrap (ib a i + ib b i + c) = ib a i + ib b i + c := IntWalk.i64_in _ (by omega)
      have e3 : Int.tmod (ib a i + ib b i + c) 2 = ib (a + b) i := by rw [Int.tmod_eq_emod_of_nonneg (by omega)]; omega
      have e4 : IntKind.i64.wrap (Int.tdiv (ib a i + ib b i + c) 2) = (ib a i + ib b i + c) / 2 := by
        rw [Int.tdiv_eq_ediv_of_nonneg (by omega)]; exact IntWalk.i64_in _ (by omega)
      have e5 : IntKind.i64.wrap ((i : Int) + 1) = ((i + 1 : Nat) : Int) := by rw [IntWalk.i64_in] <;> omega
      refine ⟨?_, ?_⟩
      · simp only [ref09_add_L0_vcs, hb, All, true_implies, Bool.true_eq_false, false_implies, and_true]
        omega
      · simp only [ref09_add_L0_step, hb, cond_true, tn, D_get a i hi, D_get b i hi, e1, e2, e3, e4, e5, P_set (a + b) i hi]
        exact ⟨⟨i + 1, by omega, rfl, by rw [da, db, dab]; omega, by omega, trivial, trivial, rfl⟩, by omega⟩
    · have : i = 64 := by omega
      subst this
      refine ⟨by simp [ref09_add_L0_vcs], ?_⟩
      have hb : decide (((64 : Nat) : Int) < 64) = false := rfl
      simp only [ref09_add_L0_step, hb, cond_false, P_64]) ⟨0, 0, D a, D b, List.replicate 64 (0 : Int)⟩ ⟨0, by omega, rfl, by
        show (0 : Int) = _
        rw [div_zero, div_zero, div_zero]; omega, ⟨Int.le_refl _, (by decide : (0 : Int) ≤ 1)⟩, rfl, rfl, (P_zero _).symm⟩
  have e : ref09_add_L0_run ⟨0, 0, D a, D b, List.replicate 64 (0 : Int)⟩ = y := theRun_eq (d := fun x => x) hr
  refine ⟨?_, ?_⟩
  · simp only [ref09_add_pre, ea, eb, e, All, hr, hy, pa, pb, pn, and_self]
  · simp only [ref09_add, ea, eb, e, hy, en]
end S
