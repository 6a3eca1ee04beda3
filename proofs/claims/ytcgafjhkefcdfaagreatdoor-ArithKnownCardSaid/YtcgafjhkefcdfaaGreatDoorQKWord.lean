/-
  Printed by a program out of the plain texts of another seat: what the smaller packages' functions compute, in plain words. Conditions: those that each theorem states.
-/
import Derived.Test.YtcgafjhkefcdfaaGreatDoorQKDefs
import Derived.IntWalk
import Derived.Laws.BitsAllLaws
set_option linter.all false
open Go Vm
namespace SW
open S
theorem w64 (x : Int) : IntKind.i64.wrap x = (x + 9223372036854775808) % 18446744073709551616 - 9223372036854775808 := by
 rw [IntKind.wrap_i64]
theorem wu64 (x : Int) : IntKind.u64.wrap x = x % 18446744073709551616 := IntKind.wrap_u64 x
def ib (z : Int) (i : Nat) : Int := z / 2 ^ i % 2
theorem p2 (i : Nat) : (0 : Int) < 2 ^ i := Int.pow_pos (by decide)
theorem ib_range (z : Int) (i : Nat) : 0 ≤ ib z i ∧ ib z i ≤ 1 := by unfold ib; omega
theorem div_succ (z : Int) (i : Nat) : z / 2 ^ (i + 1) = z / 2 ^ i / 2 := by
 have h := p2 i
 rw [Int.pow_succ]
 generalize (2 : Int) ^ i = p at h
 rw [Int.ediv_ediv, if_neg (by omega), Int.sub_zero]
theorem div_zero (z : Int) : z / 2 ^ 0 = z := by rw [Int.pow_zero, Int.ediv_one]
theorem pow_split (i : Nat) (h : i < 64) : (18446744073709551616 : Int) = 2 ^ i * (2 * 2 ^ (63 - i)) := by
 have e : (2 : Int) ^ i * (2 * 2 ^ (63 - i)) = 2 ^ (i + ((63 - i) + 1)) := by rw [Int.pow_add, Int.pow_succ, Int.mul_comm (2 ^ (63 - i)) 2]
 rw [e, show i + ((63 - i) + 1) = 64 by omega]; rfl
theorem ib_mod (z : Int) (i : Nat) (h : i < 64) : ib (z % 18446744073709551616) i = ib z i := by
 unfold ib
 have h1 := Int.emod_add_ediv_mul z 18446744073709551616
 have e := pow_split i h
 generalize hr : z % 18446744073709551616 = r at *
 generalize hq : z / 18446744073709551616 = q at *
 have h2 : z = r + 2 ^ i * (2 * 2 ^ (63 - i) * q) := by
  rw [← Int.mul_assoc, ← e, Int.mul_comm]; omega
 rw [h2, Int.add_mul_ediv_left _ _ (Int.ne_of_gt (p2 i)), Int.mul_assoc, Int.add_mul_emod_self_left]
def D (z : Int) : List Int := (List.range 64).map (ib z)
def P (z : Int) (i : Nat) : List Int := (List.range i).map (ib z) ++ List.replicate (64 - i) 0
theorem D_len (z : Int) : (D z).length = 64 := by simp [D]
theorem D_get (z : Int) (i : Nat) (h : i < 64) : (D z).getD i 0 = ib z i := by
 simp [D, List.getD_eq_getElem?_getD, List.getElem?_map, List.getElem?_range h]
theorem D_mod (z : Int) : D (z % 18446744073709551616) = D z := by
 unfold D
 apply List.map_congr_left
 intro i hi
 exact ib_mod z i (by simpa using hi)
theorem P_zero (z : Int) : P z 0 = List.replicate 64 (0 : Int) := by simp [P]
theorem P_64 (z : Int) : P z 64 = D z := by simp [P, D]
theorem P_set (z : Int) (i : Nat) (h : i < 64) : (P z i).set i (ib z i) = P z (i + 1) := by
 unfold P
 rw [List.set_append_right _ _ (by simp), List.length_map, List.length_range, Nat.sub_self, List.range_succ, List.map_append, List.append_assoc, show 64 - i = (64 - (i + 1)) + 1 by omega, List.replicate_succ]
 rfl
theorem tn (i : Nat) : Int.toNat (i : Int) = i := Int.toNat_natCast i
theorem digits_eq (n : Int) : S.ref09_digits_pre n ∧ S.ref09_digits n = D n := by
 have hu : 0 ≤ IntKind.u64.wrap n ∧ IntKind.u64.wrap n < 18446744073709551616 := by rw [wu64]; omega
 have eD : D (IntKind.u64.wrap n) = D n := by rw [wu64, D_mod]
 generalize hU : IntKind.u64.wrap n = U at *
 obtain ⟨y, hr, hy⟩ := Runs.of (step := ref09_digits_L0_step) (vcs := ref09_digits_L0_vcs) (fun s => ∃ i : Nat, i ≤ 64 ∧ s.i = (i : Int) ∧ s.u = U / 2 ^ i ∧ s.out = P U i) (fun s => (64 - s.i).toNat) (fun y => y.out = D U) (by
  rintro ⟨u, i', out⟩ ⟨i, h1, h2, h3, h4⟩
  dsimp only at *
  subst h2 h3 h4
  have r := ib_range U i
  have hd : 0 ≤ U / 2 ^ i ∧ U / 2 ^ i < 18446744073709551616 := ⟨Int.ediv_nonneg hu.1 (Int.le_of_lt (p2 i)), Int.lt_of_le_of_lt (Int.ediv_le_self _ hu.1) hu.2⟩
  by_cases hi : i < 64
  ·have hb : decide ((i : Int) < 64) = true := decide_eq_true (by omega)
   have e1 : IntKind.i64.wrap (Int.tmod (U / 2 ^ i) 2) = ib U i := by
    rw [Int.tmod_eq_emod_of_nonneg hd.1]; exact IntWalk.i64_in _ (by unfold ib at r; omega)
   have e2 : IntKind.u64.wrap (Int.tdiv (U / 2 ^ i) 2) = U / 2 ^ (i + 1) := by
    rw [Int.tdiv_eq_ediv_of_nonneg hd.1, ← div_succ]
    have := div_succ U i
    exact IntWalk.u64_in _ (by omega)
   have e3 : IntKind.i64.wrap ((i : Int) + 1) = ((i + 1 : Nat) : Int) := by rw [IntWalk.i64_in] <;> omega
   refine ⟨?_, ?_⟩
   ·simp only [ref09_digits_L0_vcs, hb, All, true_implies, Bool.true_eq_false, false_implies, and_true]
    omega
   ·simp only [ref09_digits_L0_step, hb, cond_true, e1, e2, e3, tn, P_set U i hi]
    exact ⟨⟨i + 1, by omega, rfl, rfl, rfl⟩, by omega⟩
  ·have : i = 64 := by omega
   subst this
   refine ⟨by simp [ref09_digits_L0_vcs], ?_⟩
   have hb : decide (((64 : Nat) : Int) < 64) = false := rfl
   simp only [ref09_digits_L0_step, hb, cond_false, P_64]) ⟨U, 0, List.replicate 64 (0 : Int)⟩ ⟨0, by omega, rfl, (div_zero U).symm, (P_zero U).symm⟩
 have e : ref09_digits_L0_run ⟨U, 0, List.replicate 64 (0 : Int)⟩ = y := theRun_eq (d := fun x => x) hr
 refine ⟨?_, ?_⟩
 ·simp only [ref09_digits_pre, hU, e, All, hr, and_self]
 ·simp only [ref09_digits, hU, e, hy, eD]
theorem number_eq (z : Int) : S.ref09_number_pre (D z) ∧ S.ref09_number (D z) = IntKind.i64.wrap z := by
 have hu : 0 ≤ z % 18446744073709551616 ∧ z % 18446744073709551616 < 18446744073709551616 := by omega
 have eD : ∀ i, i < 64 → (D z).getD i 0 = ib (z % 18446744073709551616) i := fun i hi => by rw [D_get z i hi, ib_mod z i hi]
 have eW : IntKind.i64.wrap z = IntKind.i64.wrap (z % 18446744073709551616) := by rw [w64, w64]; omega
 rw [eW]
 generalize z % 18446744073709551616 = Z at *
 obtain ⟨y, hr, hy⟩ := Runs.of (step := ref09_number_L0_step) (vcs := ref09_number_L0_vcs) (fun s => ∃ j : Nat, j ≤ 64 ∧ s.i = (j : Int) - 1 ∧ s.u = Z / 2 ^ j ∧ s.d = D z) (fun s => (s.i + 1).toNat) (fun y => y.u = Z) (by
  rintro ⟨u, i', d⟩ ⟨j, h1, h2, h3, h4⟩
  dsimp only at *
  subst h2 h3 h4
  cases j with
  | zero =>
   refine ⟨by simp [ref09_number_L0_vcs], ?_⟩
   have hb : decide (((0 : Nat) : Int) - 1 ≥ 0) = false := rfl
   simp only [ref09_number_L0_step, hb, cond_false, div_zero]
  | succ i =>
   have hd : 0 ≤ Z / 2 ^ i ∧ Z / 2 ^ i < 18446744073709551616 := ⟨Int.ediv_nonneg hu.1 (Int.le_of_lt (p2 i)), Int.lt_of_le_of_lt (Int.ediv_le_self _ hu.1) hu.2⟩
   have hds := div_succ Z i
   have hb : decide ((i : Int) ≥ 0) = true := decide_eq_true (by omega)
   have hi : ((i + 1 : Nat) : Int) - 1 = (i : Int) := by omega
   have hbit : ib Z i = Z / 2 ^ i % 2 := rfl
   have e1 : IntKind.u64.wrap (2 * (Z / 2 ^ (i + 1))) = 2 * (Z / 2 ^ (i + 1)) := IntWalk.u64_in _ (by omega)
   have e2 : IntKind.u64.wrap (ib Z i) = ib Z i := IntWalk.u64_in _ (by omega)
   have e3 : IntKind.u64.wrap (2 * (Z / 2 ^ (i + 1)) + ib Z i) = Z / 2 ^ i := by rw [IntWalk.u64_in _ (by omega)]; omega
   have e4 : IntKind.i64.wrap ((i : Int) - 1) = (i : Int) - 1 := IntWalk.i64_in _ (by omega)
   refine ⟨?_, ?_⟩
   ·simp only [ref09_number_L0_vcs, hb, All, hi, true_implies, Bool.true_eq_false, false_implies, and_true]
    omega
   ·simp only [ref09_number_L0_step, hb, cond_true, hi, tn, eD i (by omega), e1, e2, e3, e4]
    exact ⟨⟨i, by omega, rfl, rfl, trivial⟩, by omega⟩) ⟨0, 63, D z⟩ ⟨64, by omega, rfl, by
     show (0 : Int) = Z / 2 ^ 64
     have : (2 : Int) ^ 64 = 18446744073709551616 := rfl
     rw [this]; omega, rfl⟩
 have e : ref09_number_L0_run ⟨0, 63, D z⟩ = y := theRun_eq (d := fun x => x) hr
 refine ⟨?_, ?_⟩
 ·simp only [ref09_number_pre, e, All, hr, and_self]
 ·simp only [ref09_number, e, hy]
theorem add_eq (a b : Int) : S.ref09_add_pre a b ∧ S.ref09_add a b = IntKind.i64.wrap (a + b) := by
 obtain ⟨pa, ea⟩ := digits_eq a
 obtain ⟨pb, eb⟩ := digits_eq b
 obtain ⟨pn, en⟩ := number_eq (a + b)
 obtain ⟨y, hr, hy⟩ := Runs.of (step := ref09_add_L0_step) (vcs := ref09_add_L0_vcs) (fun s => ∃ i : Nat, i ≤ 64 ∧ s.i = (i : Int) ∧ s.carry = (a + b) / 2 ^ i - a / 2 ^ i - b / 2 ^ i ∧ (0 ≤ s.carry ∧ s.carry ≤ 1) ∧ s.vx = D a ∧ s.y = D b ∧ s.out = P (a + b) i) (fun s => (64 - s.i).toNat) (fun y => y.out = D (a + b)) (by
  rintro ⟨c, i', vx, vy, out⟩ ⟨i, h1, h2, h3, h4, h5, h6, h7⟩
  dsimp only at *
  subst h2 h5 h6 h7
  by_cases hi : i < 64
  ·have hb : decide ((i : Int) < 64) = true := decide_eq_true (by omega)
   have ra := ib_range a i
   have rb := ib_range b i
   have ia : ib a i = a / 2 ^ i % 2 := rfl
   have ib' : ib b i = b / 2 ^ i % 2 := rfl
   have iab : ib (a + b) i = (a + b) / 2 ^ i % 2 := rfl
   have da := div_succ a i
   have db := div_succ b i
   have dab := div_succ (a + b) i
   generalize a / 2 ^ i = X at *
   generalize b / 2 ^ i = Y at *
   generalize (a + b) / 2 ^ i = Z at *
   have e1 : IntKind.i64.wrap (ib a i + ib b i) = ib a i + ib b i := IntWalk.i64_in _ (by omega)
   have e2 : IntKind.i64.wrap (ib a i + ib b i + c) = ib a i + ib b i + c := IntWalk.i64_in _ (by omega)
   have e3 : Int.tmod (ib a i + ib b i + c) 2 = ib (a + b) i := by rw [Int.tmod_eq_emod_of_nonneg (by omega)]; omega
   have e4 : IntKind.i64.wrap (Int.tdiv (ib a i + ib b i + c) 2) = (ib a i + ib b i + c) / 2 := by
    rw [Int.tdiv_eq_ediv_of_nonneg (by omega)]; exact IntWalk.i64_in _ (by omega)
   have e5 : IntKind.i64.wrap ((i : Int) + 1) = ((i + 1 : Nat) : Int) := by rw [IntWalk.i64_in] <;> omega
   refine ⟨?_, ?_⟩
   ·simp only [ref09_add_L0_vcs, hb, All, true_implies, Bool.true_eq_false, false_implies, and_true]
    omega
   ·simp only [ref09_add_L0_step, hb, cond_true, tn, D_get a i hi, D_get b i hi, e1, e2, e3, e4, e5, P_set (a + b) i hi]
    exact ⟨⟨i + 1, by omega, rfl, by rw [da, db, dab]; omega, by omega, trivial, trivial, rfl⟩, by omega⟩
  ·have : i = 64 := by omega
   subst this
   refine ⟨by simp [ref09_add_L0_vcs], ?_⟩
   have hb : decide (((64 : Nat) : Int) < 64) = false := rfl
   simp only [ref09_add_L0_step, hb, cond_false, P_64]) ⟨0, 0, D a, D b, List.replicate 64 (0 : Int)⟩ ⟨0, by omega, rfl, by
    show (0 : Int) = _
    rw [div_zero, div_zero, div_zero]; omega, ⟨Int.le_refl _, (by decide : (0 : Int) ≤ 1)⟩, rfl, rfl, (P_zero _).symm⟩
 have e : ref09_add_L0_run ⟨0, 0, D a, D b, List.replicate 64 (0 : Int)⟩ = y := theRun_eq (d := fun x => x) hr
 refine ⟨?_, ?_⟩
 ·simp only [ref09_add_pre, ea, eb, e, All, hr, hy, pa, pb, pn, and_self]
 ·simp only [ref09_add, ea, eb, e, hy, en]
theorem inv_div (z p : Int) (h : 0 < p) : (-z - 1) / p = -(z / p) - 1 := by
 have h1 := Int.mul_ediv_add_emod z p
 have h2 := Int.emod_nonneg z (Int.ne_of_gt h)
 have h3 := Int.emod_lt_of_pos z h
 have : -z - 1 = (p - 1 - z % p) + p * (-(z / p) - 1) := by rw [Int.mul_sub, Int.mul_neg]; omega
 rw [this, Int.add_mul_ediv_left _ _ (Int.ne_of_gt h), Int.ediv_eq_zero_of_lt (by omega) (by omega)]; omega
theorem ib_inv (z : Int) (i : Nat) : ib (-z - 1) i = 1 - ib z i := by
 unfold ib; rw [inv_div z _ (p2 i)]; omega
def Q (z : Int) (i : Nat) : List Int := (List.range i).map (ib (-z - 1)) ++ (D z).drop i
theorem D_drop (z : Int) (i : Nat) (h : i < 64) : (D z).drop i = ib z i :: (D z).drop (i + 1) := by
 rw [List.drop_eq_getElem_cons (by rw [D_len]; exact h)]
 congr 1
 simp [D]
theorem Q_get (z : Int) (i : Nat) (h : i < 64) : (Q z i).getD i 0 = ib z i := by
 unfold Q
 rw [D_drop z i h, List.getD_eq_getElem?_getD, List.getElem?_append_right (by simp)]
 simp
theorem Q_set (z : Int) (i : Nat) (h : i < 64) : (Q z i).set i (1 - ib z i) = Q z (i + 1) := by
 unfold Q
 rw [D_drop z i h, List.set_append_right _ _ (by simp), List.length_map, List.length_range, Nat.sub_self, List.range_succ, List.map_append, List.append_assoc, ← ib_inv]
 rfl
theorem Q_64 (z : Int) : Q z 64 = D (-z - 1) := by
 unfold Q
 rw [List.drop_of_length_le (by rw [D_len]; decide), List.append_nil]; rfl
theorem Inv_eq (a : Int) : S.ref09_Inv_pre a ∧ S.ref09_Inv a = IntKind.i64.wrap (-a - 1) := by
 obtain ⟨pa, ea⟩ := digits_eq a
 obtain ⟨pn, en⟩ := number_eq (-a - 1)
 obtain ⟨y, hr, hy⟩ := Runs.of (step := ref09_Inv_L0_step) (vcs := ref09_Inv_L0_vcs) (fun s => ∃ i : Nat, i ≤ 64 ∧ s.i = (i : Int) ∧ s.vx = Q a i) (fun s => (64 - s.i).toNat) (fun y => y.vx = D (-a - 1)) (by
  rintro ⟨i', vx⟩ ⟨i, h1, h2, h3⟩
  dsimp only at *
  subst h2 h3
  by_cases hi : i < 64
  ·have hb : decide ((i : Int) < 64) = true := decide_eq_true (by omega)
   have ra := ib_range a i
   have e1 : IntKind.i64.wrap (1 - ib a i) = 1 - ib a i := IntWalk.i64_in _ (by omega)
   have e5 : IntKind.i64.wrap ((i : Int) + 1) = ((i + 1 : Nat) : Int) := by rw [IntWalk.i64_in] <;> omega
   refine ⟨?_, ?_⟩
   ·simp only [ref09_Inv_L0_vcs, hb, All, true_implies, Bool.true_eq_false, false_implies, and_true]
    omega
   ·simp only [ref09_Inv_L0_step, hb, cond_true, tn, Q_get a i hi, e1, e5, Q_set a i hi]
    exact ⟨⟨i + 1, by omega, rfl, rfl⟩, by omega⟩
  ·have : i = 64 := by omega
   subst this
   refine ⟨by simp [ref09_Inv_L0_vcs], ?_⟩
   have hb : decide (((64 : Nat) : Int) < 64) = false := rfl
   simp only [ref09_Inv_L0_step, hb, cond_false, Q_64]) ⟨0, D a⟩ ⟨0, by omega, rfl, rfl⟩
 have e : ref09_Inv_L0_run ⟨0, D a⟩ = y := theRun_eq (d := fun x => x) hr
 refine ⟨?_, ?_⟩
 ·simp only [ref09_Inv_pre, ea, e, All, hr, hy, pa, pn, and_self]
 ·simp only [ref09_Inv, ea, e, hy, en]
theorem neg_eq (a : Int) : S.ref09_neg_pre a ∧ S.ref09_neg a = IntKind.i64.wrap (0 - a) := by
 obtain ⟨p1, e1⟩ := Inv_eq a
 obtain ⟨p2, e2⟩ := add_eq (IntKind.i64.wrap (-a - 1)) 1
 refine ⟨?_, ?_⟩
 ·simp only [ref09_neg_pre, e1, All, p1, p2, and_self]
 ·rw [show S.ref09_neg a = S.ref09_add (S.ref09_Inv a) 1 from rfl, e1, e2]; simp only [w64]; omega
theorem wrap_add (x y : Int) : IntKind.i64.wrap (IntKind.i64.wrap x + IntKind.i64.wrap y) = IntKind.i64.wrap (x + y) := by
 simp only [w64]; omega
theorem mod_succ (b : Int) (i : Nat) : b % 2 ^ (i + 1) = b % 2 ^ i + 2 ^ i * ib b i := by
 have h := p2 i
 have h1 := Int.mul_ediv_add_emod b (2 ^ i)
 have h2 := Int.mul_ediv_add_emod b (2 ^ (i + 1))
 have h3 := div_succ b i
 have h4 : ib b i = b / 2 ^ i % 2 := rfl
 rw [h3] at h2
 have e : (2 : Int) ^ (i + 1) * (b / 2 ^ i / 2) = 2 ^ i * (2 * (b / 2 ^ i / 2)) := by rw [Int.pow_succ, Int.mul_assoc]
 rw [e] at h2
 have h5 : 2 * (b / 2 ^ i / 2) = b / 2 ^ i - ib b i := by omega
 rw [h5, Int.mul_sub] at h2
 omega
theorem mul_eq (a b : Int) : S.ref09_mul_pre a b ∧ S.ref09_mul a b = IntKind.i64.wrap (a * b) := by
 obtain ⟨pb, eb⟩ := digits_eq b
 obtain ⟨y, hr, hy⟩ := Runs.of (step := ref09_mul_L0_step) (vcs := ref09_mul_L0_vcs) (fun s => ∃ i : Nat, i ≤ 64 ∧ s.i = (i : Int) ∧ IntKind.i64.wrap s.a = IntKind.i64.wrap (a * 2 ^ i) ∧ s.sum = IntKind.i64.wrap (a * (b % 2 ^ i)) ∧ s.y = D b) (fun s => (64 - s.i).toNat) (fun y => y.sum = IntKind.i64.wrap (a * b)) (by
  rintro ⟨s, t, i', vy⟩ ⟨i, h1, h2, h3, h4, h5⟩
  dsimp only at *
  subst h2 h4 h5
  by_cases hi : i < 64
  ·have hb : decide ((i : Int) < 64) = true := decide_eq_true (by omega)
   obtain ⟨p1, e1⟩ := add_eq (IntKind.i64.wrap (a * (b % 2 ^ i))) s
   obtain ⟨p2', e2⟩ := add_eq s s
   have rb := ib_range b i
   have e5 : IntKind.i64.wrap ((i : Int) + 1) = ((i + 1 : Nat) : Int) := by rw [IntWalk.i64_in] <;> omega
   have e3 : IntKind.i64.wrap (s + s) = IntKind.i64.wrap (a * 2 ^ (i + 1)) := by
    have : a * 2 ^ (i + 1) = a * 2 ^ i + a * 2 ^ i := by rw [Int.pow_succ, ← Int.mul_assoc]; omega
    rw [this, ← wrap_add s s, h3, wrap_add]
   have e4 : IntKind.i64.wrap (IntKind.i64.wrap (a * (b % 2 ^ i)) + s) = IntKind.i64.wrap (a * (b % 2 ^ i) + a * 2 ^ i) := by
    have h := wrap_add (IntKind.i64.wrap (a * (b % 2 ^ i))) s
    rw [h3] at h
    rw [← h]
    simp only [w64]; omega
   refine ⟨?_, ?_⟩
   ·simp only [ref09_mul_L0_vcs, hb, All, p1, p2', true_implies, Bool.true_eq_false, false_implies, and_true, implies_true]
    omega
   ·simp only [ref09_mul_L0_step, hb, cond_true, tn, D_get b i hi, e1, e2, e3, e5]
    refine ⟨⟨i + 1, by omega, rfl, ?_, ?_, trivial⟩, by omega⟩
    ·simp only [w64]; omega
    ·rw [mod_succ]
     rcases (show ib b i = 0 ∨ ib b i = 1 by omega) with h | h
     ·have hbit : (ib b i == 1) = false := by rw [h]; rfl
      rw [hbit, h, cond_false, Int.mul_zero, Int.add_zero]
     ·have hbit : (ib b i == 1) = true := by rw [h]; rfl
      rw [hbit, h, cond_true, Int.mul_one, Int.mul_add]; exact e4
  ·have : i = 64 := by omega
   subst this
   refine ⟨by simp [ref09_mul_L0_vcs], ?_⟩
   have hb : decide (((64 : Nat) : Int) < 64) = false := rfl
   simp only [ref09_mul_L0_step, hb, cond_false]
   have e : (2 : Int) ^ 64 = 18446744073709551616 := rfl
   rw [e]
   have h1 := Int.mul_ediv_add_emod b 18446744073709551616
   have h2 : a * b = a * (b % 18446744073709551616) + 18446744073709551616 * (a * (b / 18446744073709551616)) := by
    conv => lhs; rw [← h1, Int.mul_add]
    rw [← Int.mul_assoc, Int.mul_comm a 18446744073709551616, Int.mul_assoc]; omega
   rw [h2]
   generalize a * (b % 18446744073709551616) = u
   generalize a * (b / 18446744073709551616) = v
   simp only [w64]; omega) ⟨a, 0, 0, D b⟩ ⟨0, by omega, rfl, by rw [Int.pow_zero, Int.mul_one], by rw [Int.pow_zero, Int.emod_one, Int.mul_zero]; rfl, rfl⟩
 have e : ref09_mul_L0_run ⟨a, 0, 0, D b⟩ = y := theRun_eq (d := fun x => x) hr
 refine ⟨?_, ?_⟩
 ·simp only [ref09_mul_pre, eb, e, All, hr, pb, and_self]
 ·simp only [ref09_mul, eb, e, hy]
end SW
