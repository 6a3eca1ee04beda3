/-
  The reference's products: the outer rounds.
-/
import Derived.Test.YthgfoemcjkokjaaNatPlain13
set_option linter.all false
open Go Vm
namespace S

theorem val_rep8 (n : Nat) : val8 (List.replicate n (0 : Int)) = 0 := by
  induction n with
  | zero => rfl
  | succ n ih => rw [List.replicate_succ]; simp [val8, ih]

theorem refMulL0_runs (a b : List Int) (ha : lim8 a) (hb : lim8 b) (la : a.length ≤ 100000) (lb : b.length ≤ 100000) :
    ∃ y, Runs ref01_Mul_L0_step ref01_Mul_L0_vcs ⟨a, b, 0, List.replicate (a.length + b.length + 1) 0⟩ y ∧ (y.sums.length = a.length + b.length + 1 ∧ (∀ j, 0 ≤ y.sums.getD j 0 ∧ y.sums.getD j 0 ≤ 255) ∧ val8 y.sums = val8 a * val8 b) := by
  refine Runs.of (fun s => ∃ i : Nat, s.a = a ∧ s.b = b ∧ s.i = (i : Int) ∧ i ≤ a.length ∧ s.sums.length = a.length + b.length + 1 ∧ (∀ j, 0 ≤ s.sums.getD j 0 ∧ s.sums.getD j 0 ≤ 255) ∧ (∀ j, i + b.length ≤ j → s.sums.getD j 0 = 0) ∧ val8 s.sums = val8 (a.take i) * val8 b)
    (fun s => ((a.length : Int) - s.i).toNat) _ ?_ _ ⟨0, rfl, rfl, rfl, by omega, by simp, fun j => by dsimp only; rw [getD_rep]; omega, fun j _ => getD_rep _ _, by dsimp only; rw [val_rep8]; simp [val8]⟩
  rintro ⟨a', b', i', l⟩ ⟨i, h1, h2, h3, h4, h5, h6, h7, h8⟩
  dsimp only at *
  subst h1 h2 h3
  by_cases hi : i < a'.length
  · have hi' : (i : Int) < (a'.length : Int) := by omega
    have w1 : IntKind.i64.wrap ((i : Int) + 1) = ((i + 1 : Nat) : Int) := by rw [IntWalk.i64_in] <;> omega
    obtain ⟨y, hr, k1, k2, k3, k4, k5, k6, k7⟩ := refMulL2_runs a' b' ha hb i hi l h5 (by omega) h6 h7
    have e : ref01_Mul_L2_run ⟨a', b', (i : Int), 0, l⟩ = y := theRun_eq (d := fun x => x) hr
    refine ⟨?_, ?_⟩
    · simp only [ref01_Mul_L0_vcs, All, hi', decide_true, true_implies, and_true, Bool.true_eq_false, false_implies, e]
      exact hr
    · simp only [ref01_Mul_L0_step, hi', decide_true, cond_true, e, k1, k2, k3, w1]
      refine ⟨⟨i + 1, trivial, trivial, rfl, by omega, by omega, k5, fun j hj => k6 j (by omega), ?_⟩, by omega⟩
      rw [k7, h8, val_take8, Int.add_mul, Int.mul_assoc]
  · have hi' : ¬ (i : Int) < (a'.length : Int) := by omega
    have e : i = a'.length := by omega
    subst e
    refine ⟨by simp [ref01_Mul_L0_vcs, hi'], ?_⟩
    simp only [ref01_Mul_L0_step, hi', decide_false, cond_false]
    rw [List.take_of_length_le (Nat.le_refl _)] at h8
    exact ⟨h5, h6, h8⟩

theorem refMulL4_runs (s : List Int) (hs : ∀ j, 0 ≤ s.getD j 0 ∧ s.getD j 0 ≤ 255) (hl : s.length ≤ 1000000) :
    ∃ y, Runs ref01_Mul_L4_step ref01_Mul_L4_vcs ⟨0, 0, s, []⟩ y ∧ (y.carry = 0 ∧ y.out = s) := by
  refine Runs.of (fun x => ∃ i : Nat, x.carry = 0 ∧ x.i = (i : Int) ∧ x.sums = s ∧ i ≤ s.length ∧ x.out = s.take i) (fun x => ((s.length : Int) - x.i).toNat) _ ?_ _ ⟨0, rfl, rfl, rfl, by omega, rfl⟩
  rintro ⟨c, i', s', l⟩ ⟨i, h1, h2, h3, h4, h5⟩
  dsimp only at *
  subst h1 h2 h3 h5
  by_cases hi : i < s'.length
  · have hi' : (i : Int) < (s'.length : Int) := by omega
    have w1 : IntKind.i64.wrap ((i : Int) + 1) = ((i + 1 : Nat) : Int) := by rw [IntWalk.i64_in] <;> omega
    have g := hs i
    have w2 : IntKind.i64.wrap (s'.getD i 0 + 0) = s'.getD i 0 := by rw [IntWalk.i64_in] <;> omega
    have t1 : Int.tmod (s'.getD i 0) 256 = s'.getD i 0 := by rw [Int.tmod_eq_emod_of_nonneg g.1]; omega
    have t2 : Int.tdiv (s'.getD i 0) 256 = 0 := by rw [Int.tdiv_eq_ediv_of_nonneg g.1]; omega
    have w3 : IntKind.u8.wrap (s'.getD i 0) = s'.getD i 0 := u8_in g
    have w4 : IntKind.i64.wrap 0 = 0 := by decide
    have e : s'.take i ++ [s'.getD i 0] = s'.take (i + 1) := by
      rw [List.take_succ_eq_append_getElem hi, List.getD_eq_getElem?_getD, List.getElem?_eq_getElem hi]; rfl
    refine ⟨?_, ?_⟩
    · simp only [ref01_Mul_L4_vcs, All, hi', decide_true, true_implies, and_true, Bool.true_eq_false, false_implies, List.length_take, List.length_cons, List.length_nil, true_and]
      omega
    · simp only [ref01_Mul_L4_step, hi', decide_true, cond_true, Int.toNat_natCast, w1, w2, t1, t2, w3, w4, e]
      exact ⟨⟨i + 1, trivial, rfl, trivial, by omega, rfl⟩, by omega⟩
  · have hi' : ¬ (i : Int) < (s'.length : Int) := by omega
    refine ⟨by simp [ref01_Mul_L4_vcs, hi'], ?_⟩
    simp only [ref01_Mul_L4_step, hi', decide_false, cond_false]
    exact ⟨trivial, List.take_of_length_le (by omega)⟩

theorem lim8_of {s : List Int} (h : ∀ j, 0 ≤ s.getD j 0 ∧ s.getD j 0 ≤ 255) : lim8 s := by
  intro x hx
  obtain ⟨i, hi, rfl⟩ := List.getElem_of_mem hx
  have := h i
  rw [List.getD_eq_getElem?_getD, List.getElem?_eq_getElem hi] at this
  exact this

theorem refMul_eq (a b : List Int) (ha : lim8 a) (hb : lim8 b) (la : a.length ≤ 100000) (lb : b.length ≤ 100000) : S.ref01_Mul_pre a b ∧ S.ref01_Mul a b = digs8 (val8 a * val8 b).toNat := by
  obtain ⟨y, hr, h1, h2, h3⟩ := refMulL0_runs a b ha hb la lb
  obtain ⟨z, hz, k1, k2⟩ := refMulL4_runs y.sums h2 (by omega)
  have e : ref01_Mul_L0_run ⟨a, b, 0, List.replicate (a.length + b.length + 1) 0⟩ = y := theRun_eq (d := fun x => x) hr
  have e2 : ref01_Mul_L4_run ⟨0, 0, y.sums, []⟩ = z := theRun_eq (d := fun x => x) hz
  have hd : Runs ref01_Mul_L6_step ref01_Mul_L6_vcs ⟨0, y.sums⟩ ⟨0, y.sums⟩ := .done _ _ (by simp [ref01_Mul_L6_vcs]) (by simp [ref01_Mul_L6_step])
  have e3 : ref01_Mul_L6_run ⟨0, y.sums⟩ = ⟨0, y.sums⟩ := theRun_eq (d := fun x => x) hd
  have w1 : IntKind.i64.wrap ((a.length : Int) + (b.length : Int)) = ((a.length + b.length : Nat) : Int) := by rw [IntWalk.i64_in] <;> omega
  have w2 : IntKind.i64.wrap (((a.length + b.length : Nat) : Int) + 1) = ((a.length + b.length + 1 : Nat) : Int) := by rw [IntWalk.i64_in] <;> omega
  obtain ⟨p, q⟩ := trim_eq y.sums (lim8_of h2) (by omega)
  rw [h3] at q
  refine ⟨?_, ?_⟩
  · simp only [ref01_Mul_pre, All, w1, w2, Int.toNat_natCast, e, e2, k1, k2, e3, and_true, true_and]
    refine ⟨by omega, by omega, hr, hz, hd, p⟩
  · simp only [ref01_Mul, w1, w2, Int.toNat_natCast, e, e2, k1, k2, e3, q]
end S
