/-
  The reference's bytes of limbs.
-/
import Derived.Test.YthgfoemcjkokjaaNatPlain10
set_option linter.all false
open Go Vm
namespace S

theorem OfL2_runs (x : Int) (hx : 0 ≤ x ∧ x ≤ 18446744073709551615) (o : List Int) (ho : lim8 o) (hl : o.length ≤ 900000) :
    ∃ y, Runs ref01_Of_L2_step ref01_Of_L2_vcs ⟨x, 0, o⟩ y ∧ (y.out.length = o.length + 8 ∧ lim8 y.out ∧ val8 y.out = val8 o + 256 ^ o.length * x) := by
  refine Runs.of (fun s => ∃ j : Nat, s.k = (j : Int) ∧ j ≤ 8 ∧ s.out.length = o.length + j ∧ lim8 s.out ∧ 0 ≤ s.n ∧ s.n ≤ x ∧ 256 ^ j * s.n ≤ x ∧ val8 s.out + 256 ^ (o.length + j) * s.n = val8 o + 256 ^ o.length * x)
    (fun s => ((8 : Int) - s.k).toNat) _ ?_ _ ⟨0, rfl, by omega, rfl, ho, hx.1, by simp, by simp, by simp⟩
  rintro ⟨n, k', l⟩ ⟨j, h1, h2, h3, h4, h5, h6, h7, h8⟩
  dsimp only at *
  subst h1
  by_cases hj : j < 8
  · have hj' : (j : Int) < 8 := by omega
    have w1 : IntKind.i64.wrap ((j : Int) + 1) = ((j + 1 : Nat) : Int) := by rw [IntWalk.i64_in] <;> omega
    have t1 : Int.tmod n 256 = n % 256 := Int.tmod_eq_emod_of_nonneg h5
    have t2 : Int.tdiv n 256 = n / 256 := Int.tdiv_eq_ediv_of_nonneg h5
    have w2 : IntKind.u8.wrap (n % 256) = n % 256 := u8_in (by omega)
    have w3 : IntKind.u64.wrap (n / 256) = n / 256 := by rw [IntKind.wrap_u64]; omega
    refine ⟨?_, ?_⟩
    · simp only [ref01_Of_L2_vcs, All, hj', decide_true, true_implies, and_true, Bool.true_eq_false, false_implies, h3, List.length_cons, List.length_nil]
      omega
    · simp only [ref01_Of_L2_step, hj', decide_true, cond_true, t1, t2, w1, w2, w3]
      have hd := Int.mul_ediv_add_emod n 256
      refine ⟨⟨j + 1, rfl, by omega, by simp [h3]; omega, lim_app8.2 ⟨h4, lim_cons8.2 ⟨by omega, lim_nil8⟩⟩, by omega, by omega, ?_, ?_⟩, by omega⟩
      · rw [Int.pow_succ, Int.mul_assoc]
        refine Int.le_trans (Int.mul_le_mul_of_nonneg_left (by omega) (Int.pow_nonneg (by omega))) h7
      · rw [val_app8, h3, ← Nat.add_assoc, Int.pow_succ]
        have e : (256 : Int) ^ (o.length + j) * (n % 256) + 256 ^ (o.length + j) * 256 * (n / 256) = 256 ^ (o.length + j) * n := by
          rw [Int.mul_assoc, ← Int.mul_add, show n % 256 + 256 * (n / 256) = n by omega]
        simp only [val8, Int.mul_zero, Int.add_zero]
        omega
  · have hj' : ¬ (j : Int) < 8 := by omega
    have e : j = 8 := by omega
    subst e
    refine ⟨by simp [ref01_Of_L2_vcs], ?_⟩
    simp only [ref01_Of_L2_step, hj', decide_false, cond_false]
    have hn : n = 0 := by
      rw [show (256 : Int) ^ 8 = 18446744073709551616 by decide] at h7; omega
    rw [hn, Int.mul_zero, Int.add_zero] at h8
    exact ⟨h3, h4, h8⟩

theorem pow8 (i : Nat) : (256 : Int) ^ (8 * i) = 18446744073709551616 ^ i := by
  rw [Int.pow_mul, show (256 : Int) ^ 8 = 18446744073709551616 by decide]

theorem OfL0_runs (l : List Int) (h : lim l) (hl : l.length ≤ 100000) :
    ∃ y, Runs ref01_Of_L0_step ref01_Of_L0_vcs ⟨l, 0, []⟩ y ∧ (y.out.length = 8 * l.length ∧ lim8 y.out ∧ val8 y.out = val l) := by
  refine Runs.of (fun s => ∃ i : Nat, s.l = l ∧ s.i = (i : Int) ∧ i ≤ l.length ∧ s.out.length = 8 * i ∧ lim8 s.out ∧ val8 s.out = val (l.take i))
    (fun s => ((l.length : Int) - s.i).toNat) _ ?_ _ ⟨0, rfl, rfl, by omega, rfl, lim_nil8, rfl⟩
  rintro ⟨l', i', o⟩ ⟨i, h1, h2, h3, h4, h5, h6⟩
  dsimp only at *
  subst h1 h2
  by_cases hi : i < l'.length
  · have hi' : (i : Int) < (l'.length : Int) := by omega
    have w1 : IntKind.i64.wrap ((i : Int) + 1) = ((i + 1 : Nat) : Int) := by rw [IntWalk.i64_in] <;> omega
    obtain ⟨y, hr, k1, k2, k3⟩ := OfL2_runs (l'.getD i 0) (getD_lim h i) o h5 (by omega)
    have e : ref01_Of_L2_run ⟨l'.getD i 0, 0, o⟩ = y := theRun_eq (d := fun x => x) hr
    refine ⟨?_, ?_⟩
    · simp only [ref01_Of_L0_vcs, All, hi', decide_true, true_implies, and_true, Bool.true_eq_false, false_implies, Int.toNat_natCast, e]
      exact ⟨by omega, trivial, hr⟩
    · simp only [ref01_Of_L0_step, hi', decide_true, cond_true, Int.toNat_natCast, e, w1]
      refine ⟨⟨i + 1, trivial, rfl, by omega, by omega, k2, ?_⟩, by omega⟩
      rw [k3, h4, h6, pow8, val_take]
  · have hi' : ¬ (i : Int) < (l'.length : Int) := by omega
    have e : i = l'.length := by omega
    subst e
    refine ⟨by simp [ref01_Of_L0_vcs], ?_⟩
    simp only [ref01_Of_L0_step, hi', decide_false, cond_false]
    rw [List.take_of_length_le (Nat.le_refl _)] at h6
    exact ⟨h4, h5, h6⟩
theorem refOf_eq (l : List Int) (h : lim l) (hl : l.length ≤ 100000) : S.ref01_Of_pre l ∧ S.ref01_Of l = digs8 (val l).toNat := by
  obtain ⟨y, hr, h1, h2, h3⟩ := OfL0_runs l h hl
  have e : ref01_Of_L0_run ⟨l, 0, []⟩ = y := theRun_eq (d := fun x => x) hr
  obtain ⟨p, q⟩ := trim_eq y.out h2 (by omega)
  rw [h3] at q
  refine ⟨?_, ?_⟩
  · simp only [ref01_Of_pre, All, e, and_true]; exact ⟨hr, p⟩
  · simp only [ref01_Of, e, q]
end S
