/-
  The reference's limbs of bytes: as many as the number has.
-/
import Derived.Test.YthgfoemcjkokjaaNatPlain14
set_option linter.all false
open Go Vm
namespace S

theorem LimbsL2_runs (n : List Int) (hn : lim8 n) (i h : Nat) (h1 : i ≤ h) (h2 : h ≤ i + 8) (h3 : h ≤ n.length) (hl : n.length ≤ 1000000) :
    ∃ y, Runs ref01_Limbs_L2_step ref01_Limbs_L2_vcs ⟨n, (i : Int), 0, (h : Int) - 1⟩ y ∧ (y.n = n ∧ y.i = (i : Int) ∧ (0 ≤ y.vx ∧ y.vx ≤ 18446744073709551615) ∧ val8 (n.take h) = val8 (n.take i) + 256 ^ i * y.vx) := by
  refine Runs.of (fun s => ∃ k : Nat, s.n = n ∧ s.i = (i : Int) ∧ s.k = (k : Int) - 1 ∧ i ≤ k ∧ k ≤ h ∧ 0 ≤ s.vx ∧ s.vx < 256 ^ (h - k) ∧ val8 (n.take h) = val8 (n.take k) + 256 ^ k * s.vx)
    (fun s => (s.k + 1).toNat) _ ?_ _ ⟨h, rfl, rfl, rfl, h1, by omega, by simp, by simp, by simp⟩
  rintro ⟨n', i', v, k'⟩ ⟨k, e1, e2, e3, e4, e5, e6, e7, e8⟩
  dsimp only at *
  subst e1 e2 e3
  have p8 : (256 : Int) ^ (h - k) ≤ 18446744073709551616 := by
    have h4 := Nat.pow_le_pow_right (n := 256) (by omega) (show h - k ≤ 8 by omega)
    have h5 := Int.ofNat_le.2 h4
    have h6 : ((256 ^ 8 : Nat) : Int) = 18446744073709551616 := by decide
    rw [h6] at h5
    simpa using h5
  by_cases hk : i < k
  · obtain ⟨j, rfl⟩ : ∃ j, k = j + 1 := ⟨k - 1, by omega⟩
    have ej : ((j + 1 : Nat) : Int) - 1 = (j : Int) := by omega
    rw [ej]
    have hge : (j : Int) ≥ (i : Int) := by omega
    have g := getD_lim8 hn j
    have hp : (256 : Int) ^ (h - j) = 256 ^ (h - (j + 1)) * 256 := by rw [← Int.pow_succ]; congr 1; omega
    have q8 : (256 : Int) ^ (h - j) ≤ 18446744073709551616 := by
      have h4 := Nat.pow_le_pow_right (n := 256) (by omega) (show h - j ≤ 8 by omega)
      have h5 := Int.ofNat_le.2 h4
      have h6 : ((256 ^ 8 : Nat) : Int) = 18446744073709551616 := by decide
      rw [h6] at h5
      simpa using h5
    have hv : v * 256 + n'.getD j 0 < 256 ^ (h - j) := by rw [hp]; omega
    have w1 : IntKind.u64.wrap (v * 256) = v * 256 := by rw [IntKind.wrap_u64]; omega
    have w2 : IntKind.u64.wrap (n'.getD j 0) = n'.getD j 0 := by rw [IntKind.wrap_u64]; omega
    have w3 : IntKind.u64.wrap (v * 256 + n'.getD j 0) = v * 256 + n'.getD j 0 := by rw [IntKind.wrap_u64]; omega
    have w4 : IntKind.i64.wrap ((j : Int) - 1) = (j : Int) - 1 := by rw [IntWalk.i64_in] <;> omega
    refine ⟨?_, ?_⟩
    · simp only [ref01_Limbs_L2_vcs, All, hge, decide_true, true_implies, and_true, Bool.true_eq_false, false_implies]
      omega
    · simp only [ref01_Limbs_L2_step, hge, decide_true, cond_true, Int.toNat_natCast, w1, w2, w3, w4]
      refine ⟨⟨j, trivial, trivial, rfl, by omega, by omega, by omega, hv, ?_⟩, by omega⟩
      rw [e8, val_take8, Int.pow_succ]
      have e : (256 : Int) ^ j * n'.getD j 0 + 256 ^ j * 256 * v = 256 ^ j * (v * 256 + n'.getD j 0) := by
        rw [Int.mul_assoc, ← Int.mul_add]; congr 1; omega
      omega
  · have ek : k = i := by omega
    subst ek
    have hge : ¬ ((k : Int) - 1 ≥ (k : Int)) := by omega
    refine ⟨by simp only [ref01_Limbs_L2_vcs, decide_eq_false hge, Bool.false_eq_true, false_implies, true_and, implies_true], ?_⟩
    simp only [ref01_Limbs_L2_step, decide_eq_false hge, cond_false]
    exact ⟨trivial, trivial, ⟨e6, by omega⟩, e8⟩

theorem LimbsL0_runs (n : List Int) (hn : lim8 n) (hl : n.length ≤ 900000) :
    ∃ y, Runs ref01_Limbs_L0_step ref01_Limbs_L0_vcs ⟨n, 0, []⟩ y ∧ (lim y.out ∧ val y.out = val8 n ∧ 8 * y.out.length < n.length + 8) := by
  refine Runs.of (fun s => ∃ q : Nat, s.n = n ∧ s.i = ((8 * q : Nat) : Int) ∧ 8 * q < n.length + 8 ∧ s.out.length = q ∧ lim s.out ∧ val s.out = val8 (n.take (8 * q))) (fun s => ((n.length : Int) + 8 - s.i).toNat) _ ?_ _ ⟨0, rfl, rfl, by omega, rfl, lim_nil, rfl⟩
  rintro ⟨n', i', o⟩ ⟨q, h1, h2, h3, h4, h5, h6⟩
  dsimp only at *
  subst h1 h2
  by_cases hi : 8 * q < n'.length
  · have hi' : ((8 * q : Nat) : Int) < (n'.length : Int) := by omega
    have w1 : IntKind.i64.wrap (((8 * q : Nat) : Int) + 8) = ((8 * (q + 1) : Nat) : Int) := by rw [IntWalk.i64_in] <;> omega
    have hm : (if ((8 * (q + 1) : Nat) : Int) < (n'.length : Int) then ((8 * (q + 1) : Nat) : Int) else (n'.length : Int)) = ((min (8 * (q + 1)) n'.length : Nat) : Int) := by split <;> omega
    have w2 : IntKind.i64.wrap (((min (8 * (q + 1)) n'.length : Nat) : Int) - 1) = ((min (8 * (q + 1)) n'.length : Nat) : Int) - 1 := by rw [IntWalk.i64_in] <;> omega
    obtain ⟨y, hr, k1, k2, k3, k4⟩ := LimbsL2_runs n' hn (8 * q) (min (8 * (q + 1)) n'.length) (by omega) (by omega) (by omega) (by omega)
    have e : ref01_Limbs_L2_run ⟨n', ((8 * q : Nat) : Int), 0, ((min (8 * (q + 1)) n'.length : Nat) : Int) - 1⟩ = y := theRun_eq (d := fun x => x) hr
    have ht : n'.take (min (8 * (q + 1)) n'.length) = n'.take (8 * (q + 1)) := by
      by_cases h : 8 * (q + 1) ≤ n'.length
      · rw [Nat.min_eq_left h]
      · rw [Nat.min_eq_right (by omega), List.take_of_length_le (Nat.le_refl _), List.take_of_length_le (by omega)]
    rw [ht] at k4
    refine ⟨?_, ?_⟩
    · simp only [ref01_Limbs_L0_vcs, All, hi', decide_true, true_implies, and_true, Bool.true_eq_false, false_implies, w1, hm, w2, e, h4, List.length_cons, List.length_nil]
      exact ⟨hr, by omega⟩
    · simp only [ref01_Limbs_L0_step, hi', decide_true, cond_true, w1, hm, w2, e, k1, k2]
      refine ⟨⟨q + 1, trivial, rfl, by omega, by simp [h4], lim_app.2 ⟨h5, lim_cons.2 ⟨k3, lim_nil⟩⟩, ?_⟩, by omega⟩
      rw [val_app, h4, h6, k4, pow8]; simp [val]
  · have hi' : ¬ ((8 * q : Nat) : Int) < (n'.length : Int) := by omega
    refine ⟨by simp only [ref01_Limbs_L0_vcs, hi', decide_false, Bool.false_eq_true, false_implies, true_and, implies_true], ?_⟩
    simp only [ref01_Limbs_L0_step, hi', decide_false, cond_false]
    rw [List.take_of_length_le (by omega)] at h6
    exact ⟨h5, h6, by omega⟩

theorem refLimbs_eq (m : Nat) (hm : (digs m).length ≤ 100000) : S.ref01_Limbs_pre (digs8 m) ∧ S.ref01_Limbs (digs8 m) = digs m := by
  have hb := bytes_len m
  obtain ⟨v8, l8⟩ := digs_val8 m
  obtain ⟨y, hr, h1, h2, h3⟩ := LimbsL0_runs (digs8 m) l8 (by omega)
  have e : ref01_Limbs_L0_run ⟨digs8 m, 0, []⟩ = y := theRun_eq (d := fun x => x) hr
  rw [v8] at h2
  have hlen : y.out.length ≤ (digs m).length := by omega
  have ht : top y.out := by
    intro k x hk hx
    subst hx
    have hv : val y.out = val k := by rw [hk, val_app]; simp [val]
    have hkl : lim k := (lim_app.1 (hk ▸ h1)).1
    have := val_lt hkl
    rw [← hv, h2] at this
    have h5 := digs_len m k.length (by
      have h4 : ((18446744073709551616 ^ k.length : Nat) : Int) = (18446744073709551616 : Int) ^ k.length := by simp
      omega)
    rw [hk, List.length_append] at hlen
    simp at hlen; omega
  have hd := digs_of _ h1 ht
  rw [h2, Int.toNat_natCast] at hd
  refine ⟨?_, ?_⟩
  · simp only [ref01_Limbs_pre, All, e, and_true]; exact hr
  · simp only [ref01_Limbs, e, hd]
end S
