/-
  The stage's theorem on powers, in plain words.
-/
import Derived.Test.YthgfoemcjkokjaaPowPlain5
set_option linter.all false
open Go Vm
namespace S

theorem inr_u8 {x : Int} : inr .u8 x ↔ 0 ≤ x ∧ x ≤ 255 := by simp [inr, IntKind.min, IntKind.max, IntKind.signed, IntKind.bits]
theorem fits200 {z : Nat} (h : upto 200 z) : fits 200 z = true := by
  rw [fits_iff, show (200 : Int).toNat = 200 from rfl]; unfold upto at h; rw [pow64] at h; exact h
theorem upto_pow3 {x : Nat} (h : upto 3 x) (n : Nat) : upto (3 * n + 1) (x ^ n) := by
  induction n with
  | zero => unfold upto; rw [Nat.pow_zero]; exact Nat.one_lt_pow (by omega) (by decide)
  | succ n ih => rw [Nat.pow_succ]; exact upto_mono (upto_mul ih h) (by omega)
theorem upto_geo3 {x : Nat} (h : upto 3 x) (n : Nat) : upto (4 * n + 1) (geo x n) := by
  induction n with
  | zero => unfold upto geo; exact Nat.one_lt_pow (by omega) (by decide)
  | succ n ih => exact upto_mono (upto_add (upto_mul ih h) (show upto (4 * n + 1 + 3) 1 by unfold upto; exact Nat.one_lt_pow (by omega) (by decide))) (by omega)
theorem lg_192 {x : Nat} (h : upto 3 x) : lg x ≤ 192 := by
  rcases Nat.lt_or_ge 192 (lg x) with h' | h'
  · have h1 := lg_gt x (by omega)
    have h2 := Nat.pow_le_pow_right (n := 2) (by decide) (show 192 ≤ lg x - 1 by omega)
    unfold upto at h; rw [pow64] at h; omega
  · exact h'

theorem PowerLaws_law (a : List Int) (m n : Int) (ga : (∀ x ∈ a, inr .u64 x) ∧ a.length ≤ maxLen) (gm : inr .u8 m) (gn : inr .u8 n) :
    S.law03_PowerLaws_pre a m n ∧ S.law03_PowerLaws a m n = true := by
  obtain ⟨wp, wv⟩ := works03
  by_cases h5 : decide ((a.length : Int) > 3) = true
  · refine ⟨?_, ?_⟩
    · simp only [law03_PowerLaws_pre, All, h5, wp, Bool.true_eq_false, false_implies, implies_true, and_self]
    · simp only [law03_PowerLaws, h5, wv, cond_true]
  · have h5 : decide ((a.length : Int) > 3) = false := by simpa using h5
    have hl : a.length ≤ 3 := by have := of_decide_eq_false h5; omega
    rw [inr_u8] at gm gn
    have e1 : IntKind.u64.wrap (Int.tmod m 16) = ((m.toNat % 16 : Nat) : Int) := by
      rw [Int.tmod_eq_emod_of_nonneg (by omega), IntWalk.u64_in _ (by omega)]; omega
    have e2 : IntKind.u64.wrap (Int.tmod n 16) = ((n.toNat % 16 : Nat) : Int) := by
      rw [Int.tmod_eq_emod_of_nonneg (by omega), IntWalk.u64_in _ (by omega)]; omega
    have hi : m.toNat % 16 ≤ 15 := by omega
    have hk : n.toNat % 16 ≤ 15 := by omega
    generalize m.toNat % 16 = i at *
    generalize n.toNat % 16 = k at *
    have e3 : IntKind.u64.wrap ((i : Int) + (k : Int)) = ((i + k : Nat) : Int) := by rw [IntWalk.u64_in] <;> omega
    have e4 : IntKind.u64.wrap ((i : Int) + 1) = ((i + 1 : Nat) : Int) := by rw [IntWalk.u64_in] <;> omega
    obtain ⟨pa, ea, sx⟩ := nLimbs a (lim_of ga.1) (by omega)
    have ux := upto_mono (upto_val a (lim_of ga.1)) hl
    generalize (val a).toNat = x at *
    have ui := upto_pow3 ux i
    have uk := upto_pow3 ux k
    have uik := upto_pow3 ux (i + k)
    have vi := upto_geo3 ux i
    have vi1 := upto_geo3 ux (i + 1)
    obtain ⟨P1, Q1⟩ := Pow_eq 200 (by omega) x i sx (by omega)
    obtain ⟨P2, Q2⟩ := Pow_eq 200 (by omega) x k sx (by omega)
    obtain ⟨P3, Q3⟩ := Pow_eq 200 (by omega) x (i + k) sx (by omega)
    obtain ⟨P4, Q4⟩ := Sum_eq 200 (by omega) x i sx (by omega)
    obtain ⟨P5, Q5⟩ := Sum_eq 200 (by omega) x (i + 1) sx (by omega)
    rw [fits200 (upto_mono ui (by omega)), cond_true] at Q1
    rw [fits200 (upto_mono uk (by omega)), cond_true] at Q2
    rw [fits200 (upto_mono uik (by omega)), cond_true] at Q3
    rw [fits200 (upto_mono vi (by omega)), cond_true] at Q4
    rw [fits200 (upto_mono vi1 (by omega)), cond_true] at Q5
    have S1 : small (x ^ i) := upto_small ui (by omega)
    have S2 : small (x ^ k) := upto_small uk (by omega)
    have S3 : small (x ^ (i + k)) := upto_small uik (by omega)
    have S4 : small (geo x i) := upto_small vi (by omega)
    have S5 : small (geo x (i + 1)) := upto_small vi1 (by omega)
    obtain ⟨M1, N1⟩ := nMul (x ^ i) (x ^ k) S1 S2
    rw [← Nat.pow_add] at N1
    obtain ⟨C1, D1⟩ := nCmp0 (x ^ (i + k)) (x ^ (i + k)) S3 S3 rfl
    obtain ⟨M2, N2⟩ := nMul (geo x i) x S4 sx
    have S6 : small (geo x i * x) := upto_small (upto_mul vi ux) (by omega)
    obtain ⟨o1, o2⟩ := one_num
    obtain ⟨M3, N3⟩ := nAdd (geo x i * x) 1 S6 small1
    have eg : geo x i * x + 1 = geo x (i + 1) := rfl
    rw [eg] at N3
    obtain ⟨C2, D2⟩ := nCmp0 (geo x (i + 1)) (geo x (i + 1)) S5 S5 rfl
    obtain ⟨C3, D3⟩ := nCmp (geo x i) (x ^ i) S4 S1
    have D3 : decide (S.nat_Cmp (num (geo x i)) (num (x ^ i)) < 0) = false := by
      rw [D3]; apply decide_eq_false; unfold sg
      have := pow_le_geo x i
      rw [if_neg (by omega)]; split <;> omega
    obtain ⟨L1, L2⟩ := Log_eq x sx
    have hlg := lg_192 ux
    obtain ⟨T1, T2⟩ := Two_eq 200 (by omega) (lg x) (by omega)
    have ft : ∀ b, b ≤ 192 → fits 200 (2 ^ b) = true := fun b hb => by
      rw [fits_iff]; exact Nat.pow_lt_pow_right (by decide) (show b < 64 * 200 by omega)
    have st : ∀ b, b ≤ 192 → small (2 ^ b) := fun b hb => fits_small (ft b hb) (by omega)
    rw [ft _ hlg, cond_true] at T2
    obtain ⟨C4, D4⟩ := nCmp (2 ^ lg x) x (st _ hlg) sx
    have D4 : decide (S.nat_Cmp (num (2 ^ lg x)) (num x) < 0) = false := by
      rw [D4]; apply decide_eq_false; unfold sg
      have := lg_le x
      have : ((2 ^ lg x : Nat) : Int) - (x : Int) ≥ 0 := by omega
      rw [if_neg (by omega)]; split <;> omega
    by_cases hb : lg x = 0
    · have hd : decide ((lg x : Int) > 0) = false := decide_eq_false (by omega)
      refine ⟨?_, ?_⟩
      · simp only [law03_PowerLaws_pre, h5, ea, e1, e2, e3, e4, Q1, Q2, Q3, Q4, Q5, N1, D1, N2, o2, N3, D2, D3, L2, T2, D4, hd, All, wp, pa, P1, P2, P3, P4, P5, M1, C1, M2, o1, M3, C2, C3, L1, T1, C4,
          bne_self_eq_false, Bool.not_true, Bool.or_self, Bool.true_eq_false, Bool.false_eq_true, false_implies, implies_true, and_self]
      · simp only [law03_PowerLaws, h5, ea, e1, e2, e3, e4, Q1, Q2, Q3, Q4, Q5, N1, D1, N2, o2, N3, D2, D3, L2, T2, D4, hd, wv, bne_self_eq_false, Bool.not_true, Bool.or_self, cond_false]
    · have hd : decide ((lg x : Int) > 0) = true := decide_eq_true (by omega)
      have hw : IntKind.u64.wrap ((lg x : Int) - 1) = ((lg x - 1 : Nat) : Int) := by rw [IntWalk.u64_in] <;> omega
      obtain ⟨T3, T4⟩ := Two_eq 200 (by omega) (lg x - 1) (by omega)
      rw [ft _ (by omega), cond_true] at T4
      obtain ⟨C5, D5⟩ := nCmp (2 ^ (lg x - 1)) x (st _ (by omega)) sx
      have D5 : decide (S.nat_Cmp (num (2 ^ (lg x - 1))) (num x) ≥ 0) = false := by
        rw [D5]; apply decide_eq_false; unfold sg
        have := lg_gt x hb
        have : ((2 ^ (lg x - 1) : Nat) : Int) - (x : Int) < 0 := by omega
        rw [if_pos this]; decide
      refine ⟨?_, ?_⟩
      · simp only [law03_PowerLaws_pre, h5, ea, e1, e2, e3, e4, Q1, Q2, Q3, Q4, Q5, N1, D1, N2, o2, N3, D2, D3, L2, T2, D4, hd, hw, T4, D5, All, wp, pa, P1, P2, P3, P4, P5, M1, C1, M2, o1, M3, C2, C3, L1, T1, C4, T3, C5,
          bne_self_eq_false, Bool.not_true, Bool.or_self, Bool.true_eq_false, Bool.false_eq_true, false_implies, implies_true, and_self]
      · simp only [law03_PowerLaws, h5, ea, e1, e2, e3, e4, Q1, Q2, Q3, Q4, Q5, N1, D1, N2, o2, N3, D2, D3, L2, T2, D4, hd, hw, T4, D5, wv, bne_self_eq_false, Bool.not_true, Bool.or_self, cond_false, cond_true]
end S
