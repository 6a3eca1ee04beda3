/-
  Powers, sums of powers, and powers of two are the reference's.
-/
import Derived.Test.YthgfoemcjkokjaaPowPlain4
set_option linter.all false
open Go Vm
namespace S

theorem of_digs (z : Nat) (h : (digs z).length ≤ 10000) : S.ref01_Of_pre (digs z) ∧ S.ref01_Of (digs z) = digs8 z := by
  obtain ⟨e, l⟩ := digs_val z
  obtain ⟨p, q⟩ := refOf_eq (digs z) l (by omega)
  rw [e, Int.toNat_natCast] at q
  exact ⟨p, q⟩
theorem is03 (c : Int) (hc : c ≤ 200) (z : Nat) (w : List Int) (f : Bool) (hf : f = fits c z) (hw : fits c z = true → w = digs8 z) :
    S.law03_is_pre (bif fits c z then (num z, true) else (num 0, false)).1 (bif fits c z then (num z, true) else (num 0, false)).2 w f ∧
    S.law03_is (bif fits c z then (num z, true) else (num 0, false)).1 (bif fits c z then (num z, true) else (num 0, false)).2 w f = true := by
  cases h : fits c z with
  | false =>
    rw [h] at hf; subst hf
    have l0 := len0 0
    rw [decide_eq_true rfl] at l0
    refine ⟨?_, ?_⟩
    · simp only [law03_is_pre, cond_false, All, beq_self_eq_true, Bool.not_true, Bool.not_false, Bool.true_eq_false, Bool.false_eq_true, false_implies, implies_true, and_self]
    · simp only [law03_is, cond_false, beq_self_eq_true, Bool.not_true, Bool.not_false, cond_true, l0]
  | true =>
    rw [h] at hf; subst hf
    have := hw h; subst this
    have u := fits_upto (k := 200) h (by omega)
    obtain ⟨o1, o2⟩ := of_digs z (Nat.le_trans (digs_len _ _ u) (by omega))
    obtain ⟨s1', s2'⟩ := Same_eq z z (len8 u (by omega)) (len8 u (by omega))
    rw [decide_eq_true rfl] at s2'
    have ap := All_pre z (upto_small u (by omega))
    refine ⟨?_, ?_⟩
    · simp only [law03_is_pre, cond_true, All, All_num, o1, o2, s1', ap, beq_self_eq_true, Bool.not_true, Bool.true_eq_false, Bool.false_eq_true, false_implies, implies_true, and_self]
    · simp only [law03_is, cond_true, cond_false, All_num, o2, s2', beq_self_eq_true, Bool.not_true]

theorem logOf (m k : Nat) (h : m ≤ 18446744073709551615) (hk : lg m = k) : S.nat_Of_pre m ∧ S.power_Log_pre (S.nat_Of m) ∧ S.power_Log (S.nat_Of m) = (k : Int) := by
  obtain ⟨o1, o2⟩ := Of_num m h
  obtain ⟨l1, l2⟩ := Log_eq m (s1 (by omega))
  rw [o2]; exact ⟨o1, l1, by rw [l2, hk]⟩
theorem works03_L0 : Runs law03_works_L0_step law03_works_L0_vcs ⟨false, 0⟩ ⟨false, ⟨false, 6⟩⟩ := by
  have st : ∀ (i m k : Nat), i < 6 → ([0, 1, 2, 3, 256, 257] : List Int).getD i 0 = (m : Int) → ([0, 0, 1, 2, 8, 9] : List Int).getD i 0 = (k : Int) → m ≤ 1000 → lg m = k →
      law03_works_L0_vcs ⟨false, (i : Int)⟩ ∧ law03_works_L0_step ⟨false, (i : Int)⟩ = .inl ⟨false, ((i + 1 : Nat) : Int)⟩ := by
    intro i m k hi h1 h2 hm hk
    obtain ⟨a1, a2, a3⟩ := logOf m k (by omega) hk
    have hi' : decide ((i : Int) < 6) = true := decide_eq_true (by omega)
    have hw : IntKind.i64.wrap ((i : Int) + 1) = ((i + 1 : Nat) : Int) := by rw [IntWalk.i64_in] <;> omega
    refine ⟨?_, ?_⟩
    · simp only [law03_works_L0_vcs, hi', All, Int.toNat_natCast, h1, h2, a1, a2, a3, bne_self_eq_false, List.length_cons, List.length_nil, true_implies, Bool.true_eq_false, Bool.false_eq_true, false_implies, and_true, true_and, implies_true]
      omega
    · simp only [law03_works_L0_step, hi', Int.toNat_natCast, h1, h2, a3, bne_self_eq_false, cond_true, cond_false, hw]
  refine Runs.count (X := law03_works_L0) (Y := Bool × law03_works_L0) 6 (fun i => (⟨false, ((i : Nat) : Int)⟩ : law03_works_L0)) (false, ⟨false, 6⟩) (fun i hi => ?_) ⟨?_, ?_⟩
  · match i, hi with
    | 0, _ => exact st 0 0 0 (by omega) rfl rfl (by omega) rfl
    | 1, _ => exact st 1 1 0 (by omega) rfl rfl (by omega) rfl
    | 2, _ => exact st 2 2 1 (by omega) rfl rfl (by omega) (by decide +kernel)
    | 3, _ => exact st 3 3 2 (by omega) rfl rfl (by omega) (by decide +kernel)
    | 4, _ => exact st 4 256 8 (by omega) rfl rfl (by omega) (by decide +kernel)
    | 5, _ => exact st 5 257 9 (by omega) rfl rfl (by omega) (by decide +kernel)
  · simp [law03_works_L0_vcs]
  · simp [law03_works_L0_step]

theorem works03 : S.law03_works_pre ∧ S.law03_works = true := by
  obtain ⟨o2p, o2⟩ := Of_num 2 (by omega)
  obtain ⟨o3p, o3⟩ := Of_num 3 (by omega)
  obtain ⟨o1p, o1⟩ := one_num
  obtain ⟨o0p, o0⟩ := Of_num 0 (by omega)
  obtain ⟨o256p, o256⟩ := Of_num 256 (by omega)
  have o2p : S.nat_Of_pre 2 := o2p
  have o2 : S.nat_Of 2 = num 2 := o2
  have o3p : S.nat_Of_pre 3 := o3p
  have o3 : S.nat_Of 3 = num 3 := o3
  have o0p : S.nat_Of_pre 0 := o0p
  have o0 : S.nat_Of 0 = num 0 := o0
  have o256p : S.nat_Of_pre 256 := o256p
  have o256 : S.nat_Of 256 = num 256 := o256
  obtain ⟨p1, q1⟩ := Pow_eq 2 (by omega) 2 64 (s1 (by omega)) (by omega)
  obtain ⟨p2, q2⟩ := Pow_eq 2 (by omega) 2 128 (s1 (by omega)) (by omega)
  obtain ⟨p3, q3⟩ := Sum_eq 1 (by omega) 3 3 (s1 (by omega)) (by omega)
  obtain ⟨p4, q4⟩ := Sum_eq 1 (by omega) 1 18446744073709551615 (s1 (by omega)) (by omega)
  have f1 : fits 2 (2 ^ 64) = true := by rw [fits_iff]; decide +kernel
  have f2 : fits 2 (2 ^ 128) = false := by rw [fits_false]; decide +kernel
  have f3 : fits 1 (geo 3 3) = true := by rw [fits_iff]; decide +kernel
  have f4 : fits 1 (geo 1 18446744073709551615) = false := by rw [fits_false, geo_one]; decide +kernel
  rw [f1] at q1; rw [f2] at q2; rw [f3] at q3; rw [f4] at q4
  have g3 : geo 3 3 = 40 := rfl
  rw [g3] at q3
  have p1 : S.power_Pow_pre 2 (num 2) 64 := p1
  have q1 : S.power_Pow 2 (num 2) 64 = (num (2 ^ 64), true) := q1
  have p2 : S.power_Pow_pre 2 (num 2) 128 := p2
  have q2 : S.power_Pow 2 (num 2) 128 = (num 0, false) := q2
  have p3 : S.power_Sum_pre 1 (num 3) 3 := p3
  have q3 : S.power_Sum 1 (num 3) 3 = (num 40, true) := q3
  have p4 : S.power_Sum_pre 1 (num 1) 18446744073709551615 := p4
  have q4 : S.power_Sum 1 (num 1) 18446744073709551615 = (num 0, false) := q4
  obtain ⟨m1, m2, m3⟩ := Small_ok 40
  have d40 : digs 40 = [40] := digs_lt (by omega) (by omega)
  have m3 : (S.nat_Nat_Small (num 40)).1 = 40 := by rw [m3, d40]; rfl
  have l64 : S.nat_Nat_Len (num (2 ^ 64)) = 2 := by
    rw [Len_num, digs_B _ (by decide) (by decide)]; rfl
  obtain ⟨b0, c0⟩ := Bits_eq 0 small0
  obtain ⟨b1, c1⟩ := Bits_eq 1 small1
  obtain ⟨b2, c2⟩ := Bits_eq 256 (s1 (by omega))
  have e0 : bitLen 0 = 0 := by decide +kernel
  have e1 : bitLen 1 = 1 := by decide +kernel
  have e2 : bitLen 256 = 9 := by decide +kernel
  rw [e0] at c0; rw [e1] at c1; rw [e2] at c2
  have c0 : S.power_Bits (num 0) = 0 := c0
  have c1 : S.power_Bits (num 1) = 1 := c1
  have c2 : S.power_Bits (num 256) = 9 := c2
  have er : law03_works_L0_run ⟨false, 0⟩ = ⟨false, ⟨false, 6⟩⟩ := theRun_eq (d := fun x => ⟨true, x⟩) works03_L0
  refine ⟨?_, ?_⟩
  · simp only [law03_works_pre, o2, o3, o1, o0, o256, q1, q2, q3, q4, er, works03_L0, All, o2p, o3p, o1p, o0p, o256p, p1, p2, p3, p4, m1, b0, b1, b2, Bool.false_eq_true, false_implies, implies_true, and_self]
  · simp only [law03_works, o2, o3, o1, o0, o256, q1, q2, q3, q4, er, l64, m3, c0, c1, c2, cond_false]
    rfl

theorem limit_le (c : Int) : -3 ≤ S.law03_limit c ∧ S.law03_limit c ≤ 12 := by
  simp only [law03_limit]
  split <;> split <;> omega

theorem pow_cut (c : Int) (hc : c ≤ 12) (x n m : Nat) (hm : m = if 1000 < n then 1000 else n) : x ^ m = x ^ n ∨ (fits c (x ^ m) = false ∧ fits c (x ^ n) = false) := by
  split at hm
  · rename_i h
    have hm1 : 1000 ≤ m := by omega
    clear hm
    rcases Nat.lt_or_ge x 2 with h2 | h2
    · left; rw [pow_small01 x m (by omega) (by omega), pow_small01 x n (by omega) (by omega)]
    · right
      have : ∀ k, 1000 ≤ k → fits c (x ^ k) = false := fun k hk => by
        rw [fits_false]
        exact Nat.le_trans (Nat.pow_le_pow_right (by decide) (show 64 * c.toNat ≤ k by omega)) (two_le_pow h2 k)
      exact ⟨this _ hm1, this _ (by omega)⟩
  · left; rw [hm]

theorem PowerPows_law (c : Int) (a : List Int) (n : Int) (_ : inr .i64 c) (ga : (∀ x ∈ a, inr .u64 x) ∧ a.length ≤ maxLen) (gn : inr .u64 n) :
    S.law03_PowerPows_pre c a n ∧ S.law03_PowerPows c a n = true := by
  obtain ⟨wp, wv⟩ := works03
  by_cases h5 : decide ((a.length : Int) > 6) = true
  · refine ⟨?_, ?_⟩
    · simp only [law03_PowerPows_pre, All, h5, wp, Bool.true_eq_false, false_implies, implies_true, and_self]
    · simp only [law03_PowerPows, h5, wv, cond_true]
  · have h5 : decide ((a.length : Int) > 6) = false := by simpa using h5
    have hl : a.length ≤ 6 := by have := of_decide_eq_false h5; omega
    obtain ⟨n1, n2⟩ := inr_u64.1 gn
    obtain ⟨N, rfl⟩ := Int.eq_ofNat_of_zero_le n1
    have hN : N < 18446744073709551616 := by omega
    obtain ⟨lc1, lc2⟩ := limit_le c
    generalize hL : S.law03_limit c = L at *
    obtain ⟨pa, ea, sx⟩ := nLimbs a (lim_of ga.1) (by omega)
    obtain ⟨oa, fa⟩ := refOf_eq a (lim_of ga.1) (by omega)
    have ux := upto_mono (upto_val a (lim_of ga.1)) hl
    generalize (val a).toNat = x at *
    have hm : (if 1000 < (N : Int) then 1000 else (N : Int)) = ((if 1000 < N then 1000 else N : Nat) : Int) := by
      split
      · rw [if_pos (by omega)]; rfl
      · rw [if_neg (by omega)]
    have hM : (if 1000 < N then 1000 else N) < 18446744073709551616 := by split <;> omega
    have cut := fun y => pow_cut L lc2 y N _ rfl
    generalize hMM : (if 1000 < N then 1000 else N) = M at *
    obtain ⟨P1, Q1⟩ := Pow_eq L (by omega) x N sx hN
    obtain ⟨P2, Q2, R2⟩ := refPow_eq L (by omega) x M ux hM
    obtain ⟨P3, Q3⟩ := Sum_eq L (by omega) x N sx hN
    obtain ⟨P4, Q4, R4⟩ := refSum_eq L (by omega) x N ux hN
    obtain ⟨P5, Q5⟩ := Two_eq L (by omega) N hN
    obtain ⟨P6, Q6, R6⟩ := refPow_eq L (by omega) 2 M (by unfold upto; exact Nat.lt_of_lt_of_le (show 2 < 18446744073709551616 ^ 1 by decide) (Nat.pow_le_pow_right (by decide) (by omega))) hM
    have agree : ∀ (y : Nat) (w : List Int), (fits L (y ^ M) = true → w = digs8 (y ^ M)) → fits L (y ^ M) = fits L (y ^ N) ∧ (fits L (y ^ N) = true → w = digs8 (y ^ N)) := by
      intro y w hw
      rcases cut y with h | ⟨h1, h2⟩
      · rw [h] at hw ⊢; exact ⟨rfl, hw⟩
      · exact ⟨h1.trans h2.symm, fun h => by rw [h2] at h; cases h⟩
    obtain ⟨E1, F1⟩ := agree x _ R2
    obtain ⟨E2, F2⟩ := agree 2 _ R6
    obtain ⟨I1, J1⟩ := is03 L (by omega) (x ^ N) _ _ (Q2.trans E1) F1
    obtain ⟨I2, J2⟩ := is03 L (by omega) (geo x N) _ _ Q4 R4
    obtain ⟨I3, J3⟩ := is03 L (by omega) (2 ^ N) _ _ (Q6.trans E2) F2
    obtain ⟨O1, O2⟩ := of_digs x (Nat.le_trans (digs_len _ _ ux) (by omega))
    obtain ⟨S1, S2⟩ := Same_eq x x (len8 ux (by omega)) (len8 ux (by omega))
    rw [decide_eq_true rfl] at S2
    have ap := All_pre x sx
    refine ⟨?_, ?_⟩
    · simp only [law03_PowerPows_pre, two8, h5, hL, fa, ea, hm, Q1, Q3, Q5, J1, J2, J3, All, wp, oa, pa, P1, P2, P3, P4, P5, P6, I1, I2, I3, All_num, O1, O2, S1, ap, Bool.not_true, Bool.true_eq_false, Bool.false_eq_true, false_implies, implies_true, and_self]
    · simp only [law03_PowerPows, two8, h5, hL, fa, ea, hm, Q1, Q3, Q5, J1, J2, J3, All_num, O2, S2, wv, Bool.not_true, cond_false, Bool.and_self]
end S
