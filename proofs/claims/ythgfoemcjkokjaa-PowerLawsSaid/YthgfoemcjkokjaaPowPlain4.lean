/-
  The reference's powers and sums of powers.
-/
import Derived.Test.YthgfoemcjkokjaaPowPlain3
set_option linter.all false
open Go Vm
namespace S

theorem one8 : ([1] : List Int) = digs8 1 := by rw [digs_pos8 (by decide)]; simp [digs8]
theorem two8 : ([2] : List Int) = digs8 2 := by rw [digs_pos8 (by decide)]; simp [digs8]
theorem len8 {k x : Nat} (h : upto k x) (hk : k ≤ 10000) : (digs8 x).length ≤ 100000 := by
  have := bytes_len x; have := digs_len _ _ h; omega
theorem mul8 (m n : Nat) (hm : (digs8 m).length ≤ 100000) (hn : (digs8 n).length ≤ 100000) : S.ref01_Mul_pre (digs8 m) (digs8 n) ∧ S.ref01_Mul (digs8 m) (digs8 n) = digs8 (m * n) := by
  obtain ⟨v1, l1⟩ := digs_val8 m; obtain ⟨v2, l2⟩ := digs_val8 n
  obtain ⟨p, q⟩ := refMul_eq _ _ l1 l2 hm hn
  refine ⟨p, q.trans ?_⟩
  rw [v1, v2]; congr 1
theorem add8 (m n : Nat) (hm : (digs8 m).length ≤ 100000) (hn : (digs8 n).length ≤ 100000) : S.ref01_Add_pre (digs8 m) (digs8 n) ∧ S.ref01_Add (digs8 m) (digs8 n) = digs8 (m + n) := by
  obtain ⟨v1, l1⟩ := digs_val8 m; obtain ⟨v2, l2⟩ := digs_val8 n
  obtain ⟨p, q⟩ := refAdd_eq _ _ l1 l2 hm hn
  refine ⟨p, q.trans ?_⟩
  rw [v1, v2]; congr 1
theorem over8 (c : Int) (x : Nat) (h : small x) : S.ref03_over_pre (digs8 x) c ∧ S.ref03_over (digs8 x) c = !fits c x := by
  obtain ⟨p, q⟩ := refFits c x h
  exact ⟨by simp only [ref03_over_pre, All, p, and_self], by simp only [ref03_over, q]⟩
theorem empty8 (x : Nat) : (((digs8 x).length : Int) == 0) = decide (x = 0) := by
  rcases Nat.eq_zero_or_pos x with h | h
  · subst h; simp [digs8]
  · rw [digs_pos8 h, List.length_cons, decide_eq_false (by omega), beq_eq_false_iff_ne]; omega

theorem refPow_runs (c : Int) (hc : c ≤ 200) (x n : Nat) (hx : upto 6 x) (h1 : 1 ≤ x) (hn : n < 18446744073709551616) : ∀ d i : Nat, i + d = n → upto 206 (x ^ i) →
    ∃ y, Runs ref03_Pow_L0_step ref03_Pow_L0_vcs ⟨c, digs8 x, (n : Int), [], false, digs8 (x ^ i), (i : Int)⟩ y ∧
      ((y.1 = true ∧ y.2.t7 = false ∧ fits c (x ^ n) = false) ∨ (y.1 = false ∧ y.2.out = digs8 (x ^ n) ∧ y.2.limbs = c ∧ upto 206 (x ^ n))) := by
  intro d
  induction d with
  | zero =>
    intro i hi hu
    have : i = n := by omega
    subst this
    refine ⟨(false, ⟨c, digs8 x, (i : Int), [], false, digs8 (x ^ i), (i : Int)⟩), .done _ _ ?_ ?_, .inr ⟨rfl, rfl, rfl, hu⟩⟩
    · simp [ref03_Pow_L0_vcs]
    · simp [ref03_Pow_L0_step]
  | succ d ih =>
    intro i hi hu
    have hlt : decide ((i : Int) < (n : Int)) = true := decide_eq_true (by omega)
    obtain ⟨p1, q1⟩ := over8 c (x ^ i) (upto_small hu (by omega))
    obtain ⟨p2, q2⟩ := mul8 (x ^ i) x (len8 hu (by omega)) (len8 hx (by omega))
    rw [← Nat.pow_succ] at q2
    have hw : IntKind.u64.wrap ((i : Int) + 1) = ((i + 1 : Nat) : Int) := by rw [IntWalk.u64_in] <;> omega
    cases hf : fits c (x ^ i) with
    | false =>
      rw [hf] at q1
      refine ⟨(true, ⟨c, digs8 x, (n : Int), [], false, digs8 (x ^ i), (i : Int)⟩), .done _ _ ?_ ?_, .inl ⟨rfl, rfl, fits_not (pow_mono h1 (show i ≤ n by omega)) hf⟩⟩
      · simp only [ref03_Pow_L0_vcs, hlt, All, p1, q1, Bool.not_false, Bool.true_eq_false, false_implies, implies_true, and_self]
      · simp only [ref03_Pow_L0_step, hlt, q1, Bool.not_false, cond_true]
    | true =>
      rw [hf] at q1
      have hu' : upto 206 (x ^ (i + 1)) := by
        rw [Nat.pow_succ]; exact upto_mono (upto_mul (fits_upto (k := 200) hf (by omega)) hx) (by omega)
      obtain ⟨y, hr, hy⟩ := ih (i + 1) (by omega) hu'
      refine ⟨y, .next _ _ _ ?_ ?_ hr, hy⟩
      · simp only [ref03_Pow_L0_vcs, hlt, All, p1, q1, p2, Bool.not_true, Bool.true_eq_false, Bool.false_eq_true, false_implies, implies_true, and_self]
      · simp only [ref03_Pow_L0_step, hlt, q1, q2, hw, Bool.not_true, cond_true, cond_false]

theorem refPow_eq (c : Int) (hc : c ≤ 200) (x n : Nat) (hx : upto 6 x) (hn : n < 18446744073709551616) :
    S.ref03_Pow_pre c (digs8 x) n ∧ (S.ref03_Pow c (digs8 x) n).2 = fits c (x ^ n) ∧ (fits c (x ^ n) = true → (S.ref03_Pow c (digs8 x) n).1 = digs8 (x ^ n)) := by
  obtain ⟨sa, sb⟩ := Same_eq x 1 (len8 hx (by omega)) (len8 (k := 1) (by unfold upto; omega) (by omega))
  obtain ⟨o1, o2⟩ := over8 c 1 small1
  have hone : S.ref03_One = digs8 1 := one8
  by_cases h : n = 0 ∨ x = 1
  · have e : (((n : Int) == 0) || decide (x = 1)) = true := by
      rcases h with h | h <;> simp [h]
    have ep : x ^ n = 1 := by
      rcases h with h | h
      · subst h; rfl
      · subst h; exact Nat.one_pow n
    refine ⟨?_, ?_, ?_⟩
    · simp only [ref03_Pow_pre, hone, sb, e, All, sa, o1, Bool.true_eq_false, false_implies, implies_true, and_self]
    · simp only [ref03_Pow, hone, sb, e, cond_true, o2, Bool.not_not, ep]
    · intro _; simp only [ref03_Pow, hone, sb, e, cond_true, ep]
  · have h0 : n ≠ 0 := fun e => h (.inl e)
    have hx1 : x ≠ 1 := fun e => h (.inr e)
    have e : (((n : Int) == 0) || decide (x = 1)) = false := by
      have : ((n : Int) == 0) = false := by rw [beq_eq_false_iff_ne]; omega
      rw [this, decide_eq_false hx1]; rfl
    by_cases hz : x = 0
    · subst hz
      have e0 := empty8 0
      rw [decide_eq_true (show (0 : Nat) = 0 from rfl)] at e0
      have ep : 0 ^ n = 0 := Nat.zero_pow (by omega)
      have hf : fits c 0 = true := by rw [fits_iff]; exact Nat.pow_pos (by decide)
      refine ⟨?_, ?_, ?_⟩
      · simp only [ref03_Pow_pre, hone, sb, e, e0, All, sa, o1, Bool.true_eq_false, false_implies, implies_true, and_self]
      · simp only [ref03_Pow, hone, sb, e, e0, cond_true, cond_false, ep, hf]
      · intro _; simp only [ref03_Pow, hone, sb, e, e0, cond_true, cond_false, ep]; simp [digs8]
    · have e0 := empty8 x
      rw [decide_eq_false hz] at e0
      obtain ⟨y, hr, hy⟩ := refPow_runs c hc x n hx (by omega) hn n 0 (by omega) (by unfold upto; rw [Nat.pow_zero]; exact Nat.one_lt_pow (by omega) (by decide))
      rw [Nat.pow_zero] at hr
      have hr : Runs ref03_Pow_L0_step ref03_Pow_L0_vcs ⟨c, digs8 x, (n : Int), [], false, digs8 1, 0⟩ y := hr
      have er : ref03_Pow_L0_run ⟨c, digs8 x, (n : Int), [], false, digs8 1, 0⟩ = y := theRun_eq (d := fun x => ⟨true, x⟩) hr
      rcases hy with ⟨y1, y2, y3⟩ | ⟨y1, y2, y3, y4⟩
      · refine ⟨?_, ?_, ?_⟩
        · simp only [ref03_Pow_pre, hone, sb, e, e0, All, sa, o1, er, hr, y1, Bool.true_eq_false, Bool.false_eq_true, false_implies, implies_true, and_self]
        · simp only [ref03_Pow, hone, sb, e, e0, er, y1, cond_true, cond_false, y2, y3]
        · intro h; rw [y3] at h; cases h
      · obtain ⟨v1, v2⟩ := over8 c (x ^ n) (upto_small y4 (by omega))
        refine ⟨?_, ?_, ?_⟩
        · simp only [ref03_Pow_pre, hone, sb, e, e0, All, sa, o1, er, hr, y1, y2, y3, v1, Bool.true_eq_false, Bool.false_eq_true, false_implies, implies_true, and_self]
        · simp only [ref03_Pow, hone, sb, e, e0, er, y1, cond_true, cond_false, y2, y3, v2, Bool.not_not]
        · intro _; simp only [ref03_Pow, hone, sb, e, e0, er, y1, cond_false, y2]

theorem refSum_runs (c : Int) (hc : c ≤ 200) (x n : Nat) (hx : upto 6 x) (h1 : 2 ≤ x) (hn : n < 18446744073709551616) : ∀ d i : Nat, 64 * c.toNat + 1 ≤ i + d → i ≤ n → upto 207 (geo x i) →
    ∃ y, Runs ref03_Sum_L0_step ref03_Sum_L0_vcs ⟨c, digs8 x, (n : Int), [], false, digs8 (geo x i), digs8 (x ^ i), (i : Int)⟩ y ∧
      ((y.1 = true ∧ y.2.t7 = false ∧ fits c (geo x n) = false) ∨ (y.1 = false ∧ y.2.sum = digs8 (geo x n) ∧ y.2.limbs = c ∧ upto 207 (geo x n))) := by
  intro d
  induction d with
  | zero =>
    intro i hi hin hu
    have hno : fits c (geo x i) = false := by
      rw [fits_false]
      exact Nat.le_trans (Nat.le_trans (Nat.pow_le_pow_right (by decide) (show 64 * c.toNat ≤ i by omega)) (two_le_pow h1 i)) (pow_le_geo x i)
    by_cases e : i = n
    · subst e
      refine ⟨(false, ⟨c, digs8 x, (i : Int), [], false, digs8 (geo x i), digs8 (x ^ i), (i : Int)⟩), .done _ _ ?_ ?_, .inr ⟨rfl, rfl, rfl, hu⟩⟩
      · simp [ref03_Sum_L0_vcs]
      · simp [ref03_Sum_L0_step]
    · have hlt : decide ((i : Int) < (n : Int)) = true := decide_eq_true (by omega)
      obtain ⟨p1, q1⟩ := over8 c (geo x i) (upto_small hu (by omega))
      rw [hno] at q1
      refine ⟨(true, ⟨c, digs8 x, (n : Int), [], false, digs8 (geo x i), digs8 (x ^ i), (i : Int)⟩), .done _ _ ?_ ?_, .inl ⟨rfl, rfl, fits_not (geo_mono x hin) hno⟩⟩
      · simp only [ref03_Sum_L0_vcs, hlt, All, p1, q1, Bool.not_false, Bool.true_eq_false, false_implies, implies_true, and_self]
      · simp only [ref03_Sum_L0_step, hlt, q1, Bool.not_false, cond_true]
  | succ d ih =>
    intro i hi hin hu
    by_cases e : i = n
    · subst e
      refine ⟨(false, ⟨c, digs8 x, (i : Int), [], false, digs8 (geo x i), digs8 (x ^ i), (i : Int)⟩), .done _ _ ?_ ?_, .inr ⟨rfl, rfl, rfl, hu⟩⟩
      · simp [ref03_Sum_L0_vcs]
      · simp [ref03_Sum_L0_step]
    · have hlt : decide ((i : Int) < (n : Int)) = true := decide_eq_true (by omega)
      obtain ⟨p1, q1⟩ := over8 c (geo x i) (upto_small hu (by omega))
      have up : upto 207 (x ^ i) := Nat.lt_of_le_of_lt (pow_le_geo x i) hu
      obtain ⟨p2, q2⟩ := mul8 (x ^ i) x (len8 up (by omega)) (len8 hx (by omega))
      rw [← Nat.pow_succ] at q2
      have hw : IntKind.u64.wrap ((i : Int) + 1) = ((i + 1 : Nat) : Int) := by rw [IntWalk.u64_in] <;> omega
      cases hf : fits c (geo x i) with
      | false =>
        rw [hf] at q1
        refine ⟨(true, ⟨c, digs8 x, (n : Int), [], false, digs8 (geo x i), digs8 (x ^ i), (i : Int)⟩), .done _ _ ?_ ?_, .inl ⟨rfl, rfl, fits_not (geo_mono x hin) hf⟩⟩
        · simp only [ref03_Sum_L0_vcs, hlt, All, p1, q1, Bool.not_false, Bool.true_eq_false, false_implies, implies_true, and_self]
        · simp only [ref03_Sum_L0_step, hlt, q1, Bool.not_false, cond_true]
      | true =>
        rw [hf] at q1
        have u0 := fits_upto (k := 200) hf (by omega)
        have hu' : upto 207 (geo x (i + 1)) := upto_mono (upto_add (upto_mul u0 hx) (show upto (200 + 6) 1 by unfold upto; exact Nat.one_lt_pow (by omega) (by decide))) (by omega)
        have up' : upto 207 (x ^ (i + 1)) := Nat.lt_of_le_of_lt (pow_le_geo x _) hu'
        obtain ⟨p3, q3⟩ := add8 (geo x i) (x ^ (i + 1)) (len8 hu (by omega)) (len8 up' (by omega))
        rw [← geo_succ] at q3
        obtain ⟨y, hr, hy⟩ := ih (i + 1) (by omega) (by omega) hu'
        refine ⟨y, .next _ _ _ ?_ ?_ hr, hy⟩
        · simp only [ref03_Sum_L0_vcs, hlt, All, p1, q1, p2, q2, p3, Bool.not_true, Bool.true_eq_false, Bool.false_eq_true, false_implies, implies_true, and_self]
        · simp only [ref03_Sum_L0_step, hlt, q1, q2, q3, hw, Bool.not_true, cond_true, cond_false]

theorem number8 (n : Nat) (h : n < 18446744073709551616) : S.ref03_Number_pre n ∧ S.ref03_Number n = digs8 n := by
  have hl : lim [(n : Int)] := lim_cons.2 ⟨by omega, lim_nil⟩
  obtain ⟨p, q⟩ := refOf_eq [(n : Int)] hl (by simp)
  have hv : (val [(n : Int)]).toNat = n := by simp [val]
  rw [hv] at q
  exact ⟨by simp only [ref03_Number_pre, All, p, and_self], by simp only [ref03_Number, q]⟩

theorem refSum_eq (c : Int) (hc : c ≤ 200) (x n : Nat) (hx : upto 6 x) (hn : n < 18446744073709551616) :
    S.ref03_Sum_pre c (digs8 x) n ∧ (S.ref03_Sum c (digs8 x) n).2 = fits c (geo x n) ∧ (fits c (geo x n) = true → (S.ref03_Sum c (digs8 x) n).1 = digs8 (geo x n)) := by
  obtain ⟨o1, o2⟩ := over8 c 1 small1
  have hone : S.ref03_One = digs8 1 := one8
  have e0 := empty8 x
  by_cases hz : x = 0
  · subst hz
    rw [decide_eq_true rfl] at e0
    refine ⟨?_, ?_, ?_⟩
    · simp only [ref03_Sum_pre, e0, hone, All, o1, Bool.true_eq_false, false_implies, implies_true, and_self]
    · simp only [ref03_Sum, e0, hone, o2, cond_true, Bool.not_not, geo_zero]
    · intro _; simp only [ref03_Sum, e0, hone, cond_true, geo_zero]
  · rw [decide_eq_false hz] at e0
    obtain ⟨c1, c2⟩ := refCmp_eq x 1 (len8 hx (by omega)) (len8 (k := 1) (by unfold upto; omega) (by omega))
    have hsm : S.ref03_small (digs8 x) = decide (x ≤ 1) := by
      simp only [ref03_small, hone, c2]
      apply decide_eq_decide.2
      unfold sg
      constructor
      · intro h; split at h
        · omega
        · split at h <;> omega
      · intro h; have : x = 1 := by omega
        subst this; decide
    have hsp : S.ref03_small_pre (digs8 x) := by simp only [ref03_small_pre, hone, All, c1, and_self]
    by_cases h1 : x ≤ 1
    · have hx1 : x = 1 := by omega
      subst hx1
      obtain ⟨n1, n2⟩ := number8 n hn
      have un : upto 1 n := by unfold upto; omega
      have un1 : upto 2 (n + 1) := upto_add (k := 1) un (by unfold upto; omega)
      obtain ⟨a1, a2⟩ := add8 n 1 (len8 un (by omega)) (len8 (k := 1) (by unfold upto; omega) (by omega))
      obtain ⟨v1, v2⟩ := over8 c (n + 1) (upto_small un1 (by omega))
      rw [decide_eq_true h1] at hsm
      refine ⟨?_, ?_, ?_⟩
      · simp only [ref03_Sum_pre, e0, hone, hsm, hsp, n1, n2, a1, a2, v1, All, Bool.true_eq_false, Bool.false_eq_true, false_implies, implies_true, and_self]
      · simp only [ref03_Sum, e0, hone, hsm, n2, a2, v2, cond_true, cond_false, Bool.not_not, geo_one]
      · intro _; simp only [ref03_Sum, e0, hone, hsm, n2, a2, cond_true, cond_false, geo_one]
    · rw [decide_eq_false h1] at hsm
      obtain ⟨y, hr, hy⟩ := refSum_runs c hc x n hx (by omega) hn (64 * c.toNat + 1) 0 (by omega) (by omega) (by unfold upto geo; exact Nat.one_lt_pow (by omega) (by decide))
      have hr : Runs ref03_Sum_L0_step ref03_Sum_L0_vcs ⟨c, digs8 x, (n : Int), [], false, digs8 1, digs8 1, 0⟩ y := hr
      have er : ref03_Sum_L0_run ⟨c, digs8 x, (n : Int), [], false, digs8 1, digs8 1, 0⟩ = y := theRun_eq (d := fun x => ⟨true, x⟩) hr
      rcases hy with ⟨y1, y2, y3⟩ | ⟨y1, y2, y3, y4⟩
      · refine ⟨?_, ?_, ?_⟩
        · simp only [ref03_Sum_pre, e0, hone, hsm, hsp, er, hr, y1, All, Bool.true_eq_false, Bool.false_eq_true, false_implies, implies_true, and_self]
        · simp only [ref03_Sum, e0, hone, hsm, er, y1, y2, y3, cond_true, cond_false]
        · intro h; rw [y3] at h; cases h
      · obtain ⟨v1, v2⟩ := over8 c (geo x n) (upto_small y4 (by omega))
        refine ⟨?_, ?_, ?_⟩
        · simp only [ref03_Sum_pre, e0, hone, hsm, hsp, er, hr, y1, y2, y3, v1, All, Bool.true_eq_false, Bool.false_eq_true, false_implies, implies_true, and_self]
        · simp only [ref03_Sum, e0, hone, hsm, er, y1, y2, y3, v2, cond_false, Bool.not_not]
        · intro _; simp only [ref03_Sum, e0, hone, hsm, er, y1, y2, cond_false]
end S
