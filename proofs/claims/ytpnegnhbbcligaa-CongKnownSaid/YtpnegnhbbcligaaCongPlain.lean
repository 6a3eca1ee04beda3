/-
  Congruences: what the program's functions make of them, in plain words.
-/
import Derived.Test.YtpnegnhbbcligaaIDefs
import Derived.IntWalk
import Derived.Laws.BitsAllLaws
import Derived.Laws.MathBits
set_option linter.all false
open Go Vm
namespace S
instance : DecidableEq S.Cong := fun a b => decidable_of_iff (a.M = b.M ∧ a.R = b.R) (by rw [S.Cong.ext_iff])

theorem inr_u64 {x : Int} : inr .u64 x ↔ 0 ≤ x ∧ x ≤ 18446744073709551615 := by simp [inr, IntKind.min, IntKind.max, IntKind.signed, IntKind.bits]
theorem inr_i64 {x : Int} : inr .i64 x ↔ -9223372036854775808 ≤ x ∧ x ≤ 9223372036854775807 := by simp [inr, IntKind.min, IntKind.max, IntKind.signed, IntKind.bits]
theorem emod_unique {a m r q : Int} (h : a = m * q + r) (h0 : 0 ≤ r) (h1 : r < m) : a % m = r := by
  rw [h, Int.add_comm, Int.add_mul_emod_self_left]; exact Int.emod_eq_of_lt h0 h1
theorem neg_emod (n m : Int) (hm : 0 < m) : n % m = m - 1 - ((-n - 1) % m) := by
  have h1 := Int.emod_nonneg (-n - 1) (show m ≠ 0 by omega)
  have h2 := Int.emod_lt_of_pos (-n - 1) hm
  have h3 := Int.mul_ediv_add_emod (-n - 1) m
  refine emod_unique (q := -((-n - 1) / m) - 1) ?_ (by omega) (by omega)
  rw [Int.mul_sub, Int.mul_neg, Int.mul_one]; omega
theorem not_u64 (x : Int) (h0 : 0 ≤ x) (h1 : x ≤ 18446744073709551615) : bits .xor .u64 (if IntKind.u64.signed then -1 else IntKind.u64.max) x = 18446744073709551615 - x := by
  have e : (if IntKind.u64.signed then -1 else IntKind.u64.max) = 18446744073709551615 := by decide
  rw [e, u64_xor _ _ (by omega) (by omega) h0 (by omega)]
  have hx : x.toNat < 2 ^ 64 := by omega
  have := BitVec.toNat_not (x := BitVec.ofNat 64 x.toNat)
  rw [← BitVec.allOnes_xor, BitVec.toNat_xor, BitVec.toNat_allOnes, BitVec.toNat_ofNat, Nat.mod_eq_of_lt hx] at this
  have e2 : (18446744073709551615 : Int).toNat = 2 ^ 64 - 1 := by decide
  rw [e2, this]; omega
theorem tmod_pos (a b : Int) (h : 0 ≤ a) : Int.tmod a b = a % b := Int.tmod_eq_emod_of_nonneg h
theorem rest_eq (n m : Int) (hn : -9223372036854775808 ≤ n ∧ n ≤ 9223372036854775807) (hm : 0 < m) (hm2 : m ≤ 18446744073709551615) : S.cong_rest n m = n % m := by
  simp only [cong_rest]
  by_cases h : n < 0
  · have e1 : IntKind.u64.wrap n = n + 18446744073709551616 := by rw [IntKind.wrap_u64]; omega
    rw [e1, not_u64 _ (by omega) (by omega), tmod_pos _ _ (by omega), IntWalk.u64_in (m - 1) (by omega), decide_eq_true h, cond_true]
    have e2 : 18446744073709551615 - (n + 18446744073709551616) = -n - 1 := by omega
    rw [e2, neg_emod n m hm]
    have h1 := Int.emod_nonneg (-n - 1) (show m ≠ 0 by omega)
    have h2 := Int.emod_lt_of_pos (-n - 1) hm
    rw [IntWalk.u64_in _ (by omega)]
  · rw [decide_eq_false h, cond_false, IntWalk.u64_in n (by omega), tmod_pos _ _ (by omega)]
theorem Rest_eq (n m : Int) (hn : -9223372036854775808 ≤ n ∧ n ≤ 9223372036854775807) (hm : 0 < m) (hm2 : m ≤ 18446744073709551615) : S.ref20_Rest n m = n % m := by
  simp only [ref20_Rest]
  by_cases h : n ≥ 0
  · rw [decide_eq_true h, cond_true, IntWalk.u64_in n (by omega), tmod_pos _ _ (by omega)]
  · rw [decide_eq_false h, cond_false, IntWalk.i64_in (n + 1) (by omega), IntWalk.i64_in (0 - (n + 1)) (by omega), IntWalk.u64_in (0 - (n + 1)) (by omega), tmod_pos _ _ (by omega), IntWalk.u64_in (m - 1) (by omega)]
    have e2 : 0 - (n + 1) = -n - 1 := by omega
    rw [e2, neg_emod n m hm]
    have h1 := Int.emod_nonneg (-n - 1) (show m ≠ 0 by omega)
    have h2 := Int.emod_lt_of_pos (-n - 1) hm
    rw [IntWalk.u64_in _ (by omega)]
theorem rest_pre (n m : Int) (hm : m ≠ 0) : S.cong_rest_pre n m := by simp [cong_rest_pre, All, hm]
theorem Rest_pre (n m : Int) (hm : m ≠ 0) : S.ref20_Rest_pre n m := by simp [ref20_Rest_pre, All, hm]

/-- The congruence of a number. -/
def mk (m n : Int) : S.Cong := if m = 0 then ⟨0, IntKind.u64.wrap n⟩ else ⟨m, n % m⟩
theorem Make_eq (m n : Int) (hn : inr .i64 n) (hm : inr .u64 m) : S.cong_Make m n = mk m n := by
  rw [inr_i64] at hn; rw [inr_u64] at hm
  simp only [cong_Make, mk]
  by_cases h : m = 0
  · subst h; rfl
  · rw [rest_eq n m hn (by omega) (by omega), if_neg h, show (m == 0) = false from beq_eq_false_iff_ne.2 h, cond_false]
theorem refMake_eq (m n : Int) (hn : inr .i64 n) (hm : inr .u64 m) : S.ref20_Make m n = mk m n := by
  rw [inr_i64] at hn; rw [inr_u64] at hm
  simp only [ref20_Make, mk]
  by_cases h : m = 0
  · subst h; rfl
  · rw [Rest_eq n m hn (by omega) (by omega), if_neg h, show (m == 0) = false from beq_eq_false_iff_ne.2 h, cond_false]
theorem Make_pre (m n : Int) : S.cong_Make_pre m n := by
  simp only [cong_Make_pre, All, and_true]
  exact ⟨fun _ => trivial, fun h => rest_pre n m (fun e => by rw [e] at h; exact absurd h (by decide))⟩
theorem refMake_pre (m n : Int) : S.ref20_Make_pre m n := by
  simp only [ref20_Make_pre, All, and_true]
  exact ⟨fun _ => trivial, fun h => Rest_pre n m (fun e => by rw [e] at h; exact absurd h (by decide))⟩

/-- The greatest common divisor. -/
def G (a b : Int) : Int := (Nat.gcd a.toNat b.toNat : Nat)
theorem G_zero (a : Int) (h : 0 ≤ a) : G a 0 = a := by simp [G]; omega
theorem G_rec (a b : Int) (ha : 0 ≤ a) (hb : 0 < b) : G b (a % b) = G a b := by
  obtain ⟨A, rfl⟩ := Int.eq_ofNat_of_zero_le ha
  obtain ⟨B, rfl⟩ := Int.eq_ofNat_of_zero_le (Int.le_of_lt hb)
  simp only [G]
  have : ((A : Int) % (B : Int)).toNat = A % B := by omega
  rw [this, Int.toNat_natCast, Int.toNat_natCast, Nat.gcd_comm A B, Nat.gcd_rec B A, Nat.gcd_comm]
theorem gcd_runs : ∀ (n : Nat) (a b : Int), 0 ≤ a → 0 ≤ b → b.toNat = n → Runs cong_gcd_L0_step cong_gcd_L0_vcs ⟨a, b⟩ ⟨G a b, 0⟩ := by
  intro n
  induction n using Nat.strongRecOn with
  | _ n ih =>
    intro a b ha hb hn
    by_cases h : b = 0
    · subst h
      rw [G_zero a ha]
      exact .done _ _ (by simp [cong_gcd_L0_vcs]) (by simp [cong_gcd_L0_step])
    · have h1 := Int.emod_nonneg a h
      have h2 := Int.emod_lt_of_pos a (show 0 < b by omega)
      refine .next _ ⟨b, a % b⟩ _ (by simp [cong_gcd_L0_vcs, All, h]) (by simp only [cong_gcd_L0_step, show (b == 0) = false from beq_eq_false_iff_ne.2 h, cond_false, tmod_pos a b ha]) ?_
      rw [← G_rec a b ha (by omega)]
      exact ih (a % b).toNat (by omega) b (a % b) hb h1 rfl
theorem gcd_run (a b : Int) (ha : 0 ≤ a) (hb : 0 ≤ b) : cong_gcd_L0_run ⟨a, b⟩ = ⟨G a b, 0⟩ := theRun_eq (d := fun x => x) (gcd_runs _ a b ha hb rfl)
theorem gcd_eq (a b : Int) (ha : 0 ≤ a) (hb : 0 ≤ b) : S.cong_gcd a b = G a b := by simp only [cong_gcd, gcd_run a b ha hb]
theorem gcd_pre (a b : Int) (ha : 0 ≤ a) (hb : 0 ≤ b) : S.cong_gcd_pre a b := by
  simp only [cong_gcd_pre, gcd_run a b ha hb, All, and_true]; exact gcd_runs _ a b ha hb rfl
theorem Gcd_F : ∀ (n : Nat) (a b : Int), 0 ≤ a → 0 ≤ b → S.ref20_Gcd_D n a b → S.ref20_Gcd_F n a b = G a b := by
  intro n
  induction n with
  | zero => intro a b _ _ h; exact h.elim
  | succ n ih =>
    intro a b ha hb h
    by_cases h0 : b = 0
    · subst h0; simp [ref20_Gcd_F, G_zero a ha]
    · simp only [ref20_Gcd_D, All, and_true] at h
      have h1 := Int.emod_nonneg a h0
      have := h.2 (by simpa using h0)
      rw [tmod_pos a b ha] at this
      simp only [ref20_Gcd_F]
      rw [show (b == 0) = false by simpa using h0, cond_false, tmod_pos a b ha, ih _ _ hb h1 this.2, G_rec a b ha (by omega)]
theorem Gcd_D : ∀ (k : Nat) (a b : Int), 0 ≤ a → 0 ≤ b → b.toNat = k → ∃ n, S.ref20_Gcd_D n a b := by
  intro k
  induction k using Nat.strongRecOn with
  | _ k ih =>
    intro a b ha hb hk
    by_cases h0 : b = 0
    · subst h0; exact ⟨1, by simp [ref20_Gcd_D]⟩
    · have h1 := Int.emod_nonneg a h0
      have h2 := Int.emod_lt_of_pos a (show 0 < b by omega)
      obtain ⟨n, hn⟩ := ih (a % b).toNat (by omega) b (a % b) hb h1 rfl
      exact ⟨n + 1, by simp only [ref20_Gcd_D, All, and_true, tmod_pos a b ha]; exact ⟨fun _ => trivial, fun _ => ⟨h0, hn⟩⟩⟩
theorem Gcd_pre (a b : Int) (ha : 0 ≤ a) (hb : 0 ≤ b) : S.ref20_Gcd_pre a b := Gcd_D _ a b ha hb rfl
theorem Gcd_eq (a b : Int) (ha : 0 ≤ a) (hb : 0 ≤ b) : S.ref20_Gcd a b = G a b :=
  Gcd_F _ a b ha hb (Classical.epsilon_spec (Gcd_pre a b ha hb))

theorem G_pos (a b : Int) (ha : 0 ≤ a) (hb : 0 ≤ b) : 0 ≤ G a b ∧ (G a b ≤ a ∨ a = 0) ∧ (G a b ≤ b ∨ b = 0) ∧ (G a b = 0 ↔ a = 0 ∧ b = 0) := by
  simp only [G]
  have h1 : 0 < a.toNat → Nat.gcd a.toNat b.toNat ≤ a.toNat := fun h => Nat.le_of_dvd h (Nat.gcd_dvd_left _ _)
  have h2 : 0 < b.toNat → Nat.gcd a.toNat b.toNat ≤ b.toNat := fun h => Nat.le_of_dvd h (Nat.gcd_dvd_right _ _)
  have h3 : Nat.gcd a.toNat b.toNat = 0 ↔ a.toNat = 0 ∧ b.toNat = 0 := Nat.gcd_eq_zero_iff
  refine ⟨by omega, ?_, ?_, ?_⟩
  · by_cases h : a = 0
    · exact .inr h
    · left; have := h1 (by omega); omega
  · by_cases h : b = 0
    · exact .inr h
    · left; have := h2 (by omega); omega
  · constructor
    · intro h; have := h3.1 (by omega); omega
    · rintro ⟨rfl, rfl⟩; rfl

theorem ok_iff (c : S.Cong) : S.Cong.ok c ↔ (0 ≤ c.M ∧ c.M ≤ 18446744073709551615) ∧ (0 ≤ c.R ∧ c.R ≤ 18446744073709551615) := by
  simp only [S.Cong.ok, inr_u64, and_true]
theorem num_i64 (x : Int) : -9223372036854775808 ≤ IntKind.i64.wrap x ∧ IntKind.i64.wrap x ≤ 9223372036854775807 := by rw [IntKind.wrap_i64]; omega
theorem by_eq (c : S.Cong) (g : Int) (hc : S.Cong.ok c) (hg : 0 < g) (hg2 : g ≤ 18446744073709551615) : S.cong_Cong_by c g = (if c.M = 0 then IntKind.i64.wrap c.R % g else c.R % g) := by
  rw [ok_iff] at hc
  simp only [cong_Cong_by, cong_Cong_single, cong_Cong_number, rest_eq _ g (num_i64 _) hg hg2, tmod_pos c.R g hc.2.1]
  rw [cond_eq_if]; simp only [beq_iff_eq]
theorem Of_eq (c : S.Cong) (g : Int) (hc : S.Cong.ok c) (hg : 0 < g) (hg2 : g ≤ 18446744073709551615) : S.ref20_Of c g = (if c.M = 0 then IntKind.i64.wrap c.R % g else c.R % g) := by
  rw [ok_iff] at hc
  simp only [ref20_Of, Rest_eq _ g (num_i64 _) hg hg2, tmod_pos c.R g hc.2.1]
  rw [cond_eq_if]; simp only [beq_iff_eq]
theorem by_pre (c : S.Cong) (g : Int) (hg : g ≠ 0) : S.cong_Cong_by_pre c g := by
  simp only [cong_Cong_by_pre, All, and_true]; exact ⟨fun _ => rest_pre _ _ hg, fun _ => hg⟩
theorem Of_pre (c : S.Cong) (g : Int) (hg : g ≠ 0) : S.ref20_Of_pre c g := by
  simp only [ref20_Of_pre, All, and_true]; exact ⟨fun _ => Rest_pre _ _ hg, fun _ => hg⟩
/-- Whether a congruence has a number. -/
def has (c : S.Cong) (n : Int) : Bool := decide (mk c.M n = c)
theorem eqb (a b : S.Cong) : ((a.M == b.M) && (a.R == b.R)) = decide (a = b) := by
  rw [Bool.eq_iff_iff]; simp [S.Cong.ext_iff]
theorem Has_eq (c : S.Cong) (n : Int) (hc : S.Cong.ok c) (hn : inr .i64 n) : S.cong_Cong_Has c n = has c n := by
  rw [ok_iff] at hc
  simp only [cong_Cong_Has, Make_eq c.M n hn (inr_u64.2 hc.1), has, eqb]
theorem refHas_eq (c : S.Cong) (n : Int) (hc : S.Cong.ok c) (hn : inr .i64 n) : S.ref20_Has c n = has c n := by
  rw [ok_iff] at hc; rw [inr_i64] at hn
  by_cases h : c.M = 0
  · have hm : mk c.M n = ⟨0, IntKind.u64.wrap n⟩ := if_pos h
    simp only [ref20_Has, has, hm]
    rw [show (c.M == 0) = true by simpa using h, cond_true, Bool.eq_iff_iff]
    simp only [beq_iff_eq, decide_eq_true_eq, S.Cong.ext_iff]; omega
  · have hm : mk c.M n = ⟨c.M, n % c.M⟩ := if_neg h
    simp only [ref20_Has, has, hm]
    rw [show (c.M == 0) = false from beq_eq_false_iff_ne.2 h, cond_false, Bool.eq_iff_iff, Rest_eq n c.M hn (by omega) (by omega)]
    simp only [beq_iff_eq, decide_eq_true_eq, S.Cong.ext_iff, true_and]
theorem Has_pre (c : S.Cong) (n : Int) : S.cong_Cong_Has_pre c n := by simp only [cong_Cong_Has_pre, All, and_true]; exact Make_pre _ _
theorem refHas_pre (c : S.Cong) (n : Int) : S.ref20_Has_pre c n := by
  simp only [ref20_Has_pre, All, and_true]; exact ⟨fun _ => trivial, fun h => Rest_pre _ _ (fun e => by rw [e] at h; exact absurd h (by decide))⟩
theorem Within_eq (a b : S.Cong) (ha : S.Cong.ok a) (hb : S.Cong.ok b) : S.cong_Within a b = S.ref20_Within a b := by
  simp only [cong_Within, ref20_Within, cong_Cong_single]
  by_cases h : b.M = 0
  · rw [show (b.M == 0) = true by simpa using h]; rfl
  · rw [ok_iff] at hb
    rw [by_eq a b.M ha (by omega) hb.1.2, Of_eq a b.M ha (by omega) hb.1.2]
theorem Within_pre (a b : S.Cong) : S.cong_Within_pre a b := by
  simp only [cong_Within_pre, All, and_true, cong_Cong_single]
  refine ⟨fun _ => trivial, fun h => ?_⟩
  have : b.M ≠ 0 := fun e => by rw [e] at h; exact absurd h (by decide)
  exact ⟨this, fun _ => by_pre a b.M this⟩
theorem refWithin_pre (a b : S.Cong) : S.ref20_Within_pre a b := by
  simp only [ref20_Within_pre, All, and_true]
  refine ⟨fun _ => trivial, fun h => ?_⟩
  have : b.M ≠ 0 := fun e => by rw [e] at h; exact absurd h (by decide)
  exact ⟨this, fun _ => Of_pre a b.M this⟩
theorem Right_eq (a : S.Cong) : S.cong_Cong_Right a = S.ref20_Right a := rfl
theorem Right_iff (a : S.Cong) : S.ref20_Right a = true ↔ a.M = 0 ∨ a.R < a.M := by simp [ref20_Right]
theorem Within_self (a : S.Cong) (ha : S.Cong.ok a) (hr : S.ref20_Right a = true) : S.cong_Within a a = true := by
  rw [Right_iff] at hr
  have ha' := (ok_iff a).1 ha
  simp only [cong_Within, cong_Cong_single, eqb]
  by_cases h : a.M = 0
  · simp [h]
  · rw [by_eq a a.M ha (by omega) ha'.1.2, if_neg h, show (a.M == 0) = false from beq_eq_false_iff_ne.2 h, cond_false, tmod_pos _ _ ha'.1.1, Int.emod_self, Int.emod_eq_of_lt ha'.2.1 (by omega)]
    simp
theorem Within_top (a : S.Cong) (ha : S.Cong.ok a) : S.cong_Within a S.cong_Top = true := by
  have ha' := (ok_iff a).1 ha
  simp only [cong_Within, cong_Cong_single, cong_Top]
  rw [by_eq a 1 ha (by decide) (by decide), tmod_pos _ _ ha'.1.1, Int.emod_one]
  split <;> simp [Int.emod_one]
theorem plus_eq (a b m : Int) (ha : 0 ≤ a ∧ a < m) (hb : 0 ≤ b ∧ b < m) (hm : m ≤ 18446744073709551615) : S.cong_plus a b m = (a + b) % m := by
  by_cases h : a + b ≥ 18446744073709551616
  · have e : S.math_bits_Add64 a b 0 = (a + b - 18446744073709551616, 1) := by simp only [math_bits_Add64]; congr 1 <;> omega
    simp only [cong_plus, e, show decide ((1 : Int) > 0) = true from rfl, Bool.true_or, cond_true]
    rw [IntKind.wrap_u64]
    have : (a + b) % m = a + b - m := emod_unique (q := 1) (by omega) (by omega) (by omega)
    omega
  · have e : S.math_bits_Add64 a b 0 = (a + b, 0) := by simp only [math_bits_Add64]; congr 1 <;> omega
    simp only [cong_plus, e, show decide ((0 : Int) > 0) = false from rfl, Bool.false_or]
    by_cases h2 : a + b ≥ m
    · rw [decide_eq_true h2, cond_true, IntWalk.u64_in _ (by omega)]
      exact (emod_unique (q := 1) (by omega) (by omega) (by omega)).symm
    · rw [decide_eq_false h2, cond_false, Int.emod_eq_of_lt (by omega) (by omega)]
theorem plus_pre (a b m : Int) (ha : 0 ≤ a) (hb : 0 ≤ b) : S.cong_plus_pre a b m := by
  simp only [cong_plus_pre, All, and_true, math_bits_Add64_pre]; omega
theorem refminus_eq (a b m : Int) (ha : 0 ≤ a ∧ a < m) (hb : 0 ≤ b ∧ b < m) (hm : m ≤ 18446744073709551615) : S.ref20_minus a b m = (a - b) % m := by
  simp only [ref20_minus]
  by_cases h : a ≥ b
  · rw [decide_eq_true h, cond_true, IntWalk.u64_in _ (by omega), Int.emod_eq_of_lt (by omega) (by omega)]
  · rw [decide_eq_false h, cond_false, IntWalk.u64_in (m - b) (by omega), IntWalk.u64_in _ (by omega)]
    exact (emod_unique (q := -1) (by omega) (by omega) (by omega)).symm
theorem refplus_eq (a b m : Int) (ha : 0 ≤ a ∧ a < m) (hb : 0 ≤ b ∧ b < m) (hm : m ≤ 18446744073709551615) : S.ref20_plus a b m = (a + b) % m := by
  simp only [ref20_plus]
  rw [IntWalk.u64_in (m - b) (by omega)]
  by_cases h : a ≥ m - b
  · rw [decide_eq_true h, cond_true, IntWalk.u64_in _ (by omega)]
    exact (emod_unique (q := 1) (by omega) (by omega) (by omega)).symm
  · rw [decide_eq_false h, cond_false, IntWalk.u64_in _ (by omega), Int.emod_eq_of_lt (by omega) (by omega)]
theorem neg_plus (x y m : Int) (hm : 0 < m) (hx : 0 ≤ x ∧ x < m) (hy : 0 ≤ y ∧ y < m) (hm2 : m ≤ 18446744073709551615) : S.cong_plus x (Int.tmod (IntKind.u64.wrap (m - y)) m) m = (x - y) % m ∧ S.cong_plus_pre x (Int.tmod (IntKind.u64.wrap (m - y)) m) m := by
  rw [IntWalk.u64_in (m - y) (by omega), tmod_pos _ _ (by omega)]
  have h1 := Int.emod_nonneg (m - y) (show m ≠ 0 by omega)
  have h2 := Int.emod_lt_of_pos (m - y) hm
  refine ⟨?_, plus_pre _ _ _ (by omega) h1⟩
  rw [plus_eq _ _ _ hx ⟨h1, h2⟩ hm2, Int.add_emod_emod, show x + (m - y) = x - y + m by omega, Int.add_emod_right]

theorem sub_mod (x n m : Int) : (x - n % m) % m = (x - n) % m := by
  have h := Int.mul_ediv_add_emod n m
  rw [show x - n % m = (x - n) + m * (n / m) by omega, Int.add_mul_emod_self_left]
theorem mod_sub (x n m : Int) : (n % m - x) % m = (n - x) % m := by
  have h := Int.mul_ediv_add_emod n m
  rw [show n - x = (n % m - x) + m * (n / m) by omega, Int.add_mul_emod_self_left]
theorem mod_range (x m : Int) (hm : 0 < m) : 0 ≤ x % m ∧ x % m < m := ⟨Int.emod_nonneg x (by omega), Int.emod_lt_of_pos x hm⟩

def least (c : S.Cong) (n : Int) : Int × Bool :=
  if c.M = 0 then (if IntKind.i64.wrap c.R ≥ n then (IntKind.i64.wrap c.R, true) else (0, false))
  else if (c.R - n) % c.M > 9223372036854775807 - n then (0, false) else (n + (c.R - n) % c.M, true)
def greatest (c : S.Cong) (n : Int) : Int × Bool :=
  if c.M = 0 then (if IntKind.i64.wrap c.R ≤ n then (IntKind.i64.wrap c.R, true) else (0, false))
  else if (n - c.R) % c.M > n + 9223372036854775808 then (0, false) else (n - (n - c.R) % c.M, true)

section
variable (c : S.Cong) (n : Int) (hc : S.Cong.ok c) (hr : S.ref20_Right c = true) (hn : inr .i64 n)
include hc hr hn
theorem Least_both : S.cong_Cong_Least c n = least c n ∧ S.ref20_Least c n = least c n ∧ S.cong_Cong_Least_pre c n ∧ S.ref20_Least_pre c n := by
  rw [ok_iff] at hc; rw [Right_iff] at hr; rw [inr_i64] at hn
  by_cases h : c.M = 0
  · have hb : (c.M == 0) = true := by simpa using h
    refine ⟨?_, ?_, ?_, ?_⟩
    · simp only [cong_Cong_Least, cong_Cong_single, cong_Cong_number0, cong_Cong_number, hb, cond_true, least, h, if_true]
      by_cases h2 : IntKind.i64.wrap c.R ≥ n <;> simp [h2]
    · simp only [ref20_Least, hb, cond_true]
      rw [least, if_pos h]
      by_cases h2 : IntKind.i64.wrap c.R ≥ n
      · rw [decide_eq_false (by omega), cond_false, if_pos h2]
      · rw [decide_eq_true (by omega), cond_true, if_neg h2]
    · simp [cong_Cong_Least_pre, cong_Cong_single, hb]
    · simp [ref20_Least_pre, hb]
  · have hb : (c.M == 0) = false := beq_eq_false_iff_ne.2 h
    have hM : 0 < c.M := by omega
    have h1 := mod_range n c.M hM
    obtain ⟨e1, p1⟩ := neg_plus c.R (n % c.M) c.M hM (by omega) h1 (by omega)
    have e2 := refminus_eq c.R (n % c.M) c.M (by omega) h1 (by omega)
    rw [sub_mod] at e1 e2
    have hd := mod_range (c.R - n) c.M hM
    have hw : IntKind.u64.wrap (9223372036854775807 - IntKind.u64.wrap n) = 9223372036854775807 - n := by rw [IntKind.wrap_u64, IntKind.wrap_u64]; omega
    refine ⟨?_, ?_, ?_, ?_⟩
    · simp only [cong_Cong_Least, cong_Cong_single, hb, cond_false, rest_eq n c.M hn hM hc.1.2, e1, hw, least, h, if_false]
      by_cases h2 : (c.R - n) % c.M > 9223372036854775807 - n
      · rw [decide_eq_true h2, cond_true, if_pos h2]
      · rw [decide_eq_false h2, cond_false, if_neg h2]
        congr 1
        rw [IntKind.wrap_i64, IntKind.wrap_i64]; omega
    · simp only [ref20_Least, hb, cond_false, Rest_eq n c.M hn hM hc.1.2, e2, hw, least, h, if_false]
      by_cases h2 : (c.R - n) % c.M > 9223372036854775807 - n
      · rw [decide_eq_true h2, cond_true, if_pos h2]
      · rw [decide_eq_false h2, cond_false, if_neg h2]
        congr 1
        rw [IntKind.wrap_i64, IntKind.wrap_u64, IntKind.wrap_u64]; omega
    · simp only [cong_Cong_Least_pre, cong_Cong_single, hb, All, and_true, rest_eq n c.M hn hM hc.1.2]
      exact ⟨fun h => Bool.noConfusion h, fun _ => ⟨⟨rest_pre _ _ h, h, p1⟩, by simp⟩⟩
    · simp only [ref20_Least_pre, hb, All, and_true]
      exact ⟨fun h => Bool.noConfusion h, fun _ => ⟨Rest_pre _ _ h, by simp⟩⟩
theorem Greatest_both : S.cong_Cong_Greatest c n = greatest c n ∧ S.ref20_Greatest c n = greatest c n ∧ S.cong_Cong_Greatest_pre c n ∧ S.ref20_Greatest_pre c n := by
  rw [ok_iff] at hc; rw [Right_iff] at hr; rw [inr_i64] at hn
  by_cases h : c.M = 0
  · have hb : (c.M == 0) = true := by simpa using h
    refine ⟨?_, ?_, ?_, ?_⟩
    · simp only [cong_Cong_Greatest, cong_Cong_single, cong_Cong_number0, cong_Cong_number, hb, cond_true, greatest, h, if_true]
      by_cases h2 : IntKind.i64.wrap c.R ≤ n <;> simp [h2]
    · simp only [ref20_Greatest, hb, cond_true]
      rw [greatest, if_pos h]
      by_cases h2 : IntKind.i64.wrap c.R ≤ n
      · rw [decide_eq_false (by omega), cond_false, if_pos h2]
      · rw [decide_eq_true (by omega), cond_true, if_neg h2]
    · simp [cong_Cong_Greatest_pre, cong_Cong_single, hb]
    · simp [ref20_Greatest_pre, hb]
  · have hb : (c.M == 0) = false := beq_eq_false_iff_ne.2 h
    have hM : 0 < c.M := by omega
    have h1 := mod_range n c.M hM
    obtain ⟨e1, p1⟩ := neg_plus (n % c.M) c.R c.M hM h1 (by omega) (by omega)
    have e2 := refminus_eq (n % c.M) c.R c.M h1 (by omega) (by omega)
    rw [mod_sub] at e1 e2
    have hd := mod_range (n - c.R) c.M hM
    have hw : IntKind.u64.wrap (IntKind.u64.wrap n + 9223372036854775808) = n + 9223372036854775808 := by rw [IntKind.wrap_u64, IntKind.wrap_u64]; omega
    have hw2 : IntKind.u64.wrap (IntKind.u64.wrap n - 9223372036854775808) = n + 9223372036854775808 := by rw [IntKind.wrap_u64, IntKind.wrap_u64]; omega
    refine ⟨?_, ?_, ?_, ?_⟩
    · simp only [cong_Cong_Greatest, cong_Cong_single, hb, cond_false, rest_eq n c.M hn hM hc.1.2, e1, hw, greatest, h, if_false]
      by_cases h2 : (n - c.R) % c.M > n + 9223372036854775808
      · rw [decide_eq_true h2, cond_true, if_pos h2]
      · rw [decide_eq_false h2, cond_false, if_neg h2]
        congr 1
        rw [IntKind.wrap_i64, IntKind.wrap_i64]; omega
    · simp only [ref20_Greatest, hb, cond_false, Rest_eq n c.M hn hM hc.1.2, e2, hw2, greatest, h, if_false]
      by_cases h2 : (n - c.R) % c.M > n + 9223372036854775808
      · rw [decide_eq_true h2, cond_true, if_pos h2]
      · rw [decide_eq_false h2, cond_false, if_neg h2]
        congr 1
        rw [IntKind.wrap_i64, IntKind.wrap_u64, IntKind.wrap_u64]; omega
    · simp only [cong_Cong_Greatest_pre, cong_Cong_single, hb, All, and_true, rest_eq n c.M hn hM hc.1.2]
      exact ⟨fun h => Bool.noConfusion h, fun _ => ⟨⟨rest_pre _ _ h, h, p1⟩, by simp⟩⟩
    · simp only [ref20_Greatest_pre, hb, All, and_true]
      exact ⟨fun h => Bool.noConfusion h, fun _ => ⟨Rest_pre _ _ h, by simp⟩⟩
/-- What is told stands next to the bound. -/
theorem least_near (h : (least c n).2 = true) : inr .i64 (least c n).1 ∧ has c (least c n).1 = true ∧ n ≤ (least c n).1 ∧ (c.M > 0 → IntKind.u64.wrap (IntKind.u64.wrap (least c n).1 - IntKind.u64.wrap n) < c.M) := by
  rw [ok_iff] at hc; rw [Right_iff] at hr; rw [inr_i64] at hn ⊢
  by_cases h0 : c.M = 0
  · by_cases h2 : IntKind.i64.wrap c.R ≥ n
    · have e : least c n = (IntKind.i64.wrap c.R, true) := by simp [least, h0, h2]
      rw [e]
      refine ⟨num_i64 _, ?_, h2, fun h => by omega⟩
      have : mk c.M (IntKind.i64.wrap c.R) = ⟨0, IntKind.u64.wrap (IntKind.i64.wrap c.R)⟩ := if_pos h0
      simp only [has, this, decide_eq_true_eq, S.Cong.ext_iff]
      rw [IntKind.wrap_u64, IntKind.wrap_i64]; omega
    · simp [least, h0, h2] at h
  · by_cases h2 : (c.R - n) % c.M > 9223372036854775807 - n
    · simp [least, h0, h2] at h
    · have e : least c n = (n + (c.R - n) % c.M, true) := by simp only [least, h0, if_false, h2]
      rw [e]
      have hd := mod_range (c.R - n) c.M (by omega)
      refine ⟨by omega, ?_, by dsimp only; omega, fun _ => ?_⟩
      · have : mk c.M (n + (c.R - n) % c.M) = ⟨c.M, (n + (c.R - n) % c.M) % c.M⟩ := if_neg h0
        simp only [has, this, decide_eq_true_eq, S.Cong.ext_iff, true_and]
        rw [Int.add_emod_emod, show n + (c.R - n) = c.R by omega, Int.emod_eq_of_lt (by omega) (by omega)]
      · rw [IntKind.wrap_u64, IntKind.wrap_u64, IntKind.wrap_u64]; dsimp only; omega
theorem greatest_near (h : (greatest c n).2 = true) : inr .i64 (greatest c n).1 ∧ has c (greatest c n).1 = true ∧ (greatest c n).1 ≤ n ∧ (c.M > 0 → IntKind.u64.wrap (IntKind.u64.wrap n - IntKind.u64.wrap (greatest c n).1) < c.M) := by
  rw [ok_iff] at hc; rw [Right_iff] at hr; rw [inr_i64] at hn ⊢
  by_cases h0 : c.M = 0
  · by_cases h2 : IntKind.i64.wrap c.R ≤ n
    · have e : greatest c n = (IntKind.i64.wrap c.R, true) := by simp [greatest, h0, h2]
      rw [e]
      refine ⟨num_i64 _, ?_, h2, fun h => by omega⟩
      have : mk c.M (IntKind.i64.wrap c.R) = ⟨0, IntKind.u64.wrap (IntKind.i64.wrap c.R)⟩ := if_pos h0
      simp only [has, this, decide_eq_true_eq, S.Cong.ext_iff]
      rw [IntKind.wrap_u64, IntKind.wrap_i64]; omega
    · simp [greatest, h0, h2] at h
  · by_cases h2 : (n - c.R) % c.M > n + 9223372036854775808
    · simp [greatest, h0, h2] at h
    · have e : greatest c n = (n - (n - c.R) % c.M, true) := by simp only [greatest, h0, if_false, h2]
      rw [e]
      have hd := mod_range (n - c.R) c.M (by omega)
      refine ⟨by omega, ?_, by dsimp only; omega, fun _ => ?_⟩
      · have : mk c.M (n - (n - c.R) % c.M) = ⟨c.M, (n - (n - c.R) % c.M) % c.M⟩ := if_neg h0
        simp only [has, this, decide_eq_true_eq, S.Cong.ext_iff, true_and]
        rw [sub_mod, show n - (n - c.R) = c.R by omega, Int.emod_eq_of_lt (by omega) (by omega)]
      · rw [IntKind.wrap_u64, IntKind.wrap_u64, IntKind.wrap_u64]; dsimp only; omega
end

theorem Many_key (t : Int) : (IntKind.u64.wrap (t + 1), t != 18446744073709551615) = (bif t == 18446744073709551615 then (0, false) else (IntKind.u64.wrap (t + 1), true)) := by
  by_cases h : t = 18446744073709551615
  · subst h; decide
  · have h1 : (t == 18446744073709551615) = false := beq_eq_false_iff_ne.2 h
    rw [h1, cond_false, bne, h1]; rfl
theorem Many_both (c : S.Cong) (lo hi : Int) (hc : S.Cong.ok c) (hr : S.ref20_Right c = true) (hlo : inr .i64 lo) (hhi : inr .i64 hi) : S.cong_Cong_Many c lo hi = S.ref20_Many c lo hi ∧ S.cong_Cong_Many_pre c lo hi ∧ S.ref20_Many_pre c lo hi := by
  obtain ⟨l1, l2, l3, l4⟩ := Least_both c lo hc hr hlo
  obtain ⟨g1, g2, g3, g4⟩ := Greatest_both c hi hc hr hhi
  refine ⟨?_, ?_, ?_⟩
  · simp only [cong_Cong_Many, ref20_Many, l1, l2, g1, g2, cong_Cong_single]
    rw [Many_key]
  · simp only [cong_Cong_Many_pre, All, and_true, l1, g1, cong_Cong_single]
    exact ⟨⟨l3, g3⟩, fun _ => trivial, fun _ => ⟨fun _ => trivial, fun h => fun e => by rw [e] at h; exact absurd h (by decide)⟩⟩
  · simp only [ref20_Many_pre, All, and_true, l2, g2]
    exact ⟨⟨l4, g4⟩, fun _ => trivial, fun _ => ⟨fun _ => trivial, fun h => ⟨fun e => by rw [e] at h; exact absurd h (by decide), by simp⟩⟩⟩

theorem Mul64_eq (x y : Int) (hx : 0 ≤ x ∧ x ≤ 18446744073709551615) (hy : 0 ≤ y ∧ y ≤ 18446744073709551615) : S.math_bits_Mul64 x y = (x * y / 18446744073709551616, x * y % 18446744073709551616) := by
  have f : ∀ z : Int, Int.fdiv z (2 ^ min (Int.toNat 32) 64) = z / 4294967296 := fun z => by
    rw [show (2 : Int) ^ min (Int.toNat 32) 64 = 4294967296 by decide]; exact Int.fdiv_eq_ediv_of_nonneg _ (by decide)
  have m := mul64_arith x y hx.1 (by omega) hy.1 (by omega)
  simp only [math_bits_Mul64, f, IntKind.wrap_u64]
  rw [and_low32 x hx.1 (by omega), and_low32 y hy.1 (by omega), and_low32 _ (Int.emod_nonneg _ (by decide)) (Int.emod_lt_of_pos _ (by decide)), m]
theorem Div64_small (lo y : Int) (hlo : 0 ≤ lo) (hlo2 : lo ≤ 18446744073709551615) (hy : 0 < y) : S.math_bits_Div64_pre 0 lo y ∧ S.math_bits_Div64 0 lo y = (lo / y, lo % y) := by
  have h1 : (y == 0) = false := beq_eq_false_iff_ne.2 (by omega)
  have h2 : decide (y ≤ 0) = false := by simp; omega
  have h3 : ((0 : Int) == 0) = true := rfl
  refine ⟨?_, ?_⟩
  · simp only [math_bits_Div64_pre, h1, h2, h3, All, and_true]
    exact ⟨fun h => Bool.noConfusion h, fun _ => ⟨fun h => Bool.noConfusion h, fun _ => ⟨fun _ => ⟨by omega, by omega⟩, fun h => Bool.noConfusion h⟩⟩⟩
  · simp only [math_bits_Div64, h3, cond_true]
    rw [tmod_pos _ _ hlo, Int.tdiv_eq_ediv_of_nonneg hlo, IntWalk.u64_in]
    have := Int.ediv_nonneg hlo (Int.le_of_lt hy)
    have := Int.ediv_le_self y hlo
    omega
theorem times_small (a b m : Int) (ha : 0 ≤ a) (hb : 0 ≤ b) (ha2 : a ≤ 18446744073709551615) (hb2 : b ≤ 18446744073709551615) (h : a * b < 18446744073709551616) (hm : 0 < m) : S.cong_times_pre a b m ∧ S.cong_times a b m = a * b % m := by
  have h0 := Int.mul_nonneg ha hb
  have e : S.math_bits_Mul64 a b = (0, a * b) := by rw [Mul64_eq a b ⟨ha, ha2⟩ ⟨hb, hb2⟩]; congr 1 <;> omega
  obtain ⟨p, v⟩ := Div64_small (a * b) m h0 (by omega) hm
  have z : Int.tmod 0 m = 0 := Int.zero_tmod m
  refine ⟨?_, ?_⟩
  · simp only [cong_times_pre, e, math_bits_Rem64_pre, z, All, and_true]; exact ⟨by omega, p⟩
  · simp only [cong_times, e, math_bits_Rem64, z, v]

theorem Join_pre (a b : S.Cong) (ha : S.Cong.ok a) (hb : S.Cong.ok b) : S.cong_Join_pre a b := by
  have ha' := (ok_iff a).1 ha; have hb' := (ok_iff b).1 hb
  have g0 := G_pos a.M b.M ha'.1.1 hb'.1.1
  simp only [cong_Join_pre, gcd_eq _ _ ha'.1.1 hb'.1.1, All, and_true]
  refine ⟨gcd_pre _ _ ha'.1.1 hb'.1.1, fun _ => trivial, fun _ => ⟨fun _ => Make_pre _ _, fun h => ?_⟩⟩
  have hg : G a.M b.M ≠ 0 := fun e => by rw [e] at h; exact absurd h (by decide)
  have hf : 0 ≤ S.cong_far (S.cong_Cong_by a (G a.M b.M)) (S.cong_Cong_by b (G a.M b.M)) := by simp only [cong_far]; rw [IntKind.wrap_u64]; omega
  refine ⟨by_pre _ _ hg, by_pre _ _ hg, gcd_pre _ _ g0.1 hf, ?_⟩
  rw [gcd_eq _ _ g0.1 hf]
  have g1 := G_pos _ _ g0.1 hf
  intro e; exact hg (g1.2.2.2.1 e).1
theorem Meet_pre (a b : S.Cong) (ha : S.Cong.ok a) (hb : S.Cong.ok b) : S.cong_Meet_pre a b := by
  have ha' := (ok_iff a).1 ha; have hb' := (ok_iff b).1 hb
  have g0 := G_pos a.M b.M ha'.1.1 hb'.1.1
  simp only [cong_Meet_pre, gcd_eq _ _ ha'.1.1 hb'.1.1, All, and_true, cong_Cong_single]
  refine ⟨gcd_pre _ _ ha'.1.1 hb'.1.1, fun _ => Has_pre _ _, fun h => ⟨fun _ => Has_pre _ _, fun h2 => ?_⟩⟩
  have hM : a.M ≠ 0 := fun e => by rw [e] at h; exact absurd h (by decide)
  have hg : G a.M b.M ≠ 0 := fun e => hM (g0.2.2.2.1 e).1
  refine ⟨⟨by_pre _ _ hg, by_pre _ _ hg⟩, fun _ => trivial, fun _ => ⟨⟨Within_pre _ _, fun _ => Within_pre _ _⟩, by simp⟩⟩
theorem Add_pre (a b : S.Cong) (ha : S.Cong.ok a) (hb : S.Cong.ok b) : S.cong_Add_pre a b := by
  have ha' := (ok_iff a).1 ha; have hb' := (ok_iff b).1 hb
  have g0 := G_pos a.M b.M ha'.1.1 hb'.1.1
  simp only [cong_Add_pre, gcd_eq _ _ ha'.1.1 hb'.1.1, All, and_true]
  refine ⟨gcd_pre _ _ ha'.1.1 hb'.1.1, fun _ => trivial, fun h => ?_⟩
  have hg : G a.M b.M ≠ 0 := fun e => by rw [e] at h; exact absurd h (by decide)
  have hg2 : 0 < G a.M b.M ∧ G a.M b.M ≤ 18446744073709551615 := by omega
  refine ⟨by_pre _ _ hg, by_pre _ _ hg, ?_⟩
  rw [by_eq a _ ha hg2.1 hg2.2, by_eq b _ hb hg2.1 hg2.2]
  refine plus_pre _ _ _ ?_ ?_ <;> split <;> exact Int.emod_nonneg _ hg

theorem w1 : S.cong_Join (S.cong_Const 3) (S.cong_Const 11) = ⟨8, 3⟩ := by
  simp (disch := decide +kernel) only [cong_Join, gcd_eq]; decide +kernel
theorem w2 : S.cong_Join ⟨8, 3⟩ (S.cong_Const 4) = S.cong_Top := by
  simp (disch := decide +kernel) only [cong_Join, gcd_eq]; decide +kernel
theorem w3 : S.cong_Meet (S.cong_Make 4 1) (S.cong_Make 8 3) = (⟨0, 0⟩, false) := by
  simp (disch := decide +kernel) only [cong_Meet, gcd_eq]; decide +kernel
theorem w4 : S.cong_Meet (S.cong_Make 2 1) (S.cong_Make 6 3) = (⟨6, 3⟩, true) := by
  simp (disch := decide +kernel) only [cong_Meet, gcd_eq]; decide +kernel
theorem w5 : S.cong_Add (S.cong_Make 4 1) (S.cong_Make 6 3) = ⟨2, 0⟩ := by
  simp (disch := decide +kernel) only [cong_Add, gcd_eq]; decide +kernel
theorem w6 : S.cong_Mul_pre (S.cong_Const (-2)) (S.cong_Make 4 1) ∧ S.cong_Mul (S.cong_Const (-2)) (S.cong_Make 4 1) = ⟨8, 6⟩ := by
  have e1 : S.cong_Const (-2) = ⟨0, 18446744073709551614⟩ := by decide +kernel
  have e2 : S.cong_Make 4 1 = ⟨4, 1⟩ := by decide +kernel
  have e3 : IntKind.i64.wrap 18446744073709551614 = -2 := by decide +kernel
  have e4 : IntKind.u64.wrap (-2) = 18446744073709551614 := by decide +kernel
  have e5 : IntKind.u64.wrap (-18446744073709551614) = 2 := by decide +kernel
  have q := rest_pre (-2) 8 (by decide)
  have e6 : S.cong_fits 4 2 = (8, true) := by decide +kernel
  have e7 : S.cong_rest (-2) 8 = 6 := by decide +kernel
  have e8 : Int.tmod 1 8 = 1 := by decide +kernel
  obtain ⟨p, v⟩ := times_small 6 1 8 (by decide) (by decide) (by decide) (by decide) (by decide) (by decide)
  have e9 : (6 * 1 % 8 : Int) = 6 := by decide
  rw [e9] at v
  rw [e1, e2]
  refine ⟨?_, ?_⟩
  · simp [cong_Mul_pre, cong_Cong_single, cong_Cong_number, cong_Cong_scaled_pre, All, e3, e4, e5, e6, e7, e8, p, q]
  · simp [cong_Mul, cong_Cong_single, cong_Cong_number, cong_Cong_scaled, All, e3, e4, e5, e6, e7, e8, v]
theorem w7 : S.cong_Mul_pre (S.cong_Make 4 0) (S.cong_Make 6 0) ∧ S.cong_Mul (S.cong_Make 4 0) (S.cong_Make 6 0) = ⟨24, 0⟩ := by
  have e1 : S.cong_Make 4 0 = ⟨4, 0⟩ := by decide +kernel
  have e2 : S.cong_Make 6 0 = ⟨6, 0⟩ := by decide +kernel
  have g1 : G 4 6 = 2 := by decide +kernel
  have g2 : G 4 0 = 4 := by decide +kernel
  have g3 : G 6 0 = 6 := by decide +kernel
  have e6 : S.cong_fits 4 6 = (24, true) := by decide +kernel
  rw [e1, e2]
  refine ⟨?_, ?_⟩
  · simp only [cong_Mul_pre, cong_Cong_single, gcd_eq 4 6 (by decide) (by decide), gcd_eq 4 0 (by decide) (by decide), gcd_eq 6 0 (by decide) (by decide), g1, g2, g3, e6, All, and_true]
    simp [gcd_pre 4 6 (by decide) (by decide), gcd_pre 4 0 (by decide) (by decide), gcd_pre 6 0 (by decide) (by decide)]
  · simp only [cong_Mul, cong_Cong_single, gcd_eq 4 6 (by decide) (by decide), gcd_eq 4 0 (by decide) (by decide), gcd_eq 6 0 (by decide) (by decide), g1, g2, g3, e6]
    rfl
theorem w8 : S.cong_Cong_Wrapped_pre (S.cong_Make 12 1) ∧ S.cong_Cong_Wrapped (S.cong_Make 12 1) = ⟨4, 1⟩ := by
  have e1 : S.cong_Make 12 1 = ⟨12, 1⟩ := by decide +kernel
  have e2 : bits .and .u64 12 (IntKind.u64.wrap (-12)) = 4 := by decide +kernel
  rw [e1]
  refine ⟨?_, by decide +kernel⟩
  simp [cong_Cong_Wrapped_pre, cong_Cong_single, All, e2]
theorem w9 : S.cong_Cong_Least (S.cong_Make 12 1) (-5) = (1, true) ∧ S.cong_Cong_Least_pre (S.cong_Make 12 1) (-5) := by
  have e1 : S.cong_Make 12 1 = ⟨12, 1⟩ := by decide +kernel
  rw [e1]
  obtain ⟨h1, _, h3, _⟩ := Least_both ⟨12, 1⟩ (-5) (by rw [ok_iff]; decide) (by decide +kernel) (by rw [inr_i64]; decide)
  rw [h1]
  exact ⟨by decide +kernel, h3⟩
theorem ok_c (n : Int) : S.Cong.ok (S.cong_Const n) := by
  rw [ok_iff]; simp only [cong_Const]; rw [IntKind.wrap_u64]; omega
theorem works_pre : S.law20_works_pre := by
  simp only [law20_works_pre, All, and_true, w1]
  refine ⟨Join_pre _ _ (ok_c _) (ok_c _), Make_pre _ _, Make_pre _ _, Meet_pre _ _ ?_ ?_, Make_pre _ _, Make_pre _ _, Meet_pre _ _ ?_ ?_, Make_pre _ _, w9.2, fun _ => Join_pre _ _ ?_ (ok_c _), fun _ => Make_pre _ _, fun _ => Make_pre _ _, fun _ => Add_pre _ _ ?_ ?_, fun _ => Make_pre _ _, fun _ => w6.1, fun _ => Make_pre _ _, fun _ => Make_pre _ _, fun _ => w7.1, fun _ => w8.1⟩
  all_goals (rw [ok_iff]; decide +kernel)
theorem works : S.law20_works = true := by
  simp only [law20_works, w1, w2, w3, w4, w5, w6.2, w7.2, w8.2, w9.1]
  decide +kernel
theorem CongMakes_law (m n : Int) (a b : S.Cong) (hm : inr .u64 m) (hn : inr .i64 n) (ha : S.Cong.ok a) (hb : S.Cong.ok b) : S.law20_CongMakes_pre m n a b ∧ S.law20_CongMakes m n a b = true := by
  refine ⟨?_, ?_⟩
  · simp only [law20_CongMakes_pre, All, and_true]
    exact ⟨⟨fun _ => refMake_pre _ _, fun _ => Make_pre _ _, fun _ => refMake_pre _ _⟩, fun _ => trivial, fun _ => ⟨fun _ => works_pre, fun _ => ⟨Has_pre _ _, refHas_pre _ _, fun _ => Within_pre _ _, fun _ => refWithin_pre _ _, fun _ => Within_pre _ _, fun _ => Within_pre _ _, fun _ => works_pre⟩⟩⟩
  · have e1 : S.cong_Const n = S.ref20_Make 0 n := by simp [cong_Const, ref20_Make]
    simp only [law20_CongMakes, law20_ref, works, Make_eq m n hn hm, refMake_eq m n hn hm, e1, Right_eq, Has_eq a n ha hn, refHas_eq a n ha hn, Within_eq a b ha hb, Within_top a ha]
    by_cases hr : S.ref20_Right a = true
    · simp [Within_self a ha hr, cong_Top]
    · simp [hr, cong_Top]
theorem CongCounts_law (c : S.Cong) (lo hi : Int) (hc : S.Cong.ok c) (hlo : inr .i64 lo) (hhi : inr .i64 hi) : S.law20_CongCounts_pre c lo hi ∧ S.law20_CongCounts c lo hi = true := by
  cases hr : S.ref20_Right c with
  | false =>
    refine ⟨?_, ?_⟩
    · simp only [law20_CongCounts_pre, law20_ref, hr, All, and_true]
      exact ⟨fun _ => works_pre, fun h => Bool.noConfusion h⟩
    · simp only [law20_CongCounts, law20_ref, hr, works]; rfl
  | true =>
    obtain ⟨l1, l2, l3, l4⟩ := Least_both c lo hc hr hlo
    obtain ⟨g1, g2, g3, g4⟩ := Greatest_both c hi hc hr hhi
    obtain ⟨m1, m2, m3⟩ := Many_both c lo hi hc hr hlo hhi
    refine ⟨?_, ?_⟩
    · simp only [law20_CongCounts_pre, law20_ref, hr, All, and_true]
      exact ⟨fun h => Bool.noConfusion h, fun _ => ⟨⟨l3, l4, g3, g4, m2, m3⟩, fun _ => trivial, fun _ => ⟨⟨fun _ => Has_pre _ _, fun _ _ => Has_pre _ _⟩, fun _ => trivial, fun _ => works_pre⟩⟩⟩
    · simp only [law20_CongCounts, law20_ref, hr, works, l1, l2, g1, g2, m1]
      have k1 : ((least c lo).2 && (!S.cong_Cong_Has c (least c lo).1 || decide ((least c lo).1 < lo) || decide (c.M > 0) && decide (IntKind.u64.wrap (IntKind.u64.wrap (least c lo).1 - IntKind.u64.wrap lo) ≥ c.M))) = false := by
        cases h : (least c lo).2 with
        | false => rfl
        | true =>
          obtain ⟨h1, h2, h3, h4⟩ := least_near c lo hc hr hlo h
          rw [Has_eq c _ hc h1, h2, decide_eq_false (show ¬ (least c lo).1 < lo by omega)]
          by_cases hM : c.M > 0
          · have := h4 hM
            rw [decide_eq_false (show ¬ _ ≥ c.M by omega)]; simp
          · simp [hM]
      have k2 : ((greatest c hi).2 && (!S.cong_Cong_Has c (greatest c hi).1 || decide ((greatest c hi).1 > hi) || decide (c.M > 0) && decide (IntKind.u64.wrap (IntKind.u64.wrap hi - IntKind.u64.wrap (greatest c hi).1) ≥ c.M))) = false := by
        cases h : (greatest c hi).2 with
        | false => rfl
        | true =>
          obtain ⟨h1, h2, h3, h4⟩ := greatest_near c hi hc hr hhi h
          rw [Has_eq c _ hc h1, h2, decide_eq_false (show ¬ (greatest c hi).1 > hi by omega)]
          by_cases hM : c.M > 0
          · have := h4 hM
            rw [decide_eq_false (show ¬ _ ≥ c.M by omega)]; simp
          · simp [hM]
      rw [k1, k2]
      simp
end S
