/-
  Printed by a program out of the plain texts of another seat: what the smaller packages' functions compute, in plain words. Conditions: those that each theorem states.
-/
import Derived.Test.YthplfkeecpkmhaaGreatDoorKDRest
import Derived.IntWalk
import Derived.Laws.BitsAllLaws
import Derived.Laws.MathBits
set_option linter.all false
open Go Vm
def S.ref20_Right (c : S.Cong) : Bool :=
  let b1 : Bool := c.M == 0
  let b2 : Bool := decide (c.R < c.M)
  let p3 : Bool := (b1 || b2)
  p3
def S.cong_Cong_Wrapped (c : S.Cong) : S.Cong :=
  let r1 : Bool := S.cong_Cong_single c
  let t2 : Int := IntKind.u64.wrap (0 - c.M)
  let t3 : Int := bits .and .u64 c.M t2
  let t4 : Int := Int.tmod c.R t3
  (bif r1 then c else (⟨t3, t4⟩ : S.Cong))
def S.cong_Cong_Wrapped_pre (c : S.Cong) : Prop :=
  let r1 : Bool := S.cong_Cong_single c
  let t2 : Int := IntKind.u64.wrap (0 - c.M)
  let t3 : Int := bits .and .u64 c.M t2
  ((r1 = true → True) ∧ (r1 = false → (All [t3 ≠ 0] ∧ True)))
def S.ref20_minus (a : Int) (b : Int) (m : Int) : Int :=
  let b1 : Bool := decide (a ≥ b)
  let t2 : Int := IntKind.u64.wrap (a - b)
  let t3 : Int := IntKind.u64.wrap (m - b)
  let t4 : Int := IntKind.u64.wrap (a + t3)
  (bif b1 then t2 else t4)
def S.ref20_Least (c : S.Cong) (a1 : Int) : Int × Bool :=
  let b1 : Bool := c.M == 0
  let t2 : Int := IntKind.i64.wrap c.R
  let b3 : Bool := decide (t2 < a1)
  let t4 : Int := IntKind.i64.wrap c.R
  let r5 : Int := S.ref20_Rest a1 c.M
  let r6 : Int := S.ref20_minus c.R r5 c.M
  let t7 : Int := IntKind.u64.wrap a1
  let t8 : Int := IntKind.u64.wrap (9223372036854775807 - t7)
  let b9 : Bool := decide (r6 > t8)
  let t10 : Int := IntKind.u64.wrap a1
  let t11 : Int := IntKind.u64.wrap (t10 + r6)
  let t12 : Int := IntKind.i64.wrap t11
  (bif b1 then (bif b3 then (0, false) else (t4, true)) else (bif b9 then (0, false) else (t12, true)))
def S.ref20_Least_pre (c : S.Cong) (a1 : Int) : Prop :=
  let b1 : Bool := c.M == 0
  let t2 : Int := IntKind.i64.wrap c.R
  let b3 : Bool := decide (t2 < a1)
  let r5 : Int := S.ref20_Rest a1 c.M
  let r6 : Int := S.ref20_minus c.R r5 c.M
  let t7 : Int := IntKind.u64.wrap a1
  let t8 : Int := IntKind.u64.wrap (9223372036854775807 - t7)
  let b9 : Bool := decide (r6 > t8)
  ((b1 = true → ((b3 = true → True) ∧ (b3 = false → True))) ∧ (b1 = false → (All [S.ref20_Rest_pre a1 c.M] ∧ ((b9 = true → True) ∧ (b9 = false → True)))))
def S.ref20_Greatest (c : S.Cong) (to : Int) : Int × Bool :=
  let b1 : Bool := c.M == 0
  let t2 : Int := IntKind.i64.wrap c.R
  let b3 : Bool := decide (t2 > to)
  let t4 : Int := IntKind.i64.wrap c.R
  let r5 : Int := S.ref20_Rest to c.M
  let r6 : Int := S.ref20_minus r5 c.R c.M
  let t7 : Int := IntKind.u64.wrap to
  let t8 : Int := IntKind.u64.wrap (t7 - 9223372036854775808)
  let b9 : Bool := decide (r6 > t8)
  let t10 : Int := IntKind.u64.wrap to
  let t11 : Int := IntKind.u64.wrap (t10 - r6)
  let t12 : Int := IntKind.i64.wrap t11
  (bif b1 then (bif b3 then (0, false) else (t4, true)) else (bif b9 then (0, false) else (t12, true)))
def S.ref20_Greatest_pre (c : S.Cong) (to : Int) : Prop :=
  let b1 : Bool := c.M == 0
  let t2 : Int := IntKind.i64.wrap c.R
  let b3 : Bool := decide (t2 > to)
  let r5 : Int := S.ref20_Rest to c.M
  let r6 : Int := S.ref20_minus r5 c.R c.M
  let t7 : Int := IntKind.u64.wrap to
  let t8 : Int := IntKind.u64.wrap (t7 - 9223372036854775808)
  let b9 : Bool := decide (r6 > t8)
  ((b1 = true → ((b3 = true → True) ∧ (b3 = false → True))) ∧ (b1 = false → (All [S.ref20_Rest_pre to c.M] ∧ ((b9 = true → True) ∧ (b9 = false → True)))))
namespace SC
open S
instance : DecidableEq S.Cong := fun a b => decidable_of_iff (a.M = b.M ∧ a.R = b.R) (by rw [S.Cong.ext_iff])
theorem inr_u64 {x : Int} : inr .u64 x ↔ 0 ≤ x ∧ x ≤ 18446744073709551615 := by simp [inr, IntKind.min, IntKind.max, IntKind.signed, IntKind.bits]
theorem inr_i64 {x : Int} : inr .i64 x ↔ -9223372036854775808 ≤ x ∧ x ≤ 9223372036854775807 := by simp [inr, IntKind.min, IntKind.max, IntKind.signed, IntKind.bits]
theorem emod_unique {a m r q : Int} (h : a = m * q + r) (h0 : 0 ≤ r) (h1 : r < m) : a % m = r := by
  rw [h, Int.add_comm, Int.add_mul_emod_self_left]; exact Int.emod_eq_of_lt h0 h1
theorem neg_emod (n m : Int) (hm : 0 < m) : n % m = m - 1 - ((-n - 1) % m) := by
  have h1 := Int.emod_nonneg (-n - 1) (show m ≠ 0 by omega)
  have h2 := Int.emod_lt_of_pos (-n - 1) hm
  have h3 := Int.mul_ediv_add_emod (-n - 1) m
  refine emod_unique (q := -((-n - 1) / m) - 1) ?_ (by omega) (by omega)
  rw [Int.mul_sub, Int.mul_neg, Int.mul_one]; omega
theorem not_u64 (x : Int) (h0 : 0 ≤ x) (h1 : x ≤ 18446744073709551615) : bits .xor .u64 (if IntKind.u64.signed then -1 else IntKind.u64.max) x = 18446744073709551615 - x := by
  have e : (if IntKind.u64.signed then -1 else IntKind.u64.max) = 18446744073709551615 := by decide
  rw [e, u64_xor _ _ (by omega) (by omega) h0 (by omega)]
  have hx : x.toNat < 2 ^ 64 := by omega
  have := BitVec.toNat_not (x := BitVec.ofNat 64 x.toNat)
  rw [← BitVec.allOnes_xor, BitVec.toNat_xor, BitVec.toNat_allOnes, BitVec.toNat_ofNat, Nat.mod_eq_of_lt hx] at this
  have e2 : (18446744073709551615 : Int).toNat = 2 ^ 64 - 1 := by decide
  rw [e2, this]; omega
theorem tmod_pos (a b : Int) (h : 0 ≤ a) : Int.tmod a b = a % b := Int.tmod_eq_emod_of_nonneg h
theorem rest_eq (n m : Int) (hn : -9223372036854775808 ≤ n ∧ n ≤ 9223372036854775807) (hm : 0 < m) (hm2 : m ≤ 18446744073709551615) : S.cong_rest n m = n % m := by
  simp only [cong_rest]
  by_cases h : n < 0
  · have e1 : IntKind.u64.wrap n = n + 18446744073709551616 := by rw [IntKind.wrap_u64]; omega
    rw [e1, not_u64 _ (by omega) (by omega), tmod_pos _ _ (by omega), IntWalk.u64_in (m - 1) (by omega), decide_eq_true h, cond_true]
    have e2 : 18446744073709551615 - (n + 18446744073709551616) = -n - 1 := by omega
    rw [e2, neg_emod n m hm]
    have h1 := Int.emod_nonneg (-n - 1) (show m ≠ 0 by omega)
    have h2 := Int.emod_lt_of_pos (-n - 1) hm
    rw [IntWalk.u64_in _ (by omega)]
  · rw [decide_eq_false h, cond_false, IntWalk.u64_in n (by omega), tmod_pos _ _ (by omega)]
theorem Rest_eq (n m : Int) (hn : -9223372036854775808 ≤ n ∧ n ≤ 9223372036854775807) (hm : 0 < m) (hm2 : m ≤ 18446744073709551615) : S.ref20_Rest n m = n % m := by
  simp only [ref20_Rest]
  by_cases h : n ≥ 0
  · rw [decide_eq_true h, cond_true, IntWalk.u64_in n (by omega), tmod_pos _ _ (by omega)]
  · rw [decide_eq_false h, cond_false, IntWalk.i64_in (n + 1) (by omega), IntWalk.i64_in (0 - (n + 1)) (by omega), IntWalk.u64_in (0 - (n + 1)) (by omega), tmod_pos _ _ (by omega), IntWalk.u64_in (m - 1) (by omega)]
    have e2 : 0 - (n + 1) = -n - 1 := by omega
    rw [e2, neg_emod n m hm]
    have h1 := Int.emod_nonneg (-n - 1) (show m ≠ 0 by omega)
    have h2 := Int.emod_lt_of_pos (-n - 1) hm
    rw [IntWalk.u64_in _ (by omega)]
theorem rest_pre (n m : Int) (hm : m ≠ 0) : S.cong_rest_pre n m := by simp [cong_rest_pre, All, hm]
theorem Rest_pre (n m : Int) (hm : m ≠ 0) : S.ref20_Rest_pre n m := by simp [ref20_Rest_pre, All, hm]
/-- The congruence of a number. -/
def mk (m n : Int) : S.Cong := if m = 0 then ⟨0, IntKind.u64.wrap n⟩ else ⟨m, n % m⟩
theorem Make_eq (m n : Int) (hn : inr .i64 n) (hm : inr .u64 m) : S.cong_Make m n = mk m n := by
  rw [inr_i64] at hn; rw [inr_u64] at hm
  simp only [cong_Make, mk]
  by_cases h : m = 0
  · subst h; rfl
  · rw [rest_eq n m hn (by omega) (by omega), if_neg h, show (m == 0) = false from beq_eq_false_iff_ne.2 h, cond_false]
theorem refMake_eq (m n : Int) (hn : inr .i64 n) (hm : inr .u64 m) : S.ref20_Make m n = mk m n := by
  rw [inr_i64] at hn; rw [inr_u64] at hm
  simp only [ref20_Make, mk]
  by_cases h : m = 0
  · subst h; rfl
  · rw [Rest_eq n m hn (by omega) (by omega), if_neg h, show (m == 0) = false from beq_eq_false_iff_ne.2 h, cond_false]
theorem Make_pre (m n : Int) : S.cong_Make_pre m n := by
  simp only [cong_Make_pre, All, and_true]
  exact ⟨fun _ => trivial, fun h => rest_pre n m (fun e => by rw [e] at h; exact absurd h (by decide))⟩
theorem refMake_pre (m n : Int) : S.ref20_Make_pre m n := by
  simp only [ref20_Make_pre, All, and_true]
  exact ⟨fun _ => trivial, fun h => Rest_pre n m (fun e => by rw [e] at h; exact absurd h (by decide))⟩
/-- The greatest common divisor. -/
def G (a b : Int) : Int := (Nat.gcd a.toNat b.toNat : Nat)
theorem G_zero (a : Int) (h : 0 ≤ a) : G a 0 = a := by simp [G]; omega
theorem G_rec (a b : Int) (ha : 0 ≤ a) (hb : 0 < b) : G b (a % b) = G a b := by
  obtain ⟨A, rfl⟩ := Int.eq_ofNat_of_zero_le ha
  obtain ⟨B, rfl⟩ := Int.eq_ofNat_of_zero_le (Int.le_of_lt hb)
  simp only [G]
  have : ((A : Int) % (B : Int)).toNat = A % B := by omega
  rw [this, Int.toNat_natCast, Int.toNat_natCast, Nat.gcd_comm A B, Nat.gcd_rec B A, Nat.gcd_comm]
theorem gcd_runs : ∀ (n : Nat) (a b : Int), 0 ≤ a → 0 ≤ b → b.toNat = n → Runs cong_gcd_L0_step cong_gcd_L0_vcs ⟨a, b⟩ ⟨G a b, 0⟩ := by
  intro n
  induction n using Nat.strongRecOn with
  | _ n ih =>
    intro a b ha hb hn
    by_cases h : b = 0
    · subst h
      rw [G_zero a ha]
      exact .done _ _ (by simp [cong_gcd_L0_vcs]) (by simp [cong_gcd_L0_step])
    · have h1 := Int.emod_nonneg a h
      have h2 := Int.emod_lt_of_pos a (show 0 < b by omega)
      refine .next _ ⟨b, a % b⟩ _ (by simp [cong_gcd_L0_vcs, All, h]) (by simp only [cong_gcd_L0_step, show (b == 0) = false from beq_eq_false_iff_ne.2 h, cond_false, tmod_pos a b ha]) ?_
      rw [← G_rec a b ha (by omega)]
      exact ih (a % b).toNat (by omega) b (a % b) hb h1 rfl
theorem gcd_run (a b : Int) (ha : 0 ≤ a) (hb : 0 ≤ b) : cong_gcd_L0_run ⟨a, b⟩ = ⟨G a b, 0⟩ := theRun_eq (d := fun x => x) (gcd_runs _ a b ha hb rfl)
theorem gcd_eq (a b : Int) (ha : 0 ≤ a) (hb : 0 ≤ b) : S.cong_gcd a b = G a b := by simp only [cong_gcd, gcd_run a b ha hb]
theorem gcd_pre (a b : Int) (ha : 0 ≤ a) (hb : 0 ≤ b) : S.cong_gcd_pre a b := by
  simp only [cong_gcd_pre, gcd_run a b ha hb, All, and_true]; exact gcd_runs _ a b ha hb rfl
theorem Gcd_F : ∀ (n : Nat) (a b : Int), 0 ≤ a → 0 ≤ b → S.ref20_Gcd_D n a b → S.ref20_Gcd_F n a b = G a b := by
  intro n
  induction n with
  | zero => intro a b _ _ h; exact h.elim
  | succ n ih =>
    intro a b ha hb h
    by_cases h0 : b = 0
    · subst h0; simp [ref20_Gcd_F, G_zero a ha]
    · simp only [ref20_Gcd_D, All, and_true] at h
      have h1 := Int.emod_nonneg a h0
      have := h.2 (by simpa using h0)
      rw [tmod_pos a b ha] at this
      simp only [ref20_Gcd_F]
      rw [show (b == 0) = false by simpa using h0, cond_false, tmod_pos a b ha, ih _ _ hb h1 this.2, G_rec a b ha (by omega)]
theorem Gcd_D : ∀ (k : Nat) (a b : Int), 0 ≤ a → 0 ≤ b → b.toNat = k → ∃ n, S.ref20_Gcd_D n a b := by
  intro k
  induction k using Nat.strongRecOn with
  | _ k ih =>
    intro a b ha hb hk
    by_cases h0 : b = 0
    · subst h0; exact ⟨1, by simp [ref20_Gcd_D]⟩
    · have h1 := Int.emod_nonneg a h0
      have h2 := Int.emod_lt_of_pos a (show 0 < b by omega)
      obtain ⟨n, hn⟩ := ih (a % b).toNat (by omega) b (a % b) hb h1 rfl
      exact ⟨n + 1, by simp only [ref20_Gcd_D, All, and_true, tmod_pos a b ha]; exact ⟨fun _ => trivial, fun _ => ⟨h0, hn⟩⟩⟩
theorem Gcd_pre (a b : Int) (ha : 0 ≤ a) (hb : 0 ≤ b) : S.ref20_Gcd_pre a b := Gcd_D _ a b ha hb rfl
theorem Gcd_eq (a b : Int) (ha : 0 ≤ a) (hb : 0 ≤ b) : S.ref20_Gcd a b = G a b :=
  Gcd_F _ a b ha hb (Classical.epsilon_spec (Gcd_pre a b ha hb))
theorem G_pos (a b : Int) (ha : 0 ≤ a) (hb : 0 ≤ b) : 0 ≤ G a b ∧ (G a b ≤ a ∨ a = 0) ∧ (G a b ≤ b ∨ b = 0) ∧ (G a b = 0 ↔ a = 0 ∧ b = 0) := by
  simp only [G]
  have h1 : 0 < a.toNat → Nat.gcd a.toNat b.toNat ≤ a.toNat := fun h => Nat.le_of_dvd h (Nat.gcd_dvd_left _ _)
  have h2 : 0 < b.toNat → Nat.gcd a.toNat b.toNat ≤ b.toNat := fun h => Nat.le_of_dvd h (Nat.gcd_dvd_right _ _)
  have h3 : Nat.gcd a.toNat b.toNat = 0 ↔ a.toNat = 0 ∧ b.toNat = 0 := Nat.gcd_eq_zero_iff
  refine ⟨by omega, ?_, ?_, ?_⟩
  · by_cases h : a = 0
    · exact .inr h
    · left; have := h1 (by omega); omega
  · by_cases h : b = 0
    · exact .inr h
    · left; have := h2 (by omega); omega
  · constructor
    · intro h; have := h3.1 (by omega); omega
    · rintro ⟨rfl, rfl⟩; rfl
theorem ok_iff (c : S.Cong) : S.Cong.ok c ↔ (0 ≤ c.M ∧ c.M ≤ 18446744073709551615) ∧ (0 ≤ c.R ∧ c.R ≤ 18446744073709551615) := by
  simp only [S.Cong.ok, inr_u64, and_true]
theorem num_i64 (x : Int) : -9223372036854775808 ≤ IntKind.i64.wrap x ∧ IntKind.i64.wrap x ≤ 9223372036854775807 := by rw [IntKind.wrap_i64]; omega
theorem by_eq (c : S.Cong) (g : Int) (hc : S.Cong.ok c) (hg : 0 < g) (hg2 : g ≤ 18446744073709551615) : S.cong_Cong_by c g = (if c.M = 0 then IntKind.i64.wrap c.R % g else c.R % g) := by
  rw [ok_iff] at hc
  simp only [cong_Cong_by, cong_Cong_single, cong_Cong_number, rest_eq _ g (num_i64 _) hg hg2, tmod_pos c.R g hc.2.1]
  rw [cond_eq_if]; simp only [beq_iff_eq]
theorem Of_eq (c : S.Cong) (g : Int) (hc : S.Cong.ok c) (hg : 0 < g) (hg2 : g ≤ 18446744073709551615) : S.ref20_Of c g = (if c.M = 0 then IntKind.i64.wrap c.R % g else c.R % g) := by
  rw [ok_iff] at hc
  simp only [ref20_Of, Rest_eq _ g (num_i64 _) hg hg2, tmod_pos c.R g hc.2.1]
  rw [cond_eq_if]; simp only [beq_iff_eq]
theorem by_pre (c : S.Cong) (g : Int) (hg : g ≠ 0) : S.cong_Cong_by_pre c g := by
  simp only [cong_Cong_by_pre, All, and_true]; exact ⟨fun _ => rest_pre _ _ hg, fun _ => hg⟩
theorem Of_pre (c : S.Cong) (g : Int) (hg : g ≠ 0) : S.ref20_Of_pre c g := by
  simp only [ref20_Of_pre, All, and_true]; exact ⟨fun _ => Rest_pre _ _ hg, fun _ => hg⟩
/-- Whether a congruence has a number. -/
def has (c : S.Cong) (n : Int) : Bool := decide (mk c.M n = c)
theorem eqb (a b : S.Cong) : ((a.M == b.M) && (a.R == b.R)) = decide (a = b) := by
  rw [Bool.eq_iff_iff]; simp [S.Cong.ext_iff]
theorem Has_eq (c : S.Cong) (n : Int) (hc : S.Cong.ok c) (hn : inr .i64 n) : S.cong_Cong_Has c n = has c n := by
  rw [ok_iff] at hc
  simp only [cong_Cong_Has, Make_eq c.M n hn (inr_u64.2 hc.1), has, eqb]
theorem refHas_eq (c : S.Cong) (n : Int) (hc : S.Cong.ok c) (hn : inr .i64 n) : S.ref20_Has c n = has c n := by
  rw [ok_iff] at hc; rw [inr_i64] at hn
  by_cases h : c.M = 0
  · have hm : mk c.M n = ⟨0, IntKind.u64.wrap n⟩ := if_pos h
    simp only [ref20_Has, has, hm]
    rw [show (c.M == 0) = true by simpa using h, cond_true, Bool.eq_iff_iff]
    simp only [beq_iff_eq, decide_eq_true_eq, S.Cong.ext_iff]; omega
  · have hm : mk c.M n = ⟨c.M, n % c.M⟩ := if_neg h
    simp only [ref20_Has, has, hm]
    rw [show (c.M == 0) = false from beq_eq_false_iff_ne.2 h, cond_false, Bool.eq_iff_iff, Rest_eq n c.M hn (by omega) (by omega)]
    simp only [beq_iff_eq, decide_eq_true_eq, S.Cong.ext_iff, true_and]
theorem Has_pre (c : S.Cong) (n : Int) : S.cong_Cong_Has_pre c n := by simp only [cong_Cong_Has_pre, All, and_true]; exact Make_pre _ _
theorem refHas_pre (c : S.Cong) (n : Int) : S.ref20_Has_pre c n := by
  simp only [ref20_Has_pre, All, and_true]; exact ⟨fun _ => trivial, fun h => Rest_pre _ _ (fun e => by rw [e] at h; exact absurd h (by decide))⟩
theorem Within_eq (a b : S.Cong) (ha : S.Cong.ok a) (hb : S.Cong.ok b) : S.cong_Within a b = S.ref20_Within a b := by
  simp only [cong_Within, ref20_Within, cong_Cong_single]
  by_cases h : b.M = 0
  · rw [show (b.M == 0) = true by simpa using h]; rfl
  · rw [ok_iff] at hb
    rw [by_eq a b.M ha (by omega) hb.1.2, Of_eq a b.M ha (by omega) hb.1.2]
theorem Within_pre (a b : S.Cong) : S.cong_Within_pre a b := by
  simp only [cong_Within_pre, All, and_true, cong_Cong_single]
  refine ⟨fun _ => trivial, fun h => ?_⟩
  have : b.M ≠ 0 := fun e => by rw [e] at h; exact absurd h (by decide)
  exact ⟨this, fun _ => by_pre a b.M this⟩
theorem refWithin_pre (a b : S.Cong) : S.ref20_Within_pre a b := by
  simp only [ref20_Within_pre, All, and_true]
  refine ⟨fun _ => trivial, fun h => ?_⟩
  have : b.M ≠ 0 := fun e => by rw [e] at h; exact absurd h (by decide)
  exact ⟨this, fun _ => Of_pre a b.M this⟩
theorem Right_eq (a : S.Cong) : S.cong_Cong_Right a = S.ref20_Right a := rfl
theorem Right_iff (a : S.Cong) : S.ref20_Right a = true ↔ a.M = 0 ∨ a.R < a.M := by simp [ref20_Right]
theorem Within_self (a : S.Cong) (ha : S.Cong.ok a) (hr : S.ref20_Right a = true) : S.cong_Within a a = true := by
  rw [Right_iff] at hr
  have ha' := (ok_iff a).1 ha
  simp only [cong_Within, cong_Cong_single, eqb]
  by_cases h : a.M = 0
  · simp [h]
  · rw [by_eq a a.M ha (by omega) ha'.1.2, if_neg h, show (a.M == 0) = false from beq_eq_false_iff_ne.2 h, cond_false, tmod_pos _ _ ha'.1.1, Int.emod_self, Int.emod_eq_of_lt ha'.2.1 (by omega)]
    simp
theorem Within_top (a : S.Cong) (ha : S.Cong.ok a) : S.cong_Within a S.cong_Top = true := by
  have ha' := (ok_iff a).1 ha
  simp only [cong_Within, cong_Cong_single, cong_Top]
  rw [by_eq a 1 ha (by decide) (by decide), tmod_pos _ _ ha'.1.1, Int.emod_one]
  split <;> simp [Int.emod_one]
theorem plus_eq (a b m : Int) (ha : 0 ≤ a ∧ a < m) (hb : 0 ≤ b ∧ b < m) (hm : m ≤ 18446744073709551615) : S.cong_plus a b m = (a + b) % m := by
  by_cases h : a + b ≥ 18446744073709551616
  · have e : S.math_bits_Add64 a b 0 = (a + b - 18446744073709551616, 1) := by simp only [math_bits_Add64]; congr 1 <;> omega
    simp only [cong_plus, e, show decide ((1 : Int) > 0) = true from rfl, Bool.true_or, cond_true]
    rw [IntKind.wrap_u64]
    have : (a + b) % m = a + b - m := emod_unique (q := 1) (by omega) (by omega) (by omega)
    omega
  · have e : S.math_bits_Add64 a b 0 = (a + b, 0) := by simp only [math_bits_Add64]; congr 1 <;> omega
    simp only [cong_plus, e, show decide ((0 : Int) > 0) = false from rfl, Bool.false_or]
    by_cases h2 : a + b ≥ m
    · rw [decide_eq_true h2, cond_true, IntWalk.u64_in _ (by omega)]
      exact (emod_unique (q := 1) (by omega) (by omega) (by omega)).symm
    · rw [decide_eq_false h2, cond_false, Int.emod_eq_of_lt (by omega) (by omega)]
theorem plus_pre (a b m : Int) (ha : 0 ≤ a) (hb : 0 ≤ b) : S.cong_plus_pre a b m := by
  simp only [cong_plus_pre, All, and_true, math_bits_Add64_pre]; omega
theorem refminus_eq (a b m : Int) (ha : 0 ≤ a ∧ a < m) (hb : 0 ≤ b ∧ b < m) (hm : m ≤ 18446744073709551615) : S.ref20_minus a b m = (a - b) % m := by
  simp only [ref20_minus]
  by_cases h : a ≥ b
  · rw [decide_eq_true h, cond_true, IntWalk.u64_in _ (by omega), Int.emod_eq_of_lt (by omega) (by omega)]
  · rw [decide_eq_false h, cond_false, IntWalk.u64_in (m - b) (by omega), IntWalk.u64_in _ (by omega)]
    exact (emod_unique (q := -1) (by omega) (by omega) (by omega)).symm
theorem neg_plus (x y m : Int) (hm : 0 < m) (hx : 0 ≤ x ∧ x < m) (hy : 0 ≤ y ∧ y < m) (hm2 : m ≤ 18446744073709551615) : S.cong_plus x (Int.tmod (IntKind.u64.wrap (m - y)) m) m = (x - y) % m ∧ S.cong_plus_pre x (Int.tmod (IntKind.u64.wrap (m - y)) m) m := by
  rw [IntWalk.u64_in (m - y) (by omega), tmod_pos _ _ (by omega)]
  have h1 := Int.emod_nonneg (m - y) (show m ≠ 0 by omega)
  have h2 := Int.emod_lt_of_pos (m - y) hm
  refine ⟨?_, plus_pre _ _ _ (by omega) h1⟩
  rw [plus_eq _ _ _ hx ⟨h1, h2⟩ hm2, Int.add_emod_emod, show x + (m - y) = x - y + m by omega, Int.add_emod_right]
theorem sub_mod (x n m : Int) : (x - n % m) % m = (x - n) % m := by
  have h := Int.mul_ediv_add_emod n m
  rw [show x - n % m = (x - n) + m * (n / m) by omega, Int.add_mul_emod_self_left]
theorem mod_sub (x n m : Int) : (n % m - x) % m = (n - x) % m := by
  have h := Int.mul_ediv_add_emod n m
  rw [show n - x = (n % m - x) + m * (n / m) by omega, Int.add_mul_emod_self_left]
theorem mod_range (x m : Int) (hm : 0 < m) : 0 ≤ x % m ∧ x % m < m := ⟨Int.emod_nonneg x (by omega), Int.emod_lt_of_pos x hm⟩
def least (c : S.Cong) (n : Int) : Int × Bool :=
  if c.M = 0 then (if IntKind.i64.wrap c.R ≥ n then (IntKind.i64.wrap c.R, true) else (0, false))
  else if (c.R - n) % c.M > 9223372036854775807 - n then (0, false) else (n + (c.R - n) % c.M, true)
def greatest (c : S.Cong) (n : Int) : Int × Bool :=
  if c.M = 0 then (if IntKind.i64.wrap c.R ≤ n then (IntKind.i64.wrap c.R, true) else (0, false))
  else if (n - c.R) % c.M > n + 9223372036854775808 then (0, false) else (n - (n - c.R) % c.M, true)
section
variable (c : S.Cong) (n : Int) (hc : S.Cong.ok c) (hr : S.ref20_Right c = true) (hn : inr .i64 n)
include hc hr hn
theorem Least_both : S.cong_Cong_Least c n = least c n ∧ S.ref20_Least c n = least c n ∧ S.cong_Cong_Least_pre c n ∧ S.ref20_Least_pre c n := by
  rw [ok_iff] at hc; rw [Right_iff] at hr; rw [inr_i64] at hn
  by_cases h : c.M = 0
  · have hb : (c.M == 0) = true := by simpa using h
    refine ⟨?_, ?_, ?_, ?_⟩
    · simp only [cong_Cong_Least, cong_Cong_single, cong_Cong_number0, cong_Cong_number, hb, cond_true, least, h, if_true]
      by_cases h2 : IntKind.i64.wrap c.R ≥ n <;> simp [h2]
    · simp only [ref20_Least, hb, cond_true]
      rw [least, if_pos h]
      by_cases h2 : IntKind.i64.wrap c.R ≥ n
      · rw [decide_eq_false (by omega), cond_false, if_pos h2]
      · rw [decide_eq_true (by omega), cond_true, if_neg h2]
    · simp [cong_Cong_Least_pre, cong_Cong_single, hb]
    · simp [ref20_Least_pre, hb]
  · have hb : (c.M == 0) = false := beq_eq_false_iff_ne.2 h
    have hM : 0 < c.M := by omega
    have h1 := mod_range n c.M hM
    obtain ⟨e1, p1⟩ := neg_plus c.R (n % c.M) c.M hM (by omega) h1 (by omega)
    have e2 := refminus_eq c.R (n % c.M) c.M (by omega) h1 (by omega)
    rw [sub_mod] at e1 e2
    have hd := mod_range (c.R - n) c.M hM
    have hw : IntKind.u64.wrap (9223372036854775807 - IntKind.u64.wrap n) = 9223372036854775807 - n := by rw [IntKind.wrap_u64, IntKind.wrap_u64]; omega
    refine ⟨?_, ?_, ?_, ?_⟩
    · simp only [cong_Cong_Least, cong_Cong_single, hb, cond_false, rest_eq n c.M hn hM hc.1.2, e1, hw, least, h, if_false]
      by_cases h2 : (c.R - n) % c.M > 9223372036854775807 - n
      · rw [decide_eq_true h2, cond_true, if_pos h2]
      · rw [decide_eq_false h2, cond_false, if_neg h2]
        congr 1
        rw [IntKind.wrap_i64, IntKind.wrap_i64]; omega
    · simp only [ref20_Least, hb, cond_false, Rest_eq n c.M hn hM hc.1.2, e2, hw, least, h, if_false]
      by_cases h2 : (c.R - n) % c.M > 9223372036854775807 - n
      · rw [decide_eq_true h2, cond_true, if_pos h2]
      · rw [decide_eq_false h2, cond_false, if_neg h2]
        congr 1
        rw [IntKind.wrap_i64, IntKind.wrap_u64, IntKind.wrap_u64]; omega
    · simp only [cong_Cong_Least_pre, cong_Cong_single, hb, All, and_true, rest_eq n c.M hn hM hc.1.2]
      exact ⟨fun h => Bool.noConfusion h, fun _ => ⟨⟨rest_pre _ _ h, h, p1⟩, by simp⟩⟩
    · simp only [ref20_Least_pre, hb, All, and_true]
      exact ⟨fun h => Bool.noConfusion h, fun _ => ⟨Rest_pre _ _ h, by simp⟩⟩
theorem Greatest_both : S.cong_Cong_Greatest c n = greatest c n ∧ S.ref20_Greatest c n = greatest c n ∧ S.cong_Cong_Greatest_pre c n ∧ S.ref20_Greatest_pre c n := by
  rw [ok_iff] at hc; rw [Right_iff] at hr; rw [inr_i64] at hn
  by_cases h : c.M = 0
  · have hb : (c.M == 0) = true := by simpa using h
    refine ⟨?_, ?_, ?_, ?_⟩
    · simp only [cong_Cong_Greatest, cong_Cong_single, cong_Cong_number0, cong_Cong_number, hb, cond_true, greatest, h, if_true]
      by_cases h2 : IntKind.i64.wrap c.R ≤ n <;> simp [h2]
    · simp only [ref20_Greatest, hb, cond_true]
      rw [greatest, if_pos h]
      by_cases h2 : IntKind.i64.wrap c.R ≤ n
      · rw [decide_eq_false (by omega), cond_false, if_pos h2]
      · rw [decide_eq_true (by omega), cond_true, if_neg h2]
    · simp [cong_Cong_Greatest_pre, cong_Cong_single, hb]
    · simp [ref20_Greatest_pre, hb]
  · have hb : (c.M == 0) = false := beq_eq_false_iff_ne.2 h
    have hM : 0 < c.M := by omega
    have h1 := mod_range n c.M hM
    obtain ⟨e1, p1⟩ := neg_plus (n % c.M) c.R c.M hM h1 (by omega) (by omega)
    have e2 := refminus_eq (n % c.M) c.R c.M h1 (by omega) (by omega)
    rw [mod_sub] at e1 e2
    have hd := mod_range (n - c.R) c.M hM
    have hw : IntKind.u64.wrap (IntKind.u64.wrap n + 9223372036854775808) = n + 9223372036854775808 := by rw [IntKind.wrap_u64, IntKind.wrap_u64]; omega
    have hw2 : IntKind.u64.wrap (IntKind.u64.wrap n - 9223372036854775808) = n + 9223372036854775808 := by rw [IntKind.wrap_u64, IntKind.wrap_u64]; omega
    refine ⟨?_, ?_, ?_, ?_⟩
    · simp only [cong_Cong_Greatest, cong_Cong_single, hb, cond_false, rest_eq n c.M hn hM hc.1.2, e1, hw, greatest, h, if_false]
      by_cases h2 : (n - c.R) % c.M > n + 9223372036854775808
      · rw [decide_eq_true h2, cond_true, if_pos h2]
      · rw [decide_eq_false h2, cond_false, if_neg h2]
        congr 1
        rw [IntKind.wrap_i64, IntKind.wrap_i64]; omega
    · simp only [ref20_Greatest, hb, cond_false, Rest_eq n c.M hn hM hc.1.2, e2, hw2, greatest, h, if_false]
      by_cases h2 : (n - c.R) % c.M > n + 9223372036854775808
      · rw [decide_eq_true h2, cond_true, if_pos h2]
      · rw [decide_eq_false h2, cond_false, if_neg h2]
        congr 1
        rw [IntKind.wrap_i64, IntKind.wrap_u64, IntKind.wrap_u64]; omega
    · simp only [cong_Cong_Greatest_pre, cong_Cong_single, hb, All, and_true, rest_eq n c.M hn hM hc.1.2]
      exact ⟨fun h => Bool.noConfusion h, fun _ => ⟨⟨rest_pre _ _ h, h, p1⟩, by simp⟩⟩
    · simp only [ref20_Greatest_pre, hb, All, and_true]
      exact ⟨fun h => Bool.noConfusion h, fun _ => ⟨Rest_pre _ _ h, by simp⟩⟩
end
theorem Join_pre (a b : S.Cong) (ha : S.Cong.ok a) (hb : S.Cong.ok b) : S.cong_Join_pre a b := by
  have ha' := (ok_iff a).1 ha; have hb' := (ok_iff b).1 hb
  have g0 := G_pos a.M b.M ha'.1.1 hb'.1.1
  simp only [cong_Join_pre, gcd_eq _ _ ha'.1.1 hb'.1.1, All, and_true]
  refine ⟨gcd_pre _ _ ha'.1.1 hb'.1.1, fun _ => trivial, fun _ => ⟨fun _ => Make_pre _ _, fun h => ?_⟩⟩
  have hg : G a.M b.M ≠ 0 := fun e => by rw [e] at h; exact absurd h (by decide)
  have hf : 0 ≤ S.cong_far (S.cong_Cong_by a (G a.M b.M)) (S.cong_Cong_by b (G a.M b.M)) := by simp only [cong_far]; rw [IntKind.wrap_u64]; omega
  refine ⟨by_pre _ _ hg, by_pre _ _ hg, gcd_pre _ _ g0.1 hf, ?_⟩
  rw [gcd_eq _ _ g0.1 hf]
  have g1 := G_pos _ _ g0.1 hf
  intro e; exact hg (g1.2.2.2.1 e).1
theorem Meet_pre (a b : S.Cong) (ha : S.Cong.ok a) (hb : S.Cong.ok b) : S.cong_Meet_pre a b := by
  have ha' := (ok_iff a).1 ha; have hb' := (ok_iff b).1 hb
  have g0 := G_pos a.M b.M ha'.1.1 hb'.1.1
  simp only [cong_Meet_pre, gcd_eq _ _ ha'.1.1 hb'.1.1, All, and_true, cong_Cong_single]
  refine ⟨gcd_pre _ _ ha'.1.1 hb'.1.1, fun _ => Has_pre _ _, fun h => ⟨fun _ => Has_pre _ _, fun h2 => ?_⟩⟩
  have hM : a.M ≠ 0 := fun e => by rw [e] at h; exact absurd h (by decide)
  have hg : G a.M b.M ≠ 0 := fun e => hM (g0.2.2.2.1 e).1
  refine ⟨⟨by_pre _ _ hg, by_pre _ _ hg⟩, fun _ => trivial, fun _ => ⟨⟨Within_pre _ _, fun _ => Within_pre _ _⟩, by simp⟩⟩
theorem w1 : S.cong_Join (S.cong_Const 3) (S.cong_Const 11) = ⟨8, 3⟩ := by
  simp (disch := decide +kernel) only [cong_Join, gcd_eq]; decide +kernel
theorem w2 : S.cong_Join ⟨8, 3⟩ (S.cong_Const 4) = S.cong_Top := by
  simp (disch := decide +kernel) only [cong_Join, gcd_eq]; decide +kernel
theorem w3 : S.cong_Meet (S.cong_Make 4 1) (S.cong_Make 8 3) = (⟨0, 0⟩, false) := by
  simp (disch := decide +kernel) only [cong_Meet, gcd_eq]; decide +kernel
theorem w4 : S.cong_Meet (S.cong_Make 2 1) (S.cong_Make 6 3) = (⟨6, 3⟩, true) := by
  simp (disch := decide +kernel) only [cong_Meet, gcd_eq]; decide +kernel
theorem w8 : S.cong_Cong_Wrapped_pre (S.cong_Make 12 1) ∧ S.cong_Cong_Wrapped (S.cong_Make 12 1) = ⟨4, 1⟩ := by
  have e1 : S.cong_Make 12 1 = ⟨12, 1⟩ := by decide +kernel
  have e2 : bits .and .u64 12 (IntKind.u64.wrap (-12)) = 4 := by decide +kernel
  rw [e1]
  refine ⟨?_, by decide +kernel⟩
  simp [cong_Cong_Wrapped_pre, cong_Cong_single, All, e2]
theorem w9 : S.cong_Cong_Least (S.cong_Make 12 1) (-5) = (1, true) ∧ S.cong_Cong_Least_pre (S.cong_Make 12 1) (-5) := by
  have e1 : S.cong_Make 12 1 = ⟨12, 1⟩ := by decide +kernel
  rw [e1]
  obtain ⟨h1, _, h3, _⟩ := Least_both ⟨12, 1⟩ (-5) (by rw [ok_iff]; decide) (by decide +kernel) (by rw [inr_i64]; decide)
  rw [h1]
  exact ⟨by decide +kernel, h3⟩
section
variable (yn1 yn0 un u : Int) (h1 : 2147483648 ≤ yn1) (h1' : yn1 < 4294967296) (h0 : 0 ≤ yn0 ∧ yn0 < 4294967296) (hu : 0 ≤ u) (huy : u < yn1 * 4294967296 + yn0) (hun : 0 ≤ un ∧ un < 4294967296)
include h1 h1' h0 hu huy hun
end

/-! ### How many digits a number has -/
def B (c : S.Cong) (g : Int) : Int := if c.M = 0 then IntKind.i64.wrap c.R % g else c.R % g
theorem B_range (c : S.Cong) (g : Int) (hg : 0 < g) : 0 ≤ B c g ∧ B c g < g := by unfold B; split <;> exact mod_range _ g hg
theorem nb {x : Int} (h : (x == 0) = false) : x ≠ 0 := beq_eq_false_iff_ne.1 h
theorem far_eq (x y : Int) (hx : 0 ≤ x ∧ x ≤ 18446744073709551615) (hy : 0 ≤ y ∧ y ≤ 18446744073709551615) : S.ref20_far x y = S.cong_far x y ∧ 0 ≤ S.cong_far x y ∧ S.cong_far x y ≤ 18446744073709551615 := by
  simp only [ref20_far, cong_far]
  by_cases h : x < y
  · rw [decide_eq_true h, cond_true, if_pos h, if_neg (show ¬ y < x by omega), IntWalk.u64_in _ (by omega)]; omega
  · rw [decide_eq_false h, cond_false, if_neg (show ¬ y > x by omega)]
    by_cases h2 : y < x
    · rw [if_pos h2, IntWalk.u64_in _ (by omega)]; omega
    · rw [if_neg h2, IntWalk.u64_in _ (by omega), IntWalk.u64_in _ (by omega)]; omega
theorem mk_right (m n : Int) (hm : inr .u64 m) : S.cong_Cong_Right (mk m n) = true := by
  rw [inr_u64] at hm
  rw [Right_eq, Right_iff]
  unfold mk
  split
  · left; rfl
  · right; exact (mod_range n m (by omega)).2
section
variable (a b : S.Cong) (ha : S.Cong.ok a) (hb : S.Cong.ok b)
include ha hb
theorem Join_both (hr : S.ref20_Right a = true) : S.ref20_Join_pre a b ∧ S.cong_Join a b = S.ref20_Join a b ∧ S.cong_Cong_Right (S.cong_Join a b) = true := by
  have ha' := (ok_iff a).1 ha; have hb' := (ok_iff b).1 hb
  have g0 := G_pos a.M b.M ha'.1.1 hb'.1.1
  simp only [ref20_Join_pre, cong_Join, ref20_Join, gcd_eq a.M b.M ha'.1.1 hb'.1.1, Gcd_eq a.M b.M ha'.1.1 hb'.1.1, All, and_true, cong_Cong_number]
  cases hab : ((a.M == b.M) && (a.R == b.R)) with
  | true => exact ⟨⟨fun _ => trivial, fun h => Bool.noConfusion h⟩, rfl, hr⟩
  | false =>
    cases h : (G a.M b.M == 0) with
    | true =>
      have hw : ∀ x : Int, inr .u64 (IntKind.u64.wrap x) := fun x => by rw [inr_u64, IntKind.wrap_u64]; omega
      simp only [Make_eq _ _ (inr_i64.2 (num_i64 a.R)) (hw _), refMake_eq _ _ (inr_i64.2 (num_i64 a.R)) (hw _), cond_true, cond_false]
      exact ⟨⟨fun h => Bool.noConfusion h, fun _ => ⟨Gcd_pre _ _ ha'.1.1 hb'.1.1, fun _ => refMake_pre _ _, fun h => Bool.noConfusion h⟩⟩, rfl, mk_right _ _ (hw _)⟩
    | false =>
      have hg := nb h
      have hg1 : 0 < G a.M b.M := by omega
      have hg2 : G a.M b.M ≤ 18446744073709551615 := by omega
      have ra := B_range a _ hg1; have rb := B_range b _ hg1
      have e1 : S.cong_Cong_by a (G a.M b.M) = B a (G a.M b.M) := by_eq a _ ha hg1 hg2
      have e2 : S.cong_Cong_by b (G a.M b.M) = B b (G a.M b.M) := by_eq b _ hb hg1 hg2
      have e3 : S.ref20_Of a (G a.M b.M) = B a (G a.M b.M) := Of_eq a _ ha hg1 hg2
      have e4 : S.ref20_Of b (G a.M b.M) = B b (G a.M b.M) := Of_eq b _ hb hg1 hg2
      obtain ⟨f1, f2, f3⟩ := far_eq (B a (G a.M b.M)) (B b (G a.M b.M)) (by omega) (by omega)
      have g1 := G_pos _ _ g0.1 f2
      have hm : G (G a.M b.M) (S.cong_far (B a (G a.M b.M)) (B b (G a.M b.M))) ≠ 0 := fun e => hg (g1.2.2.2.1 e).1
      simp only [e1, e2, e3, e4, f1, gcd_eq _ _ g0.1 f2, Gcd_eq _ _ g0.1 f2, cond_false]
      refine ⟨⟨fun h => Bool.noConfusion h, fun _ => ⟨Gcd_pre _ _ ha'.1.1 hb'.1.1, fun h => Bool.noConfusion h, fun _ => ⟨Of_pre _ _ hg, Of_pre _ _ hg, Gcd_pre _ _ g0.1 f2, Of_pre _ _ hg, hm⟩⟩⟩, trivial, ?_⟩
      rw [Right_eq, Right_iff, tmod_pos _ _ ra.1]; right; exact (mod_range _ _ (by omega)).2
theorem Meet_both (hra : S.ref20_Right a = true) (hrb : S.ref20_Right b = true) : S.ref20_Meet_pre a b ∧ S.cong_Meet a b = S.ref20_Meet a b ∧ S.cong_Cong_Right (S.cong_Meet a b).1 = true := by
  have ha' := (ok_iff a).1 ha; have hb' := (ok_iff b).1 hb
  have g0 := G_pos a.M b.M ha'.1.1 hb'.1.1
  have n1 := inr_i64.2 (num_i64 a.R); have n2 := inr_i64.2 (num_i64 b.R)
  simp only [ref20_Meet_pre, cong_Meet, ref20_Meet, gcd_eq a.M b.M ha'.1.1 hb'.1.1, Gcd_eq a.M b.M ha'.1.1 hb'.1.1, All, and_true, cong_Cong_number, cong_Cong_single, cong_Cong_if1, Has_eq b _ hb n1, Has_eq a _ ha n2]
  cases h1 : (a.M == 0) with
  | true =>
    have e : a.M = 0 := by simpa using h1
    have hd : decide (a.M > 0) = false := by simp; omega
    simp only [hd, cond_false, cond_true, Bool.true_or]
    have := refHas_eq b _ hb n1
    rw [show (⟨b.M, b.R⟩ : S.Cong) = b from rfl, show (⟨a.M, a.R⟩ : S.Cong) = a from rfl, this]
    refine ⟨⟨fun _ => ⟨refHas_pre _ _, by simp⟩, fun h => Bool.noConfusion h⟩, ?_, ?_⟩
    · cases has b (IntKind.i64.wrap a.R) <;> rfl
    · cases has b (IntKind.i64.wrap a.R)
      · rfl
      · exact hra
  | false =>
    have hM := nb h1
    cases h2 : (b.M == 0) with
    | true =>
      have hd : decide (a.M > 0) = true := by simp; omega
      simp only [hd, cond_false, cond_true, Bool.or_true]
      have := refHas_eq a _ ha n2
      rw [show (⟨b.M, b.R⟩ : S.Cong) = b from rfl, show (⟨a.M, a.R⟩ : S.Cong) = a from rfl, this]
      refine ⟨⟨fun _ => ⟨refHas_pre _ _, by simp⟩, fun h => Bool.noConfusion h⟩, ?_, ?_⟩
      · cases has a (IntKind.i64.wrap b.R) <;> rfl
      · cases has a (IntKind.i64.wrap b.R)
        · rfl
        · exact hrb
    | false =>
      have hg : G a.M b.M ≠ 0 := fun e => hM (g0.2.2.2.1 e).1
      have hg1 : 0 < G a.M b.M := by omega
      have hg2 : G a.M b.M ≤ 18446744073709551615 := by omega
      have e1 : S.cong_Cong_by a (G a.M b.M) = S.ref20_Of a (G a.M b.M) := (by_eq a _ ha hg1 hg2).trans (Of_eq a _ ha hg1 hg2).symm
      have e2 : S.cong_Cong_by b (G a.M b.M) = S.ref20_Of b (G a.M b.M) := (by_eq b _ hb hg1 hg2).trans (Of_eq b _ hb hg1 hg2).symm
      simp only [e1, e2, Within_eq a b ha hb, Within_eq b a hb ha, cond_false, Bool.or_false]
      refine ⟨⟨fun h => Bool.noConfusion h, fun _ => ⟨⟨Gcd_pre _ _ ha'.1.1 hb'.1.1, Of_pre _ _ hg, Of_pre _ _ hg⟩, fun _ => trivial, fun _ => ⟨⟨refWithin_pre _ _, fun _ => refWithin_pre _ _⟩, by simp⟩⟩⟩, ?_, ?_⟩
      · cases (S.ref20_Of a (G a.M b.M) != S.ref20_Of b (G a.M b.M))
        · have hge : decide (a.M ≥ b.M) = !decide (b.M > a.M) := by
            by_cases hc : b.M > a.M
            · rw [decide_eq_true hc, decide_eq_false (by omega)]; rfl
            · rw [decide_eq_false hc, decide_eq_true (by omega)]; rfl
          rw [hge]
          cases S.ref20_Within a b <;> cases S.ref20_Within b a <;> cases decide (b.M > a.M) <;> rfl
        · rfl
      · cases (S.ref20_Of a (G a.M b.M) != S.ref20_Of b (G a.M b.M))
        · simp only [cond_false]
          cases (S.ref20_Within a b || (!S.ref20_Within b a && decide (a.M ≥ b.M)))
          · exact hrb
          · exact hra
        · rfl
end
def I64 (x : Int) : Prop := -9223372036854775808 ≤ x ∧ x ≤ 9223372036854775807
theorem has_iff (c : S.Cong) (x : Int) : has c x = true ↔ (c.M = 0 ∧ IntKind.u64.wrap x = c.R) ∨ (c.M ≠ 0 ∧ x % c.M = c.R) := by
  by_cases h : c.M = 0
  · have hm : mk c.M x = ⟨0, IntKind.u64.wrap x⟩ := if_pos h
    simp only [has, hm, decide_eq_true_eq, S.Cong.ext_iff]
    constructor
    · rintro ⟨_, h2⟩; exact .inl ⟨h, h2⟩
    · rintro (⟨_, h2⟩ | ⟨h2, _⟩)
      · exact ⟨h.symm, h2⟩
      · exact absurd h h2
  · have hm : mk c.M x = ⟨c.M, x % c.M⟩ := if_neg h
    simp only [has, hm, decide_eq_true_eq, S.Cong.ext_iff, true_and]
    constructor
    · intro h2; exact .inr ⟨h, h2⟩
    · rintro (⟨h2, _⟩ | ⟨_, h2⟩)
      · exact absurd h2 h
      · exact h2
theorem num_of (R x : Int) (hx : I64 x) (h : IntKind.u64.wrap x = R) : IntKind.i64.wrap R = x := by
  obtain ⟨h1, h2⟩ := hx
  rw [← h, IntKind.wrap_i64, IntKind.wrap_u64]; omega
theorem mod_mod_dvd (x m g : Int) (h : g ∣ m) : x % m % g = x % g := Int.emod_emod_of_dvd x h
theorem B_has (c : S.Cong) (x g : Int) (hx : I64 x) (h : has c x = true) (hd : g ∣ c.M) : B c g = x % g := by
  rcases (has_iff c x).1 h with ⟨h1, h2⟩ | ⟨h1, h2⟩
  · unfold B; rw [if_pos h1, num_of _ _ hx h2]
  · unfold B; rw [if_neg h1, ← h2, mod_mod_dvd x _ _ hd]
theorem G_dvd (a b : Int) (ha : 0 ≤ a) (hb : 0 ≤ b) : G a b ∣ a ∧ G a b ∣ b := by
  obtain ⟨A, rfl⟩ := Int.eq_ofNat_of_zero_le ha
  obtain ⟨B, rfl⟩ := Int.eq_ofNat_of_zero_le hb
  simp only [G, Int.toNat_natCast]
  exact ⟨Int.natCast_dvd_natCast.2 (Nat.gcd_dvd_left _ _), Int.natCast_dvd_natCast.2 (Nat.gcd_dvd_right _ _)⟩
theorem emod_of_dvd_sub (x y m : Int) (h : m ∣ x - y) : x % m = y % m := by
  obtain ⟨k, hk⟩ := h
  rw [show x = y + m * k by omega, Int.add_mul_emod_self_left]
theorem Within_iff (a b : S.Cong) (ha : S.Cong.ok a) (hb : S.Cong.ok b) : S.cong_Within a b = true ↔ (b.M = 0 ∧ a = b) ∨ (b.M ≠ 0 ∧ a.M % b.M = 0 ∧ B a b.M = b.R) := by
  have ha' := (ok_iff a).1 ha; have hb' := (ok_iff b).1 hb
  simp only [cong_Within, cong_Cong_single, eqb]
  by_cases h : b.M = 0
  · rw [show (b.M == 0) = true by simpa using h, cond_true, decide_eq_true_eq]
    constructor
    · intro e; exact .inl ⟨h, e⟩
    · rintro (⟨_, e⟩ | ⟨e, _⟩)
      · exact e
      · exact absurd h e
  · rw [show (b.M == 0) = false from beq_eq_false_iff_ne.2 h, cond_false, tmod_pos _ _ ha'.1.1, by_eq a b.M ha (by omega) hb'.1.2, Bool.and_eq_true, beq_iff_eq, beq_iff_eq]
    constructor
    · rintro ⟨e1, e2⟩; exact .inr ⟨h, e1, e2⟩
    · rintro (⟨e, _⟩ | ⟨_, e1, e2⟩)
      · exact absurd e h
      · exact ⟨e1, e2⟩
theorem Join_val (a b : S.Cong) (ha : S.Cong.ok a) (hb : S.Cong.ok b) (hab : a ≠ b) :
    (G a.M b.M = 0 → S.cong_Join a b = mk (IntKind.u64.wrap (IntKind.u64.wrap (max (IntKind.i64.wrap a.R) (IntKind.i64.wrap b.R)) - IntKind.u64.wrap (min (IntKind.i64.wrap a.R) (IntKind.i64.wrap b.R)))) (IntKind.i64.wrap a.R)) ∧
    (G a.M b.M ≠ 0 → S.cong_Join a b = ⟨G (G a.M b.M) (S.cong_far (B a (G a.M b.M)) (B b (G a.M b.M))), B a (G a.M b.M) % G (G a.M b.M) (S.cong_far (B a (G a.M b.M)) (B b (G a.M b.M)))⟩) := by
  have ha' := (ok_iff a).1 ha; have hb' := (ok_iff b).1 hb
  have g0 := G_pos a.M b.M ha'.1.1 hb'.1.1
  have hne : ((a.M == b.M) && (a.R == b.R)) = false := by rw [eqb]; exact decide_eq_false hab
  simp only [cong_Join, gcd_eq a.M b.M ha'.1.1 hb'.1.1, hne, cond_false]
  refine ⟨fun h => ?_, fun h => ?_⟩
  · have hw : ∀ x : Int, inr .u64 (IntKind.u64.wrap x) := fun x => by rw [inr_u64, IntKind.wrap_u64]; omega
    have e1 : (if S.cong_Cong_number b > S.cong_Cong_number a then S.cong_Cong_number b else S.cong_Cong_number a) = max (S.cong_Cong_number a) (S.cong_Cong_number b) := by split <;> omega
    have e2 : (if S.cong_Cong_number b < S.cong_Cong_number a then S.cong_Cong_number b else S.cong_Cong_number a) = min (S.cong_Cong_number a) (S.cong_Cong_number b) := by split <;> omega
    rw [h, show ((0 : Int) == 0) = true from rfl, cond_true, Make_eq _ (S.cong_Cong_number a) (inr_i64.2 (num_i64 a.R)) (hw _), e1, e2]
    rfl
  · have hg1 : 0 < G a.M b.M := by omega
    have hg2 : G a.M b.M ≤ 18446744073709551615 := by omega
    have ra := B_range a _ hg1; have rb := B_range b _ hg1
    have e1 : S.cong_Cong_by a (G a.M b.M) = B a (G a.M b.M) := by_eq a _ ha hg1 hg2
    have e2 : S.cong_Cong_by b (G a.M b.M) = B b (G a.M b.M) := by_eq b _ hb hg1 hg2
    obtain ⟨f1, f2, f3⟩ := far_eq (B a (G a.M b.M)) (B b (G a.M b.M)) (by omega) (by omega)
    rw [show (G a.M b.M == 0) = false from beq_eq_false_iff_ne.2 h, cond_false, e1, e2, gcd_eq _ _ g0.1 f2, tmod_pos _ _ ra.1]
theorem far_dvd (x y : Int) (hx : 0 ≤ x ∧ x ≤ 18446744073709551615) (hy : 0 ≤ y ∧ y ≤ 18446744073709551615) (m : Int) (h : m ∣ S.cong_far x y) : m ∣ x - y := by
  have e : S.cong_far x y = x - y ∨ S.cong_far x y = -(x - y) := by
    simp only [cong_far]
    by_cases h : x < y
    · right; rw [if_pos h, if_neg (show ¬ y < x by omega), IntWalk.u64_in _ (by omega)]; omega
    · left
      rw [if_neg (show ¬ y > x by omega)]
      by_cases h2 : y < x
      · rw [if_pos h2, IntWalk.u64_in _ (by omega)]
      · rw [if_neg h2, IntWalk.u64_in _ (by omega)]; omega
  rcases e with e | e
  · rw [e] at h; exact h
  · rw [e] at h; exact Int.dvd_neg.1 h
section
variable (a b : S.Cong) (ha : S.Cong.ok a) (hb : S.Cong.ok b) (hra : S.ref20_Right a = true) (hrb : S.ref20_Right b = true) (x y : Int) (hx : I64 x) (hy : I64 y) (hax : has a x = true) (hby : has b y = true)
include ha hb hra hrb hx hy hax hby
theorem Join_has : S.Cong.ok (S.cong_Join a b) ∧ has (S.cong_Join a b) x = true ∧ has (S.cong_Join a b) y = true ∧ S.cong_Within a (S.cong_Join a b) = true ∧ S.cong_Within b (S.cong_Join a b) = true := by
  have ha' := (ok_iff a).1 ha; have hb' := (ok_iff b).1 hb
  have g0 := G_pos a.M b.M ha'.1.1 hb'.1.1
  by_cases hab : a = b
  · subst hab
    have e : S.cong_Join a a = a := by
      simp [cong_Join]
    rw [e]
    exact ⟨ha, hax, hby, Within_self a ha hra, Within_self a ha hra⟩
  · obtain ⟨j0, j1⟩ := Join_val a b ha hb hab
    by_cases hg : G a.M b.M = 0
    · obtain ⟨hM, hN⟩ := g0.2.2.2.1 hg
      have hax' : IntKind.u64.wrap x = a.R := by
        rcases (has_iff a x).1 hax with ⟨_, h⟩ | ⟨h, _⟩
        · exact h
        · exact absurd hM h
      have hby' : IntKind.u64.wrap y = b.R := by
        rcases (has_iff b y).1 hby with ⟨_, h⟩ | ⟨h, _⟩
        · exact h
        · exact absurd hN h
      have n1 := num_of _ _ hx hax'
      have n2 := num_of _ _ hy hby'
      rw [j0 hg, n1, n2]
      have hd : ∃ d, IntKind.u64.wrap (IntKind.u64.wrap (max x y) - IntKind.u64.wrap (min x y)) = d ∧ d = max x y - min x y := ⟨_, rfl, by
        obtain ⟨x1, x2⟩ := hx; obtain ⟨y1, y2⟩ := hy
        rw [IntKind.wrap_u64, IntKind.wrap_u64, IntKind.wrap_u64]; omega⟩
      obtain ⟨d, e1, e2⟩ := hd
      rw [e1]
      have hxy : x ≠ y := by
        intro e; apply hab
        rw [S.Cong.ext_iff]; refine ⟨by rw [hM, hN], ?_⟩
        rw [← hax', ← hby', e]
      have hd0 : 0 < d := by omega
      have hd1 : d ≤ 18446744073709551615 := by obtain ⟨x1, x2⟩ := hx; obtain ⟨y1, y2⟩ := hy; omega
      have em : mk d x = ⟨d, x % d⟩ := if_neg (by omega)
      have hr := mod_range x d hd0
      have hyx : y % d = x % d := by
        refine emod_of_dvd_sub _ _ _ ?_
        by_cases h : x ≤ y
        · exact ⟨1, by omega⟩
        · exact ⟨-1, by omega⟩
      have hok : S.Cong.ok (mk d x) := by rw [ok_iff, em]; dsimp only; omega
      rw [em] at hok ⊢
      have hne : d ≠ 0 := by omega
      refine ⟨hok, (has_iff _ _).2 (.inr ⟨hne, rfl⟩), (has_iff _ _).2 (.inr ⟨hne, hyx⟩), (Within_iff _ _ ha hok).2 (.inr ⟨hne, ?_, ?_⟩), (Within_iff _ _ hb hok).2 (.inr ⟨hne, ?_, ?_⟩)⟩
      · rw [hM]; exact Int.zero_emod _
      · exact B_has a x d hx hax (by rw [hM]; exact Int.dvd_zero d)
      · rw [hN]; exact Int.zero_emod _
      · rw [B_has b y d hy hby (by rw [hN]; exact Int.dvd_zero d)]; exact hyx
    · rw [j1 hg]
      have hg1 : 0 < G a.M b.M := by omega
      have hg2 : G a.M b.M ≤ 18446744073709551615 := by omega
      obtain ⟨d1, d2⟩ := G_dvd a.M b.M ha'.1.1 hb'.1.1
      have ba := B_has a x _ hx hax d1
      have bb := B_has b y _ hy hby d2
      have ra := B_range a _ hg1; have rb := B_range b _ hg1
      obtain ⟨f1, f2, f3⟩ := far_eq (B a (G a.M b.M)) (B b (G a.M b.M)) (by omega) (by omega)
      have g1 := G_pos _ _ g0.1 f2
      obtain ⟨k1, k2⟩ := G_dvd _ _ g0.1 f2
      have k3 := far_dvd _ _ (by omega) (by omega) _ k2
      generalize G (G a.M b.M) (S.cong_far (B a (G a.M b.M)) (B b (G a.M b.M))) = m at *
      have hm : 0 < m := by
        have : m ≠ 0 := fun e => hg (g1.2.2.2.1 e).1
        omega
      have hm2 : m ≤ 18446744073709551615 := by omega
      have hR : B a (G a.M b.M) % m = x % m := by rw [ba, mod_mod_dvd _ _ _ k1]
      have hyx : y % m = x % m := by
        have e1 : B b (G a.M b.M) % m = y % m := by rw [bb, mod_mod_dvd _ _ _ k1]
        rw [← e1, ← hR]; exact (emod_of_dvd_sub _ _ _ k3).symm
      rw [hR]
      have hr := mod_range x m hm
      have hok : S.Cong.ok ⟨m, x % m⟩ := by rw [ok_iff]; dsimp only; omega
      have hne : m ≠ 0 := by omega
      have m1 : m ∣ a.M := Int.dvd_trans k1 d1
      have m2 : m ∣ b.M := Int.dvd_trans k1 d2
      refine ⟨hok, (has_iff _ _).2 (.inr ⟨hne, rfl⟩), (has_iff _ _).2 (.inr ⟨hne, hyx⟩), (Within_iff _ _ ha hok).2 (.inr ⟨hne, ?_, ?_⟩), (Within_iff _ _ hb hok).2 (.inr ⟨hne, ?_, ?_⟩)⟩
      · exact Int.emod_eq_zero_of_dvd m1
      · exact B_has a x m hx hax m1
      · exact Int.emod_eq_zero_of_dvd m2
      · rw [B_has b y m hy hby m2]; exact hyx
end
section
variable (a b : S.Cong) (ha : S.Cong.ok a) (hb : S.Cong.ok b) (hra : S.ref20_Right a = true) (hrb : S.ref20_Right b = true)
include ha hb
theorem Meet_is (hra : S.ref20_Right a = true) (hrb : S.ref20_Right b = true) : (S.cong_Meet a b).2 = true → ((S.cong_Meet a b).1 = a ∨ (S.cong_Meet a b).1 = b) := by
  simp only [cong_Meet, cong_Cong_if1]
  cases S.cong_Cong_single a <;> cases S.cong_Cong_single b <;> simp only [cond_true, cond_false]
  · generalize (S.cong_Cong_by a (S.cong_gcd a.M b.M) != S.cong_Cong_by b (S.cong_gcd a.M b.M)) = p
    generalize (S.cong_Within a b || !S.cong_Within b a && decide (a.M ≥ b.M)) = q
    cases p <;> cases q <;> simp
  · cases S.cong_Cong_Has a (S.cong_Cong_number b) <;> simp
  · cases S.cong_Cong_Has b (S.cong_Cong_number a) <;> simp
  · cases S.cong_Cong_Has b (S.cong_Cong_number a) <;> simp
theorem Meet_has (z : Int) (hz : I64 z) (h1 : has a z = true) (h2 : has b z = true) : (S.cong_Meet a b).2 = true ∧ has (S.cong_Meet a b).1 z = true := by
  have ha' := (ok_iff a).1 ha; have hb' := (ok_iff b).1 hb
  have g0 := G_pos a.M b.M ha'.1.1 hb'.1.1
  have n1 := inr_i64.2 (num_i64 a.R); have n2 := inr_i64.2 (num_i64 b.R)
  simp only [cong_Meet, gcd_eq a.M b.M ha'.1.1 hb'.1.1, cong_Cong_number, cong_Cong_single, cong_Cong_if1, Has_eq b _ hb n1, Has_eq a _ ha n2]
  by_cases e1 : a.M = 0
  · have hn : IntKind.i64.wrap a.R = z := by
      rcases (has_iff a z).1 h1 with ⟨_, h⟩ | ⟨h, _⟩
      · exact num_of _ _ hz h
      · exact absurd e1 h
    rw [hn, h2, show (a.M == 0) = true by simpa using e1]
    exact ⟨rfl, h1⟩
  · rw [show (a.M == 0) = false from beq_eq_false_iff_ne.2 e1]
    by_cases e2 : b.M = 0
    · have hn : IntKind.i64.wrap b.R = z := by
        rcases (has_iff b z).1 h2 with ⟨_, h⟩ | ⟨h, _⟩
        · exact num_of _ _ hz h
        · exact absurd e2 h
      rw [hn, h1, show (b.M == 0) = true by simpa using e2]
      exact ⟨rfl, h2⟩
    · rw [show (b.M == 0) = false from beq_eq_false_iff_ne.2 e2]
      have hg : G a.M b.M ≠ 0 := fun e => e1 (g0.2.2.2.1 e).1
      have hg1 : 0 < G a.M b.M := by omega
      have hg2 : G a.M b.M ≤ 18446744073709551615 := by omega
      obtain ⟨d1, d2⟩ := G_dvd a.M b.M ha'.1.1 hb'.1.1
      have x1 : S.cong_Cong_by a (G a.M b.M) = z % G a.M b.M := (by_eq a _ ha hg1 hg2).trans (B_has a z _ hz h1 d1)
      have x2 : S.cong_Cong_by b (G a.M b.M) = z % G a.M b.M := (by_eq b _ hb hg1 hg2).trans (B_has b z _ hz h2 d2)
      rw [x1, x2]
      simp only [bne_self_eq_false, cond_false]
      generalize (S.cong_Within a b || !S.cong_Within b a && decide (a.M ≥ b.M)) = q
      cases q
      · exact ⟨rfl, h2⟩
      · exact ⟨rfl, h1⟩
variable (x y : Int) (hx : I64 x) (hy : I64 y) (hax : has a x = true) (hby : has b y = true)
include hx hy hax hby
end
end SC
