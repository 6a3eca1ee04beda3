/-
  Printed by a program out of the plain texts of another seat: what the smaller packages' functions compute, in plain words. Conditions: those that each theorem states.
-/
import Derived.Test.YtcgafjhkefcdfaaGreatDoorQKDefs
import Derived.IntWalk
import Derived.Laws.BitsAllLaws
import Derived.Laws.MathBits
set_option linter.all false
open Go Vm
def S.ref20_Right (c : S.Cong) : Bool :=
  let b1 : Bool := c.M == 0
  let b2 : Bool := decide (c.R < c.M)
  let p3 : Bool := (b1 || b2)
  p3
def S.cong_far (a : Int) (b : Int) : Int :=
  let m1 : Int := if b > a then b else a
  let m2 : Int := if b < a then b else a
  let t3 : Int := IntKind.u64.wrap (m1 - m2)
  t3
noncomputable def S.cong_Join (a : S.Cong) (b : S.Cong) : S.Cong :=
  let r1 : Int := S.cong_gcd a.M b.M
  let b2 : Bool := ((a.M == b.M) && (a.R == b.R))
  let b3 : Bool := r1 == 0
  let r4 : Int := S.cong_Cong_number a
  let r5 : Int := S.cong_Cong_number b
  let m6 : Int := if r5 > r4 then r5 else r4
  let t7 : Int := IntKind.u64.wrap m6
  let m8 : Int := if r5 < r4 then r5 else r4
  let t9 : Int := IntKind.u64.wrap m8
  let t10 : Int := IntKind.u64.wrap (t7 - t9)
  let r11 : S.Cong := S.cong_Make t10 r4
  let r12 : Int := S.cong_Cong_by a r1
  let r13 : Int := S.cong_Cong_by b r1
  let r14 : Int := S.cong_far r12 r13
  let r15 : Int := S.cong_gcd r1 r14
  let t16 : Int := Int.tmod r12 r15
  (bif b2 then a else (bif b3 then r11 else (⟨r15, t16⟩ : S.Cong)))
def S.cong_Cong_Has (c : S.Cong) (n : Int) : Bool :=
  let r1 : S.Cong := S.cong_Make c.M n
  let b2 : Bool := ((r1.M == c.M) && (r1.R == c.R))
  b2
def S.cong_Cong_if1 (c : S.Cong) (ok : Bool) : S.Cong × Bool :=
  let b1 : Bool := !ok
  (bif b1 then ((⟨0, 0⟩ : S.Cong), false) else (c, true))
noncomputable def S.cong_Meet (a : S.Cong) (b : S.Cong) : S.Cong × Bool :=
  let r1 : Int := S.cong_gcd a.M b.M
  let r2 : Bool := S.cong_Cong_single a
  let r3 : Int := S.cong_Cong_number a
  let r4 : Bool := S.cong_Cong_Has b r3
  let r5 : S.Cong × Bool := S.cong_Cong_if1 a r4
  let r6 : Bool := S.cong_Cong_single b
  let r7 : Int := S.cong_Cong_number b
  let r8 : Bool := S.cong_Cong_Has a r7
  let r9 : S.Cong × Bool := S.cong_Cong_if1 b r8
  let r10 : Int := S.cong_Cong_by a r1
  let r11 : Int := S.cong_Cong_by b r1
  let b12 : Bool := r10 != r11
  let r13 : Bool := S.cong_Within a b
  let r14 : Bool := S.cong_Within b a
  let b15 : Bool := !r14
  let b16 : Bool := decide (a.M ≥ b.M)
  let p17 : Bool := (b15 && b16)
  let p18 : Bool := (r13 || p17)
  (bif r2 then (r5.1, r5.2) else (bif r6 then (r9.1, r9.2) else (bif b12 then ((⟨0, 0⟩ : S.Cong), false) else (bif p18 then (a, true) else (b, true)))))
def S.ref20_Within (a : S.Cong) (b : S.Cong) : Bool :=
  let b1 : Bool := b.M == 0
  let b2 : Bool := ((a.M == b.M) && (a.R == b.R))
  let t3 : Int := Int.tmod a.M b.M
  let b4 : Bool := t3 == 0
  let r5 : Int := S.ref20_Of a b.M
  let b6 : Bool := r5 == b.R
  let p7 : Bool := (b4 && b6)
  (bif b1 then b2 else p7)
def S.ref20_Least (c : S.Cong) (a1 : Int) : Int × Bool :=
  let b1 : Bool := c.M == 0
  let t2 : Int := IntKind.i64.wrap c.R
  let b3 : Bool := decide (t2 < a1)
  let t4 : Int := IntKind.i64.wrap c.R
  let r5 : Int := S.ref20_Rest a1 c.M
  let r6 : Int := S.ref20_minus c.R r5 c.M
  let t7 : Int := IntKind.u64.wrap a1
  let t8 : Int := IntKind.u64.wrap (9223372036854775807 - t7)
  let b9 : Bool := decide (r6 > t8)
  let t10 : Int := IntKind.u64.wrap a1
  let t11 : Int := IntKind.u64.wrap (t10 + r6)
  let t12 : Int := IntKind.i64.wrap t11
  (bif b1 then (bif b3 then (0, false) else (t4, true)) else (bif b9 then (0, false) else (t12, true)))
def S.ref20_Least_pre (c : S.Cong) (a1 : Int) : Prop :=
  let b1 : Bool := c.M == 0
  let t2 : Int := IntKind.i64.wrap c.R
  let b3 : Bool := decide (t2 < a1)
  let r5 : Int := S.ref20_Rest a1 c.M
  let r6 : Int := S.ref20_minus c.R r5 c.M
  let t7 : Int := IntKind.u64.wrap a1
  let t8 : Int := IntKind.u64.wrap (9223372036854775807 - t7)
  let b9 : Bool := decide (r6 > t8)
  ((b1 = true → ((b3 = true → True) ∧ (b3 = false → True))) ∧ (b1 = false → (All [S.ref20_Rest_pre a1 c.M] ∧ ((b9 = true → True) ∧ (b9 = false → True)))))
def S.ref20_Greatest (c : S.Cong) (to : Int) : Int × Bool :=
  let b1 : Bool := c.M == 0
  let t2 : Int := IntKind.i64.wrap c.R
  let b3 : Bool := decide (t2 > to)
  let t4 : Int := IntKind.i64.wrap c.R
  let r5 : Int := S.ref20_Rest to c.M
  let r6 : Int := S.ref20_minus r5 c.R c.M
  let t7 : Int := IntKind.u64.wrap to
  let t8 : Int := IntKind.u64.wrap (t7 - 9223372036854775808)
  let b9 : Bool := decide (r6 > t8)
  let t10 : Int := IntKind.u64.wrap to
  let t11 : Int := IntKind.u64.wrap (t10 - r6)
  let t12 : Int := IntKind.i64.wrap t11
  (bif b1 then (bif b3 then (0, false) else (t4, true)) else (bif b9 then (0, false) else (t12, true)))
def S.ref20_Greatest_pre (c : S.Cong) (to : Int) : Prop :=
  let b1 : Bool := c.M == 0
  let t2 : Int := IntKind.i64.wrap c.R
  let b3 : Bool := decide (t2 > to)
  let r5 : Int := S.ref20_Rest to c.M
  let r6 : Int := S.ref20_minus r5 c.R c.M
  let t7 : Int := IntKind.u64.wrap to
  let t8 : Int := IntKind.u64.wrap (t7 - 9223372036854775808)
  let b9 : Bool := decide (r6 > t8)
  ((b1 = true → ((b3 = true → True) ∧ (b3 = false → True))) ∧ (b1 = false → (All [S.ref20_Rest_pre to c.M] ∧ ((b9 = true → True) ∧ (b9 = false → True)))))
namespace SC
open S
instance : DecidableEq S.Cong := fun a b => decidable_of_iff (a.M = b.M ∧ a.R = b.R) (by rw [S.Cong.ext_iff])
theorem inr_u64 {x : Int} : inr .u64 x ↔ 0 ≤ x ∧ x ≤ 18446744073709551615 := by simp [inr, IntKind.min, IntKind.max, IntKind.signed, IntKind.bits]
theorem inr_i64 {x : Int} : inr .i64 x ↔ -9223372036854775808 ≤ x ∧ x ≤ 9223372036854775807 := by simp [inr, IntKind.min, IntKind.max, IntKind.signed, IntKind.bits]
theorem emod_unique {a m r q : Int} (h : a = m * q + r) (h0 : 0 ≤ r) (h1 : r < m) : a % m = r := by
  rw [h, Int.add_comm, Int.add_mul_emod_self_left]; exact Int.emod_eq_of_lt h0 h1
theorem neg_emod (n m : Int) (hm : 0 < m) : n % m = m - 1 - ((-n - 1) % m) := by
  have h1 := Int.emod_nonneg (-n - 1) (show m ≠ 0 by omega)
  have h2 := Int.emod_lt_of_pos (-n - 1) hm
  have h3 := Int.mul_ediv_add_emod (-n - 1) m
  refine emod_unique (q := -((-n - 1) / m) - 1) ?_ (by omega) (by omega)
  rw [Int.mul_sub, Int.mul_neg, Int.mul_one]; omega
theorem not_u64 (x : Int) (h0 : 0 ≤ x) (h1 : x ≤ 18446744073709551615) : bits .xor .u64 (if IntKind.u64.signed then -1 else IntKind.u64.max) x = 18446744073709551615 - x := by
  have e : (if IntKind.u64.signed then -1 else IntKind.u64.max) = 18446744073709551615 := by decide
  rw [e, u64_xor _ _ (by omega) (by omega) h0 (by omega)]
  have hx : x.toNat < 2 ^ 64 := by omega
  have := BitVec.toNat_not (x := BitVec.ofNat 64 x.toNat)
  rw [← BitVec.allOnes_xor, BitVec.toNat_xor, BitVec.toNat_allOnes, BitVec.toNat_ofNat, Nat.mod_eq_of_lt hx] at this
  have e2 : (18446744073709551615 : Int).toNat = 2 ^ 64 - 1 := by decide
  rw [e2, this]; omega
theorem tmod_pos (a b : Int) (h : 0 ≤ a) : Int.tmod a b = a % b := Int.tmod_eq_emod_of_nonneg h
theorem rest_eq (n m : Int) (hn : -9223372036854775808 ≤ n ∧ n ≤ 9223372036854775807) (hm : 0 < m) (hm2 : m ≤ 18446744073709551615) : S.cong_rest n m = n % m := by
  simp only [cong_rest]
  by_cases h : n < 0
  · have e1 : IntKind.u64.wrap n = n + 18446744073709551616 := by rw [IntKind.wrap_u64]; omega
    rw [e1, not_u64 _ (by omega) (by omega), tmod_pos _ _ (by omega), IntWalk.u64_in (m - 1) (by omega), decide_eq_true h, cond_true]
    have e2 : 18446744073709551615 - (n + 18446744073709551616) = -n - 1 := by omega
    rw [e2, neg_emod n m hm]
    have h1 := Int.emod_nonneg (-n - 1) (show m ≠ 0 by omega)
    have h2 := Int.emod_lt_of_pos (-n - 1) hm
    rw [IntWalk.u64_in _ (by omega)]
  · rw [decide_eq_false h, cond_false, IntWalk.u64_in n (by omega), tmod_pos _ _ (by omega)]
theorem Rest_eq (n m : Int) (hn : -9223372036854775808 ≤ n ∧ n ≤ 9223372036854775807) (hm : 0 < m) (hm2 : m ≤ 18446744073709551615) : S.ref20_Rest n m = n % m := by
  simp only [ref20_Rest]
  by_cases h : n ≥ 0
  · rw [decide_eq_true h, cond_true, IntWalk.u64_in n (by omega), tmod_pos _ _ (by omega)]
  · rw [decide_eq_false h, cond_false, IntWalk.i64_in (n + 1) (by omega), IntWalk.i64_in (0 - (n + 1)) (by omega), IntWalk.u64_in (0 - (n + 1)) (by omega), tmod_pos _ _ (by omega), IntWalk.u64_in (m - 1) (by omega)]
    have e2 : 0 - (n + 1) = -n - 1 := by omega
    rw [e2, neg_emod n m hm]
    have h1 := Int.emod_nonneg (-n - 1) (show m ≠ 0 by omega)
    have h2 := Int.emod_lt_of_pos (-n - 1) hm
    rw [IntWalk.u64_in _ (by omega)]
theorem rest_pre (n m : Int) (hm : m ≠ 0) : S.cong_rest_pre n m := by simp [cong_rest_pre, All, hm]
theorem Rest_pre (n m : Int) (hm : m ≠ 0) : S.ref20_Rest_pre n m := by simp [ref20_Rest_pre, All, hm]
def mk (m n : Int) : S.Cong := if m = 0 then ⟨0, IntKind.u64.wrap n⟩ else ⟨m, n % m⟩
theorem Make_eq (m n : Int) (hn : inr .i64 n) (hm : inr .u64 m) : S.cong_Make m n = mk m n := by
  rw [inr_i64] at hn; rw [inr_u64] at hm
  simp only [cong_Make, mk]
  by_cases h : m = 0
  · subst h; rfl
  · rw [rest_eq n m hn (by omega) (by omega), if_neg h, show (m == 0) = false from beq_eq_false_iff_ne.2 h, cond_false]
theorem Make_pre (m n : Int) : S.cong_Make_pre m n := by
  simp only [cong_Make_pre, All, and_true]
  exact ⟨fun _ => trivial, fun h => rest_pre n m (fun e => by rw [e] at h; exact absurd h (by decide))⟩
theorem refMake_pre (m n : Int) : S.ref20_Make_pre m n := by
  simp only [ref20_Make_pre, All, and_true]
  exact ⟨fun _ => trivial, fun h => Rest_pre n m (fun e => by rw [e] at h; exact absurd h (by decide))⟩
def G (a b : Int) : Int := (Nat.gcd a.toNat b.toNat : Nat)
theorem G_zero (a : Int) (h : 0 ≤ a) : G a 0 = a := by simp [G]; omega
theorem G_rec (a b : Int) (ha : 0 ≤ a) (hb : 0 < b) : G b (a % b) = G a b := by
  obtain ⟨A, rfl⟩ := Int.eq_ofNat_of_zero_le ha
  obtain ⟨B, rfl⟩ := Int.eq_ofNat_of_zero_le (Int.le_of_lt hb)
  simp only [G]
  have : ((A : Int) % (B : Int)).toNat = A % B := by omega
  rw [this, Int.toNat_natCast, Int.toNat_natCast, Nat.gcd_comm A B, Nat.gcd_rec B A, Nat.gcd_comm]
theorem gcd_runs : ∀ (n : Nat) (a b : Int), 0 ≤ a → 0 ≤ b → b.toNat = n → Runs cong_gcd_L0_step cong_gcd_L0_vcs ⟨a, b⟩ ⟨G a b, 0⟩ := by
  intro n
  induction n using Nat.strongRecOn with
  | _ n ih =>
    intro a b ha hb hn
    by_cases h : b = 0
    · subst h
      rw [G_zero a ha]
      exact .done _ _ (by simp [cong_gcd_L0_vcs]) (by simp [cong_gcd_L0_step])
    · have h1 := Int.emod_nonneg a h
      have h2 := Int.emod_lt_of_pos a (show 0 < b by omega)
      refine .next _ ⟨b, a % b⟩ _ (by simp [cong_gcd_L0_vcs, All, h]) (by simp only [cong_gcd_L0_step, show (b == 0) = false from beq_eq_false_iff_ne.2 h, cond_false, tmod_pos a b ha]) ?_
      rw [← G_rec a b ha (by omega)]
      exact ih (a % b).toNat (by omega) b (a % b) hb h1 rfl
theorem gcd_run (a b : Int) (ha : 0 ≤ a) (hb : 0 ≤ b) : cong_gcd_L0_run ⟨a, b⟩ = ⟨G a b, 0⟩ := theRun_eq (d := fun x => x) (gcd_runs _ a b ha hb rfl)
theorem gcd_eq (a b : Int) (ha : 0 ≤ a) (hb : 0 ≤ b) : S.cong_gcd a b = G a b := by simp only [cong_gcd, gcd_run a b ha hb]
theorem gcd_pre (a b : Int) (ha : 0 ≤ a) (hb : 0 ≤ b) : S.cong_gcd_pre a b := by
  simp only [cong_gcd_pre, gcd_run a b ha hb, All, and_true]; exact gcd_runs _ a b ha hb rfl
theorem Gcd_F : ∀ (n : Nat) (a b : Int), 0 ≤ a → 0 ≤ b → S.ref20_Gcd_D n a b → S.ref20_Gcd_F n a b = G a b := by
  intro n
  induction n with
  | zero => intro a b _ _ h; exact h.elim
  | succ n ih =>
    intro a b ha hb h
    by_cases h0 : b = 0
    · subst h0; simp [ref20_Gcd_F, G_zero a ha]
    · simp only [ref20_Gcd_D, All, and_true] at h
      have h1 := Int.emod_nonneg a h0
      have := h.2 (by simpa using h0)
      rw [tmod_pos a b ha] at this
      simp only [ref20_Gcd_F]
      rw [show (b == 0) = false by simpa using h0, cond_false, tmod_pos a b ha, ih _ _ hb h1 this.2, G_rec a b ha (by omega)]
theorem Gcd_D : ∀ (k : Nat) (a b : Int), 0 ≤ a → 0 ≤ b → b.toNat = k → ∃ n, S.ref20_Gcd_D n a b := by
  intro k
  induction k using Nat.strongRecOn with
  | _ k ih =>
    intro a b ha hb hk
    by_cases h0 : b = 0
    · subst h0; exact ⟨1, by simp [ref20_Gcd_D]⟩
    · have h1 := Int.emod_nonneg a h0
      have h2 := Int.emod_lt_of_pos a (show 0 < b by omega)
      obtain ⟨n, hn⟩ := ih (a % b).toNat (by omega) b (a % b) hb h1 rfl
      exact ⟨n + 1, by simp only [ref20_Gcd_D, All, and_true, tmod_pos a b ha]; exact ⟨fun _ => trivial, fun _ => ⟨h0, hn⟩⟩⟩
theorem Gcd_pre (a b : Int) (ha : 0 ≤ a) (hb : 0 ≤ b) : S.ref20_Gcd_pre a b := Gcd_D _ a b ha hb rfl
theorem Gcd_eq (a b : Int) (ha : 0 ≤ a) (hb : 0 ≤ b) : S.ref20_Gcd a b = G a b :=
  Gcd_F _ a b ha hb (Classical.epsilon_spec (Gcd_pre a b ha hb))
theorem G_pos (a b : Int) (ha : 0 ≤ a) (hb : 0 ≤ b) : 0 ≤ G a b ∧ (G a b ≤ a ∨ a = 0) ∧ (G a b ≤ b ∨ b = 0) ∧ (G a b = 0 ↔ a = 0 ∧ b = 0) := by
  simp only [G]
  have h1 : 0 < a.toNat → Nat.gcd a.toNat b.toNat ≤ a.toNat := fun h => Nat.le_of_dvd h (Nat.gcd_dvd_left _ _)
  have h2 : 0 < b.toNat → Nat.gcd a.toNat b.toNat ≤ b.toNat := fun h => Nat.le_of_dvd h (Nat.gcd_dvd_right _ _)
  have h3 : Nat.gcd a.toNat b.toNat = 0 ↔ a.toNat = 0 ∧ b.toNat = 0 := Nat.gcd_eq_zero_iff
  refine ⟨by omega, ?_, ?_, ?_⟩
  · by_cases h : a = 0
    · exact .inr h
    · left; have := h1 (by omega); omega
  · by_cases h : b = 0
    · exact .inr h
    · left; have := h2 (by omega); omega
  · constructor
    · intro h; have := h3.1 (by omega); omega
    · rintro ⟨rfl, rfl⟩; rfl
theorem ok_iff (c : S.Cong) : S.Cong.ok c ↔ (0 ≤ c.M ∧ c.M ≤ 18446744073709551615) ∧ (0 ≤ c.R ∧ c.R ≤ 18446744073709551615) := by
  simp only [S.Cong.ok, inr_u64, and_true]
theorem num_i64 (x : Int) : -9223372036854775808 ≤ IntKind.i64.wrap x ∧ IntKind.i64.wrap x ≤ 9223372036854775807 := by rw [IntKind.wrap_i64]; omega
theorem by_eq (c : S.Cong) (g : Int) (hc : S.Cong.ok c) (hg : 0 < g) (hg2 : g ≤ 18446744073709551615) : S.cong_Cong_by c g = (if c.M = 0 then IntKind.i64.wrap c.R % g else c.R % g) := by
  rw [ok_iff] at hc
  simp only [cong_Cong_by, cong_Cong_single, cong_Cong_number, rest_eq _ g (num_i64 _) hg hg2, tmod_pos c.R g hc.2.1]
  rw [cond_eq_if]; simp only [beq_iff_eq]
theorem Of_eq (c : S.Cong) (g : Int) (hc : S.Cong.ok c) (hg : 0 < g) (hg2 : g ≤ 18446744073709551615) : S.ref20_Of c g = (if c.M = 0 then IntKind.i64.wrap c.R % g else c.R % g) := by
  rw [ok_iff] at hc
  simp only [ref20_Of, Rest_eq _ g (num_i64 _) hg hg2, tmod_pos c.R g hc.2.1]
  rw [cond_eq_if]; simp only [beq_iff_eq]
theorem by_pre (c : S.Cong) (g : Int) (hg : g ≠ 0) : S.cong_Cong_by_pre c g := by
  simp only [cong_Cong_by_pre, All, and_true]; exact ⟨fun _ => rest_pre _ _ hg, fun _ => hg⟩
theorem Of_pre (c : S.Cong) (g : Int) (hg : g ≠ 0) : S.ref20_Of_pre c g := by
  simp only [ref20_Of_pre, All, and_true]; exact ⟨fun _ => Rest_pre _ _ hg, fun _ => hg⟩
def has (c : S.Cong) (n : Int) : Bool := decide (mk c.M n = c)
theorem eqb (a b : S.Cong) : ((a.M == b.M) && (a.R == b.R)) = decide (a = b) := by
  rw [Bool.eq_iff_iff]; simp [S.Cong.ext_iff]
theorem Within_eq (a b : S.Cong) (ha : S.Cong.ok a) (hb : S.Cong.ok b) : S.cong_Within a b = S.ref20_Within a b := by
  simp only [cong_Within, ref20_Within, cong_Cong_single]
  by_cases h : b.M = 0
  · rw [show (b.M == 0) = true by simpa using h]; rfl
  · rw [ok_iff] at hb
    rw [by_eq a b.M ha (by omega) hb.1.2, Of_eq a b.M ha (by omega) hb.1.2]
theorem Within_pre (a b : S.Cong) : S.cong_Within_pre a b := by
  simp only [cong_Within_pre, All, and_true, cong_Cong_single]
  refine ⟨fun _ => trivial, fun h => ?_⟩
  have : b.M ≠ 0 := fun e => by rw [e] at h; exact absurd h (by decide)
  exact ⟨this, fun _ => by_pre a b.M this⟩
theorem Right_eq (a : S.Cong) : S.cong_Cong_Right a = S.ref20_Right a := rfl
theorem Right_iff (a : S.Cong) : S.ref20_Right a = true ↔ a.M = 0 ∨ a.R < a.M := by simp [ref20_Right]
theorem Within_self (a : S.Cong) (ha : S.Cong.ok a) (hr : S.ref20_Right a = true) : S.cong_Within a a = true := by
  rw [Right_iff] at hr
  have ha' := (ok_iff a).1 ha
  simp only [cong_Within, cong_Cong_single, eqb]
  by_cases h : a.M = 0
  · simp [h]
  · rw [by_eq a a.M ha (by omega) ha'.1.2, if_neg h, show (a.M == 0) = false from beq_eq_false_iff_ne.2 h, cond_false, tmod_pos _ _ ha'.1.1, Int.emod_self, Int.emod_eq_of_lt ha'.2.1 (by omega)]
    simp
theorem plus_eq (a b m : Int) (ha : 0 ≤ a ∧ a < m) (hb : 0 ≤ b ∧ b < m) (hm : m ≤ 18446744073709551615) : S.cong_plus a b m = (a + b) % m := by
  by_cases h : a + b ≥ 18446744073709551616
  · have e : S.math_bits_Add64 a b 0 = (a + b - 18446744073709551616, 1) := by simp only [math_bits_Add64]; congr 1 <;> omega
    simp only [cong_plus, e, show decide ((1 : Int) > 0) = true from rfl, Bool.true_or, cond_true]
    rw [IntKind.wrap_u64]
    have : (a + b) % m = a + b - m := emod_unique (q := 1) (by omega) (by omega) (by omega)
    omega
  · have e : S.math_bits_Add64 a b 0 = (a + b, 0) := by simp only [math_bits_Add64]; congr 1 <;> omega
    simp only [cong_plus, e, show decide ((0 : Int) > 0) = false from rfl, Bool.false_or]
    by_cases h2 : a + b ≥ m
    · rw [decide_eq_true h2, cond_true, IntWalk.u64_in _ (by omega)]
      exact (emod_unique (q := 1) (by omega) (by omega) (by omega)).symm
    · rw [decide_eq_false h2, cond_false, Int.emod_eq_of_lt (by omega) (by omega)]
theorem plus_pre (a b m : Int) (ha : 0 ≤ a) (hb : 0 ≤ b) : S.cong_plus_pre a b m := by
  simp only [cong_plus_pre, All, and_true, math_bits_Add64_pre]; omega
theorem refminus_eq (a b m : Int) (ha : 0 ≤ a ∧ a < m) (hb : 0 ≤ b ∧ b < m) (hm : m ≤ 18446744073709551615) : S.ref20_minus a b m = (a - b) % m := by
  simp only [ref20_minus]
  by_cases h : a ≥ b
  · rw [decide_eq_true h, cond_true, IntWalk.u64_in _ (by omega), Int.emod_eq_of_lt (by omega) (by omega)]
  · rw [decide_eq_false h, cond_false, IntWalk.u64_in (m - b) (by omega), IntWalk.u64_in _ (by omega)]
    exact (emod_unique (q := -1) (by omega) (by omega) (by omega)).symm
theorem refplus_eq (a b m : Int) (ha : 0 ≤ a ∧ a < m) (hb : 0 ≤ b ∧ b < m) (hm : m ≤ 18446744073709551615) : S.ref20_plus a b m = (a + b) % m := by
  simp only [ref20_plus]
  rw [IntWalk.u64_in (m - b) (by omega)]
  by_cases h : a ≥ m - b
  · rw [decide_eq_true h, cond_true, IntWalk.u64_in _ (by omega)]
    exact (emod_unique (q := 1) (by omega) (by omega) (by omega)).symm
  · rw [decide_eq_false h, cond_false, IntWalk.u64_in _ (by omega), Int.emod_eq_of_lt (by omega) (by omega)]
theorem neg_plus (x y m : Int) (hm : 0 < m) (hx : 0 ≤ x ∧ x < m) (hy : 0 ≤ y ∧ y < m) (hm2 : m ≤ 18446744073709551615) : S.cong_plus x (Int.tmod (IntKind.u64.wrap (m - y)) m) m = (x - y) % m ∧ S.cong_plus_pre x (Int.tmod (IntKind.u64.wrap (m - y)) m) m := by
  rw [IntWalk.u64_in (m - y) (by omega), tmod_pos _ _ (by omega)]
  have h1 := Int.emod_nonneg (m - y) (show m ≠ 0 by omega)
  have h2 := Int.emod_lt_of_pos (m - y) hm
  refine ⟨?_, plus_pre _ _ _ (by omega) h1⟩
  rw [plus_eq _ _ _ hx ⟨h1, h2⟩ hm2, Int.add_emod_emod, show x + (m - y) = x - y + m by omega, Int.add_emod_right]
theorem sub_mod (x n m : Int) : (x - n % m) % m = (x - n) % m := by
  have h := Int.mul_ediv_add_emod n m
  rw [show x - n % m = (x - n) + m * (n / m) by omega, Int.add_mul_emod_self_left]
theorem mod_sub (x n m : Int) : (n % m - x) % m = (n - x) % m := by
  have h := Int.mul_ediv_add_emod n m
  rw [show n - x = (n % m - x) + m * (n / m) by omega, Int.add_mul_emod_self_left]
theorem mod_range (x m : Int) (hm : 0 < m) : 0 ≤ x % m ∧ x % m < m := ⟨Int.emod_nonneg x (by omega), Int.emod_lt_of_pos x hm⟩
def least (c : S.Cong) (n : Int) : Int × Bool :=
  if c.M = 0 then (if IntKind.i64.wrap c.R ≥ n then (IntKind.i64.wrap c.R, true) else (0, false))
  else if (c.R - n) % c.M > 9223372036854775807 - n then (0, false) else (n + (c.R - n) % c.M, true)
def greatest (c : S.Cong) (n : Int) : Int × Bool :=
  if c.M = 0 then (if IntKind.i64.wrap c.R ≤ n then (IntKind.i64.wrap c.R, true) else (0, false))
  else if (n - c.R) % c.M > n + 9223372036854775808 then (0, false) else (n - (n - c.R) % c.M, true)
section
variable (c : S.Cong) (n : Int) (hc : S.Cong.ok c) (hr : S.ref20_Right c = true) (hn : inr .i64 n)
include hc hr hn
theorem Least_both : S.cong_Cong_Least c n = least c n ∧ S.ref20_Least c n = least c n ∧ S.cong_Cong_Least_pre c n ∧ S.ref20_Least_pre c n := by
  rw [ok_iff] at hc; rw [Right_iff] at hr; rw [inr_i64] at hn
  by_cases h : c.M = 0
  · have hb : (c.M == 0) = true := by simpa using h
    refine ⟨?_, ?_, ?_, ?_⟩
    · simp only [cong_Cong_Least, cong_Cong_single, cong_Cong_number0, cong_Cong_number, hb, cond_true, least, h, if_true]
      by_cases h2 : IntKind.i64.wrap c.R ≥ n <;> simp [h2]
    · simp only [ref20_Least, hb, cond_true]
      rw [least, if_pos h]
      by_cases h2 : IntKind.i64.wrap c.R ≥ n
      · rw [decide_eq_false (by omega), cond_false, if_pos h2]
      · rw [decide_eq_true (by omega), cond_true, if_neg h2]
    · simp [cong_Cong_Least_pre, cong_Cong_single, hb]
    · simp [ref20_Least_pre, hb]
  · have hb : (c.M == 0) = false := beq_eq_false_iff_ne.2 h
    have hM : 0 < c.M := by omega
    have h1 := mod_range n c.M hM
    obtain ⟨e1, p1⟩ := neg_plus c.R (n % c.M) c.M hM (by omega) h1 (by omega)
    have e2 := refminus_eq c.R (n % c.M) c.M (by omega) h1 (by omega)
    rw [sub_mod] at e1 e2
    have hd := mod_range (c.R - n) c.M hM
    have hw : IntKind.u64.wrap (9223372036854775807 - IntKind.u64.wrap n) = 9223372036854775807 - n := by rw [IntKind.wrap_u64, IntKind.wrap_u64]; omega
    refine ⟨?_, ?_, ?_, ?_⟩
    · simp only [cong_Cong_Least, cong_Cong_single, hb, cond_false, rest_eq n c.M hn hM hc.1.2, e1, hw, least, h, if_false]
      by_cases h2 : (c.R - n) % c.M > 9223372036854775807 - n
      · rw [decide_eq_true h2, cond_true, if_pos h2]
      · rw [decide_eq_false h2, cond_false, if_neg h2]
        congr 1
        rw [IntKind.wrap_i64, IntKind.wrap_i64]; omega
    · simp only [ref20_Least, hb, cond_false, Rest_eq n c.M hn hM hc.1.2, e2, hw, least, h, if_false]
      by_cases h2 : (c.R - n) % c.M > 9223372036854775807 - n
      · rw [decide_eq_true h2, cond_true, if_pos h2]
      · rw [decide_eq_false h2, cond_false, if_neg h2]
        congr 1
        rw [IntKind.wrap_i64, IntKind.wrap_u64, IntKind.wrap_u64]; omega
    · simp only [cong_Cong_Least_pre, cong_Cong_single, hb, All, and_true, rest_eq n c.M hn hM hc.1.2]
      exact ⟨fun h => Bool.noConfusion h, fun _ => ⟨⟨rest_pre _ _ h, h, p1⟩, by simp⟩⟩
    · simp only [ref20_Least_pre, hb, All, and_true]
      exact ⟨fun h => Bool.noConfusion h, fun _ => ⟨Rest_pre _ _ h, by simp⟩⟩
theorem Greatest_both : S.cong_Cong_Greatest c n = greatest c n ∧ S.ref20_Greatest c n = greatest c n ∧ S.cong_Cong_Greatest_pre c n ∧ S.ref20_Greatest_pre c n := by
  rw [ok_iff] at hc; rw [Right_iff] at hr; rw [inr_i64] at hn
  by_cases h : c.M = 0
  · have hb : (c.M == 0) = true := by simpa using h
    refine ⟨?_, ?_, ?_, ?_⟩
    · simp only [cong_Cong_Greatest, cong_Cong_single, cong_Cong_number0, cong_Cong_number, hb, cond_true, greatest, h, if_true]
      by_cases h2 : IntKind.i64.wrap c.R ≤ n <;> simp [h2]
    · simp only [ref20_Greatest, hb, cond_true]
      rw [greatest, if_pos h]
      by_cases h2 : IntKind.i64.wrap c.R ≤ n
      · rw [decide_eq_false (by omega), cond_false, if_pos h2]
      · rw [decide_eq_true (by omega), cond_true, if_neg h2]
    · simp [cong_Cong_Greatest_pre, cong_Cong_single, hb]
    · simp [ref20_Greatest_pre, hb]
  · have hb : (c.M == 0) = false := beq_eq_false_iff_ne.2 h
    have hM : 0 < c.M := by omega
    have h1 := mod_range n c.M hM
    obtain ⟨e1, p1⟩ := neg_plus (n % c.M) c.R c.M hM h1 (by omega) (by omega)
    have e2 := refminus_eq (n % c.M) c.R c.M h1 (by omega) (by omega)
    rw [mod_sub] at e1 e2
    have hd := mod_range (n - c.R) c.M hM
    have hw : IntKind.u64.wrap (IntKind.u64.wrap n + 9223372036854775808) = n + 9223372036854775808 := by rw [IntKind.wrap_u64, IntKind.wrap_u64]; omega
    have hw2 : IntKind.u64.wrap (IntKind.u64.wrap n - 9223372036854775808) = n + 9223372036854775808 := by rw [IntKind.wrap_u64, IntKind.wrap_u64]; omega
    refine ⟨?_, ?_, ?_, ?_⟩
    · simp only [cong_Cong_Greatest, cong_Cong_single, hb, cond_false, rest_eq n c.M hn hM hc.1.2, e1, hw, greatest, h, if_false]
      by_cases h2 : (n - c.R) % c.M > n + 9223372036854775808
      · rw [decide_eq_true h2, cond_true, if_pos h2]
      · rw [decide_eq_false h2, cond_false, if_neg h2]
        congr 1
        rw [IntKind.wrap_i64, IntKind.wrap_i64]; omega
    · simp only [ref20_Greatest, hb, cond_false, Rest_eq n c.M hn hM hc.1.2, e2, hw2, greatest, h, if_false]
      by_cases h2 : (n - c.R) % c.M > n + 9223372036854775808
      · rw [decide_eq_true h2, cond_true, if_pos h2]
      · rw [decide_eq_false h2, cond_false, if_neg h2]
        congr 1
        rw [IntKind.wrap_i64, IntKind.wrap_u64, IntKind.wrap_u64]; omega
    · simp only [cong_Cong_Greatest_pre, cong_Cong_single, hb, All, and_true, rest_eq n c.M hn hM hc.1.2]
      exact ⟨fun h => Bool.noConfusion h, fun _ => ⟨⟨rest_pre _ _ h, h, p1⟩, by simp⟩⟩
    · simp only [ref20_Greatest_pre, hb, All, and_true]
      exact ⟨fun h => Bool.noConfusion h, fun _ => ⟨Rest_pre _ _ h, by simp⟩⟩
end
theorem Mul64_eq (x y : Int) (hx : 0 ≤ x ∧ x ≤ 18446744073709551615) (hy : 0 ≤ y ∧ y ≤ 18446744073709551615) : S.math_bits_Mul64 x y = (x * y / 18446744073709551616, x * y % 18446744073709551616) := by
  have f : ∀ z : Int, Int.fdiv z (2 ^ min (Int.toNat 32) 64) = z / 4294967296 := fun z => by
    rw [show (2 : Int) ^ min (Int.toNat 32) 64 = 4294967296 by decide]; exact Int.fdiv_eq_ediv_of_nonneg _ (by decide)
  have m := mul64_arith x y hx.1 (by omega) hy.1 (by omega)
  simp only [math_bits_Mul64, f, IntKind.wrap_u64]
  rw [and_low32 x hx.1 (by omega), and_low32 y hy.1 (by omega), and_low32 _ (Int.emod_nonneg _ (by decide)) (Int.emod_lt_of_pos _ (by decide)), m]
theorem Div64_small (lo y : Int) (hlo : 0 ≤ lo) (hlo2 : lo ≤ 18446744073709551615) (hy : 0 < y) : S.math_bits_Div64_pre 0 lo y ∧ S.math_bits_Div64 0 lo y = (lo / y, lo % y) := by
  have h1 : (y == 0) = false := beq_eq_false_iff_ne.2 (by omega)
  have h2 : decide (y ≤ 0) = false := by simp; omega
  have h3 : ((0 : Int) == 0) = true := rfl
  refine ⟨?_, ?_⟩
  · simp only [math_bits_Div64_pre, h1, h2, h3, All, and_true]
    exact ⟨fun h => Bool.noConfusion h, fun _ => ⟨fun h => Bool.noConfusion h, fun _ => ⟨fun _ => ⟨by omega, by omega⟩, fun h => Bool.noConfusion h⟩⟩⟩
  · simp only [math_bits_Div64, h3, cond_true]
    rw [tmod_pos _ _ hlo, Int.tdiv_eq_ediv_of_nonneg hlo, IntWalk.u64_in]
    have := Int.ediv_nonneg hlo (Int.le_of_lt hy)
    have := Int.ediv_le_self y hlo
    omega
theorem Add_pre (a b : S.Cong) (ha : S.Cong.ok a) (hb : S.Cong.ok b) : S.cong_Add_pre a b := by
  have ha' := (ok_iff a).1 ha; have hb' := (ok_iff b).1 hb
  have g0 := G_pos a.M b.M ha'.1.1 hb'.1.1
  simp only [cong_Add_pre, gcd_eq _ _ ha'.1.1 hb'.1.1, All, and_true]
  refine ⟨gcd_pre _ _ ha'.1.1 hb'.1.1, fun _ => trivial, fun h => ?_⟩
  have hg : G a.M b.M ≠ 0 := fun e => by rw [e] at h; exact absurd h (by decide)
  have hg2 : 0 < G a.M b.M ∧ G a.M b.M ≤ 18446744073709551615 := by omega
  refine ⟨by_pre _ _ hg, by_pre _ _ hg, ?_⟩
  rw [by_eq a _ ha hg2.1 hg2.2, by_eq b _ hb hg2.1 hg2.2]
  refine plus_pre _ _ _ ?_ ?_ <;> split <;> exact Int.emod_nonneg _ hg
theorem w1 : S.cong_Join (S.cong_Const 3) (S.cong_Const 11) = ⟨8, 3⟩ := by
  simp (disch := decide +kernel) only [cong_Join, gcd_eq]; decide +kernel
theorem w2 : S.cong_Join ⟨8, 3⟩ (S.cong_Const 4) = S.cong_Top := by
  simp (disch := decide +kernel) only [cong_Join, gcd_eq]; decide +kernel
theorem w3 : S.cong_Meet (S.cong_Make 4 1) (S.cong_Make 8 3) = (⟨0, 0⟩, false) := by
  simp (disch := decide +kernel) only [cong_Meet, gcd_eq]; decide +kernel
theorem w4 : S.cong_Meet (S.cong_Make 2 1) (S.cong_Make 6 3) = (⟨6, 3⟩, true) := by
  simp (disch := decide +kernel) only [cong_Meet, gcd_eq]; decide +kernel
theorem div_facts (N Y : Int) (hY : 0 < Y) : N / Y * Y ≤ N ∧ N < N / Y * Y + Y := by
  have h1 := Int.mul_ediv_add_emod N Y
  have h2 := Int.emod_nonneg N (show Y ≠ 0 by omega)
  have h3 := Int.emod_lt_of_pos N hY
  rw [Int.mul_comm] at h1
  omega
section
variable (yn1 yn0 un u : Int) (h1 : 2147483648 ≤ yn1) (h1' : yn1 < 4294967296) (h0 : 0 ≤ yn0 ∧ yn0 < 4294967296) (hu : 0 ≤ u) (huy : u < yn1 * 4294967296 + yn0) (hun : 0 ≤ un ∧ un < 4294967296)
def DInv (yn1 yn0 un u q r : Int) : Prop := q * yn1 + r = u ∧ 0 ≤ r ∧ r < 4294967296 ∧ (u * 4294967296 + un) / (yn1 * 4294967296 + yn0) ≤ q ∧ 0 ≤ q ∧ q ≤ 4294967297
include h1 h1' h0 hu huy hun
theorem q_small : 0 ≤ (u * 4294967296 + un) / (yn1 * 4294967296 + yn0) ∧ (u * 4294967296 + un) / (yn1 * 4294967296 + yn0) < 4294967296 := by
  refine ⟨Int.ediv_nonneg (by omega) (by omega), ?_⟩
  rw [Int.ediv_lt_iff_lt_mul (by omega)]
  omega
theorem DInv_init : DInv yn1 yn0 un u (u / yn1) (u - u / yn1 * yn1) := by
  obtain ⟨a1, a2⟩ := div_facts u yn1 (by omega)
  have a3 := Int.ediv_nonneg hu (show 0 ≤ yn1 by omega)
  have hq : u / yn1 < 4294967298 := by
    rw [Int.ediv_lt_iff_lt_mul (by omega)]; omega
  have hQ : (u * 4294967296 + un) / (yn1 * 4294967296 + yn0) ≤ u / yn1 := by
    obtain ⟨b1, _⟩ := div_facts (u * 4294967296 + un) (yn1 * 4294967296 + yn0) (by omega)
    have b0 := (q_small yn1 yn0 un u h1 h1' h0 hu huy hun).1
    generalize (u * 4294967296 + un) / (yn1 * 4294967296 + yn0) = Q at *
    rw [Int.le_ediv_iff_mul_le (by omega)]
    have c1 := Int.mul_nonneg b0 h0.1
    rw [Int.mul_add, ← Int.mul_assoc] at b1
    omega
  exact ⟨by omega, by omega, by omega, hQ, a3, by omega⟩
theorem D_test (q r : Int) (h : DInv yn1 yn0 un u q r) : (q ≥ 4294967296 ∨ q * yn0 > 4294967296 * r + un) ↔ (u * 4294967296 + un) / (yn1 * 4294967296 + yn0) < q := by
  obtain ⟨i1, i2, i3, i4, i5, i6⟩ := h
  have b := q_small yn1 yn0 un u h1 h1' h0 hu huy hun
  have key : q ≤ (u * 4294967296 + un) / (yn1 * 4294967296 + yn0) ↔ q * yn0 ≤ 4294967296 * r + un := by
    rw [Int.le_ediv_iff_mul_le (by omega), Int.mul_add, ← Int.mul_assoc]
    omega
  omega
theorem D_next (q r : Int) (h : DInv yn1 yn0 un u q r) (ht : (u * 4294967296 + un) / (yn1 * 4294967296 + yn0) < q) :
    (r + yn1 < 4294967296 → DInv yn1 yn0 un u (q - 1) (r + yn1)) ∧ (4294967296 ≤ r + yn1 → q - 1 = (u * 4294967296 + un) / (yn1 * 4294967296 + yn0)) := by
  obtain ⟨i1, i2, i3, i4, i5, i6⟩ := h
  have b := q_small yn1 yn0 un u h1 h1' h0 hu huy hun
  have e : (q - 1) * yn1 = q * yn1 - yn1 := by rw [Int.sub_mul, Int.one_mul]
  refine ⟨fun hr => ⟨by omega, by omega, hr, by omega, by omega, by omega⟩, fun hr => ?_⟩
  have : q - 1 ≤ (u * 4294967296 + un) / (yn1 * 4294967296 + yn0) := by
    rw [Int.le_ediv_iff_mul_le (by omega), Int.mul_add, ← Int.mul_assoc, e]
    have : (q - 1) * yn0 ≤ 4294967296 * yn0 := Int.mul_le_mul_of_nonneg_right (by omega) h0.1
    omega
  omega
theorem D_wraps (q r : Int) (h : DInv yn1 yn0 un u q r) : IntKind.u64.wrap (q * yn0) = q * yn0 ∧ IntKind.u64.wrap (IntKind.u64.wrap (4294967296 * r) + un) = 4294967296 * r + un ∧ IntKind.u64.wrap (r + yn1) = r + yn1 := by
  obtain ⟨i1, i2, i3, i4, i5, i6⟩ := h
  have c1 := Int.mul_nonneg i5 h0.1
  have c2 : q * yn0 ≤ 4294967297 * yn0 := Int.mul_le_mul_of_nonneg_right i6 h0.1
  refine ⟨IntWalk.u64_in _ (by omega), ?_, IntWalk.u64_in _ (by omega)⟩
  rw [IntWalk.u64_in (4294967296 * r) (by omega), IntWalk.u64_in _ (by omega)]
theorem digit0 : ∃ y, Runs math_bits_Div64_L0_step math_bits_Div64_L0_vcs ⟨yn1, yn0, un, u / yn1, u - u / yn1 * yn1⟩ y ∧ (y.yn1 = yn1 ∧ y.yn0 = yn0 ∧ y.un1 = un ∧ y.q1 = (u * 4294967296 + un) / (yn1 * 4294967296 + yn0)) := by
  refine Runs.of (step := math_bits_Div64_L0_step) (vcs := math_bits_Div64_L0_vcs) (fun x => x.yn1 = yn1 ∧ x.yn0 = yn0 ∧ x.un1 = un ∧ DInv yn1 yn0 un u x.q1 x.rhat) (fun x => x.q1.toNat) (fun y => y.yn1 = yn1 ∧ y.yn0 = yn0 ∧ y.un1 = un ∧ y.q1 = (u * 4294967296 + un) / (yn1 * 4294967296 + yn0)) ?_ _ ⟨rfl, rfl, rfl, DInv_init yn1 yn0 un u h1 h1' h0 hu huy hun⟩
  rintro ⟨a, b, c, q, r⟩ ⟨rfl, rfl, rfl, hI⟩
  dsimp only at *
  have b0 := (q_small a b c u h1 h1' h0 hu huy hun).1
  obtain ⟨w1, w2, w3⟩ := D_wraps a b c u h1 h1' h0 hu huy hun q r hI
  have ht := D_test a b c u h1 h1' h0 hu huy hun q r hI
  refine ⟨by simp [math_bits_Div64_L0_vcs], ?_⟩
  simp only [math_bits_Div64_L0_step, w1, w2, w3]
  by_cases hT : (u * 4294967296 + c) / (a * 4294967296 + b) < q
  · have e1 : (decide (q ≥ 4294967296) || decide (q * b > 4294967296 * r + c)) = true := by simpa using ht.2 hT
    obtain ⟨n1, n2⟩ := D_next a b c u h1 h1' h0 hu huy hun q r hI hT
    have hq := hI.2.2.2.2.2
    have e2 : IntKind.u64.wrap (q - 1) = q - 1 := IntWalk.u64_in _ (by omega)
    rw [e1, cond_true, e2]
    by_cases hr : r + a ≥ 4294967296
    · rw [decide_eq_true hr, cond_true]; exact ⟨rfl, rfl, rfl, n2 hr⟩
    · rw [decide_eq_false hr, cond_false]; exact ⟨⟨rfl, rfl, rfl, n1 (by omega)⟩, by dsimp only; omega⟩
  · have e1 : (decide (q ≥ 4294967296) || decide (q * b > 4294967296 * r + c)) = false := by
      cases h : (decide (q ≥ 4294967296) || decide (q * b > 4294967296 * r + c)) with
      | false => rfl
      | true => exact absurd (ht.1 (by simpa using h)) hT
    rw [e1, cond_false]
    exact ⟨rfl, rfl, rfl, Int.le_antisymm (show q ≤ _ by omega) hI.2.2.2.1⟩
theorem digit2 : ∃ y, Runs math_bits_Div64_L2_step math_bits_Div64_L2_vcs ⟨yn1, yn0, un, u - u / yn1 * yn1, u / yn1⟩ y ∧ (y.yn1 = yn1 ∧ y.yn0 = yn0 ∧ y.un0 = un ∧ y.q0 = (u * 4294967296 + un) / (yn1 * 4294967296 + yn0)) := by
  refine Runs.of (step := math_bits_Div64_L2_step) (vcs := math_bits_Div64_L2_vcs) (fun x => x.yn1 = yn1 ∧ x.yn0 = yn0 ∧ x.un0 = un ∧ DInv yn1 yn0 un u x.q0 x.rhat) (fun x => x.q0.toNat) (fun y => y.yn1 = yn1 ∧ y.yn0 = yn0 ∧ y.un0 = un ∧ y.q0 = (u * 4294967296 + un) / (yn1 * 4294967296 + yn0)) ?_ _ ⟨rfl, rfl, rfl, DInv_init yn1 yn0 un u h1 h1' h0 hu huy hun⟩
  rintro ⟨a, b, c, r, q⟩ ⟨rfl, rfl, rfl, hI⟩
  dsimp only at *
  have b0 := (q_small a b c u h1 h1' h0 hu huy hun).1
  obtain ⟨w1, w2, w3⟩ := D_wraps a b c u h1 h1' h0 hu huy hun q r hI
  have ht := D_test a b c u h1 h1' h0 hu huy hun q r hI
  refine ⟨by simp [math_bits_Div64_L2_vcs], ?_⟩
  simp only [math_bits_Div64_L2_step, w1, w2, w3]
  by_cases hT : (u * 4294967296 + c) / (a * 4294967296 + b) < q
  · have e1 : (decide (q ≥ 4294967296) || decide (q * b > 4294967296 * r + c)) = true := by simpa using ht.2 hT
    obtain ⟨n1, n2⟩ := D_next a b c u h1 h1' h0 hu huy hun q r hI hT
    have hq := hI.2.2.2.2.2
    have e2 : IntKind.u64.wrap (q - 1) = q - 1 := IntWalk.u64_in _ (by omega)
    rw [e1, cond_true, e2]
    by_cases hr : r + a ≥ 4294967296
    · rw [decide_eq_true hr, cond_true]; exact ⟨rfl, rfl, rfl, n2 hr⟩
    · rw [decide_eq_false hr, cond_false]; exact ⟨⟨rfl, rfl, rfl, n1 (by omega)⟩, by dsimp only; omega⟩
  · have e1 : (decide (q ≥ 4294967296) || decide (q * b > 4294967296 * r + c)) = false := by
      cases h : (decide (q ≥ 4294967296) || decide (q * b > 4294967296 * r + c)) with
      | false => rfl
      | true => exact absurd (ht.1 (by simpa using h)) hT
    rw [e1, cond_false]
    exact ⟨rfl, rfl, rfl, Int.le_antisymm (show q ≤ _ by omega) hI.2.2.2.1⟩
end
def bl (z : Int) : Int := (bitLen z.toNat : Nat)
theorem bl_step (z : Int) (k : Nat) (m : Int) (hm : m = 2 ^ k) (hz : m ≤ z) : bl z = k + bl (z / m) := by
  have hp : (0 : Int) < 2 ^ k := Int.pow_pos (by decide)
  obtain ⟨n, rfl⟩ := Int.eq_ofNat_of_zero_le (show 0 ≤ z by omega)
  subst hm
  have e : ((n : Int) / 2 ^ k).toNat = n / 2 ^ k := by
    have : ((2 : Int) ^ k) = ((2 ^ k : Nat) : Int) := by simp
    rw [this, ← Int.natCast_ediv]; rfl
  simp only [bl, e, Int.toNat_natCast]
  have h0 : n / 2 ^ k ≠ 0 := by
    have : 2 ^ k ≤ n := by
      have h2 : ((2 ^ k : Nat) : Int) ≤ (n : Int) := by simpa using hz
      exact Int.ofNat_le.1 h2
    have := Nat.div_pos this (Nat.two_pow_pos k)
    omega
  rw [bitLen_shift n k h0]; simp
theorem tab_get : ∀ i : Nat, i < 256 → ((⟨#[0, 1, 2, 2, 3, 3, 3, 3, 4, 4, 4, 4, 4, 4, 4, 4, 5, 5, 5, 5, 5, 5, 5, 5, 5, 5, 5, 5, 5, 5, 5, 5, 6, 6, 6, 6, 6, 6, 6, 6, 6, 6, 6, 6, 6, 6, 6, 6, 6, 6, 6, 6, 6, 6, 6, 6, 6, 6, 6, 6, 6, 6, 6, 6, 7, 7, 7, 7, 7, 7, 7, 7, 7, 7, 7, 7, 7, 7, 7, 7, 7, 7, 7, 7, 7, 7, 7, 7, 7, 7, 7, 7, 7, 7, 7, 7, 7, 7, 7, 7, 7, 7, 7, 7, 7, 7, 7, 7, 7, 7, 7, 7, 7, 7, 7, 7, 7, 7, 7, 7, 7, 7, 7, 7, 7, 7, 7, 7, 8, 8, 8, 8, 8, 8, 8, 8, 8, 8, 8, 8, 8, 8, 8, 8, 8, 8, 8, 8, 8, 8, 8, 8, 8, 8, 8, 8, 8, 8, 8, 8, 8, 8, 8, 8, 8, 8, 8, 8, 8, 8, 8, 8, 8, 8, 8, 8, 8, 8, 8, 8, 8, 8, 8, 8, 8, 8, 8, 8, 8, 8, 8, 8, 8, 8, 8, 8, 8, 8, 8, 8, 8, 8, 8, 8, 8, 8, 8, 8, 8, 8, 8, 8, 8, 8, 8, 8, 8, 8, 8, 8, 8, 8, 8, 8, 8, 8, 8, 8, 8, 8, 8, 8, 8, 8, 8, 8, 8, 8, 8, 8, 8, 8, 8, 8, 8, 8, 8, 8, 8, 8, 8, 8, 8, 8, 8, 8]⟩ : ByteArray).data.toList.getD i 0).toNat = bitLen i := by
  have : (List.range 256).all (fun i => ((⟨#[0, 1, 2, 2, 3, 3, 3, 3, 4, 4, 4, 4, 4, 4, 4, 4, 5, 5, 5, 5, 5, 5, 5, 5, 5, 5, 5, 5, 5, 5, 5, 5, 6, 6, 6, 6, 6, 6, 6, 6, 6, 6, 6, 6, 6, 6, 6, 6, 6, 6, 6, 6, 6, 6, 6, 6, 6, 6, 6, 6, 6, 6, 6, 6, 7, 7, 7, 7, 7, 7, 7, 7, 7, 7, 7, 7, 7, 7, 7, 7, 7, 7, 7, 7, 7, 7, 7, 7, 7, 7, 7, 7, 7, 7, 7, 7, 7, 7, 7, 7, 7, 7, 7, 7, 7, 7, 7, 7, 7, 7, 7, 7, 7, 7, 7, 7, 7, 7, 7, 7, 7, 7, 7, 7, 7, 7, 7, 7, 8, 8, 8, 8, 8, 8, 8, 8, 8, 8, 8, 8, 8, 8, 8, 8, 8, 8, 8, 8, 8, 8, 8, 8, 8, 8, 8, 8, 8, 8, 8, 8, 8, 8, 8, 8, 8, 8, 8, 8, 8, 8, 8, 8, 8, 8, 8, 8, 8, 8, 8, 8, 8, 8, 8, 8, 8, 8, 8, 8, 8, 8, 8, 8, 8, 8, 8, 8, 8, 8, 8, 8, 8, 8, 8, 8, 8, 8, 8, 8, 8, 8, 8, 8, 8, 8, 8, 8, 8, 8, 8, 8, 8, 8, 8, 8, 8, 8, 8, 8, 8, 8, 8, 8, 8, 8, 8, 8, 8, 8, 8, 8, 8, 8, 8, 8, 8, 8, 8, 8, 8, 8, 8, 8, 8, 8, 8, 8]⟩ : ByteArray).data.toList.getD i 0).toNat == bitLen i) = true := by decide +kernel
  intro i hi
  have := List.all_eq_true.1 this i (List.mem_range.2 hi)
  exact beq_iff_eq.1 this
set_option maxRecDepth 100000 in
theorem bl_tab (z : Int) (h0 : 0 ≤ z) (h1 : z < 256) : IntKind.i64.wrap (((⟨#[0, 1, 2, 2, 3, 3, 3, 3, 4, 4, 4, 4, 4, 4, 4, 4, 5, 5, 5, 5, 5, 5, 5, 5, 5, 5, 5, 5, 5, 5, 5, 5, 6, 6, 6, 6, 6, 6, 6, 6, 6, 6, 6, 6, 6, 6, 6, 6, 6, 6, 6, 6, 6, 6, 6, 6, 6, 6, 6, 6, 6, 6, 6, 6, 7, 7, 7, 7, 7, 7, 7, 7, 7, 7, 7, 7, 7, 7, 7, 7, 7, 7, 7, 7, 7, 7, 7, 7, 7, 7, 7, 7, 7, 7, 7, 7, 7, 7, 7, 7, 7, 7, 7, 7, 7, 7, 7, 7, 7, 7, 7, 7, 7, 7, 7, 7, 7, 7, 7, 7, 7, 7, 7, 7, 7, 7, 7, 7, 8, 8, 8, 8, 8, 8, 8, 8, 8, 8, 8, 8, 8, 8, 8, 8, 8, 8, 8, 8, 8, 8, 8, 8, 8, 8, 8, 8, 8, 8, 8, 8, 8, 8, 8, 8, 8, 8, 8, 8, 8, 8, 8, 8, 8, 8, 8, 8, 8, 8, 8, 8, 8, 8, 8, 8, 8, 8, 8, 8, 8, 8, 8, 8, 8, 8, 8, 8, 8, 8, 8, 8, 8, 8, 8, 8, 8, 8, 8, 8, 8, 8, 8, 8, 8, 8, 8, 8, 8, 8, 8, 8, 8, 8, 8, 8, 8, 8, 8, 8, 8, 8, 8, 8, 8, 8, 8, 8, 8, 8, 8, 8, 8, 8, 8, 8, 8, 8, 8, 8, 8, 8, 8, 8, 8, 8, 8, 8]⟩ : ByteArray).data.toList.getD (Int.toNat (IntKind.u8.wrap z)) 0).toNat : Int) = bl z ∧ bl z ≤ 8 ∧ 0 ≤ bl z := by
  have h2 := bitLen_le8 z.toNat (by omega)
  rw [IntWalk.u8_in z (by omega), tab_get z.toNat (by omega)]
  refine ⟨by rw [IntWalk.i64_in _ (by omega)]; rfl, ?_, ?_⟩ <;> simp only [bl] <;> omega
theorem sh (z : Int) (k : Nat) (m : Int) (hk : (2 : Int) ^ min (Int.toNat k) 64 = m) (hm : 0 < m) : Int.fdiv z (2 ^ min (Int.toNat k) 64) = z / m := by
  rw [hk]; exact Int.fdiv_eq_ediv_of_nonneg _ (Int.le_of_lt hm)
set_option maxRecDepth 100000 in
theorem Len64_both (x : Int) (h0 : 0 ≤ x) (h1 : x ≤ 18446744073709551615) : S.math_bits_Len64_pre x ∧ S.math_bits_Len64 x = bl x := by
  have f32 : ∀ z : Int, Int.fdiv z (2 ^ min (Int.toNat 32) 64) = z / 4294967296 := fun z => sh z 32 _ (by decide) (by decide)
  have f16 : ∀ z : Int, Int.fdiv z (2 ^ min (Int.toNat 16) 64) = z / 65536 := fun z => sh z 16 _ (by decide) (by decide)
  have f8 : ∀ z : Int, Int.fdiv z (2 ^ min (Int.toNat 8) 64) = z / 256 := fun z => sh z 8 _ (by decide) (by decide)
  have key : ∀ (x3 n3 : Int), 0 ≤ x3 → x3 < 256 → 0 ≤ n3 → n3 ≤ 64 → bl x = n3 + bl x3 →
      (0 ≤ IntKind.u8.wrap x3 ∧ IntKind.u8.wrap x3 < (((⟨#[0, 1, 2, 2, 3, 3, 3, 3, 4, 4, 4, 4, 4, 4, 4, 4, 5, 5, 5, 5, 5, 5, 5, 5, 5, 5, 5, 5, 5, 5, 5, 5, 6, 6, 6, 6, 6, 6, 6, 6, 6, 6, 6, 6, 6, 6, 6, 6, 6, 6, 6, 6, 6, 6, 6, 6, 6, 6, 6, 6, 6, 6, 6, 6, 7, 7, 7, 7, 7, 7, 7, 7, 7, 7, 7, 7, 7, 7, 7, 7, 7, 7, 7, 7, 7, 7, 7, 7, 7, 7, 7, 7, 7, 7, 7, 7, 7, 7, 7, 7, 7, 7, 7, 7, 7, 7, 7, 7, 7, 7, 7, 7, 7, 7, 7, 7, 7, 7, 7, 7, 7, 7, 7, 7, 7, 7, 7, 7, 8, 8, 8, 8, 8, 8, 8, 8, 8, 8, 8, 8, 8, 8, 8, 8, 8, 8, 8, 8, 8, 8, 8, 8, 8, 8, 8, 8, 8, 8, 8, 8, 8, 8, 8, 8, 8, 8, 8, 8, 8, 8, 8, 8, 8, 8, 8, 8, 8, 8, 8, 8, 8, 8, 8, 8, 8, 8, 8, 8, 8, 8, 8, 8, 8, 8, 8, 8, 8, 8, 8, 8, 8, 8, 8, 8, 8, 8, 8, 8, 8, 8, 8, 8, 8, 8, 8, 8, 8, 8, 8, 8, 8, 8, 8, 8, 8, 8, 8, 8, 8, 8, 8, 8, 8, 8, 8, 8, 8, 8, 8, 8, 8, 8, 8, 8, 8, 8, 8, 8, 8, 8, 8, 8, 8, 8, 8, 8]⟩ : ByteArray)).size : Int)) ∧ IntKind.i64.wrap (n3 + IntKind.i64.wrap (((⟨#[0, 1, 2, 2, 3, 3, 3, 3, 4, 4, 4, 4, 4, 4, 4, 4, 5, 5, 5, 5, 5, 5, 5, 5, 5, 5, 5, 5, 5, 5, 5, 5, 6, 6, 6, 6, 6, 6, 6, 6, 6, 6, 6, 6, 6, 6, 6, 6, 6, 6, 6, 6, 6, 6, 6, 6, 6, 6, 6, 6, 6, 6, 6, 6, 7, 7, 7, 7, 7, 7, 7, 7, 7, 7, 7, 7, 7, 7, 7, 7, 7, 7, 7, 7, 7, 7, 7, 7, 7, 7, 7, 7, 7, 7, 7, 7, 7, 7, 7, 7, 7, 7, 7, 7, 7, 7, 7, 7, 7, 7, 7, 7, 7, 7, 7, 7, 7, 7, 7, 7, 7, 7, 7, 7, 7, 7, 7, 7, 8, 8, 8, 8, 8, 8, 8, 8, 8, 8, 8, 8, 8, 8, 8, 8, 8, 8, 8, 8, 8, 8, 8, 8, 8, 8, 8, 8, 8, 8, 8, 8, 8, 8, 8, 8, 8, 8, 8, 8, 8, 8, 8, 8, 8, 8, 8, 8, 8, 8, 8, 8, 8, 8, 8, 8, 8, 8, 8, 8, 8, 8, 8, 8, 8, 8, 8, 8, 8, 8, 8, 8, 8, 8, 8, 8, 8, 8, 8, 8, 8, 8, 8, 8, 8, 8, 8, 8, 8, 8, 8, 8, 8, 8, 8, 8, 8, 8, 8, 8, 8, 8, 8, 8, 8, 8, 8, 8, 8, 8, 8, 8, 8, 8, 8, 8, 8, 8, 8, 8, 8, 8, 8, 8, 8, 8, 8, 8]⟩ : ByteArray).data.toList.getD (Int.toNat (IntKind.u8.wrap x3)) 0).toNat : Int)) = bl x := by
    intro x3 n3 a0 a1 b0 b1 hb
    obtain ⟨t1, t2, t3⟩ := bl_tab x3 a0 a1
    have hs : ((⟨#[0, 1, 2, 2, 3, 3, 3, 3, 4, 4, 4, 4, 4, 4, 4, 4, 5, 5, 5, 5, 5, 5, 5, 5, 5, 5, 5, 5, 5, 5, 5, 5, 6, 6, 6, 6, 6, 6, 6, 6, 6, 6, 6, 6, 6, 6, 6, 6, 6, 6, 6, 6, 6, 6, 6, 6, 6, 6, 6, 6, 6, 6, 6, 6, 7, 7, 7, 7, 7, 7, 7, 7, 7, 7, 7, 7, 7, 7, 7, 7, 7, 7, 7, 7, 7, 7, 7, 7, 7, 7, 7, 7, 7, 7, 7, 7, 7, 7, 7, 7, 7, 7, 7, 7, 7, 7, 7, 7, 7, 7, 7, 7, 7, 7, 7, 7, 7, 7, 7, 7, 7, 7, 7, 7, 7, 7, 7, 7, 8, 8, 8, 8, 8, 8, 8, 8, 8, 8, 8, 8, 8, 8, 8, 8, 8, 8, 8, 8, 8, 8, 8, 8, 8, 8, 8, 8, 8, 8, 8, 8, 8, 8, 8, 8, 8, 8, 8, 8, 8, 8, 8, 8, 8, 8, 8, 8, 8, 8, 8, 8, 8, 8, 8, 8, 8, 8, 8, 8, 8, 8, 8, 8, 8, 8, 8, 8, 8, 8, 8, 8, 8, 8, 8, 8, 8, 8, 8, 8, 8, 8, 8, 8, 8, 8, 8, 8, 8, 8, 8, 8, 8, 8, 8, 8, 8, 8, 8, 8, 8, 8, 8, 8, 8, 8, 8, 8, 8, 8, 8, 8, 8, 8, 8, 8, 8, 8, 8, 8, 8, 8, 8, 8, 8, 8, 8, 8]⟩ : ByteArray)).size = 256 := by decide +kernel
    refine ⟨?_, by rw [t1, IntWalk.i64_in _ (by omega)]; omega⟩
    rw [hs, IntWalk.u8_in x3 (by omega)]; omega
  have w : ∀ n : Int, 0 ≤ n → n ≤ 64 → IntKind.i64.wrap n = n := fun n a b => IntWalk.i64_in _ (by omega)
  simp only [math_bits_Len64_pre, math_bits_Len64, f32, f16, f8, All, and_true]
  have s1 : x ≥ 4294967296 → bl x = 32 + bl (x / 4294967296) := fun h => bl_step x 32 _ (by decide) h
  by_cases c1 : x ≥ 4294967296
  · have s2 : x / 4294967296 ≥ 65536 → bl (x / 4294967296) = 16 + bl (x / 4294967296 / 65536) := fun h => bl_step _ 16 _ (by decide) h
    have e1 := s1 c1
    simp only [decide_eq_true c1, cond_true]
    by_cases c2 : x / 4294967296 ≥ 65536
    · have e2 := s2 c2
      simp only [decide_eq_true c2, cond_true]
      by_cases c3 : x / 4294967296 / 65536 ≥ 256
      · have e3 := bl_step _ 8 256 (by decide) c3
        simp only [decide_eq_true c3, cond_true, w (32 + 16) (by decide) (by decide), w (32 + 16 + 8) (by decide) (by decide)]
        exact key _ _ (by omega) (by omega) (by decide) (by decide) (by omega)
      · simp only [decide_eq_false c3, cond_false, w (32 + 16) (by decide) (by decide)]
        exact key _ _ (by omega) (by omega) (by decide) (by decide) (by omega)
    · simp only [decide_eq_false c2, cond_false]
      by_cases c3 : x / 4294967296 ≥ 256
      · have e3 := bl_step _ 8 256 (by decide) c3
        simp only [decide_eq_true c3, cond_true, w (32 + 8) (by decide) (by decide)]
        exact key _ _ (by omega) (by omega) (by decide) (by decide) (by omega)
      · simp only [decide_eq_false c3, cond_false]
        exact key _ _ (by omega) (by omega) (by decide) (by decide) (by omega)
  · simp only [decide_eq_false c1, cond_false]
    by_cases c2 : x ≥ 65536
    · have e2 := bl_step _ 16 65536 (by decide) c2
      simp only [decide_eq_true c2, cond_true]
      by_cases c3 : x / 65536 ≥ 256
      · have e3 := bl_step _ 8 256 (by decide) c3
        simp only [decide_eq_true c3, cond_true, w (0 + 16) (by decide) (by decide), w (0 + 16 + 8) (by decide) (by decide)]
        exact key _ _ (by omega) (by omega) (by decide) (by decide) (by omega)
      · simp only [decide_eq_false c3, cond_false, w (0 + 16) (by decide) (by decide)]
        exact key _ _ (by omega) (by omega) (by decide) (by decide) (by omega)
    · simp only [decide_eq_false c2, cond_false]
      by_cases c3 : x ≥ 256
      · have e3 := bl_step _ 8 256 (by decide) c3
        simp only [decide_eq_true c3, cond_true, w (0 + 8) (by decide) (by decide)]
        exact key _ _ (by omega) (by omega) (by decide) (by decide) (by omega)
      · simp only [decide_eq_false c3, cond_false]
        exact key _ _ (by omega) (by omega) (by decide) (by decide) (by omega)
theorem or_add (a b : Int) (k : Nat) (c : Int) (ha : a = 2 ^ k * c) (hc : 0 ≤ c) (ha2 : a < 18446744073709551616) (hb : 0 ≤ b) (hb2 : b < 2 ^ k) (hb3 : b < 18446744073709551616) : bits .or .u64 a b = a + b := by
  have hp : (0 : Int) < 2 ^ k := Int.pow_pos (by decide)
  have ha0 : 0 ≤ a := by rw [ha]; exact Int.mul_nonneg (Int.le_of_lt hp) hc
  rw [u64_or a b ha0 ha2 hb hb3]
  obtain ⟨C, rfl⟩ := Int.eq_ofNat_of_zero_le hc
  obtain ⟨B, rfl⟩ := Int.eq_ofNat_of_zero_le hb
  have e : a = ((2 ^ k * C : Nat) : Int) := by rw [ha]; simp
  have hB : B < 2 ^ k := by
    have : (B : Int) < ((2 ^ k : Nat) : Int) := by simpa using hb2
    exact Int.ofNat_lt.1 this
  rw [e, Int.toNat_natCast, Int.toNat_natCast, ← Nat.two_pow_add_eq_or_of_lt hB C]
  simp
theorem shift_facts (y : Int) (h0 : 0 < y) (h1 : y ≤ 18446744073709551615) : 0 ≤ 64 - bl y ∧ 64 - bl y ≤ 63 ∧ ∃ k j : Nat, 64 - bl y = k ∧ bl y = j ∧ k + j = 64 ∧ 9223372036854775808 ≤ y * 2 ^ k ∧ y * 2 ^ k < 18446744073709551616 := by
  obtain ⟨Y, rfl⟩ := Int.eq_ofNat_of_zero_le (Int.le_of_lt h0)
  obtain ⟨s1, s2⟩ := bitLen_spec Y
  have s2 := s2 (by omega)
  have hb : bitLen Y ≤ 64 := by
    rcases Nat.lt_or_ge 64 (bitLen Y) with h | h
    · have := Nat.pow_le_pow_right (n := 2) (by decide) (show 64 ≤ bitLen Y - 1 by omega)
      omega
    · exact h
  have hb1 : 1 ≤ bitLen Y := by
    rcases Nat.eq_zero_or_pos (bitLen Y) with h | h
    · rw [h] at s1; omega
    · exact h
  have e : bl (Y : Int) = (bitLen Y : Int) := by simp [bl]
  refine ⟨by omega, by omega, 64 - bitLen Y, bitLen Y, by omega, e, by omega, ?_, ?_⟩
  · have h2 : 2 ^ (bitLen Y - 1) * 2 ^ (64 - bitLen Y) ≤ Y * 2 ^ (64 - bitLen Y) := Nat.mul_le_mul_right _ s2
    rw [← Nat.pow_add, show bitLen Y - 1 + (64 - bitLen Y) = 63 by omega] at h2
    have : ((2 ^ 63 : Nat) : Int) ≤ ((Y * 2 ^ (64 - bitLen Y) : Nat) : Int) := Int.ofNat_le.2 h2
    simpa using this
  · have h2 : Y * 2 ^ (64 - bitLen Y) < 2 ^ bitLen Y * 2 ^ (64 - bitLen Y) := Nat.mul_lt_mul_of_pos_right s1 (Nat.two_pow_pos _)
    rw [← Nat.pow_add, show bitLen Y + (64 - bitLen Y) = 64 by omega] at h2
    have : ((Y * 2 ^ (64 - bitLen Y) : Nat) : Int) < ((2 ^ 64 : Nat) : Int) := Int.ofNat_lt.2 h2
    simpa using this
theorem Div64_eq (hi lo y : Int) (h0 : 0 < hi) (hy : hi < y) (hy2 : y ≤ 18446744073709551615) (hl : 0 ≤ lo) (hl2 : lo ≤ 18446744073709551615) :
    S.math_bits_Div64_pre hi lo y ∧ S.math_bits_Div64 hi lo y = ((hi * 18446744073709551616 + lo) / y, (hi * 18446744073709551616 + lo) % y) := by
  obtain ⟨lp, le⟩ := Len64_both y (by omega) hy2
  obtain ⟨s0, s63, k, j, hk, hj, hkj, hY1, hY2⟩ := shift_facts y (by omega) hy2
  have b1 : (y == 0) = false := beq_eq_false_iff_ne.2 (by omega)
  have b2 : decide (y ≤ hi) = false := by simp; omega
  have b3 : (hi == 0) = false := beq_eq_false_iff_ne.2 (by omega)
  have elz : S.math_bits_LeadingZeros64 y = (k : Int) := by
    simp only [math_bits_LeadingZeros64, le]; rw [IntWalk.i64_in _ (by omega)]; omega
  have e7 : IntKind.u64.wrap (k : Int) = (k : Int) := IntWalk.u64_in _ (by omega)
  have emin : min (Int.toNat (k : Int)) 64 = k := by simp; omega
  have e12 : IntKind.u64.wrap (64 - (k : Int)) = (j : Int) := by rw [IntWalk.u64_in _ (by omega)]; omega
  have eminj : min (Int.toNat (j : Int)) 64 = j := by simp; omega
  have hP : (0 : Int) < 2 ^ k := Int.pow_pos (by decide)
  have hQ : (0 : Int) < 2 ^ j := Int.pow_pos (by decide)
  have hPQ : (2 : Int) ^ k * 2 ^ j = 18446744073709551616 := by rw [← Int.pow_add, hkj]; decide
  generalize hPd : (2 : Int) ^ k = P at *
  generalize hQd : (2 : Int) ^ j = Q at *
  have f32 : ∀ z : Int, Int.fdiv z (2 ^ min (Int.toNat 32) 64) = z / 4294967296 := fun z => sh z 32 _ (by decide) (by decide)
  have fQ : ∀ z : Int, Int.fdiv z Q = z / Q := fun z => Int.fdiv_eq_ediv_of_nonneg _ (Int.le_of_lt hQ)
  have fP : ∀ z : Int, Int.fdiv z P = z / P := fun z => Int.fdiv_eq_ediv_of_nonneg _ (Int.le_of_lt hP)
  have hhi : hi * P ≤ y * P - P := by
    have := Int.mul_le_mul_of_nonneg_right (show hi ≤ y - 1 by omega) (Int.le_of_lt hP)
    rw [Int.sub_mul, Int.one_mul] at this; exact this
  have hhi0 : 0 ≤ hi * P := Int.mul_nonneg (Int.le_of_lt h0) (Int.le_of_lt hP)
  have e8 : IntKind.u64.wrap (y * P) = y * P := IntWalk.u64_in _ (by omega)
  have e11 : IntKind.u64.wrap (hi * P) = hi * P := IntWalk.u64_in _ (by omega)
  obtain ⟨q1, q2⟩ := div_facts lo Q hQ
  have q0 := Int.ediv_nonneg hl (Int.le_of_lt hQ)
  have hloP : lo / Q < P := by
    rw [Int.ediv_lt_iff_lt_mul hQ, hPQ]; omega
  have e14 : bits .or .u64 (hi * P) (lo / Q) = hi * P + lo / Q :=
    or_add _ _ k hi (by rw [hPd, Int.mul_comm]) (Int.le_of_lt h0) (by omega) q0 (by rw [hPd]; exact hloP) (by omega)
  have hm : (lo - lo / Q * Q) * P < Q * P := Int.mul_lt_mul_of_pos_right (by omega) hP
  have hm0 : 0 ≤ (lo - lo / Q * Q) * P := Int.mul_nonneg (by omega) (Int.le_of_lt hP)
  have eQP : Q * P = 18446744073709551616 := by rw [Int.mul_comm]; exact hPQ
  have eloP : lo * P = lo / Q * 18446744073709551616 + (lo - lo / Q * Q) * P := by
    rw [Int.sub_mul, Int.mul_assoc (lo / Q), eQP]; omega
  have e15 : IntKind.u64.wrap (lo * P) = (lo - lo / Q * Q) * P := by rw [IntKind.wrap_u64]; omega
  generalize hL : (lo - lo / Q * Q) * P = L at *
  generalize hU : hi * P + lo / Q = U at *
  generalize hYd : y * P = Y at *
  have eN : (hi * 18446744073709551616 + lo) * P = U * 18446744073709551616 + L := by
    rw [Int.add_mul, eloP, ← hU, Int.add_mul, Int.mul_right_comm]; omega
  have hUY : U < Y := by omega
  have hU0 : 0 ≤ U := by omega
  have al : ∀ z : Int, 0 ≤ z → z < 18446744073709551616 → bits .and .u64 z 4294967295 = z % 4294967296 := fun z a b => and_low32 z a b
  have aY := al Y (by omega) hY2
  have aL := al L hm0 (by omega)
  have eYY : Y / 4294967296 * 4294967296 + Y % 4294967296 = Y := by omega
  have hn1 : 2147483648 ≤ Y / 4294967296 := by omega
  have hn1' : Y / 4294967296 < 4294967296 := by omega
  have hn0 : 0 ≤ Y % 4294967296 ∧ Y % 4294967296 < 4294967296 := by omega
  generalize hy1 : Y / 4294967296 = y1 at *
  generalize hy0 : Y % 4294967296 = y0 at *
  have hl1 : 0 ≤ L / 4294967296 ∧ L / 4294967296 < 4294967296 := by omega
  have hl0 : 0 ≤ L % 4294967296 ∧ L % 4294967296 < 4294967296 := by omega
  have eLL : L / 4294967296 * 4294967296 + L % 4294967296 = L := by omega
  generalize hL1 : L / 4294967296 = l1 at *
  generalize hL0 : L % 4294967296 = l0 at *
  obtain ⟨d1, d2⟩ := div_facts U y1 (by omega)
  have d3 := Int.ediv_nonneg hU0 (show 0 ≤ y1 by omega)
  have d4 : U / y1 ≤ U := Int.ediv_le_self y1 hU0
  have d5 := Int.mul_nonneg d3 (show 0 ≤ y1 by omega)
  have e18 : IntKind.u64.wrap (Int.tdiv U y1) = U / y1 := by rw [Int.tdiv_eq_ediv_of_nonneg hU0]; exact IntWalk.u64_in _ (by omega)
  have e19 : IntKind.u64.wrap (U / y1 * y1) = U / y1 * y1 := IntWalk.u64_in _ (by omega)
  have e20 : IntKind.u64.wrap (U - U / y1 * y1) = U - U / y1 * y1 := IntWalk.u64_in _ (by omega)
  obtain ⟨z, hz, hz1, hz0, hzu, hzq⟩ := digit0 y1 y0 l1 U hn1 hn1' hn0 hU0 (by omega) hl1
  have qs := q_small y1 y0 l1 U hn1 hn1' hn0 hU0 (by omega) hl1
  obtain ⟨g1, g2⟩ := div_facts (U * 4294967296 + l1) (y1 * 4294967296 + y0) (by omega)
  rw [eYY] at hzq qs g1 g2
  have er : math_bits_Div64_L0_run ⟨y1, y0, l1, U / y1, U - U / y1 * y1⟩ = z := theRun_eq (d := fun x => x) hz
  generalize hq1 : (U * 4294967296 + l1) / Y = qa at *
  have e25 := Int.mul_nonneg qs.1 (show 0 ≤ Y by omega)
  have e26 : IntKind.u64.wrap (IntKind.u64.wrap (IntKind.u64.wrap (U * 4294967296) + l1) - IntKind.u64.wrap (qa * Y)) = U * 4294967296 + l1 - qa * Y := by
    rw [IntKind.wrap_u64, IntKind.wrap_u64, IntKind.wrap_u64, IntKind.wrap_u64]; omega
  generalize hV : U * 4294967296 + l1 - qa * Y = V at *
  have hV0 : 0 ≤ V := by omega
  have hVY : V < Y := by omega
  obtain ⟨c1, c2⟩ := div_facts V y1 (by omega)
  have c3 := Int.ediv_nonneg hV0 (show 0 ≤ y1 by omega)
  have c4 : V / y1 ≤ V := Int.ediv_le_self y1 hV0
  have c5 := Int.mul_nonneg c3 (show 0 ≤ y1 by omega)
  have e27 : IntKind.u64.wrap (Int.tdiv V y1) = V / y1 := by rw [Int.tdiv_eq_ediv_of_nonneg hV0]; exact IntWalk.u64_in _ (by omega)
  have e28 : IntKind.u64.wrap (V / y1 * y1) = V / y1 * y1 := IntWalk.u64_in _ (by omega)
  have e29 : IntKind.u64.wrap (V - V / y1 * y1) = V - V / y1 * y1 := IntWalk.u64_in _ (by omega)
  obtain ⟨x, hx, hx1, hx0, hxu, hxq⟩ := digit2 y1 y0 l0 V hn1 hn1' hn0 hV0 (by omega) hl0
  have qs2 := q_small y1 y0 l0 V hn1 hn1' hn0 hV0 (by omega) hl0
  obtain ⟨k1, k2⟩ := div_facts (V * 4294967296 + l0) (y1 * 4294967296 + y0) (by omega)
  rw [eYY] at hxq qs2 k1 k2
  have er2 : math_bits_Div64_L2_run ⟨y1, y0, l0, V - V / y1 * y1, V / y1⟩ = x := theRun_eq (d := fun x => x) hx
  generalize hq2 : (V * 4294967296 + l0) / Y = qb at *
  have e36 := Int.mul_nonneg qs2.1 (show 0 ≤ Y by omega)
  have e37 : IntKind.u64.wrap (IntKind.u64.wrap (IntKind.u64.wrap (V * 4294967296) + l0) - IntKind.u64.wrap (qb * Y)) = V * 4294967296 + l0 - qb * Y := by
    rw [IntKind.wrap_u64, IntKind.wrap_u64, IntKind.wrap_u64, IntKind.wrap_u64]; omega
  have e33 : IntKind.u64.wrap (IntKind.u64.wrap (qa * 4294967296) + qb) = qa * 4294967296 + qb := by
    rw [IntWalk.u64_in (qa * 4294967296) (by omega), IntWalk.u64_in _ (by omega)]
  generalize hR : V * 4294967296 + l0 - qb * Y = R at *
  have eAll : (hi * 18446744073709551616 + lo) * P = (qa * 4294967296 + qb) * Y + R := by
    rw [eN, Int.add_mul, Int.mul_right_comm]; omega
  have eR : R = (hi * 18446744073709551616 + lo - (qa * 4294967296 + qb) * y) * P := by
    rw [Int.sub_mul, eAll, Int.mul_assoc, hYd]; omega
  have eR2 : R / P = hi * 18446744073709551616 + lo - (qa * 4294967296 + qb) * y := by rw [eR]; exact Int.mul_ediv_cancel _ (by omega)
  have r0 : 0 ≤ R / P := Int.ediv_nonneg (by omega) (Int.le_of_lt hP)
  have r1 : R / P < y := by rw [Int.ediv_lt_iff_lt_mul hP]; omega
  have eNy : hi * 18446744073709551616 + lo = y * (qa * 4294967296 + qb) + R / P := by rw [eR2, Int.mul_comm y]; omega
  have emod : (hi * 18446744073709551616 + lo) % y = R / P := emod_unique eNy r0 r1
  have ediv : (hi * 18446744073709551616 + lo) / y = qa * 4294967296 + qb := by
    rw [eNy, Int.add_comm, Int.add_mul_ediv_left _ _ (show y ≠ 0 by omega), Int.ediv_eq_zero_of_lt r0 r1]; omega
  refine ⟨?_, ?_⟩
  · simp only [math_bits_Div64_pre, math_bits_LeadingZeros64_pre, b1, b2, b3, elz, e7, emin, hPd, hYd, e8, f32, hy1, aY, hy0, e11, e12, eminj, hQd, fQ, e14, hU, e15, hL1, aL, hL0, e18, e19, e20, er, hz1, hz0, hzu, hzq, e26, e27, e28, e29, er2, All, and_true]
    refine ⟨fun h => Bool.noConfusion h, fun _ => ⟨fun h => Bool.noConfusion h, fun _ => ⟨fun h => Bool.noConfusion h, fun _ => ?_⟩⟩⟩
    exact ⟨lp, by omega, by omega, by omega, by omega, by omega, hz, by omega, hx, by omega⟩
  · simp only [math_bits_Div64, b3, elz, e7, emin, hPd, hYd, e8, f32, hy1, aY, hy0, e11, e12, eminj, hQd, fQ, e14, hU, e15, hL1, aL, hL0, e18, e19, e20, er, hz1, hz0, hzu, hzq, e26, e27, e28, e29, er2, hx1, hx0, hxu, hxq, e37, e33, fP, cond_false]
    rw [emod, ediv]
theorem mul_mod_l (x c d m : Int) : (x + c % m * d) % m = (x + c * d) % m := by
  have h := Int.mul_ediv_add_emod c m
  have e : c * d = m * (c / m * d) + c % m * d := by
    have : c * d = (m * (c / m) + c % m) * d := by rw [h]
    rw [this, Int.add_mul, Int.mul_assoc]
  rw [e, show x + (m * (c / m * d) + c % m * d) = (x + c % m * d) + m * (c / m * d) by omega, Int.add_mul_emod_self_left]
theorem times_both (a b m : Int) (ha : 0 ≤ a ∧ a ≤ 18446744073709551615) (hb : 0 ≤ b ∧ b ≤ 18446744073709551615) (hm : 0 < m) (hm2 : m ≤ 18446744073709551615) : S.cong_times_pre a b m ∧ S.cong_times a b m = a * b % m := by
  have h0 := Int.mul_nonneg ha.1 hb.1
  have e := Mul64_eq a b ha hb
  have hq := Int.ediv_nonneg h0 (show (0 : Int) ≤ 18446744073709551616 by decide)
  have r := mod_range (a * b / 18446744073709551616) m hm
  have t : Int.tmod (a * b / 18446744073709551616) m = a * b / 18446744073709551616 % m := tmod_pos _ _ hq
  have key : S.math_bits_Div64_pre (a * b / 18446744073709551616 % m) (a * b % 18446744073709551616) m ∧ (S.math_bits_Div64 (a * b / 18446744073709551616 % m) (a * b % 18446744073709551616) m).2 = a * b % m := by
    have fin : (a * b / 18446744073709551616 % m * 18446744073709551616 + a * b % 18446744073709551616) % m = a * b % m := by
      rw [Int.add_comm, mul_mod_l]; congr 1; omega
    by_cases hz : a * b / 18446744073709551616 % m = 0
    · rw [hz] at fin ⊢
      obtain ⟨p, v⟩ := Div64_small (a * b % 18446744073709551616) m (by omega) (by omega) hm
      refine ⟨p, ?_⟩
      rw [v]; rw [Int.zero_mul, Int.zero_add] at fin; exact fin
    · obtain ⟨p, v⟩ := Div64_eq (a * b / 18446744073709551616 % m) (a * b % 18446744073709551616) m (by omega) r.2 hm2 (by omega) (by omega)
      refine ⟨p, ?_⟩
      rw [v]; exact fin
  refine ⟨?_, ?_⟩
  · simp only [cong_times_pre, e, math_bits_Rem64_pre, t, All, and_true]; exact ⟨by omega, key.1⟩
  · simp only [cong_times, e, math_bits_Rem64, t, key.2]
theorem reftimes_run (m C : Int) (hm : 0 < m) (hm2 : m ≤ 18446744073709551615) (x : S.ref20_times_L0) (h : x.m = m ∧ (0 ≤ x.a ∧ x.a < m) ∧ (0 ≤ x.out ∧ x.out < m) ∧ (0 ≤ x.b ∧ x.b ≤ 18446744073709551615) ∧ (x.out + x.a * x.b) % m = C) :
    ∃ y, Runs ref20_times_L0_step ref20_times_L0_vcs x y ∧ y.out = C := by
  refine Runs.of (step := ref20_times_L0_step) (vcs := ref20_times_L0_vcs) (fun x => x.m = m ∧ (0 ≤ x.a ∧ x.a < m) ∧ (0 ≤ x.out ∧ x.out < m) ∧ (0 ≤ x.b ∧ x.b ≤ 18446744073709551615) ∧ (x.out + x.a * x.b) % m = C) (fun x => x.b.toNat) (fun y => y.out = C) ?_ x h
  clear h x
  rintro ⟨a, b, _, out⟩ ⟨rfl, ha, ho, hb, hC⟩
  dsimp only at *
  refine ⟨by simp [ref20_times_L0_vcs], ?_⟩
  simp only [ref20_times_L0_step]
  by_cases h : b > 0
  · have e2 : IntKind.u64.wrap (Int.tdiv b 2) = b / 2 := by rw [Int.tdiv_eq_ediv_of_nonneg hb.1, IntWalk.u64_in _ (by omega)]
    rw [decide_eq_true h, cond_true, tmod_pos b 2 hb.1, e2, refplus_eq out a _ ho ha hm2, refplus_eq a a _ ha ha hm2]
    have ra := mod_range (a + a) _ hm
    have ro := mod_range (out + a) _ hm
    refine ⟨⟨rfl, ra, ?_, by dsimp only; omega, ?_⟩, by dsimp only; omega⟩
    · dsimp only; cases (b % 2 == 1) <;> simp only [cond_true, cond_false] <;> omega
    · dsimp only
      rw [mul_mod_l]
      have hb2 : b = 2 * (b / 2) + b % 2 := by omega
      have eab : a * b = (a + a) * (b / 2) + a * (b % 2) := by
        have : a * b = a * (2 * (b / 2) + b % 2) := by rw [← hb2]
        rw [this, Int.mul_add, ← Int.mul_assoc, show a * 2 = a + a by omega]
      rw [← hC, eab]
      by_cases hbit : b % 2 = 1
      · rw [show (b % 2 == 1) = true by simpa using hbit, cond_true, hbit, Int.mul_one, Int.emod_add_emod]
        congr 1; omega
      · have hz : b % 2 = 0 := by omega
        rw [show (b % 2 == 1) = false from beq_eq_false_iff_ne.2 hbit, cond_false, hz, Int.mul_zero, Int.add_zero]
  · have hb0 : b = 0 := by omega
    rw [decide_eq_false h, cond_false]
    subst hb0
    rw [Int.mul_zero, Int.add_zero, Int.emod_eq_of_lt ho.1 ho.2] at hC
    exact hC
theorem reftimes_both (a b m : Int) (ha : 0 ≤ a ∧ a < m) (hb : 0 ≤ b ∧ b ≤ 18446744073709551615) (hm : 0 < m) (hm2 : m ≤ 18446744073709551615) : S.ref20_times_pre a b m ∧ S.ref20_times a b m = a * b % m := by
  obtain ⟨y, hy, ho⟩ := reftimes_run m (a * b % m) hm hm2 ⟨a, b, m, 0⟩ ⟨rfl, ha, ⟨by dsimp only; omega, hm⟩, hb, by dsimp only; rw [Int.zero_add]⟩
  have e : ref20_times_L0_run ⟨a, b, m, 0⟩ = y := theRun_eq (d := fun x => x) hy
  refine ⟨?_, ?_⟩
  · simp only [ref20_times_pre, e, All, and_true]; exact hy
  · simp only [ref20_times, e, ho]
theorem fits_eq (a b : Int) (ha : 0 ≤ a ∧ a ≤ 18446744073709551615) (hb : 0 ≤ b ∧ b ≤ 18446744073709551615) : S.cong_fits a b = if a * b < 18446744073709551616 then (a * b, true) else (a * b % 18446744073709551616, false) := by
  have h0 := Int.mul_nonneg ha.1 hb.1
  simp only [cong_fits, Mul64_eq a b ha hb]
  by_cases h : a * b < 18446744073709551616
  · rw [if_pos h]; congr 1
    · omega
    · rw [beq_iff_eq]; omega
  · rw [if_neg h]; congr 1
    rw [beq_eq_false_iff_ne]; omega
theorem reffits_both (a b : Int) (ha : 0 ≤ a ∧ a ≤ 18446744073709551615) (hb : 0 ≤ b ∧ b ≤ 18446744073709551615) : S.ref20_fits_pre a b ∧ S.ref20_fits a b = if a * b < 18446744073709551616 then (a * b, true) else (0, false) := by
  have h0 := Int.mul_nonneg ha.1 hb.1
  refine ⟨?_, ?_⟩
  · simp only [ref20_fits_pre, All, and_true]
    exact ⟨fun h => by have : a > 0 := by simpa using h
                       omega, by simp⟩
  · simp only [ref20_fits]
    by_cases hz : a > 0
    · have e : IntKind.u64.wrap (Int.tdiv 18446744073709551615 a) = 18446744073709551615 / a := by
        rw [Int.tdiv_eq_ediv_of_nonneg (by decide), IntWalk.u64_in]
        have := Int.ediv_nonneg (show (0 : Int) ≤ 18446744073709551615 by decide) (Int.le_of_lt hz)
        have := Int.ediv_le_self a (show (0 : Int) ≤ 18446744073709551615 by decide)
        omega
      rw [e, decide_eq_true hz, Bool.true_and]
      have hiff : b > 18446744073709551615 / a ↔ ¬ a * b < 18446744073709551616 := by
        rw [gt_iff_lt, Int.ediv_lt_iff_lt_mul hz, Int.mul_comm b a]; omega
      by_cases h : a * b < 18446744073709551616
      · rw [decide_eq_false (fun h' => (hiff.1 h') h), cond_false, if_pos h, IntWalk.u64_in _ (by omega)]
      · rw [decide_eq_true (hiff.2 h), cond_true, if_neg h]
    · have : a = 0 := by omega
      subst this
      simp
      rfl
def B (c : S.Cong) (g : Int) : Int := if c.M = 0 then IntKind.i64.wrap c.R % g else c.R % g
theorem B_range (c : S.Cong) (g : Int) (hg : 0 < g) : 0 ≤ B c g ∧ B c g < g := by unfold B; split <;> exact mod_range _ g hg
theorem nb {x : Int} (h : (x == 0) = false) : x ≠ 0 := beq_eq_false_iff_ne.1 h
section
variable (a b : S.Cong) (ha : S.Cong.ok a) (hb : S.Cong.ok b)
include ha hb
theorem Add_both : S.ref20_Add_pre a b ∧ S.cong_Add a b = S.ref20_Add a b ∧ S.cong_Cong_Right (S.cong_Add a b) = true := by
  have ha' := (ok_iff a).1 ha; have hb' := (ok_iff b).1 hb
  have g0 := G_pos a.M b.M ha'.1.1 hb'.1.1
  simp only [ref20_Add_pre, cong_Add, ref20_Add, gcd_eq _ _ ha'.1.1 hb'.1.1, Gcd_eq _ _ ha'.1.1 hb'.1.1, All, and_true]
  cases h : (G a.M b.M == 0) with
  | true => exact ⟨⟨Gcd_pre _ _ ha'.1.1 hb'.1.1, fun _ => trivial, fun h => Bool.noConfusion h⟩, rfl, rfl⟩
  | false =>
    have hg := nb h
    have hg1 : 0 < G a.M b.M := by omega
    have hg2 : G a.M b.M ≤ 18446744073709551615 := by omega
    have ra := B_range a _ hg1; have rb := B_range b _ hg1
    have e1 : S.cong_Cong_by a (G a.M b.M) = B a (G a.M b.M) := by_eq a _ ha hg1 hg2
    have e2 : S.cong_Cong_by b (G a.M b.M) = B b (G a.M b.M) := by_eq b _ hb hg1 hg2
    have e3 : S.ref20_Of a (G a.M b.M) = B a (G a.M b.M) := Of_eq a _ ha hg1 hg2
    have e4 : S.ref20_Of b (G a.M b.M) = B b (G a.M b.M) := Of_eq b _ hb hg1 hg2
    simp only [e1, e2, e3, e4, plus_eq _ _ _ ra rb hg2, refplus_eq _ _ _ ra rb hg2, cond_false]
    refine ⟨⟨Gcd_pre _ _ ha'.1.1 hb'.1.1, fun h => Bool.noConfusion h, fun _ => ⟨Of_pre _ _ hg, Of_pre _ _ hg⟩⟩, trivial, ?_⟩
    rw [Right_eq, Right_iff]; right; exact (mod_range _ _ hg1).2
theorem Sub_both : S.cong_Sub_pre a b ∧ S.ref20_Sub_pre a b ∧ S.cong_Sub a b = S.ref20_Sub a b ∧ S.cong_Cong_Right (S.cong_Sub a b) = true := by
  have ha' := (ok_iff a).1 ha; have hb' := (ok_iff b).1 hb
  have g0 := G_pos a.M b.M ha'.1.1 hb'.1.1
  simp only [cong_Sub_pre, ref20_Sub_pre, cong_Sub, ref20_Sub, gcd_eq _ _ ha'.1.1 hb'.1.1, Gcd_eq _ _ ha'.1.1 hb'.1.1, All, and_true]
  cases h : (G a.M b.M == 0) with
  | true => exact ⟨⟨gcd_pre _ _ ha'.1.1 hb'.1.1, fun _ => trivial, fun h => Bool.noConfusion h⟩, ⟨Gcd_pre _ _ ha'.1.1 hb'.1.1, fun _ => trivial, fun h => Bool.noConfusion h⟩, rfl, rfl⟩
  | false =>
    have hg := nb h
    have hg1 : 0 < G a.M b.M := by omega
    have hg2 : G a.M b.M ≤ 18446744073709551615 := by omega
    have ra := B_range a _ hg1; have rb := B_range b _ hg1
    have e1 : S.cong_Cong_by a (G a.M b.M) = B a (G a.M b.M) := by_eq a _ ha hg1 hg2
    have e2 : S.cong_Cong_by b (G a.M b.M) = B b (G a.M b.M) := by_eq b _ hb hg1 hg2
    have e3 : S.ref20_Of a (G a.M b.M) = B a (G a.M b.M) := Of_eq a _ ha hg1 hg2
    have e4 : S.ref20_Of b (G a.M b.M) = B b (G a.M b.M) := Of_eq b _ hb hg1 hg2
    obtain ⟨v, p⟩ := neg_plus (B a (G a.M b.M)) (B b (G a.M b.M)) _ hg1 ra rb hg2
    simp only [e1, e2, e3, e4, v, refminus_eq _ _ _ ra rb hg2, cond_false]
    refine ⟨⟨gcd_pre _ _ ha'.1.1 hb'.1.1, fun h => Bool.noConfusion h, fun _ => ⟨by_pre _ _ hg, by_pre _ _ hg, hg, p⟩⟩, ⟨Gcd_pre _ _ ha'.1.1 hb'.1.1, fun h => Bool.noConfusion h, fun _ => ⟨Of_pre _ _ hg, Of_pre _ _ hg⟩⟩, trivial, ?_⟩
    rw [Right_eq, Right_iff]; right; exact (mod_range _ _ hg1).2
end
theorem scaled_core (c : S.Cong) (n m : Int) (hc : S.Cong.ok c) (hn : inr .i64 n) (hm : 0 < m) (hm2 : m ≤ 18446744073709551615) :
    (S.cong_rest_pre n m ∧ m ≠ 0 ∧ S.cong_times_pre (S.cong_rest n m) (Int.tmod c.R m) m) ∧ (S.ref20_Rest_pre n m ∧ m ≠ 0 ∧ S.ref20_times_pre (S.ref20_Rest n m) (Int.tmod c.R m) m) ∧
    S.cong_times (S.cong_rest n m) (Int.tmod c.R m) m = S.ref20_times (S.ref20_Rest n m) (Int.tmod c.R m) m ∧ S.cong_times (S.cong_rest n m) (Int.tmod c.R m) m < m := by
  rw [ok_iff] at hc; rw [inr_i64] at hn
  have r1 := mod_range n m hm
  have r2 := mod_range c.R m hm
  rw [rest_eq n m hn hm hm2, Rest_eq n m hn hm hm2, tmod_pos _ _ hc.2.1]
  obtain ⟨p1, v1⟩ := times_both (n % m) (c.R % m) m (by omega) (by omega) hm hm2
  obtain ⟨p2, v2⟩ := reftimes_both (n % m) (c.R % m) m r1 (by omega) hm hm2
  refine ⟨⟨rest_pre _ _ (by omega), by omega, p1⟩, ⟨Rest_pre _ _ (by omega), by omega, p2⟩, by rw [v1, v2], ?_⟩
  rw [v1]; exact (mod_range _ _ hm).2
theorem scaled_both (c : S.Cong) (n : Int) (hc : S.Cong.ok c) (hM : c.M ≠ 0) (hn : inr .i64 n) :
    S.cong_Cong_scaled_pre c n ∧ S.ref20_scale_pre c n ∧ S.cong_Cong_scaled c n = S.ref20_scale c n ∧ S.cong_Cong_Right (S.cong_Cong_scaled c n) = true := by
  have hc' := (ok_iff c).1 hc
  have hn' := inr_i64.1 hn
  cases h0 : (n == 0) with
  | true =>
    simp only [cong_Cong_scaled_pre, ref20_scale_pre, cong_Cong_scaled, ref20_scale, h0, cond_true]
    exact ⟨⟨fun _ => trivial, fun h => Bool.noConfusion h⟩, ⟨fun _ => trivial, fun h => Bool.noConfusion h⟩, trivial, rfl⟩
  | false =>
    have hz := nb h0
    have e1 : (bif decide (n < 0) then IntKind.u64.wrap (0 - IntKind.u64.wrap n) else IntKind.u64.wrap n) = if n < 0 then -n else n := by
      by_cases h : n < 0
      · rw [decide_eq_true h, cond_true, if_pos h, IntKind.wrap_u64, IntKind.wrap_u64]; omega
      · rw [decide_eq_false h, cond_false, if_neg h, IntKind.wrap_u64]; omega
    have e2 : (bif decide (n < 0) then IntKind.u64.wrap (IntKind.i64.wrap (0 - n)) else IntKind.u64.wrap n) = if n < 0 then -n else n := by
      by_cases h : n < 0
      · rw [decide_eq_true h, cond_true, if_pos h, IntKind.wrap_u64, IntKind.wrap_i64]; omega
      · rw [decide_eq_false h, cond_false, if_neg h, IntKind.wrap_u64]; omega
    have hA : 1 ≤ (if n < 0 then -n else n) ∧ (if n < 0 then -n else n) ≤ 18446744073709551615 := by split <;> omega
    generalize (if n < 0 then -n else n) = A at *
    obtain ⟨fp, fe⟩ := reffits_both c.M A hc'.1 (by omega)
    have fe1 := fits_eq c.M A hc'.1 (by omega)
    have hp := Int.mul_pos (show 0 < c.M by omega) (show 0 < A by omega)
    by_cases h : c.M * A < 18446744073709551616
    · rw [if_pos h] at fe fe1
      obtain ⟨k1, k2, k3, k4⟩ := scaled_core c n (c.M * A) hc hn hp (by omega)
      simp only [cong_Cong_scaled_pre, ref20_scale_pre, cong_Cong_scaled, ref20_scale, h0, e1, e2, fe, fe1, Bool.not_true, cond_false, All, and_true]
      refine ⟨⟨fun h => Bool.noConfusion h, fun _ => k1⟩, ⟨fun h => Bool.noConfusion h, fun _ => ⟨fp, k2⟩⟩, by rw [k3], ?_⟩
      rw [Right_eq, Right_iff]; right; exact k4
    · rw [if_neg h] at fe fe1
      obtain ⟨k1, k2, k3, k4⟩ := scaled_core c n c.M hc hn (by omega) hc'.1.2
      simp only [cong_Cong_scaled_pre, ref20_scale_pre, cong_Cong_scaled, ref20_scale, h0, e1, e2, fe, fe1, Bool.not_false, cond_true, cond_false, All, and_true]
      refine ⟨⟨fun h => Bool.noConfusion h, fun _ => k1⟩, ⟨fun h => Bool.noConfusion h, fun _ => ⟨fp, k2⟩⟩, by rw [k3], ?_⟩
      rw [Right_eq, Right_iff]; right; exact k4
theorem Mul_both (a b : S.Cong) (ha : S.Cong.ok a) (hb : S.Cong.ok b) : S.cong_Mul_pre a b ∧ S.ref20_Mul_pre a b ∧ S.cong_Mul a b = S.ref20_Mul a b ∧ S.cong_Cong_Right (S.cong_Mul a b) = true := by
  have ha' := (ok_iff a).1 ha; have hb' := (ok_iff b).1 hb
  simp only [cong_Mul_pre, ref20_Mul_pre, cong_Mul, ref20_Mul, cong_Cong_single, cong_Cong_number]
  cases h1 : (a.M == 0) with
  | true =>
    cases h2 : (b.M == 0) with
    | true =>
      simp only [Bool.true_and, cond_true]
      exact ⟨⟨fun _ => trivial, fun h => Bool.noConfusion h⟩, ⟨fun _ => trivial, fun h => Bool.noConfusion h⟩, trivial, (by rw [Right_eq, Right_iff]; left; trivial)⟩
    | false =>
      obtain ⟨k1, k2, k3, k4⟩ := scaled_both b _ hb (nb h2) (inr_i64.2 (num_i64 a.R))
      simp only [All, and_true, Bool.and_false, cond_false, cond_true]
      exact ⟨⟨fun h => Bool.noConfusion h, fun _ => ⟨fun _ => k1, fun h => Bool.noConfusion h⟩⟩, ⟨fun h => Bool.noConfusion h, fun _ => ⟨fun _ => k2, fun h => Bool.noConfusion h⟩⟩, k3, k4⟩
  | false =>
    cases h2 : (b.M == 0) with
    | true =>
      obtain ⟨k1, k2, k3, k4⟩ := scaled_both a _ ha (nb h1) (inr_i64.2 (num_i64 b.R))
      simp only [All, and_true, Bool.false_and, cond_false, cond_true]
      exact ⟨⟨fun h => Bool.noConfusion h, fun _ => ⟨fun h => Bool.noConfusion h, fun _ => ⟨fun _ => k1, fun h => Bool.noConfusion h⟩⟩⟩, ⟨fun h => Bool.noConfusion h, fun _ => ⟨fun h => Bool.noConfusion h, fun _ => ⟨fun _ => k2, fun h => Bool.noConfusion h⟩⟩⟩, k3, k4⟩
    | false =>
      have hM := nb h1
      have g0 := G_pos a.M b.M ha'.1.1 hb'.1.1
      have ga := G_pos a.M a.R ha'.1.1 ha'.2.1
      have gb := G_pos b.M b.R hb'.1.1 hb'.2.1
      have hN := nb h2
      have hg : G a.M b.M ≠ 0 := fun e => hM (g0.2.2.2.1 e).1
      have hg1 : 0 < G a.M b.M := by omega
      have hg2 : G a.M b.M ≤ 18446744073709551615 := by omega
      have ra := B_range a _ hg1; have rb := B_range b _ hg1
      have e1 : S.cong_Cong_by a (G a.M b.M) = B a (G a.M b.M) := by_eq a _ ha hg1 hg2
      have e2 : S.cong_Cong_by b (G a.M b.M) = B b (G a.M b.M) := by_eq b _ hb hg1 hg2
      have e3 : S.ref20_Of a (G a.M b.M) = B a (G a.M b.M) := Of_eq a _ ha hg1 hg2
      have e4 : S.ref20_Of b (G a.M b.M) = B b (G a.M b.M) := Of_eq b _ hb hg1 hg2
      obtain ⟨p1, v1⟩ := times_both (B a (G a.M b.M)) (B b (G a.M b.M)) _ (by omega) (by omega) hg1 hg2
      obtain ⟨p2, v2⟩ := reftimes_both (B a (G a.M b.M)) (B b (G a.M b.M)) _ ra (by omega) hg1 hg2
      obtain ⟨fp, fe⟩ := reffits_both (G a.M a.R) (G b.M b.R) (by omega) (by omega)
      have fe1 := fits_eq (G a.M a.R) (G b.M b.R) (by omega) (by omega)
      have hpq := Int.mul_nonneg ga.1 gb.1
      have P1 : S.cong_gcd_pre a.M b.M ∧ S.cong_gcd_pre a.M a.R ∧ S.cong_gcd_pre b.M b.R := ⟨gcd_pre _ _ ha'.1.1 hb'.1.1, gcd_pre _ _ ha'.1.1 ha'.2.1, gcd_pre _ _ hb'.1.1 hb'.2.1⟩
      have P2 : S.ref20_Gcd_pre a.M b.M ∧ S.ref20_Gcd_pre a.M a.R ∧ S.ref20_Gcd_pre b.M b.R ∧ S.ref20_fits_pre (G a.M a.R) (G b.M b.R) := ⟨Gcd_pre _ _ ha'.1.1 hb'.1.1, Gcd_pre _ _ ha'.1.1 ha'.2.1, Gcd_pre _ _ hb'.1.1 hb'.2.1, fp⟩
      have g1 := gcd_eq a.M b.M ha'.1.1 hb'.1.1
      have g2 := Gcd_eq a.M b.M ha'.1.1 hb'.1.1
      have g3 := gcd_eq a.M a.R ha'.1.1 ha'.2.1
      have g4 := Gcd_eq a.M a.R ha'.1.1 ha'.2.1
      have g5 := gcd_eq b.M b.R hb'.1.1 hb'.2.1
      have g6 := Gcd_eq b.M b.R hb'.1.1 hb'.2.1
      have w1 := by_pre a _ hg
      have w2 := by_pre b _ hg
      have w3 := Of_pre a _ hg
      have w4 := Of_pre b _ hg
      have hrr := (mod_range (B a (G a.M b.M) * B b (G a.M b.M)) _ hg1).2
      by_cases h : G a.M a.R * G b.M b.R < 18446744073709551616
      · rw [if_pos h] at fe fe1
        clear fp h g0 ga gb hpq
        generalize G a.M b.M = g at *
        generalize G a.M a.R = x at *
        generalize G b.M b.R = y at *
        simp only [g1, g2, g3, g4, g5, g6, e1, e2, e3, e4, v1, v2, fe, fe1, All, and_true, Bool.and_false, cond_false, Bool.true_and]
        refine ⟨⟨fun h => Bool.noConfusion h, fun _ => ⟨fun h => Bool.noConfusion h, fun _ => ⟨fun h => Bool.noConfusion h, fun _ => ⟨P1, fun _ => trivial, fun _ => ⟨w1, w2, p1⟩⟩⟩⟩⟩, ⟨fun h => Bool.noConfusion h, fun _ => ⟨fun h => Bool.noConfusion h, fun _ => ⟨fun h => Bool.noConfusion h, fun _ => ⟨P2, fun _ => trivial, fun _ => ⟨w3, w4, p2⟩⟩⟩⟩⟩, trivial, ?_⟩
        by_cases h3 : x * y > g
        · rw [decide_eq_true h3, cond_true, Right_eq, Right_iff]; right; dsimp only; omega
        · rw [decide_eq_false h3, cond_false, Right_eq, Right_iff]; right; exact hrr
      · rw [if_neg h] at fe fe1
        clear fp h g0 ga gb hpq
        generalize G a.M b.M = g at *
        generalize G a.M a.R = x at *
        generalize G b.M b.R = y at *
        simp only [g1, g2, g3, g4, g5, g6, e1, e2, e3, e4, v1, v2, fe, fe1, All, and_true, Bool.and_false, cond_false, Bool.false_and]
        refine ⟨⟨fun h => Bool.noConfusion h, fun _ => ⟨fun h => Bool.noConfusion h, fun _ => ⟨fun h => Bool.noConfusion h, fun _ => ⟨P1, fun _ => trivial, fun _ => ⟨w1, w2, p1⟩⟩⟩⟩⟩, ⟨fun h => Bool.noConfusion h, fun _ => ⟨fun h => Bool.noConfusion h, fun _ => ⟨fun h => Bool.noConfusion h, fun _ => ⟨P2, fun _ => trivial, fun _ => ⟨w3, w4, p2⟩⟩⟩⟩⟩, trivial, ?_⟩
        rw [Right_eq, Right_iff]; right; exact hrr
theorem and_compl (n j : Nat) (h : j < 2 ^ n) : j &&& (2 ^ n - (j + 1)) = 0 := by
  apply Nat.eq_of_testBit_eq
  intro i
  rw [Nat.testBit_and, Nat.testBit_two_pow_sub_succ h]
  cases Nat.testBit j i <;> simp
theorem and_odd (a b : Nat) : (2 * a + 1) &&& (2 * b + 1) = 2 * (a &&& b) + 1 := by
  apply Nat.eq_of_testBit_eq
  intro i
  cases i with
  | zero => simp [Nat.testBit_and, Nat.testBit_zero]
  | succ i =>
    rw [Nat.testBit_and, Nat.testBit_succ, Nat.testBit_succ, Nat.testBit_succ, ← Nat.testBit_and]
    congr 1
    have e1 : (2 * a + 1) / 2 = a := by omega
    have e2 : (2 * b + 1) / 2 = b := by omega
    have e3 : (2 * (a &&& b) + 1) / 2 = a &&& b := by omega
    rw [e1, e2, e3]
theorem and_even (a b : Nat) : (2 * a) &&& (2 * b) = 2 * (a &&& b) := by
  apply Nat.eq_of_testBit_eq
  intro i
  cases i with
  | zero => simp [Nat.testBit_and, Nat.testBit_zero]
  | succ i =>
    rw [Nat.testBit_and, Nat.testBit_succ, Nat.testBit_succ, Nat.testBit_succ, ← Nat.testBit_and]
    congr 1
    have e1 : (2 * a) / 2 = a := by omega
    have e2 : (2 * b) / 2 = b := by omega
    have e3 : (2 * (a &&& b)) / 2 = a &&& b := by omega
    rw [e1, e2, e3]
theorem low_odd (n M : Nat) (h : M < 2 ^ (n + 1)) (ho : M % 2 = 1) : M &&& (2 ^ (n + 1) - M) = 1 := by
  obtain ⟨j, rfl⟩ : ∃ j, M = 2 * j + 1 := ⟨M / 2, by omega⟩
  have hp : 2 ^ (n + 1) = 2 * 2 ^ n := by rw [Nat.pow_succ, Nat.mul_comm]
  have hj : j < 2 ^ n := by omega
  have e : 2 ^ (n + 1) - (2 * j + 1) = 2 * (2 ^ n - (j + 1)) + 1 := by omega
  rw [e, and_odd, and_compl n j hj]
theorem low_even (n M : Nat) (h : 2 * M < 2 ^ (n + 1)) : (2 * M) &&& (2 ^ (n + 1) - 2 * M) = 2 * (M &&& (2 ^ n - M)) := by
  have hp : 2 ^ (n + 1) = 2 * 2 ^ n := by rw [Nat.pow_succ, Nat.mul_comm]
  have e : 2 ^ (n + 1) - 2 * M = 2 * (2 ^ n - M) := by omega
  rw [e, and_even]
theorem Wrapped_run (R : Int) : ∀ (n M : Nat) (p : Int), 0 < M → M < 2 ^ n → 0 < p → p * 2 ^ n ≤ 18446744073709551616 →
    ∃ y, Runs ref20_Wrapped_L0_step ref20_Wrapped_L0_vcs ⟨p, ⟨(M : Int), R⟩⟩ y ∧ y.c.R = R ∧ y.p = p * ((M &&& (2 ^ n - M) : Nat) : Int) := by
  intro n
  induction n with
  | zero => intro M p h0 h1; simp at h1; omega
  | succ n ih =>
    intro M p h0 h1 hp hb
    have h2n : (1 : Int) ≤ 2 ^ n := by
      have : (0 : Int) < 2 ^ n := Int.pow_pos (by decide)
      omega
    have hpn : p * 2 ^ (n + 1) = 2 * p * 2 ^ n := by rw [Int.pow_succ, Int.mul_comm (2 ^ n) 2, ← Int.mul_assoc, Int.mul_comm p 2]
    have hp2 : 2 * p ≤ 2 * p * 2 ^ n := by
      have := Int.mul_le_mul_of_nonneg_left h2n (show 0 ≤ 2 * p by omega)
      rw [Int.mul_one] at this; exact this
    by_cases ho : M % 2 = 1
    · refine ⟨⟨p, ⟨M, R⟩⟩, .done _ _ (by simp [ref20_Wrapped_L0_vcs]) ?_, rfl, ?_⟩
      · simp only [ref20_Wrapped_L0_step, tmod_pos _ _ (Int.natCast_nonneg M)]
        rw [show ((M : Int) % 2 == 0) = false from beq_eq_false_iff_ne.2 (by omega), cond_false]
      · rw [low_odd n M h1 ho]; simp
    · obtain ⟨m, rfl⟩ : ∃ m, M = 2 * m := ⟨M / 2, by omega⟩
      have hm : m < 2 ^ n := by
        have hp : 2 ^ (n + 1) = 2 * 2 ^ n := by rw [Nat.pow_succ, Nat.mul_comm]
        omega
      by_cases hn : n = 0
      · subst hn; simp at hm; omega
      · have hp4 : 2 * p < 18446744073709551616 := by
          have : (2 : Int) ≤ 2 ^ n := by
            obtain ⟨k, rfl⟩ : ∃ k, n = k + 1 := ⟨n - 1, by omega⟩
            have : (0 : Int) < 2 ^ k := Int.pow_pos (by decide)
            rw [Int.pow_succ]; omega
          have := Int.mul_le_mul_of_nonneg_left this (show 0 ≤ 2 * p by omega)
          omega
        obtain ⟨y, hy, hR, hv⟩ := ih m (2 * p) (by omega) hm (by omega) (by omega)
        refine ⟨y, .next _ ⟨2 * p, ⟨(m : Int), R⟩⟩ _ (by simp [ref20_Wrapped_L0_vcs]) ?_ hy, hR, ?_⟩
        · have hM64 : (m : Int) ≤ 18446744073709551615 := by
            have h3 : (2 : Int) ^ n ≤ 2 * p * 2 ^ n := by
              have := Int.mul_le_mul_of_nonneg_right (show (1 : Int) ≤ 2 * p by omega) (show (0 : Int) ≤ 2 ^ n by omega)
              rw [Int.one_mul] at this; exact this
            have h4 : (m : Int) < ((2 ^ n : Nat) : Int) := Int.ofNat_lt.2 hm
            have h5 : ((2 ^ n : Nat) : Int) = (2 : Int) ^ n := by simp
            omega
          simp only [ref20_Wrapped_L0_step, tmod_pos _ _ (Int.natCast_nonneg (2 * m))]
          rw [show (((2 * m : Nat) : Int) % 2 == 0) = true by rw [beq_iff_eq]; omega, cond_true, IntWalk.u64_in (2 * p) (by omega), Int.tdiv_eq_ediv_of_nonneg (by omega), show ((2 * m : Nat) : Int) / 2 = (m : Int) by omega, IntWalk.u64_in _ (by omega)]
        · rw [hv, low_even n m (by omega)]
          rw [Int.natCast_mul, ← Int.mul_assoc]; congr 1; omega
theorem low_pos : ∀ (n M : Nat), 0 < M → M < 2 ^ n → 0 < M &&& (2 ^ n - M) := by
  intro n
  induction n with
  | zero => intro M h0 h1; simp at h1; omega
  | succ n ih =>
    intro M h0 h1
    by_cases ho : M % 2 = 1
    · rw [low_odd n M h1 ho]; decide
    · obtain ⟨m, rfl⟩ : ∃ m, M = 2 * m := ⟨M / 2, by omega⟩
      have hp : 2 ^ (n + 1) = 2 * 2 ^ n := by rw [Nat.pow_succ, Nat.mul_comm]
      rw [low_even n m h1]
      have := ih m (by omega) (by omega)
      omega
theorem Wrapped_both (c : S.Cong) (hc : S.Cong.ok c) : S.cong_Cong_Wrapped_pre c ∧ S.ref20_Wrapped_pre c ∧ S.cong_Cong_Wrapped c = S.ref20_Wrapped c ∧ (S.ref20_Right c = true → S.cong_Cong_Right (S.cong_Cong_Wrapped c) = true) := by
  have hc' := (ok_iff c).1 hc
  obtain ⟨M, R⟩ := c
  dsimp only at hc'
  simp only [cong_Cong_Wrapped_pre, ref20_Wrapped_pre, cong_Cong_Wrapped, ref20_Wrapped, cong_Cong_single]
  cases h : (M == 0) with
  | true => exact ⟨⟨fun _ => trivial, fun h => Bool.noConfusion h⟩, ⟨fun _ => trivial, fun h => Bool.noConfusion h⟩, rfl, fun hr => hr⟩
  | false =>
    have hM := nb h
    obtain ⟨m, rfl⟩ := Int.eq_ofNat_of_zero_le hc'.1.1
    have hm0 : 0 < m := by omega
    have hm1 : m < 2 ^ 64 := by omega
    obtain ⟨y, hy, hR, hv⟩ := Wrapped_run R 64 m 1 hm0 hm1 (by decide) (by decide)
    have hp := low_pos 64 m hm0 hm1
    have e : ref20_Wrapped_L0_run ⟨1, ⟨(m : Int), R⟩⟩ = y := theRun_eq (d := fun x => x) hy
    have ew : IntKind.u64.wrap (0 - (m : Int)) = ((2 ^ 64 - m : Nat) : Int) := by rw [IntKind.wrap_u64]; omega
    have eb : bits .and .u64 (m : Int) (IntKind.u64.wrap (0 - (m : Int))) = ((m &&& (2 ^ 64 - m) : Nat) : Int) := by
      rw [ew, u64_and _ _ (by omega) (by omega) (by omega) (by omega), Int.toNat_natCast, Int.toNat_natCast]
    rw [Int.one_mul] at hv
    generalize (m &&& (2 ^ 64 - m)) = q at *
    simp only [eb, e, hv, hR, All, and_true, cond_false]
    refine ⟨⟨fun h => Bool.noConfusion h, fun _ => by omega⟩, ⟨fun h => Bool.noConfusion h, fun _ => ⟨hy, by omega⟩⟩, trivial, fun _ => ?_⟩
    rw [Right_eq, Right_iff, tmod_pos _ _ hc'.2.1]; right; exact (mod_range _ _ (by omega)).2
def I64 (x : Int) : Prop := -9223372036854775808 ≤ x ∧ x ≤ 9223372036854775807
theorem has_iff (c : S.Cong) (x : Int) : has c x = true ↔ (c.M = 0 ∧ IntKind.u64.wrap x = c.R) ∨ (c.M ≠ 0 ∧ x % c.M = c.R) := by
  by_cases h : c.M = 0
  · have hm : mk c.M x = ⟨0, IntKind.u64.wrap x⟩ := if_pos h
    simp only [has, hm, decide_eq_true_eq, S.Cong.ext_iff]
    constructor
    · rintro ⟨_, h2⟩; exact .inl ⟨h, h2⟩
    · rintro (⟨_, h2⟩ | ⟨h2, _⟩)
      · exact ⟨h.symm, h2⟩
      · exact absurd h h2
  · have hm : mk c.M x = ⟨c.M, x % c.M⟩ := if_neg h
    simp only [has, hm, decide_eq_true_eq, S.Cong.ext_iff, true_and]
    constructor
    · intro h2; exact .inr ⟨h, h2⟩
    · rintro (⟨h2, _⟩ | ⟨_, h2⟩)
      · exact absurd h2 h
      · exact h2
theorem num_of (R x : Int) (hx : I64 x) (h : IntKind.u64.wrap x = R) : IntKind.i64.wrap R = x := by
  obtain ⟨h1, h2⟩ := hx
  rw [← h, IntKind.wrap_i64, IntKind.wrap_u64]; omega
theorem mod_mod_dvd (x m g : Int) (h : g ∣ m) : x % m % g = x % g := Int.emod_emod_of_dvd x h
theorem B_has (c : S.Cong) (x g : Int) (hx : I64 x) (h : has c x = true) (hd : g ∣ c.M) : B c g = x % g := by
  rcases (has_iff c x).1 h with ⟨h1, h2⟩ | ⟨h1, h2⟩
  · unfold B; rw [if_pos h1, num_of _ _ hx h2]
  · unfold B; rw [if_neg h1, ← h2, mod_mod_dvd x _ _ hd]
theorem G_dvd (a b : Int) (ha : 0 ≤ a) (hb : 0 ≤ b) : G a b ∣ a ∧ G a b ∣ b := by
  obtain ⟨A, rfl⟩ := Int.eq_ofNat_of_zero_le ha
  obtain ⟨B, rfl⟩ := Int.eq_ofNat_of_zero_le hb
  simp only [G, Int.toNat_natCast]
  exact ⟨Int.natCast_dvd_natCast.2 (Nat.gcd_dvd_left _ _), Int.natCast_dvd_natCast.2 (Nat.gcd_dvd_right _ _)⟩
theorem emod_of_dvd_sub (x y m : Int) (h : m ∣ x - y) : x % m = y % m := by
  obtain ⟨k, hk⟩ := h
  rw [show x = y + m * k by omega, Int.add_mul_emod_self_left]
theorem Within_iff (a b : S.Cong) (ha : S.Cong.ok a) (hb : S.Cong.ok b) : S.cong_Within a b = true ↔ (b.M = 0 ∧ a = b) ∨ (b.M ≠ 0 ∧ a.M % b.M = 0 ∧ B a b.M = b.R) := by
  have ha' := (ok_iff a).1 ha; have hb' := (ok_iff b).1 hb
  simp only [cong_Within, cong_Cong_single, eqb]
  by_cases h : b.M = 0
  · rw [show (b.M == 0) = true by simpa using h, cond_true, decide_eq_true_eq]
    constructor
    · intro e; exact .inl ⟨h, e⟩
    · rintro (⟨_, e⟩ | ⟨e, _⟩)
      · exact e
      · exact absurd h e
  · rw [show (b.M == 0) = false from beq_eq_false_iff_ne.2 h, cond_false, tmod_pos _ _ ha'.1.1, by_eq a b.M ha (by omega) hb'.1.2, Bool.and_eq_true, beq_iff_eq, beq_iff_eq]
    constructor
    · rintro ⟨e1, e2⟩; exact .inr ⟨h, e1, e2⟩
    · rintro (⟨e, _⟩ | ⟨_, e1, e2⟩)
      · exact absurd e h
      · exact ⟨e1, e2⟩
section
variable (a b : S.Cong) (ha : S.Cong.ok a) (hb : S.Cong.ok b) (hra : S.ref20_Right a = true) (hrb : S.ref20_Right b = true) (x y : Int) (hx : I64 x) (hy : I64 y) (hax : has a x = true) (hby : has b y = true)
include ha hb hra hrb hx hy hax hby
end
theorem has_z {M R z : Int} (h : M ≠ 0) : has ⟨M, R⟩ z = true ↔ z % M = R := by
  rw [has_iff]; simp [h]
theorem has_c {R z : Int} : has ⟨0, R⟩ z = true ↔ IntKind.u64.wrap z = R := by
  rw [has_iff]; simp
section
variable (a b : S.Cong) (ha : S.Cong.ok a) (hb : S.Cong.ok b) (hra : S.ref20_Right a = true) (hrb : S.ref20_Right b = true)
include ha hb
theorem Add_ok : S.Cong.ok (S.cong_Add a b) := by
  have ha' := (ok_iff a).1 ha; have hb' := (ok_iff b).1 hb
  have g0 := G_pos a.M b.M ha'.1.1 hb'.1.1
  rw [ok_iff]
  simp only [cong_Add, gcd_eq _ _ ha'.1.1 hb'.1.1]
  cases h : (G a.M b.M == 0) with
  | true => dsimp only [cond_true]; rw [IntKind.wrap_u64]; omega
  | false =>
    have hg := nb h
    have hg1 : 0 < G a.M b.M := by omega
    have hg2 : G a.M b.M ≤ 18446744073709551615 := by omega
    have ra := B_range a _ hg1; have rb := B_range b _ hg1
    have e1 : S.cong_Cong_by a (G a.M b.M) = B a (G a.M b.M) := by_eq a _ ha hg1 hg2
    have e2 : S.cong_Cong_by b (G a.M b.M) = B b (G a.M b.M) := by_eq b _ hb hg1 hg2
    have := mod_range (B a (G a.M b.M) + B b (G a.M b.M)) _ hg1
    simp only [e1, e2, plus_eq _ _ _ ra rb hg2, cond_false]; omega
theorem Sub_ok : S.Cong.ok (S.cong_Sub a b) := by
  have ha' := (ok_iff a).1 ha; have hb' := (ok_iff b).1 hb
  have g0 := G_pos a.M b.M ha'.1.1 hb'.1.1
  rw [ok_iff]
  simp only [cong_Sub, gcd_eq _ _ ha'.1.1 hb'.1.1]
  cases h : (G a.M b.M == 0) with
  | true => dsimp only [cond_true]; rw [IntKind.wrap_u64]; omega
  | false =>
    have hg := nb h
    have hg1 : 0 < G a.M b.M := by omega
    have hg2 : G a.M b.M ≤ 18446744073709551615 := by omega
    have ra := B_range a _ hg1; have rb := B_range b _ hg1
    have e1 : S.cong_Cong_by a (G a.M b.M) = B a (G a.M b.M) := by_eq a _ ha hg1 hg2
    have e2 : S.cong_Cong_by b (G a.M b.M) = B b (G a.M b.M) := by_eq b _ hb hg1 hg2
    obtain ⟨v, p⟩ := neg_plus (B a (G a.M b.M)) (B b (G a.M b.M)) _ hg1 ra rb hg2
    have := mod_range (B a (G a.M b.M) - B b (G a.M b.M)) _ hg1
    simp only [e1, e2, v, cond_false]; omega
variable (x y : Int) (hx : I64 x) (hy : I64 y) (hax : has a x = true) (hby : has b y = true)
include hx hy hax hby
theorem consts (h : G a.M b.M = 0) : a.M = 0 ∧ b.M = 0 ∧ IntKind.u64.wrap x = a.R ∧ IntKind.u64.wrap y = b.R := by
  have ha' := (ok_iff a).1 ha; have hb' := (ok_iff b).1 hb
  obtain ⟨hM, hN⟩ := (G_pos a.M b.M ha'.1.1 hb'.1.1).2.2.2.1 h
  refine ⟨hM, hN, ?_, ?_⟩
  · rcases (has_iff a x).1 hax with ⟨_, h⟩ | ⟨h, _⟩
    · exact h
    · exact absurd hM h
  · rcases (has_iff b y).1 hby with ⟨_, h⟩ | ⟨h, _⟩
    · exact h
    · exact absurd hN h
theorem Add_has : has (S.cong_Add a b) (x + y) = true := by
  have ha' := (ok_iff a).1 ha; have hb' := (ok_iff b).1 hb
  have g0 := G_pos a.M b.M ha'.1.1 hb'.1.1
  simp only [cong_Add, gcd_eq _ _ ha'.1.1 hb'.1.1]
  cases h : (G a.M b.M == 0) with
  | true =>
    obtain ⟨_, _, h1, h2⟩ := consts a b ha hb x y hx hy hax hby (by simpa using h)
    rw [cond_true, has_c, ← h1, ← h2]
    rw [IntKind.wrap_u64, IntKind.wrap_u64, IntKind.wrap_u64, IntKind.wrap_u64]; omega
  | false =>
    have hg := nb h
    have hg1 : 0 < G a.M b.M := by omega
    have hg2 : G a.M b.M ≤ 18446744073709551615 := by omega
    have ra := B_range a _ hg1; have rb := B_range b _ hg1
    have e1 : S.cong_Cong_by a (G a.M b.M) = B a (G a.M b.M) := by_eq a _ ha hg1 hg2
    have e2 : S.cong_Cong_by b (G a.M b.M) = B b (G a.M b.M) := by_eq b _ hb hg1 hg2
    obtain ⟨d1, d2⟩ := G_dvd a.M b.M ha'.1.1 hb'.1.1
    simp only [e1, e2, plus_eq _ _ _ ra rb hg2, cond_false]
    rw [has_z hg, B_has a x _ hx hax d1, B_has b y _ hy hby d2, ← Int.add_emod]
theorem Sub_has : has (S.cong_Sub a b) (x - y) = true := by
  have ha' := (ok_iff a).1 ha; have hb' := (ok_iff b).1 hb
  have g0 := G_pos a.M b.M ha'.1.1 hb'.1.1
  simp only [cong_Sub, gcd_eq _ _ ha'.1.1 hb'.1.1]
  cases h : (G a.M b.M == 0) with
  | true =>
    obtain ⟨_, _, h1, h2⟩ := consts a b ha hb x y hx hy hax hby (by simpa using h)
    rw [cond_true, has_c, ← h1, ← h2]
    rw [IntKind.wrap_u64, IntKind.wrap_u64, IntKind.wrap_u64, IntKind.wrap_u64]; omega
  | false =>
    have hg := nb h
    have hg1 : 0 < G a.M b.M := by omega
    have hg2 : G a.M b.M ≤ 18446744073709551615 := by omega
    have ra := B_range a _ hg1; have rb := B_range b _ hg1
    have e1 : S.cong_Cong_by a (G a.M b.M) = B a (G a.M b.M) := by_eq a _ ha hg1 hg2
    have e2 : S.cong_Cong_by b (G a.M b.M) = B b (G a.M b.M) := by_eq b _ hb hg1 hg2
    obtain ⟨d1, d2⟩ := G_dvd a.M b.M ha'.1.1 hb'.1.1
    obtain ⟨v, p⟩ := neg_plus (B a (G a.M b.M)) (B b (G a.M b.M)) _ hg1 ra rb hg2
    simp only [e1, e2, v, cond_false]
    rw [has_z hg, B_has a x _ hx hax d1, B_has b y _ hy hby d2, ← Int.sub_emod]
end
theorem scaled_has (c : S.Cong) (n z : Int) (hc : S.Cong.ok c) (hM : c.M ≠ 0) (hn : I64 n) (h : z % c.M = c.R) : S.Cong.ok (S.cong_Cong_scaled c n) ∧ has (S.cong_Cong_scaled c n) (n * z) = true := by
  have hc' := (ok_iff c).1 hc
  have hn' : -9223372036854775808 ≤ n ∧ n ≤ 9223372036854775807 := hn
  cases h0 : (n == 0) with
  | true =>
    have e : n = 0 := by simpa using h0
    subst e
    simp only [cong_Cong_scaled, h0, cond_true]
    refine ⟨by rw [ok_iff]; decide, ?_⟩
    rw [has_c, Int.zero_mul]; decide
  | false =>
    have hz := nb h0
    have e1 : (bif decide (n < 0) then IntKind.u64.wrap (0 - IntKind.u64.wrap n) else IntKind.u64.wrap n) = if n < 0 then -n else n := by
      by_cases h : n < 0
      · rw [decide_eq_true h, cond_true, if_pos h, IntKind.wrap_u64, IntKind.wrap_u64]; omega
      · rw [decide_eq_false h, cond_false, if_neg h, IntKind.wrap_u64]; omega
    have hA : 1 ≤ (if n < 0 then -n else n) ∧ (if n < 0 then -n else n) ≤ 18446744073709551615 ∧ (if n < 0 then -n else n) ∣ n := by
      split
      · exact ⟨by omega, by omega, ⟨-1, by omega⟩⟩
      · exact ⟨by omega, by omega, ⟨1, by omega⟩⟩
    generalize (if n < 0 then -n else n) = A at *
    have fe1 := fits_eq c.M A hc'.1 (by omega)
    have hp := Int.mul_pos (show 0 < c.M by omega) (show 0 < A by omega)
    have core : ∀ m : Int, 0 < m → m ≤ 18446744073709551615 → m ∣ n * (z - c.R) → S.Cong.ok ⟨m, S.cong_times (S.cong_rest n m) (Int.tmod c.R m) m⟩ ∧ has ⟨m, S.cong_times (S.cong_rest n m) (Int.tmod c.R m) m⟩ (n * z) = true := by
      intro m h1 h2 h3
      have r1 := mod_range n m h1
      have r2 := mod_range c.R m h1
      rw [rest_eq n m hn' h1 h2, tmod_pos _ _ hc'.2.1, (times_both (n % m) (c.R % m) m (by omega) (by omega) h1 h2).2]
      have r3 := mod_range (n % m * (c.R % m)) m h1
      refine ⟨by rw [ok_iff]; dsimp only; omega, ?_⟩
      rw [has_z (by omega), ← Int.mul_emod]
      refine emod_of_dvd_sub _ _ _ ?_
      rw [← Int.mul_sub]; exact h3
    have hd : c.M ∣ z - c.R := by
      rw [← h]; exact ⟨z / c.M, by have := Int.mul_ediv_add_emod z c.M; omega⟩
    by_cases h : c.M * A < 18446744073709551616
    · rw [if_pos h] at fe1
      simp only [cong_Cong_scaled, h0, e1, fe1, Bool.not_true, cond_false]
      exact core _ hp (by omega) (by rw [Int.mul_comm c.M A]; exact Int.mul_dvd_mul hA.2.2 hd)
    · rw [if_neg h] at fe1
      simp only [cong_Cong_scaled, h0, e1, fe1, Bool.not_false, cond_true, cond_false]
      exact core _ (by omega) hc'.1.2 (Int.dvd_trans hd (Int.dvd_mul_left _ _))
theorem has_mod (c : S.Cong) (z : Int) (hM : c.M ≠ 0) (h : has c z = true) : z % c.M = c.R := by
  rcases (has_iff c z).1 h with ⟨e, _⟩ | ⟨_, h⟩
  · exact absurd e hM
  · exact h
theorem has_con (c : S.Cong) (z : Int) (hM : c.M = 0) (h : has c z = true) : IntKind.u64.wrap z = c.R := by
  rcases (has_iff c z).1 h with ⟨_, h⟩ | ⟨e, _⟩
  · exact h
  · exact absurd hM e
theorem Mul_has (a b : S.Cong) (ha : S.Cong.ok a) (hb : S.Cong.ok b) (x y : Int) (hx : I64 x) (hy : I64 y) (hax : has a x = true) (hby : has b y = true) : S.Cong.ok (S.cong_Mul a b) ∧ has (S.cong_Mul a b) (x * y) = true := by
  have ha' := (ok_iff a).1 ha; have hb' := (ok_iff b).1 hb
  have g0 := G_pos a.M b.M ha'.1.1 hb'.1.1
  simp only [cong_Mul, cong_Cong_single, cong_Cong_number]
  by_cases h1 : a.M = 0
  · have e1 := has_con a x h1 hax
    have n1 := num_of _ _ hx e1
    rw [show (a.M == 0) = true by simpa using h1, n1]
    by_cases h2 : b.M = 0
    · have e2 := has_con b y h2 hby
      rw [show (b.M == 0) = true by simpa using h2]
      simp only [Bool.and_self, cond_true]
      refine ⟨by rw [ok_iff]; dsimp only; rw [IntKind.wrap_u64]; omega, ?_⟩
      rw [has_c, ← e1, ← e2, IntKind.wrap_u64, IntKind.wrap_u64, IntKind.wrap_u64, IntKind.wrap_u64, ← Int.mul_emod]
    · rw [show (b.M == 0) = false from beq_eq_false_iff_ne.2 h2]
      simp only [Bool.and_false, cond_true, cond_false]
      exact scaled_has b x y hb h2 hx (has_mod b y h2 hby)
  · rw [show (a.M == 0) = false from beq_eq_false_iff_ne.2 h1]
    by_cases h2 : b.M = 0
    · have e2 := has_con b y h2 hby
      have n2 := num_of _ _ hy e2
      rw [show (b.M == 0) = true by simpa using h2, n2, show x * y = y * x from Int.mul_comm x y]
      simp only [Bool.false_and, cond_true, cond_false]
      exact scaled_has a y x ha h1 hy (has_mod a x h1 hax)
    · rw [show (b.M == 0) = false from beq_eq_false_iff_ne.2 h2]
      simp only [Bool.and_self, cond_false]
      have hm1 := has_mod a x h1 hax; have hm2 := has_mod b y h2 hby
      have hg : G a.M b.M ≠ 0 := fun e => h1 (g0.2.2.2.1 e).1
      have hg1 : 0 < G a.M b.M := by omega
      have hg2 : G a.M b.M ≤ 18446744073709551615 := by omega
      obtain ⟨d1, d2⟩ := G_dvd a.M b.M ha'.1.1 hb'.1.1
      have ra := B_range a _ hg1; have rb := B_range b _ hg1
      have x1 : S.cong_Cong_by a (G a.M b.M) = B a (G a.M b.M) := by_eq a _ ha hg1 hg2
      have x2 : S.cong_Cong_by b (G a.M b.M) = B b (G a.M b.M) := by_eq b _ hb hg1 hg2
      have p1 := G_pos a.M a.R ha'.1.1 ha'.2.1; have p2 := G_pos b.M b.R hb'.1.1 hb'.2.1
      obtain ⟨s1, s2⟩ := G_dvd a.M a.R ha'.1.1 ha'.2.1
      obtain ⟨t1, t2⟩ := G_dvd b.M b.R hb'.1.1 hb'.2.1
      simp only [gcd_eq a.M b.M ha'.1.1 hb'.1.1, gcd_eq a.M a.R ha'.1.1 ha'.2.1, gcd_eq b.M b.R hb'.1.1 hb'.2.1, x1, x2, (times_both _ _ _ (show 0 ≤ B a (G a.M b.M) ∧ B a (G a.M b.M) ≤ 18446744073709551615 by omega) (show 0 ≤ B b (G a.M b.M) ∧ B b (G a.M b.M) ≤ 18446744073709551615 by omega) hg1 hg2).2]
      have dx : G a.M a.R ∣ x := by
        have : x = a.M * (x / a.M) + a.R := by rw [← hm1]; exact (Int.mul_ediv_add_emod x a.M).symm
        rw [this]; exact Int.dvd_add (Int.dvd_trans s1 (Int.dvd_mul_right _ _)) s2
      have dy : G b.M b.R ∣ y := by
        have : y = b.M * (y / b.M) + b.R := by rw [← hm2]; exact (Int.mul_ediv_add_emod y b.M).symm
        rw [this]; exact Int.dvd_add (Int.dvd_trans t1 (Int.dvd_mul_right _ _)) t2
      have f := fits_eq (G a.M a.R) (G b.M b.R) (by omega) (by omega)
      generalize G a.M a.R = s at *
      generalize G b.M b.R = t at *
      have main : S.Cong.ok ⟨G a.M b.M, B a (G a.M b.M) * B b (G a.M b.M) % G a.M b.M⟩ ∧ has ⟨G a.M b.M, B a (G a.M b.M) * B b (G a.M b.M) % G a.M b.M⟩ (x * y) = true := by
        have := mod_range (B a (G a.M b.M) * B b (G a.M b.M)) _ hg1
        refine ⟨by rw [ok_iff]; dsimp only; omega, ?_⟩
        rw [has_z hg, B_has a x _ hx hax d1, B_has b y _ hy hby d2, ← Int.mul_emod]
      by_cases h : s * t < 18446744073709551616
      · rw [if_pos h] at f
        rw [f]
        dsimp only
        by_cases h3 : s * t > G a.M b.M
        · rw [decide_eq_true h3]
          simp only [Bool.and_self, cond_true]
          refine ⟨by rw [ok_iff]; dsimp only; omega, ?_⟩
          rw [has_z (by omega)]
          exact Int.emod_eq_zero_of_dvd (Int.mul_dvd_mul dx dy)
        · rw [decide_eq_false h3]
          simp only [Bool.and_false, cond_false]
          exact main
      · rw [if_neg h] at f
        rw [f]
        simp only [Bool.false_and, cond_false]
        exact main
theorem low_dvd : ∀ (n M : Nat), 0 < M → M < 2 ^ n → (M &&& (2 ^ n - M)) ∣ M ∧ (M &&& (2 ^ n - M)) ∣ 2 ^ n := by
  intro n
  induction n with
  | zero => intro M h0 h1; simp at h1; omega
  | succ n ih =>
    intro M h0 h1
    by_cases ho : M % 2 = 1
    · rw [low_odd n M h1 ho]; exact ⟨Nat.one_dvd _, Nat.one_dvd _⟩
    · obtain ⟨m, rfl⟩ : ∃ m, M = 2 * m := ⟨M / 2, by omega⟩
      have hp : 2 ^ (n + 1) = 2 * 2 ^ n := by rw [Nat.pow_succ, Nat.mul_comm]
      rw [low_even n m h1]
      obtain ⟨i1, i2⟩ := ih m (by omega) (by omega)
      rw [hp]
      exact ⟨Nat.mul_dvd_mul_left 2 i1, Nat.mul_dvd_mul_left 2 i2⟩
theorem Wrapped_has (c : S.Cong) (hc : S.Cong.ok c) (z : Int) (h : has c z = true) (hr : S.ref20_Right c = true) : S.Cong.ok (S.cong_Cong_Wrapped c) ∧ has (S.cong_Cong_Wrapped c) (IntKind.i64.wrap z) = true ∧ S.cong_Within c (S.cong_Cong_Wrapped c) = true := by
  have hc' := (ok_iff c).1 hc
  by_cases h0 : c.M = 0
  · have e : S.cong_Cong_Wrapped c = c := by
      simp only [cong_Cong_Wrapped, cong_Cong_single]
      rw [show (c.M == 0) = true by simpa using h0]; rfl
    rw [e]
    refine ⟨hc, ?_, Within_self c hc hr⟩
    have := has_con c z h0 h
    refine (has_iff c _).2 (.inl ⟨h0, ?_⟩)
    rw [← this, IntKind.wrap_u64, IntKind.wrap_u64, IntKind.wrap_i64]; omega
  · have hz := has_mod c z h0 h
    obtain ⟨M, R⟩ := c
    dsimp only at *
    obtain ⟨m, rfl⟩ := Int.eq_ofNat_of_zero_le hc'.1.1
    have hm0 : 0 < m := by omega
    have hm1 : m < 2 ^ 64 := by omega
    have hp := low_pos 64 m hm0 hm1
    obtain ⟨l1, l2⟩ := low_dvd 64 m hm0 hm1
    have ew : IntKind.u64.wrap (0 - (m : Int)) = ((2 ^ 64 - m : Nat) : Int) := by rw [IntKind.wrap_u64]; omega
    have eb : bits .and .u64 (m : Int) (IntKind.u64.wrap (0 - (m : Int))) = ((m &&& (2 ^ 64 - m) : Nat) : Int) := by
      rw [ew, u64_and _ _ (by omega) (by omega) (by omega) (by omega), Int.toNat_natCast, Int.toNat_natCast]
    have e : S.cong_Cong_Wrapped ⟨(m : Int), R⟩ = ⟨((m &&& (2 ^ 64 - m) : Nat) : Int), R % ((m &&& (2 ^ 64 - m) : Nat) : Int)⟩ := by
      simp only [cong_Cong_Wrapped, cong_Cong_single, eb]
      rw [show ((m : Int) == 0) = false from beq_eq_false_iff_ne.2 h0, cond_false, tmod_pos _ _ hc'.2.1]
    rw [e]
    generalize (m &&& (2 ^ 64 - m)) = q at *
    have d1 : (q : Int) ∣ (m : Int) := Int.natCast_dvd_natCast.2 l1
    have d2 : (q : Int) ∣ (18446744073709551616 : Int) := by
      have := Int.natCast_dvd_natCast.2 l2
      simpa using this
    have hq : (q : Int) ≠ 0 := by omega
    have hqm : q ≤ m := Nat.le_of_dvd hm0 l1
    have hr := mod_range R (q : Int) (by omega)
    have hok : S.Cong.ok ⟨(q : Int), R % q⟩ := by rw [ok_iff]; dsimp only; omega
    refine ⟨hok, ?_, (Within_iff _ _ hc hok).2 (.inr ⟨hq, Int.emod_eq_zero_of_dvd d1, ?_⟩)⟩
    · rw [has_z hq]
      have e1 : IntKind.i64.wrap z % q = z % q := by
        refine emod_of_dvd_sub _ _ _ ?_
        have : ∃ k : Int, IntKind.i64.wrap z - z = 18446744073709551616 * k := ⟨(IntKind.i64.wrap z - z) / 18446744073709551616, by rw [IntKind.wrap_i64]; omega⟩
        obtain ⟨k, hk⟩ := this
        rw [hk]; exact Int.dvd_trans d2 (Int.dvd_mul_right _ _)
      rw [e1, ← hz, mod_mod_dvd z _ _ d1]
    · unfold B; rw [if_neg h0]
end SC
