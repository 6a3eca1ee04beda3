/-
  Numbers as limbs: their value, and what trimming makes of them.
-/
import Derived.Test.YthgfoemcjkokjaaNDefs
import Derived.IntWalk
set_option linter.all false
open Go Vm
namespace S

theorem inr_u64 {x : Int} : inr .u64 x ↔ 0 ≤ x ∧ x ≤ 18446744073709551615 := by simp [inr, IntKind.min, IntKind.max, IntKind.signed, IntKind.bits]
theorem inr_i64 {x : Int} : inr .i64 x ↔ -9223372036854775808 ≤ x ∧ x ≤ 9223372036854775807 := by simp [inr, IntKind.min, IntKind.max, IntKind.signed, IntKind.bits]

def val : List Int → Int
  | [] => 0
  | x :: l => x + 18446744073709551616 * val l
def lim (l : List Int) : Prop := ∀ x ∈ l, 0 ≤ x ∧ x ≤ 18446744073709551615

theorem lim_nil : lim [] := fun _ h => by cases h
theorem lim_cons {x : Int} {l : List Int} : lim (x :: l) ↔ (0 ≤ x ∧ x ≤ 18446744073709551615) ∧ lim l := by
  simp [lim]
theorem lim_app {l k : List Int} : lim (l ++ k) ↔ lim l ∧ lim k := by
  simp only [lim, List.mem_append]
  exact ⟨fun h => ⟨fun x hx => h x (.inl hx), fun x hx => h x (.inr hx)⟩, fun h x hx => hx.elim (h.1 x) (h.2 x)⟩
theorem val_nonneg {l : List Int} (h : lim l) : 0 ≤ val l := by
  induction l with
  | nil => exact Int.le_refl 0
  | cons x l ih =>
    rw [lim_cons] at h
    have := ih h.2
    simp only [val]; omega
theorem val_app (l k : List Int) : val (l ++ k) = val l + 18446744073709551616 ^ l.length * val k := by
  induction l with
  | nil => simp [val]
  | cons x l ih =>
    simp only [List.cons_append, val, ih, List.length_cons, Int.pow_succ]
    rw [Int.mul_add, ← Int.add_assoc, ← Int.mul_assoc, Int.mul_comm (18446744073709551616 ^ l.length) 18446744073709551616]
theorem val_lt {l : List Int} (h : lim l) : val l < 18446744073709551616 ^ l.length := by
  induction l with
  | nil => simp [val]
  | cons x l ih =>
    rw [lim_cons] at h
    have := ih h.2
    simp only [val, List.length_cons, Int.pow_succ]
    omega

/-- The limbs of a number. -/
def digs : Nat → List Int
  | 0 => []
  | n + 1 => (((n + 1) % 18446744073709551616 : Nat) : Int) :: digs ((n + 1) / 18446744073709551616)
decreasing_by omega

theorem digs_pos {n : Nat} (h : 0 < n) : digs n = ((n % 18446744073709551616 : Nat) : Int) :: digs (n / 18446744073709551616) := by
  cases n with
  | zero => omega
  | succ n => rw [digs]
theorem digs_val (n : Nat) : val (digs n) = n ∧ lim (digs n) := by
  induction n using Nat.strongRecOn with
  | _ n ih =>
    by_cases h : 0 < n
    · rw [digs_pos h]
      obtain ⟨h1, h2⟩ := ih (n / 18446744073709551616) (by omega)
      refine ⟨by simp only [val, h1]; omega, lim_cons.2 ⟨by omega, h2⟩⟩
    · have : n = 0 := by omega
      subst this
      rw [digs]; exact ⟨rfl, lim_nil⟩
/-- A list of limbs whose last is not 0. -/
def top (l : List Int) : Prop := ∀ k x, l = k ++ [x] → x ≠ 0
theorem digs_of : ∀ (l : List Int), lim l → top l → digs (val l).toNat = l := by
  intro l
  induction l with
  | nil => intro _ _; simp [val, digs]
  | cons x l ih =>
    intro h ht
    rw [lim_cons] at h
    have ht' : top l := fun k y e => ht (x :: k) y (by rw [e]; rfl)
    have hi := ih h.2 ht'
    have hv := val_nonneg h.2
    have hpos : 0 < x + 18446744073709551616 * val l := by
      by_cases hl : l = []
      · subst hl
        have := ht [] x rfl
        simp only [val]; omega
      · by_cases hz : val l = 0
        · rw [hz] at hi
          have : l = [] := by rw [← hi]; simp [digs]
          exact absurd this hl
        · omega
    have e1 : ((x + 18446744073709551616 * val l).toNat % 18446744073709551616 : Nat) = x.toNat := by omega
    have e2 : (x + 18446744073709551616 * val l).toNat / 18446744073709551616 = (val l).toNat := by omega
    simp only [val]
    rw [digs_pos (by omega), e1, e2, hi, Int.toNat_of_nonneg h.1.1]
theorem digs_len (n k : Nat) (h : n < 18446744073709551616 ^ k) : (digs n).length ≤ k := by
  induction k generalizing n with
  | zero => have : n = 0 := by simpa using h
            subst this; simp [digs]
  | succ k ih =>
    by_cases hn : 0 < n
    · rw [digs_pos hn, List.length_cons]
      have := ih (n / 18446744073709551616) (by rw [Nat.pow_succ] at h; exact Nat.div_lt_of_lt_mul (by rw [Nat.mul_comm]; exact h))
      omega
    · have : n = 0 := by omega
      subst this; simp [digs]
theorem top_digs (n : Nat) : top (digs n) := by
  induction n using Nat.strongRecOn with
  | _ n ih =>
    by_cases h : 0 < n
    · rw [digs_pos h]
      intro k x e
      cases k with
      | nil =>
        simp only [List.nil_append, List.cons.injEq] at e
        obtain ⟨e1, e2⟩ := e
        have hz : n / 18446744073709551616 = 0 := by
          by_cases hq : 0 < n / 18446744073709551616
          · rw [digs_pos hq] at e2; cases e2
          · omega
        omega
      | cons y k =>
        simp only [List.cons_append, List.cons.injEq] at e
        exact ih (n / 18446744073709551616) (by omega) k x e.2
    · have : n = 0 := by omega
      subst this
      rw [digs]
      intro k x e
      cases k <;> cases e

theorem Limbs_runs : ∀ (n : Nat) (l : List Int), l.length = n → n ≤ 1000000 → lim l → Runs nat_Limbs_L0_step nat_Limbs_L0_vcs ⟨l⟩ ⟨digs (val l).toNat⟩ := by
  intro n
  induction n with
  | zero =>
    intro l hl _ _
    have : l = [] := List.length_eq_zero_iff.1 hl
    subst this
    exact .done _ _ (by simp [nat_Limbs_L0_vcs, All]) (by simp [nat_Limbs_L0_step, val, digs])
  | succ n ih =>
    intro l hl hn hlim
    obtain ⟨k, x, rfl⟩ : ∃ k x, l = k ++ [x] := by
      rcases List.eq_nil_or_concat l with h | ⟨k, x, h⟩
      · rw [h] at hl; cases hl
      · exact ⟨k, x, by rw [h, List.concat_eq_append]⟩
    have hk : k.length = n := by simpa using hl
    obtain ⟨h1, h2⟩ := lim_app.1 hlim
    have hx := h2 x (by simp)
    have hl' : ((k ++ [x]).length : Int) = (n : Int) + 1 := by rw [hl]; simp
    have w1 : IntKind.i64.wrap ((n : Int) + 1 - 1) = (n : Int) := by rw [IntWalk.i64_in] <;> omega
    have e1 : (k ++ [x]).getD (Int.toNat (n : Int)) 0 = x := by
      rw [Int.toNat_natCast, List.getD_eq_getElem?_getD, ← hk, List.getElem?_append_right (Nat.le_refl _)]; simp
    have e2 : ((k ++ [x]).take (Int.toNat (n : Int))).drop (Int.toNat 0) = k := by
      rw [Int.toNat_natCast, ← hk]; simp
    have hp : ((n : Int) + 1 > 0) := by omega
    by_cases h0 : x = 0
    · subst h0
      have hv : val (k ++ [0]) = val k := by rw [val_app]; simp [val]
      rw [hv]
      refine .next _ ⟨k⟩ _ ?_ ?_ (ih k hk (by omega) h1)
      · simp only [nat_Limbs_L0_vcs, All, hl', w1, e1, hp, decide_true, Bool.true_and, beq_self_eq_true, true_implies, and_true, Bool.true_eq_false, false_implies]
        omega
      · simp only [nat_Limbs_L0_step, hl', w1, e1, e2, hp, decide_true, Bool.true_and, beq_self_eq_true, cond_true]
    · have hb : (x == 0) = false := beq_eq_false_iff_ne.2 h0
      have ht : top (k ++ [x]) := fun k' y e => by
        have := List.append_inj_right' e rfl
        simp at this; rw [← this]; exact h0
      rw [digs_of _ hlim ht]
      refine .done _ _ ?_ ?_
      · simp only [nat_Limbs_L0_vcs, All, hl', w1, e1, hb, Bool.and_false, hp, decide_true, true_implies, and_true, Bool.false_eq_true, false_implies]
        omega
      · simp only [nat_Limbs_L0_step, hl', w1, e1, hb, Bool.and_false, cond_false]

theorem Clone_pre (l : List Int) (h : l.length ≤ 1000000) : S.slices_Cloneuint64_uint64_pre l := by
  simp only [slices_Cloneuint64_uint64_pre, List.length_nil]; omega
theorem val_len {l : List Int} (h : lim l) : (digs (val l).toNat).length ≤ l.length := by
  refine digs_len _ _ ?_
  have h1 := val_lt h
  have h2 := val_nonneg h
  exact (Int.toNat_lt h2).2 (by simpa using h1)
theorem Limbs_eq (l : List Int) (h : lim l) (hn : l.length ≤ 1000000) : S.nat_Limbs_pre l ∧ S.nat_Limbs l = ⟨digs (val l).toNat⟩ := by
  have hr := Limbs_runs _ l rfl hn h
  have e : nat_Limbs_L0_run ⟨l⟩ = ⟨digs (val l).toNat⟩ := theRun_eq (d := fun x => x) hr
  refine ⟨?_, ?_⟩
  · simp only [nat_Limbs_pre, All, e, and_true]
    exact ⟨hr, Clone_pre _ (by have := val_len h; omega)⟩
  · simp only [nat_Limbs, e, slices_Cloneuint64_uint64]
end S
