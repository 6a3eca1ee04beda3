/-
  The reference's numbers as bytes: their value, and what trimming makes of them.
-/
import Derived.Test.YthgfoemcjkokjaaNatPlain6
set_option linter.all false
open Go Vm
namespace S
def val8 : List Int → Int
  | [] => 0
  | x :: l => x + 256 * val8 l
def lim8 (l : List Int) : Prop := ∀ x ∈ l, 0 ≤ x ∧ x ≤ 255

theorem lim_nil8 : lim8 [] := fun _ h => by cases h
theorem lim_cons8 {x : Int} {l : List Int} : lim8 (x :: l) ↔ (0 ≤ x ∧ x ≤ 255) ∧ lim8 l := by
  simp [lim8]
theorem lim_app8 {l k : List Int} : lim8 (l ++ k) ↔ lim8 l ∧ lim8 k := by
  simp only [lim8, List.mem_append]
  exact ⟨fun h => ⟨fun x hx => h x (.inl hx), fun x hx => h x (.inr hx)⟩, fun h x hx => hx.elim (h.1 x) (h.2 x)⟩
theorem val_nonneg8 {l : List Int} (h : lim8 l) : 0 ≤ val8 l := by
  induction l with
  | nil => exact Int.le_refl 0
  | cons x l ih =>
    rw [lim_cons8] at h
    have := ih h.2
    simp only [val8]; omega
theorem val_app8 (l k : List Int) : val8 (l ++ k) = val8 l + 256 ^ l.length * val8 k := by
  induction l with
  | nil => simp [val8]
  | cons x l ih =>
    simp only [List.cons_append, val8, ih, List.length_cons, Int.pow_succ]
    rw [Int.mul_add, ← Int.add_assoc, ← Int.mul_assoc, Int.mul_comm (256 ^ l.length) 256]
theorem val_lt8 {l : List Int} (h : lim8 l) : val8 l < 256 ^ l.length := by
  induction l with
  | nil => simp [val8]
  | cons x l ih =>
    rw [lim_cons8] at h
    have := ih h.2
    simp only [val8, List.length_cons, Int.pow_succ]
    omega

/-- The bytes of a number. -/
def digs8 : Nat → List Int
  | 0 => []
  | n + 1 => (((n + 1) % 256 : Nat) : Int) :: digs8 ((n + 1) / 256)
decreasing_by omega

theorem digs_pos8 {n : Nat} (h : 0 < n) : digs8 n = ((n % 256 : Nat) : Int) :: digs8 (n / 256) := by
  cases n with
  | zero => omega
  | succ n => rw [digs8]
theorem digs_val8 (n : Nat) : val8 (digs8 n) = n ∧ lim8 (digs8 n) := by
  induction n using Nat.strongRecOn with
  | _ n ih =>
    by_cases h : 0 < n
    · rw [digs_pos8 h]
      obtain ⟨h1, h2⟩ := ih (n / 256) (by omega)
      refine ⟨by simp only [val8, h1]; omega, lim_cons8.2 ⟨by omega, h2⟩⟩
    · have : n = 0 := by omega
      subst this
      rw [digs8]; exact ⟨rfl, lim_nil8⟩
/-- A list of limbs whose last is not 0. -/
def top8 (l : List Int) : Prop := ∀ k x, l = k ++ [x] → x ≠ 0
theorem digs_of8 : ∀ (l : List Int), lim8 l → top8 l → digs8 (val8 l).toNat = l := by
  intro l
  induction l with
  | nil => intro _ _; simp [val8, digs8]
  | cons x l ih =>
    intro h ht
    rw [lim_cons8] at h
    have ht' : top8 l := fun k y e => ht (x :: k) y (by rw [e]; rfl)
    have hi := ih h.2 ht'
    have hv := val_nonneg8 h.2
    have hpos : 0 < x + 256 * val8 l := by
      by_cases hl : l = []
      · subst hl
        have := ht [] x rfl
        simp only [val8]; omega
      · by_cases hz : val8 l = 0
        · rw [hz] at hi
          have : l = [] := by rw [← hi]; simp [digs8]
          exact absurd this hl
        · omega
    have e1 : ((x + 256 * val8 l).toNat % 256 : Nat) = x.toNat := by omega
    have e2 : (x + 256 * val8 l).toNat / 256 = (val8 l).toNat := by omega
    simp only [val8]
    rw [digs_pos8 (by omega), e1, e2, hi, Int.toNat_of_nonneg h.1.1]
theorem digs_len8 (n k : Nat) (h : n < 256 ^ k) : (digs8 n).length ≤ k := by
  induction k generalizing n with
  | zero => have : n = 0 := by simpa using h
            subst this; simp [digs8]
  | succ k ih =>
    by_cases hn : 0 < n
    · rw [digs_pos8 hn, List.length_cons]
      have := ih (n / 256) (by rw [Nat.pow_succ] at h; exact Nat.div_lt_of_lt_mul (by rw [Nat.mul_comm]; exact h))
      omega
    · have : n = 0 := by omega
      subst this; simp [digs8]
theorem top_digs8 (n : Nat) : top8 (digs8 n) := by
  induction n using Nat.strongRecOn with
  | _ n ih =>
    by_cases h : 0 < n
    · rw [digs_pos8 h]
      intro k x e
      cases k with
      | nil =>
        simp only [List.nil_append, List.cons.injEq] at e
        obtain ⟨e1, e2⟩ := e
        have hz : n / 256 = 0 := by
          by_cases hq : 0 < n / 256
          · rw [digs_pos8 hq] at e2; cases e2
          · omega
        omega
      | cons y k =>
        simp only [List.cons_append, List.cons.injEq] at e
        exact ih (n / 256) (by omega) k x e.2
    · have : n = 0 := by omega
      subst this
      rw [digs8]
      intro k x e
      cases k <;> cases e


theorem trim_runs : ∀ (n : Nat) (l : List Int), l.length = n → n ≤ 1000000 → lim8 l → Runs ref01_trim_L0_step ref01_trim_L0_vcs ⟨l⟩ ⟨digs8 (val8 l).toNat⟩ := by
  intro n
  induction n with
  | zero =>
    intro l hl _ _
    have : l = [] := List.length_eq_zero_iff.1 hl
    subst this
    exact .done _ _ (by simp [ref01_trim_L0_vcs, All]) (by simp [ref01_trim_L0_step, val8, digs8])
  | succ n ih =>
    intro l hl hn hlim
    obtain ⟨k, x, rfl⟩ : ∃ k x, l = k ++ [x] := by
      rcases List.eq_nil_or_concat l with h | ⟨k, x, h⟩
      · rw [h] at hl; cases hl
      · exact ⟨k, x, by rw [h, List.concat_eq_append]⟩
    have hk : k.length = n := by simpa using hl
    obtain ⟨h1, h2⟩ := lim_app8.1 hlim
    have hx := h2 x (by simp)
    have hl' : ((k ++ [x]).length : Int) = (n : Int) + 1 := by rw [hl]; simp
    have w1 : IntKind.i64.wrap ((n : Int) + 1 - 1) = (n : Int) := by rw [IntWalk.i64_in] <;> omega
    have e1 : (k ++ [x]).getD (Int.toNat (n : Int)) 0 = x := by
      rw [Int.toNat_natCast, List.getD_eq_getElem?_getD, ← hk, List.getElem?_append_right (Nat.le_refl _)]; simp
    have e2 : (k ++ [x]).take (Int.toNat (n : Int)) = k := by
      rw [Int.toNat_natCast, ← hk]; simp
    have hp : ((n : Int) + 1 > 0) := by omega
    by_cases h0 : x = 0
    · subst h0
      have hv : val8 (k ++ [0]) = val8 k := by rw [val_app8]; simp [val8]
      rw [hv]
      refine .next _ ⟨k⟩ _ ?_ ?_ (ih k hk (by omega) h1)
      · simp only [ref01_trim_L0_vcs, All, hl', w1, e1, hp, decide_true, Bool.true_and, beq_self_eq_true, true_implies, and_true, Bool.true_eq_false, false_implies]
        omega
      · simp only [ref01_trim_L0_step, hl', w1, e1, e2, hp, decide_true, Bool.true_and, beq_self_eq_true, cond_true]
    · have hb : (x == 0) = false := beq_eq_false_iff_ne.2 h0
      have ht : top8 (k ++ [x]) := fun k' y e => by
        have := List.append_inj_right' e rfl
        simp at this; rw [← this]; exact h0
      rw [digs_of8 _ hlim ht]
      refine .done _ _ ?_ ?_
      · simp only [ref01_trim_L0_vcs, All, hl', w1, e1, hb, Bool.and_false, hp, decide_true, true_implies, and_true, Bool.false_eq_true, false_implies]
        omega
      · simp only [ref01_trim_L0_step, hl', w1, e1, hb, Bool.and_false, cond_false]

theorem val_len8 {l : List Int} (h : lim8 l) : (digs8 (val8 l).toNat).length ≤ l.length := by
  refine digs_len8 _ _ ?_
  have h1 := val_lt8 h
  have h2 := val_nonneg8 h
  exact (Int.toNat_lt h2).2 (by simpa using h1)
theorem trim_eq (l : List Int) (h : lim8 l) (hn : l.length ≤ 1000000) : S.ref01_trim_pre l ∧ S.ref01_trim l = digs8 (val8 l).toNat := by
  have hr := trim_runs _ l rfl hn h
  have e : ref01_trim_L0_run ⟨l⟩ = ⟨digs8 (val8 l).toNat⟩ := theRun_eq (d := fun x => x) hr
  refine ⟨?_, ?_⟩
  · simp only [ref01_trim_pre, All, List.nil_append, e, and_true, List.length_nil]
    exact ⟨by omega, hr⟩
  · simp only [ref01_trim, List.nil_append, e]
theorem getD_lim8 {l : List Int} (h : lim8 l) (i : Nat) : 0 ≤ l.getD i 0 ∧ l.getD i 0 ≤ 255 := by
  rw [List.getD_eq_getElem?_getD]
  by_cases hi : i < l.length
  · rw [List.getElem?_eq_getElem hi]; exact h _ (List.getElem_mem _)
  · rw [List.getElem?_eq_none (by omega)]; simp
theorem val_take8 (l : List Int) (i : Nat) : val8 (l.take (i + 1)) = val8 (l.take i) + 256 ^ i * l.getD i 0 := by
  by_cases hi : i < l.length
  · rw [List.take_succ_eq_append_getElem hi, val_app8, List.length_take, Nat.min_eq_left (by omega), List.getD_eq_getElem?_getD, List.getElem?_eq_getElem hi]
    simp [val8]
  · rw [List.getD_eq_getElem?_getD, List.getElem?_eq_none (by omega), List.take_of_length_le (by omega), List.take_of_length_le (by omega)]
    simp

theorem val_take_lt8 {l : List Int} (h : lim8 l) (i : Nat) : 0 ≤ val8 (l.take i) ∧ val8 (l.take i) < 256 ^ i := by
  have hl : lim8 (l.take i) := fun x hx => h x (List.mem_of_mem_take hx)
  refine ⟨val_nonneg8 hl, ?_⟩
  have h1 := val_lt8 hl
  refine Int.lt_of_lt_of_le h1 ?_
  have h3 : (l.take i).length ≤ i := by rw [List.length_take]; omega
  have h2 := Nat.pow_le_pow_right (n := 256) (by omega) h3
  have h4 := Int.ofNat_le.2 h2
  simpa using h4
theorem val_set8 : ∀ (l : List Int) (k : Nat) (v : Int), k < l.length → val8 (l.set k v) = val8 l + 256 ^ k * (v - l.getD k 0)
  | [], k, v, h => by simp at h
  | x :: l, 0, v, h => by simp [val8]; omega
  | x :: l, k + 1, v, h => by
    simp only [List.set_cons_succ, val8, List.getD_cons_succ]
    rw [val_set8 l k v (by simpa using h), Int.pow_succ, Int.mul_add, ← Int.add_assoc, ← Int.mul_assoc, Int.mul_comm (256 ^ k) 256]
theorem lim_set8 {l : List Int} (h : lim8 l) (k : Nat) (v : Int) (hv : 0 ≤ v ∧ v ≤ 255) : lim8 (l.set k v) := by
  intro x hx
  rcases List.mem_or_eq_of_mem_set hx with h1 | h1
  · exact h x h1
  · rw [h1]; exact hv
theorem getD_set_ne8 (l : List Int) (k j : Nat) (v : Int) (h : k ≠ j) : (l.set k v).getD j 0 = l.getD j 0 := by
  rw [List.getD_eq_getElem?_getD, List.getD_eq_getElem?_getD, List.getElem?_set_ne h]

end S
