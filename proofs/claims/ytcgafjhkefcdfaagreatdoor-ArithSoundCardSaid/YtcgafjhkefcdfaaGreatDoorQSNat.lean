/-
  Printed by a program out of the plain texts of another seat: what the smaller packages' functions compute, in plain words. Conditions: those that each theorem states.
-/
import Derived.Test.YtcgafjhkefcdfaaGreatDoorQSDefs
import Derived.IntWalk
import Derived.Laws.Bits
set_option linter.all false
open Go Vm
@[ext] structure S.ref01_trim_L0 where
  out : (List Int)
def S.ref01_trim_L0_step (x : S.ref01_trim_L0) : S.ref01_trim_L0 ⊕ (S.ref01_trim_L0) :=
  let b1 : Bool := decide ((x.out.length : Int) > 0)
  let t2 : Int := IntKind.i64.wrap ((x.out.length : Int) - 1)
  let e3 : Int := x.out.getD (Int.toNat t2) 0
  let b4 : Bool := e3 == 0
  let p5 : Bool := (b1 && b4)
  let t6 : Int := IntKind.i64.wrap ((x.out.length : Int) - 1)
  let l7 : (List Int) := x.out.take (Int.toNat t6)
  (bif p5 then (.inl ⟨l7⟩) else (.inr ⟨x.out⟩))
def S.ref01_trim_L0_vcs (x : S.ref01_trim_L0) : Prop :=
  let b1 : Bool := decide ((x.out.length : Int) > 0)
  let t2 : Int := IntKind.i64.wrap ((x.out.length : Int) - 1)
  let e3 : Int := x.out.getD (Int.toNat t2) 0
  let b4 : Bool := e3 == 0
  let p5 : Bool := (b1 && b4)
  let t6 : Int := IntKind.i64.wrap ((x.out.length : Int) - 1)
  (All [(b1 = true → ((0 : Int) ≤ t2 ∧ t2 < (x.out.length : Int)))] ∧ ((p5 = true → (All [(0 : Int) ≤ t6, t6 ≤ (x.out.length : Int)] ∧ True)) ∧ (p5 = false → True)))
noncomputable def S.ref01_trim_L0_run (x : S.ref01_trim_L0) : S.ref01_trim_L0 := theRun (fun x => x) S.ref01_trim_L0_step S.ref01_trim_L0_vcs x
noncomputable def S.ref01_trim (l : (List Int)) : (List Int) :=
  let l1 : List Int := ([] : List Int) ++ l
  let x2 : S.ref01_trim_L0 := (⟨l1⟩ : S.ref01_trim_L0)
  let y3 : S.ref01_trim_L0 := S.ref01_trim_L0_run x2
  y3.out
def S.ref01_trim_pre (l : (List Int)) : Prop :=
  let l1 : List Int := ([] : List Int) ++ l
  let x2 : S.ref01_trim_L0 := (⟨l1⟩ : S.ref01_trim_L0)
  (All [((([] : List Int).length + l.length : Nat) : Int) * 1 ≤ 140737488355328, Runs S.ref01_trim_L0_step S.ref01_trim_L0_vcs x2 (S.ref01_trim_L0_run x2)] ∧ True)
@[ext] structure S.ref01_Of_L2 where
  n : Int
  k : Int
  out : (List Int)
def S.ref01_Of_L2_step (x : S.ref01_Of_L2) : S.ref01_Of_L2 ⊕ (S.ref01_Of_L2) :=
  let b1 : Bool := decide (x.k < 8)
  let t2 : Int := Int.tmod x.n 256
  let t3 : Int := IntKind.u8.wrap t2
  let l4 : List Int := x.out ++ ([t3] : List Int)
  let t5 : Int := IntKind.u64.wrap (Int.tdiv x.n 256)
  let t6 : Int := IntKind.i64.wrap (x.k + 1)
  (bif b1 then (.inl ⟨t5, t6, l4⟩) else (.inr ⟨x.n, x.k, x.out⟩))
def S.ref01_Of_L2_vcs (x : S.ref01_Of_L2) : Prop :=
  let b1 : Bool := decide (x.k < 8)
  let t2 : Int := Int.tmod x.n 256
  let t3 : Int := IntKind.u8.wrap t2
  ((b1 = true → (All [((x.out.length + ([t3] : List Int).length : Nat) : Int) * 1 ≤ 140737488355328] ∧ True)) ∧ (b1 = false → True))
noncomputable def S.ref01_Of_L2_run (x : S.ref01_Of_L2) : S.ref01_Of_L2 := theRun (fun x => x) S.ref01_Of_L2_step S.ref01_Of_L2_vcs x
@[ext] structure S.ref01_Of_L0 where
  l : (List Int)
  i : Int
  out : (List Int)
noncomputable def S.ref01_Of_L0_step (x : S.ref01_Of_L0) : S.ref01_Of_L0 ⊕ (S.ref01_Of_L0) :=
  let b1 : Bool := decide (x.i < (x.l.length : Int))
  let e2 : Int := x.l.getD (Int.toNat x.i) 0
  let x3 : S.ref01_Of_L2 := (⟨e2, 0, x.out⟩ : S.ref01_Of_L2)
  let y4 : S.ref01_Of_L2 := S.ref01_Of_L2_run x3
  let t5 : Int := IntKind.i64.wrap (x.i + 1)
  (bif b1 then (.inl ⟨x.l, t5, y4.out⟩) else (.inr ⟨x.l, x.i, x.out⟩))
noncomputable def S.ref01_Of_L0_vcs (x : S.ref01_Of_L0) : Prop :=
  let b1 : Bool := decide (x.i < (x.l.length : Int))
  let e2 : Int := x.l.getD (Int.toNat x.i) 0
  let x3 : S.ref01_Of_L2 := (⟨e2, 0, x.out⟩ : S.ref01_Of_L2)
  ((b1 = true → (All [(0 : Int) ≤ x.i, x.i < (x.l.length : Int), Runs S.ref01_Of_L2_step S.ref01_Of_L2_vcs x3 (S.ref01_Of_L2_run x3)] ∧ True)) ∧ (b1 = false → True))
noncomputable def S.ref01_Of_L0_run (x : S.ref01_Of_L0) : S.ref01_Of_L0 := theRun (fun x => x) S.ref01_Of_L0_step S.ref01_Of_L0_vcs x
noncomputable def S.ref01_Of (l : (List Int)) : (List Int) :=
  let x1 : S.ref01_Of_L0 := (⟨l, 0, ([] : List Int)⟩ : S.ref01_Of_L0)
  let y2 : S.ref01_Of_L0 := S.ref01_Of_L0_run x1
  let r3 : (List Int) := S.ref01_trim y2.out
  r3
def S.ref01_Of_pre (l : (List Int)) : Prop :=
  let x1 : S.ref01_Of_L0 := (⟨l, 0, ([] : List Int)⟩ : S.ref01_Of_L0)
  let y2 : S.ref01_Of_L0 := S.ref01_Of_L0_run x1
  (All [Runs S.ref01_Of_L0_step S.ref01_Of_L0_vcs x1 (S.ref01_Of_L0_run x1), S.ref01_trim_pre y2.out] ∧ True)
@[ext] structure S.ref01_Limbs_L2 where
  n : (List Int)
  i : Int
  vx : Int
  k : Int
def S.ref01_Limbs_L2_step (x : S.ref01_Limbs_L2) : S.ref01_Limbs_L2 ⊕ (S.ref01_Limbs_L2) :=
  let b1 : Bool := decide (x.k ≥ x.i)
  let t2 : Int := IntKind.u64.wrap (x.vx * 256)
  let e3 : Int := x.n.getD (Int.toNat x.k) 0
  let t4 : Int := IntKind.u64.wrap e3
  let t5 : Int := IntKind.u64.wrap (t2 + t4)
  let t6 : Int := IntKind.i64.wrap (x.k - 1)
  (bif b1 then (.inl ⟨x.n, x.i, t5, t6⟩) else (.inr ⟨x.n, x.i, x.vx, x.k⟩))
def S.ref01_Limbs_L2_vcs (x : S.ref01_Limbs_L2) : Prop :=
  let b1 : Bool := decide (x.k ≥ x.i)
  ((b1 = true → (All [(0 : Int) ≤ x.k, x.k < (x.n.length : Int)] ∧ True)) ∧ (b1 = false → True))
noncomputable def S.ref01_Limbs_L2_run (x : S.ref01_Limbs_L2) : S.ref01_Limbs_L2 := theRun (fun x => x) S.ref01_Limbs_L2_step S.ref01_Limbs_L2_vcs x
@[ext] structure S.ref01_Limbs_L0 where
  n : (List Int)
  i : Int
  out : (List Int)
noncomputable def S.ref01_Limbs_L0_step (x : S.ref01_Limbs_L0) : S.ref01_Limbs_L0 ⊕ (S.ref01_Limbs_L0) :=
  let b1 : Bool := decide (x.i < (x.n.length : Int))
  let t2 : Int := IntKind.i64.wrap (x.i + 8)
  let m3 : Int := if t2 < (x.n.length : Int) then t2 else (x.n.length : Int)
  let t4 : Int := IntKind.i64.wrap (m3 - 1)
  let x5 : S.ref01_Limbs_L2 := (⟨x.n, x.i, 0, t4⟩ : S.ref01_Limbs_L2)
  let y6 : S.ref01_Limbs_L2 := S.ref01_Limbs_L2_run x5
  let l7 : List Int := x.out ++ ([y6.vx] : List Int)
  let t8 : Int := IntKind.i64.wrap (y6.i + 8)
  (bif b1 then (.inl ⟨y6.n, t8, l7⟩) else (.inr ⟨x.n, x.i, x.out⟩))
noncomputable def S.ref01_Limbs_L0_vcs (x : S.ref01_Limbs_L0) : Prop :=
  let b1 : Bool := decide (x.i < (x.n.length : Int))
  let t2 : Int := IntKind.i64.wrap (x.i + 8)
  let m3 : Int := if t2 < (x.n.length : Int) then t2 else (x.n.length : Int)
  let t4 : Int := IntKind.i64.wrap (m3 - 1)
  let x5 : S.ref01_Limbs_L2 := (⟨x.n, x.i, 0, t4⟩ : S.ref01_Limbs_L2)
  let y6 : S.ref01_Limbs_L2 := S.ref01_Limbs_L2_run x5
  ((b1 = true → (All [Runs S.ref01_Limbs_L2_step S.ref01_Limbs_L2_vcs x5 (S.ref01_Limbs_L2_run x5), ((x.out.length + ([y6.vx] : List Int).length : Nat) : Int) * 8 ≤ 140737488355328] ∧ True)) ∧ (b1 = false → True))
namespace SN
open S
theorem inr_i64 {x : Int} : inr .i64 x ↔ -9223372036854775808 ≤ x ∧ x ≤ 9223372036854775807 := by simp [inr, IntKind.min, IntKind.max, IntKind.signed, IntKind.bits]
def val : List Int → Int
  | [] => 0
  | x :: l => x + 18446744073709551616 * val l
def lim (l : List Int) : Prop := ∀ x ∈ l, 0 ≤ x ∧ x ≤ 18446744073709551615
theorem lim_nil : lim [] := fun _ h => by cases h
theorem lim_cons {x : Int} {l : List Int} : lim (x :: l) ↔ (0 ≤ x ∧ x ≤ 18446744073709551615) ∧ lim l := by
  simp [lim]
theorem lim_app {l k : List Int} : lim (l ++ k) ↔ lim l ∧ lim k := by
  simp only [lim, List.mem_append]
  exact ⟨fun h => ⟨fun x hx => h x (.inl hx), fun x hx => h x (.inr hx)⟩, fun h x hx => hx.elim (h.1 x) (h.2 x)⟩
theorem val_app (l k : List Int) : val (l ++ k) = val l + 18446744073709551616 ^ l.length * val k := by
  induction l with
  | nil => simp [val]
  | cons x l ih =>
    simp only [List.cons_append, val, ih, List.length_cons, Int.pow_succ]
    rw [Int.mul_add, ← Int.add_assoc, ← Int.mul_assoc, Int.mul_comm (18446744073709551616 ^ l.length) 18446744073709551616]
/-- The limbs of a number. -/
def digs : Nat → List Int
  | 0 => []
  | n + 1 => (((n + 1) % 18446744073709551616 : Nat) : Int) :: digs ((n + 1) / 18446744073709551616)
decreasing_by omega
theorem digs_pos {n : Nat} (h : 0 < n) : digs n = ((n % 18446744073709551616 : Nat) : Int) :: digs (n / 18446744073709551616) := by
  cases n with
  | zero => omega
  | succ n => rw [digs]
/-- A list of limbs whose last is not 0. -/
def top (l : List Int) : Prop := ∀ k x, l = k ++ [x] → x ≠ 0
theorem digs_len (n k : Nat) (h : n < 18446744073709551616 ^ k) : (digs n).length ≤ k := by
  induction k generalizing n with
  | zero => have : n = 0 := by simpa using h
            subst this; simp [digs]
  | succ k ih =>
    by_cases hn : 0 < n
    · rw [digs_pos hn, List.length_cons]
      have := ih (n / 18446744073709551616) (by rw [Nat.pow_succ] at h; exact Nat.div_lt_of_lt_mul (by rw [Nat.mul_comm]; exact h))
      omega
    · have : n = 0 := by omega
      subst this; simp [digs]
theorem getD_lim {l : List Int} (h : lim l) (i : Nat) : 0 ≤ l.getD i 0 ∧ l.getD i 0 ≤ 18446744073709551615 := by
  rw [List.getD_eq_getElem?_getD]
  by_cases hi : i < l.length
  · rw [List.getElem?_eq_getElem hi]; exact h _ (List.getElem_mem _)
  · rw [List.getElem?_eq_none (by omega)]; simp
theorem val_take (l : List Int) (i : Nat) : val (l.take (i + 1)) = val (l.take i) + 18446744073709551616 ^ i * l.getD i 0 := by
  by_cases hi : i < l.length
  · rw [List.take_succ_eq_append_getElem hi, val_app, List.length_take, Nat.min_eq_left (by omega), List.getD_eq_getElem?_getD, List.getElem?_eq_getElem hi]
    simp [val]
  · rw [List.getD_eq_getElem?_getD, List.getElem?_eq_none (by omega), List.take_of_length_le (by omega), List.take_of_length_le (by omega)]
    simp
theorem Mul64_eq (x y : Int) (hx : 0 ≤ x ∧ x ≤ 18446744073709551615) (hy : 0 ≤ y ∧ y ≤ 18446744073709551615) : S.math_bits_Mul64 x y = (x * y / 18446744073709551616, x * y % 18446744073709551616) := by
  have f : ∀ z : Int, Int.fdiv z (2 ^ min (Int.toNat 32) 64) = z / 4294967296 := fun z => by
    rw [show (2 : Int) ^ min (Int.toNat 32) 64 = 4294967296 by decide]; exact Int.fdiv_eq_ediv_of_nonneg _ (by decide)
  have m := mul64_arith x y hx.1 (by omega) hy.1 (by omega)
  simp only [math_bits_Mul64, f, IntKind.wrap_u64]
  rw [and_low32 x hx.1 (by omega), and_low32 y hy.1 (by omega), and_low32 _ (Int.emod_nonneg _ (by decide)) (Int.emod_lt_of_pos _ (by decide)), m]
def small (n : Nat) : Prop := (digs n).length ≤ 100000
/-- Numbers of at most k limbs. -/
def upto (k n : Nat) : Prop := n < 18446744073709551616 ^ k
theorem upto_small {k n : Nat} (h : upto k n) (hk : k ≤ 100000) : small n := Nat.le_trans (digs_len n k h) hk
theorem s1 {n : Nat} (h : n < 18446744073709551616) : small n := upto_small (k := 1) (by unfold upto; rw [Nat.pow_one]; exact h) (by omega)
def val8 : List Int → Int
  | [] => 0
  | x :: l => x + 256 * val8 l
def lim8 (l : List Int) : Prop := ∀ x ∈ l, 0 ≤ x ∧ x ≤ 255
theorem lim_nil8 : lim8 [] := fun _ h => by cases h
theorem lim_cons8 {x : Int} {l : List Int} : lim8 (x :: l) ↔ (0 ≤ x ∧ x ≤ 255) ∧ lim8 l := by
  simp [lim8]
theorem lim_app8 {l k : List Int} : lim8 (l ++ k) ↔ lim8 l ∧ lim8 k := by
  simp only [lim8, List.mem_append]
  exact ⟨fun h => ⟨fun x hx => h x (.inl hx), fun x hx => h x (.inr hx)⟩, fun h x hx => hx.elim (h.1 x) (h.2 x)⟩
theorem val_nonneg8 {l : List Int} (h : lim8 l) : 0 ≤ val8 l := by
  induction l with
  | nil => exact Int.le_refl 0
  | cons x l ih =>
    rw [lim_cons8] at h
    have := ih h.2
    simp only [val8]; omega
theorem val_app8 (l k : List Int) : val8 (l ++ k) = val8 l + 256 ^ l.length * val8 k := by
  induction l with
  | nil => simp [val8]
  | cons x l ih =>
    simp only [List.cons_append, val8, ih, List.length_cons, Int.pow_succ]
    rw [Int.mul_add, ← Int.add_assoc, ← Int.mul_assoc, Int.mul_comm (256 ^ l.length) 256]
/-- The bytes of a number. -/
def digs8 : Nat → List Int
  | 0 => []
  | n + 1 => (((n + 1) % 256 : Nat) : Int) :: digs8 ((n + 1) / 256)
decreasing_by omega
theorem digs_pos8 {n : Nat} (h : 0 < n) : digs8 n = ((n % 256 : Nat) : Int) :: digs8 (n / 256) := by
  cases n with
  | zero => omega
  | succ n => rw [digs8]
theorem digs_val8 (n : Nat) : val8 (digs8 n) = n ∧ lim8 (digs8 n) := by
  induction n using Nat.strongRecOn with
  | _ n ih =>
    by_cases h : 0 < n
    · rw [digs_pos8 h]
      obtain ⟨h1, h2⟩ := ih (n / 256) (by omega)
      refine ⟨by simp only [val8, h1]; omega, lim_cons8.2 ⟨by omega, h2⟩⟩
    · have : n = 0 := by omega
      subst this
      rw [digs8]; exact ⟨rfl, lim_nil8⟩
/-- A list of limbs whose last is not 0. -/
def top8 (l : List Int) : Prop := ∀ k x, l = k ++ [x] → x ≠ 0
theorem digs_of8 : ∀ (l : List Int), lim8 l → top8 l → digs8 (val8 l).toNat = l := by
  intro l
  induction l with
  | nil => intro _ _; simp [val8, digs8]
  | cons x l ih =>
    intro h ht
    rw [lim_cons8] at h
    have ht' : top8 l := fun k y e => ht (x :: k) y (by rw [e]; rfl)
    have hi := ih h.2 ht'
    have hv := val_nonneg8 h.2
    have hpos : 0 < x + 256 * val8 l := by
      by_cases hl : l = []
      · subst hl
        have := ht [] x rfl
        simp only [val8]; omega
      · by_cases hz : val8 l = 0
        · rw [hz] at hi
          have : l = [] := by rw [← hi]; simp [digs8]
          exact absurd this hl
        · omega
    have e1 : ((x + 256 * val8 l).toNat % 256 : Nat) = x.toNat := by omega
    have e2 : (x + 256 * val8 l).toNat / 256 = (val8 l).toNat := by omega
    simp only [val8]
    rw [digs_pos8 (by omega), e1, e2, hi, Int.toNat_of_nonneg h.1.1]
theorem digs_len8 (n k : Nat) (h : n < 256 ^ k) : (digs8 n).length ≤ k := by
  induction k generalizing n with
  | zero => have : n = 0 := by simpa using h
            subst this; simp [digs8]
  | succ k ih =>
    by_cases hn : 0 < n
    · rw [digs_pos8 hn, List.length_cons]
      have := ih (n / 256) (by rw [Nat.pow_succ] at h; exact Nat.div_lt_of_lt_mul (by rw [Nat.mul_comm]; exact h))
      omega
    · have : n = 0 := by omega
      subst this; simp [digs8]
theorem trim_runs : ∀ (n : Nat) (l : List Int), l.length = n → n ≤ 1000000 → lim8 l → Runs ref01_trim_L0_step ref01_trim_L0_vcs ⟨l⟩ ⟨digs8 (val8 l).toNat⟩ := by
  intro n
  induction n with
  | zero =>
    intro l hl _ _
    have : l = [] := List.length_eq_zero_iff.1 hl
    subst this
    exact .done _ _ (by simp [ref01_trim_L0_vcs, All]) (by simp [ref01_trim_L0_step, val8, digs8])
  | succ n ih =>
    intro l hl hn hlim
    obtain ⟨k, x, rfl⟩ : ∃ k x, l = k ++ [x] := by
      rcases List.eq_nil_or_concat l with h | ⟨k, x, h⟩
      · rw [h] at hl; cases hl
      · exact ⟨k, x, by rw [h, List.concat_eq_append]⟩
    have hk : k.length = n := by simpa using hl
    obtain ⟨h1, h2⟩ := lim_app8.1 hlim
    have hx := h2 x (by simp)
    have hl' : ((k ++ [x]).length : Int) = (n : Int) + 1 := by rw [hl]; simp
    have w1 : IntKind.i64.wrap ((n : Int) + 1 - 1) = (n : Int) := by rw [IntWalk.i64_in] <;> omega
    have e1 : (k ++ [x]).getD (Int.toNat (n : Int)) 0 = x := by
      rw [Int.toNat_natCast, List.getD_eq_getElem?_getD, ← hk, List.getElem?_append_right (Nat.le_refl _)]; simp
    have e2 : (k ++ [x]).take (Int.toNat (n : Int)) = k := by
      rw [Int.toNat_natCast, ← hk]; simp
    have hp : ((n : Int) + 1 > 0) := by omega
    by_cases h0 : x = 0
    · subst h0
      have hv : val8 (k ++ [0]) = val8 k := by rw [val_app8]; simp [val8]
      rw [hv]
      refine .next _ ⟨k⟩ _ ?_ ?_ (ih k hk (by omega) h1)
      · simp only [ref01_trim_L0_vcs, All, hl', w1, e1, hp, decide_true, Bool.true_and, beq_self_eq_true, true_implies, and_true, Bool.true_eq_false, false_implies]
        omega
      · simp only [ref01_trim_L0_step, hl', w1, e1, e2, hp, decide_true, Bool.true_and, beq_self_eq_true, cond_true]
    · have hb : (x == 0) = false := beq_eq_false_iff_ne.2 h0
      have ht : top8 (k ++ [x]) := fun k' y e => by
        have := List.append_inj_right' e rfl
        simp at this; rw [← this]; exact h0
      rw [digs_of8 _ hlim ht]
      refine .done _ _ ?_ ?_
      · simp only [ref01_trim_L0_vcs, All, hl', w1, e1, hb, Bool.and_false, hp, decide_true, true_implies, and_true, Bool.false_eq_true, false_implies]
        omega
      · simp only [ref01_trim_L0_step, hl', w1, e1, hb, Bool.and_false, cond_false]
theorem trim_eq (l : List Int) (h : lim8 l) (hn : l.length ≤ 1000000) : S.ref01_trim_pre l ∧ S.ref01_trim l = digs8 (val8 l).toNat := by
  have hr := trim_runs _ l rfl hn h
  have e : ref01_trim_L0_run ⟨l⟩ = ⟨digs8 (val8 l).toNat⟩ := theRun_eq (d := fun x => x) hr
  refine ⟨?_, ?_⟩
  · simp only [ref01_trim_pre, All, List.nil_append, e, and_true, List.length_nil]
    exact ⟨by omega, hr⟩
  · simp only [ref01_trim, List.nil_append, e]
theorem getD_lim8 {l : List Int} (h : lim8 l) (i : Nat) : 0 ≤ l.getD i 0 ∧ l.getD i 0 ≤ 255 := by
  rw [List.getD_eq_getElem?_getD]
  by_cases hi : i < l.length
  · rw [List.getElem?_eq_getElem hi]; exact h _ (List.getElem_mem _)
  · rw [List.getElem?_eq_none (by omega)]; simp
theorem val_take8 (l : List Int) (i : Nat) : val8 (l.take (i + 1)) = val8 (l.take i) + 256 ^ i * l.getD i 0 := by
  by_cases hi : i < l.length
  · rw [List.take_succ_eq_append_getElem hi, val_app8, List.length_take, Nat.min_eq_left (by omega), List.getD_eq_getElem?_getD, List.getElem?_eq_getElem hi]
    simp [val8]
  · rw [List.getD_eq_getElem?_getD, List.getElem?_eq_none (by omega), List.take_of_length_le (by omega), List.take_of_length_le (by omega)]
    simp
theorem u8_in {x : Int} (h : 0 ≤ x ∧ x ≤ 255) : IntKind.u8.wrap x = x := by rw [IntKind.wrap_u8]; omega
theorem OfL2_runs (x : Int) (hx : 0 ≤ x ∧ x ≤ 18446744073709551615) (o : List Int) (ho : lim8 o) (hl : o.length ≤ 900000) :
    ∃ y, Runs ref01_Of_L2_step ref01_Of_L2_vcs ⟨x, 0, o⟩ y ∧ (y.out.length = o.length + 8 ∧ lim8 y.out ∧ val8 y.out = val8 o + 256 ^ o.length * x) := by
  refine Runs.of (fun s => ∃ j : Nat, s.k = (j : Int) ∧ j ≤ 8 ∧ s.out.length = o.length + j ∧ lim8 s.out ∧ 0 ≤ s.n ∧ s.n ≤ x ∧ 256 ^ j * s.n ≤ x ∧ val8 s.out + 256 ^ (o.length + j) * s.n = val8 o + 256 ^ o.length * x)
    (fun s => ((8 : Int) - s.k).toNat) _ ?_ _ ⟨0, rfl, by omega, rfl, ho, hx.1, by simp, by simp, by simp⟩
  rintro ⟨n, k', l⟩ ⟨j, h1, h2, h3, h4, h5, h6, h7, h8⟩
  dsimp only at *
  subst h1
  by_cases hj : j < 8
  · have hj' : (j : Int) < 8 := by omega
    have w1 : IntKind.i64.wrap ((j : Int) + 1) = ((j + 1 : Nat) : Int) := by rw [IntWalk.i64_in] <;> omega
    have t1 : Int.tmod n 256 = n % 256 := Int.tmod_eq_emod_of_nonneg h5
    have t2 : Int.tdiv n 256 = n / 256 := Int.tdiv_eq_ediv_of_nonneg h5
    have w2 : IntKind.u8.wrap (n % 256) = n % 256 := u8_in (by omega)
    have w3 : IntKind.u64.wrap (n / 256) = n / 256 := by rw [IntKind.wrap_u64]; omega
    refine ⟨?_, ?_⟩
    · simp only [ref01_Of_L2_vcs, All, hj', decide_true, true_implies, and_true, Bool.true_eq_false, false_implies, h3, List.length_cons, List.length_nil]
      omega
    · simp only [ref01_Of_L2_step, hj', decide_true, cond_true, t1, t2, w1, w2, w3]
      have hd := Int.mul_ediv_add_emod n 256
      refine ⟨⟨j + 1, rfl, by omega, by simp [h3]; omega, lim_app8.2 ⟨h4, lim_cons8.2 ⟨by omega, lim_nil8⟩⟩, by omega, by omega, ?_, ?_⟩, by omega⟩
      · rw [Int.pow_succ, Int.mul_assoc]
        refine Int.le_trans (Int.mul_le_mul_of_nonneg_left (by omega) (Int.pow_nonneg (by omega))) h7
      · rw [val_app8, h3, ← Nat.add_assoc, Int.pow_succ]
        have e : (256 : Int) ^ (o.length + j) * (n % 256) + 256 ^ (o.length + j) * 256 * (n / 256) = 256 ^ (o.length + j) * n := by
          rw [Int.mul_assoc, ← Int.mul_add, show n % 256 + 256 * (n / 256) = n by omega]
        simp only [val8, Int.mul_zero, Int.add_zero]
        omega
  · have hj' : ¬ (j : Int) < 8 := by omega
    have e : j = 8 := by omega
    subst e
    refine ⟨by simp [ref01_Of_L2_vcs], ?_⟩
    simp only [ref01_Of_L2_step, hj', decide_false, cond_false]
    have hn : n = 0 := by
      rw [show (256 : Int) ^ 8 = 18446744073709551616 by decide] at h7; omega
    rw [hn, Int.mul_zero, Int.add_zero] at h8
    exact ⟨h3, h4, h8⟩
theorem pow8 (i : Nat) : (256 : Int) ^ (8 * i) = 18446744073709551616 ^ i := by
  rw [Int.pow_mul, show (256 : Int) ^ 8 = 18446744073709551616 by decide]
theorem OfL0_runs (l : List Int) (h : lim l) (hl : l.length ≤ 100000) :
    ∃ y, Runs ref01_Of_L0_step ref01_Of_L0_vcs ⟨l, 0, []⟩ y ∧ (y.out.length = 8 * l.length ∧ lim8 y.out ∧ val8 y.out = val l) := by
  refine Runs.of (fun s => ∃ i : Nat, s.l = l ∧ s.i = (i : Int) ∧ i ≤ l.length ∧ s.out.length = 8 * i ∧ lim8 s.out ∧ val8 s.out = val (l.take i))
    (fun s => ((l.length : Int) - s.i).toNat) _ ?_ _ ⟨0, rfl, rfl, by omega, rfl, lim_nil8, rfl⟩
  rintro ⟨l', i', o⟩ ⟨i, h1, h2, h3, h4, h5, h6⟩
  dsimp only at *
  subst h1 h2
  by_cases hi : i < l'.length
  · have hi' : (i : Int) < (l'.length : Int) := by omega
    have w1 : IntKind.i64.wrap ((i : Int) + 1) = ((i + 1 : Nat) : Int) := by rw [IntWalk.i64_in] <;> omega
    obtain ⟨y, hr, k1, k2, k3⟩ := OfL2_runs (l'.getD i 0) (getD_lim h i) o h5 (by omega)
    have e : ref01_Of_L2_run ⟨l'.getD i 0, 0, o⟩ = y := theRun_eq (d := fun x => x) hr
    refine ⟨?_, ?_⟩
    · simp only [ref01_Of_L0_vcs, All, hi', decide_true, true_implies, and_true, Bool.true_eq_false, false_implies, Int.toNat_natCast, e]
      exact ⟨by omega, trivial, hr⟩
    · simp only [ref01_Of_L0_step, hi', decide_true, cond_true, Int.toNat_natCast, e, w1]
      refine ⟨⟨i + 1, trivial, rfl, by omega, by omega, k2, ?_⟩, by omega⟩
      rw [k3, h4, h6, pow8, val_take]
  · have hi' : ¬ (i : Int) < (l'.length : Int) := by omega
    have e : i = l'.length := by omega
    subst e
    refine ⟨by simp [ref01_Of_L0_vcs], ?_⟩
    simp only [ref01_Of_L0_step, hi', decide_false, cond_false]
    rw [List.take_of_length_le (Nat.le_refl _)] at h6
    exact ⟨h4, h5, h6⟩
theorem refOf_eq (l : List Int) (h : lim l) (hl : l.length ≤ 100000) : S.ref01_Of_pre l ∧ S.ref01_Of l = digs8 (val l).toNat := by
  obtain ⟨y, hr, h1, h2, h3⟩ := OfL0_runs l h hl
  have e : ref01_Of_L0_run ⟨l, 0, []⟩ = y := theRun_eq (d := fun x => x) hr
  obtain ⟨p, q⟩ := trim_eq y.out h2 (by omega)
  rw [h3] at q
  refine ⟨?_, ?_⟩
  · simp only [ref01_Of_pre, All, e, and_true]; exact ⟨hr, p⟩
  · simp only [ref01_Of, e, q]
theorem LimbsL2_runs (n : List Int) (hn : lim8 n) (i h : Nat) (h1 : i ≤ h) (h2 : h ≤ i + 8) (h3 : h ≤ n.length) (hl : n.length ≤ 1000000) :
    ∃ y, Runs ref01_Limbs_L2_step ref01_Limbs_L2_vcs ⟨n, (i : Int), 0, (h : Int) - 1⟩ y ∧ (y.n = n ∧ y.i = (i : Int) ∧ (0 ≤ y.vx ∧ y.vx ≤ 18446744073709551615) ∧ val8 (n.take h) = val8 (n.take i) + 256 ^ i * y.vx) := by
  refine Runs.of (fun s => ∃ k : Nat, s.n = n ∧ s.i = (i : Int) ∧ s.k = (k : Int) - 1 ∧ i ≤ k ∧ k ≤ h ∧ 0 ≤ s.vx ∧ s.vx < 256 ^ (h - k) ∧ val8 (n.take h) = val8 (n.take k) + 256 ^ k * s.vx)
    (fun s => (s.k + 1).toNat) _ ?_ _ ⟨h, rfl, rfl, rfl, h1, by omega, by simp, by simp, by simp⟩
  rintro ⟨n', i', v, k'⟩ ⟨k, e1, e2, e3, e4, e5, e6, e7, e8⟩
  dsimp only at *
  subst e1 e2 e3
  have p8 : (256 : Int) ^ (h - k) ≤ 18446744073709551616 := by
    have h4 := Nat.pow_le_pow_right (n := 256) (by omega) (show h - k ≤ 8 by omega)
    have h5 := Int.ofNat_le.2 h4
    have h6 : ((256 ^ 8 : Nat) : Int) = 18446744073709551616 := by decide
    rw [h6] at h5
    simpa using h5
  by_cases hk : i < k
  · obtain ⟨j, rfl⟩ : ∃ j, k = j + 1 := ⟨k - 1, by omega⟩
    have ej : ((j + 1 : Nat) : Int) - 1 = (j : Int) := by omega
    rw [ej]
    have hge : (j : Int) ≥ (i : Int) := by omega
    have g := getD_lim8 hn j
    have hp : (256 : Int) ^ (h - j) = 256 ^ (h - (j + 1)) * 256 := by rw [← Int.pow_succ]; congr 1; omega
    have q8 : (256 : Int) ^ (h - j) ≤ 18446744073709551616 := by
      have h4 := Nat.pow_le_pow_right (n := 256) (by omega) (show h - j ≤ 8 by omega)
      have h5 := Int.ofNat_le.2 h4
      have h6 : ((256 ^ 8 : Nat) : Int) = 18446744073709551616 := by decide
      rw [h6] at h5
      simpa using h5
    have hv : v * 256 + n'.getD j 0 < 256 ^ (h - j) := by rw [hp]; omega
    have w1 : IntKind.u64.wrap (v * 256) = v * 256 := by rw [IntKind.wrap_u64]; omega
    have w2 : IntKind.u64.wrap (n'.getD j 0) = n'.getD j 0 := by rw [IntKind.wrap_u64]; omega
    have w3 : IntKind.u64.wrap (v * 256 + n'.getD j 0) = v * 256 + n'.getD j 0 := by rw [IntKind.wrap_u64]; omega
    have w4 : IntKind.i64.wrap ((j : Int) - 1) = (j : Int) - 1 := by rw [IntWalk.i64_in] <;> omega
    refine ⟨?_, ?_⟩
    · simp only [ref01_Limbs_L2_vcs, All, hge, decide_true, true_implies, and_true, Bool.true_eq_false, false_implies]
      omega
    · simp only [ref01_Limbs_L2_step, hge, decide_true, cond_true, Int.toNat_natCast, w1, w2, w3, w4]
      refine ⟨⟨j, trivial, trivial, rfl, by omega, by omega, by omega, hv, ?_⟩, by omega⟩
      rw [e8, val_take8, Int.pow_succ]
      have e : (256 : Int) ^ j * n'.getD j 0 + 256 ^ j * 256 * v = 256 ^ j * (v * 256 + n'.getD j 0) := by
        rw [Int.mul_assoc, ← Int.mul_add]; congr 1; omega
      omega
  · have ek : k = i := by omega
    subst ek
    have hge : ¬ ((k : Int) - 1 ≥ (k : Int)) := by omega
    refine ⟨by simp only [ref01_Limbs_L2_vcs, decide_eq_false hge, Bool.false_eq_true, false_implies, true_and, implies_true], ?_⟩
    simp only [ref01_Limbs_L2_step, decide_eq_false hge, cond_false]
    exact ⟨trivial, trivial, ⟨e6, by omega⟩, e8⟩
theorem LimbsL0_runs (n : List Int) (hn : lim8 n) (hl : n.length ≤ 900000) :
    ∃ y, Runs ref01_Limbs_L0_step ref01_Limbs_L0_vcs ⟨n, 0, []⟩ y ∧ (lim y.out ∧ val y.out = val8 n ∧ 8 * y.out.length < n.length + 8) := by
  refine Runs.of (fun s => ∃ q : Nat, s.n = n ∧ s.i = ((8 * q : Nat) : Int) ∧ 8 * q < n.length + 8 ∧ s.out.length = q ∧ lim s.out ∧ val s.out = val8 (n.take (8 * q))) (fun s => ((n.length : Int) + 8 - s.i).toNat) _ ?_ _ ⟨0, rfl, rfl, by omega, rfl, lim_nil, rfl⟩
  rintro ⟨n', i', o⟩ ⟨q, h1, h2, h3, h4, h5, h6⟩
  dsimp only at *
  subst h1 h2
  by_cases hi : 8 * q < n'.length
  · have hi' : ((8 * q : Nat) : Int) < (n'.length : Int) := by omega
    have w1 : IntKind.i64.wrap (((8 * q : Nat) : Int) + 8) = ((8 * (q + 1) : Nat) : Int) := by rw [IntWalk.i64_in] <;> omega
    have hm : (if ((8 * (q + 1) : Nat) : Int) < (n'.length : Int) then ((8 * (q + 1) : Nat) : Int) else (n'.length : Int)) = ((min (8 * (q + 1)) n'.length : Nat) : Int) := by split <;> omega
    have w2 : IntKind.i64.wrap (((min (8 * (q + 1)) n'.length : Nat) : Int) - 1) = ((min (8 * (q + 1)) n'.length : Nat) : Int) - 1 := by rw [IntWalk.i64_in] <;> omega
    obtain ⟨y, hr, k1, k2, k3, k4⟩ := LimbsL2_runs n' hn (8 * q) (min (8 * (q + 1)) n'.length) (by omega) (by omega) (by omega) (by omega)
    have e : ref01_Limbs_L2_run ⟨n', ((8 * q : Nat) : Int), 0, ((min (8 * (q + 1)) n'.length : Nat) : Int) - 1⟩ = y := theRun_eq (d := fun x => x) hr
    have ht : n'.take (min (8 * (q + 1)) n'.length) = n'.take (8 * (q + 1)) := by
      by_cases h : 8 * (q + 1) ≤ n'.length
      · rw [Nat.min_eq_left h]
      · rw [Nat.min_eq_right (by omega), List.take_of_length_le (Nat.le_refl _), List.take_of_length_le (by omega)]
    rw [ht] at k4
    refine ⟨?_, ?_⟩
    · simp only [ref01_Limbs_L0_vcs, All, hi', decide_true, true_implies, and_true, Bool.true_eq_false, false_implies, w1, hm, w2, e, h4, List.length_cons, List.length_nil]
      exact ⟨hr, by omega⟩
    · simp only [ref01_Limbs_L0_step, hi', decide_true, cond_true, w1, hm, w2, e, k1, k2]
      refine ⟨⟨q + 1, trivial, rfl, by omega, by simp [h4], lim_app.2 ⟨h5, lim_cons.2 ⟨k3, lim_nil⟩⟩, ?_⟩, by omega⟩
      rw [val_app, h4, h6, k4, pow8]; simp [val]
  · have hi' : ¬ ((8 * q : Nat) : Int) < (n'.length : Int) := by omega
    refine ⟨by simp only [ref01_Limbs_L0_vcs, hi', decide_false, Bool.false_eq_true, false_implies, true_and, implies_true], ?_⟩
    simp only [ref01_Limbs_L0_step, hi', decide_false, cond_false]
    rw [List.take_of_length_le (by omega)] at h6
    exact ⟨h5, h6, by omega⟩
end SN
