/-
  Printed by a program out of the plain texts of another seat: what the smaller packages' functions compute, in plain words. Conditions: those that each theorem states.
-/
import Derived.Test.YthnlknegnlmklaaDEDefs
import Derived.IntWalk
import Derived.Laws.Bits
set_option linter.all false
open Go Vm
def S.math_bits_Sub64 (x y c : Int) : Int × Int := ((x + 18446744073709551616 - y - c) % 18446744073709551616, if x < y + c then 1 else 0)
def S.math_bits_Sub64_pre (x y c : Int) : Prop := 0 ≤ x ∧ 0 ≤ y ∧ y ≤ 18446744073709551615 ∧ 0 ≤ c ∧ c ≤ 1
@[ext] structure S.nat_Sub_L0 where
  borrow : Int
  t16 : Int
  t17 : Int
  l : (List Int)
  a : S.Num
  b : S.Num
def S.nat_Sub_L0_step (x : S.nat_Sub_L0) : S.nat_Sub_L0 ⊕ (S.nat_Sub_L0) :=
  let b1 : Bool := decide (x.t17 < x.t16)
  let r2 : Int := S.nat_Nat_limb x.a x.t17
  let r3 : Int := S.nat_Nat_limb x.b x.t17
  let r4 : Int × Int := S.math_bits_Sub64 r2 r3 x.borrow
  let l5 : List Int := x.l ++ ([r4.1] : List Int)
  let t6 : Int := IntKind.i64.wrap (x.t17 + 1)
  (bif b1 then (.inl ⟨r4.2, x.t16, t6, l5, x.a, x.b⟩) else (.inr ⟨x.borrow, x.t16, x.t17, x.l, x.a, x.b⟩))
def S.nat_Sub_L0_vcs (x : S.nat_Sub_L0) : Prop :=
  let b1 : Bool := decide (x.t17 < x.t16)
  let r2 : Int := S.nat_Nat_limb x.a x.t17
  let r3 : Int := S.nat_Nat_limb x.b x.t17
  let r4 : Int × Int := S.math_bits_Sub64 r2 r3 x.borrow
  ((b1 = true → (All [S.nat_Nat_limb_pre x.a x.t17, S.nat_Nat_limb_pre x.b x.t17, S.math_bits_Sub64_pre r2 r3 x.borrow, ((x.l.length + ([r4.1] : List Int).length : Nat) : Int) * 8 ≤ 140737488355328] ∧ True)) ∧ (b1 = false → True))
noncomputable def S.nat_Sub_L0_run (x : S.nat_Sub_L0) : S.nat_Sub_L0 := theRun (fun x => x) S.nat_Sub_L0_step S.nat_Sub_L0_vcs x
noncomputable def S.nat_Sub (a : S.Num) (b : S.Num) : S.Num × Int :=
  let r1 : Int := S.nat_Cmp a b
  let b2 : Bool := decide (r1 < 0)
  let r3 : Int := S.nat_Nat_Len a
  let x4 : S.nat_Sub_L0 := (⟨0, r3, 0, ([] : List Int), a, b⟩ : S.nat_Sub_L0)
  let y5 : S.nat_Sub_L0 := S.nat_Sub_L0_run x4
  let r6 : S.Num := S.nat_Limbs y5.l
  (bif b2 then ((⟨([] : List Int)⟩ : S.Num), 11) else (r6, 0))
def S.nat_Sub_pre (a : S.Num) (b : S.Num) : Prop :=
  let r1 : Int := S.nat_Cmp a b
  let b2 : Bool := decide (r1 < 0)
  let r3 : Int := S.nat_Nat_Len a
  let x4 : S.nat_Sub_L0 := (⟨0, r3, 0, ([] : List Int), a, b⟩ : S.nat_Sub_L0)
  let y5 : S.nat_Sub_L0 := S.nat_Sub_L0_run x4
  (All [S.nat_Cmp_pre a b] ∧ ((b2 = true → True) ∧ (b2 = false → (All [Runs S.nat_Sub_L0_step S.nat_Sub_L0_vcs x4 (S.nat_Sub_L0_run x4), S.nat_Limbs_pre y5.l] ∧ True))))
def S.nat_Cap_fit (c : Int) (n : S.Num) : S.Num × Bool :=
  let r1 : Bool := S.nat_Cap_Fits c n
  let b2 : Bool := !r1
  (bif b2 then ((⟨([] : List Int)⟩ : S.Num), false) else (n, true))
noncomputable def S.nat_Cap_Add (c : Int) (a : S.Num) (b : S.Num) : S.Num × Bool :=
  let r1 : S.Num := S.nat_Add a b
  let r2 : S.Num × Bool := S.nat_Cap_fit c r1
  (r2.1, r2.2)
def S.nat_Cap_Add_pre (c : Int) (a : S.Num) (b : S.Num) : Prop :=
  (All [S.nat_Add_pre a b] ∧ True)
@[ext] structure S.ref01_Sub_L0 where
  a : (List Int)
  b : (List Int)
  borrow : Int
  i : Int
  out : (List Int)
def S.ref01_Sub_L0_step (x : S.ref01_Sub_L0) : S.ref01_Sub_L0 ⊕ (S.ref01_Sub_L0) :=
  let b1 : Bool := decide (x.i < (x.a.length : Int))
  let r2 : Int := S.ref01_at x.a x.i
  let r3 : Int := S.ref01_at x.b x.i
  let t4 : Int := IntKind.i64.wrap (r2 - r3)
  let t5 : Int := IntKind.i64.wrap (t4 - x.borrow)
  let b6 : Bool := decide (t5 < 0)
  let t7 : Int := IntKind.i64.wrap (t5 + 256)
  let t8 : Int := IntKind.u8.wrap (bif b6 then t7 else t5)
  let l9 : List Int := x.out ++ ([t8] : List Int)
  let t10 : Int := IntKind.i64.wrap (x.i + 1)
  (bif b1 then (.inl ⟨x.a, x.b, (bif b6 then 1 else 0), t10, l9⟩) else (.inr ⟨x.a, x.b, x.borrow, x.i, x.out⟩))
def S.ref01_Sub_L0_vcs (x : S.ref01_Sub_L0) : Prop :=
  let b1 : Bool := decide (x.i < (x.a.length : Int))
  let r2 : Int := S.ref01_at x.a x.i
  let r3 : Int := S.ref01_at x.b x.i
  let t4 : Int := IntKind.i64.wrap (r2 - r3)
  let t5 : Int := IntKind.i64.wrap (t4 - x.borrow)
  let b6 : Bool := decide (t5 < 0)
  let t7 : Int := IntKind.i64.wrap (t5 + 256)
  let t8 : Int := IntKind.u8.wrap (bif b6 then t7 else t5)
  ((b1 = true → (All [S.ref01_at_pre x.a x.i, S.ref01_at_pre x.b x.i, ((x.out.length + ([t8] : List Int).length : Nat) : Int) * 1 ≤ 140737488355328] ∧ True)) ∧ (b1 = false → True))
noncomputable def S.ref01_Sub_L0_run (x : S.ref01_Sub_L0) : S.ref01_Sub_L0 := theRun (fun x => x) S.ref01_Sub_L0_step S.ref01_Sub_L0_vcs x
noncomputable def S.ref01_Sub (a : (List Int)) (b : (List Int)) : (List Int) :=
  let x1 : S.ref01_Sub_L0 := (⟨a, b, 0, 0, ([] : List Int)⟩ : S.ref01_Sub_L0)
  let y2 : S.ref01_Sub_L0 := S.ref01_Sub_L0_run x1
  let r3 : (List Int) := S.ref01_trim y2.out
  r3
def S.ref01_Sub_pre (a : (List Int)) (b : (List Int)) : Prop :=
  let x1 : S.ref01_Sub_L0 := (⟨a, b, 0, 0, ([] : List Int)⟩ : S.ref01_Sub_L0)
  let y2 : S.ref01_Sub_L0 := S.ref01_Sub_L0_run x1
  (All [Runs S.ref01_Sub_L0_step S.ref01_Sub_L0_vcs x1 (S.ref01_Sub_L0_run x1), S.ref01_trim_pre y2.out] ∧ True)
noncomputable def S.ref01_Same (a : (List Int)) (b : (List Int)) : Bool :=
  let r1 : Int := S.ref01_Cmp a b
  let b2 : Bool := r1 == 0
  b2
def S.ref01_Same_pre (a : (List Int)) (b : (List Int)) : Prop :=
  (All [S.ref01_Cmp_pre a b] ∧ True)
noncomputable def S.nat_Cap_Mul (c : Int) (a : S.Num) (b : S.Num) : S.Num × Bool :=
  let r1 : S.Num := S.nat_Mul a b
  let r2 : S.Num × Bool := S.nat_Cap_fit c r1
  (r2.1, r2.2)
def S.nat_Cap_Mul_pre (c : Int) (a : S.Num) (b : S.Num) : Prop :=
  (All [S.nat_Mul_pre a b] ∧ True)
@[ext] structure S.nat_Sum_L0 where
  t6 : (List S.Num)
  t7 : Int
  t8 : Int
  sum : S.Num
noncomputable def S.nat_Sum_L0_step (x : S.nat_Sum_L0) : S.nat_Sum_L0 ⊕ (S.nat_Sum_L0) :=
  let b1 : Bool := decide (x.t8 < x.t7)
  let e2 : S.Num := x.t6.getD (Int.toNat x.t8) (⟨[]⟩ : S.Num)
  let r3 : S.Num := S.nat_Add x.sum e2
  let t4 : Int := IntKind.i64.wrap (x.t8 + 1)
  (bif b1 then (.inl ⟨x.t6, x.t7, t4, r3⟩) else (.inr ⟨x.t6, x.t7, x.t8, x.sum⟩))
def S.nat_Sum_L0_vcs (x : S.nat_Sum_L0) : Prop :=
  let b1 : Bool := decide (x.t8 < x.t7)
  let e2 : S.Num := x.t6.getD (Int.toNat x.t8) (⟨[]⟩ : S.Num)
  ((b1 = true → (All [(0 : Int) ≤ x.t8, x.t8 < (x.t6.length : Int), S.nat_Add_pre x.sum e2] ∧ True)) ∧ (b1 = false → True))
noncomputable def S.nat_Sum_L0_run (x : S.nat_Sum_L0) : S.nat_Sum_L0 := theRun (fun x => x) S.nat_Sum_L0_step S.nat_Sum_L0_vcs x
noncomputable def S.nat_Sum (l : (List S.Num)) : S.Num :=
  let x1 : S.nat_Sum_L0 := (⟨l, (l.length : Int), 0, (⟨([] : List Int)⟩ : S.Num)⟩ : S.nat_Sum_L0)
  let y2 : S.nat_Sum_L0 := S.nat_Sum_L0_run x1
  y2.sum
def S.nat_Sum_pre (l : (List S.Num)) : Prop :=
  let x1 : S.nat_Sum_L0 := (⟨l, (l.length : Int), 0, (⟨([] : List Int)⟩ : S.Num)⟩ : S.nat_Sum_L0)
  (All [Runs S.nat_Sum_L0_step S.nat_Sum_L0_vcs x1 (S.nat_Sum_L0_run x1)] ∧ True)
@[ext] structure S.nat_Max_L0 where
  t6 : (List S.Num)
  t7 : Int
  t8 : Int
  best : S.Num
noncomputable def S.nat_Max_L0_step (x : S.nat_Max_L0) : S.nat_Max_L0 ⊕ (S.nat_Max_L0) :=
  let b1 : Bool := decide (x.t8 < x.t7)
  let e2 : S.Num := x.t6.getD (Int.toNat x.t8) (⟨[]⟩ : S.Num)
  let r3 : Int := S.nat_Cmp e2 x.best
  let b4 : Bool := decide (r3 > 0)
  let t5 : Int := IntKind.i64.wrap (x.t8 + 1)
  (bif b1 then (.inl ⟨x.t6, x.t7, t5, (⟨(bif b4 then e2.limbs else x.best.limbs)⟩ : S.Num)⟩) else (.inr ⟨x.t6, x.t7, x.t8, x.best⟩))
def S.nat_Max_L0_vcs (x : S.nat_Max_L0) : Prop :=
  let b1 : Bool := decide (x.t8 < x.t7)
  let e2 : S.Num := x.t6.getD (Int.toNat x.t8) (⟨[]⟩ : S.Num)
  ((b1 = true → (All [(0 : Int) ≤ x.t8, x.t8 < (x.t6.length : Int), S.nat_Cmp_pre e2 x.best] ∧ True)) ∧ (b1 = false → True))
noncomputable def S.nat_Max_L0_run (x : S.nat_Max_L0) : S.nat_Max_L0 := theRun (fun x => x) S.nat_Max_L0_step S.nat_Max_L0_vcs x
noncomputable def S.nat_Max (l : (List S.Num)) : S.Num :=
  let x1 : S.nat_Max_L0 := (⟨l, (l.length : Int), 0, (⟨([] : List Int)⟩ : S.Num)⟩ : S.nat_Max_L0)
  let y2 : S.nat_Max_L0 := S.nat_Max_L0_run x1
  let r3 : S.Num := S.nat_Limbs y2.best.limbs
  r3
def S.nat_Max_pre (l : (List S.Num)) : Prop :=
  let x1 : S.nat_Max_L0 := (⟨l, (l.length : Int), 0, (⟨([] : List Int)⟩ : S.Num)⟩ : S.nat_Max_L0)
  let y2 : S.nat_Max_L0 := S.nat_Max_L0_run x1
  (All [Runs S.nat_Max_L0_step S.nat_Max_L0_vcs x1 (S.nat_Max_L0_run x1), S.nat_Limbs_pre y2.best.limbs] ∧ True)
namespace SN
open S
theorem inr_u64 {x : Int} : inr .u64 x ↔ 0 ≤ x ∧ x ≤ 18446744073709551615 := by simp [inr, IntKind.min, IntKind.max, IntKind.signed, IntKind.bits]
theorem inr_i64 {x : Int} : inr .i64 x ↔ -9223372036854775808 ≤ x ∧ x ≤ 9223372036854775807 := by simp [inr, IntKind.min, IntKind.max, IntKind.signed, IntKind.bits]
def val : List Int → Int
  | [] => 0
  | x :: l => x + 18446744073709551616 * val l
def lim (l : List Int) : Prop := ∀ x ∈ l, 0 ≤ x ∧ x ≤ 18446744073709551615
theorem lim_nil : lim [] := fun _ h => by cases h
theorem lim_cons {x : Int} {l : List Int} : lim (x :: l) ↔ (0 ≤ x ∧ x ≤ 18446744073709551615) ∧ lim l := by
  simp [lim]
theorem lim_app {l k : List Int} : lim (l ++ k) ↔ lim l ∧ lim k := by
  simp only [lim, List.mem_append]
  exact ⟨fun h => ⟨fun x hx => h x (.inl hx), fun x hx => h x (.inr hx)⟩, fun h x hx => hx.elim (h.1 x) (h.2 x)⟩
theorem val_nonneg {l : List Int} (h : lim l) : 0 ≤ val l := by
  induction l with
  | nil => exact Int.le_refl 0
  | cons x l ih =>
    rw [lim_cons] at h
    have := ih h.2
    simp only [val]; omega
theorem val_app (l k : List Int) : val (l ++ k) = val l + 18446744073709551616 ^ l.length * val k := by
  induction l with
  | nil => simp [val]
  | cons x l ih =>
    simp only [List.cons_append, val, ih, List.length_cons, Int.pow_succ]
    rw [Int.mul_add, ← Int.add_assoc, ← Int.mul_assoc, Int.mul_comm (18446744073709551616 ^ l.length) 18446744073709551616]
theorem val_lt {l : List Int} (h : lim l) : val l < 18446744073709551616 ^ l.length := by
  induction l with
  | nil => simp [val]
  | cons x l ih =>
    rw [lim_cons] at h
    have := ih h.2
    simp only [val, List.length_cons, Int.pow_succ]
    omega
/-- The limbs of a number. -/
def digs : Nat → List Int
  | 0 => []
  | n + 1 => (((n + 1) % 18446744073709551616 : Nat) : Int) :: digs ((n + 1) / 18446744073709551616)
decreasing_by omega
theorem digs_pos {n : Nat} (h : 0 < n) : digs n = ((n % 18446744073709551616 : Nat) : Int) :: digs (n / 18446744073709551616) := by
  cases n with
  | zero => omega
  | succ n => rw [digs]
theorem digs_val (n : Nat) : val (digs n) = n ∧ lim (digs n) := by
  induction n using Nat.strongRecOn with
  | _ n ih =>
    by_cases h : 0 < n
    · rw [digs_pos h]
      obtain ⟨h1, h2⟩ := ih (n / 18446744073709551616) (by omega)
      refine ⟨by simp only [val, h1]; omega, lim_cons.2 ⟨by omega, h2⟩⟩
    · have : n = 0 := by omega
      subst this
      rw [digs]; exact ⟨rfl, lim_nil⟩
/-- A list of limbs whose last is not 0. -/
def top (l : List Int) : Prop := ∀ k x, l = k ++ [x] → x ≠ 0
theorem digs_of : ∀ (l : List Int), lim l → top l → digs (val l).toNat = l := by
  intro l
  induction l with
  | nil => intro _ _; simp [val, digs]
  | cons x l ih =>
    intro h ht
    rw [lim_cons] at h
    have ht' : top l := fun k y e => ht (x :: k) y (by rw [e]; rfl)
    have hi := ih h.2 ht'
    have hv := val_nonneg h.2
    have hpos : 0 < x + 18446744073709551616 * val l := by
      by_cases hl : l = []
      · subst hl
        have := ht [] x rfl
        simp only [val]; omega
      · by_cases hz : val l = 0
        · rw [hz] at hi
          have : l = [] := by rw [← hi]; simp [digs]
          exact absurd this hl
        · omega
    have e1 : ((x + 18446744073709551616 * val l).toNat % 18446744073709551616 : Nat) = x.toNat := by omega
    have e2 : (x + 18446744073709551616 * val l).toNat / 18446744073709551616 = (val l).toNat := by omega
    simp only [val]
    rw [digs_pos (by omega), e1, e2, hi, Int.toNat_of_nonneg h.1.1]
theorem digs_len (n k : Nat) (h : n < 18446744073709551616 ^ k) : (digs n).length ≤ k := by
  induction k generalizing n with
  | zero => have : n = 0 := by simpa using h
            subst this; simp [digs]
  | succ k ih =>
    by_cases hn : 0 < n
    · rw [digs_pos hn, List.length_cons]
      have := ih (n / 18446744073709551616) (by rw [Nat.pow_succ] at h; exact Nat.div_lt_of_lt_mul (by rw [Nat.mul_comm]; exact h))
      omega
    · have : n = 0 := by omega
      subst this; simp [digs]
theorem top_digs (n : Nat) : top (digs n) := by
  induction n using Nat.strongRecOn with
  | _ n ih =>
    by_cases h : 0 < n
    · rw [digs_pos h]
      intro k x e
      cases k with
      | nil =>
        simp only [List.nil_append, List.cons.injEq] at e
        obtain ⟨e1, e2⟩ := e
        have hz : n / 18446744073709551616 = 0 := by
          by_cases hq : 0 < n / 18446744073709551616
          · rw [digs_pos hq] at e2; cases e2
          · omega
        omega
      | cons y k =>
        simp only [List.cons_append, List.cons.injEq] at e
        exact ih (n / 18446744073709551616) (by omega) k x e.2
    · have : n = 0 := by omega
      subst this
      rw [digs]
      intro k x e
      cases k <;> cases e
theorem Limbs_runs : ∀ (n : Nat) (l : List Int), l.length = n → n ≤ 1000000 → lim l → Runs nat_Limbs_L0_step nat_Limbs_L0_vcs ⟨l⟩ ⟨digs (val l).toNat⟩ := by
  intro n
  induction n with
  | zero =>
    intro l hl _ _
    have : l = [] := List.length_eq_zero_iff.1 hl
    subst this
    exact .done _ _ (by simp [nat_Limbs_L0_vcs, All]) (by simp [nat_Limbs_L0_step, val, digs])
  | succ n ih =>
    intro l hl hn hlim
    obtain ⟨k, x, rfl⟩ : ∃ k x, l = k ++ [x] := by
      rcases List.eq_nil_or_concat l with h | ⟨k, x, h⟩
      · rw [h] at hl; cases hl
      · exact ⟨k, x, by rw [h, List.concat_eq_append]⟩
    have hk : k.length = n := by simpa using hl
    obtain ⟨h1, h2⟩ := lim_app.1 hlim
    have hx := h2 x (by simp)
    have hl' : ((k ++ [x]).length : Int) = (n : Int) + 1 := by rw [hl]; simp
    have w1 : IntKind.i64.wrap ((n : Int) + 1 - 1) = (n : Int) := by rw [IntWalk.i64_in] <;> omega
    have e1 : (k ++ [x]).getD (Int.toNat (n : Int)) 0 = x := by
      rw [Int.toNat_natCast, List.getD_eq_getElem?_getD, ← hk, List.getElem?_append_right (Nat.le_refl _)]; simp
    have e2 : ((k ++ [x]).take (Int.toNat (n : Int))).drop (Int.toNat 0) = k := by
      rw [Int.toNat_natCast, ← hk]; simp
    have hp : ((n : Int) + 1 > 0) := by omega
    by_cases h0 : x = 0
    · subst h0
      have hv : val (k ++ [0]) = val k := by rw [val_app]; simp [val]
      rw [hv]
      refine .next _ ⟨k⟩ _ ?_ ?_ (ih k hk (by omega) h1)
      · simp only [nat_Limbs_L0_vcs, All, hl', w1, e1, hp, decide_true, Bool.true_and, beq_self_eq_true, true_implies, and_true, Bool.true_eq_false, false_implies]
        omega
      · simp only [nat_Limbs_L0_step, hl', w1, e1, e2, hp, decide_true, Bool.true_and, beq_self_eq_true, cond_true]
    · have hb : (x == 0) = false := beq_eq_false_iff_ne.2 h0
      have ht : top (k ++ [x]) := fun k' y e => by
        have := List.append_inj_right' e rfl
        simp at this; rw [← this]; exact h0
      rw [digs_of _ hlim ht]
      refine .done _ _ ?_ ?_
      · simp only [nat_Limbs_L0_vcs, All, hl', w1, e1, hb, Bool.and_false, hp, decide_true, true_implies, and_true, Bool.false_eq_true, false_implies]
        omega
      · simp only [nat_Limbs_L0_step, hl', w1, e1, hb, Bool.and_false, cond_false]
theorem Clone_pre (l : List Int) (h : l.length ≤ 1000000) : S.slices_Cloneuint64_uint64_pre l := by
  simp only [slices_Cloneuint64_uint64_pre, List.length_nil]; omega
theorem val_len {l : List Int} (h : lim l) : (digs (val l).toNat).length ≤ l.length := by
  refine digs_len _ _ ?_
  have h1 := val_lt h
  have h2 := val_nonneg h
  exact (Int.toNat_lt h2).2 (by simpa using h1)
theorem Limbs_eq (l : List Int) (h : lim l) (hn : l.length ≤ 1000000) : S.nat_Limbs_pre l ∧ S.nat_Limbs l = ⟨digs (val l).toNat⟩ := by
  have hr := Limbs_runs _ l rfl hn h
  have e : nat_Limbs_L0_run ⟨l⟩ = ⟨digs (val l).toNat⟩ := theRun_eq (d := fun x => x) hr
  refine ⟨?_, ?_⟩
  · simp only [nat_Limbs_pre, All, e, and_true]
    exact ⟨hr, Clone_pre _ (by have := val_len h; omega)⟩
  · simp only [nat_Limbs, e, slices_Cloneuint64_uint64]
theorem getD_lim {l : List Int} (h : lim l) (i : Nat) : 0 ≤ l.getD i 0 ∧ l.getD i 0 ≤ 18446744073709551615 := by
  rw [List.getD_eq_getElem?_getD]
  by_cases hi : i < l.length
  · rw [List.getElem?_eq_getElem hi]; exact h _ (List.getElem_mem _)
  · rw [List.getElem?_eq_none (by omega)]; simp
theorem limb_eq (l : List Int) (i : Nat) : S.nat_Nat_limb ⟨l⟩ (i : Int) = l.getD i 0 := by
  show (bif decide ((i : Int) ≥ (l.length : Int)) then 0 else l.getD (Int.toNat (i : Int)) 0) = _
  rw [Int.toNat_natCast]
  by_cases hi : i < l.length
  · rw [decide_eq_false (by omega), cond_false]
  · rw [decide_eq_true (by omega), cond_true, List.getD_eq_getElem?_getD, List.getElem?_eq_none (by omega)]; rfl
theorem limb_pre (l : List Int) (i : Nat) : S.nat_Nat_limb_pre ⟨l⟩ (i : Int) := by
  show (decide ((i : Int) ≥ (l.length : Int)) = true → True) ∧ (decide ((i : Int) ≥ (l.length : Int)) = false → (((0 : Int) ≤ i ∧ (i : Int) < (l.length : Int)) ∧ True))
  refine ⟨fun _ => trivial, fun h => ?_⟩
  have h' : ¬ ((i : Int) ≥ (l.length : Int)) := of_decide_eq_false h
  exact ⟨⟨by omega, by omega⟩, trivial⟩
theorem val_take (l : List Int) (i : Nat) : val (l.take (i + 1)) = val (l.take i) + 18446744073709551616 ^ i * l.getD i 0 := by
  by_cases hi : i < l.length
  · rw [List.take_succ_eq_append_getElem hi, val_app, List.length_take, Nat.min_eq_left (by omega), List.getD_eq_getElem?_getD, List.getElem?_eq_getElem hi]
    simp [val]
  · rw [List.getD_eq_getElem?_getD, List.getElem?_eq_none (by omega), List.take_of_length_le (by omega), List.take_of_length_le (by omega)]
    simp
theorem Add_runs (a b : List Int) (ha : lim a) (hb : lim b) (m : Nat) (hm : m ≤ 1000000) :
    ∃ y, Runs nat_Add_L0_step nat_Add_L0_vcs ⟨(m : Int), 0, [], ⟨a⟩, ⟨b⟩, 0⟩ y ∧ (y.l.length = m ∧ lim (y.l ++ [y.carry]) ∧ val (y.l ++ [y.carry]) = val (a.take m) + val (b.take m)) := by
  refine Runs.of (fun x => ∃ i : Nat, x.t14 = (m : Int) ∧ x.t15 = (i : Int) ∧ x.a = ⟨a⟩ ∧ x.b = ⟨b⟩ ∧ i ≤ m ∧ x.l.length = i ∧ lim x.l ∧ 0 ≤ x.carry ∧ x.carry ≤ 1 ∧ val x.l + 18446744073709551616 ^ i * x.carry = val (a.take i) + val (b.take i))
    (fun x => ((m : Int) - x.t15).toNat) _ ?_ _ ⟨0, rfl, rfl, rfl, rfl, by omega, rfl, lim_nil, by simp, by simp, by simp [val]⟩
  rintro ⟨m', i', l, a', b', c⟩ ⟨i, h1, h2, h3, h4, h5, h6, h7, h8, h9, h10⟩
  dsimp only at *
  subst h1 h2 h3 h4
  by_cases hi : i < m
  · have hi' : (i : Int) < (m : Int) := by omega
    have w1 : IntKind.i64.wrap ((i : Int) + 1) = ((i + 1 : Nat) : Int) := by rw [IntWalk.i64_in] <;> omega
    have ga := getD_lim ha i; have gb := getD_lim hb i
    have hs : 0 ≤ a.getD i 0 + b.getD i 0 + c ∧ a.getD i 0 + b.getD i 0 + c < 2 * 18446744073709551616 := by omega
    refine ⟨?_, ?_⟩
    · simp only [nat_Add_L0_vcs, All, hi', decide_true, true_implies, and_true, Bool.true_eq_false, false_implies, limb_eq, limb_pre, nat_Add_1_pre, math_bits_Add64_pre, true_and, h6, List.length_cons, List.length_nil]
      omega
    · simp only [nat_Add_L0_step, hi', decide_true, cond_true, limb_eq, nat_Add_1, math_bits_Add64, w1]
      refine ⟨⟨i + 1, trivial, rfl, trivial, trivial, by omega, by simp [h6], ?_, by omega, by omega, ?_⟩, by omega⟩
      · exact lim_app.2 ⟨h7, lim_cons.2 ⟨by omega, lim_nil⟩⟩
      · rw [val_app, h6, val_take, val_take, Int.pow_succ]
        have hd := Int.mul_ediv_add_emod (a.getD i 0 + b.getD i 0 + c) 18446744073709551616
        generalize (a.getD i 0 + b.getD i 0 + c) % 18446744073709551616 = d at *
        generalize (a.getD i 0 + b.getD i 0 + c) / 18446744073709551616 = q at *
        generalize a.getD i 0 = p at *
        generalize b.getD i 0 = r at *
        have e : (18446744073709551616 : Int) ^ i * d + 18446744073709551616 ^ i * 18446744073709551616 * q = 18446744073709551616 ^ i * p + 18446744073709551616 ^ i * r + 18446744073709551616 ^ i * c := by
          rw [Int.mul_assoc, ← Int.mul_add, ← Int.mul_add, ← Int.mul_add, show d + 18446744073709551616 * q = p + r + c by omega]
        simp only [val, Int.mul_zero, Int.add_zero]
        omega
  · have hi' : ¬ (i : Int) < (m : Int) := by omega
    have e : i = m := by omega
    subst e
    refine ⟨by simp [nat_Add_L0_vcs, hi'], ?_⟩
    simp only [nat_Add_L0_step, hi', decide_false, cond_false]
    refine ⟨h6, lim_app.2 ⟨h7, lim_cons.2 ⟨by omega, lim_nil⟩⟩, ?_⟩
    rw [val_app, h6]; simp only [val, Int.mul_zero, Int.add_zero]; exact h10
theorem Add_eq (a b : List Int) (ha : lim a) (hb : lim b) (la : a.length ≤ 100000) (lb : b.length ≤ 100000) : S.nat_Add_pre ⟨a⟩ ⟨b⟩ ∧ S.nat_Add ⟨a⟩ ⟨b⟩ = ⟨digs (val a + val b).toNat⟩ := by
  have hm : (if (b.length : Int) > (a.length : Int) then (b.length : Int) else (a.length : Int)) = ((max a.length b.length : Nat) : Int) := by split <;> omega
  obtain ⟨y, hr, h1, h2, h3⟩ := Add_runs a b ha hb (max a.length b.length) (by omega)
  have e : nat_Add_L0_run ⟨((max a.length b.length : Nat) : Int), 0, [], ⟨a⟩, ⟨b⟩, 0⟩ = y := theRun_eq (d := fun x => x) hr
  rw [List.take_of_length_le (by omega), List.take_of_length_le (by omega)] at h3
  obtain ⟨p1, q1⟩ := Limbs_eq (y.l ++ [y.carry]) h2 (by simp; omega)
  rw [h3] at q1
  have e0 : ∀ M y, (if (b.length : Int) > (a.length : Int) then (b.length : Int) else (a.length : Int)) = M → nat_Add_L0_run ⟨M, 0, [], ⟨a⟩, ⟨b⟩, 0⟩ = y → S.nat_Add ⟨a⟩ ⟨b⟩ = nat_Limbs (y.l ++ [y.carry]) ∧
      S.nat_Add_pre ⟨a⟩ ⟨b⟩ = (All [Runs nat_Add_L0_step nat_Add_L0_vcs ⟨M, 0, [], ⟨a⟩, ⟨b⟩, 0⟩ y, ((y.l.length + ([y.carry] : List Int).length : Nat) : Int) * 8 ≤ 140737488355328, nat_Limbs_pre (y.l ++ [y.carry])] ∧ True) := by
    intro M y h1 h2; subst h1 h2; exact ⟨rfl, rfl⟩
  obtain ⟨e1, e2⟩ := e0 _ _ hm e
  rw [e1, e2, q1]
  refine ⟨⟨⟨hr, ?_, p1⟩, trivial⟩, rfl⟩
  simp only [List.length_cons, List.length_nil]; omega
theorem val_take_lt {l : List Int} (h : lim l) (i : Nat) : 0 ≤ val (l.take i) ∧ val (l.take i) < 18446744073709551616 ^ i := by
  have hl : lim (l.take i) := fun x hx => h x (List.mem_of_mem_take hx)
  refine ⟨val_nonneg hl, ?_⟩
  have h1 := val_lt hl
  refine Int.lt_of_lt_of_le h1 ?_
  have h3 : (l.take i).length ≤ i := by rw [List.length_take]; omega
  have h2 := Nat.pow_le_pow_right (n := 18446744073709551616) (by omega) h3
  have h4 := Int.ofNat_le.2 h2
  simpa using h4
def sg (d : Int) : Int := if d < 0 then -1 else if d > 0 then 1 else 0
theorem Compare_eq (x y : Int) : S.cmp_Compareuint64 x y = sg (x - y) := by
  have h : ∀ z : Int, S.cmp_isNaNuint64 z = false := fun z => by simp [cmp_isNaNuint64]
  simp only [cmp_Compareuint64, h, cond_false, sg]
  by_cases h1 : x < y
  · rw [decide_eq_true h1, cond_true, if_pos (by omega)]
  · by_cases h2 : x > y
    · rw [decide_eq_false h1, decide_eq_true h2, cond_false, cond_true, if_neg (by omega), if_pos (by omega)]
    · rw [decide_eq_false h1, decide_eq_false h2, cond_false, cond_false, if_neg (by omega), if_neg (by omega)]
theorem Cmp_runs (a b : List Int) (ha : lim a) (hb : lim b) (m : Nat) (hm : m ≤ 1000000) (h1 : a.length ≤ m) (h2 : b.length ≤ m) :
    ∃ y, Runs nat_Cmp_L0_step nat_Cmp_L0_vcs ⟨0, (m : Int) - 1, ⟨a⟩, ⟨b⟩⟩ y ∧ (bif y.1 then y.2.t4 else 0) = sg (val a - val b) := by
  refine Runs.of (fun x => ∃ k : Nat, x.i = (k : Int) - 1 ∧ k ≤ m ∧ x.a = ⟨a⟩ ∧ x.b = ⟨b⟩ ∧ val a - val b = val (a.take k) - val (b.take k)) (fun x => (x.i + 1).toNat) _ ?_ _
    ⟨m, rfl, by omega, rfl, rfl, by rw [List.take_of_length_le h1, List.take_of_length_le h2]⟩
  rintro ⟨t, i', a', b'⟩ ⟨k, e1, e2, e3, e4, e5⟩
  dsimp only at *
  subst e1 e3 e4
  cases k with
  | zero =>
    have hi : ¬ ((0 : Nat) : Int) - 1 ≥ 0 := by omega
    refine ⟨by simp only [nat_Cmp_L0_vcs, decide_eq_false hi, Bool.false_eq_true, false_implies, true_and, implies_true], ?_⟩
    simp only [nat_Cmp_L0_step, decide_eq_false hi, cond_false, e5]
    simp [sg]
  | succ j =>
    have hi : ((j + 1 : Nat) : Int) - 1 ≥ 0 := by omega
    have ej : ((j + 1 : Nat) : Int) - 1 = (j : Int) := by omega
    rw [ej] at hi ⊢
    have w1 : IntKind.i64.wrap ((j : Int) - 1) = (j : Int) - 1 := by rw [IntWalk.i64_in] <;> omega
    rw [val_take, val_take] at e5
    have ga := getD_lim ha j; have gb := getD_lim hb j
    obtain ⟨ta1, ta2⟩ := val_take_lt ha j; obtain ⟨tb1, tb2⟩ := val_take_lt hb j
    refine ⟨?_, ?_⟩
    · simp only [nat_Cmp_L0_vcs, All, decide_eq_true hi, true_implies, and_true, Bool.true_eq_false, false_implies, limb_pre, implies_true, and_self]
    · simp only [nat_Cmp_L0_step, decide_eq_true hi, cond_true, limb_eq, Compare_eq, w1]
      generalize a.getD j 0 = p at *
      generalize b.getD j 0 = q at *
      by_cases hpq : p = q
      · subst hpq
        rw [show (sg (p - p) != 0) = false by simp [sg], cond_false]
        exact ⟨⟨j, rfl, by omega, rfl, rfl, by omega⟩, by dsimp only; omega⟩
      · have hne : (sg (p - q) != 0) = true := by
          simp only [sg, bne_iff_ne]; split <;> (try split) <;> omega
        rw [hne, cond_true]
        dsimp only
        rw [cond_true, e5]
        by_cases hlt : p < q
        · have hq : (18446744073709551616 : Int) ^ j * (p + 1) ≤ 18446744073709551616 ^ j * q := Int.mul_le_mul_of_nonneg_left (by omega) (by omega)
          rw [Int.mul_add] at hq
          simp only [sg]
          rw [if_pos (by omega), if_pos (by omega)]
        · have hq : (18446744073709551616 : Int) ^ j * (q + 1) ≤ 18446744073709551616 ^ j * p := Int.mul_le_mul_of_nonneg_left (by omega) (by omega)
          rw [Int.mul_add] at hq
          simp only [sg]
          rw [if_neg (by omega), if_pos (by omega), if_neg (by omega), if_pos (by omega)]
theorem Cmp_eq (a b : List Int) (ha : lim a) (hb : lim b) (la : a.length ≤ 100000) (lb : b.length ≤ 100000) : S.nat_Cmp_pre ⟨a⟩ ⟨b⟩ ∧ S.nat_Cmp ⟨a⟩ ⟨b⟩ = sg (val a - val b) := by
  have hm : (if (b.length : Int) > (a.length : Int) then (b.length : Int) else (a.length : Int)) = ((max a.length b.length : Nat) : Int) := by split <;> omega
  obtain ⟨y, hr, h1⟩ := Cmp_runs a b ha hb (max a.length b.length) (by omega) (by omega) (by omega)
  have e : nat_Cmp_L0_run ⟨0, ((max a.length b.length : Nat) : Int) - 1, ⟨a⟩, ⟨b⟩⟩ = y := theRun_eq (d := fun x => ⟨true, x⟩) hr
  have w : IntKind.i64.wrap (((max a.length b.length : Nat) : Int) - 1) = ((max a.length b.length : Nat) : Int) - 1 := by rw [IntWalk.i64_in] <;> omega
  have e0 : ∀ M N y, (if (b.length : Int) > (a.length : Int) then (b.length : Int) else (a.length : Int)) = M → IntKind.i64.wrap (M - 1) = N → nat_Cmp_L0_run ⟨0, N, ⟨a⟩, ⟨b⟩⟩ = y → S.nat_Cmp ⟨a⟩ ⟨b⟩ = (bif y.1 then y.2.t4 else 0) ∧
      S.nat_Cmp_pre ⟨a⟩ ⟨b⟩ = (All [Runs nat_Cmp_L0_step nat_Cmp_L0_vcs ⟨0, N, ⟨a⟩, ⟨b⟩⟩ y] ∧ ((y.1 = true → True) ∧ (y.1 = false → True))) := by
    intro M N y h1 h2 h3; subst h1 h2 h3; exact ⟨rfl, rfl⟩
  obtain ⟨e1, e2⟩ := e0 _ _ _ hm w e
  rw [e1, e2, h1]
  exact ⟨⟨hr, fun _ => trivial, fun _ => trivial⟩, rfl⟩
theorem Sub_runs (a b : List Int) (ha : lim a) (hb : lim b) (hm : a.length ≤ 100000) :
    ∃ y, Runs nat_Sub_L0_step nat_Sub_L0_vcs ⟨0, (a.length : Int), 0, [], ⟨a⟩, ⟨b⟩⟩ y ∧ (y.l.length = a.length ∧ lim y.l ∧ 0 ≤ y.borrow ∧ y.borrow ≤ 1 ∧ val y.l - 18446744073709551616 ^ a.length * y.borrow = val a - val (b.take a.length)) := by
  refine Runs.of (fun x => ∃ i : Nat, x.t16 = (a.length : Int) ∧ x.t17 = (i : Int) ∧ x.a = ⟨a⟩ ∧ x.b = ⟨b⟩ ∧ i ≤ a.length ∧ x.l.length = i ∧ lim x.l ∧ 0 ≤ x.borrow ∧ x.borrow ≤ 1 ∧ val x.l - 18446744073709551616 ^ i * x.borrow = val (a.take i) - val (b.take i))
    (fun x => ((a.length : Int) - x.t17).toNat) _ ?_ _ ⟨0, rfl, rfl, rfl, rfl, by omega, rfl, lim_nil, by simp, by simp, by simp [val]⟩
  rintro ⟨c, m', i', l, a', b'⟩ ⟨i, h1, h2, h3, h4, h5, h6, h7, h8, h9, h10⟩
  dsimp only at *
  subst h1 h2 h3 h4
  by_cases hi : i < a.length
  · have hi' : (i : Int) < (a.length : Int) := by omega
    have w1 : IntKind.i64.wrap ((i : Int) + 1) = ((i + 1 : Nat) : Int) := by rw [IntWalk.i64_in] <;> omega
    have ga := getD_lim ha i; have gb := getD_lim hb i
    refine ⟨?_, ?_⟩
    · simp only [nat_Sub_L0_vcs, All, hi', decide_true, true_implies, and_true, Bool.true_eq_false, false_implies, limb_eq, limb_pre, math_bits_Sub64_pre, true_and, h6, List.length_cons, List.length_nil]
      omega
    · simp only [nat_Sub_L0_step, hi', decide_true, cond_true, limb_eq, math_bits_Sub64, w1]
      have hb' : 0 ≤ (if a.getD i 0 < b.getD i 0 + c then (1 : Int) else 0) ∧ (if a.getD i 0 < b.getD i 0 + c then (1 : Int) else 0) ≤ 1 := by split <;> omega
      have hd : (a.getD i 0 + 18446744073709551616 - b.getD i 0 - c) % 18446744073709551616 - 18446744073709551616 * (if a.getD i 0 < b.getD i 0 + c then (1 : Int) else 0) = a.getD i 0 - b.getD i 0 - c := by split <;> omega
      refine ⟨⟨i + 1, trivial, rfl, trivial, trivial, by omega, by simp [h6], ?_, hb'.1, hb'.2, ?_⟩, by omega⟩
      · exact lim_app.2 ⟨h7, lim_cons.2 ⟨by omega, lim_nil⟩⟩
      · rw [val_app, h6, val_take, val_take, Int.pow_succ]
        generalize (a.getD i 0 + 18446744073709551616 - b.getD i 0 - c) % 18446744073709551616 = d at *
        generalize (if a.getD i 0 < b.getD i 0 + c then (1 : Int) else 0) = q at *
        generalize a.getD i 0 = p at *
        generalize b.getD i 0 = r at *
        have e : (18446744073709551616 : Int) ^ i * d - 18446744073709551616 ^ i * 18446744073709551616 * q = 18446744073709551616 ^ i * p - 18446744073709551616 ^ i * r - 18446744073709551616 ^ i * c := by
          rw [Int.mul_assoc, ← Int.mul_sub, ← Int.mul_sub, ← Int.mul_sub, hd]
        simp only [val, Int.mul_zero, Int.add_zero]
        omega
  · have hi' : ¬ (i : Int) < (a.length : Int) := by omega
    have e : i = a.length := by omega
    subst e
    refine ⟨by simp [nat_Sub_L0_vcs, hi'], ?_⟩
    simp only [nat_Sub_L0_step, hi', decide_false, cond_false]
    rw [List.take_of_length_le (Nat.le_refl _)] at h10
    exact ⟨h6, h7, h8, h9, h10⟩
theorem Sub_eq (a b : List Int) (ha : lim a) (hb : lim b) (tb : top b) (la : a.length ≤ 100000) (lb : b.length ≤ 100000) :
    S.nat_Sub_pre ⟨a⟩ ⟨b⟩ ∧ S.nat_Sub ⟨a⟩ ⟨b⟩ = if val a < val b then (⟨[]⟩, 11) else (⟨digs (val a - val b).toNat⟩, 0) := by
  obtain ⟨cp, ce⟩ := Cmp_eq a b ha hb la lb
  obtain ⟨y, hr, h1, h2, h3, h4, h5⟩ := Sub_runs a b ha hb la
  have e : nat_Sub_L0_run ⟨0, (a.length : Int), 0, [], ⟨a⟩, ⟨b⟩⟩ = y := theRun_eq (d := fun x => x) hr
  have e0 : ∀ y, nat_Sub_L0_run ⟨0, (a.length : Int), 0, [], ⟨a⟩, ⟨b⟩⟩ = y → S.nat_Sub ⟨a⟩ ⟨b⟩ = (bif decide (S.nat_Cmp ⟨a⟩ ⟨b⟩ < 0) then ((⟨([] : List Int)⟩ : S.Num), 11) else (nat_Limbs y.l, 0)) ∧
      S.nat_Sub_pre ⟨a⟩ ⟨b⟩ = (All [S.nat_Cmp_pre ⟨a⟩ ⟨b⟩] ∧ ((decide (S.nat_Cmp ⟨a⟩ ⟨b⟩ < 0) = true → True) ∧ (decide (S.nat_Cmp ⟨a⟩ ⟨b⟩ < 0) = false → (All [Runs nat_Sub_L0_step nat_Sub_L0_vcs ⟨0, (a.length : Int), 0, [], ⟨a⟩, ⟨b⟩⟩ y, S.nat_Limbs_pre y.l] ∧ True)))) := by
    intro y h; subst h; exact ⟨rfl, rfl⟩
  obtain ⟨e1, e2⟩ := e0 _ e
  obtain ⟨p1, q1⟩ := Limbs_eq y.l h2 (by omega)
  rw [e1, e2, ce]
  refine ⟨⟨cp, fun _ => trivial, fun _ => ⟨⟨hr, p1⟩, trivial⟩⟩, ?_⟩
  by_cases hlt : val a < val b
  · rw [if_pos hlt, decide_eq_true (by simp only [sg]; rw [if_pos (by omega)]; decide), cond_true]
  · rw [if_neg hlt, decide_eq_false (by simp only [sg]; rw [if_neg (by omega)]; split <;> omega), cond_false, q1]
    have hva := val_lt ha
    have hvb := val_nonneg hb
    have hlb : b.length ≤ a.length := by
      have := digs_of b hb tb
      rw [← this]
      refine digs_len _ _ ((Int.toNat_lt hvb).2 ?_)
      have : val b < 18446744073709551616 ^ a.length := by omega
      simpa using this
    rw [List.take_of_length_le hlb] at h5
    have hvl := val_lt h2
    rw [h1] at hvl
    have hb0 : y.borrow = 0 := by
      by_cases hz : y.borrow = 0
      · exact hz
      · have : y.borrow = 1 := by omega
        rw [this, Int.mul_one] at h5
        omega
    rw [hb0, Int.mul_zero, Int.sub_zero] at h5
    rw [h5]
theorem Mul64_eq (x y : Int) (hx : 0 ≤ x ∧ x ≤ 18446744073709551615) (hy : 0 ≤ y ∧ y ≤ 18446744073709551615) : S.math_bits_Mul64 x y = (x * y / 18446744073709551616, x * y % 18446744073709551616) := by
  have f : ∀ z : Int, Int.fdiv z (2 ^ min (Int.toNat 32) 64) = z / 4294967296 := fun z => by
    rw [show (2 : Int) ^ min (Int.toNat 32) 64 = 4294967296 by decide]; exact Int.fdiv_eq_ediv_of_nonneg _ (by decide)
  have m := mul64_arith x y hx.1 (by omega) hy.1 (by omega)
  simp only [math_bits_Mul64, f, IntKind.wrap_u64]
  rw [and_low32 x hx.1 (by omega), and_low32 y hy.1 (by omega), and_low32 _ (Int.emod_nonneg _ (by decide)) (Int.emod_lt_of_pos _ (by decide)), m]
theorem val_set : ∀ (l : List Int) (k : Nat) (v : Int), k < l.length → val (l.set k v) = val l + 18446744073709551616 ^ k * (v - l.getD k 0)
  | [], k, v, h => by simp at h
  | x :: l, 0, v, h => by simp [val]; omega
  | x :: l, k + 1, v, h => by
    simp only [List.set_cons_succ, val, List.getD_cons_succ]
    rw [val_set l k v (by simpa using h), Int.pow_succ, Int.mul_add, ← Int.add_assoc, ← Int.mul_assoc, Int.mul_comm (18446744073709551616 ^ k) 18446744073709551616]
theorem lim_set {l : List Int} (h : lim l) (k : Nat) (v : Int) (hv : 0 ≤ v ∧ v ≤ 18446744073709551615) : lim (l.set k v) := by
  intro x hx
  rcases List.mem_or_eq_of_mem_set hx with h1 | h1
  · exact h x h1
  · rw [h1]; exact hv
theorem getD_set_ne (l : List Int) (k j : Nat) (v : Int) (h : k ≠ j) : (l.set k v).getD j 0 = l.getD j 0 := by
  rw [List.getD_eq_getElem?_getD, List.getD_eq_getElem?_getD, List.getElem?_set_ne h]
/-- One digit's product, with what is there and what is carried. -/
theorem mul_step (x y e c : Int) (hx : 0 ≤ x ∧ x ≤ 18446744073709551615) (hy : 0 ≤ y ∧ y ≤ 18446744073709551615) (he : 0 ≤ e ∧ e ≤ 18446744073709551615) (hc : 0 ≤ c ∧ c ≤ 18446744073709551615) :
    ∃ v q, (S.math_bits_Add64 (S.math_bits_Add64 (S.math_bits_Mul64 x y).2 e 0).1 c 0).1 = v ∧ IntKind.u64.wrap (IntKind.u64.wrap ((S.math_bits_Mul64 x y).1 + (S.math_bits_Add64 (S.math_bits_Mul64 x y).2 e 0).2) + (S.math_bits_Add64 (S.math_bits_Add64 (S.math_bits_Mul64 x y).2 e 0).1 c 0).2) = q ∧
      (0 ≤ v ∧ v ≤ 18446744073709551615) ∧ (0 ≤ q ∧ q ≤ 18446744073709551615) ∧ v + 18446744073709551616 * q = x * y + e + c ∧
      S.math_bits_Add64_pre (S.math_bits_Mul64 x y).2 e 0 ∧ S.math_bits_Add64_pre (S.math_bits_Add64 (S.math_bits_Mul64 x y).2 e 0).1 c 0 := by
  refine ⟨_, _, rfl, rfl, ?_⟩
  rw [Mul64_eq x y hx hy]
  simp only [math_bits_Add64, math_bits_Add64_pre, IntKind.wrap_u64]
  have hxy : 0 ≤ x * y := Int.mul_nonneg hx.1 hy.1
  have hxy2 : x * y ≤ 18446744073709551615 * 18446744073709551615 := Int.mul_le_mul hx.2 hy.2 hy.1 (by omega)
  generalize x * y = p at *
  omega
theorem MulL2_runs (b : List Int) (hb : lim b) (i : Nat) (x : Int) (hx : 0 ≤ x ∧ x ≤ 18446744073709551615) (l0 : List Int) (h0 : lim l0) (hl : i + b.length < l0.length) (hbig : l0.length ≤ 1000000) :
    ∃ y, Runs nat_Mul_L2_step nat_Mul_L2_vcs ⟨(i : Int), x, 0, b, (b.length : Int), 0, l0⟩ y ∧ (y.i = (i : Int) ∧ y.l.length = l0.length ∧ lim y.l ∧ (0 ≤ y.carry ∧ y.carry ≤ 18446744073709551615) ∧
      (∀ k, i + b.length ≤ k → y.l.getD k 0 = l0.getD k 0) ∧ val y.l + 18446744073709551616 ^ (i + b.length) * y.carry = val l0 + 18446744073709551616 ^ i * (x * val b)) := by
  refine Runs.of (fun s => ∃ j : Nat, s.i = (i : Int) ∧ s.vx = x ∧ s.t29 = b ∧ s.t30 = (b.length : Int) ∧ s.t31 = (j : Int) ∧ j ≤ b.length ∧ s.l.length = l0.length ∧ lim s.l ∧ (0 ≤ s.carry ∧ s.carry ≤ 18446744073709551615) ∧
      (∀ k, i + b.length ≤ k → s.l.getD k 0 = l0.getD k 0) ∧ val s.l + 18446744073709551616 ^ (i + j) * s.carry = val l0 + 18446744073709551616 ^ i * (x * val (b.take j)))
    (fun s => ((b.length : Int) - s.t31).toNat) _ ?_ _ ⟨0, rfl, rfl, rfl, rfl, rfl, by omega, rfl, h0, by simp, fun _ _ => rfl, by simp [val]⟩
  rintro ⟨i', x', c, b', n', j', l⟩ ⟨j, h1, h2, h3, h4, h5, h6, h7, h8, h9, h10, h11⟩
  dsimp only at *
  subst h1 h2 h3 h4 h5
  by_cases hj : j < b'.length
  · have hj' : (j : Int) < (b'.length : Int) := by omega
    have w1 : IntKind.i64.wrap ((j : Int) + 1) = ((j + 1 : Nat) : Int) := by rw [IntWalk.i64_in] <;> omega
    have w2 : IntKind.i64.wrap ((i : Int) + (j : Int)) = ((i + j : Nat) : Int) := by rw [IntWalk.i64_in] <;> omega
    have gb := getD_lim hb j; have gl := getD_lim h8 (i + j)
    obtain ⟨v, q, k1, k2, k3, k4, k5, k6, k7⟩ := mul_step x' (b'.getD j 0) (l.getD (i + j) 0) c hx gb gl h9
    refine ⟨?_, ?_⟩
    · simp only [nat_Mul_L2_vcs, All, hj', decide_true, true_implies, and_true, Bool.true_eq_false, false_implies, w2, Int.toNat_natCast, k6, k7, true_and, h7]
      omega
    · simp only [nat_Mul_L2_step, hj', decide_true, cond_true, w1, w2, Int.toNat_natCast, k1, k2]
      refine ⟨⟨j + 1, trivial, trivial, trivial, trivial, rfl, by omega, by rw [List.length_set]; exact h7, lim_set h8 _ _ k3, k4, fun k hk => ?_, ?_⟩, by omega⟩
      · rw [getD_set_ne _ _ _ _ (by omega)]; exact h10 k hk
      · rw [val_set _ _ _ (by omega), val_take, ← Nat.add_assoc, Int.pow_succ]
        have e1 : (18446744073709551616 : Int) ^ (i + j) * (v - l.getD (i + j) 0) + 18446744073709551616 ^ (i + j) * 18446744073709551616 * q = 18446744073709551616 ^ (i + j) * (x' * b'.getD j 0) + 18446744073709551616 ^ (i + j) * c := by
          rw [Int.mul_assoc, ← Int.mul_add, ← Int.mul_add]; congr 1; omega
        have e2 : (18446744073709551616 : Int) ^ i * (x' * (val (b'.take j) + 18446744073709551616 ^ j * b'.getD j 0)) = 18446744073709551616 ^ i * (x' * val (b'.take j)) + 18446744073709551616 ^ (i + j) * (x' * b'.getD j 0) := by
          rw [Int.mul_add, Int.mul_add, Int.pow_add, ← Int.mul_assoc x' (18446744073709551616 ^ j), Int.mul_comm x' (18446744073709551616 ^ j), Int.mul_assoc (18446744073709551616 ^ j), ← Int.mul_assoc (18446744073709551616 ^ i) (18446744073709551616 ^ j)]
        rw [e2]
        omega
  · have hj' : ¬ (j : Int) < (b'.length : Int) := by omega
    have e : j = b'.length := by omega
    subst e
    refine ⟨by simp [nat_Mul_L2_vcs, hj'], ?_⟩
    simp only [nat_Mul_L2_step, hj', decide_false, cond_false]
    rw [List.take_of_length_le (Nat.le_refl _)] at h11
    exact ⟨trivial, h7, h8, h9, h10, h11⟩
theorem getD_rep (n k : Nat) : (List.replicate n (0 : Int)).getD k 0 = 0 := by
  rw [List.getD_eq_getElem?_getD]
  by_cases h : k < n
  · simp [h]
  · rw [List.getElem?_eq_none (by simp; omega)]; rfl
theorem val_rep (n : Nat) : val (List.replicate n (0 : Int)) = 0 := by
  induction n with
  | zero => rfl
  | succ n ih => rw [List.replicate_succ]; simp [val, ih]
theorem lim_rep (n : Nat) : lim (List.replicate n (0 : Int)) := fun x hx => by
  rw [List.mem_replicate] at hx; rw [hx.2]; decide
theorem MulL0_runs (a b : List Int) (ha : lim a) (hb : lim b) (l0 : List Int) (h0 : lim l0) (hl : l0.length = a.length + b.length) (hbig : l0.length ≤ 1000000) (hz : ∀ k, l0.getD k 0 = 0) (hv : val l0 = 0) :
    ∃ y, Runs nat_Mul_L0_step nat_Mul_L0_vcs ⟨a, (a.length : Int), 0, l0, ⟨b⟩⟩ y ∧ (y.l.length = l0.length ∧ lim y.l ∧ val y.l = val a * val b) := by
  refine Runs.of (fun s => ∃ i : Nat, s.t21 = a ∧ s.t22 = (a.length : Int) ∧ s.t23 = (i : Int) ∧ s.b = ⟨b⟩ ∧ i ≤ a.length ∧ s.l.length = l0.length ∧ lim s.l ∧ (∀ k, i + b.length ≤ k → s.l.getD k 0 = 0) ∧ val s.l = val (a.take i) * val b)
    (fun s => ((a.length : Int) - s.t23).toNat) _ ?_ _ ⟨0, rfl, rfl, rfl, rfl, by omega, rfl, h0, fun k _ => hz k, by simp [val, hv]⟩
  rintro ⟨a', n', i', l, b'⟩ ⟨i, h1, h2, h3, h4, h5, h6, h7, h8, h9⟩
  dsimp only at *
  subst h1 h2 h3 h4
  by_cases hi : i < a'.length
  · have hi' : (i : Int) < (a'.length : Int) := by omega
    have ga := getD_lim ha i
    obtain ⟨y, hr, k1, k2, k3, k4, k5, k6⟩ := MulL2_runs b hb i (a'.getD i 0) ga l h7 (by omega) (by omega)
    have e : nat_Mul_L2_run ⟨(i : Int), a'.getD i 0, 0, b, (b.length : Int), 0, l⟩ = y := theRun_eq (d := fun x => x) hr
    have w1 : IntKind.i64.wrap ((i : Int) + 1) = ((i + 1 : Nat) : Int) := by rw [IntWalk.i64_in] <;> omega
    have w2 : IntKind.i64.wrap ((i : Int) + (b.length : Int)) = ((i + b.length : Nat) : Int) := by rw [IntWalk.i64_in] <;> omega
    have hlen : S.nat_Nat_Len ⟨b⟩ = (b.length : Int) := rfl
    refine ⟨?_, ?_⟩
    · simp only [nat_Mul_L0_vcs, All, hi', decide_true, true_implies, and_true, Bool.true_eq_false, false_implies, Int.toNat_natCast, e, k1, hlen, w2, k2, h6]
      exact ⟨by omega, trivial, hr, by omega, by omega⟩
    · simp only [nat_Mul_L0_step, hi', decide_true, cond_true, Int.toNat_natCast, e, k1, hlen, w1, w2]
      refine ⟨⟨i + 1, trivial, trivial, rfl, trivial, by omega, by rw [List.length_set]; omega, lim_set k3 _ _ k4, fun k hk => ?_, ?_⟩, by omega⟩
      · rw [getD_set_ne _ _ _ _ (by omega), k5 k (by omega)]; exact h8 k (by omega)
      · rw [val_set _ _ _ (by omega), k5 _ (Nat.le_refl _), h8 _ (Nat.le_refl _), Int.sub_zero, k6, h9, val_take, Int.add_mul, Int.mul_assoc]
  · have hi' : ¬ (i : Int) < (a'.length : Int) := by omega
    have e : i = a'.length := by omega
    subst e
    refine ⟨by simp [nat_Mul_L0_vcs, hi'], ?_⟩
    simp only [nat_Mul_L0_step, hi', decide_false, cond_false]
    rw [List.take_of_length_le (Nat.le_refl _)] at h9
    exact ⟨h6, h7, h9⟩
theorem Mul_eq (a b : List Int) (ha : lim a) (hb : lim b) (la : a.length ≤ 100000) (lb : b.length ≤ 100000) : S.nat_Mul_pre ⟨a⟩ ⟨b⟩ ∧ S.nat_Mul ⟨a⟩ ⟨b⟩ = ⟨digs (val a * val b).toNat⟩ := by
  have w : IntKind.i64.wrap ((a.length : Int) + (b.length : Int)) = ((a.length + b.length : Nat) : Int) := by rw [IntWalk.i64_in] <;> omega
  obtain ⟨y, hr, h1, h2, h3⟩ := MulL0_runs a b ha hb (List.replicate (a.length + b.length) 0) (lim_rep _) (by simp) (by simp; omega) (getD_rep _) (val_rep _)
  have e : nat_Mul_L0_run ⟨a, (a.length : Int), 0, List.replicate (a.length + b.length) 0, ⟨b⟩⟩ = y := theRun_eq (d := fun x => x) hr
  obtain ⟨p1, q1⟩ := Limbs_eq y.l h2 (by rw [h1]; simp; omega)
  have e0 : ∀ T R y, IntKind.i64.wrap ((a.length : Int) + (b.length : Int)) = T → List.replicate (Int.toNat T) (0 : Int) = R → nat_Mul_L0_run ⟨a, (a.length : Int), 0, R, ⟨b⟩⟩ = y → S.nat_Mul ⟨a⟩ ⟨b⟩ = nat_Limbs y.l ∧
      S.nat_Mul_pre ⟨a⟩ ⟨b⟩ = (All [(0 : Int) ≤ T, T = T, T * 8 ≤ 140737488355328, Runs nat_Mul_L0_step nat_Mul_L0_vcs ⟨a, (a.length : Int), 0, R, ⟨b⟩⟩ y, S.nat_Limbs_pre y.l] ∧ True) := by
    intro T R y h1 h2 h3; subst h1 h2 h3; exact ⟨rfl, rfl⟩
  obtain ⟨e1, e2⟩ := e0 _ _ _ w rfl e
  rw [e1, e2, q1, h3]
  exact ⟨⟨⟨by omega, rfl, by omega, hr, p1⟩, trivial⟩, rfl⟩

/-! ### What the functions make of numbers -/
def num (n : Nat) : S.Num := ⟨digs n⟩
def small (n : Nat) : Prop := (digs n).length ≤ 100000
theorem nAdd (m n : Nat) (hm : small m) (hn : small n) : S.nat_Add_pre (num m) (num n) ∧ S.nat_Add (num m) (num n) = num (m + n) := by
  obtain ⟨v1, l1⟩ := digs_val m; obtain ⟨v2, l2⟩ := digs_val n
  obtain ⟨p, q⟩ := Add_eq _ _ l1 l2 hm hn
  refine ⟨p, q.trans ?_⟩
  rw [v1, v2]; show (⟨digs _⟩ : S.Num) = ⟨digs _⟩; congr 2
theorem nMul (m n : Nat) (hm : small m) (hn : small n) : S.nat_Mul_pre (num m) (num n) ∧ S.nat_Mul (num m) (num n) = num (m * n) := by
  obtain ⟨v1, l1⟩ := digs_val m; obtain ⟨v2, l2⟩ := digs_val n
  obtain ⟨p, q⟩ := Mul_eq _ _ l1 l2 hm hn
  refine ⟨p, q.trans ?_⟩
  rw [v1, v2]; show (⟨digs _⟩ : S.Num) = ⟨digs _⟩; congr 2
theorem nCmp (m n : Nat) (hm : small m) (hn : small n) : S.nat_Cmp_pre (num m) (num n) ∧ S.nat_Cmp (num m) (num n) = sg ((m : Int) - n) := by
  obtain ⟨v1, l1⟩ := digs_val m; obtain ⟨v2, l2⟩ := digs_val n
  obtain ⟨p, q⟩ := Cmp_eq _ _ l1 l2 hm hn
  exact ⟨p, q.trans (by rw [v1, v2])⟩
theorem nSub (m n : Nat) (hm : small m) (hn : small n) : S.nat_Sub_pre (num m) (num n) ∧ S.nat_Sub (num m) (num n) = if m < n then (⟨[]⟩, 11) else (num (m - n), 0) := by
  obtain ⟨v1, l1⟩ := digs_val m; obtain ⟨v2, l2⟩ := digs_val n
  obtain ⟨p, q⟩ := Sub_eq _ _ l1 l2 (top_digs n) hm hn
  refine ⟨p, q.trans ?_⟩
  rw [v1, v2]
  by_cases h : m < n
  · rw [if_pos h, if_pos (by omega)]
  · rw [if_neg h, if_neg (by omega)]
    show ((⟨digs _⟩ : S.Num), (0 : Int)) = (⟨digs _⟩, 0)
    congr 3; omega
theorem nLimbs (l : List Int) (h : lim l) (hn : l.length ≤ 100000) : S.nat_Limbs_pre l ∧ S.nat_Limbs l = num (val l).toNat ∧ small (val l).toNat :=
  ⟨(Limbs_eq l h (by omega)).1, (Limbs_eq l h (by omega)).2, Nat.le_trans (val_len h) hn⟩
/-- Numbers of at most k limbs. -/
def upto (k n : Nat) : Prop := n < 18446744073709551616 ^ k
theorem upto_small {k n : Nat} (h : upto k n) (hk : k ≤ 100000) : small n := Nat.le_trans (digs_len n k h) hk
theorem upto_val (l : List Int) (h : lim l) : upto l.length (val l).toNat := (Int.toNat_lt (val_nonneg h)).2 (by simpa using val_lt h)
theorem upto_mono {k j n : Nat} (h : upto k n) (hk : k ≤ j) : upto j n := Nat.lt_of_lt_of_le h (Nat.pow_le_pow_right (by omega) hk)
theorem upto_add {k m n : Nat} (hm : upto k m) (hn : upto k n) : upto (k + 1) (m + n) := by
  unfold upto at *; rw [Nat.pow_succ]; omega
theorem upto_mul {k j m n : Nat} (hm : upto k m) (hn : upto j n) : upto (k + j) (m * n) := by
  unfold upto at *; rw [Nat.pow_add]; exact Nat.mul_lt_mul'' hm hn
theorem sg_zero {d : Int} : sg d = 0 ↔ d = 0 := by
  unfold sg; split <;> (try split) <;> omega
theorem Of_num (n : Nat) (h : n ≤ 18446744073709551615) : S.nat_Of_pre (n : Int) ∧ S.nat_Of (n : Int) = num n := by
  have hl : lim [(n : Int)] := lim_cons.2 ⟨by omega, lim_nil⟩
  obtain ⟨p, q, _⟩ := nLimbs [(n : Int)] hl (by simp)
  have hv : (val [(n : Int)]).toNat = n := by simp [val]
  rw [hv] at q
  refine ⟨by simp only [nat_Of_pre, All, and_true]; exact p, ?_⟩
  simp only [nat_Of]; exact q
theorem num_nil : (⟨[]⟩ : S.Num) = num 0 := by simp [num, digs]
theorem Len_num (n : Nat) : S.nat_Nat_Len (num n) = ((digs n).length : Int) := rfl
theorem digs_lt {n : Nat} (h0 : 0 < n) (h : n < 18446744073709551616) : digs n = [(n : Int)] := by
  rw [digs_pos h0, show n / 18446744073709551616 = 0 by omega, Nat.mod_eq_of_lt h]
  simp [digs]
theorem digs_B (n : Nat) (h0 : 0 < n / 18446744073709551616) (h : n / 18446744073709551616 < 18446744073709551616) : digs n = [((n % 18446744073709551616 : Nat) : Int), ((n / 18446744073709551616 : Nat) : Int)] := by
  rw [digs_pos (by omega), digs_lt h0 h]
theorem s1 {n : Nat} (h : n < 18446744073709551616) : small n := upto_small (k := 1) (by unfold upto; rw [Nat.pow_one]; exact h) (by omega)
theorem All_pre (n : Nat) (h : small n) : S.nat_Nat_All_pre (num n) := by
  simp only [nat_Nat_All_pre, All, and_true, num]; exact Clone_pre _ (Nat.le_trans h (by omega))
theorem All_num (n : Nat) : S.nat_Nat_All (num n) = digs n := rfl
theorem nCmp0 (x y : Nat) (hx : small x) (hy : small y) (h : x = y) : S.nat_Cmp_pre (num x) (num y) ∧ S.nat_Cmp (num x) (num y) = 0 := by
  obtain ⟨p, q⟩ := nCmp x y hx hy
  exact ⟨p, q.trans (sg_zero.2 (by omega))⟩
theorem upto_pow {k t : Nat} (h : upto k t) (hk : k ≤ 200) : small t := upto_small h (by omega)
theorem lim_of {l : List Int} (h : ∀ x ∈ l, inr .u64 x) : lim l := fun x hx => inr_u64.1 (h x hx)
def val8 : List Int → Int
  | [] => 0
  | x :: l => x + 256 * val8 l
def lim8 (l : List Int) : Prop := ∀ x ∈ l, 0 ≤ x ∧ x ≤ 255
theorem lim_nil8 : lim8 [] := fun _ h => by cases h
theorem lim_cons8 {x : Int} {l : List Int} : lim8 (x :: l) ↔ (0 ≤ x ∧ x ≤ 255) ∧ lim8 l := by
  simp [lim8]
theorem lim_app8 {l k : List Int} : lim8 (l ++ k) ↔ lim8 l ∧ lim8 k := by
  simp only [lim8, List.mem_append]
  exact ⟨fun h => ⟨fun x hx => h x (.inl hx), fun x hx => h x (.inr hx)⟩, fun h x hx => hx.elim (h.1 x) (h.2 x)⟩
theorem val_nonneg8 {l : List Int} (h : lim8 l) : 0 ≤ val8 l := by
  induction l with
  | nil => exact Int.le_refl 0
  | cons x l ih =>
    rw [lim_cons8] at h
    have := ih h.2
    simp only [val8]; omega
theorem val_app8 (l k : List Int) : val8 (l ++ k) = val8 l + 256 ^ l.length * val8 k := by
  induction l with
  | nil => simp [val8]
  | cons x l ih =>
    simp only [List.cons_append, val8, ih, List.length_cons, Int.pow_succ]
    rw [Int.mul_add, ← Int.add_assoc, ← Int.mul_assoc, Int.mul_comm (256 ^ l.length) 256]
theorem val_lt8 {l : List Int} (h : lim8 l) : val8 l < 256 ^ l.length := by
  induction l with
  | nil => simp [val8]
  | cons x l ih =>
    rw [lim_cons8] at h
    have := ih h.2
    simp only [val8, List.length_cons, Int.pow_succ]
    omega
/-- The bytes of a number. -/
def digs8 : Nat → List Int
  | 0 => []
  | n + 1 => (((n + 1) % 256 : Nat) : Int) :: digs8 ((n + 1) / 256)
decreasing_by omega
theorem digs_pos8 {n : Nat} (h : 0 < n) : digs8 n = ((n % 256 : Nat) : Int) :: digs8 (n / 256) := by
  cases n with
  | zero => omega
  | succ n => rw [digs8]
theorem digs_val8 (n : Nat) : val8 (digs8 n) = n ∧ lim8 (digs8 n) := by
  induction n using Nat.strongRecOn with
  | _ n ih =>
    by_cases h : 0 < n
    · rw [digs_pos8 h]
      obtain ⟨h1, h2⟩ := ih (n / 256) (by omega)
      refine ⟨by simp only [val8, h1]; omega, lim_cons8.2 ⟨by omega, h2⟩⟩
    · have : n = 0 := by omega
      subst this
      rw [digs8]; exact ⟨rfl, lim_nil8⟩
/-- A list of limbs whose last is not 0. -/
def top8 (l : List Int) : Prop := ∀ k x, l = k ++ [x] → x ≠ 0
theorem digs_of8 : ∀ (l : List Int), lim8 l → top8 l → digs8 (val8 l).toNat = l := by
  intro l
  induction l with
  | nil => intro _ _; simp [val8, digs8]
  | cons x l ih =>
    intro h ht
    rw [lim_cons8] at h
    have ht' : top8 l := fun k y e => ht (x :: k) y (by rw [e]; rfl)
    have hi := ih h.2 ht'
    have hv := val_nonneg8 h.2
    have hpos : 0 < x + 256 * val8 l := by
      by_cases hl : l = []
      · subst hl
        have := ht [] x rfl
        simp only [val8]; omega
      · by_cases hz : val8 l = 0
        · rw [hz] at hi
          have : l = [] := by rw [← hi]; simp [digs8]
          exact absurd this hl
        · omega
    have e1 : ((x + 256 * val8 l).toNat % 256 : Nat) = x.toNat := by omega
    have e2 : (x + 256 * val8 l).toNat / 256 = (val8 l).toNat := by omega
    simp only [val8]
    rw [digs_pos8 (by omega), e1, e2, hi, Int.toNat_of_nonneg h.1.1]
theorem digs_len8 (n k : Nat) (h : n < 256 ^ k) : (digs8 n).length ≤ k := by
  induction k generalizing n with
  | zero => have : n = 0 := by simpa using h
            subst this; simp [digs8]
  | succ k ih =>
    by_cases hn : 0 < n
    · rw [digs_pos8 hn, List.length_cons]
      have := ih (n / 256) (by rw [Nat.pow_succ] at h; exact Nat.div_lt_of_lt_mul (by rw [Nat.mul_comm]; exact h))
      omega
    · have : n = 0 := by omega
      subst this; simp [digs8]
theorem top_digs8 (n : Nat) : top8 (digs8 n) := by
  induction n using Nat.strongRecOn with
  | _ n ih =>
    by_cases h : 0 < n
    · rw [digs_pos8 h]
      intro k x e
      cases k with
      | nil =>
        simp only [List.nil_append, List.cons.injEq] at e
        obtain ⟨e1, e2⟩ := e
        have hz : n / 256 = 0 := by
          by_cases hq : 0 < n / 256
          · rw [digs_pos8 hq] at e2; cases e2
          · omega
        omega
      | cons y k =>
        simp only [List.cons_append, List.cons.injEq] at e
        exact ih (n / 256) (by omega) k x e.2
    · have : n = 0 := by omega
      subst this
      rw [digs8]
      intro k x e
      cases k <;> cases e
theorem trim_runs : ∀ (n : Nat) (l : List Int), l.length = n → n ≤ 1000000 → lim8 l → Runs ref01_trim_L0_step ref01_trim_L0_vcs ⟨l⟩ ⟨digs8 (val8 l).toNat⟩ := by
  intro n
  induction n with
  | zero =>
    intro l hl _ _
    have : l = [] := List.length_eq_zero_iff.1 hl
    subst this
    exact .done _ _ (by simp [ref01_trim_L0_vcs, All]) (by simp [ref01_trim_L0_step, val8, digs8])
  | succ n ih =>
    intro l hl hn hlim
    obtain ⟨k, x, rfl⟩ : ∃ k x, l = k ++ [x] := by
      rcases List.eq_nil_or_concat l with h | ⟨k, x, h⟩
      · rw [h] at hl; cases hl
      · exact ⟨k, x, by rw [h, List.concat_eq_append]⟩
    have hk : k.length = n := by simpa using hl
    obtain ⟨h1, h2⟩ := lim_app8.1 hlim
    have hx := h2 x (by simp)
    have hl' : ((k ++ [x]).length : Int) = (n : Int) + 1 := by rw [hl]; simp
    have w1 : IntKind.i64.wrap ((n : Int) + 1 - 1) = (n : Int) := by rw [IntWalk.i64_in] <;> omega
    have e1 : (k ++ [x]).getD (Int.toNat (n : Int)) 0 = x := by
      rw [Int.toNat_natCast, List.getD_eq_getElem?_getD, ← hk, List.getElem?_append_right (Nat.le_refl _)]; simp
    have e2 : (k ++ [x]).take (Int.toNat (n : Int)) = k := by
      rw [Int.toNat_natCast, ← hk]; simp
    have hp : ((n : Int) + 1 > 0) := by omega
    by_cases h0 : x = 0
    · subst h0
      have hv : val8 (k ++ [0]) = val8 k := by rw [val_app8]; simp [val8]
      rw [hv]
      refine .next _ ⟨k⟩ _ ?_ ?_ (ih k hk (by omega) h1)
      · simp only [ref01_trim_L0_vcs, All, hl', w1, e1, hp, decide_true, Bool.true_and, beq_self_eq_true, true_implies, and_true, Bool.true_eq_false, false_implies]
        omega
      · simp only [ref01_trim_L0_step, hl', w1, e1, e2, hp, decide_true, Bool.true_and, beq_self_eq_true, cond_true]
    · have hb : (x == 0) = false := beq_eq_false_iff_ne.2 h0
      have ht : top8 (k ++ [x]) := fun k' y e => by
        have := List.append_inj_right' e rfl
        simp at this; rw [← this]; exact h0
      rw [digs_of8 _ hlim ht]
      refine .done _ _ ?_ ?_
      · simp only [ref01_trim_L0_vcs, All, hl', w1, e1, hb, Bool.and_false, hp, decide_true, true_implies, and_true, Bool.false_eq_true, false_implies]
        omega
      · simp only [ref01_trim_L0_step, hl', w1, e1, hb, Bool.and_false, cond_false]
theorem val_len8 {l : List Int} (h : lim8 l) : (digs8 (val8 l).toNat).length ≤ l.length := by
  refine digs_len8 _ _ ?_
  have h1 := val_lt8 h
  have h2 := val_nonneg8 h
  exact (Int.toNat_lt h2).2 (by simpa using h1)
theorem trim_eq (l : List Int) (h : lim8 l) (hn : l.length ≤ 1000000) : S.ref01_trim_pre l ∧ S.ref01_trim l = digs8 (val8 l).toNat := by
  have hr := trim_runs _ l rfl hn h
  have e : ref01_trim_L0_run ⟨l⟩ = ⟨digs8 (val8 l).toNat⟩ := theRun_eq (d := fun x => x) hr
  refine ⟨?_, ?_⟩
  · simp only [ref01_trim_pre, All, List.nil_append, e, and_true, List.length_nil]
    exact ⟨by omega, hr⟩
  · simp only [ref01_trim, List.nil_append, e]
theorem getD_lim8 {l : List Int} (h : lim8 l) (i : Nat) : 0 ≤ l.getD i 0 ∧ l.getD i 0 ≤ 255 := by
  rw [List.getD_eq_getElem?_getD]
  by_cases hi : i < l.length
  · rw [List.getElem?_eq_getElem hi]; exact h _ (List.getElem_mem _)
  · rw [List.getElem?_eq_none (by omega)]; simp
theorem val_take8 (l : List Int) (i : Nat) : val8 (l.take (i + 1)) = val8 (l.take i) + 256 ^ i * l.getD i 0 := by
  by_cases hi : i < l.length
  · rw [List.take_succ_eq_append_getElem hi, val_app8, List.length_take, Nat.min_eq_left (by omega), List.getD_eq_getElem?_getD, List.getElem?_eq_getElem hi]
    simp [val8]
  · rw [List.getD_eq_getElem?_getD, List.getElem?_eq_none (by omega), List.take_of_length_le (by omega), List.take_of_length_le (by omega)]
    simp
theorem val_take_lt8 {l : List Int} (h : lim8 l) (i : Nat) : 0 ≤ val8 (l.take i) ∧ val8 (l.take i) < 256 ^ i := by
  have hl : lim8 (l.take i) := fun x hx => h x (List.mem_of_mem_take hx)
  refine ⟨val_nonneg8 hl, ?_⟩
  have h1 := val_lt8 hl
  refine Int.lt_of_lt_of_le h1 ?_
  have h3 : (l.take i).length ≤ i := by rw [List.length_take]; omega
  have h2 := Nat.pow_le_pow_right (n := 256) (by omega) h3
  have h4 := Int.ofNat_le.2 h2
  simpa using h4
theorem val_set8 : ∀ (l : List Int) (k : Nat) (v : Int), k < l.length → val8 (l.set k v) = val8 l + 256 ^ k * (v - l.getD k 0)
  | [], k, v, h => by simp at h
  | x :: l, 0, v, h => by simp [val8]; omega
  | x :: l, k + 1, v, h => by
    simp only [List.set_cons_succ, val8, List.getD_cons_succ]
    rw [val_set8 l k v (by simpa using h), Int.pow_succ, Int.mul_add, ← Int.add_assoc, ← Int.mul_assoc, Int.mul_comm (256 ^ k) 256]
theorem lim_set8 {l : List Int} (h : lim8 l) (k : Nat) (v : Int) (hv : 0 ≤ v ∧ v ≤ 255) : lim8 (l.set k v) := by
  intro x hx
  rcases List.mem_or_eq_of_mem_set hx with h1 | h1
  · exact h x h1
  · rw [h1]; exact hv
theorem getD_set_ne8 (l : List Int) (k j : Nat) (v : Int) (h : k ≠ j) : (l.set k v).getD j 0 = l.getD j 0 := by
  rw [List.getD_eq_getElem?_getD, List.getD_eq_getElem?_getD, List.getElem?_set_ne h]
theorem at_eq (l : List Int) (h : lim8 l) (i : Nat) : S.ref01_at l (i : Int) = l.getD i 0 := by
  simp only [ref01_at, Int.toNat_natCast]
  by_cases hi : i < l.length
  · rw [decide_eq_true (by omega), cond_true]
    have := getD_lim8 h i
    rw [IntWalk.i64_in]; omega
  · rw [decide_eq_false (by omega), cond_false, List.getD_eq_getElem?_getD, List.getElem?_eq_none (by omega)]; rfl
theorem at_pre (l : List Int) (i : Nat) : S.ref01_at_pre l (i : Int) := by
  simp only [ref01_at_pre, All, and_true]
  refine ⟨fun h => ?_, fun _ => trivial⟩
  have := of_decide_eq_true h
  omega
theorem getD_none {l : List Int} {i : Nat} (h : l.length ≤ i) : l.getD i 0 = 0 := by
  rw [List.getD_eq_getElem?_getD, List.getElem?_eq_none h]; rfl
theorem u8_in {x : Int} (h : 0 ≤ x ∧ x ≤ 255) : IntKind.u8.wrap x = x := by rw [IntKind.wrap_u8]; omega
theorem nearer (i : Nat) (c q : Int) (hi : i ≤ 100000) (hc : 0 ≤ c) (hq : 0 ≤ q) (hq1 : q ≤ 1) : (2 * ((100002 : Int) - ((i + 1 : Nat) : Int)) + q).toNat < (2 * ((100002 : Int) - (i : Int)) + c).toNat := by omega
theorem refAdd_runs (a b : List Int) (ha : lim8 a) (hb : lim8 b) (la : a.length ≤ 100000) (lb : b.length ≤ 100000) :
    ∃ y, Runs ref01_Add_L0_step ref01_Add_L0_vcs ⟨a, b, 0, 0, []⟩ y ∧ (y.out.length ≤ 100002 ∧ lim8 y.out ∧ val8 y.out = val8 a + val8 b) := by
  refine Runs.of (fun x => ∃ i : Nat, x.i = (i : Int) ∧ x.a = a ∧ x.b = b ∧ i ≤ 100001 ∧ (x.carry = 1 → i ≤ 100000) ∧ x.out.length = i ∧ lim8 x.out ∧ 0 ≤ x.carry ∧ x.carry ≤ 1 ∧ val8 x.out + 256 ^ i * x.carry = val8 (a.take i) + val8 (b.take i))
    (fun x => (2 * ((100002 : Int) - x.i) + x.carry).toNat) _ ?_ _ ⟨0, rfl, rfl, rfl, by omega, by omega, rfl, lim_nil8, by simp, by simp, by simp [val8]⟩
  rintro ⟨a', b', c, i', l⟩ ⟨i, h1, h3, h4, h5, h5', h6, h7, h8, h9, h10⟩
  dsimp only at *
  subst h1 h3 h4
  have ga := getD_lim8 ha i; have gb := getD_lim8 hb i
  have w0 : IntKind.i64.wrap (a'.getD i 0 + b'.getD i 0) = a'.getD i 0 + b'.getD i 0 := by rw [IntWalk.i64_in] <;> omega
  have w2 : IntKind.i64.wrap (a'.getD i 0 + b'.getD i 0 + c) = a'.getD i 0 + b'.getD i 0 + c := by rw [IntWalk.i64_in] <;> omega
  have hs0 : 0 ≤ a'.getD i 0 + b'.getD i 0 + c := by omega
  have t1 : Int.tmod (a'.getD i 0 + b'.getD i 0 + c) 256 = (a'.getD i 0 + b'.getD i 0 + c) % 256 := Int.tmod_eq_emod_of_nonneg hs0
  have t2 : Int.tdiv (a'.getD i 0 + b'.getD i 0 + c) 256 = (a'.getD i 0 + b'.getD i 0 + c) / 256 := Int.tdiv_eq_ediv_of_nonneg hs0
  have w3 : IntKind.i64.wrap ((a'.getD i 0 + b'.getD i 0 + c) / 256) = (a'.getD i 0 + b'.getD i 0 + c) / 256 := by rw [IntWalk.i64_in] <;> omega
  have w4 : IntKind.u8.wrap ((a'.getD i 0 + b'.getD i 0 + c) % 256) = (a'.getD i 0 + b'.getD i 0 + c) % 256 := u8_in (by omega)
  by_cases hgo : (decide ((i : Int) < (a'.length : Int)) || decide ((i : Int) < (b'.length : Int)) || decide (c > 0)) = true
  · have w1 : IntKind.i64.wrap ((i : Int) + 1) = ((i + 1 : Nat) : Int) := by rw [IntWalk.i64_in] <;> omega
    have hi : i ≤ 100000 := by
      simp only [Bool.or_eq_true, decide_eq_true_eq] at hgo
      rcases hgo with (h | h) | h
      · omega
      · omega
      · exact h5' (by omega)
    have hout : a'.length ≤ i → b'.length ≤ i → (a'.getD i 0 + b'.getD i 0 + c) / 256 = 0 := fun h1 h2 => by
      rw [getD_none h1, getD_none h2]; omega
    refine ⟨?_, ?_⟩
    · simp only [ref01_Add_L0_vcs, All, hgo, true_implies, and_true, Bool.true_eq_false, false_implies, at_pre, true_and, h6, List.length_cons, List.length_nil]
      omega
    · simp only [ref01_Add_L0_step, hgo, cond_true, at_eq _ ha, at_eq _ hb, w0, w1, w2, w3, w4, t1, t2]
      refine ⟨⟨i + 1, rfl, trivial, trivial, by omega, fun h => ?_, by simp [h6], ?_, by omega, by omega, ?_⟩, ?_⟩
      · by_cases h1 : a'.length ≤ i
        · by_cases h2 : b'.length ≤ i
          · rw [hout h1 h2] at h; omega
          · omega
        · omega
      · exact lim_app8.2 ⟨h7, lim_cons8.2 ⟨by omega, lim_nil8⟩⟩
      · rw [val_app8, h6, val_take8, val_take8, Int.pow_succ]
        have hd := Int.mul_ediv_add_emod (a'.getD i 0 + b'.getD i 0 + c) 256
        generalize (a'.getD i 0 + b'.getD i 0 + c) % 256 = d at *
        generalize (a'.getD i 0 + b'.getD i 0 + c) / 256 = q at *
        generalize a'.getD i 0 = p at *
        generalize b'.getD i 0 = r at *
        have e : (256 : Int) ^ i * d + 256 ^ i * 256 * q = 256 ^ i * p + 256 ^ i * r + 256 ^ i * c := by
          rw [Int.mul_assoc, ← Int.mul_add, ← Int.mul_add, ← Int.mul_add, show d + 256 * q = p + r + c by omega]
        simp only [val8, Int.mul_zero, Int.add_zero]
        omega
      · exact nearer i c _ hi h8 (by omega) (by omega)
  · have hgo : (decide ((i : Int) < (a'.length : Int)) || decide ((i : Int) < (b'.length : Int)) || decide (c > 0)) = false := by simpa using hgo
    refine ⟨by simp only [ref01_Add_L0_vcs, hgo, Bool.false_eq_true, false_implies, implies_true, and_true], ?_⟩
    simp only [ref01_Add_L0_step, hgo, cond_false]
    simp only [Bool.or_eq_false_iff, decide_eq_false_iff_not] at hgo
    rw [List.take_of_length_le (by omega), List.take_of_length_le (by omega), show c = 0 by omega, Int.mul_zero, Int.add_zero] at h10
    exact ⟨by omega, h7, h10⟩
theorem refAdd_eq (a b : List Int) (ha : lim8 a) (hb : lim8 b) (la : a.length ≤ 100000) (lb : b.length ≤ 100000) : S.ref01_Add_pre a b ∧ S.ref01_Add a b = digs8 (val8 a + val8 b).toNat := by
  obtain ⟨y, hr, h1, h2, h3⟩ := refAdd_runs a b ha hb la lb
  have e : ref01_Add_L0_run ⟨a, b, 0, 0, []⟩ = y := theRun_eq (d := fun x => x) hr
  obtain ⟨p, q⟩ := trim_eq y.out h2 (by omega)
  rw [h3] at q
  refine ⟨?_, ?_⟩
  · simp only [ref01_Add_pre, All, e, and_true]; exact ⟨hr, p⟩
  · simp only [ref01_Add, e, q]
theorem refCmp_runs (a b : List Int) (ha : lim8 a) (hb : lim8 b) (hl : a.length = b.length) (hm : a.length ≤ 1000000) :
    ∃ y, Runs ref01_Cmp_L0_step ref01_Cmp_L0_vcs ⟨a, b, 0, (a.length : Int) - 1⟩ y ∧ (bif y.1 then y.2.t4 else 0) = sg (val8 a - val8 b) := by
  refine Runs.of (fun x => ∃ k : Nat, x.i = (k : Int) - 1 ∧ k ≤ a.length ∧ x.a = a ∧ x.b = b ∧ val8 a - val8 b = val8 (a.take k) - val8 (b.take k)) (fun x => (x.i + 1).toNat) _ ?_ _
    ⟨a.length, rfl, by omega, rfl, rfl, by rw [List.take_of_length_le (Nat.le_refl _), List.take_of_length_le (by omega)]⟩
  rintro ⟨a', b', t, i'⟩ ⟨k, e1, e2, e3, e4, e5⟩
  dsimp only at *
  subst e1 e3 e4
  cases k with
  | zero =>
    have hi : ¬ ((0 : Nat) : Int) - 1 ≥ 0 := by omega
    refine ⟨by simp only [ref01_Cmp_L0_vcs, decide_eq_false hi, Bool.false_eq_true, false_implies, true_and, implies_true], ?_⟩
    simp only [ref01_Cmp_L0_step, decide_eq_false hi, cond_false, e5]
    simp [sg]
  | succ j =>
    have hi : ((j + 1 : Nat) : Int) - 1 ≥ 0 := by omega
    have ej : ((j + 1 : Nat) : Int) - 1 = (j : Int) := by omega
    rw [ej] at hi ⊢
    have w1 : IntKind.i64.wrap ((j : Int) - 1) = (j : Int) - 1 := by rw [IntWalk.i64_in] <;> omega
    rw [val_take8, val_take8] at e5
    have ga := getD_lim8 ha j; have gb := getD_lim8 hb j
    obtain ⟨ta1, ta2⟩ := val_take_lt8 ha j; obtain ⟨tb1, tb2⟩ := val_take_lt8 hb j
    have l1 : (0 : Int) ≤ (j : Int) ∧ (j : Int) < (a'.length : Int) ∧ (0 : Int) ≤ (j : Int) ∧ (j : Int) < (b'.length : Int) := by omega
    refine ⟨?_, ?_⟩
    · simp only [ref01_Cmp_L0_vcs, All, decide_eq_true hi, true_implies, and_true, Bool.true_eq_false, false_implies, l1, implies_true, and_self]
    · by_cases hlt : a'.getD j 0 < b'.getD j 0
      · simp only [ref01_Cmp_L0_step, decide_eq_true hi, cond_true, Int.toNat_natCast, w1, hlt, decide_true]
        rw [e5]
        have hq : (256 : Int) ^ j * (a'.getD j 0 + 1) ≤ 256 ^ j * b'.getD j 0 := Int.mul_le_mul_of_nonneg_left (by omega) (by omega)
        rw [Int.mul_add] at hq
        simp only [sg]
        rw [if_pos (by omega)]
      · by_cases hgt : a'.getD j 0 > b'.getD j 0
        · simp only [ref01_Cmp_L0_step, decide_eq_true hi, cond_true, Int.toNat_natCast, w1, hlt, hgt, decide_true, decide_false, cond_false]
          rw [e5]
          have hq : (256 : Int) ^ j * (b'.getD j 0 + 1) ≤ 256 ^ j * a'.getD j 0 := Int.mul_le_mul_of_nonneg_left (by omega) (by omega)
          rw [Int.mul_add] at hq
          simp only [sg]
          rw [if_neg (by omega), if_pos (by omega)]
        · have he : a'.getD j 0 = b'.getD j 0 := by omega
          simp only [ref01_Cmp_L0_step, decide_eq_true hi, cond_true, Int.toNat_natCast, w1, hlt, hgt, decide_false, cond_false]
          rw [he] at e5
          exact ⟨⟨j, rfl, by omega, trivial, trivial, by omega⟩, by omega⟩
theorem refCmp_eq (m n : Nat) (lm : (digs8 m).length ≤ 100000) (ln : (digs8 n).length ≤ 100000) : S.ref01_Cmp_pre (digs8 m) (digs8 n) ∧ S.ref01_Cmp (digs8 m) (digs8 n) = sg ((m : Int) - n) := by
  obtain ⟨v1, l1⟩ := digs_val8 m; obtain ⟨v2, l2⟩ := digs_val8 n
  have len : ∀ x y : Nat, (digs8 x).length < (digs8 y).length → x < y := fun x y h => by
    obtain ⟨u1, u2⟩ := digs_val8 x
    have h1 := val_lt8 u2
    rw [u1] at h1
    by_cases hy : y < 256 ^ (digs8 x).length
    · have := digs_len8 y _ hy; omega
    · have h2 : ((256 ^ (digs8 x).length : Nat) : Int) ≤ (y : Int) := Int.ofNat_le.2 (by omega)
      have h3 : ((256 ^ (digs8 x).length : Nat) : Int) = (256 : Int) ^ (digs8 x).length := by simp
      omega
  by_cases hl : (digs8 m).length = (digs8 n).length
  · obtain ⟨y, hr, h1⟩ := refCmp_runs _ _ l1 l2 hl (by omega)
    have e : ref01_Cmp_L0_run ⟨digs8 m, digs8 n, 0, ((digs8 m).length : Int) - 1⟩ = y := theRun_eq (d := fun x => ⟨true, x⟩) hr
    have w : IntKind.i64.wrap (((digs8 m).length : Int) - 1) = ((digs8 m).length : Int) - 1 := by rw [IntWalk.i64_in] <;> omega
    have hb : (((digs8 m).length : Int) != ((digs8 n).length : Int)) = false := by rw [hl]; simp
    rw [v1, v2] at h1
    refine ⟨?_, ?_⟩
    · simp only [ref01_Cmp_pre, All, hb, w, e, Bool.false_eq_true, false_implies, true_implies, true_and, and_true, implies_true]
      exact hr
    · simp only [ref01_Cmp, hb, w, e, cond_false, h1]
  · have hb : (((digs8 m).length : Int) != ((digs8 n).length : Int)) = true := by rw [bne_iff_ne]; omega
    refine ⟨?_, ?_⟩
    · simp only [ref01_Cmp_pre, hb, Bool.true_eq_false, false_implies, and_true, implies_true, true_implies, and_self]
    · simp only [ref01_Cmp, hb, cond_true]
      by_cases h : (digs8 m).length < (digs8 n).length
      · have := len m n h
        rw [decide_eq_true (by omega), cond_true]; unfold sg; rw [if_pos (by omega)]
      · have := len n m (by omega)
        rw [decide_eq_false (by omega), cond_false]; unfold sg; rw [if_neg (by omega), if_pos (by omega)]
theorem refSub_runs (a b : List Int) (ha : lim8 a) (hb : lim8 b) (hm : a.length ≤ 100000) :
    ∃ y, Runs ref01_Sub_L0_step ref01_Sub_L0_vcs ⟨a, b, 0, 0, []⟩ y ∧ (y.out.length = a.length ∧ lim8 y.out ∧ 0 ≤ y.borrow ∧ y.borrow ≤ 1 ∧ val8 y.out - 256 ^ a.length * y.borrow = val8 a - val8 (b.take a.length)) := by
  refine Runs.of (fun x => ∃ i : Nat, x.i = (i : Int) ∧ x.a = a ∧ x.b = b ∧ i ≤ a.length ∧ x.out.length = i ∧ lim8 x.out ∧ 0 ≤ x.borrow ∧ x.borrow ≤ 1 ∧ val8 x.out - 256 ^ i * x.borrow = val8 (a.take i) - val8 (b.take i))
    (fun x => ((a.length : Int) - x.i).toNat) _ ?_ _ ⟨0, rfl, rfl, rfl, by omega, rfl, lim_nil8, by simp, by simp, by simp [val8]⟩
  rintro ⟨a', b', c, i', l⟩ ⟨i, h2, h3, h4, h5, h6, h7, h8, h9, h10⟩
  dsimp only at *
  subst h2 h3 h4
  by_cases hi : i < a'.length
  · have hi' : (i : Int) < (a'.length : Int) := by omega
    have w1 : IntKind.i64.wrap ((i : Int) + 1) = ((i + 1 : Nat) : Int) := by rw [IntWalk.i64_in] <;> omega
    have ga := getD_lim8 ha i; have gb := getD_lim8 hb i
    have w2 : IntKind.i64.wrap (a'.getD i 0 - b'.getD i 0) = a'.getD i 0 - b'.getD i 0 := by rw [IntWalk.i64_in] <;> omega
    have w3 : IntKind.i64.wrap (a'.getD i 0 - b'.getD i 0 - c) = a'.getD i 0 - b'.getD i 0 - c := by rw [IntWalk.i64_in] <;> omega
    have w4 : IntKind.i64.wrap (a'.getD i 0 - b'.getD i 0 - c + 256) = a'.getD i 0 - b'.getD i 0 - c + 256 := by rw [IntWalk.i64_in] <;> omega
    obtain ⟨d, q, k1, k2, k3, k4, k5⟩ : ∃ d q : Int, IntKind.u8.wrap (bif decide (a'.getD i 0 - b'.getD i 0 - c < 0) then a'.getD i 0 - b'.getD i 0 - c + 256 else a'.getD i 0 - b'.getD i 0 - c) = d ∧ (bif decide (a'.getD i 0 - b'.getD i 0 - c < 0) then (1 : Int) else 0) = q ∧
        (0 ≤ d ∧ d ≤ 255) ∧ (0 ≤ q ∧ q ≤ 1) ∧ d - 256 * q = a'.getD i 0 - b'.getD i 0 - c := by
      by_cases h : a'.getD i 0 - b'.getD i 0 - c < 0
      · rw [decide_eq_true h, cond_true, cond_true, u8_in (by omega)]; exact ⟨_, _, rfl, rfl, by omega, by omega, by omega⟩
      · rw [decide_eq_false h, cond_false, cond_false, u8_in (by omega)]; exact ⟨_, _, rfl, rfl, by omega, by omega, by omega⟩
    refine ⟨?_, ?_⟩
    · simp only [ref01_Sub_L0_vcs, All, hi', decide_true, true_implies, and_true, Bool.true_eq_false, false_implies, at_pre, true_and, h6, List.length_cons, List.length_nil]
      omega
    · simp only [ref01_Sub_L0_step, hi', decide_true, cond_true, at_eq _ ha, at_eq _ hb, w1, w2, w3, w4, k1, k2]
      refine ⟨⟨i + 1, rfl, trivial, trivial, by omega, by simp [h6], ?_, k4.1, k4.2, ?_⟩, by omega⟩
      · exact lim_app8.2 ⟨h7, lim_cons8.2 ⟨k3, lim_nil8⟩⟩
      · rw [val_app8, h6, val_take8, val_take8, Int.pow_succ]
        generalize a'.getD i 0 = p at *
        generalize b'.getD i 0 = r at *
        have e : (256 : Int) ^ i * d - 256 ^ i * 256 * q = 256 ^ i * p - 256 ^ i * r - 256 ^ i * c := by
          rw [Int.mul_assoc, ← Int.mul_sub, ← Int.mul_sub, ← Int.mul_sub, k5]
        simp only [val8, Int.mul_zero, Int.add_zero]
        omega
  · have hi' : ¬ (i : Int) < (a'.length : Int) := by omega
    have e : i = a'.length := by omega
    subst e
    refine ⟨by simp [ref01_Sub_L0_vcs, hi'], ?_⟩
    simp only [ref01_Sub_L0_step, hi', decide_false, cond_false]
    rw [List.take_of_length_le (Nat.le_refl _)] at h10
    exact ⟨h6, h7, h8, h9, h10⟩
theorem refSub_eq (m n : Nat) (lm : (digs8 m).length ≤ 100000) (h : n ≤ m) : S.ref01_Sub_pre (digs8 m) (digs8 n) ∧ S.ref01_Sub (digs8 m) (digs8 n) = digs8 (m - n) := by
  obtain ⟨v1, l1⟩ := digs_val8 m; obtain ⟨v2, l2⟩ := digs_val8 n
  obtain ⟨y, hr, h1, h2, h3, h4, h5⟩ := refSub_runs _ _ l1 l2 lm
  have e : ref01_Sub_L0_run ⟨digs8 m, digs8 n, 0, 0, []⟩ = y := theRun_eq (d := fun x => x) hr
  obtain ⟨p, q⟩ := trim_eq y.out h2 (by omega)
  have hva := val_lt8 l1
  have hlb : (digs8 n).length ≤ (digs8 m).length := by
    refine digs_len8 _ _ ?_
    rw [v1] at hva
    have h3 : ((256 ^ (digs8 m).length : Nat) : Int) = (256 : Int) ^ (digs8 m).length := by simp
    omega
  rw [List.take_of_length_le hlb, v1, v2] at h5
  have hvl := val_lt8 h2
  rw [h1] at hvl
  have hb0 : y.borrow = 0 := by
    by_cases hz : y.borrow = 0
    · exact hz
    · have : y.borrow = 1 := by omega
      rw [this, Int.mul_one] at h5
      omega
  rw [hb0, Int.mul_zero, Int.sub_zero] at h5
  rw [h5] at q
  refine ⟨?_, ?_⟩
  · simp only [ref01_Sub_pre, All, e, and_true]; exact ⟨hr, p⟩
  · simp only [ref01_Sub, e, q]; congr 1; omega
theorem OfL2_runs (x : Int) (hx : 0 ≤ x ∧ x ≤ 18446744073709551615) (o : List Int) (ho : lim8 o) (hl : o.length ≤ 900000) :
    ∃ y, Runs ref01_Of_L2_step ref01_Of_L2_vcs ⟨x, 0, o⟩ y ∧ (y.out.length = o.length + 8 ∧ lim8 y.out ∧ val8 y.out = val8 o + 256 ^ o.length * x) := by
  refine Runs.of (fun s => ∃ j : Nat, s.k = (j : Int) ∧ j ≤ 8 ∧ s.out.length = o.length + j ∧ lim8 s.out ∧ 0 ≤ s.n ∧ s.n ≤ x ∧ 256 ^ j * s.n ≤ x ∧ val8 s.out + 256 ^ (o.length + j) * s.n = val8 o + 256 ^ o.length * x)
    (fun s => ((8 : Int) - s.k).toNat) _ ?_ _ ⟨0, rfl, by omega, rfl, ho, hx.1, by simp, by simp, by simp⟩
  rintro ⟨n, k', l⟩ ⟨j, h1, h2, h3, h4, h5, h6, h7, h8⟩
  dsimp only at *
  subst h1
  by_cases hj : j < 8
  · have hj' : (j : Int) < 8 := by omega
    have w1 : IntKind.i64.wrap ((j : Int) + 1) = ((j + 1 : Nat) : Int) := by rw [IntWalk.i64_in] <;> omega
    have t1 : Int.tmod n 256 = n % 256 := Int.tmod_eq_emod_of_nonneg h5
    have t2 : Int.tdiv n 256 = n / 256 := Int.tdiv_eq_ediv_of_nonneg h5
    have w2 : IntKind.u8.wrap (n % 256) = n % 256 := u8_in (by omega)
    have w3 : IntKind.u64.wrap (n / 256) = n / 256 := by rw [IntKind.wrap_u64]; omega
    refine ⟨?_, ?_⟩
    · simp only [ref01_Of_L2_vcs, All, hj', decide_true, true_implies, and_true, Bool.true_eq_false, false_implies, h3, List.length_cons, List.length_nil]
      omega
    · simp only [ref01_Of_L2_step, hj', decide_true, cond_true, t1, t2, w1, w2, w3]
      have hd := Int.mul_ediv_add_emod n 256
      refine ⟨⟨j + 1, rfl, by omega, by simp [h3]; omega, lim_app8.2 ⟨h4, lim_cons8.2 ⟨by omega, lim_nil8⟩⟩, by omega, by omega, ?_, ?_⟩, by omega⟩
      · rw [Int.pow_succ, Int.mul_assoc]
        refine Int.le_trans (Int.mul_le_mul_of_nonneg_left (by omega) (Int.pow_nonneg (by omega))) h7
      · rw [val_app8, h3, ← Nat.add_assoc, Int.pow_succ]
        have e : (256 : Int) ^ (o.length + j) * (n % 256) + 256 ^ (o.length + j) * 256 * (n / 256) = 256 ^ (o.length + j) * n := by
          rw [Int.mul_assoc, ← Int.mul_add, show n % 256 + 256 * (n / 256) = n by omega]
        simp only [val8, Int.mul_zero, Int.add_zero]
        omega
  · have hj' : ¬ (j : Int) < 8 := by omega
    have e : j = 8 := by omega
    subst e
    refine ⟨by simp [ref01_Of_L2_vcs], ?_⟩
    simp only [ref01_Of_L2_step, hj', decide_false, cond_false]
    have hn : n = 0 := by
      rw [show (256 : Int) ^ 8 = 18446744073709551616 by decide] at h7; omega
    rw [hn, Int.mul_zero, Int.add_zero] at h8
    exact ⟨h3, h4, h8⟩
theorem pow8 (i : Nat) : (256 : Int) ^ (8 * i) = 18446744073709551616 ^ i := by
  rw [Int.pow_mul, show (256 : Int) ^ 8 = 18446744073709551616 by decide]
theorem OfL0_runs (l : List Int) (h : lim l) (hl : l.length ≤ 100000) :
    ∃ y, Runs ref01_Of_L0_step ref01_Of_L0_vcs ⟨l, 0, []⟩ y ∧ (y.out.length = 8 * l.length ∧ lim8 y.out ∧ val8 y.out = val l) := by
  refine Runs.of (fun s => ∃ i : Nat, s.l = l ∧ s.i = (i : Int) ∧ i ≤ l.length ∧ s.out.length = 8 * i ∧ lim8 s.out ∧ val8 s.out = val (l.take i))
    (fun s => ((l.length : Int) - s.i).toNat) _ ?_ _ ⟨0, rfl, rfl, by omega, rfl, lim_nil8, rfl⟩
  rintro ⟨l', i', o⟩ ⟨i, h1, h2, h3, h4, h5, h6⟩
  dsimp only at *
  subst h1 h2
  by_cases hi : i < l'.length
  · have hi' : (i : Int) < (l'.length : Int) := by omega
    have w1 : IntKind.i64.wrap ((i : Int) + 1) = ((i + 1 : Nat) : Int) := by rw [IntWalk.i64_in] <;> omega
    obtain ⟨y, hr, k1, k2, k3⟩ := OfL2_runs (l'.getD i 0) (getD_lim h i) o h5 (by omega)
    have e : ref01_Of_L2_run ⟨l'.getD i 0, 0, o⟩ = y := theRun_eq (d := fun x => x) hr
    refine ⟨?_, ?_⟩
    · simp only [ref01_Of_L0_vcs, All, hi', decide_true, true_implies, and_true, Bool.true_eq_false, false_implies, Int.toNat_natCast, e]
      exact ⟨by omega, trivial, hr⟩
    · simp only [ref01_Of_L0_step, hi', decide_true, cond_true, Int.toNat_natCast, e, w1]
      refine ⟨⟨i + 1, trivial, rfl, by omega, by omega, k2, ?_⟩, by omega⟩
      rw [k3, h4, h6, pow8, val_take]
  · have hi' : ¬ (i : Int) < (l'.length : Int) := by omega
    have e : i = l'.length := by omega
    subst e
    refine ⟨by simp [ref01_Of_L0_vcs], ?_⟩
    simp only [ref01_Of_L0_step, hi', decide_false, cond_false]
    rw [List.take_of_length_le (Nat.le_refl _)] at h6
    exact ⟨h4, h5, h6⟩
theorem refOf_eq (l : List Int) (h : lim l) (hl : l.length ≤ 100000) : S.ref01_Of_pre l ∧ S.ref01_Of l = digs8 (val l).toNat := by
  obtain ⟨y, hr, h1, h2, h3⟩ := OfL0_runs l h hl
  have e : ref01_Of_L0_run ⟨l, 0, []⟩ = y := theRun_eq (d := fun x => x) hr
  obtain ⟨p, q⟩ := trim_eq y.out h2 (by omega)
  rw [h3] at q
  refine ⟨?_, ?_⟩
  · simp only [ref01_Of_pre, All, e, and_true]; exact ⟨hr, p⟩
  · simp only [ref01_Of, e, q]
theorem All_num' (n : Nat) : S.nat_Nat_All (num n) = digs n := by cases n <;> rfl
theorem Len_num' (n : Nat) : S.nat_Nat_Len (num n) = ((digs n).length : Int) := by cases n <;> rfl
theorem bytes_len (m : Nat) : (digs8 m).length ≤ 8 * (digs m).length := by
  refine digs_len8 _ _ ?_
  obtain ⟨v, l⟩ := digs_val m
  have h := val_lt l
  rw [v] at h
  have e : ((256 ^ (8 * (digs m).length) : Nat) : Int) = (256 : Int) ^ (8 * (digs m).length) := by simp
  rw [← pow8, ← e] at h
  omega
theorem Same_eq (m n : Nat) (lm : (digs8 m).length ≤ 100000) (ln : (digs8 n).length ≤ 100000) : S.ref01_Same_pre (digs8 m) (digs8 n) ∧ S.ref01_Same (digs8 m) (digs8 n) = decide (m = n) := by
  obtain ⟨p, q⟩ := refCmp_eq m n lm ln
  refine ⟨by simp only [ref01_Same_pre, All, and_true]; exact p, ?_⟩
  simp only [ref01_Same, q]
  by_cases h : m = n
  · rw [decide_eq_true h, beq_iff_eq, sg_zero]; omega
  · rw [decide_eq_false h, beq_eq_false_iff_ne]; intro e; rw [sg_zero] at e; omega
theorem top_last (m : Nat) : ((decide (((digs m).length : Int) > 0)) && ((digs m).getD (Int.toNat (((digs m).length : Int) - 1)) 0 == 0)) = false := by
  rcases List.eq_nil_or_concat (digs m) with h | ⟨k, x, h⟩
  · rw [h]; rfl
  · rw [List.concat_eq_append] at h
    have hx := top_digs m k x h
    have e : Int.toNat (((digs m).length : Int) - 1) = k.length := by rw [h]; simp
    rw [e, h, List.getD_eq_getElem?_getD, List.getElem?_append_right (Nat.le_refl _)]
    simp [hx]
theorem getD_set_eq (l : List Int) (k : Nat) (v : Int) (h : k < l.length) : (l.set k v).getD k 0 = v := by
  rw [List.getD_eq_getElem?_getD, List.getElem?_set_self h]; rfl
theorem refMulL2_runs (a b : List Int) (ha : lim8 a) (hb : lim8 b) (i : Nat) (hi : i < a.length) (s0 : List Int) (hlen : s0.length = a.length + b.length + 1) (hbig : s0.length ≤ 1000000)
    (h0 : ∀ j, 0 ≤ s0.getD j 0 ∧ s0.getD j 0 ≤ 255) (hz : ∀ j, i + b.length ≤ j → s0.getD j 0 = 0) :
    ∃ y, Runs ref01_Mul_L2_step ref01_Mul_L2_vcs ⟨a, b, (i : Int), 0, s0⟩ y ∧ (y.a = a ∧ y.b = b ∧ y.i = (i : Int) ∧ y.sums.length = s0.length ∧ (∀ j, 0 ≤ y.sums.getD j 0 ∧ y.sums.getD j 0 ≤ 255) ∧
      (∀ j, i + b.length + 1 ≤ j → y.sums.getD j 0 = 0) ∧ val8 y.sums = val8 s0 + 256 ^ i * (a.getD i 0 * val8 b)) := by
  refine Runs.of (fun s => ∃ k : Nat, s.a = a ∧ s.b = b ∧ s.i = (i : Int) ∧ s.k = (k : Int) ∧ k ≤ b.length ∧ s.sums.length = s0.length ∧ (∀ j, 0 ≤ s.sums.getD j 0 ∧ s.sums.getD j 0 ≤ 510 ∧ (j ≠ i + k ∨ k = b.length → s.sums.getD j 0 ≤ 255)) ∧
      (∀ j, i + b.length ≤ j → (k < b.length ∨ i + b.length < j) → s.sums.getD j 0 = 0) ∧ val8 s.sums = val8 s0 + 256 ^ i * (a.getD i 0 * val8 (b.take k)))
    (fun s => ((b.length : Int) - s.k).toNat) _ ?_ _ ⟨0, rfl, rfl, rfl, rfl, by omega, rfl, fun j => by have := h0 j; dsimp only; omega, fun j h _ => hz j h, by simp [val8]⟩
  rintro ⟨a', b', i', k', l⟩ ⟨k, h1, h2, h3, h4, h5, h6, h7, h8, h9⟩
  dsimp only at *
  subst h1 h2 h3 h4
  by_cases hk : k < b'.length
  · have hk' : (k : Int) < (b'.length : Int) := by omega
    have ga := getD_lim8 ha i; have gb := getD_lim8 hb k
    have c1 := h7 (i + k)
    have c2 := (h7 (i + k + 1)).2.2 (.inl (by omega))
    have c2' := (h7 (i + k + 1)).1
    have hab : 0 ≤ a'.getD i 0 * b'.getD k 0 ∧ a'.getD i 0 * b'.getD k 0 ≤ 255 * 255 := ⟨Int.mul_nonneg ga.1 gb.1, Int.mul_le_mul ga.2 gb.2 gb.1 (by omega)⟩
    have w1 : IntKind.i64.wrap ((k : Int) + 1) = ((k + 1 : Nat) : Int) := by rw [IntWalk.i64_in] <;> omega
    have w2 : IntKind.i64.wrap ((i : Int) + (k : Int)) = ((i + k : Nat) : Int) := by rw [IntWalk.i64_in] <;> omega
    have w3 : IntKind.i64.wrap (((i + k : Nat) : Int) + 1) = ((i + k + 1 : Nat) : Int) := by rw [IntWalk.i64_in] <;> omega
    have w4 : IntKind.i64.wrap (a'.getD i 0) = a'.getD i 0 := by rw [IntWalk.i64_in] <;> omega
    have w5 : IntKind.i64.wrap (b'.getD k 0) = b'.getD k 0 := by rw [IntWalk.i64_in] <;> omega
    have w6 : IntKind.i64.wrap (a'.getD i 0 * b'.getD k 0) = a'.getD i 0 * b'.getD k 0 := by rw [IntWalk.i64_in] <;> omega
    have w7 : IntKind.i64.wrap (l.getD (i + k) 0 + a'.getD i 0 * b'.getD k 0) = l.getD (i + k) 0 + a'.getD i 0 * b'.getD k 0 := by rw [IntWalk.i64_in] <;> omega
    have hp : 0 ≤ l.getD (i + k) 0 + a'.getD i 0 * b'.getD k 0 := by omega
    have t1 : Int.tmod (l.getD (i + k) 0 + a'.getD i 0 * b'.getD k 0) 256 = (l.getD (i + k) 0 + a'.getD i 0 * b'.getD k 0) % 256 := Int.tmod_eq_emod_of_nonneg hp
    have t2 : Int.tdiv (l.getD (i + k) 0 + a'.getD i 0 * b'.getD k 0) 256 = (l.getD (i + k) 0 + a'.getD i 0 * b'.getD k 0) / 256 := Int.tdiv_eq_ediv_of_nonneg hp
    have w8 : IntKind.i64.wrap ((l.getD (i + k) 0 + a'.getD i 0 * b'.getD k 0) / 256) = (l.getD (i + k) 0 + a'.getD i 0 * b'.getD k 0) / 256 := by rw [IntWalk.i64_in] <;> omega
    have w9 : IntKind.i64.wrap (l.getD (i + k + 1) 0 + (l.getD (i + k) 0 + a'.getD i 0 * b'.getD k 0) / 256) = l.getD (i + k + 1) 0 + (l.getD (i + k) 0 + a'.getD i 0 * b'.getD k 0) / 256 := by rw [IntWalk.i64_in] <;> omega
    have e17 : ∀ v, (l.set (i + k) v).getD (i + k + 1) 0 = l.getD (i + k + 1) 0 := fun v => getD_set_ne8 _ _ _ _ (by omega)
    refine ⟨?_, ?_⟩
    · simp only [ref01_Mul_L2_vcs, All, hk', decide_true, true_implies, and_true, Bool.true_eq_false, false_implies, w2, w3, w4, w5, w6, w7, t1, t2, w8, Int.toNat_natCast, h6, List.length_set, true_and]
      omega
    · simp only [ref01_Mul_L2_step, hk', decide_true, cond_true, w1, w2, w3, w4, w5, w6, w7, t1, t2, w8, w9, Int.toNat_natCast, e17]
      have hd := Int.mul_ediv_add_emod (l.getD (i + k) 0 + a'.getD i 0 * b'.getD k 0) 256
      generalize hq : (l.getD (i + k) 0 + a'.getD i 0 * b'.getD k 0) / 256 = q at *
      generalize hr : (l.getD (i + k) 0 + a'.getD i 0 * b'.getD k 0) % 256 = r at *
      have q1 : 0 ≤ q ∧ q ≤ 255 := by omega
      have r1 : 0 ≤ r ∧ r ≤ 255 := by omega
      have hl1 : i + k < l.length := by omega
      have hl2 : i + k + 1 < (l.set (i + k) r).length := by rw [List.length_set]; omega
      have cell : ∀ j, ((l.set (i + k) r).set (i + k + 1) (l.getD (i + k + 1) 0 + q)).getD j 0 = if j = i + k + 1 then l.getD (i + k + 1) 0 + q else if j = i + k then r else l.getD j 0 := by
        intro j
        by_cases e1 : j = i + k + 1
        · rw [if_pos e1, e1, getD_set_eq _ _ _ hl2]
        · rw [if_neg e1, getD_set_ne8 _ _ _ _ (Ne.symm e1)]
          by_cases e2 : j = i + k
          · rw [if_pos e2, e2, getD_set_eq _ _ _ hl1]
          · rw [if_neg e2, getD_set_ne8 _ _ _ _ (Ne.symm e2)]
      refine ⟨⟨k + 1, trivial, trivial, trivial, rfl, by omega, by rw [List.length_set, List.length_set]; exact h6, fun j => ?_, fun j hj1 hj2 => ?_, ?_⟩, by omega⟩
      · rw [cell j]
        have hj := h7 j
        by_cases e1 : j = i + k + 1
        · rw [if_pos e1]
          refine ⟨by omega, by omega, fun h => ?_⟩
          rcases h with h | h
          · omega
          · have := h8 (i + k + 1) (by omega) (.inl hk)
            omega
        · rw [if_neg e1]
          by_cases e2 : j = i + k
          · rw [if_pos e2]; exact ⟨by omega, by omega, fun _ => r1.2⟩
          · rw [if_neg e2]; exact ⟨hj.1, hj.2.1, fun _ => hj.2.2 (.inl e2)⟩
      · rw [cell j, if_neg (by omega), if_neg (by omega)]
        exact h8 j hj1 (.inl hk)
      · rw [val_set8 _ _ _ hl2, val_set8 _ _ _ hl1, e17, h9, val_take8]
        have e1 : (256 : Int) ^ (i + k) * (r - l.getD (i + k) 0) + 256 ^ (i + k + 1) * (l.getD (i + k + 1) 0 + q - l.getD (i + k + 1) 0) = 256 ^ (i + k) * (a'.getD i 0 * b'.getD k 0) := by
          rw [Int.pow_succ, Int.mul_assoc, ← Int.mul_add]; congr 1; omega
        have e2 : (256 : Int) ^ i * (a'.getD i 0 * (val8 (b'.take k) + 256 ^ k * b'.getD k 0)) = 256 ^ i * (a'.getD i 0 * val8 (b'.take k)) + 256 ^ (i + k) * (a'.getD i 0 * b'.getD k 0) := by
          rw [Int.mul_add, Int.mul_add, Int.pow_add, ← Int.mul_assoc (a'.getD i 0) (256 ^ k), Int.mul_comm (a'.getD i 0) (256 ^ k), Int.mul_assoc (256 ^ k), ← Int.mul_assoc (256 ^ i) (256 ^ k)]
        rw [e2, ← e1]; omega
  · have hk' : ¬ (k : Int) < (b'.length : Int) := by omega
    have e : k = b'.length := by omega
    subst e
    refine ⟨by simp [ref01_Mul_L2_vcs, hk'], ?_⟩
    simp only [ref01_Mul_L2_step, hk', decide_false, cond_false]
    rw [List.take_of_length_le (Nat.le_refl _)] at h9
    exact ⟨trivial, trivial, trivial, h6, fun j => ⟨(h7 j).1, (h7 j).2.2 (.inr rfl)⟩, fun j hj => h8 j (by omega) (.inr (by omega)), h9⟩
theorem val_rep8 (n : Nat) : val8 (List.replicate n (0 : Int)) = 0 := by
  induction n with
  | zero => rfl
  | succ n ih => rw [List.replicate_succ]; simp [val8, ih]
theorem refMulL0_runs (a b : List Int) (ha : lim8 a) (hb : lim8 b) (la : a.length ≤ 100000) (lb : b.length ≤ 100000) :
    ∃ y, Runs ref01_Mul_L0_step ref01_Mul_L0_vcs ⟨a, b, 0, List.replicate (a.length + b.length + 1) 0⟩ y ∧ (y.sums.length = a.length + b.length + 1 ∧ (∀ j, 0 ≤ y.sums.getD j 0 ∧ y.sums.getD j 0 ≤ 255) ∧ val8 y.sums = val8 a * val8 b) := by
  refine Runs.of (fun s => ∃ i : Nat, s.a = a ∧ s.b = b ∧ s.i = (i : Int) ∧ i ≤ a.length ∧ s.sums.length = a.length + b.length + 1 ∧ (∀ j, 0 ≤ s.sums.getD j 0 ∧ s.sums.getD j 0 ≤ 255) ∧ (∀ j, i + b.length ≤ j → s.sums.getD j 0 = 0) ∧ val8 s.sums = val8 (a.take i) * val8 b)
    (fun s => ((a.length : Int) - s.i).toNat) _ ?_ _ ⟨0, rfl, rfl, rfl, by omega, by simp, fun j => by dsimp only; rw [getD_rep]; omega, fun j _ => getD_rep _ _, by dsimp only; rw [val_rep8]; simp [val8]⟩
  rintro ⟨a', b', i', l⟩ ⟨i, h1, h2, h3, h4, h5, h6, h7, h8⟩
  dsimp only at *
  subst h1 h2 h3
  by_cases hi : i < a'.length
  · have hi' : (i : Int) < (a'.length : Int) := by omega
    have w1 : IntKind.i64.wrap ((i : Int) + 1) = ((i + 1 : Nat) : Int) := by rw [IntWalk.i64_in] <;> omega
    obtain ⟨y, hr, k1, k2, k3, k4, k5, k6, k7⟩ := refMulL2_runs a' b' ha hb i hi l h5 (by omega) h6 h7
    have e : ref01_Mul_L2_run ⟨a', b', (i : Int), 0, l⟩ = y := theRun_eq (d := fun x => x) hr
    refine ⟨?_, ?_⟩
    · simp only [ref01_Mul_L0_vcs, All, hi', decide_true, true_implies, and_true, Bool.true_eq_false, false_implies, e]
      exact hr
    · simp only [ref01_Mul_L0_step, hi', decide_true, cond_true, e, k1, k2, k3, w1]
      refine ⟨⟨i + 1, trivial, trivial, rfl, by omega, by omega, k5, fun j hj => k6 j (by omega), ?_⟩, by omega⟩
      rw [k7, h8, val_take8, Int.add_mul, Int.mul_assoc]
  · have hi' : ¬ (i : Int) < (a'.length : Int) := by omega
    have e : i = a'.length := by omega
    subst e
    refine ⟨by simp [ref01_Mul_L0_vcs, hi'], ?_⟩
    simp only [ref01_Mul_L0_step, hi', decide_false, cond_false]
    rw [List.take_of_length_le (Nat.le_refl _)] at h8
    exact ⟨h5, h6, h8⟩
theorem refMulL4_runs (s : List Int) (hs : ∀ j, 0 ≤ s.getD j 0 ∧ s.getD j 0 ≤ 255) (hl : s.length ≤ 1000000) :
    ∃ y, Runs ref01_Mul_L4_step ref01_Mul_L4_vcs ⟨0, 0, s, []⟩ y ∧ (y.carry = 0 ∧ y.out = s) := by
  refine Runs.of (fun x => ∃ i : Nat, x.carry = 0 ∧ x.i = (i : Int) ∧ x.sums = s ∧ i ≤ s.length ∧ x.out = s.take i) (fun x => ((s.length : Int) - x.i).toNat) _ ?_ _ ⟨0, rfl, rfl, rfl, by omega, rfl⟩
  rintro ⟨c, i', s', l⟩ ⟨i, h1, h2, h3, h4, h5⟩
  dsimp only at *
  subst h1 h2 h3 h5
  by_cases hi : i < s'.length
  · have hi' : (i : Int) < (s'.length : Int) := by omega
    have w1 : IntKind.i64.wrap ((i : Int) + 1) = ((i + 1 : Nat) : Int) := by rw [IntWalk.i64_in] <;> omega
    have g := hs i
    have w2 : IntKind.i64.wrap (s'.getD i 0 + 0) = s'.getD i 0 := by rw [IntWalk.i64_in] <;> omega
    have t1 : Int.tmod (s'.getD i 0) 256 = s'.getD i 0 := by rw [Int.tmod_eq_emod_of_nonneg g.1]; omega
    have t2 : Int.tdiv (s'.getD i 0) 256 = 0 := by rw [Int.tdiv_eq_ediv_of_nonneg g.1]; omega
    have w3 : IntKind.u8.wrap (s'.getD i 0) = s'.getD i 0 := u8_in g
    have w4 : IntKind.i64.wrap 0 = 0 := by decide
    have e : s'.take i ++ [s'.getD i 0] = s'.take (i + 1) := by
      rw [List.take_succ_eq_append_getElem hi, List.getD_eq_getElem?_getD, List.getElem?_eq_getElem hi]; rfl
    refine ⟨?_, ?_⟩
    · simp only [ref01_Mul_L4_vcs, All, hi', decide_true, true_implies, and_true, Bool.true_eq_false, false_implies, List.length_take, List.length_cons, List.length_nil, true_and]
      omega
    · simp only [ref01_Mul_L4_step, hi', decide_true, cond_true, Int.toNat_natCast, w1, w2, t1, t2, w3, w4, e]
      exact ⟨⟨i + 1, trivial, rfl, trivial, by omega, rfl⟩, by omega⟩
  · have hi' : ¬ (i : Int) < (s'.length : Int) := by omega
    refine ⟨by simp [ref01_Mul_L4_vcs, hi'], ?_⟩
    simp only [ref01_Mul_L4_step, hi', decide_false, cond_false]
    exact ⟨trivial, List.take_of_length_le (by omega)⟩
theorem lim8_of {s : List Int} (h : ∀ j, 0 ≤ s.getD j 0 ∧ s.getD j 0 ≤ 255) : lim8 s := by
  intro x hx
  obtain ⟨i, hi, rfl⟩ := List.getElem_of_mem hx
  have := h i
  rw [List.getD_eq_getElem?_getD, List.getElem?_eq_getElem hi] at this
  exact this
theorem refMul_eq (a b : List Int) (ha : lim8 a) (hb : lim8 b) (la : a.length ≤ 100000) (lb : b.length ≤ 100000) : S.ref01_Mul_pre a b ∧ S.ref01_Mul a b = digs8 (val8 a * val8 b).toNat := by
  obtain ⟨y, hr, h1, h2, h3⟩ := refMulL0_runs a b ha hb la lb
  obtain ⟨z, hz, k1, k2⟩ := refMulL4_runs y.sums h2 (by omega)
  have e : ref01_Mul_L0_run ⟨a, b, 0, List.replicate (a.length + b.length + 1) 0⟩ = y := theRun_eq (d := fun x => x) hr
  have e2 : ref01_Mul_L4_run ⟨0, 0, y.sums, []⟩ = z := theRun_eq (d := fun x => x) hz
  have hd : Runs ref01_Mul_L6_step ref01_Mul_L6_vcs ⟨0, y.sums⟩ ⟨0, y.sums⟩ := .done _ _ (by simp [ref01_Mul_L6_vcs]) (by simp [ref01_Mul_L6_step])
  have e3 : ref01_Mul_L6_run ⟨0, y.sums⟩ = ⟨0, y.sums⟩ := theRun_eq (d := fun x => x) hd
  have w1 : IntKind.i64.wrap ((a.length : Int) + (b.length : Int)) = ((a.length + b.length : Nat) : Int) := by rw [IntWalk.i64_in] <;> omega
  have w2 : IntKind.i64.wrap (((a.length + b.length : Nat) : Int) + 1) = ((a.length + b.length + 1 : Nat) : Int) := by rw [IntWalk.i64_in] <;> omega
  obtain ⟨p, q⟩ := trim_eq y.sums (lim8_of h2) (by omega)
  rw [h3] at q
  refine ⟨?_, ?_⟩
  · simp only [ref01_Mul_pre, All, w1, w2, Int.toNat_natCast, e, e2, k1, k2, e3, and_true, true_and]
    refine ⟨by omega, by omega, hr, hz, hd, p⟩
  · simp only [ref01_Mul, w1, w2, Int.toNat_natCast, e, e2, k1, k2, e3, q]
theorem LimbsL2_runs (n : List Int) (hn : lim8 n) (i h : Nat) (h1 : i ≤ h) (h2 : h ≤ i + 8) (h3 : h ≤ n.length) (hl : n.length ≤ 1000000) :
    ∃ y, Runs ref01_Limbs_L2_step ref01_Limbs_L2_vcs ⟨n, (i : Int), 0, (h : Int) - 1⟩ y ∧ (y.n = n ∧ y.i = (i : Int) ∧ (0 ≤ y.vx ∧ y.vx ≤ 18446744073709551615) ∧ val8 (n.take h) = val8 (n.take i) + 256 ^ i * y.vx) := by
  refine Runs.of (fun s => ∃ k : Nat, s.n = n ∧ s.i = (i : Int) ∧ s.k = (k : Int) - 1 ∧ i ≤ k ∧ k ≤ h ∧ 0 ≤ s.vx ∧ s.vx < 256 ^ (h - k) ∧ val8 (n.take h) = val8 (n.take k) + 256 ^ k * s.vx)
    (fun s => (s.k + 1).toNat) _ ?_ _ ⟨h, rfl, rfl, rfl, h1, by omega, by simp, by simp, by simp⟩
  rintro ⟨n', i', v, k'⟩ ⟨k, e1, e2, e3, e4, e5, e6, e7, e8⟩
  dsimp only at *
  subst e1 e2 e3
  have p8 : (256 : Int) ^ (h - k) ≤ 18446744073709551616 := by
    have h4 := Nat.pow_le_pow_right (n := 256) (by omega) (show h - k ≤ 8 by omega)
    have h5 := Int.ofNat_le.2 h4
    have h6 : ((256 ^ 8 : Nat) : Int) = 18446744073709551616 := by decide
    rw [h6] at h5
    simpa using h5
  by_cases hk : i < k
  · obtain ⟨j, rfl⟩ : ∃ j, k = j + 1 := ⟨k - 1, by omega⟩
    have ej : ((j + 1 : Nat) : Int) - 1 = (j : Int) := by omega
    rw [ej]
    have hge : (j : Int) ≥ (i : Int) := by omega
    have g := getD_lim8 hn j
    have hp : (256 : Int) ^ (h - j) = 256 ^ (h - (j + 1)) * 256 := by rw [← Int.pow_succ]; congr 1; omega
    have q8 : (256 : Int) ^ (h - j) ≤ 18446744073709551616 := by
      have h4 := Nat.pow_le_pow_right (n := 256) (by omega) (show h - j ≤ 8 by omega)
      have h5 := Int.ofNat_le.2 h4
      have h6 : ((256 ^ 8 : Nat) : Int) = 18446744073709551616 := by decide
      rw [h6] at h5
      simpa using h5
    have hv : v * 256 + n'.getD j 0 < 256 ^ (h - j) := by rw [hp]; omega
    have w1 : IntKind.u64.wrap (v * 256) = v * 256 := by rw [IntKind.wrap_u64]; omega
    have w2 : IntKind.u64.wrap (n'.getD j 0) = n'.getD j 0 := by rw [IntKind.wrap_u64]; omega
    have w3 : IntKind.u64.wrap (v * 256 + n'.getD j 0) = v * 256 + n'.getD j 0 := by rw [IntKind.wrap_u64]; omega
    have w4 : IntKind.i64.wrap ((j : Int) - 1) = (j : Int) - 1 := by rw [IntWalk.i64_in] <;> omega
    refine ⟨?_, ?_⟩
    · simp only [ref01_Limbs_L2_vcs, All, hge, decide_true, true_implies, and_true, Bool.true_eq_false, false_implies]
      omega
    · simp only [ref01_Limbs_L2_step, hge, decide_true, cond_true, Int.toNat_natCast, w1, w2, w3, w4]
      refine ⟨⟨j, trivial, trivial, rfl, by omega, by omega, by omega, hv, ?_⟩, by omega⟩
      rw [e8, val_take8, Int.pow_succ]
      have e : (256 : Int) ^ j * n'.getD j 0 + 256 ^ j * 256 * v = 256 ^ j * (v * 256 + n'.getD j 0) := by
        rw [Int.mul_assoc, ← Int.mul_add]; congr 1; omega
      omega
  · have ek : k = i := by omega
    subst ek
    have hge : ¬ ((k : Int) - 1 ≥ (k : Int)) := by omega
    refine ⟨by simp only [ref01_Limbs_L2_vcs, decide_eq_false hge, Bool.false_eq_true, false_implies, true_and, implies_true], ?_⟩
    simp only [ref01_Limbs_L2_step, decide_eq_false hge, cond_false]
    exact ⟨trivial, trivial, ⟨e6, by omega⟩, e8⟩
theorem LimbsL0_runs (n : List Int) (hn : lim8 n) (hl : n.length ≤ 900000) :
    ∃ y, Runs ref01_Limbs_L0_step ref01_Limbs_L0_vcs ⟨n, 0, []⟩ y ∧ (lim y.out ∧ val y.out = val8 n ∧ 8 * y.out.length < n.length + 8) := by
  refine Runs.of (fun s => ∃ q : Nat, s.n = n ∧ s.i = ((8 * q : Nat) : Int) ∧ 8 * q < n.length + 8 ∧ s.out.length = q ∧ lim s.out ∧ val s.out = val8 (n.take (8 * q))) (fun s => ((n.length : Int) + 8 - s.i).toNat) _ ?_ _ ⟨0, rfl, rfl, by omega, rfl, lim_nil, rfl⟩
  rintro ⟨n', i', o⟩ ⟨q, h1, h2, h3, h4, h5, h6⟩
  dsimp only at *
  subst h1 h2
  by_cases hi : 8 * q < n'.length
  · have hi' : ((8 * q : Nat) : Int) < (n'.length : Int) := by omega
    have w1 : IntKind.i64.wrap (((8 * q : Nat) : Int) + 8) = ((8 * (q + 1) : Nat) : Int) := by rw [IntWalk.i64_in] <;> omega
    have hm : (if ((8 * (q + 1) : Nat) : Int) < (n'.length : Int) then ((8 * (q + 1) : Nat) : Int) else (n'.length : Int)) = ((min (8 * (q + 1)) n'.length : Nat) : Int) := by split <;> omega
    have w2 : IntKind.i64.wrap (((min (8 * (q + 1)) n'.length : Nat) : Int) - 1) = ((min (8 * (q + 1)) n'.length : Nat) : Int) - 1 := by rw [IntWalk.i64_in] <;> omega
    obtain ⟨y, hr, k1, k2, k3, k4⟩ := LimbsL2_runs n' hn (8 * q) (min (8 * (q + 1)) n'.length) (by omega) (by omega) (by omega) (by omega)
    have e : ref01_Limbs_L2_run ⟨n', ((8 * q : Nat) : Int), 0, ((min (8 * (q + 1)) n'.length : Nat) : Int) - 1⟩ = y := theRun_eq (d := fun x => x) hr
    have ht : n'.take (min (8 * (q + 1)) n'.length) = n'.take (8 * (q + 1)) := by
      by_cases h : 8 * (q + 1) ≤ n'.length
      · rw [Nat.min_eq_left h]
      · rw [Nat.min_eq_right (by omega), List.take_of_length_le (Nat.le_refl _), List.take_of_length_le (by omega)]
    rw [ht] at k4
    refine ⟨?_, ?_⟩
    · simp only [ref01_Limbs_L0_vcs, All, hi', decide_true, true_implies, and_true, Bool.true_eq_false, false_implies, w1, hm, w2, e, h4, List.length_cons, List.length_nil]
      exact ⟨hr, by omega⟩
    · simp only [ref01_Limbs_L0_step, hi', decide_true, cond_true, w1, hm, w2, e, k1, k2]
      refine ⟨⟨q + 1, trivial, rfl, by omega, by simp [h4], lim_app.2 ⟨h5, lim_cons.2 ⟨k3, lim_nil⟩⟩, ?_⟩, by omega⟩
      rw [val_app, h4, h6, k4, pow8]; simp [val]
  · have hi' : ¬ ((8 * q : Nat) : Int) < (n'.length : Int) := by omega
    refine ⟨by simp only [ref01_Limbs_L0_vcs, hi', decide_false, Bool.false_eq_true, false_implies, true_and, implies_true], ?_⟩
    simp only [ref01_Limbs_L0_step, hi', decide_false, cond_false]
    rw [List.take_of_length_le (by omega)] at h6
    exact ⟨h5, h6, by omega⟩
theorem refLimbs_eq (m : Nat) (hm : (digs m).length ≤ 100000) : S.ref01_Limbs_pre (digs8 m) ∧ S.ref01_Limbs (digs8 m) = digs m := by
  have hb := bytes_len m
  obtain ⟨v8, l8⟩ := digs_val8 m
  obtain ⟨y, hr, h1, h2, h3⟩ := LimbsL0_runs (digs8 m) l8 (by omega)
  have e : ref01_Limbs_L0_run ⟨digs8 m, 0, []⟩ = y := theRun_eq (d := fun x => x) hr
  rw [v8] at h2
  have hlen : y.out.length ≤ (digs m).length := by omega
  have ht : top y.out := by
    intro k x hk hx
    subst hx
    have hv : val y.out = val k := by rw [hk, val_app]; simp [val]
    have hkl : lim k := (lim_app.1 (hk ▸ h1)).1
    have := val_lt hkl
    rw [← hv, h2] at this
    have h5 := digs_len m k.length (by
      have h4 : ((18446744073709551616 ^ k.length : Nat) : Int) = (18446744073709551616 : Int) ^ k.length := by simp
      omega)
    rw [hk, List.length_append] at hlen
    simp at hlen; omega
  have hd := digs_of _ h1 ht
  rw [h2, Int.toNat_natCast] at hd
  refine ⟨?_, ?_⟩
  · simp only [ref01_Limbs_pre, All, e, and_true]; exact hr
  · simp only [ref01_Limbs, e, hd]
theorem nil8 : ([] : List Int) = digs8 0 := by simp [digs8]
theorem Sum0 : S.nat_Sum_pre [] ∧ S.nat_Sum [] = num 0 := by
  have hr : Runs nat_Sum_L0_step nat_Sum_L0_vcs ⟨[], 0, 0, ⟨[]⟩⟩ ⟨[], 0, 0, ⟨[]⟩⟩ := .done _ _ (by simp [nat_Sum_L0_vcs]) (by simp [nat_Sum_L0_step])
  have e : nat_Sum_L0_run ⟨[], 0, 0, ⟨[]⟩⟩ = ⟨[], 0, 0, ⟨[]⟩⟩ := theRun_eq (d := fun x => x) hr
  refine ⟨?_, ?_⟩
  · simp only [nat_Sum_pre, All, and_true]
    show Runs nat_Sum_L0_step nat_Sum_L0_vcs ⟨[], 0, 0, ⟨[]⟩⟩ (nat_Sum_L0_run ⟨[], 0, 0, ⟨[]⟩⟩)
    rw [e]; exact hr
  · show (nat_Sum_L0_run ⟨[], 0, 0, ⟨[]⟩⟩).sum = num 0
    rw [e, num_nil]
theorem Sum3 (m n : Nat) (hm : upto 40 m) (hn : upto 40 n) : S.nat_Sum_pre [num m, num n, num m] ∧ S.nat_Sum [num m, num n, num m] = num (m + n + m) := by
  have sm : small m := upto_pow hm (by omega)
  have sn : small n := upto_pow hn (by omega)
  have smn : small (m + n) := upto_pow (upto_add hm hn) (by omega)
  have s0 : small 0 := s1 (by omega)
  obtain ⟨a1, b1⟩ := nAdd 0 m s0 sm
  rw [Nat.zero_add] at b1
  obtain ⟨a2, b2⟩ := nAdd m n sm sn
  obtain ⟨a3, b3⟩ := nAdd (m + n) m smn sm
  have st : ∀ (i : Nat) (v e r : S.Num), i < 3 → ([num m, num n, num m] : List S.Num).getD i ⟨[]⟩ = e → S.nat_Add_pre v e → S.nat_Add v e = r →
      nat_Sum_L0_vcs ⟨[num m, num n, num m], 3, (i : Int), v⟩ ∧ nat_Sum_L0_step ⟨[num m, num n, num m], 3, (i : Int), v⟩ = .inl ⟨[num m, num n, num m], 3, ((i + 1 : Nat) : Int), r⟩ := by
    intro i v e r hi h1 h2 h3
    have hi' : (i : Int) < 3 := by omega
    have w1 : IntKind.i64.wrap ((i : Int) + 1) = ((i + 1 : Nat) : Int) := by rw [IntWalk.i64_in] <;> omega
    refine ⟨?_, ?_⟩
    · simp only [nat_Sum_L0_vcs, All, hi', decide_true, true_implies, and_true, Bool.true_eq_false, false_implies, Int.toNat_natCast, h1, List.length_cons, List.length_nil]
      exact ⟨by omega, by omega, h2⟩
    · simp only [nat_Sum_L0_step, hi', decide_true, cond_true, Int.toNat_natCast, h1, h3, w1]
  obtain ⟨v0, t0⟩ := st 0 (num 0) (num m) _ (by omega) rfl a1 b1
  obtain ⟨v1, t1⟩ := st 1 (num m) (num n) _ (by omega) rfl a2 b2
  obtain ⟨v2, t2⟩ := st 2 (num (m + n)) (num m) _ (by omega) rfl a3 b3
  have hr : Runs nat_Sum_L0_step nat_Sum_L0_vcs ⟨[num m, num n, num m], 3, 0, ⟨[]⟩⟩ ⟨[num m, num n, num m], 3, 3, num (m + n + m)⟩ := by
    rw [num_nil]
    exact .next _ _ _ v0 t0 (.next _ _ _ v1 t1 (.next _ _ _ v2 t2 (.done _ _ (by simp [nat_Sum_L0_vcs]) (by simp [nat_Sum_L0_step]))))
  have e : nat_Sum_L0_run ⟨[num m, num n, num m], 3, 0, ⟨[]⟩⟩ = ⟨[num m, num n, num m], 3, 3, num (m + n + m)⟩ := theRun_eq (d := fun x => x) hr
  refine ⟨?_, ?_⟩
  · show All [Runs nat_Sum_L0_step nat_Sum_L0_vcs ⟨[num m, num n, num m], 3, 0, ⟨[]⟩⟩ (nat_Sum_L0_run ⟨[num m, num n, num m], 3, 0, ⟨[]⟩⟩)] ∧ True
    rw [e]; exact ⟨hr, trivial⟩
  · show (nat_Sum_L0_run ⟨[num m, num n, num m], 3, 0, ⟨[]⟩⟩).sum = _
    rw [e]
def fits (c : Int) (x : Nat) : Bool := decide (((digs x).length : Int) ≤ if c > 0 then c else 0)
theorem Fits_num (c : Int) (x : Nat) : S.nat_Cap_Fits c (num x) = fits c x := rfl
theorem fit_num (c : Int) (x : Nat) : S.nat_Cap_fit c (num x) = bif fits c x then (num x, true) else (num 0, false) := by
  simp only [nat_Cap_fit, Fits_num, num_nil]
  cases fits c x <;> rfl
theorem refFits (c : Int) (x : Nat) (h : small x) : S.ref01_Fits_pre (digs8 x) c ∧ S.ref01_Fits (digs8 x) c = fits c x := by
  obtain ⟨p, q⟩ := refLimbs_eq x h
  refine ⟨by simp only [ref01_Fits_pre, All, and_true]; exact p, ?_⟩
  show decide (((S.ref01_Limbs (digs8 x)).length : Int) ≤ if c > 0 then c else 0) = _
  rw [q]; rfl
theorem Max_runs (L : List Nat) (hs : ∀ x ∈ L, small x) (hl : L.length ≤ 1000) :
    ∃ y, Runs nat_Max_L0_step nat_Max_L0_vcs ⟨L.map num, (L.length : Int), 0, num 0⟩ y ∧ y.best = num (L.foldl max 0) ∧ small (L.foldl max 0) := by
  refine Runs.of (R := fun y : S.nat_Max_L0 => y.best = num (L.foldl max 0) ∧ small (L.foldl max 0)) (fun s : S.nat_Max_L0 => ∃ i : Nat, s.t6 = L.map num ∧ s.t7 = (L.length : Int) ∧ s.t8 = (i : Int) ∧ i ≤ L.length ∧ s.best = num ((L.take i).foldl max 0) ∧ small ((L.take i).foldl max 0))
    (fun s : S.nat_Max_L0 => ((L.length : Int) - s.t8).toNat) ?_ _ ⟨0, rfl, rfl, rfl, by omega, rfl, by show small 0; exact s1 (by omega)⟩
  rintro ⟨l, n, k, b⟩ ⟨i, h1, h2, h3, h4, h5, h6⟩
  dsimp only at *
  subst h1 h2 h3 h5
  by_cases hi : i < L.length
  · have hi' : (i : Int) < (L.length : Int) := by omega
    have w1 : IntKind.i64.wrap ((i : Int) + 1) = ((i + 1 : Nat) : Int) := by rw [IntWalk.i64_in] <;> omega
    have sx := hs _ (List.getElem_mem hi)
    have e : (L.map num).getD i ⟨[]⟩ = num L[i] := by
      rw [List.getD_eq_getElem?_getD, List.getElem?_map, List.getElem?_eq_getElem hi]; rfl
    obtain ⟨p, q⟩ := nCmp L[i] ((L.take i).foldl max 0) sx h6
    have et : (L.take (i + 1)).foldl max 0 = max ((L.take i).foldl max 0) L[i] := by
      rw [List.take_succ_eq_append_getElem hi, List.foldl_append]; rfl
    generalize (L.take i).foldl max 0 = m at *
    generalize L[i] = x at *
    refine ⟨?_, ?_⟩
    · simp only [nat_Max_L0_vcs, All, hi', decide_true, true_implies, and_true, Bool.true_eq_false, false_implies, Int.toNat_natCast, e, List.length_map]
      exact ⟨by omega, trivial, p⟩
    · simp only [nat_Max_L0_step, hi', decide_true, cond_true, Int.toNat_natCast, e, q, w1]
      by_cases hx : x > m
      · have : decide (sg ((x : Int) - m) > 0) = true := decide_eq_true (by unfold sg; rw [if_neg (by omega), if_pos (by omega)]; decide)
        have hmx : max m x = x := Nat.max_eq_right (by omega)
        rw [this, cond_true]
        exact ⟨⟨i + 1, trivial, trivial, rfl, by omega, by rw [et, hmx]; first | done | rfl, by rw [et, hmx]; exact sx⟩, by omega⟩
      · have : decide (sg ((x : Int) - m) > 0) = false := decide_eq_false (by unfold sg; split <;> (try split) <;> omega)
        have hmx : max m x = m := Nat.max_eq_left (by omega)
        rw [this, cond_false]
        exact ⟨⟨i + 1, trivial, trivial, rfl, by omega, by rw [et, hmx]; first | done | rfl, by rw [et, hmx]; exact h6⟩, by omega⟩
  · have hi' : ¬ (i : Int) < (L.length : Int) := by omega
    refine ⟨by simp [nat_Max_L0_vcs, hi'], ?_⟩
    simp only [nat_Max_L0_step, hi', decide_false, cond_false]
    rw [List.take_of_length_le (by omega)] at h6 ⊢
    exact ⟨rfl, h6⟩
theorem Max_eq (L : List Nat) (hs : ∀ x ∈ L, small x) (hl : L.length ≤ 1000) : S.nat_Max_pre (L.map num) ∧ S.nat_Max (L.map num) = num (L.foldl max 0) := by
  obtain ⟨y, hr, h1, h2⟩ := Max_runs L hs hl
  have hlen : ((L.map num).length : Int) = (L.length : Int) := by rw [List.length_map]
  have e : nat_Max_L0_run ⟨L.map num, (L.length : Int), 0, num 0⟩ = y := theRun_eq (d := fun x => x) hr
  obtain ⟨v, l⟩ := digs_val (L.foldl max 0)
  obtain ⟨p, q, _⟩ := nLimbs (digs (L.foldl max 0)) l h2
  rw [v, Int.toNat_natCast] at q
  have hb : y.best.limbs = digs (L.foldl max 0) := by rw [h1]; rfl
  refine ⟨?_, ?_⟩
  · simp only [nat_Max_pre, All, hlen, num_nil, e, hb, and_true]; exact ⟨hr, p⟩
  · simp only [nat_Max, hlen, num_nil, e, hb, q]
theorem Small_ok (m : Nat) : S.nat_Nat_Small_pre (num m) ∧ (S.nat_Nat_Small (num m)).2 = decide (((digs m).length : Int) ≤ 1) ∧ (S.nat_Nat_Small (num m)).1 = (bif ((digs m).length : Int) == 1 then (digs m).getD (Int.toNat 0) 0 else 0) := by
  have hp := limb_pre (digs m) 0
  have he := limb_eq (digs m) 0
  have hp : S.nat_Nat_limb_pre (num m) 0 := hp
  have he : S.nat_Nat_limb (num m) 0 = (digs m).getD 0 0 := he
  have e1 : S.nat_Nat_Small (num m) = (bif decide (((digs m).length : Int) > 1) then (0, false) else (S.nat_Nat_limb (num m) 0, true)) := rfl
  refine ⟨?_, ?_, ?_⟩
  · simp only [nat_Nat_Small_pre, All, and_true]; exact ⟨fun _ => trivial, fun _ => hp⟩
  · rw [e1]
    by_cases h : ((digs m).length : Int) > 1
    · rw [decide_eq_true h, decide_eq_false (by omega)]; rfl
    · rw [decide_eq_false h, decide_eq_true (by omega)]; rfl
  · rw [e1, he]
    by_cases h : ((digs m).length : Int) > 1
    · rw [decide_eq_true h, show (((digs m).length : Int) == 1) = false from beq_eq_false_iff_ne.2 (by omega)]; rfl
    · rw [decide_eq_false h]
      by_cases h1 : ((digs m).length : Int) = 1
      · rw [show (((digs m).length : Int) == 1) = true from beq_iff_eq.2 h1]; rfl
      · rw [show (((digs m).length : Int) == 1) = false from beq_eq_false_iff_ne.2 h1]
        show (digs m).getD 0 0 = 0
        exact getD_none (by omega)
end SN
