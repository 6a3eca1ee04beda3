/-
  Products of numbers, by their values: the outer rounds; and what the functions make of numbers.
-/
import Derived.Test.YthgfoemcjkokjaaNatPlain4
set_option linter.all false
open Go Vm
namespace S

theorem getD_rep (n k : Nat) : (List.replicate n (0 : Int)).getD k 0 = 0 := by
  rw [List.getD_eq_getElem?_getD]
  by_cases h : k < n
  · simp [h]
  · rw [List.getElem?_eq_none (by simp; omega)]; rfl
theorem val_rep (n : Nat) : val (List.replicate n (0 : Int)) = 0 := by
  induction n with
  | zero => rfl
  | succ n ih => rw [List.replicate_succ]; simp [val, ih]
theorem lim_rep (n : Nat) : lim (List.replicate n (0 : Int)) := fun x hx => by
  rw [List.mem_replicate] at hx; rw [hx.2]; decide

theorem MulL0_runs (a b : List Int) (ha : lim a) (hb : lim b) (l0 : List Int) (h0 : lim l0) (hl : l0.length = a.length + b.length) (hbig : l0.length ≤ 1000000) (hz : ∀ k, l0.getD k 0 = 0) (hv : val l0 = 0) :
    ∃ y, Runs nat_Mul_L0_step nat_Mul_L0_vcs ⟨a, (a.length : Int), 0, l0, ⟨b⟩⟩ y ∧ (y.l.length = l0.length ∧ lim y.l ∧ val y.l = val a * val b) := by
  refine Runs.of (fun s => ∃ i : Nat, s.t21 = a ∧ s.t22 = (a.length : Int) ∧ s.t23 = (i : Int) ∧ s.b = ⟨b⟩ ∧ i ≤ a.length ∧ s.l.length = l0.length ∧ lim s.l ∧ (∀ k, i + b.length ≤ k → s.l.getD k 0 = 0) ∧ val s.l = val (a.take i) * val b)
    (fun s => ((a.length : Int) - s.t23).toNat) _ ?_ _ ⟨0, rfl, rfl, rfl, rfl, by omega, rfl, h0, fun k _ => hz k, by simp [val, hv]⟩
  rintro ⟨a', n', i', l, b'⟩ ⟨i, h1, h2, h3, h4, h5, h6, h7, h8, h9⟩
  dsimp only at *
  subst h1 h2 h3 h4
  by_cases hi : i < a'.length
  · have hi' : (i : Int) < (a'.length : Int) := by omega
    have ga := getD_lim ha i
    obtain ⟨y, hr, k1, k2, k3, k4, k5, k6⟩ := MulL2_runs b hb i (a'.getD i 0) ga l h7 (by omega) (by omega)
    have e : nat_Mul_L2_run ⟨(i : Int), a'.getD i 0, 0, b, (b.length : Int), 0, l⟩ = y := theRun_eq (d := fun x => x) hr
    have w1 : IntKind.i64.wrap ((i : Int) + 1) = ((i + 1 : Nat) : Int) := by rw [IntWalk.i64_in] <;> omega
    have w2 : IntKind.i64.wrap ((i : Int) + (b.length : Int)) = ((i + b.length : Nat) : Int) := by rw [IntWalk.i64_in] <;> omega
    have hlen : S.nat_Nat_Len ⟨b⟩ = (b.length : Int) := rfl
    refine ⟨?_, ?_⟩
    · simp only [nat_Mul_L0_vcs, All, hi', decide_true, true_implies, and_true, Bool.true_eq_false, false_implies, Int.toNat_natCast, e, k1, hlen, w2, k2, h6]
      exact ⟨by omega, trivial, hr, by omega, by omega⟩
    · simp only [nat_Mul_L0_step, hi', decide_true, cond_true, Int.toNat_natCast, e, k1, hlen, w1, w2]
      refine ⟨⟨i + 1, trivial, trivial, rfl, trivial, by omega, by rw [List.length_set]; omega, lim_set k3 _ _ k4, fun k hk => ?_, ?_⟩, by omega⟩
      · rw [getD_set_ne _ _ _ _ (by omega), k5 k (by omega)]; exact h8 k (by omega)
      · rw [val_set _ _ _ (by omega), k5 _ (Nat.le_refl _), h8 _ (Nat.le_refl _), Int.sub_zero, k6, h9, val_take, Int.add_mul, Int.mul_assoc]
  · have hi' : ¬ (i : Int) < (a'.length : Int) := by omega
    have e : i = a'.length := by omega
    subst e
    refine ⟨by simp [nat_Mul_L0_vcs, hi'], ?_⟩
    simp only [nat_Mul_L0_step, hi', decide_false, cond_false]
    rw [List.take_of_length_le (Nat.le_refl _)] at h9
    exact ⟨h6, h7, h9⟩

theorem Mul_eq (a b : List Int) (ha : lim a) (hb : lim b) (la : a.length ≤ 100000) (lb : b.length ≤ 100000) : S.nat_Mul_pre ⟨a⟩ ⟨b⟩ ∧ S.nat_Mul ⟨a⟩ ⟨b⟩ = ⟨digs (val a * val b).toNat⟩ := by
  have w : IntKind.i64.wrap ((a.length : Int) + (b.length : Int)) = ((a.length + b.length : Nat) : Int) := by rw [IntWalk.i64_in] <;> omega
  obtain ⟨y, hr, h1, h2, h3⟩ := MulL0_runs a b ha hb (List.replicate (a.length + b.length) 0) (lim_rep _) (by simp) (by simp; omega) (getD_rep _) (val_rep _)
  have e : nat_Mul_L0_run ⟨a, (a.length : Int), 0, List.replicate (a.length + b.length) 0, ⟨b⟩⟩ = y := theRun_eq (d := fun x => x) hr
  obtain ⟨p1, q1⟩ := Limbs_eq y.l h2 (by rw [h1]; simp; omega)
  have e0 : ∀ T R y, IntKind.i64.wrap ((a.length : Int) + (b.length : Int)) = T → List.replicate (Int.toNat T) (0 : Int) = R → nat_Mul_L0_run ⟨a, (a.length : Int), 0, R, ⟨b⟩⟩ = y → S.nat_Mul ⟨a⟩ ⟨b⟩ = nat_Limbs y.l ∧
      S.nat_Mul_pre ⟨a⟩ ⟨b⟩ = (All [(0 : Int) ≤ T, T = T, T * 8 ≤ 140737488355328, Runs nat_Mul_L0_step nat_Mul_L0_vcs ⟨a, (a.length : Int), 0, R, ⟨b⟩⟩ y, S.nat_Limbs_pre y.l] ∧ True) := by
    intro T R y h1 h2 h3; subst h1 h2 h3; exact ⟨rfl, rfl⟩
  obtain ⟨e1, e2⟩ := e0 _ _ _ w rfl e
  rw [e1, e2, q1, h3]
  exact ⟨⟨⟨by omega, rfl, by omega, hr, p1⟩, trivial⟩, rfl⟩

/-! ### What the functions make of numbers -/

def num (n : Nat) : S.Num := ⟨digs n⟩
def small (n : Nat) : Prop := (digs n).length ≤ 100000

theorem nAdd (m n : Nat) (hm : small m) (hn : small n) : S.nat_Add_pre (num m) (num n) ∧ S.nat_Add (num m) (num n) = num (m + n) := by
  obtain ⟨v1, l1⟩ := digs_val m; obtain ⟨v2, l2⟩ := digs_val n
  obtain ⟨p, q⟩ := Add_eq _ _ l1 l2 hm hn
  refine ⟨p, q.trans ?_⟩
  rw [v1, v2]; show (⟨digs _⟩ : S.Num) = ⟨digs _⟩; congr 2
theorem nMul (m n : Nat) (hm : small m) (hn : small n) : S.nat_Mul_pre (num m) (num n) ∧ S.nat_Mul (num m) (num n) = num (m * n) := by
  obtain ⟨v1, l1⟩ := digs_val m; obtain ⟨v2, l2⟩ := digs_val n
  obtain ⟨p, q⟩ := Mul_eq _ _ l1 l2 hm hn
  refine ⟨p, q.trans ?_⟩
  rw [v1, v2]; show (⟨digs _⟩ : S.Num) = ⟨digs _⟩; congr 2
theorem nCmp (m n : Nat) (hm : small m) (hn : small n) : S.nat_Cmp_pre (num m) (num n) ∧ S.nat_Cmp (num m) (num n) = sg ((m : Int) - n) := by
  obtain ⟨v1, l1⟩ := digs_val m; obtain ⟨v2, l2⟩ := digs_val n
  obtain ⟨p, q⟩ := Cmp_eq _ _ l1 l2 hm hn
  exact ⟨p, q.trans (by rw [v1, v2])⟩
theorem nSub (m n : Nat) (hm : small m) (hn : small n) : S.nat_Sub_pre (num m) (num n) ∧ S.nat_Sub (num m) (num n) = if m < n then (⟨[]⟩, 11) else (num (m - n), 0) := by
  obtain ⟨v1, l1⟩ := digs_val m; obtain ⟨v2, l2⟩ := digs_val n
  obtain ⟨p, q⟩ := Sub_eq _ _ l1 l2 (top_digs n) hm hn
  refine ⟨p, q.trans ?_⟩
  rw [v1, v2]
  by_cases h : m < n
  · rw [if_pos h, if_pos (by omega)]
  · rw [if_neg h, if_neg (by omega)]
    show ((⟨digs _⟩ : S.Num), (0 : Int)) = (⟨digs _⟩, 0)
    congr 3; omega
theorem nLimbs (l : List Int) (h : lim l) (hn : l.length ≤ 100000) : S.nat_Limbs_pre l ∧ S.nat_Limbs l = num (val l).toNat ∧ small (val l).toNat :=
  ⟨(Limbs_eq l h (by omega)).1, (Limbs_eq l h (by omega)).2, Nat.le_trans (val_len h) hn⟩
/-- Numbers of at most k limbs. -/
def upto (k n : Nat) : Prop := n < 18446744073709551616 ^ k
theorem upto_small {k n : Nat} (h : upto k n) (hk : k ≤ 100000) : small n := Nat.le_trans (digs_len n k h) hk
theorem upto_val (l : List Int) (h : lim l) : upto l.length (val l).toNat := (Int.toNat_lt (val_nonneg h)).2 (by simpa using val_lt h)
theorem upto_mono {k j n : Nat} (h : upto k n) (hk : k ≤ j) : upto j n := Nat.lt_of_lt_of_le h (Nat.pow_le_pow_right (by omega) hk)
theorem upto_add {k m n : Nat} (hm : upto k m) (hn : upto k n) : upto (k + 1) (m + n) := by
  unfold upto at *; rw [Nat.pow_succ]; omega
theorem upto_mul {k j m n : Nat} (hm : upto k m) (hn : upto j n) : upto (k + j) (m * n) := by
  unfold upto at *; rw [Nat.pow_add]; exact Nat.mul_lt_mul'' hm hn
theorem sg_zero {d : Int} : sg d = 0 ↔ d = 0 := by
  unfold sg; split <;> (try split) <;> omega
end S
