/-
  The reference's sums, comparisons and differences are those of the numbers.
-/
import Derived.Test.YthgfoemcjkokjaaNatPlain9
set_option linter.all false
open Go Vm
namespace S

theorem refAdd_eq (a b : List Int) (ha : lim8 a) (hb : lim8 b) (la : a.length ≤ 100000) (lb : b.length ≤ 100000) : S.ref01_Add_pre a b ∧ S.ref01_Add a b = digs8 (val8 a + val8 b).toNat := by
  obtain ⟨y, hr, h1, h2, h3⟩ := refAdd_runs a b ha hb la lb
  have e : ref01_Add_L0_run ⟨a, b, 0, 0, []⟩ = y := theRun_eq (d := fun x => x) hr
  obtain ⟨p, q⟩ := trim_eq y.out h2 (by omega)
  rw [h3] at q
  refine ⟨?_, ?_⟩
  · simp only [ref01_Add_pre, All, e, and_true]; exact ⟨hr, p⟩
  · simp only [ref01_Add, e, q]

theorem refCmp_runs (a b : List Int) (ha : lim8 a) (hb : lim8 b) (hl : a.length = b.length) (hm : a.length ≤ 1000000) :
    ∃ y, Runs ref01_Cmp_L0_step ref01_Cmp_L0_vcs ⟨a, b, 0, (a.length : Int) - 1⟩ y ∧ (bif y.1 then y.2.t4 else 0) = sg (val8 a - val8 b) := by
  refine Runs.of (fun x => ∃ k : Nat, x.i = (k : Int) - 1 ∧ k ≤ a.length ∧ x.a = a ∧ x.b = b ∧ val8 a - val8 b = val8 (a.take k) - val8 (b.take k)) (fun x => (x.i + 1).toNat) _ ?_ _
    ⟨a.length, rfl, by omega, rfl, rfl, by rw [List.take_of_length_le (Nat.le_refl _), List.take_of_length_le (by omega)]⟩
  rintro ⟨a', b', t, i'⟩ ⟨k, e1, e2, e3, e4, e5⟩
  dsimp only at *
  subst e1 e3 e4
  cases k with
  | zero =>
    have hi : ¬ ((0 : Nat) : Int) - 1 ≥ 0 := by omega
    refine ⟨by simp only [ref01_Cmp_L0_vcs, decide_eq_false hi, Bool.false_eq_true, false_implies, true_and, implies_true], ?_⟩
    simp only [ref01_Cmp_L0_step, decide_eq_false hi, cond_false, e5]
    simp [sg]
  | succ j =>
    have hi : ((j + 1 : Nat) : Int) - 1 ≥ 0 := by omega
    have ej : ((j + 1 : Nat) : Int) - 1 = (j : Int) := by omega
    rw [ej] at hi ⊢
    have w1 : IntKind.i64.wrap ((j : Int) - 1) = (j : Int) - 1 := by rw [IntWalk.i64_in] <;> omega
    rw [val_take8, val_take8] at e5
    have ga := getD_lim8 ha j; have gb := getD_lim8 hb j
    obtain ⟨ta1, ta2⟩ := val_take_lt8 ha j; obtain ⟨tb1, tb2⟩ := val_take_lt8 hb j
    have l1 : (0 : Int) ≤ (j : Int) ∧ (j : Int) < (a'.length : Int) ∧ (0 : Int) ≤ (j : Int) ∧ (j : Int) < (b'.length : Int) := by omega
    refine ⟨?_, ?_⟩
    · simp only [ref01_Cmp_L0_vcs, All, decide_eq_true hi, true_implies, and_true, Bool.true_eq_false, false_implies, l1, implies_true, and_self]
    · by_cases hlt : a'.getD j 0 < b'.getD j 0
      · simp only [ref01_Cmp_L0_step, decide_eq_true hi, cond_true, Int.toNat_natCast, w1, hlt, decide_true]
        rw [e5]
        have hq : (256 : Int) ^ j * (a'.getD j 0 + 1) ≤ 256 ^ j * b'.getD j 0 := Int.mul_le_mul_of_nonneg_left (by omega) (by omega)
        rw [Int.mul_add] at hq
        simp only [sg]
        rw [if_pos (by omega)]
      · by_cases hgt : a'.getD j 0 > b'.getD j 0
        · simp only [ref01_Cmp_L0_step, decide_eq_true hi, cond_true, Int.toNat_natCast, w1, hlt, hgt, decide_true, decide_false, cond_false]
          rw [e5]
          have hq : (256 : Int) ^ j * (b'.getD j 0 + 1) ≤ 256 ^ j * a'.getD j 0 := Int.mul_le_mul_of_nonneg_left (by omega) (by omega)
          rw [Int.mul_add] at hq
          simp only [sg]
          rw [if_neg (by omega), if_pos (by omega)]
        · have he : a'.getD j 0 = b'.getD j 0 := by omega
          simp only [ref01_Cmp_L0_step, decide_eq_true hi, cond_true, Int.toNat_natCast, w1, hlt, hgt, decide_false, cond_false]
          rw [he] at e5
          exact ⟨⟨j, rfl, by omega, trivial, trivial, by omega⟩, by omega⟩

theorem refCmp_eq (m n : Nat) (lm : (digs8 m).length ≤ 100000) (ln : (digs8 n).length ≤ 100000) : S.ref01_Cmp_pre (digs8 m) (digs8 n) ∧ S.ref01_Cmp (digs8 m) (digs8 n) = sg ((m : Int) - n) := by
  obtain ⟨v1, l1⟩ := digs_val8 m; obtain ⟨v2, l2⟩ := digs_val8 n
  have len : ∀ x y : Nat, (digs8 x).length < (digs8 y).length → x < y := fun x y h => by
    obtain ⟨u1, u2⟩ := digs_val8 x
    have h1 := val_lt8 u2
    rw [u1] at h1
    by_cases hy : y < 256 ^ (digs8 x).length
    · have := digs_len8 y _ hy; omega
    · have h2 : ((256 ^ (digs8 x).length : Nat) : Int) ≤ (y : Int) := Int.ofNat_le.2 (by omega)
      have h3 : ((256 ^ (digs8 x).length : Nat) : Int) = (256 : Int) ^ (digs8 x).length := by simp
      omega
  by_cases hl : (digs8 m).length = (digs8 n).length
  · obtain ⟨y, hr, h1⟩ := refCmp_runs _ _ l1 l2 hl (by omega)
    have e : ref01_Cmp_L0_run ⟨digs8 m, digs8 n, 0, ((digs8 m).length : Int) - 1⟩ = y := theRun_eq (d := fun x => ⟨true, x⟩) hr
    have w : IntKind.i64.wrap (((digs8 m).length : Int) - 1) = ((digs8 m).length : Int) - 1 := by rw [IntWalk.i64_in] <;> omega
    have hb : (((digs8 m).length : Int) != ((digs8 n).length : Int)) = false := by rw [hl]; simp
    rw [v1, v2] at h1
    refine ⟨?_, ?_⟩
    · simp only [ref01_Cmp_pre, All, hb, w, e, Bool.false_eq_true, false_implies, true_implies, true_and, and_true, implies_true]
      exact hr
    · simp only [ref01_Cmp, hb, w, e, cond_false, h1]
  · have hb : (((digs8 m).length : Int) != ((digs8 n).length : Int)) = true := by rw [bne_iff_ne]; omega
    refine ⟨?_, ?_⟩
    · simp only [ref01_Cmp_pre, hb, Bool.true_eq_false, false_implies, and_true, implies_true, true_implies, and_self]
    · simp only [ref01_Cmp, hb, cond_true]
      by_cases h : (digs8 m).length < (digs8 n).length
      · have := len m n h
        rw [decide_eq_true (by omega), cond_true]; unfold sg; rw [if_pos (by omega)]
      · have := len n m (by omega)
        rw [decide_eq_false (by omega), cond_false]; unfold sg; rw [if_neg (by omega), if_pos (by omega)]

theorem refSub_runs (a b : List Int) (ha : lim8 a) (hb : lim8 b) (hm : a.length ≤ 100000) :
    ∃ y, Runs ref01_Sub_L0_step ref01_Sub_L0_vcs ⟨a, b, 0, 0, []⟩ y ∧ (y.out.length = a.length ∧ lim8 y.out ∧ 0 ≤ y.borrow ∧ y.borrow ≤ 1 ∧ val8 y.out - 256 ^ a.length * y.borrow = val8 a - val8 (b.take a.length)) := by
  refine Runs.of (fun x => ∃ i : Nat, x.i = (i : Int) ∧ x.a = a ∧ x.b = b ∧ i ≤ a.length ∧ x.out.length = i ∧ lim8 x.out ∧ 0 ≤ x.borrow ∧ x.borrow ≤ 1 ∧ val8 x.out - 256 ^ i * x.borrow = val8 (a.take i) - val8 (b.take i))
    (fun x => ((a.length : Int) - x.i).toNat) _ ?_ _ ⟨0, rfl, rfl, rfl, by omega, rfl, lim_nil8, by simp, by simp, by simp [val8]⟩
  rintro ⟨a', b', c, i', l⟩ ⟨i, h2, h3, h4, h5, h6, h7, h8, h9, h10⟩
  dsimp only at *
  subst h2 h3 h4
  by_cases hi : i < a'.length
  · have hi' : (i : Int) < (a'.length : Int) := by omega
    have w1 : IntKind.i64.wrap ((i : Int) + 1) = ((i + 1 : Nat) : Int) := by rw [IntWalk.i64_in] <;> omega
    have ga := getD_lim8 ha i; have gb := getD_lim8 hb i
    have w2 : IntKind.i64.wrap (a'.getD i 0 - b'.getD i 0) = a'.getD i 0 - b'.getD i 0 := by rw [IntWalk.i64_in] <;> omega
    have w3 : IntKind.i64.wrap (a'.getD i 0 - b'.getD i 0 - c) = a'.getD i 0 - b'.getD i 0 - c := by rw [IntWalk.i64_in] <;> omega
    have w4 : IntKind.i64.wrap (a'.getD i 0 - b'.getD i 0 - c + 256) = a'.getD i 0 - b'.getD i 0 - c + 256 := by rw [IntWalk.i64_in] <;> omega
    obtain ⟨d, q, k1, k2, k3, k4, k5⟩ : ∃ d q : Int, IntKind.u8.wrap (bif decide (a'.getD i 0 - b'.getD i 0 - c < 0) then a'.getD i 0 - b'.getD i 0 - c + 256 else a'.getD i 0 - b'.getD i 0 - c) = d ∧ (bif decide (a'.getD i 0 - b'.getD i 0 - c < 0) then (1 : Int) else 0) = q ∧
        (0 ≤ d ∧ d ≤ 255) ∧ (0 ≤ q ∧ q ≤ 1) ∧ d - 256 * q = a'.getD i 0 - b'.getD i 0 - c := by
      by_cases h : a'.getD i 0 - b'.getD i 0 - c < 0
      · rw [decide_eq_true h, cond_true, cond_true, u8_in (by omega)]; exact ⟨_, _, rfl, rfl, by omega, by omega, by omega⟩
      · rw [decide_eq_false h, cond_false, cond_false, u8_in (by omega)]; exact ⟨_, _, rfl, rfl, by omega, by omega, by omega⟩
    refine ⟨?_, ?_⟩
    · simp only [ref01_Sub_L0_vcs, All, hi', decide_true, true_implies, and_true, Bool.true_eq_false, false_implies, at_pre, true_and, h6, List.length_cons, List.length_nil]
      omega
    · simp only [ref01_Sub_L0_step, hi', decide_true, cond_true, at_eq _ ha, at_eq _ hb, w1, w2, w3, w4, k1, k2]
      refine ⟨⟨i + 1, rfl, trivial, trivial, by omega, by simp [h6], ?_, k4.1, k4.2, ?_⟩, by omega⟩
      · exact lim_app8.2 ⟨h7, lim_cons8.2 ⟨k3, lim_nil8⟩⟩
      · rw [val_app8, h6, val_take8, val_take8, Int.pow_succ]
        generalize a'.getD i 0 = p at *
        generalize b'.getD i 0 = r at *
        have e : (256 : Int) ^ i * d - 256 ^ i * 256 * q = 256 ^ i * p - 256 ^ i * r - 256 ^ i * c := by
          rw [Int.mul_assoc, ← Int.mul_sub, ← Int.mul_sub, ← Int.mul_sub, k5]
        simp only [val8, Int.mul_zero, Int.add_zero]
        omega
  · have hi' : ¬ (i : Int) < (a'.length : Int) := by omega
    have e : i = a'.length := by omega
    subst e
    refine ⟨by simp [ref01_Sub_L0_vcs, hi'], ?_⟩
    simp only [ref01_Sub_L0_step, hi', decide_false, cond_false]
    rw [List.take_of_length_le (Nat.le_refl _)] at h10
    exact ⟨h6, h7, h8, h9, h10⟩
theorem refSub_eq (m n : Nat) (lm : (digs8 m).length ≤ 100000) (h : n ≤ m) : S.ref01_Sub_pre (digs8 m) (digs8 n) ∧ S.ref01_Sub (digs8 m) (digs8 n) = digs8 (m - n) := by
  obtain ⟨v1, l1⟩ := digs_val8 m; obtain ⟨v2, l2⟩ := digs_val8 n
  obtain ⟨y, hr, h1, h2, h3, h4, h5⟩ := refSub_runs _ _ l1 l2 lm
  have e : ref01_Sub_L0_run ⟨digs8 m, digs8 n, 0, 0, []⟩ = y := theRun_eq (d := fun x => x) hr
  obtain ⟨p, q⟩ := trim_eq y.out h2 (by omega)
  have hva := val_lt8 l1
  have hlb : (digs8 n).length ≤ (digs8 m).length := by
    refine digs_len8 _ _ ?_
    rw [v1] at hva
    have h3 : ((256 ^ (digs8 m).length : Nat) : Int) = (256 : Int) ^ (digs8 m).length := by simp
    omega
  rw [List.take_of_length_le hlb, v1, v2] at h5
  have hvl := val_lt8 h2
  rw [h1] at hvl
  have hb0 : y.borrow = 0 := by
    by_cases hz : y.borrow = 0
    · exact hz
    · have : y.borrow = 1 := by omega
      rw [this, Int.mul_one] at h5
      omega
  rw [hb0, Int.mul_zero, Int.sub_zero] at h5
  rw [h5] at q
  refine ⟨?_, ?_⟩
  · simp only [ref01_Sub_pre, All, e, and_true]; exact ⟨hr, p⟩
  · simp only [ref01_Sub, e, q]; congr 1; omega
end S
