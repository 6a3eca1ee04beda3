/-
  Comparisons and differences of numbers, by their values.
-/
import Derived.Test.YthgfoemcjkokjaaNatPlain2
set_option linter.all false
open Go Vm
namespace S

def sg (d : Int) : Int := if d < 0 then -1 else if d > 0 then 1 else 0
theorem Compare_eq (x y : Int) : S.cmp_Compareuint64 x y = sg (x - y) := by
  have h : ∀ z : Int, S.cmp_isNaNuint64 z = false := fun z => by simp [cmp_isNaNuint64]
  simp only [cmp_Compareuint64, h, cond_false, sg]
  by_cases h1 : x < y
  · rw [decide_eq_true h1, cond_true, if_pos (by omega)]
  · by_cases h2 : x > y
    · rw [decide_eq_false h1, decide_eq_true h2, cond_false, cond_true, if_neg (by omega), if_pos (by omega)]
    · rw [decide_eq_false h1, decide_eq_false h2, cond_false, cond_false, if_neg (by omega), if_neg (by omega)]

theorem Cmp_runs (a b : List Int) (ha : lim a) (hb : lim b) (m : Nat) (hm : m ≤ 1000000) (h1 : a.length ≤ m) (h2 : b.length ≤ m) :
    ∃ y, Runs nat_Cmp_L0_step nat_Cmp_L0_vcs ⟨0, (m : Int) - 1, ⟨a⟩, ⟨b⟩⟩ y ∧ (bif y.1 then y.2.t4 else 0) = sg (val a - val b) := by
  refine Runs.of (fun x => ∃ k : Nat, x.i = (k : Int) - 1 ∧ k ≤ m ∧ x.a = ⟨a⟩ ∧ x.b = ⟨b⟩ ∧ val a - val b = val (a.take k) - val (b.take k)) (fun x => (x.i + 1).toNat) _ ?_ _
    ⟨m, rfl, by omega, rfl, rfl, by rw [List.take_of_length_le h1, List.take_of_length_le h2]⟩
  rintro ⟨t, i', a', b'⟩ ⟨k, e1, e2, e3, e4, e5⟩
  dsimp only at *
  subst e1 e3 e4
  cases k with
  | zero =>
    have hi : ¬ ((0 : Nat) : Int) - 1 ≥ 0 := by omega
    refine ⟨by simp only [nat_Cmp_L0_vcs, decide_eq_false hi, Bool.false_eq_true, false_implies, true_and, implies_true], ?_⟩
    simp only [nat_Cmp_L0_step, decide_eq_false hi, cond_false, e5]
    simp [sg]
  | succ j =>
    have hi : ((j + 1 : Nat) : Int) - 1 ≥ 0 := by omega
    have ej : ((j + 1 : Nat) : Int) - 1 = (j : Int) := by omega
    rw [ej] at hi ⊢
    have w1 : IntKind.i64.wrap ((j : Int) - 1) = (j : Int) - 1 := by rw [IntWalk.i64_in] <;> omega
    rw [val_take, val_take] at e5
    have ga := getD_lim ha j; have gb := getD_lim hb j
    obtain ⟨ta1, ta2⟩ := val_take_lt ha j; obtain ⟨tb1, tb2⟩ := val_take_lt hb j
    refine ⟨?_, ?_⟩
    · simp only [nat_Cmp_L0_vcs, All, decide_eq_true hi, true_implies, and_true, Bool.true_eq_false, false_implies, limb_pre, implies_true, and_self]
    · simp only [nat_Cmp_L0_step, decide_eq_true hi, cond_true, limb_eq, Compare_eq, w1]
      generalize a.getD j 0 = p at *
      generalize b.getD j 0 = q at *
      by_cases hpq : p = q
      · subst hpq
        rw [show (sg (p - p) != 0) = false by simp [sg], cond_false]
        exact ⟨⟨j, rfl, by omega, rfl, rfl, by omega⟩, by dsimp only; omega⟩
      · have hne : (sg (p - q) != 0) = true := by
          simp only [sg, bne_iff_ne]; split <;> (try split) <;> omega
        rw [hne, cond_true]
        dsimp only
        rw [cond_true, e5]
        by_cases hlt : p < q
        · have hq : (18446744073709551616 : Int) ^ j * (p + 1) ≤ 18446744073709551616 ^ j * q := Int.mul_le_mul_of_nonneg_left (by omega) (by omega)
          rw [Int.mul_add] at hq
          simp only [sg]
          rw [if_pos (by omega), if_pos (by omega)]
        · have hq : (18446744073709551616 : Int) ^ j * (q + 1) ≤ 18446744073709551616 ^ j * p := Int.mul_le_mul_of_nonneg_left (by omega) (by omega)
          rw [Int.mul_add] at hq
          simp only [sg]
          rw [if_neg (by omega), if_pos (by omega), if_neg (by omega), if_pos (by omega)]

theorem Cmp_eq (a b : List Int) (ha : lim a) (hb : lim b) (la : a.length ≤ 100000) (lb : b.length ≤ 100000) : S.nat_Cmp_pre ⟨a⟩ ⟨b⟩ ∧ S.nat_Cmp ⟨a⟩ ⟨b⟩ = sg (val a - val b) := by
  have hm : (if (b.length : Int) > (a.length : Int) then (b.length : Int) else (a.length : Int)) = ((max a.length b.length : Nat) : Int) := by split <;> omega
  obtain ⟨y, hr, h1⟩ := Cmp_runs a b ha hb (max a.length b.length) (by omega) (by omega) (by omega)
  have e : nat_Cmp_L0_run ⟨0, ((max a.length b.length : Nat) : Int) - 1, ⟨a⟩, ⟨b⟩⟩ = y := theRun_eq (d := fun x => ⟨true, x⟩) hr
  have w : IntKind.i64.wrap (((max a.length b.length : Nat) : Int) - 1) = ((max a.length b.length : Nat) : Int) - 1 := by rw [IntWalk.i64_in] <;> omega
  have e0 : ∀ M N y, (if (b.length : Int) > (a.length : Int) then (b.length : Int) else (a.length : Int)) = M → IntKind.i64.wrap (M - 1) = N → nat_Cmp_L0_run ⟨0, N, ⟨a⟩, ⟨b⟩⟩ = y → S.nat_Cmp ⟨a⟩ ⟨b⟩ = (bif y.1 then y.2.t4 else 0) ∧
      S.nat_Cmp_pre ⟨a⟩ ⟨b⟩ = (All [Runs nat_Cmp_L0_step nat_Cmp_L0_vcs ⟨0, N, ⟨a⟩, ⟨b⟩⟩ y] ∧ ((y.1 = true → True) ∧ (y.1 = false → True))) := by
    intro M N y h1 h2 h3; subst h1 h2 h3; exact ⟨rfl, rfl⟩
  obtain ⟨e1, e2⟩ := e0 _ _ _ hm w e
  rw [e1, e2, h1]
  exact ⟨⟨hr, fun _ => trivial, fun _ => trivial⟩, rfl⟩

theorem Sub_runs (a b : List Int) (ha : lim a) (hb : lim b) (hm : a.length ≤ 100000) :
    ∃ y, Runs nat_Sub_L0_step nat_Sub_L0_vcs ⟨0, (a.length : Int), 0, [], ⟨a⟩, ⟨b⟩⟩ y ∧ (y.l.length = a.length ∧ lim y.l ∧ 0 ≤ y.borrow ∧ y.borrow ≤ 1 ∧ val y.l - 18446744073709551616 ^ a.length * y.borrow = val a - val (b.take a.length)) := by
  refine Runs.of (fun x => ∃ i : Nat, x.t16 = (a.length : Int) ∧ x.t17 = (i : Int) ∧ x.a = ⟨a⟩ ∧ x.b = ⟨b⟩ ∧ i ≤ a.length ∧ x.l.length = i ∧ lim x.l ∧ 0 ≤ x.borrow ∧ x.borrow ≤ 1 ∧ val x.l - 18446744073709551616 ^ i * x.borrow = val (a.take i) - val (b.take i))
    (fun x => ((a.length : Int) - x.t17).toNat) _ ?_ _ ⟨0, rfl, rfl, rfl, rfl, by omega, rfl, lim_nil, by simp, by simp, by simp [val]⟩
  rintro ⟨c, m', i', l, a', b'⟩ ⟨i, h1, h2, h3, h4, h5, h6, h7, h8, h9, h10⟩
  dsimp only at *
  subst h1 h2 h3 h4
  by_cases hi : i < a.length
  · have hi' : (i : Int) < (a.length : Int) := by omega
    have w1 : IntKind.i64.wrap ((i : Int) + 1) = ((i + 1 : Nat) : Int) := by rw [IntWalk.i64_in] <;> omega
    have ga := getD_lim ha i; have gb := getD_lim hb i
    refine ⟨?_, ?_⟩
    · simp only [nat_Sub_L0_vcs, All, hi', decide_true, true_implies, and_true, Bool.true_eq_false, false_implies, limb_eq, limb_pre, math_bits_Sub64_pre, true_and, h6, List.length_cons, List.length_nil]
      omega
    · simp only [nat_Sub_L0_step, hi', decide_true, cond_true, limb_eq, math_bits_Sub64, w1]
      have hb' : 0 ≤ (if a.getD i 0 < b.getD i 0 + c then (1 : Int) else 0) ∧ (if a.getD i 0 < b.getD i 0 + c then (1 : Int) else 0) ≤ 1 := by split <;> omega
      have hd : (a.getD i 0 + 18446744073709551616 - b.getD i 0 - c) % 18446744073709551616 - 18446744073709551616 * (if a.getD i 0 < b.getD i 0 + c then (1 : Int) else 0) = a.getD i 0 - b.getD i 0 - c := by split <;> omega
      refine ⟨⟨i + 1, trivial, rfl, trivial, trivial, by omega, by simp [h6], ?_, hb'.1, hb'.2, ?_⟩, by omega⟩
      · exact lim_app.2 ⟨h7, lim_cons.2 ⟨by omega, lim_nil⟩⟩
      · rw [val_app, h6, val_take, val_take, Int.pow_succ]
        generalize (a.getD i 0 + 18446744073709551616 - b.getD i 0 - c) % 18446744073709551616 = d at *
        generalize (if a.getD i 0 < b.getD i 0 + c then (1 : Int) else 0) = q at *
        generalize a.getD i 0 = p at *
        generalize b.getD i 0 = r at *
        have e : (18446744073709551616 : Int) ^ i * d - 18446744073709551616 ^ i * 18446744073709551616 * q = 18446744073709551616 ^ i * p - 18446744073709551616 ^ i * r - 18446744073709551616 ^ i * c := by
          rw [Int.mul_assoc, ← Int.mul_sub, ← Int.mul_sub, ← Int.mul_sub, hd]
        simp only [val, Int.mul_zero, Int.add_zero]
        omega
  · have hi' : ¬ (i : Int) < (a.length : Int) := by omega
    have e : i = a.length := by omega
    subst e
    refine ⟨by simp [nat_Sub_L0_vcs, hi'], ?_⟩
    simp only [nat_Sub_L0_step, hi', decide_false, cond_false]
    rw [List.take_of_length_le (Nat.le_refl _)] at h10
    exact ⟨h6, h7, h8, h9, h10⟩

theorem Sub_eq (a b : List Int) (ha : lim a) (hb : lim b) (tb : top b) (la : a.length ≤ 100000) (lb : b.length ≤ 100000) :
    S.nat_Sub_pre ⟨a⟩ ⟨b⟩ ∧ S.nat_Sub ⟨a⟩ ⟨b⟩ = if val a < val b then (⟨[]⟩, 11) else (⟨digs (val a - val b).toNat⟩, 0) := by
  obtain ⟨cp, ce⟩ := Cmp_eq a b ha hb la lb
  obtain ⟨y, hr, h1, h2, h3, h4, h5⟩ := Sub_runs a b ha hb la
  have e : nat_Sub_L0_run ⟨0, (a.length : Int), 0, [], ⟨a⟩, ⟨b⟩⟩ = y := theRun_eq (d := fun x => x) hr
  have e0 : ∀ y, nat_Sub_L0_run ⟨0, (a.length : Int), 0, [], ⟨a⟩, ⟨b⟩⟩ = y → S.nat_Sub ⟨a⟩ ⟨b⟩ = (bif decide (S.nat_Cmp ⟨a⟩ ⟨b⟩ < 0) then ((⟨([] : List Int)⟩ : S.Num), 11) else (nat_Limbs y.l, 0)) ∧
      S.nat_Sub_pre ⟨a⟩ ⟨b⟩ = (All [S.nat_Cmp_pre ⟨a⟩ ⟨b⟩] ∧ ((decide (S.nat_Cmp ⟨a⟩ ⟨b⟩ < 0) = true → True) ∧ (decide (S.nat_Cmp ⟨a⟩ ⟨b⟩ < 0) = false → (All [Runs nat_Sub_L0_step nat_Sub_L0_vcs ⟨0, (a.length : Int), 0, [], ⟨a⟩, ⟨b⟩⟩ y, S.nat_Limbs_pre y.l] ∧ True)))) := by
    intro y h; subst h; exact ⟨rfl, rfl⟩
  obtain ⟨e1, e2⟩ := e0 _ e
  obtain ⟨p1, q1⟩ := Limbs_eq y.l h2 (by omega)
  rw [e1, e2, ce]
  refine ⟨⟨cp, fun _ => trivial, fun _ => ⟨⟨hr, p1⟩, trivial⟩⟩, ?_⟩
  by_cases hlt : val a < val b
  · rw [if_pos hlt, decide_eq_true (by simp only [sg]; rw [if_pos (by omega)]; decide), cond_true]
  · rw [if_neg hlt, decide_eq_false (by simp only [sg]; rw [if_neg (by omega)]; split <;> omega), cond_false, q1]
    have hva := val_lt ha
    have hvb := val_nonneg hb
    have hlb : b.length ≤ a.length := by
      have := digs_of b hb tb
      rw [← this]
      refine digs_len _ _ ((Int.toNat_lt hvb).2 ?_)
      have : val b < 18446744073709551616 ^ a.length := by omega
      simpa using this
    rw [List.take_of_length_le hlb] at h5
    have hvl := val_lt h2
    rw [h1] at hvl
    have hb0 : y.borrow = 0 := by
      by_cases hz : y.borrow = 0
      · exact hz
      · have : y.borrow = 1 := by omega
        rw [this, Int.mul_one] at h5
        omega
    rw [hb0, Int.mul_zero, Int.sub_zero] at h5
    rw [h5]
end S
