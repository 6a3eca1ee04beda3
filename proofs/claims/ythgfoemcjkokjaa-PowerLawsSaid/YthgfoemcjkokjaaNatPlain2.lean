/-
  Sums, comparisons and differences of numbers, by their values.
-/
import Derived.Test.YthgfoemcjkokjaaNatPlain
set_option linter.all false
open Go Vm
namespace S

theorem getD_lim {l : List Int} (h : lim l) (i : Nat) : 0 ≤ l.getD i 0 ∧ l.getD i 0 ≤ 18446744073709551615 := by
  rw [List.getD_eq_getElem?_getD]
  by_cases hi : i < l.length
  · rw [List.getElem?_eq_getElem hi]; exact h _ (List.getElem_mem _)
  · rw [List.getElem?_eq_none (by omega)]; simp
theorem limb_eq (l : List Int) (i : Nat) : S.nat_Nat_limb ⟨l⟩ (i : Int) = l.getD i 0 := by
  show (bif decide ((i : Int) ≥ (l.length : Int)) then 0 else l.getD (Int.toNat (i : Int)) 0) = _
  rw [Int.toNat_natCast]
  by_cases hi : i < l.length
  · rw [decide_eq_false (by omega), cond_false]
  · rw [decide_eq_true (by omega), cond_true, List.getD_eq_getElem?_getD, List.getElem?_eq_none (by omega)]; rfl
theorem limb_pre (l : List Int) (i : Nat) : S.nat_Nat_limb_pre ⟨l⟩ (i : Int) := by
  show (decide ((i : Int) ≥ (l.length : Int)) = true → True) ∧ (decide ((i : Int) ≥ (l.length : Int)) = false → (((0 : Int) ≤ i ∧ (i : Int) < (l.length : Int)) ∧ True))
  refine ⟨fun _ => trivial, fun h => ?_⟩
  have h' : ¬ ((i : Int) ≥ (l.length : Int)) := of_decide_eq_false h
  exact ⟨⟨by omega, by omega⟩, trivial⟩
theorem val_take (l : List Int) (i : Nat) : val (l.take (i + 1)) = val (l.take i) + 18446744073709551616 ^ i * l.getD i 0 := by
  by_cases hi : i < l.length
  · rw [List.take_succ_eq_append_getElem hi, val_app, List.length_take, Nat.min_eq_left (by omega), List.getD_eq_getElem?_getD, List.getElem?_eq_getElem hi]
    simp [val]
  · rw [List.getD_eq_getElem?_getD, List.getElem?_eq_none (by omega), List.take_of_length_le (by omega), List.take_of_length_le (by omega)]
    simp

theorem Add_runs (a b : List Int) (ha : lim a) (hb : lim b) (m : Nat) (hm : m ≤ 1000000) :
    ∃ y, Runs nat_Add_L0_step nat_Add_L0_vcs ⟨(m : Int), 0, [], ⟨a⟩, ⟨b⟩, 0⟩ y ∧ (y.l.length = m ∧ lim (y.l ++ [y.carry]) ∧ val (y.l ++ [y.carry]) = val (a.take m) + val (b.take m)) := by
  refine Runs.of (fun x => ∃ i : Nat, x.t14 = (m : Int) ∧ x.t15 = (i : Int) ∧ x.a = ⟨a⟩ ∧ x.b = ⟨b⟩ ∧ i ≤ m ∧ x.l.length = i ∧ lim x.l ∧ 0 ≤ x.carry ∧ x.carry ≤ 1 ∧ val x.l + 18446744073709551616 ^ i * x.carry = val (a.take i) + val (b.take i))
    (fun x => ((m : Int) - x.t15).toNat) _ ?_ _ ⟨0, rfl, rfl, rfl, rfl, by omega, rfl, lim_nil, by simp, by simp, by simp [val]⟩
  rintro ⟨m', i', l, a', b', c⟩ ⟨i, h1, h2, h3, h4, h5, h6, h7, h8, h9, h10⟩
  dsimp only at *
  subst h1 h2 h3 h4
  by_cases hi : i < m
  · have hi' : (i : Int) < (m : Int) := by omega
    have w1 : IntKind.i64.wrap ((i : Int) + 1) = ((i + 1 : Nat) : Int) := by rw [IntWalk.i64_in] <;> omega
    have ga := getD_lim ha i; have gb := getD_lim hb i
    have hs : 0 ≤ a.getD i 0 + b.getD i 0 + c ∧ a.getD i 0 + b.getD i 0 + c < 2 * 18446744073709551616 := by omega
    refine ⟨?_, ?_⟩
    · simp only [nat_Add_L0_vcs, All, hi', decide_true, true_implies, and_true, Bool.true_eq_false, false_implies, limb_eq, limb_pre, nat_Add_1_pre, math_bits_Add64_pre, true_and, h6, List.length_cons, List.length_nil]
      omega
    · simp only [nat_Add_L0_step, hi', decide_true, cond_true, limb_eq, nat_Add_1, math_bits_Add64, w1]
      refine ⟨⟨i + 1, trivial, rfl, trivial, trivial, by omega, by simp [h6], ?_, by omega, by omega, ?_⟩, by omega⟩
      · exact lim_app.2 ⟨h7, lim_cons.2 ⟨by omega, lim_nil⟩⟩
      · rw [val_app, h6, val_take, val_take, Int.pow_succ]
        have hd := Int.mul_ediv_add_emod (a.getD i 0 + b.getD i 0 + c) 18446744073709551616
        generalize (a.getD i 0 + b.getD i 0 + c) % 18446744073709551616 = d at *
        generalize (a.getD i 0 + b.getD i 0 + c) / 18446744073709551616 = q at *
        generalize a.getD i 0 = p at *
        generalize b.getD i 0 = r at *
        have e : (18446744073709551616 : Int) ^ i * d + 18446744073709551616 ^ i * 18446744073709551616 * q = 18446744073709551616 ^ i * p + 18446744073709551616 ^ i * r + 18446744073709551616 ^ i * c := by
          rw [Int.mul_assoc, ← Int.mul_add, ← Int.mul_add, ← Int.mul_add, show d + 18446744073709551616 * q = p + r + c by omega]
        simp only [val, Int.mul_zero, Int.add_zero]
        omega
  · have hi' : ¬ (i : Int) < (m : Int) := by omega
    have e : i = m := by omega
    subst e
    refine ⟨by simp [nat_Add_L0_vcs, hi'], ?_⟩
    simp only [nat_Add_L0_step, hi', decide_false, cond_false]
    refine ⟨h6, lim_app.2 ⟨h7, lim_cons.2 ⟨by omega, lim_nil⟩⟩, ?_⟩
    rw [val_app, h6]; simp only [val, Int.mul_zero, Int.add_zero]; exact h10

theorem Add_eq (a b : List Int) (ha : lim a) (hb : lim b) (la : a.length ≤ 100000) (lb : b.length ≤ 100000) : S.nat_Add_pre ⟨a⟩ ⟨b⟩ ∧ S.nat_Add ⟨a⟩ ⟨b⟩ = ⟨digs (val a + val b).toNat⟩ := by
  have hm : (if (b.length : Int) > (a.length : Int) then (b.length : Int) else (a.length : Int)) = ((max a.length b.length : Nat) : Int) := by split <;> omega
  obtain ⟨y, hr, h1, h2, h3⟩ := Add_runs a b ha hb (max a.length b.length) (by omega)
  have e : nat_Add_L0_run ⟨((max a.length b.length : Nat) : Int), 0, [], ⟨a⟩, ⟨b⟩, 0⟩ = y := theRun_eq (d := fun x => x) hr
  rw [List.take_of_length_le (by omega), List.take_of_length_le (by omega)] at h3
  obtain ⟨p1, q1⟩ := Limbs_eq (y.l ++ [y.carry]) h2 (by simp; omega)
  rw [h3] at q1
  have e0 : ∀ M y, (if (b.length : Int) > (a.length : Int) then (b.length : Int) else (a.length : Int)) = M → nat_Add_L0_run ⟨M, 0, [], ⟨a⟩, ⟨b⟩, 0⟩ = y → S.nat_Add ⟨a⟩ ⟨b⟩ = nat_Limbs (y.l ++ [y.carry]) ∧
      S.nat_Add_pre ⟨a⟩ ⟨b⟩ = (All [Runs nat_Add_L0_step nat_Add_L0_vcs ⟨M, 0, [], ⟨a⟩, ⟨b⟩, 0⟩ y, ((y.l.length + ([y.carry] : List Int).length : Nat) : Int) * 8 ≤ 140737488355328, nat_Limbs_pre (y.l ++ [y.carry])] ∧ True) := by
    intro M y h1 h2; subst h1 h2; exact ⟨rfl, rfl⟩
  obtain ⟨e1, e2⟩ := e0 _ _ hm e
  rw [e1, e2, q1]
  refine ⟨⟨⟨hr, ?_, p1⟩, trivial⟩, rfl⟩
  simp only [List.length_cons, List.length_nil]; omega

theorem val_take_lt {l : List Int} (h : lim l) (i : Nat) : 0 ≤ val (l.take i) ∧ val (l.take i) < 18446744073709551616 ^ i := by
  have hl : lim (l.take i) := fun x hx => h x (List.mem_of_mem_take hx)
  refine ⟨val_nonneg hl, ?_⟩
  have h1 := val_lt hl
  refine Int.lt_of_lt_of_le h1 ?_
  have h3 : (l.take i).length ≤ i := by rw [List.length_take]; omega
  have h2 := Nat.pow_le_pow_right (n := 18446744073709551616) (by omega) h3
  have h4 := Int.ofNat_le.2 h2
  simpa using h4
end S
