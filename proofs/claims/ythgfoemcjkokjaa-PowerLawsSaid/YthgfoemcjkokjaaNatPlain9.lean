/-
  The reference's sums, differences and comparisons, by their values.
-/
import Derived.Test.YthgfoemcjkokjaaNatPlain8
set_option linter.all false
open Go Vm
namespace S

theorem at_eq (l : List Int) (h : lim8 l) (i : Nat) : S.ref01_at l (i : Int) = l.getD i 0 := by
  simp only [ref01_at, Int.toNat_natCast]
  by_cases hi : i < l.length
  · rw [decide_eq_true (by omega), cond_true]
    have := getD_lim8 h i
    rw [IntWalk.i64_in]; omega
  · rw [decide_eq_false (by omega), cond_false, List.getD_eq_getElem?_getD, List.getElem?_eq_none (by omega)]; rfl
theorem at_pre (l : List Int) (i : Nat) : S.ref01_at_pre l (i : Int) := by
  simp only [ref01_at_pre, All, and_true]
  refine ⟨fun h => ?_, fun _ => trivial⟩
  have := of_decide_eq_true h
  omega
theorem getD_none {l : List Int} {i : Nat} (h : l.length ≤ i) : l.getD i 0 = 0 := by
  rw [List.getD_eq_getElem?_getD, List.getElem?_eq_none h]; rfl
theorem u8_in {x : Int} (h : 0 ≤ x ∧ x ≤ 255) : IntKind.u8.wrap x = x := by rw [IntKind.wrap_u8]; omega

theorem nearer (i : Nat) (c q : Int) (hi : i ≤ 100000) (hc : 0 ≤ c) (hq : 0 ≤ q) (hq1 : q ≤ 1) : (2 * ((100002 : Int) - ((i + 1 : Nat) : Int)) + q).toNat < (2 * ((100002 : Int) - (i : Int)) + c).toNat := by omega

theorem refAdd_runs (a b : List Int) (ha : lim8 a) (hb : lim8 b) (la : a.length ≤ 100000) (lb : b.length ≤ 100000) :
    ∃ y, Runs ref01_Add_L0_step ref01_Add_L0_vcs ⟨a, b, 0, 0, []⟩ y ∧ (y.out.length ≤ 100002 ∧ lim8 y.out ∧ val8 y.out = val8 a + val8 b) := by
  refine Runs.of (fun x => ∃ i : Nat, x.i = (i : Int) ∧ x.a = a ∧ x.b = b ∧ i ≤ 100001 ∧ (x.carry = 1 → i ≤ 100000) ∧ x.out.length = i ∧ lim8 x.out ∧ 0 ≤ x.carry ∧ x.carry ≤ 1 ∧ val8 x.out + 256 ^ i * x.carry = val8 (a.take i) + val8 (b.take i))
    (fun x => (2 * ((100002 : Int) - x.i) + x.carry).toNat) _ ?_ _ ⟨0, rfl, rfl, rfl, by omega, by omega, rfl, lim_nil8, by simp, by simp, by simp [val8]⟩
  rintro ⟨a', b', c, i', l⟩ ⟨i, h1, h3, h4, h5, h5', h6, h7, h8, h9, h10⟩
  dsimp only at *
  subst h1 h3 h4
  have ga := getD_lim8 ha i; have gb := getD_lim8 hb i
  have w0 : IntKind.i64.wrap (a'.getD i 0 + b'.getD i 0) = a'.getD i 0 + b'.getD i 0 := by rw [IntWalk.i64_in] <;> omega
  have w2 : IntKind.i64.wrap (a'.getD i 0 + b'.getD i 0 + c) = a'.getD i 0 + b'.getD i 0 + c := by rw [IntWalk.i64_in] <;> omega
  have hs0 : 0 ≤ a'.getD i 0 + b'.getD i 0 + c := by omega
  have t1 : Int.tmod (a'.getD i 0 + b'.getD i 0 + c) 256 = (a'.getD i 0 + b'.getD i 0 + c) % 256 := Int.tmod_eq_emod_of_nonneg hs0
  have t2 : Int.tdiv (a'.getD i 0 + b'.getD i 0 + c) 256 = (a'.getD i 0 + b'.getD i 0 + c) / 256 := Int.tdiv_eq_ediv_of_nonneg hs0
  have w3 : IntKind.i64.wrap ((a'.getD i 0 + b'.getD i 0 + c) / 256) = (a'.getD i 0 + b'.getD i 0 + c) / 256 := by rw [IntWalk.i64_in] <;> omega
  have w4 : IntKind.u8.wrap ((a'.getD i 0 + b'.getD i 0 + c) % 256) = (a'.getD i 0 + b'.getD i 0 + c) % 256 := u8_in (by omega)
  by_cases hgo : (decide ((i : Int) < (a'.length : Int)) || decide ((i : Int) < (b'.length : Int)) || decide (c > 0)) = true
  · have w1 : IntKind.i64.wrap ((i : Int) + 1) = ((i + 1 : Nat) : Int) := by rw [IntWalk.i64_in] <;> omega
    have hi : i ≤ 100000 := by
      simp only [Bool.or_eq_true, decide_eq_true_eq] at hgo
      rcases hgo with (h | h) | h
      · omega
      · omega
      · exact h5' (by omega)
    have hout : a'.length ≤ i → b'.length ≤ i → (a'.getD i 0 + b'.getD i 0 + c) / 256 = 0 := fun h1 h2 => by
      rw [getD_none h1, getD_none h2]; omega
    refine ⟨?_, ?_⟩
    · simp only [ref01_Add_L0_vcs, All, hgo, true_implies, and_true, Bool.true_eq_false, false_implies, at_pre, true_and, h6, List.length_cons, List.length_nil]
      omega
    · simp only [ref01_Add_L0_step, hgo, cond_true, at_eq _ ha, at_eq _ hb, w0, w1, w2, w3, w4, t1, t2]
      refine ⟨⟨i + 1, rfl, trivial, trivial, by omega, fun h => ?_, by simp [h6], ?_, by omega, by omega, ?_⟩, ?_⟩
      · by_cases h1 : a'.length ≤ i
        · by_cases h2 : b'.length ≤ i
          · rw [hout h1 h2] at h; omega
          · omega
        · omega
      · exact lim_app8.2 ⟨h7, lim_cons8.2 ⟨by omega, lim_nil8⟩⟩
      · rw [val_app8, h6, val_take8, val_take8, Int.pow_succ]
        have hd := Int.mul_ediv_add_emod (a'.getD i 0 + b'.getD i 0 + c) 256
        generalize (a'.getD i 0 + b'.getD i 0 + c) % 256 = d at *
        generalize (a'.getD i 0 + b'.getD i 0 + c) / 256 = q at *
        generalize a'.getD i 0 = p at *
        generalize b'.getD i 0 = r at *
        have e : (256 : Int) ^ i * d + 256 ^ i * 256 * q = 256 ^ i * p + 256 ^ i * r + 256 ^ i * c := by
          rw [Int.mul_assoc, ← Int.mul_add, ← Int.mul_add, ← Int.mul_add, show d + 256 * q = p + r + c by omega]
        simp only [val8, Int.mul_zero, Int.add_zero]
        omega
      · exact nearer i c _ hi h8 (by omega) (by omega)
  · have hgo : (decide ((i : Int) < (a'.length : Int)) || decide ((i : Int) < (b'.length : Int)) || decide (c > 0)) = false := by simpa using hgo
    refine ⟨by simp only [ref01_Add_L0_vcs, hgo, Bool.false_eq_true, false_implies, implies_true, and_true], ?_⟩
    simp only [ref01_Add_L0_step, hgo, cond_false]
    simp only [Bool.or_eq_false_iff, decide_eq_false_iff_not] at hgo
    rw [List.take_of_length_le (by omega), List.take_of_length_le (by omega), show c = 0 by omega, Int.mul_zero, Int.add_zero] at h10
    exact ⟨by omega, h7, h10⟩
end S
