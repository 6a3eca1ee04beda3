/-
  The reference's products.
-/
import Derived.Test.YthgfoemcjkokjaaNatPlain12
set_option linter.all false
open Go Vm
namespace S

theorem getD_set_eq (l : List Int) (k : Nat) (v : Int) (h : k < l.length) : (l.set k v).getD k 0 = v := by
  rw [List.getD_eq_getElem?_getD, List.getElem?_set_self h]; rfl

theorem refMulL2_runs (a b : List Int) (ha : lim8 a) (hb : lim8 b) (i : Nat) (hi : i < a.length) (s0 : List Int) (hlen : s0.length = a.length + b.length + 1) (hbig : s0.length ≤ 1000000)
    (h0 : ∀ j, 0 ≤ s0.getD j 0 ∧ s0.getD j 0 ≤ 255) (hz : ∀ j, i + b.length ≤ j → s0.getD j 0 = 0) :
    ∃ y, Runs ref01_Mul_L2_step ref01_Mul_L2_vcs ⟨a, b, (i : Int), 0, s0⟩ y ∧ (y.a = a ∧ y.b = b ∧ y.i = (i : Int) ∧ y.sums.length = s0.length ∧ (∀ j, 0 ≤ y.sums.getD j 0 ∧ y.sums.getD j 0 ≤ 255) ∧
      (∀ j, i + b.length + 1 ≤ j → y.sums.getD j 0 = 0) ∧ val8 y.sums = val8 s0 + 256 ^ i * (a.getD i 0 * val8 b)) := by
  refine Runs.of (fun s => ∃ k : Nat, s.a = a ∧ s.b = b ∧ s.i = (i : Int) ∧ s.k = (k : Int) ∧ k ≤ b.length ∧ s.sums.length = s0.length ∧ (∀ j, 0 ≤ s.sums.getD j 0 ∧ s.sums.getD j 0 ≤ 510 ∧ (j ≠ i + k ∨ k = b.length → s.sums.getD j 0 ≤ 255)) ∧
      (∀ j, i + b.length ≤ j → (k < b.length ∨ i + b.length < j) → s.sums.getD j 0 = 0) ∧ val8 s.sums = val8 s0 + 256 ^ i * (a.getD i 0 * val8 (b.take k)))
    (fun s => ((b.length : Int) - s.k).toNat) _ ?_ _ ⟨0, rfl, rfl, rfl, rfl, by omega, rfl, fun j => by have := h0 j; dsimp only; omega, fun j h _ => hz j h, by simp [val8]⟩
  rintro ⟨a', b', i', k', l⟩ ⟨k, h1, h2, h3, h4, h5, h6, h7, h8, h9⟩
  dsimp only at *
  subst h1 h2 h3 h4
  by_cases hk : k < b'.length
  · have hk' : (k : Int) < (b'.length : Int) := by omega
    have ga := getD_lim8 ha i; have gb := getD_lim8 hb k
    have c1 := h7 (i + k)
    have c2 := (h7 (i + k + 1)).2.2 (.inl (by omega))
    have c2' := (h7 (i + k + 1)).1
    have hab : 0 ≤ a'.getD i 0 * b'.getD k 0 ∧ a'.getD i 0 * b'.getD k 0 ≤ 255 * 255 := ⟨Int.mul_nonneg ga.1 gb.1, Int.mul_le_mul ga.2 gb.2 gb.1 (by omega)⟩
    have w1 : IntKind.i64.wrap ((k : Int) + 1) = ((k + 1 : Nat) : Int) := by rw [IntWalk.i64_in] <;> omega
    have w2 : IntKind.i64.wrap ((i : Int) + (k : Int)) = ((i + k : Nat) : Int) := by rw [IntWalk.i64_in] <;> omega
    have w3 : IntKind.i64.wrap (((i + k : Nat) : Int) + 1) = ((i + k + 1 : Nat) : Int) := by rw [IntWalk.i64_in] <;> omega
    have w4 : IntKind.i64.wrap (a'.getD i 0) = a'.getD i 0 := by rw [IntWalk.i64_in] <;> omega
    have w5 : IntKind.i64.wrap (b'.getD k 0) = b'.getD k 0 := by rw [IntWalk.i64_in] <;> omega
    have w6 : IntKind.i64.wrap (a'.getD i 0 * b'.getD k 0) = a'.getD i 0 * b'.getD k 0 := by rw [IntWalk.i64_in] <;> omega
    have w7 : IntKind.i64.wrap (l.getD (i + k) 0 + a'.getD i 0 * b'.getD k 0) = l.getD (i + k) 0 + a'.getD i 0 * b'.getD k 0 := by rw [IntWalk.i64_in] <;> omega
    have hp : 0 ≤ l.getD (i + k) 0 + a'.getD i 0 * b'.getD k 0 := by omega
    have t1 : Int.tmod (l.getD (i + k) 0 + a'.getD i 0 * b'.getD k 0) 256 = (l.getD (i + k) 0 + a'.getD i 0 * b'.getD k 0) % 256 := Int.tmod_eq_emod_of_nonneg hp
    have t2 : Int.tdiv (l.getD (i + k) 0 + a'.getD i 0 * b'.getD k 0) 256 = (l.getD (i + k) 0 + a'.getD i 0 * b'.getD k 0) / 256 := Int.tdiv_eq_ediv_of_nonneg hp
    have w8 : IntKind.i64.wrap ((l.getD (i + k) 0 + a'.getD i 0 * b'.getD k 0) / 256) = (l.getD (i + k) 0 + a'.getD i 0 * b'.getD k 0) / 256 := by rw [IntWalk.i64_in] <;> omega
    have w9 : IntKind.i64.wrap (l.getD (i + k + 1) 0 + (l.getD (i + k) 0 + a'.getD i 0 * b'.getD k 0) / 256) = l.getD (i + k + 1) 0 + (l.getD (i + k) 0 + a'.getD i 0 * b'.getD k 0) / 256 := by rw [IntWalk.i64_in] <;> omega
    have e17 : ∀ v, (l.set (i + k) v).getD (i + k + 1) 0 = l.getD (i + k + 1) 0 := fun v => getD_set_ne8 _ _ _ _ (by omega)
    refine ⟨?_, ?_⟩
    · simp only [ref01_Mul_L2_vcs, All, hk', decide_true, true_implies, and_true, Bool.true_eq_false, false_implies, w2, w3, w4, w5, w6, w7, t1, t2, w8, Int.toNat_natCast, h6, List.length_set, true_and]
      omega
    · simp only [ref01_Mul_L2_step, hk', decide_true, cond_true, w1, w2, w3, w4, w5, w6, w7, t1, t2, w8, w9, Int.toNat_natCast, e17]
      have hd := Int.mul_ediv_add_emod (l.getD (i + k) 0 + a'.getD i 0 * b'.getD k 0) 256
      generalize hq : (l.getD (i + k) 0 + a'.getD i 0 * b'.getD k 0) / 256 = q at *
      generalize hr : (l.getD (i + k) 0 + a'.getD i 0 * b'.getD k 0) % 256 = r at *
      have q1 : 0 ≤ q ∧ q ≤ 255 := by omega
      have r1 : 0 ≤ r ∧ r ≤ 255 := by omega
      have hl1 : i + k < l.length := by omega
      have hl2 : i + k + 1 < (l.set (i + k) r).length := by rw [List.length_set]; omega
      have cell : ∀ j, ((l.set (i + k) r).set (i + k + 1) (l.getD (i + k + 1) 0 + q)).getD j 0 = if j = i + k + 1 then l.getD (i + k + 1) 0 + q else if j = i + k then r else l.getD j 0 := by
        intro j
        by_cases e1 : j = i + k + 1
        · rw [if_pos e1, e1, getD_set_eq _ _ _ hl2]
        · rw [if_neg e1, getD_set_ne8 _ _ _ _ (Ne.symm e1)]
          by_cases e2 : j = i + k
          · rw [if_pos e2, e2, getD_set_eq _ _ _ hl1]
          · rw [if_neg e2, getD_set_ne8 _ _ _ _ (Ne.symm e2)]
      refine ⟨⟨k + 1, trivial, trivial, trivial, rfl, by omega, by rw [List.length_set, List.length_set]; exact h6, fun j => ?_, fun j hj1 hj2 => ?_, ?_⟩, by omega⟩
      · rw [cell j]
        have hj := h7 j
        by_cases e1 : j = i + k + 1
        · rw [if_pos e1]
          refine ⟨by omega, by omega, fun h => ?_⟩
          rcases h with h | h
          · omega
          · have := h8 (i + k + 1) (by omega) (.inl hk)
            omega
        · rw [if_neg e1]
          by_cases e2 : j = i + k
          · rw [if_pos e2]; exact ⟨by omega, by omega, fun _ => r1.2⟩
          · rw [if_neg e2]; exact ⟨hj.1, hj.2.1, fun _ => hj.2.2 (.inl e2)⟩
      · rw [cell j, if_neg (by omega), if_neg (by omega)]
        exact h8 j hj1 (.inl hk)
      · rw [val_set8 _ _ _ hl2, val_set8 _ _ _ hl1, e17, h9, val_take8]
        have e1 : (256 : Int) ^ (i + k) * (r - l.getD (i + k) 0) + 256 ^ (i + k + 1) * (l.getD (i + k + 1) 0 + q - l.getD (i + k + 1) 0) = 256 ^ (i + k) * (a'.getD i 0 * b'.getD k 0) := by
          rw [Int.pow_succ, Int.mul_assoc, ← Int.mul_add]; congr 1; omega
        have e2 : (256 : Int) ^ i * (a'.getD i 0 * (val8 (b'.take k) + 256 ^ k * b'.getD k 0)) = 256 ^ i * (a'.getD i 0 * val8 (b'.take k)) + 256 ^ (i + k) * (a'.getD i 0 * b'.getD k 0) := by
          rw [Int.mul_add, Int.mul_add, Int.pow_add, ← Int.mul_assoc (a'.getD i 0) (256 ^ k), Int.mul_comm (a'.getD i 0) (256 ^ k), Int.mul_assoc (256 ^ k), ← Int.mul_assoc (256 ^ i) (256 ^ k)]
        rw [e2, ← e1]; omega
  · have hk' : ¬ (k : Int) < (b'.length : Int) := by omega
    have e : k = b'.length := by omega
    subst e
    refine ⟨by simp [ref01_Mul_L2_vcs, hk'], ?_⟩
    simp only [ref01_Mul_L2_step, hk', decide_false, cond_false]
    rw [List.take_of_length_le (Nat.le_refl _)] at h9
    exact ⟨trivial, trivial, trivial, h6, fun j => ⟨(h7 j).1, (h7 j).2.2 (.inr rfl)⟩, fun j hj => h8 j (by omega) (.inr (by omega)), h9⟩
end S
