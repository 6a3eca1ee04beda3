/-
  The chapter's examples; any operator is the reference's.
-/
import Derived.Test.YtpnegnhbbcligaaWordPlain4
set_option linter.all false
open Go Vm
namespace S

theorem inr_i64 {x : Int} : inr .i64 x ↔ -9223372036854775808 ≤ x ∧ x ≤ 9223372036854775807 := by simp [inr, IntKind.min, IntKind.max, IntKind.signed, IntKind.bits]
theorem works09 : S.law09_works_pre ∧ S.law09_works = true := by
  have mk : ∀ op a b want, S.word_Do op a b = (want, true) → S.law09_makes_pre op a b want ∧ S.law09_makes op a b want = true := fun op a b want h =>
    ⟨by simp only [law09_makes_pre, All, Do_pre, and_self], by simp only [law09_makes, h, beq_self_eq_true, Bool.and_self]⟩
  obtain ⟨a1, b1⟩ := mk 13 9223372036854775807 1 (-9223372036854775808) (by rw [D13]; decide)
  obtain ⟨a2, b2⟩ := mk 16 (-7) 2 (-3) (by rw [D16 _ _ (by decide)]; decide)
  obtain ⟨a3, b3⟩ := mk 17 (-7) 2 (-1) (by rw [D17 _ _ (by decide)]; decide)
  obtain ⟨a4, b4⟩ := mk 16 (-9223372036854775808) (-1) (-9223372036854775808) (by rw [D16 _ _ (by decide)]; decide)
  obtain ⟨a5, b5⟩ := mk 17 (-9223372036854775808) (-1) 0 (by rw [D17 _ _ (by decide)]; decide)
  obtain ⟨a6, b6⟩ := mk 12 (-1) 70 (-1) (by rw [D12]; decide)
  obtain ⟨a7, b7⟩ := mk 11 3 (-1) (-9223372036854775808) (by rw [D11]; decide)
  refine ⟨?_, ?_⟩
  · simp only [law09_works_pre, All, Do_pre, a1, a2, a3, a4, a5, a6, a7, implies_true, and_self]
  · simp only [law09_works, b1, b2, b3, b4, b5, b6, b7, D16z]; rfl

theorem WordDoes_all (op a b : Int) (ha : I64 a) (hb : I64 b) : S.law09_WordDoes_pre op a b ∧ S.law09_WordDoes op a b = true := by
  obtain ⟨wp, wv⟩ := works09
  obtain ⟨d1, d2⟩ := Do_ref op a b ha hb
  obtain ⟨d3, d4⟩ := Do_ref 4 a b ha hb
  obtain ⟨o1, o2⟩ := One_ref op a ha
  obtain ⟨s1, s2⟩ := Shift_ref b
  obtain ⟨_, _, c4, _⟩ := Dc a b
  have hl : S.law09_less a b = bif decide (a < b) then 1 else 0 := by simp only [law09_less, d4, c4]
  have hlp : S.law09_less_pre a b := by simp only [law09_less_pre, All, d3, and_self]
  have hw : IntKind.i64.wrap (b % 64) = b % 64 := IntWalk.i64_in _ (by omega)
  refine ⟨?_, ?_⟩
  · simp only [law09_WordDoes_pre, All, Do_pre, d1, o1, hlp, s1, wp, implies_true, and_self]
  · simp only [law09_WordDoes, d2, o2, hl, Shift_word, s2, hw, wv, word_Truth, word_Bit, word_Traps, beq_self_eq_true, Bool.and_self]
theorem WordDoes_law (op a b : Int) (_ : inr .i64 op) (ha : inr .i64 a) (hb : inr .i64 b) : S.law09_WordDoes_pre op a b ∧ S.law09_WordDoes op a b = true :=
  WordDoes_all op a b (inr_i64.1 ha) (inr_i64.1 hb)
end S
