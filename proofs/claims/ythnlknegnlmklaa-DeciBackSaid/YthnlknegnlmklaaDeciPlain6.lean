/-
  Any number's digits; any text read.
-/
import Derived.Test.YthnlknegnlmklaaDeciPlain5
set_option linter.all false
open Go Vm
namespace DP
open S SN SD

theorem lt_of_digs {m k : Nat} (h : (digs m).length ≤ k) : m < 18446744073709551616 ^ k := by
  obtain ⟨v, l⟩ := digs_val m
  have := upto_val (digs m) l
  rw [v, Int.toNat_natCast] at this
  exact Nat.lt_of_lt_of_le this (Nat.pow_le_pow_right (by decide) h)

theorem lt130 {m : Nat} (h : (digs m).length ≤ 6) : m < 10 ^ 130 := Nat.lt_of_lt_of_le (lt_of_digs h) (by decide)

theorem DeciTexts_law (l : List Int) (n : Int) (gl : (∀ x ∈ l, inr .u64 x) ∧ l.length ≤ maxLen) (gn : inr .i64 n) : S.law02_DeciTexts_pre l n ∧ S.law02_DeciTexts l n = true := by
  obtain ⟨w1, w2⟩ := works_both
  by_cases h6 : (l.length : Int) > 6
  · have b1 := decide_eq_true h6
    refine ⟨?_, ?_⟩
    · simp only [S.law02_DeciTexts_pre, b1, All, and_true]
      exact ⟨fun _ => w1, fun h => by cases h⟩
    · simp only [S.law02_DeciTexts, b1, cond_true, w2]
  · have b1 := decide_eq_false h6
    have hl := lim_of gl.1
    obtain ⟨o1, o2⟩ := own_both l (by omega)
    obtain ⟨n1, n2, n3⟩ := nLimbs l hl (by omega)
    obtain ⟨r1, r2⟩ := refOf_eq l hl (by omega)
    obtain ⟨m, hm⟩ : ∃ m, (SN.val l).toNat = m := ⟨_, rfl⟩
    have hlen : (digs m).length ≤ 6 := by rw [← hm]; exact Nat.le_trans (val_len hl) (by omega)
    have h8 := digs8_of hlen
    rw [hm] at n2 n3 r2
    have hm130 := lt130 hlen
    obtain ⟨t1, t2⟩ := Text_ok m hm130
    obtain ⟨u1, u2⟩ := refText m 129 hm130 (by decide) (by omega)
    obtain ⟨x1, x2⟩ := Whole_num n (inr_i64.1 gn)
    obtain ⟨y1, y2⟩ := refWhole n (inr_i64.1 gn)
    have hdg : S.deci_Digits (num m) = ((ba (Lib.decDigits m)).size : Int) := by simp only [S.deci_Digits, t2]
    refine ⟨?_, ?_⟩
    · simp only [S.law02_DeciTexts_pre, b1, o2, n2, r2, t2, u2, All, and_true]
      refine ⟨(fun h => by cases h), fun _ => ⟨o1, n1, r1, u1, t1, fun _ => ?_, fun _ => x1, fun _ => y1, fun _ => w1⟩⟩
      simp only [S.deci_Digits_pre, All, and_true]
      exact t1
    · simp only [S.law02_DeciTexts, b1, o2, n2, r2, t2, u2, hdg, x2, y2, w2, cond_false]
      simp

theorem DeciReads_law (s : ByteArray) (c : Int) (gs : s.size ≤ maxLen) (gc : inr .i64 c) : S.law02_DeciReads_pre s c ∧ S.law02_DeciReads s c = true := by
  obtain ⟨w1, w2⟩ := works_both
  by_cases h60 : (s.size : Int) > 60
  · have b1 := decide_eq_true h60
    refine ⟨?_, ?_⟩
    · simp only [S.law02_DeciReads_pre, b1, All, and_true]
      exact ⟨fun _ => w1, fun h => by cases h⟩
    · simp only [S.law02_DeciReads, b1, cond_true, w2]
  · have b1 := decide_eq_false h60
    obtain ⟨l, rfl⟩ : ∃ l, s = ba l := ⟨_, ba_eta s⟩
    have hl : l.length ≤ 60 := by rw [ba_size] at h60; omega
    obtain ⟨p1, p2⟩ := Parse_num l c (by omega)
    obtain ⟨q1, q2⟩ := refParse_num l c (by omega)
    obtain ⟨x1, x2⟩ := ParseWhole_num l (by omega)
    obtain ⟨y1, y2⟩ := refParseWhole_num l (by omega)
    obtain ⟨m, e, hp, hq, hm⟩ : ∃ (m : Nat) (e : Int), S.deci_Parse (ba l) c = (num m, e) ∧ S.ref02_Parse (ba l) c = (digs8 m, e) ∧ m < 10 ^ 130 := by
      have e8 : digs8 0 = [] := by simp [digs8]
      rw [p2, q2]
      cases hn : numb l with
      | false => exact ⟨0, 20, rfl, by rw [e8]; rfl, by decide⟩
      | true =>
        cases hf : fits c (dval l) with
        | false => exact ⟨0, 10, rfl, by rw [e8]; rfl, by decide⟩
        | true => exact ⟨dval l, 0, rfl, rfl, small_len (numb_digl hn) (by omega)⟩
    have h8 := digs8_small hm
    obtain ⟨S1, S2⟩ := SameNat_num m m (by omega) (by omega) (tiny hm)
    rw [decide_eq_true rfl] at S2
    refine ⟨?_, ?_⟩
    · simp only [S.law02_DeciReads_pre, b1, hp, hq, All, and_true]
      exact ⟨(fun h => by cases h), fun _ => ⟨p1, q1, x1, y1, fun _ => S1, fun _ => w1⟩⟩
    · simp only [S.law02_DeciReads, b1, hp, hq, S2, x2, y2, w2, cond_false]
      simp
end DP
