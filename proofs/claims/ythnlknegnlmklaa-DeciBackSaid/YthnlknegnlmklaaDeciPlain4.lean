/-
  Whole numbers, read: by the layer, and by the reference.
-/
import Derived.Test.YthnlknegnlmklaaDeciPlain3
set_option linter.all false
open Go Vm
namespace DP
open S SN SD

def neg (l : List UInt8) : Bool := l.head? == some 45
def rest (l : List UInt8) : List UInt8 := if neg l then l.tail else l

theorem cut_num (l : List UInt8) : S.strings_CutPrefix_pre (ba l) (⟨#[45]⟩ : ByteArray) ∧ S.strings_CutPrefix (ba l) (⟨#[45]⟩ : ByteArray) = (ba (rest l), neg l) := by
  have e45 : (⟨#[45]⟩ : ByteArray) = ba [45] := rfl
  have e1 : ((ba [45]).size : Int) = 1 := rfl
  have hp : S.internal_stringslite_HasPrefix (ba l) (ba [45]) = neg l := by
    unfold S.internal_stringslite_HasPrefix neg
    have e1' : ((([45] : List UInt8).length : Nat) : Int) = 1 := rfl
    simp only [e1, ba_size, e1', ba_extract, ba_toList]
    cases l with
    | nil => simp
    | cons a l =>
      have h : ((a :: l).take (Int.toNat 1)).drop (Int.toNat 0) = [a] := by simp
      rw [h]
      have h2 : decide ((((a :: l).length : Nat) : Int) ≥ 1) = true := by simp; omega
      simp only [h2, Bool.true_and]
      show ([a] == [45]) = (some a == some 45)
      rw [Bool.eq_iff_iff]; simp
  have hsz : neg l = true → 1 ≤ l.length := by
    unfold neg; cases l <;> simp
  rw [e45]
  refine ⟨?_, ?_⟩
  · simp only [S.strings_CutPrefix_pre, S.internal_stringslite_CutPrefix_pre, S.internal_stringslite_HasPrefix_pre, hp, e1, ba_size, List.length_singleton, All, and_true]
    refine ⟨fun h => ?_, fun _ => trivial, fun h => ?_⟩
    · have h := of_decide_eq_true h
      omega
    · have := hsz (by simpa using h)
      omega
  · simp only [S.strings_CutPrefix, S.internal_stringslite_CutPrefix, hp, e1, ba_size, ba_extract]
    unfold rest
    cases hn : neg l with
    | false => simp
    | true =>
      have : (l.take (Int.toNat (l.length : Int))).drop (Int.toNat 1) = l.tail := by simp
      simp [this]

/-- The number of a text of digits, if it is at most one limb; else 0. -/
def one (c : Int) (l : List UInt8) : Int := if numb l && fits c (dval l) then (dval l : Int) else 0

theorem fits1 (m : Nat) : fits 1 m = decide (m < 18446744073709551616) := by
  unfold fits
  rw [show (if (1 : Int) > 0 then (1 : Int) else 0) = 1 from rfl, Bool.eq_iff_iff, decide_eq_true_iff, decide_eq_true_iff]
  constructor
  · intro h
    rcases Nat.lt_or_ge m 18446744073709551616 with h' | h'
    · exact h'
    · exfalso
      rw [digs_pos (by omega), digs_pos (by omega : 0 < m / 18446744073709551616)] at h
      simp at h
      omega
  · intro h
    have := digs_len m 1 (by rw [Nat.pow_one]; exact h)
    omega

theorem Small_one {m : Nat} (h : m < 18446744073709551616) : (S.nat_Nat_Small (num m)).1 = (m : Int) := by
  rw [(Small_ok m).2.2]
  by_cases h0 : m = 0
  · subst h0; simp [digs]
  · rw [digs_lt (by omega) h]; rfl

/-- What whole number a text's digits make. -/
def whole (l : List UInt8) : Int := IntKind.i64.wrap (if neg l then -(dval (rest l) : Int) else (dval (rest l) : Int))
def good (l : List UInt8) : Bool := numb (rest l) && decide (dval (rest l) < 18446744073709551616) && decide (Lib.itoa (whole l) = l)

theorem rest_len (l : List UInt8) : (rest l).length ≤ l.length := by
  unfold rest; split <;> simp

theorem whole_range (l : List UInt8) : -9223372036854775808 ≤ whole l ∧ whole l ≤ 9223372036854775807 := by
  unfold whole
  rw [IntKind.wrap_i64]; omega

theorem ParseWhole_num (l : List UInt8) (hl : l.length ≤ 130) : S.deci_ParseWhole_pre (ba l) ∧ S.deci_ParseWhole (ba l) = if good l then (whole l, 0) else (0, 20) := by
  obtain ⟨c1, c2⟩ := cut_num l
  obtain ⟨p1, p2⟩ := Parse_num (rest l) 1 (Nat.le_trans (rest_len l) hl)
  rw [fits1] at p2
  obtain ⟨w1, w2⟩ := Whole_num (whole l) (whole_range l)
  have z0 : (S.nat_Nat_Small (num 0)).1 = 0 := Small_one (m := 0) (by decide)
  by_cases hg : numb (rest l) = true ∧ dval (rest l) < 18446744073709551616
  · obtain ⟨g1, g2⟩ := hg
    have p2' : S.deci_Parse (ba (rest l)) 1 = (num (dval (rest l)), 0) := by rw [p2, g1, decide_eq_true g2]; rfl
    have hs := Small_one g2
    have ew : IntKind.i64.wrap (bif neg l then IntKind.u64.wrap (0 - (dval (rest l) : Int)) else (dval (rest l) : Int)) = whole l := by
      unfold whole
      cases neg l with
      | false => rfl
      | true => show IntKind.i64.wrap (IntKind.u64.wrap (0 - _)) = IntKind.i64.wrap (-_); rw [IntKind.wrap_i64, IntKind.wrap_i64, IntKind.wrap_u64]; omega
    have eg : good l = (Lib.itoa (whole l) == l) := by
      unfold good
      rw [g1, decide_eq_true g2, Bool.eq_iff_iff]; simp
    refine ⟨?_, ?_⟩
    · simp only [S.deci_ParseWhole_pre, c2, p2', hs, ew, w2, All, and_true]
      exact ⟨⟨c1, p1, (Small_ok _).1, fun _ => w1⟩, fun _ => trivial, fun _ => trivial⟩
    · simp only [S.deci_ParseWhole, c2, p2', hs, ew, w2, ba_toList, eg]
      cases (Lib.itoa (whole l) == l) <;> rfl
  · have eg : good l = false := by
      unfold good
      cases h : numb (rest l) with
      | false => rfl
      | true => rw [decide_eq_false (fun h2 => hg ⟨h, h2⟩)]; rfl
    obtain ⟨e, hp, he⟩ : ∃ e, S.deci_Parse (ba (rest l)) 1 = (num 0, e) ∧ (e != 0) = true := by
      rw [p2]
      cases h : numb (rest l) with
      | false => exact ⟨20, rfl, rfl⟩
      | true => rw [decide_eq_false (fun h2 => hg ⟨h, h2⟩)]; exact ⟨10, rfl, rfl⟩
    refine ⟨?_, ?_⟩
    · simp only [S.deci_ParseWhole_pre, c2, hp, he, All, and_true]
      exact ⟨⟨c1, p1, (Small_ok _).1, fun h => by cases h⟩, fun _ => trivial, fun _ => trivial⟩
    · simp only [S.deci_ParseWhole, c2, hp, he, Bool.true_or, eg]
      rfl

theorem refParseWhole_num (l : List UInt8) (hl : l.length ≤ 130) : S.ref02_ParseWhole_pre (ba l) ∧ S.ref02_ParseWhole (ba l) = if good l then (whole l, 0) else (0, 20) := by
  have hb : (!((ba l).toList == (⟨#[]⟩ : ByteArray).toList) && (((ba l).data.toList.getD (Int.toNat 0) 0).toNat : Int) == 45) = neg l := by
    have e0 : (⟨#[]⟩ : ByteArray) = ba [] := rfl
    rw [e0, ba_toList, ba_toList, ba_data]
    unfold neg
    cases l with
    | nil => rfl
    | cons a l =>
      rw [Bool.eq_iff_iff]
      simp only [Bool.and_eq_true, Bool.not_eq_true', beq_eq_false_iff_ne, beq_iff_eq]
      show ((a :: l ≠ []) ∧ ((a.toNat : Int) = 45)) ↔ some a = some 45
      constructor
      · rintro ⟨_, h⟩
        rw [UInt8.toNat_inj.1 (show a.toNat = (45 : UInt8).toNat by simp; omega)]
      · intro h
        cases h
        exact ⟨by simp, rfl⟩
  have hx : (bif neg l then (ba l).extract (Int.toNat 1) (Int.toNat (l.length : Int)) else ba l) = ba (rest l) := by
    rw [ba_extract]
    unfold rest
    cases hn : neg l with
    | false => simp
    | true => simp
  have hne : (!((ba l).toList == (⟨#[]⟩ : ByteArray).toList)) = true → 1 ≤ l.length := by
    have e0 : (⟨#[]⟩ : ByteArray) = ba [] := rfl
    rw [e0, ba_toList, ba_toList]
    cases l <;> simp
  have hn1 : neg l = true → 1 ≤ l.length := by unfold neg; cases l <;> simp
  obtain ⟨n1, n2⟩ := Number_num (rest l) (Nat.le_trans (rest_len l) hl)
  obtain ⟨w1, w2⟩ := refWhole (whole l) (whole_range l)
  have esz : ((ba l).size : Int) = (l.length : Int) := by rw [ba_size]
  by_cases hd : digl (rest l)
  · rw [if_pos hd] at n2
    have ht := small_len hd (Nat.le_trans (rest_len l) hl)
    obtain ⟨L1, L2⟩ := refLimbs_eq (dval (rest l)) (tiny ht)
    have h1 : decide (((digs (dval (rest l))).length : Int) > 1) = !decide (dval (rest l) < 18446744073709551616) := by
      rw [← fits1]
      unfold fits
      rw [show (if (1 : Int) > 0 then (1 : Int) else 0) = 1 from rfl, Bool.eq_iff_iff]
      simp
    by_cases hg : numb (rest l) = true ∧ dval (rest l) < 18446744073709551616
    · obtain ⟨g1, g2⟩ := hg
      have eg : good l = (Lib.itoa (whole l) == l) := by
        unfold good
        rw [g1, decide_eq_true g2, Bool.eq_iff_iff]; simp
      have em : (bif (((digs (dval (rest l))).length : Int) == 1) then (digs (dval (rest l))).getD (Int.toNat 0) 0 else 0) = (dval (rest l) : Int) := by
        rw [← (Small_ok _).2.2]; exact Small_one g2
      have ew : (bif neg l then IntKind.i64.wrap (0 - IntKind.i64.wrap (dval (rest l) : Int)) else IntKind.i64.wrap (dval (rest l) : Int)) = whole l := by
        unfold whole
        cases neg l with
        | false => rfl
        | true => show IntKind.i64.wrap (0 - IntKind.i64.wrap _) = IntKind.i64.wrap (-_); rw [IntKind.wrap_i64, IntKind.wrap_i64, IntKind.wrap_i64]; omega
      refine ⟨?_, ?_⟩
      · simp only [S.ref02_ParseWhole_pre, esz, hb, hx, n2, L2, h1, decide_eq_true g2, g1, em, ew, w2, esz, All, and_true, Bool.not_true, Bool.or_self]
        refine ⟨⟨fun h => ?_, fun h => ?_, n1, L1⟩, (fun h => by cases h), fun _ => ⟨⟨fun h => ?_, w1⟩, fun _ => trivial, fun _ => trivial⟩⟩
        · have := hne h; omega
        · have := hn1 h; omega
        · rw [beq_iff_eq] at h; omega
      · simp only [S.ref02_ParseWhole, esz, hb, hx, n2, L2, h1, decide_eq_true g2, g1, em, ew, w2, Bool.not_true, Bool.or_self, cond_false]
        simp only [ba_toList, eg]
        cases (Lib.itoa (whole l) == l) <;> rfl
    · have eg : good l = false := by
        unfold good
        cases h : numb (rest l) with
        | false => rfl
        | true => rw [decide_eq_false (fun h2 => hg ⟨h, h2⟩)]; rfl
      have ep : ((!numb (rest l)) || !decide (dval (rest l) < 18446744073709551616)) = true := by
        cases h : numb (rest l) with
        | false => rfl
        | true => rw [decide_eq_false (fun h2 => hg ⟨h, h2⟩)]; rfl
      refine ⟨?_, ?_⟩
      · simp only [S.ref02_ParseWhole_pre, esz, hb, hx, n2, L2, h1, ep, esz, All, and_true]
        refine ⟨⟨fun h => ?_, fun h => ?_, n1, L1⟩, fun _ => trivial, fun h => by cases h⟩
        · have := hne h; omega
        · have := hn1 h; omega
      · simp only [S.ref02_ParseWhole, esz, hb, hx, n2, L2, h1, ep, cond_true, eg]
        rfl
  · rw [if_neg hd] at n2
    have eg : good l = false := by unfold good; rw [numb_not hd]; rfl
    obtain ⟨L1, L2⟩ := refLimbs_eq 0 (tiny (by decide))
    have e8 : digs8 0 = [] := by simp [digs8]
    rw [e8] at L1 L2
    refine ⟨?_, ?_⟩
    · simp only [S.ref02_ParseWhole_pre, esz, hb, hx, n2, Bool.not_false, Bool.true_or, esz, All, and_true]
      refine ⟨⟨fun h => ?_, fun h => ?_, n1, L1⟩, fun _ => trivial, fun h => by cases h⟩
      · have := hne h; omega
      · have := hn1 h; omega
    · simp only [S.ref02_ParseWhole, esz, hb, hx, n2, Bool.not_false, Bool.true_or, cond_true, eg]
      rfl
end DP
