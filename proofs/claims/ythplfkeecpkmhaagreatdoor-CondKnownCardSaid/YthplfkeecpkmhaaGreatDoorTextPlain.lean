/-
  Numbers' texts: the reference's digits are the library's.
-/
import Derived.Test.YthplfkeecpkmhaaGreatDoorDivPlain
import Derived.Lib.ItoaNum
set_option linter.all false
open Go Vm
namespace SD
open S SN

def ba (l : List UInt8) : ByteArray := ⟨l.toArray⟩
theorem ba_app (a b : List UInt8) : ba a ++ ba b = ba (a ++ b) := by
  apply ByteArray.ext
  simp [ba]
theorem ba_size (l : List UInt8) : (ba l).size = l.length := by simp [ba, ByteArray.size]
theorem ba_one (x : Int) : ([x] : List Int).foldl (fun r n => r.push (UInt8.ofNat (Int.toNat n))) ByteArray.empty = ba [UInt8.ofNat x.toNat] := by
  simp only [List.foldl_cons, List.foldl_nil]
  rfl

theorem dec_small {m : Nat} (h : m < 10) : Lib.decDigits m = [UInt8.ofNat (48 + m)] := by rw [Lib.decDigits, dif_pos h]
theorem dec_big {m : Nat} (h : ¬ m < 10) : Lib.decDigits m = Lib.decDigits (m / 10) ++ [UInt8.ofNat (48 + m % 10)] := by rw [Lib.decDigits, dif_neg h]
theorem dec_len : ∀ (k m : Nat), m < 10 ^ (k + 1) → (Lib.decDigits m).length ≤ k + 1
  | 0, m, h => by rw [dec_small (by simpa using h)]; simp
  | k + 1, m, h => by
    by_cases h1 : m < 10
    · rw [dec_small h1]; simp
    · rw [dec_big h1, List.length_append]
      have := dec_len k (m / 10) (by rw [Nat.pow_succ] at h; omega)
      simp; omega

theorem digs8_nil {m : Nat} : ((digs8 m).length : Int) == 0 ↔ m = 0 := by
  rw [beq_iff_eq]
  constructor
  · intro h
    have h1 : digs8 m = [] := List.length_eq_zero_iff.1 (by omega)
    have := (digs_val8 m).1
    rw [h1] at this; simp [val8] at this; omega
  · rintro rfl; simp [digs8]
theorem digs8_len_le {a b : Nat} (h : a ≤ b) : (digs8 a).length ≤ (digs8 b).length := by
  refine digs_len8 a _ ?_
  have := val_lt8' b
  omega
where
  val_lt8' (b : Nat) : b < 256 ^ (digs8 b).length := by
    induction b using Nat.strongRecOn with
    | ind b ih =>
      rcases Nat.eq_zero_or_pos b with rfl | hb
      · simp [digs8]
      · rw [digs_pos8 hb, List.length_cons, Nat.pow_succ]
        have := ih (b / 256) (by omega)
        omega

theorem tens (x : Nat) (hx : x < 10) : (IntKind.u8.wrap (IntKind.u64.wrap (48 + (x : Int)))).toNat = 48 + x := by
  rw [IntKind.wrap_u64, IntKind.wrap_u8]; omega

theorem Text_F (n : Nat) : ∀ m : Nat, (digs8 m).length ≤ 500000 → S.ref02_Text_D n (digs8 m) → S.ref02_Text_F n (digs8 m) = ba (Lib.decDigits m) := by
  induction n with
  | zero => intro m _ h; exact h.elim
  | succ n ih =>
    intro m hl h
    obtain ⟨d1, d2⟩ := refDiv m 10 (by decide) (by decide) hl
    have d2' : S.ref02_Div (digs8 m) 10 = (digs8 (m / 10), ((m % 10 : Nat) : Int), 0) := d2
    have hm : m % 10 < 10 := Nat.mod_lt _ (by decide)
    simp only [ref02_Text_D, d2', All, and_true] at h
    simp only [ref02_Text_F, d2', ba_one, tens _ hm]
    by_cases h0 : m = 0
    · subst h0
      have e : (((digs8 0).length : Int) == 0) = true := digs8_nil.2 rfl
      rw [e, cond_true, dec_small (by decide)]; rfl
    · have e : (((digs8 m).length : Int) == 0) = false := by
        cases hb : (((digs8 m).length : Int) == 0) with
        | false => rfl
        | true => exact absurd (digs8_nil.1 hb) h0
      rw [e, cond_false]
      by_cases h1 : m / 10 = 0
      · have e1 : (((digs8 (m / 10)).length : Int) == 0) = true := digs8_nil.2 h1
        have : m < 10 := by omega
        rw [e1, cond_true, dec_small this, Nat.mod_eq_of_lt this]
      · have e1 : (((digs8 (m / 10)).length : Int) == 0) = false := by
          cases hb : (((digs8 (m / 10)).length : Int) == 0) with
          | false => rfl
          | true => exact absurd (digs8_nil.1 hb) h1
        rw [e1, cond_false, dec_big (by omega)]
        have hl2 := digs8_len_le (Nat.div_le_self m 10)
        rw [ih (m / 10) (by omega) ((h.2 e).2.2 e1).1, ba_app]

theorem Text_D : ∀ (k m : Nat), m < 10 ^ (k + 1) → k ≤ 1000000 → (digs8 m).length ≤ 500000 → S.ref02_Text_D (k + 1) (digs8 m)
  | k, m, h, hk, hl => by
    obtain ⟨d1, d2⟩ := refDiv m 10 (by decide) (by decide) hl
    have d2' : S.ref02_Div (digs8 m) 10 = (digs8 (m / 10), ((m % 10 : Nat) : Int), 0) := d2
    have hm : m % 10 < 10 := Nat.mod_lt _ (by decide)
    simp only [ref02_Text_D, d2', All, and_true, ba_one, tens _ hm]
    refine ⟨fun _ => trivial, fun _ => ⟨d1, fun _ => trivial, fun e1 => ?_⟩⟩
    have h1 : m / 10 ≠ 0 := fun h => by rw [digs8_nil.2 h] at e1; cases e1
    have hl2 := digs8_len_le (Nat.div_le_self m 10)
    cases k with
    | zero => simp at h; omega
    | succ k =>
      have hlt : m / 10 < 10 ^ (k + 1) := by rw [Nat.pow_succ] at h; omega
      have hD := Text_D k (m / 10) hlt (by omega) (by omega)
      refine ⟨hD, ?_⟩
      rw [Text_F (k + 1) (m / 10) (by omega) hD, ba_size, ba_size]
      have := dec_len k (m / 10) hlt
      have e : IntKind.i64.max = 9223372036854775807 := by decide
      rw [e]; simp; omega

theorem refText (m : Nat) (k : Nat) (h : m < 10 ^ (k + 1)) (hk : k ≤ 1000000) (hl : (digs8 m).length ≤ 500000) : S.ref02_Text_pre (digs8 m) ∧ S.ref02_Text (digs8 m) = ba (Lib.decDigits m) := by
  have hp : S.ref02_Text_pre (digs8 m) := ⟨_, Text_D k m h hk hl⟩
  exact ⟨hp, Text_F _ m hl (Classical.epsilon_spec hp)⟩

theorem ofOne (x : Nat) (hx : x < 18446744073709551616) : S.ref01_Of_pre [(x : Int)] ∧ S.ref01_Of [(x : Int)] = digs8 x := by
  obtain ⟨p, e⟩ := refOf_eq [(x : Int)] (lim_cons.2 ⟨by omega, lim_nil⟩) (by simp)
  refine ⟨p, ?_⟩
  rw [e]; simp [SN.val]

theorem itoa_len (n : Int) (h : -9223372036854775808 ≤ n ∧ n ≤ 9223372036854775807) : (Lib.itoa n).length ≤ 21 := by
  unfold Lib.itoa
  split
  · have := dec_len 19 n.natAbs (by omega)
    simp; omega
  · have := dec_len 19 n.toNat (by omega)
    omega

theorem refWhole (n : Int) (h : -9223372036854775808 ≤ n ∧ n ≤ 9223372036854775807) : S.ref02_Whole_pre n ∧ S.ref02_Whole n = ba (Lib.itoa n) := by
  by_cases hn : n < 0
  · have hw : IntKind.u64.wrap (IntKind.i64.wrap (0 - n)) = (n.natAbs : Int) := by rw [IntKind.wrap_i64, IntKind.wrap_u64]; omega
    obtain ⟨o1, o2⟩ := ofOne n.natAbs (by omega)
    obtain ⟨t1, t2⟩ := refText n.natAbs 19 (by omega) (by omega) (Nat.le_trans (digs_len8 _ 8 (by omega)) (by decide))
    have e : (⟨#[45]⟩ : ByteArray) = ba [45] := rfl
    refine ⟨?_, ?_⟩
    · simp only [ref02_Whole_pre, decide_eq_true hn, hw, o2, t2, e, ba_size, All, and_true]
      refine ⟨fun _ => ⟨o1, t1, ?_⟩, fun h => by cases h⟩
      have := dec_len 19 n.natAbs (by omega)
      have e : IntKind.i64.max = 9223372036854775807 := by decide
      rw [e]; simp; omega
    · simp only [ref02_Whole, decide_eq_true hn, hw, o2, t2, e, cond_true, ba_app]
      unfold Lib.itoa
      rw [if_pos hn]; rfl
  · have hw : IntKind.u64.wrap n = (n.toNat : Int) := by rw [IntKind.wrap_u64]; omega
    obtain ⟨o1, o2⟩ := ofOne n.toNat (by omega)
    obtain ⟨t1, t2⟩ := refText n.toNat 19 (by omega) (by omega) (Nat.le_trans (digs_len8 _ 8 (by omega)) (by decide))
    refine ⟨?_, ?_⟩
    · simp only [ref02_Whole_pre, decide_eq_false hn, hw, o2, All, and_true]
      exact ⟨(fun h => by cases h), fun _ => ⟨o1, t1⟩⟩
    · simp only [ref02_Whole, decide_eq_false hn, hw, o2, t2, cond_false]
      unfold Lib.itoa
      rw [if_neg hn]
end SD
