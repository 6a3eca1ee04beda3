/-
  Numbers, divided by small ones, and in decimal digits: what the layer's functions compute.
-/
import Derived.Test.YthnlknegnlmklaaDECong
import Derived.Test.YthnlknegnlmklaaDERef
import Derived.Lib.ItoaNum
import Derived.IntWalk
set_option linter.all false
open Go Vm
namespace DP
open S SN SD

theorem val_cons (x : Int) (l : List Int) : val (x :: l) = x + 18446744073709551616 * val l := rfl

theorem divq_spec (d : Int) (hd : 0 < d) : ∀ l, lim l → lim (deci_Divq d l).1 ∧ val (deci_Divq d l).1 = val l / d ∧ (deci_Divq d l).2 = val l % d ∧ (deci_Divq d l).1.length = l.length
  | [], _ => ⟨lim_nil, by simp [deci_Divq, SN.val], by simp [deci_Divq, SN.val], rfl⟩
  | x :: l, h => by
    obtain ⟨hx, hl⟩ := lim_cons.1 h
    obtain ⟨h1, h2, h3, h4⟩ := divq_spec d hd l hl
    have v0 := val_nonneg hl
    have hr0 := Int.emod_nonneg (val l) (show d ≠ 0 by omega)
    have hr1 := Int.emod_lt_of_pos (val l) hd
    have e0 := Int.mul_ediv_add_emod (val l) d
    simp only [deci_Divq]
    rw [h3]
    refine ⟨lim_cons.2 ⟨⟨?_, ?_⟩, h1⟩, ?_, ?_, by simp [h4]⟩
    · exact Int.ediv_nonneg (by omega) (by omega)
    · have : (val l % d * 18446744073709551616 + x) / d < 18446744073709551616 := by
        apply Int.ediv_lt_of_lt_mul hd
        have : (val l % d + 1) * 18446744073709551616 ≤ d * 18446744073709551616 := Int.mul_le_mul_of_nonneg_right (by omega) (by omega)
        rw [Int.mul_comm 18446744073709551616 d]
        omega
      omega
    · rw [val_cons, val_cons, h2]
      have e : x + 18446744073709551616 * val l = (val l % d * 18446744073709551616 + x) + d * (18446744073709551616 * (val l / d)) := by
        have e1 : d * (18446744073709551616 * (val l / d)) = 18446744073709551616 * (d * (val l / d)) := by rw [← Int.mul_assoc, ← Int.mul_assoc, Int.mul_comm d]
        rw [e1]; omega
      rw [e, Int.add_mul_ediv_left _ _ (by omega)]
    · rw [val_cons]
      have e : x + 18446744073709551616 * val l = (val l % d * 18446744073709551616 + x) + d * (18446744073709551616 * (val l / d)) := by
        have e1 : d * (18446744073709551616 * (val l / d)) = 18446744073709551616 * (d * (val l / d)) := by rw [← Int.mul_assoc, ← Int.mul_assoc, Int.mul_comm d]
        rw [e1]; omega
      rw [e, Int.add_mul_emod_self_left]

theorem div64 (hi lo d : Int) (h0 : 0 ≤ hi) (h1 : hi < d) (hd : d ≤ 18446744073709551615) (h2 : 0 ≤ lo) (h3 : lo ≤ 18446744073709551615) :
    S.math_bits_Div64_pre hi lo d ∧ S.math_bits_Div64 hi lo d = ((hi * 18446744073709551616 + lo) / d, (hi * 18446744073709551616 + lo) % d) := by
  by_cases h : hi = 0
  · subst h
    obtain ⟨p, v⟩ := SC.Div64_small lo d h2 h3 h1
    refine ⟨p, ?_⟩
    rw [v, Int.zero_mul, Int.zero_add]
  · exact SC.Div64_eq hi lo d (by omega) h1 (by omega) h2 h3

theorem Div_num (m d : Nat) (hm : small m) (hd : 0 < d) (hd2 : d ≤ 18446744073709551615) : S.deci_Div_pre (num m) d ∧ S.deci_Div (num m) d = (num (m / d), ((m % d : Nat) : Int), 0) := by
  obtain ⟨v, l⟩ := digs_val m
  have hD : (0 : Int) < d := by omega
  obtain ⟨q1, q2, q3, q4⟩ := divq_spec d hD (digs m) l
  obtain ⟨L1, L2, L3⟩ := nLimbs (deci_Divq d (digs m)).1 q1 (by rw [q4]; exact hm)
  have eA : S.nat_Nat_All (num m) = digs m := All_num m
  have hb : ((d : Int) == 0) = false := beq_eq_false_iff_ne.2 (by omega)
  refine ⟨?_, ?_⟩
  · unfold S.deci_Div_pre
    rw [eA]
    exact ⟨by omega, by omega, All_pre m hm, l, fun _ => L1, Nat.le_trans hm (by decide), fun hi lo a b c e => div64 hi lo d a b (by omega) c e⟩
  · unfold S.deci_Div
    rw [eA, hb, cond_false, L2, q2, q3, v]
    have e1 : ((m : Int) / d).toNat = m / d := by rw [← Int.natCast_ediv]; exact Int.toNat_natCast _
    rw [e1]
    rfl

theorem Div_zero (m : Nat) (hm : small m) : S.deci_Div_pre (num m) 0 ∧ S.deci_Div (num m) 0 = (num 0, 0, 2) := by
  obtain ⟨v, l⟩ := digs_val m
  have eA : S.nat_Nat_All (num m) = digs m := All_num m
  refine ⟨?_, ?_⟩
  · unfold S.deci_Div_pre
    rw [eA]
    exact ⟨Int.le_refl _, by omega, All_pre m hm, l, fun h => absurd rfl h, Nat.le_trans hm (by decide), fun hi lo a b c e => absurd a (by omega)⟩
  · unfold S.deci_Div
    rw [← num_nil]
    rfl

/-! ### Digits -/

theorem dl_zero : ∀ f, deci_digitsl f 0 0 = []
  | 0 => rfl
  | _ + 1 => rfl

theorem dl_succ (f n many : Nat) (h : ¬ (n = 0 ∧ many = 0)) : deci_digitsl (f + 1) n many = deci_digitsl f (n / 10) (many - 1) ++ [UInt8.ofNat (48 + n % 10)] := by
  show (if n = 0 ∧ many = 0 then [] else _) = _
  rw [if_neg h]

/-- Without leading zeros. -/
theorem dl_free : ∀ (f n : Nat), 0 < n → n < 10 ^ f → deci_digitsl f n 0 = Lib.decDigits n
  | 0, n, h0, h => by simp at h; omega
  | f + 1, n, h0, h => by
    rw [dl_succ f n 0 (by omega)]
    by_cases h1 : n < 10
    · rw [show n / 10 = 0 by omega, dl_zero, dec_small h1, show n % 10 = n by omega]; rfl
    · rw [dl_free f (n / 10) (by omega) (by rw [Nat.pow_succ] at h; omega), dec_big h1]

theorem dl_one (f n : Nat) (h : n < 10 ^ (f + 1)) : deci_digitsl (f + 1) n 1 = Lib.decDigits n := by
  rw [dl_succ f n 1 (by omega)]
  by_cases h1 : n < 10
  · rw [show n / 10 = 0 by omega, dl_zero, dec_small h1, show n % 10 = n by omega]; rfl
  · rw [dl_free f (n / 10) (by omega) (by rw [Nat.pow_succ] at h; omega), dec_big h1]

theorem dl_pad : ∀ (j f q r : Nat), 0 < q → r < 10 ^ j → j ≤ f → Lib.decDigits (q * 10 ^ j + r) = Lib.decDigits q ++ deci_digitsl f r j
  | 0, f, q, r, hq, hr, hf => by
    obtain rfl : r = 0 := by simpa using hr
    rw [dl_zero]; simp
  | j + 1, f, q, r, hq, hr, hf => by
    obtain ⟨f, rfl⟩ : ∃ g, f = g + 1 := ⟨f - 1, by omega⟩
    rw [dl_succ f r (j + 1) (by omega), show j + 1 - 1 = j from rfl, ← List.append_assoc, ← dl_pad j f q (r / 10) hq (by rw [Nat.pow_succ] at hr; omega) (by omega)]
    have e : q * 10 ^ (j + 1) + r = 10 * (q * 10 ^ j + r / 10) + r % 10 := by
      rw [Nat.pow_succ, ← Nat.mul_assoc, Nat.mul_comm _ 10]
      have := Nat.div_add_mod r 10
      omega
    have h1 : 0 < q * 10 ^ j := Nat.mul_pos hq (Nat.pow_pos (by decide))
    have hm : r % 10 < 10 := Nat.mod_lt _ (by decide)
    rw [e, dec_big (by omega), show (10 * (q * 10 ^ j + r / 10) + r % 10) / 10 = q * 10 ^ j + r / 10 by omega, show (10 * (q * 10 ^ j + r / 10) + r % 10) % 10 = r % 10 by omega]

theorem dl_len : ∀ (j r f : Nat), r < 10 ^ j → j ≤ f → (deci_digitsl f r j).length = j
  | 0, r, f, hr, _ => by
    obtain rfl : r = 0 := by simpa using hr
    rw [dl_zero]; rfl
  | j + 1, r, f, hr, hf => by
    obtain ⟨f, rfl⟩ : ∃ g, f = g + 1 := ⟨f - 1, by omega⟩
    rw [dl_succ f r (j + 1) (by omega), List.length_append, show j + 1 - 1 = j from rfl, dl_len j (r / 10) f (by rw [Nat.pow_succ] at hr; omega) (by omega)]
    rfl

theorem digits_one (r : Nat) (hr : r ≤ 18446744073709551615) : S.deci_digits_pre (r : Int) 1 ∧ S.deci_digits (r : Int) 1 = ba (Lib.decDigits r) := by
  refine ⟨⟨by omega, by omega, by omega, by omega⟩, ?_⟩
  show (⟨(deci_digitsl 21 r 1).toArray⟩ : ByteArray) = _
  rw [dl_one 20 r (Nat.lt_of_le_of_lt hr (by decide))]
  rfl

theorem digits_pad (r : Nat) (hr : r < 10 ^ 18) : S.deci_digits_pre (r : Int) 18 ∧ S.deci_digits (r : Int) 18 = ba (deci_digitsl 38 r 18) := by
  refine ⟨⟨by omega, by omega, by omega, by omega⟩, rfl⟩

theorem Len_pos (q : Nat) : decide (S.nat_Nat_Len (num q) > 0) = decide (0 < q) := by
  rw [Len_num]
  cases q with
  | zero => simp [digs]
  | succ q => rw [digs_pos (by omega)]; simp

theorem digs_le {a b : Nat} (h : a ≤ b) : (digs a).length ≤ (digs b).length := by
  obtain ⟨v, l⟩ := digs_val b
  refine digs_len a _ (Nat.lt_of_le_of_lt h ?_)
  have := upto_val (digs b) l
  rw [v, Int.toNat_natCast] at this
  exact this

theorem dText_F (n : Nat) : ∀ m : Nat, small m → S.deci_Text_D n (num m) → S.deci_Text_F n (num m) = ba (Lib.decDigits m) := by
  induction n with
  | zero => intro m _ h; exact h.elim
  | succ n ih =>
    intro m hl h
    obtain ⟨d1, d2⟩ := Div_num m 1000000000000000000 hl (by decide) (by decide)
    have d2' : S.deci_Div (num m) 1000000000000000000 = (num (m / 1000000000000000000), ((m % 1000000000000000000 : Nat) : Int), 0) := d2
    have hm : m % 1000000000000000000 < 1000000000000000000 := Nat.mod_lt _ (by decide)
    have hl2 : small (m / 1000000000000000000) := Nat.le_trans (digs_le (Nat.div_le_self m _)) hl
    simp only [deci_Text_D, d2', All, and_true, Len_pos] at h
    simp only [deci_Text_F, d2', Len_pos]
    obtain ⟨o1, o2⟩ := digits_one (m % 1000000000000000000) (by omega)
    obtain ⟨p1, p2⟩ := digits_pad (m % 1000000000000000000) hm
    by_cases hq : 0 < m / 1000000000000000000
    · have hq' := decide_eq_true hq
      rw [hq', cond_true, ih _ hl2 (h.2.1 hq').1, p2, ba_app]
      have := dl_pad 18 38 (m / 1000000000000000000) (m % 1000000000000000000) hq hm (by decide)
      rw [← this, show m / 1000000000000000000 * 10 ^ 18 + m % 1000000000000000000 = m by omega]
    · have hq' := decide_eq_false hq
      rw [hq', cond_false, o2, show m % 1000000000000000000 = m by omega]

theorem dText_D : ∀ (k m : Nat), m < 1000000000000000000 ^ (k + 1) → k ≤ 1000000 → small m → S.deci_Text_D (k + 1) (num m)
  | k, m, h, hk, hl => by
    obtain ⟨d1, d2⟩ := Div_num m 1000000000000000000 hl (by decide) (by decide)
    have d2' : S.deci_Div (num m) 1000000000000000000 = (num (m / 1000000000000000000), ((m % 1000000000000000000 : Nat) : Int), 0) := d2
    have hm : m % 1000000000000000000 < 1000000000000000000 := Nat.mod_lt _ (by decide)
    have hl2 : small (m / 1000000000000000000) := Nat.le_trans (digs_le (Nat.div_le_self m _)) hl
    obtain ⟨o1, o2⟩ := digits_one (m % 1000000000000000000) (by omega)
    obtain ⟨p1, p2⟩ := digits_pad (m % 1000000000000000000) hm
    simp only [deci_Text_D, d2', All, and_true, Len_pos]
    refine ⟨d1, fun hq => ?_, fun _ => o1⟩
    have hq := of_decide_eq_true hq
    cases k with
    | zero => simp at h; omega
    | succ k =>
      have hlt : m / 1000000000000000000 < 1000000000000000000 ^ (k + 1) := by rw [Nat.pow_succ] at h; exact Nat.div_lt_of_lt_mul (by rw [Nat.mul_comm]; exact h)
      have hD := dText_D k _ hlt (by omega) hl2
      refine ⟨hD, p1, ?_⟩
      rw [dText_F (k + 1) _ hl2 hD, p2, ba_size, ba_size, dl_len 18 _ 38 hm (by decide)]
      have h1 := dec_len (18 * (k + 1)) (m / 1000000000000000000) (by
        refine Nat.lt_of_lt_of_le hlt ?_
        rw [show (1000000000000000000 : Nat) = 10 ^ 18 from rfl, ← Nat.pow_mul]
        exact Nat.pow_le_pow_right (by decide) (by omega))
      have e : IntKind.i64.max = 9223372036854775807 := by decide
      rw [e]; omega

theorem Text_num (m : Nat) (k : Nat) (h : m < 1000000000000000000 ^ (k + 1)) (hk : k ≤ 1000000) (hl : small m) : S.deci_Text_pre (num m) ∧ S.deci_Text (num m) = ba (Lib.decDigits m) := by
  have hp : S.deci_Text_pre (num m) := ⟨_, dText_D k m h hk hl⟩
  exact ⟨hp, dText_F _ m hl (Classical.epsilon_spec hp)⟩

theorem Whole_num (n : Int) (h : -9223372036854775808 ≤ n ∧ n ≤ 9223372036854775807) : S.deci_Whole_pre n ∧ S.deci_Whole n = ba (Lib.itoa n) := by
  by_cases hn : n < 0
  · have hw : IntKind.u64.wrap (0 - IntKind.u64.wrap n) = (n.natAbs : Int) := by rw [IntKind.wrap_u64, IntKind.wrap_u64]; omega
    obtain ⟨o1, o2⟩ := digits_one n.natAbs (by omega)
    have e : (⟨#[45]⟩ : ByteArray) = ba [45] := rfl
    refine ⟨?_, ?_⟩
    · simp only [deci_Whole_pre, decide_eq_true hn, hw, o2, e, ba_size, All, and_true]
      refine ⟨fun _ => ⟨o1, ?_⟩, fun h => by cases h⟩
      have := dec_len 19 n.natAbs (by omega)
      have e : IntKind.i64.max = 9223372036854775807 := by decide
      rw [e]; simp; omega
    · simp only [deci_Whole, decide_eq_true hn, hw, o2, e, cond_true, ba_app]
      unfold Lib.itoa
      rw [if_pos hn]; rfl
  · have hw : IntKind.u64.wrap n = (n.toNat : Int) := by rw [IntKind.wrap_u64]; omega
    obtain ⟨o1, o2⟩ := digits_one n.toNat (by omega)
    refine ⟨?_, ?_⟩
    · simp only [deci_Whole_pre, decide_eq_false hn, hw, All, and_true]
      exact ⟨(fun h => by cases h), fun _ => o1⟩
    · simp only [deci_Whole, decide_eq_false hn, hw, o2, cond_false]
      unfold Lib.itoa
      rw [if_neg hn]
end DP
