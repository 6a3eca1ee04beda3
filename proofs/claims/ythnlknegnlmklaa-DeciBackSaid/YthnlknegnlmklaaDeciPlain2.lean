/-
  Texts of digits: which number they are.
-/
import Derived.Test.YthnlknegnlmklaaDeciPlain
set_option linter.all false
open Go Vm
namespace DP
open S SN SD

theorem ba_eta (s : ByteArray) : s = ba s.data.toList := by apply ByteArray.ext; simp [ba]
theorem ba_data (l : List UInt8) : (ba l).data.toList = l := by simp [ba]
theorem ba_toList (l : List UInt8) : (ba l).toList = l := by rw [ByteArray.toList_eq]; simp [ba]
theorem ba_inj {a b : List UInt8} (h : ba a = ba b) : a = b := by rw [← ba_data a, h, ba_data]
theorem ba_extract (l : List UInt8) (i j : Nat) : (ba l).extract i j = ba ((l.take j).drop i) := by
  apply ByteArray.ext
  simp [ba, ByteArray.data_extract]
  rw [List.drop_take]

def dig (c : UInt8) : Prop := 48 ≤ c.toNat ∧ c.toNat ≤ 57
instance (c : UInt8) : Decidable (dig c) := by unfold dig; infer_instance
def digl (l : List UInt8) : Prop := ∀ c ∈ l, dig c
instance (l : List UInt8) : Decidable (digl l) := by unfold digl; infer_instance

theorem digl_app {l k : List UInt8} : digl (l ++ k) ↔ digl l ∧ digl k := by
  constructor
  · exact fun h => ⟨fun c hc => h c (List.mem_append_left _ hc), fun c hc => h c (List.mem_append_right _ hc)⟩
  · exact fun h c hc => (List.mem_append.1 hc).elim (h.1 c) (h.2 c)

def dval (l : List UInt8) : Nat := l.foldl (fun x c => 10 * x + (c.toNat - 48)) 0

theorem dval_snoc (l : List UInt8) (c : UInt8) : dval (l ++ [c]) = 10 * dval l + (c.toNat - 48) := by simp [dval]

/-- A list from its end on. -/
theorem snoc_rec {α : Type} {p : List α → Prop} (h0 : p []) (h1 : ∀ l c, p l → p (l ++ [c])) (l : List α) : p l := by
  have : ∀ n (l : List α), l.length = n → p l := by
    intro n
    induction n with
    | zero => intro l hl; rw [List.eq_nil_of_length_eq_zero hl]; exact h0
    | succ n ih =>
      intro l hl
      have hne : l ≠ [] := fun e => by rw [e] at hl; simp at hl
      rw [← List.dropLast_concat_getLast hne]
      exact h1 _ _ (ih _ (by rw [List.length_dropLast]; omega))
  exact this _ l rfl

theorem dval_app (l k : List UInt8) : dval (l ++ k) = dval l * 10 ^ k.length + dval k := by
  refine snoc_rec (p := fun k => dval (l ++ k) = dval l * 10 ^ k.length + dval k) (by simp [dval]) ?_ k
  intro k c ih
  rw [← List.append_assoc, dval_snoc, ih, dval_snoc, List.length_append, List.length_singleton, Nat.pow_succ, ← Nat.mul_assoc, Nat.mul_comm _ 10, Nat.mul_add]
  omega

theorem dval_lt (l : List UInt8) : digl l → dval l < 10 ^ l.length := by
  refine snoc_rec (p := fun l => digl l → dval l < 10 ^ l.length) (by simp [dval]) ?_ l
  intro l c ih h
  obtain ⟨h1, h2⟩ := digl_app.1 h
  have := ih h1
  have hc := h2 c (by simp)
  unfold dig at hc
  rw [dval_snoc, List.length_append, List.length_singleton, Nat.pow_succ]
  omega

theorem valuex_eq (l : List UInt8) : digl l → S.deci_valuex (ba l) = (dval l : Int) := by
  refine snoc_rec (p := fun l => digl l → S.deci_valuex (ba l) = (dval l : Int)) (fun _ => rfl) ?_ l
  intro l c ih h
  obtain ⟨h1, h2⟩ := digl_app.1 h
  have hc := h2 c (by simp)
  unfold dig at hc
  have ih := ih h1
  unfold S.deci_valuex at ih ⊢
  rw [ba_data] at ih ⊢
  rw [List.foldl_append, ih, dval_snoc]
  show (dval l : Int) * 10 + ((c.toNat : Int) - 48) = _
  omega

theorem tiny {m : Nat} (h : m < 10 ^ 130) : small m := upto_small (k := 7) (Nat.lt_of_lt_of_le h (by decide)) (by decide)

theorem value_spec : ∀ (f : Nat) (l : List UInt8) (a : Nat), l.length ≤ f → digl l → a * 10 ^ l.length + dval l < 10 ^ 130 → S.deci_valueg f (ba l) (num a) ∧ S.deci_valuef f (ba l) (num a) = num (a * 10 ^ l.length + dval l)
  | 0, l, a, hf, _, _ => by
    obtain rfl : l = [] := List.eq_nil_of_length_eq_zero (by omega)
    exact ⟨trivial, by simp [S.deci_valuef, dval]⟩
  | f + 1, l, a, hf, hd, hb => by
    by_cases h0 : l.length = 0
    · obtain rfl : l = [] := List.eq_nil_of_length_eq_zero h0
      exact ⟨.inl rfl, by simp [S.deci_valuef, ba_size, dval]⟩
    · obtain ⟨k, hk⟩ : ∃ k, min l.length 18 = k := ⟨_, rfl⟩
      have hk0 : 0 < k := by omega
      have hk18 : k ≤ 18 := by omega
      have hkl : k ≤ l.length := by omega
      obtain ⟨p, q, rfl, hp⟩ : ∃ p q, l = p ++ q ∧ p.length = k := ⟨l.take k, l.drop k, (List.take_append_drop k l).symm, by rw [List.length_take]; omega⟩
      obtain ⟨d1, d2⟩ := digl_app.1 hd
      have lp := dval_lt p d1
      rw [hp] at lp
      have hk10 : 10 ^ k ≤ 10 ^ 18 := Nat.pow_le_pow_right (by decide) hk18
      have hsz : (ba (p ++ q)).size = (p ++ q).length := ba_size _
      have x0 : (ba (p ++ q)).extract 0 k = ba p := by
        rw [ba_extract, List.drop_zero, ← hp, List.take_left']
        rfl
      have x1 : (ba (p ++ q)).extract k (p ++ q).length = ba q := by
        rw [ba_extract, List.take_length, ← hp, List.drop_left']
        rfl
      rw [dval_app] at hb ⊢
      have e1 : a * 10 ^ (p ++ q).length + (dval p * 10 ^ q.length + dval q) = (a * 10 ^ k + dval p) * 10 ^ q.length + dval q := by
        rw [List.length_append, hp, Nat.pow_add, ← Nat.mul_assoc, Nat.add_mul]; omega
      rw [e1] at hb ⊢
      have q1 : 1 ≤ 10 ^ q.length := Nat.pow_pos (by decide)
      have b1 : a * 10 ^ k + dval p < 10 ^ 130 := by
        have := Nat.mul_le_mul_left (a * 10 ^ k + dval p) q1
        omega
      have b2 : a ≤ a * 10 ^ k := Nat.le_mul_of_pos_right _ (Nat.pow_pos (by decide))
      obtain ⟨o1, o2⟩ := Of_num (10 ^ k) (Nat.le_trans hk10 (by decide))
      have h18 : 10 ^ 18 ≤ 18446744073709551615 := by decide
      obtain ⟨o3, o4⟩ := Of_num (dval p) (by omega)
      rw [Int.natCast_pow] at o1 o2
      obtain ⟨m1, m2⟩ := nMul a (10 ^ k) (tiny (by omega)) (tiny (Nat.lt_of_le_of_lt hk10 (by decide)))
      obtain ⟨n1, n2⟩ := nAdd (a * 10 ^ k) (dval p) (tiny (by omega)) (tiny (by omega))
      obtain ⟨i1, i2⟩ := value_spec f q (a * 10 ^ k + dval p) (by rw [List.length_append, hp] at hf; omega) d2 hb
      have hx := valuex_eq p d1
      have o1 : S.nat_Of_pre (10 ^ k) := o1
      have o2 : S.nat_Of (10 ^ k) = num (10 ^ k) := o2
      refine ⟨.inr ?_, ?_⟩
      · rw [hsz, hk, x0, x1, hx, o2, m2, o4, n2]
        exact ⟨o1, o3, m1, n1, i1⟩
      · show (if (ba (p ++ q)).size = 0 then _ else _) = _
        rw [hsz, if_neg h0, hk, x0, x1, hx, o2, m2, o4, n2]
        exact i2

theorem value_num (l : List UInt8) (hd : digl l) (hb : dval l < 10 ^ 130) : S.deci_value_pre (ba l) ∧ S.deci_value (ba l) = num (dval l) := by
  obtain ⟨h1, h2⟩ := value_spec l.length l 0 (Nat.le_refl _) hd (by omega)
  rw [Nat.zero_mul, Nat.zero_add] at h2
  rw [← num_nil] at h1 h2
  refine ⟨⟨fun c hc => hd c (by rwa [ba_data] at hc), by rw [ba_size]; exact h1⟩, ?_⟩
  unfold S.deci_value
  rw [ba_size]
  exact h2

/-! ### Which texts are digits -/

theorem dec_ne (m : Nat) : Lib.decDigits m ≠ [] := by
  by_cases h : m < 10
  · rw [dec_small h]; simp
  · rw [dec_big h]; simp

theorem dec_dig : ∀ (n m : Nat), m ≤ n → digl (Lib.decDigits m) ∧ dval (Lib.decDigits m) = m
  | n, m, hn => by
    by_cases h : m < 10
    · have e : (UInt8.ofNat (48 + m)).toNat = 48 + m := by simp; omega
      rw [dec_small h]
      refine ⟨fun c hc => ?_, ?_⟩
      · obtain rfl := List.mem_singleton.1 hc
        unfold dig; omega
      · show 10 * 0 + ((UInt8.ofNat (48 + m)).toNat - 48) = m
        omega
    · have hm : m % 10 < 10 := Nat.mod_lt _ (by decide)
      have e : (UInt8.ofNat (48 + m % 10)).toNat = 48 + m % 10 := by simp; omega
      cases n with
      | zero => omega
      | succ n =>
        obtain ⟨h1, h2⟩ := dec_dig n (m / 10) (by omega)
        rw [dec_big h]
        refine ⟨digl_app.2 ⟨h1, fun c hc => ?_⟩, ?_⟩
        · obtain rfl := List.mem_singleton.1 hc
          unfold dig; omega
        · rw [dval_snoc, h2, e]; omega

theorem dec_val (m : Nat) : dval (Lib.decDigits m) = m := (dec_dig m m (Nat.le_refl _)).2
theorem dec_digl (m : Nat) : digl (Lib.decDigits m) := (dec_dig m m (Nat.le_refl _)).1

/-- The first one is no 0, unless it is the only one. -/
def led (l : List UInt8) : Prop := l.length ≤ 1 ∨ l.getD 0 0 ≠ 48
instance (l : List UInt8) : Decidable (led l) := by unfold led; infer_instance

theorem getD0_app (l k : List UInt8) (h : l ≠ []) : (l ++ k).getD 0 0 = l.getD 0 0 := by
  cases l with
  | nil => exact absurd rfl h
  | cons a l => rfl

theorem dec_led : ∀ (n m : Nat), m ≤ n → led (Lib.decDigits m) ∧ (0 < m → (Lib.decDigits m).getD 0 0 ≠ 48)
  | n, m, hn => by
    by_cases h : m < 10
    · rw [dec_small h]
      refine ⟨.inl (by simp), fun h0 => ?_⟩
      intro e
      have e1 : UInt8.ofNat (48 + m) = 48 := e
      have := congrArg UInt8.toNat e1
      simp at this
      omega
    · cases n with
      | zero => omega
      | succ n =>
        obtain ⟨h1, h2⟩ := dec_led n (m / 10) (by omega)
        have h3 := h2 (by omega)
        rw [dec_big h]
        have : (Lib.decDigits (m / 10) ++ [UInt8.ofNat (48 + m % 10)]).getD 0 0 ≠ 48 := by rw [getD0_app _ _ (dec_ne _)]; exact h3
        exact ⟨.inr this, fun _ => this⟩

theorem dec_of (l : List UInt8) : l ≠ [] → digl l → led l → Lib.decDigits (dval l) = l ∧ (l.getD 0 0 ≠ 48 → 0 < dval l) := by
  refine snoc_rec (p := fun l => l ≠ [] → digl l → led l → Lib.decDigits (dval l) = l ∧ (l.getD 0 0 ≠ 48 → 0 < dval l)) (fun h => absurd rfl h) ?_ l
  intro l c ih _ hd hl
  obtain ⟨d1, d2⟩ := digl_app.1 hd
  have hc := d2 c (by simp)
  unfold dig at hc
  by_cases h0 : l = []
  · subst h0
    have e : dval ([] ++ [c]) = c.toNat - 48 := by rw [dval_snoc]; simp [dval]
    rw [e, dec_small (by omega), show 48 + (c.toNat - 48) = c.toNat by omega]
    refine ⟨by simp, fun hne => ?_⟩
    have hne : c ≠ 48 := hne
    rcases Nat.lt_or_ge 48 c.toNat with h | h
    · omega
    · exact absurd (UInt8.toNat_inj.1 (show c.toNat = (48 : UInt8).toNat by simp; omega)) hne
  · have hg : (l ++ [c]).getD 0 0 = l.getD 0 0 := getD0_app _ _ h0
    have hl0 : 0 < l.length := List.length_pos_iff.2 h0
    have hne : l.getD 0 0 ≠ 48 := by
      rcases hl with h | h
      · have : (l ++ [c]).length = l.length + 1 := by simp
        omega
      · rwa [hg] at h
    obtain ⟨i1, i2⟩ := ih h0 d1 (.inr hne)
    have := i2 hne
    rw [dval_snoc, dec_big (by omega), show (10 * dval l + (c.toNat - 48)) / 10 = dval l by omega, i1, show (10 * dval l + (c.toNat - 48)) % 10 = c.toNat - 48 by omega, show 48 + (c.toNat - 48) = c.toNat by omega]
    exact ⟨by simp, fun _ => by omega⟩

theorem dec_iff (l : List UInt8) (hd : digl l) : Lib.decDigits (dval l) = l ↔ l ≠ [] ∧ led l := by
  constructor
  · intro h
    have h1 := dec_ne (dval l)
    have h2 := (dec_led _ (dval l) (Nat.le_refl _)).1
    rw [h] at h1 h2
    exact ⟨h1, h2⟩
  · exact fun h => (dec_of l h.1 hd h.2).1

/-- A text is some number's digits. -/
def numb (l : List UInt8) : Bool := decide (digl l) && decide (Lib.decDigits (dval l) = l)

theorem get_ba (l : List UInt8) (i : Nat) (h : i < l.length) : (ba l).get! i = l[i] := by
  show (ba l).data[i]! = _
  simp [ba, h]

theorem plain_numb (l : List UInt8) : S.deci_plain (ba l) = numb l := by
  unfold S.deci_plain numb
  rw [ba_size, Bool.eq_iff_iff]
  simp only [Bool.and_eq_true, List.all_eq_true, List.mem_range, decide_eq_true_iff]
  have key : (∀ i, i < l.length → S.deci_plainb (ba l) i = true) ↔ digl l ∧ led l := by
    constructor
    · intro h
      refine ⟨fun c hc => ?_, ?_⟩
      · obtain ⟨i, hi, rfl⟩ := List.getElem_of_mem hc
        have := h i hi
        unfold S.deci_plainb at this
        rw [get_ba l i hi] at this
        simp only [Bool.and_eq_true, decide_eq_true_iff] at this
        exact this.1
      · by_cases hl : l.length ≤ 1
        · exact .inl hl
        · have := h 0 (by omega)
          unfold S.deci_plainb at this
          rw [get_ba l 0 (by omega), ba_size] at this
          simp only [Bool.and_eq_true, decide_eq_true_iff, Bool.not_eq_true', Bool.and_eq_false_iff, decide_eq_false_iff_not] at this
          refine .inr fun e => ?_
          have e2 : l[0]'(by omega) = 48 := by
            have : l.getD 0 0 = l[0]'(by omega) := by simp [List.getD, show 0 < l.length by omega]
            rw [← this]; exact e
          rw [e2] at this
          simp at this
          omega
    · rintro ⟨h1, h2⟩ i hi
      have hc := h1 _ (List.getElem_mem hi)
      unfold dig at hc
      unfold S.deci_plainb
      rw [get_ba l i hi, ba_size]
      simp only [Bool.and_eq_true, decide_eq_true_iff, Bool.not_eq_true', Bool.and_eq_false_iff, decide_eq_false_iff_not]
      refine ⟨hc, ?_⟩
      by_cases h0 : i = 0
      · subst h0
        rcases h2 with h | h
        · right; omega
        · left; right
          intro e
          apply h
          have : l.getD 0 0 = l[0]'hi := by simp [List.getD, hi]
          rw [this]
          exact UInt8.toNat_inj.1 (by simpa using e)
      · left; left; exact h0
  rw [key]
  constructor
  · rintro ⟨⟨h1, h2⟩, h3⟩
    exact ⟨h1, (dec_iff l h1).2 ⟨fun e => h3 (by rw [e]; rfl), h2⟩⟩
  · rintro ⟨h1, h2⟩
    obtain ⟨h3, h4⟩ := (dec_iff l h1).1 h2
    exact ⟨⟨h1, h4⟩, fun e => h3 (List.eq_nil_of_length_eq_zero e)⟩

theorem numb_dec (m : Nat) : numb (Lib.decDigits m) = true := by
  unfold numb
  rw [dec_val, decide_eq_true (dec_digl m), decide_eq_true rfl]
  rfl

theorem small_len {l : List UInt8} (hd : digl l) (h : l.length ≤ 130) : dval l < 10 ^ 130 := Nat.lt_of_lt_of_le (dval_lt l hd) (Nat.pow_le_pow_right (by decide) h)

theorem Parse_num (l : List UInt8) (c : Int) (hl : l.length ≤ 130) : S.deci_Parse_pre (ba l) c ∧ S.deci_Parse (ba l) c = if numb l then (if fits c (dval l) then (num (dval l), 0) else (num 0, 10)) else (num 0, 20) := by
  cases hn : numb l with
  | false =>
    refine ⟨?_, ?_⟩
    · simp only [S.deci_Parse_pre, plain_numb, hn, All, and_true]
      exact ⟨trivial, fun _ => trivial, fun h => by cases h⟩
    · simp only [S.deci_Parse, plain_numb, hn, ← num_nil]
      rfl
  | true =>
    have hd : digl l := by unfold numb at hn; simp only [Bool.and_eq_true, decide_eq_true_iff] at hn; exact hn.1
    obtain ⟨v1, v2⟩ := value_num l hd (small_len hd hl)
    refine ⟨?_, ?_⟩
    · simp only [S.deci_Parse_pre, plain_numb, hn, All, and_true]
      exact ⟨trivial, (fun h => by cases h), fun _ => ⟨v1, fun _ => trivial, fun _ => trivial⟩⟩
    · simp only [S.deci_Parse, plain_numb, hn, v2, Fits_num]
      cases hf : fits c (dval l) <;> simp [num_nil]
end DP
