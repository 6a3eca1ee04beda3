/-
  The stage's theorem on congruences, in plain words.
-/
import Derived.Test.YtpnegnhbbcligaaCongPlain8
set_option linter.all false
open Go Vm
namespace S

theorem fit_pre (x y : Int) : S.law20_fit_pre x y := by
  simp only [law20_fit_pre, All, and_true]
  exact fun h _ => nb h
theorem fit1 (x y : Int) (hx : I64 x) (hy : I64 y) (h : (S.law20_fit x y).1 = true) : IntKind.i64.wrap (x + y) = x + y := by
  have h : (decide (IntKind.i64.wrap (x + y) > x) == decide (y > 0)) = true := h
  obtain ⟨x1, x2⟩ := hx; obtain ⟨y1, y2⟩ := hy
  rw [beq_iff_eq, decide_eq_decide, IntKind.wrap_i64] at h
  rw [IntKind.wrap_i64]; omega
theorem fit2 (x y : Int) (hx : I64 x) (hy : I64 y) (h : (S.law20_fit x y).2.1 = true) : IntKind.i64.wrap (x - y) = x - y := by
  have h : (decide (IntKind.i64.wrap (x - y) < x) == decide (y > 0)) = true := h
  obtain ⟨x1, x2⟩ := hx; obtain ⟨y1, y2⟩ := hy
  rw [beq_iff_eq, decide_eq_decide, IntKind.wrap_i64] at h
  rw [IntKind.wrap_i64]; omega
theorem fit3 (x y : Int) (hx : I64 x) (hy : I64 y) (h : (S.law20_fit x y).2.2 = true) : IntKind.i64.wrap (x * y) = x * y := by
  have h : (x == 0 || (((x != (-1) || y != (-9223372036854775808)) && IntKind.i64.wrap (Int.tdiv (IntKind.i64.wrap (x * y)) x) == y) && !(x == (-9223372036854775808) && y == (-1)))) = true := h
  obtain ⟨x1, x2⟩ := hx; obtain ⟨y1, y2⟩ := hy
  by_cases h0 : x = 0
  · subst h0; rw [Int.zero_mul]; decide
  · rw [show (x == 0) = false from beq_eq_false_iff_ne.2 h0, Bool.false_or, Bool.and_eq_true, Bool.and_eq_true, Bool.or_eq_true, bne_iff_ne, bne_iff_ne, beq_iff_eq] at h
    obtain ⟨⟨h1, h2⟩, _⟩ := h
    obtain ⟨w1, w2⟩ := num_i64 (x * y)
    have hk : ∃ k : Int, IntKind.i64.wrap (x * y) = x * y + 18446744073709551616 * k := ⟨(IntKind.i64.wrap (x * y) - x * y) / 18446744073709551616, by rw [IntKind.wrap_i64]; omega⟩
    obtain ⟨k, hk⟩ := hk
    generalize IntKind.i64.wrap (x * y) = w at *
    -- the quotient
    have hq : Int.tdiv w x = y := by
      have hb : (Int.tdiv w x).natAbs ≤ w.natAbs := by rw [Int.natAbs_tdiv]; exact Nat.div_le_self _ _
      by_cases hm : Int.tdiv w x = 9223372036854775808
      · -- then w is the least, and x is -1
        exfalso
        rw [hm] at h2 hb
        have hw : w = -9223372036854775808 := by omega
        have hx1 : x = -1 := by
          have e := Int.mul_tdiv_add_tmod w x
          rw [hm] at e
          have hr := Int.natAbs_tmod w x
          have hl : (w.tmod x).natAbs < x.natAbs := by rw [hr]; exact Nat.mod_lt _ (by omega)
          omega
        have : y = -9223372036854775808 := by rw [← h2]; decide
        omega
      · rw [← h2, IntWalk.i64_in]; omega
    have e := Int.mul_tdiv_add_tmod w x
    rw [hq] at e
    have hl : (w.tmod x).natAbs < x.natAbs := by rw [Int.natAbs_tmod]; exact Nat.mod_lt _ (by omega)
    generalize x * y = p at *
    omega

theorem emod_le' (x m : Int) (hx : 0 ≤ x) (hm : 0 < m) : x % m ≤ x := by
  have h := Int.mul_ediv_add_emod x m
  have : 0 ≤ m * (x / m) := Int.mul_nonneg (by omega) (Int.ediv_nonneg hx (by omega))
  omega
theorem near_i64 (c : S.Cong) (n : Int) (hc : S.Cong.ok c) (hr : S.ref20_Right c = true) (hn : inr .i64 n) :
    S.law20_near_pre c n ∧ I64 (S.law20_near c n) ∧ (has c (S.law20_near c n) = false → (least c (-9223372036854775808)).2 = false) := by
  obtain ⟨l1, _, l3, _⟩ := Least_both c n hc hr hn
  obtain ⟨g1, _, g3, _⟩ := Greatest_both c n hc hr hn
  refine ⟨by simp only [law20_near_pre, All, and_true]; exact ⟨l3, fun _ => g3⟩, ?_⟩
  simp only [law20_near, l1, g1]
  cases hl : (least c n).2 with
  | true =>
    obtain ⟨k1, k2, _⟩ := least_near c n hc hr hn hl
    simp only [Bool.not_true, cond_false]
    exact ⟨inr_i64.1 k1, fun h => by rw [k2] at h; cases h⟩
  | false =>
    simp only [Bool.not_false, cond_true]
    cases hg : (greatest c n).2 with
    | true =>
      obtain ⟨k1, k2, _⟩ := greatest_near c n hc hr hn hg
      exact ⟨inr_i64.1 k1, fun h => by rw [k2] at h; cases h⟩
    | false =>
      have hc' := (ok_iff c).1 hc
      have hn' := inr_i64.1 hn
      by_cases h0 : c.M = 0
      · simp only [least, greatest, h0, if_true] at hl hg
        split at hl
        · cases hl
        · split at hg
          · cases hg
          · omega
      · simp only [least, greatest, h0, if_false] at hl hg
        have f1 : (c.R - n) % c.M > 9223372036854775807 - n := by
          by_cases h : (c.R - n) % c.M > 9223372036854775807 - n
          · exact h
          · rw [if_neg h] at hl; cases hl
        have f2 : (n - c.R) % c.M > n + 9223372036854775808 := by
          by_cases h : (n - c.R) % c.M > n + 9223372036854775808
          · exact h
          · rw [if_neg h] at hg; cases hg
        refine ⟨by simp only [greatest, h0, if_false]; rw [if_pos f2]; exact ⟨by decide, by decide⟩, fun _ => ?_⟩
        cases hm : (least c (-9223372036854775808)).2 with
        | false => rfl
        | true =>
          exfalso
          obtain ⟨k1, k2, _⟩ := least_near c _ hc hr (inr_i64.2 ⟨by decide, by decide⟩) hm
          have k1 := inr_i64.1 k1
          have k2 := has_mod c _ h0 k2
          generalize (least c (-9223372036854775808)).1 = z at *
          by_cases h : n ≤ z
          · have e1 : (c.R - n) % c.M = (z - n) % c.M := by rw [← k2, mod_sub]
            have := emod_le' (z - n) c.M (by omega) (by omega)
            omega
          · have e1 : (n - c.R) % c.M = (n - z) % c.M := by rw [← k2, sub_mod]
            have := emod_le' (n - z) c.M (by omega) (by omega)
            omega

theorem CongSound_law (a b : S.Cong) (n m : Int) (ha : S.Cong.ok a) (hb : S.Cong.ok b) (hn : inr .i64 n) (hm : inr .i64 m) : S.law20_CongSound_pre a b n m ∧ S.law20_CongSound a b n m = true := by
  cases hra : S.ref20_Right a with
  | false => simp [law20_CongSound_pre, law20_CongSound, law20_ref, All, hra, works_pre, works]
  | true =>
    cases hrb : S.ref20_Right b with
    | false => simp [law20_CongSound_pre, law20_CongSound, law20_ref, All, hra, hrb, works_pre, works]
    | true =>
      obtain ⟨na, ia, za⟩ := near_i64 a n ha hra hn
      obtain ⟨nb', ib, zb⟩ := near_i64 b m hb hrb hm
      have imin : inr .i64 (-9223372036854775808) := inr_i64.2 ⟨by decide, by decide⟩
      obtain ⟨la1, _, la3, _⟩ := Least_both a _ ha hra imin
      obtain ⟨lb1, _, lb3, _⟩ := Least_both b _ hb hrb imin
      have h1 := Has_eq a _ ha (inr_i64.2 ia)
      have h2 := Has_eq b _ hb (inr_i64.2 ib)
      generalize hx : S.law20_near a n = x at *
      generalize hy : S.law20_near b m = y at *
      have fail : (has a x = false ∨ has b y = false) → ((least a (-9223372036854775808)).2 && (least b (-9223372036854775808)).2) = false := by
        rintro (h | h)
        · rw [za h]; rfl
        · rw [zb h, Bool.and_false]
      by_cases hf : has a x = true ∧ has b y = true
      · obtain ⟨hax, hby⟩ := hf
        obtain ⟨j0, j1, j2, j3, j4⟩ := Join_has a b ha hb hra hrb x y ia ib hax hby
        have A1 := Add_has a b ha hb x y ia ib hax hby
        have S1 := Sub_has a b ha hb x y ia ib hax hby
        obtain ⟨m0, M1⟩ := Mul_has a b ha hb x y ia ib hax hby
        have a0 := Add_ok a b ha hb; have s0 := Sub_ok a b ha hb
        have ar := (Add_both a b ha hb).2.2
        obtain ⟨sp, _, _, sr⟩ := Sub_both a b ha hb
        obtain ⟨mp, _, _, mr⟩ := Mul_both a b ha hb
        obtain ⟨wa0, wa1, wa2⟩ := Wrapped_has _ a0 _ A1 (by rw [← Right_eq]; exact ar)
        obtain ⟨ws0, ws1, _⟩ := Wrapped_has _ s0 _ S1 (by rw [← Right_eq]; exact sr)
        obtain ⟨wm0, wm1, _⟩ := Wrapped_has _ m0 _ M1 (by rw [← Right_eq]; exact mr)
        have wap := (Wrapped_both _ a0).1; have wsp := (Wrapped_both _ s0).1; have wmp := (Wrapped_both _ m0).1
        have meetx := Meet_has a b ha hb x ia hax
        have meety := fun h => Meet_has a b ha hb y ib h hby
        have meetw := Meet_is a b ha hb hra hrb
        have wr : ∀ z : Int, inr .i64 (IntKind.i64.wrap z) := fun z => inr_i64.2 (num_i64 z)
        have q1 := (Has_eq _ x j0 (inr_i64.2 ia)).trans j1
        have q2 := (Has_eq _ y j0 (inr_i64.2 ib)).trans j2
        have q3 := Has_eq b x hb (inr_i64.2 ia)
        have q4 := Has_eq a y ha (inr_i64.2 ib)
        have okm : (S.cong_Meet a b).2 = true → S.Cong.ok (S.cong_Meet a b).1 := fun h => by
          rcases meetw h with e | e <;> rw [e] <;> assumption
        have P40 : (S.cong_Cong_Has b x && (!(S.cong_Meet a b).2 || !S.cong_Cong_Has (S.cong_Meet a b).1 x)) = false := by
          cases h : S.cong_Cong_Has b x with
          | false => rfl
          | true =>
            obtain ⟨e1, e2⟩ := meetx (q3 ▸ h)
            rw [Has_eq _ x (okm e1) (inr_i64.2 ia), e1, e2]; rfl
        have P46 : (S.cong_Cong_Has a y && (!(S.cong_Meet a b).2 || !S.cong_Cong_Has (S.cong_Meet a b).1 y)) = false := by
          cases h : S.cong_Cong_Has a y with
          | false => rfl
          | true =>
            obtain ⟨e1, e2⟩ := meety (q4 ▸ h)
            rw [Has_eq _ y (okm e1) (inr_i64.2 ib), e1, e2]; rfl
        have P53 : ((S.cong_Meet a b).2 && !S.cong_Within (S.cong_Meet a b).1 a && !S.cong_Within (S.cong_Meet a b).1 b) = false := by
          cases h : (S.cong_Meet a b).2 with
          | false => rfl
          | true =>
            rcases meetw h with e | e
            · rw [e, Within_self a ha hra]; rfl
            · rw [e, Within_self b hb hrb, Bool.not_true, Bool.and_false]
        have P62 : ((S.law20_fit x y).1 && !S.cong_Cong_Has (S.cong_Add a b) (IntKind.i64.wrap (x + y))) = false := by
          cases h : (S.law20_fit x y).1 with
          | false => rfl
          | true => rw [Has_eq _ _ a0 (wr _), fit1 x y ia ib h, A1]; rfl
        have P66 : ((S.law20_fit x y).2.1 && !S.cong_Cong_Has (S.cong_Sub a b) (IntKind.i64.wrap (x - y))) = false := by
          cases h : (S.law20_fit x y).2.1 with
          | false => rfl
          | true => rw [Has_eq _ _ s0 (wr _), fit2 x y ia ib h, S1]; rfl
        have P71 : ((S.law20_fit x y).2.2 && !S.cong_Cong_Has (S.cong_Mul a b) (IntKind.i64.wrap (x * y))) = false := by
          cases h : (S.law20_fit x y).2.2 with
          | false => rfl
          | true => rw [Has_eq _ _ m0 (wr _), fit3 x y ia ib h, M1]; rfl
        have w1' := (Has_eq _ _ wa0 (wr _)).trans wa1
        have w2' := (Has_eq _ _ ws0 (wr _)).trans ws1
        have w3' := (Has_eq _ _ wm0 (wr _)).trans wm1
        refine ⟨?_, ?_⟩
        · simp only [law20_CongSound_pre, law20_ref, All, hra, hrb, hx, hy, h1, h2, hax, hby, q1, q2, j3, j4, P40, P46, P53, P62, P66, P71, w1', w2', w3', wa2, Bool.not_true, Bool.or_self, Bool.or_false, Bool.and_self, Has_pre, Within_pre, Join_pre a b ha hb, Meet_pre a b ha hb, fit_pre, Add_pre a b ha hb, sp, mp, wap, wsp, wmp, na, nb', works_pre, implies_true, true_and, and_true, Bool.false_eq_true, Bool.true_eq_false, false_implies, true_implies, and_self]
        · simp only [law20_CongSound, law20_ref, hra, hrb, hx, hy, h1, h2, hax, hby, q1, q2, j3, j4, P40, P46, P53, P62, P66, P71, w1', w2', w3', wa2, works, Bool.not_true, Bool.or_self, Bool.or_false, Bool.and_self, cond_false]
      · have hf' : (!has a x || !has b y) = true := by
          cases h : has a x with
          | false => rfl
          | true =>
            cases h' : has b y with
            | false => rfl
            | true => exact absurd ⟨h, h'⟩ hf
        have hl := fail (by cases h : has a x with
          | false => exact .inl rfl
          | true => rw [h] at hf'; exact .inr (by simpa using hf'))
        refine ⟨?_, ?_⟩
        · simp only [law20_CongSound_pre, law20_ref, All, hra, hrb, hx, hy, h1, h2, la1, lb1, hl, hf', Bool.not_true, Bool.not_false, Bool.or_self, Has_pre, na, nb', la3, lb3, works_pre, implies_true, true_and, and_true, Bool.false_eq_true, Bool.true_eq_false, false_implies, true_implies, and_self]
        · simp only [law20_CongSound, law20_ref, hra, hrb, hx, hy, h1, h2, la1, lb1, hl, hf', works, Bool.not_true, Bool.not_false, Bool.or_self, Bool.and_self, cond_false, cond_true]
end S
