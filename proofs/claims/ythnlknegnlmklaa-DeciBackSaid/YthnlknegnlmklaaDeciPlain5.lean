/-
  The examples; any number divided; any number's digits; any text read.
-/
import Derived.Test.YthnlknegnlmklaaDeciPlain4
set_option linter.all false
open Go Vm
namespace DP
open S SN SD

theorem numb_of {l : List UInt8} (hd : digl l) (h : l ≠ []) (hl : led l) : numb l = true := by
  unfold numb
  rw [decide_eq_true hd, decide_eq_true ((dec_iff l hd).2 ⟨h, hl⟩)]
  rfl
theorem dec_lit (l : List UInt8) (m : Nat) (hd : digl l) (h : l ≠ []) (hl : led l) (hm : dval l = m) : Lib.decDigits m = l := by
  rw [← hm]; exact (dec_iff l hd).2 ⟨h, hl⟩

abbrev lit64 : List UInt8 := [49, 56, 52, 52, 54, 55, 52, 52, 48, 55, 51, 55, 48, 57, 53, 53, 49, 54, 49, 54]
abbrev lit63 : List UInt8 := [57, 50, 50, 51, 51, 55, 50, 48, 51, 54, 56, 53, 52, 55, 55, 53, 56, 48, 56]

theorem dec64 : Lib.decDigits 18446744073709551616 = lit64 := dec_lit lit64 _ (by decide) (by decide) (by decide) (by decide)
theorem dec63 : Lib.decDigits 9223372036854775808 = lit63 := dec_lit lit63 _ (by decide) (by decide) (by decide) (by decide)

theorem Text_ok (m : Nat) (h : m < 10 ^ 130) : S.deci_Text_pre (num m) ∧ S.deci_Text (num m) = ba (Lib.decDigits m) :=
  Text_num m 7 (Nat.lt_of_lt_of_le h (by decide)) (by decide) (tiny h)

theorem works_both : S.law02_works_pre ∧ S.law02_works = true := by
  obtain ⟨l1, l2, l3⟩ := nLimbs [0, 1] (by intro x hx; simp at hx; omega) (by decide)
  have e1 : (SN.val [0, 1]).toNat = 18446744073709551616 := by decide
  rw [e1] at l2
  obtain ⟨d1, d2⟩ := Div_num 18446744073709551616 10 (tiny (by decide)) (by decide) (by decide)
  have d3 : S.deci_Div (num 18446744073709551616) 10 = (num 1844674407370955161, 6, 0) := d2
  have s1 := Small_ok 1844674407370955161
  have s2 := Small_one (m := 1844674407370955161) (by decide)
  have s3 : (S.nat_Nat_Small (num 1844674407370955161)).2 = true := by
    rw [s1.2.1]
    have := digs_len 1844674407370955161 1 (by decide)
    exact decide_eq_true (by omega)
  have t7 : (⟨#[48, 48, 55]⟩ : ByteArray) = ba [48, 48, 55] := rfl
  have t64 : (⟨#[49, 56, 52, 52, 54, 55, 52, 52, 48, 55, 51, 55, 48, 57, 53, 53, 49, 54, 49, 54]⟩ : ByteArray) = ba lit64 := rfl
  have t63 : (⟨#[45, 57, 50, 50, 51, 51, 55, 50, 48, 51, 54, 56, 53, 52, 55, 55, 53, 56, 48, 56]⟩ : ByteArray) = ba (45 :: lit63) := rfl
  have t0 : (⟨#[45, 48]⟩ : ByteArray) = ba [45, 48] := rfl
  obtain ⟨p1, p2⟩ := Parse_num [48, 48, 55] 9 (by decide)
  have n1 : numb [48, 48, 55] = false := by
    have hd : digl [48, 48, 55] := by decide
    unfold numb
    rw [decide_eq_true hd, decide_eq_false (fun h => absurd ((dec_iff _ hd).1 h).2 (by decide))]
    rfl
  rw [n1] at p2
  have p2' : S.deci_Parse (ba [48, 48, 55]) 9 = (num 0, 20) := p2
  obtain ⟨q1, q2⟩ := Parse_num lit64 1 (by decide)
  have n2 : numb lit64 = true := numb_of (by decide) (by decide) (by decide)
  have v2 : dval lit64 = 18446744073709551616 := by decide
  rw [n2, fits1, v2] at q2
  have q2' : S.deci_Parse (ba lit64) 1 = (num 0, 10) := q2
  obtain ⟨w1, w2⟩ := ParseWhole_num [45, 48] (by decide)
  have g0 : good [45, 48] = false := by
    have hw : whole [45, 48] = 0 := by decide
    unfold good
    rw [hw]
    have : Lib.itoa 0 = [48] := by
      show (if (0 : Int) < 0 then _ else _) = _
      rw [if_neg (by decide)]
      exact dec_small (m := 0) (by decide)
    rw [this]
    simp
  rw [g0] at w2
  have w2' : S.deci_ParseWhole (ba [45, 48]) = (0, 20) := w2
  obtain ⟨x1, x2⟩ := Text_ok 18446744073709551616 (by decide)
  rw [dec64] at x2
  have y : S.deci_Digits (num 18446744073709551616) = 20 := by simp only [S.deci_Digits, x2, ba_size]; rfl
  obtain ⟨z1, z2⟩ := Whole_num (-9223372036854775808) (by decide)
  have z3 : Lib.itoa (-9223372036854775808) = 45 :: lit63 := by
    unfold Lib.itoa
    rw [if_pos (by decide)]
    rw [← dec63]
    rfl
  rw [z3] at z2
  refine ⟨?_, ?_⟩
  · simp only [S.law02_works_pre, l2, d3, s2, s3, t7, t64, t0, p2', q2', w2', x2, y, All, and_true]
    exact ⟨l1, d1, s1.1, p1, q1, w1, fun _ => x1, fun _ => by simp only [S.deci_Digits_pre, All, and_true]; exact x1, fun _ => z1⟩
  · simp only [S.law02_works, l2, d3, s2, s3, t7, t64, t63, t0, p2', q2', w2', x2, y, z2]
    simp [ba_toList]

attribute [simp] works_both

theorem own_both (l : List Int) (h : l.length ≤ 1000000) : S.law02_own_pre l ∧ S.law02_own l = l := by
  refine ⟨?_, by simp [S.law02_own]⟩
  simp only [S.law02_own_pre, All, and_true]
  simp; omega

theorem lim_of {l : List Int} (h : ∀ x ∈ l, inr .u64 x) : lim l := fun x hx => inr_u64.1 (h x hx)

theorem digs8_of {m k : Nat} (h : (digs m).length ≤ k) : (digs8 m).length ≤ 8 * k := Nat.le_trans (bytes_len m) (Nat.mul_le_mul_left 8 h)

theorem DeciDivides_law (l : List Int) (d : Int) (gl : (∀ x ∈ l, inr .u64 x) ∧ l.length ≤ maxLen) (gd : inr .u64 d) : S.law02_DeciDivides_pre l d ∧ S.law02_DeciDivides l d = true := by
  obtain ⟨w1, w2⟩ := works_both
  by_cases h12 : (l.length : Int) > 12
  · have b1 := decide_eq_true h12
    refine ⟨?_, ?_⟩
    · simp only [S.law02_DeciDivides_pre, b1, All, and_true]
      exact ⟨fun _ => w1, fun h => by cases h⟩
    · simp only [S.law02_DeciDivides, b1, cond_true, w2]
  · have b1 := decide_eq_false h12
    have hl := lim_of gl.1
    obtain ⟨o1, o2⟩ := own_both l (by omega)
    obtain ⟨n1, n2, n3⟩ := nLimbs l hl (by omega)
    obtain ⟨r1, r2⟩ := refOf_eq l hl (by omega)
    obtain ⟨m, hm⟩ : ∃ m, (SN.val l).toNat = m := ⟨_, rfl⟩
    have hlen : (digs m).length ≤ 12 := by rw [← hm]; exact Nat.le_trans (val_len hl) (by omega)
    have h8 := digs8_of hlen
    rw [hm] at n2 n3 r2
    obtain ⟨dn, hdn⟩ := Int.eq_ofNat_of_zero_le (inr_u64.1 gd).1
    have hd2 := (inr_u64.1 gd).2
    subst hdn
    -- what both give
    obtain ⟨q, r, e, D1, D2, R1, R2, hq⟩ : ∃ (q : Nat) (r e : Int), S.deci_Div_pre (num m) (dn : Int) ∧ S.deci_Div (num m) (dn : Int) = (num q, r, e) ∧ S.ref02_Div_pre (digs8 m) (dn : Int) ∧ S.ref02_Div (digs8 m) (dn : Int) = (digs8 q, r, e) ∧ q ≤ m := by
      by_cases h0 : dn = 0
      · subst h0
        obtain ⟨D1, D2⟩ := Div_zero m n3
        refine ⟨0, 0, 2, D1, D2, ?_, ?_, Nat.zero_le _⟩
        · simp only [S.ref02_Div_pre]
          exact ⟨fun _ => trivial, fun h => by cases h⟩
        · simp only [S.ref02_Div]
          have : digs8 0 = [] := by simp [digs8]
          rw [this]; rfl
      · obtain ⟨D1, D2⟩ := Div_num m dn n3 (by omega) (by omega)
        obtain ⟨R1, R2⟩ := refDiv m dn (by omega) (by omega) (by omega)
        exact ⟨m / dn, _, 0, D1, D2, R1, R2, Nat.div_le_self _ _⟩
    have hq8 : (digs8 q).length ≤ 100000 := by have := digs8_of (Nat.le_trans (digs_le hq) hlen); omega
    obtain ⟨S1, S2⟩ := SameNat_num q q hq8 hq8 (Nat.le_trans (digs_le hq) n3)
    obtain ⟨T1, T2⟩ := SameNat_num m m (by omega) (by omega) n3
    rw [decide_eq_true rfl] at S2 T2
    have st : ∀ (b : Bool) (t : Int), t < 2 → law02_DeciDivides_L0_step ⟨dn, b, digs8 m, digs8 q, r, e, t, num m⟩ = .inl ⟨dn, b, digs8 m, digs8 q, r, e, IntKind.i64.wrap (t + 1), num m⟩ := by
      intro b t ht
      simp only [law02_DeciDivides_L0_step, D2, S2, T2, decide_eq_true ht]
      simp
    have vc : ∀ (b : Bool) (t : Int), law02_DeciDivides_L0_vcs ⟨dn, b, digs8 m, digs8 q, r, e, t, num m⟩ := by
      intro b t
      simp only [law02_DeciDivides_L0_vcs, D2, S2, T2, All, and_true]
      exact ⟨fun _ => ⟨⟨D1, fun _ => S1, fun _ => T1⟩, fun _ => trivial, fun _ => trivial⟩, fun _ => trivial⟩
    have fin : ∀ (b : Bool), law02_DeciDivides_L0_step ⟨dn, b, digs8 m, digs8 q, r, e, 2, num m⟩ = .inr ⟨false, ⟨dn, b, digs8 m, digs8 q, r, e, 2, num m⟩⟩ := by
      intro b
      simp only [law02_DeciDivides_L0_step]
      simp
    have run : Runs law02_DeciDivides_L0_step law02_DeciDivides_L0_vcs ⟨dn, false, digs8 m, digs8 q, r, e, 0, num m⟩ ⟨false, ⟨dn, false, digs8 m, digs8 q, r, e, 2, num m⟩⟩ :=
      .next _ _ _ (vc _ _) (st _ 0 (by decide)) (.next _ _ _ (vc _ _) (st _ 1 (by decide)) (.done _ _ (vc _ _) (fin _)))
    have er : law02_DeciDivides_L0_run ⟨dn, false, digs8 m, digs8 q, r, e, 0, num m⟩ = _ := theRun_eq (d := fun x => ⟨true, x⟩) run
    refine ⟨?_, ?_⟩
    · simp only [S.law02_DeciDivides_pre, b1, o2, n2, r2, R2, er, All, and_true]
      exact ⟨(fun h => by cases h), fun _ => ⟨⟨o1, n1, r1, R1, run⟩, (fun h => by cases h), fun _ => w1⟩⟩
    · simp only [S.law02_DeciDivides, b1, o2, n2, r2, R2, er, cond_false, w2]
end DP
