/-
  What the reference reads, and that the layer reads the same.
-/
import Derived.Test.YthnlknegnlmklaaDeciPlain2
set_option linter.all false
open Go Vm
namespace DP
open S SN SD

theorem digs8_small {m : Nat} (h : m < 10 ^ 130) : (digs8 m).length ≤ 60 := digs_len8 m 60 (Nat.lt_of_lt_of_le h (by decide))

theorem take_dval (l : List UInt8) (i : Nat) (hi : i < l.length) : dval (l.take (i + 1)) = 10 * dval (l.take i) + ((l[i]).toNat - 48) := by
  rw [List.take_succ_eq_append_getElem hi, dval_snoc]

theorem digl_take (l : List UInt8) (i : Nat) (hi : i < l.length) : digl (l.take (i + 1)) ↔ digl (l.take i) ∧ dig l[i] := by
  rw [List.take_succ_eq_append_getElem hi, digl_app]
  exact and_congr_right fun _ => ⟨fun h => h _ (by simp), fun h c hc => by rw [List.mem_singleton.1 hc]; exact h⟩

theorem Number_runs (l : List UInt8) (hl : l.length ≤ 130) :
    ∃ y, Runs ref02_Number_L0_step ref02_Number_L0_vcs ⟨ba l, [], false, [], 0⟩ y ∧ ((y.1 = true ∧ y.2.t2 = [] ∧ y.2.t3 = false ∧ ¬ digl l) ∨ (y.1 = false ∧ y.2.s = ba l ∧ y.2.out = digs8 (dval l) ∧ digl l)) := by
  refine Runs.of (fun s => ∃ i : Nat, s.s = ba l ∧ s.t2 = [] ∧ s.t3 = false ∧ s.i = (i : Int) ∧ i ≤ l.length ∧ digl (l.take i) ∧ s.out = digs8 (dval (l.take i)))
    (fun s => ((l.length : Int) - s.i).toNat) _ ?_ _ ⟨0, rfl, rfl, rfl, rfl, by omega, fun _ h => (by simp at h), (by simp [dval, digs8])⟩
  rintro ⟨s', t2, t3, o, i'⟩ ⟨i, h1, h2, h3, h4, h5, h6, h7⟩
  dsimp only at *
  subst h1 h2 h3 h4 h7
  have esz : ((ba l).size : Int) = (l.length : Int) := by rw [ba_size]
  by_cases hi : i < l.length
  · have hi' : (i : Int) < ((ba l).size : Int) := by omega
    have w1 : IntKind.i64.wrap ((i : Int) + 1) = ((i + 1 : Nat) : Int) := by rw [IntWalk.i64_in] <;> omega
    obtain ⟨c, hc⟩ : ∃ c, l[i] = c := ⟨_, rfl⟩
    have hg : ((ba l).data.toList.getD i 0) = c := by rw [ba_data, ← hc]; simp [List.getD, hi]
    have hdt := digl_take l i hi
    have hvt := take_dval l i hi
    rw [hc] at hdt hvt
    by_cases hd : dig c
    · have hd' := hd
      unfold dig at hd'
      have b3 : decide ((c.toNat : Int) < 48) = false := decide_eq_false (by omega)
      have b5 : decide ((c.toNat : Int) > 57) = false := decide_eq_false (by omega)
      have w8 : IntKind.u64.wrap (IntKind.u8.wrap ((c.toNat : Int) - 48)) = ((c.toNat - 48 : Nat) : Int) := by rw [IntKind.wrap_u8, IntKind.wrap_u64]; omega
      have dlt2 : dval (l.take i) < 10 ^ 130 := small_len h6 (by rw [List.length_take]; omega)
      have dlt3 := dval_lt (l.take (i + 1)) (hdt.2 ⟨h6, hd⟩)
      obtain ⟨v1, l1⟩ := digs_val8 (dval (l.take i))
      have e10 : ([10] : List Int) = digs8 10 := by rw [digs_pos8 (by decide)]; simp [digs8]
      obtain ⟨v2, l2⟩ := digs_val8 10
      obtain ⟨m1, m2⟩ := refMul_eq (digs8 (dval (l.take i))) [10] l1 (by rw [e10]; exact l2) (Nat.le_trans (digs8_small dlt2) (by decide)) (by decide)
      have m3 : S.ref01_Mul (digs8 (dval (l.take i))) [10] = digs8 (dval (l.take i) * 10) := by
        rw [m2, e10, v1, v2]; congr 1
      obtain ⟨o1, o2⟩ := ofOne (c.toNat - 48) (by omega)
      have dlt5 : dval (l.take i) * 10 < 10 ^ 131 := by rw [Nat.pow_succ]; omega
      obtain ⟨v3, l3⟩ := digs_val8 (dval (l.take i) * 10)
      obtain ⟨v4, l4⟩ := digs_val8 (c.toNat - 48)
      obtain ⟨a1, a2⟩ := refAdd_eq (digs8 (dval (l.take i) * 10)) (digs8 (c.toNat - 48)) l3 l4 (Nat.le_trans (digs_len8 _ 60 (Nat.lt_of_lt_of_le dlt5 (by decide))) (by decide)) (Nat.le_trans (digs_len8 _ 1 (by omega)) (by decide))
      have a3 : S.ref01_Add (digs8 (dval (l.take i) * 10)) (digs8 (c.toNat - 48)) = digs8 (dval (l.take (i + 1))) := by
        rw [a2, v3, v4, hvt]; congr 1; omega
      refine ⟨?_, ?_⟩
      · simp only [ref02_Number_L0_vcs, All, hi', decide_true, true_implies, and_true, Bool.true_eq_false, false_implies, Int.toNat_natCast, hg, b3, b5, Bool.or_self, Bool.false_eq_true, w8, m3, o2]
        exact ⟨⟨by omega, trivial, by omega⟩, trivial, m1, by omega, trivial, o1, a1⟩
      · simp only [ref02_Number_L0_step, hi', decide_true, cond_true, Int.toNat_natCast, hg, b3, b5, Bool.or_self, cond_false, w8, m3, o2, a3, w1]
        exact ⟨⟨i + 1, trivial, trivial, trivial, rfl, by omega, hdt.2 ⟨h6, hd⟩, rfl⟩, by omega⟩
    · have b35 : (decide ((c.toNat : Int) < 48) || decide ((c.toNat : Int) > 57)) = true := by
        unfold dig at hd
        rw [Bool.or_eq_true, decide_eq_true_iff, decide_eq_true_iff]; omega
      refine ⟨?_, ?_⟩
      · simp only [ref02_Number_L0_vcs, All, hi', decide_true, true_implies, and_true, Bool.true_eq_false, false_implies, Int.toNat_natCast, hg, b35]
        exact ⟨by omega, trivial, fun _ => by omega⟩
      · simp only [ref02_Number_L0_step, hi', decide_true, cond_true, Int.toNat_natCast, hg, b35]
        refine .inl ⟨trivial, trivial, trivial, fun h => hd ?_⟩
        rw [← hc]; exact h _ (List.getElem_mem hi)
  · have hi' : ¬ (i : Int) < ((ba l).size : Int) := by omega
    have e : i = l.length := by omega
    subst e
    refine ⟨by simp [ref02_Number_L0_vcs, hi'], ?_⟩
    simp only [ref02_Number_L0_step, hi', decide_false, cond_false]
    rw [List.take_of_length_le (Nat.le_refl _)] at h6 ⊢
    exact .inr ⟨trivial, trivial, rfl, h6⟩

theorem Number_num (l : List UInt8) (hl : l.length ≤ 130) : S.ref02_Number_pre (ba l) ∧ S.ref02_Number (ba l) = if digl l then (digs8 (dval l), numb l) else ([], false) := by
  obtain ⟨y, hr, hy⟩ := Number_runs l hl
  have e : ref02_Number_L0_run ⟨ba l, [], false, [], 0⟩ = y := theRun_eq (d := fun x => ⟨true, x⟩) hr
  rcases hy with ⟨y1, y2, y3, hn⟩ | ⟨y1, y2, y3, hd⟩
  · rw [if_neg hn]
    refine ⟨?_, ?_⟩
    · simp only [S.ref02_Number_pre, e, All, and_true, y1]
      exact ⟨hr, fun _ => trivial, fun h => by cases h⟩
    · simp only [S.ref02_Number, e, y1, cond_true, y2, y3]
  · rw [if_pos hd]
    obtain ⟨t1, t2⟩ := refText (dval l) 129 (Nat.lt_of_lt_of_le (small_len hd hl) (by decide)) (by decide) (Nat.le_trans (digs8_small (small_len hd hl)) (by decide))
    refine ⟨?_, ?_⟩
    · simp only [S.ref02_Number_pre, e, All, and_true, y1, y2, y3]
      exact ⟨hr, (fun h => by cases h), fun _ _ => t1⟩
    · simp only [S.ref02_Number, e, y1, cond_false, y2, y3, t2, ba_toList]
      have e0 : (⟨#[]⟩ : ByteArray) = ba [] := rfl
      rw [e0, ba_toList]
      have : (!(l == []) && (Lib.decDigits (dval l) == l)) = numb l := by
        unfold numb
        rw [decide_eq_true hd, Bool.true_and, Bool.eq_iff_iff]
        simp only [Bool.and_eq_true, Bool.not_eq_true', beq_iff_eq, decide_eq_true_iff, beq_eq_false_iff_ne]
        exact ⟨fun h => h.2, fun h => ⟨((dec_iff l hd).1 h).1, h⟩⟩
      rw [this]

theorem numb_not {l : List UInt8} (h : ¬ digl l) : numb l = false := by unfold numb; rw [decide_eq_false h]; rfl
theorem numb_digl {l : List UInt8} (h : numb l = true) : digl l := by
  unfold numb at h; simp only [Bool.and_eq_true, decide_eq_true_iff] at h; exact h.1
theorem numb_dec_eq {l : List UInt8} (h : numb l = true) : Lib.decDigits (dval l) = l := by
  unfold numb at h; simp only [Bool.and_eq_true, decide_eq_true_iff] at h; exact h.2

theorem refParse_num (l : List UInt8) (c : Int) (hl : l.length ≤ 130) : S.ref02_Parse_pre (ba l) c ∧ S.ref02_Parse (ba l) c = if numb l then (if fits c (dval l) then (digs8 (dval l), 0) else ([], 10)) else ([], 20) := by
  obtain ⟨n1, n2⟩ := Number_num l hl
  cases hn : numb l with
  | false =>
    have e2 : (S.ref02_Number (ba l)).2 = false := by
      rw [n2]; split
      · exact hn
      · rfl
    refine ⟨?_, ?_⟩
    · simp only [S.ref02_Parse_pre, e2, All, and_true]
      exact ⟨n1, fun _ => trivial, fun h => by cases h⟩
    · simp only [S.ref02_Parse, e2]
      rfl
  | true =>
    have hd := numb_digl hn
    rw [if_pos hd, hn] at n2
    obtain ⟨f1, f2⟩ := refFits c (dval l) (tiny (small_len hd hl))
    refine ⟨?_, ?_⟩
    · simp only [S.ref02_Parse_pre, n2, All, and_true]
      exact ⟨n1, (fun h => by cases h), fun _ => ⟨f1, fun _ => trivial, fun _ => trivial⟩⟩
    · simp only [S.ref02_Parse, n2, f2]
      cases hf : fits c (dval l) <;> simp

theorem SameNat_num (m n : Nat) (hm : (digs8 m).length ≤ 100000) (hn : (digs8 n).length ≤ 100000) (hs : small m) : S.docs_SameNat_pre (num m) (digs8 n) ∧ S.docs_SameNat (num m) (digs8 n) = decide (m = n) := by
  obtain ⟨v, l⟩ := digs_val m
  obtain ⟨o1, o2⟩ := refOf_eq (digs m) l hs
  rw [v, Int.toNat_natCast] at o2
  obtain ⟨c1, c2⟩ := refCmp_eq m n hm hn
  have eA : S.nat_Nat_All (num m) = digs m := All_num m
  refine ⟨?_, ?_⟩
  · simp only [S.docs_SameNat_pre, S.docs_Nat_pre, S.docs_Nat, eA, o2, All, and_true]
    exact ⟨⟨All_pre m hs, o1⟩, c1⟩
  · simp only [S.docs_SameNat, S.docs_Nat, eA, o2, c2]
    rw [Bool.eq_iff_iff, decide_eq_true_iff, beq_iff_eq, sg_zero]
    omega
end DP
