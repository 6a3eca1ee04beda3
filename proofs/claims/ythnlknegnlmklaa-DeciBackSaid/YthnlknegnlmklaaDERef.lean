/-
  Printed by a program out of the plain texts of another seat: what the smaller packages' functions compute, in plain words. Conditions: those that each theorem states.
-/
import Derived.Test.YthnlknegnlmklaaDEDefs
import Derived.Test.YthnlknegnlmklaaDENat
import Derived.IntWalk
import Derived.Lib.ItoaNum
set_option linter.all false
open Go Vm

namespace SD
open S
open S SN
theorem step_div (X B bit : Nat) (hB : 0 < B) (hb : bit ≤ 1) :
    (2 * X + bit) / B = 2 * (X / B) + (if B ≤ 2 * (X % B) + bit then 1 else 0) ∧ (2 * X + bit) % B = if B ≤ 2 * (X % B) + bit then 2 * (X % B) + bit - B else 2 * (X % B) + bit := by
  have h := Nat.div_add_mod X B
  have hr := Nat.mod_lt X hB
  generalize X / B = q at *
  generalize X % B = r at *
  have e : 2 * X + bit = B * (2 * q) + (2 * r + bit) := by rw [← h, Nat.mul_add, ← Nat.mul_assoc, ← Nat.mul_assoc, Nat.mul_comm 2 B]; omega
  by_cases hc : B ≤ 2 * r + bit
  · rw [if_pos hc, if_pos hc]
    have e2 : 2 * X + bit = B * (2 * q + 1) + (2 * r + bit - B) := by rw [e, Nat.mul_add, Nat.mul_one]; omega
    rw [e2, Nat.mul_add_div hB, Nat.mul_add_mod, Nat.div_eq_of_lt (by omega), Nat.mod_eq_of_lt (by omega)]
    exact ⟨by omega, rfl⟩
  · rw [if_neg hc, if_neg hc, e, Nat.mul_add_div hB, Nat.mul_add_mod, Nat.div_eq_of_lt (by omega), Nat.mod_eq_of_lt (by omega)]
    exact ⟨by omega, rfl⟩
/-- What is read when j bits of the byte are. -/
def X (L b : Nat) (j : Nat) : Nat := L * 2 ^ j + b / 2 ^ (8 - j)
theorem X_succ (L b j : Nat) (hj : j < 8) (hb : b < 256) : X L b (j + 1) = 2 * X L b j + (b / 2 ^ (7 - j)) % 2 := by
  unfold X
  have e : b / 2 ^ (8 - j) = b / 2 ^ (7 - j) / 2 := by
    rw [Nat.div_div_eq_div_mul, ← Nat.pow_succ]; congr 2; omega
  rw [show 8 - (j + 1) = 7 - j by omega, e, Nat.pow_succ]
  have := Nat.div_add_mod (b / 2 ^ (7 - j)) 2
  rw [← Nat.mul_assoc]; omega
theorem X_lt (L b B j : Nat) (hL : L < B) (hb : b < 256) (hj : j ≤ 8) : X L b j / B < 2 ^ j := by
  have hB : 0 < B := by omega
  rw [Nat.div_lt_iff_lt_mul hB]
  unfold X
  have h1 : b / 2 ^ (8 - j) < 2 ^ j := by
    rw [Nat.div_lt_iff_lt_mul (Nat.pow_pos (by decide)), ← Nat.pow_add, show j + (8 - j) = 8 by omega]; exact hb
  have h2 : (L + 1) * 2 ^ j ≤ B * 2 ^ j := Nat.mul_le_mul_right _ hL
  rw [Nat.add_mul, Nat.one_mul] at h2
  rw [Nat.mul_comm (2 ^ j) B]
  omega
theorem pow_le8 {j : Nat} (hj : j ≤ 8) : 2 ^ j ≤ 256 := Nat.pow_le_pow_right (by decide) hj
theorem L2_runs (n out : List Int) (L b B i : Nat) (hB : 0 < B) (hB2 : B < 18446744073709551616) (hL : L < B) (hb : b < 256) (hi : i < n.length) (ho : i < out.length) (hn : n.getD i 0 = (b : Int)) (h0 : out.getD i 0 = 0) :
    Runs ref02_Div_L2_step ref02_Div_L2_vcs ⟨n, (B : Int), (L : Int), (i : Int), 128, out⟩ ⟨n, (B : Int), (((256 * L + b) % B : Nat) : Int), (i : Int), 0, out.set i (((256 * L + b) / B : Nat) : Int)⟩ := by
  have hX8 : X L b 8 = 256 * L + b := by simp [X]; omega
  have hX0 : X L b 0 = L := by simp [X]; omega
  have := Runs.count (step := ref02_Div_L2_step) (vcs := ref02_Div_L2_vcs) 8
    (fun j => ⟨n, (B : Int), ((X L b j % B : Nat) : Int), (i : Int), ((128 / 2 ^ j : Nat) : Int), out.set i ((X L b j / B * 2 ^ (8 - j) : Nat) : Int)⟩)
    ⟨n, (B : Int), (((256 * L + b) % B : Nat) : Int), (i : Int), 0, out.set i (((256 * L + b) / B : Nat) : Int)⟩ ?_ ?_
  · have e0 : out.set i ((0 : Nat) : Int) = out := by
      rw [show ((0 : Nat) : Int) = out[i] by rw [List.getD_eq_getElem?_getD, List.getElem?_eq_getElem ho] at h0; exact h0.symm]
      exact List.set_getElem_self ..
    rw [hX0, Nat.mod_eq_of_lt hL, Nat.div_eq_of_lt hL, Nat.zero_mul, e0] at this
    exact this
  · intro j hj
    have hd : (128 / 2 ^ j : Nat) = 2 ^ (7 - j) := by
      rw [show (128 : Nat) = 2 ^ (7 - j) * 2 ^ j by rw [← Nat.pow_add, show 7 - j + j = 7 by omega]]
      exact Nat.mul_div_cancel _ (Nat.pow_pos (by decide))
    have hdp : 0 < 2 ^ (7 - j) := Nat.pow_pos (by decide)
    have hdle : 2 ^ (7 - j) ≤ 128 := by
      have := Nat.pow_le_pow_right (n := 2) (by decide) (show 7 - j ≤ 7 by omega)
      exact this
    have hd2 : (128 / 2 ^ (j + 1) : Nat) = 2 ^ (7 - j) / 2 := by rw [Nat.pow_succ, ← Nat.div_div_eq_div_mul, hd]
    obtain ⟨s1, s2⟩ := step_div (X L b j) B ((b / 2 ^ (7 - j)) % 2) hB (by omega)
    rw [← X_succ L b j hj hb] at s1 s2
    have hr := Nat.mod_lt (X L b j) hB
    have hq := X_lt L b B (j + 1) hL hb (by omega)
    have hbit : (b / 2 ^ (7 - j)) % 2 ≤ 1 := by omega
    have hset : (out.set i ((X L b j / B * 2 ^ (8 - j) : Nat) : Int)).getD i 0 = ((X L b j / B * 2 ^ (8 - j) : Nat) : Int) := by
      simp [List.getD_eq_getElem?_getD, List.getElem?_set, ho]
    have hlen : (out.set i ((X L b j / B * 2 ^ (8 - j) : Nat) : Int)).length = out.length := by simp
    have hsw : IntKind.i64.wrap (b : Int) = b := by rw [IntKind.wrap_i64]; omega
    have htd : Int.tdiv (b : Int) ((2 ^ (7 - j) : Nat) : Int) = ((b / 2 ^ (7 - j) : Nat) : Int) := by
      rw [Int.tdiv_eq_ediv_of_nonneg (by omega)]; simp
    have hbd : b / 2 ^ (7 - j) ≤ b := Nat.div_le_self _ _
    have htw : IntKind.i64.wrap ((b / 2 ^ (7 - j) : Nat) : Int) = ((b / 2 ^ (7 - j) : Nat) : Int) := by
      generalize b / 2 ^ (7 - j) = y at *
      rw [IntKind.wrap_i64]; omega
    have htm : Int.tmod ((b / 2 ^ (7 - j) : Nat) : Int) 2 = (((b / 2 ^ (7 - j)) % 2 : Nat) : Int) := by
      rw [Int.tmod_eq_emod_of_nonneg (Int.natCast_nonneg _)]; simp
    have hd3 : IntKind.i64.wrap (Int.tdiv ((2 ^ (7 - j) : Nat) : Int) 2) = ((2 ^ (7 - j) / 2 : Nat) : Int) := by
      rw [Int.tdiv_eq_ediv_of_nonneg (by omega), IntKind.wrap_i64]; omega
    have hpos : decide (((2 ^ (7 - j) : Nat) : Int) > 0) = true := by rw [decide_eq_true_iff]; omega
    have h28 : 2 ^ (8 - j) = 2 * 2 ^ (7 - j) := by rw [show 8 - j = (7 - j) + 1 by omega, Nat.pow_succ]; omega
    have hqm : X L b (j + 1) / B * 2 ^ (7 - j) ≤ 255 := by
      have h1 : X L b (j + 1) / B + 1 ≤ 2 ^ (j + 1) := hq
      have h2 : (X L b (j + 1) / B + 1) * 2 ^ (7 - j) ≤ 2 ^ (j + 1) * 2 ^ (7 - j) := Nat.mul_le_mul_right _ h1
      rw [← Nat.pow_add, show j + 1 + (7 - j) = 8 by omega, Nat.add_mul, Nat.one_mul] at h2
      omega
    have hmul : X L b (j + 1) / B * 2 ^ (7 - j) = X L b j / B * 2 ^ (8 - j) + (if B ≤ 2 * (X L b j % B) + b / 2 ^ (7 - j) % 2 then 2 ^ (7 - j) else 0) := by
      rw [s1, h28, Nat.add_mul]
      congr 1
      · rw [Nat.mul_assoc, Nat.mul_left_comm]
      · split <;> simp
    simp only [hd, hd2]
    generalize hbv : b / 2 ^ (7 - j) % 2 = bit at *
    generalize hrv : X L b j % B = r at *
    generalize hqv : X L b j / B * 2 ^ (8 - j) = Q at *
    generalize hdv : 2 ^ (7 - j) = d at *
    have hp : ∀ (h : B ≤ 2 * r + bit), ((decide ((r : Int) ≥ 9223372036854775808)) || (decide (IntKind.u64.wrap (IntKind.u64.wrap ((r : Int) * 2) + IntKind.u64.wrap (bit : Int)) ≥ (B : Int)))) = true := fun h => by
      rw [Bool.or_eq_true, decide_eq_true_iff, decide_eq_true_iff, IntKind.wrap_u64, IntKind.wrap_u64, IntKind.wrap_u64]; omega
    have hp' : ∀ (h : ¬ B ≤ 2 * r + bit), ((decide ((r : Int) ≥ 9223372036854775808)) || (decide (IntKind.u64.wrap (IntKind.u64.wrap ((r : Int) * 2) + IntKind.u64.wrap (bit : Int)) ≥ (B : Int)))) = false := fun h => by
      rw [Bool.or_eq_false_iff, decide_eq_false_iff_not, decide_eq_false_iff_not, IntKind.wrap_u64, IntKind.wrap_u64, IntKind.wrap_u64]; omega
    refine ⟨?_, ?_⟩
    · simp only [ref02_Div_L2_vcs, Int.toNat_natCast, hn, hsw, htd, htw, htm, hpos, All, and_true, true_implies, Bool.true_eq_false, false_implies, hlen]
      exact ⟨by omega, by omega, by omega, fun _ => ⟨by omega, by omega, by omega, by omega⟩⟩
    · simp only [ref02_Div_L2_step, Int.toNat_natCast, hn, hsw, htd, htw, htm, hpos, hset, hd3, cond_true]
      by_cases hc : B ≤ 2 * r + bit
      · rw [hp hc]
        rw [if_pos hc] at s2 hmul
        have w1 : IntKind.u64.wrap (IntKind.u64.wrap (IntKind.u64.wrap ((r : Int) * 2) + IntKind.u64.wrap (bit : Int)) - (B : Int)) = ((2 * r + bit - B : Nat) : Int) := by
          rw [IntKind.wrap_u64, IntKind.wrap_u64, IntKind.wrap_u64, IntKind.wrap_u64]; omega
        have w2 : IntKind.u8.wrap (((Q : Nat) : Int) + IntKind.u8.wrap ((d : Nat) : Int)) = ((Q + d : Nat) : Int) := by
          rw [IntKind.wrap_u8, IntKind.wrap_u8]; omega
        rw [show 8 - (j + 1) = 7 - j by omega, hdv, hmul, s2]
        simp only [cond_true, w1, w2, List.set_set]
      · rw [hp' hc]
        rw [if_neg hc] at s2 hmul
        have w1 : IntKind.u64.wrap (IntKind.u64.wrap ((r : Int) * 2) + IntKind.u64.wrap (bit : Int)) = ((2 * r + bit : Nat) : Int) := by
          rw [IntKind.wrap_u64, IntKind.wrap_u64, IntKind.wrap_u64]; omega
        rw [show 8 - (j + 1) = 7 - j by omega, hdv, hmul, s2]
        simp only [cond_false, w1, Nat.add_zero]
  · refine ⟨by simp [ref02_Div_L2_vcs], ?_⟩
    simp [ref02_Div_L2_step, hX8]
/-- The quotient's bytes. -/
def Qf (B : Nat) : List Int → List Int
  | [] => []
  | b :: t => (((256 * ((val8 t).toNat % B) + b.toNat) / B : Nat) : Int) :: Qf B t
theorem Qf_len (B : Nat) : ∀ l, (Qf B l).length = l.length
  | [] => rfl
  | b :: t => by simp [Qf, Qf_len B t]
theorem Qf_spec (B : Nat) (hB : 0 < B) : ∀ l, lim8 l → lim8 (Qf B l) ∧ (val8 (Qf B l)).toNat = (val8 l).toNat / B
  | [], _ => ⟨lim_nil8, by simp [Qf, val8]⟩
  | b :: t, h => by
    obtain ⟨hb, ht⟩ := lim_cons8.1 h
    obtain ⟨i1, i2⟩ := Qf_spec B hB t ht
    have v1 := val_nonneg8 i1
    have v2 := val_nonneg8 ht
    have hW := Nat.div_add_mod (val8 t).toNat B
    have hL := Nat.mod_lt (val8 t).toNat hB
    have hlt : (256 * ((val8 t).toNat % B) + b.toNat) / B < 256 := by
      rw [Nat.div_lt_iff_lt_mul hB]; omega
    refine ⟨lim_cons8.2 ⟨⟨Int.natCast_nonneg _, by omega⟩, i1⟩, ?_⟩
    have e1 : (val8 (Qf B (b :: t))).toNat = (256 * ((val8 t).toNat % B) + b.toNat) / B + 256 * ((val8 t).toNat / B) := by
      rw [← i2]
      simp only [Qf, val8]
      generalize (256 * ((val8 t).toNat % B) + b.toNat) / B = x
      omega
    have e2 : (val8 (b :: t)).toNat = B * (256 * ((val8 t).toNat / B)) + (256 * ((val8 t).toNat % B) + b.toNat) := by
      simp only [val8]
      rw [Nat.mul_left_comm]
      omega
    rw [e1, e2, Nat.mul_add_div hB]
    omega
theorem val_step (B : Nat) (hB : 0 < B) (b : Int) (t : List Int) (h : lim8 (b :: t)) : (val8 (b :: t)).toNat % B = (256 * ((val8 t).toNat % B) + b.toNat) % B := by
  obtain ⟨hb, ht⟩ := lim_cons8.1 h
  have v2 := val_nonneg8 ht
  have e2 : (val8 (b :: t)).toNat = 256 * (val8 t).toNat + b.toNat := by simp only [val8]; omega
  rw [e2]
  simp [Nat.add_mod, Nat.mul_mod]
theorem L0_runs (n : List Int) (hn : lim8 n) (hl : n.length ≤ 1000000) (B : Nat) (hB : 0 < B) (hB2 : B < 18446744073709551616) :
    Runs ref02_Div_L0_step ref02_Div_L0_vcs ⟨n, (B : Int), 0, (n.length : Int) - 1, List.replicate n.length 0⟩ ⟨n, (B : Int), (((val8 n).toNat % B : Nat) : Int), -1, Qf B n⟩ := by
  have := Runs.count (step := ref02_Div_L0_step) (vcs := ref02_Div_L0_vcs) n.length
    (fun j => ⟨n, (B : Int), (((val8 (n.drop (n.length - j))).toNat % B : Nat) : Int), (n.length : Int) - 1 - (j : Int), List.replicate (n.length - j) 0 ++ Qf B (n.drop (n.length - j))⟩)
    ⟨n, (B : Int), (((val8 n).toNat % B : Nat) : Int), -1, Qf B n⟩ ?_ ?_
  · have e : n.drop (n.length - 0) = [] := by simp
    rw [e] at this
    simpa [Qf, val8] using this
  · intro j hj
    obtain ⟨i, hi⟩ : ∃ i, n.length - j = i + 1 := ⟨n.length - j - 1, by omega⟩
    have hi1 : n.length - (j + 1) = i := by omega
    have hin : i < n.length := by omega
    have hI : (n.length : Int) - 1 - (j : Int) = (i : Int) := by omega
    have hI2 : (n.length : Int) - 1 - ((j + 1 : Nat) : Int) = (i : Int) - 1 := by omega
    rw [hi, hi1, hI, hI2]
    have hdrop : n.drop i = n[i] :: n.drop (i + 1) := List.drop_eq_getElem_cons hin
    have hlim : lim8 (n.drop i) := fun x hx => hn x (List.mem_of_mem_drop hx)
    rw [hdrop] at hlim
    obtain ⟨hb, ht⟩ := lim_cons8.1 hlim
    have hg : n.getD i 0 = n[i] := by rw [List.getD_eq_getElem?_getD, List.getElem?_eq_getElem hin]; rfl
    have hr := L2_runs n (List.replicate (i + 1) 0 ++ Qf B (n.drop (i + 1))) ((val8 (n.drop (i + 1))).toNat % B) n[i].toNat B i hB hB2 (Nat.mod_lt _ hB) (by omega) hin (by simp; omega) (by rw [hg]; omega) (by
      rw [List.getD_eq_getElem?_getD, List.getElem?_append_left (by simp), List.getElem?_replicate, if_pos (by omega)]; rfl)
    have e : ref02_Div_L2_run ⟨n, (B : Int), (((val8 (n.drop (i + 1))).toNat % B : Nat) : Int), (i : Int), 128, List.replicate (i + 1) 0 ++ Qf B (n.drop (i + 1))⟩ = _ := theRun_eq (d := fun x => x) hr
    have hge : decide ((i : Int) ≥ 0) = true := by rw [decide_eq_true_iff]; omega
    have hw : IntKind.i64.wrap ((i : Int) - 1) = (i : Int) - 1 := by rw [IntKind.wrap_i64]; omega
    refine ⟨?_, ?_⟩
    · simp only [ref02_Div_L0_vcs, e, hge, All, and_true, true_implies, Bool.true_eq_false, false_implies]
      exact hr
    · simp only [ref02_Div_L0_step, e, hge, cond_true, hw]
      have h1 := val_step B hB n[i] (n.drop (i + 1)) hlim
      rw [hdrop, h1]
      have h2 : (List.replicate (i + 1) (0 : Int) ++ Qf B (n.drop (i + 1))).set i (((256 * ((val8 (n.drop (i + 1))).toNat % B) + n[i].toNat) / B : Nat) : Int) = List.replicate i 0 ++ Qf B (n[i] :: n.drop (i + 1)) := by
        rw [List.replicate_succ', List.append_assoc, List.set_append_right _ _ (by simp)]
        simp [Qf]
      rw [h2]
  · refine ⟨?_, ?_⟩
    · have : decide ((n.length : Int) - 1 - (n.length : Int) ≥ 0) = false := by rw [decide_eq_false_iff_not]; omega
      simp only [ref02_Div_L0_vcs, this]
      exact ⟨(fun h => by cases h), fun _ => trivial⟩
    · have h1 : (n.length : Int) - 1 - (n.length : Int) = -1 := by omega
      simp [ref02_Div_L0_step, h1]
theorem refDiv (m : Nat) (B : Nat) (hB : 0 < B) (hB2 : B < 18446744073709551616) (hl : (digs8 m).length ≤ 500000) :
    S.ref02_Div_pre (digs8 m) (B : Int) ∧ S.ref02_Div (digs8 m) (B : Int) = (digs8 (m / B), ((m % B : Nat) : Int), 0) := by
  obtain ⟨v8, l8⟩ := digs_val8 m
  have hr := L0_runs (digs8 m) l8 (by omega) B hB hB2
  have e : ref02_Div_L0_run ⟨digs8 m, (B : Int), 0, ((digs8 m).length : Int) - 1, List.replicate (digs8 m).length 0⟩ = _ := theRun_eq (d := fun x => x) hr
  have hw : IntKind.i64.wrap (((digs8 m).length : Int) - 1) = ((digs8 m).length : Int) - 1 := by rw [IntKind.wrap_i64]; omega
  have hz : ((B : Int) == 0) = false := beq_eq_false_iff_ne.2 (by omega)
  obtain ⟨q1, q2⟩ := Qf_spec B hB (digs8 m) l8
  obtain ⟨y, hy, h1, h2, h3⟩ := LimbsL0_runs (Qf B (digs8 m)) q1 (by rw [Qf_len]; omega)
  have ey : ref01_Limbs_L0_run ⟨Qf B (digs8 m), 0, []⟩ = y := theRun_eq (d := fun x => x) hy
  have eL : S.ref01_Limbs (Qf B (digs8 m)) = y.out := by simp only [ref01_Limbs, ey]
  have pL : S.ref01_Limbs_pre (Qf B (digs8 m)) := by simp only [ref01_Limbs_pre, All, ey, and_true]; exact hy
  rw [Qf_len] at h3
  obtain ⟨o1, o2⟩ := refOf_eq y.out h1 (by omega)
  have hv : (val y.out).toNat = m / B := by rw [h2, q2, v8]; rfl
  rw [hv] at o2
  rw [v8] at hr e
  refine ⟨?_, ?_⟩
  · simp only [ref02_Div_pre, hz, hw, Int.toNat_natCast, e, eL, All, and_true, Bool.false_eq_true, false_implies, true_and, true_implies]
    exact ⟨by omega, by omega, hr, pL, o1⟩
  · simp only [ref02_Div, hz, hw, Int.toNat_natCast, e, eL, o2, cond_false]
open S SN
def ba (l : List UInt8) : ByteArray := ⟨l.toArray⟩
theorem ba_app (a b : List UInt8) : ba a ++ ba b = ba (a ++ b) := by
  apply ByteArray.ext
  simp [ba]
theorem ba_size (l : List UInt8) : (ba l).size = l.length := by simp [ba, ByteArray.size]
theorem ba_one (x : Int) : ([x] : List Int).foldl (fun r n => r.push (UInt8.ofNat (Int.toNat n))) ByteArray.empty = ba [UInt8.ofNat x.toNat] := by
  simp only [List.foldl_cons, List.foldl_nil]
  rfl
theorem dec_small {m : Nat} (h : m < 10) : Lib.decDigits m = [UInt8.ofNat (48 + m)] := by rw [Lib.decDigits, dif_pos h]
theorem dec_big {m : Nat} (h : ¬ m < 10) : Lib.decDigits m = Lib.decDigits (m / 10) ++ [UInt8.ofNat (48 + m % 10)] := by rw [Lib.decDigits, dif_neg h]
theorem dec_len : ∀ (k m : Nat), m < 10 ^ (k + 1) → (Lib.decDigits m).length ≤ k + 1
  | 0, m, h => by rw [dec_small (by simpa using h)]; simp
  | k + 1, m, h => by
    by_cases h1 : m < 10
    · rw [dec_small h1]; simp
    · rw [dec_big h1, List.length_append]
      have := dec_len k (m / 10) (by rw [Nat.pow_succ] at h; omega)
      simp; omega
theorem digs8_nil {m : Nat} : ((digs8 m).length : Int) == 0 ↔ m = 0 := by
  rw [beq_iff_eq]
  constructor
  · intro h
    have h1 : digs8 m = [] := List.length_eq_zero_iff.1 (by omega)
    have := (digs_val8 m).1
    rw [h1] at this; simp [val8] at this; omega
  · rintro rfl; simp [digs8]
theorem digs8_len_le {a b : Nat} (h : a ≤ b) : (digs8 a).length ≤ (digs8 b).length := by
  refine digs_len8 a _ ?_
  have := val_lt8' b
  omega
where
  val_lt8' (b : Nat) : b < 256 ^ (digs8 b).length := by
    induction b using Nat.strongRecOn with
    | ind b ih =>
      rcases Nat.eq_zero_or_pos b with rfl | hb
      · simp [digs8]
      · rw [digs_pos8 hb, List.length_cons, Nat.pow_succ]
        have := ih (b / 256) (by omega)
        omega
theorem tens (x : Nat) (hx : x < 10) : (IntKind.u8.wrap (IntKind.u64.wrap (48 + (x : Int)))).toNat = 48 + x := by
  rw [IntKind.wrap_u64, IntKind.wrap_u8]; omega
theorem Text_F (n : Nat) : ∀ m : Nat, (digs8 m).length ≤ 500000 → S.ref02_Text_D n (digs8 m) → S.ref02_Text_F n (digs8 m) = ba (Lib.decDigits m) := by
  induction n with
  | zero => intro m _ h; exact h.elim
  | succ n ih =>
    intro m hl h
    obtain ⟨d1, d2⟩ := refDiv m 10 (by decide) (by decide) hl
    have d2' : S.ref02_Div (digs8 m) 10 = (digs8 (m / 10), ((m % 10 : Nat) : Int), 0) := d2
    have hm : m % 10 < 10 := Nat.mod_lt _ (by decide)
    simp only [ref02_Text_D, d2', All, and_true] at h
    simp only [ref02_Text_F, d2', ba_one, tens _ hm]
    by_cases h0 : m = 0
    · subst h0
      have e : (((digs8 0).length : Int) == 0) = true := digs8_nil.2 rfl
      rw [e, cond_true, dec_small (by decide)]; rfl
    · have e : (((digs8 m).length : Int) == 0) = false := by
        cases hb : (((digs8 m).length : Int) == 0) with
        | false => rfl
        | true => exact absurd (digs8_nil.1 hb) h0
      rw [e, cond_false]
      by_cases h1 : m / 10 = 0
      · have e1 : (((digs8 (m / 10)).length : Int) == 0) = true := digs8_nil.2 h1
        have : m < 10 := by omega
        rw [e1, cond_true, dec_small this, Nat.mod_eq_of_lt this]
      · have e1 : (((digs8 (m / 10)).length : Int) == 0) = false := by
          cases hb : (((digs8 (m / 10)).length : Int) == 0) with
          | false => rfl
          | true => exact absurd (digs8_nil.1 hb) h1
        rw [e1, cond_false, dec_big (by omega)]
        have hl2 := digs8_len_le (Nat.div_le_self m 10)
        rw [ih (m / 10) (by omega) ((h.2 e).2.2 e1).1, ba_app]
theorem Text_D : ∀ (k m : Nat), m < 10 ^ (k + 1) → k ≤ 1000000 → (digs8 m).length ≤ 500000 → S.ref02_Text_D (k + 1) (digs8 m)
  | k, m, h, hk, hl => by
    obtain ⟨d1, d2⟩ := refDiv m 10 (by decide) (by decide) hl
    have d2' : S.ref02_Div (digs8 m) 10 = (digs8 (m / 10), ((m % 10 : Nat) : Int), 0) := d2
    have hm : m % 10 < 10 := Nat.mod_lt _ (by decide)
    simp only [ref02_Text_D, d2', All, and_true, ba_one, tens _ hm]
    refine ⟨fun _ => trivial, fun _ => ⟨d1, fun _ => trivial, fun e1 => ?_⟩⟩
    have h1 : m / 10 ≠ 0 := fun h => by rw [digs8_nil.2 h] at e1; cases e1
    have hl2 := digs8_len_le (Nat.div_le_self m 10)
    cases k with
    | zero => simp at h; omega
    | succ k =>
      have hlt : m / 10 < 10 ^ (k + 1) := by rw [Nat.pow_succ] at h; omega
      have hD := Text_D k (m / 10) hlt (by omega) (by omega)
      refine ⟨hD, ?_⟩
      rw [Text_F (k + 1) (m / 10) (by omega) hD, ba_size, ba_size]
      have := dec_len k (m / 10) hlt
      have e : IntKind.i64.max = 9223372036854775807 := by decide
      rw [e]; simp; omega
theorem refText (m : Nat) (k : Nat) (h : m < 10 ^ (k + 1)) (hk : k ≤ 1000000) (hl : (digs8 m).length ≤ 500000) : S.ref02_Text_pre (digs8 m) ∧ S.ref02_Text (digs8 m) = ba (Lib.decDigits m) := by
  have hp : S.ref02_Text_pre (digs8 m) := ⟨_, Text_D k m h hk hl⟩
  exact ⟨hp, Text_F _ m hl (Classical.epsilon_spec hp)⟩
theorem ofOne (x : Nat) (hx : x < 18446744073709551616) : S.ref01_Of_pre [(x : Int)] ∧ S.ref01_Of [(x : Int)] = digs8 x := by
  obtain ⟨p, e⟩ := refOf_eq [(x : Int)] (lim_cons.2 ⟨by omega, lim_nil⟩) (by simp)
  refine ⟨p, ?_⟩
  rw [e]; simp [SN.val]
theorem itoa_len (n : Int) (h : -9223372036854775808 ≤ n ∧ n ≤ 9223372036854775807) : (Lib.itoa n).length ≤ 21 := by
  unfold Lib.itoa
  split
  · have := dec_len 19 n.natAbs (by omega)
    simp; omega
  · have := dec_len 19 n.toNat (by omega)
    omega
theorem refWhole (n : Int) (h : -9223372036854775808 ≤ n ∧ n ≤ 9223372036854775807) : S.ref02_Whole_pre n ∧ S.ref02_Whole n = ba (Lib.itoa n) := by
  by_cases hn : n < 0
  · have hw : IntKind.u64.wrap (IntKind.i64.wrap (0 - n)) = (n.natAbs : Int) := by rw [IntKind.wrap_i64, IntKind.wrap_u64]; omega
    obtain ⟨o1, o2⟩ := ofOne n.natAbs (by omega)
    obtain ⟨t1, t2⟩ := refText n.natAbs 19 (by omega) (by omega) (Nat.le_trans (digs_len8 _ 8 (by omega)) (by decide))
    have e : (⟨#[45]⟩ : ByteArray) = ba [45] := rfl
    refine ⟨?_, ?_⟩
    · simp only [ref02_Whole_pre, decide_eq_true hn, hw, o2, t2, e, ba_size, All, and_true]
      refine ⟨fun _ => ⟨o1, t1, ?_⟩, fun h => by cases h⟩
      have := dec_len 19 n.natAbs (by omega)
      have e : IntKind.i64.max = 9223372036854775807 := by decide
      rw [e]; simp; omega
    · simp only [ref02_Whole, decide_eq_true hn, hw, o2, t2, e, cond_true, ba_app]
      unfold Lib.itoa
      rw [if_pos hn]; rfl
  · have hw : IntKind.u64.wrap n = (n.toNat : Int) := by rw [IntKind.wrap_u64]; omega
    obtain ⟨o1, o2⟩ := ofOne n.toNat (by omega)
    obtain ⟨t1, t2⟩ := refText n.toNat 19 (by omega) (by omega) (Nat.le_trans (digs_len8 _ 8 (by omega)) (by decide))
    refine ⟨?_, ?_⟩
    · simp only [ref02_Whole_pre, decide_eq_false hn, hw, o2, All, and_true]
      exact ⟨(fun h => by cases h), fun _ => ⟨o1, t1⟩⟩
    · simp only [ref02_Whole, decide_eq_false hn, hw, o2, t2, cond_false]
      unfold Lib.itoa
      rw [if_neg hn]
end SD
