/-
  Sums, differences and products are the reference's, also under a cap.
-/
import Derived.Test.YthgfoemcjkokjaaNatPlain15
import Derived.Test.YthgfoemcjkokjaaNatPlain7
set_option linter.all false
open Go Vm
namespace S

theorem nil8 : ([] : List Int) = digs8 0 := by simp [digs8]
theorem Sum0 : S.nat_Sum_pre [] ∧ S.nat_Sum [] = num 0 := by
  have hr : Runs nat_Sum_L0_step nat_Sum_L0_vcs ⟨[], 0, 0, ⟨[]⟩⟩ ⟨[], 0, 0, ⟨[]⟩⟩ := .done _ _ (by simp [nat_Sum_L0_vcs]) (by simp [nat_Sum_L0_step])
  have e : nat_Sum_L0_run ⟨[], 0, 0, ⟨[]⟩⟩ = ⟨[], 0, 0, ⟨[]⟩⟩ := theRun_eq (d := fun x => x) hr
  refine ⟨?_, ?_⟩
  · simp only [nat_Sum_pre, All, and_true]
    show Runs nat_Sum_L0_step nat_Sum_L0_vcs ⟨[], 0, 0, ⟨[]⟩⟩ (nat_Sum_L0_run ⟨[], 0, 0, ⟨[]⟩⟩)
    rw [e]; exact hr
  · show (nat_Sum_L0_run ⟨[], 0, 0, ⟨[]⟩⟩).sum = num 0
    rw [e, num_nil]
theorem Sum3 (m n : Nat) (hm : upto 40 m) (hn : upto 40 n) : S.nat_Sum_pre [num m, num n, num m] ∧ S.nat_Sum [num m, num n, num m] = num (m + n + m) := by
  have sm : small m := upto_pow hm (by omega)
  have sn : small n := upto_pow hn (by omega)
  have smn : small (m + n) := upto_pow (upto_add hm hn) (by omega)
  have s0 : small 0 := s1 (by omega)
  obtain ⟨a1, b1⟩ := nAdd 0 m s0 sm
  rw [Nat.zero_add] at b1
  obtain ⟨a2, b2⟩ := nAdd m n sm sn
  obtain ⟨a3, b3⟩ := nAdd (m + n) m smn sm
  have st : ∀ (i : Nat) (v e r : S.Num), i < 3 → ([num m, num n, num m] : List S.Num).getD i ⟨[]⟩ = e → S.nat_Add_pre v e → S.nat_Add v e = r →
      nat_Sum_L0_vcs ⟨[num m, num n, num m], 3, (i : Int), v⟩ ∧ nat_Sum_L0_step ⟨[num m, num n, num m], 3, (i : Int), v⟩ = .inl ⟨[num m, num n, num m], 3, ((i + 1 : Nat) : Int), r⟩ := by
    intro i v e r hi h1 h2 h3
    have hi' : (i : Int) < 3 := by omega
    have w1 : IntKind.i64.wrap ((i : Int) + 1) = ((i + 1 : Nat) : Int) := by rw [IntWalk.i64_in] <;> omega
    refine ⟨?_, ?_⟩
    · simp only [nat_Sum_L0_vcs, All, hi', decide_true, true_implies, and_true, Bool.true_eq_false, false_implies, Int.toNat_natCast, h1, List.length_cons, List.length_nil]
      exact ⟨by omega, by omega, h2⟩
    · simp only [nat_Sum_L0_step, hi', decide_true, cond_true, Int.toNat_natCast, h1, h3, w1]
  obtain ⟨v0, t0⟩ := st 0 (num 0) (num m) _ (by omega) rfl a1 b1
  obtain ⟨v1, t1⟩ := st 1 (num m) (num n) _ (by omega) rfl a2 b2
  obtain ⟨v2, t2⟩ := st 2 (num (m + n)) (num m) _ (by omega) rfl a3 b3
  have hr : Runs nat_Sum_L0_step nat_Sum_L0_vcs ⟨[num m, num n, num m], 3, 0, ⟨[]⟩⟩ ⟨[num m, num n, num m], 3, 3, num (m + n + m)⟩ := by
    rw [num_nil]
    exact .next _ _ _ v0 t0 (.next _ _ _ v1 t1 (.next _ _ _ v2 t2 (.done _ _ (by simp [nat_Sum_L0_vcs]) (by simp [nat_Sum_L0_step]))))
  have e : nat_Sum_L0_run ⟨[num m, num n, num m], 3, 0, ⟨[]⟩⟩ = ⟨[num m, num n, num m], 3, 3, num (m + n + m)⟩ := theRun_eq (d := fun x => x) hr
  refine ⟨?_, ?_⟩
  · show All [Runs nat_Sum_L0_step nat_Sum_L0_vcs ⟨[num m, num n, num m], 3, 0, ⟨[]⟩⟩ (nat_Sum_L0_run ⟨[num m, num n, num m], 3, 0, ⟨[]⟩⟩)] ∧ True
    rw [e]; exact ⟨hr, trivial⟩
  · show (nat_Sum_L0_run ⟨[num m, num n, num m], 3, 0, ⟨[]⟩⟩).sum = _
    rw [e]

def fits (c : Int) (x : Nat) : Bool := decide (((digs x).length : Int) ≤ if c > 0 then c else 0)
theorem Fits_num (c : Int) (x : Nat) : S.nat_Cap_Fits c (num x) = fits c x := rfl
theorem fit_num (c : Int) (x : Nat) : S.nat_Cap_fit c (num x) = bif fits c x then (num x, true) else (num 0, false) := by
  simp only [nat_Cap_fit, Fits_num, num_nil]
  cases fits c x <;> rfl
theorem refFits (c : Int) (x : Nat) (h : small x) : S.ref01_Fits_pre (digs8 x) c ∧ S.ref01_Fits (digs8 x) c = fits c x := by
  obtain ⟨p, q⟩ := refLimbs_eq x h
  refine ⟨by simp only [ref01_Fits_pre, All, and_true]; exact p, ?_⟩
  show decide (((S.ref01_Limbs (digs8 x)).length : Int) ≤ if c > 0 then c else 0) = _
  rw [q]; rfl

theorem NatReckons_law (a b : List Int) (c : Int) (ga : (∀ x ∈ a, inr .u64 x) ∧ a.length ≤ maxLen) (gb : (∀ x ∈ b, inr .u64 x) ∧ b.length ≤ maxLen) (_ : inr .i64 c) :
    S.law01_NatReckons_pre a b c ∧ S.law01_NatReckons a b c = true := by
  obtain ⟨wp, wv⟩ := works_both
  by_cases h3 : (decide ((a.length : Int) > 40) || decide ((b.length : Int) > 40)) = true
  · refine ⟨?_, ?_⟩
    · simp only [law01_NatReckons_pre, All, h3, wp, Bool.true_eq_false, false_implies, implies_true, and_self]
    · simp only [law01_NatReckons, h3, wv, cond_true]
  · have h3 : (decide ((a.length : Int) > 40) || decide ((b.length : Int) > 40)) = false := by simpa using h3
    have hl : a.length ≤ 40 ∧ b.length ≤ 40 := by
      simp only [Bool.or_eq_false_iff, decide_eq_false_iff_not] at h3; omega
    obtain ⟨la, lb⟩ := hl
    obtain ⟨pa, ea, _⟩ := nLimbs a (lim_of ga.1) (by omega)
    obtain ⟨pb, eb, _⟩ := nLimbs b (lim_of gb.1) (by omega)
    obtain ⟨oa, fa⟩ := refOf_eq a (lim_of ga.1) (by omega)
    obtain ⟨ob, fb⟩ := refOf_eq b (lim_of gb.1) (by omega)
    have um := upto_mono (upto_val a (lim_of ga.1)) la
    have un := upto_mono (upto_val b (lim_of gb.1)) lb
    generalize (val a).toNat = m at *
    generalize (val b).toNat = n at *
    have umn := upto_add um un
    have xmn := upto_mul um un
    have umnm := upto_add umn (upto_mono um (show 40 ≤ 41 by omega))
    have usub : upto 40 (m - n) := Nat.lt_of_le_of_lt (Nat.sub_le _ _) um
    have u0 : upto 40 0 := by unfold upto; exact Nat.pow_pos (by omega)
    have L : ∀ {k t : Nat}, upto k t → k ≤ 200 → (digs t).length ≤ 10000 := fun h hk => Nat.le_trans (digs_len _ _ h) (by omega)
    have L8 : ∀ {k t : Nat}, upto k t → k ≤ 200 → (digs8 t).length ≤ 100000 := fun {k t} h hk => by have := bytes_len t; have := digs_len _ _ h; omega
    have sm := upto_pow um (by omega)
    have sn := upto_pow un (by omega)
    have smn := upto_pow umn (by omega)
    have tmn := upto_pow xmn (by omega)
    obtain ⟨vm, lm⟩ := digs_val8 m; obtain ⟨vn, ln⟩ := digs_val8 n; obtain ⟨vmn, lmn⟩ := digs_val8 (m + n)
    obtain ⟨r1, t1⟩ := refAdd_eq (digs8 m) (digs8 n) lm ln (L8 um (by omega)) (L8 un (by omega))
    obtain ⟨r2, t2⟩ := refMul_eq (digs8 m) (digs8 n) lm ln (L8 um (by omega)) (L8 un (by omega))
    obtain ⟨r3, t3⟩ := refAdd_eq (digs8 (m + n)) (digs8 m) lmn lm (L8 umn (by omega)) (L8 um (by omega))
    rw [vm, vn, show ((m : Int) + (n : Int)).toNat = m + n by omega] at t1
    rw [vm, vn, show ((m : Int) * (n : Int)).toNat = m * n by rw [← Int.natCast_mul]; rfl] at t2
    rw [vm, vmn, show (((m + n : Nat) : Int) + (m : Int)).toNat = m + n + m by omega] at t3
    obtain ⟨c1, c2⟩ := refCmp_eq m n (L8 um (by omega)) (L8 un (by omega))
    obtain ⟨s1', s2'⟩ := nSub m n sm sn
    obtain ⟨a1, a2⟩ := nAdd m n sm sn
    obtain ⟨m1, m2⟩ := nMul m n sm sn
    obtain ⟨S3p, S3⟩ := Sum3 m n um un
    obtain ⟨S0p, S0⟩ := Sum0
    have is1 : ∀ {k t : Nat}, upto k t → k ≤ 200 → S.law01_is_pre (num t) (digs8 t) ∧ S.law01_is (num t) (digs8 t) = true := fun {k t} h hk => by
      obtain ⟨p, q⟩ := is_eq t t (L h hk) (L8 h hk)
      exact ⟨p, by rw [q]; simp⟩
    obtain ⟨i1, j1⟩ := is1 umn (by omega)
    obtain ⟨i2, j2⟩ := is1 xmn (by omega)
    obtain ⟨i3, j3⟩ := is1 umnm (by omega)
    obtain ⟨i4, j4⟩ := is1 u0 (by omega)
    obtain ⟨i5, j5⟩ := is1 um (by omega)
    obtain ⟨i6, j6⟩ := is1 un (by omega)
    obtain ⟨i7, j7⟩ := is1 usub (by omega)
    rw [← nil8] at i4 j4
    obtain ⟨F1p, F1⟩ := refFits c (m + n) smn
    obtain ⟨F2p, F2⟩ := refFits c (m * n) tmn
    obtain ⟨F3p, F3⟩ := refFits c m sm
    have CA : S.nat_Cap_Add c (num m) (num n) = bif fits c (m + n) then (num (m + n), true) else (num 0, false) := by
      simp only [nat_Cap_Add, a2, fit_num]
    have CAp : S.nat_Cap_Add_pre c (num m) (num n) := by simp only [nat_Cap_Add_pre, All, and_true]; exact a1
    have CM : S.nat_Cap_Mul c (num m) (num n) = bif fits c (m * n) then (num (m * n), true) else (num 0, false) := by
      simp only [nat_Cap_Mul, m2, fit_num]
    have CMp : S.nat_Cap_Mul_pre c (num m) (num n) := by simp only [nat_Cap_Mul_pre, All, and_true]; exact m1
    have hsub : (m < n ∧ decide (sg ((m : Int) - n) < 0) = true ∧ S.nat_Sub (num m) (num n) = (num 0, 11)) ∨ (¬ m < n ∧ decide (sg ((m : Int) - n) < 0) = false ∧ S.nat_Sub (num m) (num n) = (num (m - n), 0)) := by
      by_cases h : m < n
      · exact .inl ⟨h, decide_eq_true (by unfold sg; rw [if_pos (by omega)]; decide), by rw [s2', if_pos h, num_nil]⟩
      · exact .inr ⟨h, decide_eq_false (by unfold sg; rw [if_neg (by omega)]; split <;> omega), by rw [s2', if_neg h]⟩
    have rsub : ¬ m < n → S.ref01_Sub_pre (digs8 m) (digs8 n) ∧ S.ref01_Sub (digs8 m) (digs8 n) = digs8 (m - n) := fun h => refSub_eq m n (L8 um (by omega)) (by omega)
    rcases hsub with ⟨h, hd, hs⟩ | ⟨h, hd, hs⟩
    · refine ⟨?_, ?_⟩
      · cases h1 : fits c (m + n) <;> cases h2 : fits c (m * n) <;>
        simp [law01_NatReckons_pre, All, h3, ea, eb, fa, fb, t1, t2, c2, hd, hs, CA, CM, F1, F2, F3, h1, h2, a2, m2, S3, S0, t3, j1, j2, j3, j4, j5, j6, Fits_num, pa, pb, oa, ob, r1, r2, s1', c1, CAp, CMp, F1p, F2p, F3p, i1, i2, i3, i4, i5, i6, a1, m1, S3p, S0p, r3, wp]
      · cases h1 : fits c (m + n) <;> cases h2 : fits c (m * n) <;>
        simp [law01_NatReckons, h3, ea, eb, fa, fb, t1, t2, c2, hd, hs, CA, CM, F1, F2, F3, h1, h2, a2, m2, S3, S0, t3, j1, j2, j3, j4, j5, j6, Fits_num, wv]
    · obtain ⟨z1, z2⟩ := rsub h
      refine ⟨?_, ?_⟩
      · cases h1 : fits c (m + n) <;> cases h2 : fits c (m * n) <;>
        simp [law01_NatReckons_pre, All, h3, ea, eb, fa, fb, t1, t2, c2, hd, hs, CA, CM, F1, F2, F3, h1, h2, a2, m2, S3, S0, t3, j1, j2, j3, j4, j5, j6, j7, z2, Fits_num, pa, pb, oa, ob, r1, r2, s1', c1, CAp, CMp, F1p, F2p, F3p, i1, i2, i3, i4, i5, i6, i7, z1, a1, m1, S3p, S0p, r3, wp]
      · cases h1 : fits c (m + n) <;> cases h2 : fits c (m * n) <;>
        simp [law01_NatReckons, h3, ea, eb, fa, fb, t1, t2, c2, hd, hs, CA, CM, F1, F2, F3, h1, h2, a2, m2, S3, S0, t3, j1, j2, j3, j4, j5, j6, j7, z2, Fits_num, wv]
end S
