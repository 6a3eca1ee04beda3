/-
  The stage's theorem on numbers, in plain words.
-/
import Derived.Test.YthgfoemcjkokjaaNatPlain6
set_option linter.all false
open Go Vm
namespace S

theorem nCmp0 (x y : Nat) (hx : small x) (hy : small y) (h : x = y) : S.nat_Cmp_pre (num x) (num y) ∧ S.nat_Cmp (num x) (num y) = 0 := by
  obtain ⟨p, q⟩ := nCmp x y hx hy
  exact ⟨p, q.trans (sg_zero.2 (by omega))⟩
theorem upto_pow {k t : Nat} (h : upto k t) (hk : k ≤ 200) : small t := upto_small h (by omega)
theorem lim_of {l : List Int} (h : ∀ x ∈ l, inr .u64 x) : lim l := fun x hx => inr_u64.1 (h x hx)

theorem NatLaws_law (a b c : List Int) (ga : (∀ x ∈ a, inr .u64 x) ∧ a.length ≤ maxLen) (gb : (∀ x ∈ b, inr .u64 x) ∧ b.length ≤ maxLen) (gc : (∀ x ∈ c, inr .u64 x) ∧ c.length ≤ maxLen) :
    S.law01_NatLaws_pre a b c ∧ S.law01_NatLaws a b c = true := by
  obtain ⟨wp, wv⟩ := works_both
  by_cases h5 : (decide ((a.length : Int) > 30) || decide ((b.length : Int) > 30) || decide ((c.length : Int) > 30)) = true
  · refine ⟨?_, ?_⟩
    · simp only [law01_NatLaws_pre, All, h5, wp, Bool.true_eq_false, false_implies, implies_true, and_self]
    · simp only [law01_NatLaws, h5, wv, cond_true]
  · have h5 : (decide ((a.length : Int) > 30) || decide ((b.length : Int) > 30) || decide ((c.length : Int) > 30)) = false := by simpa using h5
    have hl : a.length ≤ 30 ∧ b.length ≤ 30 ∧ c.length ≤ 30 := by
      simp only [Bool.or_eq_false_iff, decide_eq_false_iff_not] at h5; omega
    obtain ⟨la, lb, lc⟩ := hl
    obtain ⟨pa, ea, _⟩ := nLimbs a (lim_of ga.1) (by omega)
    obtain ⟨pb, eb, _⟩ := nLimbs b (lim_of gb.1) (by omega)
    obtain ⟨pc, ec, _⟩ := nLimbs c (lim_of gc.1) (by omega)
    have um := upto_mono (upto_val a (lim_of ga.1)) la
    have un := upto_mono (upto_val b (lim_of gb.1)) lb
    have uk := upto_mono (upto_val c (lim_of gc.1)) lc
    generalize (val a).toNat = m at *
    generalize (val b).toNat = n at *
    generalize (val c).toNat = k at *
    have U : ∀ {i j t : Nat}, upto i t → i ≤ j → upto j t := fun h h' => upto_mono h h'
    have u31 : ∀ {t}, upto 30 t → upto 31 t := fun h => U h (by omega)
    have sm : small m := upto_pow um (by omega)
    have sn : small n := upto_pow un (by omega)
    have sk : small k := upto_pow uk (by omega)
    have umn := upto_add um un
    have unm := upto_add un um
    have unk := upto_add un uk
    have umk := upto_add um uk
    have smn : small (m + n) := upto_pow umn (by omega)
    have snm : small (n + m) := upto_pow unm (by omega)
    have snk : small (n + k) := upto_pow unk (by omega)
    have smk : small (m + k) := upto_pow umk (by omega)
    have smnk : small (m + n + k) := upto_pow (upto_add umn (u31 uk)) (by omega)
    have smnk' : small (m + (n + k)) := upto_pow (upto_add (u31 um) unk) (by omega)
    have xmn := upto_mul um un
    have xnm := upto_mul un um
    have xnk := upto_mul un uk
    have xmk := upto_mul um uk
    have tmn : small (m * n) := upto_pow xmn (by omega)
    have tnm : small (n * m) := upto_pow xnm (by omega)
    have tnk : small (n * k) := upto_pow xnk (by omega)
    have tmk : small (m * k) := upto_pow xmk (by omega)
    have tmnk : small (m * n * k) := upto_pow (upto_mul xmn uk) (by omega)
    have tmnk' : small (m * (n * k)) := upto_pow (upto_mul um xnk) (by omega)
    have vmnk : small ((m + n) * k) := upto_pow (upto_mul umn uk) (by omega)
    have vmnk' : small (m * k + n * k) := upto_pow (upto_add xmk xnk) (by omega)
    have s1' : small 1 := s1 (by omega)
    have s0' : small 0 := s1 (by omega)
    obtain ⟨o1, o2⟩ := Of_num 1 (by omega)
    have o1 : S.nat_Of_pre 1 := o1
    have o2 : S.nat_Of 1 = num 1 := o2
    obtain ⟨a1, b1⟩ := nAdd m n sm sn
    obtain ⟨a2, b2⟩ := nAdd n m sn sm
    obtain ⟨a3, b3⟩ := nAdd (m + n) k smn sk
    obtain ⟨a4, b4⟩ := nAdd n k sn sk
    obtain ⟨a5, b5⟩ := nAdd m (n + k) sm snk
    obtain ⟨a6, b6⟩ := nAdd (m * k) (n * k) tmk tnk
    obtain ⟨a7, b7⟩ := nAdd m k sm sk
    obtain ⟨c1, d1⟩ := nMul m n sm sn
    obtain ⟨c2, d2⟩ := nMul n m sn sm
    obtain ⟨c3, d3⟩ := nMul (m * n) k tmn sk
    obtain ⟨c4, d4⟩ := nMul n k sn sk
    obtain ⟨c5, d5⟩ := nMul m (n * k) sm tnk
    obtain ⟨c6, d6⟩ := nMul (m + n) k smn sk
    obtain ⟨c7, d7⟩ := nMul m k sm sk
    obtain ⟨c8, d8⟩ := nMul m 1 sm s1'
    obtain ⟨c9, d9⟩ := nMul m 0 sm s0'
    rw [Nat.mul_one] at d8
    rw [Nat.mul_zero] at d9
    obtain ⟨f1, g1⟩ := nCmp0 (m + n) (n + m) smn snm (Nat.add_comm _ _)
    obtain ⟨f2, g2⟩ := nCmp0 (m + n + k) (m + (n + k)) smnk smnk' (Nat.add_assoc _ _ _)
    obtain ⟨f3, g3⟩ := nCmp0 (m * n) (n * m) tmn tnm (Nat.mul_comm _ _)
    obtain ⟨f4, g4⟩ := nCmp0 (m * n * k) (m * (n * k)) tmnk tmnk' (Nat.mul_assoc _ _ _)
    obtain ⟨f5, g5⟩ := nCmp0 ((m + n) * k) (m * k + n * k) vmnk vmnk' (Nat.add_mul _ _ _)
    obtain ⟨f6, g6⟩ := nCmp0 m m sm sm rfl
    obtain ⟨f7, g7⟩ := nCmp (m + n) m smn sm
    obtain ⟨f8, g8⟩ := nCmp m n sm sn
    obtain ⟨f9, g9⟩ := nCmp (m + k) (n + k) smk snk
    obtain ⟨i1, j1⟩ := nSub (m + n) n smn sn
    obtain ⟨i2, j2⟩ := nSub m n sm sn
    rw [if_neg (by omega), Nat.add_sub_cancel] at j1
    have g7' : decide (S.nat_Cmp (num (m + n)) (num m) < 0) = false := by
      rw [g7]; apply decide_eq_false; unfold sg; rw [if_neg (by omega)]; split <;> omega
    have hl0 : S.nat_Nat_Len (num 0) = 0 := by rw [Len_num]; simp [digs]
    have g9' : (S.nat_Cmp (num (m + k)) (num (n + k)) == S.nat_Cmp (num m) (num n)) = true := by
      rw [g8, g9, beq_iff_eq]; congr 1; omega
    -- what a difference tells
    have key : (((S.nat_Sub (num m) (num n)).2 == 0) == decide (S.nat_Cmp (num m) (num n) ≥ 0)) = true ∧ ((S.nat_Cmp (num m) (num n) == 0) == ((S.nat_Sub (num m) (num n)).2 == 0 && S.nat_Nat_Len (S.nat_Sub (num m) (num n)).1 == 0)) = true := by
      rw [j2, g8]
      by_cases h : m < n
      · rw [if_pos h]
        have : sg ((m : Int) - n) = -1 := by unfold sg; rw [if_pos (by omega)]
        rw [this]; exact ⟨rfl, rfl⟩
      · rw [if_neg h]
        by_cases h' : m = n
        · subst h'
          have : sg ((m : Int) - m) = 0 := sg_zero.2 (by omega)
          rw [this, Nat.sub_self, hl0]; exact ⟨rfl, rfl⟩
        · have : sg ((m : Int) - n) = 1 := by unfold sg; rw [if_neg (by omega), if_pos (by omega)]
          rw [this, Len_num]
          have hd : (((digs (m - n)).length : Int) == 0) = false := by
            rw [digs_pos (by omega), beq_eq_false_iff_ne, List.length_cons]; omega
          rw [hd]; exact ⟨rfl, rfl⟩
    obtain ⟨k1, k2⟩ := key
    refine ⟨?_, ?_⟩
    · simp only [law01_NatLaws_pre, All, h5, ea, eb, ec, b1, b2, b3, b4, b5, b6, b7, d1, d2, d3, d4, d5, d6, d7, o2, num_nil, d8, d9, g1, g2, g3, g4, g5, g6, j1, pa, pb, pc, a1, a2, a3, a4, a5, a6, a7, c1, c2, c3, c4, c5, c6, c7, c8, c9, f1, f2, f3, f4, f5, f6, f7, f8, f9, i1, i2, o1, wp, implies_true, and_true, true_and, and_self]
    · simp only [law01_NatLaws, h5, ea, eb, ec, b1, b2, b3, b4, b5, b6, b7, d1, d2, d3, d4, d5, d6, d7, o2, num_nil, d8, d9, g1, g2, g3, g4, g5, g6, j1, g7', g9', hl0, k1, k2, wv, bne_self_eq_false, Bool.or_self, Bool.and_self, cond_false]
end S
