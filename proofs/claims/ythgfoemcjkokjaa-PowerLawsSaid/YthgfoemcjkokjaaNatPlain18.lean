/-
  Numbers are made, told and compared as the document says.
-/
import Derived.Test.YthgfoemcjkokjaaNatPlain17
set_option linter.all false
open Go Vm
namespace S

theorem Max_eq (L : List Nat) (hs : ∀ x ∈ L, small x) (hl : L.length ≤ 1000) : S.nat_Max_pre (L.map num) ∧ S.nat_Max (L.map num) = num (L.foldl max 0) := by
  obtain ⟨y, hr, h1, h2⟩ := Max_runs L hs hl
  have hlen : ((L.map num).length : Int) = (L.length : Int) := by rw [List.length_map]
  have e : nat_Max_L0_run ⟨L.map num, (L.length : Int), 0, num 0⟩ = y := theRun_eq (d := fun x => x) hr
  obtain ⟨v, l⟩ := digs_val (L.foldl max 0)
  obtain ⟨p, q, _⟩ := nLimbs (digs (L.foldl max 0)) l h2
  rw [v, Int.toNat_natCast] at q
  have hb : y.best.limbs = digs (L.foldl max 0) := by rw [h1]; rfl
  refine ⟨?_, ?_⟩
  · simp only [nat_Max_pre, All, hlen, num_nil, e, hb, and_true]; exact ⟨hr, p⟩
  · simp only [nat_Max, hlen, num_nil, e, hb, q]

theorem Small_ok (m : Nat) : S.nat_Nat_Small_pre (num m) ∧ (S.nat_Nat_Small (num m)).2 = decide (((digs m).length : Int) ≤ 1) ∧ (S.nat_Nat_Small (num m)).1 = (bif ((digs m).length : Int) == 1 then (digs m).getD (Int.toNat 0) 0 else 0) := by
  have hp := limb_pre (digs m) 0
  have he := limb_eq (digs m) 0
  have hp : S.nat_Nat_limb_pre (num m) 0 := hp
  have he : S.nat_Nat_limb (num m) 0 = (digs m).getD 0 0 := he
  have e1 : S.nat_Nat_Small (num m) = (bif decide (((digs m).length : Int) > 1) then (0, false) else (S.nat_Nat_limb (num m) 0, true)) := rfl
  refine ⟨?_, ?_, ?_⟩
  · simp only [nat_Nat_Small_pre, All, and_true]; exact ⟨fun _ => trivial, fun _ => hp⟩
  · rw [e1]
    by_cases h : ((digs m).length : Int) > 1
    · rw [decide_eq_true h, decide_eq_false (by omega)]; rfl
    · rw [decide_eq_false h, decide_eq_true (by omega)]; rfl
  · rw [e1, he]
    by_cases h : ((digs m).length : Int) > 1
    · rw [decide_eq_true h, show (((digs m).length : Int) == 1) = false from beq_eq_false_iff_ne.2 (by omega)]; rfl
    · rw [decide_eq_false h]
      by_cases h1 : ((digs m).length : Int) = 1
      · rw [show (((digs m).length : Int) == 1) = true from beq_iff_eq.2 h1]; rfl
      · rw [show (((digs m).length : Int) == 1) = false from beq_eq_false_iff_ne.2 h1]
        show (digs m).getD 0 0 = 0
        exact getD_none (by omega)

theorem NatMakes_law (a b : List Int) (c : Int) (ga : (∀ x ∈ a, inr .u64 x) ∧ a.length ≤ maxLen) (gb : (∀ x ∈ b, inr .u64 x) ∧ b.length ≤ maxLen) (gc : inr .u64 c) :
    S.law01_NatMakes_pre a b c ∧ S.law01_NatMakes a b c = true := by
  obtain ⟨wp, wv⟩ := works_both
  by_cases h3 : (decide ((a.length : Int) > 40) || decide ((b.length : Int) > 40)) = true
  · refine ⟨?_, ?_⟩
    · simp only [law01_NatMakes_pre, All, h3, wp, Bool.true_eq_false, false_implies, implies_true, and_self]
    · simp only [law01_NatMakes, h3, wv, cond_true]
  · have h3 : (decide ((a.length : Int) > 40) || decide ((b.length : Int) > 40)) = false := by simpa using h3
    have hl : a.length ≤ 40 ∧ b.length ≤ 40 := by
      simp only [Bool.or_eq_false_iff, decide_eq_false_iff_not] at h3; omega
    obtain ⟨la, lb⟩ := hl
    obtain ⟨pa, ea, _⟩ := nLimbs a (lim_of ga.1) (by omega)
    obtain ⟨pb, eb, _⟩ := nLimbs b (lim_of gb.1) (by omega)
    obtain ⟨oa, fa⟩ := refOf_eq a (lim_of ga.1) (by omega)
    obtain ⟨ob, fb⟩ := refOf_eq b (lim_of gb.1) (by omega)
    have um := upto_mono (upto_val a (lim_of ga.1)) la
    have un := upto_mono (upto_val b (lim_of gb.1)) lb
    obtain ⟨y, hy, hy1⟩ := MakesL0_runs a (by omega)
    have ey : law01_NatMakes_L0_run ⟨a, false, 0, a⟩ = y := theRun_eq (d := fun x => ⟨true, x⟩) hy
    generalize (val a).toNat = m at *
    generalize (val b).toNat = n at *
    obtain ⟨k, rfl⟩ := Int.eq_ofNat_of_zero_le (inr_u64.1 gc).1
    have hk : k ≤ 18446744073709551615 := by have := (inr_u64.1 gc).2; omega
    obtain ⟨o1, o2⟩ := Of_num k hk
    have hlk : lim [(k : Int)] := lim_cons.2 ⟨by omega, lim_nil⟩
    obtain ⟨ok1, ok2⟩ := refOf_eq [(k : Int)] hlk (by simp)
    rw [show (val [(k : Int)]).toNat = k by simp [val]] at ok2
    have uk : upto 40 k := upto_mono (k := 1) (by unfold upto; omega) (by omega)
    have u0 : upto 40 0 := by unfold upto; exact Nat.pow_pos (by omega)
    have L : ∀ {k t : Nat}, upto k t → k ≤ 200 → (digs t).length ≤ 10000 := fun h hk => Nat.le_trans (digs_len _ _ h) (by omega)
    have L8 : ∀ {k t : Nat}, upto k t → k ≤ 200 → (digs8 t).length ≤ 100000 := fun {k t} h hk => by have := bytes_len t; have := digs_len _ _ h; omega
    have sm := upto_pow um (by omega)
    have sn := upto_pow un (by omega)
    have s0 := upto_pow u0 (by omega)
    have is1 : ∀ {k t : Nat}, upto k t → k ≤ 200 → S.law01_is_pre (num t) (digs8 t) ∧ S.law01_is (num t) (digs8 t) = true := fun {k t} h hk => by
      obtain ⟨p, q⟩ := is_eq t t (L h hk) (L8 h hk)
      exact ⟨p, by rw [q]; simp⟩
    obtain ⟨i4, j4⟩ := is1 u0 (by omega)
    obtain ⟨i5, j5⟩ := is1 um (by omega)
    obtain ⟨i6, j6⟩ := is1 un (by omega)
    obtain ⟨i7, j7⟩ := is1 uk (by omega)
    rw [← nil8] at i4 j4
    obtain ⟨rl1, rl2⟩ := refLimbs_eq m sm
    obtain ⟨sp, sa, sb⟩ := Small_ok m
    obtain ⟨c1, d1⟩ := refCmp_eq n m (L8 un (by omega)) (L8 um (by omega))
    obtain ⟨c2, d2⟩ := refCmp_eq m n (L8 um (by omega)) (L8 un (by omega))
    obtain ⟨c3, d3⟩ := nCmp m n sm sn
    obtain ⟨c4, d4⟩ := nCmp n m sn sm
    obtain ⟨c5, d5⟩ := nCmp0 m m sm sm rfl
    obtain ⟨x1, y1⟩ := Max_eq [m, n] (by simp [sm, sn]) (by simp)
    obtain ⟨x2, y2⟩ := Max_eq [] (by simp) (by simp)
    obtain ⟨x3, y3⟩ := Max_eq [0, n, 0] (by simp [s0, sn]) (by simp)
    have x1 : S.nat_Max_pre [num m, num n] := x1
    have y1 : S.nat_Max [num m, num n] = num (max (max 0 m) n) := y1
    have x2 : S.nat_Max_pre [] := x2
    have y2 : S.nat_Max [] = num 0 := y2
    have x3 : S.nat_Max_pre [num 0, num n, num 0] := x3
    have y3 : S.nat_Max [num 0, num n, num 0] = num (max (max (max 0 0) n) 0) := y3
    rw [show max (max 0 m) n = max m n by omega] at y1
    rw [show max (max (max 0 0) n) 0 = n by omega] at y3
    have hmax : S.law01_is_pre (num (max m n)) (bif decide (sg ((n : Int) - m) > 0) then digs8 n else digs8 m) ∧ S.law01_is (num (max m n)) (bif decide (sg ((n : Int) - m) > 0) then digs8 n else digs8 m) = true := by
      by_cases h : m < n
      · rw [decide_eq_true (by unfold sg; rw [if_neg (by omega), if_pos (by omega)]; decide), cond_true, Nat.max_eq_right (by omega)]; exact ⟨i6, j6⟩
      · rw [decide_eq_false (by unfold sg; split <;> (try split) <;> omega), cond_false, Nat.max_eq_left (by omega)]; exact ⟨i5, j5⟩
    obtain ⟨h1, h2⟩ := hmax
    have hdig : 0 ≤ (0 : Int) := by omega
    refine ⟨?_, ?_⟩
    · simp [law01_NatMakes_pre, All, h3, ea, eb, fa, fb, ey, hy1, rl2, sa, sb, j4, j5, j6, j7, o2, ok2, num_nil, d1, d2, d3, d4, d5, y1, y2, y3, h1, h2, pa, pb, oa, ob, hy, sp, rl1, i4, i5, i6, i7, o1, ok1, c1, c2, c3, c4, c5, x1, x2, x3, wp]
      omega
    · simp [law01_NatMakes, h3, ea, eb, fa, fb, ey, hy1, rl2, sa, sb, j4, j5, j6, j7, o2, ok2, num_nil, d1, d2, d3, d4, d5, y1, y2, y3, h1, h2, wv]
end S
