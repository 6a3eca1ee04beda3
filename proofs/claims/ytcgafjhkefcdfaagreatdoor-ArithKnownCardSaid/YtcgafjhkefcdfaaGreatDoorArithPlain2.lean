/-
  What the package's functions compute: numbers of two limbs, bounds, rounds; sums, differences and products of values.
-/
import Derived.Test.YtcgafjhkefcdfaaGreatDoorArithPlain
set_option linter.all false
open Go Vm
namespace SV
open S SC AM
abbrev W2 (p : Int × Int) (z : Int) : Prop := Lb p.1 p.2 z
theorem of_W {n : Int} (h : I64 n) : W2 (S.arith_of n) n := by
 unfold I64 at h
 have e : Int.fdiv n (2 ^ min (Int.toNat 63) 64) = n / 9223372036854775808 := by
  rw [show (2 : Int) ^ min (Int.toNat 63) 64 = 9223372036854775808 from rfl, Int.fdiv_eq_ediv_of_nonneg _ (by decide)]
 simp only [W2, arith_of, e, IntKind.wrap_u64]
 unfold Lb; omega
theorem plus_W {a b : Int × Int} {z w : Int} (ha : W2 a z) (hb : W2 b w) (hr : -170141183460469231731687303715884105728 ≤ z + w ∧ z + w ≤ 170141183460469231731687303715884105727) :
  W2 (S.arith_wide_plus a b) (z + w) ∧ S.arith_wide_plus_pre a b := by
 unfold W2 Lb at *
 simp only [arith_wide_plus, arith_wide_plus_pre, math_bits_Add64, math_bits_Add64_pre, All, and_true]
 refine ⟨?_, ?_⟩ <;> omega
theorem minus_W {a b : Int × Int} {z w : Int} (ha : W2 a z) (hb : W2 b w) (hr : -170141183460469231731687303715884105728 ≤ z - w ∧ z - w ≤ 170141183460469231731687303715884105727) :
  W2 (S.arith_wide_minus a b) (z - w) ∧ S.arith_wide_minus_pre a b := by
 unfold W2 Lb at *
 simp only [arith_wide_minus, arith_wide_minus_pre, math_bits_Sub64, math_bits_Sub64_pre, All, and_true]
 by_cases h : a.2 < b.2 + 0
 ·simp only [if_pos h]; refine ⟨?_, ?_⟩ <;> omega
 ·simp only [if_neg h]; refine ⟨?_, ?_⟩ <;> omega
theorem times_W {a b : Int} (ha : I64 a) (hb : I64 b) : W2 (S.arith_times a b) (a * b) := by
 have hr := E_range 15 ha hb
 have he : E 15 a b = a * b := by unfold E; rw [if_neg (by decide), if_neg (by decide)]
 rw [he] at hr
 have ua : IntKind.u64.wrap a = if a < 0 then a + 18446744073709551616 else a := by
  unfold I64 at ha; rw [IntKind.wrap_u64]; split <;> omega
 have ub : IntKind.u64.wrap b = if b < 0 then b + 18446744073709551616 else b := by
  unfold I64 at hb; rw [IntKind.wrap_u64]; split <;> omega
 unfold I64 at ha hb
 have hm := Mul64_eq (IntKind.u64.wrap a) (IntKind.u64.wrap b) (by rw [IntKind.wrap_u64]; omega) (by rw [IntKind.wrap_u64]; omega)
 simp only [W2, arith_times, hm]
 by_cases h1 : a < 0
 ·by_cases h2 : b < 0
  ·rw [decide_eq_true h1, decide_eq_true h2, ua, ub, if_pos h1, if_pos h2]
   have e : (a + 18446744073709551616) * (b + 18446744073709551616) = a * b + 18446744073709551616 * a + 18446744073709551616 * b + 340282366920938463463374607431768211456 := by
    rw [Int.add_mul, Int.mul_add, Int.mul_add]; omega
   simp only [cond_true, e, IntKind.wrap_u64]
   generalize a * b = m at *
   unfold Lb; omega
  ·rw [decide_eq_true h1, decide_eq_false h2, ua, ub, if_pos h1, if_neg h2]
   have e : (a + 18446744073709551616) * b = a * b + 18446744073709551616 * b := by rw [Int.add_mul]
   simp only [cond_true, cond_false, e, IntKind.wrap_u64]
   generalize a * b = m at *
   unfold Lb; omega
 ·by_cases h2 : b < 0
  ·rw [decide_eq_false h1, decide_eq_true h2, ua, ub, if_neg h1, if_pos h2]
   have e : a * (b + 18446744073709551616) = a * b + 18446744073709551616 * a := by rw [Int.mul_add]; omega
   simp only [cond_true, cond_false, e, IntKind.wrap_u64]
   generalize a * b = m at *
   unfold Lb; omega
  ·rw [decide_eq_false h1, decide_eq_false h2, ua, ub, if_neg h1, if_neg h2]
   simp only [cond_true, cond_false, IntKind.wrap_u64]
   have h3 := Int.mul_nonneg (show 0 ≤ a by omega) (show 0 ≤ b by omega)
   generalize a * b = m at *
   unfold Lb; omega
theorem exact_W {op : Int} (ho : known op) {x y : Int} (hx : I64 x) (hy : I64 y) : W2 (S.arith_exact op x y) (E op x y) ∧ S.arith_exact_pre op x y := by
 have hr := E_range op hx hy
 simp only [arith_exact, arith_exact_pre, All]
 rcases ho with rfl | rfl | rfl
 ·have e : E 13 x y = x + y := rfl
  rw [e] at hr ⊢
  obtain ⟨h1, h2⟩ := plus_W (of_W hx) (of_W hy) (by omega)
  exact ⟨h1, fun _ => ⟨h2, trivial⟩, fun h => by cases h⟩
 ·have e : E 14 x y = x - y := rfl
  rw [e] at hr ⊢
  obtain ⟨h1, h2⟩ := minus_W (of_W hx) (of_W hy) (by omega)
  exact ⟨h1, (fun h => by cases h), fun _ => ⟨fun _ => ⟨h2, trivial⟩, fun h => by cases h⟩⟩
 ·exact ⟨times_W hx hy, (fun h => by cases h), fun _ => ⟨(fun h => by cases h), fun _ => trivial⟩⟩
theorem less_W {a b : Int × Int} {z w : Int} (ha : W2 a z) (hb : W2 b w) : S.arith_wide_less a b = decide (z < w) := by
 have h := Lb.less ha hb
 simp only [arith_wide_less]
 by_cases e : a.1 = b.1
 ·rw [if_pos e] at h
  rw [show (a.1 != b.1) = false by simpa using e, cond_false]; exact decide_eq_decide.2 h
 ·rw [if_neg e] at h
  rw [show (a.1 != b.1) = true by simpa using e, cond_true]; exact decide_eq_decide.2 h
theorem minW {a b : Int × Int} {z w : Int} (ha : W2 a z) (hb : W2 b w) : W2 ((bif S.arith_wide_less a b then a.1 else b.1), (bif S.arith_wide_less a b then a.2 else b.2)) (min w z) := by
 rw [less_W ha hb]
 by_cases h : z < w
 ·rw [decide_eq_true h, show min w z = z by omega]; exact ha
 ·rw [decide_eq_false h, show min w z = w by omega]; exact hb
theorem maxW {a b : Int × Int} {z w : Int} (ha : W2 a z) (hb : W2 b w) : W2 ((bif S.arith_wide_less b a then a.1 else b.1), (bif S.arith_wide_less b a then a.2 else b.2)) (max w z) := by
 rw [less_W hb ha]
 by_cases h : w < z
 ·rw [decide_eq_true h, show max w z = z by omega]; exact ha
 ·rw [decide_eq_false h, show max w z = w by omega]; exact hb
theorem round_W {a : Int × Int} {z : Int} (ha : W2 a z) (hz : -85070591730234615865843651857942052864 ≤ z ∧ z ≤ 85070591730234615865843651857942052864) : S.arith_wide_round a = rnd z % 18446744073709551616 ∧ S.arith_wide_round_pre a := by
 have hw := wrap_rnd z
 have hl := (Lb.lo ha).2
 have hi : I64 (IntKind.i64.wrap a.2) := wrap_i64' _
 have hi' := hi
 unfold I64 at hi'
 obtain ⟨h1, h2⟩ := minus_W ha (of_W hi) (by omega)
 refine ⟨?_, ?_⟩
 ·simp only [arith_wide_round]
  have := Lb.hi h1
  rw [this, hl]; omega
 ·simp only [arith_wide_round_pre, All, and_true]; exact h2
theorem fits_W {a : Int × Int} {z : Int} (ha : W2 a z) : S.arith_one a (S.arith_of (IntKind.i64.wrap a.2)) = decide (rnd z = 0) := by
 have hl := (Lb.lo ha).2
 have h := Lb.eq ha (of_W (wrap_i64' a.2))
 have hw := wrap_rnd z
 simp only [arith_one]
 rw [Bool.eq_iff_iff, Bool.and_eq_true, beq_iff_eq, beq_iff_eq, decide_eq_true_iff, h, hl, hw]; omega
def cn (op : Int) (L R : List Int) (k : Nat) : Int := E op (L.getD (k / 2) 0) (R.getD (k % 2) 0)
def fl (op : Int) (L R : List Int) : Nat → Int
 | 0 => cn op L R 0
 | k + 1 => min (fl op L R k) (cn op L R k)
def fh (op : Int) (L R : List Int) : Nat → Int
 | 0 => cn op L R 0
 | k + 1 => max (fh op L R k) (cn op L R k)
theorem bounds_W {op : Int} (ho : known op) {a b : S.Value} (ha : IR a.I) (hb : IR b.I) : W2 (S.arith_bounds op a b).1 (lo4 op a b) ∧ W2 (S.arith_bounds op a b).2 (hi4 op a b) ∧ S.arith_bounds_pre op a b := by
 have oL : ∀ k : Nat, k < 4 → I64 (([a.I.Lo, a.I.Hi] : List Int).getD (k / 2) 0) := fun k hk => by
  have : k / 2 = 0 ∨ k / 2 = 1 := by omega
  rcases this with e | e <;> rw [e]
  ·exact ha.1
  ·exact ha.2
 have oR : ∀ k : Nat, k < 4 → I64 (([b.I.Lo, b.I.Hi] : List Int).getD (k % 2) 0) := fun k hk => by
  have : k % 2 = 0 ∨ k % 2 = 1 := by omega
  rcases this with e | e <;> rw [e]
  ·exact hb.1
  ·exact hb.2
 have el : fl op [a.I.Lo, a.I.Hi] [b.I.Lo, b.I.Hi] 4 = lo4 op a b := by
  show min (min (min (min (E op a.I.Lo b.I.Lo) (E op a.I.Lo b.I.Lo)) (E op a.I.Lo b.I.Hi)) (E op a.I.Hi b.I.Lo)) (E op a.I.Hi b.I.Hi) = _
  unfold lo4 blo; omega
 have eh : fh op [a.I.Lo, a.I.Hi] [b.I.Lo, b.I.Hi] 4 = hi4 op a b := by
  show max (max (max (max (E op a.I.Lo b.I.Lo) (E op a.I.Lo b.I.Lo)) (E op a.I.Lo b.I.Hi)) (E op a.I.Hi b.I.Lo)) (E op a.I.Hi b.I.Hi) = _
  unfold hi4 bhi; omega
 obtain ⟨x1, x2⟩ := exact_W ho (oL 0 (by decide)) (oR 0 (by decide))
 simp only [arith_bounds, arith_bounds_pre]
 have e0 : ∀ l : List Int, l.getD (Int.toNat 0) 0 = l.getD (0 / 2) 0 := fun l => rfl
 have e0' : ∀ l : List Int, l.getD (Int.toNat 0) 0 = l.getD (0 % 2) 0 := fun l => rfl
 rw [show ([a.I.Lo, a.I.Hi] : List Int).getD (Int.toNat 0) 0 = ([a.I.Lo, a.I.Hi] : List Int).getD (0 / 2) 0 from rfl, show ([b.I.Lo, b.I.Hi] : List Int).getD (Int.toNat 0) 0 = ([b.I.Lo, b.I.Hi] : List Int).getD (0 % 2) 0 from rfl]
 rw [← el, ← eh]
 clear el eh
 generalize ([a.I.Lo, a.I.Hi] : List Int) = L at *
 generalize ([b.I.Lo, b.I.Hi] : List Int) = R at *
 have key : ∃ y, Runs arith_bounds_L0_step arith_bounds_L0_vcs ⟨op, 0, (S.arith_exact op (L.getD (0 / 2) 0) (R.getD (0 % 2) 0)).1, (S.arith_exact op (L.getD (0 / 2) 0) (R.getD (0 % 2) 0)).2, (S.arith_exact op (L.getD (0 / 2) 0) (R.getD (0 % 2) 0)).1, (S.arith_exact op (L.getD (0 / 2) 0) (R.getD (0 % 2) 0)).2, L, R⟩ y ∧ (Lb y.lo_0 y.lo_1 (fl op L R 4) ∧ Lb y.hi_0 y.hi_1 (fh op L R 4)) := by
  refine Runs.of (fun s => s.op = op ∧ s.l = L ∧ s.r = R ∧ ∃ k : Nat, s.t33 = (k : Int) ∧ k ≤ 4 ∧ Lb s.lo_0 s.lo_1 (fl op L R k) ∧ Lb s.hi_0 s.hi_1 (fh op L R k)) (fun s => (4 - s.t33).toNat) _ ?_ _ ⟨rfl, rfl, rfl, 0, rfl, by decide, x1, x1⟩
  rintro ⟨op', t, l0, l1, h0, h1, L', R'⟩ ⟨e1, e2, e3, k, e4, hk, hl, hh⟩
  dsimp only at e1 e2 e3 e4 hl hh
  subst e1 e2 e3 e4
  by_cases h4 : k < 4
  ·have d1 : decide ((k : Int) < 4) = true := decide_eq_true (by omega)
   have d2 : Int.toNat (IntKind.i64.wrap (Int.tdiv (k : Int) 2)) = k / 2 := by rw [Int.tdiv_eq_ediv_of_nonneg (by omega), IntKind.wrap_i64]; omega
   have d2' : 0 ≤ IntKind.i64.wrap (Int.tdiv (k : Int) 2) ∧ IntKind.i64.wrap (Int.tdiv (k : Int) 2) < 2 := by rw [Int.tdiv_eq_ediv_of_nonneg (by omega), IntKind.wrap_i64]; omega
   have d3 : Int.toNat (Int.tmod (k : Int) 2) = k % 2 := by rw [Int.tmod_eq_emod_of_nonneg (by omega)]; omega
   have d3' : 0 ≤ Int.tmod (k : Int) 2 ∧ Int.tmod (k : Int) 2 < 2 := by rw [Int.tmod_eq_emod_of_nonneg (by omega)]; omega
   have d4 : IntKind.i64.wrap ((k : Int) + 1) = ((k + 1 : Nat) : Int) := by rw [IntKind.wrap_i64]; omega
   obtain ⟨w1, w2⟩ := exact_W ho (oL k h4) (oR k h4)
   refine ⟨?_, ?_⟩
   ·simp only [arith_bounds_L0_vcs, d1, d2, d3, All, and_true, true_implies]
    exact ⟨⟨d2'.1, d2'.2, d3'.1, d3'.2, w2⟩, fun h => by cases h⟩
   ·simp only [arith_bounds_L0_step, d1, d2, d3, d4, cond_true]
    exact ⟨⟨trivial, trivial, trivial, k + 1, rfl, by omega, minW w1 (b := (l0, l1)) hl, maxW w1 (b := (h0, h1)) hh⟩, by omega⟩
  ·have d1 : decide ((k : Int) < 4) = false := decide_eq_false (by omega)
   obtain rfl : k = 4 := by omega
   refine ⟨by simp only [arith_bounds_L0_vcs, d1]; exact ⟨(fun h => by cases h), fun _ => trivial⟩, ?_⟩
   simp only [arith_bounds_L0_step, d1, cond_false]
   exact ⟨hl, hh⟩
 obtain ⟨y, r, y1, y2⟩ := key
 have e : arith_bounds_L0_run _ = y := theRun_eq (d := fun x => x) r
 rw [e]
 exact ⟨y1, y2, ⟨by decide, by decide, by decide, by decide, x2, r⟩, trivial⟩
theorem lo4_range {op : Int} {a b : S.Value} (ha : IR a.I) (hb : IR b.I) : (-85070591730234615865843651857942052864 ≤ lo4 op a b ∧ lo4 op a b ≤ 85070591730234615865843651857942052864) ∧ (-85070591730234615865843651857942052864 ≤ hi4 op a b ∧ hi4 op a b ≤ 85070591730234615865843651857942052864) := by
 have h1 := E_range op ha.1 hb.1
 have h2 := E_range op ha.1 hb.2
 have h3 := E_range op ha.2 hb.1
 have h4 := E_range op ha.2 hb.2
 unfold lo4 hi4 blo bhi; omega
theorem known_b (op : Int) : S.arith_known op = decide (known op) := by
 simp only [arith_known]
 rw [Bool.eq_iff_iff, decide_eq_true_iff]
 unfold known; simp [or_assoc]
theorem wdo13 {op : Int} (ho : known op) (x y : Int) : S.word_Do op x y = (IntKind.i64.wrap (E op x y), true) ∧ S.word_Do_pre op x y := by
 rcases ho with rfl | rfl | rfl
 ·exact ⟨rfl, (fun h => by cases h), fun _ => ⟨(fun h => by cases h), fun _ => ⟨⟨(fun h => by cases h), fun _ => ⟨(fun h => by cases h), fun _ => ⟨(fun h => by cases h), fun _ => ⟨(fun h => by cases h), fun _ => ⟨(fun h => by cases h), fun _ => ⟨(fun h => by cases h), fun _ => ⟨(fun h => by cases h), fun _ => ⟨fun _ => trivial, fun h => by cases h⟩⟩⟩⟩⟩⟩⟩⟩, trivial⟩⟩⟩
 ·exact ⟨rfl, (fun h => by cases h), fun _ => ⟨(fun h => by cases h), fun _ => ⟨⟨(fun h => by cases h), fun _ => ⟨(fun h => by cases h), fun _ => ⟨(fun h => by cases h), fun _ => ⟨(fun h => by cases h), fun _ => ⟨(fun h => by cases h), fun _ => ⟨(fun h => by cases h), fun _ => ⟨(fun h => by cases h), fun _ => ⟨(fun h => by cases h), fun _ => ⟨fun _ => trivial, fun h => by cases h⟩⟩⟩⟩⟩⟩⟩⟩⟩, trivial⟩⟩⟩
 ·exact ⟨rfl, (fun h => by cases h), fun _ => ⟨(fun h => by cases h), fun _ => ⟨⟨(fun h => by cases h), fun _ => ⟨(fun h => by cases h), fun _ => ⟨(fun h => by cases h), fun _ => ⟨(fun h => by cases h), fun _ => ⟨(fun h => by cases h), fun _ => ⟨(fun h => by cases h), fun _ => ⟨(fun h => by cases h), fun _ => ⟨(fun h => by cases h), fun _ => ⟨(fun h => by cases h), fun _ => ⟨fun _ => trivial, fun h => by cases h⟩⟩⟩⟩⟩⟩⟩⟩⟩⟩, trivial⟩⟩⟩
theorem cg_eq {op : Int} {a b : S.Cong} (ha : CR a) (hb : CR b) : S.arith_congruence op a b = cg op a b ∧ S.arith_congruence_pre op a b := by
 refine ⟨?_, ?_⟩
 ·simp only [arith_congruence, cg]
  by_cases h1 : op = 13
  ·rw [if_pos h1, show (op == 13) = true by simpa using h1]; rfl
  ·rw [if_neg h1, show (op == 13) = false by simpa using h1]
   by_cases h2 : op = 14
   ·rw [if_pos h2, show (op == 14) = true by simpa using h2]; rfl
   ·rw [if_neg h2, show (op == 14) = false by simpa using h2]; rfl
 ·simp only [arith_congruence_pre, All, and_true]
  exact ⟨fun _ => Add_pre a b ha.1 hb.1, fun _ => ⟨fun _ => (Sub_both a b ha.1 hb.1).1, fun _ => (Mul_both a b ha.1 hb.1).1⟩⟩
theorem arDo {op : Int} {a b : S.Value} (ha : VOK a) (hb : VOK b) : S.arith_Do op a b = dar op (red a) (red b) ∧ S.arith_Do_pre op a b := by
 have ra := red_rv ha; have rb := red_rv hb
 have pa : ∀ v : S.Value, S.arith_plain v = red v := fun _ => rfl
 have ppa : S.arith_plain_pre a := by simp only [arith_plain_pre, All, and_true]; exact (made _ _ ha.1 ha.2).2
 have ppb : S.arith_plain_pre b := by simp only [arith_plain_pre, All, and_true]; exact (made _ _ hb.1 hb.2).2
 have ba := isBot_red ha; have bb := isBot_red hb
 obtain ⟨s1, s2⟩ := Single_eq ra.ok
 obtain ⟨t1, t2⟩ := Single_eq rb.ok
 rw [red_of ra] at s1
 rw [red_of rb] at t1
 obtain ⟨c1, c2⟩ := cg_eq (op := op) ra.cr rb.cr
 have hc := cg_CR op ra.cr rb.cr
 have wp := (Wrapped_both _ hc.1).1
 simp only [arith_Do, arith_Do_pre, pa, ba, bb, known_b, s1, t1, c1, bot_eq, top_eq, one_eq, All, and_true]
 unfold dar
 by_cases hbot : red a = bot ∨ red b = bot
 ·rw [if_pos hbot, show (decide (red a = bot) || decide (red b = bot)) = true by simpa using hbot]
  exact ⟨rfl, ⟨ppa, ppb, s2, t2, isBot_pre ra.ok, fun _ => isBot_pre rb.ok⟩, fun _ => trivial, fun h => by cases h⟩
 ·rw [if_neg hbot, show (decide (red a = bot) || decide (red b = bot)) = false by simpa using hbot]
  by_cases hk : known op
  ·rw [if_neg (not_not_intro hk), decide_eq_true hk]
   obtain ⟨w1, w2, w3⟩ := bounds_W hk ra.ir rb.ir
   obtain ⟨g1, g2⟩ := lo4_range (op := op) ra.ir rb.ir
   obtain ⟨r1, r2⟩ := round_W w1 g1
   obtain ⟨q1, q2⟩ := round_W w2 g2
   have l1 := (Lb.lo w1).2
   have l2 := (Lb.lo w2).2
   rw [r1, q1, l1, l2]
   have hne : (rnd (lo4 op (red a) (red b)) % 18446744073709551616 != rnd (hi4 op (red a) (red b)) % 18446744073709551616) = decide (rnd (lo4 op (red a) (red b)) ≠ rnd (hi4 op (red a) (red b))) := by
    rw [Bool.eq_iff_iff, bne_iff_ne, decide_eq_true_iff]
    unfold rnd at *; omega
   have hnz : (rnd (lo4 op (red a) (red b)) % 18446744073709551616 != 0) = decide (rnd (lo4 op (red a) (red b)) ≠ 0) := by
    rw [Bool.eq_iff_iff, bne_iff_ne, decide_eq_true_iff]
    unfold rnd at *; omega
   rw [hne, hnz]
   simp only [Bool.not_true, cond_false]
   by_cases hs : (red a).I.Lo = (red a).I.Hi ∧ (red b).I.Lo = (red b).I.Hi
   ·rw [if_pos hs.1, if_pos hs.2, if_pos hs]
    obtain ⟨d1, d2⟩ := wdo13 hk (red a).I.Lo (red b).I.Lo
    rw [d1]
    exact ⟨rfl, ⟨ppa, ppb, s2, t2, isBot_pre ra.ok, fun _ => isBot_pre rb.ok⟩, (fun h => by cases h), fun _ => ⟨(fun h => by cases h), fun _ => ⟨fun _ => d2, fun h => by cases h⟩⟩⟩
   ·have hs2 : ((if (red a).I.Lo = (red a).I.Hi then ((red a).I.Lo, true) else (0, false)).2 && (if (red b).I.Lo = (red b).I.Hi then ((red b).I.Lo, true) else (0, false)).2) = false := by
     by_cases e1 : (red a).I.Lo = (red a).I.Hi
     ·by_cases e2 : (red b).I.Lo = (red b).I.Hi
      ·exact absurd ⟨e1, e2⟩ hs
      ·rw [if_neg e2, Bool.and_false]
     ·rw [if_neg e1, Bool.false_and]
    rw [hs2, if_neg hs]
    have wr := wr_ir (lo4 op (red a) (red b)) (hi4 op (red a) (red b))
    by_cases e1 : rnd (lo4 op (red a) (red b)) ≠ rnd (hi4 op (red a) (red b))
    ·rw [if_pos e1, decide_eq_true e1]
     refine ⟨rfl, ⟨ppa, ppb, s2, t2, isBot_pre ra.ok, fun _ => isBot_pre rb.ok⟩, (fun h => by cases h), fun _ => ⟨(fun h => by cases h), fun _ => ⟨(fun h => by cases h), fun _ => ⟨⟨w3, c2, r2, q2⟩, fun _ => ⟨wp, Make_pre' whole_ir (Wr_CR hc)⟩, fun h => by cases h⟩⟩⟩⟩
    ·rw [if_neg e1, decide_eq_false e1]
     have e1 := Decidable.not_not.1 e1
     have hle : IntKind.i64.wrap (lo4 op (red a) (red b)) ≤ IntKind.i64.wrap (hi4 op (red a) (red b)) := by
      have := b_le op (red a).I.Lo (red a).I.Hi (red b).I.Lo (red b).I.Hi
      rw [wrap_rnd, wrap_rnd, e1]; unfold lo4 hi4; omega
     have eo : S.inter_Of (IntKind.i64.wrap (lo4 op (red a) (red b))) (IntKind.i64.wrap (hi4 op (red a) (red b))) = ⟨IntKind.i64.wrap (lo4 op (red a) (red b)), IntKind.i64.wrap (hi4 op (red a) (red b))⟩ := by
      simp only [inter_Of]; rw [decide_eq_false (by omega)]; rfl
     rw [eo]
     by_cases e2 : rnd (lo4 op (red a) (red b)) ≠ 0
     ·rw [if_pos e2, decide_eq_true e2]
      exact ⟨rfl, ⟨ppa, ppb, s2, t2, isBot_pre ra.ok, fun _ => isBot_pre rb.ok⟩, (fun h => by cases h), fun _ => ⟨(fun h => by cases h), fun _ => ⟨(fun h => by cases h), fun _ => ⟨⟨w3, c2, r2, q2⟩, (fun h => by cases h), fun _ => ⟨r2, fun _ => wp, Make_pre' wr (Wr_CR hc)⟩⟩⟩⟩⟩
     ·rw [if_neg e2, decide_eq_false e2]
      exact ⟨rfl, ⟨ppa, ppb, s2, t2, isBot_pre ra.ok, fun _ => isBot_pre rb.ok⟩, (fun h => by cases h), fun _ => ⟨(fun h => by cases h), fun _ => ⟨(fun h => by cases h), fun _ => ⟨⟨w3, c2, r2, q2⟩, (fun h => by cases h), fun _ => ⟨r2, fun _ => wp, Make_pre' wr hc⟩⟩⟩⟩⟩
  ·rw [if_pos hk, decide_eq_false hk]
   exact ⟨rfl, ⟨ppa, ppb, s2, t2, isBot_pre ra.ok, fun _ => isBot_pre rb.ok⟩, (fun h => by cases h), fun _ => ⟨fun _ => trivial, fun h => by cases h⟩⟩
theorem arNeg {a : S.Value} (ha : VOK a) : S.arith_Neg a = dar 14 (one 0) (red a) ∧ S.arith_Neg_pre a := by
 obtain ⟨h1, h2⟩ := arDo (op := 14) (one_rv i0).ok ha
 rw [red_of (one_rv i0)] at h1
 refine ⟨?_, ?_⟩
 ·simp only [arith_Neg, one_eq]; exact h1
 ·simp only [arith_Neg_pre, one_eq, All, and_true]; exact h2
instance (op : Int) (a b : S.Value) : Decidable (wrs op a b) := by unfold wrs; infer_instance
theorem arWraps {op : Int} {a b : S.Value} (ha : VOK a) (hb : VOK b) : S.arith_Wraps op a b = decide (wrs op (red a) (red b)) ∧ S.arith_Wraps_pre op a b := by
 have ra := red_rv ha; have rb := red_rv hb
 have pa : ∀ v : S.Value, S.arith_plain v = red v := fun _ => rfl
 have ppa : S.arith_plain_pre a := by simp only [arith_plain_pre, All, and_true]; exact (made _ _ ha.1 ha.2).2
 have ppb : S.arith_plain_pre b := by simp only [arith_plain_pre, All, and_true]; exact (made _ _ hb.1 hb.2).2
 have ba := isBot_red ha; have bb := isBot_red hb
 simp only [arith_Wraps, arith_Wraps_pre, pa, ba, bb, known_b, All, and_true]
 by_cases hx : (decide (red a = bot) || decide (red b = bot) || !decide (known op)) = true
 ·rw [hx]
  refine ⟨?_, ⟨ppa, ppb, isBot_pre ra.ok, fun _ => isBot_pre rb.ok⟩, fun _ => trivial, fun h => by cases h⟩
  rw [cond_true]
  refine (decide_eq_false fun h => ?_).symm
  simp [h.1, h.2.1, h.2.2.1] at hx
 ·have hx := Bool.eq_false_iff.2 hx
  rw [hx]
  simp only [Bool.or_eq_false_iff, decide_eq_false_iff_not, Bool.not_eq_false', decide_eq_true_iff] at hx
  obtain ⟨⟨na, nb⟩, hk⟩ := hx
  obtain ⟨w1, w2, w3⟩ := bounds_W hk ra.ir rb.ir
  refine ⟨?_, ⟨ppa, ppb, isBot_pre ra.ok, fun _ => isBot_pre rb.ok⟩, (fun h => by cases h), fun _ => w3⟩
  rw [cond_false, fits_W w1, fits_W w2]
  rw [Bool.eq_iff_iff]
  simp [wrs, na, nb, hk]
end SV
