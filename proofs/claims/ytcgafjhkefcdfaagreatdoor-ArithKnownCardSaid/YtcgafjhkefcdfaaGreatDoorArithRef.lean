/-
  The document's sums, differences and products of values, by rows of bytes.
-/
import Derived.Test.YtcgafjhkefcdfaaGreatDoorArithPlain3
import Derived.Test.YtcgafjhkefcdfaaGreatDoorQKWord
set_option linter.all false
open Go Vm
namespace SV
open S SC AM SN
def NN (z : Int) : Nat := (1569275433846670190958947355801916604034812233152863404032 + z).toNat
theorem small8 {n : Nat} (h : n < 115792089237316195423570985008687907853269984665640564039457584007913129639936) : (digs8 n).length ≤ 100000 :=
 Nat.le_trans (digs_len8 n 32 (by simpa using h)) (by decide)
theorem small64 {n : Nat} (h : n < 6277101735386680763835789423207666416102355444464034512896) : (digs n).length ≤ 100000 :=
 Nat.le_trans (digs_len n 3 (by simpa using h)) (by decide)
theorem Of1 {x : Int} (h : 0 ≤ x ∧ x ≤ 18446744073709551615) : S.ref01_Of [x] = digs8 x.toNat ∧ S.ref01_Of_pre [x] := by
 obtain ⟨h1, h2⟩ := refOf_eq [x] (by intro y hy; simp only [List.mem_singleton] at hy; subst hy; exact h) (by simp)
 refine ⟨?_, h1⟩
 rw [h2, show SN.val [x] = x by simp [SN.val]]
theorem much_eq {n : Int} (h : I64 n) : S.ref22_much n = digs8 n.natAbs ∧ S.ref22_much_pre n := by
 unfold I64 at h
 simp only [ref22_much, ref22_much_pre, All, and_true]
 by_cases hn : n < 0
 ·have e : IntKind.u64.wrap (IntKind.i64.wrap (0 - n)) = -n := by rw [IntKind.wrap_i64, IntKind.wrap_u64]; omega
  obtain ⟨h1, h2⟩ := Of1 (x := -n) (by omega)
  rw [decide_eq_true hn, e, h1, show (-n).toNat = n.natAbs by omega]
  exact ⟨rfl, fun _ => h2, fun h => by cases h⟩
 ·have e : IntKind.u64.wrap n = n := by rw [IntKind.wrap_u64]; omega
  obtain ⟨h1, h2⟩ := Of1 (x := n) (by omega)
  rw [decide_eq_false hn, e, h1, show n.toNat = n.natAbs by omega]
  exact ⟨rfl, (fun h => by cases h), fun _ => h2⟩
theorem add8 {m n : Nat} (hm : m < 115792089237316195423570985008687907853269984665640564039457584007913129639936) (hn : n < 115792089237316195423570985008687907853269984665640564039457584007913129639936) :
  S.ref01_Add_pre (digs8 m) (digs8 n) ∧ S.ref01_Add (digs8 m) (digs8 n) = digs8 (m + n) := by
 obtain ⟨v1, l1⟩ := digs_val8 m
 obtain ⟨v2, l2⟩ := digs_val8 n
 obtain ⟨h1, h2⟩ := refAdd_eq (digs8 m) (digs8 n) l1 l2 (small8 hm) (small8 hn)
 refine ⟨h1, ?_⟩
 rw [h2, v1, v2, show ((m : Int) + (n : Int)).toNat = m + n by omega]
theorem put_eq {m n : Nat} (hm : m < 115792089237316195423570985008687907853269984665640564039457584007913129639936) (hn : n < 115792089237316195423570985008687907853269984665640564039457584007913129639936) (b : Bool) (hb : b = true → n ≤ m) :
  S.ref22_put (digs8 m) (digs8 n) b = digs8 (bif b then m - n else m + n) ∧ S.ref22_put_pre (digs8 m) (digs8 n) b := by
 obtain ⟨a1, a2⟩ := add8 hm hn
 simp only [ref22_put, ref22_put_pre, All, and_true]
 cases b
 ·exact ⟨a2, (fun h => by cases h), fun _ => a1⟩
 ·obtain ⟨s1, s2⟩ := refSub_eq m n (small8 hm) (hb rfl)
  exact ⟨s2, fun _ => s1, fun h => by cases h⟩
theorem base_eq : S.ref22_base = digs8 1569275433846670190958947355801916604025588861116008628224 ∧ S.ref22_base_pre := by
 obtain ⟨h1, h2⟩ := refOf_eq [0, 0, 4611686018427387904] (by intro y hy; simp only [List.mem_cons, List.not_mem_nil, or_false] at hy; omega) (by simp)
 refine ⟨?_, ⟨h1, trivial⟩⟩
 simp only [ref22_base]
 rw [h2, show SN.val [0, 0, 4611686018427387904] = 1569275433846670190958947355801916604025588861116008628224 by simp [SN.val]]; rfl
theorem mul_abs (a b : Int) : a * b = (if decide (a < 0) = decide (b < 0) then ((a.natAbs * b.natAbs : Nat) : Int) else -((a.natAbs * b.natAbs : Nat) : Int)) := by
 have ea : a = if a < 0 then -(a.natAbs : Int) else (a.natAbs : Int) := by split <;> omega
 have eb : b = if b < 0 then -(b.natAbs : Int) else (b.natAbs : Int) := by split <;> omega
 generalize a.natAbs = x at *
 generalize b.natAbs = y at *
 by_cases ha : a < 0
 ·by_cases hb : b < 0
  ·rw [if_pos ha] at ea; rw [if_pos hb] at eb
   rw [decide_eq_true ha, decide_eq_true hb, if_pos rfl, ea, eb, Int.neg_mul_neg]; simp
  ·rw [if_pos ha] at ea; rw [if_neg hb] at eb
   rw [decide_eq_true ha, decide_eq_false hb, if_neg (by decide), ea, eb, Int.neg_mul]; simp
 ·by_cases hb : b < 0
  ·rw [if_neg ha] at ea; rw [if_pos hb] at eb
   rw [decide_eq_false ha, decide_eq_true hb, if_neg (by decide), ea, eb, Int.mul_neg]; simp
  ·rw [if_neg ha] at ea; rw [if_neg hb] at eb
   rw [decide_eq_false ha, decide_eq_false hb, if_pos rfl, ea, eb]; simp
theorem Exact_eq {op : Int} (ho : known op) {a b : Int} (ha : I64 a) (hb : I64 b) : S.ref22_Exact op a b = digs8 (NN (E op a b)) ∧ S.ref22_Exact_pre op a b := by
 have hr := E_range op ha hb
 obtain ⟨b1, b2⟩ := base_eq
 obtain ⟨o1, o2⟩ := Of1 (x := 9223372036854775808) (by decide)
 obtain ⟨m1, m2⟩ := much_eq ha
 obtain ⟨n1, n2⟩ := much_eq hb
 have xa : a.natAbs ≤ 9223372036854775808 := by unfold I64 at ha; omega
 have xb : b.natAbs ≤ 9223372036854775808 := by unfold I64 at hb; omega
 obtain ⟨k1, k2⟩ := add8 (m := 1569275433846670190958947355801916604025588861116008628224) (n := 9223372036854775808) (by decide) (by decide)
 rw [show (1569275433846670190958947355801916604025588861116008628224 : Nat) + 9223372036854775808 = 1569275433846670190958947355801916604034812233152863404032 from rfl] at k2
 simp only [ref22_Exact, ref22_Exact_pre, b1, o1, show Int.toNat 9223372036854775808 = 9223372036854775808 from rfl, k2, m1, n1, All, and_true]
 by_cases h15 : op = 15
 ·subst h15
  obtain ⟨v1, l1⟩ := digs_val8 a.natAbs
  obtain ⟨v2, l2⟩ := digs_val8 b.natAbs
  obtain ⟨p1, p2⟩ := refMul_eq (digs8 a.natAbs) (digs8 b.natAbs) l1 l2 (small8 (by omega)) (small8 (by omega))
  have hp := Nat.mul_le_mul xa xb
  have hm := mul_abs a b
  rw [E15] at hr ⊢
  rw [v1, v2, show ((a.natAbs : Int) * (b.natAbs : Int)).toNat = a.natAbs * b.natAbs by rw [← Int.natCast_mul]; exact Int.toNat_natCast _] at p2
  rw [p2]
  generalize a.natAbs * b.natAbs = q at *
  obtain ⟨u1, u2⟩ := put_eq (m := 1569275433846670190958947355801916604034812233152863404032) (n := q) (by decide) (by omega) (!(decide (a < 0) == decide (b < 0))) (fun _ => by omega)
  rw [u1]
  refine ⟨?_, ⟨b2, o2, k1⟩, fun _ => ⟨m2, n2, p1, u2⟩, fun h => by cases h⟩
  show digs8 _ = digs8 _
  congr 1
  rw [hm]
  unfold NN
  by_cases hs : decide (a < 0) = decide (b < 0)
  ·rw [hs, if_pos rfl, beq_self_eq_true]
   simp only [Bool.not_true, cond_false]; omega
  ·rw [if_neg hs, show (decide (a < 0) == decide (b < 0)) = false from beq_eq_false_iff_ne.2 hs]
   simp only [Bool.not_false, cond_true]; omega
 ·have h13 : op = 13 ∨ op = 14 := by unfold known at ho; omega
  rw [show (op == 15) = false from beq_eq_false_iff_ne.2 h15]
  obtain ⟨u1, u2⟩ := put_eq (m := 1569275433846670190958947355801916604034812233152863404032) (n := a.natAbs) (by decide) (by omega) (decide (a < 0)) (fun _ => by omega)
  have e1 : (bif decide (a < 0) then 1569275433846670190958947355801916604034812233152863404032 - a.natAbs else 1569275433846670190958947355801916604034812233152863404032 + a.natAbs) = NN a := by
   unfold NN
   by_cases h : a < 0
   ·rw [decide_eq_true h, cond_true]; omega
   ·rw [decide_eq_false h, cond_false]; omega
  rw [e1] at u1
  have hN : NN a < 115792089237316195423570985008687907853269984665640564039457584007913129639936 ∧ 9223372036854775808 ≤ NN a := by unfold NN; omega
  obtain ⟨w1, w2⟩ := put_eq (m := NN a) (n := b.natAbs) hN.1 (by omega) (!(decide (b < 0) == (op == 14))) (fun _ => by omega)
  rw [u1, w1]
  refine ⟨?_, ⟨b2, o2, k1⟩, (fun h => by cases h), fun _ => ⟨m2, u2, n2, w2⟩⟩
  rw [cond_false]
  congr 1
  rcases h13 with rfl | rfl
  ·have e : E 13 a b = a + b := rfl
   rw [e]
   unfold NN
   by_cases h : b < 0
   ·rw [decide_eq_true h]
    simp only [show (true == ((13 : Int) == 14)) = false from rfl, Bool.not_false, cond_true]; omega
   ·rw [decide_eq_false h]
    simp only [show (false == ((13 : Int) == 14)) = true from rfl, Bool.not_true, cond_false]; omega
  ·have e : E 14 a b = a - b := rfl
   rw [e]
   unfold NN
   by_cases h : b < 0
   ·rw [decide_eq_true h]
    simp only [show (true == ((14 : Int) == 14)) = true from rfl, Bool.not_true, cond_false]; omega
   ·rw [decide_eq_false h]
    simp only [show (false == ((14 : Int) == 14)) = false from rfl, Bool.not_false, cond_true]; omega
theorem cmp_NN {x y : Int} (hx : -170141183460469231731687303715884105728 ≤ x ∧ x ≤ 170141183460469231731687303715884105728) (hy : -170141183460469231731687303715884105728 ≤ y ∧ y ≤ 170141183460469231731687303715884105728) :
  S.ref01_Cmp_pre (digs8 (NN x)) (digs8 (NN y)) ∧ S.ref01_Cmp (digs8 (NN x)) (digs8 (NN y)) = sg (x - y) := by
 obtain ⟨h1, h2⟩ := refCmp_eq (NN x) (NN y) (small8 (by unfold NN; omega)) (small8 (by unfold NN; omega))
 refine ⟨h1, ?_⟩
 rw [h2, show ((NN x : Int) - (NN y : Int)) = x - y by unfold NN; omega]
theorem sg_lt (d : Int) : decide (sg d < 0) = decide (d < 0) := by
 unfold sg; by_cases h : d < 0
 ·rw [if_pos h, decide_eq_true h]; rfl
 ·rw [if_neg h, decide_eq_false h]; split <;> rfl
theorem sg_gt (d : Int) : decide (sg d > 0) = decide (d > 0) := by
 unfold sg; by_cases h : d < 0
 ·rw [if_pos h, decide_eq_false (show ¬ d > 0 by omega)]; rfl
 ·rw [if_neg h]
  by_cases g : d > 0
  ·rw [if_pos g, decide_eq_true g]; rfl
  ·rw [if_neg g, decide_eq_false g]; rfl
theorem sg_ne (d : Int) : (sg d != 0) = decide (d ≠ 0) := by
 unfold sg; by_cases h : d < 0
 ·rw [if_pos h, decide_eq_true (by omega)]; rfl
 ·rw [if_neg h]; split
  ·rw [decide_eq_true (by omega)]; rfl
  ·rw [decide_eq_false (by omega)]; rfl
def rn4 (op : Int) (L R : List Int) (k : Nat) : Int := E op (L.getD k 0) (R.getD k 0)
def rl (op : Int) (L R : List Int) : Nat → Int
 | 0 => rn4 op L R 0
 | k + 1 => min (rl op L R k) (rn4 op L R (k + 1))
def rh (op : Int) (L R : List Int) : Nat → Int
 | 0 => rn4 op L R 0
 | k + 1 => max (rh op L R k) (rn4 op L R (k + 1))
theorem Bounds_eq {op : Int} (ho : known op) {a b : S.Value} (ha : IR a.I) (hb : IR b.I) : S.ref22_Bounds op a b = (digs8 (NN (lo4 op a b)), digs8 (NN (hi4 op a b))) ∧ S.ref22_Bounds_pre op a b := by
 have oL : ∀ k : Nat, k < 4 → I64 (([a.I.Lo, a.I.Lo, a.I.Hi, a.I.Hi] : List Int).getD k 0) := fun k hk => by
  have : k = 0 ∨ k = 1 ∨ k = 2 ∨ k = 3 := by omega
  rcases this with rfl | rfl | rfl | rfl
  ·exact ha.1
  ·exact ha.1
  ·exact ha.2
  ·exact ha.2
 have oR : ∀ k : Nat, k < 4 → I64 (([b.I.Lo, b.I.Hi, b.I.Lo, b.I.Hi] : List Int).getD k 0) := fun k hk => by
  have : k = 0 ∨ k = 1 ∨ k = 2 ∨ k = 3 := by omega
  rcases this with rfl | rfl | rfl | rfl
  ·exact hb.1
  ·exact hb.2
  ·exact hb.1
  ·exact hb.2
 have el : rl op [a.I.Lo, a.I.Lo, a.I.Hi, a.I.Hi] [b.I.Lo, b.I.Hi, b.I.Lo, b.I.Hi] 3 = lo4 op a b := by
  show min (min (min (E op a.I.Lo b.I.Lo) (E op a.I.Lo b.I.Hi)) (E op a.I.Hi b.I.Lo)) (E op a.I.Hi b.I.Hi) = _
  unfold lo4 blo; omega
 have eh : rh op [a.I.Lo, a.I.Lo, a.I.Hi, a.I.Hi] [b.I.Lo, b.I.Hi, b.I.Lo, b.I.Hi] 3 = hi4 op a b := by
  show max (max (max (E op a.I.Lo b.I.Lo) (E op a.I.Lo b.I.Hi)) (E op a.I.Hi b.I.Lo)) (E op a.I.Hi b.I.Hi) = _
  unfold hi4 bhi; omega
 have lL : (([a.I.Lo, a.I.Lo, a.I.Hi, a.I.Hi] : List Int).length : Int) = 4 := rfl
 have lR : (([b.I.Lo, b.I.Hi, b.I.Lo, b.I.Hi] : List Int).length : Int) = 4 := rfl
 simp only [ref22_Bounds, ref22_Bounds_pre]
 rw [← el, ← eh, lL, lR]
 clear el eh
 generalize ([a.I.Lo, a.I.Lo, a.I.Hi, a.I.Hi] : List Int) = L at *
 generalize ([b.I.Lo, b.I.Hi, b.I.Lo, b.I.Hi] : List Int) = R at *
 have cr : ∀ k : Nat, k < 4 → (-85070591730234615865843651857942052864 ≤ rn4 op L R k ∧ rn4 op L R k ≤ 85070591730234615865843651857942052864) := fun k hk => E_range op (oL k hk) (oR k hk)
 have lr : ∀ k : Nat, k < 4 → (-85070591730234615865843651857942052864 ≤ rl op L R k ∧ rl op L R k ≤ 85070591730234615865843651857942052864) ∧ (-85070591730234615865843651857942052864 ≤ rh op L R k ∧ rh op L R k ≤ 85070591730234615865843651857942052864) := by
  intro k
  induction k with
  | zero => exact fun _ => ⟨cr 0 (by decide), cr 0 (by decide)⟩
  | succ k ih =>
   intro hk
   have h1 := ih (by omega)
   have h2 := cr (k + 1) hk
   show (_ ≤ min (rl op L R k) (rn4 op L R (k + 1)) ∧ min (rl op L R k) (rn4 op L R (k + 1)) ≤ _) ∧ (_ ≤ max (rh op L R k) (rn4 op L R (k + 1)) ∧ max (rh op L R k) (rn4 op L R (k + 1)) ≤ _)
   omega
 obtain ⟨x1, x2⟩ := Exact_eq ho (oL 0 (by decide)) (oR 0 (by decide))
 rw [show L.getD (Int.toNat 0) 0 = L.getD 0 0 from rfl, show R.getD (Int.toNat 0) 0 = R.getD 0 0 from rfl, x1]
 have key : ∃ y, Runs ref22_Bounds_L0_step ref22_Bounds_L0_vcs ⟨op, L, R, digs8 (NN (rl op L R 0)), digs8 (NN (rh op L R 0)), 1⟩ y ∧ (y.lo = digs8 (NN (rl op L R 3)) ∧ y.hi = digs8 (NN (rh op L R 3))) := by
  refine Runs.of (fun s => s.op = op ∧ s.l = L ∧ s.r = R ∧ ∃ k : Nat, s.i = (k : Int) + 1 ∧ k ≤ 3 ∧ s.lo = digs8 (NN (rl op L R k)) ∧ s.hi = digs8 (NN (rh op L R k))) (fun s => (4 - s.i).toNat) _ ?_ _ ⟨rfl, rfl, rfl, 0, rfl, by decide, rfl, rfl⟩
  rintro ⟨op', L', R', lo, hi, i⟩ ⟨e1, e2, e3, k, e4, hk, hl, hh⟩
  dsimp only at e1 e2 e3 e4 hl hh
  subst e1 e2 e3 e4 hl hh
  by_cases h4 : k < 3
  ·have d1 : decide ((k : Int) + 1 < 4) = true := decide_eq_true (by omega)
   have d2 : Int.toNat ((k : Int) + 1) = k + 1 := by omega
   have d4 : IntKind.i64.wrap ((k : Int) + 1 + 1) = ((k + 1 : Nat) : Int) + 1 := by rw [IntKind.wrap_i64]; omega
   obtain ⟨w1, w2⟩ := Exact_eq ho (oL (k + 1) (by omega)) (oR (k + 1) (by omega))
   have hc := cr (k + 1) (by omega)
   have hlr := lr k (by omega)
   obtain ⟨p1, p2⟩ := cmp_NN (x := rn4 op' L' R' (k + 1)) (y := rl op' L' R' k) (by omega) (by omega)
   obtain ⟨q1, q2⟩ := cmp_NN (x := rn4 op' L' R' (k + 1)) (y := rh op' L' R' k) (by omega) (by omega)
   have w1' : S.ref22_Exact op' (L'.getD (k + 1) 0) (R'.getD (k + 1) 0) = digs8 (NN (rn4 op' L' R' (k + 1))) := w1
   refine ⟨?_, ?_⟩
   ·simp only [ref22_Bounds_L0_vcs, d1, d2, w1', lL, lR, All, and_true, true_implies]
    exact ⟨⟨by omega, by omega, by omega, by omega, w2, p1, q1⟩, fun h => by cases h⟩
   ·simp only [ref22_Bounds_L0_step, d1, d2, d4, w1', p2, q2, sg_lt, sg_gt, cond_true]
    refine ⟨⟨trivial, trivial, trivial, k + 1, rfl, by omega, ?_, ?_⟩, by omega⟩
    ·show _ = digs8 (NN (min (rl op' L' R' k) (rn4 op' L' R' (k + 1))))
     by_cases h : rn4 op' L' R' (k + 1) - rl op' L' R' k < 0
     ·rw [decide_eq_true h, cond_true, Int.min_eq_right (by omega)]
     ·rw [decide_eq_false h, cond_false, Int.min_eq_left (by omega)]
    ·show _ = digs8 (NN (max (rh op' L' R' k) (rn4 op' L' R' (k + 1))))
     by_cases h : rn4 op' L' R' (k + 1) - rh op' L' R' k > 0
     ·rw [decide_eq_true h, cond_true, Int.max_eq_right (by omega)]
     ·rw [decide_eq_false h, cond_false, Int.max_eq_left (by omega)]
  ·have d1 : decide ((k : Int) + 1 < 4) = false := decide_eq_false (by omega)
   obtain rfl : k = 3 := by omega
   refine ⟨by simp only [ref22_Bounds_L0_vcs, d1]; exact ⟨(fun h => by cases h), fun _ => trivial⟩, ?_⟩
   simp only [ref22_Bounds_L0_step, d1, cond_false]
   exact ⟨trivial, trivial⟩
 obtain ⟨y, r, y1, y2⟩ := key
 have e : ref22_Bounds_L0_run ⟨op, L, R, digs8 (NN (E op (L.getD 0 0) (R.getD 0 0))), digs8 (NN (E op (L.getD 0 0) (R.getD 0 0))), 1⟩ = y := theRun_eq (d := fun x => x) r
 rw [e, y1, y2]
 exact ⟨rfl, ⟨by decide, by decide, by decide, by decide, x2, by decide, by decide, by decide, by decide, x2, r⟩, trivial⟩
def RR (z : Int) : List Int := digs8 (85070591730234615865843651857942052864 + rnd z).toNat
theorem Round_eq {z : Int} (hz : -170141183460469231731687303715884105728 ≤ z ∧ z ≤ 170141183460469231731687303715884105728) : S.ref22_Round (digs8 (NN z)) = (RR z, IntKind.i64.wrap z) ∧ S.ref22_Round_pre (digs8 (NN z)) := by
 have hN : 0 < NN z ∧ NN z < 6277101735386680763835789423207666416102355444464034512896 := by unfold NN; omega
 obtain ⟨l1, l2⟩ := refLimbs_eq (NN z) (small64 hN.2)
 have hp := digs_pos hN.1
 have hq : NN z / 18446744073709551616 = (85070591730234615865843651857942052864 + rnd z).toNat := by unfold NN rnd; omega
 have hl := small64 hN.2
 obtain ⟨v1, v2⟩ := digs_val (NN z / 18446744073709551616)
 obtain ⟨o1, o2⟩ := refOf_eq (digs (NN z / 18446744073709551616)) v2 (small64 (by omega))
 rw [v1, Int.toNat_natCast] at o2
 have ed : ((digs (NN z)).take (Int.toNat ((digs (NN z)).length : Int))).drop (Int.toNat 1) = digs (NN z / 18446744073709551616) := by
  rw [Int.toNat_natCast, List.take_length, hp]; rfl
 have e0 : (digs (NN z)).getD (Int.toNat 0) 0 = ((NN z % 18446744073709551616 : Nat) : Int) := by rw [hp]; rfl
 have hlen : 1 ≤ ((digs (NN z)).length : Int) := by rw [hp, List.length_cons]; omega
 rw [hq] at o1 o2 ed
 refine ⟨?_, ?_⟩
 ·simp only [ref22_Round, l2, ed, o2, e0, RR]
  congr 1
  rw [IntKind.wrap_u64, IntKind.wrap_i64, IntKind.wrap_i64]
  unfold NN; omega
 ·simp only [ref22_Round_pre, l2, ed, All, and_true]
  exact ⟨l1, by decide, hlen, Int.le_refl _, o1, by decide, by omega⟩
theorem cmp_RR {x y : Int} (hx : -170141183460469231731687303715884105728 ≤ x ∧ x ≤ 170141183460469231731687303715884105728) (hy : -170141183460469231731687303715884105728 ≤ y ∧ y ≤ 170141183460469231731687303715884105728) :
  S.ref01_Cmp_pre (RR x) (RR y) ∧ (S.ref01_Cmp (RR x) (RR y) != 0) = decide (rnd x ≠ rnd y) := by
 have h1 : -9223372036854775808 ≤ rnd x ∧ rnd x ≤ 9223372036854775808 := by unfold rnd; omega
 have h2 : -9223372036854775808 ≤ rnd y ∧ rnd y ≤ 9223372036854775808 := by unfold rnd; omega
 obtain ⟨c1, c2⟩ := refCmp_eq (85070591730234615865843651857942052864 + rnd x).toNat (85070591730234615865843651857942052864 + rnd y).toNat (small8 (by omega)) (small8 (by omega))
 refine ⟨c1, ?_⟩
 unfold RR
 rw [c2, sg_ne]
 refine decide_eq_decide.2 ?_
 omega
theorem base_NN : S.ref22_base = digs8 (NN (-9223372036854775808)) := by rw [base_eq.1]; rfl
theorem zero_RR : S.ref22_zero = RR (-9223372036854775808) ∧ S.ref22_zero_pre := by
 obtain ⟨r1, r2⟩ := Round_eq (z := -9223372036854775808) (by decide)
 refine ⟨?_, ?_⟩
 ·simp only [ref22_zero, base_NN, r1]
 ·simp only [ref22_zero_pre, All, and_true]
  exact ⟨base_eq.2, by rw [base_NN]; exact r2⟩
theorem cmp_zero {x : Int} (hx : -170141183460469231731687303715884105728 ≤ x ∧ x ≤ 170141183460469231731687303715884105728) :
  S.ref01_Cmp_pre (RR x) S.ref22_zero ∧ (S.ref01_Cmp (RR x) S.ref22_zero != 0) = decide (rnd x ≠ 0) := by
 rw [zero_RR.1]
 exact cmp_RR hx (y := -9223372036854775808) (by decide)
end SV
