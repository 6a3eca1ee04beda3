/-
  The statement ArithSound, in plain words.
-/
import Derived.Test.YtcgafjhkefcdfaaGreatDoorArithPlain3
set_option linter.all false
open Go Vm
namespace SV
open S SC AM
theorem near22 {v : S.Value} (h : VOK v) {n : Int} (hn : I64 n) : S.law22_near_pre v n ∧
  ((red v = bot ∧ S.law22_near v n = (0, false)) ∨ (NB (red v) ∧ ∃ x, I64 x ∧ Le (one x) (red v) ∧ S.law22_near v n = (x, true))) := by
 have hm : S.value_Make v.I v.C = red v := rfl
 have hb := isBot_red h
 have hr := red_rv h
 have hmp : S.value_Make_pre v.I v.C := (made _ _ h.1 h.2).2
 by_cases e : red v = bot
 ·have hb' := hb.trans (decide_eq_true e)
  refine ⟨?_, .inl ⟨e, ?_⟩⟩
  ·simp only [law22_near_pre, hm, hb', All, and_true]
   exact ⟨⟨hmp, isBot_pre hr.ok⟩, fun _ => trivial, fun h => by cases h⟩
  ·simp only [law22_near, hm, hb', cond_true]
 ·have nb := nb_of hr e
  have hb' := hb.trans (decide_eq_false e)
  have hle := nb.le
  have hlo := nb.lo
  have hhi := nb.hi
  obtain ⟨m4, e4⟩ : ∃ m, m = (if (red v).I.Hi < (if (red v).I.Lo > n then (red v).I.Lo else n) then (red v).I.Hi else (if (red v).I.Lo > n then (red v).I.Lo else n)) := ⟨_, rfl⟩
  have h4 : (red v).I.Lo ≤ m4 ∧ m4 ≤ (red v).I.Hi := by rw [e4]; split <;> split <;> omega
  have i4 : I64 m4 := by unfold I64 at *; omega
  obtain ⟨l1, _, l3, _⟩ := Least_both (red v).C m4 hr.cr.1 hr.cr.2 (inr_i64.2 i4)
  obtain ⟨X, hX, x64, hXv⟩ : ∃ X, (bif (!(least (red v).C m4).2 || decide ((least (red v).C m4).1 > (red v).I.Hi)) then (red v).I.Lo else (least (red v).C m4).1) = X ∧ I64 X ∧ Le (one X) (red v) := by
   rcases least_spec hr.cr i4 with ⟨p1, p2, p3, p4, _⟩ | ⟨p1, _⟩
   ·by_cases hg : (least (red v).C m4).1 > (red v).I.Hi
    ·rw [decide_eq_true hg, Bool.or_true, cond_true]; exact ⟨_, rfl, hlo, has_lo nb⟩
    ·rw [decide_eq_false hg, p1]
     exact ⟨_, rfl, p2, (le_one hr p2).2 ⟨by omega, by omega, p3⟩⟩
   ·rw [p1]; exact ⟨_, rfl, hlo, has_lo nb⟩
  have g1 := has_b hr.ok x64
  rw [red_of hr, decide_eq_true hXv] at g1
  have g2 := has_b h x64
  rw [decide_eq_true hXv] at g2
  refine ⟨?_, .inr ⟨nb, X, x64, hXv, ?_⟩⟩
  ·simp only [law22_near_pre, hm, ← e4, l1, hX, All, and_true]
   exact ⟨⟨hmp, isBot_pre hr.ok⟩, fun _ => trivial, fun _ => ⟨l3, (has_iff' hr.ok x64).2, fun _ => (has_iff' h x64).2⟩⟩
  ·simp only [law22_near, hm, ← e4, l1, hX, hb', g1, g2, cond_false, Bool.and_self]
theorem made_yes {op : Int} (ho : known op) (a b : S.Value) (n : Int) {j : Nat} (hj : j < 4) (hn : IntKind.i64.wrap (cn op [a.I.Lo, a.I.Hi] [b.I.Lo, b.I.Hi] j) = n) :
  S.law22_made op a b n = true ∧ S.law22_made_pre op a b n := by
 have lL : ([a.I.Lo, a.I.Hi] : List Int).length = 2 := rfl
 have lR : ([b.I.Lo, b.I.Hi] : List Int).length = 2 := rfl
 simp only [law22_made, law22_made_pre]
 generalize ([a.I.Lo, a.I.Hi] : List Int) = L at *
 generalize ([b.I.Lo, b.I.Hi] : List Int) = R at *
 have key : ∃ y, Runs law22_made_L0_step law22_made_L0_vcs ⟨op, n, false, L, R, 0⟩ y ∧ (y.1 = true ∧ y.2.t8 = true) := by
  refine Runs.of (fun s => s.op = op ∧ s.n = n ∧ s.l = L ∧ s.r = R ∧ ∃ k : Nat, s.i = (k : Int) ∧ k ≤ j) (fun s => (4 - s.i).toNat) _ ?_ _ ⟨rfl, rfl, rfl, rfl, 0, rfl, by omega⟩
  rintro ⟨op', n', t, L', R', i⟩ ⟨e1, e2, e3, e4, k, e5, hk⟩
  dsimp only at e1 e2 e3 e4 e5
  subst e1 e2 e3 e4 e5
  have d1 : decide ((k : Int) < 4) = true := decide_eq_true (by omega)
  have d2 : Int.toNat (IntKind.i64.wrap (Int.tdiv (k : Int) 2)) = k / 2 := by rw [Int.tdiv_eq_ediv_of_nonneg (by omega), IntKind.wrap_i64]; omega
  have d2' : 0 ≤ IntKind.i64.wrap (Int.tdiv (k : Int) 2) ∧ IntKind.i64.wrap (Int.tdiv (k : Int) 2) < (L'.length : Int) := by rw [Int.tdiv_eq_ediv_of_nonneg (by omega), IntKind.wrap_i64]; omega
  have d3 : Int.toNat (Int.tmod (k : Int) 2) = k % 2 := by rw [Int.tmod_eq_emod_of_nonneg (by omega)]; omega
  have d3' : 0 ≤ Int.tmod (k : Int) 2 ∧ Int.tmod (k : Int) 2 < (R'.length : Int) := by rw [Int.tmod_eq_emod_of_nonneg (by omega)]; omega
  have d4 : IntKind.i64.wrap ((k : Int) + 1) = ((k + 1 : Nat) : Int) := by rw [IntKind.wrap_i64]; omega
  obtain ⟨w1, w2⟩ := wdo13 ho (L'.getD (k / 2) 0) (R'.getD (k % 2) 0)
  refine ⟨?_, ?_⟩
  ·simp only [law22_made_L0_vcs, d1, d2, d3, All, and_true, true_implies]
   exact ⟨⟨⟨d2'.1, d2'.2, d3'.1, d3'.2, w2⟩, fun _ => trivial, fun _ => trivial⟩, fun h => by cases h⟩
  ·simp only [law22_made_L0_step, d1, d2, d3, d4, w1, cond_true]
   by_cases ek : k = j
   ·subst ek
    have : (IntKind.i64.wrap (E op' (L'.getD (k / 2) 0) (R'.getD (k % 2) 0)) == n') = true := beq_iff_eq.2 hn
    rw [this]; exact ⟨rfl, rfl⟩
   ·generalize (IntKind.i64.wrap (E op' (L'.getD (k / 2) 0) (R'.getD (k % 2) 0)) == n') = p
    cases p
    ·exact ⟨⟨rfl, rfl, rfl, rfl, k + 1, rfl, by omega⟩, by dsimp only; omega⟩
    ·exact ⟨rfl, rfl⟩
 obtain ⟨z, r, z1, z2⟩ := key
 have e : law22_made_L0_run ⟨op, n, false, L, R, 0⟩ = z := theRun_eq (d := fun x => (true, x)) r
 rw [e]
 exact ⟨by rw [z1, z2]; rfl, r, fun _ => trivial, fun _ => trivial⟩
theorem corner_j {op : Int} {a b : S.Value} {z : Int} (h : z = E op a.I.Lo b.I.Lo ∨ z = E op a.I.Lo b.I.Hi ∨ z = E op a.I.Hi b.I.Lo ∨ z = E op a.I.Hi b.I.Hi) : ∃ j : Nat, j < 4 ∧ cn op [a.I.Lo, a.I.Hi] [b.I.Lo, b.I.Hi] j = z := by
 rcases h with h | h | h | h
 ·exact ⟨0, by decide, h.symm⟩
 ·exact ⟨1, by decide, h.symm⟩
 ·exact ⟨2, by decide, h.symm⟩
 ·exact ⟨3, by decide, h.symm⟩
theorem ends_made {op : Int} (ho : known op) {a b : S.Value} (na : NB a) (nb : NB b) (hw : ¬ wrs op a b) :
  (S.law22_made op a b (dar op a b).I.Lo = true ∧ S.law22_made_pre op a b (dar op a b).I.Lo) ∧ (S.law22_made op a b (dar op a b).I.Hi = true ∧ S.law22_made_pre op a b (dar op a b).I.Hi) := by
 have hw' : rnd (lo4 op a b) = 0 ∧ rnd (hi4 op a b) = 0 := by
  constructor
  ·exact Decidable.byContradiction fun h => hw ⟨na.ne, nb.ne, ho, .inl h⟩
  ·exact Decidable.byContradiction fun h => hw ⟨na.ne, nb.ne, ho, .inr h⟩
 obtain ⟨i1, i2, h⟩ := dar_ends ho na nb hw'
 have e : (dar op a b).I.Lo = lo4 op a b ∧ (dar op a b).I.Hi = hi4 op a b := by
  rw [h]
  by_cases hs : lo4 op a b = hi4 op a b
  ·rw [if_pos hs]; exact ⟨rfl, hs⟩
  ·rw [if_neg hs]; exact ⟨rfl, rfl⟩
 obtain ⟨j1, hj1, c1⟩ := corner_j (op := op) (a := a) (b := b) (blo_is op a.I.Lo a.I.Hi b.I.Lo b.I.Hi)
 obtain ⟨j2, hj2, c2⟩ := corner_j (op := op) (a := a) (b := b) (bhi_is op a.I.Lo a.I.Hi b.I.Lo b.I.Hi)
 rw [e.1, e.2]
 exact ⟨made_yes ho a b _ hj1 (by rw [c1]; exact wrap_of i1), made_yes ho a b _ hj2 (by rw [c2]; exact wrap_of i2)⟩
theorem ArithSound_law (a b : S.Value) (n m : Int) (ha : S.Value.ok a) (hb : S.Value.ok b) (hn : inr .i64 n) (hm : inr .i64 m) : S.law22_ArithSound_pre a b n m ∧ S.law22_ArithSound a b n m = true := by
 have ha' := (ok_iff' a).1 ha
 have hb' := (ok_iff' b).1 hb
 have ra := red_rv ha'; have rb := red_rv hb'
 have hma : S.value_Make a.I a.C = red a := rfl
 have hmb : S.value_Make b.I b.C = red b := rfl
 have ba := isBot_red ha'
 have bb := isBot_red hb'
 have mpa : S.value_Make_pre a.I a.C := (made _ _ ha'.1 ha'.2).2
 have mpb : S.value_Make_pre b.I b.C := (made _ _ hb'.1 hb'.2).2
 obtain ⟨na1, na2⟩ := near22 ha' (inr_i64.1 hn)
 obtain ⟨nb1, nb2⟩ := near22 hb' (inr_i64.1 hm)
 simp only [law22_ArithSound_pre, law22_ArithSound, hma, hmb]
 rcases na2 with ⟨ea, ea2⟩ | ⟨na, x, hx, hxa, ea2⟩
 ·rw [ea2]
  refine ⟨⟨⟨na1, nb1⟩, fun _ => ⟨⟨mpa, isBot_pre ra.ok, fun _ => mpb, fun _ => isBot_pre rb.ok, fun _ => works22.1⟩, trivial⟩, fun h => by cases h⟩, ?_⟩
  rw [ba, bb, decide_eq_true ea, works22.2]; rfl
 ·rcases nb2 with ⟨eb, eb2⟩ | ⟨nb, y, hy, hyb, eb2⟩
  ·rw [ea2, eb2]
   refine ⟨⟨⟨na1, nb1⟩, fun _ => ⟨⟨mpa, isBot_pre ra.ok, fun _ => mpb, fun _ => isBot_pre rb.ok, fun _ => works22.1⟩, trivial⟩, fun h => by cases h⟩, ?_⟩
   rw [ba, bb, decide_eq_true eb, works22.2, Bool.or_true]; rfl
  ·rw [ea2, eb2]
   dsimp only
   have key : ∃ z, Runs law22_ArithSound_L0_step law22_ArithSound_L0_vcs ⟨false, x, y, 0, a, b⟩ z ∧ (z.1 = false ∧ z.2.vx = x ∧ z.2.a = a) := by
    refine Runs.of (fun s => s.vx = x ∧ s.y = y ∧ s.a = a ∧ s.b = b ∧ 0 ≤ s.i ∧ s.i ≤ 3) (fun s => (3 - s.i).toNat) _ ?_ _ ⟨rfl, rfl, rfl, rfl, by simp, by simp⟩
    rintro ⟨t, x', y', i, a', b'⟩ ⟨e1, e2, e3, e4, h0, h1⟩
    dsimp only at e1 e2 e3 e4 h0 h1
    subst e1 e2 e3 e4
    by_cases h3 : i < 3
    ·have d1 : decide (i < 3) = true := decide_eq_true h3
     have d4 : IntKind.i64.wrap (i + 1) = i + 1 := by rw [IntKind.wrap_i64]; omega
     obtain ⟨o, ho, e3⟩ : ∃ o, known o ∧ S.law22_ops.getD i.toNat 0 = o := by
      have : i = 0 ∨ i = 1 ∨ i = 2 := by omega
      rcases this with rfl | rfl | rfl
      ·exact ⟨13, .inl rfl, rfl⟩
      ·exact ⟨14, .inr (.inl rfl), rfl⟩
      ·exact ⟨15, .inr (.inr rfl), rfl⟩
     have hlen : (S.law22_ops.length : Int) = 3 := rfl
     obtain ⟨D1, D2⟩ := arDo (op := o) ha' hb'
     obtain ⟨w1, w2⟩ := wdo13 ho x' y'
     have dr := dar_rv o ra rb
     have hI := wrap_i64' (E o x' y')
     have hh := has_b dr.ok hI
     rw [red_of dr, decide_eq_true (dar_has ho na nb hx hy hxa hyb)] at hh
     obtain ⟨S1, S2⟩ := arDo (op := o) (one_rv hx).ok (one_rv hy).ok
     rw [red_of (one_rv hx), red_of (one_rv hy), dar_one ho hx hy] at S1
     obtain ⟨g1, g2⟩ := Single_eq (one_rv hI).ok
     rw [red_of (one_rv hI), if_pos (show (one (IntKind.i64.wrap (E o x' y'))).I.Lo = (one (IntKind.i64.wrap (E o x' y'))).I.Hi from rfl)] at g1
     have g1' : S.value_Value_Single (one (IntKind.i64.wrap (E o x' y'))) = (IntKind.i64.wrap (E o x' y'), true) := g1
     obtain ⟨k1, k2⟩ := arWraps (op := o) ha' hb'
     by_cases hw : wrs o (red a') (red b')
     ·refine ⟨?_, ?_⟩
      ·simp only [law22_ArithSound_L0_vcs, d1, e3, hlen, hma, hmb, D1, w1, one_eq, S1, g1', hh, k1, decide_eq_true hw, All, and_true, true_implies]
       exact ⟨⟨⟨h0, h3, D2, w2, S2, g2, fun _ => (has_iff' dr.ok hI).2⟩, fun _ => trivial, fun _ => ⟨⟨mpa, mpb, k2, (fun h => by cases h), fun h => by cases h⟩, fun _ => trivial, fun _ => trivial⟩⟩, fun h => by cases h⟩
      ·simp only [law22_ArithSound_L0_step, d1, d4, e3, hma, hmb, D1, w1, one_eq, S1, g1', hh, k1, decide_eq_true hw, cond_true, Bool.not_true, Bool.or_self, Bool.false_and, bne_self_eq_false, cond_false]
       exact ⟨⟨trivial, trivial, trivial, trivial, by omega, by omega⟩, by omega⟩
     ·obtain ⟨⟨m1, m2⟩, m3, m4⟩ := ends_made ho na nb hw
      refine ⟨?_, ?_⟩
      ·simp only [law22_ArithSound_L0_vcs, d1, e3, hlen, hma, hmb, D1, w1, one_eq, S1, g1', hh, k1, decide_eq_false hw, m1, m3, All, and_true, true_implies]
       exact ⟨⟨⟨h0, h3, D2, w2, S2, g2, fun _ => (has_iff' dr.ok hI).2⟩, fun _ => trivial, fun _ => ⟨⟨mpa, mpb, k2, fun _ => m2, fun _ _ => m4⟩, fun _ => trivial, fun _ => trivial⟩⟩, fun h => by cases h⟩
      ·simp only [law22_ArithSound_L0_step, d1, d4, e3, hma, hmb, D1, w1, one_eq, S1, g1', hh, k1, decide_eq_false hw, m1, m3, cond_true, Bool.not_true, Bool.or_self, Bool.and_false, bne_self_eq_false, cond_false]
       exact ⟨⟨trivial, trivial, trivial, trivial, by omega, by omega⟩, by omega⟩
    ·have d1 : decide (i < 3) = false := decide_eq_false h3
     refine ⟨by simp only [law22_ArithSound_L0_vcs, d1]; exact ⟨(fun h => by cases h), fun _ => trivial⟩, ?_⟩
     simp only [law22_ArithSound_L0_step, d1, cond_false]
     exact ⟨trivial, trivial, trivial⟩
   obtain ⟨z, r, z1, z2, z3⟩ := key
   have e : law22_ArithSound_L0_run ⟨false, x, y, 0, a, b⟩ = z := theRun_eq (d := fun x => (true, x)) r
   rw [e, z1, z2, z3]
   have o1 : S.word_One 18 x = (IntKind.i64.wrap (0 - x), true) := rfl
   rw [o1]
   obtain ⟨N1, N2⟩ := arNeg ha'
   rw [N1]
   have dr := dar_rv 14 (one_rv i0) ra
   have hI := wrap_i64' (E 14 0 x)
   have hE : E 14 0 x = 0 - x := rfl
   have hh := has_b dr.ok hI
   rw [red_of dr, decide_eq_true (dar_has (.inr (.inl rfl)) (one_NB i0) na i0 hx (Le.refl (one_rv i0)) hxa), hE] at hh
   have hp := (has_iff' dr.ok hI).2
   rw [hE] at hp
   dsimp only
   rw [hh, works22.2]
   exact ⟨⟨⟨na1, nb1⟩, (fun h => by cases h), fun _ => ⟨r, (fun h => by cases h), fun _ => ⟨⟨fun _ => N2, fun _ => hp, fun _ => works22.1⟩, trivial⟩⟩⟩, rfl⟩
end SV
