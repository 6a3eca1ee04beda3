/-
  The statements CondSound and CondExact, in plain words.
-/
import Derived.Test.YthplfkeecpkmhaaGreatDoorCondPlain8
set_option linter.all false
open Go Vm
namespace SV
open S SC

/-! ### What an operator makes of two numbers -/

theorem cmp64 (x y : Int) : S.cmp_Compareint64 x y = if x < y then -1 else if x = y then 0 else 1 := by
  simp only [cmp_Compareint64, cmp_isNaNint64, bne_self_eq_false, cond_false, Bool.cond_decide]
  by_cases h : x < y
  · rw [if_pos h, if_pos h]
  · rw [if_neg h, if_neg h]
    by_cases e : x = y
    · rw [if_neg (by omega), if_pos e]
    · rw [if_pos (by omega), if_neg e]
theorem wcompares {op : Int} (ho : 2 ≤ op ∧ op ≤ 7) (x y : Int) : S.word_compares op x y = (cmpb op x y, true) := by
  simp only [word_compares, cmp64]
  have : op = 2 ∨ op = 3 ∨ op = 4 ∨ op = 5 ∨ op = 6 ∨ op = 7 := by omega
  have h3 : x < y ∨ x = y ∨ y < x := by omega
  rcases h3 with h | h | h
  · have h1 : ¬ y < x := by omega
    have h2 : ¬ x = y := by omega
    have h3 : x ≤ y := by omega
    have h4 : ¬ y ≤ x := by omega
    rcases this with rfl | rfl | rfl | rfl | rfl | rfl <;> simp [cmpb, h, h1, h2, h3, h4]
  · subst h
    rcases this with rfl | rfl | rfl | rfl | rfl | rfl <;> simp [cmpb]
  · have h1 : ¬ x < y := by omega
    have h2 : ¬ x = y := by omega
    have h3 : y ≤ x := by omega
    have h4 : ¬ x ≤ y := by omega
    rcases this with rfl | rfl | rfl | rfl | rfl | rfl <;> simp [cmpb, h, h1, h2, h3, h4]
theorem wcompares0 {op : Int} (ho : op = 0 ∨ op = 1) (x y : Int) : S.word_compares op x y = (false, false) := by
  rcases ho with rfl | rfl <;> rfl
theorem wdo {op : Int} (ho : 0 ≤ op ∧ op ≤ 7) (x y : Int) : S.word_Do op x y = (bit (cmpb op x y), true) ∧ S.word_Do_pre op x y := by
  by_cases h : 2 ≤ op
  · have e := wcompares ⟨h, ho.2⟩ x y
    refine ⟨?_, ?_⟩
    · simp only [word_Do, e, cond_true, word_Bit, bit]
    · simp only [word_Do_pre, e]
      exact ⟨fun _ => trivial, fun h => by cases h⟩
  · have h2 : op = 0 ∨ op = 1 := by omega
    have e := wcompares0 h2 x y
    have hb : ∀ z : Int, (z != 0) = decide (z ≠ 0) := fun z => by rw [Bool.eq_iff_iff]; simp
    rcases h2 with rfl | rfl
    · refine ⟨?_, ?_⟩
      · simp only [word_Do, e, cond_false, word_Traps, word_reckons_1, word_Truth, word_Bit, bit, cmpb, hb]; rfl
      · simp only [word_Do_pre, e]
        exact ⟨(fun h => by cases h), fun _ => ⟨fun _ => trivial, fun _ => ⟨⟨fun _ => trivial, fun h => by cases h⟩, trivial⟩⟩⟩
    · refine ⟨?_, ?_⟩
      · simp only [word_Do, e, cond_false, word_Traps, word_reckons_2, word_Truth, word_Bit, bit, cmpb, hb]; rfl
      · simp only [word_Do_pre, e]
        exact ⟨(fun h => by cases h), fun _ => ⟨fun _ => trivial, fun _ => ⟨⟨(fun h => by cases h), fun _ => ⟨fun _ => trivial, fun h => by cases h⟩⟩, trivial⟩⟩⟩

/-! ### A number of a value, near some one -/

theorem near_eq {v : S.Value} (h : VOK v) {n : Int} (hn : I64 n) : S.law24_near_pre v n ∧
    ((red v = bot ∧ S.law24_near v n = (0, false)) ∨ (NB (red v) ∧ ∃ x, I64 x ∧ Le (one x) (red v) ∧ S.law24_near v n = (x, true))) := by
  have hm : S.value_Make v.I v.C = red v := rfl
  have hb := isBot_red h
  have hr := red_rv h
  have hmp : S.value_Make_pre v.I v.C := (made _ _ h.1 h.2).2
  by_cases e : red v = bot
  · have hb' := hb.trans (decide_eq_true e)
    refine ⟨?_, .inl ⟨e, ?_⟩⟩
    · simp only [law24_near_pre, hm, hb', All, and_true]
      exact ⟨⟨hmp, isBot_pre hr.ok⟩, fun _ => trivial, fun h => by cases h⟩
    · simp only [law24_near, hm, hb', cond_true]
  · have nb := nb_of hr e
    have hb' := hb.trans (decide_eq_false e)
    have hle := nb.le
    have hlo := nb.lo
    have hhi := nb.hi
    obtain ⟨m4, e4⟩ : ∃ m, m = (if (red v).I.Hi < (if (red v).I.Lo > n then (red v).I.Lo else n) then (red v).I.Hi else (if (red v).I.Lo > n then (red v).I.Lo else n)) := ⟨_, rfl⟩
    have h4 : (red v).I.Lo ≤ m4 ∧ m4 ≤ (red v).I.Hi := by rw [e4]; split <;> split <;> omega
    have i4 : I64 m4 := by unfold I64 at *; omega
    obtain ⟨l1, _, l3, _⟩ := Least_both (red v).C m4 hr.cr.1 hr.cr.2 (inr_i64.2 i4)
    obtain ⟨X, hX, x64, hXv⟩ : ∃ X, (bif (!(least (red v).C m4).2 || decide ((least (red v).C m4).1 > (red v).I.Hi)) then (red v).I.Lo else (least (red v).C m4).1) = X ∧ I64 X ∧ Le (one X) (red v) := by
      rcases least_spec hr.cr i4 with ⟨p1, p2, p3, p4, _⟩ | ⟨p1, _⟩
      · by_cases hg : (least (red v).C m4).1 > (red v).I.Hi
        · rw [decide_eq_true hg, Bool.or_true, cond_true]; exact ⟨_, rfl, hlo, has_lo nb⟩
        · rw [decide_eq_false hg, p1]
          exact ⟨_, rfl, p2, (le_one hr p2).2 ⟨by omega, by omega, p3⟩⟩
      · rw [p1]; exact ⟨_, rfl, hlo, has_lo nb⟩
    have g1 := has_b hr.ok x64
    rw [red_of hr, decide_eq_true hXv] at g1
    have g2 := has_b h x64
    rw [decide_eq_true hXv] at g2
    refine ⟨?_, .inr ⟨nb, X, x64, hXv, ?_⟩⟩
    · simp only [law24_near_pre, hm, ← e4, l1, hX, All, and_true]
      exact ⟨⟨hmp, isBot_pre hr.ok⟩, fun _ => trivial, fun _ => ⟨l3, (has_iff' hr.ok x64).2, fun _ => (has_iff' h x64).2⟩⟩
    · simp only [law24_near, hm, ← e4, l1, hX, hb', g1, g2, cond_false, Bool.and_self]

/-! ### CondSound -/

theorem CondSound_law (op : Int) (a b : S.Value) (n m : Int) (ho : inr .i64 op) (ha : S.Value.ok a) (hb : S.Value.ok b) (hn : inr .i64 n) (hm : inr .i64 m) : S.law24_CondSound_pre op a b n m ∧ S.law24_CondSound op a b n m = true := by
  have ha' := (ok_iff' a).1 ha
  have hb' := (ok_iff' b).1 hb
  have hop := op_in op (inr_i64.1 ho)
  have ra := red_rv ha'; have rb := red_rv hb'
  have hma : S.value_Make a.I a.C = red a := rfl
  have hmb : S.value_Make b.I b.C = red b := rfl
  have ba := isBot_red ha'
  have bb := isBot_red hb'
  have mpa : S.value_Make_pre a.I a.C := (made _ _ ha'.1 ha'.2).2
  have mpb : S.value_Make_pre b.I b.C := (made _ _ hb'.1 hb'.2).2
  obtain ⟨na1, na2⟩ := near_eq ha' (inr_i64.1 hn)
  obtain ⟨nb1, nb2⟩ := near_eq hb' (inr_i64.1 hm)
  simp only [law24_CondSound_pre, law24_CondSound, hma, hmb]
  generalize Int.tmod (IntKind.i64.wrap (Int.tmod op 8 + 8)) 8 = o at hop ⊢
  have none : ∀ p : Bool, p = true → (red a = bot ∨ red b = bot) → (bif p then ((decide (red a = bot) || decide (red b = bot)) && S.law24_works) else false) = true := fun p hp h => by
    rw [hp, cond_true, works24.2, Bool.and_true]; simpa using h
  rcases na2 with ⟨ea, ea2⟩ | ⟨na, x, hx, hxa, ea2⟩
  · rw [ea2]
    refine ⟨⟨⟨na1, nb1⟩, fun _ => ⟨⟨mpa, isBot_pre ra.ok, fun _ => mpb, fun _ => isBot_pre rb.ok, fun _ => works24.1⟩, trivial⟩, fun h => by cases h⟩, ?_⟩
    rw [ba, bb, decide_eq_true ea, works24.2]; rfl
  · rcases nb2 with ⟨eb, eb2⟩ | ⟨nb, y, hy, hyb, eb2⟩
    · rw [ea2, eb2]
      refine ⟨⟨⟨na1, nb1⟩, fun _ => ⟨⟨mpa, isBot_pre ra.ok, fun _ => mpb, fun _ => isBot_pre rb.ok, fun _ => works24.1⟩, trivial⟩, fun h => by cases h⟩, ?_⟩
      rw [ba, bb, decide_eq_true eb, works24.2, Bool.or_true]; rfl
    · rw [ea2, eb2]
      dsimp only
      obtain ⟨w1, w2⟩ := wdo hop x y
      rw [w1]
      dsimp only
      rw [bit_ne]
      obtain ⟨s1, s2, s3⟩ := sound hop na nb hx hy hxa hyb
      obtain ⟨d1, d2⟩ := Do_eq o ha' hb'
      rw [d1]
      have dr := dv_rv o (red a) (red b)
      have hd := has_b dr.ok (bit_i64 (cmpb o x y))
      rw [red_of dr, decide_eq_true ((dv_has hop na nb _).2 s1)] at hd
      rw [hd]
      obtain ⟨r1, r2⟩ := Refine_eq o ha' hb' (cmpb o x y)
      rw [r1, rf_yes hop na nb _ s1]
      obtain ⟨v1, v2⟩ := lfs_rv o ra rb (cmpb o x y)
      have h1 := has_b v1.ok hx
      rw [red_of v1, decide_eq_true s2] at h1
      have h2 := has_b v2.ok hy
      rw [red_of v2, decide_eq_true s3] at h2
      rw [h1, h2]
      obtain ⟨t1, t2⟩ := Truth_eq ha'
      rw [t1]
      have k1 : ((x != 0) && !(Tr (red a)).1) = false := by
        by_cases e : x = 0
        · rw [e]; rfl
        · rw [Tr_has1 na hx hxa e, Bool.not_true, Bool.and_false]
      have k2 : ((x == 0) && !(Tr (red a)).2) = false := by
        by_cases e : x = 0
        · rw [Tr_has2 hxa e, Bool.not_true, Bool.and_false]
        · rw [show (x == 0) = false from beq_f e]; rfl
      have hq : (x != 0) = decide (x ≠ 0) := by rw [Bool.eq_iff_iff]; simp
      obtain ⟨o1, o2, _⟩ := Only_all ha' (decide (x ≠ 0))
      have onr := on_rv ra (decide (x ≠ 0))
      have h3 := has_b onr.ok hx
      rw [red_of onr, decide_eq_true (on_has ra hx hxa)] at h3
      obtain ⟨q1, q2, _⟩ := Without_all ha' hy
      have wr := wo_rv ra hy
      have h4 := has_b wr.ok hx
      rw [red_of wr] at h4
      have h5 := within_b wr.ok ha'
      rw [red_of wr, decide_eq_true (wo_le ra hy)] at h5
      have k3 : ((x == y) || decide (Le (one x) (wo (red a) y))) = true := by
        by_cases e : x = y
        · rw [show (x == y) = true from beq_t e]; rfl
        · rw [decide_eq_true (wo_has ra hy hx hxa e), Bool.or_true]
      rw [k1, k2, hq, o1, h3, q1, h4, k3, h5, works24.2]
      refine ⟨⟨⟨na1, nb1⟩, (fun h => by cases h), fun _ => ⟨⟨w2, fun _ => d2, fun _ => (has_iff' dr.ok (bit_i64 _)).2⟩, fun _ => trivial, fun _ => ⟨⟨r2, t2, (has_iff' v1.ok hx).2, fun _ => (has_iff' v2.ok hy).2, fun _ => o2, fun _ => (has_iff' onr.ok hx).2⟩, fun _ => trivial, fun _ => ⟨⟨q2, fun _ => (has_iff' wr.ok hx).2, fun _ => (within_eq wr.ok ha').2, fun _ => works24.1⟩, trivial⟩⟩⟩⟩, rfl⟩

/-! ### CondExact -/

theorem ce_getE {k : IntKind} {l : List Int} {n : Nat} (h : ∀ a ∈ l, inr k a) (hn : n < l.length) : inr k (l.getD n 0) := by
  rw [List.getD_eq_getElem?_getD, List.getElem?_eq_getElem hn]; exact h _ (List.getElem_mem hn)

theorem comes_yes {o : Int} (ho : 0 ≤ o ∧ o ≤ 7) {a b : S.Value} (ha : RV a) (hb : RV b) (n : Int) {j : Int} (hj : 0 ≤ j ∧ j < 16) {x y : Int}
    (hx : ([a.I.Lo, a.I.Hi, 0, 0] : List Int).getD (j / 4).toNat 0 = x) (hy : ([b.I.Lo, b.I.Hi, 0, 0] : List Int).getD (j % 4).toNat 0 = y)
    (hn : bit (cmpb o x y) = n) (h1 : Le (one x) a) (h2 : Le (one y) b) : S.law24_comes o a b n = true ∧ S.law24_comes_pre o a b n := by
  have oL : ∀ e ∈ ([a.I.Lo, a.I.Hi, 0, 0] : List Int), I64 e := by
    intro e he
    simp only [List.mem_cons, List.not_mem_nil, or_false] at he
    rcases he with rfl | rfl | rfl | rfl
    · exact ha.ir.1
    · exact ha.ir.2
    · exact i0
    · exact i0
  have oR : ∀ e ∈ ([b.I.Lo, b.I.Hi, 0, 0] : List Int), I64 e := by
    intro e he
    simp only [List.mem_cons, List.not_mem_nil, or_false] at he
    rcases he with rfl | rfl | rfl | rfl
    · exact hb.ir.1
    · exact hb.ir.2
    · exact i0
    · exact i0
  have lL : ([a.I.Lo, a.I.Hi, 0, 0] : List Int).length = 4 := rfl
  have lR : ([b.I.Lo, b.I.Hi, 0, 0] : List Int).length = 4 := rfl
  simp only [law24_comes, law24_comes_pre]
  generalize ([a.I.Lo, a.I.Hi, 0, 0] : List Int) = L at *
  generalize ([b.I.Lo, b.I.Hi, 0, 0] : List Int) = R at *
  have key : ∃ y, Runs law24_comes_L0_step law24_comes_L0_vcs ⟨o, n, false, L, R, 0, a, b⟩ y ∧ (y.1 = true ∧ y.2.t8 = true) := by
    refine Runs.of (fun s => s.o = o ∧ s.n = n ∧ s.l = L ∧ s.r = R ∧ s.a = a ∧ s.b = b ∧ 0 ≤ s.i ∧ s.i ≤ j) (fun s => (16 - s.i).toNat) _ ?_ _ ⟨rfl, rfl, rfl, rfl, rfl, rfl, by simp, hj.1⟩
    rintro ⟨o', n', t, L', R', i, a', b'⟩ ⟨e1, e2, e3, e4, e5, e6, h3, h4⟩
    dsimp only at e1 e2 e3 e4 e5 e6 h3 h4
    subst e1 e2 e3 e4 e5 e6
    have d1 : decide (i < 16) = true := decide_eq_true (by omega)
    have d2 : IntKind.i64.wrap (Int.tdiv i 4) = i / 4 := by rw [Int.tdiv_eq_ediv_of_nonneg h3, IntKind.wrap_i64]; omega
    have d3 : Int.tmod i 4 = i % 4 := Int.tmod_eq_emod_of_nonneg h3
    have d4 : IntKind.i64.wrap (i + 1) = i + 1 := by rw [IntKind.wrap_i64]; omega
    have gx : I64 (L'.getD (i / 4).toNat 0) := inr_i64.1 (ce_getE (fun e he => inr_i64.2 (oL e he)) (by omega))
    have gy : I64 (R'.getD (i % 4).toNat 0) := inr_i64.1 (ce_getE (fun e he => inr_i64.2 (oR e he)) (by omega))
    obtain ⟨w1, w2⟩ := wdo ho (L'.getD (i / 4).toNat 0) (R'.getD (i % 4).toNat 0)
    refine ⟨?_, ?_⟩
    · simp only [law24_comes_L0_vcs, d1, d2, d3, All, and_true, true_implies]
      exact ⟨⟨⟨by omega, by omega, by omega, by omega, w2, fun _ => (has_iff' ha.ok gx).2, fun _ => (has_iff' hb.ok gy).2⟩, fun _ => trivial, fun _ => trivial⟩, fun h => by cases h⟩
    · simp only [law24_comes_L0_step, d1, d2, d3, d4, w1, cond_true, Bool.true_and]
      rw [has_b ha.ok gx, has_b hb.ok gy, red_of ha, red_of hb]
      by_cases ei : i = j
      · subst ei
        rw [hx, hy, hn, decide_eq_true h1, decide_eq_true h2, beq_self_eq_true]
        exact ⟨rfl, rfl⟩
      · generalize ((bit (cmpb o' (L'.getD (i / 4).toNat 0) (R'.getD (i % 4).toNat 0)) == n') && decide (Le (one (L'.getD (i / 4).toNat 0)) a') && decide (Le (one (R'.getD (i % 4).toNat 0)) b')) = p
        cases p
        · simp only [cond_false]
          exact ⟨⟨trivial, trivial, trivial, trivial, trivial, trivial, by omega, by omega⟩, by omega⟩
        · exact ⟨rfl, rfl⟩
  obtain ⟨z, r, z1, z2⟩ := key
  have e : law24_comes_L0_run ⟨o, n, false, L, R, 0, a, b⟩ = z := theRun_eq (d := fun x => (true, x)) r
  rw [e]
  exact ⟨by rw [z1, z2]; rfl, r, fun _ => trivial, fun _ => trivial⟩

theorem ne0 {a : S.Value} (h : NB a) (hv : a ≠ one 0) : a.I.Lo ≠ 0 ∨ a.I.Hi ≠ 0 := by
  by_cases e : a.I.Lo = 0
  · right
    intro e2
    exact hv (S.Value.ext (S.Inter.ext e e2) (by rw [h.one (by omega), e]; rfl))
  · exact .inl e

theorem exact_core {o : Int} (ho : o = 4 ∨ o = 5 ∨ o = 6 ∨ o = 7 ∨ o = 0 ∨ o = 1) {a b : S.Value} (ha : RV a) (hb : RV b) (t : Bool) (h : Le (one (bit t)) (dv o a b)) :
    S.law24_comes o a b (bit t) = true ∧ S.law24_comes_pre o a b (bit t) := by
  have hne := ne_of_has (bit_i64 t) h
  have hab : a ≠ bot ∧ b ≠ bot := not_or.1 fun e => hne (if_pos e)
  have na := nb_of ha hab.1
  have nb := nb_of hb hab.2
  have hop : 0 ≤ o ∧ o ≤ 7 := by omega
  have hm := (dv_has hop na nb t).1 h
  have K := fun {j : Int} (hj : 0 ≤ j ∧ j < 16) {x y : Int} (hx : ([a.I.Lo, a.I.Hi, 0, 0] : List Int).getD (j / 4).toNat 0 = x) (hy : ([b.I.Lo, b.I.Hi, 0, 0] : List Int).getD (j % 4).toNat 0 = y) (hn : bit (cmpb o x y) = bit t) (h1 : Le (one x) a) (h2 : Le (one y) b) => comes_yes hop ha hb (bit t) hj hx hy hn h1 h2
  have aL := has_lo na; have aH := has_hi na; have bL := has_lo nb; have bH := has_hi nb
  cases t
  · rw [may_f] at hm
    rcases ho with rfl | rfl | rfl | rfl | rfl | rfl
    · have hm : decide (a.I.Hi ≥ b.I.Lo) = true := hm
      rw [decide_eq_true_iff] at hm
      exact K (j := 4) (x := a.I.Hi) (y := b.I.Lo) (by decide) rfl rfl (congrArg bit (decide_eq_false (by omega))) aH bL
    · have hm : decide (a.I.Hi > b.I.Lo) = true := hm
      rw [decide_eq_true_iff] at hm
      exact K (j := 4) (x := a.I.Hi) (y := b.I.Lo) (by decide) rfl rfl (congrArg bit (decide_eq_false (by omega))) aH bL
    · have hm : decide (b.I.Hi ≥ a.I.Lo) = true := hm
      rw [decide_eq_true_iff] at hm
      exact K (j := 1) (x := a.I.Lo) (y := b.I.Hi) (by decide) rfl rfl (congrArg bit (decide_eq_false (by omega))) aL bH
    · have hm : decide (b.I.Hi > a.I.Lo) = true := hm
      rw [decide_eq_true_iff] at hm
      exact K (j := 1) (x := a.I.Lo) (y := b.I.Hi) (by decide) rfl rfl (congrArg bit (decide_eq_false (by omega))) aL bH
    · have hm : ((Tr a).2 && (Tr b).2) = true := hm
      rw [Bool.and_eq_true, Tr2, Tr2] at hm
      exact K (j := 10) (x := (0 : Int)) (y := (0 : Int)) (by decide) rfl rfl rfl hm.1 hm.2
    · have hm : ((Tr a).2 || (Tr b).2) = true := hm
      rw [Bool.or_eq_true, Tr2, Tr2] at hm
      rcases hm with hm | hm
      · exact K (j := 8) (x := (0 : Int)) (y := b.I.Lo) (by decide) rfl rfl (by simp [cmpb]) hm bL
      · exact K (j := 2) (x := a.I.Lo) (y := (0 : Int)) (by decide) rfl rfl (by simp [cmpb]) aL hm
  · rw [may_t] at hm
    rcases ho with rfl | rfl | rfl | rfl | rfl | rfl
    · have hm : decide (a.I.Lo < b.I.Hi) = true := hm
      rw [decide_eq_true_iff] at hm
      exact K (j := 1) (x := a.I.Lo) (y := b.I.Hi) (by decide) rfl rfl (congrArg bit (decide_eq_true (by omega))) aL bH
    · have hm : decide (a.I.Lo ≤ b.I.Hi) = true := hm
      rw [decide_eq_true_iff] at hm
      exact K (j := 1) (x := a.I.Lo) (y := b.I.Hi) (by decide) rfl rfl (congrArg bit (decide_eq_true (by omega))) aL bH
    · have hm : decide (b.I.Lo < a.I.Hi) = true := hm
      rw [decide_eq_true_iff] at hm
      exact K (j := 4) (x := a.I.Hi) (y := b.I.Lo) (by decide) rfl rfl (congrArg bit (decide_eq_true (by omega))) aH bL
    · have hm : decide (b.I.Lo ≤ a.I.Hi) = true := hm
      rw [decide_eq_true_iff] at hm
      exact K (j := 4) (x := a.I.Hi) (y := b.I.Lo) (by decide) rfl rfl (congrArg bit (decide_eq_true (by omega))) aH bL
    · have hm : ((Tr a).1 || (Tr b).1) = true := hm
      rw [Bool.or_eq_true, Tr1 na, Tr1 nb] at hm
      rcases hm with hm | hm
      · rcases ne0 na hm with e | e
        · exact K (j := 0) (x := a.I.Lo) (y := b.I.Lo) (by decide) rfl rfl (by simp [cmpb, e]) aL bL
        · exact K (j := 4) (x := a.I.Hi) (y := b.I.Lo) (by decide) rfl rfl (by simp [cmpb, e]) aH bL
      · rcases ne0 nb hm with e | e
        · exact K (j := 0) (x := a.I.Lo) (y := b.I.Lo) (by decide) rfl rfl (by simp [cmpb, e]) aL bL
        · exact K (j := 1) (x := a.I.Lo) (y := b.I.Hi) (by decide) rfl rfl (by simp [cmpb, e]) aL bH
    · have hm : ((Tr a).1 && (Tr b).1) = true := hm
      rw [Bool.and_eq_true, Tr1 na, Tr1 nb] at hm
      rcases ne0 na hm.1 with e | e
      · rcases ne0 nb hm.2 with f | f
        · exact K (j := 0) (x := a.I.Lo) (y := b.I.Lo) (by decide) rfl rfl (by simp [cmpb, e, f]) aL bL
        · exact K (j := 1) (x := a.I.Lo) (y := b.I.Hi) (by decide) rfl rfl (by simp [cmpb, e, f]) aL bH
      · rcases ne0 nb hm.2 with f | f
        · exact K (j := 4) (x := a.I.Hi) (y := b.I.Lo) (by decide) rfl rfl (by simp [cmpb, e, f]) aH bL
        · exact K (j := 5) (x := a.I.Hi) (y := b.I.Hi) (by decide) rfl rfl (by simp [cmpb, e, f]) aH bH

theorem CondExact_law (op : Int) (a b : S.Value) (ho : inr .i64 op) (ha : S.Value.ok a) (hb : S.Value.ok b) : S.law24_CondExact_pre op a b ∧ S.law24_CondExact op a b = true := by
  have ha' := (ok_iff' a).1 ha
  have hb' := (ok_iff' b).1 hb
  have ra := red_rv ha'; have rb := red_rv hb'
  have hma : S.value_Make a.I a.C = red a := rfl
  have hmb : S.value_Make b.I b.C = red b := rfl
  have mpa : S.value_Make_pre a.I a.C := (made _ _ ha'.1 ha'.2).2
  have mpb : S.value_Make_pre b.I b.C := (made _ _ hb'.1 hb'.2).2
  have ht : 0 ≤ Int.tmod (IntKind.i64.wrap (Int.tmod op 6 + 6)) 6 ∧ Int.tmod (IntKind.i64.wrap (Int.tmod op 6 + 6)) 6 < 6 := by
    have h1 : Int.tmod op 6 > -6 ∧ Int.tmod op 6 < 6 := ⟨Int.lt_tmod_of_pos op (by decide), Int.tmod_lt_of_pos op (by decide)⟩
    rw [IntKind.wrap_i64, Int.tmod_eq_emod_of_nonneg (by omega)]
    omega
  simp only [law24_CondExact_pre, law24_CondExact, hma, hmb]
  generalize Int.tmod (IntKind.i64.wrap (Int.tmod op 6 + 6)) 6 = t at ht ⊢
  obtain ⟨o, e, ho'⟩ : ∃ o, ([4, 5, 6, 7, 0, 1] : List Int).getD t.toNat 0 = o ∧ (o = 4 ∨ o = 5 ∨ o = 6 ∨ o = 7 ∨ o = 0 ∨ o = 1) := by
    have : t = 0 ∨ t = 1 ∨ t = 2 ∨ t = 3 ∨ t = 4 ∨ t = 5 := by omega
    rcases this with rfl | rfl | rfl | rfl | rfl | rfl <;> exact ⟨_, rfl, by decide⟩
  rw [e]
  obtain ⟨d1, d2⟩ := Do_eq o ha' hb'
  rw [d1]
  have dr := dv_rv o (red a) (red b)
  have key : ∃ y, Runs law24_CondExact_L0_step law24_CondExact_L0_vcs ⟨false, o, 0, dv o (red a) (red b), red a, red b⟩ y ∧ y.1 = false := by
    refine Runs.of (fun s => s.o = o ∧ s.v = dv o (red a) (red b) ∧ s.vx = red a ∧ s.y = red b ∧ 0 ≤ s.n ∧ s.n ≤ 2) (fun s => (2 - s.n).toNat) _ ?_ _ ⟨rfl, rfl, rfl, rfl, by simp, by simp⟩
    rintro ⟨t6, o', n, v, vx, y⟩ ⟨e1, e2, e3, e4, h0, h1⟩
    dsimp only at e1 e2 e3 e4 h0 h1
    subst e1 e2 e3 e4
    by_cases hn : n < 2
    · obtain ⟨q, rfl⟩ : ∃ q, n = bit q := by
        have : n = 0 ∨ n = 1 := by omega
        rcases this with rfl | rfl
        · exact ⟨false, rfl⟩
        · exact ⟨true, rfl⟩
      have d3 : decide (bit q < 2) = true := decide_eq_true hn
      have d4 : IntKind.i64.wrap (bit q + 1) = bit q + 1 := by rw [IntKind.wrap_i64]; omega
      have hh := has_b dr.ok (bit_i64 q)
      rw [red_of dr] at hh
      have hp := (has_iff' dr.ok (bit_i64 q)).2
      by_cases hl : Le (one (bit q)) (dv o' (red a) (red b))
      · obtain ⟨c1, c2⟩ := exact_core ho' ra rb q hl
        refine ⟨?_, ?_⟩
        · simp only [law24_CondExact_L0_vcs, d3, hh, decide_eq_true hl, c1, All, and_true, true_implies]
          exact ⟨⟨⟨hp, c2⟩, fun _ => trivial, fun _ => trivial⟩, fun h => by cases h⟩
        · simp only [law24_CondExact_L0_step, d3, d4, hh, decide_eq_true hl, c1, cond_true, Bool.not_true, Bool.and_false, cond_false]
          exact ⟨⟨trivial, trivial, trivial, trivial, by omega, by omega⟩, by omega⟩
      · refine ⟨?_, ?_⟩
        · simp only [law24_CondExact_L0_vcs, d3, hh, decide_eq_false hl, All, and_true, true_implies]
          exact ⟨⟨⟨hp, fun h => by cases h⟩, fun _ => trivial, fun _ => trivial⟩, fun h => by cases h⟩
        · simp only [law24_CondExact_L0_step, d3, d4, hh, decide_eq_false hl, cond_true, Bool.false_and, cond_false]
          exact ⟨⟨trivial, trivial, trivial, trivial, by omega, by omega⟩, by omega⟩
    · have d3 : decide (n < 2) = false := decide_eq_false hn
      refine ⟨by simp only [law24_CondExact_L0_vcs, d3]; exact ⟨(fun h => by cases h), fun _ => trivial⟩, ?_⟩
      simp only [law24_CondExact_L0_step, d3, cond_false]
  obtain ⟨z, r, z1⟩ := key
  have ez : law24_CondExact_L0_run ⟨false, o, 0, dv o (red a) (red b), red a, red b⟩ = z := theRun_eq (d := fun x => (true, x)) r
  rw [ez, z1, works24.2]
  refine ⟨⟨⟨ht.1, ?_, d2, mpa, mpb, r⟩, (fun h => by cases h), fun _ => ⟨works24.1, trivial⟩⟩, rfl⟩
  show t < 6
  exact ht.2
end SV
