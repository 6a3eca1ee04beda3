/-
  Numbers that values have: what an operator tells of them is told of the values, and they are in what is left.
-/
import Derived.Test.YthplfkeecpkmhaaGreatDoorCondPlain7
set_option linter.all false
open Go Vm
namespace SV
open S SC

/-- What an operator, Or to Ge, makes of two numbers. -/
def cmpb (op x y : Int) : Bool :=
  if op = 0 then decide (x ≠ 0) || decide (y ≠ 0) else if op = 1 then decide (x ≠ 0) && decide (y ≠ 0)
  else if op = 2 then decide (x = y) else if op = 3 then decide (x ≠ y) else if op = 4 then decide (x < y)
  else if op = 5 then decide (x ≤ y) else if op = 6 then decide (y < x) else decide (y ≤ x)
def bit (b : Bool) : Int := bif b then 1 else 0
theorem bit_i64 (b : Bool) : I64 (bit b) := by cases b <;> (unfold I64; decide)
theorem bit_ne (b : Bool) : (bit b != 0) = b := by cases b <;> rfl

theorem be_has {v : S.Value} (h : RV v) {n x : Int} (hn : I64 n) (hx : I64 x) (hv : Le (one x) v) (h1 : x < n) : Le (one x) (be v n) := by
  unfold I64 at hn hx
  rw [show be v n = up v (n - 1) from if_neg (by omega), up_btw]
  exact btw_has h imin (by unfold I64; omega) hx hv hx.1 (by omega)
theorem ab_has {v : S.Value} (h : RV v) {n x : Int} (hn : I64 n) (hx : I64 x) (hv : Le (one x) v) (h1 : n < x) : Le (one x) (ab v n) := by
  unfold I64 at hn hx
  rw [show ab v n = fr v (n + 1) from if_neg (by omega), fr_btw]
  exact btw_has h (by unfold I64; omega) imax hx hv (by omega) hx.2
theorem up_has {v : S.Value} (h : RV v) {n x : Int} (hn : I64 n) (hx : I64 x) (hv : Le (one x) v) (h1 : x ≤ n) : Le (one x) (up v n) := by
  rw [up_btw]; exact btw_has h imin hn hx hv hx.1 h1
theorem fr_has {v : S.Value} (h : RV v) {n x : Int} (hn : I64 n) (hx : I64 x) (hv : Le (one x) v) (h1 : n ≤ x) : Le (one x) (fr v n) := by
  rw [fr_btw]; exact btw_has h hn imax hx hv h1 hx.2
theorem wo_has {v : S.Value} (h : RV v) {n x : Int} (hn : I64 n) (hx : I64 x) (hv : Le (one x) v) (hne : x ≠ n) : Le (one x) (wo v n) := by
  obtain ⟨a1, a2, a3⟩ := (le_one h hx).1 hv
  unfold wo
  split
  · exact hv
  · split
    · exact ab_has h hn hx hv (by omega)
    · split
      · exact be_has h hn hx hv (by omega)
      · exact hv
theorem on_has {v : S.Value} (h : RV v) {x : Int} (hx : I64 x) (hv : Le (one x) v) : Le (one x) (on v (decide (x ≠ 0))) := by
  by_cases e : x = 0
  · subst e
    rw [show decide ((0 : Int) ≠ 0) = false from rfl, on_f h, if_pos hv]; exact Le.refl (one_rv i0)
  · rw [decide_eq_true e]; exact wo_has h i0 hx hv e
theorem wt_has {v o : S.Value} (h : RV v) (ho : RV o) {x y : Int} (hx : I64 x) (hy : I64 y) (hv : Le (one x) v) (hw : Le (one y) o) (hne : x ≠ y) : Le (one x) (wt v o) := by
  obtain ⟨a1, a2, a3⟩ := (le_one ho hy).1 hw
  unfold wt; split
  · exact wo_has h ho.ir.1 hx hv (by omega)
  · exact hv
theorem al_has {a b : S.Value} (ha : RV a) (hb : RV b) {n : Int} (hn : I64 n) (h1 : Le (one n) a) (h2 : Le (one n) b) : Le (one n) (al a b).1 ∧ Le (one n) (al a b).2 := by
  obtain ⟨a1, a2, a3⟩ := (le_one ha hn).1 h1
  obtain ⟨b1, b2, b3⟩ := (le_one hb hn).1 h2
  obtain ⟨m1, m2⟩ := Meet_has a.C b.C ha.cr.1 hb.cr.1 n hn a3 b3
  have K : ∀ c, CR c → has c n = true → Le (one n) (S.value_Make (S.ref19_Meet a.I b.I) c) := fun c hc hh => by
    refine le_made (Make_red (M_ir ha.ir hb.ir) hc) hc (one_NB hn) ?_ ?_ ((const_le hn hc).2 hh)
    · rw [SI.M_m, SI.Plain_yes (by omega)]; dsimp only [one]; omega
    · rw [SI.M_m, SI.Plain_yes (by omega)]; dsimp only [one]; omega
  unfold al
  rw [if_pos m1]
  refine ⟨?_, ?_⟩
  · dsimp only; split
    · exact K _ hb.cr b3
    · exact K _ ha.cr a3
  · dsimp only; split
    · exact K _ ha.cr a3
    · exact K _ hb.cr b3

theorem Tr_has1 {v : S.Value} (h : NB v) {x : Int} (hx : I64 x) (hv : Le (one x) v) (hne : x ≠ 0) : (Tr v).1 = true := by
  obtain ⟨a1, a2, _⟩ := (le_one (.inr h) hx).1 hv
  refine (Tr1 h).2 fun e => hne ?_
  rw [e] at a1 a2
  have h1 : (0 : Int) ≤ x := a1
  have h2 : x ≤ 0 := a2
  omega
theorem Tr_has2 {v : S.Value} {x : Int} (hv : Le (one x) v) (he : x = 0) : (Tr v).2 = true := Tr2.2 (he ▸ hv)

/-- What the operator makes of numbers of them, it may tell; and the numbers are left. -/
theorem sound {op : Int} (ho : 0 ≤ op ∧ op ≤ 7) {a b : S.Value} (ha : NB a) (hb : NB b) {x y : Int} (hx : I64 x) (hy : I64 y) (h1 : Le (one x) a) (h2 : Le (one y) b) :
    may op a b (cmpb op x y) ∧ Le (one x) (lfs op a b (cmpb op x y)).1 ∧ Le (one y) (lfs op a b (cmpb op x y)).2 := by
  have ra : RV a := .inr ha
  have rb : RV b := .inr hb
  obtain ⟨a1, a2, _⟩ := (le_one ra hx).1 h1
  obtain ⟨b1, b2, _⟩ := (le_one rb hy).1 h2
  rcases op8 ho with rfl | rfl | rfl | rfl | rfl | rfl | rfl | rfl
  · by_cases ex : x = 0
    · by_cases ey : y = 0
      · rw [show cmpb 0 x y = false by simp [cmpb, ex, ey], may_f]
        refine ⟨?_, ?_, ?_⟩
        · show ((Tr a).2 && (Tr b).2) = true
          rw [Tr_has2 h1 ex, Tr_has2 h2 ey]; rfl
        · have := on_has ra hx h1
          rwa [show decide (x ≠ 0) = false by simp [ex]] at this
        · have := on_has rb hy h2
          rwa [show decide (y ≠ 0) = false by simp [ey]] at this
      · rw [show cmpb 0 x y = true by simp [cmpb, ey], may_t]
        refine ⟨?_, h1, h2⟩
        show ((Tr a).1 || (Tr b).1) = true
        rw [Tr_has1 hb hy h2 ey, Bool.or_true]
    · rw [show cmpb 0 x y = true by simp [cmpb, ex], may_t]
      refine ⟨?_, h1, h2⟩
      show ((Tr a).1 || (Tr b).1) = true
      rw [Tr_has1 ha hx h1 ex, Bool.true_or]
  · by_cases ex : x = 0
    · rw [show cmpb 1 x y = false by simp [cmpb, ex], may_f]
      refine ⟨?_, h1, h2⟩
      show ((Tr a).2 || (Tr b).2) = true
      rw [Tr_has2 h1 ex, Bool.true_or]
    · by_cases ey : y = 0
      · rw [show cmpb 1 x y = false by simp [cmpb, ey], may_f]
        refine ⟨?_, h1, h2⟩
        show ((Tr a).2 || (Tr b).2) = true
        rw [Tr_has2 h2 ey, Bool.or_true]
      · rw [show cmpb 1 x y = true by simp [cmpb, ex, ey], may_t]
        refine ⟨?_, wo_has ra i0 hx h1 ex, wo_has rb i0 hy h2 ey⟩
        show ((Tr a).1 && (Tr b).1) = true
        rw [Tr_has1 ha hx h1 ex, Tr_has1 hb hy h2 ey]; rfl
  · by_cases e : x = y
    · subst e
      rw [show cmpb 2 x x = true by simp [cmpb], may_t]
      obtain ⟨l1, l2⟩ := al_has ra rb hx h1 h2
      refine ⟨?_, l1, l2⟩
      show (!decide ((al a b).1 = bot) && !decide ((al a b).2 = bot)) = true
      rw [decide_eq_false (ne_of_has hx l1), decide_eq_false (ne_of_has hx l2)]; rfl
    · rw [show cmpb 2 x y = false by simp [cmpb, e], may_f]
      refine ⟨?_, wt_has ra rb hx hy h1 h2 e, wt_has rb ra hy hx h2 h1 fun h => e h.symm⟩
      show (!decide (a.I.Lo = a.I.Hi ∧ b.I.Lo = b.I.Hi ∧ a.I.Lo = b.I.Lo)) = true
      rw [decide_eq_false (by omega)]; rfl
  · by_cases e : x = y
    · subst e
      rw [show cmpb 3 x x = false by simp [cmpb], may_f]
      obtain ⟨l1, l2⟩ := al_has ra rb hx h1 h2
      refine ⟨?_, l1, l2⟩
      show (!decide ((al a b).1 = bot) && !decide ((al a b).2 = bot)) = true
      rw [decide_eq_false (ne_of_has hx l1), decide_eq_false (ne_of_has hx l2)]; rfl
    · rw [show cmpb 3 x y = true by simp [cmpb, e], may_t]
      refine ⟨?_, wt_has ra rb hx hy h1 h2 e, wt_has rb ra hy hx h2 h1 fun h => e h.symm⟩
      show (!decide (a.I.Lo = a.I.Hi ∧ b.I.Lo = b.I.Hi ∧ a.I.Lo = b.I.Lo)) = true
      rw [decide_eq_false (by omega)]; rfl
  · show may 4 a b (decide (x < y)) ∧ Le (one x) (lfs 4 a b (decide (x < y))).1 ∧ Le (one y) (lfs 4 a b (decide (x < y))).2
    by_cases e : x < y
    · rw [decide_eq_true e, may_t]
      refine ⟨?_, be_has ra rb.ir.2 hx h1 (by omega), ab_has rb ra.ir.1 hy h2 (by omega)⟩
      show decide (a.I.Lo < b.I.Hi) = true
      exact decide_eq_true (by omega)
    · rw [decide_eq_false e, may_f]
      refine ⟨?_, fr_has ra rb.ir.1 hx h1 (by omega), up_has rb ra.ir.2 hy h2 (by omega)⟩
      show decide (a.I.Hi ≥ b.I.Lo) = true
      exact decide_eq_true (by omega)
  · show may 5 a b (decide (x ≤ y)) ∧ Le (one x) (lfs 5 a b (decide (x ≤ y))).1 ∧ Le (one y) (lfs 5 a b (decide (x ≤ y))).2
    by_cases e : x ≤ y
    · rw [decide_eq_true e, may_t]
      refine ⟨?_, up_has ra rb.ir.2 hx h1 (by omega), fr_has rb ra.ir.1 hy h2 (by omega)⟩
      show decide (a.I.Lo ≤ b.I.Hi) = true
      exact decide_eq_true (by omega)
    · rw [decide_eq_false e, may_f]
      refine ⟨?_, ab_has ra rb.ir.1 hx h1 (by omega), be_has rb ra.ir.2 hy h2 (by omega)⟩
      show decide (a.I.Hi > b.I.Lo) = true
      exact decide_eq_true (by omega)
  · show may 6 a b (decide (y < x)) ∧ Le (one x) (lfs 6 a b (decide (y < x))).1 ∧ Le (one y) (lfs 6 a b (decide (y < x))).2
    by_cases e : y < x
    · rw [decide_eq_true e, may_t]
      refine ⟨?_, ab_has ra rb.ir.1 hx h1 (by omega), be_has rb ra.ir.2 hy h2 (by omega)⟩
      show decide (b.I.Lo < a.I.Hi) = true
      exact decide_eq_true (by omega)
    · rw [decide_eq_false e, may_f]
      refine ⟨?_, up_has ra rb.ir.2 hx h1 (by omega), fr_has rb ra.ir.1 hy h2 (by omega)⟩
      show decide (b.I.Hi ≥ a.I.Lo) = true
      exact decide_eq_true (by omega)
  · show may 7 a b (decide (y ≤ x)) ∧ Le (one x) (lfs 7 a b (decide (y ≤ x))).1 ∧ Le (one y) (lfs 7 a b (decide (y ≤ x))).2
    by_cases e : y ≤ x
    · rw [decide_eq_true e, may_t]
      refine ⟨?_, fr_has ra rb.ir.1 hx h1 (by omega), up_has rb ra.ir.2 hy h2 (by omega)⟩
      show decide (b.I.Lo ≤ a.I.Hi) = true
      exact decide_eq_true (by omega)
    · rw [decide_eq_false e, may_f]
      refine ⟨?_, be_has ra rb.ir.2 hx h1 (by omega), ab_has rb ra.ir.1 hy h2 (by omega)⟩
      show decide (b.I.Hi > a.I.Lo) = true
      exact decide_eq_true (by omega)

theorem tv_has1 (y n : Bool) : Le (one 1) (tv y n) ↔ y = true := by
  cases y <;> cases n
  · exact ⟨fun h => absurd (Le.of_bot (one_rv i1) h) (one_ne i1), fun h => by cases h⟩
  · refine ⟨fun h => ?_, fun h => by cases h⟩
    have := (le_one (one_rv i0) i1).1 h
    exact absurd this.2.1 (by decide)
  · exact ⟨fun _ => rfl, fun _ => Le.refl (one_rv i1)⟩
  · exact ⟨fun _ => rfl, fun _ => (le_one (.inr r01_NB) i1).2 ⟨by decide, by decide, by decide⟩⟩
theorem tv_has0 (y n : Bool) : Le (one 0) (tv y n) ↔ n = true := by
  have := Tr_tv y n
  rw [← Tr2, this]
theorem tv_has (y n t : Bool) : Le (one (bit t)) (tv y n) ↔ ((t && y) || (!t && n)) = true := by
  cases t
  · rw [show bit false = 0 from rfl, tv_has0]; simp
  · rw [show bit true = 1 from rfl, tv_has1]; simp
theorem dv_eq {op : Int} (ho : 0 ≤ op ∧ op ≤ 7) {a b : S.Value} (ha : NB a) (hb : NB b) : dv op a b = tv (tl op a b).1 (tl op a b).2 := by
  unfold dv; rw [if_neg (not_or.2 ⟨ha.ne, hb.ne⟩), if_neg (by omega)]
theorem dv_has {op : Int} (ho : 0 ≤ op ∧ op ≤ 7) {a b : S.Value} (ha : NB a) (hb : NB b) (t : Bool) : Le (one (bit t)) (dv op a b) ↔ may op a b t := by
  rw [dv_eq ho ha hb, tv_has]; rfl
end SV
