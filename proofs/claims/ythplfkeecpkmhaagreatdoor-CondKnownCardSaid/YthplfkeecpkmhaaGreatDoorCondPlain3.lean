/-
  What is left of two values, if an operator is true, or false; in the program and in the reference.
-/
import Derived.Test.YthplfkeecpkmhaaGreatDoorCondPlain2
set_option linter.all false
open Go Vm
namespace SV
open S SC

/-- Without another one's single number. -/
noncomputable def wt (v o : S.Value) : S.Value := if o.I.Lo = o.I.Hi then wo v o.I.Lo else v
theorem wt_rv {v o : S.Value} (h : RV v) (ho : RV o) : RV (wt v o) := by
  unfold wt; split
  · exact wo_rv h ho.ir.1
  · exact h
theorem without_eq {v o : S.Value} (h : RV v) (ho : RV o) : S.cond_without v o = wt v o ∧ S.cond_without_pre v o := by
  obtain ⟨s1, s2⟩ := Single_eq ho.ok
  rw [red_of ho] at s1
  unfold wt
  simp only [cond_without, cond_without_pre, s1, All, and_true]
  by_cases e : o.I.Lo = o.I.Hi
  · obtain ⟨w1, w2, _⟩ := Without_all h.ok (n := o.I.Lo) ho.ir.1
    rw [red_of h] at w1
    rw [if_pos e, if_pos e]
    exact ⟨w1, s2, fun _ => w2, (fun h => by cases h)⟩
  · rw [if_neg e, if_neg e]
    exact ⟨rfl, s2, (fun h => by cases h), fun _ => trivial⟩

noncomputable def lf (op : Int) (a b : S.Value) : S.Value × S.Value :=
  if op = 1 then (on a true, on b true)
  else if op = 2 then al a b
  else if op = 3 then (wt a b, wt b a)
  else if op = 4 then (be a b.I.Hi, ab b a.I.Lo)
  else if op = 5 then (up a b.I.Hi, fr b a.I.Lo)
  else if op = 6 then (ab a b.I.Lo, be b a.I.Hi)
  else if op = 7 then (fr a b.I.Lo, up b a.I.Hi)
  else (a, b)

theorem lf_rv (op : Int) {a b : S.Value} (ha : RV a) (hb : RV b) : RV (lf op a b).1 ∧ RV (lf op a b).2 := by
  unfold lf
  by_cases h1 : op = 1
  · rw [if_pos h1]; exact ⟨on_rv ha true, on_rv hb true⟩
  rw [if_neg h1]
  by_cases h2 : op = 2
  · rw [if_pos h2]; exact al_rv ha hb
  rw [if_neg h2]
  by_cases h3 : op = 3
  · rw [if_pos h3]; exact ⟨wt_rv ha hb, wt_rv hb ha⟩
  rw [if_neg h3]
  by_cases h4 : op = 4
  · rw [if_pos h4]; exact ⟨be_rv ha hb.ir.2, ab_rv hb ha.ir.1⟩
  rw [if_neg h4]
  by_cases h5 : op = 5
  · rw [if_pos h5]; exact ⟨up_rv ha hb.ir.2, fr_rv hb ha.ir.1⟩
  rw [if_neg h5]
  by_cases h6 : op = 6
  · rw [if_pos h6]; exact ⟨ab_rv ha hb.ir.1, be_rv hb ha.ir.2⟩
  rw [if_neg h6]
  by_cases h7 : op = 7
  · rw [if_pos h7]; exact ⟨fr_rv ha hb.ir.1, up_rv hb ha.ir.2⟩
  rw [if_neg h7]; exact ⟨ha, hb⟩

theorem left_eq (op : Int) {a b : S.Value} (ha : RV a) (hb : RV b) : S.cond_left op a b = lf op a b ∧ S.cond_left_pre op a b := by
  obtain ⟨o1, o2, _⟩ := Only_all ha.ok true
  obtain ⟨p1, p2, _⟩ := Only_all hb.ok true
  rw [red_of ha] at o1
  rw [red_of hb] at p1
  obtain ⟨l1, l2⟩ := alike_eq ha hb
  obtain ⟨w1, w2⟩ := without_eq ha hb
  obtain ⟨w3, w4⟩ := without_eq hb ha
  obtain ⟨b1, b2, _⟩ := below_all ha hb.ir.2
  obtain ⟨b3, b4, _⟩ := below_all hb ha.ir.2
  obtain ⟨a1, a2, _⟩ := above_all ha hb.ir.1
  obtain ⟨a3, a4, _⟩ := above_all hb ha.ir.1
  obtain ⟨u1, u2⟩ := upto_eq ha hb.ir.2
  obtain ⟨u3, u4⟩ := upto_eq hb ha.ir.2
  obtain ⟨f1, f2⟩ := from_eq ha hb.ir.1
  obtain ⟨f3, f4⟩ := from_eq hb ha.ir.1
  refine ⟨?_, ?_⟩
  · simp only [cond_left, o1, p1, l1, w1, w3, b1, b3, a1, a3, u1, u3, f1, f3, lf]
    have hb : ∀ k : Int, (op == k) = decide (op = k) := fun k => by rw [Bool.eq_iff_iff]; simp
    simp only [hb, Bool.cond_decide]
  · simp only [cond_left_pre, All, and_true]
    exact ⟨fun _ => ⟨o2, p2⟩, fun _ => ⟨fun _ => l2, fun _ => ⟨fun _ => ⟨w2, w4⟩, fun _ => ⟨fun _ => ⟨b2, a4⟩, fun _ => ⟨fun _ => ⟨u2, f4⟩, fun _ => ⟨fun _ => ⟨a2, b4⟩, fun _ => ⟨fun _ => ⟨f2, u4⟩, fun _ => trivial⟩⟩⟩⟩⟩⟩⟩

theorem rleft_F : ∀ (n : Nat) (op : Int) (a b : S.Value), RV a → RV b → S.ref24_left_D n op a b → S.ref24_left_F n op a b = lf op a b
  | 0, _, _, _, _, _, h => h.elim
  | n + 1, op, a, b, ha, hb, h => by
    obtain ⟨_, _, o1, _⟩ := Only_all ha.ok true
    obtain ⟨_, _, p1, _⟩ := Only_all hb.ok true
    rw [red_of ha] at o1
    rw [red_of hb] at p1
    obtain ⟨l1, _⟩ := ralike_eq ha hb
    obtain ⟨_, _, w1, _⟩ := Without_all ha.ok (n := b.I.Lo) hb.ir.1
    obtain ⟨_, _, w3, _⟩ := Without_all hb.ok (n := a.I.Lo) ha.ir.1
    rw [red_of ha] at w1
    rw [red_of hb] at w3
    obtain ⟨_, _, b1, _⟩ := below_all ha hb.ir.2
    obtain ⟨_, _, b3, _⟩ := below_all hb ha.ir.2
    obtain ⟨_, _, a1, _⟩ := above_all ha hb.ir.1
    obtain ⟨_, _, a3, _⟩ := above_all hb ha.ir.1
    obtain ⟨u1, _⟩ := rupto_eq ha hb.ir.2
    obtain ⟨f3, _⟩ := rfrom_eq hb ha.ir.1
    have hq : ∀ x k : Int, (x == k) = decide (x = k) := fun x k => by rw [Bool.eq_iff_iff]; simp
    have hrec : op = 6 ∨ op = 7 → S.ref24_left_F n (IntKind.i64.wrap (op - 2)) b a = lf (op - 2) b a := fun ho => by
      have e : IntKind.i64.wrap (op - 2) = op - 2 := by rcases ho with rfl | rfl <;> decide
      rw [e]
      refine rleft_F n _ b a hb ha ?_
      simp only [ref24_left_D, All, and_true, hq] at h
      have h5 := ((((h.2 (by simp; omega)).2 (by simp; omega)).2 (by simp; omega)).2 (by simp; omega)).2 (by simp; omega)
      rw [e] at h5
      exact h5.1 (by rcases ho with rfl | rfl <;> rfl)
    simp only [ref24_left_F, o1, p1, l1, w1, w3, b1, a3, u1, f3, hq]
    by_cases h6 : op = 6
    · rw [hrec (.inl h6)]; subst h6; simp [lf]
    by_cases h7 : op = 7
    · rw [hrec (.inr h7)]; subst h7; simp [lf]
    simp only [Bool.cond_decide, if_neg h6, if_neg h7, decide_eq_false h6, decide_eq_false h7, cond_false, lf, wt]
    split <;> try rfl
    split <;> try rfl
    split <;> try rfl
    by_cases e1 : b.I.Lo = b.I.Hi
    · by_cases e2 : a.I.Lo = a.I.Hi
      · rw [if_pos e1, if_pos e1, if_pos e1, if_pos e1, if_pos e1, if_pos e2, if_pos e2, if_pos e2, if_pos e2, if_pos e2]
      · rw [if_pos e1, if_pos e1, if_pos e1, if_pos e1, if_pos e1, if_neg e2, if_neg e2, if_neg e2, if_neg e2, if_neg e2]
    · by_cases e2 : a.I.Lo = a.I.Hi
      · rw [if_neg e1, if_neg e1, if_neg e1, if_neg e1, if_neg e1, if_pos e2, if_pos e2, if_pos e2, if_pos e2, if_pos e2]
      · rw [if_neg e1, if_neg e1, if_neg e1, if_neg e1, if_neg e1, if_neg e2, if_neg e2, if_neg e2, if_neg e2, if_neg e2]

theorem rleft_D {a b : S.Value} (ha : RV a) (hb : RV b) (op : Int) : S.ref24_left_D 2 op a b := by
  have base : ∀ {x y : S.Value}, RV x → RV y → ∀ {o : Int} (n : Nat), (o = 6 ∨ o = 7 → S.ref24_left_D n (IntKind.i64.wrap (o - 2)) y x) → S.ref24_left_D (n + 1) o x y := fun {x y} hx hy {o} n hr => by
    obtain ⟨_, _, _, o2⟩ := Only_all hx.ok true
    obtain ⟨_, _, _, p2⟩ := Only_all hy.ok true
    obtain ⟨_, l2⟩ := ralike_eq hx hy
    obtain ⟨_, _, _, w2⟩ := Without_all hx.ok (n := y.I.Lo) hy.ir.1
    obtain ⟨_, _, _, w4⟩ := Without_all hy.ok (n := x.I.Lo) hx.ir.1
    obtain ⟨_, _, _, b2⟩ := below_all hx hy.ir.2
    obtain ⟨_, _, _, a4⟩ := above_all hy hx.ir.1
    obtain ⟨_, u2⟩ := rupto_eq hx hy.ir.2
    obtain ⟨_, f4⟩ := rfrom_eq hy hx.ir.1
    simp only [ref24_left_D, All, and_true]
    refine ⟨fun _ => ⟨o2, p2⟩, fun _ => ⟨fun _ => l2, fun _ => ⟨fun _ => ⟨fun _ => w2, fun _ => w4⟩, fun _ => ⟨fun _ => ⟨b2, a4⟩, fun _ => ⟨fun _ => ⟨u2, f4⟩, fun _ => ⟨fun h => hr ?_, fun _ => trivial⟩⟩⟩⟩⟩⟩
    cases h6 : o == 6 with
    | true => exact .inl (by simpa using h6)
    | false => rw [h6] at h; exact .inr (by simpa using h)
  refine base ha hb 1 fun ho => base hb ha 0 fun h => ?_
  rcases ho with rfl | rfl
  · exact absurd h (by decide)
  · exact absurd h (by decide)

theorem rleft_eq (op : Int) {a b : S.Value} (ha : RV a) (hb : RV b) : S.ref24_left op a b = lf op a b ∧ S.ref24_left_pre op a b := by
  have hp : S.ref24_left_pre op a b := ⟨2, rleft_D ha hb op⟩
  exact ⟨rleft_F _ op a b ha hb (Classical.epsilon_spec hp), hp⟩

/-! ### True, or false -/

def ng (op : Int) : Int := if op = 2 then 3 else if op = 3 then 2 else if op = 4 then 7 else if op = 5 then 6 else if op = 6 then 5 else 4
noncomputable def lfs (op : Int) (a b : S.Value) (t : Bool) : S.Value × S.Value :=
  bif t then lf op a b else if op = 0 then (on a false, on b false) else if 2 ≤ op ∧ op ≤ 7 then lf (ng op) a b else (a, b)
theorem lfs_rv (op : Int) {a b : S.Value} (ha : RV a) (hb : RV b) (t : Bool) : RV (lfs op a b t).1 ∧ RV (lfs op a b t).2 := by
  unfold lfs
  cases t
  · rw [cond_false]
    split
    · exact ⟨on_rv ha false, on_rv hb false⟩
    · split
      · exact lf_rv _ ha hb
      · exact ⟨ha, hb⟩
  · exact lf_rv _ ha hb

theorem lefts_eq (op : Int) {a b : S.Value} (ha : RV a) (hb : RV b) (t : Bool) : S.cond_lefts op a b t = lfs op a b t ∧ S.cond_lefts_pre op a b t := by
  obtain ⟨o1, o2, _⟩ := Only_all ha.ok false
  obtain ⟨p1, p2, _⟩ := Only_all hb.ok false
  rw [red_of ha] at o1
  rw [red_of hb] at p1
  have hq : ∀ x k : Int, (x == k) = decide (x = k) := fun x k => by rw [Bool.eq_iff_iff]; simp
  refine ⟨?_, ?_⟩
  · simp only [cond_lefts, o1, p1, (left_eq _ ha hb).1, lfs]
    cases t
    · simp only [cond_false, hq]
      by_cases h : 2 ≤ op ∧ op ≤ 7
      · have : op = 2 ∨ op = 3 ∨ op = 4 ∨ op = 5 ∨ op = 6 ∨ op = 7 := by omega
        rcases this with rfl | rfl | rfl | rfl | rfl | rfl <;> simp [ng]
      · rw [if_neg h, decide_eq_false (show ¬ op = 2 by omega), decide_eq_false (show ¬ op = 3 by omega), decide_eq_false (show ¬ op = 4 by omega), decide_eq_false (show ¬ op = 5 by omega), decide_eq_false (show ¬ op = 6 by omega), decide_eq_false (show ¬ op = 7 by omega)]
        simp [Bool.cond_decide]
    · rfl
  · simp only [cond_lefts_pre, All, and_true]
    exact ⟨fun _ => (left_eq _ ha hb).2, fun _ => ⟨fun _ => ⟨o2, p2⟩, fun _ => ⟨fun _ => (left_eq _ ha hb).2, fun _ => trivial⟩⟩⟩
end SV
