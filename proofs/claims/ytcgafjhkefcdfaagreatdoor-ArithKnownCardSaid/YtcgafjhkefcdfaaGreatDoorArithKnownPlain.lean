/-
  The statement ArithKnown, in plain words.
-/
import Derived.Test.YtcgafjhkefcdfaaGreatDoorArithDoesPlain
import Derived.Test.YtcgafjhkefcdfaaGreatDoorArithPlain4
import Derived.Test.YtcgafjhkefcdfaaGreatDoorArithPlain5
set_option linter.all false
open Go Vm
namespace SV
open S SC AM
theorem ak_getV {l : List S.Value} {n : Nat} (h : ∀ a ∈ l, S.Value.ok a) (hn : n < l.length) : S.Value.ok (l.getD n ⟨⟨0, 0⟩, ⟨0, 0⟩⟩) := by
 rw [List.getD_eq_getElem?_getD, List.getElem?_eq_getElem hn]; exact h _ (List.getElem_mem hn)
theorem ak_getE {k : IntKind} {l : List Int} {n : Nat} (h : ∀ a ∈ l, inr k a) (hn : n < l.length) : inr k (l.getD n 0) := by
 rw [List.getD_eq_getElem?_getD, List.getElem?_eq_getElem hn]; exact h _ (List.getElem_mem hn)
theorem ak_tmod (a b : Int) (ha : 0 ≤ a) (hb : 0 < b) : Int.tmod a b = a % b ∧ 0 ≤ a % b ∧ a % b < b := ⟨Int.tmod_eq_emod_of_nonneg ha, Int.emod_nonneg _ (by omega), Int.emod_lt_of_pos _ hb⟩
theorem ak_w (z : Int) : inr .i64 (IntKind.i64.wrap z) := inr_i64.2 (wrap_i64' z)
theorem ak_make {m n : Int} (hm : inr .u64 m) (hn : inr .i64 n) : S.Cong.ok (S.cong_Make m n) := by
 rw [Make_eq _ _ hn hm]
 have hb := inr_u64.1 hm
 rw [ok_iff]
 unfold mk
 by_cases hz : m = 0
 ·rw [if_pos hz]; dsimp only; rw [IntKind.wrap_u64]; omega
 ·rw [if_neg hz]
  have := mod_range n m (by omega)
  dsimp only; omega
theorem ak_L2 (lo : Int) (hlo : -3 ≤ lo ∧ lo < 4) (l : List S.Value) (hl : (l.length : Int) = 5 * (lo + 3)) (hok : ∀ a ∈ l, S.Value.ok a) :
  ∃ y, Runs law22_ArithKnown_L2_step law22_ArithKnown_L2_vcs ⟨lo, 0, l⟩ y ∧ (y.lo = lo ∧ (y.l.length : Int) = 5 * (lo + 3) + 5 ∧ ∀ a ∈ y.l, S.Value.ok a) := by
 refine Runs.of (fun x => x.lo = lo ∧ 0 ≤ x.m ∧ x.m ≤ 5 ∧ (x.l.length : Int) = 5 * (lo + 3) + x.m ∧ ∀ a ∈ x.l, S.Value.ok a) (fun x => (5 - x.m).toNat) _ ?_ _ ⟨rfl, by simp, by simp, by simpa using hl, hok⟩
 rintro ⟨lo', m, l⟩ ⟨e1, h0, h1, h2, h3⟩
 dsimp only at e1 h0 h1 h2 h3
 subst e1
 by_cases hm : m < 5
 ·have d1 : decide (m < 5) = true := decide_eq_true hm
  have e1 : IntKind.u64.wrap (m + 1) = m + 1 := by rw [IntKind.wrap_u64]; omega
  refine ⟨?_, ?_⟩
  ·simp only [law22_ArithKnown_L2_vcs, All, d1, true_implies, and_true, List.length_cons, List.length_nil]
   exact ⟨⟨Make_pre _ _, by omega⟩, fun h => by cases h⟩
  ·simp only [law22_ArithKnown_L2_step, d1, cond_true, e1]
   refine ⟨⟨trivial, by omega, by omega, ?_, ?_⟩, by omega⟩
   ·simp; omega
   ·intro a ha
    rcases List.mem_append.1 ha with h | h
    ·exact h3 a h
    ·simp only [List.mem_singleton] at h
     subst h
     exact ⟨⟨inr_i64.2 (by dsimp only; omega), ak_w _, trivial⟩, ak_make (inr_u64.2 (by omega)) (ak_w _), trivial⟩
 ·have d1 : decide (m < 5) = false := decide_eq_false hm
  refine ⟨by simp only [law22_ArithKnown_L2_vcs, d1]; exact ⟨(fun h => by cases h), fun _ => trivial⟩, ?_⟩
  simp only [law22_ArithKnown_L2_step, d1, cond_false]
  exact ⟨trivial, by omega, h3⟩
theorem ak_L0 : ∃ y, Runs law22_ArithKnown_L0_step law22_ArithKnown_L0_vcs ⟨-3, []⟩ y ∧ ((y.l.length : Int) ≤ 1000 ∧ ∀ a ∈ y.l, S.Value.ok a) := by
 refine Runs.of (fun x => -3 ≤ x.lo ∧ x.lo ≤ 4 ∧ (x.l.length : Int) = 5 * (x.lo + 3) ∧ ∀ a ∈ x.l, S.Value.ok a) (fun x => (4 - x.lo).toNat) _ ?_ _ ⟨by simp, by simp, by simp, by simp⟩
 rintro ⟨lo, l⟩ ⟨h0, h1, h2, h3⟩
 dsimp only at h0 h1 h2 h3
 by_cases hi : lo < 4
 ·have d1 : decide (lo < 4) = true := decide_eq_true hi
  obtain ⟨y, hr, h4, h5, h6⟩ := ak_L2 lo ⟨h0, hi⟩ l h2 h3
  have e : law22_ArithKnown_L2_run ⟨lo, 0, l⟩ = y := theRun_eq (d := fun x => x) hr
  have e1 : IntKind.i64.wrap (lo + 1) = lo + 1 := by rw [IntKind.wrap_i64]; omega
  refine ⟨?_, ?_⟩
  ·simp only [law22_ArithKnown_L0_vcs, All, d1, true_implies, e, and_true]
   exact ⟨hr, fun h => by cases h⟩
  ·simp only [law22_ArithKnown_L0_step, d1, cond_true, e, h4, e1]
   exact ⟨⟨by omega, by omega, by omega, h6⟩, by omega⟩
 ·have d1 : decide (lo < 4) = false := decide_eq_false hi
  refine ⟨by simp only [law22_ArithKnown_L0_vcs, d1]; exact ⟨(fun h => by cases h), fun _ => trivial⟩, ?_⟩
  simp only [law22_ArithKnown_L0_step, d1, cond_false]
  exact ⟨by omega, h3⟩
theorem ak_L6 (l : List S.Value) (hl : (l.length : Int) ≤ 1000) (hok : ∀ a ∈ l, S.Value.ok a) (t : Bool) (i : Int) (hi : 0 ≤ i ∧ i < (l.length : Int)) :
  ∃ y, Runs law22_ArithKnown_L6_step law22_ArithKnown_L6_vcs ⟨t, i, 0, l⟩ y ∧ (y.1 = false ∧ y.2.i = i ∧ y.2.l = l) := by
 refine Runs.of (fun x => x.i = i ∧ x.l = l ∧ 0 ≤ x.k ∧ x.k ≤ (l.length : Int)) (fun x => ((l.length : Int) - x.k).toNat) _ ?_ _ ⟨rfl, rfl, by simp, by simp⟩
 rintro ⟨t', i', k, l'⟩ ⟨e1, e2, h0, h1⟩
 dsimp only at e1 e2 h0 h1
 subst e1 e2
 by_cases hk : k < (l'.length : Int)
 ·have hd : decide (k < (l'.length : Int)) = true := decide_eq_true hk
  have e1 : IntKind.i64.wrap (k + 1) = k + 1 := by rw [IntKind.wrap_i64]; omega
  have vi := ak_getV hok (n := i'.toNat) (by omega)
  have vk := ak_getV hok (n := k.toNat) (by omega)
  obtain ⟨a1, a2⟩ := ArithDoes_law (IntKind.i64.wrap (13 + Int.tmod (IntKind.i64.wrap (i' + k)) 3)) _ _ (ak_w _) vi vk
  obtain ⟨b1, b2⟩ := ArithSound_law _ _ (IntKind.i64.wrap (Int.tmod i' 9 - 4)) (IntKind.i64.wrap (Int.tmod k 7 - 3)) vi vk (ak_w _) (ak_w _)
  obtain ⟨c1, c2⟩ := ArithLaws_law _ _ (IntKind.i64.wrap (i' - 3)) vi vk (ak_w _)
  have q1 : 0 ≤ i' ∧ i' < (l'.length : Int) := hi
  have q2 : 0 ≤ k ∧ k < (l'.length : Int) := ⟨h0, hk⟩
  refine ⟨?_, ?_⟩
  ·simp only [law22_ArithKnown_L6_vcs, hd, a2, b2, c2, All, and_true, true_implies]
   exact ⟨⟨⟨q1.1, q1.2, q2.1, q2.2, a1, fun _ _ => q1, fun _ _ => q2, fun _ _ => b1, fun _ _ => q1, fun _ _ => q2, fun _ _ => c1⟩, fun _ => trivial, fun _ => trivial⟩, fun h => by cases h⟩
  ·simp only [law22_ArithKnown_L6_step, hd, a2, b2, c2, e1, cond_true, Bool.not_true, Bool.and_false, Bool.or_self, cond_false]
   exact ⟨⟨trivial, trivial, by omega, by omega⟩, by omega⟩
 ·have hd : decide (k < (l'.length : Int)) = false := decide_eq_false hk
  refine ⟨by simp only [law22_ArithKnown_L6_vcs, hd]; exact ⟨(fun h => by cases h), fun _ => trivial⟩, ?_⟩
  simp only [law22_ArithKnown_L6_step, hd, cond_false]
  exact ⟨trivial, trivial, trivial⟩
theorem ak_L4 (l : List S.Value) (hl : (l.length : Int) ≤ 1000) (hok : ∀ a ∈ l, S.Value.ok a) (t : Bool) : ∃ y, Runs law22_ArithKnown_L4_step law22_ArithKnown_L4_vcs ⟨t, 0, l⟩ y ∧ y.1 = false := by
 refine Runs.of (fun x => x.l = l ∧ 0 ≤ x.i ∧ x.i ≤ (l.length : Int)) (fun x => ((l.length : Int) - x.i).toNat) _ ?_ _ ⟨rfl, by simp, by simp⟩
 rintro ⟨t', i, l'⟩ ⟨e1, h0, h1⟩
 dsimp only at e1 h0 h1
 subst e1
 by_cases hi : i < (l'.length : Int)
 ·have hd : decide (i < (l'.length : Int)) = true := decide_eq_true hi
  obtain ⟨y, hr, h4, h5, h6⟩ := ak_L6 l' hl hok t' i ⟨h0, hi⟩
  have e : law22_ArithKnown_L6_run ⟨t', i, 0, l'⟩ = y := theRun_eq (d := fun x => (true, x)) hr
  have e1 : IntKind.i64.wrap (i + 1) = i + 1 := by rw [IntKind.wrap_i64]; omega
  refine ⟨?_, ?_⟩
  ·simp only [law22_ArithKnown_L4_vcs, All, hd, true_implies, e, and_true]
   exact ⟨⟨hr, fun _ => trivial, fun _ => trivial⟩, fun h => by cases h⟩
  ·simp only [law22_ArithKnown_L4_step, hd, cond_true, e, h4, h5, h6, e1, cond_false]
   exact ⟨⟨trivial, by omega, by omega⟩, by omega⟩
 ·have hd : decide (i < (l'.length : Int)) = false := decide_eq_false hi
  refine ⟨by simp only [law22_ArithKnown_L4_vcs, hd]; exact ⟨(fun h => by cases h), fun _ => trivial⟩, ?_⟩
  simp only [law22_ArithKnown_L4_step, hd, cond_false]
theorem ak_L10 (E : List Int) (hE : (E.length : Int) = 11) (hEo : ∀ e ∈ E, inr .i64 e) (i : Int) (hi : 0 ≤ i ∧ i < 11) (w : List S.Value) (hw : (w.length : Int) ≤ 11 * i) (hok : ∀ a ∈ w, S.Value.ok a) :
  ∃ y, Runs law22_ArithKnown_L10_step law22_ArithKnown_L10_vcs ⟨E, i, i, w⟩ y ∧ (y.ends = E ∧ y.i = i ∧ (y.w.length : Int) ≤ 11 * i + 11 ∧ ∀ a ∈ y.w, S.Value.ok a) := by
 refine Runs.of (fun x => x.ends = E ∧ x.i = i ∧ i ≤ x.k ∧ x.k ≤ 11 ∧ (x.w.length : Int) ≤ 11 * i + (x.k - i) ∧ ∀ a ∈ x.w, S.Value.ok a) (fun x => (11 - x.k).toNat) _ ?_ _ ⟨rfl, rfl, Int.le_refl _, by dsimp only; omega, by dsimp only; omega, hok⟩
 rintro ⟨E', i', k, w⟩ ⟨e1, e2, h0, h1, h2, h3⟩
 dsimp only at e1 e2 h0 h1 h2 h3
 subst e1 e2
 by_cases hk : k < 11
 ·have hd : decide (k < (E'.length : Int)) = true := decide_eq_true (by omega)
  have e1 : IntKind.i64.wrap (k + 1) = k + 1 := by rw [IntKind.wrap_i64]; omega
  have e2 : IntKind.i64.wrap (i' + k) = i' + k := by rw [IntKind.wrap_i64]; omega
  obtain ⟨r1, r2, r3⟩ := ak_tmod (i' + k) 4 (by omega) (by decide)
  have oi := ak_getE hEo (n := i'.toNat) (by omega)
  have ok' := ak_getE hEo (n := k.toNat) (by omega)
  have hm : ∀ a ∈ ([1, 2, 3, 1099511627776] : List Int), inr .u64 a := by
   intro a ha
   simp only [List.mem_cons, List.not_mem_nil, or_false] at ha
   rw [inr_u64]; omega
  have om := ak_getE hm (n := ((i' + k) % 4).toNat) (show ((i' + k) % 4).toNat < 4 by omega)
  have hlen : (([1, 2, 3, 1099511627776] : List Int).length : Int) = 4 := rfl
  refine ⟨?_, ?_⟩
  ·simp only [law22_ArithKnown_L10_vcs, All, hd, true_implies, and_true, e2, r1, hlen, List.length_cons, List.length_nil]
   exact ⟨⟨hi.1, by omega, by omega, by omega, r2, r3, hi.1, by omega, Make_pre _ _, by omega⟩, fun h => by cases h⟩
  ·simp only [law22_ArithKnown_L10_step, hd, cond_true, e1, e2, r1]
   refine ⟨⟨trivial, trivial, by omega, by omega, ?_, ?_⟩, by omega⟩
   ·simp; omega
   ·intro a ha
    rcases List.mem_append.1 ha with h | h
    ·exact h3 a h
    ·simp only [List.mem_singleton] at h
     subst h
     exact ⟨⟨oi, ok', trivial⟩, ak_make om oi, trivial⟩
 ·have hd : decide (k < (E'.length : Int)) = false := decide_eq_false (by omega)
  refine ⟨by simp only [law22_ArithKnown_L10_vcs, hd]; exact ⟨(fun h => by cases h), fun _ => trivial⟩, ?_⟩
  simp only [law22_ArithKnown_L10_step, hd, cond_false]
  exact ⟨trivial, trivial, by omega, h3⟩
theorem ak_L8 (E : List Int) (hE : (E.length : Int) = 11) (hEo : ∀ e ∈ E, inr .i64 e) : ∃ y, Runs law22_ArithKnown_L8_step law22_ArithKnown_L8_vcs ⟨E, 0, []⟩ y ∧ (y.ends = E ∧ (y.w.length : Int) ≤ 1000 ∧ ∀ a ∈ y.w, S.Value.ok a) := by
 refine Runs.of (fun x => x.ends = E ∧ 0 ≤ x.i ∧ x.i ≤ 11 ∧ (x.w.length : Int) ≤ 11 * x.i ∧ ∀ a ∈ x.w, S.Value.ok a) (fun x => (11 - x.i).toNat) _ ?_ _ ⟨rfl, by simp, by simp, by simp, by simp⟩
 rintro ⟨E', i, w⟩ ⟨e1, h0, h1, h2, h3⟩
 dsimp only at e1 h0 h1 h2 h3
 subst e1
 by_cases hi : i < 11
 ·have hd : decide (i < (E'.length : Int)) = true := decide_eq_true (by omega)
  obtain ⟨y, hr, h4, h5, h6, h7⟩ := ak_L10 E' hE hEo i ⟨h0, hi⟩ w h2 h3
  have e : law22_ArithKnown_L10_run ⟨E', i, i, w⟩ = y := theRun_eq (d := fun x => x) hr
  have e1 : IntKind.i64.wrap (i + 1) = i + 1 := by rw [IntKind.wrap_i64]; omega
  refine ⟨?_, ?_⟩
  ·simp only [law22_ArithKnown_L8_vcs, All, hd, true_implies, e, and_true]
   exact ⟨hr, fun h => by cases h⟩
  ·simp only [law22_ArithKnown_L8_step, hd, cond_true, e, h4, h5, e1]
   exact ⟨⟨trivial, by omega, by omega, by omega, h7⟩, by omega⟩
 ·have hd : decide (i < (E'.length : Int)) = false := decide_eq_false (by omega)
  refine ⟨by simp only [law22_ArithKnown_L8_vcs, hd]; exact ⟨(fun h => by cases h), fun _ => trivial⟩, ?_⟩
  simp only [law22_ArithKnown_L8_step, hd, cond_false]
  exact ⟨trivial, by omega, h3⟩
theorem ak_L14 (E : List Int) (hE : (E.length : Int) = 11) (hEo : ∀ e ∈ E, inr .i64 e) (l : List S.Value) (hl : (l.length : Int) ≤ 1000) (hok : ∀ a ∈ l, S.Value.ok a) (t : Bool) (i : Int) (hi : 0 ≤ i ∧ i < (l.length : Int)) :
  ∃ y, Runs law22_ArithKnown_L14_step law22_ArithKnown_L14_vcs ⟨t, E, i, 0, l⟩ y ∧ (y.1 = false ∧ y.2.ends = E ∧ y.2.i = i ∧ y.2.w = l) := by
 refine Runs.of (fun x => x.ends = E ∧ x.i = i ∧ x.w = l ∧ 0 ≤ x.k ∧ x.k ≤ (l.length : Int)) (fun x => ((l.length : Int) - x.k).toNat) _ ?_ _ ⟨rfl, rfl, rfl, by simp, by simp⟩
 rintro ⟨t', E', i', k, l'⟩ ⟨e0, e1, e2, h0, h1⟩
 dsimp only at e0 e1 e2 h0 h1
 subst e0 e1 e2
 by_cases hk : k < (l'.length : Int)
 ·have hd : decide (k < (l'.length : Int)) = true := decide_eq_true hk
  have e1 : IntKind.i64.wrap (k + 1) = k + 1 := by rw [IntKind.wrap_i64]; omega
  have vi := ak_getV hok (n := i'.toNat) (by omega)
  have vk := ak_getV hok (n := k.toNat) (by omega)
  obtain ⟨r1, r2, r3⟩ := ak_tmod k 11 h0 (by decide)
  obtain ⟨s1, s2, s3⟩ := ak_tmod i' 11 hi.1 (by decide)
  have ek := ak_getE hEo (n := (k % 11).toNat) (by omega)
  have ei := ak_getE hEo (n := (i' % 11).toNat) (by omega)
  obtain ⟨a1, a2⟩ := ArithDoes_law (IntKind.i64.wrap (13 + Int.tmod (IntKind.i64.wrap (i' + k)) 3)) _ _ (ak_w _) vi vk
  obtain ⟨b1, b2⟩ := ArithSound_law _ _ _ _ vi vk ek ei
  obtain ⟨c1, c2⟩ := ArithLaws_law _ _ 13 vi vk (inr_i64.2 (by decide))
  have q1 : 0 ≤ i' ∧ i' < (l'.length : Int) := hi
  have q2 : 0 ≤ k ∧ k < (l'.length : Int) := ⟨h0, hk⟩
  refine ⟨?_, ?_⟩
  ·simp only [law22_ArithKnown_L14_vcs, hd, r1, s1, a2, b2, c2, All, and_true, true_implies]
   exact ⟨⟨⟨q1.1, q1.2, q2.1, q2.2, a1, fun _ _ => q1, fun _ _ => q2, fun _ _ => ⟨r2, by omega⟩, fun _ _ => ⟨s2, by omega⟩, fun _ _ => b1, fun _ _ => q1, fun _ _ => q2, fun _ _ => c1⟩, fun _ => trivial, fun _ => trivial⟩, fun h => by cases h⟩
  ·simp only [law22_ArithKnown_L14_step, hd, r1, s1, a2, b2, c2, e1, cond_true, Bool.not_true, Bool.and_false, Bool.or_self, cond_false]
   exact ⟨⟨trivial, trivial, trivial, by omega, by omega⟩, by omega⟩
 ·have hd : decide (k < (l'.length : Int)) = false := decide_eq_false hk
  refine ⟨by simp only [law22_ArithKnown_L14_vcs, hd]; exact ⟨(fun h => by cases h), fun _ => trivial⟩, ?_⟩
  simp only [law22_ArithKnown_L14_step, hd, cond_false]
  exact ⟨trivial, trivial, trivial, trivial⟩
theorem ak_L12 (E : List Int) (hE : (E.length : Int) = 11) (hEo : ∀ e ∈ E, inr .i64 e) (l : List S.Value) (hl : (l.length : Int) ≤ 1000) (hok : ∀ a ∈ l, S.Value.ok a) (t : Bool) : ∃ y, Runs law22_ArithKnown_L12_step law22_ArithKnown_L12_vcs ⟨t, E, 0, l⟩ y ∧ y.1 = false := by
 refine Runs.of (fun x => x.ends = E ∧ x.w = l ∧ 0 ≤ x.i ∧ x.i ≤ (l.length : Int)) (fun x => ((l.length : Int) - x.i).toNat) _ ?_ _ ⟨rfl, rfl, by simp, by simp⟩
 rintro ⟨t', E', i, l'⟩ ⟨e0, e1, h0, h1⟩
 dsimp only at e0 e1 h0 h1
 subst e0 e1
 by_cases hi : i < (l'.length : Int)
 ·have hd : decide (i < (l'.length : Int)) = true := decide_eq_true hi
  obtain ⟨y, hr, h4, h5, h6, h7⟩ := ak_L14 E' hE hEo l' hl hok t' i ⟨h0, hi⟩
  have e : law22_ArithKnown_L14_run ⟨t', E', i, 0, l'⟩ = y := theRun_eq (d := fun x => (true, x)) hr
  have e1 : IntKind.i64.wrap (i + 1) = i + 1 := by rw [IntKind.wrap_i64]; omega
  refine ⟨?_, ?_⟩
  ·simp only [law22_ArithKnown_L12_vcs, All, hd, true_implies, e, and_true]
   exact ⟨⟨hr, fun _ => trivial, fun _ => trivial⟩, fun h => by cases h⟩
  ·simp only [law22_ArithKnown_L12_step, hd, cond_true, e, h4, h5, h6, h7, e1, cond_false]
   exact ⟨⟨trivial, trivial, by omega, by omega⟩, by omega⟩
 ·have hd : decide (i < (l'.length : Int)) = false := decide_eq_false hi
  refine ⟨by simp only [law22_ArithKnown_L12_vcs, hd]; exact ⟨(fun h => by cases h), fun _ => trivial⟩, ?_⟩
  simp only [law22_ArithKnown_L12_step, hd, cond_false]
theorem ArithKnown_law : S.law22_ArithKnown_pre ∧ S.law22_ArithKnown = true := by
 obtain ⟨y0, r0, a1, a2⟩ := ak_L0
 have e0 : law22_ArithKnown_L0_run ⟨-3, []⟩ = y0 := theRun_eq (d := fun x => x) r0
 obtain ⟨y4, r4, b1⟩ := ak_L4 y0.l a1 a2 false
 have e4 : law22_ArithKnown_L4_run ⟨false, 0, y0.l⟩ = y4 := theRun_eq (d := fun x => (true, x)) r4
 have hE : ∀ e ∈ ([(-9223372036854775808), (-9223372036854775807), (-4294967296), (-1), 0, 1, 3, 2147483648, 4611686018427387904, 9223372036854775806, 9223372036854775807] : List Int), inr .i64 e := by
  intro e he
  simp only [List.mem_cons, List.not_mem_nil, or_false] at he
  rw [inr_i64]; omega
 have lE : (([(-9223372036854775808), (-9223372036854775807), (-4294967296), (-1), 0, 1, 3, 2147483648, 4611686018427387904, 9223372036854775806, 9223372036854775807] : List Int).length : Int) = 11 := rfl
 simp only [law22_ArithKnown_pre, law22_ArithKnown, e0, e4]
 generalize ([(-9223372036854775808), (-9223372036854775807), (-4294967296), (-1), 0, 1, 3, 2147483648, 4611686018427387904, 9223372036854775806, 9223372036854775807] : List Int) = E at *
 obtain ⟨y8, r8, c0, c1, c2⟩ := ak_L8 E lE hE
 have e8 : law22_ArithKnown_L8_run ⟨E, 0, []⟩ = y8 := theRun_eq (d := fun x => x) r8
 obtain ⟨y12, r12, d1⟩ := ak_L12 E lE hE y8.w c1 c2 y4.2.t0
 have e12 : law22_ArithKnown_L12_run ⟨y4.2.t0, E, 0, y8.w⟩ = y12 := theRun_eq (d := fun x => (true, x)) r12
 have vt : S.Value.ok S.value_Top := (ok_iff' _).2 (by rw [top_eq]; exact top_rv.ok)
 have vb : S.Value.ok S.value_Bottom := (ok_iff' _).2 (by rw [bot_eq]; exact bot_rv.ok)
 obtain ⟨f1, f2⟩ := ArithDoes_law (-1) _ _ (inr_i64.2 (by decide)) vt vt
 obtain ⟨g1, g2⟩ := ArithDoes_law 16 _ _ (inr_i64.2 (by decide)) vb vt
 rw [e8, c0, e12, b1, d1, f2, g2, works22.2]
 exact ⟨⟨⟨r0, r4⟩, (fun h => by cases h), fun _ => ⟨⟨r8, r12⟩, (fun h => by cases h), fun _ => ⟨⟨f1, fun _ => g1, fun _ => works22.1⟩, trivial⟩⟩⟩, rfl⟩
end SV
