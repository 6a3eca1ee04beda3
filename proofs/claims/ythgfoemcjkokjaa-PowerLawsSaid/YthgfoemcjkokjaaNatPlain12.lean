/-
  What the law's own test says: is the number the reference's?
-/
import Derived.Test.YthgfoemcjkokjaaNatPlain11
set_option linter.all false
open Go Vm
namespace S

theorem All_num' (n : Nat) : S.nat_Nat_All (num n) = digs n := by cases n <;> rfl
theorem Len_num' (n : Nat) : S.nat_Nat_Len (num n) = ((digs n).length : Int) := by cases n <;> rfl
theorem isL2_runs (l : List Int) (hl : l.length ≤ 1000000) : ∃ y, Runs law01_is_L2_step law01_is_L2_vcs ⟨0, l⟩ y ∧ True := by
  refine Runs.of (fun s => ∃ i : Nat, s.i = (i : Int) ∧ i ≤ l.length ∧ s.l.length = l.length) (fun s => ((l.length : Int) - s.i).toNat) _ ?_ _ ⟨0, rfl, by omega, rfl⟩
  rintro ⟨i', k⟩ ⟨i, h1, h2, h3⟩
  dsimp only at *
  subst h1
  by_cases hi : i < l.length
  · have hi' : (i : Int) < (k.length : Int) := by omega
    have w1 : IntKind.i64.wrap ((i : Int) + 1) = ((i + 1 : Nat) : Int) := by rw [IntWalk.i64_in] <;> omega
    refine ⟨?_, ?_⟩
    · simp only [law01_is_L2_vcs, All, hi', decide_true, true_implies, and_true, Bool.true_eq_false, false_implies]
      omega
    · simp only [law01_is_L2_step, hi', decide_true, cond_true, w1]
      exact ⟨⟨i + 1, rfl, by omega, by rw [List.length_set]; exact h3⟩, by omega⟩
  · have hi' : ¬ (i : Int) < (k.length : Int) := by omega
    refine ⟨by simp [law01_is_L2_vcs, hi'], ?_⟩
    simp only [law01_is_L2_step, hi', decide_false, cond_false]

theorem bytes_len (m : Nat) : (digs8 m).length ≤ 8 * (digs m).length := by
  refine digs_len8 _ _ ?_
  obtain ⟨v, l⟩ := digs_val m
  have h := val_lt l
  rw [v] at h
  have e : ((256 ^ (8 * (digs m).length) : Nat) : Int) = (256 : Int) ^ (8 * (digs m).length) := by simp
  rw [← pow8, ← e] at h
  omega
theorem Same_eq (m n : Nat) (lm : (digs8 m).length ≤ 100000) (ln : (digs8 n).length ≤ 100000) : S.ref01_Same_pre (digs8 m) (digs8 n) ∧ S.ref01_Same (digs8 m) (digs8 n) = decide (m = n) := by
  obtain ⟨p, q⟩ := refCmp_eq m n lm ln
  refine ⟨by simp only [ref01_Same_pre, All, and_true]; exact p, ?_⟩
  simp only [ref01_Same, q]
  by_cases h : m = n
  · rw [decide_eq_true h, beq_iff_eq, sg_zero]; omega
  · rw [decide_eq_false h, beq_eq_false_iff_ne]; intro e; rw [sg_zero] at e; omega
theorem top_last (m : Nat) : ((decide (((digs m).length : Int) > 0)) && ((digs m).getD (Int.toNat (((digs m).length : Int) - 1)) 0 == 0)) = false := by
  rcases List.eq_nil_or_concat (digs m) with h | ⟨k, x, h⟩
  · rw [h]; rfl
  · rw [List.concat_eq_append] at h
    have hx := top_digs m k x h
    have e : Int.toNat (((digs m).length : Int) - 1) = k.length := by rw [h]; simp
    rw [e, h, List.getD_eq_getElem?_getD, List.getElem?_append_right (Nat.le_refl _)]
    simp [hx]

theorem is_eq (m w : Nat) (hm : (digs m).length ≤ 10000) (hw : (digs8 w).length ≤ 100000) : S.law01_is_pre (num m) (digs8 w) ∧ S.law01_is (num m) (digs8 w) = decide (m = w) := by
  have hb := bytes_len m
  obtain ⟨v, l⟩ := digs_val m
  obtain ⟨op, oq⟩ := refOf_eq (digs m) l (by omega)
  rw [v, Int.toNat_natCast] at oq
  obtain ⟨sp, sq⟩ := Same_eq m w (by omega) hw
  obtain ⟨z, hz, _⟩ := isL2_runs (digs m) (by omega)
  have ez : law01_is_L2_run ⟨0, digs m⟩ = z := theRun_eq (d := fun x => x) hz
  have w1 : IntKind.i64.wrap (((digs m).length : Int) - 1) = ((digs m).length : Int) - 1 := by rw [IntWalk.i64_in] <;> omega
  have ap := All_pre m (Nat.le_trans hm (by omega))
  have tl := top_last m
  have main : ∃ y, Runs law01_is_L0_step law01_is_L0_vcs ⟨digs8 w, false, 0, num m⟩ y ∧ (bif y.1 then y.2.t4 else true) = decide (m = w) := by
    refine Runs.of (fun s => ∃ t : Nat, s.want = digs8 w ∧ s.n = num m ∧ s.t = (t : Int) ∧ t ≤ 2 ∧ (0 < t → m = w)) (fun s => ((2 : Int) - s.t).toNat) _ ?_ _ ⟨0, rfl, rfl, rfl, by omega, fun h => by omega⟩
    rintro ⟨w', t4, t', n'⟩ ⟨t, h1, h2, h3, h4, h5⟩
    dsimp only at *
    subst h1 h2 h3
    by_cases ht : t < 2
    · have ht' : (t : Int) < 2 := by omega
      have w2 : IntKind.i64.wrap ((t : Int) + 1) = ((t + 1 : Nat) : Int) := by rw [IntWalk.i64_in] <;> omega
      have hp : ∀ p : Bool, (((digs m).length : Int) != ((digs m).length : Int)) = false := fun _ => by simp
      refine ⟨?_, ?_⟩
      · simp only [law01_is_L0_vcs, All, ht', decide_true, true_implies, and_true, Bool.true_eq_false, false_implies, All_num', Len_num', bne_self_eq_false, Bool.false_or, w1, tl, oq, sq, ap, op, sp, true_and, ez]
        refine ⟨fun h => ?_, fun _ => trivial, fun _ => hz⟩
        have := of_decide_eq_true h
        omega
      · simp only [law01_is_L0_step, ht', decide_true, cond_true, All_num', Len_num', bne_self_eq_false, Bool.false_or, w1, tl, oq, sq, w2]
        by_cases h : m = w
        · rw [decide_eq_true h, Bool.not_true, cond_false]
          exact ⟨⟨t + 1, rfl, rfl, rfl, by omega, fun _ => h⟩, by dsimp only; omega⟩
        · rw [decide_eq_false h, Bool.not_false, cond_true]; rfl
    · have ht' : ¬ (t : Int) < 2 := by omega
      refine ⟨by simp only [law01_is_L0_vcs, ht', decide_false, Bool.false_eq_true, false_implies, true_and, implies_true], ?_⟩
      simp only [law01_is_L0_step, ht', decide_false, cond_false]
      rw [decide_eq_true (h5 (by omega))]
  obtain ⟨y, hr, h1⟩ := main
  have e : law01_is_L0_run ⟨digs8 w, false, 0, num m⟩ = y := theRun_eq (d := fun x => ⟨true, x⟩) hr
  refine ⟨?_, ?_⟩
  · simp only [law01_is_pre, All, e, implies_true, and_true]; exact hr
  · simp only [law01_is, e, h1]
end S
