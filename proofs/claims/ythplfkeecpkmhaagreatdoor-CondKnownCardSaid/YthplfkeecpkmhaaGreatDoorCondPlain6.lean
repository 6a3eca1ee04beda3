/-
  What is left lies within, is not empty where the operator may tell so, and stays; the statement CondKeeps.
-/
import Derived.Test.YthplfkeecpkmhaaGreatDoorCondPlain5
set_option linter.all false
open Go Vm
namespace SV
open S SC

/-! ### From a number on, up to one: within, and what stays -/

theorem M_in (a : S.Inter) (lo hi : Int) : (S.ref19_Meet a ⟨lo, hi⟩ = ⟨max a.Lo lo, min a.Hi hi⟩ ∧ max a.Lo lo ≤ min a.Hi hi) ∨ (S.ref19_Meet a ⟨lo, hi⟩ = ⟨1, 0⟩ ∧ max a.Lo lo > min a.Hi hi) := by
  rw [SI.M_m]
  by_cases e : max a.Lo lo > min a.Hi hi
  · right; exact ⟨SI.Plain_no e, e⟩
  · left; exact ⟨SI.Plain_yes e, by omega⟩

/-- What a value has between two numbers. -/
noncomputable def btw (v : S.Value) (lo hi : Int) : S.Value := S.value_Make (S.ref19_Meet v.I ⟨lo, hi⟩) v.C
theorem btw_ir {v : S.Value} (h : RV v) {lo hi : Int} (hl : I64 lo) (hh : I64 hi) : IR (S.ref19_Meet v.I ⟨lo, hi⟩) := M_ir h.ir ⟨hl, hh⟩

theorem btw_le {v : S.Value} (h : RV v) {lo hi : Int} (hl : I64 lo) (hh : I64 hi) : Le (btw v lo hi) v := by
  have hm := Make_red (btw_ir h hl hh) h.cr
  rcases M_in v.I lo hi with ⟨e, h1⟩ | ⟨e, h1⟩
  · exact made_le hm h.cr h (by rw [e]; dsimp only; omega) (by rw [e]; dsimp only; omega) (le_refl h.cr)
  · unfold btw
    rw [e] at hm ⊢
    left
    exact hm.unique (.no fun n _ hn => by have := hn.1; have := hn.2.1; simp at *; omega)

/-- Between the numbers, if anything is. -/
theorem btw_in {v : S.Value} (h : RV v) {lo hi : Int} (hl : I64 lo) (hh : I64 hi) : btw v lo hi = bot ∨ (NB (btw v lo hi) ∧ lo ≤ (btw v lo hi).I.Lo ∧ (btw v lo hi).I.Hi ≤ hi) := by
  have hr : RV (btw v lo hi) := Make_rv (btw_ir h hl hh) h.cr
  have hm := Make_red (btw_ir h hl hh) h.cr
  rcases hr with hb | nb
  · exact .inl hb
  · right
    refine ⟨nb, ?_⟩
    unfold btw at nb ⊢
    revert hm nb
    generalize S.value_Make _ _ = w
    intro hm nb
    cases hm with
    | no _ => exact absurd rfl nb.ne
    | yes l r _ _ hle k1 k2 _ =>
      have a1 := k1.1; have a2 := k2.2.1
      rcases M_in v.I lo hi with ⟨e, h1⟩ | ⟨e, h1⟩
      · rw [e] at a1 a2
        simp only at a1 a2
        split
        · dsimp only [one]; omega
        · dsimp only; omega
      · rw [e] at a1 a2
        simp only at a1 a2
        omega

/-- What a value has there stays in it. -/
theorem btw_has {v : S.Value} (h : RV v) {lo hi : Int} (hl : I64 lo) (hh : I64 hi) {n : Int} (hn : I64 n) (hv : Le (one n) v) (h1 : lo ≤ n) (h2 : n ≤ hi) : Le (one n) (btw v lo hi) := by
  obtain ⟨a1, a2, a3⟩ := (le_one h hn).1 hv
  refine le_made (Make_red (btw_ir h hl hh) h.cr) h.cr (one_NB hn) ?_ ?_ ((const_le hn h.cr).2 a3)
  · rcases M_in v.I lo hi with ⟨e, h3⟩ | ⟨e, h3⟩
    · rw [e]; dsimp only [one]; omega
    · omega
  · rcases M_in v.I lo hi with ⟨e, h3⟩ | ⟨e, h3⟩
    · rw [e]; dsimp only [one]; omega
    · omega

theorem btw_self {v : S.Value} (h : NB v) {lo hi : Int} (h1 : lo ≤ v.I.Lo) (h2 : v.I.Hi ≤ hi) : btw v lo hi = v := by
  have hle := h.le
  unfold btw
  rcases M_in v.I lo hi with ⟨e, h3⟩ | ⟨e, h3⟩
  · rw [e, show max v.I.Lo lo = v.I.Lo by omega, show min v.I.Hi hi = v.I.Hi by omega]
    exact Make_self (.inr h)
  · omega

theorem has_lo {v : S.Value} (h : NB v) : Le (one v.I.Lo) v := (le_one (.inr h) h.lo).2 ⟨Int.le_refl _, h.le, h.hl⟩
theorem has_hi {v : S.Value} (h : NB v) : Le (one v.I.Hi) v := (le_one (.inr h) h.hi).2 ⟨h.le, Int.le_refl _, h.hh⟩
theorem ne_of_has {v : S.Value} {n : Int} (hn : I64 n) (h : Le (one n) v) : v ≠ bot := fun e => one_ne hn (Le.of_bot (one_rv hn) (e ▸ h))
theorem nb_of {v : S.Value} (h : RV v) (hn : v ≠ bot) : NB v := h.resolve_left hn

theorem fr_btw (v : S.Value) (n : Int) : fr v n = btw v n 9223372036854775807 := rfl
theorem up_btw (v : S.Value) (n : Int) : up v n = btw v (-9223372036854775808) n := rfl
theorem fr_le {v : S.Value} (h : RV v) {n : Int} (hn : I64 n) : Le (fr v n) v := btw_le h hn imax
theorem up_le {v : S.Value} (h : RV v) {n : Int} (hn : I64 n) : Le (up v n) v := btw_le h imin hn
theorem ab_le {v : S.Value} (h : RV v) {n : Int} (hn : I64 n) : Le (ab v n) v := by
  unfold ab; split
  · exact Le.bot
  · exact fr_le h (by unfold I64 at *; omega)
theorem be_le {v : S.Value} (h : RV v) {n : Int} (hn : I64 n) : Le (be v n) v := by
  unfold be; split
  · exact Le.bot
  · exact up_le h (by unfold I64 at *; omega)

/-- From a number on, where the greatest still is. -/
theorem fr_spec {v : S.Value} (h : NB v) {n : Int} (hn : I64 n) (hv : n ≤ v.I.Hi) : NB (fr v n) ∧ (fr v n).I.Hi = v.I.Hi ∧ n ≤ (fr v n).I.Lo := by
  have h1 := btw_has (.inr h) hn imax h.hi (has_hi h) hv h.hi.2
  have hne := ne_of_has h.hi h1
  have hle := btw_le (.inr h) hn imax
  obtain ⟨nb, i1, i2⟩ := (btw_in (.inr h) hn imax).resolve_left hne
  have a := (le_one (.inr nb) h.hi).1 h1
  have b := hle.resolve_left hne
  exact ⟨nb, Int.le_antisymm b.2.1 a.2.1, i1⟩
theorem up_spec {v : S.Value} (h : NB v) {n : Int} (hn : I64 n) (hv : v.I.Lo ≤ n) : NB (up v n) ∧ (up v n).I.Lo = v.I.Lo ∧ (up v n).I.Hi ≤ n := by
  have h1 := btw_has (.inr h) imin hn h.lo (has_lo h) h.lo.1 hv
  have hne := ne_of_has h.lo h1
  have hle := btw_le (.inr h) imin hn
  obtain ⟨nb, i1, i2⟩ := (btw_in (.inr h) imin hn).resolve_left hne
  have a := (le_one (.inr nb) h.lo).1 h1
  have b := hle.resolve_left hne
  exact ⟨nb, Int.le_antisymm a.1 b.1, i2⟩
theorem ab_spec {v : S.Value} (h : NB v) {n : Int} (hn : I64 n) (hv : n < v.I.Hi) : NB (ab v n) ∧ (ab v n).I.Hi = v.I.Hi ∧ n < (ab v n).I.Lo := by
  have := h.hi.2
  unfold I64 at hn
  have e : ab v n = fr v (n + 1) := if_neg (by omega)
  rw [e]
  obtain ⟨a, b, c⟩ := fr_spec h (n := n + 1) (by unfold I64; omega) (by omega)
  exact ⟨a, b, by omega⟩
theorem be_spec {v : S.Value} (h : NB v) {n : Int} (hn : I64 n) (hv : v.I.Lo < n) : NB (be v n) ∧ (be v n).I.Lo = v.I.Lo ∧ (be v n).I.Hi < n := by
  have := h.lo.1
  unfold I64 at hn
  have e : be v n = up v (n - 1) := if_neg (by omega)
  rw [e]
  obtain ⟨a, b, c⟩ := up_spec h (n := n - 1) (by unfold I64; omega) (by omega)
  exact ⟨a, b, by omega⟩
theorem fr_self {v : S.Value} (h : NB v) {n : Int} (hv : n ≤ v.I.Lo) : fr v n = v := btw_self h hv h.hi.2
theorem up_self {v : S.Value} (h : NB v) {n : Int} (hv : v.I.Hi ≤ n) : up v n = v := btw_self h h.lo.1 hv
theorem ab_self {v : S.Value} (h : NB v) {n : Int} (hv : n < v.I.Lo) : ab v n = v := by
  have := h.lo.2
  rw [show ab v n = fr v (n + 1) from if_neg (by omega)]
  exact fr_self h (by omega)
theorem be_self {v : S.Value} (h : NB v) {n : Int} (hv : v.I.Hi < n) : be v n = v := by
  have := h.hi.1
  rw [show be v n = up v (n - 1) from if_neg (by omega)]
  exact up_self h (by omega)

/-! ### Without a number -/

theorem wo_le {v : S.Value} (h : RV v) {n : Int} (hn : I64 n) : Le (wo v n) v := by
  unfold wo; split
  · exact Le.refl h
  · split
    · exact ab_le h hn
    · split
      · exact be_le h hn
      · exact Le.refl h
theorem wo_spec {v : S.Value} (h : NB v) {n : Int} (hn : I64 n) (hv : v ≠ one n) : NB (wo v n) ∧ n ≠ (wo v n).I.Lo ∧ n ≠ (wo v n).I.Hi := by
  have hle := h.le
  have hne : ¬ (v.I.Lo = n ∧ v.I.Hi = n) := fun e => hv (S.Value.ext (S.Inter.ext e.1 e.2) (by rw [h.one (by omega), e.1]; rfl))
  unfold wo
  rw [if_neg h.ne]
  by_cases e1 : n = v.I.Lo
  · rw [if_pos e1]
    obtain ⟨a, b, c⟩ := ab_spec h hn (by omega)
    exact ⟨a, by omega, by omega⟩
  · rw [if_neg e1]
    by_cases e2 : n = v.I.Hi
    · rw [if_pos e2]
      obtain ⟨a, b, c⟩ := be_spec h hn (by omega)
      exact ⟨a, by omega, by omega⟩
    · rw [if_neg e2]; exact ⟨h, e1, e2⟩
theorem wo_self {v : S.Value} {n : Int} (h1 : n ≠ v.I.Lo) (h2 : n ≠ v.I.Hi) : wo v n = v := by
  unfold wo
  rw [if_neg h1, if_neg h2]; split <;> rfl
theorem wt_le {v o : S.Value} (h : RV v) (ho : RV o) : Le (wt v o) v := by
  unfold wt; split
  · exact wo_le h ho.ir.1
  · exact Le.refl h
theorem wt_ne {v o : S.Value} (h : NB v) (ho : NB o) (hne : ¬ (v.I.Lo = v.I.Hi ∧ o.I.Lo = o.I.Hi ∧ v.I.Lo = o.I.Lo)) : NB (wt v o) := by
  unfold wt; split
  · rename_i e
    refine (wo_spec h ho.lo fun e1 => hne ?_).1
    rw [e1]; exact ⟨rfl, e, rfl⟩
  · exact h
theorem on_f {v : S.Value} (h : RV v) : on v false = if Le (one 0) v then one 0 else bot := M_one h i0
theorem on_le {v : S.Value} (h : RV v) (t : Bool) : Le (on v t) v := by
  cases t
  · rw [on_f h]; split
    · assumption
    · exact Le.bot
  · exact wo_le h i0
theorem al_le {a b : S.Value} (ha : RV a) (hb : RV b) : Le (al a b).1 a ∧ Le (al a b).2 b := by
  have hi := M_ir ha.ir hb.ir
  unfold al
  by_cases h : (S.cong_Meet a.C b.C).2 = true
  · rw [if_pos h]
    by_cases he : max a.I.Lo b.I.Lo > min a.I.Hi b.I.Hi
    · have hz : ∀ c, CR c → S.value_Make (S.ref19_Meet a.I b.I) c = bot := fun c hc => by
        have hm := Make_red hi hc
        rw [SI.M_m, SI.Plain_no he] at hm ⊢
        exact hm.unique (.no fun n _ h => by have := h.1; have := h.2.1; simp at *; omega)
      refine ⟨?_, ?_⟩
      · dsimp only; split
        · rw [hz _ hb.cr]; exact Le.bot
        · rw [hz _ ha.cr]; exact Le.bot
      · dsimp only; split
        · rw [hz _ ha.cr]; exact Le.bot
        · rw [hz _ hb.cr]; exact Le.bot
    · have hz : ∀ c, CR c → ∀ v, RV v → (v = a ∨ v = b) → S.cong_Within c v.C = true → Le (S.value_Make (S.ref19_Meet a.I b.I) c) v := fun c hc v hv hvv hcw => by
        have hm := Make_red hi hc
        rw [SI.M_m, SI.Plain_yes he] at hm ⊢
        rcases hvv with rfl | rfl
        · exact made_le hm hc hv (by dsimp only; omega) (by dsimp only; omega) hcw
        · exact made_le hm hc hv (by dsimp only; omega) (by dsimp only; omega) hcw
      refine ⟨?_, ?_⟩
      · dsimp only; split
        · exact hz _ hb.cr _ ha (.inl rfl) (by assumption)
        · exact hz _ ha.cr _ ha (.inl rfl) (le_refl ha.cr)
      · dsimp only; split
        · exact hz _ ha.cr _ hb (.inr rfl) (by assumption)
        · exact hz _ hb.cr _ hb (.inr rfl) (le_refl hb.cr)
  · rw [if_neg h]; exact ⟨Le.bot, Le.bot⟩

theorem lf_le (op : Int) {a b : S.Value} (ha : RV a) (hb : RV b) : Le (lf op a b).1 a ∧ Le (lf op a b).2 b := by
  unfold lf
  by_cases h1 : op = 1
  · rw [if_pos h1]; exact ⟨on_le ha true, on_le hb true⟩
  rw [if_neg h1]
  by_cases h2 : op = 2
  · rw [if_pos h2]; exact al_le ha hb
  rw [if_neg h2]
  by_cases h3 : op = 3
  · rw [if_pos h3]; exact ⟨wt_le ha hb, wt_le hb ha⟩
  rw [if_neg h3]
  by_cases h4 : op = 4
  · rw [if_pos h4]; exact ⟨be_le ha hb.ir.2, ab_le hb ha.ir.1⟩
  rw [if_neg h4]
  by_cases h5 : op = 5
  · rw [if_pos h5]; exact ⟨up_le ha hb.ir.2, fr_le hb ha.ir.1⟩
  rw [if_neg h5]
  by_cases h6 : op = 6
  · rw [if_pos h6]; exact ⟨ab_le ha hb.ir.1, be_le hb ha.ir.2⟩
  rw [if_neg h6]
  by_cases h7 : op = 7
  · rw [if_pos h7]; exact ⟨fr_le ha hb.ir.1, up_le hb ha.ir.2⟩
  rw [if_neg h7]; exact ⟨Le.refl ha, Le.refl hb⟩
theorem lfs_le (op : Int) {a b : S.Value} (ha : RV a) (hb : RV b) (t : Bool) : Le (lfs op a b t).1 a ∧ Le (lfs op a b t).2 b := by
  unfold lfs
  cases t
  · rw [cond_false]
    split
    · exact ⟨on_le ha false, on_le hb false⟩
    · split
      · exact lf_le _ ha hb
      · exact ⟨Le.refl ha, Le.refl hb⟩
  · exact lf_le _ ha hb
theorem rf_le (op : Int) {a b : S.Value} (ha : RV a) (hb : RV b) (t : Bool) : Le (rf op a b t).1 a ∧ Le (rf op a b t).2 b := by
  unfold rf
  split
  · exact ⟨Le.bot, Le.bot⟩
  · exact lfs_le op ha hb t
end SV
