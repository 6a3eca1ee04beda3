/-
  What the interpreter says of a call is so.
-/
import Derived.Test.YthnlknegnlmklaaVm7b
set_option linter.all false
namespace Vm
open Go Go.RowKit
variable {A : Nat → Type}

section
variable {c : Cfg A} {n : Nat} {w0 : W1} {S0 : Nat → Prop} {S : Fz} {σ : Nat → Loc} {lk : K → Option (Ent A)} {a : Act} {w : World}

/-- Of which memory the callee knows: what is old. -/
def oldS (S : Fz) : Fz := fun f b => f = false ∧ S false b

theorem old_frs {v : V A} (h : old0 v = true) : old0 (frs false v) = true := by cases v <;> simp_all [old0, frs]

theorem Den.old (hc : CfgOk c) {v : V A} {x : Value} (h : Den c S σ w v x) (hv : old0 v = true ∨ ∃ cs, v = .agg cs ∧ all old0 cs = true) : Den c (oldS S) σ w v x := by
  have henc : ∀ {t : Nat} (b : A t) (q : Nat) (hq : q < (encF c t false b).length), old0 (encF c t false b)[q] = true := by
    intro t b q hq
    obtain ⟨v, hv, he⟩ := encF_get c t false b hq
    rw [he]
    exact old_frs (all_mem (hc.old t b) _ hv)
  induction h with
  | list t f l p cap b x hp hcap hSb hn he hcell hd ih =>
    have : f = false := by
      rcases hv with h | ⟨cs, h, _⟩
      · simpa [old0] using h
      · cases h
    subst this
    exact .list t false l p cap b x hp hcap (fun h => ⟨rfl, hSb h⟩) hn he hcell (fun j q hj hq => ih j q hj hq (.inl (henc _ _ _)))
  | arr t f n l xs hl he hx hd ih =>
    have : f = false := by
      rcases hv with h | ⟨cs, h, _⟩
      · simpa [old0] using h
      · cases h
    subst this
    exact .arr t false n l xs hl he hx (fun j q hj hq => ih j q hj hq (.inl (henc _ _ _)))
  | agg cs xs hl h ih =>
    rcases hv with h' | ⟨cs', h', h2⟩
    · simp [old0] at h'
    · cases h'
      exact .agg cs xs hl fun i hi => ih i hi (.inl (all_mem h2 _ (List.getElem_mem hi)))
  | tup cs xs hl h ih => rcases hv with h' | ⟨cs', h', _⟩ <;> simp [old0] at h'
  | clo f fs cs xs ys hl h hl2 h' ih ih' => rcases hv with h' | ⟨cs', h', _⟩ <;> simp [old0] at h'
  | eptr t fr a off b x hSb he hcell hd ih => rcases hv with h' | ⟨cs', h', _⟩ <;> simp [old0] at h'
  | optr id t i off hi => rcases hv with h' | ⟨cs', h', _⟩ <;> simp [old0] at h'
  | own id => rcases hv with h' | ⟨cs', h', _⟩ <;> simp [old0] at h'
  | ptr id off => rcases hv with h' | ⟨cs', h', _⟩ <;> simp [old0] at h'
  | cmap k fr l b es ck hSb hb he =>
    rcases hv with h | ⟨_, h, _⟩
    · simp [old0] at h
    · cases h
  | _ => constructor

theorem viewB_old {E : Env A} {v u : V A} (h : viewB E v = some u) : old0 u = true := by
  cases v <;> simp only [viewB, reduceCtorEq, Option.some.injEq] at h <;> try (subst h; rfl)
  split at h <;> first | (cases h; rfl) | cases h

theorem viewL_old {E : Env A} : ∀ {vs us : List (V A)}, viewL E vs = some us → all old0 us = true
  | [], us, h => by simp only [viewL, Option.some.injEq] at h; subst h; rfl
  | v :: vs, us, h => by
    simp only [viewL] at h
    split at h
    · rename_i u us' hu hus
      cases h
      simp only [all, Bool.and_eq_true]
      exact ⟨viewB_old hu, viewL_old hus⟩
    · cases h

section
variable {S1 : Fz} {E : Env A} {ids : List Nat}

theorem viewB_den (hc : CfgOk c) (hE : ∀ k e, look k E = some e → lk k = some e) (hSS : ∀ f b, S f b → S1 f b)
    (hR1 : RelAt c n w0 S0 S1 σ (fun k => (look k (frz E ids)).or (lk k)) a w) (hf : ∀ r ∈ ids, ∀ t f l, look (.row r) E = some ([], .rowc t f none l) → look (.row r) (frz E ids) = some ([], .list t f l))
    {v u : V A} {x : Value} (hin : ∀ r ∈ ownB v, r ∈ ids) (hd : Den c S σ w v x) (h : viewB E v = some u) : Den c (oldS S1) σ w u x := by
  refine Den.old hc (S := S1) ?_ (.inl (viewB_old h))
  have up : ∀ {v : V A} {x}, Den c S σ w v x → Den c S1 σ w v x := fun h => h.mono hc hSS (fun _ _ _ => rfl) (fun _ _ => rfl)
  cases v with
  | own r =>
    cases hd
    simp only [viewB] at h
    split at h
    · rename_i t f l hrow; cases h
      exact Den.less hR1.sT (frozen_den hE hR1 hf (hin r (by simp [ownB])) (.inl hrow)) (.list _ _ _ _ (fun h => by cases h))
    · rename_i t f l hrow; cases h
      exact Den.less hR1.sT (frozen_den hE hR1 hf (hin r (by simp [ownB])) (.inr hrow)) (.list _ _ _ _ (fun h => by cases h))
    · cases h
  | list t f l => simp only [viewB, Option.some.injEq] at h; subst h; exact Den.less hR1.sT (up hd) (.list _ _ _ _ (fun h => by cases h))
  | arr t f m l => simp only [viewB, Option.some.injEq] at h; subst h; exact Den.less hR1.sT (up hd) (.arr _ _ _ _ _ (fun h => by cases h))
  | int k i => simp only [viewB, Option.some.injEq] at h; subst h; exact up hd
  | bool b => simp only [viewB, Option.some.injEq] at h; subst h; exact up hd
  | str s => simp only [viewB, Option.some.injEq] at h; subst h; exact up hd
  | fn f => simp only [viewB, Option.some.injEq] at h; subst h; exact up hd
  | raw y => simp only [viewB, Option.some.injEq] at h; subst h; exact up hd
  | _ => simp [viewB] at h

theorem viewL_den (hc : CfgOk c) (hE : ∀ k e, look k E = some e → lk k = some e) (hSS : ∀ f b, S f b → S1 f b)
    (hR1 : RelAt c n w0 S0 S1 σ (fun k => (look k (frz E ids)).or (lk k)) a w) (hf : ∀ r ∈ ids, ∀ t f l, look (.row r) E = some ([], .rowc t f none l) → look (.row r) (frz E ids) = some ([], .list t f l)) (P : Nat → Value → Prop) :
    ∀ (k : Nat) (vs us : List (V A)), (∀ r ∈ ownL vs, r ∈ ids) → (∀ i (hi : i < vs.length), ∃ x, P (k + i) x ∧ Den c S σ w vs[i] x) → viewL E vs = some us → us.length = vs.length ∧ ∀ i (hi : i < us.length), ∀ x, P (k + i) x → (∀ y, P (k + i) y → y = x) → Den c (oldS S1) σ w us[i] x := by
  intro k vs
  induction vs generalizing k with
  | nil => intro us _ _ h; simp only [viewL, Option.some.injEq] at h; subst h; exact ⟨rfl, fun i hi => absurd hi (Nat.not_lt_zero _)⟩
  | cons v vs ih =>
    intro us hin hd h
    simp only [viewL] at h
    split at h
    · rename_i u us' hu hus
      cases h
      obtain ⟨h1, h2⟩ := ih (k + 1) us' (fun r hr => hin r (by simp [ownL, hr])) (fun i hi => by
        have := hd (i + 1) (by simpa using hi)
        rw [show k + (i + 1) = k + 1 + i by omega] at this
        exact this) hus
      refine ⟨by simp [h1], fun i hi x hx huq => ?_⟩
      cases i with
      | zero =>
        obtain ⟨x', hx', hd'⟩ := hd 0 (Nat.zero_lt_succ _)
        have := huq x' hx'
        subst this
        exact viewB_den hc hE hSS hR1 hf (fun r hr => hin r (by have hr : r ∈ ownB v := hr; simp [ownL, hr])) hd' hu
      | succ i =>
        rw [show k + (i + 1) = k + 1 + i by omega] at hx huq
        exact h2 i (by simpa using hi) x hx huq
    · cases h

theorem readBox_spec (id : Nat) : ∀ (m off : Nat) (i : Nat) (hi : i < (readBox E id m off).length), look (.cell id (off + i)) E = some ([], (readBox E id m off)[i]) ∧ ((readBox E id m off)[i]).isJunk = false := by
  intro m
  induction m with
  | zero => intro off i hi; simp [readBox] at hi
  | succ m ih =>
    intro off i hi
    have key : ∀ (L : List (V A)), readBox E id (m + 1) off = L → ∀ (hi : i < L.length), look (.cell id (off + i)) E = some ([], L[i]) ∧ (L[i]).isJunk = false := by
      intro L hL hi
      simp only [readBox] at hL
      split at hL
      · subst hL; simp at hi
      · rename_i v hv1 hv2
        subst hL
        cases i with
        | zero =>
          refine ⟨hv2, ?_⟩
          show v.isJunk = false
          cases v <;> first | rfl | exact absurd rfl (hv1 ·)
        | succ i =>
          have := ih (off + 1) i (by simpa using hi)
          rw [show off + (i + 1) = off + 1 + i by omega]
          exact this
      · subst hL; simp at hi
    exact key _ rfl hi

/-- The blocks of the boxes that arguments point to. -/
def betaOf (σ : Nat → Loc) (raw : List (V A)) (i : Nat) : Nat := match raw[i]? with
  | some (.ptr id _) => (σ id).blk
  | _ => 0

theorem viewArg_ref {v : V A} {cs : List (V A)} (h : viewArg E v = some (.ref cs)) : ∃ id, v = .ptr id 0 ∧ viewL E (readBox E id 64 0) = some cs ∧ readBox E id 64 0 ≠ [] := by
  unfold viewArg at h
  split at h
  · split at h <;> cases h
  · rename_i id
    split at h
    · cases h
    · rename_i v vs hrb
      split at h
      · rename_i cs' hcs
        cases h
        exact ⟨id, rfl, by rw [hrb]; exact hcs, by rw [hrb]; simp⟩
      · cases h
  · have := viewB_old h
    simp [old0] at this

theorem viewArg_den (hc : CfgOk c) (hR : RelAt c n w0 S0 S σ lk a w) (hE : ∀ k e, look k E = some e → lk k = some e) (hSS : ∀ f b, S f b → S1 f b)
    (hR1 : RelAt c n w0 S0 S1 σ (fun k => (look k (frz E ids)).or (lk k)) a w) (hf : ∀ r ∈ ids, ∀ t f l, look (.row r) E = some ([], .rowc t f none l) → look (.row r) (frz E ids) = some ([], .list t f l))
    {β : Nat → Nat} {i : Nat} {v u : V A} {x : Value} (hβ : ∀ id, v = .ptr id 0 → β i = (σ id).blk) (hin : ∀ r ∈ ownArg E v, r ∈ ids) (hd : Den c S σ w v x) (h : viewArg E v = some u) : ArgDen c (oldS S1) σ w β i u x := by
  have plain : ∀ {u : V A}, (∀ cs, u ≠ .ref cs) → Den c (oldS S1) σ w u x → ArgDen c (oldS S1) σ w β i u x := by
    intro u hu hd
    cases u <;> first | exact hd | exact absurd rfl (hu _)
  unfold viewArg at h
  split at h
  · rename_i cs
    split at h
    · rename_i cs' hcs
      cases h
      obtain ⟨xs, rfl, hxs⟩ := hd.of_agg
      have := viewL_den hc hE hSS hR1 hf (fun k y => y = xs.getD k undef) 0 cs cs' hin (fun j hj => ⟨_, rfl, by rw [Nat.zero_add]; exact hxs.2 j hj⟩) hcs
      refine plain (fun _ h => by cases h) (.agg cs' xs (by rw [hxs.1, this.1]) fun j hj => ?_)
      have := this.2 j hj (xs.getD j undef) (by rw [Nat.zero_add]) (fun y hy => by rw [Nat.zero_add] at hy; exact hy)
      exact this
    · cases h
  · rename_i id
    split at h
    · cases h
    · rename_i v vs hrb
      split at h
      · rename_i cs' hcs
        cases h
        have hb := hβ id rfl
        have hsp := fun j (hj : j < (v :: vs).length) => by
          have := readBox_spec (E := E) id 64 0 j (by rw [hrb]; exact hj)
          rw [Nat.zero_add] at this
          exact this
        have hcell : ∀ j (hj : j < (v :: vs).length), ∃ y, w.cell? ⟨(σ id).blk, j, none⟩ = some y ∧ Den c S σ w (v :: vs)[j] y := fun j hj => by
          obtain ⟨h1, h2⟩ := hsp j hj
          obtain ⟨⟨y, hy, hdy⟩, _⟩ := hR.cell id j [] _ (hE _ _ h1) h2
          refine ⟨y, hy, ?_⟩
          have e : (readBox E id 64 0)[j]'(by rw [hrb]; exact hj) = (v :: vs)[j] := by simp only [hrb]
          rw [e] at hdy; exact hdy
        have hv := viewL_den hc hE hSS hR1 hf (fun k y => w.cell? ⟨(σ id).blk, k, none⟩ = some y) 0 (v :: vs) cs' (by simpa [ownArg, hrb] using hin) (fun j hj => by
          obtain ⟨y, hy, hd⟩ := hcell j hj
          exact ⟨y, by rw [Nat.zero_add]; exact hy, hd⟩) hcs
        obtain ⟨h10, h20⟩ := hsp 0 (by simp)
        obtain ⟨_, hfz, _, _⟩ := hR.cell id 0 [] _ (hE _ _ h10) h20
        have hns : ¬ S1 false (σ id).blk := by
          have hl : look (.cell id 0) (frz E ids) = none := by
            have : ∀ l : List Nat, look (.cell id 0) (frz E l) = none := by
              intro l
              induction l with
              | nil => rfl
              | cons s l ih =>
                simp only [frz]
                split
                · rw [look_cons, if_neg (by simp)]; exact ih
                · exact ih
            exact this ids
          exact (hR1.cell id 0 [] _ (by simp only [hl, Option.none_or]; exact hE _ _ h10) h20).2.2.1
        refine ⟨?_, ?_, fun o ho => ?_, fun o => by rw [hb]; exact hfz o, fun h => ?_⟩
        · rw [hd.of_ptr, hb]
        · intro h0; rw [h0] at hv; simp at hv
        · obtain ⟨y, hy, _⟩ := hcell o (by rw [← hv.1]; exact ho)
          refine ⟨y, by rw [hb]; exact hy, hv.2 o ho y (by rw [Nat.zero_add]; exact hy) (fun z hz => ?_)⟩
          rw [Nat.zero_add, hy] at hz
          exact (Option.some.inj hz).symm
        · rw [hb] at h; exact hns h.2
      · cases h
  · refine plain (fun cs h' => ?_) (viewB_den hc hE hSS hR1 hf (fun r hr => hin r ?_) hd h)
    · subst h'
      have := viewB_old h
      simp [old0] at this
    · cases v <;> simp_all [ownArg, ownB]

theorem viewArgs_get : ∀ (raw us : List (V A)), viewArgs E raw = some us → us.length = raw.length ∧ ∀ i (hi : i < raw.length) (hi' : i < us.length), viewArg E raw[i] = some us[i]
  | [], us, h => by simp only [viewArgs, Option.some.injEq] at h; subst h; exact ⟨rfl, fun i hi => absurd hi (Nat.not_lt_zero _)⟩
  | v :: raw, us, h => by
    simp only [viewArgs] at h
    split at h
    · rename_i u us' hu hus
      cases h
      obtain ⟨h1, h2⟩ := viewArgs_get raw us' hus
      refine ⟨by simp [h1], fun i hi hi' => ?_⟩
      cases i with
      | zero => exact hu
      | succ i => exact h2 i (by simpa using hi) (by simpa using hi')
    · cases h

theorem ownArgs_mem : ∀ (raw : List (V A)) (i : Nat) (hi : i < raw.length), ∀ r ∈ ownArg E raw[i], r ∈ ownArgs E raw
  | [], i, hi => absurd hi (Nat.not_lt_zero _)
  | v :: raw, 0, _ => fun r hr => by have hr : r ∈ ownArg E v := hr; simp [ownArgs, hr]
  | v :: raw, i + 1, hi => fun r hr => by
    have := ownArgs_mem raw i (by simpa using hi) r hr
    simp [ownArgs, this]

theorem memN_iff {i : Nat} : ∀ {l : List Nat}, memN i l = true ↔ i ∈ l
  | [] => by simp [memN]
  | j :: l => by simp [memN, memN_iff (l := l)]

theorem refIds_mem : ∀ (raw : List (V A)) (i id : Nat), raw[i]? = some (.ptr id 0) → id ∈ refIds raw
  | [], i, id, h => by simp at h
  | v :: raw, 0, id, h => by simp at h; subst h; simp [refIds]
  | v :: raw, i + 1, id, h => by
    have := refIds_mem raw i id (by simpa using h)
    unfold refIds
    split
    · simp_all
    · rename_i h1 h2; cases h2; exact List.mem_cons_of_mem _ this
    · rename_i h1 h2; cases h2; exact this

theorem refIds_inj : ∀ (raw : List (V A)) (i j id : Nat), nodupN (refIds raw) = true → raw[i]? = some (.ptr id 0) → raw[j]? = some (.ptr id 0) → i = j
  | [], i, j, id, _, h, _ => by simp at h
  | v :: raw, 0, 0, id, _, _, _ => rfl
  | v :: raw, 0, j + 1, id, hn, h, h' => by
    exfalso
    simp at h; subst h
    simp only [refIds, nodupN, Bool.and_eq_true, Bool.not_eq_true'] at hn
    have := refIds_mem raw j id (by simpa using h')
    rw [memN_iff.2 this] at hn
    cases hn.1
  | v :: raw, i + 1, 0, id, hn, h, h' => by
    exfalso
    simp at h'; subst h'
    simp only [refIds, nodupN, Bool.and_eq_true, Bool.not_eq_true'] at hn
    have := refIds_mem raw i id (by simpa using h)
    rw [memN_iff.2 this] at hn
    cases hn.1
  | v :: raw, i + 1, j + 1, id, hn, h, h' => by
    have hn' : nodupN (refIds raw) = true := by
      unfold refIds at hn
      split at hn
      · simp_all
      · rename_i h1 h2; cases h2; simp only [nodupN, Bool.and_eq_true] at hn; exact hn.2
      · rename_i h1 h2; cases h2; exact hn
    rw [refIds_inj raw i j id hn' (by simpa using h) (by simpa using h')]

/-- The arguments are as the callee is told of them. -/
theorem viewArgs_ok (hc : CfgOk c) (hR : RelAt c n w0 S0 S σ lk a w) (hE : ∀ k e, look k E = some e → lk k = some e) (hSS : ∀ f b, S f b → S1 f b) {raw us : List (V A)} {xs : Array Value} (hids : ids = ownArgs E raw)
    (hR1 : RelAt c n w0 S0 S1 σ (fun k => (look k (frz E ids)).or (lk k)) a w) (hf : ∀ r ∈ ids, ∀ t f l, look (.row r) E = some ([], .rowc t f none l) → look (.row r) (frz E ids) = some ([], .list t f l))
    (hsz : xs.size = raw.length) (hd : ∀ i (hi : i < raw.length), Den c S σ w raw[i] (xs.getD i undef)) (h : viewArgs E raw = some us) (hn : nodupN (refIds raw) = true) : ArgsOk c (oldS S1) σ w (betaOf σ raw) us xs := by
  obtain ⟨h1, h2⟩ := viewArgs_get raw us h
  refine ⟨by rw [hsz, h1], fun i hi => ?_, fun i j cs ds hi hj he => ?_⟩
  · have hi' : i < raw.length := by rw [← h1]; exact hi
    refine viewArg_den hc hR hE hSS hR1 hf (fun id hid => ?_) (fun r hr => ?_) (hd i hi') (h2 i hi' hi)
    · simp [betaOf, hi', hid]
    · rw [hids]; exact ownArgs_mem raw i hi' r hr
  · obtain ⟨hi1, hi2⟩ := List.getElem?_eq_some_iff.1 hi
    obtain ⟨hj1, hj2⟩ := List.getElem?_eq_some_iff.1 hj
    have gi := h2 i (by rw [← h1]; exact hi1) hi1
    have gj := h2 j (by rw [← h1]; exact hj1) hj1
    rw [hi2] at gi
    rw [hj2] at gj
    obtain ⟨id, e1, _, e3⟩ := viewArg_ref gi
    obtain ⟨id', f1, _, f3⟩ := viewArg_ref gj
    have ri : raw[i]? = some (.ptr id 0) := by rw [List.getElem?_eq_getElem (by rw [← h1]; exact hi1), e1]
    have rj : raw[j]? = some (.ptr id' 0) := by rw [List.getElem?_eq_getElem (by rw [← h1]; exact hj1), f1]
    have hlive : ∀ id, readBox E id 64 0 ≠ [] → live lk σ false id := fun id hne => by
      obtain ⟨g1, g2⟩ := readBox_spec (E := E) id 64 0 0 (List.length_pos_iff.2 hne)
      exact ⟨_, _, _, hE _ _ g1, g2⟩
    have hbl : (σ id).blk = (σ id').blk := by simpa [betaOf, ri, rj] using he
    have := (hR.dist false false id id' (hlive id e3) (hlive id' f3) hbl).2
    subst this
    exact refIds_inj raw i j id hn ri rj

end

/-- Behind a call: the world has grown, and the boxes that were handed on hold what the callee left in them. -/
theorem RelAt.call (hc : CfgOk c) (hR : RelAt c n w0 S0 S σ lk a w) {w' : World} {B : Nat → Nat → Prop} {S2 : Fz} {es : Env A} (hb : Bel ⟨w, B⟩ w') (hSS : ∀ f b, S f b → S2 f b) (hT : ∀ b, S2 true b → S2 false b) (hS' : ∀ f b, S2 f b → S f b ∨ (w.heap.size ≤ b ∧ b < w'.heap.size))
    (hB : ∀ b o, B b o → ∃ id g v e, b = (σ id).blk ∧ lk (.cell id o) = some (g, v) ∧ v.isJunk = false ∧ look (.cell id o) es = some e)
    (hes : ∀ k e, look k es = some e → ∃ id o v g u, k = .cell id o ∧ e = ([], v) ∧ lk (.cell id o) = some (g, u) ∧ u.isJunk = false ∧ ∃ y, w'.cell? ⟨(σ id).blk, o, none⟩ = some y ∧ Den c S2 σ w' v y) :
    RelAt c n w0 S0 S2 σ (fun k => (look k es).or (lk k)) a w' := by
  have hnoB : ∀ b, (∀ id g v o, lk (.cell id o) = some (g, v) → v.isJunk = false → b ≠ (σ id).blk) → ∀ o, ¬ B b o := fun b h o hbo => by
    obtain ⟨id, g, v, e, h1, h2, h3, _⟩ := hB b o hbo
    exact h id g v o h2 h3 h1
  have hkeep : ∀ b, b < w.heap.size → (∀ id g v o, lk (.cell id o) = some (g, v) → v.isJunk = false → b ≠ (σ id).blk) → w'.heap[b]? = w.heap[b]? := fun b hlt h => hb.block b hlt (hnoB b h)
  have hSk : ∀ f b, S f b → w'.heap[b]? = w.heap[b]? := fun f b h => hkeep b (hR.sLt' f b h) (fun id g v o h1 h2 he => (hR.cell id o g v h1 h2).2.2.1 (by subst he; cases f; exact h; exact hR.sT _ h))
  have hden : ∀ {v x}, Den c S σ w v x → Den c S2 σ w' v x := fun h => h.mono hc hSS hSk (fun _ _ => rfl)
  have up : ∀ b i, live (fun k => (look k es).or (lk k)) σ b i → live lk σ b i := by
    intro b i h
    cases b
    · obtain ⟨o, g, v, hv, hj⟩ := h
      cases hl : look (.cell i o) es with
      | some e =>
        obtain ⟨id, o', v', g', u, hk, _, h1, h2, _⟩ := hes _ _ hl
        cases hk
        exact ⟨_, _, _, h1, h2⟩
      | none => simp only [hl, Option.none_or] at hv; exact ⟨o, g, v, hv, hj⟩
    · obtain ⟨g, v, hv, h2, h3⟩ := h
      cases hl : look (.row i) es with
      | some e =>
        obtain ⟨id, o', v', g', u, hk, _⟩ := hes _ _ hl
        cases hk
      | none => simp only [hl, Option.none_or] at hv; exact ⟨g, v, hv, h2, h3⟩
  exact {
    inv := hc.inv _ _ _ _ hR.inv (hSS false) (hSk false)
    defers := hR.defers
    size := hR.size
    below := hR.below.trans hb (fun b o h => by
      obtain ⟨id, g, v, e, rfl, h2, h3, _⟩ := hB b o h
      exact (hR.cell id o g v h2 h3).2.2.2)
    s0 := fun b h => hSS _ b (hR.s0 b h)
    pin := hR.pin
    sT := hT
    sNew := fun f b h => by
      rcases hS' f b h with h1 | h1
      · exact hR.sNew f b h1
      · exact .inr (Nat.le_trans hR.below.size h1.1)
    sLt := fun b h => by
      rcases hS' _ b h with h1 | h1
      · exact Nat.lt_of_lt_of_le (hR.sLt b h1) hb.size
      · exact h1.2
    slot := fun i g v hv hj => by
      cases hl : look (.slot i) es with
      | some e =>
        obtain ⟨id, o', v', g', u, hk, _⟩ := hes _ _ hl
        cases hk
      | none =>
        simp only [hl, Option.none_or] at hv
        exact ⟨(hR.slot i g v hv hj).1, fun hg => hden ((hR.slot i g v hv hj).2.1 hg), (hR.slot i g v hv hj).2.2⟩
    cell := fun id off g v hv hj => by
      have key : ∀ g v, lk (.cell id off) = some (g, v) → v.isJunk = false → (∀ o, w'.frozen? ⟨(σ id).blk, o, none⟩ = false) ∧ ¬ S2 false (σ id).blk ∧ (w0.heap.size ≤ (σ id).blk ∨ w0.B (σ id).blk off) := fun g v hv hj => by
        obtain ⟨_, hfz, hns, hlo⟩ := hR.cell id off g v hv hj
        have hlt := hR.lt (b := false) ⟨off, g, v, hv, hj⟩
        refine ⟨fun o => (hb.frozen _ o hlt).trans (hfz o), fun h => ?_, hlo⟩
        rcases hS' _ _ h with h1 | h1
        · exact hns h1
        · omega
      cases hl : look (.cell id off) es with
      | some e =>
        obtain ⟨id', o', v', g', u, hk, he, h1, h2, y, hy, hd⟩ := hes _ _ hl
        cases hk
        simp only [hl, Option.some_or, Option.some.injEq] at hv
        subst hv
        cases he
        exact ⟨⟨y, hy, hd⟩, key _ _ h1 h2⟩
      | none =>
        simp only [hl, Option.none_or] at hv
        obtain ⟨⟨y, hy, hd⟩, _⟩ := hR.cell id off g v hv hj
        have hlt := hR.lt (b := false) ⟨off, g, v, hv, hj⟩
        refine ⟨⟨y, ?_, hden hd⟩, key _ _ hv hj⟩
        rw [← hy]
        refine hb.cell _ off hlt (fun hbo => ?_)
        obtain ⟨id', g', v', e, h1, h2, h3, h4⟩ := hB _ _ hbo
        have := (hR.dist false false id id' ⟨off, g, v, hv, hj⟩ ⟨off, g', v', h2, h3⟩ h1).2
        subst this
        rw [hl] at h4; cases h4
    row := fun id g v hv hj => by
      cases hl : look (.row id) es with
      | some e =>
        obtain ⟨id', o', v', g', u, hk, _⟩ := hes _ _ hl
        cases hk
      | none =>
        simp only [hl, Option.none_or] at hv
        obtain ⟨h1, h2⟩ := hR.row id g v hv hj
        refine ⟨h1.mono hc hSS hSk (fun hr hcap => hkeep _ (hR.lt (b := true) ⟨g, v, hv, hr, hcap⟩) (fun id' g' v' o h3 h4 he => ?_)), fun hr hcap => ?_⟩
        · have := (hR.dist true false id id' ⟨g, v, hv, hr, hcap⟩ ⟨o, g', v', h3, h4⟩ he).1
          cases this
        · obtain ⟨h3, h4⟩ := h2 hr hcap
          have hlt := hR.lt (b := true) ⟨g, v, hv, hr, hcap⟩
          refine ⟨fun h => ?_, h4⟩
          rcases hS' _ _ h with h1 | h1
          · exact h3 h1
          · omega
    dist := fun b b' i j hi hj he => hR.dist b b' i j (up b i hi) (up b' j hj) he }

end
end Vm
