/-
  What the interpreter says of a call's answer is so.
-/
import Derived.Test.YthnlknegnlmklaaVm7c
set_option linter.all false
namespace Vm
open Go Go.RowKit
variable {A : Nat → Type}

section
variable {c : Cfg A} {n : Nat} {w0 : W1} {S0 : Nat → Prop} {S : Fz} {σ : Nat → Loc} {lk : K → Option (Ent A)} {a : Act} {w : World}

theorem viewL_length {E : Env A} : ∀ {vs us : List (V A)}, viewL E vs = some us → us.length = vs.length
  | [], us, h => by simp only [viewL, Option.some.injEq] at h; subst h; rfl
  | v :: vs, us, h => by
    simp only [viewL] at h
    split at h
    · rename_i u us' hu hus
      cases h
      simp [viewL_length hus]
    · cases h

theorem viewArg_noref {E : Env A} {v u : V A} (h : viewArg E v = some u) (hv : ∀ id, v ≠ .ptr id 0) : ∀ cs, u ≠ .ref cs := by
  intro cs hu
  subst hu
  obtain ⟨id, h1, _⟩ := viewArg_ref h
  exact hv id h1

theorem outs_skip {S' : Fz} {w' : World} {β : Nat → Nat} {i : Nat} {u : V A} {us : List (V A)} {outs : List (List (V A))} (hu : ∀ cs, u ≠ .ref cs) (h : OutsDen c S' σ w' β i (u :: us) outs) : OutsDen c S' σ w' β (i + 1) us outs := by
  cases u <;> first | exact absurd rfl (hu _) | (cases outs <;> exact h)

theorem refs_es {S' : Fz} {w' : World} {E : Env A} {β : Nat → Nat} : ∀ (raw us : List (V A)) (i : Nat) (outs : List (List (V A))) (es : Env A), viewArgs E raw = some us → (∀ (j id : Nat), raw[j]? = some (.ptr id 0) → β (i + j) = (σ id).blk) → OutsDen c S' σ w' β i us outs →
    writeRefs (refIds raw) outs = some es →
      (∀ k e, look k es = some e → ∃ id o v, k = .cell id o ∧ e = ([], v) ∧ o < (readBox E id 64 0).length ∧ (∃ cs ∈ outs, v ∈ cs) ∧ ∃ y, w'.cell? ⟨(σ id).blk, o, none⟩ = some y ∧ Den c S' σ w' v y) ∧
      (∀ (j id o : Nat), raw[j]? = some (.ptr id 0) → o < (readBox E id 64 0).length → ∃ e, look (.cell id o) es = some e) := by
  intro raw
  induction raw with
  | nil =>
    intro us i outs es h _ ho hw
    simp only [viewArgs, Option.some.injEq] at h
    subst h
    cases outs with
    | nil => simp only [refIds, writeRefs, Option.some.injEq] at hw; subst hw; exact ⟨fun k e h => by simp [look] at h, fun j id o h => by simp at h⟩
    | cons _ _ => exact ho.elim
  | cons v raw ih =>
    intro us i outs es h hβ ho hw
    simp only [viewArgs] at h
    split at h
    · rename_i u us' hu hus
      cases h
      have hβ' : ∀ (j id : Nat), raw[j]? = some (.ptr id 0) → β (i + 1 + j) = (σ id).blk := fun j id h => by
        have := hβ (j + 1) id (by simpa using h)
        rwa [show i + (j + 1) = i + 1 + j by omega] at this
      by_cases hv : ∃ id, v = .ptr id 0
      · obtain ⟨id, rfl⟩ := hv
        have hu' : ∃ cs, u = .ref cs ∧ viewL E (readBox E id 64 0) = some cs := by
          simp only [viewArg] at hu
          split at hu
          · cases hu
          · rename_i v vs hrb
            split at hu
            · rename_i cs hcs; cases hu; exact ⟨cs, rfl, by rw [hrb]; exact hcs⟩
            · cases hu
        obtain ⟨cs, rfl, hcs⟩ := hu'
        cases outs with
        | nil => exact ho.elim
        | cons o outs =>
          obtain ⟨h1, h2, h3⟩ := ho
          simp only [refIds, writeRefs] at hw
          split at hw
          · rename_i e' he'
            cases hw
            obtain ⟨g1, g2⟩ := ih us' (i + 1) outs e' hus hβ' h3 he'
            have hol : o.length = (readBox E id 64 0).length := by rw [h1, viewL_length hcs]
            have hb := hβ 0 id rfl
            rw [Nat.add_zero] at hb
            refine ⟨fun k e h => ?_, fun j id' q hj hq => ?_⟩
            · rw [look_append] at h
              cases hl : look k (writeCells id 0 o) with
              | some e1 =>
                rw [hl] at h
                simp only [Option.some_or, Option.some.injEq] at h
                subst h
                rw [look_writeCells] at hl
                cases k with
                | cell id' q =>
                  simp only at hl
                  split at hl
                  · rename_i hin
                    obtain ⟨rfl, _, hq⟩ := hin
                    have hq' : q < o.length := by omega
                    rw [Nat.sub_zero, List.getElem?_eq_getElem hq'] at hl
                    simp only [Option.map_some, Option.some.injEq] at hl
                    subst hl
                    obtain ⟨y, hy, hd, _⟩ := h2 q hq'
                    rw [hb] at hy
                    exact ⟨id', q, o[q], rfl, rfl, by omega, ⟨o, List.mem_cons_self .., List.getElem_mem hq'⟩, y, hy, hd⟩
                  · cases hl
                | slot _ => cases hl
                | row _ => cases hl
              | none =>
                rw [hl, Option.none_or] at h
                obtain ⟨id', q, v, e1, e2, e3, ⟨cs', hcs', hv⟩, e5⟩ := g1 k e h
                exact ⟨id', q, v, e1, e2, e3, ⟨cs', List.mem_cons_of_mem _ hcs', hv⟩, e5⟩
            · rw [look_append]
              cases hl : look (.cell id' q) (writeCells id 0 o) with
              | some e1 => exact ⟨e1, rfl⟩
              | none =>
                rw [Option.none_or]
                cases j with
                | zero =>
                  exfalso
                  simp at hj
                  subst hj
                  rw [look_writeCells] at hl
                  simp only at hl
                  rw [if_pos ⟨trivial, Nat.zero_le _, by omega⟩, Nat.sub_zero, List.getElem?_eq_getElem (by omega)] at hl
                  cases hl
                | succ j => exact g2 j id' q (by simpa using hj) hq
          · cases hw
      · have hv' : ∀ id, v ≠ .ptr id 0 := fun id h => hv ⟨id, h⟩
        have hr : refIds (v :: raw) = refIds raw := by
          cases v with
          | ptr id off =>
            cases off with
            | zero => exact absurd rfl (hv' id)
            | succ _ => rfl
          | _ => rfl
        rw [hr] at hw
        obtain ⟨g1, g2⟩ := ih us' (i + 1) outs es hus hβ' (outs_skip (viewArg_noref hu hv') ho) hw
        refine ⟨g1, fun j id q hj hq => ?_⟩
        cases j with
        | zero => simp at hj; exact absurd hj (hv' id)
        | succ j => exact g2 j id q (by simpa using hj) hq
    · cases h

theorem frz_look {E : Env A} {k : K} (hk : ∀ r, k ≠ .row r) : ∀ ids : List Nat, look k (frz E ids) = none
  | [] => rfl
  | s :: ids => by
    simp only [frz]
    split
    · rw [look_cons, if_neg (hk s)]; exact frz_look hk ids
    · exact frz_look hk ids

theorem frz_list {E : Env A} {k : K} {e : Ent A} : ∀ {ids : List Nat}, look k (frz E ids) = some e → ∃ r t f l, k = .row r ∧ e = ([], .list t f l) ∧ look (.row r) E = some ([], .rowc t f none l)
  | [], h => by simp [frz, look] at h
  | s :: ids, h => by
    simp only [frz] at h
    split at h
    · rename_i t f l hrow
      rw [look_cons] at h
      split at h
      · rename_i hk; cases h; exact ⟨s, t, f, l, hk, rfl, hrow⟩
      · exact frz_list h
    · exact frz_list h

theorem frzOld_eq (E : Env A) (raw : List (V A)) (r : V A) (outs : List (List (V A))) : ((allFr r).and (all (fun cs => all allFr0 cs) outs) = true ∧ frzOld E raw r outs = []) ∨ frzOld E raw r outs = frz E (ownArgs E raw) := by
  unfold frzOld
  cases (allFr r).and (all (fun cs => all allFr0 cs) outs)
  · exact .inr rfl
  · exact .inl ⟨rfl, rfl⟩

theorem RowAt.fresh (hc : CfgOk c) {L : Loc} {t : Nat} {m : Option Nat} {l : List (A t)} (h : RowAt c S σ w L t true m l) : RowAt c (fun _ => S true) σ w L t true m l where
  ne := h.ne
  len := h.len
  cap := h.cap
  fix := h.fix
  enc := h.enc
  base := h.base
  room := h.room
  frz := h.frz
  cells j q hj hq := by
    obtain ⟨y, hy, hd⟩ := h.cells j q hj hq
    refine ⟨y, hy, hd.fresh hc ?_⟩
    obtain ⟨v, hv, he⟩ := encF_get c t true _ hq
    rw [he]
    exact allFr0_v (all_mem (hc.fresh t _) _ hv)

theorem outs_mono {S' S2 : Fz} {w' : World} {β : Nat → Nat} (h : ∀ v x, (∃ k : Nat, True) → Den c S' σ w' v x → Den c S2 σ w' v x) : ∀ (i : Nat) (us : List (V A)) (outs : List (List (V A))), OutsDen c S' σ w' β i us outs → OutsDen c S2 σ w' β i us outs := by
  intro i us
  induction us generalizing i with
  | nil => intro outs ho; cases outs <;> exact ho
  | cons u us ih =>
    intro outs ho
    cases u with
    | ref cs =>
      cases outs with
      | nil => exact ho
      | cons o outs =>
        obtain ⟨h1, h2, h3⟩ := ho
        exact ⟨h1, fun q hq => by obtain ⟨y, hy, hd, hj⟩ := h2 q hq; exact ⟨y, hy, h _ _ ⟨0, trivial⟩ hd, hj⟩, ih _ _ h3⟩
    | _ => cases outs <;> exact ih _ _ ho

theorem outs_fresh (hc : CfgOk c) {S' : Fz} {w' : World} {β : Nat → Nat} : ∀ (i : Nat) (us : List (V A)) (outs : List (List (V A))), all (fun cs => all allFr0 cs) outs = true → OutsDen c S' σ w' β i us outs → OutsDen c (fun _ => S' true) σ w' β i us outs := by
  intro i us
  induction us generalizing i with
  | nil => intro outs _ ho; cases outs <;> exact ho
  | cons u us ih =>
    intro outs hf ho
    cases u with
    | ref cs =>
      cases outs with
      | nil => exact ho
      | cons o outs =>
        simp only [all, Bool.and_eq_true] at hf
        obtain ⟨h1, h2, h3⟩ := ho
        exact ⟨h1, fun q hq => by obtain ⟨y, hy, hd, hj⟩ := h2 q hq; exact ⟨y, hy, hd.fresh hc (allFr0_v (all_mem hf.1 _ (List.getElem_mem hq))), hj⟩, ih _ _ hf.2 h3⟩
    | _ => cases outs <;> exact ih _ _ hf ho

/-- Behind a call, with what may be said of its answer. -/
theorem finish (hc : CfgOk c) (hR : RelAt c n w0 S0 S σ lk a w) {E : Env A} (hE : ∀ k e, look k E = some e → lk k = some e) {Sz : Fz} {fz : Env A} (hRz : RelAt c n w0 S0 Sz σ (fun k => (look k fz).or (lk k)) a w)
    (hfzk : ∀ k e, look k fz = some e → ∃ r t f l, k = .row r ∧ e = ([], .list t f l) ∧ look (.row r) E = some ([], .rowc t f none l))
    {raw us : List (V A)} {r : V A} {outs : List (List (V A))} {es : Env A} {SR : Fz} {w' : World} {x : Value} (hview : viewArgs E raw = some us) (hes : writeRefs (refIds raw) outs = some es) (hnp : all (fun cs => all (ok0 fun _ => false) cs) outs = true)
    (hbel : Bel ⟨w, Bc us (betaOf σ raw)⟩ w') (hSR : ∀ f b, SR f b → Sz f b ∨ (w.heap.size ≤ b ∧ b < w'.heap.size)) (hT : ∀ b, SR true b → SR false b) (hres : ResDen c w.heap.size SR σ w' r x) (houts : OutsDen c SR σ w' (betaOf σ raw) 0 us outs)
    {dst : Option Nat} (hpin : ∀ d, dst = some d → d ∉ c.pins) (hfr : ∀ d, dst = some d → ∀ k g v, lk k = some (g, v) → entAvoids d (k, g, v) = true) {own : List Nat} {v : V A} {ent : Env A}
    (hans : (∃ t f l, r = .olist t f l ∧ ∃ d, dst = some d ∧ v = .own d ∧ ent = (.row d, [], .rowc t f none l) :: (es ++ fz)) ∨ (∃ t f l, r = .olist t f l ∧ v = .list t f l ∧ ent = es ++ fz) ∨ ((∀ t f l, r ≠ .olist t f l) ∧ v = r ∧ ent = es ++ fz)) :
    Did c n w0 S0 lk dst ent v a x w' := by
  obtain ⟨g1, g2⟩ := refs_es (c := c) (S' := SR) (σ := σ) (w' := w') (β := betaOf σ raw) raw us 0 outs es hview (fun j id h => by rw [Nat.zero_add]; simp [betaOf, h]) houts hes
  have hfzn : ∀ id o, look (.cell id o) fz = none := fun id o => by
    cases h : look (.cell id o) fz with
    | none => rfl
    | some e => obtain ⟨r, t, f, l, h1, _⟩ := hfzk _ _ h; cases h1
  have hbox : ∀ id o, o < (readBox E id 64 0).length → ∃ g u, (fun k => (look k fz).or (lk k)) (.cell id o) = some (g, u) ∧ u.isJunk = false ∧ lk (.cell id o) = some (g, u) := fun id o ho => by
    obtain ⟨h1, h2⟩ := readBox_spec (E := E) id 64 0 o ho
    rw [Nat.zero_add] at h1
    have := hE _ _ h1
    exact ⟨_, _, by simp only [hfzn, Option.none_or]; exact this, h2, this⟩
  -- the step, with room for more frozen blocks
  have step : ∀ X : Nat → Prop, (∀ b, X b → w.heap.size ≤ b ∧ b < w'.heap.size) → RelAt c n w0 S0 (fun f b => Sz f b ∨ SR f b ∨ X b) σ (fun k => (look k es).or ((fun k => (look k fz).or (lk k)) k)) a w' := fun X hX => by
    refine hRz.call hc hbel (fun _ _ h => .inl h) (fun b h => ?_) (fun f b h => ?_) (fun b o h => ?_) (fun k e h => ?_)
    · rcases h with h | h | h
      · exact .inl (hRz.sT b h)
      · exact .inr (.inl (hT b h))
      · exact .inr (.inr h)
    · rcases h with h | h | h
      · exact .inl h
      · exact hSR f b h
      · exact .inr (hX b h)
    · obtain ⟨i, cs, hi, rfl, ho⟩ := h
      obtain ⟨h1, h2⟩ := viewArgs_get raw us hview
      obtain ⟨hi1, hi2⟩ := List.getElem?_eq_some_iff.1 hi
      have gi := h2 i (by rw [← h1]; exact hi1) hi1
      rw [hi2] at gi
      obtain ⟨id, e1, e2, _⟩ := viewArg_ref gi
      have ri : raw[i]? = some (.ptr id 0) := by rw [List.getElem?_eq_getElem (by rw [← h1]; exact hi1), e1]
      have hol : o < (readBox E id 64 0).length := by rw [← viewL_length e2]; exact ho
      obtain ⟨g, u, b1, b2, _⟩ := hbox id o hol
      obtain ⟨e, he⟩ := g2 i id o ri hol
      exact ⟨id, g, u, e, by simp [betaOf, ri], b1, b2, he⟩
    · obtain ⟨id, o, v, rfl, rfl, ho, ⟨cs, hcs, hv⟩, y, hy, hd⟩ := g1 k e h
      obtain ⟨g, u, b1, b2, _⟩ := hbox id o ho
      exact ⟨id, o, v, g, u, rfl, rfl, b1, b2, y, hy, hd.mono hc (fun _ _ h => .inr (.inl h)) (fun _ _ _ => rfl) (fun _ _ => rfl)⟩
  have hentfr : ∀ d, dst = some d → ∀ k g v, ((look k es).or ((look k fz).or (lk k))) = some (g, v) → entAvoids d (k, g, v) = true := fun d hd k g v h => by
    cases h1 : look k es with
    | some e =>
      rw [h1] at h
      simp only [Option.some_or, Option.some.injEq] at h
      subst h
      obtain ⟨id, o, v', rfl, he, ho, ⟨cs, hcs, hv⟩, _⟩ := g1 k _ h1
      cases he
      obtain ⟨g', u, _, _, b3⟩ := hbox id o ho
      have h2 := hfr d hd _ _ _ b3
      simp only [entAvoids, Bool.and_eq_true] at h2 ⊢
      refine ⟨⟨h2.1.1, rfl⟩, ?_⟩
      have : ok0 (fun _ => false) v = true := all_mem (p := ok0 fun _ => false) (all_mem hnp cs hcs) v hv
      have : avoids d v = true := ok0_v (ok0_mono (fun _ h => by cases h) this)
      simp [this]
    | none =>
      rw [h1, Option.none_or] at h
      cases h2 : look k fz with
      | some e =>
        rw [h2] at h
        simp only [Option.some_or, Option.some.injEq] at h
        subst h
        obtain ⟨r', t, f, l, rfl, he, hrow⟩ := hfzk _ _ h2
        cases he
        have h3 := hfr d hd _ _ _ (hE _ _ hrow)
        simp only [entAvoids, Bool.and_eq_true] at h3 ⊢
        exact ⟨⟨h3.1.1, rfl⟩, by simp [avoids, okv, ok0, okB]⟩
      | none => rw [h2, Option.none_or] at h; exact hfr d hd k g v h
  have hlive : ∀ {X : Nat → Prop} b id, live (fun k => (look k es).or ((look k fz).or (lk k))) σ b id → (σ id).blk < w.heap.size := by
    intro X b id h
    cases b
    · obtain ⟨o, g, v, hv, hj⟩ := h
      cases h1 : look (.cell id o) es with
      | some e =>
        obtain ⟨id', o', v', hk, _, ho, _⟩ := g1 _ _ h1
        cases hk
        obtain ⟨g', u, b1, b2, _⟩ := hbox id o ho
        exact hRz.lt (b := false) ⟨o, g', u, b1, b2⟩
      | none =>
        simp only [h1, Option.none_or] at hv
        exact hRz.lt (b := false) ⟨o, g, v, hv, hj⟩
    · obtain ⟨g, v, hv, h2, h3⟩ := h
      cases h1 : look (.row id) es with
      | some e =>
        obtain ⟨id', o', v', hk, _⟩ := g1 _ _ h1
        cases hk
      | none =>
        simp only [h1, Option.none_or] at hv
        exact hRz.lt (b := true) ⟨g, v, hv, h2, h3⟩
  have look_es_fz : ∀ k, look k (es ++ fz) = (look k es).or (look k fz) := fun k => look_append k es fz
  rcases hans with ⟨t, f, l, rfl, d, rfl, rfl, rfl⟩ | ⟨t, f, l, rfl, rfl, rfl⟩ | ⟨hno, rfl, rfl⟩
  · obtain ⟨L, rfl, hrow, hL⟩ := hres
    have hR2 := step (fun _ => False) (fun _ h => h.elim)
    have hrow2 : RowAt c (fun f b => Sz f b ∨ SR f b ∨ False) σ w' L t f none l := hrow.mono hc (fun _ _ h => .inr (.inl h)) (fun _ _ _ => rfl) (fun _ => rfl)
    let lk' : K → Option (Ent A) := fun k => if k = .slot d then none else (look k es).or ((look k fz).or (lk k))
    have hsub : Sub lk' (fun k => (look k es).or ((fun k => (look k fz).or (lk k)) k)) := fun k g v h _ => by
      simp only [lk'] at h
      split at h
      · cases h
      · exact h
    have hR3 := hR2.rowStep hc (lk' := lk') hsub (X := fun _ => False) (bel_none w') (fun b h => h.elim) (fun b id _ h => h.elim) (d := d) (L := L) (.inr (hpin d rfl)) (.inr fun k g v h hj => ?_) hrow2 (fun hcap => ?_)
    · refine ⟨_, _, hR3.sub (fun k g u h hj => ?_), ?_⟩
      · simp only [Option.map_some, Option.some.injEq] at h
        split at h
        · cases h
        · rename_i hne
          rw [look_cons] at h
          by_cases hk : k = .row d
          · simpa [hk] using h
          · simp only [hk, if_false] at h ⊢
            simp only [lk', hne, if_false]
            rw [look_es_fz, Option.or_assoc] at h
            exact h
      · have := Den.own (c := c) (S := fun f b => Sz f b ∨ SR f b ∨ False) (σ := fun i => if i = d then L else σ i) (w := w') d
        simpa using this
    · have h1 : ((look k es).or ((look k fz).or (lk k))) = some (g, v) := hsub k g v h hj
      have := hentfr d rfl k g v h1
      simp only [entAvoids, Bool.and_eq_true, Bool.or_eq_true] at this
      refine ⟨?_, this.1.1⟩
      rcases this.2 with h2 | h2
      · cases k <;> simp at h2
        subst h2
        simp [lk'] at h
      · exact h2
    · obtain ⟨h1, h2⟩ := hL hcap
      refine ⟨fun h => ?_, Nat.le_trans hR.below.size h1, fun b id h he => ?_⟩
      · rcases h with h | h | h
        · have := hRz.sLt _ h; omega
        · exact h2 h
        · exact h
      · have := hlive (X := fun _ => False) b id (hsub.live h); omega
  · obtain ⟨L, rfl, hrow, hL⟩ := hres
    have hlt : L.cap ≠ 0 → L.blk < w'.heap.size := fun hcap => by
      have h1 : 0 < L.cap * (c.ty t).size := Nat.mul_pos (Nat.pos_of_ne_zero hcap) (Nat.pos_of_ne_zero hrow.ne)
      obtain ⟨y, hy⟩ := Option.isSome_iff_exists.1 (hrow.room 0 h1)
      exact World.block_lt_of_cell? _ _ hy
    have hR2 := step (fun b => L.cap ≠ 0 ∧ b = L.blk) (fun b h => by obtain ⟨h1, rfl⟩ := h; exact ⟨(hL h1).1, hlt h1⟩)
    refine ⟨_, σ, hR2.weaken (fun k e h => ?_), ?_⟩
    · split at h
      · cases h
      · rw [look_es_fz, Option.or_assoc] at h
        exact h
    · rw [hrow.len]
      have hcapl : l ≠ [] → L.cap ≠ 0 := fun hne => by have := List.length_pos_iff.2 hne; have := hrow.cap; omega
      refine .list t f l _ _ ⟨L.blk, 0, none⟩ (fun j q => (w'.cell? ⟨L.blk, j * (c.ty t).size + q, none⟩).getD undef) (fun hne => hrow.base rfl (hcapl hne)) hrow.cap (fun hne => .inr (.inr ⟨hcapl hne, rfl⟩)) (fun _ => hrow.ne) hrow.enc ?_ ?_
      · intro j q hj hq
        obtain ⟨y, hy, _⟩ := hrow.cells j q hj (by rw [encF_length, hrow.enc j hj]; exact hq)
        rw [add_plain, Nat.zero_add, hy]; rfl
      · intro j q hj hq
        obtain ⟨y, hy, hd⟩ := hrow.cells j q hj hq
        rw [hy]
        exact hd.mono hc (fun _ _ h => .inr (.inl h)) (fun _ _ _ => rfl) (fun _ _ => rfl)
  · have hR2 := step (fun _ => False) (fun _ h => h.elim)
    have hv : Den c SR σ w' v x := by
      cases v <;> first | exact hres | exact absurd rfl (hno _ _ _)
    refine ⟨_, σ, hR2.weaken (fun k e h => ?_), hv.mono hc (fun _ _ h => .inr (.inl h)) (fun _ _ _ => rfl) (fun _ _ => rfl)⟩
    split at h
    · cases h
    · rw [look_es_fz, Option.or_assoc] at h
      exact h

theorem did_answer (hc : CfgOk c) (hR : RelAt c n w0 S0 S σ lk a w) {E : Env A} (hE : ∀ k e, look k E = some e → lk k = some e) {S1 : Fz} {raw us : List (V A)} (hSS : ∀ f b, S f b → S1 f b)
    (hR1 : RelAt c n w0 S0 S1 σ (fun k => (look k (frz E (ownArgs E raw))).or (lk k)) a w) (hf : ∀ r ∈ ownArgs E raw, ∀ t f l, look (.row r) E = some ([], .rowc t f none l) → look (.row r) (frz E (ownArgs E raw)) = some ([], .list t f l))
    {r : V A} {outs : List (List (V A))} {ps ps' : List Prop} {dst : Option Nat} {v : V A} {ent : Env A} {w' : World} {S' : Fz} {x : Value}
    (hpin : ∀ d, dst = some d → d ∉ c.pins) (hfr : ∀ d, dst = some d → ∀ k g v, lk k = some (g, v) → entAvoids d (k, g, v) = true) (hview : viewArgs E raw = some us) (hbel : Bel ⟨w, Bc us (betaOf σ raw)⟩ w')
    (hS' : ∀ f b, S' f b → (f = false ∧ oldS S1 false b) ∨ (w.heap.size ≤ b ∧ b < w'.heap.size)) (hT' : ∀ b, S' true b → S' false b) (hres : ResDen c w.heap.size S' σ w' r x) (houts : OutsDen c S' σ w' (betaOf σ raw) 0 us outs)
    (hans : answer c E dst raw r outs ps = some (v, ent, ps')) : Did c n w0 S0 lk dst ent v a x w' := by
  unfold answer at hans
  split at hans
  · rename_i es hnd hes
    simp only [Bool.and_eq_true] at hnd
    have hans' : (∃ t f l, r = .olist t f l ∧ ∃ d, dst = some d ∧ v = .own d ∧ ent = (.row d, [], .rowc t f none l) :: (es ++ frzOld E raw r outs)) ∨ (∃ t f l, r = .olist t f l ∧ v = .list t f l ∧ ent = es ++ frzOld E raw r outs) ∨
        ((∀ t f l, r ≠ .olist t f l) ∧ v = r ∧ ent = es ++ frzOld E raw r outs) := by
      split at hans
      · rename_i t f l
        split at hans
        · rename_i d
          split at hans
          · cases hans; exact .inl ⟨t, f, l, rfl, d, rfl, rfl, rfl⟩
          · cases hans; exact .inr (.inl ⟨t, f, l, rfl, rfl, rfl⟩)
        · cases hans; exact .inr (.inl ⟨t, f, l, rfl, rfl, rfl⟩)
      · rename_i hno
        cases hans; exact .inr (.inr ⟨fun t f l h => hno t f l h, rfl, rfl⟩)
    rcases frzOld_eq E raw r outs with ⟨hfresh, hfz⟩ | hfz
    · rw [hfz] at hans'
      simp only [Bool.and_eq_true] at hfresh
      refine finish hc hR hE (Sz := S) (fz := []) (hR.weaken (fun k e h => by simpa [look] using h)) (fun k e h => by simp [look] at h) (SR := fun _ => S' true) hview hes hnd.2 hbel (fun f b h => ?_) (fun b h => h) ?_ (outs_fresh hc _ _ _ hfresh.2 houts) hpin hfr (own := []) hans'
      · rcases hS' true b h with ⟨h1, _⟩ | h1
        · cases h1
        · exact .inr h1
      · by_cases hol : ∃ t f l, r = .olist t f l
        · obtain ⟨t, f, l, rfl⟩ := hol
          obtain ⟨L, h1, h2, h3⟩ := hres
          have : f = true := hfresh.1
          subst this
          exact ⟨L, h1, h2.fresh hc, fun hcap => ⟨(h3 hcap).1, fun h => (h3 hcap).2 (hT' _ h)⟩⟩
        · have hd : Den c S' σ w' r x := by
            cases r <;> first | exact hres | exact absurd ⟨_, _, _, rfl⟩ hol
          have hd2 := hd.fresh hc hfresh.1
          cases r <;> first | exact hd2 | exact absurd ⟨_, _, _, rfl⟩ hol
    · rw [hfz] at hans'
      refine finish hc hR hE (Sz := S1) (fz := frz E (ownArgs E raw)) hR1 (fun k e h => frz_list h) (SR := S') hview hes hnd.2 hbel (fun f b h => ?_) hT' hres houts hpin hfr (own := []) hans'
      rcases hS' f b h with ⟨rfl, h1⟩ | h1
      · exact .inl h1.2
      · exact .inr h1
  · cases hans

/-- **What is said of a call is so.** -/
theorem did_call (hc : CfgOk c) (hR : RelAt c n w0 S0 S σ lk a w) {E : Env A} (hE : ∀ k e, look k E = some e → lk k = some e) {f : Nat} {raw us : List (V A)} {r : V A} {outs : List (List (V A))} {ps ps' : List Prop} {dst : Option Nat} {v : V A} {ent : Env A} {xs : Array Value}
    (hpin : ∀ d, dst = some d → d ∉ c.pins) (hfr : ∀ d, dst = some d → ∀ k g v, lk k = some (g, v) → entAvoids d (k, g, v) = true) (hsz : xs.size = raw.length) (hd : ∀ i (hi : i < raw.length), Den c S σ w raw[i] (xs.getD i undef))
    (hview : viewArgs E raw = some us) (hok : CallOk c f us r outs) (hans : answer c E dst raw r outs ps = some (v, ent, ps')) :
    Calls c.P f xs w fun e w' => ∃ x, e = .returned x ∧ Did c n w0 S0 lk dst ent v a x w' := by
  have hnd : nodupN (refIds raw) = true := by
    unfold answer at hans
    split at hans
    · rename_i es hnd hes
      simp only [Bool.and_eq_true] at hnd
      exact hnd.1
    · cases hans
  obtain ⟨S1, hSS, hR1, hf⟩ := freezeL hc hR hE (ownArgs E raw)
  refine (hok w (oldS S1) σ (betaOf σ raw) xs (fun b h => by cases h.1) (fun b h => hR1.sLt b h.2) (hc.inv _ _ _ _ hR1.inv (fun _ h => ⟨rfl, h⟩) (fun _ _ => rfl)) (viewArgs_ok hc hR hE hSS rfl hR1 hf hsz hd hview hnd)).mono ?_
  rintro e w' ⟨x, rfl, hbel, S', hS', hT', hres, houts⟩
  exact ⟨x, rfl, did_answer hc hR hE hSS hR1 hf hpin hfr hview hbel hS' hT' hres houts hans⟩

end
end Vm
