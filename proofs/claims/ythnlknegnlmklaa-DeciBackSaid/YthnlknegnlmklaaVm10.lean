/-
  Regions: in the text's order; and in whatever order the tape gives.
-/
import Derived.Test.YthnlknegnlmklaaVm9b
set_option linter.all false
namespace Vm
open Go Go.RowKit
variable {A : Nat → Type}

theorem look_mem {k : K} {e : Ent A} : ∀ {E : Env A}, look k E = some e → (k, e) ∈ E
  | [], h => by simp [look] at h
  | (k', e') :: E, h => by
    rw [look_cons] at h
    split at h
    · rename_i hk; cases h; subst hk; exact List.mem_cons_self ..
    · exact List.mem_cons_of_mem _ (look_mem h)

theorem avoids_look {d : Nat} {E : Env A} (h : envAvoids d E = true) {k : K} {g : Chain} {v : V A} (hl : look k E = some (g, v)) : entAvoids d (k, g, v) = true :=
  all_mem h _ (look_mem hl)

section
variable {c : Cfg A} {n : Nat} {w0 : W1} {S0 : Nat → Prop} {base F : Env A}

theorem seq_step (hc : CfgOk c) {ops : Array Oper} {Q : Exit → Act → World → Prop} {o : Oper} {k : Nat} {d δ : Env A} {ps : List Prop} {a : Act} {w : World} (h0 : ops[k]? = some o) (hF : dstAvoids o.dst F = true)
    (hst : stepD c n (d ++ base) ops.toList o = some (δ, ps)) (hav : dstAvoids o.dst (d ++ base) = true) (hp : All ps) (hR : Rel c n w0 S0 (fun k => look k (d ++ (base ++ F))) a w) {Kp : Act → World → Prop}
    (hK : ∀ a' w', Rel c n w0 S0 (fun k => look k ((δ ++ d) ++ (base ++ F))) a' w' → Kp a' w') : wpOp c.P ops Q k Kp a w := by
  refine step_ok hc hR (fun k e h => ?_) h0 hst hp (fun dd hd k g v hk => ?_) (fun a' w' hR' => ?_)
  · rw [← List.append_assoc, look_append, h]; rfl
  · rw [← List.append_assoc, look_append] at hk
    cases hdb : look k (d ++ base) with
    | some e => rw [hdb] at hk; simp at hk; subst hk; rw [hd] at hav; exact avoids_look hav hdb
    | none =>
      rw [hdb, Option.none_or] at hk
      rw [hd] at hF
      exact avoids_look hF hk
  · refine hK a' w' (hR'.weaken (fun k e he => ?_))
    rw [List.append_assoc, look_append] at he; exact he

theorem seq_ok (hc : CfgOk c) {ops : Array Oper} {Q : Exit → Act → World → Prop} : ∀ (l : List Oper) (pd : Option Pend) (k : Nat) (d d' : Env A) (ps : List Prop) (a : Act) (w : World), (∀ j, l[j]? = ops[k + j]?) → (∀ o ∈ l, dstAvoids o.dst F = true) → evSeq c n base ops.toList pd l d = some (d', ps) → All ps →
    (match pd with | none => Rel c n w0 S0 (fun k => look k (d ++ (base ++ F))) a w | some p => PendRel c n w0 S0 (fun k => look k (d ++ (base ++ F))) p a w) → (∀ a' w', Rel c n w0 S0 (fun k => look k (d' ++ (base ++ F))) a' w' → Q .normal a' w') → wpOps c.P ops Q (List.range' k l.length) a w := by
  intro l
  have closed : ∀ {p : Pend} {d : Env A} {a : Act} {w : World}, PendRel c n w0 S0 (fun k => look k (d ++ (base ++ F))) p a w → Rel c n w0 S0 (fun k => look k ((pendEnt p :: d) ++ (base ++ F))) a w := fun hP =>
    (pend_close hc hP).weaken (fun k e he => by
      simp only [pendEnt, List.cons_append, look_cons] at he
      exact he)
  induction l with
  | nil =>
    intro pd k d d' ps a w _ _ h _ hR hQ
    cases pd with
    | none =>
      simp only [evSeq, Option.some.injEq, Prod.mk.injEq] at h
      obtain ⟨rfl, _⟩ := h
      simpa [wpOps] using hQ a w hR
    | some p =>
      simp only [evSeq, Option.some.injEq, Prod.mk.injEq] at h
      obtain ⟨rfl, _⟩ := h
      simpa [wpOps] using hQ a w (closed hR)
  | cons o l ih =>
    intro pd k d d' ps a w hl hF h hps hR hQ
    have h0 : ops[k]? = some o := by simpa using (hl 0).symm
    have hl' : ∀ j, l[j]? = ops[k + 1 + j]? := fun j => by
      have := hl (j + 1)
      rw [show k + 1 + j = k + (j + 1) by omega]; simpa using this
    have hFo := hF o (List.mem_cons_self ..)
    have hF' : ∀ o ∈ l, dstAvoids o.dst F = true := fun o ho => hF o (List.mem_cons_of_mem _ ho)
    rw [List.length_cons, List.range'_succ, wpOps_cons]
    cases pd with
    | none =>
      simp only [evSeq] at h
      split at h
      · split at h
        · rename_i p hp
          have hpd : o.dst = some p.d ∧ envAvoids p.d (d ++ base) = true := by
            unfold pendStart at hp
            split at hp
            · rename_i t dd hop hdst hg
              split at hp
              · rename_i hb
                cases hp
                simp only [Bool.and_eq_true] at hb
                exact ⟨hdst, hb.2.2⟩
              · cases hp
            · cases hp
          refine pend_start hc hR h0 hp (fun k g v hk => ?_) (fun a' w' hP' => ih (some p) (k + 1) _ _ ps a' w' hl' hF' h hps (hP'.weaken (fun k e he => ?_)) hQ)
          · rw [← List.append_assoc, look_append] at hk
            cases hdb : look k (d ++ base) with
            | some e => rw [hdb] at hk; simp at hk; subst hk; exact avoids_look hpd.2 hdb
            | none =>
              rw [hdb, Option.none_or] at hk
              rw [hpd.1] at hFo
              exact avoids_look hFo hk
          · simp only [List.cons_append, look_cons] at he
            exact he
        · cases h
      · split at h
        · cases h
        · rename_i δ ps1 hst
          split at h
          · cases h
          · rename_i hav
            split at h
            · cases h
            · rename_i d'' ps2 hrest
              cases h
              obtain ⟨hp1, hp2⟩ := all_app hps
              exact seq_step hc h0 hFo hst hav hp1 hR (fun a' w' hR' => ih none (k + 1) (δ ++ d) _ ps2 a' w' hl' hF' hrest hp2 hR' hQ)
    | some p =>
      simp only [evSeq] at h
      split at h
      · split at h
        · rename_i p' hp
          exact pend_insert hc hR h0 (fun k e h => by rw [← List.append_assoc, look_append, h]; rfl) hp (fun a' w' hP' => ih (some p') (k + 1) _ _ ps a' w' hl' hF' h hps hP' hQ)
        · cases h
      · split at h
        · cases h
        · rename_i δ ps1 hst
          split at h
          · cases h
          · rename_i hav
            split at h
            · cases h
            · rename_i d'' ps2 hrest
              cases h
              obtain ⟨hp1, hp2⟩ := all_app hps
              exact seq_step hc h0 hFo hst hav hp1 (closed hR) (fun a' w' hR' => ih none (k + 1) (δ ++ (pendEnt p :: d)) _ ps2 a' w' hl' hF' hrest hp2 hR' hQ)

/-- What those of 'p' have laid. -/
def gatherP (p : Nat → Bool) : List (Rc A) → Env A
  | [] => []
  | r :: acc => match p acc.length with
    | true => r.δ ++ gatherP p acc
    | false => gatherP p acc

theorem gather_eq (cl : Nat) : ∀ acc : List (Rc A), gather cl acc = gatherP (inCl · cl) acc
  | [] => rfl
  | r :: acc => by
    simp only [gather, gatherP]
    rw [gather_eq cl acc]
    cases inCl acc.length cl <;> rfl

theorem flat_eq : ∀ acc : List (Rc A), (p : Nat → Bool) → (∀ i, i < acc.length → p i = true) → gatherP p acc = flat acc
  | [], _, _ => rfl
  | r :: acc, p, h => by
    simp only [gatherP, flat, h acc.length (by simp)]
    rw [flat_eq acc p (fun i hi => h i (by simp; omega))]

theorem gatherP_congr : ∀ (acc : List (Rc A)) (p q : Nat → Bool), (∀ i, i < acc.length → p i = q i) → gatherP p acc = gatherP q acc
  | [], _, _, _ => rfl
  | r :: acc, p, q, h => by
    simp only [gatherP, h acc.length (by simp)]
    rw [gatherP_congr acc p q (fun i hi => h i (by simp; omega))]

theorem look_hide {H : List Nat × List Nat} {k : K} : ∀ {E : Env A}, look k (hide H E) = if slotIn H k then none else look k E
  | [] => by simp [hide, look]
  | (k', e') :: E => by
    simp only [hide]
    by_cases hk : k = k'
    · subst hk
      cases hs : slotIn H k with
      | true => simp only; rw [look_hide, hs]; rfl
      | false => simp only; rw [look_cons, if_pos rfl, look_cons, if_pos rfl]; rfl
    · cases hs : slotIn H k' with
      | true => simp only; rw [look_hide, look_cons, if_neg hk]
      | false => simp only; rw [look_cons, if_neg hk, look_hide, look_cons, if_neg hk]

def Good (c : Cfg A) (n : Nat) (base : Env A) (ops : Array Oper) : List (Rc A) → Prop
  | [] => True
  | r :: acc => Good c n base ops acc ∧ ∃ o, ops[acc.length]? = some o ∧ clOf (cls acc) o.after.toList = some r.cl ∧ (∃ ps, stepD c n (hide r.H (gather r.cl acc ++ base)) ops.toList o = some (r.δ, ps) ∧ All ps) ∧
      r.dst = o.dst ∧ dstAvoids r.dst base = true ∧ slotsAre r.dst r.δ = true ∧ okRc r.cl r.dst r.H r.bar r.δ acc = true ∧ r.bar = (anyKey r.δ base).or (anyKeys r.δ acc)

theorem evDraw_good {ops : Array Oper} {all : List Nat} : ∀ (l : List Oper) (acc full : List (Rc A)) (ps : List Prop), (∀ j, l[j]? = ops[acc.length + j]?) → Good c n base ops acc → evDraw c n base ops.toList all l acc = some (full, ps) → All ps →
    Good c n base ops full ∧ full.length = acc.length + l.length := by
  intro l
  induction l with
  | nil =>
    intro acc full ps _ hg h _
    simp only [evDraw, Option.some.injEq, Prod.mk.injEq] at h
    obtain ⟨rfl, _⟩ := h
    exact ⟨hg, by simp⟩
  | cons o l ih =>
    intro acc full ps hl hg h hps
    simp only [evDraw] at h
    split at h
    · cases h
    · rename_i cl hcl
      split at h
      · cases h
      · rename_i δ ps1 hst
        split at h
        · cases h
        · rename_i hok
          split at h
          · cases h
          · rename_i full' ps2 hrest
            cases h
            obtain ⟨hp1, hp2⟩ := all_app hps
            simp only [Bool.and_eq_true] at hok
            have hgood : Good c n base ops ({ cl, bar := (anyKey δ base).or (anyKeys δ acc), dst := o.dst, H := (hideOf acc.length cl all 0 ops.toList, hideB base ops.toList acc.length cl all 0 ops.toList), δ } :: acc) :=
              ⟨hg, o, by simpa using (hl 0).symm, hcl, ⟨ps1, hst, hp1⟩, rfl, hok.1.1, hok.1.2, hok.2, rfl⟩
            have := ih _ full ps2 (fun j => by
              have := hl (j + 1)
              simp only [List.length_cons]
              rw [show acc.length + 1 + j = acc.length + (j + 1) by omega]; simpa using this) hgood hrest hp2
            exact ⟨this.1, by rw [this.2]; simp; omega⟩

theorem hasKey_look {k : K} {e : Ent A} : ∀ {E : Env A}, look k E = some e → hasKey k E = true
  | [], h => by simp [look] at h
  | (k', e') :: E, h => by
    rw [look_cons] at h
    simp only [hasKey, Bool.or_eq_true]
    split at h
    · rename_i hk; exact .inl (K.same_iff.2 hk)
    · exact .inr (hasKey_look h)

theorem anyKey_look {k : K} (hns : isSlot k = false) {e e' : Ent A} : ∀ {δ E : Env A}, look k δ = some e → look k E = some e' → anyKey δ E = true
  | [], _, h, _ => by simp [look] at h
  | (k', e'') :: δ, E, h, h' => by
    rw [look_cons] at h
    simp only [anyKey, Bool.or_eq_true, Bool.and_eq_true]
    split at h
    · rename_i hk; subst hk; exact .inl ⟨by rw [hns]; rfl, hasKey_look h'⟩
    · exact .inr (anyKey_look hns h h')

theorem anyKeys_gather {k : K} (hns : isSlot k = false) {e e' : Ent A} {δ : Env A} (h : look k δ = some e) : ∀ {acc : List (Rc A)} {p : Nat → Bool}, look k (gatherP p acc) = some e' → anyKeys δ acc = true
  | [], _, h' => by simp [gatherP, look] at h'
  | r :: acc, p, h' => by
    simp only [anyKeys, Bool.or_eq_true]
    simp only [gatherP] at h'
    split at h'
    · rw [look_append] at h'
      cases hr : look k r.δ with
      | some e2 => exact .inl (anyKey_look hns h hr)
      | none => rw [hr, Option.none_or] at h'; exact .inr (anyKeys_gather hns h h')
    · exact .inr (anyKeys_gather hns h h')

theorem anyKeys_mem {k : K} (hns : isSlot k = false) {e e' : Ent A} {δ : Env A} (h : look k δ = some e) {r : Rc A} (hr : look k r.δ = some e') : ∀ {acc : List (Rc A)}, r ∈ acc → anyKeys δ acc = true
  | [], hm => by cases hm
  | r' :: acc, hm => by
    simp only [anyKeys, Bool.or_eq_true]
    cases hm with
    | head => exact .inl (anyKey_look hns h hr)
    | tail _ hm => exact .inr (anyKeys_mem hns h hr hm)

theorem cellsHid_look {H : List Nat × List Nat} {k : K} (hns : isSlot k = false) {e : Ent A} : ∀ {δ : Env A}, cellsHid H δ = true → look k δ = some e → slotIn H k = true
  | [], _, h => by simp [look] at h
  | (k', e') :: δ, hh, h => by
    rw [look_cons] at h
    simp only [cellsHid, Bool.and_eq_true, Bool.or_eq_true] at hh
    split at h
    · rename_i hk; subst hk
      rcases hh.1 with h1 | h1
      · rw [hns] at h1; cases h1
      · exact h1
    · exact cellsHid_look hns hh.2 h

theorem slotsAre_look {dst : Option Nat} {s : Nat} {e : Ent A} : ∀ {δ : Env A}, slotsAre dst δ = true → look (.slot s) δ = some e → dst = some s
  | [], _, h => by simp [look] at h
  | (k', e') :: δ, hs, h => by
    rw [look_cons] at h
    split at h
    · rename_i hk; subst hk
      simp only [slotsAre, Bool.and_eq_true] at hs
      cases dst with
      | none => simp at hs
      | some d => have : s = d := by simpa using hs.1; 
                  rw [this]
    · cases k' with
      | slot s' => simp only [slotsAre, Bool.and_eq_true] at hs; exact slotsAre_look hs.2 h
      | cell _ _ => exact slotsAre_look (by simpa [slotsAre] using hs) h
      | row _ => exact slotsAre_look (by simpa [slotsAre] using hs) h

/-- A key of two: not a slot, or the one's slot. -/
theorem slot_or {dst : Option Nat} {k : K} {e : Ent A} {δ : Env A} (hs : slotsAre dst δ = true) (h : look k δ = some e) : isSlot k = false ∨ ∃ s, k = .slot s ∧ dst = some s := by
  cases k with
  | slot s => exact .inr ⟨s, rfl, slotsAre_look hs h⟩
  | cell _ _ => exact .inl rfl
  | row _ => exact .inl rfl

/-- Whatever those of the closure have laid is there still when more have come up. -/
theorem sub_gather {ops : Array Oper} {cl : Nat} {p : Nat → Bool} : ∀ (acc : List (Rc A)), Good c n base ops acc → (∀ i, inCl i cl = true → p i = true) → (dst : Option Nat) → (H : List Nat × List Nat) → (bar : Bool) → (δ : Env A) → okRc cl dst H bar δ acc = true →
    ∀ k e, slotIn H k = false → look k (gatherP (inCl · cl) acc ++ base) = some e → look k (gatherP p acc ++ (base ++ F)) = some e := by
  intro acc
  induction acc with
  | nil => intro _ _ _ _ _ _ _ k e _ h; simp only [gatherP, List.nil_append] at h ⊢; rw [look_append, h]; rfl
  | cons r acc ih =>
    intro hg hp dst H bar δ hok k e hH h
    obtain ⟨hg', o, _, _, _, _, _, hsl, _, hbar⟩ := hg
    simp only [okRc, Bool.and_eq_true, Bool.or_eq_true] at hok
    have ih' := fun h => ih hg' hp dst H bar δ hok.2 k e hH h
    simp only [gatherP] at h ⊢
    cases hm : inCl acc.length cl with
    | true =>
      rw [hm] at h
      rw [hp _ hm]
      simp only [List.append_assoc] at h ⊢
      rw [look_append] at h ⊢
      cases hr : look k r.δ with
      | some e2 => rw [hr] at h; exact h
      | none => rw [hr, Option.none_or] at h; rw [Option.none_or]; exact ih' h
    | false =>
      rw [hm] at h
      simp only at h
      cases hpp : p acc.length with
      | false => exact ih' h
      | true =>
        have hun := hok.1.2.resolve_left (by rw [hm]; simp)
        simp only [List.append_assoc]
        rw [look_append]
        cases hr : look k r.δ with
        | none => rw [Option.none_or]; exact ih' h
        | some e2 =>
          exfalso
          rcases slot_or hsl hr with hns | ⟨s, rfl, hd⟩
          · have hnb : r.bar = false := by
              rcases hun.1.1.1.1.1 with h1 | h1
              · simpa using h1
              · rw [cellsHid_look hns h1 hr] at hH; cases hH
            rw [hbar] at hnb
            simp only [Bool.or_eq_false_iff] at hnb
            rw [look_append] at h
            cases hga : look k (gatherP (inCl · cl) acc) with
            | some e3 => rw [anyKeys_gather hns hr hga] at hnb; cases hnb.2
            | none => rw [hga, Option.none_or] at h; rw [anyKey_look hns hr h] at hnb; cases hnb.1
          · have := hun.1.2
            rw [hd] at this
            simp only [optIn] at this
            simp only [slotIn] at hH
            rw [this] at hH; cases hH

theorem good_slots {ops : Array Oper} {r : Rc A} {acc : List (Rc A)} : ∀ (pre : List (Rc A)), Good c n base ops (pre ++ r :: acc) → slotsAre r.dst r.δ = true
  | [], h => by obtain ⟨_, o, _, _, _, _, _, hsl, _⟩ := h; exact hsl
  | _ :: pre, h => good_slots pre h.1

/-- One operation comes up: three things that are so of it. -/
theorem stage {ops : Array Oper} {p : Nat → Bool} {r : Rc A} {acc : List (Rc A)} (hF : dstAvoids r.dst F = true) (hcl : ∀ i, inCl i r.cl = true → p i = true) (hj : p acc.length = false) :
    ∀ (pre : List (Rc A)), Good c n base ops (pre ++ r :: acc) → (∀ pre1 r1 acc1, pre ++ r :: acc = pre1 ++ r1 :: acc1 → p acc1.length = true → ∀ i, inCl i r1.cl = true → p i = true) →
    (∀ k e, look k (hide r.H (gather r.cl acc ++ base)) = some e → look k (gatherP p (pre ++ r :: acc) ++ (base ++ F)) = some e) ∧
    (∀ d, r.dst = some d → ∀ k g v, look k (gatherP p (pre ++ r :: acc) ++ (base ++ F)) = some (g, v) → entAvoids d (k, g, v) = true) ∧
    (∀ k e, look k (gatherP (fun i => p i || i == acc.length) (pre ++ r :: acc) ++ (base ++ F)) = some e → (look k r.δ).or (look k (gatherP p (pre ++ r :: acc) ++ (base ++ F))) = some e) := by
  intro pre
  induction pre with
  | nil =>
    intro hg _
    obtain ⟨hg', o, _, _, _, _, hdb, _, hok, _⟩ := hg
    refine ⟨fun k e h => ?_, fun d hd k g v h => ?_, fun k e h => ?_⟩
    · simp only [List.nil_append, gatherP, hj]
      rw [look_hide] at h
      split at h
      · cases h
      · rename_i hH
        rw [gather_eq] at h
        exact sub_gather acc hg' hcl r.dst r.H r.bar r.δ hok k e (by simpa using hH) h
    · simp only [List.nil_append, gatherP, hj] at h
      rw [look_append] at h
      cases hga : look k (gatherP p acc) with
      | none =>
        rw [hga, Option.none_or, look_append] at h
        rw [hd] at hdb hF
        cases hb : look k base with
        | some e3 => rw [hb] at h; simp at h; subst h; exact avoids_look hdb hb
        | none => rw [hb, Option.none_or] at h; exact avoids_look hF h
      | some e2 =>
        rw [hga] at h
        simp at h
        subst h
        have key : ∀ (acc : List (Rc A)), okRc r.cl r.dst r.H r.bar r.δ acc = true → look k (gatherP p acc) = some (g, v) → entAvoids d (k, g, v) = true := by
          intro acc
          induction acc with
          | nil => intro _ h; simp [gatherP, look] at h
          | cons r' acc ih =>
            intro hok h
            simp only [okRc, Bool.and_eq_true, hd] at hok
            simp only [gatherP] at h
            split at h
            · rw [look_append] at h
              cases hr : look k r'.δ with
              | none => rw [hr, Option.none_or] at h; exact ih (by rw [hd]; exact hok.2) h
              | some e3 => rw [hr] at h; simp at h; subst h; exact avoids_look hok.1.1 hr
            · exact ih (by rw [hd]; exact hok.2) h
        exact key acc hok hga
    · simp only [List.nil_append, gatherP, hj, beq_self_eq_true, Bool.or_true] at h ⊢
      rw [List.append_assoc, look_append] at h
      rw [gatherP_congr acc _ p (fun i hi => by simp; omega)] at h
      exact h
  | cons r2 pre ih =>
    intro hg hdown
    rw [List.cons_append] at hg
    have hgt : Good c n base ops (pre ++ r :: acc) := hg.1
    have hdown' : ∀ pre1 r1 acc1, pre ++ r :: acc = pre1 ++ r1 :: acc1 → p acc1.length = true → ∀ i, inCl i r1.cl = true → p i = true := fun pre1 r1 acc1 he => hdown (r2 :: pre1) r1 acc1 (by simp [he])
    obtain ⟨h1, h2, h3⟩ := ih hgt hdown'
    obtain ⟨_, o, _, _, _, _, hdb, hsl, hok, hbar⟩ := hg
    have hlen : (pre ++ r :: acc).length ≠ acc.length := by simp; omega
    cases hp2 : p (pre ++ r :: acc).length with
    | false =>
      refine ⟨fun k e h => ?_, fun d hd k g v h => ?_, fun k e h => ?_⟩
      · simp only [List.cons_append, gatherP, hp2]; exact h1 k e h
      · simp only [List.cons_append, gatherP, hp2] at h; exact h2 d hd k g v h
      · have hne : ((pre ++ r :: acc).length == acc.length) = false := by simp; omega
        simp only [List.cons_append, gatherP, hp2, hne, Bool.or_false] at h ⊢
        exact h3 k e h
    | true =>
      have hnot : inCl acc.length r2.cl = false := by
        cases hm : inCl acc.length r2.cl with
        | false => rfl
        | true =>
          have := hdown [] r2 (pre ++ r :: acc) rfl hp2 _ hm
          rw [hj] at this; cases this
      have hun : (((((r.bar.not = true ∨ cellsHid r2.H r.δ = true) ∧ (r2.bar.not = true ∨ cellsHid r.H r2.δ = true) ∧ (anyKey r2.δ r.δ).not = true) ∧ dstAvoids r.dst r2.δ = true) ∧ optIn r.H.1 r2.dst = true) ∧ optIn r2.H.1 r.dst = true) ∧ optNe r2.dst r.dst = true := by
        have key : ∀ (pre : List (Rc A)), okRc r2.cl r2.dst r2.H r2.bar r2.δ (pre ++ r :: acc) = true → (((((r.bar.not = true ∨ cellsHid r2.H r.δ = true) ∧ (r2.bar.not = true ∨ cellsHid r.H r2.δ = true) ∧ (anyKey r2.δ r.δ).not = true) ∧ dstAvoids r.dst r2.δ = true) ∧ optIn r.H.1 r2.dst = true) ∧ optIn r2.H.1 r.dst = true) ∧ optNe r2.dst r.dst = true := by
          intro pre
          induction pre with
          | nil =>
            intro h
            simp only [List.nil_append, okRc, Bool.and_eq_true, Bool.or_eq_true] at h
            rcases h.1.2 with h | h
            · rw [hnot] at h; cases h
            · exact h
          | cons _ pre ih =>
            intro h
            simp only [List.cons_append, okRc, Bool.and_eq_true] at h
            exact ih h.2
        exact key pre hok
      have hok2 := hun.1.1.1.2
      refine ⟨fun k e h => ?_, fun d hd k g v h => ?_, fun k e h => ?_⟩
      · simp only [List.cons_append, gatherP, hp2, List.append_assoc]
        rw [look_append]
        cases hr : look k r2.δ with
        | none => rw [Option.none_or]; exact h1 k e h
        | some e2 =>
          exfalso
          rw [look_hide] at h
          split at h
          · cases h
          · rename_i hH
            rcases slot_or hsl hr with hns | ⟨s, rfl, hd⟩
            · have hnb : r2.bar = false := by
                rcases hun.1.1.1.1.2.1 with h1 | h1
                · simpa using h1
                · exact absurd (cellsHid_look hns h1 hr) hH
              rw [hbar] at hnb
              simp only [Bool.or_eq_false_iff] at hnb
              rw [gather_eq, look_append] at h
              cases hga : look k (gatherP (inCl · r.cl) acc) with
              | some e3 =>
                have hgb : look k (gatherP (fun i => inCl i r.cl && i < acc.length) (pre ++ r :: acc)) = some e3 := by
                  have key : ∀ (pre : List (Rc A)), gatherP (fun i => inCl i r.cl && i < acc.length) (pre ++ r :: acc) = gatherP (inCl · r.cl) acc := by
                    intro pre
                    induction pre with
                    | nil =>
                      simp only [List.nil_append, gatherP]
                      have : (inCl acc.length r.cl && decide (acc.length < acc.length)) = false := by simp
                      rw [this]
                      exact gatherP_congr _ _ _ (fun i hi => by simp [hi])
                    | cons q pre ih3 =>
                      simp only [List.cons_append, gatherP]
                      have : (inCl (pre ++ r :: acc).length r.cl && decide ((pre ++ r :: acc).length < acc.length)) = false := by simp; omega
                      rw [this]
                      exact ih3
                  rw [key]; exact hga
                rw [anyKeys_gather hns hr hgb] at hnb; cases hnb.2
              | none => rw [hga, Option.none_or] at h; rw [anyKey_look hns hr h] at hnb; cases hnb.1
            · have := hun.1.1.2
              rw [hd] at this
              simp only [optIn] at this
              simp only [slotIn] at hH
              exact hH this
      · simp only [List.cons_append, gatherP, hp2, List.append_assoc] at h
        rw [look_append] at h
        cases hr : look k r2.δ with
        | none => rw [hr, Option.none_or] at h; exact h2 d hd k g v h
        | some e2 =>
          rw [hr] at h; simp at h; subst h
          rw [hd] at hok2
          exact avoids_look hok2 hr
      · simp only [List.cons_append, gatherP, hp2, Bool.true_or, List.append_assoc] at h ⊢
        rw [look_append] at h ⊢
        cases hr : look k r2.δ with
        | none => rw [hr, Option.none_or] at h; rw [Option.none_or]; exact h3 k e h
        | some e2 =>
          rw [hr] at h
          simp at h
          subst h
          cases hrr : look k r.δ with
          | none => simp
          | some e3 =>
            exfalso
            rcases slot_or hsl hr with hns | ⟨s, rfl, hd⟩
            · have := hun.1.1.1.1.2.2
              rw [anyKey_look hns hr hrr] at this
              cases this
            · have hsr := good_slots pre hgt
              have hd2 := slotsAre_look hsr hrr
              have := hun.2
              rw [hd, hd2] at this
              simp [optNe] at this

theorem clOf_sub {acc : List (Rc A)} {p : Nat → Bool} (hdown : ∀ pre1 r1 acc1, acc = pre1 ++ r1 :: acc1 → p acc1.length = true → ∀ i, inCl i r1.cl = true → p i = true) :
    ∀ (es : List Edge) (cl : Nat), clOf (cls acc) es = some cl → (∀ e ∈ es, Region.binds .any e = true → p e.on = true) → (∀ i, inCl i cl = true → p i = true) ∧ (∀ e ∈ es, Region.binds .any e = true → e.on < acc.length) := by
  intro es
  induction es with
  | nil => intro cl h _; simp only [clOf, Option.some.injEq] at h; subst h; exact ⟨fun i hi => by simp [inCl] at hi, fun e he => by cases he⟩
  | cons e es ih =>
    intro cl h hp
    simp only [clOf] at h
    split at h
    · cases h
    · rename_i l hl
      obtain ⟨i1, i2⟩ := ih l hl (fun e he => hp e (List.mem_cons_of_mem _ he))
      split at h
      · rename_i hb
        cases h
        refine ⟨i1, fun e' he' hb' => ?_⟩
        cases he' with
        | head => rw [hb] at hb'; cases hb'
        | tail _ hm => exact i2 e' hm hb'
      · rename_i hb
        split at h
        · cases h
        · rename_i hlt
          split at h
          · cases h
          · rename_i cl0 hr
            cases h
            have hcl : (cls acc).length = acc.length := by simp [cls]
            have hlt' : e.on < acc.length := by rw [← hcl]; simpa using hlt
            have hpe := hp e (List.mem_cons_self ..) hb
            rw [nth_eq] at hr
            have hx : acc.length - 1 - e.on < acc.length := by omega
            have hy : acc[acc.length - 1 - e.on].cl = cl0 := by
              rw [hcl] at hr
              simp only [cls, List.getElem?_map, List.getElem?_eq_getElem hx, Option.map_some, Option.some.injEq] at hr
              exact hr
            have hdec : acc = acc.take (acc.length - 1 - e.on) ++ acc[acc.length - 1 - e.on] :: acc.drop (acc.length - 1 - e.on + 1) := by
              rw [← List.drop_eq_getElem_cons hx, List.take_append_drop]
            have hl1 : (acc.drop (acc.length - 1 - e.on + 1)).length = e.on := by simp; omega
            have hd := hdown _ _ _ hdec (by rw [hl1]; exact hpe)
            rw [hy] at hd
            refine ⟨fun i hi => ?_, fun e' he' hb' => ?_⟩
            · have hbits : inCl i (Nat.lor (Nat.lor (Nat.shiftLeft 1 e.on) cl0) l) = (decide (i = e.on) || inCl i cl0 || inCl i l) := by
                show Nat.testBit (((1 <<< e.on) ||| cl0) ||| l) i = _
                rw [Nat.testBit_or, Nat.testBit_or, Nat.one_shiftLeft, Nat.testBit_two_pow]
                congr 2
                simp [eq_comm]
              rw [hbits] at hi
              simp only [Bool.or_eq_true, decide_eq_true_eq] at hi
              rcases hi with (rfl | hi) | hi
              · exact hpe
              · exact hd i hi
              · exact i1 i hi
            · cases he' with
              | head => exact hlt'
              | tail _ hm => exact i2 e' hm hb'

theorem count_less {p : Nat → Bool} {j : Nat} : ∀ (l : List Nat), (l.filter fun i => !(p i || i == j)).length ≤ (l.filter fun i => !p i).length ∧ (j ∈ l → p j = false → (l.filter fun i => !(p i || i == j)).length + 1 ≤ (l.filter fun i => !p i).length) := by
  intro l
  induction l with
  | nil => simp
  | cons x l ih =>
    obtain ⟨h1, h2⟩ := ih
    by_cases hx : x = j
    · subst hx
      have e1 : ((x :: l).filter fun i => !(p i || i == x)) = l.filter fun i => !(p i || i == x) := by simp
      rw [e1]
      cases hp : p x
      · have e2 : ((x :: l).filter fun i => !p i) = x :: l.filter fun i => !p i := by simp [hp]
        rw [e2, List.length_cons]
        exact ⟨by omega, fun _ _ => by omega⟩
      · have e2 : ((x :: l).filter fun i => !p i) = l.filter fun i => !p i := by simp [hp]
        rw [e2]
        exact ⟨h1, fun _ h => by cases h⟩
    · have hb : (x == j) = false := by simpa using hx
      have hm' : j ∈ x :: l → j ∈ l := fun hm => by
        cases hm with
        | head => exact absurd rfl hx
        | tail _ hm => exact hm
      cases hp : p x
      · have e1 : ((x :: l).filter fun i => !(p i || i == j)) = x :: l.filter fun i => !(p i || i == j) := by
          rw [List.filter_cons, if_pos (by simp [hp, hb])]
        have e2 : ((x :: l).filter fun i => !p i) = x :: l.filter fun i => !p i := by simp [hp]
        rw [e1, e2, List.length_cons, List.length_cons]
        exact ⟨by omega, fun hm hpj => by have := h2 (hm' hm) hpj; omega⟩
      · have e1 : ((x :: l).filter fun i => !(p i || i == j)) = l.filter fun i => !(p i || i == j) := by simp [hp]
        have e2 : ((x :: l).filter fun i => !p i) = l.filter fun i => !p i := by simp [hp]
        rw [e1, e2]
        exact ⟨h1, fun hm hpj => h2 (hm' hm) hpj⟩

theorem split_at {full : List (Rc A)} {j : Nat} (hj : j < full.length) : ∃ pre r acc, full = pre ++ r :: acc ∧ acc.length = j := by
  refine ⟨full.take (full.length - 1 - j), full[full.length - 1 - j]'(by omega), full.drop (full.length - 1 - j + 1), ?_, by simp; omega⟩
  rw [← List.drop_eq_getElem_cons, List.take_append_drop]

theorem good_tail {ops : Array Oper} : ∀ (pre acc : List (Rc A)), Good c n base ops (pre ++ acc) → Good c n base ops acc
  | [], _, h => h
  | _ :: pre, acc, h => good_tail pre acc h.1

theorem draw_ok (hc : CfgOk c) {ops : Array Oper} {Q : Exit → Act → World → Prop} {full : List (Rc A)} (hF : ∀ o ∈ ops.toList, dstAvoids o.dst F = true) (hg : Good c n base ops full) (hlen : full.length = ops.size)
    (hQ : ∀ a' w', Rel c n w0 S0 (fun k => look k (flat full ++ (base ++ F))) a' w' → Q .normal a' w') :
    ∀ (fuel : Nat) (listed : Array Bool) (a : Act) (w : World), listed.size = ops.size → ((List.range ops.size).filter fun i => !(listed.getD i false)).length ≤ fuel →
      (∀ pre1 r1 acc1, full = pre1 ++ r1 :: acc1 → listed.getD acc1.length false = true → ∀ i, inCl i r1.cl = true → listed.getD i false = true) →
      Rel c n w0 S0 (fun k => look k (gatherP (fun i => listed.getD i false) full ++ (base ++ F))) a w → wpAny c.P .any ops Q fuel listed a w := by
  have done : ∀ (listed : Array Bool), listed.size = ops.size → (∀ pre1 r1 acc1, full = pre1 ++ r1 :: acc1 → listed.getD acc1.length false = true → ∀ i, inCl i r1.cl = true → listed.getD i false = true) →
      Region.ready .any ops listed = [] → ∀ i, i < ops.size → listed.getD i false = true := by
    intro listed hsz hdown hr i
    induction i using Nat.strongRecOn with
    | _ i ih =>
      intro hi
      cases hli : listed.getD i false with
      | true => rfl
      | false =>
        exfalso
        obtain ⟨pre, r, acc, he, hacc⟩ := split_at (full := full) (j := i) (by omega)
        have hg' := good_tail pre (r :: acc) (he ▸ hg)
        obtain ⟨_, o, ho, hcl, _⟩ := hg'
        rw [hacc] at ho
        have hon : ∀ e ∈ o.after.toList, Region.binds .any e = true → e.on < i := by
          -- the closure exists, so each edge goes back
          have key : ∀ (es : List Edge) cl, clOf (cls acc) es = some cl → ∀ e ∈ es, Region.binds .any e = true → e.on < acc.length := by
            intro es
            induction es with
            | nil => intro cl _ e he; cases he
            | cons e es ih2 =>
              intro cl h e' he' hb'
              simp only [clOf] at h
              split at h
              · cases h
              · rename_i l hl
                cases he' with
                | head =>
                  split at h
                  · rename_i hb; rw [hb] at hb'; cases hb'
                  · split at h
                    · cases h
                    · rename_i hlt; simpa [cls] using hlt
                | tail _ hm => exact ih2 l hl e' hm hb'
          intro e hem hb; rw [← hacc]; exact key _ _ hcl e hem hb
        have : i ∈ Region.ready .any ops listed := by
          rw [mem_ready]
          refine ⟨?_, o, ho, fun e hem hb => ?_⟩
          · have hlt : i < listed.size := by omega
            simp [hlt] at hli ⊢; exact hli
          · have h1 := hon e (by simpa using hem) hb
            exact ih e.on h1 (by omega)
        rw [hr] at this; cases this
  have fin : ∀ (listed : Array Bool) (a : Act) (w : World), listed.size = ops.size → (∀ pre1 r1 acc1, full = pre1 ++ r1 :: acc1 → listed.getD acc1.length false = true → ∀ i, inCl i r1.cl = true → listed.getD i false = true) →
      Rel c n w0 S0 (fun k => look k (gatherP (fun i => listed.getD i false) full ++ (base ++ F))) a w → Region.ready .any ops listed = [] → Q .normal a w := by
    intro listed a w hsz hdown hR hr
    have := done listed hsz hdown hr
    rw [flat_eq full _ (fun i hi => this i (by omega))] at hR
    exact hQ a w hR
  intro fuel
  induction fuel with
  | zero =>
    intro listed a w hsz hcount hdown hR
    have hr : Region.ready .any ops listed = [] := by
      cases hrr : Region.ready .any ops listed with
      | nil => rfl
      | cons i rs =>
        exfalso
        have hm : i ∈ Region.ready .any ops listed := by rw [hrr]; exact List.mem_cons_self ..
        rw [mem_ready] at hm
        obtain ⟨h1, o, ho, _⟩ := hm
        have hlt : i < ops.size := (Array.getElem?_eq_some_iff.1 ho).1
        have : i ∈ (List.range ops.size).filter fun i => !(listed.getD i false) := by
          rw [List.mem_filter]
          refine ⟨by simpa using hlt, ?_⟩
          have hlt2 : i < listed.size := by omega
          simp [hlt2] at h1 ⊢; exact h1
        have := List.length_pos_of_mem this
        omega
    exact ⟨hr, fin listed a w hsz hdown hR hr⟩
  | succ fuel ih =>
    intro listed a w hsz hcount hdown hR
    refine ⟨fun hr => fin listed a w hsz hdown hR hr, fun j hj => ?_⟩
    rw [mem_ready] at hj
    obtain ⟨h1, o, ho, hedges⟩ := hj
    have hlt : j < ops.size := (Array.getElem?_eq_some_iff.1 ho).1
    have hlt2 : j < listed.size := by omega
    have hpj : listed.getD j false = false := by simp [hlt2] at h1 ⊢; exact h1
    obtain ⟨pre, r, acc, he, hacc⟩ := split_at (full := full) (j := j) (by omega)
    have hg2 : Good c n base ops (pre ++ r :: acc) := he ▸ hg
    have hg' := good_tail pre (r :: acc) hg2
    obtain ⟨_, o', ho', hcl, ⟨ps, hst, hps⟩, hdst, _⟩ := hg'
    rw [hacc, ho] at ho'
    cases ho'
    have hdown2 : ∀ pre1 r1 acc1, acc = pre1 ++ r1 :: acc1 → listed.getD acc1.length false = true → ∀ i, inCl i r1.cl = true → listed.getD i false = true := fun pre1 r1 acc1 hea => hdown (pre ++ r :: pre1) r1 acc1 (by rw [he, hea]; simp)
    obtain ⟨hsub, _⟩ := clOf_sub (p := fun i => listed.getD i false) hdown2 _ _ hcl (fun e hem hb => hedges e (by simpa using hem) hb)
    have hpj' : (fun i => listed.getD i false) acc.length = false := by rw [hacc]; exact hpj
    have hFr : dstAvoids r.dst F = true := by rw [hdst]; exact hF o (Array.mem_toList_iff.2 (Array.mem_of_getElem? ho))
    obtain ⟨s1, s2, s3⟩ := stage (p := fun i => listed.getD i false) hFr hsub hpj' pre hg2 (fun pre1 r1 acc1 hea => hdown pre1 r1 acc1 (he.trans hea))
    have hset : ∀ i, (listed.setIfInBounds j true).getD i false = (listed.getD i false || i == acc.length) := fun i => by
      rw [hacc]
      by_cases e : i = j
      · subst e; simp [hlt2]
      · rw [getD_set_ne false (Ne.symm e)]
        have : (i == j) = false := by simpa using e
        rw [this, Bool.or_false]
    have hRf : Rel c n w0 S0 (fun k => look k (gatherP (fun i => listed.getD i false) (pre ++ r :: acc) ++ (base ++ F))) a w := by rw [← he]; exact hR
    refine step_ok hc hRf s1 ho hst hps (fun d hd k g v hk => s2 d (hdst.trans hd) k g v hk) (fun a' w' hR' => ?_)
    refine ih (listed.setIfInBounds j true) a' w' (by simp [hsz]) ?_ ?_ ?_
    · have := (count_less (p := fun i => listed.getD i false) (j := j) (List.range ops.size)).2 (by simpa using hlt) hpj
      have e : ((List.range ops.size).filter fun i => !((listed.setIfInBounds j true).getD i false)) = (List.range ops.size).filter fun i => !(listed.getD i false || i == j) := by
        congr 1; funext i; rw [hset, hacc]
      rw [e]; omega
    · intro pre1 r1 acc1 hea hp1 i hi
      rw [hset] at hp1 ⊢
      by_cases hl : acc1.length = j
      · have : pre1 ++ r1 :: acc1 = pre ++ r :: acc := hea.symm.trans he
        have hr : r1 = r := by
          have hdrop := congrArg List.reverse this
          simp only [List.reverse_append, List.reverse_cons, List.append_assoc] at hdrop
          have h2 := List.append_inj hdrop (by simp [hl, hacc])
          have h3 := h2.2
          simp at h3
          exact h3.1
        subst hr
        rw [hsub i hi, Bool.true_or]
      · have : (acc1.length == acc.length) = false := by rw [hacc]; simpa using hl
        rw [this, Bool.or_false] at hp1
        rw [hdown pre1 r1 acc1 hea hp1 i hi, Bool.true_or]
    · refine hR'.weaken (fun k e hk => ?_)
      have e1 : gatherP (fun i => (listed.setIfInBounds j true).getD i false) full = gatherP (fun i => listed.getD i false || i == acc.length) (pre ++ r :: acc) := by
        rw [← he]; exact gatherP_congr _ _ _ (fun i _ => hset i)
      rw [e1] at hk
      exact s3 k e hk

end
end Vm
