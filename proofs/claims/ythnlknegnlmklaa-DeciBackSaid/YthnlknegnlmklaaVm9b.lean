/-
  Maps that are filled in a region's order: while one is filled nobody else knows of it; then nobody writes to it any more.
-/
import Derived.Test.YthnlknegnlmklaaVm9
set_option linter.all false
namespace Vm
open Go Go.RowKit
variable {A : Nat → Type}

section
variable {c : Cfg A} {n : Nat} {w0 : W1} {S0 : Nat → Prop} {S : Fz} {σ : Nat → Loc} {lk : K → Option (Ent A)} {a : Act} {w : World}

/-- A block of which nothing is told turns. -/
theorem RelAt.other (hc : CfgOk c) (hR : RelAt c n w0 S0 S σ lk a w) {w' : World} {blk : Nat} (hb : Bel ⟨w, fun b _ => b = blk⟩ w') (hns : ¬ S false blk) (hge : w0.heap.size ≤ blk)
    (hl : ∀ b id, live lk σ b id → (σ id).blk ≠ blk) : RelAt c n w0 S0 S σ lk a w' := by
  have hkeep : ∀ b, b < w.heap.size → b ≠ blk → w'.heap[b]? = w.heap[b]? := fun b hlt hn => hb.block b hlt (fun _ h => hn h)
  have hS : ∀ f b, S f b → w'.heap[b]? = w.heap[b]? := fun f b h => hkeep b (hR.sLt' f b h) (fun e => hns (by subst e; cases f; exact h; exact hR.sT _ h))
  have hden : ∀ {v x}, Den c S σ w v x → Den c S σ w' v x := fun h => h.mono hc (fun _ _ h => h) hS (fun _ _ => rfl)
  exact {
    inv := hc.inv _ _ _ _ hR.inv (fun _ h => h) (hS false)
    defers := hR.defers
    size := hR.size
    below := hR.below.trans hb (fun b _ h => .inl (by have h : b = blk := h; subst h; exact hge))
    s0 := hR.s0
    pin := hR.pin
    sT := hR.sT
    sNew := hR.sNew
    sLt := fun b h => Nat.lt_of_lt_of_le (hR.sLt b h) hb.size
    slot := fun i g v hv hj => ⟨(hR.slot i g v hv hj).1, fun hg => hden ((hR.slot i g v hv hj).2.1 hg), (hR.slot i g v hv hj).2.2⟩
    cell := fun id off g v hv hj => by
      obtain ⟨⟨x, hx, hdx⟩, hfz, h1, h2⟩ := hR.cell id off g v hv hj
      have hlv : live lk σ false id := ⟨off, g, v, hv, hj⟩
      have hk := hkeep _ (hR.lt hlv) (hl _ _ hlv)
      refine ⟨⟨x, ?_, hden hdx⟩, fun o => ?_, h1, h2⟩
      · rw [← hx]; exact World.cell?_of_block (w := w) hk
      · rw [← hfz o]; exact World.frozen?_of_block (w := w) hk
    row := fun id g v hv hj => by
      obtain ⟨h1, h2⟩ := hR.row id g v hv hj
      refine ⟨h1.mono hc (fun _ _ h => h) hS (fun hr hcap => ?_), h2⟩
      have hlv : live lk σ true id := ⟨g, v, hv, hr, hcap⟩
      exact hkeep _ (hR.lt hlv) (hl _ _ hlv)
    dist := hR.dist }

/-- Such a block: nobody writes to it from now on. -/
theorem RelAt.addS (hc : CfgOk c) (hR : RelAt c n w0 S0 S σ lk a w) {blk : Nat} (hlt : blk < w.heap.size) (hge : w0.heap.size ≤ blk) (hl : ∀ b id, live lk σ b id → (σ id).blk ≠ blk) :
    RelAt c n w0 S0 (fun f b => S f b ∨ b = blk) σ lk a w := by
  have hden : ∀ {v x}, Den c S σ w v x → Den c (fun f b => S f b ∨ b = blk) σ w v x := fun h => h.mono hc (fun _ _ h => .inl h) (fun _ _ _ => rfl) (fun _ _ => rfl)
  exact {
    inv := hc.inv _ _ _ _ hR.inv (fun _ h => .inl h) (fun _ _ => rfl)
    defers := hR.defers
    size := hR.size
    below := hR.below
    s0 := fun b h => .inl (hR.s0 b h)
    pin := hR.pin
    sT := fun b h => by rcases h with h | h; exact .inl (hR.sT b h); exact .inr h
    sNew := fun f b h => by
      rcases h with h | rfl
      · exact hR.sNew f b h
      · exact .inr hge
    sLt := fun b h => by
      rcases h with h | rfl
      · exact hR.sLt b h
      · exact hlt
    slot := fun i g v hv hj => ⟨(hR.slot i g v hv hj).1, fun hg => hden ((hR.slot i g v hv hj).2.1 hg), (hR.slot i g v hv hj).2.2⟩
    cell := fun id off g v hv hj => by
      obtain ⟨⟨x, hx, hdx⟩, hfz, h1, h2⟩ := hR.cell id off g v hv hj
      have hlv : live lk σ false id := ⟨off, g, v, hv, hj⟩
      refine ⟨⟨x, hx, hden hdx⟩, hfz, fun h => ?_, h2⟩
      rcases h with h | h
      · exact h1 h
      · exact hl _ _ hlv h
    row := fun id g v hv hj => by
      obtain ⟨h1, h2⟩ := hR.row id g v hv hj
      refine ⟨h1.mono hc (fun _ _ h => .inl h) (fun _ _ _ => rfl) (fun _ _ => rfl), fun hr hcap => ?_⟩
      have hlv : live lk σ true id := ⟨g, v, hv, hr, hcap⟩
      refine ⟨fun h => ?_, (h2 hr hcap).2⟩
      rcases h with h | h
      · exact (h2 hr hcap).1 h
      · exact hl _ _ hlv h
    dist := hR.dist }

/-- More is known of a slot. -/
theorem RelAt.setSlot (hR : RelAt c n w0 S0 S σ lk a w) {d : Nat} (hd : d < n) {v : V A} (hv : Den c S σ w v (a.tmps.getD d undef)) :
    RelAt c n w0 S0 S σ (fun k => if k = .slot d then some ([], v) else lk k) a w where
  inv := hR.inv
  defers := hR.defers
  size := hR.size
  below := hR.below
  s0 := hR.s0
  pin := hR.pin
  sT := hR.sT
  sNew := hR.sNew
  sLt := hR.sLt
  slot i g' v' hv' hj := by
    by_cases hi : i = d
    · subst hi
      simp only [if_true, Option.some.injEq, Prod.mk.injEq] at hv'
      obtain ⟨rfl, rfl⟩ := hv'
      exact ⟨hd, fun _ => hv, fun h => absurd (fun p hp => by cases hp) h⟩
    · have hne : K.slot i ≠ K.slot d := by intro e; cases e; exact hi rfl
      simp only [hne, if_false] at hv'
      exact hR.slot i g' v' hv' hj
  cell id off g' v' hv' hj := by
    simp only [reduceCtorEq, if_false] at hv'
    exact hR.cell id off g' v' hv' hj
  row id g' v' hv' hj := by
    simp only [reduceCtorEq, if_false] at hv'
    exact hR.row id g' v' hv' hj
  dist b b' id id' hl hl' := hR.dist b b' id id' (live_put hl) (live_put hl')

/-- A map is being filled. -/
def PendRel (c : Cfg A) (n : Nat) (w0 : W1) (S0 : Nat → Prop) (lk : K → Option (Ent A)) (p : Pend) (a : Act) (w : World) : Prop :=
  ∃ S σ blk es ck, RelAt c n w0 S0 S σ lk a w ∧ a.tmps.getD p.d undef = .map (some blk) ∧ p.d < n ∧ w.heap[blk]? = some (.map es ck) ∧
    es.toList.map (fun e => (e.key, e.val)) = p.l.map (fun q => (Value.int p.k q.1, q.2)) ∧ ¬ S false blk ∧ w0.heap.size ≤ blk ∧ (∀ b id, live lk σ b id → (σ id).blk ≠ blk) ∧
    ∃ kt e, c.P.underlying p.t = some (.map kt e) ∧ c.P.underlying kt = some (.int p.k)

theorem PendRel.weaken {lk' : K → Option (Ent A)} {p : Pend} (h : PendRel c n w0 S0 lk p a w) (hk : ∀ k e, lk' k = some e → lk k = some e) : PendRel c n w0 S0 lk' p a w := by
  obtain ⟨S, σ, blk, es, ck, hR, h1, h2, h3, h4, h5, h6, h7, h8⟩ := h
  exact ⟨S, σ, blk, es, ck, hR.weaken hk, h1, h2, h3, h4, h5, h6, fun b id hl => h7 b id ((Sub.of hk).live hl), h8⟩

theorem wanted_none {o : Oper} (h : o.guard = none) (f : Nat → Option Bool) : Region.wanted o f = true := by
  unfold Region.wanted; rw [h]

theorem heap_new (w : World) (o : Obj) : (w.alloc o).heap[w.heap.size]? = some o := by
  show (w.heap.push o)[w.heap.size]? = some o
  simp

theorem pend_start (hc : CfgOk c) (hR : Rel c n w0 S0 lk a w) {ops : Array Oper} {i : Nat} {o : Oper} (hi : ops[i]? = some o) {E : Env A} {p : Pend} (h : pendStart c n E o = some p)
    (hfr : ∀ k g v, lk k = some (g, v) → entAvoids p.d (k, g, v) = true) {Kp : Act → World → Prop} {Q : Exit → Act → World → Prop}
    (hK : ∀ a' w', PendRel c n w0 S0 (fun k => if k = .slot p.d then some ([], .junk) else lk k) p a' w' → Kp a' w') : wpOp c.P ops Q i Kp a w := by
  obtain ⟨S, σ, hR⟩ := hR
  obtain ⟨dst, op, ty, pos, after, guard⟩ := o
  unfold pendStart at h
  split at h
  · rename_i t d hop hdst hg
    simp only at hop hdst hg
    subst hop hdst hg
    split at h
    · rename_i k e hm hb
      cases h
      simp only [Bool.and_eq_true] at hb
      have hd : d < n := by simpa using hb.1
      obtain ⟨kt, h1, h2⟩ := (hc.ty t).map k e hm
      have hB : Below w.heap.size w (w.alloc (.map #[] 0)) := (Below.refl _ _).alloc (Nat.le_refl _) _
      have hR1 := hR.grow hc hB (S' := S) (fun _ _ h => h) hR.sT (fun f b h => .inl h)
      have hR2 := hR1.put (d := d) hd (g := []) (v := .junk) (x := .map (some w.heap.size)) (fun _ => .junk _) (fun h => absurd (fun p hp => by cases hp) h) rfl (fun k g' v' _ hv => by
        have := hfr k g' v' hv
        simp only [entAvoids, Bool.and_eq_true] at this
        exact this.1.2)
      unfold wpOp
      simp only [hi]
      rw [if_pos (wanted_none rfl _)]
      refine .inl ?_
      unfold Oper.wp
      have hrun : (Instr.makeMap t none).run c.P w = .ok (.map (some w.heap.size)) (w.alloc (.map #[] 0)) := rfl
      have hex : (execOp a.eval ⟨some d, .makeMap t none, ty, pos, after, none⟩).run c.P w = .ok (.value (.map (some w.heap.size))) (w.alloc (.map #[] 0)) := by
        simp only [execOp, Option.map_none, Sem.run_bind, hrun, Result.andThen_ok, Sem.run_pure]
      rw [hex]
      simp only [Oper.upon]
      refine hK _ _ ⟨S, σ, w.heap.size, #[], 0, hR2, ?_, hd, heap_new w _, rfl, fun h => ?_, hR.below.size, fun b id hl he => ?_, kt, e, h1, h2⟩
      · simp [Act.put, hR.size, hd]
      · have := hR.sLt _ h; omega
      · have := hR.lt (live_put hl); omega
    · cases h
  · cases h

theorem toCell_den {v : V A} {x y : Value} (h : toCell v = some y) (hd : Den c S σ w v x) : x = y := by
  cases v <;> simp only [toCell, Option.some.injEq, reduceCtorEq] at h
  · subst h; exact hd.of_int
  · subst h; exact hd.of_bool
  · subst h; exact hd.of_str
  · subst h; exact hd.of_fn

theorem toCells_den : ∀ {cs : List (V A)} {l xs : List Value}, toCells cs = some l → xs.length = cs.length → (∀ i (hi : i < cs.length), Den c S σ w cs[i] (xs.getD i undef)) → xs = l
  | [], l, xs, h, hl, _ => by
    simp only [toCells, Option.some.injEq] at h
    subst h
    exact List.length_eq_zero_iff.1 hl
  | v :: vs, l, xs, h, hl, hd => by
    simp only [toCells] at h
    split at h
    · rename_i x l' h1 h2
      cases h
      cases xs with
      | nil => cases hl
      | cons x' xs =>
        have h3 := toCell_den h1 (hd 0 (by simp))
        have h4 := toCells_den h2 (xs := xs) (by simpa using hl) (fun i hi => hd (i + 1) (by simpa using hi))
        have h3 : x' = x := h3
        rw [h3, h4]
    · cases h

theorem toVal_den {v : V A} {x y : Value} (h : toVal v = some y) (hd : Den c S σ w v x) : x = y := by
  unfold toVal at h
  split at h
  · rename_i cs
    split at h
    · rename_i xs hxs
      cases h
      obtain ⟨ys, rfl, h1, h2⟩ := hd.of_agg
      have := toCells_den hxs (xs := ys.toList) (by simpa using h1) (fun i hi => by simpa using h2 i hi)
      rw [← this]
    · cases h
  · exact toCell_den h hd

def putO (w : World) (r : Nat) (o : Obj) : World := { w with heap := w.heap.setIfInBounds r o }

theorem putO_bel {r : Nat} {es es' : Array MapEntry} {ck ck' : Nat} (h : w.heap[r]? = some (.map es ck)) : Bel ⟨w, fun b _ => b = r⟩ (putO w r (.map es' ck')) where
  os := rfl
  tape := rfl
  output := rfl
  size := by simp [putO, W0.heap]
  block k _ hn := by
    have : k ≠ r := fun e => hn 0 e
    simp [putO, W0.heap, Array.getElem?_setIfInBounds_ne (Ne.symm this)]
  cell k o _ hn := by
    have : k ≠ r := fun e => hn e
    exact World.cell?_of_block (w := w) (by simp [putO, Array.getElem?_setIfInBounds_ne (Ne.symm this)])
  frozen k o _ := by
    by_cases e : k = r
    · subst e
      have hlt : k < w.heap.size := (Array.getElem?_eq_some_iff.1 h).1
      have h2 : (putO w k (.map es' ck')).heap[k]? = some (.map es' ck') := by simp [putO, hlt]
      simp only [World.frozen?, h2]
      show false = World.frozen? w ⟨k, o, none⟩
      simp only [World.frozen?, h]
    · exact World.frozen?_of_block (w := w) (by simp [putO, Array.getElem?_setIfInBounds_ne (Ne.symm e)])

theorem pend_insert (hc : CfgOk c) {p p' : Pend} (hP : PendRel c n w0 S0 lk p a w) {ops : Array Oper} {i : Nat} {o : Oper} (hi : ops[i]? = some o) {E : Env A} (hE : ∀ k e, look k E = some e → lk k = some e) (h : pendNext E p o = some p')
    {Kp : Act → World → Prop} {Q : Exit → Act → World → Prop} (hK : ∀ a' w', PendRel c n w0 S0 lk p' a' w' → Kp a' w') : wpOp c.P ops Q i Kp a w := by
  obtain ⟨S, σ, blk, es, ck, hR, h1, h2, h3, h4, h5, h6, h7, kt, e, h8, h9⟩ := hP
  obtain ⟨dst, op, ty, pos, after, guard⟩ := o
  unfold pendNext at h
  split at h
  · rename_i t m kk vv hop hdst hg
    simp only at hop hdst hg
    subst hop hdst hg
    split at h
    · rename_i k' x u hb hk hv
      split at h
      · rename_i y hb2 hy
        cases h
        simp only [Bool.and_eq_true, Bool.not_eq_true'] at hb hb2
        have ht : t = p.t := by simpa using hb.1
        have hm : m = p.d := by simpa using hb.2
        have hk' := ksame_eq hb2.1
        subst ht hm hk'
        have ek := (opv_den hR hE (g := []) (fun p hp => by cases hp) hk).of_int
        have ev := toVal_den hy (opv_den hR hE (g := []) (fun p hp => by cases hp) hv)
        have em : a.eval (.tmp p.d) = .map (some blk) := h1
        obtain ⟨r, hr, hh⟩ := findNow_run p.k x es.toList p.l 0 h4
        have hr : r = none := by
          rcases hh with ⟨h, _⟩ | ⟨_, h⟩
          · rw [hb2.2] at h; cases h
          · exact h
        subst hr
        rename_i hr
        have hg : (getObj blk).run c.P w = .ok (.map es ck) w := by simp [getObj, Sem.run, h3]
        have hs : ∀ o, (setObj blk o).run c.P w = .ok () (putO w blk o) := fun o => by simp [setObj, Sem.run, h3, putO]
        have hrun : (Instr.mapUpdate p.t (.map (some blk)) (.int p.k x) y).run c.P w = .ok () (putO w blk (.map (es.push { key := .int p.k x, val := y, born := ck }) (ck + 1))) := by
          simp [Instr.mapUpdate, run_underlying h8, hg, checkKey_int h9, Instr.findKey, run_underlying h9, hr, hs]
        unfold wpOp
        simp only [hi]
        rw [if_pos (wanted_none rfl _)]
        refine .inl ?_
        unfold Oper.wp
        have hex : (execOp a.eval ⟨none, .insert p.t (.tmp p.d) kk vv, ty, pos, after, none⟩).run c.P w = .ok .skip (putO w blk (.map (es.push { key := .int p.k x, val := y, born := ck }) (ck + 1))) := by
          simp only [execOp, em, ek, ev, Sem.run_bind, hrun, Result.andThen_ok, Sem.run_pure]
        rw [hex]
        simp only [Oper.upon]
        have hbel := putO_bel (es' := es.push { key := .int p.k x, val := y, born := ck }) (ck' := ck + 1) h3
        have hR2 := hR.other hc hbel h5 h6 h7
        have hlt : blk < w.heap.size := (Array.getElem?_eq_some_iff.1 h3).1
        refine hK _ _ ⟨S, σ, blk, _, _, hR2, h1, h2, by simp only [putO]; simp [hlt]; exact ⟨rfl, rfl⟩, ?_, h5, h6, h7, kt, e, h8, h9⟩
        simp [h4]
      · cases h
    · cases h
  · cases h

theorem pend_close (hc : CfgOk c) {p : Pend} (hP : PendRel c n w0 S0 lk p a w) : Rel c n w0 S0 (fun k => if k = .slot p.d then some ([], .cmap p.k true p.l) else lk k) a w := by
  obtain ⟨S, σ, blk, es, ck, hR, h1, h2, h3, h4, h5, h6, h7, kt, e, h8, h9⟩ := hP
  have hlt : blk < w.heap.size := (Array.getElem?_eq_some_iff.1 h3).1
  have hR2 := hR.addS hc hlt h6 h7
  exact ⟨_, σ, hR2.setSlot h2 (by rw [h1]; exact .cmap p.k true p.l blk es ck (.inr rfl) h3 h4)⟩

end
end Vm
