/-
  What the interpreter says of one operation is so: the theorem.
-/
import Derived.Test.YthnlknegnlmklaaVm8a
set_option linter.all false
namespace Vm
open Go Go.RowKit
variable {A : Nat → Type}

section
variable {c : Cfg A} {n : Nat} {w0 : W1} {S0 : Nat → Prop} {S : Fz} {σ : Nat → Loc} {lk : K → Option (Ent A)} {a : Act} {w : World}

theorem DenA.append {cs cs' : List (V A)} {xs ys : Array Value} (h : DenA c S σ w cs xs) (h' : DenA c S σ w cs' ys) : DenA c S σ w (cs ++ cs') (xs ++ ys) := by
  refine ⟨by simp [h.1, h'.1], fun i hi => ?_⟩
  rw [Array.getD_eq_getD_getElem?, Array.getElem?_append]
  by_cases hlt : i < cs.length
  · rw [if_pos (by rw [h.1]; exact hlt), List.getElem_append_left hlt, ← Array.getD_eq_getD_getElem?]
    exact h.2 i hlt
  · have h2 : i - cs.length < cs'.length := by simp at hi; omega
    rw [if_neg (by rw [h.1]; exact hlt), List.getElem_append_right (by omega), ← Array.getD_eq_getD_getElem?, h.1]
    exact h'.2 _ h2

theorem wp_did {o : Oper} {s : Sem Value} (he : execOp a.eval o = (do pure (.value (← s)))) {v : V A} {ent : Env A} {x : Value} {w' : World} (hrun : s.run c.P w = .ok x w')
    (hd : Did c n w0 S0 lk o.dst ent v a x w') {K : Act → World → Prop} {Q : Exit → Act → World → Prop} (hK : ∀ x w', Did c n w0 S0 lk o.dst ent v a x w' → K (a.put o.dst x) w') : o.wp c.P a w K Q := by
  unfold Oper.wp
  rw [he]
  simp only [Sem.run_bind, hrun, Result.andThen_ok, Sem.run_pure, Oper.upon]
  exact hK x w' hd

theorem wp_gives (hR : RelAt c n w0 S0 S σ lk a w) {o : Oper} {s : Sem Value} (he : execOp a.eval o = (do pure (.value (← s)))) {v : V A} (hg : Gives c S σ w s v)
    {K : Act → World → Prop} {Q : Exit → Act → World → Prop} (hK : ∀ x w', Did c n w0 S0 lk o.dst [] v a x w' → K (a.put o.dst x) w') : o.wp c.P a w K Q := by
  obtain ⟨x, hx, hd⟩ := hg
  exact wp_did he hx (did_same hR hd) hK

set_option maxHeartbeats 4000000 in
theorem ex_ok (hc : CfgOk c) (hR : RelAt c n w0 S0 S σ lk a w) {E : Env A} (hE : ∀ k e, look k E = some e → lk k = some e) {g : Chain} (hg : Holds a g) (o : Oper) {v : V A} {ent : Env A} {ps : List Prop}
    (h : ex c E g o.dst o.op = some (v, ent, ps)) (hps : All ps) (hpin : ∀ d, o.dst = some d → d ∉ c.pins) (hfr : ∀ d, o.dst = some d → ∀ k g v, lk k = some (g, v) → entAvoids d (k, g, v) = true)
    {K : Act → World → Prop} {Q : Exit → Act → World → Prop} (hK : ∀ x w', Did c n w0 S0 lk o.dst ent v a x w' → K (a.put o.dst x) w') : o.wp c.P a w K Q := by
  obtain ⟨dst, op, ty, pos, after, guard⟩ := o
  simp only at h hfr hpin hK
  have op_den : ∀ {x : Operand} {v : V A}, opv E g x = some v → Den c S σ w v (a.eval x) := fun h => opv_den hR hE hg h
  cases op with
  | move x | assign x =>
    simp only [ex, val] at h
    split at h
    · rename_i u hu
      cases h
      unfold Oper.wp
      simp only [execOp, Sem.run_pure, Oper.upon]
      exact hK _ _ (did_same hR (op_den hu))
    · cases h
  | pick x y z =>
    cases x with
    | tmp t =>
      simp only [ex, val] at h
      split at h
      · rename_i b hb
        split at h
        · rename_i u u' hu hu'
          cases h
          have hbd := (op_den hb).of_bool
          have hslot : a.tmps.getD t undef = .bool b := hbd
          unfold Oper.wp
          simp only [execOp, hbd, asBool, Sem.run_bind, Sem.run_pure, Result.andThen_ok, Oper.upon]
          refine hK _ _ (did_same hR (Den.merge hR.sT ?_))
          cases b
          · simpa using opv_den hR hE (g := (t, false) :: g) (fun p hp => by
              cases hp with
              | head => exact hslot
              | tail _ hm => exact hg p hm) hu'
          · simpa using opv_den hR hE (g := (t, true) :: g) (fun p hp => by
              cases hp with
              | head => exact hslot
              | tail _ hm => exact hg p hm) hu
        · cases h
      · cases h
    | _ => simp [ex] at h
  | alloc t =>
    simp only [ex] at h
    split at h
    · rename_i d cs hz
      obtain ⟨zv, hzv⟩ := zeroCells_some hz
      have hzr := (hc.ty t).zero zv hzv w
      have hzd := zeroCells_den (c := c) (S := S) (σ := σ) (w := w) hzv hz
      have hrun : (Instr.alloc t true (.tuple #[])).run c.P w = .ok (.pointer (some ⟨w.heap.size, 0, none⟩)) (w.alloc (.cells zv.cells t)) := by simp [Instr.alloc, hzr, newVar, newRow]
      split at h
      · rename_i e m ha
        split at h
        · rename_i l hb hl
          cases h
          simp only [Bool.and_eq_true] at hb
          have hlen : cs.length = m * (c.ty e).size := by simpa using hb.1
          have hs0 : (c.ty e).size ≠ 0 := by intro e0; rw [e0] at hb; simp at hb
          have hall : all allFr0 cs = true := by
            have hcell : ∀ x : Value, allFr0 (ofCell x : V A) = true := by intro x; unfold ofCell; split <;> rfl
            unfold zeroCells at hz
            split at hz
            · cases hz
              refine all_get fun i hi => ?_
              simp only [List.getElem_map]; exact hcell _
            · cases hz; simp [all, hcell]
            · cases hz
          obtain ⟨h1, h2, h3⟩ := cells_row hc hR.sT hzd hl hlen (f := true) (fun _ => hall)
          exact wp_did (s := Instr.alloc t true (.tuple #[])) rfl hrun (did_newArr hc hR (hpin d rfl) (hfr d rfl) hs0 h1 (by rw [hzd.1, hlen]) h2 h3) hK
        · cases h
      · split at h
        · rename_i hav
          cases h
          exact wp_did (s := Instr.alloc t true (.tuple #[])) rfl hrun (did_alloc hc hR (fitCells_den _ hzd) t hav (hpin d rfl) (hfr d rfl)) hK
        · cases h
    · cases h
  | box t x =>
    simp only [ex] at h
    split at h
    · rename_i d e f m l hu
      split at h
      · rename_i e' m' ha
        split at h
        · rename_i hb
          cases h
          simp only [Bool.and_eq_true] at hb
          have he : e = e' := by simpa using hb.1
          have hm : m = m' := by simpa using hb.2.1
          subst he hm
          obtain ⟨h1, h2, h3, h4⟩ := hc.arr t e m ha
          have hd := op_den hu
          generalize hy : a.eval x = y at hd
          cases hd with
          | arr _ _ _ _ xs hl hen hx hdd =>
            refine wp_did (s := Instr.box t (a.eval x)) rfl (x := .pointer (some ⟨w.heap.size, 0, none⟩)) (w' := w.alloc (.cells xs t)) ?_ (did_newArr hc hR (hpin d rfl) (hfr d rfl) h2 hl hx hen hdd) hK
            rw [hy]
            simp [Instr.box, newVar, newRow, Value.cells]
        · cases h
      · cases h
    · rename_i d u _ hu
      split at h
      · rename_i cs ha hcs
        split at h
        · rename_i hav
          cases h
          refine wp_did (s := Instr.box t (a.eval x)) rfl (x := .pointer (some ⟨w.heap.size, 0, none⟩)) (w' := w.alloc (.cells (a.eval x).cells t)) ?_ (did_alloc hc hR (cells_den' hcs (fit_den (op_den hu))) t hav (hpin d rfl) (hfr d rfl)) hK
          simp [Instr.box, newVar, newRow]
        · cases h
      · cases h
    · cases h
  | build t parts =>
    simp only [ex, val] at h
    split at h
    · rename_i e m ha
      split at h
      · rename_i z vs hz hvs
        split at h
        · rename_i cs hb hcs
          split at h
          · rename_i l hl
            cases h
            simp only [Bool.and_eq_true] at hb
            have hzl : z.length = m * (c.ty e).size := by simpa using hb.1
            have hs0 : (c.ty e).size ≠ 0 := by intro e0; rw [e0] at hb; simp at hb
            have hP := partsOf_den hR hE hg parts.toList vs hvs
            obtain ⟨zs, hda, hrun⟩ := run_buildArr hc (ys := parts.map fun (i, x) => (i, a.eval x)) ((hc.ty t).arr e m ha) hz hs0 (by simpa using hP) hcs
            obtain ⟨h1, h2, h3⟩ := cells_row hc hR.sT hda hl (by rw [fillParts_length _ _ _ hcs, hzl]) (f := all allFr0 cs) (fun h => h)
            exact wp_gives hR (s := Instr.build t (parts.map fun (i, x) => (i, a.eval x))) rfl ⟨_, hrun, .arr e _ m l zs h1 h2 (by rw [hda.1, fillParts_length _ _ _ hcs, hzl]) h3⟩ hK
          · cases h
        · cases h
      · cases h
    · split at h
      · rename_i e m ha
        split at h
        · rename_i z vs hz hvs
          split at h
          · rename_i cs hcs hs
            cases h
            have hs0 : (c.ty e).size ≠ 0 := by intro h0; rw [h0] at hs; simp at hs
            have hP := partsOf_den hR hE hg parts.toList vs hvs
            obtain ⟨zs, hda, hrun⟩ := run_buildArr hc (ys := parts.map fun (i, x) => (i, a.eval x)) ((hc.ty t).sarr e m ha) hz hs0 (by simpa using hP) hcs
            exact wp_gives hR (s := Instr.build t (parts.map fun (i, x) => (i, a.eval x))) rfl ⟨_, hrun, .agg cs zs hda.1 hda.2⟩ hK
          · cases h
        · cases h
      · split at h
        · rename_i z vs hz hf hvs
          split at h
          · rename_i cs hcs
            cases h
            simp only [Bool.and_eq_true] at hf
            refine wp_gives hR (s := Instr.build t (parts.map fun (i, x) => (i, a.eval x))) rfl (gives_build hc hz hf.2 (by intro e; rw [e] at hf; simp at hf) ?_ hcs) hK
            have := partsOf_den hR hE hg parts.toList vs hvs
            simpa using this
          · cases h
        · cases h
  | buildSlice t len parts =>
    simp only [ex, val] at h
    split at h
    · rename_i e vs hel hvs
      split at h
      · rename_i z hz hs
        split at h
        · rename_i hb
          split at h
          · rename_i cs hcs
            split at h
            · rename_i cs' hcs'
              split at h
              · rename_i l hl
                have hP := partsOf_den hR hE hg parts.toList vs hvs
                obtain ⟨x, w', hrun, hd1, hd2⟩ := did_buildSlice hc hR hE (dst := dst) hpin (fun d hd => hfr d hd) hel hz hs hb (ys := parts.map fun (i, x) => (i, a.eval x)) (by simpa using hP) hcs hcs' hl
                split at h
                · rename_i d
                  split at h
                  · rename_i _ ho
                    cases h
                    exact wp_did (s := Instr.buildSlice t len (parts.map fun (i, x) => (i, a.eval x))) rfl hrun (hd2 d rfl ho) hK
                  · cases h
                  · cases h
                    exact wp_did (s := Instr.buildSlice t len (parts.map fun (i, x) => (i, a.eval x))) rfl hrun hd1 hK
                · cases h
              · cases h
            · cases h
          · cases h
        · cases h
      · cases h
    · cases h
  | load t x =>
    simp only [ex, val] at h
    split at h
    · rename_i id off hx
      split at h
      · rename_i e m ha
        split at h
        · rename_i e' f m' l hrow
          split at h
          · rename_i hb
            cases h
            simp only [Bool.and_eq_true] at hb
            have he : e = e' := by simpa using hb.1
            have hm : m = m' := by simpa using hb.2
            subst he hm
            exact wp_gives hR (s := Instr.loadAt t (a.eval x)) rfl (load_arr hc hR (op_den hx) (hE _ _ hrow) ha) hK
          · cases h
        · cases h
      · split at h
        · rename_i cs hcs
          split at h
          · rename_i u hu
            cases h
            refine wp_gives hR (s := Instr.loadAt t (a.eval x)) rfl ?_ hK
            rw [(op_den hx).of_ptr]
            have := load_ptr hc hR hE hcs hu
            simpa [Instr.loadAt, Instr.sureAddr, Gives] using this
          · cases h
        · cases h
    · rename_i e f el off hx
      split at h
      · rename_i u hu
        cases h
        obtain ⟨b, y, hxe, _, he, hw, hd⟩ := (op_den hx).of_eptr
        refine wp_gives hR (s := Instr.loadAt t (a.eval x)) rfl ?_ hK
        rw [hxe]
        have := load_part (c := c) (S := S) (σ := σ) (w := w) hc (by rw [encF_length]; exact he) hw hd hu
        simpa [Instr.loadAt, Instr.sureAddr, Gives] using this
      · cases h
    · rename_i id e i off hx
      split at h
      · rename_i e' f m l hrow
        split at h
        · rename_i hee
          split at h
          · rename_i u hu
            cases h
            have : e = e' := by simpa using hee
            subst this
            exact wp_gives hR (s := Instr.loadAt t (a.eval x)) rfl (load_optr hc hR (op_den hx) (hE _ _ hrow) hu) hK
          · cases h
        · cases h
      · cases h
    · cases h
  | store t x y =>
    simp only [ex] at h
    split at h
    · rename_i id off e f m l hx hy
      split at h
      · rename_i e' m' e'' f'' m'' l'' ha hrow
        split at h
        · rename_i hb
          cases h
          simp only [Bool.and_eq_true] at hb
          have h1 : e = e' := by simpa using hb.1.1
          have h2 : m = m' := by simpa using hb.1.2
          have h3 : e = e'' := by simpa using hb.2.1
          have h4 : m = m'' := by simpa using hb.2.2
          subst h1 h2 h3 h4
          obtain ⟨w', hst, hd⟩ := did_storeArr hc hR (op_den hx) (hE _ _ hrow) ha (op_den hy) (dst := dst) (z := undef)
          unfold Oper.wp
          have hrun : (execOp a.eval ⟨dst, .store t x y, ty, pos, after, guard⟩).run c.P w = .ok .skip w' := by
            simp only [execOp, Sem.run_bind, hst, Result.andThen_ok, Sem.run_pure]
          rw [hrun]
          simp only [Oper.upon]
          exact hK _ _ hd
        · cases h
      · cases h
    · rename_i id off u _ hx hy
      split at h
      · rename_i old cs hs hold hcs
        split at h
        · rename_i hb
          cases h
          simp only [Bool.and_eq_true] at hb
          have hlen : cs.length = (c.ty t).size := by simpa using hb.1
          have hs0 : (c.ty t).size ≠ 0 := by intro e; rw [e] at hs; simp at hs
          have hdc := cells_den' hcs (fit_den (t := t) (op_den hy))
          obtain ⟨h1, h2⟩ := readCells_spec _ _ _ hold
          have hold' : ∀ i, i < cs.length → ∃ v, lk (.cell id (off + i)) = some ([], v) ∧ v.isJunk = false := fun i hi => by
            obtain ⟨h3, h4⟩ := h2 i (by omega)
            exact ⟨_, hE _ _ h3, h4⟩
          have hcell : ∀ j, j < (a.eval y).cells.toList.length → (w.cell? ((⟨(σ id).blk, off, none⟩ : Addr).add (0 + j))).isSome = true := fun j hj => by
            obtain ⟨v, hv, hj'⟩ := hold' j (by simpa [hdc.1] using hj)
            obtain ⟨⟨x, hx, _⟩, _⟩ := hR.cell id (off + j) [] v hv hj'
            rw [add_plain, Nat.zero_add]
            simp [hx]
          have hfz : ∀ j, w.frozen? ((⟨(σ id).blk, off, none⟩ : Addr).add j) = false := fun j => by
            obtain ⟨v, hv, hj'⟩ := hold' 0 (by omega)
            obtain ⟨_, hfz, _⟩ := hR.cell id (off + 0) [] v hv hj'
            rw [add_plain]; exact hfz _
          have hone : ∀ v ∈ (a.eval y).cells.toList, v.oneCell' = true := fun u hu => by
            obtain ⟨i, hi, rfl⟩ := List.getElem_of_mem hu
            have hi' : i < cs.length := by simpa [hdc.1] using hi
            have := hdc.2 i hi'
            have hii : i < (a.eval y).cells.size := by rw [hdc.1]; exact hi'
            rw [show (a.eval y).cells.getD i undef = (a.eval y).cells[i] by simp [hii]] at this
            rw [Array.getElem_toList]
            exact this.one (all_mem hb.2 _ (List.getElem_mem hi'))
          have hst := run_storeCells (P := c.P) (a := ⟨(σ id).blk, off, none⟩) (a.eval y).cells.toList 0 w hone hcell hfz
          have hd := did_store hc hR (dst := dst) (x := undef) hdc (by intro e; rw [e] at hlen; exact hs0 hlen.symm) hold'
          unfold Oper.wp
          have hrun : (execOp a.eval ⟨dst, .store t x y, ty, pos, after, guard⟩).run c.P w = .ok .skip (setCells ⟨(σ id).blk, off, none⟩ 0 (a.eval y).cells.toList w) := by
            simp only [execOp, Instr.storeAt, (op_den hx).of_ptr, Instr.sureAddr, storeVar, Sem.run_bind, Sem.run_pure, Result.andThen_ok, (hc.ty t).size hs0 w]
            rw [if_neg (by rw [hdc.1, hlen]; simp)]
            rw [hst]
            rfl
          rw [hrun]
          simp only [Oper.upon]
          exact hK _ _ hd
        · cases h
      · cases h
    · rename_i id e i off u hx hy
      split at h
      · rename_i e' f m l cs hs hrow hcs
        split at h
        · rename_i cs' hb hcs'
          split at h
          · rename_i b hdec
            cases h
            simp only [Bool.and_eq_true] at hb
            have hlen : cs.length = (c.ty t).size := by simpa using hb.1
            have hee : e = e' := by simpa using hb.2.2.1
            subst hee
            have hnid : id ∉ ownL cs := fun hm => by
              have := memN_iff.2 hm
              rw [this] at hb
              simp at hb
            have hoff : off + cs.length ≤ (c.ty e).size := by simpa using hb.2.2.2.2
            have hs0 : (c.ty t).size ≠ 0 := by intro e; rw [e] at hs; simp at hs
            have hdc := cells_den' hcs (fit_den (t := t) (op_den hy))
            obtain ⟨S1, hSS, hR1, hfz⟩ := freezeL hc hR hE (ownL cs)
            obtain ⟨h1, h2⟩ := frzL_den hc hE hSS hR1 hfz cs cs' (a.eval y).cells.toList (fun _ h => h) (by simp [hdc.1]) (fun i hi => by simpa using hdc.2 i hi) hcs'
            have hdc' : DenA c S1 σ w cs' (a.eval y).cells := ⟨by rw [h1]; exact hdc.1, fun i hi => by simpa using h2 i hi⟩
            have hrow1 : (look (.row id) (frz E (ownL cs))).or (lk (.row id)) = some ([], .rowc e f m l) := by
              have : look (.row id) (frz E (ownL cs)) = none := by
                have key : ∀ ids : List Nat, id ∉ ids → look (.row id) (frz E ids) = none := by
                  intro ids
                  induction ids with
                  | nil => intro _; rfl
                  | cons s ids ih =>
                    intro hn
                    simp only [frz]
                    split
                    · rw [look_cons, if_neg (by intro h; cases h; exact hn (List.mem_cons_self ..))]
                      exact ih (fun h => hn (List.mem_cons_of_mem _ h))
                    · exact ih (fun h => hn (List.mem_cons_of_mem _ h))
                exact key _ hnid
              rw [this, Option.none_or]; exact hE _ _ hrow
            have hone1 : all one cs' = true := by
              have key : ∀ (cs cs' : List (V A)), all one cs = true → frzL E cs = some cs' → all one cs' = true := by
                intro cs
                induction cs with
                | nil => intro cs' _ h; simp only [frzL, Option.some.injEq] at h; subst h; rfl
                | cons v cs ih =>
                  intro cs' ho h
                  simp only [all, Bool.and_eq_true] at ho
                  simp only [frzL] at h
                  split at h
                  · rename_i u us hu hus
                    cases h
                    simp only [all, Bool.and_eq_true]
                    refine ⟨?_, ih us ho.2 hus⟩
                    cases v <;> simp only [frzB, Option.some.injEq] at hu <;> try (subst hu; exact ho.1)
                    split at hu <;> first | (cases hu; rfl) | cases hu
                  · cases h
              exact key cs cs' hb.2.1 hcs'
            have hxd1 : Den c S1 σ w (.optr id e i off : V A) (a.eval x) := (op_den hx).mono hc hSS (fun _ _ _ => rfl) (fun _ _ => rfl)
            obtain ⟨w', hst, hd⟩ := did_storeOptr hc hR1 (t := t) hxd1 hrow1 hs0 (by rw [h1]; exact hlen) hone1 (by rw [h1]; exact hoff) hdc' hdec (dst := dst) (z := undef)
            unfold Oper.wp
            have hrun : (execOp a.eval ⟨dst, .store t x y, ty, pos, after, guard⟩).run c.P w = .ok .skip w' := by
              simp only [execOp, Sem.run_bind, hst _ rfl, Result.andThen_ok, Sem.run_pure]
            rw [hrun]
            simp only [Oper.upon]
            refine hK _ _ ?_
            obtain ⟨S', σ', hR', hd'⟩ := hd
            refine ⟨S', σ', hR'.weaken (fun k e' he => ?_), hd'⟩
            split at he
            · cases he
            · rename_i hne
              simp only [hne, if_false]
              rw [look_cons] at he
              rw [look_cons]
              by_cases hk : k = .row id
              · simpa [hk] using he
              · simpa [hk, look] using he
          · cases h
        · cases h
      · cases h
    · cases h
  | nilCheck x =>
    simp only [ex, val] at h
    split at h
    · rename_i id off hx
      cases h
      have hd := op_den hx
      unfold Oper.wp
      simp only [execOp, hd.of_ptr, Sem.run_pure, Oper.upon]
      exact hK _ _ (did_same hR (by rw [← hd.of_ptr]; exact hd))
    · rename_i e f el off hx
      cases h
      have hd := op_den hx
      obtain ⟨b, y, hxe, _⟩ := hd.of_eptr
      unfold Oper.wp
      simp only [execOp, hxe, Sem.run_pure, Oper.upon]
      exact hK _ _ (did_same hR (by rw [← hxe]; exact hd))
    · rename_i f hx
      cases h
      have hd := op_den hx
      unfold Oper.wp
      simp only [execOp, hd.of_fn, Sem.run_pure, Oper.upon]
      exact hK _ _ (did_same hR (by rw [← hd.of_fn]; exact hd))
    · rename_i f fs cs hx
      cases h
      have hd := op_den hx
      have hex : ∃ xs ys, a.eval x = .func (.func f) xs ys := by
        generalize a.eval x = u at hd
        cases hd with
        | clo _ _ _ xs ys => exact ⟨xs, ys, rfl⟩
      obtain ⟨xs, ys, hxe⟩ := hex
      unfold Oper.wp
      simp only [execOp, hxe, Sem.run_pure, Oper.upon]
      exact hK _ _ (did_same hR (by rw [← hxe]; exact hd))
    · cases h
  | makeFunc fn fs cs =>
    cases fn with
    | func f =>
      simp only [ex, val] at h
      split at h
      · rename_i vs us hvs hus
        cases h
        obtain ⟨hl, hd⟩ := argsOf_den hc hR hE hg _ _ _ hvs
        obtain ⟨hl', hd'⟩ := argsOf_den hc hR hE hg _ _ _ hus
        exact wp_gives hR (s := Instr.makeFunc (.func f) (fs.map a.eval) (cs.map a.eval)) rfl ⟨.func (.func f) (fs.map a.eval) (cs.map a.eval), rfl, .clo f vs us _ _ (by simpa using hl) (fun i hi => by simpa using hd i hi) (by simpa using hl') (fun i hi => by simpa using hd' i hi)⟩ hK
      · cases h
    | _ => simp [ex] at h
  | makeSlice t len cap =>
    simp only [ex] at h
    split at h
    · rename_i d k1 n1 k2 m1 hlen hcap
      split at h
      · rename_i e hel
        split at h
        · rename_i z hz
          split at h
          · rename_i b hb hdec
            cases h
            simp only [Bool.and_eq_true] at hb
            obtain ⟨h0, h1, h2⟩ := hps
            have hs0 : (c.ty e).size ≠ 0 := by intro e0; rw [e0] at hb; simp at hb
            have hb0 : (c.ty e).bytes ≠ 0 := by intro e0; rw [e0] at hb; simp at hb
            obtain ⟨x, w', hrun, hd⟩ := did_makeSlice hc hR (k := k1) (k' := k2) (hpin d rfl) (hfr d rfl) hel hb.1 hs0 hb0 hz (by simpa using hb.2.2.2) hdec h0 h1 h2
            have e1 := (op_den hlen).of_int
            have e2 := (op_den hcap).of_int
            exact wp_did (s := Instr.makeSlice t (a.eval len) (a.eval cap)) rfl (by rw [e1, e2]; exact hrun) hd hK
          · cases h
        · cases h
      · cases h
    · cases h
  | binOp op t x y yt =>
    simp only [ex, val] at h
    have he : execOp a.eval ⟨dst, .binOp op t x y yt, ty, pos, after, guard⟩ = (do pure (.value (← (do eqGuard op t x y (a.eval x) (a.eval y); binOp op t (a.eval x) (a.eval y))))) := rfl
    split at h
    · rename_i k p k' q hx hy
      split at h
      · split at h
        · rename_i u ps' hsh
          cases h
          exact wp_gives hR he (gives_shift (op_den hx) (op_den hy) k k' p q rfl rfl hsh hps (fun hs hop => (sure_quo (k := k') hs (op_den hy)).2 hop)) hK
        · cases h
      · rename_i hop
        split at h
        · rename_i hk
          split at h
          · rename_i u ps' hb
            cases h
            exact wp_gives hR he (gives_bin (op_den hx) (op_den hy) k k' p q rfl rfl hop hk hb hps (fun hs => (sure_quo (k := k') hs (op_den hy)).1 hop)) hK
          · cases h
        · cases h
    · rename_i p q hx hy
      split at h
      · rename_i hb
        split at h
        · cases h; exact wp_gives hR he (gives_beq (op_den hx) (op_den hy) ((hc.ty t).isBool hb) (.inl ⟨rfl, rfl⟩)) hK
        · cases h; exact wp_gives hR he (gives_beq (op_den hx) (op_den hy) ((hc.ty t).isBool hb) (.inr ⟨rfl, rfl⟩)) hK
        · cases h
      · cases h
    · rename_i p q hx hy
      split at h
      · rename_i u ps' hb
        cases h
        exact wp_gives hR he (gives_str (op_den hx) (op_den hy) p q rfl rfl hb hps) hK
      · cases h
    · rename_i p m k hx hy
      split at h
      · rename_i e hel
        have hu := (hc.ty t).elem _ hel
        have e1 := (op_den hx).of_raw
        have e2 := (op_den hy).of_raw
        split at h
        · cases h; exact wp_gives hR he (gives_nil hu e1 e2 (.inl ⟨rfl, rfl⟩)) hK
        · cases h; exact wp_gives hR he (gives_nil hu e1 e2 (.inr ⟨rfl, rfl⟩)) hK
        · cases h
      · cases h
    · rename_i t' f' b l hx hy
      split at h
      · rename_i e hel
        have hu := (hc.ty t).elem _ hel
        obtain ⟨p, m, k, e1⟩ := (op_den hx).of_cons
        have e2 := (op_den hy).of_raw
        split at h
        · cases h; exact wp_gives hR he (gives_nil (p := some p) hu e1 e2 (.inl ⟨rfl, rfl⟩)) hK
        · cases h; exact wp_gives hR he (gives_nil (p := some p) hu e1 e2 (.inr ⟨rfl, rfl⟩)) hK
        · cases h
      · cases h
    · rename_i cs ds hx hy
      split at h
      · rename_i sh r hf hr
        split at h
        · rename_i hsh
          simp only [Bool.and_eq_true] at hsh
          split at h
          · cases h; exact wp_gives hR he (gives_agg hc (op_den hx) (op_den hy) hf hsh.1 hsh.2 hr (.inl ⟨rfl, rfl⟩)) hK
          · cases h; exact wp_gives hR he (gives_agg hc (op_den hx) (op_den hy) hf hsh.1 hsh.2 hr (.inr ⟨rfl, rfl⟩)) hK
          · cases h
        · cases h
      · cases h
    · cases h
  | unOp op t x =>
    simp only [ex, val] at h
    cases hx : opv E g x with
    | none => rw [hx] at h; cases op <;> simp at h
    | some u =>
      rw [hx] at h
      have : ent = [] ∧ ps = [] := by
        cases op <;> cases u <;> simp at h <;> obtain ⟨_, rfl, rfl⟩ := h <;> exact ⟨rfl, rfl⟩
      obtain ⟨rfl, rfl⟩ := this
      exact wp_gives hR (s := Op.unary op (a.eval x)) rfl (gives_unop (op_den hx) h) hK
  | convert s t x =>
    simp only [ex, val] at h
    split at h
    · rename_i k0 k k1 m hs ht hx
      cases h
      refine wp_gives hR (s := convert s t (a.eval x)) rfl ⟨.int k (k.wrap m), ?_, .int _ _⟩ hK
      rw [(op_den hx).of_int]
      simp [convert, run_underlying ((hc.ty s).kind _ hs), run_underlying ((hc.ty t).kind _ ht), Conv.intToInt]
    · rename_i e f l hks hkt hx
      split at h
      · rename_i e' hel hk hst
        split at h
        · rename_i hb
          cases h
          simp only [Bool.and_eq_true] at hb
          have he : e = e' := by simpa using hb.1
          subst he
          exact wp_gives hR (s := convert s t (a.eval x)) rfl (gives_toStr hc hel hk hst (by simpa using hb.2) (op_den hx)) hK
        · cases h
      · cases h
    · cases h
  | lookup t x i ok =>
    cases ok with
    | false => simp [ex] at h
    | true =>
      simp only [ex, val] at h
      split at h
      · rename_i k e k' f l k'' m hm hx hi
        split at h
        · rename_i z hb hz
          cases h
          simp only [Bool.and_eq_true] at hb
          have h1 := ksame_eq hb.1
          have h2 := ksame_eq hb.2
          subst h1 h2
          have hie := (op_den hi).of_int
          refine wp_gives hR (s := Instr.lookup t (a.eval x) (a.eval i) true) rfl ?_ hK
          rw [hie]
          exact gives_lookup hc hR.sT hm (op_den hx) hz
        · cases h
      · cases h
  | slice t x lo hi mx =>
    cases mx with
    | some _ => simp [ex] at h
    | none =>
      simp only [ex] at h
      split at h
      · rename_i e f l hx
        split at h
        · rename_i e' hel
          split at h
          · rename_i i j hee hlo hhi
            cases h
            simp only [Bool.and_eq_true] at hee
            have : e = e' := by simpa using hee.1
            subst this
            have hs0 : (c.ty e).size ≠ 0 := by intro e0; rw [e0] at hee; simp at hee
            obtain ⟨h0, h1, h2⟩ := hps
            exact wp_gives hR (s := Instr.sliceAt t (a.eval x) (lo.map a.eval) (hi.map a.eval) none) rfl (gives_slice hc hR hE hg (op_den hx) hel hs0 hlo hhi h0 h1 h2) hK
          · cases h
        · cases h
      · rename_i r hx
        split at h
        · rename_i e' e f l hel hrow
          split at h
          · rename_i i j hee hlo hhi
            simp only [Bool.and_eq_true] at hee
            have : e = e' := by simpa using hee.1
            subst this
            have hs0 : (c.ty e).size ≠ 0 := by intro e0; rw [e0] at hee; simp at hee
            split at h
            · rename_i d
              split at h
              · split at h
                · cases h
                  obtain ⟨h0, h1⟩ := hps
                  obtain ⟨y, hrun, hd⟩ := did_cut hc hR hE hg (hpin d rfl) (hfr d rfl) (op_den hx) (hE _ _ hrow) hel hhi h0 h1
                  exact wp_did (s := Instr.sliceAt t (a.eval x) none (hi.map a.eval) none) rfl hrun hd hK
                · cases h
              · cases h
                obtain ⟨h0, h1, h2⟩ := hps
                have hR1 := hR.freeze hc (hE _ _ hrow)
                have hd1 : Den c _ σ w (.list e f l) (.slice (σ r).base (σ r).len (σ r).cap) := (hR1.row r [] (.list e f l) (by simp) rfl).1
                have hxe : a.eval x = .slice (σ r).base (σ r).len (σ r).cap := by
                  have := op_den hx
                  generalize a.eval x = u at this
                  cases this; rfl
                obtain ⟨y, hrun, hd⟩ := gives_slice (S := S) hc hR hE hg hd1 hel hs0 hlo hhi h0 h1 h2
                rw [← hxe] at hrun
                refine wp_did (s := Instr.sliceAt t (a.eval x) (lo.map a.eval) (hi.map a.eval) none) rfl hrun ⟨_, σ, hR1.weaken (fun k e' he => ?_), hd⟩ hK
                split at he
                · cases he
                · rw [look_cons] at he
                  by_cases hk : k = .row r
                  · simpa [hk] using he
                  · simpa [hk, look] using he
            · cases h
          · cases h
        · rename_i e' e f l hel hrow
          split at h
          · rename_i i j hee hlo hhi
            cases h
            simp only [Bool.and_eq_true] at hee
            have : e = e' := by simpa using hee.1
            subst this
            have hs0 : (c.ty e).size ≠ 0 := by intro e0; rw [e0] at hee; simp at hee
            obtain ⟨h0, h1, h2⟩ := hps
            have hd1 : Den c S σ w (.list e f l) (.slice (σ r).base (σ r).len (σ r).cap) := (hR.row r [] (.list e f l) (hE _ _ hrow) rfl).1
            have hxe : a.eval x = .slice (σ r).base (σ r).len (σ r).cap := by
              have := op_den hx
              generalize a.eval x = u at this
              cases this; rfl
            exact wp_gives hR (s := Instr.sliceAt t (a.eval x) (lo.map a.eval) (hi.map a.eval) none) rfl (gives_slice hc hR hE hg (by rw [hxe]; exact hd1) hel hs0 hlo hhi h0 h1 h2) hK
          · cases h
        · cases h
      · rename_i s hx
        split at h
        · rename_i i j hst hlo hhi
          cases h
          obtain ⟨h0, h1, h2⟩ := hps
          exact wp_gives hR (s := Instr.sliceAt t (a.eval x) (lo.map a.eval) (hi.map a.eval) none) rfl (gives_sub hc hR hE hg (op_den hx) hst hlo hhi h0 h1 h2) hK
        · cases h
      · cases h
  | fieldAddr t x f =>
    simp only [ex, val] at h
    split at h
    · rename_i id off o ft hx hfld
      split at h
      · cases h
      · rename_i m hm
        cases h
        refine wp_gives hR (s := Instr.fieldAt t (a.eval x) f) rfl ?_ hK
        have hne : (c.ty t).fields ≠ [] := by intro e; rw [e] at hfld; simp [nth] at hfld
        obtain ⟨fs, hfs, hmap⟩ := (hc.ty t).fields hne
        rw [nth_eq, ← hmap] at hfld
        simp only [List.getElem?_map, Array.getElem?_toList, Option.map_eq_some_iff] at hfld
        obtain ⟨fl, hfl, hpr⟩ := hfld
        cases hpr
        refine ⟨.pointer (some ⟨(σ id).blk, off + fl.offset, none⟩), ?_, .ptr _ _⟩
        rw [(op_den hx).of_ptr]
        have hsz := (hc.ty fl.type).size (by omega) w
        have hsz0 : (c.ty fl.type).size ≠ 0 := by omega
        simp [Instr.fieldAt, run_underlying hfs, hfl, Instr.sureAddr, fieldPlace, hsz, hsz0, add_plain]
    · rename_i e fr el off o ft hx hfld
      split at h
      · cases h
      · rename_i m hm
        cases h
        refine wp_gives hR (s := Instr.fieldAt t (a.eval x) f) rfl ?_ hK
        have hne : (c.ty t).fields ≠ [] := by intro e; rw [e] at hfld; simp [nth] at hfld
        obtain ⟨fs, hfs, hmap⟩ := (hc.ty t).fields hne
        rw [nth_eq, ← hmap] at hfld
        simp only [List.getElem?_map, Array.getElem?_toList, Option.map_eq_some_iff] at hfld
        obtain ⟨fl, hfl, hpr⟩ := hfld
        cases hpr
        obtain ⟨b, y, hxe, hSb, he, hw, hd⟩ := (op_den hx).of_eptr
        refine ⟨.pointer (some (b.add (off + fl.offset))), ?_, .eptr e fr el _ b y hSb he hw hd⟩
        rw [hxe]
        have hsz := (hc.ty fl.type).size (by omega) w
        have hsz0 : (c.ty fl.type).size ≠ 0 := by omega
        simp [Instr.fieldAt, run_underlying hfs, hfl, Instr.sureAddr, fieldPlace, hsz, hsz0, add_add]
    · rename_i id e i off o ft hx hfld
      split at h
      · cases h
      · rename_i m hm
        cases h
        refine wp_gives hR (s := Instr.fieldAt t (a.eval x) f) rfl ?_ hK
        have hne : (c.ty t).fields ≠ [] := by intro e; rw [e] at hfld; simp [nth] at hfld
        obtain ⟨fs, hfs, hmap⟩ := (hc.ty t).fields hne
        rw [nth_eq, ← hmap] at hfld
        simp only [List.getElem?_map, Array.getElem?_toList, Option.map_eq_some_iff] at hfld
        obtain ⟨fl, hfl, hpr⟩ := hfld
        cases hpr
        obtain ⟨hi, hxe⟩ := (op_den hx).of_optr
        refine ⟨.pointer (some ⟨(σ id).blk, i * (c.ty e).size + (off + fl.offset), none⟩), ?_, .optr id e i _ hi⟩
        rw [hxe]
        have hsz := (hc.ty fl.type).size (by omega) w
        have hsz0 : (c.ty fl.type).size ≠ 0 := by omega
        simp [Instr.fieldAt, run_underlying hfs, hfl, Instr.sureAddr, fieldPlace, hsz, hsz0, add_plain, Nat.add_assoc]
    · cases h
  | field t x f =>
    simp only [ex, val] at h
    split at h
    · rename_i cs o ft hx hfld
      split at h
      · rename_i u hu
        cases h
        refine wp_gives hR (s := Instr.field t (a.eval x) f) rfl ?_ hK
        have hne : (c.ty t).fields ≠ [] := by intro e; rw [e] at hfld; simp [nth] at hfld
        obtain ⟨fs, hfs, hmap⟩ := (hc.ty t).fields hne
        rw [nth_eq, ← hmap] at hfld
        simp only [List.getElem?_map, Array.getElem?_toList, Option.map_eq_some_iff] at hfld
        obtain ⟨fl, hfl, hpr⟩ := hfld
        cases hpr
        obtain ⟨xs, hxs, hda⟩ := (op_den hx).of_agg
        obtain ⟨y, hy, hd⟩ := part_den hc hu hda
        refine ⟨y, ?_, hd⟩
        rw [hxs]
        simp [Instr.field, run_underlying hfs, hfl, asAgg, hy]
      · cases h
    · cases h
  | indexAddr t x i =>
    simp only [ex, val] at h
    split at h
    · rename_i e f l k m hx hi
      split at h
      · rename_i e' hel
        split at h
        · rename_i hee
          cases h
          have : e = e' := by simpa using hee
          subst this
          exact wp_gives hR (s := Instr.indexAt t (a.eval x) (a.eval i)) rfl (gives_indexAddr hc (op_den hx) (op_den hi) hel hps.1 hps.2) hK
        · cases h
      · cases h
    · rename_i r k m hx hi
      split at h
      · rename_i e' e f l hel hrow
        split at h
        · rename_i hee
          cases h
          have : e = e' := by simpa using hee
          subst this
          exact wp_gives hR (s := Instr.indexAt t (a.eval x) (a.eval i)) rfl (gives_indexOwn hc hR (op_den hx) (hE _ _ hrow) (op_den hi) hel hps.1 hps.2) hK
        · cases h
      · rename_i e' e f l hel hrow
        split at h
        · rename_i hee
          cases h
          have : e = e' := by simpa using hee
          subst this
          have hd1 : Den c S σ w (.list e f l) (.slice (σ r).base (σ r).len (σ r).cap) := (hR.row r [] (.list e f l) (hE _ _ hrow) rfl).1
          have hxe : a.eval x = .slice (σ r).base (σ r).len (σ r).cap := by
            have := op_den hx
            generalize a.eval x = u at this
            cases this; rfl
          exact wp_gives hR (s := Instr.indexAt t (a.eval x) (a.eval i)) rfl (gives_indexAddr hc (by rw [hxe]; exact hd1) (op_den hi) hel hps.1 hps.2) hK
        · cases h
      · cases h
    · rename_i id off k m hx hi
      split at h
      · rename_i e m' ha
        split at h
        · rename_i e' f m'' l hrow
          split at h
          · rename_i hb
            cases h
            simp only [Bool.and_eq_true] at hb
            have h1 : e = e' := by simpa using hb.1
            have h2 : m' = m'' := by simpa using hb.2
            subst h1 h2
            exact wp_gives hR (s := Instr.indexAt t (a.eval x) (a.eval i)) rfl (gives_indexArr hc hR (op_den hx) (hE _ _ hrow) (op_den hi) ha hps.1 hps.2) hK
          · cases h
        · cases h
      · split at h
        · rename_i e m' i' ha
          split at h
          · rename_i hb
            cases h
            simp only [Bool.and_eq_true] at hb
            have hs0 : (c.ty e).size ≠ 0 := by intro e0; rw [e0] at hb; simp at hb
            exact wp_gives hR (s := Instr.indexAt t (a.eval x) (a.eval i)) rfl (gives_indexSmall hc (op_den hx) (op_den hi) ha hs0 (by simpa using hb.1)) hK
          · cases h
        · cases h
    · cases h
  | index t x i =>
    simp only [ex, val] at h
    split at h
    · rename_i s k m hx hi
      split at h
      · rename_i hst
        cases h
        exact wp_gives hR (s := Instr.index t (a.eval x) (a.eval i)) rfl (gives_index hc (op_den hx) (op_den hi) hst hps.1 hps.2) hK
      · cases h
    · rename_i e f m l k i' hx hi
      split at h
      · rename_i e' m' ha
        split at h
        · rename_i u hb hu
          cases h
          simp only [Bool.and_eq_true] at hb
          have h1 : e = e' := by simpa using hb.1.1
          have h2 : m = m' := by simpa using hb.1.2
          subst h1 h2
          have hs0 : (c.ty e).size ≠ 0 := by intro e0; rw [e0] at hb; simp at hb
          exact wp_gives hR (s := Instr.index t (a.eval x) (a.eval i)) rfl (gives_arrElem hc (op_den hx) (op_den hi) ha hs0 hps.1 hps.2 hu) hK
        · cases h
      · cases h
    · rename_i cs k m hx hi
      split at h
      · rename_i e m' i' ha
        split at h
        · rename_i u hb hu
          cases h
          simp only [Bool.and_eq_true] at hb
          have hs0 : (c.ty e).size ≠ 0 := by intro e0; rw [e0] at hb; simp at hb
          exact wp_gives hR (s := Instr.index t (a.eval x) (a.eval i)) rfl (gives_smallElem hc (op_den hx) (op_den hi) ha hs0 (by simpa using hb.1) hu) hK
        · cases h
      · cases h
    · cases h
  | extract x i =>
    simp only [ex, val] at h
    split at h
    · rename_i vs hx
      split at h
      · rename_i u hu
        cases h
        obtain ⟨xs, hxs, hda⟩ := (op_den hx).of_tup
        rw [nth_eq] at hu
        obtain ⟨hlt, hv⟩ := List.getElem?_eq_some_iff.1 hu
        have hd := hda.2 i hlt
        rw [hv] at hd
        refine wp_gives hR (s := Instr.extract (a.eval x) i) rfl ⟨xs.getD i undef, ?_, hd⟩ hK
        have hlt' : i < xs.size := by rw [hda.1]; exact hlt
        rw [hxs]
        simp [Instr.extract, hlt']
      · cases h
    · cases h
  | call cl =>
    obtain ⟨callee, args, argTypes⟩ := cl
    cases callee with
    | invoke r m => simp [ex] at h
    | value f =>
      have run : ∀ (f' : Nat) (fs cs vs : List (V A)) (xs ys : Array Value) (us : List (V A)) (r : V A) (outs : List (List (V A))) (ps' : List Prop), a.eval f = .func (.func f') xs ys → xs.size = fs.length → ys.size = cs.length →
          (∀ i (hi : i < fs.length), Den c S σ w fs[i] (xs.getD i undef)) → (∀ i (hi : i < cs.length), Den c S σ w cs[i] (ys.getD i undef)) → argsOf c E g args.toList argTypes.toList = some vs → viewArgs E (fs ++ vs ++ cs) = some us →
          (((∀ args w, (callFunc f' args).run c.P w = .ok (.enter f' args) w) ∧ CallOk c f' us r outs) ∨ (outs = [] ∧ ExtOk c f' us r)) → answer c E dst (fs ++ vs ++ cs) r outs ps' = some (v, ent, ps') →
          Oper.wp c.P ⟨dst, .call { callee := .value f, args, argTypes }, ty, pos, after, guard⟩ a w K Q := by
        intro f' fs cs vs xs ys us r outs ps' hfe hxl hyl hxd hyd hvs hus hany h
        obtain ⟨hl, hd⟩ := argsOf_den hc hR hE hg _ _ _ hvs
        have hsz : (xs ++ args.map a.eval ++ ys).size = (fs ++ vs ++ cs).length := by
          have : args.size = vs.length := by simpa using hl
          simp [hxl, hyl, this]
        have hda : DenA c S σ w vs (args.map a.eval) := ⟨by simpa using hl, fun i hi => by simpa using hd i hi⟩
        have hden := ((DenA.append ⟨hxl, hxd⟩ hda).append (cs' := cs) (ys := ys) ⟨hyl, hyd⟩).2
        have hexec : ∀ r, (callFunc f' (xs ++ args.map a.eval ++ ys)).run c.P w = r → (execOp a.eval ⟨dst, .call { callee := .value f, args, argTypes }, ty, pos, after, guard⟩).run c.P w = r := by
          intro r hr
          simp only [execOp, resolve, hfe, Deferred.ofValue, invoke, Sem.run_bind, Sem.run_pure, Result.andThen_ok]
          exact hr
        rcases hany with ⟨hcal, hok⟩ | ⟨rfl, hext⟩
        · have hrun := hexec _ (hcal (xs ++ args.map a.eval ++ ys) w)
          unfold Oper.wp
          rw [hrun]
          simp only [Oper.upon]
          refine (did_call hc hR hE (dst := dst) hpin hfr hsz hden hus hok h).mono ?_
          rintro e w' ⟨x, rfl, hdid⟩
          exact hK x w' hdid
        · -- a function without a text
          obtain ⟨S1, hSS, hR1, hfz⟩ := freezeL hc hR hE (ownArgs E (fs ++ vs ++ cs))
          have hnod : nodupN (refIds (fs ++ vs ++ cs)) = true ∧ refIds (fs ++ vs ++ cs) = [] := by
            unfold answer at h
            split at h
            · rename_i es hnd hes
              simp only [Bool.and_eq_true] at hnd
              refine ⟨hnd.1, ?_⟩
              cases hri : refIds (fs ++ vs ++ cs) with
              | nil => rfl
              | cons i l => rw [hri] at hes; simp [writeRefs] at hes
            · cases h
          have hargs := viewArgs_ok hc hR hE hSS rfl hR1 hfz hsz hden hus hnod.1
          obtain ⟨g1, g2⟩ := viewArgs_get _ _ hus
          have hnoref : ∀ i (hi : i < us.length), ∀ cs', us[i] ≠ .ref cs' := fun i hi cs' he => by
            have := g2 i (by rw [← g1]; exact hi) hi
            rw [he] at this
            obtain ⟨id, e1, _⟩ := viewArg_ref this
            have hm := refIds_mem (fs ++ vs ++ cs) i id (by rw [List.getElem?_eq_getElem (by rw [← g1]; exact hi), e1])
            rw [hnod.2] at hm; cases hm
          obtain ⟨x, hx, hden2⟩ := hext w (oldS S1) σ (xs ++ args.map a.eval ++ ys) (fun b h => by cases h.1) (by rw [hsz, g1]) (fun i hi => by
            have := hargs.den i hi
            have hn := hnoref i hi
            revert this hn
            generalize us[i] = u
            intro this hn
            cases u <;> first | exact this | exact absurd rfl (hn _))
          have hrun := hexec _ hx
          unfold Oper.wp
          rw [hrun]
          simp only [Oper.upon]
          refine hK _ _ ?_
          have hok : CallOk c f' us r [] → False ∨ True := fun _ => .inr trivial
          -- as if the function had been called
          have hbel : Bel ⟨w, Bc us (betaOf σ (fs ++ vs ++ cs))⟩ w := Bel.refl _
          have hres : ResDen c w.heap.size (oldS S1) σ w r x := by
            cases r <;> first | exact hden2 | cases hden2
          have houts : OutsDen c (oldS S1) σ w (betaOf σ (fs ++ vs ++ cs)) 0 us [] := by
            have key : ∀ (us : List (V A)) (k : Nat), (∀ i (hi : i < us.length), ∀ cs', us[i] ≠ .ref cs') → OutsDen c (oldS S1) σ w (betaOf σ (fs ++ vs ++ cs)) k us [] := by
              intro us
              induction us with
              | nil => intro k _; trivial
              | cons u us ih =>
                intro k hn
                have h0 := hn 0 (by simp)
                have hr := ih (k + 1) (fun i hi => hn (i + 1) (by simpa using hi))
                cases u <;> first | exact hr | exact absurd rfl (h0 _)
            exact key us 0 hnoref
          exact did_answer hc hR hE hSS hR1 hfz hpin hfr hus hbel (S' := oldS S1) (fun f b h => .inl ⟨h.1, rfl, h.2⟩) (fun b h => by cases h.1) hres houts h
      have answer_ps : ∀ {raw : List (V A)} {r : V A} {outs : List (List (V A))} {ps' : List Prop}, answer c E dst raw r outs ps' = some (v, ent, ps) → ps' = ps := by
        intro raw r outs ps' h
        unfold answer at h
        split at h
        · split at h
          · split at h
            · split at h <;> (cases h; rfl)
            · cases h; rfl
          · cases h; rfl
        · cases h
      simp only [ex] at h
      split at h
      · rename_i l vs hf hvs
        split at h
        · rename_i us hus
          split at h
          · rename_i r p hcall
            have hps' := answer_ps h
            subst hps'
            obtain ⟨f', hf', hany⟩ := callS_ok hc hcall hps
            have hfd := op_den hf
            have hfe : a.eval f = .func (.func f') #[] #[] := by
              rw [← hf']
              generalize a.eval f = u at hfd
              cases hfd; rfl
            refine run f' [] [] vs #[] #[] us r [] [p] hfe rfl rfl (fun i hi => absurd hi (Nat.not_lt_zero _)) (fun i hi => absurd hi (Nat.not_lt_zero _)) hvs (by simpa using hus) ?_ (by simpa using h)
            rcases hany with h1 | h1
            · exact .inl h1
            · exact .inr ⟨rfl, h1⟩
          · cases h
        · cases h
      · rename_i vf vs hne hf hvs
        split at h
        · rename_i f' fs cs hcl
          split at h
          · rename_i us hus
            split at h
            · rename_i r outs ps' hcall
              have hps' := answer_ps h
              subst hps'
              have hfd := op_den hf
              -- the callee's value, and the arguments that it holds
              have hfv : ∃ xs ys : Array Value, a.eval f = .func (.func f') xs ys ∧ xs.size = fs.length ∧ ys.size = cs.length ∧ (∀ i (hi : i < fs.length), Den c S σ w fs[i] (xs.getD i undef)) ∧ (∀ i (hi : i < cs.length), Den c S σ w cs[i] (ys.getD i undef)) := by
                unfold calleeOf at hcl
                split at hcl
                · cases hcl
                  exact ⟨#[], #[], hfd.of_fn, rfl, rfl, fun i hi => absurd hi (Nat.not_lt_zero _), fun i hi => absurd hi (Nat.not_lt_zero _)⟩
                · cases hcl
                  generalize a.eval f = u at hfd
                  cases hfd with
                  | clo _ _ _ xs ys h1 h2 h3 h4 => exact ⟨xs, ys, rfl, h1, h3, h2, h4⟩
                · cases hcl
              obtain ⟨xs, ys, hfe, hxl, hyl, hxd, hyd⟩ := hfv
              exact run f' fs cs vs xs ys us r outs ps' hfe hxl hyl hxd hyd hvs hus (hc.call f' us _ _ _ hcall hps) h
            · cases h
          · cases h
        · cases h
      · cases h
    | builtin b =>
      cases b with
      | len =>
        simp only [ex, val] at h
        have hex : ∀ t us, argTypes.toList = [t] → (argsOf c E g args.toList []).bind (viewAll E) = some us → us.length = 1 → ∃ x v, args = #[x] ∧ argTypes = #[t] ∧ Den c S σ w v (a.eval x) ∧ ∃ u, us = [u] ∧ viewB E v = some u := fun t us ht hus h1 => by
          cases hvs : argsOf c E g args.toList [] with
          | none => rw [hvs] at hus; cases hus
          | some vs =>
            rw [hvs] at hus
            simp only [Option.bind_some] at hus
            obtain ⟨hl, hd⟩ := argsOf_den hc hR hE hg _ _ _ hvs
            cases vs with
            | nil => simp only [viewAll, Option.some.injEq] at hus; subst hus; cases h1
            | cons v vs =>
              simp only [viewAll] at hus
              split at hus
              · rename_i u us' hu hus'
                cases hus
                have hn : vs = [] := by
                  cases vs with
                  | nil => rfl
                  | cons v2 vs =>
                    simp only [viewAll] at hus'
                    split at hus'
                    · cases hus'; cases h1
                    · cases hus'
                subst hn
                simp only [viewAll, Option.some.injEq] at hus'
                subst hus'
                have hs : args.toList.length = 1 := by simpa using hl
                obtain ⟨x, hx⟩ := List.length_eq_one_iff.1 hs
                have h0 := hd 0 (by simp)
                rw [hx] at h0
                exact ⟨x, v, by apply Array.ext'; simpa using hx, by apply Array.ext'; simpa using ht, h0, u, rfl, hu⟩
              · cases hus
        split at h
        · rename_i e f l t hvs ht
          split at h
          · rename_i e' hel
            cases h
            obtain ⟨x, v, rfl, rfl, hd, u, hu, hv⟩ := hex t _ ht hvs rfl
            cases hu
            have hxe : ∃ p cap, a.eval x = .slice p l.length cap := by
              generalize a.eval x = y at hd
              cases v with
              | own r =>
                cases hd
                simp only [viewB] at hv
                split at hv
                · rename_i t1 f1 l1 hrow; cases hv
                  have h1 : RowAt c S σ w (σ r) _ _ none _ := (hR.row r [] _ (hE _ _ hrow) rfl).1
                  exact ⟨_, _, by rw [h1.len]⟩
                · rename_i t1 f1 l1 hrow; cases hv
                  have h1 : Den c S σ w (.list _ _ _) _ := (hR.row r [] _ (hE _ _ hrow) rfl).1
                  obtain ⟨p, cap, b, y, h2, _⟩ := h1.of_list
                  exact ⟨p, cap, h2⟩
                · cases hv
              | list t1 f1 l1 =>
                simp only [viewB, Option.some.injEq] at hv
                cases hv
                obtain ⟨p, cap, b, y, h2, _⟩ := hd.of_list
                exact ⟨p, cap, h2⟩
              | _ => simp [viewB] at hv
            obtain ⟨p, cap, hxe⟩ := hxe
            refine wp_gives hR (s := Builtin.len_ #[t] ty #[a.eval x]) ?_ ⟨.int .i64 (l.length : Int), ?_, .int _ _⟩ hK
            · simp [execOp, resolve, invoke, builtin]
            · rw [hxe]; simp [Builtin.len_, run_underlying ((hc.ty t).elem _ hel), goInt]
          · cases h
        · rename_i s t hvs ht
          split at h
          · rename_i hst
            cases h
            obtain ⟨x, v, rfl, rfl, hd, u, hu, hv⟩ := hex t _ ht hvs rfl
            cases hu
            have hvs : v = .str s := by
              cases v <;> simp only [viewB, reduceCtorEq, Option.some.injEq, V.str.injEq] at hv
              · rw [hv]
              · split at hv <;> cases hv
            subst hvs
            have hxe := hd.of_str
            refine wp_gives hR (s := Builtin.len_ #[t] ty #[a.eval x]) ?_ ⟨.int .i64 (s.size : Int), ?_, .int _ _⟩ hK
            · simp [execOp, resolve, invoke, builtin]
            · rw [hxe]; simp [Builtin.len_, run_underlying ((hc.ty t).str hst), goInt]
          · cases h
        · rename_i t hvs ht
          split at h
          · rename_i e' hel
            cases h
            obtain ⟨x, v, rfl, rfl, hd, u, hu, hv⟩ := hex t _ ht hvs rfl
            cases hu
            have hvs : v = .raw (.slice none 0 0) := by
              cases v <;> simp only [viewB, reduceCtorEq, Option.some.injEq, V.raw.injEq] at hv
              · rw [hv]
              · split at hv <;> cases hv
            subst hvs
            have hxe := hd.of_raw
            refine wp_gives hR (s := Builtin.len_ #[t] ty #[a.eval x]) ?_ ⟨.int .i64 0, ?_, .int _ _⟩ hK
            · simp [execOp, resolve, invoke, builtin]
            · rw [hxe]; simp [Builtin.len_, run_underlying ((hc.ty t).elem _ hel), goInt]
          · cases h
        · cases h
      | append =>
        simp only [ex] at h
        split at h
        · rename_i d x y t t' hargs hts
          split at h
          · rename_i e vx vy hel hx hy
            split at h
            · rename_i fx lx kill fy ly hb h1 h2
              cases h
              simp only [Bool.and_eq_true] at hb
              have ht : t = t' := by simpa using hb.1
              subst ht
              have hs0 : (c.ty e).size ≠ 0 := by intro e0; rw [e0] at hb; simp at hb
              have hb0 : (c.ty e).bytes ≠ 0 := by intro e0; rw [e0] at hb; simp at hb
              have ea : args = #[x, y] := by apply Array.ext'; simpa using hargs
              have et : argTypes = #[t, t] := by apply Array.ext'; simpa using hts
              subst ea et
              obtain ⟨v', w', hrun, hd⟩ := did_append hc hR hE (d := d) (t := t) (ty := ty) (hpin d rfl) (hfr d rfl) hel hb.2.1 hs0 hb0 (op_den hx) (op_den hy) h1 h2 hps
              refine wp_did (s := Builtin.append_ #[t, t] ty #[a.eval x, a.eval y]) ?_ hrun hd hK
              simp [execOp, resolve, invoke, builtin]
            · cases h
          · cases h
        · cases h
      | min =>
        simp only [ex, val] at h
        split at h
        · rename_i k m vs hvs
          split at h
          · rename_i u hu
            cases h
            obtain ⟨hl, hd⟩ := argsOf_den hc hR hE hg _ _ _ hvs
            cases hargs : args.toList with
            | nil => rw [hargs] at hl; simp at hl
            | cons x xs =>
              rw [hargs] at hl hd
              obtain ⟨z, hz, hdz⟩ := minmax_run (c := c) (S := S) (σ := σ) (w := w) false vs (xs.map a.eval) k m _ hu (by simpa using hl) (fun i hi => hd (i + 1) (Nat.succ_lt_succ hi))
              have h0 : a.eval x = .int k m := Den.of_int (hd 0 (Nat.zero_lt_succ _))
              refine wp_gives hR (s := Builtin.min_ argTypes ty (args.map a.eval)) ?_ ⟨z, ?_, hdz⟩ hK
              · simp [execOp, resolve, invoke, builtin]
              · simp only [Builtin.min_, Array.toList_map, hargs, List.map_cons, h0]
                exact hz
          · cases h
        · cases h
      | max =>
        simp only [ex, val] at h
        split at h
        · rename_i k m vs hvs
          split at h
          · rename_i u hu
            cases h
            obtain ⟨hl, hd⟩ := argsOf_den hc hR hE hg _ _ _ hvs
            cases hargs : args.toList with
            | nil => rw [hargs] at hl; simp at hl
            | cons x xs =>
              rw [hargs] at hl hd
              obtain ⟨z, hz, hdz⟩ := minmax_run (c := c) (S := S) (σ := σ) (w := w) true vs (xs.map a.eval) k m _ hu (by simpa using hl) (fun i hi => hd (i + 1) (Nat.succ_lt_succ hi))
              have h0 : a.eval x = .int k m := Den.of_int (hd 0 (Nat.zero_lt_succ _))
              refine wp_gives hR (s := Builtin.max_ argTypes ty (args.map a.eval)) ?_ ⟨z, ?_, hdz⟩ hK
              · simp [execOp, resolve, invoke, builtin]
              · simp only [Builtin.max_, Array.toList_map, hargs, List.map_cons, h0]
                exact hz
          · cases h
        · cases h
      | _ => simp [ex] at h
  | _ => simp [ex] at h

end
end Vm
