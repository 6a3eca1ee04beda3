/-
  What the interpreter says of one operation is so: places in rows, arrays, rows that are laid out, rows that are cut.
-/
import Derived.Test.YthnlknegnlmklaaVm7
set_option linter.all false
namespace Vm
open Go Go.RowKit
variable {A : Nat → Type}

section
variable {c : Cfg A} {n : Nat} {w0 : W1} {S0 : Nat → Prop} {S : Fz} {σ : Nat → Loc} {lk : K → Option (Ent A)} {a : Act} {w : World}

theorem Den.of_optr {id t i off : Nat} {x : Value} (h : Den c S σ w (.optr id t i off : V A) x) : i < (σ id).len ∧ x = .pointer (some ⟨(σ id).blk, i * (c.ty t).size + off, none⟩) := by
  cases h with
  | optr _ _ _ _ hi => exact ⟨hi, rfl⟩

theorem load_optr (hc : CfgOk c) (hR : RelAt c n w0 S0 S σ lk a w) {t id e i off : Nat} {f : Bool} {m : Option Nat} {l : List (A e)} {x : Value} {v : V A} (hx : Den c S σ w (.optr id e i off : V A) x) (hrow : lk (.row id) = some ([], .rowc e f m l))
    (hp : Vm.part (c.ty t) (encF c e f (l.getD i (c.C.dft e))) off = some v) : Gives c S σ w (Instr.loadAt t x) v := by
  obtain ⟨hi, rfl⟩ := hx.of_optr
  have hr : RowAt c S σ w (σ id) e f m l := (hR.row id [] _ hrow rfl).1
  have hlt : i < l.length := by rw [← hr.len]; exact hi
  have hget : l.getD i (c.C.dft e) = l[i] := by simp [hlt]
  rw [hget] at hp
  have hcell : ∀ q, q < (c.ty e).size → ∃ y, w.cell? ⟨(σ id).blk, i * (c.ty e).size + q, none⟩ = some y ∧ ∀ hq : q < (encF c e f l[i]).length, Den c S σ w (encF c e f l[i])[q] y := fun q hq => by
    obtain ⟨y, hy, hd⟩ := hr.cells i q hlt (by rw [encF_length, hr.enc i hlt]; exact hq)
    exact ⟨y, hy, fun _ => hd⟩
  have := load_part (c := c) (S := S) (σ := σ) (w := w) hc (t := t) (m := (c.ty e).size) (off := off) (es := encF c e f l[i]) (b := ⟨(σ id).blk, i * (c.ty e).size, none⟩) (x := fun q => (w.cell? ⟨(σ id).blk, i * (c.ty e).size + q, none⟩).getD undef)
    (by rw [encF_length, hr.enc i hlt]) (fun q hq => by
      obtain ⟨y, hy, _⟩ := hcell q hq
      rw [add_plain, hy]; rfl) (fun q hq => by
      obtain ⟨y, hy, hd⟩ := hcell q (by rw [encF_length, hr.enc i hlt] at hq; exact hq)
      rw [hy]; exact hd hq) hp
  rw [add_plain] at this
  simpa [Instr.loadAt, Instr.sureAddr, Gives] using this

theorem load_arr (hc : CfgOk c) (hR : RelAt c n w0 S0 S σ lk a w) {t id e m : Nat} {f : Bool} {l : List (A e)} {x : Value} (hx : Den c S σ w (.ptr id 0 : V A) x) (hrow : lk (.row id) = some ([], .rowc e f (some m) l)) (ha : (c.ty t).arr = some (e, m)) :
    Gives c S σ w (Instr.loadAt t x) (.arr e f m l) := by
  have ex := hx.of_ptr; subst ex
  have hr : RowAt c S σ w (σ id) e f (some m) l := (hR.row id [] _ hrow rfl).1
  obtain ⟨h1, h2, h3, h4⟩ := hc.arr t e m ha
  have hlm := hr.fix m rfl
  have hne : (c.ty t).size ≠ 0 := by rw [h1]; exact Nat.mul_ne_zero h3 h2
  have hcell : ∀ k, k < (c.ty t).size → ∃ y, w.cell? ⟨(σ id).blk, k, none⟩ = some y := fun k hk => by
    have := hr.room k (Nat.lt_of_lt_of_le hk (by rw [h1, ← hlm]; exact Nat.mul_le_mul_right _ hr.cap))
    exact Option.isSome_iff_exists.1 this
  refine ⟨.agg ((List.range (c.ty t).size).map fun k => (w.cell? ⟨(σ id).blk, k, none⟩).getD undef).toArray, ?_, .arr e f m l _ hlm hr.enc (by simp [h1]) fun j q hj hq => ?_⟩
  · have := run_loadVar (P := c.P) (w := w) (t := t) (a := ⟨(σ id).blk, 0, none⟩) (n := (c.ty t).size) (fun k => (w.cell? ⟨(σ id).blk, k, none⟩).getD undef) ((hc.ty t).agg _ h4 w) ((hc.ty t).size hne w) (fun k hk => by
      obtain ⟨y, hy⟩ := hcell k hk
      rw [add_plain, Nat.zero_add, hy]; rfl)
    simpa [Instr.loadAt, Instr.sureAddr] using this
  · obtain ⟨y, hy, hd⟩ := hr.cells j q hj hq
    have hq' : q < (c.ty e).size := by rw [encF_length, hr.enc j hj] at hq; exact hq
    have hlt : j * (c.ty e).size + q < (c.ty t).size := by
      rw [h1, ← hlm]
      have : (j + 1) * (c.ty e).size ≤ l.length * (c.ty e).size := Nat.mul_le_mul_right _ (by omega)
      rw [Nat.succ_mul] at this; omega
    have : (((List.range (c.ty t).size).map fun k => (w.cell? ⟨(σ id).blk, k, none⟩).getD undef).toArray).getD (j * (c.ty e).size + q) undef = y := by simp [hlt, hy]
    rw [this]; exact hd

/-- A store into a row. -/
theorem row_store (hc : CfgOk c) (hR : RelAt c n w0 S0 S σ lk a w) {r e : Nat} {g : Chain} {f f' : Bool} {m : Option Nat} {l l' : List (A e)} (hrow : lk (.row r) = some (g, .rowc e f m l)) {o : Nat} {vals : List Value} (hin : o + vals.length ≤ l.length * (c.ty e).size) (hne : vals ≠ [])
    (hone : ∀ v ∈ vals, v.oneCell' = true) (hl : l'.length = l.length) (hen : ∀ j (hj : j < l'.length), (c.C.enc e l'[j]).length = (c.ty e).size)
    (hcells : ∀ j q (hj : j < l'.length) (hq : q < (encF c e f' l'[j]).length) y, w.cell? ⟨(σ r).blk, j * (c.ty e).size + q, none⟩ = some y →
      Den c S σ w (encF c e f' l'[j])[q] (if o ≤ j * (c.ty e).size + q ∧ j * (c.ty e).size + q < o + vals.length then vals.getD (j * (c.ty e).size + q - o) undef else y)) {dst : Option Nat} {x : Value} :
    (storeCells ⟨(σ r).blk, o, none⟩ vals 0).run c.P w = .ok () (setCells ⟨(σ r).blk, o, none⟩ 0 vals w) ∧ Did c n w0 S0 lk dst [(.row r, [], .rowc e f' m l')] .junk a x (setCells ⟨(σ r).blk, o, none⟩ 0 vals w) := by
  obtain ⟨hr, h2⟩ := hR.row r g _ hrow rfl
  have hr : RowAt c S σ w (σ r) e f m l := hr
  have h2 := h2 rfl
  have hcap : (σ r).cap ≠ 0 := by
    have h1 := hr.cap
    have h3 := List.length_pos_iff.2 hne
    intro h0
    rw [h0] at h1
    have hl0 : l.length = 0 := by omega
    rw [hl0, Nat.zero_mul] at hin
    omega
  have hcell : ∀ j, j < vals.length → (w.cell? ⟨(σ r).blk, o + (0 + j), none⟩).isSome = true := fun j hj => hr.room _ (by
    have : l.length * (c.ty e).size ≤ (σ r).cap * (c.ty e).size := Nat.mul_le_mul_right _ hr.cap
    omega)
  have hblock : ∀ b, b ≠ (σ r).blk → (setCells ⟨(σ r).blk, o, none⟩ 0 vals w).heap[b]? = w.heap[b]? := fun b hb => setCells_block hb _ _ _
  have hSb : ∀ f b, S f b → (setCells ⟨(σ r).blk, o, none⟩ 0 vals w).heap[b]? = w.heap[b]? := fun f b h => hblock b (fun he => (h2 hcap).1 (by subst he; cases f; exact h; exact hR.sT _ h))
  refine ⟨run_storeCells (P := c.P) (a := ⟨(σ r).blk, o, none⟩) vals 0 w hone (fun j hj => by rw [add_plain]; exact hcell j hj) (fun j => by rw [add_plain]; exact hr.frz _ hcap), ?_⟩
  refine did_set hc hR hrow (fun _ => ?_) (fun h => absurd h hcap) ?_
  · have := setCells_bel vals w hcell
    exact ⟨this.os, this.tape, this.output, this.size, fun k hk hn => hblock k (fun he => hn 0 he), fun k o hk hn => World.cell?_of_block (w := w) (hblock k hn), this.frozen⟩
  · exact {
      ne := hr.ne
      len := by rw [hl]; exact hr.len
      cap := by rw [hl]; exact hr.cap
      fix := fun k hk => by rw [hl]; exact hr.fix k hk
      enc := hen
      base := hr.base
      room := fun k hk => by
        rw [setCells_cell _ _ _ _ _ hcell]
        split
        · rw [List.getElem?_eq_getElem (by omega)]; rfl
        · exact hr.room k hk
      frz := fun k h => by rw [setCells_frozen]; exact hr.frz k h
      cells := fun j q hj hq => by
        have hq' : q < (c.ty e).size := by rw [encF_length, hen j hj] at hq; exact hq
        have hlt : j * (c.ty e).size + q < (σ r).cap * (c.ty e).size := by
          have h3 : (j + 1) * (c.ty e).size ≤ l.length * (c.ty e).size := Nat.mul_le_mul_right _ (by omega)
          have h4 : l.length * (c.ty e).size ≤ (σ r).cap * (c.ty e).size := Nat.mul_le_mul_right _ hr.cap
          rw [Nat.succ_mul] at h3; omega
        obtain ⟨y, hy⟩ := Option.isSome_iff_exists.1 (hr.room _ hlt)
        have hd := hcells j q hj hq y hy
        rw [setCells_cell _ _ _ _ _ hcell]
        by_cases hi : o ≤ j * (c.ty e).size + q ∧ j * (c.ty e).size + q < o + vals.length
        · rw [if_pos hi] at hd
          rw [if_pos (by omega)]
          have hb : j * (c.ty e).size + q - o < vals.length := by omega
          refine ⟨vals[j * (c.ty e).size + q - o], by rw [Nat.add_zero, List.getElem?_eq_getElem hb], ?_⟩
          rw [show vals.getD (j * (c.ty e).size + q - o) undef = vals[j * (c.ty e).size + q - o] by simp [hb]] at hd
          exact hd.mono hc (fun _ _ h => h) hSb (fun _ _ => rfl)
        · rw [if_neg hi] at hd
          rw [if_neg (by omega)]
          exact ⟨y, hy, hd.mono hc (fun _ _ h => h) hSb (fun _ _ => rfl)⟩ }

theorem setRange_get : ∀ (vc : List (V A)) (off : Nat) (cs : List (V A)) (q : Nat) (hq : q < cs.length), off + vc.length ≤ cs.length → (setRange cs off vc)[q]? = if off ≤ q ∧ q < off + vc.length then vc[q - off]? else cs[q]? := by
  intro vc
  induction vc with
  | nil => intro off cs q hq _; simp only [setRange, List.length_nil, Nat.add_zero]; rw [if_neg (by omega)]
  | cons v vc ih =>
    intro off cs q hq hle
    simp only [List.length_cons] at hle
    rw [setRange, ih (off + 1) _ q (by simpa using hq) (by simp; omega)]
    by_cases h1 : off + 1 ≤ q ∧ q < off + 1 + vc.length
    · rw [if_pos h1, if_pos (by simp; omega), show q - off = (q - (off + 1)) + 1 by omega, List.getElem?_cons_succ]
    · rw [if_neg h1]
      by_cases h2 : q = off
      · subst h2
        rw [if_pos (by simp), Nat.sub_self, List.getElem?_cons_zero, List.getElem?_set_self (by omega)]
      · rw [if_neg (by simp; omega), List.getElem?_set_ne (Ne.symm h2)]

theorem old_dim {v : V A} (h : old0 v = true) : dim0 v = v := by
  cases v <;> simp_all [old0, dim0]

theorem did_storeOptr (hc : CfgOk c) (hR : RelAt c n w0 S0 S σ lk a w) {t id e i off : Nat} {f : Bool} {m : Option Nat} {l : List (A e)} {x : Value} {xs : Array Value} {cs : List (V A)} {b : A e} (hx : Den c S σ w (.optr id e i off : V A) x) (hrow : lk (.row id) = some ([], .rowc e f m l))
    (hs0 : (c.ty t).size ≠ 0) (hlen : cs.length = (c.ty t).size) (hone : all one cs = true) (hoff : off + cs.length ≤ (c.ty e).size) (hd : DenA c S σ w cs xs) (hdec : c.C.dec e (mapV dim0 (setRange (c.C.enc e (l.getD i (c.C.dft e))) off cs)) = some b) {dst : Option Nat} {z : Value} :
    ∃ w', (∀ y : Value, y.cells = xs → (Instr.storeAt t x y).run c.P w = .ok () w') ∧ Did c n w0 S0 lk dst [(.row id, [], .rowc e (f.and (all allFr0 cs)) m (l.set i b))] .junk a z w' := by
  obtain ⟨hi, rfl⟩ := hx.of_optr
  have hr : RowAt c S σ w (σ id) e f m l := (hR.row id [] _ hrow rfl).1
  have hlt : i < l.length := by rw [← hr.len]; exact hi
  have hget : l.getD i (c.C.dft e) = l[i] := by simp [hlt]
  rw [hget] at hdec
  have hben := hc.dec e _ b hdec
  have hbl : (c.C.enc e b).length = (c.ty e).size := by rw [hben, mapV_eq, List.length_map, setRange_length, hr.enc i hlt]
  have hxl : xs.toList.length = cs.length := by simp [hd.1]
  have hii : i * (c.ty e).size + (c.ty e).size ≤ l.length * (c.ty e).size := by
    have : (i + 1) * (c.ty e).size ≤ l.length * (c.ty e).size := Nat.mul_le_mul_right _ (by omega)
    rw [Nat.succ_mul] at this; exact this
  have hone' : ∀ v ∈ xs.toList, v.oneCell' = true := fun u hu => by
    obtain ⟨k, hk, rfl⟩ := List.getElem_of_mem hu
    have hk' : k < cs.length := by rw [← hxl]; exact hk
    have := hd.2 k hk'
    have hkk : k < xs.size := by rw [hd.1]; exact hk'
    rw [show xs.getD k undef = xs[k] by simp [hkk]] at this
    rw [Array.getElem_toList]
    exact this.one (all_mem hone _ (List.getElem_mem hk'))
  obtain ⟨hst, hdid⟩ := row_store hc hR (f' := f.and (all allFr0 cs)) (l' := l.set i b) hrow (o := i * (c.ty e).size + off) (vals := xs.toList) (by rw [hxl]; omega) (by
    intro h0; rw [h0] at hxl; exact hs0 (by rw [← hlen, ← hxl]; rfl)) hone' (by simp) (fun j hj => by
    by_cases e1 : i = j
    · subst e1; rw [List.getElem_set_self]; exact hbl
    · rw [List.getElem_set_ne e1]; exact hr.enc j (by simpa using hj)) (fun j q hj hq y hy => by
    have hj' : j < l.length := by simpa using hj
    by_cases e1 : i = j
    · subst e1
      have hb : (l.set i b)[i] = b := List.getElem_set_self ..
      have hqb : q < (encF c e (f.and (all allFr0 cs)) b).length := by rw [hb] at hq; exact hq
      have hq' : q < (c.ty e).size := by rw [encF_length, hbl] at hqb; exact hqb
      have e2 : (encF c e (f.and (all allFr0 cs)) (l.set i b)[i])[q] = (encF c e (f.and (all allFr0 cs)) b)[q] := by simp only [hb]
      rw [e2]
      have hql : q < (c.C.enc e l[i]).length := by rw [hr.enc i hlt]; exact hq'
      have hqs : q < (setRange (c.C.enc e l[i]) off cs).length := by rw [setRange_length]; exact hql
      have e3 : (encF c e (f.and (all allFr0 cs)) b)[q] = frs (f.and (all allFr0 cs)) (dim0 (setRange (c.C.enc e l[i]) off cs)[q]) := by
        have : (c.C.enc e b)[q]? = (mapV dim0 (setRange (c.C.enc e l[i]) off cs))[q]? := by rw [hben]
        rw [List.getElem?_eq_getElem (by rw [hbl]; exact hq'), mapV_eq, List.getElem?_map, List.getElem?_eq_getElem hqs] at this
        have := Option.some.inj this
        simp only [encF, mapV_eq, List.getElem_map, this]
      rw [e3]
      have hsr := setRange_get cs off (c.C.enc e l[i]) q hql (by rw [hr.enc i hlt]; exact hoff)
      rw [List.getElem?_eq_getElem hqs] at hsr
      by_cases hin : off ≤ q ∧ q < off + cs.length
      · rw [if_pos hin, List.getElem?_eq_getElem (by omega)] at hsr
        rw [Option.some.inj hsr]
        rw [if_pos (by rw [hxl]; omega), show i * (c.ty e).size + q - (i * (c.ty e).size + off) = q - off by omega]
        have hk : q - off < cs.length := by omega
        have := hd.2 (q - off) hk
        rw [show xs.toList.getD (q - off) undef = xs.getD (q - off) undef by simp]
        refine Den.less hR.sT this (less_frs_dim fun h => ?_)
        have h' : (f && all allFr0 cs) = true := h
        rw [Bool.and_eq_true] at h'
        exact all_mem h'.2 _ (List.getElem_mem hk)
      · rw [if_neg hin, List.getElem?_eq_getElem hql] at hsr
        rw [Option.some.inj hsr, if_neg (by rw [hxl]; omega)]
        obtain ⟨y', hy', hd'⟩ := hr.cells i q hlt (by rw [encF_length]; exact hql)
        rw [hy] at hy'; cases hy'
        have hold : old0 (c.C.enc e l[i])[q] = true := all_mem (hc.old e l[i]) _ (List.getElem_mem hql)
        rw [old_dim hold]
        have e4 : (encF c e f l[i])[q]'(by rw [encF_length]; exact hql) = frs f (c.C.enc e l[i])[q] := by simp only [encF, mapV_eq, List.getElem_map]
        rw [e4] at hd'
        refine Den.less hR.sT hd' (less_frs (fun h => ?_) _)
        have h' : (f && all allFr0 cs) = true := h
        rw [Bool.and_eq_true] at h'
        exact h'.1
    · have hb : (l.set i b)[j] = l[j] := List.getElem_set_ne e1 ..
      have hqb : q < (encF c e (f.and (all allFr0 cs)) l[j]).length := by rw [hb] at hq; exact hq
      have hq' : q < (c.ty e).size := by rw [encF_length, hr.enc j hj'] at hqb; exact hqb
      have e2 : (encF c e (f.and (all allFr0 cs)) (l.set i b)[j])[q] = (encF c e (f.and (all allFr0 cs)) l[j])[q] := by simp only [hb]
      rw [e2]
      obtain ⟨y', hy', hd'⟩ := hr.cells j q hj' (by rw [encF_length, hr.enc j hj']; exact hq')
      rw [hy] at hy'; cases hy'
      have hno : ¬ (i * (c.ty e).size + off ≤ j * (c.ty e).size + q ∧ j * (c.ty e).size + q < i * (c.ty e).size + off + xs.toList.length) := by
        rw [hxl]
        rcases Nat.lt_or_gt_of_ne e1 with h | h
        · have : (i + 1) * (c.ty e).size ≤ j * (c.ty e).size := Nat.mul_le_mul_right _ h
          rw [Nat.succ_mul] at this; omega
        · have : (j + 1) * (c.ty e).size ≤ i * (c.ty e).size := Nat.mul_le_mul_right _ h
          rw [Nat.succ_mul] at this; omega
      rw [if_neg hno]
      refine Den.less hR.sT hd' ?_
      simp only [encF, mapV_eq, List.getElem_map]
      refine less_frs (fun h => ?_) _
      have h' : (f && all allFr0 cs) = true := h
      rw [Bool.and_eq_true] at h'
      exact h'.1) (dst := dst) (x := z)
  have hsz := (hc.ty t).size hs0 w
  refine ⟨_, fun y hy => ?_, hdid⟩
  simp only [Instr.storeAt, Instr.sureAddr, storeVar, Sem.run_bind, Sem.run_pure, Result.andThen_ok, hsz]
  rw [if_neg (by rw [hy, hd.1, hlen]; simp), hy, hst]

theorem did_storeArr (hc : CfgOk c) (hR : RelAt c n w0 S0 S σ lk a w) {t id e m : Nat} {f f' : Bool} {l l' : List (A e)} {x y : Value} (hx : Den c S σ w (.ptr id 0 : V A) x) (hrow : lk (.row id) = some ([], .rowc e f (some m) l)) (ha : (c.ty t).arr = some (e, m))
    (hy : Den c S σ w (.arr e f' m l') y) {dst : Option Nat} {z : Value} :
    ∃ w', (Instr.storeAt t x y).run c.P w = .ok () w' ∧ Did c n w0 S0 lk dst [(.row id, [], .rowc e f' (some m) l')] .junk a z w' := by
  have ex := hx.of_ptr; subst ex
  have hr : RowAt c S σ w (σ id) e f (some m) l := (hR.row id [] _ hrow rfl).1
  obtain ⟨h1, h2, h3, h4⟩ := hc.arr t e m ha
  have hlm := hr.fix m rfl
  have hne : (c.ty t).size ≠ 0 := by rw [h1]; exact Nat.mul_ne_zero h3 h2
  have hsz := (hc.ty t).size hne w
  cases hy with
  | arr _ _ _ _ xs hl he hxs hd =>
    have hcs : CellsAt c S σ w e f' l' xs.toList := ⟨by simp [hxs, hl], he, fun j q hj hq => by simpa using hd j q hj hq⟩
    obtain ⟨hst, hdid⟩ := row_store hc hR (f' := f') (l' := l') hrow (o := 0) (vals := xs.toList) (by simp [hxs, hlm]) (by
      intro h0
      have : xs.size = 0 := by simpa using congrArg List.length h0
      rw [hxs, ← h1] at this; exact hne this) (hcs.one hc) (by rw [hl, hlm]) he (fun j q hj hq y hy => by
      have hq' : q < (c.ty e).size := by rw [encF_length, he j hj] at hq; exact hq
      have hlt : j * (c.ty e).size + q < xs.toList.length := by
        rw [hcs.1]
        have : (j + 1) * (c.ty e).size ≤ l'.length * (c.ty e).size := Nat.mul_le_mul_right _ (by omega)
        rw [Nat.succ_mul] at this; omega
      rw [if_pos (by omega), Nat.sub_zero]
      exact hcs.2.2 j q hj hq) (dst := dst) (x := z)
    refine ⟨_, ?_, hdid⟩
    have hv : (Value.agg xs).cells = xs := rfl
    generalize Value.agg xs = y at hv
    simp only [Instr.storeAt, Instr.sureAddr, storeVar, Sem.run_bind, Sem.run_pure, Result.andThen_ok, hsz]
    rw [if_neg (by rw [hv, hxs, h1]; simp), hv, hst]

/-- A row of an array that is laid anew. -/
theorem did_newArr (hc : CfgOk c) (hR : RelAt c n w0 S0 S σ lk a w) {d e m ty : Nat} {f : Bool} {l : List (A e)} {xs : Array Value} (hpin : d ∉ c.pins) (hfr : ∀ k g v, lk k = some (g, v) → entAvoids d (k, g, v) = true) (hs : (c.ty e).size ≠ 0)
    (hl : l.length = m) (hx : xs.size = m * (c.ty e).size) (hen : ∀ j (hj : j < l.length), (c.C.enc e l[j]).length = (c.ty e).size)
    (hd : ∀ j q (hj : j < l.length) (hq : q < (encF c e f l[j]).length), Den c S σ w (encF c e f l[j])[q] (xs.getD (j * (c.ty e).size + q) undef)) :
    Did c n w0 S0 lk (some d) [(.row d, [], .rowc e f (some m) l)] (.ptr d 0) a (.pointer (some ⟨w.heap.size, 0, none⟩)) (w.alloc (.cells xs ty)) :=
  did_new hc hR hpin hfr (kill := none) (X := fun _ => False) (Bel.of ((Below.refl _ _).alloc (Nat.le_refl _) _)) (fun r h => by cases h) (fun b h => h.elim)
    (rowAt_alloc (ty := ty) hc hR (fx := some m) hs (fun k hk => by cases hk; rfl) hl hx hen hd) (fun _ => .inl (Nat.le_refl _)) (.inr ⟨rfl, rfl⟩)

theorem ownL_nil {E : Env A} : ∀ {cs cs' : List (V A)}, ownL cs = [] → frzL E cs = some cs' → cs' = cs := by
  intro cs
  induction cs with
  | nil => intro cs' _ h; simp only [frzL, Option.some.injEq] at h; exact h.symm
  | cons v cs ih =>
    intro cs' h h2
    simp only [ownL, List.append_eq_nil_iff] at h
    simp only [frzL] at h2
    split at h2
    · rename_i u us hu hus
      cases h2
      rw [ih h.2 hus]
      cases v <;> simp_all [ownB, frzB]
    · cases h2

theorem did_buildSlice (hc : CfgOk c) (hR : RelAt c n w0 S0 S σ lk a w) {E : Env A} (hE : ∀ k e, look k E = some e → lk k = some e) {dst : Option Nat} {t e len : Nat} {vs : List (Nat × V A)} {ys : Array (Nat × Value)} {z cs cs' : List (V A)} {l : List (A e)}
    (hpin : ∀ d, dst = some d → d ∉ c.pins) (hfr : ∀ d, dst = some d → ∀ k g v, lk k = some (g, v) → entAvoids d (k, g, v) = true)
    (hel : (c.ty t).elem = some e) (hz : zeroCells (c.ty e) = some z) (hs : Nat.beq (c.ty e).size 0 = false) (hb : (Nat.beq z.length (c.ty e).size).and (Nat.ble (len * (c.ty e).size) 16777216) = true)
    (hP : DenP c S σ w vs ys.toList) (h : fillParts (fun i => some (i * (c.ty e).size, (c.ty e).size)) (tile z (len * (c.ty e).size)) vs = some cs) (hf : frzL E cs = some cs') (hl : decAll c e (prepAll c e (chunks (c.ty e).size len cs')) = some l) :
    ∃ x w', (Instr.buildSlice t len ys).run c.P w = .ok x w' ∧ Did c n w0 S0 lk dst (frz E (ownL cs)) (.list e (all allFr0 cs') l) a x w' ∧
      (∀ d, dst = some d → ownL cs = [] → Did c n w0 S0 lk (some d) [(.row d, [], .rowc e (all allFr0 cs') none l)] (.own d) a x w') := by
  obtain ⟨hlen, zs, hda, hrun⟩ := run_buildSlice hc hel hz hs hb hP h
  have hs0 : (c.ty e).size ≠ 0 := by intro h0; rw [h0] at hs; simp at hs
  refine ⟨_, _, hrun, ?_, ?_⟩
  · obtain ⟨S1, hSS, hR1, hfz⟩ := freezeL hc hR hE (ownL cs)
    obtain ⟨h1, h2⟩ := frzL_den hc hE hSS hR1 hfz cs cs' zs.toList (fun _ h => h) (by simp [hda.1]) (fun i hi => by simpa using hda.2 i hi) hf
    have hda' : DenA c S1 σ w cs' zs := ⟨by rw [h1]; exact hda.1, fun i hi => by simpa using h2 i hi⟩
    obtain ⟨h3, h4, h5⟩ := cells_row hc hR1.sT hda' hl (by rw [h1]; exact hlen) (f := all allFr0 cs') (fun h => h)
    let S2 : Fz := fun f b => S1 f b ∨ b = w.heap.size
    have hR2 := hR1.grow hc (w' := w.alloc (.cells zs e)) (S' := S2) ((Below.refl _ _).alloc (Nat.le_refl _) _) (fun _ _ h => .inl h) (fun b h => by rcases h with h | h; exact .inl (hR1.sT b h); exact .inr h)
      (fun f b h => by rcases h with h | h; exact .inl h; exact .inr (by simp; omega))
    have hrow := rowAt_alloc (ty := e) hc hR1 (m := len) (fx := none) (f := all allFr0 cs') hs0 (fun k hk => by cases hk) h3 (by rw [hda'.1, h1, hlen]) h4 h5
    refine ⟨S2, σ, hR2.weaken (fun k e' he => ?_), ?_⟩
    · split at he
      · cases he
      · exact he
    · have hcs := cells_of_row hrow
      have hlen' : l.length = len := h3
      have := Den.list (c := c) (S := S2) (σ := σ) (w := w.alloc (.cells zs e)) e (all allFr0 cs') l (some ⟨w.heap.size, 0, none⟩) len ⟨w.heap.size, 0, none⟩ (fun j q => ((w.alloc (.cells zs e)).cell? ⟨w.heap.size, j * (c.ty e).size + q, none⟩).getD undef)
        (fun _ => rfl) (by omega) (fun _ => .inr rfl) (fun _ => hs0) h4 (fun j q hj hq => by
          obtain ⟨y, hy, _⟩ := hrow.cells j q hj (by rw [encF_length, h4 j hj]; exact hq)
          have hy : (w.alloc (.cells zs e)).cell? ⟨w.heap.size, j * (c.ty e).size + q, none⟩ = some y := hy
          rw [add_plain, Nat.zero_add, hy]; rfl) (fun j q hj hq => by
          obtain ⟨y, hy, hd⟩ := hrow.cells j q hj hq
          have hy : (w.alloc (.cells zs e)).cell? ⟨w.heap.size, j * (c.ty e).size + q, none⟩ = some y := hy
          rw [hy]
          exact hd.mono hc (fun _ _ h => .inl h) (fun _ _ _ => rfl) (fun _ _ => rfl))
      rw [hlen'] at this
      exact this
  · rintro d rfl ho
    have hcc := ownL_nil ho hf
    subst hcc
    obtain ⟨h3, h4, h5⟩ := cells_row hc hR.sT hda hl hlen (f := all allFr0 cs') (fun h => h)
    have hrow := rowAt_alloc (ty := e) hc hR (m := len) (fx := none) (f := all allFr0 cs') hs0 (fun k hk => by cases hk) h3 (by rw [hda.1, hlen]) h4 h5
    exact did_new hc hR (hpin d rfl) (hfr d rfl) (kill := none) (X := fun _ => False) (Bel.of ((Below.refl _ _).alloc (Nat.le_refl _) _)) (fun r h => by cases h) (fun b h => h.elim) hrow (fun _ => .inl (Nat.le_refl _)) (.inl ⟨rfl, rfl⟩)

/-- A row that is cut at its end. -/
theorem did_cut (hc : CfgOk c) (hR : RelAt c n w0 S0 S σ lk a w) {d t e r : Nat} {f : Bool} {l : List (A e)} {x : Value} {hi : Option Operand} {j : Int} {E : Env A} (hE : ∀ k e, look k E = some e → lk k = some e) {g : Chain} (hg : Holds a g)
    (hpin : d ∉ c.pins) (hfr : ∀ k g v, lk k = some (g, v) → entAvoids d (k, g, v) = true) (hx : Den c S σ w (.own r : V A) x) (hrow : lk (.row r) = some ([], .rowc e f none l)) (hel : (c.ty t).elem = some e)
    (hhi : bound E g hi (l.length : Int) = some j) (h0 : 0 ≤ j) (h1 : j ≤ (l.length : Int)) :
    ∃ y, (Instr.sliceAt t x none (hi.map a.eval) none).run c.P w = .ok y w ∧ Did c n w0 S0 lk (some d) [(.row d, [], .rowc e f none (l.take j.toNat)), (.row r, [], .junk)] (.own d) a y w := by
  cases hx
  have hr : RowAt c S σ w (σ r) e f none l := (hR.row r [] _ hrow rfl).1
  have hb := slice_bounds hc hR hE hg (lo := none) (hi := hi) (i := 0) (j := j) (len := l.length) (cap := (σ r).cap) rfl hhi (Int.le_refl _) h0 h1 hr.cap (isSl := true)
  have hund := run_underlying ((hc.ty t).elem e hel) w
  have hsz := (hc.ty e).size hr.ne w
  have hjl : j.toNat ≤ l.length := by omega
  refine ⟨.slice (σ r).base j.toNat (σ r).cap, ?_, ?_⟩
  · rw [hr.len]
    simp only [Option.map_none] at hb
    simp only [Instr.sliceAt, Instr.slice, Sem.run_bind, hund, Result.andThen_ok, hb, hsz, Sem.run_pure, Int.toNat_zero, Nat.zero_mul, Nat.sub_zero]
    congr 2
    cases (σ r).base with
    | none => simp
    | some b => simp [Addr.add]
  · refine did_new hc hR hpin hfr (kill := some r) (X := fun _ => False) (L := ⟨(σ r).blk, j.toNat, (σ r).cap, (σ r).base⟩) (bel_none w) (fun r' hr' => by cases hr'; exact ⟨_, _, hrow, rfl⟩) (fun b h => h.elim) ?_ (fun h => .inr ⟨r, rfl, h, rfl⟩) (.inl ⟨rfl, rfl⟩)
    have hget : ∀ k (hk : k < (l.take j.toNat).length), (l.take j.toNat)[k] = l[k]'(by simp at hk; omega) := fun k hk => by simp
    exact {
      ne := hr.ne
      len := by simp; omega
      cap := by simp; have := hr.cap; omega
      fix := fun m hm => by cases hm
      enc := fun k hk => by rw [hget k hk]; exact hr.enc _ _
      base := hr.base
      room := hr.room
      frz := hr.frz
      cells := fun k q hk hq => by
        have hk' : k < l.length := by simp at hk; omega
        have hq' : q < (encF c e f l[k]).length := by rw [hget k hk] at hq; exact hq
        obtain ⟨y, hy, hd⟩ := hr.cells k q hk' hq'
        refine ⟨y, hy, ?_⟩
        have e2 : (encF c e f (l.take j.toNat)[k])[q] = (encF c e f l[k])[q] := by simp only [hget k hk]
        rw [e2]; exact hd }

end
end Vm
