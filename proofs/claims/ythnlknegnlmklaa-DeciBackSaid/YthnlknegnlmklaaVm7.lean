/-
  What the interpreter says of one operation is so: all of them.
-/
import Derived.Test.YthnlknegnlmklaaVm6c
set_option linter.all false
namespace Vm
open Go Go.RowKit
variable {A : Nat → Type}

section
variable {c : Cfg A} {S : Fz} {σ : Nat → Loc} {w : World}

theorem Den.of_list {t : Nat} {f : Bool} {l : List (A t)} {x : Value} (h : Den c S σ w (.list t f l) x) : ∃ (p : Option Addr) (cap : Nat) (b : Addr) (y : Nat → Nat → Value), x = .slice p l.length cap ∧ (l ≠ [] → p = some b) ∧ l.length ≤ cap ∧
    (l ≠ [] → S f b.block) ∧ (l ≠ [] → (c.ty t).size ≠ 0) ∧ (∀ j (hj : j < l.length), (c.C.enc t l[j]).length = (c.ty t).size) ∧ (∀ j q, j < l.length → q < (c.ty t).size → w.cell? (b.add (j * (c.ty t).size + q)) = some (y j q)) ∧
    (∀ j q (hj : j < l.length) (hq : q < (encF c t f l[j]).length), Den c S σ w (encF c t f l[j])[q] (y j q)) := by
  cases h with
  | list _ _ _ p cap b y hp hc hS hn he hw hd => exact ⟨p, cap, b, y, rfl, hp, hc, hS, hn, he, hw, hd⟩

theorem Den.of_eptr {t : Nat} {f : Bool} {e : A t} {off : Nat} {x : Value} (h : Den c S σ w (.eptr t f e off) x) : ∃ (b : Addr) (y : Nat → Value), x = .pointer (some (b.add off)) ∧ S f b.block ∧ (c.C.enc t e).length = (c.ty t).size ∧
    (∀ q, q < (c.ty t).size → w.cell? (b.add q) = some (y q)) ∧ (∀ q (hq : q < (encF c t f e).length), Den c S σ w (encF c t f e)[q] (y q)) := by
  cases h with
  | eptr _ _ _ _ b y hS he hw hd => exact ⟨b, y, rfl, hS, he, hw, hd⟩

/-- A slice of a list. -/
theorem den_sub {t : Nat} {f : Bool} {l : List (A t)} {x : Value} (h : Den c S σ w (.list t f l) x) {i j : Nat} (hij : i ≤ j) (hj : j ≤ l.length) :
    ∃ p cap, x = .slice p l.length cap ∧ l.length ≤ cap ∧ Den c S σ w (.list t f ((l.take j).drop i)) (.slice (if cap = i then p else p.map (·.add (i * (c.ty t).size))) (j - i) (cap - i)) := by
  obtain ⟨p, cap, b, y, rfl, hp, hc, hS, hn, he, hw, hd⟩ := h.of_list
  refine ⟨p, cap, rfl, hc, ?_⟩
  have hlen : ((l.take j).drop i).length = j - i := by simp; omega
  by_cases h0 : j = i
  · subst h0
    have : (l.take j).drop j = [] := by apply List.eq_nil_of_length_eq_zero; simp
    rw [this, Nat.sub_self]
    exact den_nil _ _
  · have hlt : i < l.length := by omega
    have hne : l ≠ [] := by intro e; subst e; simp at hlt
    have hcap : cap ≠ i := by omega
    rw [if_neg hcap, hp hne]
    have hget : ∀ k (hk : k < ((l.take j).drop i).length), ((l.take j).drop i)[k] = l[i + k]'(by omega) := fun k hk => by simp
    have := Den.list (c := c) (S := S) (σ := σ) (w := w) t f ((l.take j).drop i) (some (b.add (i * (c.ty t).size))) (cap - i) (b.add (i * (c.ty t).size)) (fun k q => y (i + k) q)
      (fun _ => rfl) (by omega) (fun _ => by rw [add_block]; exact hS hne) (fun _ => hn hne) (fun k hk => by rw [hget k hk]; exact he _ _)
      (fun k q hk hq => by
        rw [add_add, ← hw (i + k) q (by omega) hq]
        congr 2
        rw [Nat.add_mul]; omega)
      (fun k q hk hq => by
        have h1 : i + k < l.length := by omega
        have h2 : q < (encF c t f (l[i + k]'h1)).length := by rw [hget k hk] at hq; exact hq
        have e : (encF c t f ((l.take j).drop i)[k])[q] = (encF c t f (l[i + k]'h1))[q] := by simp only [hget k hk]
        rw [e]
        exact hd (i + k) q h1 h2)
    rw [hlen] at this
    exact this

theorem run_sliceBound {P : Program} {x : Value} {n : Int} {k : IntKind} (hx : x = .int k n) {y : Nat} {code : BoundsCode} (h0 : 0 ≤ n) (h1 : n ≤ y) : (Instr.sliceBound x y code).run P w = .ok n.toNat w := by
  subst hx
  simp [Instr.sliceBound, asIntOf, h0, h1]

theorem bound_den {n : Nat} {w0 : W1} {S0 : Nat → Prop} {lk : K → Option (Ent A)} {a : Act} (hR : RelAt c n w0 S0 S σ lk a w) {E : Env A} (hE : ∀ k e, look k E = some e → lk k = some e)
    {g : Chain} (hg : Holds a g) {o : Option Operand} {d i : Int} (h : bound E g o d = some i) : (o = none ∧ i = d) ∨ ∃ x k, o = some x ∧ a.eval x = .int k i := by
  unfold bound at h
  split at h
  · cases h; exact .inl ⟨rfl, rfl⟩
  · rename_i x
    split at h
    · rename_i k m hv
      cases h
      exact .inr ⟨x, k, rfl, (opv_den hR hE hg hv).of_int⟩
    · cases h

theorem run_bounds {P : Program} {isSl : Bool} {len cap : Nat} {lo hi : Option Value} {i j : Int} (hlo : (lo = none ∧ i = 0) ∨ ∃ k, lo = some (.int k i)) (hhi : (hi = none ∧ j = (len : Int)) ∨ ∃ k, hi = some (.int k j))
    (h0 : 0 ≤ i) (h1 : i ≤ j) (h2 : j ≤ (len : Int)) (hc : len ≤ cap) : (Instr.sliceBounds isSl len cap lo hi none).run P w = .ok (i.toNat, j.toNat, cap) w := by
  have ej : ((j.toNat : Nat) : Int) = j := by omega
  rcases hlo with ⟨rfl, rfl⟩ | ⟨k, rfl⟩ <;> rcases hhi with ⟨rfl, rfl⟩ | ⟨k', rfl⟩
  · simp [Instr.sliceBounds]
  · simp [Instr.sliceBounds, run_sliceBound (P := P) (w := w) rfl (show (0 : Int) ≤ j by omega) (show j ≤ (cap : Int) by omega)]
  · simp [Instr.sliceBounds, run_sliceBound (P := P) (w := w) rfl h0 h1]
  · simp [Instr.sliceBounds, run_sliceBound (P := P) (w := w) rfl (show (0 : Int) ≤ j by omega) (show j ≤ (cap : Int) by omega), run_sliceBound (P := P) (w := w) (y := j.toNat) rfl h0 (by omega)]

theorem slice_bounds (hc : CfgOk c) {n : Nat} {w0 : W1} {S0 : Nat → Prop} {lk : K → Option (Ent A)} {a : Act} (hR : RelAt c n w0 S0 S σ lk a w) {E : Env A} (hE : ∀ k e, look k E = some e → lk k = some e)
    {g : Chain} (hg : Holds a g) {len cap : Nat} {lo hi : Option Operand} {i j : Int}
    (hlo : bound E g lo 0 = some i) (hhi : bound E g hi (len : Int) = some j) (h0 : 0 ≤ i) (h1 : i ≤ j) (h2 : j ≤ (len : Int)) (hcap : len ≤ cap) {isSl : Bool} :
    (Instr.sliceBounds isSl len cap (lo.map a.eval) (hi.map a.eval) none).run c.P w = .ok (i.toNat, j.toNat, cap) w := by
  have hlo' : (lo.map a.eval = none ∧ i = 0) ∨ ∃ k, lo.map a.eval = some (.int k i) := by
    rcases bound_den hR hE hg hlo with ⟨rfl, rfl⟩ | ⟨x, k, rfl, hx⟩
    · exact .inl ⟨rfl, rfl⟩
    · exact .inr ⟨k, by simp [hx]⟩
  have hhi' : (hi.map a.eval = none ∧ j = (len : Int)) ∨ ∃ k, hi.map a.eval = some (.int k j) := by
    rcases bound_den hR hE hg hhi with ⟨rfl, rfl⟩ | ⟨x, k, rfl, hx⟩
    · exact .inl ⟨rfl, rfl⟩
    · exact .inr ⟨k, by simp [hx]⟩
  exact run_bounds (P := c.P) (w := w) (isSl := isSl) hlo' hhi' h0 h1 h2 hcap

theorem gives_slice (hc : CfgOk c) {n : Nat} {w0 : W1} {S0 : Nat → Prop} {lk : K → Option (Ent A)} {a : Act} (hR : RelAt c n w0 S0 S σ lk a w) {E : Env A} (hE : ∀ k e, look k E = some e → lk k = some e)
    {g : Chain} (hg : Holds a g) {t e : Nat} {f : Bool} {l : List (A e)} {x : Value} {lo hi : Option Operand} {i j : Int} {S' : Fz} (hx : Den c S' σ w (.list e f l) x) (hel : (c.ty t).elem = some e) (hn : (c.ty e).size ≠ 0)
    (hlo : bound E g lo 0 = some i) (hhi : bound E g hi (l.length : Int) = some j) (h0 : 0 ≤ i) (h1 : i ≤ j) (h2 : j ≤ (l.length : Int)) :
    Gives c S' σ w (Instr.sliceAt t x (lo.map a.eval) (hi.map a.eval) none) (.list e f ((l.take j.toNat).drop i.toNat)) := by
  obtain ⟨p, cap, rfl, hcap, hd⟩ := den_sub hx (i := i.toNat) (j := j.toNat) (by omega) (by omega)
  have hund := (hc.ty t).elem e hel
  have hurun := run_underlying hund w
  have hsz := (hc.ty e).size hn w
  have hb := slice_bounds hc hR hE hg hlo hhi h0 h1 h2 hcap (isSl := true)
  refine ⟨_, ?_, hd⟩
  simp only [Instr.sliceAt, Instr.slice, Sem.run_bind, hurun, Result.andThen_ok, hb, hsz, Sem.run_pure]

theorem gives_sub (hc : CfgOk c) {n : Nat} {w0 : W1} {S0 : Nat → Prop} {lk : K → Option (Ent A)} {a : Act} (hR : RelAt c n w0 S0 S σ lk a w) {E : Env A} (hE : ∀ k e, look k E = some e → lk k = some e)
    {g : Chain} (hg : Holds a g) {t : Nat} {s : ByteArray} {x : Value} {lo hi : Option Operand} {i j : Int} (hx : Den c S σ w (.str s : V A) x) (hst : (c.ty t).str = true)
    (hlo : bound E g lo 0 = some i) (hhi : bound E g hi (s.size : Int) = some j) (h0 : 0 ≤ i) (h1 : i ≤ j) (h2 : j ≤ (s.size : Int)) :
    Gives c S σ w (Instr.sliceAt t x (lo.map a.eval) (hi.map a.eval) none) (.str (s.extract i.toNat j.toNat) : V A) := by
  have ex := hx.of_str; subst ex
  have hurun := run_underlying ((hc.ty t).str hst) w
  have hlo' : (lo.map a.eval = none ∧ i = 0) ∨ ∃ k, lo.map a.eval = some (.int k i) := by
    rcases bound_den hR hE hg hlo with ⟨rfl, rfl⟩ | ⟨x, k, rfl, hx⟩
    · exact .inl ⟨rfl, rfl⟩
    · exact .inr ⟨k, by simp [hx]⟩
  have hhi' : (hi.map a.eval = none ∧ j = (s.size : Int)) ∨ ∃ k, hi.map a.eval = some (.int k j) := by
    rcases bound_den hR hE hg hhi with ⟨rfl, rfl⟩ | ⟨x, k, rfl, hx⟩
    · exact .inl ⟨rfl, rfl⟩
    · exact .inr ⟨k, by simp [hx]⟩
  have hb := run_bounds (P := c.P) (w := w) (isSl := false) hlo' hhi' h0 h1 h2 (Nat.le_refl _)
  refine ⟨_, ?_, .str _⟩
  simp only [Instr.sliceAt, Instr.slice, Sem.run_bind, hurun, Result.andThen_ok, hb, Sem.run_pure, Option.isSome_none, Bool.false_eq_true, if_false]

theorem gives_indexAddr (hc : CfgOk c) {t e : Nat} {f : Bool} {l : List (A e)} {x y : Value} {k : IntKind} {i : Int} (hx : Den c S σ w (.list e f l) x) (hy : Den c S σ w (.int k i : V A) y) (hel : (c.ty t).elem = some e)
    (h0 : 0 ≤ i) (h1 : i < (l.length : Int)) : Gives c S σ w (Instr.indexAt t x y) (.eptr e f (l.getD i.toNat (c.C.dft e)) 0) := by
  have ey := hy.of_int; subst ey
  obtain ⟨p, cap, b, z, rfl, hp, hcap, hS, hn, he, hw, hd⟩ := hx.of_list
  have hlt : i.toNat < l.length := by omega
  have hne : l ≠ [] := by intro e; subst e; simp at hlt
  have hurun := run_underlying ((hc.ty t).elem e hel) w
  have hsz := (hc.ty e).size (hn hne) w
  have hget : l.getD i.toNat (c.C.dft e) = l[i.toNat] := by simp [hlt]
  rw [hget]
  refine ⟨.pointer (some (b.add (i.toNat * (c.ty e).size))), ?_, ?_⟩
  · rw [hp hne]
    simp [Instr.indexAt, asIntOf, hurun, h0, h1, hsz]
  · have := Den.eptr (c := c) (S := S) (σ := σ) (w := w) e f l[i.toNat] 0 (b.add (i.toNat * (c.ty e).size)) (fun q => z i.toNat q) (by rw [add_block]; exact hS hne) (he _ hlt)
      (fun q hq => by rw [add_add]; exact hw _ q hlt hq) (fun q hq => hd _ q hlt hq)
    rw [add_add, Nat.add_zero] at this
    exact this

/-- A place in a row. -/
theorem gives_indexOwn (hc : CfgOk c) {n : Nat} {w0 : W1} {S0 : Nat → Prop} {lk : K → Option (Ent A)} {a : Act} (hR : RelAt c n w0 S0 S σ lk a w) {t e r : Nat} {f : Bool} {l : List (A e)} {x y : Value} {k : IntKind} {i : Int}
    (hx : Den c S σ w (.own r : V A) x) (hrow : lk (.row r) = some ([], .rowc e f none l)) (hy : Den c S σ w (.int k i : V A) y) (hel : (c.ty t).elem = some e)
    (h0 : 0 ≤ i) (h1 : i < (l.length : Int)) : Gives c S σ w (Instr.indexAt t x y) (.optr r e i.toNat 0 : V A) := by
  have ey := hy.of_int; subst ey
  cases hx
  have hr : RowAt c S σ w (σ r) e f none l := (hR.row r [] _ hrow rfl).1
  have hcap : (σ r).cap ≠ 0 := by have := hr.cap; omega
  have hurun := run_underlying ((hc.ty t).elem e hel) w
  have hsz := (hc.ty e).size hr.ne w
  have h1' : i < ((σ r).len : Int) := by rw [hr.len]; exact h1
  refine ⟨.pointer (some ⟨(σ r).blk, i.toNat * (c.ty e).size + 0, none⟩), ?_, .optr r e i.toNat 0 (by omega)⟩
  rw [hr.base rfl hcap]
  simp [Instr.indexAt, asIntOf, hurun, h0, h1', hsz, add_plain]

/-- A place in an array of one's own. -/
theorem gives_indexArr (hc : CfgOk c) {n : Nat} {w0 : W1} {S0 : Nat → Prop} {lk : K → Option (Ent A)} {a : Act} (hR : RelAt c n w0 S0 S σ lk a w) {t e r m : Nat} {f : Bool} {l : List (A e)} {x y : Value} {k : IntKind} {i : Int}
    (hx : Den c S σ w (.ptr r 0 : V A) x) (hrow : lk (.row r) = some ([], .rowc e f (some m) l)) (hy : Den c S σ w (.int k i : V A) y) (hel : (c.ty t).arr = some (e, m))
    (h0 : 0 ≤ i) (h1 : i < (m : Int)) : Gives c S σ w (Instr.indexAt t x y) (.optr r e i.toNat 0 : V A) := by
  have ey := hy.of_int; subst ey
  have ex := hx.of_ptr; subst ex
  have hr : RowAt c S σ w (σ r) e f (some m) l := (hR.row r [] _ hrow rfl).1
  have hurun := run_underlying ((hc.ty t).arr e m hel) w
  have hsz := (hc.ty e).size hr.ne w
  have hlen := hr.fix m rfl
  refine ⟨.pointer (some ⟨(σ r).blk, i.toNat * (c.ty e).size + 0, none⟩), ?_, .optr r e i.toNat 0 (by rw [hr.len]; omega)⟩
  simp [Instr.indexAt, asIntOf, hurun, h0, h1, hsz, add_plain, Instr.sureAddr]

/-- A place in an array that is kept cell by cell. -/
theorem gives_indexSmall (hc : CfgOk c) {t e r m off i : Nat} {x y : Value} {k : IntKind} (hx : Den c S σ w (.ptr r off : V A) x) (hy : Den c S σ w (.int k (.ofNat i) : V A) y) (hel : (c.ty t).sarr = some (e, m))
    (hs : (c.ty e).size ≠ 0) (h1 : i < m) : Gives c S σ w (Instr.indexAt t x y) (.ptr r (off + i * (c.ty e).size) : V A) := by
  have ey := hy.of_int; subst ey
  have ex := hx.of_ptr; subst ex
  have hurun := run_underlying ((hc.ty t).sarr e m hel) w
  have hsz := (hc.ty e).size hs w
  refine ⟨.pointer (some ⟨(σ r).blk, off + i * (c.ty e).size, none⟩), ?_, .ptr r _⟩
  have h2 : (Int.ofNat i) < (m : Int) := Int.ofNat_lt.2 h1
  have h0 : (0 : Int) ≤ Int.ofNat i := Int.natCast_nonneg _
  simp [Instr.indexAt, asIntOf, hurun, hsz, add_plain, Instr.sureAddr, h1]

theorem part_cells (hc : CfgOk c) {t off : Nat} {cs : List (V A)} {xs : Nat → Value} {v : V A} (h : Vm.part (c.ty t) cs off = some v) {zs : Array Value} {o : Nat} (hle : o + cs.length ≤ zs.size) (hd : ∀ q (hq : q < cs.length), Den c S σ w cs[q] (zs.getD (o + q) undef)) :
    ∃ x, (Go.part t zs (o + off)).run c.P w = .ok x w ∧ Den c S σ w v x := by
  unfold Vm.part at h
  split at h
  · rename_i ha
    have hagg := (hc.ty t).agg _ ha w
    split at h
    · rename_i hz hle'
      cases h
      have hsz := (hc.ty t).size (by intro e; rw [e] at hz; simp at hz) w
      have hle' : off + (c.ty t).size ≤ cs.length := by simpa using hle'
      refine ⟨.agg (zs.extract (o + off) (o + off + (c.ty t).size)), by simp [Go.part, hagg, hsz], .agg _ _ (by simp; omega) fun i hi => ?_⟩
      simp only [List.length_take, List.length_drop] at hi
      have h1 : off + i < cs.length := by omega
      have := hd (off + i) h1
      simp only [List.getElem_take, List.getElem_drop]
      have e : (zs.extract (o + off) (o + off + (c.ty t).size)).getD i undef = zs.getD (o + (off + i)) undef := by
        have h2 : o + (off + i) < zs.size := by omega
        have h3 : i < (zs.extract (o + off) (o + off + (c.ty t).size)).size := by rw [Array.size_extract]; omega
        rw [Array.getD_eq_getD_getElem?, Array.getD_eq_getD_getElem?, Array.getElem?_eq_getElem h3, Array.getElem?_eq_getElem h2, Array.getElem_extract]
        simp only [Nat.add_assoc]
      rw [e]; exact this
    · cases h
  · rename_i ha
    have hagg := (hc.ty t).agg _ ha w
    rw [nth_eq] at h
    obtain ⟨hlt, hv⟩ := List.getElem?_eq_some_iff.1 h
    have hd' := hd off hlt
    rw [hv] at hd'
    have hlt' : o + off < zs.size := by omega
    refine ⟨zs.getD (o + off) undef, ?_, hd'⟩
    simp [Go.part, hagg, hlt']
  · cases h

/-- An element of an array. -/
theorem gives_arrElem (hc : CfgOk c) {t e m : Nat} {f : Bool} {l : List (A e)} {x y : Value} {k : IntKind} {i : Int} {v : V A} (hx : Den c S σ w (.arr e f m l) x) (hy : Den c S σ w (.int k i : V A) y) (hel : (c.ty t).arr = some (e, m)) (hs : (c.ty e).size ≠ 0)
    (h0 : 0 ≤ i) (h1 : i < (m : Int)) (hp : Vm.part (c.ty e) (encF c e f (l.getD i.toNat (c.C.dft e))) 0 = some v) : Gives c S σ w (Instr.index t x y) v := by
  have ey := hy.of_int; subst ey
  cases hx with
  | arr _ _ _ _ xs hl he hxs hd =>
    have hurun := run_underlying ((hc.ty t).arr e m hel) w
    have hsz := (hc.ty e).size hs w
    have hlt : i.toNat < l.length := by omega
    have hget : l.getD i.toNat (c.C.dft e) = l[i.toNat] := by simp [hlt]
    rw [hget] at hp
    have hin : i.toNat * (c.ty e).size + (c.ty e).size ≤ xs.size := by
      rw [hxs]
      have : (i.toNat + 1) * (c.ty e).size ≤ m * (c.ty e).size := Nat.mul_le_mul_right _ (by omega)
      rw [Nat.succ_mul] at this; omega
    obtain ⟨z, hz, hdz⟩ := part_cells (xs := fun _ => undef) hc hp (zs := xs) (o := i.toNat * (c.ty e).size) (by rw [encF_length, he _ hlt]; exact hin) (fun q hq => hd _ q hlt hq)
    rw [Nat.add_zero] at hz
    refine ⟨z, ?_, hdz⟩
    simp only [Instr.index, asIntOf, Sem.run_bind, Sem.run_pure, Result.andThen_ok, hurun, if_pos (show 0 ≤ i ∧ i < (m : Int) from ⟨h0, h1⟩), hsz, hz]

/-- An element of an array that is kept cell by cell. -/
theorem gives_smallElem (hc : CfgOk c) {t e m i : Nat} {cs : List (V A)} {x y : Value} {k : IntKind} {v : V A} (hx : Den c S σ w (.agg cs) x) (hy : Den c S σ w (.int k (.ofNat i) : V A) y) (hel : (c.ty t).sarr = some (e, m)) (hs : (c.ty e).size ≠ 0)
    (h1 : i < m) (hp : Vm.part (c.ty e) cs (i * (c.ty e).size) = some v) : Gives c S σ w (Instr.index t x y) v := by
  have ey := hy.of_int; subst ey
  obtain ⟨xs, rfl, hda⟩ := hx.of_agg
  have hurun := run_underlying ((hc.ty t).sarr e m hel) w
  have hsz := (hc.ty e).size hs w
  obtain ⟨z, hz, hdz⟩ := part_den hc hp hda
  refine ⟨z, ?_, hdz⟩
  have h2 : (Int.ofNat i) < (m : Int) := Int.ofNat_lt.2 h1
  have h0 : (0 : Int) ≤ Int.ofNat i := Int.natCast_nonneg _
  simp only [Instr.index, asIntOf, Sem.run_bind, Sem.run_pure, Result.andThen_ok, hurun, if_pos (show (0 : Int) ≤ Int.ofNat i ∧ Int.ofNat i < (m : Int) from ⟨h0, h2⟩), hsz]
  exact hz

theorem byte_get (s : ByteArray) {n : Nat} (h : n < s.size) : s[n]? = some (s.data.toList.getD n 0) := by
  have h' : n < s.data.size := h
  simp [h', getElem?_pos, h]
  rfl

theorem gives_index (hc : CfgOk c) {t : Nat} {s : ByteArray} {x y : Value} {k : IntKind} {i : Int} (hx : Den c S σ w (.str s : V A) x) (hy : Den c S σ w (.int k i : V A) y) (hst : (c.ty t).str = true)
    (h0 : 0 ≤ i) (h1 : i < (s.size : Int)) : Gives c S σ w (Instr.index t x y) (.int .u8 ((s.data.toList.getD i.toNat 0).toNat : Int) : V A) := by
  have ey := hy.of_int; subst ey
  have ex := hx.of_str; subst ex
  have hurun := run_underlying ((hc.ty t).str hst) w
  have hg := byte_get s (show i.toNat < s.size by omega)
  refine ⟨_, ?_, .int _ _⟩
  simp only [Instr.index, asIntOf, Sem.run_bind, Sem.run_pure, Result.andThen_ok, hurun, if_pos h0, hg]

theorem argsOf_den (hc : CfgOk c) {n : Nat} {w0 : W1} {S0 : Nat → Prop} {lk : K → Option (Ent A)} {a : Act} (hR : RelAt c n w0 S0 S σ lk a w) {E : Env A} (hE : ∀ k e, look k E = some e → lk k = some e)
    {g : Chain} (hg : Holds a g) : ∀ (xs : List Operand) (ts : List Nat) (vs : List (V A)), argsOf c E g xs ts = some vs → xs.length = vs.length ∧ ∀ i (hi : i < vs.length), Den c S σ w vs[i] ((xs.map a.eval).getD i undef) := by
  intro xs
  induction xs with
  | nil => intro ts vs h; simp only [argsOf, Option.some.injEq] at h; subst h; simp
  | cons x xs ih =>
    intro ts vs h
    simp only [argsOf] at h
    split at h
    · rename_i v hv
      split at h
      · rename_i vs' hvs
        cases h
        obtain ⟨h1, h2⟩ := ih _ _ hvs
        refine ⟨by simp [h1], fun i hi => ?_⟩
        cases i with
        | zero =>
          have hd := opv_den hR hE hg hv
          cases ts with
          | nil => exact hd
          | cons t ts => exact fit_den hd
        | succ i => exact h2 i (by simpa using hi)
      · cases h
    · cases h

end
end Vm
