/-
  What the interpreter says of one operation is so: loads, stores, new boxes.
-/
import Derived.Test.YthnlknegnlmklaaVm4
set_option linter.all false
namespace Vm
open Go Go.RowKit
variable {A : Nat → Type}

section
variable {P : Program}

theorem add_add (b : Addr) (m n : Nat) : (b.add m).add n = b.add (m + n) := by
  unfold Addr.add
  by_cases hm : m = 0 <;> by_cases hn : n = 0 <;> simp [hm, hn]
  omega

theorem add_block (b : Addr) (n : Nat) : (b.add n).block = b.block := by unfold Addr.add; split <;> rfl

theorem add_plain (k o n : Nat) : (⟨k, o, none⟩ : Addr).add n = ⟨k, o + n, none⟩ := by
  unfold Addr.add; split
  · rename_i h; subst h; rfl
  · rfl

theorem run_load_cell {w : World} {a : Addr} {x : Value} (h : w.cell? a = some x) : (load a).run P w = .ok x w := by simp [h]

theorem run_loadCellsFrom {w : World} (a : Addr) (x : Nat → Value) : ∀ n i (acc : Array Value), (∀ j, j < n → w.cell? (a.add (i + j)) = some (x (i + j))) →
    (loadCellsFrom a i n acc).run P w = .ok (acc ++ ((List.range n).map fun j => x (i + j)).toArray) w := by
  intro n
  induction n with
  | zero => intro i acc _; simp [loadCellsFrom]
  | succ n ih =>
    intro i acc h
    have h0 := h 0 (by omega)
    simp only [Nat.add_zero] at h0
    have ih' := ih (i + 1) (acc.push (x i)) (fun j hj => by have := h (j + 1) (by omega); rw [show i + (j + 1) = i + 1 + j by omega] at this; exact this)
    simp only [loadCellsFrom, Sem.run_bind, run_load_cell h0, Result.andThen_ok, ih']
    congr 1
    apply Array.ext'
    simp only [Array.toList_append, Array.toList_push, List.range_succ_eq_map, List.map_cons, List.map_map, Nat.add_zero, List.append_assoc, List.cons_append, List.nil_append]
    congr 2
    apply List.map_congr_left
    intro j _
    simp only [Function.comp]
    congr 1
    omega

theorem run_loadVar {w : World} {t : TypeId} {a : Addr} {n : Nat} (x : Nat → Value) (hagg : (isAgg t).run P w = .ok true w) (hsz : (Go.sizeOf t).run P w = .ok n w) (h : ∀ j, j < n → w.cell? (a.add j) = some (x j)) :
    (loadVar t a).run P w = .ok (.agg ((List.range n).map x).toArray) w := by
  have := run_loadCellsFrom (P := P) a x n 0 #[] (by simpa using h)
  simp only [Nat.zero_add, Array.empty_append] at this
  simp [loadVar, hagg, hsz, loadCells, this]

theorem run_loadVar1 {w : World} {t : TypeId} {a : Addr} {x : Value} (hagg : (isAgg t).run P w = .ok false w) (h : w.cell? a = some x) : (loadVar t a).run P w = .ok x w := by
  simp [loadVar, hagg, h]

/-- The world behind a row of stores. -/
def setCells (a : Addr) : Nat → List Value → World → World
  | _, [], w => w
  | i, v :: vs, w => setCells a (i + 1) vs (w.setCell (a.add i) v)

theorem run_storeCells {a : Addr} : ∀ (vs : List Value) (i : Nat) (w : World), (∀ v ∈ vs, v.oneCell' = true) → (∀ j, j < vs.length → (w.cell? (a.add (i + j))).isSome = true) → (∀ j, w.frozen? (a.add j) = false) →
    (storeCells a vs i).run P w = .ok () (setCells a i vs w) := by
  intro vs
  induction vs with
  | nil => intro i w _ _ _; simp [storeCells, setCells]
  | cons v vs ih =>
    intro i w hv hcell hfz
    have h0 := hcell 0 (by simp)
    simp only [Nat.add_zero] at h0
    obtain ⟨x, hx⟩ := Option.isSome_iff_exists.1 h0
    have hst : (store (a.add i) v).run P w = .ok () (w.setCell (a.add i) v) := by
      rw [run_store _ _ _ _ _ (hv v (by simp)), hx, hfz i]; simp
    simp only [storeCells, Sem.run_bind, hst, Result.andThen_ok, setCells]
    refine ih (i + 1) _ (fun u hu => hv u (by simp [hu])) (fun j hj => ?_) (fun j => ?_)
    · have hj' := hcell (j + 1) (by simp; omega)
      rw [show i + (j + 1) = i + 1 + j by omega] at hj'
      by_cases he : a.add i = a.add (i + 1 + j)
      · rw [← he]; simp [World.cell?_setCell_same _ _ _ hx]
      · rw [World.cell?_setCell_other _ _ _ _ he]; exact hj'
    · rw [World.frozen?_setCell]; exact hfz j

theorem setCells_frozen {a b : Addr} : ∀ (vs : List Value) (i : Nat) (w : World), (setCells a i vs w).frozen? b = w.frozen? b
  | [], _, _ => rfl
  | v :: vs, i, w => by rw [setCells, setCells_frozen vs]; exact World.frozen?_setCell ..

theorem setCells_size {a : Addr} : ∀ (vs : List Value) (i : Nat) (w : World), (setCells a i vs w).heap.size = w.heap.size
  | [], _, _ => rfl
  | v :: vs, i, w => by rw [setCells, setCells_size vs]; simp

theorem setCells_below {a : Addr} {B : Nat} (hB : B ≤ a.block) : ∀ (vs : List Value) (i : Nat) (w w0 : World), Below B w0 w → Below B w0 (setCells a i vs w)
  | [], _, _, _, h => h
  | v :: vs, i, w, w0, h => setCells_below hB vs (i + 1) _ w0 (h.setCell (by rw [add_block]; exact hB) v)

theorem setCells_block {a : Addr} {b : Nat} (hb : b ≠ a.block) : ∀ (vs : List Value) (i : Nat) (w : World), (setCells a i vs w).heap[b]? = w.heap[b]?
  | [], _, _ => rfl
  | v :: vs, i, w => by rw [setCells, setCells_block hb vs]; exact Below.heap_setCell _ _ _ _ (by rw [add_block]; exact hb)

/-- Cells behind a row of stores, at plain addresses. -/
theorem setCells_cell {k : Nat} : ∀ (vs : List Value) (o i : Nat) (w : World) (p : Nat), (∀ j, j < vs.length → (w.cell? ⟨k, o + (i + j), none⟩).isSome = true) →
    (setCells ⟨k, o, none⟩ i vs w).cell? ⟨k, p, none⟩ = if o + i ≤ p ∧ p < o + i + vs.length then vs[p - (o + i)]? else w.cell? ⟨k, p, none⟩ := by
  intro vs
  induction vs with
  | nil => intro o i w p _; simp [setCells]; omega
  | cons v vs ih =>
    intro o i w p h
    have h0 := h 0 (by simp)
    simp only [Nat.add_zero] at h0
    obtain ⟨x, hx⟩ := Option.isSome_iff_exists.1 h0
    rw [setCells, add_plain, ih o (i + 1) _ p]
    · by_cases hp : p = o + i
      · subst hp
        rw [if_neg (by omega), if_pos (by simp), World.cell?_setCell_same _ _ _ hx]
        simp
      · have hne : (⟨k, o + i, none⟩ : Addr) ≠ ⟨k, p, none⟩ := by intro e; cases e; exact hp rfl
        rw [World.cell?_setCell_other _ _ _ _ hne]
        by_cases hr : o + i ≤ p ∧ p < o + i + (v :: vs).length
        · rw [if_pos hr, if_pos (by simp at hr; omega)]
          rw [show p - (o + i) = (p - (o + (i + 1))) + 1 by omega, List.getElem?_cons_succ]
        · rw [if_neg hr, if_neg (by simp at hr; omega)]
    · intro j hj
      have hj' := h (j + 1) (by simp; omega)
      rw [show o + (i + (j + 1)) = o + (i + 1 + j) by omega] at hj'
      by_cases he : (⟨k, o + i, none⟩ : Addr) = ⟨k, o + (i + 1 + j), none⟩
      · rw [← he]; simp [World.cell?_setCell_same _ _ _ hx]
      · rw [World.cell?_setCell_other _ _ _ _ he]; exact hj'

end

section
variable {c : Cfg A} {n : Nat} {w0 : W1} {S0 : Nat → Prop} {S : Fz} {σ : Nat → Loc} {lk : K → Option (Ent A)} {a : Act} {w : World}

theorem readCells_spec {E : Env A} {id : Nat} : ∀ (m off : Nat) (cs : List (V A)), readCells E id off m = some cs → cs.length = m ∧
    ∀ i (hi : i < cs.length), look (.cell id (off + i)) E = some ([], cs[i]) ∧ (cs[i]).isJunk = false := by
  intro m
  induction m with
  | zero => intro off cs h; simp [readCells] at h; subst h; simp
  | succ m ih =>
    intro off cs h
    simp only [readCells] at h
    split at h
    · cases h
    · rename_i v hv1 hv2
      split at h
      · rename_i vs hvs
        cases h
        obtain ⟨h1, h2⟩ := ih (off + 1) vs hvs
        refine ⟨by simp [h1], fun i hi => ?_⟩
        cases i with
        | zero =>
          refine ⟨hv2, ?_⟩
          show v.isJunk = false
          cases v <;> first | rfl | exact absurd rfl (hv1 ·)
        | succ i =>
          have := h2 i (by simpa using hi)
          rw [show off + (i + 1) = off + 1 + i by omega]
          exact this
      · cases h
    · cases h

theorem load_ptr (hc : CfgOk c) (hR : RelAt c n w0 S0 S σ lk a w) {E : Env A} (hE : ∀ k e, look k E = some e → lk k = some e) {t : TypeId} {id off : Nat} {cs : List (V A)} {v : V A}
    (h1 : readCells E id off (c.ty t).size = some cs) (h2 : ofCells (c.ty t) cs = some v) : Gives c S σ w (loadVar t ⟨(σ id).blk, off, none⟩) v := by
  obtain ⟨hlen, hcs⟩ := readCells_spec _ _ _ h1
  have hx : ∀ i, i < cs.length → ∃ x, w.cell? ⟨(σ id).blk, off + i, none⟩ = some x ∧ (∀ hi : i < cs.length, Den c S σ w cs[i] x) := fun i hi => by
    obtain ⟨hl, hj⟩ := hcs i hi
    obtain ⟨⟨x, hx, hd⟩, _⟩ := hR.cell id (off + i) [] _ (hE _ _ hl) hj
    exact ⟨x, hx, fun _ => hd⟩
  unfold ofCells at h2
  split at h2
  · rename_i ha
    split at h2
    · rename_i hz
      cases h2
      have hz' : (c.ty t).size ≠ 0 := by intro e; rw [e] at hz; simp at hz
      have hcl : ∀ i, i < cs.length → w.cell? ⟨(σ id).blk, off + i, none⟩ = some ((w.cell? ⟨(σ id).blk, off + i, none⟩).getD undef) := fun i hi => by
        obtain ⟨x, hx, _⟩ := hx i hi; simp [hx]
      refine ⟨_, run_loadVar (fun j => (w.cell? ⟨(σ id).blk, off + j, none⟩).getD undef) ((hc.ty t).agg _ ha w) ((hc.ty t).size hz' w) (fun j hj => by rw [add_plain]; exact hcl j (by omega)), .agg _ _ (by simp [hlen]) fun i hi => ?_⟩
      obtain ⟨x, hxx, hd⟩ := hx i hi
      have : (((List.range (c.ty t).size).map fun j => (w.cell? ⟨(σ id).blk, off + j, none⟩).getD undef).toArray).getD i undef = x := by
        simp [hxx, show i < (c.ty t).size by omega]
      rw [this]; exact hd hi
    · cases h2
  · rename_i ha
    split at h2
    · rename_i u
      cases h2
      obtain ⟨x, hxx, hd⟩ := hx 0 (by simp)
      exact ⟨x, run_loadVar1 ((hc.ty t).agg _ ha w) (by simpa using hxx), hd (by simp)⟩
    · cases h2
  · cases h2

/-- A part of cells that are known. -/
theorem load_part (hc : CfgOk c) {t : TypeId} {m off : Nat} {es : List (V A)} {v : V A} {b : Addr} {x : Nat → Value}
    (he : es.length = m) (hw : ∀ q, q < m → w.cell? (b.add q) = some (x q))
    (hd : ∀ q (hq : q < es.length), Den c S σ w es[q] (x q)) (h : Vm.part (c.ty t) es off = some v) : Gives c S σ w (loadVar t (b.add off)) v := by
  unfold Vm.part at h
  split at h
  · rename_i ha
    split at h
    · rename_i hz hle
      cases h
      have hz' : (c.ty t).size ≠ 0 := by intro e; rw [e] at hz; simp at hz
      have hle' : off + (c.ty t).size ≤ es.length := by simpa using hle
      refine ⟨_, run_loadVar (fun j => x (off + j)) ((hc.ty t).agg _ ha w) ((hc.ty t).size hz' w) (fun j hj => by rw [add_add]; exact hw _ (by omega)), .agg _ _ (by simp; omega) fun i hi => ?_⟩
      simp only [List.length_take, List.length_drop] at hi
      have : (((List.range (c.ty t).size).map fun j => x (off + j)).toArray).getD i undef = x (off + i) := by simp [show i < (c.ty t).size by omega]
      rw [this]
      simp only [List.getElem_take, List.getElem_drop]
      exact hd (off + i) (by omega)
    · cases h
  · rename_i ha
    rw [nth_eq] at h
    obtain ⟨hlt, hv⟩ := List.getElem?_eq_some_iff.1 h
    have := hd off hlt
    rw [hv] at this
    exact ⟨x off, run_loadVar1 ((hc.ty t).agg _ ha w) (hw off (by omega)), this⟩
  · cases h

theorem look_writeCells {id : Nat} : ∀ (cs : List (V A)) (off : Nat) (k : K), look k (writeCells id off cs) =
    match k with | .cell id' o => if id' = id ∧ off ≤ o ∧ o < off + cs.length then (cs[o - off]?).map (fun v => ([], v)) else none | _ => none := by
  intro cs
  induction cs with
  | nil => intro off k; cases k <;> simp [writeCells, look]
  | cons v cs ih =>
    intro off k
    rw [writeCells, look_cons, ih]
    cases k with
    | slot i => simp
    | row i => simp
    | cell id' o =>
      simp only [K.cell.injEq]
      by_cases h : id' = id ∧ o = off
      · obtain ⟨rfl, rfl⟩ := h; simp
      · rw [if_neg h]
        by_cases h2 : id' = id ∧ off + 1 ≤ o ∧ o < off + 1 + cs.length
        · rw [if_pos h2, if_pos (by simp; omega), show o - off = (o - (off + 1)) + 1 by omega, List.getElem?_cons_succ]
        · rw [if_neg h2, if_neg (by simp; omega)]

/-- What is known once an operation has been carried out: its slot's old value is forgotten. -/
def Did (c : Cfg A) (n : Nat) (w0 : W1) (S0 : Nat → Prop) (lk : K → Option (Ent A)) (dst : Option Nat) (ent : Env A) (v : V A) (a : Act) (x : Value) (w' : World) : Prop :=
  ∃ S' σ', RelAt c n w0 S0 S' σ' (fun k => if some k = dst.map K.slot then none else (look k ent).or (lk k)) a w' ∧ Den c S' σ' w' v x

theorem did_same (hR : RelAt c n w0 S0 S σ lk a w) {dst : Option Nat} {v : V A} {x : Value} (h : Den c S σ w v x) : Did c n w0 S0 lk dst [] v a x w :=
  ⟨S, σ, hR.weaken (fun k e he => by split at he <;> simp_all [look]), h⟩

theorem did_grow (hc : CfgOk c) (hR : RelAt c n w0 S0 S σ lk a w) {w' : World} {S' : Fz} (hb : Below w.heap.size w w') (hT : ∀ b, S' true b → S' false b) (hS' : ∀ f b, S' f b → S f b ∨ (w.heap.size ≤ b ∧ b < w'.heap.size)) {dst : Option Nat} {v : V A} {x : Value}
    (h : Den c S' σ w' v x) : Did c n w0 S0 lk dst [] v a x w' := by
  have hR' := hR.grow hc (S' := fun f b => S f b ∨ S' f b) hb (fun _ _ h => .inl h) (fun b h => by rcases h with h | h; exact .inl (hR.sT b h); exact .inr (hT b h)) (fun f b h => by rcases h with h | h; exact .inl h; exact hS' f b h)
  refine ⟨_, σ, hR'.weaken (fun k e he => by split at he <;> simp_all [look]), h.mono hc (fun _ _ h => .inr h) (fun _ _ => ?_) (fun _ _ => rfl)⟩
  intro _; rfl

/-- The blocks that turn are those of rows that are forgotten; a row is laid. -/
theorem RelAt.rowStep (hc : CfgOk c) (hR : RelAt c n w0 S0 S σ lk a w) {lk' : K → Option (Ent A)} (hsub : Sub lk' lk) {X : Nat → Prop} {w' : World} (hb : Bel ⟨w, fun b _ => X b⟩ w')
    (hX : ∀ b, X b → ¬ S false b ∧ w0.heap.size ≤ b) (hlive : ∀ b id, live lk' σ b id → ¬ X (σ id).blk)
    {d : Nat} {L : Loc} {t : Nat} {f : Bool} {m : Option Nat} {l : List (A t)} (hpin : L = σ d ∨ d ∉ c.pins) (hd : L = σ d ∨ ∀ k g v, lk' k = some (g, v) → v.isJunk = false → avoids d v = true ∧ K.avoids d k = true)
    (hrow : RowAt c S σ w' L t f m l) (hL : L.cap ≠ 0 → ¬ S false L.blk ∧ w0.heap.size ≤ L.blk ∧ ∀ b id, live lk' σ b id → (σ id).blk ≠ L.blk) :
    RelAt c n w0 S0 S (fun i => if i = d then L else σ i) (fun k => if k = .row d then some ([], .rowc t f m l) else lk' k) a w' := by
  have hSX : ∀ f b, S f b → ¬ X b := fun f b hb hx => (hX b hx).1 (by cases f; exact hb; exact hR.sT b hb)
  have hkeep : ∀ b, b < w.heap.size → ¬ X b → w'.heap[b]? = w.heap[b]? := fun b hlt hn => hb.block b hlt (fun _ h => hn h)
  have hS : ∀ f b, S f b → w'.heap[b]? = w.heap[b]? := fun f b h => hkeep b (hR.sLt' f b h) (hSX f b h)
  have hσ : ∀ {v : V A}, (L = σ d ∨ avoids d v = true) → ∀ id, avoids id v = false → (fun i => if i = d then L else σ i) id = σ id := fun {v} hv id hid => by
    by_cases h : id = d
    · subst h
      rcases hv with h | h
      · simp [h]
      · rw [h] at hid; cases hid
    · simp [h]
  have hden : ∀ {v x}, Den c S σ w v x → (L = σ d ∨ avoids d v = true) → Den c S (fun i => if i = d then L else σ i) w' v x := fun h hv => h.mono hc (fun _ _ h => h) hS (hσ hv)
  have hav : ∀ k g v, lk' k = some (g, v) → v.isJunk = false → (L = σ d ∨ avoids d v = true) ∧ (L = σ d ∨ K.avoids d k = true) := fun k g v hk hj => by
    rcases hd with h | h
    · exact ⟨.inl h, .inl h⟩
    · obtain ⟨h1, h2⟩ := h k g v hk hj; exact ⟨.inr h1, .inr h2⟩
  have hid : ∀ id, (L = σ d ∨ id ≠ d) → (fun i => if i = d then L else σ i) id = σ id := fun id h => by
    by_cases e : id = d
    · subst e; rcases h with h | h; simp [h]; exact absurd rfl h
    · simp [e]
  have hid' : ∀ id ∈ c.pins, (if id = d then L else σ id) = σ id := fun id hm => by
    by_cases e : id = d
    · subst e; rcases hpin with h | h; simp [h]; exact absurd hm h
    · simp [e]
  have hlv : ∀ b id, live (fun k => if k = .row d then some ([], .rowc t f m l) else lk' k) (fun i => if i = d then L else σ i) b id → (b = true ∧ id = d ∧ L.cap ≠ 0) ∨ (live lk' σ b id ∧ (fun i => if i = d then L else σ i) id = σ id) := by
    intro b id h
    cases b
    · obtain ⟨o, g, v, h1, h2⟩ := h
      simp only [reduceCtorEq, if_false] at h1
      have hne := (hav _ _ _ h1 h2).2
      exact .inr ⟨⟨o, g, v, h1, h2⟩, hid id (by rcases hne with h | h; exact .inl h; exact .inr (by intro e; subst e; simp [K.avoids] at h))⟩
    · obtain ⟨g, v, h1, h2, h3⟩ := h
      by_cases e : id = d
      · subst e; simp at h3; exact .inl ⟨rfl, rfl, h3⟩
      · have : K.row id ≠ K.row d := by intro h; cases h; exact e rfl
        simp only [this, if_false] at h1
        simp only [e, if_false] at h3
        exact .inr ⟨⟨g, v, h1, h2, h3⟩, hid id (.inr e)⟩
  exact {
    inv := hc.inv _ _ _ _ hR.inv (fun _ h => h) (hS false)
    defers := hR.defers
    size := hR.size
    below := hR.below.trans hb (fun b _ h => .inl (hX b h).2)
    s0 := hR.s0
    pin := fun id hid => by
      have e : (if id = d then L else σ id) = σ id := hid' id hid
      show (if id = d then L else σ id).blk = _
      rw [e]; exact hR.pin id hid
    sT := hR.sT
    sNew := hR.sNew
    sLt := fun b h => Nat.lt_of_lt_of_le (hR.sLt b h) hb.size
    slot := fun i g v hv hj => by
      simp only [reduceCtorEq, if_false] at hv
      obtain ⟨h1, h2, h3⟩ := hR.slot i g v (hsub _ _ _ hv hj) hj
      exact ⟨h1, fun hg => hden (h2 hg) (hav _ _ _ hv hj).1, h3⟩
    cell := fun id off g v hv hj => by
      simp only [reduceCtorEq, if_false] at hv
      obtain ⟨⟨x, hx, hdx⟩, hfz, hns, hlo⟩ := hR.cell id off g v (hsub _ _ _ hv hj) hj
      obtain ⟨hv1, hv2⟩ := hav _ _ _ hv hj
      have hlvi : live lk' σ false id := ⟨off, g, v, hv, hj⟩
      have hnx := hlive _ id hlvi
      have hlt := hR.lt (hsub.live hlvi)
      have e : (fun i => if i = d then L else σ i) id = σ id := hid id (by rcases hv2 with h | h; exact .inl h; exact .inr (by intro e; subst e; simp [K.avoids] at h))
      simp only [e]
      refine ⟨⟨x, ?_, hden hdx hv1⟩, fun o => ?_, hns, hlo⟩
      · rw [← hx]; exact World.cell?_of_block (w := w) (hkeep _ hlt hnx)
      · rw [← hfz o]; exact World.frozen?_of_block (w := w) (hkeep _ hlt hnx)
    row := fun id g v hv hj => by
      by_cases e : id = d
      · subst e
        simp only [if_true, Option.some.injEq, Prod.mk.injEq] at hv
        obtain ⟨rfl, rfl⟩ := hv
        have e2 : (fun i => if i = id then L else σ i) id = L := by simp
        simp only [e2]
        refine ⟨?_, fun _ hcap => ⟨(hL hcap).1, (hL hcap).2.1⟩⟩
        exact hrow.mono hc (fun _ _ h => h) (fun _ _ _ => rfl) (fun _ => rfl)
      · have hne : K.row id ≠ K.row d := by intro h; cases h; exact e rfl
        simp only [hne, if_false] at hv
        obtain ⟨h1, h2⟩ := hR.row id g v (hsub _ _ _ hv hj) hj
        simp only [e, if_false]
        refine ⟨h1.mono hc (fun _ _ h => h) hS (fun hr hcap => ?_), h2⟩
        have hlvi : live lk' σ true id := ⟨g, v, hv, hr, hcap⟩
        exact hkeep _ (hR.lt (hsub.live hlvi)) (hlive _ id hlvi)
    dist := fun b b' i j hi hj he => by
      rcases hlv b i hi with ⟨rfl, rfl, hc1⟩ | ⟨hi1, hi2⟩ <;> rcases hlv b' j hj with ⟨rfl, rfl, hc2⟩ | ⟨hj1, hj2⟩
      · exact ⟨rfl, rfl⟩
      · have hj2 : (if j = i then L else σ j) = σ j := hj2
        rw [hj2, if_pos rfl] at he
        exact absurd he.symm ((hL hc1).2.2 _ j hj1)
      · have hi2 : (if i = j then L else σ i) = σ i := hi2
        rw [hi2, if_pos rfl] at he
        exact absurd he ((hL hc2).2.2 _ i hi1)
      · have hi2 : (if i = d then L else σ i) = σ i := hi2
        have hj2 : (if j = d then L else σ j) = σ j := hj2
        rw [hi2, hj2] at he
        exact hR.dist b b' i j (hsub.live hi1) (hsub.live hj1) he }

/-- A row is frozen. -/
theorem RelAt.freeze (hc : CfgOk c) (hR : RelAt c n w0 S0 S σ lk a w) {r : Nat} {g : Chain} {t : Nat} {f : Bool} {l : List (A t)} (hr : lk (.row r) = some (g, .rowc t f none l)) :
    RelAt c n w0 S0 (fun f b => S f b ∨ ((σ r).cap ≠ 0 ∧ b = (σ r).blk)) σ (fun k => if k = .row r then some ([], .list t f l) else lk k) a w := by
  obtain ⟨h1, h2⟩ := hR.row r g _ hr rfl
  have h1 : RowAt c S σ w (σ r) t f none l := h1
  have h2 := h2 rfl
  have hden : ∀ {v x}, Den c S σ w v x → Den c (fun f b => S f b ∨ ((σ r).cap ≠ 0 ∧ b = (σ r).blk)) σ w v x := fun h => h.mono hc (fun _ _ h => .inl h) (fun _ _ _ => rfl) (fun _ _ => rfl)
  have hlv : ∀ b id, live (fun k => if k = .row r then some ([], .list t f l) else lk k) σ b id → live lk σ b id ∧ ((σ r).cap ≠ 0 → (σ id).blk ≠ (σ r).blk) := by
    intro b id h
    have key : live lk σ b id ∧ (b = true → id ≠ r) := by
      cases b
      · obtain ⟨o, g, v, h1, h2⟩ := h
        exact ⟨⟨o, g, v, by simpa using h1, h2⟩, fun h => by cases h⟩
      · obtain ⟨g, v, h1, h2, h3⟩ := h
        by_cases e : id = r
        · subst e; simp only [if_true, Option.some.injEq, Prod.mk.injEq] at h1; obtain ⟨_, rfl⟩ := h1; cases h2
        · have : K.row id ≠ K.row r := by intro h; cases h; exact e rfl
          simp only [this, if_false] at h1
          exact ⟨⟨g, v, h1, h2, h3⟩, fun _ => e⟩
    refine ⟨key.1, fun hcap he => ?_⟩
    have hlr : live lk σ true r := ⟨g, _, hr, rfl, hcap⟩
    obtain ⟨h1, h2⟩ := hR.dist b true id r key.1 hlr he
    exact key.2 h1 h2
  exact {
    inv := hc.inv _ _ _ _ hR.inv (fun _ h => .inl h) (fun _ _ => rfl)
    defers := hR.defers
    size := hR.size
    below := hR.below
    s0 := fun b h => .inl (hR.s0 b h)
    pin := hR.pin
    sT := fun b h => by rcases h with h | h; exact .inl (hR.sT b h); exact .inr h
    sNew := fun f b h => by
      rcases h with h | ⟨hcap, rfl⟩
      · exact hR.sNew f b h
      · exact .inr (h2 hcap).2
    sLt := fun b h => by
      rcases h with h | ⟨hcap, rfl⟩
      · exact hR.sLt b h
      · exact hR.lt (b := true) ⟨g, _, hr, rfl, hcap⟩
    slot := fun i g v hv hj => by
      simp only [reduceCtorEq, if_false] at hv
      obtain ⟨h1, h2, h3⟩ := hR.slot i g v hv hj
      exact ⟨h1, fun hg => hden (h2 hg), h3⟩
    cell := fun id off g v hv hj => by
      have hlvi := hlv false id ⟨off, g, v, hv, hj⟩
      simp only [reduceCtorEq, if_false] at hv
      obtain ⟨⟨x, hx, hdx⟩, hfz, hns, hlo⟩ := hR.cell id off g v hv hj
      exact ⟨⟨x, hx, hden hdx⟩, hfz, fun h => by rcases h with h | ⟨hcap, h⟩; exact hns h; exact hlvi.2 hcap h, hlo⟩
    row := fun id g' v hv hj => by
      by_cases e : id = r
      · subst e
        simp only [if_true, Option.some.injEq, Prod.mk.injEq] at hv
        obtain ⟨_, rfl⟩ := hv
        refine ⟨?_, fun h => by cases h⟩
        show Den c _ σ w (.list t f l) (.slice (σ id).base (σ id).len (σ id).cap)
        rw [h1.len]
        have hcell : ∀ j q, j < l.length → q < (c.ty t).size → ∃ y, w.cell? ⟨(σ id).blk, j * (c.ty t).size + q, none⟩ = some y ∧ (∀ (hj : j < l.length) (hq : q < (encF c t f l[j]).length), Den c S σ w (encF c t f l[j])[q] y) := fun j q hj hq => by
          obtain ⟨y, hy, hdy⟩ := h1.cells j q hj (by rw [encF_length, h1.enc j hj]; exact hq)
          exact ⟨y, hy, fun _ _ => hdy⟩
        have hcap : l ≠ [] → (σ id).cap ≠ 0 := fun hne => by have := List.length_pos_iff.2 hne; have := h1.cap; omega
        refine .list t f l _ _ ⟨(σ id).blk, 0, none⟩ (fun j q => (w.cell? ⟨(σ id).blk, j * (c.ty t).size + q, none⟩).getD undef) (fun hne => h1.base rfl (hcap hne)) h1.cap (fun hne => .inr ⟨hcap hne, rfl⟩) (fun _ => h1.ne) h1.enc ?_ ?_
        · intro j q hj hq
          obtain ⟨y, hy, _⟩ := hcell j q hj hq
          rw [add_plain, Nat.zero_add, hy]; rfl
        · intro j q hj hq
          obtain ⟨y, hy, hdy⟩ := hcell j q hj (by rw [encF_length, h1.enc j hj] at hq; exact hq)
          rw [hy]; exact hden (hdy hj hq)
      · have hne : K.row id ≠ K.row r := by intro h; cases h; exact e rfl
        have hv' := hv
        simp only [hne, if_false] at hv
        obtain ⟨h3, h4⟩ := hR.row id g' v hv hj
        refine ⟨h3.mono hc (fun _ _ h => .inl h) (fun _ _ _ => rfl) (fun _ _ => rfl), fun hr' hcap => ?_⟩
        obtain ⟨h5, h6⟩ := h4 hr' hcap
        refine ⟨fun h => ?_, h6⟩
        rcases h with h | ⟨hcap', h⟩
        · exact h5 h
        · exact (hlv true id ⟨g', v, hv', hr', hcap⟩).2 hcap' h
    dist := fun b b' i j hi hj he => hR.dist b b' i j (hlv b i hi).1 (hlv b' j hj).1 he }


end
end Vm
