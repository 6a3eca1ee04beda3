/-
  What the interpreter says of one operation is so: loads, stores, new boxes.
-/
import Derived.Test.YtpphpbphgnlmlaaVm4
set_option linter.all false
namespace Vm
open Go Go.RowKit
variable {A : Nat → Type}

section
variable {P : Program}

theorem add_add (b : Addr) (m n : Nat) : (b.add m).add n = b.add (m + n) := by
  unfold Addr.add
  by_cases hm : m = 0 <;> by_cases hn : n = 0 <;> simp [hm, hn]
  omega

theorem add_block (b : Addr) (n : Nat) : (b.add n).block = b.block := by unfold Addr.add; split <;> rfl

theorem add_plain (k o n : Nat) : (⟨k, o, none⟩ : Addr).add n = ⟨k, o + n, none⟩ := by
  unfold Addr.add; split
  · rename_i h; subst h; rfl
  · rfl

theorem run_load_cell {w : World} {a : Addr} {x : Value} (h : w.cell? a = some x) : (load a).run P w = .ok x w := by simp [h]

theorem run_loadCellsFrom {w : World} (a : Addr) (x : Nat → Value) : ∀ n i (acc : Array Value), (∀ j, j < n → w.cell? (a.add (i + j)) = some (x (i + j))) →
    (loadCellsFrom a i n acc).run P w = .ok (acc ++ ((List.range n).map fun j => x (i + j)).toArray) w := by
  intro n
  induction n with
  | zero => intro i acc _; simp [loadCellsFrom]
  | succ n ih =>
    intro i acc h
    have h0 := h 0 (by omega)
    simp only [Nat.add_zero] at h0
    have ih' := ih (i + 1) (acc.push (x i)) (fun j hj => by have := h (j + 1) (by omega); rw [show i + (j + 1) = i + 1 + j by omega] at this; exact this)
    simp only [loadCellsFrom, Sem.run_bind, run_load_cell h0, Result.andThen_ok, ih']
    congr 1
    apply Array.ext'
    simp only [Array.toList_append, Array.toList_push, List.range_succ_eq_map, List.map_cons, List.map_map, Nat.add_zero, List.append_assoc, List.cons_append, List.nil_append]
    congr 2
    apply List.map_congr_left
    intro j _
    simp only [Function.comp]
    congr 1
    omega

theorem run_loadVar {w : World} {t : TypeId} {a : Addr} {n : Nat} (x : Nat → Value) (hagg : (isAgg t).run P w = .ok true w) (hsz : (Go.sizeOf t).run P w = .ok n w) (h : ∀ j, j < n → w.cell? (a.add j) = some (x j)) :
    (loadVar t a).run P w = .ok (.agg ((List.range n).map x).toArray) w := by
  have := run_loadCellsFrom (P := P) a x n 0 #[] (by simpa using h)
  simp only [Nat.zero_add, Array.empty_append] at this
  simp [loadVar, hagg, hsz, loadCells, this]

theorem run_loadVar1 {w : World} {t : TypeId} {a : Addr} {x : Value} (hagg : (isAgg t).run P w = .ok false w) (h : w.cell? a = some x) : (loadVar t a).run P w = .ok x w := by
  simp [loadVar, hagg, h]

/-- The world behind a row of stores. -/
def setCells (a : Addr) : Nat → List Value → World → World
  | _, [], w => w
  | i, v :: vs, w => setCells a (i + 1) vs (w.setCell (a.add i) v)

theorem run_storeCells {a : Addr} : ∀ (vs : List Value) (i : Nat) (w : World), (∀ v ∈ vs, v.oneCell' = true) → (∀ j, j < vs.length → (w.cell? (a.add (i + j))).isSome = true) → (∀ j, w.frozen? (a.add j) = false) →
    (storeCells a vs i).run P w = .ok () (setCells a i vs w) := by
  intro vs
  induction vs with
  | nil => intro i w _ _ _; simp [storeCells, setCells]
  | cons v vs ih =>
    intro i w hv hcell hfz
    have h0 := hcell 0 (by simp)
    simp only [Nat.add_zero] at h0
    obtain ⟨x, hx⟩ := Option.isSome_iff_exists.1 h0
    have hst : (store (a.add i) v).run P w = .ok () (w.setCell (a.add i) v) := by
      rw [run_store _ _ _ _ _ (hv v (by simp)), hx, hfz i]; simp
    simp only [storeCells, Sem.run_bind, hst, Result.andThen_ok, setCells]
    refine ih (i + 1) _ (fun u hu => hv u (by simp [hu])) (fun j hj => ?_) (fun j => ?_)
    · have hj' := hcell (j + 1) (by simp; omega)
      rw [show i + (j + 1) = i + 1 + j by omega] at hj'
      by_cases he : a.add i = a.add (i + 1 + j)
      · rw [← he]; simp [World.cell?_setCell_same _ _ _ hx]
      · rw [World.cell?_setCell_other _ _ _ _ he]; exact hj'
    · rw [World.frozen?_setCell]; exact hfz j

theorem setCells_frozen {a b : Addr} : ∀ (vs : List Value) (i : Nat) (w : World), (setCells a i vs w).frozen? b = w.frozen? b
  | [], _, _ => rfl
  | v :: vs, i, w => by rw [setCells, setCells_frozen vs]; exact World.frozen?_setCell ..

theorem setCells_size {a : Addr} : ∀ (vs : List Value) (i : Nat) (w : World), (setCells a i vs w).heap.size = w.heap.size
  | [], _, _ => rfl
  | v :: vs, i, w => by rw [setCells, setCells_size vs]; simp

theorem setCells_below {a : Addr} {B : Nat} (hB : B ≤ a.block) : ∀ (vs : List Value) (i : Nat) (w w0 : World), Below B w0 w → Below B w0 (setCells a i vs w)
  | [], _, _, _, h => h
  | v :: vs, i, w, w0, h => setCells_below hB vs (i + 1) _ w0 (h.setCell (by rw [add_block]; exact hB) v)

theorem setCells_block {a : Addr} {b : Nat} (hb : b ≠ a.block) : ∀ (vs : List Value) (i : Nat) (w : World), (setCells a i vs w).heap[b]? = w.heap[b]?
  | [], _, _ => rfl
  | v :: vs, i, w => by rw [setCells, setCells_block hb vs]; exact Below.heap_setCell _ _ _ _ (by rw [add_block]; exact hb)

/-- Cells behind a row of stores, at plain addresses. -/
theorem setCells_cell {k : Nat} : ∀ (vs : List Value) (o i : Nat) (w : World) (p : Nat), (∀ j, j < vs.length → (w.cell? ⟨k, o + (i + j), none⟩).isSome = true) →
    (setCells ⟨k, o, none⟩ i vs w).cell? ⟨k, p, none⟩ = if o + i ≤ p ∧ p < o + i + vs.length then vs[p - (o + i)]? else w.cell? ⟨k, p, none⟩ := by
  intro vs
  induction vs with
  | nil => intro o i w p _; simp [setCells]; omega
  | cons v vs ih =>
    intro o i w p h
    have h0 := h 0 (by simp)
    simp only [Nat.add_zero] at h0
    obtain ⟨x, hx⟩ := Option.isSome_iff_exists.1 h0
    rw [setCells, add_plain, ih o (i + 1) _ p]
    · by_cases hp : p = o + i
      · subst hp
        rw [if_neg (by omega), if_pos (by simp), World.cell?_setCell_same _ _ _ hx]
        simp
      · have hne : (⟨k, o + i, none⟩ : Addr) ≠ ⟨k, p, none⟩ := by intro e; cases e; exact hp rfl
        rw [World.cell?_setCell_other _ _ _ _ hne]
        by_cases hr : o + i ≤ p ∧ p < o + i + (v :: vs).length
        · rw [if_pos hr, if_pos (by simp at hr; omega)]
          rw [show p - (o + i) = (p - (o + (i + 1))) + 1 by omega, List.getElem?_cons_succ]
        · rw [if_neg hr, if_neg (by simp at hr; omega)]
    · intro j hj
      have hj' := h (j + 1) (by simp; omega)
      rw [show o + (i + (j + 1)) = o + (i + 1 + j) by omega] at hj'
      by_cases he : (⟨k, o + i, none⟩ : Addr) = ⟨k, o + (i + 1 + j), none⟩
      · rw [← he]; simp [World.cell?_setCell_same _ _ _ hx]
      · rw [World.cell?_setCell_other _ _ _ _ he]; exact hj'

end

section
variable {c : Cfg A} {n : Nat} {w0 : World} {S0 S : Nat → Prop} {σ : Nat → Loc} {lk : K → Option (Ent A)} {a : Act} {w : World}

theorem readCells_spec {E : Env A} {id : Nat} : ∀ (m off : Nat) (cs : List (V A)), readCells E id off m = some cs → cs.length = m ∧
    ∀ i (hi : i < cs.length), look (.cell id (off + i)) E = some ([], cs[i]) ∧ (cs[i]).isJunk = false := by
  intro m
  induction m with
  | zero => intro off cs h; simp [readCells] at h; subst h; simp
  | succ m ih =>
    intro off cs h
    simp only [readCells] at h
    split at h
    · cases h
    · rename_i v hv1 hv2
      split at h
      · rename_i vs hvs
        cases h
        obtain ⟨h1, h2⟩ := ih (off + 1) vs hvs
        refine ⟨by simp [h1], fun i hi => ?_⟩
        cases i with
        | zero =>
          refine ⟨hv2, ?_⟩
          show v.isJunk = false
          cases v <;> first | rfl | exact absurd rfl (hv1 ·)
        | succ i =>
          have := h2 i (by simpa using hi)
          rw [show off + (i + 1) = off + 1 + i by omega]
          exact this
      · cases h
    · cases h

theorem load_ptr (hc : CfgOk c) (hR : RelAt c n w0 S0 S σ lk a w) {E : Env A} (hE : ∀ k e, look k E = some e → lk k = some e) {t : TypeId} {id off : Nat} {cs : List (V A)} {v : V A}
    (h1 : readCells E id off (c.ty t).size = some cs) (h2 : ofCells (c.ty t) cs = some v) : Gives c S σ w (loadVar t ⟨(σ id).blk, off, none⟩) v := by
  obtain ⟨hlen, hcs⟩ := readCells_spec _ _ _ h1
  have hx : ∀ i, i < cs.length → ∃ x, w.cell? ⟨(σ id).blk, off + i, none⟩ = some x ∧ (∀ hi : i < cs.length, Den c S σ w cs[i] x) := fun i hi => by
    obtain ⟨hl, hj⟩ := hcs i hi
    obtain ⟨⟨x, hx, hd⟩, _⟩ := hR.cell id (off + i) [] _ (hE _ _ hl) hj
    exact ⟨x, hx, fun _ => hd⟩
  unfold ofCells at h2
  split at h2
  · rename_i ha
    split at h2
    · rename_i hz
      cases h2
      have hz' : (c.ty t).size ≠ 0 := by intro e; rw [e] at hz; simp at hz
      have hcl : ∀ i, i < cs.length → w.cell? ⟨(σ id).blk, off + i, none⟩ = some ((w.cell? ⟨(σ id).blk, off + i, none⟩).getD undef) := fun i hi => by
        obtain ⟨x, hx, _⟩ := hx i hi; simp [hx]
      refine ⟨_, run_loadVar (fun j => (w.cell? ⟨(σ id).blk, off + j, none⟩).getD undef) ((hc.ty t).agg _ ha w) ((hc.ty t).size hz' w) (fun j hj => by rw [add_plain]; exact hcl j (by omega)), .agg _ _ (by simp [hlen]) fun i hi => ?_⟩
      obtain ⟨x, hxx, hd⟩ := hx i hi
      have : (((List.range (c.ty t).size).map fun j => (w.cell? ⟨(σ id).blk, off + j, none⟩).getD undef).toArray).getD i undef = x := by
        simp [hxx, show i < (c.ty t).size by omega]
      rw [this]; exact hd hi
    · cases h2
  · rename_i ha
    split at h2
    · rename_i u
      cases h2
      obtain ⟨x, hxx, hd⟩ := hx 0 (by simp)
      exact ⟨x, run_loadVar1 ((hc.ty t).agg _ ha w) (by simpa using hxx), hd (by simp)⟩
    · cases h2
  · cases h2

theorem load_eptr (hc : CfgOk c) {t e : TypeId} {el : A e} {off : Nat} {v : V A} {b : Addr} {x : Nat → Value}
    (he : (c.C.enc e el).length = (c.ty e).size) (hw : ∀ q, q < (c.ty e).size → w.cell? (b.add q) = some (x q))
    (hd : ∀ q (hq : q < (c.C.enc e el).length), Den c S σ w (c.C.enc e el)[q] (x q)) (h : Vm.part (c.ty t) (c.C.enc e el) off = some v) : Gives c S σ w (loadVar t (b.add off)) v := by
  unfold Vm.part at h
  split at h
  · rename_i ha
    split at h
    · rename_i hz hle
      cases h
      have hz' : (c.ty t).size ≠ 0 := by intro e; rw [e] at hz; simp at hz
      have hle' : off + (c.ty t).size ≤ (c.C.enc e el).length := by simpa using hle
      refine ⟨_, run_loadVar (fun j => x (off + j)) ((hc.ty t).agg _ ha w) ((hc.ty t).size hz' w) (fun j hj => by rw [add_add]; exact hw _ (by omega)), .agg _ _ (by simp; omega) fun i hi => ?_⟩
      simp only [List.length_take, List.length_drop] at hi
      have : (((List.range (c.ty t).size).map fun j => x (off + j)).toArray).getD i undef = x (off + i) := by simp [show i < (c.ty t).size by omega]
      rw [this]
      simp only [List.getElem_take, List.getElem_drop]
      exact hd (off + i) (by omega)
    · cases h
  · rename_i ha
    rw [nth_eq] at h
    obtain ⟨hlt, hv⟩ := List.getElem?_eq_some_iff.1 h
    have := hd off hlt
    rw [hv] at this
    exact ⟨x off, run_loadVar1 ((hc.ty t).agg _ ha w) (hw off (by omega)), this⟩
  · cases h

theorem look_writeCells {id : Nat} : ∀ (cs : List (V A)) (off : Nat) (k : K), look k (writeCells id off cs) =
    match k with | .cell id' o => if id' = id ∧ off ≤ o ∧ o < off + cs.length then (cs[o - off]?).map (fun v => ([], v)) else none | _ => none := by
  intro cs
  induction cs with
  | nil => intro off k; cases k <;> simp [writeCells, look]
  | cons v cs ih =>
    intro off k
    rw [writeCells, look_cons, ih]
    cases k with
    | slot i => simp
    | row i => simp
    | cell id' o =>
      simp only [K.cell.injEq]
      by_cases h : id' = id ∧ o = off
      · obtain ⟨rfl, rfl⟩ := h; simp
      · rw [if_neg h]
        by_cases h2 : id' = id ∧ off + 1 ≤ o ∧ o < off + 1 + cs.length
        · rw [if_pos h2, if_pos (by simp; omega), show o - off = (o - (off + 1)) + 1 by omega, List.getElem?_cons_succ]
        · rw [if_neg h2, if_neg (by simp; omega)]

/-- What is known once an operation has been carried out: its slot's old value is forgotten. -/
def Did (c : Cfg A) (n : Nat) (w0 : World) (S0 : Nat → Prop) (lk : K → Option (Ent A)) (dst : Option Nat) (ent : Env A) (v : V A) (a : Act) (x : Value) (w' : World) : Prop :=
  ∃ S' σ', RelAt c n w0 S0 S' σ' (fun k => if some k = dst.map K.slot then none else (look k ent).or (lk k)) a w' ∧ Den c S' σ' w' v x

theorem did_same (hR : RelAt c n w0 S0 S σ lk a w) {dst : Option Nat} {v : V A} {x : Value} (h : Den c S σ w v x) : Did c n w0 S0 lk dst [] v a x w :=
  ⟨S, σ, hR.weaken (fun k e he => by split at he <;> simp_all [look]), h⟩

theorem did_grow (hc : CfgOk c) (hR : RelAt c n w0 S0 S σ lk a w) {w' : World} {S' : Nat → Prop} (hb : Below w.heap.size w w') (hS' : ∀ b, S' b → S b ∨ (w.heap.size ≤ b ∧ b < w'.heap.size)) {dst : Option Nat} {v : V A} {x : Value}
    (h : Den c S' σ w' v x) : Did c n w0 S0 lk dst [] v a x w' := by
  have hR' := hR.grow hc (S' := fun b => S b ∨ S' b) hb (fun _ h => .inl h) (fun b h => by rcases h with h | h; exact .inl h; exact hS' b h)
  exact ⟨_, σ, hR'.weaken (fun k e he => by split at he <;> simp_all [look]), h.mono hc (fun _ h => .inr h) (fun _ _ => rfl) (fun _ _ => rfl)⟩

theorem did_store (hc : CfgOk c) (hR : RelAt c n w0 S0 S σ lk a w) {id off : Nat} {cs : List (V A)} {xs : Array Value} (hd : DenA c S σ w cs xs) (hne : cs ≠ [])
    (hold : ∀ i, i < cs.length → ∃ v, lk (.cell id (off + i)) = some ([], v) ∧ v.isJunk = false) {dst : Option Nat} {x : Value} :
    Did c n w0 S0 lk dst (writeCells id off cs) .junk a x (setCells ⟨(σ id).blk, off, none⟩ 0 xs.toList w) := by
  have hlive : live lk id := by
    obtain ⟨v, hv, hj⟩ := hold 0 (List.length_pos_iff.2 hne)
    exact ⟨_, _, _, hv, hj⟩
  obtain ⟨v0, hv0, hj0⟩ := hold 0 (List.length_pos_iff.2 hne)
  obtain ⟨_, hfz, hns, hlo⟩ := hR.cell id (off + 0) [] v0 hv0 hj0
  have hcell : ∀ j, j < xs.toList.length → (w.cell? ⟨(σ id).blk, off + (0 + j), none⟩).isSome = true := fun j hj => by
    obtain ⟨v, hv, hj'⟩ := hold j (by simpa [hd.1] using hj)
    obtain ⟨⟨x, hx, _⟩, _⟩ := hR.cell id (off + j) [] v hv hj'
    simp [hx]
  have hblock : ∀ b, b ≠ (σ id).blk → (setCells ⟨(σ id).blk, off, none⟩ 0 xs.toList w).heap[b]? = w.heap[b]? := fun b hb => setCells_block hb _ _ _
  have hden : ∀ {v x}, Den c S σ w v x → Den c S σ (setCells ⟨(σ id).blk, off, none⟩ 0 xs.toList w) v x := fun h =>
    h.mono hc (fun _ h => h) (fun b hb => hblock b (fun e => hns (e ▸ hb))) (fun _ _ => rfl)
  have hR2 : RelAt c n w0 S0 S σ (fun k => (look k (writeCells id off cs)).or (lk k)) a (setCells ⟨(σ id).blk, off, none⟩ 0 xs.toList w) := {
    defers := hR.defers
    size := hR.size
    below := setCells_below hlo _ _ _ _ hR.below
    s0 := hR.s0
    sNew := hR.sNew
    sLt := fun b hb => by rw [setCells_size]; exact hR.sLt b hb
    slot := fun i g v hv hj => by
      simp only [look_writeCells, Option.none_or] at hv
      exact ⟨(hR.slot i g v hv hj).1, fun hg => hden ((hR.slot i g v hv hj).2.1 hg), (hR.slot i g v hv hj).2.2⟩
    cell := fun id' o g v hv hj => by
      simp only [look_writeCells] at hv
      by_cases hin : id' = id ∧ off ≤ o ∧ o < off + cs.length
      · obtain ⟨rfl, h1, h2⟩ := hin
        rw [if_pos ⟨rfl, h1, h2⟩] at hv
        have hlt : o - off < cs.length := by omega
        rw [List.getElem?_eq_getElem hlt] at hv
        simp only [Option.map_some, Option.some_or, Option.some.injEq, Prod.mk.injEq] at hv
        obtain ⟨rfl, rfl⟩ := hv
        refine ⟨⟨xs.getD (o - off) undef, ?_, hden (hd.2 _ hlt)⟩, fun o' => ?_, hns, hlo⟩
        · rw [setCells_cell _ _ _ _ _ hcell, if_pos (by simp [hd.1]; omega)]
          simp only [Nat.add_zero]
          have : o - off < xs.size := by rw [hd.1]; exact hlt
          simp [this]
        · rw [setCells_frozen]; exact hfz o'
      · rw [if_neg hin, Option.none_or] at hv
        obtain ⟨⟨y, hy, hdy⟩, hfz', hns', hlo'⟩ := hR.cell id' o g v hv hj
        refine ⟨⟨y, ?_, hden hdy⟩, fun o' => by rw [setCells_frozen]; exact hfz' o', hns', hlo'⟩
        by_cases he : (σ id').blk = (σ id).blk
        · have hid := hR.dist id' id ⟨o, g, v, hv, hj⟩ hlive he
          subst hid
          rw [setCells_cell _ _ _ _ _ hcell, if_neg (by simp [hd.1]; omega)]
          exact hy
        · rw [← hy]
          exact World.cell?_of_block (w := w) (hblock _ he)
    dist := fun i j hi hj he => by
      have up : ∀ i, live (fun k => (look k (writeCells id off cs)).or (lk k)) i → live lk i := by
        rintro i ⟨o, g, v, hv, hj⟩
        simp only [look_writeCells] at hv
        by_cases hin : i = id ∧ off ≤ o ∧ o < off + cs.length
        · rw [hin.1]; exact hlive
        · rw [if_neg hin, Option.none_or] at hv; exact ⟨o, g, v, hv, hj⟩
      exact hR.dist i j (up i hi) (up j hj) he }
  exact ⟨S, σ, hR2.weaken (fun k e he => by split at he <;> simp_all), .junk _⟩

theorem did_alloc (hc : CfgOk c) (hR : RelAt c n w0 S0 S σ lk a w) {d : Nat} {cs : List (V A)} {xs : Array Value} (hd : DenA c S σ w cs xs) (t : TypeId)
    (hcs : all (fun v => avoids d v) cs = true)
    (hfr : ∀ k g v, lk k = some (g, v) → entAvoids d (k, g, v) = true) :
    Did c n w0 S0 lk (some d) (writeCells d 0 cs) (.ptr d 0) a (.pointer (some ⟨w.heap.size, 0, none⟩)) (w.alloc (.cells xs t)) := by
  let σ' : Nat → Loc := fun i => if i = d then ⟨w.heap.size, 0, 0⟩ else σ i
  have hσ : ∀ v : V A, avoids d v = true → ∀ id, avoids id v = false → σ' id = σ id := fun v hv id hid => by
    have : id ≠ d := by intro e; subst e; rw [hv] at hid; cases hid
    simp [σ', this]
  have hblk : ∀ b, b < w.heap.size → (w.alloc (.cells xs t)).heap[b]? = w.heap[b]? := fun b hb => Below.heap_alloc _ _ _ hb
  have hden : ∀ {v x}, Den c S σ w v x → avoids d v = true → Den c S σ' (w.alloc (.cells xs t)) v x := fun h hv =>
    h.mono hc (fun _ h => h) (fun b hb => hblk b (hR.sLt b hb)) (hσ _ hv)
  have hfr2 : ∀ k g v, lk k = some (g, v) → k ≠ .slot d → avoids d v = true := fun k g v hk hne => by
    have := hfr k g v hk
    simp only [entAvoids, Bool.and_eq_true, Bool.or_eq_true] at this
    rcases this.2 with h | h
    · cases k <;> simp at h; subst h; exact absurd rfl hne
    · exact h
  have hfr3 : ∀ id o e, lk (.cell id o) = some e → id ≠ d := fun id o e hk => by
    obtain ⟨g, v⟩ := e
    have := hfr _ g v hk
    simp only [entAvoids, Bool.and_eq_true, K.avoids] at this
    intro h; subst h; simp at this
  refine ⟨S, σ', {
    defers := hR.defers
    size := hR.size
    below := hR.below.alloc hR.below.size _
    s0 := hR.s0
    sNew := hR.sNew
    sLt := fun b hb => by have := hR.sLt b hb; simp; omega
    slot := fun i g v hv hj => by
      simp only [Option.map_some, Option.some.injEq] at hv
      split at hv
      · cases hv
      · rename_i hne
        simp only [look_writeCells, Option.none_or] at hv
        exact ⟨(hR.slot i g v hv hj).1, fun hg => hden ((hR.slot i g v hv hj).2.1 hg) (hfr2 _ _ _ hv hne), (hR.slot i g v hv hj).2.2⟩
    cell := fun id o g v hv hj => by
      simp only [Option.map_some, Option.some.injEq, reduceCtorEq, if_false, look_writeCells] at hv
      by_cases hin : id = d ∧ 0 ≤ o ∧ o < 0 + cs.length
      · obtain ⟨rfl, _, h2⟩ := hin
        rw [if_pos ⟨rfl, Nat.zero_le _, h2⟩] at hv
        have hlt : o < cs.length := by omega
        simp only [Nat.sub_zero, List.getElem?_eq_getElem hlt, Option.map_some, Option.some_or, Option.some.injEq, Prod.mk.injEq] at hv
        obtain ⟨rfl, rfl⟩ := hv
        have hs : (σ' id).blk = w.heap.size := by simp [σ']
        have hlt' : o < xs.size := by rw [hd.1]; exact hlt
        refine ⟨⟨xs.getD o undef, ?_, hden (hd.2 _ hlt) (all_mem hcs _ (List.getElem_mem hlt))⟩, fun o' => ?_, ?_, ?_⟩
        · rw [hs, World.cell?_alloc_new]; simp [hlt']
        · rw [hs]; simp
        · rw [hs]; intro h; have := hR.sLt _ h; omega
        · rw [hs]; exact hR.below.size
      · rw [if_neg hin, Option.none_or] at hv
        have hne := hfr3 _ _ _ hv
        have hs : σ' id = σ id := by simp [σ', hne]
        obtain ⟨⟨y, hy, hdy⟩, hfz', hns', hlo'⟩ := hR.cell id o g v hv hj
        have hlt := hR.lt ⟨o, g, v, hv, hj⟩
        rw [hs]
        refine ⟨⟨y, ?_, hden hdy (hfr2 _ _ _ hv (by simp))⟩, fun o' => ?_, hns', hlo'⟩
        · rw [← hy]; exact World.cell?_of_block (w := w) (hblk _ hlt)
        · rw [← hfz' o']; exact World.frozen?_of_block (w := w) (hblk _ hlt)
    dist := fun i j hi hj he => by
      have up : ∀ i, live (fun k => if some k = Option.map K.slot (some d) then none else (look k (writeCells d 0 cs)).or (lk k)) i → i = d ∨ (i ≠ d ∧ live lk i) := by
        rintro i ⟨o, g, v, hv, hj⟩
        simp only [Option.map_some, Option.some.injEq, reduceCtorEq, if_false, look_writeCells] at hv
        by_cases hin : i = d ∧ 0 ≤ o ∧ o < 0 + cs.length
        · exact .inl hin.1
        · rw [if_neg hin, Option.none_or] at hv; exact .inr ⟨hfr3 _ _ _ hv, o, g, v, hv, hj⟩
      rcases up i hi with rfl | ⟨hi1, hi2⟩ <;> rcases up j hj with rfl | ⟨hj1, hj2⟩
      · rfl
      · have := hR.lt hj2; simp [σ', hj1] at he; omega
      · have := hR.lt hi2; simp [σ', hi1] at he; omega
      · simp [σ', hi1, hj1] at he; exact hR.dist i j hi2 hj2 he }, ?_⟩
  have : (⟨w.heap.size, 0, none⟩ : Addr) = ⟨(σ' d).blk, 0, none⟩ := by simp [σ']
  rw [this]
  exact .ptr d 0

end
end Vm
