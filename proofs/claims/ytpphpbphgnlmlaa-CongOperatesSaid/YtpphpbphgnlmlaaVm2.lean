/-
  What the interpreter's values say of memory, and that they keep saying it while memory grows.
-/
import Derived.Test.YtpphpbphgnlmlaaVm1
set_option linter.all false
namespace Vm
open Go Go.RowKit
variable {A : Nat → Type}

structure Loc where
  blk : Nat
  len : Nat := 0
  cap : Nat := 0

/-- In the world w, the value v is x. S: the blocks that nobody writes to any more. -/
inductive Den (c : Cfg A) (S : Nat → Prop) (σ : Nat → Loc) (w : World) : V A → Value → Prop
  | int (k : IntKind) (n : Int) : Den c S σ w (.int k n) (.int k n)
  | bool (b : Bool) : Den c S σ w (.bool b) (.bool b)
  | str (s : ByteArray) : Den c S σ w (.str s) (.string s)
  | fn (f : Nat) : Den c S σ w (.fn f) (.func (.func f) #[] #[])
  | raw (x : Value) : Den c S σ w (.raw x) x
  | agg (cs : List (V A)) (xs : Array Value) (hl : xs.size = cs.length) (h : ∀ i (hi : i < cs.length), Den c S σ w cs[i] (xs.getD i undef)) : Den c S σ w (.agg cs) (.agg xs)
  | tup (cs : List (V A)) (xs : Array Value) (hl : xs.size = cs.length) (h : ∀ i (hi : i < cs.length), Den c S σ w cs[i] (xs.getD i undef)) : Den c S σ w (.tup cs) (.tuple xs)
  | list (t : Nat) (full : Bool) (l : List (A t)) (p : Option Addr) (cap : Nat) (b : Addr) (x : Nat → Nat → Value)
      (hp : l ≠ [] → p = some b) (hc : l.length ≤ cap) (hf : full = true → cap = l.length) (hS : l ≠ [] → S b.block)
      (hn : (c.ty t).size ≠ 0)
      (he : ∀ j (hj : j < l.length), (c.C.enc t l[j]).length = (c.ty t).size)
      (hw : ∀ j q, j < l.length → q < (c.ty t).size → w.cell? (b.add (j * (c.ty t).size + q)) = some (x j q))
      (hd : ∀ j q (hj : j < l.length) (hq : q < (c.C.enc t l[j]).length), Den c S σ w (c.C.enc t l[j])[q] (x j q)) : Den c S σ w (.list t full l) (.slice p l.length cap)
  | ptr (id off : Nat) : Den c S σ w (.ptr id off) (.pointer (some ⟨(σ id).blk, off, none⟩))
  | eptr (t : Nat) (a : A t) (off : Nat) (b : Addr) (x : Nat → Value) (hS : S b.block)
      (he : (c.C.enc t a).length = (c.ty t).size)
      (hw : ∀ q, q < (c.ty t).size → w.cell? (b.add q) = some (x q))
      (hd : ∀ q (hq : q < (c.C.enc t a).length), Den c S σ w (c.C.enc t a)[q] (x q)) : Den c S σ w (.eptr t a off) (.pointer (some (b.add off)))
  | junk (x : Value) : Den c S σ w .junk x

/-- The values of two rows of cells, held against each other. -/
def eqVal : Value → Value → Option Bool
  | .int k a, .int k' b => if k = k' then some (a == b) else none
  | .bool a, .bool b => some (a == b)
  | .string a, .string b => some (a.toList == b.toList)
  | _, _ => none

def eqVals : List Value → List Value → Option Bool
  | [], [] => some true
  | x :: xs, y :: ys => match eqVal x y, eqVals xs ys with
    | some p, some q => some (p && q)
    | _, _ => none
  | _, _ => none

def scOf : Sc → Value → Bool
  | .int k, .int k' _ => ksame k k'
  | .bool, .bool _ => true
  | .str, .string _ => true
  | _, _ => false

def scsOf : List Sc → List Value → Bool
  | [], [] => true
  | s :: ss, v :: vs => (scOf s v).and (scsOf ss vs)
  | _, _ => false

structure TIok (P : Program) (t : Nat) (i : TI) : Prop where
  size : i.size ≠ 0 → ∀ w, (Go.sizeOf t).run P w = .ok i.size w
  agg : ∀ b, i.agg = some b → ∀ w, (isAgg t).run P w = .ok b w
  fields : i.fields ≠ [] → ∃ fs : Array Field, P.underlying t = some (.struct fs) ∧ fs.toList.map (fun f => (f.offset, f.type)) = i.fields
  elem : ∀ e, i.elem = some e → P.underlying t = some (.slice e)
  kind : ∀ k, i.kind = some k → P.underlying t = some (.int k)
  zero : ∀ z, i.zero = some z → ∀ w, (zeroValue t).run P w = .ok z w
  str : i.str = true → P.underlying t = some .string
  isBool : i.isBool = true → P.underlying t = some .bool
  flat : ∀ sh, i.flat = some sh → P.eqGuardType P.depth t = false ∧ ∀ (xs ys : Array Value) r w, scsOf sh xs.toList = true → scsOf sh ys.toList = true → eqVals xs.toList ys.toList = some r → (Op.equal t (.agg xs) (.agg ys)).run P w = .ok r w

/-- What a function answers is so. -/
def CallOk (c : Cfg A) (f : Nat) (vs : List (V A)) (r : V A) : Prop :=
  ∀ (w : World) (S : Nat → Prop) (σ : Nat → Loc) (xs : Array Value), (∀ b, S b → b < w.heap.size) → xs.size = vs.length →
    (∀ i (hi : i < vs.length), Den c S σ w vs[i] (xs.getD i undef)) →
    Calls c.P f xs w fun e w' => ∃ x, e = .returned x ∧ Below w.heap.size w w' ∧ ∃ S' : Nat → Prop, (∀ b, S' b → S b ∨ (w.heap.size ≤ b ∧ b < w'.heap.size)) ∧ Den c S' σ w' r x

/-- What a function without a text of its own answers is so. -/
def ExtOk (c : Cfg A) (f : Nat) (vs : List (V A)) (r : V A) : Prop :=
  ∀ (w : World) (S : Nat → Prop) (σ : Nat → Loc) (xs : Array Value), xs.size = vs.length → (∀ i (hi : i < vs.length), Den c S σ w vs[i] (xs.getD i undef)) →
    ∃ x, (callFunc f xs).run c.P w = .ok (.value x) w ∧ Den c S σ w r x

structure CfgOk (c : Cfg A) : Prop where
  ty : ∀ t, TIok c.P t (c.ty t)
  enc : ∀ t a d, all (avoid0 d) (c.C.enc t a) = true
  dec : ∀ t cs a, c.C.dec t cs = some a → c.C.enc t a = cs
  call : ∀ f vs r ps, c.call f vs = some (r, ps) → All ps → ((∀ args w, (callFunc f args).run c.P w = .ok (.enter f args) w) ∧ CallOk c f vs r) ∨ ExtOk c f vs r

/-! ### Small things on lists -/

theorem all_mem {α : Type} {p : α → Bool} : ∀ {l : List α}, all p l = true → ∀ x ∈ l, p x = true
  | [], _, x, hx => by cases hx
  | a :: l, h, x, hx => by
    simp only [all, Bool.and_eq_true] at h
    cases hx with
    | head => exact h.1
    | tail _ hm => exact all_mem h.2 x hm

theorem nth_eq {α : Type} : ∀ (l : List α) (n : Nat), nth l n = l[n]?
  | [], n => by simp [nth]
  | a :: l, 0 => by simp [nth]
  | a :: l, n + 1 => by simp [nth, nth_eq l n]

theorem K.same_iff {k k' : K} : K.same k k' = true ↔ k = k' := by
  cases k <;> cases k' <;> simp [K.same]

theorem look_cons (k k' : K) (e : Ent A) (E : Env A) : look k ((k', e) :: E) = if k = k' then some e else look k E := by
  rw [look]
  by_cases h : k = k'
  · have := K.same_iff.2 h; rw [this, if_pos h]
  · have : K.same k k' = false := by
      cases hb : K.same k k' with
      | false => rfl
      | true => exact absurd (K.same_iff.1 hb) h
    rw [this, if_neg h]

theorem look_append (k : K) (E F : Env A) : look k (E ++ F) = (look k E).or (look k F) := by
  induction E with
  | nil => simp [look]
  | cons p E ih =>
    obtain ⟨k', e⟩ := p
    simp only [List.cons_append, look_cons]
    split
    · simp
    · exact ih

/-! ### While memory grows -/

theorem avoid_0_2 {d : Nat} {v : V A} (h : avoid0 d v = true) : avoids d v = true := by
  cases v <;> simp_all [avoid0, avoids]
theorem avoid_1_2 {d : Nat} {v : V A} (h : avoid1 d v = true) : avoids d v = true := by
  cases v <;> simp_all [avoid1, avoid0, avoids]

theorem Den.mono {c : Cfg A} (hc : CfgOk c) {S S' : Nat → Prop} {σ σ' : Nat → Loc} {w w' : World} {v : V A} {x : Value} (h : Den c S σ w v x)
    (hS : ∀ b, S b → S' b) (hw : ∀ b, S b → w'.heap[b]? = w.heap[b]?) (hσ : ∀ id, avoids id v = false → σ' id = σ id) : Den c S' σ' w' v x := by
  induction h with
  | int => exact .int _ _
  | bool => exact .bool _
  | str => exact .str _
  | fn => exact .fn _
  | raw => exact .raw _
  | junk => exact .junk _
  | agg cs xs hl h ih =>
    refine .agg cs xs hl fun i hi => ih i hi fun id hid => hσ id ?_
    cases ha : avoids id (V.agg cs) with
    | false => rfl
    | true =>
      have := avoid_0_2 (all_mem (by simpa [avoids] using ha) _ (List.getElem_mem hi))
      rw [this] at hid; cases hid
  | tup cs xs hl h ih =>
    refine .tup cs xs hl fun i hi => ih i hi fun id hid => hσ id ?_
    cases ha : avoids id (V.tup cs) with
    | false => rfl
    | true =>
      have := avoid_1_2 (all_mem (by simpa [avoids] using ha) _ (List.getElem_mem hi))
      rw [this] at hid; cases hid
  | list t full l p cap b x hp hcap hf hSb hn he hcell hd ih =>
    refine .list t full l p cap b x hp hcap hf (fun h => hS _ (hSb h)) hn he (fun j q hj hq => ?_) (fun j q hj hq => ih j q hj hq fun id hid => ?_)
    · rw [← hcell j q hj hq]
      have hne : l ≠ [] := by intro h; subst h; simp at hj
      refine World.cell?_of_block (w := w) ?_
      have : (b.add (j * (c.ty t).size + q)).block = b.block := by unfold Addr.add; split <;> rfl
      rw [this]; exact hw _ (hSb hne)
    · have := avoid_0_2 (all_mem (hc.enc t l[j] id) _ (List.getElem_mem hq))
      rw [this] at hid; cases hid
  | ptr id off =>
    have := hσ id (by simp [avoids, avoid0])
    rw [← this]; exact .ptr id off
  | eptr t a off b x hSb he hcell hd ih =>
    refine .eptr t a off b x (hS _ hSb) he (fun q hq => ?_) (fun q hq => ih q hq fun id hid => ?_)
    · rw [← hcell q hq]
      refine World.cell?_of_block (w := w) ?_
      have : (b.add q).block = b.block := by unfold Addr.add; split <;> rfl
      rw [this]; exact hw _ hSb
    · have := avoid_0_2 (all_mem (hc.enc t a id) _ (List.getElem_mem hq))
      rw [this] at hid; cases hid

/-! ### The relation of an environment to a frame and a world -/

def Holds (a : Act) (g : Chain) : Prop := ∀ p ∈ g, a.tmps.getD p.1 undef = .bool p.2

def V.isJunk : V A → Bool
  | .junk => true
  | _ => false

def live (lk : K → Option (Ent A)) (id : Nat) : Prop := ∃ off g v, lk (.cell id off) = some (g, v) ∧ v.isJunk = false

structure RelAt (c : Cfg A) (n : Nat) (w0 : World) (S0 S : Nat → Prop) (σ : Nat → Loc) (lk : K → Option (Ent A)) (a : Act) (w : World) : Prop where
  defers : a.defers = []
  size : a.tmps.size = n
  below : Below w0.heap.size w0 w
  s0 : ∀ b, S0 b → S b
  sNew : ∀ b, S b → S0 b ∨ w0.heap.size ≤ b
  sLt : ∀ b, S b → b < w.heap.size
  slot : ∀ i g v, lk (.slot i) = some (g, v) → v.isJunk = false → i < n ∧ (Holds a g → Den c S σ w v (a.tmps.getD i undef)) ∧ (¬ Holds a g → a.tmps.getD i undef = undef)
  cell : ∀ id off g v, lk (.cell id off) = some (g, v) → v.isJunk = false →
    (∃ x, w.cell? ⟨(σ id).blk, off, none⟩ = some x ∧ Den c S σ w v x) ∧ (∀ o, w.frozen? ⟨(σ id).blk, o, none⟩ = false) ∧ ¬ S (σ id).blk ∧ w0.heap.size ≤ (σ id).blk
  dist : ∀ id id', live lk id → live lk id' → (σ id).blk = (σ id').blk → id = id'

theorem RelAt.lt {c : Cfg A} {n : Nat} {w0 : World} {S0 S : Nat → Prop} {σ : Nat → Loc} {lk : K → Option (Ent A)} {a : Act} {w : World} (h : RelAt c n w0 S0 S σ lk a w)
    {id : Nat} (hl : live lk id) : (σ id).blk < w.heap.size := by
  obtain ⟨off, g, v, hk, hj⟩ := hl
  obtain ⟨⟨x, hx, _⟩, _⟩ := h.cell id off g v hk hj
  exact World.block_lt_of_cell? _ _ hx

/-- 'lk'' knows no more than 'lk'. -/
def Sub (lk' lk : K → Option (Ent A)) : Prop := ∀ k g v, lk' k = some (g, v) → v.isJunk = false → lk k = some (g, v)

theorem Sub.of {lk' lk : K → Option (Ent A)} (h : ∀ k e, lk' k = some e → lk k = some e) : Sub lk' lk := fun k g v hv _ => h k (g, v) hv

/-- Less is known. -/
theorem RelAt.sub {c : Cfg A} {n : Nat} {w0 : World} {S0 S : Nat → Prop} {σ : Nat → Loc} {lk lk' : K → Option (Ent A)} {a : Act} {w : World} (h : RelAt c n w0 S0 S σ lk a w)
    (hk : Sub lk' lk) : RelAt c n w0 S0 S σ lk' a w where
  defers := h.defers
  size := h.size
  below := h.below
  s0 := h.s0
  sNew := h.sNew
  sLt := h.sLt
  slot i g v hv hj := h.slot i g v (hk _ _ _ hv hj) hj
  cell id off g v hv hj := h.cell id off g v (hk _ _ _ hv hj) hj
  dist id id' hl hl' := h.dist id id' (by obtain ⟨o, g, v, h1, h2⟩ := hl; exact ⟨o, g, v, hk _ _ _ h1 h2, h2⟩) (by obtain ⟨o, g, v, h1, h2⟩ := hl'; exact ⟨o, g, v, hk _ _ _ h1 h2, h2⟩)

/-- Less is known. -/
theorem RelAt.weaken {c : Cfg A} {n : Nat} {w0 : World} {S0 S : Nat → Prop} {σ : Nat → Loc} {lk lk' : K → Option (Ent A)} {a : Act} {w : World} (h : RelAt c n w0 S0 S σ lk a w)
    (hk : ∀ k e, lk' k = some e → lk k = some e) : RelAt c n w0 S0 S σ lk' a w := h.sub (.of hk)

/-- The world grows: what was there stays, but for nothing. -/
theorem RelAt.grow {c : Cfg A} (hc : CfgOk c) {n : Nat} {w0 : World} {S0 S S' : Nat → Prop} {σ : Nat → Loc} {lk : K → Option (Ent A)} {a : Act} {w w' : World} (h : RelAt c n w0 S0 S σ lk a w)
    (hb : Below w.heap.size w w') (hS : ∀ b, S b → S' b) (hS' : ∀ b, S' b → S b ∨ (w.heap.size ≤ b ∧ b < w'.heap.size)) : RelAt c n w0 S0 S' σ lk a w' := by
  have hkeep : ∀ b, b < w.heap.size → w'.heap[b]? = w.heap[b]? := hb.block
  have hden : ∀ {v x}, Den c S σ w v x → Den c S' σ w' v x := fun hd => hd.mono hc hS (fun b hb' => hkeep b (h.sLt b hb')) (fun _ _ => rfl)
  exact {
    defers := h.defers
    size := h.size
    below := h.below.trans (hb.mono h.below.size)
    s0 := fun b hb' => hS b (h.s0 b hb')
    sNew := fun b hb' => by
      rcases hS' b hb' with h1 | h1
      · exact h.sNew b h1
      · exact .inr (Nat.le_trans h.below.size h1.1)
    sLt := fun b hb' => by
      rcases hS' b hb' with h1 | h1
      · exact Nat.lt_of_lt_of_le (h.sLt b h1) hb.size
      · exact h1.2
    slot := fun i g v hv hj => ⟨(h.slot i g v hv hj).1, fun hg => hden ((h.slot i g v hv hj).2.1 hg), (h.slot i g v hv hj).2.2⟩
    cell := fun id off g v hv hj => by
      obtain ⟨⟨x, hx, hd⟩, hfz, hns, hlo⟩ := h.cell id off g v hv hj
      have hlt := h.lt ⟨off, g, v, hv, hj⟩
      refine ⟨⟨x, ?_, hden hd⟩, fun o => ?_, ?_, hlo⟩
      · rw [← hx]; exact World.cell?_of_block (w := w) (hkeep _ hlt)
      · rw [← hfz o]; exact World.frozen?_of_block (w := w) (hkeep _ hlt)
      · intro hs
        rcases hS' _ hs with h1 | h1
        · exact hns h1
        · omega
    dist := h.dist }

theorem holds_put {a : Act} {d : Nat} {x : Value} {g : Chain} (hd : chainAvoids d g = true) : Holds (a.put (some d) x) g ↔ Holds a g := by
  have key : ∀ p ∈ g, (a.put (some d) x).tmps.getD p.1 undef = a.tmps.getD p.1 undef := by
    induction g with
    | nil => simp
    | cons q g ih =>
      simp only [chainAvoids, Bool.and_eq_true] at hd
      intro p hp
      cases hp with
      | head =>
        have : q.1 ≠ d := by intro h; simp [h] at hd
        simp [Act.put, Array.getElem?_setIfInBounds_ne (Ne.symm this)]
      | tail _ hm => exact ih hd.2 p hm
  unfold Holds
  constructor
  · intro h p hp; rw [← key p hp]; exact h p hp
  · intro h p hp; rw [key p hp]; exact h p hp

/-- A value goes into its slot. -/
theorem RelAt.put {c : Cfg A} {n : Nat} {w0 : World} {S0 S : Nat → Prop} {σ : Nat → Loc} {lk : K → Option (Ent A)} {a : Act} {w : World} (h : RelAt c n w0 S0 S σ lk a w)
    {d : Nat} (hd : d < n) {g : Chain} {v : V A} {x : Value}
    (hx : Holds a g → Den c S σ w v x) (hx' : ¬ Holds a g → x = undef) (hg : chainAvoids d g = true)
    (hav : ∀ k g' v', k ≠ .slot d → lk k = some (g', v') → chainAvoids d g' = true) :
    RelAt c n w0 S0 S σ (fun k => if k = .slot d then some (g, v) else lk k) (a.put (some d) x) w where
  defers := h.defers
  size := by simp [Act.put, h.size]
  below := h.below
  s0 := h.s0
  sNew := h.sNew
  sLt := h.sLt
  slot i g' v' hv hj := by
    by_cases hi : i = d
    · subst hi
      simp only [if_true, Option.some.injEq, Prod.mk.injEq] at hv
      obtain ⟨rfl, rfl⟩ := hv
      have hget : (a.put (some i) x).tmps.getD i undef = x := by simp [Act.put, h.size, hd]
      rw [hget, holds_put hg]
      exact ⟨hd, hx, hx'⟩
    · have hne : K.slot i ≠ K.slot d := by intro e; cases e; exact hi rfl
      simp only [hne, if_false] at hv
      have hget : (a.put (some d) x).tmps.getD i undef = a.tmps.getD i undef := by
        simp [Act.put, Array.getElem?_setIfInBounds_ne (Ne.symm hi)]
      rw [hget, holds_put (hav _ _ _ hne hv)]
      exact h.slot i g' v' hv hj
  cell id off g' v' hv hj := by
    simp only [reduceCtorEq, if_false] at hv
    exact h.cell id off g' v' hv hj
  dist id id' hl hl' := h.dist id id' (by obtain ⟨o, g, v, h1, h2⟩ := hl; exact ⟨o, g, v, by simpa using h1, h2⟩) (by obtain ⟨o, g, v, h1, h2⟩ := hl'; exact ⟨o, g, v, by simpa using h1, h2⟩)

end Vm
