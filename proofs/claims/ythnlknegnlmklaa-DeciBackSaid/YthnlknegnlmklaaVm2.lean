/-
  What the interpreter's values say of memory, and that they keep saying it while memory grows.
-/
import Derived.Test.YthnlknegnlmklaaVm1
set_option linter.all false
namespace Vm
open Go Go.RowKit
variable {A : Nat → Type}

def V.isJunk : V A → Bool
  | .junk => true
  | _ => false

structure Loc where
  blk : Nat
  len : Nat := 0
  cap : Nat := 0
  base : Option Addr := none

/-- The blocks that nobody writes to any more: all of them; those that are new. -/
abbrev Fz := Bool → Nat → Prop

def sfnVal : List (Bool × Nat) → Value
  | [] => .nilFunc
  | p :: l => match p.1 with
    | true => .func (.func p.2) #[] #[]
    | false => sfnVal l

/-- In the world w, the value v is x. -/
inductive Den (c : Cfg A) (S : Fz) (σ : Nat → Loc) (w : World) : V A → Value → Prop
  | int (k : IntKind) (n : Int) : Den c S σ w (.int k n) (.int k n)
  | bool (b : Bool) : Den c S σ w (.bool b) (.bool b)
  | str (s : ByteArray) : Den c S σ w (.str s) (.string s)
  | fn (f : Nat) : Den c S σ w (.fn f) (.func (.func f) #[] #[])
  | raw (x : Value) : Den c S σ w (.raw x) x
  | agg (cs : List (V A)) (xs : Array Value) (hl : xs.size = cs.length) (h : ∀ i (hi : i < cs.length), Den c S σ w cs[i] (xs.getD i undef)) : Den c S σ w (.agg cs) (.agg xs)
  | tup (cs : List (V A)) (xs : Array Value) (hl : xs.size = cs.length) (h : ∀ i (hi : i < cs.length), Den c S σ w cs[i] (xs.getD i undef)) : Den c S σ w (.tup cs) (.tuple xs)
  | clo (f : Nat) (fs cs : List (V A)) (xs ys : Array Value) (hl : xs.size = fs.length) (h : ∀ i (hi : i < fs.length), Den c S σ w fs[i] (xs.getD i undef))
      (hl' : ys.size = cs.length) (h' : ∀ i (hi : i < cs.length), Den c S σ w cs[i] (ys.getD i undef)) : Den c S σ w (.clo f fs cs) (.func (.func f) xs ys)
  | list (t : Nat) (fr : Bool) (l : List (A t)) (p : Option Addr) (cap : Nat) (b : Addr) (x : Nat → Nat → Value)
      (hp : l ≠ [] → p = some b) (hc : l.length ≤ cap) (hS : l ≠ [] → S fr b.block)
      (hn : l ≠ [] → (c.ty t).size ≠ 0)
      (he : ∀ j (hj : j < l.length), (c.C.enc t l[j]).length = (c.ty t).size)
      (hw : ∀ j q, j < l.length → q < (c.ty t).size → w.cell? (b.add (j * (c.ty t).size + q)) = some (x j q))
      (hd : ∀ j q (hj : j < l.length) (hq : q < (encF c t fr l[j]).length), Den c S σ w (encF c t fr l[j])[q] (x j q)) : Den c S σ w (.list t fr l) (.slice p l.length cap)
  | arr (t : Nat) (fr : Bool) (n : Nat) (l : List (A t)) (xs : Array Value) (hl : l.length = n)
      (he : ∀ j (hj : j < l.length), (c.C.enc t l[j]).length = (c.ty t).size) (hx : xs.size = n * (c.ty t).size)
      (hd : ∀ j q (hj : j < l.length) (hq : q < (encF c t fr l[j]).length), Den c S σ w (encF c t fr l[j])[q] (xs.getD (j * (c.ty t).size + q) undef)) : Den c S σ w (.arr t fr n l) (.agg xs)
  | ptr (id off : Nat) : Den c S σ w (.ptr id off) (.pointer (some ⟨(σ id).blk, off, none⟩))
  | eptr (t : Nat) (fr : Bool) (a : A t) (off : Nat) (b : Addr) (x : Nat → Value) (hS : S fr b.block)
      (he : (c.C.enc t a).length = (c.ty t).size)
      (hw : ∀ q, q < (c.ty t).size → w.cell? (b.add q) = some (x q))
      (hd : ∀ q (hq : q < (encF c t fr a).length), Den c S σ w (encF c t fr a)[q] (x q)) : Den c S σ w (.eptr t fr a off) (.pointer (some (b.add off)))
  | own (id : Nat) : Den c S σ w (.own id) (.slice (σ id).base (σ id).len (σ id).cap)
  | optr (id t i off : Nat) (hi : i < (σ id).len) : Den c S σ w (.optr id t i off) (.pointer (some ⟨(σ id).blk, i * (c.ty t).size + off, none⟩))
  | junk (x : Value) : Den c S σ w .junk x
  | cmap (k : IntKind) (fr : Bool) (l : List (Int × Value)) (b : Nat) (es : Array MapEntry) (ck : Nat) (hS : S fr b) (hw : w.heap[b]? = some (.map es ck))
      (he : es.toList.map (fun e => (e.key, e.val)) = l.map fun p => (Value.int k p.1, p.2)) : Den c S σ w (.cmap k fr l) (.map (some b))
  | sfn (l : List (Bool × Nat)) : Den c S σ w (.sfn l) (sfnVal l)

/-- What lies in a row of one's own. -/
structure RowAt (c : Cfg A) (S : Fz) (σ : Nat → Loc) (w : World) (L : Loc) (t : Nat) (f : Bool) (n : Option Nat) (l : List (A t)) : Prop where
  ne : (c.ty t).size ≠ 0
  len : L.len = l.length
  cap : l.length ≤ L.cap
  fix : ∀ m, n = some m → l.length = m
  enc : ∀ j (hj : j < l.length), (c.C.enc t l[j]).length = (c.ty t).size
  base : n = none → L.cap ≠ 0 → L.base = some ⟨L.blk, 0, none⟩
  room : ∀ k, k < L.cap * (c.ty t).size → (w.cell? ⟨L.blk, k, none⟩).isSome = true
  frz : ∀ k, L.cap ≠ 0 → w.frozen? ⟨L.blk, k, none⟩ = false
  cells : ∀ j q (hj : j < l.length) (hq : q < (encF c t f l[j]).length), ∃ y, w.cell? ⟨L.blk, j * (c.ty t).size + q, none⟩ = some y ∧ Den c S σ w (encF c t f l[j])[q] y

/-- What a row's entry says. -/
def RowIs (c : Cfg A) (S : Fz) (σ : Nat → Loc) (w : World) (L : Loc) : V A → Prop
  | .rowc t f n l => RowAt c S σ w L t f n l
  | .list t f l => Den c S σ w (.list t f l) (.slice L.base L.len L.cap)
  | _ => False

def V.isRowc : V A → Bool
  | .rowc _ _ _ _ => true
  | _ => false

/-- What an answer is; n: the world's size when the call began. -/
def ResDen (c : Cfg A) (n : Nat) (S : Fz) (σ : Nat → Loc) (w : World) (r : V A) (x : Value) : Prop :=
  match r with
  | .olist t f l => ∃ L : Loc, x = .slice L.base L.len L.cap ∧ RowAt c S σ w L t f none l ∧ (L.cap ≠ 0 → n ≤ L.blk ∧ ¬ S false L.blk)
  | r => Den c S σ w r x

/-- What an argument is; β: the blocks of the boxes that arguments point to. -/
def ArgDen (c : Cfg A) (S : Fz) (σ : Nat → Loc) (w : World) (β : Nat → Nat) (i : Nat) (v : V A) (x : Value) : Prop :=
  match v with
  | .ref cs => x = .pointer (some ⟨β i, 0, none⟩) ∧ cs ≠ [] ∧ (∀ o (h : o < cs.length), ∃ y, w.cell? ⟨β i, o, none⟩ = some y ∧ Den c S σ w cs[o] y) ∧ (∀ o, w.frozen? ⟨β i, o, none⟩ = false) ∧ ¬ S false (β i)
  | v => Den c S σ w v x

structure ArgsOk (c : Cfg A) (S : Fz) (σ : Nat → Loc) (w : World) (β : Nat → Nat) (vs : List (V A)) (xs : Array Value) : Prop where
  size : xs.size = vs.length
  den : ∀ i (hi : i < vs.length), ArgDen c S σ w β i vs[i] (xs.getD i undef)
  inj : ∀ i j cs ds, vs[i]? = some (.ref cs) → vs[j]? = some (.ref ds) → β i = β j → i = j

/-- The cells that a callee may write to. -/
def Bc (vs : List (V A)) (β : Nat → Nat) (b o : Nat) : Prop := ∃ i cs, vs[i]? = some (.ref cs) ∧ b = β i ∧ o < cs.length

/-- What the boxes hold in the end. -/
def OutsDen (c : Cfg A) (S : Fz) (σ : Nat → Loc) (w : World) (β : Nat → Nat) : Nat → List (V A) → List (List (V A)) → Prop
  | _, [], [] => True
  | _, [], _ :: _ => False
  | i, .ref cs :: vs, o :: outs => o.length = cs.length ∧ (∀ q (h : q < o.length), ∃ y, w.cell? ⟨β i, q, none⟩ = some y ∧ Den c S σ w o[q] y ∧ (o[q]).isJunk = false) ∧ OutsDen c S σ w β (i + 1) vs outs
  | _, .ref _ :: _, [] => False
  | i, _ :: vs, outs => OutsDen c S σ w β (i + 1) vs outs

/-- A world to begin with, and the cells of it that may be written to. -/
structure W0 where
  w : World
  B : Nat → Nat → Prop := fun _ _ => False

/-- And the blocks of the boxes that were handed on. -/
structure W1 extends W0 where
  pin : Nat → Nat := fun _ => 0

def W0.heap (w0 : W0) : Array Obj := w0.w.heap

/-- But for those cells the old world is as it was. -/
structure Bel (w0 : W0) (w : World) : Prop where
  os : w.os = w0.w.os
  tape : w.tape = w0.w.tape
  output : w.output = w0.w.output
  size : w0.heap.size ≤ w.heap.size
  block : ∀ k, k < w0.heap.size → (∀ o, ¬ w0.B k o) → w.heap[k]? = w0.heap[k]?
  cell : ∀ k o, k < w0.heap.size → ¬ w0.B k o → w.cell? ⟨k, o, none⟩ = w0.w.cell? ⟨k, o, none⟩
  frozen : ∀ k o, k < w0.heap.size → w.frozen? ⟨k, o, none⟩ = w0.w.frozen? ⟨k, o, none⟩

theorem Bel.of {w w' : World} (h : Below w.heap.size w w') : Bel ⟨w, fun _ _ => False⟩ w' where
  os := h.os
  tape := h.tape
  output := h.output
  size := h.size
  block k hk _ := h.block k hk
  cell k o hk _ := World.cell?_of_block (w := w) (h.block k hk)
  frozen k o hk := World.frozen?_of_block (w := w) (h.block k hk)

theorem Bel.refl (w0 : W0) : Bel w0 w0.w := ⟨rfl, rfl, rfl, Nat.le_refl _, fun _ _ _ => rfl, fun _ _ _ _ => rfl, fun _ _ _ => rfl⟩

theorem Bel.trans {w0 : W0} {w w' : World} {B : Nat → Nat → Prop} (h : Bel w0 w) (k : Bel ⟨w, B⟩ w') (hB : ∀ b o, B b o → w0.heap.size ≤ b ∨ w0.B b o) : Bel w0 w' where
  os := k.os.trans h.os
  tape := k.tape.trans h.tape
  output := k.output.trans h.output
  size := Nat.le_trans h.size k.size
  block i hi hn := by
    have := k.block i (Nat.lt_of_lt_of_le hi h.size) (fun o hb => by rcases hB i o hb with h1 | h1; exact absurd hi (Nat.not_lt.2 h1); exact hn o h1)
    exact this.trans (h.block i hi hn)
  cell i o hi hn := by
    have := k.cell i o (Nat.lt_of_lt_of_le hi h.size) (fun hb => by rcases hB i o hb with h1 | h1; exact absurd hi (Nat.not_lt.2 h1); exact hn h1)
    exact this.trans (h.cell i o hi hn)
  frozen i o hi := (k.frozen i o (Nat.lt_of_lt_of_le hi h.size)).trans (h.frozen i o hi)

theorem Bel.below {w0 : W0} {w w' : World} (h : Bel w0 w) (k : Below w.heap.size w w') : Bel w0 w' := h.trans (Bel.of k) (fun _ _ h => h.elim)

/-- Without such cells, nothing of the old world has turned. -/
theorem Bel.toBelow {w0 : W0} {w : World} (h : Bel w0 w) (hB : ∀ b o, ¬ w0.B b o) : Below w0.heap.size w0.w w :=
  ⟨h.os, h.tape, h.output, h.size, fun k hk => h.block k hk (hB k)⟩

/-- The values of two rows of cells, held against each other. -/
def eqVal : Value → Value → Option Bool
  | .int k a, .int k' b => if k = k' then some (a == b) else none
  | .bool a, .bool b => some (a == b)
  | .string a, .string b => some (a.toList == b.toList)
  | _, _ => none

def eqVals : List Value → List Value → Option Bool
  | [], [] => some true
  | x :: xs, y :: ys => match eqVal x y, eqVals xs ys with
    | some p, some q => some (p && q)
    | _, _ => none
  | _, _ => none

def scOf : Sc → Value → Bool
  | .int k, .int k' _ => ksame k k'
  | .bool, .bool _ => true
  | .str, .string _ => true
  | _, _ => false

def scsOf : List Sc → List Value → Bool
  | [], [] => true
  | s :: ss, v :: vs => (scOf s v).and (scsOf ss vs)
  | _, _ => false

structure TIok (P : Program) (t : Nat) (i : TI) : Prop where
  size : i.size ≠ 0 → ∀ w, (Go.sizeOf t).run P w = .ok i.size w
  agg : ∀ b, i.agg = some b → ∀ w, (isAgg t).run P w = .ok b w
  fields : i.fields ≠ [] → ∃ fs : Array Field, P.underlying t = some (.struct fs) ∧ fs.toList.map (fun f => (f.offset, f.type)) = i.fields
  elem : ∀ e, i.elem = some e → P.underlying t = some (.slice e)
  kind : ∀ k, i.kind = some k → P.underlying t = some (.int k)
  zero : ∀ z, i.zero = some z → ∀ w, (zeroValue t).run P w = .ok z w
  str : i.str = true → P.underlying t = some .string
  isBool : i.isBool = true → P.underlying t = some .bool
  arr : ∀ e m, i.arr = some (e, m) → P.underlying t = some (.array m e)
  sarr : ∀ e m, i.sarr = some (e, m) → P.underlying t = some (.array m e)
  app : i.app = true → ∃ inf z, P.info? t = some inf ∧ inf.size = i.size ∧ inf.bytes = i.bytes ∧ inf.zero = some z ∧ i.zero = some z ∧ z.cells.size = i.size
  map : ∀ k e, i.map = some (k, e) → ∃ kt, P.underlying t = some (.map kt e) ∧ P.underlying kt = some (.int k)
  flat : ∀ sh, i.flat = some sh → P.eqGuardType P.depth t = false ∧ ∀ (xs ys : Array Value) r w, scsOf sh xs.toList = true → scsOf sh ys.toList = true → eqVals xs.toList ys.toList = some r → (Op.equal t (.agg xs) (.agg ys)).run P w = .ok r w

/-- What a function answers is so. -/
def CallOk (c : Cfg A) (f : Nat) (vs : List (V A)) (r : V A) (outs : List (List (V A))) : Prop :=
  ∀ (w : World) (S : Fz) (σ : Nat → Loc) (β : Nat → Nat) (xs : Array Value), (∀ b, S true b → S false b) → (∀ b, S false b → b < w.heap.size) → c.inv (S false) w → ArgsOk c S σ w β vs xs →
    Calls c.P f xs w fun e w' => ∃ x, e = .returned x ∧ Bel ⟨w, Bc vs β⟩ w' ∧ ∃ S' : Fz, (∀ f b, S' f b → (f = false ∧ S false b) ∨ (w.heap.size ≤ b ∧ b < w'.heap.size)) ∧ (∀ b, S' true b → S' false b) ∧
      ResDen c w.heap.size S' σ w' r x ∧ OutsDen c S' σ w' β 0 vs outs

/-- What a function without a text of its own answers is so. -/
def ExtOk (c : Cfg A) (f : Nat) (vs : List (V A)) (r : V A) : Prop :=
  ∀ (w : World) (S : Fz) (σ : Nat → Loc) (xs : Array Value), (∀ b, S true b → S false b) → xs.size = vs.length → (∀ i (hi : i < vs.length), Den c S σ w vs[i] (xs.getD i undef)) →
    ∃ x, (callFunc f xs).run c.P w = .ok (.value x) w ∧ Den c S σ w r x

structure CfgOk (c : Cfg A) : Prop where
  ty : ∀ t, TIok c.P t (c.ty t)
  arr : ∀ t e m, (c.ty t).arr = some (e, m) → (c.ty t).size = m * (c.ty e).size ∧ (c.ty e).size ≠ 0 ∧ m ≠ 0 ∧ (c.ty t).agg = some true
  enc : ∀ t a p, all (ok0 p) (c.C.enc t a) = true
  fresh : ∀ t a, all (fun v => allFr0 (frs true v)) (c.C.enc t a) = true
  one : ∀ t a, all one (c.C.enc t a) = true
  old : ∀ t a, all old0 (c.C.enc t a) = true
  dec : ∀ t cs a, c.C.dec t cs = some a → c.C.enc t a = cs
  plain : ∀ t a, plainT (c.ty t) = true → all plainV (c.C.enc t a) = true
  u8 : ∀ t a, (c.ty t).kind = some .u8 → c.C.enc t a = [] ∨ ∃ n, c.C.enc t a = [.int .u8 n]
  inv : ∀ (S S' : Nat → Prop) (w w' : World), c.inv S w → (∀ b, S b → S' b) → (∀ b, S b → w'.heap[b]? = w.heap[b]?) → c.inv S' w'
  call : ∀ f vs r outs ps, c.call f vs = some (r, outs, ps) → All ps → ((∀ args w, (callFunc f args).run c.P w = .ok (.enter f args) w) ∧ CallOk c f vs r outs) ∨ (outs = [] ∧ ExtOk c f vs r)

/-! ### Small things on lists -/

theorem all_mem {α : Type} {p : α → Bool} : ∀ {l : List α}, all p l = true → ∀ x ∈ l, p x = true
  | [], _, x, hx => by cases hx
  | a :: l, h, x, hx => by
    simp only [all, Bool.and_eq_true] at h
    cases hx with
    | head => exact h.1
    | tail _ hm => exact all_mem h.2 x hm

theorem nth_eq {α : Type} : ∀ (l : List α) (n : Nat), nth l n = l[n]?
  | [], n => by simp [nth]
  | a :: l, 0 => by simp [nth]
  | a :: l, n + 1 => by simp [nth, nth_eq l n]

theorem K.same_iff {k k' : K} : K.same k k' = true ↔ k = k' := by
  cases k <;> cases k' <;> simp [K.same]

theorem look_cons (k k' : K) (e : Ent A) (E : Env A) : look k ((k', e) :: E) = if k = k' then some e else look k E := by
  rw [look]
  by_cases h : k = k'
  · have := K.same_iff.2 h; rw [this, if_pos h]
  · have : K.same k k' = false := by
      cases hb : K.same k k' with
      | false => rfl
      | true => exact absurd (K.same_iff.1 hb) h
    rw [this, if_neg h]

theorem look_append (k : K) (E F : Env A) : look k (E ++ F) = (look k E).or (look k F) := by
  induction E with
  | nil => simp [look]
  | cons p E ih =>
    obtain ⟨k', e⟩ := p
    simp only [List.cons_append, look_cons]
    split
    · simp
    · exact ih

/-! ### While memory grows -/

theorem mapV_eq (f : V A → V A) : ∀ l : List (V A), mapV f l = l.map f
  | [] => rfl
  | v :: vs => by simp [mapV, mapV_eq f vs]

theorem encF_length (c : Cfg A) (t : Nat) (f : Bool) (a : A t) : (encF c t f a).length = (c.C.enc t a).length := by simp [encF, mapV_eq]

theorem okB_G {p : Nat → Bool} {v : V A} (h : okB p v = true) : okG p v = true := by cases v <;> simp_all [okB, okG]
theorem okB_0 {p : Nat → Bool} {v : V A} (h : okB p v = true) : ok0 p v = true := by cases v <;> simp_all [okB, ok0]
theorem all_imp {α : Type} {p q : α → Bool} (hpq : ∀ x, p x = true → q x = true) : ∀ {l : List α}, all p l = true → all q l = true
  | [], _ => rfl
  | a :: l, h => by simp only [all, Bool.and_eq_true] at h ⊢; exact ⟨hpq _ h.1, all_imp hpq h.2⟩
theorem ok0_v {p : Nat → Bool} {v : V A} (h : ok0 p v = true) : okv p v = true := by cases v <;> simp_all [ok0, okv, okB]
theorem ok1_v {p : Nat → Bool} {v : V A} (h : ok1 p v = true) : okv p v = true := by cases v <;> simp_all [ok1, okv, ok0, okB]
theorem okG_v {p : Nat → Bool} {v : V A} (h : okG p v = true) : okv p v = true := by
  cases v <;> simp_all [okG, okv, ok0, okB]
  exact all_imp (fun _ => okB_0) h

theorem okB_mono {p q : Nat → Bool} (hpq : ∀ i, p i = true → q i = true) {v : V A} (h : okB p v = true) : okB q v = true := by cases v <;> simp_all [okB]
theorem okG_mono {p q : Nat → Bool} (hpq : ∀ i, p i = true → q i = true) {v : V A} (h : okG p v = true) : okG q v = true := by
  cases v with
  | agg cs => exact all_imp (p := okB p) (fun _ => okB_mono hpq) h
  | _ => simp only [okG] at h ⊢; exact okB_mono hpq h
theorem ok0_mono {p q : Nat → Bool} (hpq : ∀ i, p i = true → q i = true) {v : V A} (h : ok0 p v = true) : ok0 q v = true := by
  cases v with
  | clo f fs cs =>
    simp only [ok0, Bool.and_eq_true] at h ⊢
    exact ⟨all_imp (fun _ => okG_mono hpq) h.1, all_imp (fun _ => okG_mono hpq) h.2⟩
  | _ => simp only [ok0] at h ⊢; exact okB_mono hpq h
theorem ok1_mono {p q : Nat → Bool} (hpq : ∀ i, p i = true → q i = true) {v : V A} (h : ok1 p v = true) : ok1 q v = true := by
  cases v with
  | agg cs => exact all_imp (p := ok0 p) (fun _ => ok0_mono hpq) h
  | tup cs => exact h
  | _ => simp only [ok1] at h ⊢; exact ok0_mono hpq h
theorem okv_mono {p q : Nat → Bool} (hpq : ∀ i, p i = true → q i = true) {v : V A} (h : okv p v = true) : okv q v = true := by
  cases v with
  | agg cs => exact all_imp (p := ok0 p) (fun _ => ok0_mono hpq) h
  | tup cs => exact all_imp (p := ok1 p) (fun _ => ok1_mono hpq) h
  | _ => simp only [okv] at h ⊢; exact ok0_mono hpq h

theorem avoid_0_2 {d : Nat} {v : V A} (h : avoid0 d v = true) : avoids d v = true := ok0_v h

theorem frs_ok {p : Nat → Bool} {f : Bool} {v : V A} (h : ok0 p v = true) : ok0 p (frs f v) = true := by cases v <;> simp_all [frs, ok0, okB]

theorem encF_ok {c : Cfg A} (hc : CfgOk c) (t : Nat) (f : Bool) (a : A t) (p : Nat → Bool) {q : Nat} (hq : q < (encF c t f a).length) : ok0 p (encF c t f a)[q] = true := by
  have h := hc.enc t a p
  simp only [encF, mapV_eq, List.getElem_map]
  exact frs_ok (all_mem h _ (List.getElem_mem _))

theorem Den.mono {c : Cfg A} (hc : CfgOk c) {S S' : Fz} {σ σ' : Nat → Loc} {w w' : World} {v : V A} {x : Value} (h : Den c S σ w v x)
    (hS : ∀ f b, S f b → S' f b) (hw : ∀ f b, S f b → w'.heap[b]? = w.heap[b]?) (hσ : ∀ id, avoids id v = false → σ' id = σ id) : Den c S' σ' w' v x := by
  have enc_av : ∀ t f (a : A t) q (hq : q < (encF c t f a).length) id, avoids id (encF c t f a)[q] = true := fun t f a q hq id => ok0_v (encF_ok hc t f a _ hq)
  induction h with
  | int => exact .int _ _
  | bool => exact .bool _
  | str => exact .str _
  | fn => exact .fn _
  | raw => exact .raw _
  | junk => exact .junk _
  | agg cs xs hl h ih =>
    refine .agg cs xs hl fun i hi => ih i hi fun id hid => hσ id ?_
    cases ha : avoids id (V.agg cs) with
    | false => rfl
    | true =>
      have : avoids id cs[i] = true := ok0_v (all_mem (p := ok0 (neq id)) (by simpa [avoids, okv] using ha) _ (List.getElem_mem hi))
      rw [this] at hid; cases hid
  | tup cs xs hl h ih =>
    refine .tup cs xs hl fun i hi => ih i hi fun id hid => hσ id ?_
    cases ha : avoids id (V.tup cs) with
    | false => rfl
    | true =>
      have : avoids id cs[i] = true := ok1_v (all_mem (by simpa [avoids, okv] using ha) _ (List.getElem_mem hi))
      rw [this] at hid; cases hid
  | clo f fs cs xs ys hl h hl' h' ih ih' =>
    refine .clo f fs cs xs ys hl (fun i hi => ih i hi fun id hid => hσ id ?_) hl' (fun i hi => ih' i hi fun id hid => hσ id ?_)
    · cases ha : avoids id (V.clo f fs cs) with
      | false => rfl
      | true =>
        have : all (okG (neq id)) fs = true ∧ all (okG (neq id)) cs = true := by simpa [avoids, okv, ok0] using ha
        have : avoids id fs[i] = true := okG_v (all_mem this.1 _ (List.getElem_mem hi))
        rw [this] at hid; cases hid
    · cases ha : avoids id (V.clo f fs cs) with
      | false => rfl
      | true =>
        have : all (okG (neq id)) fs = true ∧ all (okG (neq id)) cs = true := by simpa [avoids, okv, ok0] using ha
        have : avoids id cs[i] = true := okG_v (all_mem this.2 _ (List.getElem_mem hi))
        rw [this] at hid; cases hid
  | list t fr l p cap b x hp hcap hSb hn he hcell hd ih =>
    refine .list t fr l p cap b x hp hcap (fun h => hS _ _ (hSb h)) hn he (fun j q hj hq => ?_) (fun j q hj hq => ih j q hj hq fun id hid => ?_)
    · rw [← hcell j q hj hq]
      have hne : l ≠ [] := by intro h; subst h; simp at hj
      refine World.cell?_of_block (w := w) ?_
      have : (b.add (j * (c.ty t).size + q)).block = b.block := by unfold Addr.add; split <;> rfl
      rw [this]; exact hw _ _ (hSb hne)
    · rw [enc_av] at hid; cases hid
  | arr t fr n l xs hl he hx hd ih =>
    refine .arr t fr n l xs hl he hx (fun j q hj hq => ih j q hj hq fun id hid => ?_)
    rw [enc_av] at hid; cases hid
  | ptr id off =>
    have := hσ id (by simp [avoids, okv, ok0, okB, neq])
    rw [← this]; exact .ptr id off
  | own id =>
    have := hσ id (by simp [avoids, okv, ok0, okB, neq])
    rw [← this]; exact .own id
  | optr id t i off hi =>
    have := hσ id (by simp [avoids, okv, ok0, okB, neq])
    rw [← this] at hi ⊢; exact .optr id t i off hi
  | cmap k fr l b es ck hSb hb he => exact .cmap k fr l b es ck (hS _ _ hSb) ((hw _ _ hSb).trans hb) he
  | sfn l => exact .sfn l
  | eptr t fr a off b x hSb he hcell hd ih =>
    refine .eptr t fr a off b x (hS _ _ hSb) he (fun q hq => ?_) (fun q hq => ih q hq fun id hid => ?_)
    · rw [← hcell q hq]
      refine World.cell?_of_block (w := w) ?_
      have : (b.add q).block = b.block := by unfold Addr.add; split <;> rfl
      rw [this]; exact hw _ _ hSb
    · rw [enc_av] at hid; cases hid

theorem RowAt.mono {c : Cfg A} (hc : CfgOk c) {S S' : Fz} {σ σ' : Nat → Loc} {w w' : World} {L : Loc} {t : Nat} {f : Bool} {n : Option Nat} {l : List (A t)} (h : RowAt c S σ w L t f n l)
    (hS : ∀ f b, S f b → S' f b) (hw : ∀ f b, S f b → w'.heap[b]? = w.heap[b]?) (hb : L.cap ≠ 0 → w'.heap[L.blk]? = w.heap[L.blk]?) : RowAt c S' σ' w' L t f n l where
  ne := h.ne
  len := h.len
  cap := h.cap
  fix := h.fix
  enc := h.enc
  base := h.base
  room k hk := by
    have hne : L.cap ≠ 0 := by intro e; rw [e] at hk; simp at hk
    rw [World.cell?_of_block (w := w) (hb hne)]; exact h.room k hk
  frz k hne := by rw [World.frozen?_of_block (w := w) (hb hne)]; exact h.frz k hne
  cells j q hj hq := by
    have hne : L.cap ≠ 0 := by have := h.cap; omega
    obtain ⟨y, hy, hd⟩ := h.cells j q hj hq
    refine ⟨y, ?_, hd.mono hc hS hw fun id hid => ?_⟩
    · rw [← hy]; exact World.cell?_of_block (w := w) (hb hne)
    · have : avoids id (encF c t f l[j])[q] = true := ok0_v (encF_ok hc t f _ _ hq)
      rw [this] at hid; cases hid

/-! ### The relation of an environment to a frame and a world -/

def Holds (a : Act) (g : Chain) : Prop := ∀ p ∈ g, a.tmps.getD p.1 undef = .bool p.2

/-- A box, or a row, that is there. -/
def live (lk : K → Option (Ent A)) (σ : Nat → Loc) : Bool → Nat → Prop
  | false, id => ∃ off g v, lk (.cell id off) = some (g, v) ∧ v.isJunk = false
  | true, id => ∃ g v, lk (.row id) = some (g, v) ∧ v.isRowc = true ∧ (σ id).cap ≠ 0

structure RelAt (c : Cfg A) (n : Nat) (w0 : W1) (S0 : Nat → Prop) (S : Fz) (σ : Nat → Loc) (lk : K → Option (Ent A)) (a : Act) (w : World) : Prop where
  inv : c.inv (S false) w
  defers : a.defers = []
  size : a.tmps.size = n
  below : Bel w0.toW0 w
  s0 : ∀ b, S0 b → S false b
  pin : ∀ id ∈ c.pins, (σ id).blk = w0.pin id
  sT : ∀ b, S true b → S false b
  sNew : ∀ f b, S f b → (f = false ∧ S0 b) ∨ w0.heap.size ≤ b
  sLt : ∀ b, S false b → b < w.heap.size
  slot : ∀ i g v, lk (.slot i) = some (g, v) → v.isJunk = false → i < n ∧ (Holds a g → Den c S σ w v (a.tmps.getD i undef)) ∧ (¬ Holds a g → a.tmps.getD i undef = undef)
  cell : ∀ id off g v, lk (.cell id off) = some (g, v) → v.isJunk = false →
    (∃ x, w.cell? ⟨(σ id).blk, off, none⟩ = some x ∧ Den c S σ w v x) ∧ (∀ o, w.frozen? ⟨(σ id).blk, o, none⟩ = false) ∧ ¬ S false (σ id).blk ∧ (w0.heap.size ≤ (σ id).blk ∨ w0.B (σ id).blk off)
  row : ∀ id g v, lk (.row id) = some (g, v) → v.isJunk = false → RowIs c S σ w (σ id) v ∧ (v.isRowc = true → (σ id).cap ≠ 0 → ¬ S false (σ id).blk ∧ w0.heap.size ≤ (σ id).blk)
  dist : ∀ b b' id id', live lk σ b id → live lk σ b' id' → (σ id).blk = (σ id').blk → b = b' ∧ id = id'

theorem RelAt.lt {c : Cfg A} {n : Nat} {w0 : W1} {S0 : Nat → Prop} {S : Fz} {σ : Nat → Loc} {lk : K → Option (Ent A)} {a : Act} {w : World} (h : RelAt c n w0 S0 S σ lk a w)
    {b : Bool} {id : Nat} (hl : live lk σ b id) : (σ id).blk < w.heap.size := by
  cases b
  · obtain ⟨off, g, v, hk, hj⟩ := hl
    obtain ⟨⟨x, hx, _⟩, _⟩ := h.cell id off g v hk hj
    exact World.block_lt_of_cell? _ _ hx
  · obtain ⟨g, v, hk, hr, hcap⟩ := hl
    cases v <;> simp only [V.isRowc, Bool.false_eq_true] at hr
    obtain ⟨h1, _⟩ := h.row id g _ hk rfl
    have h1 : RowAt c S σ w (σ id) _ _ _ _ := h1
    have := h1.room 0 (by have := h1.ne; have : 0 < (σ id).cap * _ := Nat.mul_pos (Nat.pos_of_ne_zero hcap) (Nat.pos_of_ne_zero h1.ne); omega)
    obtain ⟨x, hx⟩ := Option.isSome_iff_exists.1 this
    exact World.block_lt_of_cell? _ _ hx

theorem RelAt.sLt' {c : Cfg A} {n : Nat} {w0 : W1} {S0 : Nat → Prop} {S : Fz} {σ : Nat → Loc} {lk : K → Option (Ent A)} {a : Act} {w : World} (h : RelAt c n w0 S0 S σ lk a w) (f : Bool) (b : Nat) (hb : S f b) : b < w.heap.size := by
  cases f
  · exact h.sLt b hb
  · exact h.sLt b (h.sT b hb)

/-- 'lk'' knows no more than 'lk'. -/
def Sub (lk' lk : K → Option (Ent A)) : Prop := ∀ k g v, lk' k = some (g, v) → v.isJunk = false → lk k = some (g, v)

theorem Sub.of {lk' lk : K → Option (Ent A)} (h : ∀ k e, lk' k = some e → lk k = some e) : Sub lk' lk := fun k g v hv _ => h k (g, v) hv

theorem rowc_junk {v : V A} (h : v.isRowc = true) : v.isJunk = false := by cases v <;> simp_all [V.isRowc, V.isJunk]

theorem Sub.live {lk' lk : K → Option (Ent A)} (hk : Sub lk' lk) {σ : Nat → Loc} {b : Bool} {id : Nat} (h : live lk' σ b id) : live lk σ b id := by
  cases b
  · obtain ⟨o, g, v, h1, h2⟩ := h
    exact ⟨o, g, v, hk _ _ _ h1 h2, h2⟩
  · obtain ⟨g, v, h1, h2, h3⟩ := h
    exact ⟨g, v, hk _ _ _ h1 (rowc_junk h2), h2, h3⟩

/-- Less is known. -/
theorem RelAt.sub {c : Cfg A} {n : Nat} {w0 : W1} {S0 : Nat → Prop} {S : Fz} {σ : Nat → Loc} {lk lk' : K → Option (Ent A)} {a : Act} {w : World} (h : RelAt c n w0 S0 S σ lk a w)
    (hk : Sub lk' lk) : RelAt c n w0 S0 S σ lk' a w where
  inv := h.inv
  defers := h.defers
  size := h.size
  below := h.below
  s0 := h.s0
  pin := h.pin
  sT := h.sT
  sNew := h.sNew
  sLt := h.sLt
  slot i g v hv hj := h.slot i g v (hk _ _ _ hv hj) hj
  cell id off g v hv hj := h.cell id off g v (hk _ _ _ hv hj) hj
  row id g v hv hj := h.row id g v (hk _ _ _ hv hj) hj
  dist b b' id id' hl hl' := h.dist b b' id id' (hk.live hl) (hk.live hl')

/-- Less is known. -/
theorem RelAt.weaken {c : Cfg A} {n : Nat} {w0 : W1} {S0 : Nat → Prop} {S : Fz} {σ : Nat → Loc} {lk lk' : K → Option (Ent A)} {a : Act} {w : World} (h : RelAt c n w0 S0 S σ lk a w)
    (hk : ∀ k e, lk' k = some e → lk k = some e) : RelAt c n w0 S0 S σ lk' a w := h.sub (.of hk)

theorem RowIs.mono {c : Cfg A} (hc : CfgOk c) {S S' : Fz} {σ σ' : Nat → Loc} {w w' : World} {L : Loc} {v : V A} (h : RowIs c S σ w L v)
    (hS : ∀ f b, S f b → S' f b) (hw : ∀ f b, S f b → w'.heap[b]? = w.heap[b]?) (hb : v.isRowc = true → L.cap ≠ 0 → w'.heap[L.blk]? = w.heap[L.blk]?) : RowIs c S' σ' w' L v := by
  cases v <;> try exact h.elim
  · exact Den.mono hc (show Den c S σ w _ _ from h) hS hw (fun id hid => by simp [avoids, okv, ok0, okB] at hid)
  · exact RowAt.mono hc (show RowAt c S σ w L _ _ _ _ from h) hS hw (hb rfl)

/-- The world grows: what was there stays, but for nothing. -/
theorem RelAt.grow {c : Cfg A} (hc : CfgOk c) {n : Nat} {w0 : W1} {S0 : Nat → Prop} {S S' : Fz} {σ : Nat → Loc} {lk : K → Option (Ent A)} {a : Act} {w w' : World} (h : RelAt c n w0 S0 S σ lk a w)
    (hb : Below w.heap.size w w') (hS : ∀ f b, S f b → S' f b) (hT : ∀ b, S' true b → S' false b) (hS' : ∀ f b, S' f b → S f b ∨ (w.heap.size ≤ b ∧ b < w'.heap.size)) : RelAt c n w0 S0 S' σ lk a w' := by
  have hkeep : ∀ b, b < w.heap.size → w'.heap[b]? = w.heap[b]? := hb.block
  have hden : ∀ {v x}, Den c S σ w v x → Den c S' σ w' v x := fun hd => hd.mono hc hS (fun f b hb' => hkeep b (h.sLt' f b hb')) (fun _ _ => rfl)
  exact {
    inv := hc.inv _ _ _ _ h.inv (hS false) (fun b hb' => hkeep b (h.sLt b hb'))
    defers := h.defers
    size := h.size
    below := h.below.below hb
    s0 := fun b hb' => hS _ b (h.s0 b hb')
    pin := h.pin
    sT := hT
    sNew := fun f b hb' => by
      rcases hS' f b hb' with h1 | h1
      · exact h.sNew f b h1
      · exact .inr (Nat.le_trans h.below.size h1.1)
    sLt := fun b hb' => by
      rcases hS' _ b hb' with h1 | h1
      · exact Nat.lt_of_lt_of_le (h.sLt b h1) hb.size
      · exact h1.2
    slot := fun i g v hv hj => ⟨(h.slot i g v hv hj).1, fun hg => hden ((h.slot i g v hv hj).2.1 hg), (h.slot i g v hv hj).2.2⟩
    cell := fun id off g v hv hj => by
      obtain ⟨⟨x, hx, hd⟩, hfz, hns, hlo⟩ := h.cell id off g v hv hj
      have hlt := h.lt (b := false) ⟨off, g, v, hv, hj⟩
      refine ⟨⟨x, ?_, hden hd⟩, fun o => ?_, ?_, hlo⟩
      · rw [← hx]; exact World.cell?_of_block (w := w) (hkeep _ hlt)
      · rw [← hfz o]; exact World.frozen?_of_block (w := w) (hkeep _ hlt)
      · intro hs
        rcases hS' _ _ hs with h1 | h1
        · exact hns h1
        · omega
    row := fun id g v hv hj => by
      obtain ⟨h1, h2⟩ := h.row id g v hv hj
      refine ⟨h1.mono hc hS (fun f b hb' => hkeep b (h.sLt' f b hb')) (fun hr hcap => hkeep _ (h.lt (b := true) ⟨g, v, hv, hr, hcap⟩)), fun hr hcap => ?_⟩
      obtain ⟨h3, h4⟩ := h2 hr hcap
      refine ⟨fun hs => ?_, h4⟩
      have hlt := h.lt (b := true) ⟨g, v, hv, hr, hcap⟩
      rcases hS' _ _ hs with h1 | h1
      · exact h3 h1
      · omega
    dist := h.dist }

theorem holds_put {a : Act} {d : Nat} {x : Value} {g : Chain} (hd : chainAvoids d g = true) : Holds (a.put (some d) x) g ↔ Holds a g := by
  have key : ∀ p ∈ g, (a.put (some d) x).tmps.getD p.1 undef = a.tmps.getD p.1 undef := by
    induction g with
    | nil => simp
    | cons q g ih =>
      simp only [chainAvoids, Bool.and_eq_true] at hd
      intro p hp
      cases hp with
      | head =>
        have : q.1 ≠ d := by intro h; simp [h] at hd
        simp [Act.put, Array.getElem?_setIfInBounds_ne (Ne.symm this)]
      | tail _ hm => exact ih hd.2 p hm
  unfold Holds
  constructor
  · intro h p hp; rw [← key p hp]; exact h p hp
  · intro h p hp; rw [key p hp]; exact h p hp

theorem live_put {lk : K → Option (Ent A)} {σ : Nat → Loc} {d : Nat} {e : Ent A} {b : Bool} {id : Nat} (h : live (fun k => if k = .slot d then some e else lk k) σ b id) : live lk σ b id := by
  cases b
  · obtain ⟨o, g, v, h1, h2⟩ := h
    exact ⟨o, g, v, by simpa using h1, h2⟩
  · obtain ⟨g, v, h1, h2, h3⟩ := h
    exact ⟨g, v, by simpa using h1, h2, h3⟩

/-- A value goes into its slot. -/
theorem RelAt.put {c : Cfg A} {n : Nat} {w0 : W1} {S0 : Nat → Prop} {S : Fz} {σ : Nat → Loc} {lk : K → Option (Ent A)} {a : Act} {w : World} (h : RelAt c n w0 S0 S σ lk a w)
    {d : Nat} (hd : d < n) {g : Chain} {v : V A} {x : Value}
    (hx : Holds a g → Den c S σ w v x) (hx' : ¬ Holds a g → x = undef) (hg : chainAvoids d g = true)
    (hav : ∀ k g' v', k ≠ .slot d → lk k = some (g', v') → chainAvoids d g' = true) :
    RelAt c n w0 S0 S σ (fun k => if k = .slot d then some (g, v) else lk k) (a.put (some d) x) w where
  inv := h.inv
  defers := h.defers
  size := by simp [Act.put, h.size]
  below := h.below
  s0 := h.s0
  pin := h.pin
  sT := h.sT
  sNew := h.sNew
  sLt := h.sLt
  slot i g' v' hv hj := by
    by_cases hi : i = d
    · subst hi
      simp only [if_true, Option.some.injEq, Prod.mk.injEq] at hv
      obtain ⟨rfl, rfl⟩ := hv
      have hget : (a.put (some i) x).tmps.getD i undef = x := by simp [Act.put, h.size, hd]
      rw [hget, holds_put hg]
      exact ⟨hd, hx, hx'⟩
    · have hne : K.slot i ≠ K.slot d := by intro e; cases e; exact hi rfl
      simp only [hne, if_false] at hv
      have hget : (a.put (some d) x).tmps.getD i undef = a.tmps.getD i undef := by
        simp [Act.put, Array.getElem?_setIfInBounds_ne (Ne.symm hi)]
      rw [hget, holds_put (hav _ _ _ hne hv)]
      exact h.slot i g' v' hv hj
  cell id off g' v' hv hj := by
    simp only [reduceCtorEq, if_false] at hv
    exact h.cell id off g' v' hv hj
  row id g' v' hv hj := by
    simp only [reduceCtorEq, if_false] at hv
    exact h.row id g' v' hv hj
  dist b b' id id' hl hl' := h.dist b b' id id' (live_put hl) (live_put hl')

end Vm
