/-
  One operation of a region, behind its guard; regions in the text's order and in whatever order the tape gives.
-/
import Derived.Test.YthnlknegnlmklaaVm8
set_option linter.all false
namespace Vm
open Go Go.RowKit
variable {A : Nat → Type}

/-! ### The interpreter's part -/

def guardOf (E : Env A) (ops : List Oper) (o : Oper) : Option Chain :=
  match o.guard with
  | none => some []
  | some (j, want) => match nth ops j with
    | some oj => match oj.dst with
      | some d => match look (.slot d) E with
        | some (g, .bool _) => some ((d, want) :: g)
        | _ => none
      | none => none
    | none => none

def chainReq (E : Env A) : Chain → Prop → Prop
  | [], p => p
  | (d, want) :: g, p => match look (.slot d) E with
    | some (g', .bool b) => match sub g' g with
      | true => chainReq E g (b = want → p)
      | false => chainReq E g p
    | _ => chainReq E g p

def guardReq (E : Env A) (g : Chain) (ps : List Prop) : List Prop :=
  match ps, g with
  | [], _ => []
  | ps, [] => ps
  | ps, g => [chainReq E g (All ps)]

def dstOk (c : Cfg A) (n : Nat) (g : Chain) : Option Nat → Bool
  | some d => (Nat.blt d n).and ((chainAvoids d g).and (memN d c.pins).not)
  | none => true

def entOk : Chain → Env A → Bool
  | [], ent => all (fun e => match e.2.1 with | [] => true | _ => false) ent
  | _ :: _, [] => true
  | _ :: _, _ :: _ => false

def slotEnt (dst : Option Nat) (g : Chain) (v : V A) (ent : Env A) : Env A :=
  match dst with
  | some d => (.slot d, g, v) :: ent
  | none => ent

def stepD (c : Cfg A) (n : Nat) (E : Env A) (ops : List Oper) (o : Oper) : Option (Env A × List Prop) :=
  match guardOf E ops o with
  | none => none
  | some g => match ex c E g o.dst o.op with
    | none => none
    | some (v, ent, ps) => match (dstOk c n g o.dst).and (entOk g ent) with
      | true => some (slotEnt o.dst g v ent, guardReq E g ps)
      | false => none

def dstAvoids (dst : Option Nat) (E : Env A) : Bool :=
  match dst with
  | some d => envAvoids d E
  | none => true

/-- A map that is being filled: its slot, its type, its keys' kind, what it has. -/
structure Pend where
  d : Nat
  t : Nat
  k : IntKind
  l : List (Int × Value)

def isMake : Op → Bool
  | .makeMap _ none => true
  | _ => false

def isInsert : Op → Bool
  | .insert _ _ _ _ => true
  | _ => false

def pendStart (c : Cfg A) (n : Nat) (E : Env A) (o : Oper) : Option Pend :=
  match o.op, o.dst, o.guard with
  | .makeMap t none, some d, none => match (c.ty t).map, (Nat.blt d n).and ((memN d c.pins).not.and (envAvoids d E)) with
    | some (k, _), true => some ⟨d, t, k, []⟩
    | _, _ => none
  | _, _, _ => none

def pendNext (E : Env A) (p : Pend) (o : Oper) : Option Pend :=
  match o.op, o.dst, o.guard with
  | .insert t (.tmp m) k v, none, none => match (Nat.beq t p.t).and (Nat.beq m p.d), opv E [] k, opv E [] v with
    | true, some (.int k' x), some u => match (ksame k' p.k).and (hasN x p.l).not, toVal u with
      | true, some y => some ⟨p.d, p.t, p.k, p.l ++ [(x, y)]⟩
      | _, _ => none
    | _, _, _ => none
  | _, _, _ => none

def pendEnt (p : Pend) : K × Ent A := (.slot p.d, [], .cmap p.k true p.l)

/-- A region in the text's order: what is new of it (ahead of 'd', over 'base'). -/
def evSeq (c : Cfg A) (n : Nat) (base : Env A) (ops : List Oper) : Option Pend → List Oper → Env A → Option (Env A × List Prop)
  | none, [], d => some (d, [])
  | some p, [], d => some (pendEnt p :: d, [])
  | none, o :: rest, d => match isMake o.op with
    | true => match pendStart c n (d ++ base) o with
      | some p => evSeq c n base ops (some p) rest ((.slot p.d, [], .junk) :: d)
      | none => none
    | false => match stepD c n (d ++ base) ops o with
      | none => none
      | some (δ, ps) => match dstAvoids o.dst (d ++ base) with
        | false => none
        | true => match evSeq c n base ops none rest (δ ++ d) with
          | none => none
          | some (d', ps') => some (d', ps ++ ps')
  | some p, o :: rest, d => match isInsert o.op with
    | true => match pendNext (d ++ base) p o with
      | some p' => evSeq c n base ops (some p') rest d
      | none => none
    | false => match stepD c n ((pendEnt p :: d) ++ base) ops o with
      | none => none
      | some (δ, ps) => match dstAvoids o.dst ((pendEnt p :: d) ++ base) with
        | false => none
        | true => match evSeq c n base ops none rest (δ ++ (pendEnt p :: d)) with
          | none => none
          | some (d', ps') => some (d', ps ++ ps')

def clear : Env A → Env A
  | [] => []
  | (k, g, v) :: r => (match g with | [] => (k, [], v) | _ => (k, [], .junk)) :: clear r

structure Rc (A : Nat → Type) where
  cl : Nat
  bar : Bool
  dst : Option Nat
  H : List Nat × List Nat
  δ : Env A

/-- Is operation i in a closure? -/
def inCl (i : Nat) (cl : Nat) : Bool := Nat.testBit cl i

def hasKey (k : K) : Env A → Bool
  | [] => false
  | (k', _) :: r => (K.same k k').or (hasKey k r)

/-- The closure of an operation's edges ('acc': the closures of those before it, the last first). -/
def clOf (acc : List Nat) : List Edge → Option Nat
  | [] => some 0
  | e :: es => match clOf acc es with
    | none => none
    | some l => match Region.binds .any e with
      | false => some l
      | true => match Nat.blt e.on acc.length with
        | false => none
        | true => match nth acc (acc.length - 1 - e.on) with
          | none => none
          | some cl => some (Nat.lor (Nat.lor (Nat.shiftLeft 1 e.on) cl) l)

def clAll : List Oper → List Nat → List Nat
  | [], acc => acc
  | o :: l, acc => match clOf acc o.after.toList with
    | some cl => clAll l (cl :: acc)
    | none => clAll l (0 :: acc)

/-- The slots of the operations that come up before or behind operation j, as the tape likes ('cls', the last first; 'ops', the first first). -/
def hideOf (j cl : Nat) (cls : List Nat) : Nat → List Oper → List Nat
  | _, [] => []
  | i, o :: ops => match ((Nat.beq i j).or (inCl i cl)).or (match nth cls (cls.length - 1 - i) with | some cl' => inCl j cl' | none => false) with
    | true => hideOf j cl cls (i + 1) ops
    | false => match o.dst with
      | some d => d :: hideOf j cl cls (i + 1) ops
      | none => hideOf j cl cls (i + 1) ops

/-- The operation that lays a slot. -/
def layerOf (s : Nat) : List Oper → Option Op
  | [] => none
  | o :: ops => match o.dst with
    | some d => match Nat.beq d s with
      | true => some o.op
      | false => layerOf s ops
    | none => layerOf s ops

/-- The boxes and the rows that a value names. -/
def idsB : V A → List Nat
  | .ptr i _ | .own i | .optr i _ _ _ => [i]
  | _ => []

def idsL : List (V A) → List Nat
  | [] => []
  | v :: vs => idsB v ++ idsL vs

def idsV : V A → List Nat
  | .clo _ fs cs => idsL fs ++ idsL cs
  | .agg cs => idsL cs
  | v => idsB v

/-- The boxes and the rows that an operand may lead to. -/
def boxesOf (E : Env A) (ops : List Oper) : Nat → Operand → List Nat
  | 0, _ => []
  | n + 1, .tmp s => match layerOf s ops with
    | some (.alloc _) => [s]
    | some (.box _ _) => [s]
    | some (.fieldAddr _ x _) => boxesOf E ops n x
    | some (.indexAddr _ x _) => boxesOf E ops n x
    | some (.nilCheck x) => boxesOf E ops n x
    | some (.move x) => boxesOf E ops n x
    | some (.assign x) => boxesOf E ops n x
    | some (.load _ x) => match boxesOf E ops n x with
      | [] => []
      | i :: l => match look (.cell i 0) E with
        | some (_, v) => idsV v ++ (i :: l)
        | none => i :: l
    | some _ => []
    | none => match look (.slot s) E with
      | some (_, v) => idsV v
      | _ => []
  | _, _ => []

/-- The boxes that are handed on. -/
def ptrsOf (E : Env A) (ops : List Oper) : Nat → Operand → List Nat
  | 0, _ => []
  | n + 1, .tmp s => match layerOf s ops with
    | some (.alloc _) => [s]
    | some (.box _ _) => [s]
    | some (.fieldAddr _ x _) => ptrsOf E ops n x
    | some (.nilCheck x) => ptrsOf E ops n x
    | some (.move x) => ptrsOf E ops n x
    | some (.assign x) => ptrsOf E ops n x
    | some _ => []
    | none => match look (.slot s) E with
      | some (_, .ptr i _) => [i]
      | _ => []
  | _, _ => []

def boxesL (E : Env A) (ops : List Oper) : List Operand → List Nat
  | [] => []
  | x :: xs => ptrsOf E ops 8 x ++ boxesL E ops xs

/-- Without the rows that nobody writes to. -/
def unfrozen (E : Env A) : List Nat → List Nat
  | [] => []
  | i :: l => match look (.row i) E with
    | some (_, .list _ _ _) => unfrozen E l
    | _ => i :: unfrozen E l

/-- The boxes and the rows that an operation may turn. -/
def touches (E : Env A) (ops : List Oper) : Op → List Nat
  | .store _ x _ => boxesOf E ops 8 x
  | .slice _ x _ _ _ => unfrozen E (boxesOf E ops 8 x)
  | .call { callee := .builtin .append, args, .. } => match args.toList with
    | x :: _ => boxesOf E ops 8 x
    | [] => []
  | .call { callee := .value f, args, .. } => boxesOf E ops 8 f ++ boxesL E ops args.toList
  | _ => []

/-- Those that others turn which stand in no order with it. -/
def hideB (E : Env A) (all : List Oper) (j cl : Nat) (cls : List Nat) : Nat → List Oper → List Nat
  | _, [] => []
  | i, o :: ops => match ((Nat.beq i j).or (inCl i cl)).or (match nth cls (cls.length - 1 - i) with | some cl' => inCl j cl' | none => false) with
    | true => hideB E all j cl cls (i + 1) ops
    | false => touches E all o.op ++ hideB E all j cl cls (i + 1) ops

def slotIn (H : List Nat × List Nat) : K → Bool
  | .slot s => memN s H.1
  | .cell i _ => memN i H.2
  | .row i => memN i H.2

def hide (H : List Nat × List Nat) : Env A → Env A
  | [] => []
  | e :: E => match slotIn H e.1 with
    | true => hide H E
    | false => e :: hide H E

/-- What those of 'cl' have laid, the last first. -/
def gather (cl : Nat) : List (Rc A) → Env A
  | [] => []
  | r :: acc => match inCl acc.length cl with
    | true => r.δ ++ gather cl acc
    | false => gather cl acc

def isSlot : K → Bool
  | .slot _ => true
  | _ => false

/-- A key that is no slot, in both. -/
def anyKey (δ : Env A) (E : Env A) : Bool :=
  match δ with
  | [] => false
  | (k, _) :: r => ((isSlot k).not.and (hasKey k E)).or (anyKey r E)

def anyKeys (δ : Env A) : List (Rc A) → Bool
  | [] => false
  | r :: acc => (anyKey δ r.δ).or (anyKeys δ acc)

/-- Whatever is no slot is hidden. -/
def cellsHid (H : List Nat × List Nat) : Env A → Bool
  | [] => true
  | (k, _) :: r => ((isSlot k).or (slotIn H k)).and (cellsHid H r)

def optIn (H : List Nat) : Option Nat → Bool
  | some d => memN d H
  | none => true

def optNe : Option Nat → Option Nat → Bool
  | some d, some d' => (Nat.beq d d').not
  | _, _ => true

def slotsAre (dst : Option Nat) : Env A → Bool
  | [] => true
  | (.slot s, _) :: r => (match dst with | some d => Nat.beq s d | none => false).and (slotsAre dst r)
  | _ :: r => slotsAre dst r

/-- Held against those before it. -/
def okRc (cl : Nat) (dst : Option Nat) (H : List Nat × List Nat) (bar : Bool) (δ : Env A) : List (Rc A) → Bool
  | [] => true
  | r :: acc => ((dstAvoids dst r.δ).and ((inCl acc.length cl).or ((((((r.bar.not.or (cellsHid H r.δ)).and ((bar.not.or (cellsHid r.H δ)).and (anyKey δ r.δ).not)).and (dstAvoids r.dst δ)).and (optIn r.H.1 dst)).and (optIn H.1 r.dst)).and (optNe dst r.dst)))).and (okRc cl dst H bar δ acc)

def cls (acc : List (Rc A)) : List Nat := acc.map (·.cl)

def evDraw (c : Cfg A) (n : Nat) (base : Env A) (ops : List Oper) (all : List Nat) : List Oper → List (Rc A) → Option (List (Rc A) × List Prop)
  | [], acc => some (acc, [])
  | o :: rest, acc => match clOf (cls acc) o.after.toList with
    | none => none
    | some cl =>
      let H := (hideOf acc.length cl all 0 ops, hideB base ops acc.length cl all 0 ops)
      match stepD c n (hide H (gather cl acc ++ base)) ops o with
      | none => none
      | some (δ, ps) =>
        match ((dstAvoids o.dst base).and (slotsAre o.dst δ)).and (okRc cl o.dst H ((anyKey δ base).or (anyKeys δ acc)) δ acc) with
        | false => none
        | true => match evDraw c n base ops all rest ({ cl, bar := (anyKey δ base).or (anyKeys δ acc), dst := o.dst, H, δ } :: acc) with
          | none => none
          | some (acc', ps') => some (acc', ps ++ ps')

def flat : List (Rc A) → Env A
  | [] => []
  | r :: acc => r.δ ++ flat acc

/-! ### One operation -/

section
variable {c : Cfg A} {n : Nat} {w0 : W1} {S0 : Nat → Prop} {lk : K → Option (Ent A)} {a : Act} {w : World}

def Rel (c : Cfg A) (n : Nat) (w0 : W1) (S0 : Nat → Prop) (lk : K → Option (Ent A)) (a : Act) (w : World) : Prop := ∃ S σ, RelAt c n w0 S0 S σ lk a w

theorem Rel.weaken {lk' : K → Option (Ent A)} (h : Rel c n w0 S0 lk a w) (hk : ∀ k e, lk' k = some e → lk k = some e) : Rel c n w0 S0 lk' a w :=
  let ⟨S, σ, hr⟩ := h; ⟨S, σ, hr.weaken hk⟩

theorem Rel.sub {lk' : K → Option (Ent A)} (h : Rel c n w0 S0 lk a w) (hk : Sub lk' lk) : Rel c n w0 S0 lk' a w :=
  let ⟨S, σ, hr⟩ := h; ⟨S, σ, hr.sub hk⟩

theorem chainReq_holds {S : Fz} {σ : Nat → Loc} (hR : RelAt c n w0 S0 S σ lk a w) {E : Env A} (hE : ∀ k e, look k E = some e → lk k = some e) :
    ∀ (g : Chain) (p : Prop), Holds a g → chainReq E g p → p := by
  intro g
  induction g with
  | nil => intro p _ h; exact h
  | cons q g ih =>
    obtain ⟨d, want⟩ := q
    intro p hg h
    have hg' : Holds a g := fun p hp => hg p (List.mem_cons_of_mem _ hp)
    simp only [chainReq] at h
    split at h
    · rename_i g' b hl
      split at h
      · rename_i hs
        refine ih _ hg' h ?_
        have h1 := ((hR.slot d g' _ (hE _ _ hl) rfl).2.1 (sub_holds hs hg')).of_bool
        have h2 : a.tmps.getD d undef = .bool want := hg (d, want) (List.mem_cons_self ..)
        rw [h1] at h2
        cases h2; rfl
      · exact ih _ hg' h
    · exact ih _ hg' h

theorem wanted_iff {S : Fz} {σ : Nat → Loc} (hR : RelAt c n w0 S0 S σ lk a w) {E : Env A} (hE : ∀ k e, look k E = some e → lk k = some e) {ops : Array Oper} {o : Oper} {g : Chain}
    (h : guardOf E ops.toList o = some g) : Region.wanted o (yielded ops a.tmps) = true ↔ Holds a g := by
  unfold guardOf at h
  unfold Region.wanted
  split at h
  · rename_i hg
    cases h
    simp only [hg, true_iff]
    intro p hp; cases hp
  · rename_i j want hg
    simp only [hg]
    split at h
    · rename_i oj hj
      split at h
      · rename_i d hd
        split at h
        · rename_i g' b hl
          cases h
          rw [nth_eq] at hj
          have hj' : ops[j]? = some oj := by simpa using hj
          obtain ⟨hlt, h1, h2⟩ := hR.slot d g' _ (hE _ _ hl) rfl
          have hsz : d < a.tmps.size := by rw [hR.size]; exact hlt
          have hget : a.tmps[d]? = some (a.tmps.getD d undef) := by
            rw [Array.getElem?_eq_getElem hsz, Array.getD_eq_getD_getElem?, Array.getElem?_eq_getElem hsz]; rfl
          have hy : yielded ops a.tmps j = match a.tmps.getD d undef with | .bool b => some b | _ => none := by
            unfold yielded
            rw [hj']
            simp only [Option.bind_some, hd, hget]
            generalize a.tmps.getD d undef = u
            cases u <;> rfl
          rw [hy]
          by_cases hg' : Holds a g'
          · rw [(h1 hg').of_bool]
            simp only [beq_iff_eq, Option.some.injEq]
            constructor
            · rintro rfl p hp
              cases hp with
              | head => exact (h1 hg').of_bool
              | tail _ hm => exact hg' p hm
            · intro hp
              have := hp (d, want) (List.mem_cons_self ..)
              rw [(h1 hg').of_bool] at this
              cases this; rfl
          · rw [h2 hg']
            constructor
            · intro hx; simp [undef] at hx
            · intro hp; exact absurd (fun p hm => hp p (List.mem_cons_of_mem _ hm)) hg'
        · cases h
      · cases h
    · cases h

theorem all_app {ps qs : List Prop} (h : All (ps ++ qs)) : All ps ∧ All qs := by
  have cons : ∀ (p : Prop) (l : List Prop), All (p :: l) ↔ p ∧ All l := by
    intro p l
    cases l with
    | nil => simp [All]
    | cons q l => simp [All]
  induction ps with
  | nil => exact ⟨trivial, h⟩
  | cons p ps ih =>
    rw [List.cons_append, cons] at h
    rw [cons]
    exact ⟨⟨h.1, (ih h.2).1⟩, (ih h.2).2⟩

theorem step_ok (hc : CfgOk c) (hR : Rel c n w0 S0 lk a w) {E : Env A} (hE : ∀ k e, look k E = some e → lk k = some e) {ops : Array Oper} {i : Nat} {o : Oper} (hi : ops[i]? = some o) {δ : Env A} {ps : List Prop}
    (h : stepD c n E ops.toList o = some (δ, ps)) (hps : All ps) (hfr : ∀ d, o.dst = some d → ∀ k g v, lk k = some (g, v) → entAvoids d (k, g, v) = true) {Kp : Act → World → Prop} {Q : Exit → Act → World → Prop}
    (hK : ∀ a' w', Rel c n w0 S0 (fun k => (look k δ).or (lk k)) a' w' → Kp a' w') : wpOp c.P ops Q i Kp a w := by
  obtain ⟨S, σ, hR⟩ := hR
  unfold stepD at h
  split at h
  · cases h
  · rename_i g hg
    split at h
    · cases h
    · rename_i v ent ps' hex
      split at h
      · rename_i hok
        cases h
        simp only [Bool.and_eq_true] at hok
        have hw := wanted_iff hR hE hg
        have hav : ∀ d, o.dst = some d → ∀ k g' v', k ≠ .slot d → (fun k => if some k = o.dst.map K.slot then none else (look k ent).or (lk k)) k = some (g', v') → entOk g ent = true → (∀ k e, look k ent = some e → e.1 = []) → chainAvoids d g' = true := by
          intro d hd k g' v' hk hv _ hent
          simp only at hv
          split at hv
          · cases hv
          · cases hl : look k ent with
            | none =>
              rw [hl, Option.none_or] at hv
              have := hfr d hd k g' v' hv
              simp only [entAvoids, Bool.and_eq_true] at this
              exact this.1.2
            | some e =>
              rw [hl] at hv
              simp at hv
              have := hent k e hl
              rw [hv] at this
              simp only at this
              rw [this]; rfl
        have hentg : ∀ k e, look k ent = some e → e.1 = [] := by
          have key : ∀ (l : Env A), all (fun e : K × Ent A => match e.2.1 with | [] => true | _ => false) l = true → ∀ k e, look k l = some e → e.1 = [] := by
            intro l
            induction l with
            | nil => intro _ k e he; simp [look] at he
            | cons q l ih =>
              obtain ⟨k', g', v'⟩ := q
              intro hl k e he
              simp only [all, Bool.and_eq_true] at hl
              rw [look_cons] at he
              split at he
              · cases he
                have := hl.1
                cases g' with
                | nil => rfl
                | cons _ _ => simp at this
              · exact ih hl.2 k e he
          cases g with
          | nil => exact key ent hok.2
          | cons q g => cases ent with
            | nil => intro k e he; simp [look] at he
            | cons _ _ => simp [entOk] at hok
        have fin : ∀ x w', (Holds a g → True) → (∃ S' σ', RelAt c n w0 S0 S' σ' (fun k => if some k = o.dst.map K.slot then none else (look k ent).or (lk k)) a w' ∧ (Holds a g → Den c S' σ' w' v x) ∧ (¬ Holds a g → x = undef)) → Kp (a.put o.dst x) w' := by
          rintro x w' - ⟨S', σ', hR', hx1, hx2⟩
          refine hK _ _ ?_
          cases hd : o.dst with
          | none =>
            refine ⟨S', σ', ?_⟩
            simp only [hd, Option.map_none, reduceCtorEq, if_false] at hR'
            exact hR'.weaken (fun k e he => by simpa [slotEnt] using he)
          | some d =>
            simp only [hd, dstOk, Bool.and_eq_true] at hok
            have hdn : d < n := by simpa using hok.1.1
            have := hR'.put hdn hx1 hx2 hok.1.2.1 (fun k g' v' hk hv => hav d hd k g' v' hk hv hok.2 hentg)
            refine ⟨S', σ', this.weaken (fun k e he => ?_)⟩
            simp only [slotEnt, look_cons] at he
            by_cases hk : k = .slot d
            · simpa [hk] using he
            · simp only [hk, if_false, hd, Option.map_some, Option.some.injEq] at he ⊢
              exact he
        unfold wpOp
        simp only [hi]
        by_cases hg' : Holds a g
        · rw [if_pos (hw.2 hg')]
          refine .inl (ex_ok hc hR hE hg' o hex ?_ (fun d hd hm => ?_) hfr ?_)
          · unfold guardReq at hps
            split at hps
            · trivial
            · exact hps
            · exact chainReq_holds hR hE _ _ hg' hps
          · have := hok.1
            rw [hd] at this
            simp only [dstOk, Bool.and_eq_true, Bool.not_eq_true'] at this
            rw [memN_iff.2 hm] at this
            cases this.2.2
          · rintro x w' ⟨S', σ', hR', hd⟩
            exact fin x w' (fun _ => trivial) ⟨S', σ', hR', fun _ => hd, fun h => absurd hg' h⟩
        · rw [if_neg (by rw [hw]; exact hg')]
          refine fin undef w (fun _ => trivial) ⟨S, σ, hR.weaken (fun k e he => ?_), fun h => absurd h hg', fun _ => rfl⟩
          have he2 : ent = [] := by
            cases g with
            | nil => exact absurd (fun p hp => by cases hp) hg'
            | cons q g => cases ent with
              | nil => rfl
              | cons _ _ => simp [entOk] at hok
          subst he2
          split at he
          · cases he
          · simpa [look] using he
      · cases h

end
end Vm
