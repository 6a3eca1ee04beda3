/-
  An interpreter of the model's code on data: what a function of the program makes of values, told without memory. Conditions: none here; that it tells the truth is proved in the texts behind this one.
-/
import Derived.Calls
import Derived.Orders
import Derived.Scope
import Derived.Below
import Derived.WalkKit
set_option linter.all false
namespace Vm
open Go

/-- A value as the interpreter has it. -/
inductive V (A : Nat → Type) : Type where
  | int (k : IntKind) (n : Int)
  | bool (b : Bool)
  | str (s : ByteArray)
  | fn (f : Nat)
  | raw (x : Value)
  | agg (cs : List (V A))
  | tup (vs : List (V A))
  | clo (f : Nat) (fs cs : List (V A))
  /-- A slice that nobody writes to any more; fr: in memory that is new since the call began, and so is all that lies in it. -/
  | list (t : Nat) (fr : Bool) (l : List (A t))
  /-- An array. -/
  | arr (t : Nat) (fr : Bool) (n : Nat) (l : List (A t))
  | ptr (id off : Nat)
  | eptr (t : Nat) (fr : Bool) (a : A t) (off : Nat)
  /-- The slice of the row id; what lies in it stands under the row's own key. -/
  | own (id : Nat)
  /-- A place in element i of the row id. -/
  | optr (id t i off : Nat)
  /-- What lies in a row of one's own; n: an array's length. -/
  | rowc (t : Nat) (fr : Bool) (n : Option Nat) (l : List (A t))
  /-- A result that is the caller's own from now on. -/
  | olist (t : Nat) (fr : Bool) (l : List (A t))
  /-- What lies in the box that an argument points to. -/
  | ref (cs : List (V A))
  | junk
  /-- A map of integers that nobody writes to any more; fr: in memory that is new. -/
  | cmap (k : IntKind) (fr : Bool) (l : List (Int × Value))
  /-- The function of the first test that holds; nil if none does. -/
  | sfn (l : List (Bool × Nat))

structure Codec (A : Nat → Type) where
  enc : (t : Nat) → A t → List (V A)
  dec : (t : Nat) → List (V A) → Option (A t)
  dft : (t : Nat) → A t

/-- A kind of cells that can be held against each other. -/
inductive Sc where
  | int (k : IntKind)
  | bool
  | str

/-- What is known of a type. -/
structure TI where
  size : Nat := 0
  bytes : Nat := 8
  agg : Option Bool := none
  fields : List (Nat × Nat) := []
  elem : Option Nat := none
  kind : Option IntKind := none
  zero : Option Value := none
  flat : Option (List Sc) := none
  str : Bool := false
  isBool : Bool := false
  /-- An array that is kept as a row: its elements' type, its length. -/
  arr : Option (Nat × Nat) := none
  /-- An array that is kept cell by cell. -/
  sarr : Option (Nat × Nat) := none
  /-- Rows of such elements may be made and grown. -/
  app : Bool := false
  /-- The cells that hold slices, each with its elements' type. -/
  slc : List (Nat × Nat) := []
  /-- A map: its keys' kind, its elements' type. -/
  map : Option (IntKind × Nat) := none

/-- Types whose data hold no memory. -/
def plainT (i : TI) : Bool :=
  match i.kind with
  | some _ => true
  | none => i.isBool.or (i.str.or (match i.flat with | some _ => true | none => false))

def plainV {A : Nat → Type} : V A → Bool
  | .int _ _ | .bool _ | .str _ => true
  | _ => false

inductive K where
  | slot (i : Nat)
  | cell (id off : Nat)
  | row (id : Nat)
  deriving DecidableEq

def K.same : K → K → Bool
  | .slot i, .slot j => Nat.beq i j
  | .cell i o, .cell j p => (Nat.beq i j).and (Nat.beq o p)
  | .row i, .row j => Nat.beq i j
  | _, _ => false

abbrev Chain := List (Nat × Bool)
abbrev Ent (A : Nat → Type) := Chain × V A
abbrev Env (A : Nat → Type) := List (K × Ent A)

variable {A : Nat → Type}

def look (k : K) : Env A → Option (Ent A)
  | [] => none
  | (k', e) :: r => match K.same k k' with
    | true => some e
    | false => look k r

def bsame : Bool → Bool → Bool
  | true, b => b
  | false, b => b.not

def inChain (p : Nat × Bool) : Chain → Bool
  | [] => false
  | q :: g => ((Nat.beq p.1 q.1).and (bsame p.2 q.2)).or (inChain p g)

def sub : Chain → Chain → Bool
  | [], _ => true
  | p :: g', g => (inChain p g).and (sub g' g)

def ofCell : Value → V A
  | .int k n => .int k n
  | .bool b => .bool b
  | .string s => .str s
  | .func (.func f) ⟨[]⟩ ⟨[]⟩ => .fn f
  | x => .raw x

def ofValue : Value → V A
  | .int k n => .int k n
  | .bool b => .bool b
  | .string s => .str s
  | .agg cs => .agg (cs.toList.map ofCell)
  | .func (.func f) ⟨[]⟩ ⟨[]⟩ => .fn f
  | x => .raw x

def opv (E : Env A) (g : Chain) : Operand → Option (V A)
  | .tmp t => match look (.slot t) E with
    | some (g', v) => match sub g' g with
      | true => some v
      | false => none
    | none => none
  | .const v => some (ofValue v)
  | .func f => some (.fn f)
  | .global _ => none

def all {α : Type} (p : α → Bool) : List α → Bool
  | [] => true
  | a :: l => (p a).and (all p l)

def ksame : IntKind → IntKind → Bool
  | .i8, .i8 | .i16, .i16 | .i32, .i32 | .i64, .i64 | .u8, .u8 | .u16, .u16 | .u32, .u32 | .u64, .u64 => true
  | _, _ => false

def binInt (op : BinOp) (k : IntKind) (x y : Int) (sure : Bool) : Option (V A × List Prop) :=
  match op with
  | .add => some (.int k (k.wrap (x + y)), [])
  | .sub => some (.int k (k.wrap (x - y)), [])
  | .mul => some (.int k (k.wrap (x * y)), [])
  | .quo => some (.int k (k.wrap (x.tdiv y)), match sure with | true => [] | false => [y ≠ 0])
  | .rem => some (.int k (x.tmod y), match sure with | true => [] | false => [y ≠ 0])
  | .and => some (.int k (bits .and k x y), [])
  | .or => some (.int k (bits .or k x y), [])
  | .xor => some (.int k (bits .xor k x y), [])
  | .andNot => some (.int k (bits .andNot k x y), [])
  | .eql => some (.bool (x == y), [])
  | .neq => some (.bool (x != y), [])
  | .lss => some (.bool (decide (x < y)), [])
  | .leq => some (.bool (decide (x ≤ y)), [])
  | .gtr => some (.bool (decide (x > y)), [])
  | .geq => some (.bool (decide (x ≥ y)), [])
  | .shl | .shr => none

def shift (op : BinOp) (k : IntKind) (x y : Int) (sure : Bool) : Option (V A × List Prop) :=
  let ps := match sure with | true => [] | false => [0 ≤ y]
  match op with
  | .shl => some (.int k (k.wrap (x * 2 ^ min y.toNat k.bits)), ps)
  | .shr => some (.int k (x.fdiv (2 ^ min y.toNat k.bits)), ps)
  | _ => none

def isShift : BinOp → Bool
  | .shl | .shr => true
  | _ => false

def binStr (op : BinOp) (x y : ByteArray) : Option (V A × List Prop) :=
  match op with
  | .eql => some (.bool (x.toList == y.toList), [])
  | .neq => some (.bool (!(x.toList == y.toList)), [])
  | .add => some (.str (x ++ y), [((x.size + y.size : Nat) : Int) ≤ IntKind.i64.max])
  | .lss => some (.bool (Op.bytesLess x.toList y.toList), [])
  | .gtr => some (.bool (!(Op.bytesLess x.toList y.toList || x.toList == y.toList)), [])
  | .leq => some (.bool (Op.bytesLess x.toList y.toList || x.toList == y.toList), [])
  | .geq => some (.bool (!Op.bytesLess x.toList y.toList), [])
  | _ => none

def eqS : V A → V A → Option Bool
  | .int k a, .int k' b => match ksame k k' with | true => some (a == b) | false => none
  | .bool a, .bool b => some (a == b)
  | .str a, .str b => some (a.toList == b.toList)
  | _, _ => none

def scV : Sc → V A → Bool
  | .int k, .int k' _ => ksame k k'
  | .bool, .bool _ => true
  | .str, .str _ => true
  | _, _ => false

def scVs : List Sc → List (V A) → Bool
  | [], [] => true
  | s :: ss, v :: vs => (scV s v).and (scVs ss vs)
  | _, _ => false

def eqL : List (V A) → List (V A) → Option Bool
  | [], [] => some true
  | [x], [y] => eqS x y
  | x :: xs, y :: ys => match eqS x y, eqL xs ys with
    | some p, some q => some (p && q)
    | _, _ => none
  | _, _ => none

/-- A constant operand other than 0 (a divisor), at least 0 (a shift). -/
def sureOpd (op : BinOp) : Operand → Bool
  | .const (.int _ (.ofNat 0)) => isShift op
  | .const (.int _ (.ofNat (_ + 1))) => true
  | .const (.int _ (.negSucc _)) => (isShift op).not
  | _ => false

def nth {α : Type} : List α → Nat → Option α
  | [], _ => none
  | a :: _, 0 => some a
  | _ :: l, n + 1 => nth l n

def listLen {α : Type} : List α → Nat
  | [] => 0
  | _ :: l => listLen l + 1

/-- A part of cells. -/
def part (ti : TI) (cs : List (V A)) (off : Nat) : Option (V A) :=
  match ti.agg with
  | some true => match Nat.beq ti.size 0, Nat.ble (off + ti.size) cs.length with
    | false, true => some (.agg ((cs.drop off).take ti.size))
    | _, _ => none
  | some false => nth cs off
  | none => none

/-- The cells of a value. -/
def cellsOf : V A → Option (List (V A))
  | .agg cs => some cs
  | .tup _ => none
  | .junk => none
  | .rowc _ _ _ _ => none
  | .arr _ _ _ _ => none
  | .olist _ _ _ => none
  | .ref _ => none
  | .raw x => match x.oneCell' with
    | true => some [.raw x]
    | false => none
  | v => some [v]

/-- Cells of a box, from 'off' on. -/
def readCells (E : Env A) (id : Nat) : Nat → Nat → Option (List (V A))
  | _, 0 => some []
  | off, n + 1 => match look (.cell id off) E with
    | some ([], .junk) => none
    | some ([], v) => match readCells E id (off + 1) n with
      | some vs => some (v :: vs)
      | none => none
    | _ => none

def writeCells (id : Nat) : Nat → List (V A) → Env A
  | _, [] => []
  | off, v :: vs => (.cell id off, [], v) :: writeCells id (off + 1) vs

def ofCells (ti : TI) (cs : List (V A)) : Option (V A) :=
  match ti.agg with
  | some true => match Nat.beq ti.size 0 with
    | false => some (.agg cs)
    | true => none
  | some false => match cs with
    | [v] => some v
    | _ => none
  | none => none

def sameLen : Option Nat → Option Nat → Bool
  | none, none => true
  | some a, some b => Nat.beq a b
  | _, _ => false

/-- One value of two, by a test. -/
def mergeS (b : Bool) : V A → V A → V A
  | .int k x, .int k' y => match ksame k k' with | true => .int k (bif b then x else y) | false => .junk
  | .bool x, .bool y => .bool (bif b then x else y)
  | .str x, .str y => .str (bif b then x else y)
  | .raw x, .raw y => .raw (bif b then x else y)
  | .list t f l, .list t' f' l' =>
    match decEq t t' with
    | isTrue h => .list t (f.and f') (bif b then l else h ▸ l')
    | isFalse _ => .junk
  | .list t f l, .raw (.slice none 0 0) => .list t f (bif b then l else [])
  | .raw (.slice none 0 0), .list t f l => .list t f (bif b then [] else l)
  | .arr t f n l, .arr t' f' n' l' =>
    match decEq t t', Nat.beq n n' with
    | isTrue h, true => .arr t (f.and f') n (bif b then l else h ▸ l')
    | _, _ => .junk
  | .ptr i o, .ptr j p => match (Nat.beq i j).and (Nat.beq o p) with | true => .ptr i o | false => .junk
  | .fn f, .fn g => match Nat.beq f g with | true => .fn f | false => .junk
  | .fn f, .raw .nilFunc => .sfn [(b, f)]
  | .fn f, .sfn l => .sfn ((b, f) :: l)
  | .own i, .own j => match Nat.beq i j with | true => .own i | false => .junk
  | .rowc t f n l, .rowc t' f' n' l' =>
    match decEq t t', sameLen n n' with
    | isTrue h, true => .rowc t (f.and f') n (bif b then l else h ▸ l')
    | _, _ => .junk
  | _, _ => .junk

def mergeL (b : Bool) : List (V A) → List (V A) → Option (List (V A))
  | [], [] => some []
  | x :: xs, y :: ys => match mergeL b xs ys with
    | some l => some (mergeS b x y :: l)
    | none => none
  | _, _ => none

def merge (b : Bool) : V A → V A → V A
  | .agg cs, .agg ds => match mergeL b cs ds with
    | some l => .agg l
    | none => .junk
  | .tup cs, .tup ds => match mergeL b cs ds with
    | some l => .tup l
    | none => .junk
  | v, w => mergeS b v w

/-- A cell's value is of one cell. -/
def one (v : V A) : Bool :=
  match v with
  | .agg _ | .tup _ | .junk | .rowc _ _ _ _ | .arr _ _ _ _ | .olist _ _ _ | .ref _ => false
  | .raw x => x.oneCell'
  | _ => true

/-! The ids that a value names are such as p tells: of a cell without closures; of what a closure holds; of a cell; of what stands in a tuple; of any value. -/

def okB (p : Nat → Bool) : V A → Bool
  | .ptr i _ | .own i | .optr i _ _ _ => p i
  | .agg _ | .tup _ | .clo _ _ _ | .ref _ => false
  | _ => true

def okG (p : Nat → Bool) : V A → Bool
  | .agg cs => all (okB p) cs
  | v => okB p v

def ok0 (p : Nat → Bool) : V A → Bool
  | .clo _ fs cs => (all (okG p) fs).and (all (okG p) cs)
  | v => okB p v

def ok1 (p : Nat → Bool) : V A → Bool
  | .agg cs => all (ok0 p) cs
  | .tup _ => false
  | v => ok0 p v

def okv (p : Nat → Bool) : V A → Bool
  | .agg cs => all (ok0 p) cs
  | .tup cs => all (ok1 p) cs
  | v => ok0 p v

def neq (d i : Nat) : Bool := (Nat.beq i d).not

def avoid0 (d : Nat) (v : V A) : Bool := ok0 (neq d) v
def avoids (d : Nat) (v : V A) : Bool := okv (neq d) v

def K.avoids (d : Nat) : K → Bool
  | .slot _ => true
  | .cell i _ => (Nat.beq i d).not
  | .row i => (Nat.beq i d).not

def chainAvoids (d : Nat) : Chain → Bool
  | [] => true
  | p :: g => (Nat.beq p.1 d).not.and (chainAvoids d g)

/-- An entry that speaks of neither the slot d nor the box d (the key's own slot may be d). -/
def entAvoids (d : Nat) (e : K × Ent A) : Bool :=
  ((e.1.avoids d).and (chainAvoids d e.2.1)).and ((match e.1 with | .slot i => Nat.beq i d | _ => false).or (Vm.avoids d e.2.2))

def envAvoids (d : Nat) (E : Env A) : Bool := all (entAvoids d) E

def All : List Prop → Prop
  | [] => True
  | [p] => p
  | p :: ps => p ∧ All ps

/-- What the interpreter is told of a program: its types; how data are laid into cells; what the functions answer that are called. -/
structure Cfg (A : Nat → Type) where
  P : Program
  ty : Nat → TI
  C : Codec A
  call : Nat → List (V A) → Option (V A × List (List (V A)) × List Prop)
  /-- The slots whose lists are rows of one's own. -/
  own : List Nat
  /-- The arguments that point to boxes of the caller's. -/
  pins : List Nat
  /-- What lies in memory that nobody writes to (the blocks of which this is told). -/
  inv : (Nat → Prop) → World → Prop

section
variable (c : Cfg A)

/-- Nil slices among cells. -/
def fitCells : List (Nat × Nat) → List (V A) → List (V A)
  | [], cs => cs
  | (o, e) :: l, cs => match nth cs o with
    | some (.raw (.slice none 0 0)) => fitCells l (cs.set o (.list e true []))
    | _ => fitCells l cs

/-- A nil slice, where a slice of this type is wanted. -/
def fitArg (t : Nat) (v : V A) : V A :=
  match v with
  | .raw (.slice none 0 0) => match (c.ty t).elem with
    | some e => .list e true []
    | none => v
  | .agg cs => match (c.ty t).slc with
    | [] => v
    | l => .agg (fitCells l cs)
  | v => v

def argsOf (E : Env A) (g : Chain) : List Operand → List Nat → Option (List (V A))
  | [], _ => some []
  | x :: xs, ts => match opv E g x with
    | some v => match argsOf E g xs ts.tail with
      | some vs => some ((match ts with | t :: _ => fitArg c t v | [] => v) :: vs)
      | none => none
    | none => none

def partsOf (E : Env A) (g : Chain) : List (Nat × Operand) → Option (List (Nat × V A))
  | [] => some []
  | (i, x) :: xs => match opv E g x with
    | some v => match partsOf E g xs with
      | some vs => some ((i, v) :: vs)
      | none => none
    | none => none

def setRange (cs : List (V A)) : Nat → List (V A) → List (V A)
  | _, [] => cs
  | off, v :: vs => setRange (cs.set off v) (off + 1) vs

def fillParts (place : Nat → Option (Nat × Nat)) (cells : List (V A)) : List (Nat × V A) → Option (List (V A))
  | [] => some cells
  | (i, v) :: rest => match place i with
    | none => none
    | some (off, size) => match cellsOf v with
      | none => none
      | some vc => match (Nat.beq vc.length size).and (Nat.ble (off + vc.length) cells.length) with
        | true => fillParts place (setRange cells off vc) rest
        | false => none

def zeroCells (ti : TI) : Option (List (V A)) :=
  match ti.zero with
  | some (.agg cs) => some (cs.toList.map ofCell)
  | some x => some [ofCell x]
  | none => none

def chunks (n : Nat) : Nat → List (V A) → List (List (V A))
  | 0, _ => []
  | k + 1, cs => cs.take n :: chunks n k (cs.drop n)

def decAll (t : Nat) : List (List (V A)) → Option (List (A t))
  | [] => some []
  | x :: xs => match c.C.dec t x, decAll t xs with
    | some a, some l => some (a :: l)
    | _, _ => none

/-- What is said of a list's memory is forgotten. -/
def dim0 : V A → V A
  | .list t _ l => .list t false l
  | .arr t _ n l => .arr t false n l
  | v => v

/-- What lies in a list that is new is new. -/
def frs (f : Bool) : V A → V A
  | .list t f' l => .list t (f.or f') l
  | v => v

def mapV (f : V A → V A) : List (V A) → List (V A)
  | [] => []
  | v :: vs => f v :: mapV f vs

def allFr0 : V A → Bool
  | .list _ f _ => f
  | .arr _ f _ _ => f
  | .olist _ f _ => f
  | .cmap _ f _ => f
  | .clo _ _ _ => false
  | .eptr _ _ _ _ => false
  | .own _ => false
  | .ptr _ _ => false
  | .optr _ _ _ _ => false
  | .agg _ => false
  | .tup _ => false
  | .ref _ => false
  | _ => true

def allFr1 : V A → Bool
  | .agg cs => all allFr0 cs
  | v => allFr0 v

/-- Is all that a value holds in new memory? -/
def allFr : V A → Bool
  | .agg cs => all allFr0 cs
  | .tup cs => all allFr1 cs
  | v => allFr0 v

/-- The zero cells of a row. -/
def tile (z : List (V A)) (m : Nat) : List (V A) := (List.range m).map fun i => (nth z (i % z.length)).getD .junk

abbrev Ans (A : Nat → Type) := Option (V A × Env A × List Prop)

def val (v : V A) : Ans A := some (v, [], [])

/-- The least and the greatest of numbers. -/
def minmax (big : Bool) (k : IntKind) (x : Int) : List (V A) → Option (V A)
  | [] => some (.int k x)
  | .int _ y :: r => match big with
    | true => minmax big k (if y > x then y else x) r
    | false => minmax big k (if y < x then y else x) r
  | _ => none

/-- A bound of a slice expression. -/
def bound (E : Env A) (g : Chain) (o : Option Operand) (d : Int) : Option Int :=
  match o with
  | none => some d
  | some x => match opv E g x with
    | some (.int _ n) => some n
    | _ => none


def memN (i : Nat) : List Nat → Bool
  | [] => false
  | j :: l => (Nat.beq i j).or (memN i l)

/-! Rows of one's own, handed on. -/

def viewB (E : Env A) : V A → Option (V A)
  | .own r => match look (.row r) E with
    | some ([], .rowc t _ none l) => some (.list t false l)
    | some ([], .list t _ l) => some (.list t false l)
    | _ => none
  | .list t _ l => some (.list t false l)
  | .arr t _ n l => some (.arr t false n l)
  | .int k n => some (.int k n)
  | .bool b => some (.bool b)
  | .str s => some (.str s)
  | .fn f => some (.fn f)
  | .raw x => some (.raw x)
  | _ => none

/-- Of memory nothing is told. -/
def old0 : V A → Bool
  | .list _ f _ => f.not
  | .arr _ f _ _ => f.not
  | .int _ _ | .bool _ | .str _ | .fn _ | .raw _ => true
  | _ => false

def viewL (E : Env A) : List (V A) → Option (List (V A))
  | [] => some []
  | v :: vs => match viewB E v, viewL E vs with
    | some u, some us => some (u :: us)
    | _, _ => none

/-- The cells of a box, as far as they are known. -/
def readBox (E : Env A) (id : Nat) : Nat → Nat → List (V A)
  | 0, _ => []
  | n + 1, off => match look (.cell id off) E with
    | some ([], .junk) => []
    | some ([], v) => v :: readBox E id n (off + 1)
    | _ => []

/-- An argument as the callee is told of it. -/
def viewArg (E : Env A) : V A → Option (V A)
  | .agg cs => match viewL E cs with
    | some cs => some (.agg cs)
    | none => none
  | .ptr id 0 => match readBox E id 64 0 with
    | [] => none
    | v :: vs => match viewL E (v :: vs) with
      | some cs => some (.ref cs)
      | none => none
  | v => viewB E v

def viewArgs (E : Env A) : List (V A) → Option (List (V A))
  | [] => some []
  | v :: vs => match viewArg E v, viewArgs E vs with
    | some u, some us => some (u :: us)
    | _, _ => none

def viewAll (E : Env A) : List (V A) → Option (List (V A))
  | [] => some []
  | v :: vs => match viewB E v, viewAll E vs with
    | some u, some us => some (u :: us)
    | _, _ => none

def ownB : V A → List Nat
  | .own r => [r]
  | _ => []

def ownL : List (V A) → List Nat
  | [] => []
  | v :: vs => ownB v ++ ownL vs

def ownArg (E : Env A) : V A → List Nat
  | .agg cs => ownL cs
  | .ptr id 0 => ownL (readBox E id 64 0)
  | v => ownB v

def ownArgs (E : Env A) : List (V A) → List Nat
  | [] => []
  | v :: vs => ownArg E v ++ ownArgs E vs

/-- The boxes that arguments point to. -/
def refIds : List (V A) → List Nat
  | [] => []
  | .ptr id 0 :: vs => id :: refIds vs
  | _ :: vs => refIds vs

def nodupN : List Nat → Bool
  | [] => true
  | i :: l => (memN i l).not.and (nodupN l)

/-- Rows that nobody writes to from now on. -/
def frz (E : Env A) : List Nat → Env A
  | [] => []
  | r :: rs => match look (.row r) E with
    | some ([], .rowc t f none l) => (.row r, [], .list t f l) :: frz E rs
    | _ => frz E rs

def writeRefs : List Nat → List (List (V A)) → Option (Env A)
  | [], [] => some []
  | id :: ids, cs :: css => match writeRefs ids css with
    | some e => some (writeCells id 0 cs ++ e)
    | none => none
  | _, _ => none

/-- Values that are put where lists are wanted: own rows are frozen. -/
def frzB (E : Env A) : V A → Option (V A)
  | .own r => match look (.row r) E with
    | some ([], .rowc t f none l) => some (.list t f l)
    | some ([], .list t f l) => some (.list t f l)
    | _ => none
  | v => some v

def frzL (E : Env A) : List (V A) → Option (List (V A))
  | [] => some []
  | v :: vs => match frzB E v, frzL E vs with
    | some u, some us => some (u :: us)
    | _, _ => none

/-- A row that is grown: is it new, what lies in it, what becomes of it. -/
def appX (E : Env A) (e : Nat) : V A → Option (Bool × List (A e) × Env A)
  | .own r => match look (.row r) E with
    | some ([], .rowc t f none l) => match decEq t e with
      | isTrue h => some (f, h ▸ l, [(.row r, [], .junk)])
      | isFalse _ => none
    | _ => none
  | .raw (.slice none 0 0) => some (true, [], [])
  | _ => none

/-- What it grows by. -/
def appY (E : Env A) (e : Nat) : V A → Option (Bool × List (A e))
  | .own r => match look (.row r) E with
    | some ([], .rowc t f none l) => match decEq t e with
      | isTrue h => some (f, h ▸ l)
      | isFalse _ => none
    | some ([], .list t f l) => match decEq t e with
      | isTrue h => some (f, h ▸ l)
      | isFalse _ => none
    | _ => none
  | .list t f l => match decEq t e with
    | isTrue h => some (f, h ▸ l)
    | isFalse _ => none
  | .raw (.slice _ 0 _) => some (true, [])
  | _ => none

def isEmpty {α : Type} : List α → Bool
  | [] => true
  | _ => false

/-- The callee, and the arguments ahead of those that stand there, and behind. -/
def calleeOf : V A → Option (Nat × List (V A) × List (V A))
  | .fn f => some (f, [], [])
  | .clo f fs cs => some (f, fs, cs)
  | _ => none

/-- The cells of an element, as data are read out of them. -/
def prep (e : Nat) (cs : List (V A)) : List (V A) := mapV dim0 (fitCells (c.ty e).slc cs)

def prepAll (e : Nat) : List (List (V A)) → List (List (V A))
  | [] => []
  | x :: xs => prep c e x :: prepAll e xs

/-- What an element's cells are. -/
def encF (t : Nat) (f : Bool) (a : A t) : List (V A) := mapV (frs f) (c.C.enc t a)

/-- The rows that an answer may hang on are frozen. -/
def frzOld (E : Env A) (raw : List (V A)) (r : V A) (outs : List (List (V A))) : Env A :=
  match (allFr r).and (all (fun cs => all allFr0 cs) outs) with
  | true => []
  | false => frz E (ownArgs E raw)

/-- What a function's answer leaves: its slot's value, and what has turned. -/
def answer (E : Env A) (dst : Option Nat) (raw : List (V A)) (r : V A) (outs : List (List (V A))) (ps : List Prop) : Ans A :=
  match (nodupN (refIds raw)).and (all (fun cs => all (ok0 fun _ => false) cs) outs), writeRefs (refIds raw) outs with
  | true, some es =>
    match r with
    | .olist t f l => match dst with
      | some d => match memN d c.own with
        | true => some (.own d, (.row d, [], .rowc t f none l) :: (es ++ frzOld E raw r outs), ps)
        | false => some (.list t f l, es ++ frzOld E raw r outs, ps)
      | none => some (.list t f l, es ++ frzOld E raw r outs, ps)
    | r => some (r, es ++ frzOld E raw r outs, ps)
  | _, _ => none

/-- A constant as memory holds it. -/
def toCell : V A → Option Value
  | .int k n => some (.int k n)
  | .bool b => some (.bool b)
  | .str s => some (.string s)
  | .fn f => some (.func (.func f) #[] #[])
  | _ => none

def toCells : List (V A) → Option (List Value)
  | [] => some []
  | v :: vs => match toCell v, toCells vs with
    | some x, some xs => some (x :: xs)
    | _, _ => none

def toVal : V A → Option Value
  | .agg cs => match toCells cs with
    | some xs => some (.agg xs.toArray)
    | none => none
  | v => toCell v

/-- What a map has at n; z: what it has where nothing stands. -/
def selV (n : Int) (z : V A) : List (Int × Value) → V A
  | [] => z
  | p :: l => merge (n == p.1) (ofValue p.2) (selV n z l)

def hasN (n : Int) : List (Int × Value) → Bool
  | [] => false
  | p :: l => (n == p.1) || hasN n l

/-- The zero value. -/
def zeroV (ti : TI) : Option (V A) :=
  match ti.zero with
  | some x => some (ofValue x)
  | none => none

/-- Bytes as a string. -/
def pushB (e : Nat) (r : ByteArray) (a : A e) : ByteArray :=
  match c.C.enc e a with
  | [.int _ n] => r.push (UInt8.ofNat n.toNat)
  | _ => r

def strOf (e : Nat) (l : List (A e)) : ByteArray := l.foldl (pushB c e) ByteArray.empty

/-- The functions of tests, called. -/
def callS (us : List (V A)) : List (Bool × Nat) → Option (V A × Prop)
  | [] => none
  | [p] => match c.call p.2 us with
    | some (r, [], ps) => some (r, p.1 = true ∧ All ps)
    | _ => none
  | p :: q :: l => match c.call p.2 us, callS us (q :: l) with
    | some (r, [], ps), some (r', p') => some (merge p.1 r r', (p.1 = true → All ps) ∧ (p.1 = false → p'))
    | _, _ => none

/-- What an operation answers (the entries beside its own slot's: boxes), and what it wants. 'dst' is its slot. -/
def ex (E : Env A) (g : Chain) (dst : Option Nat) : Op → Ans A
  | .move x | .assign x => match opv E g x with | some v => val v | none => none
  | .pick (.tmp t) x y => match opv E g (.tmp t) with
    | some (.bool b) => match opv E ((t, true) :: g) x, opv E ((t, false) :: g) y with
      | some v, some w => val (merge b v w)
      | _, _ => none
    | _ => none
  | .alloc t => match g, dst, zeroCells (c.ty t) with
    | [], some d, some cs => match (c.ty t).arr with
      | some (e, m) => match (Nat.beq cs.length (m * (c.ty e).size)).and ((Nat.beq m 0).not.and (Nat.beq (c.ty e).size 0).not), decAll c e (prepAll c e (chunks (c.ty e).size m cs)) with
        | true, some l => some (.ptr d 0, [(.row d, [], .rowc e true (some m) l)], [])
        | _, _ => none
      | none => match all (fun v => avoids d v) (fitCells (c.ty t).slc cs) with
        | true => some (.ptr d 0, writeCells d 0 (fitCells (c.ty t).slc cs), [])
        | false => none
    | _, _, _ => none
  | .box t x => match g, dst, opv E g x with
    | [], some d, some (.arr e f m l) => match (c.ty t).arr with
      | some (e', m') => match (Nat.beq e e').and ((Nat.beq m m').and (Nat.beq m 0).not) with
        | true => some (.ptr d 0, [(.row d, [], .rowc e f (some m) l)], [])
        | false => none
      | none => none
    | [], some d, some v => match (c.ty t).arr, cellsOf (fitArg c t v) with
      | none, some cs => match all (fun v => avoids d v) cs with
        | true => some (.ptr d 0, writeCells d 0 cs, [])
        | false => none
      | _, _ => none
    | _, _, _ => none
  | .build t ps => match (c.ty t).arr with
    | some (e, m) => match zeroCells (c.ty t), partsOf E g ps.toList with
      | some z, some vs => match (Nat.beq z.length (m * (c.ty e).size)).and (Nat.beq (c.ty e).size 0).not, fillParts (fun i => some (i * (c.ty e).size, (c.ty e).size)) z vs with
        | true, some cs => match decAll c e (prepAll c e (chunks (c.ty e).size m cs)) with
          | some l => val (.arr e (all allFr0 cs) m l)
          | none => none
        | _, _ => none
      | _, _ => none
    | none => match (c.ty t).sarr with
      | some (e, m) => match zeroCells (c.ty t), partsOf E g ps.toList with
        | some z, some vs => match fillParts (fun i => some (i * (c.ty e).size, (c.ty e).size)) z vs, Nat.beq (c.ty e).size 0 with
          | some cs, false => val (.agg cs)
          | _, _ => none
        | _, _ => none
      | none => match zeroCells (c.ty t), (Nat.beq (c.ty t).fields.length 0).not.and (all (fun f => (Nat.beq (c.ty f.2).size 0).not) (c.ty t).fields), partsOf E g ps.toList with
        | some z, true, some vs => match fillParts (fun i => match nth (c.ty t).fields i with
            | some (off, ft) => match Nat.beq (c.ty ft).size 0 with
              | false => some (off, (c.ty ft).size)
              | true => none
            | none => none) z vs with
          | some cs => val (.agg (fitCells (c.ty t).slc cs))
          | none => none
        | _, _, _ => none
  | .buildSlice t len ps => match (c.ty t).elem, partsOf E g ps.toList with
    | some e, some vs => match zeroCells (c.ty e), Nat.beq (c.ty e).size 0 with
      | some z, false => match (Nat.beq z.length (c.ty e).size).and (Nat.ble (len * (c.ty e).size) 16777216) with
        | true => match fillParts (fun i => some (i * (c.ty e).size, (c.ty e).size)) (tile z (len * (c.ty e).size)) vs with
          | some cs => match frzL E cs with
            | some cs' => match decAll c e (prepAll c e (chunks (c.ty e).size len cs')) with
              | some l => match dst with
                | some d => match memN d c.own, ownL cs with
                  | true, [] => some (.own d, [(.row d, [], .rowc e (all allFr0 cs') none l)], [])
                  | true, _ => none
                  | false, _ => some (.list e (all allFr0 cs') l, frz E (ownL cs), [])
                | none => none
              | none => none
            | none => none
          | none => none
        | false => none
      | _, _ => none
    | _, _ => none
  | .load t x => match opv E g x with
    | some (.ptr id off) => match (c.ty t).arr with
      | some (e, m) => match off, look (.row id) E with
        | 0, some ([], .rowc e' f (some m') l) => match (Nat.beq e e').and (Nat.beq m m') with
          | true => val (.arr e' f m' l)
          | false => none
        | _, _ => none
      | none => match readCells E id off (c.ty t).size with
        | some cs => match ofCells (c.ty t) cs with
          | some v => val v
          | none => none
        | none => none
    | some (.eptr e f a off) => match Vm.part (c.ty t) (encF c e f a) off with
      | some v => val v
      | none => none
    | some (.optr id e i off) => match look (.row id) E with
      | some ([], .rowc e' f n l) => match Nat.beq e e' with
        | true => match Vm.part (c.ty t) (encF c e' f (l.getD i (c.C.dft e'))) off with
          | some v => val v
          | none => none
        | false => none
      | _ => none
    | _ => none
  | .store t x y => match g, opv E g x, opv E g y with
    | [], some (.ptr id off), some (.arr e f m l) => match off, (c.ty t).arr, look (.row id) E with
      | 0, some (e', m'), some ([], .rowc e'' _ (some m'') _) => match ((Nat.beq e e').and (Nat.beq m m')).and ((Nat.beq e e'').and (Nat.beq m m'')) with
        | true => some (.junk, [(.row id, [], .rowc e f (some m) l)], [])
        | false => none
      | _, _, _ => none
    | [], some (.ptr id off), some v => match Nat.beq (c.ty t).size 0, readCells E id off (c.ty t).size, cellsOf (fitArg c t v) with
      | false, some _, some cs => match (Nat.beq cs.length (c.ty t).size).and (all one cs) with
        | true => some (.junk, writeCells id off cs, [])
        | false => none
      | _, _, _ => none
    | [], some (.optr id e i off), some v => match Nat.beq (c.ty t).size 0, look (.row id) E, cellsOf (fitArg c t v) with
      | false, some ([], .rowc e' f n l), some cs => match (Nat.beq cs.length (c.ty t).size).and ((all one cs).and ((Nat.beq e e').and ((memN id (ownL cs)).not.and (Nat.ble (off + cs.length) (c.ty e).size)))), frzL E cs with
        | true, some cs' => match c.C.dec e' (mapV dim0 (setRange (c.C.enc e' (l.getD i (c.C.dft e'))) off cs')) with
          | some a => some (.junk, (.row id, [], .rowc e' (f.and (all allFr0 cs')) n (l.set i a)) :: frz E (ownL cs), [])
          | none => none
        | _, _ => none
      | _, _, _ => none
    | _, _, _ => none
  | .nilCheck x => match opv E g x with
    | some (.ptr id off) => val (.ptr id off)
    | some (.eptr t f a off) => val (.eptr t f a off)
    | some (.fn f) => val (.fn f)
    | some (.clo f fs cs) => val (.clo f fs cs)
    | _ => none
  | .makeFunc (.func f) fs cs => match argsOf c E g fs.toList [], argsOf c E g cs.toList [] with
    | some vs, some us => val (.clo f vs us)
    | _, _ => none
  | .binOp op t x y _ => match opv E g x, opv E g y with
    | some (.int k a), some (.int k' b) => match isShift op with
      | true => match shift op k a b (sureOpd op y) with
        | some (v, ps) => some (v, [], ps)
        | none => none
      | false => match ksame k k' with
        | true => match binInt op k a b (sureOpd op y) with
          | some (v, ps) => some (v, [], ps)
          | none => none
        | false => none
    | some (.bool a), some (.bool b) => match (c.ty t).isBool with
      | true => match op with
        | .eql => val (.bool (a == b))
        | .neq => val (.bool (!(a == b)))
        | _ => none
      | false => none
    | some (.str a), some (.str b) => match binStr op a b with
      | some (v, ps) => some (v, [], ps)
      | none => none
    | some (.raw (.slice p _ _)), some (.raw (.slice none 0 0)) => match (c.ty t).elem with
      | some _ => match op with
        | .eql => val (.bool p.isNone)
        | .neq => val (.bool (!p.isNone))
        | _ => none
      | none => none
    | some (.list _ _ (_ :: _)), some (.raw (.slice none 0 0)) => match (c.ty t).elem with
      | some _ => match op with
        | .eql => val (.bool false)
        | .neq => val (.bool true)
        | _ => none
      | none => none
    | some (.agg cs), some (.agg ds) => match (c.ty t).flat, eqL cs ds with
      | some sh, some r => match (scVs sh cs).and (scVs sh ds) with
        | true => match op with
          | .eql => val (.bool r)
          | .neq => val (.bool (!r))
          | _ => none
        | false => none
      | _, _ => none
    | _, _ => none
  | .unOp op _ x => match op, opv E g x with
    | .not, some (.bool b) => val (.bool (!b))
    | .neg, some (.int k n) => val (.int k (k.wrap (0 - n)))
    | .xor, some (.int k n) => val (.int k (bits .xor k (if k.signed then -1 else k.max) n))
    | _, _ => none
  | .convert s t x => match (c.ty s).kind, (c.ty t).kind, opv E g x with
    | some _, some k, some (.int _ n) => val (.int k (k.wrap n))
    | none, none, some (.list e _ l) => match (c.ty s).elem, (c.ty e).kind, (c.ty t).str with
      | some e', some .u8, true => match (Nat.beq e e').and (Nat.beq (c.ty e).size 1) with
        | true => val (.str (strOf c e l))
        | false => none
      | _, _, _ => none
    | _, _, _ => none
  | .lookup t x i true => match (c.ty t).map, opv E g x, opv E g i with
    | some (k, e), some (.cmap k' _ l), some (.int k'' n) => match (ksame k k').and (ksame k k''), zeroV (c.ty e) with
      | true, some z => val (.tup [selV n z l, .bool (hasN n l)])
      | _, _ => none
    | _, _, _ => none
  | .slice t x lo hi none => match opv E g x with
    | some (.list e f l) => match (c.ty t).elem with
      | some e' => match (Nat.beq e e').and (Nat.beq (c.ty e).size 0).not, bound E g lo 0, bound E g hi (l.length : Int) with
        | true, some i, some j => some (.list e f ((l.take j.toNat).drop i.toNat), [], [0 ≤ i, i ≤ j, j ≤ (l.length : Int)])
        | _, _, _ => none
      | none => none
    | some (.own r) => match (c.ty t).elem, look (.row r) E with
      | some e', some ([], .rowc e f none l) => match (Nat.beq e e').and (Nat.beq (c.ty e).size 0).not, bound E g lo 0, bound E g hi (l.length : Int) with
        | true, some i, some j => match dst with
          | some d => match memN d c.own with
            | true => match lo with
              | none => some (.own d, [(.row d, [], .rowc e f none (l.take j.toNat)), (.row r, [], .junk)], [0 ≤ j, j ≤ (l.length : Int)])
              | some _ => none
            | false => some (.list e f ((l.take j.toNat).drop i.toNat), [(.row r, [], .list e f l)], [0 ≤ i, i ≤ j, j ≤ (l.length : Int)])
          | none => none
        | _, _, _ => none
      | some e', some ([], .list e f l) => match (Nat.beq e e').and (Nat.beq (c.ty e).size 0).not, bound E g lo 0, bound E g hi (l.length : Int) with
        | true, some i, some j => some (.list e f ((l.take j.toNat).drop i.toNat), [], [0 ≤ i, i ≤ j, j ≤ (l.length : Int)])
        | _, _, _ => none
      | _, _ => none
    | some (.str s) => match (c.ty t).str, bound E g lo 0, bound E g hi (s.size : Int) with
      | true, some i, some j => some (.str (s.extract i.toNat j.toNat), [], [0 ≤ i, i ≤ j, j ≤ (s.size : Int)])
      | _, _, _ => none
    | _ => none
  | .fieldAddr t x f => match opv E g x, nth (c.ty t).fields f with
    | some (.ptr id off), some (o, ft) => match (c.ty ft).size with
      | 0 => none
      | _ + 1 => val (.ptr id (off + o))
    | some (.eptr e h a off), some (o, ft) => match (c.ty ft).size with
      | 0 => none
      | _ + 1 => val (.eptr e h a (off + o))
    | some (.optr id e i off), some (o, ft) => match (c.ty ft).size with
      | 0 => none
      | _ + 1 => val (.optr id e i (off + o))
    | _, _ => none
  | .field t x f => match opv E g x, nth (c.ty t).fields f with
    | some (.agg cs), some (o, ft) => match Vm.part (c.ty ft) cs o with
      | some v => val v
      | none => none
    | _, _ => none
  | .indexAddr t x i => match opv E g x, opv E g i with
    | some (.list e f l), some (.int _ n) => match (c.ty t).elem with
      | some e' => match Nat.beq e e' with
        | true => some (.eptr e f (l.getD n.toNat (c.C.dft e)) 0, [], [0 ≤ n, n < (l.length : Int)])
        | false => none
      | none => none
    | some (.own r), some (.int _ n) => match (c.ty t).elem, look (.row r) E with
      | some e', some ([], .rowc e _ none l) => match Nat.beq e e' with
        | true => some (.optr r e n.toNat 0, [], [0 ≤ n, n < (l.length : Int)])
        | false => none
      | some e', some ([], .list e f l) => match Nat.beq e e' with
        | true => some (.eptr e f (l.getD n.toNat (c.C.dft e)) 0, [], [0 ≤ n, n < (l.length : Int)])
        | false => none
      | _, _ => none
    | some (.ptr id off), some (.int _ n) => match (c.ty t).arr with
      | some (e, m) => match off, look (.row id) E with
        | 0, some ([], .rowc e' _ (some m') _) => match (Nat.beq e e').and (Nat.beq m m') with
          | true => some (.optr id e n.toNat 0, [], [0 ≤ n, n < (m : Int)])
          | false => none
        | _, _ => none
      | none => match (c.ty t).sarr, n with
        | some (e, m), .ofNat i => match (Nat.blt i m).and (Nat.beq (c.ty e).size 0).not with
          | true => val (.ptr id (off + i * (c.ty e).size))
          | false => none
        | _, _ => none
    | _, _ => none
  | .index t x i => match opv E g x, opv E g i with
    | some (.str s), some (.int _ n) => match (c.ty t).str with
      | true => some (.int .u8 ((s.data.toList.getD n.toNat 0).toNat : Int), [], [0 ≤ n, n < (s.size : Int)])
      | false => none
    | some (.arr e f m l), some (.int _ n) => match (c.ty t).arr with
      | some (e', m') => match ((Nat.beq e e').and (Nat.beq m m')).and (Nat.beq (c.ty e).size 0).not, Vm.part (c.ty e) (encF c e f (l.getD n.toNat (c.C.dft e))) 0 with
        | true, some v => some (v, [], [0 ≤ n, n < (m : Int)])
        | _, _ => none
      | none => none
    | some (.agg cs), some (.int _ n) => match (c.ty t).sarr, n with
      | some (e, m), .ofNat i => match (Nat.blt i m).and (Nat.beq (c.ty e).size 0).not, Vm.part (c.ty e) cs (i * (c.ty e).size) with
        | true, some v => val v
        | _, _ => none
      | _, _ => none
    | _, _ => none
  | .extract x i => match opv E g x with
    | some (.tup vs) => match nth vs i with
      | some v => val v
      | none => none
    | _ => none
  | .call { callee := .value f, args, argTypes } => match opv E g f, argsOf c E g args.toList argTypes.toList with
    | some (.sfn l), some vs => match viewArgs E vs with
      | some us => match callS c us l with
        | some (r, p) => answer c E dst vs r [] [p]
        | none => none
      | none => none
    | some vf, some vs => match calleeOf vf with
      | some (f, fs, cs) => match viewArgs E (fs ++ vs ++ cs) with
        | some us => match c.call f us with
          | some (r, outs, ps) => answer c E dst (fs ++ vs ++ cs) r outs ps
          | none => none
        | none => none
      | none => none
    | _, _ => none
  | .call { callee := .builtin .len, args, argTypes } => match (argsOf c E g args.toList []).bind (viewAll E), argTypes.toList with
    | some [.list _ _ l], [t] => match (c.ty t).elem with
      | some _ => val (.int .i64 (l.length : Int))
      | none => none
    | some [.str s], [t] => match (c.ty t).str with
      | true => val (.int .i64 (s.size : Int))
      | false => none
    | some [.raw (.slice none 0 0)], [t] => match (c.ty t).elem with
      | some _ => val (.int .i64 0)
      | none => none
    | _, _ => none
  | .call { callee := .builtin .append, args, argTypes } => match g, dst, args.toList, argTypes.toList with
    | [], some d, [x, y], [t, t'] => match (c.ty t).elem, opv E g x, opv E g y with
      | some e, some vx, some vy => match (Nat.beq t t').and ((c.ty e).app.and ((Nat.beq (c.ty e).size 0).not.and (Nat.beq (c.ty e).bytes 0).not)), appX E e vx, appY E e vy with
        | true, some (fx, lx, kill), some (fy, ly) => some (.own d, (.row d, [], .rowc e (fx.and fy) none (lx ++ ly)) :: kill, [((lx.length + ly.length : Nat) : Int) * (c.ty e).bytes ≤ 140737488355328])
        | _, _, _ => none
      | _, _, _ => none
    | _, _, _, _ => none
  | .makeSlice t len cap => match g, dst, opv E g len, opv E g cap with
    | [], some d, some (.int _ n), some (.int _ m) => match (c.ty t).elem with
      | some e => match zeroCells (c.ty e) with
        | some z => match (c.ty e).app.and ((Nat.beq (c.ty e).size 0).not.and ((Nat.beq (c.ty e).bytes 0).not.and (Nat.beq z.length (c.ty e).size))), c.C.dec e (prep c e z) with
          | true, some a => some (.own d, [(.row d, [], .rowc e true none (List.replicate n.toNat a))], [0 ≤ n, n = m, n * (c.ty e).bytes ≤ 140737488355328])
          | _, _ => none
        | none => none
      | none => none
    | _, _, _, _ => none
  | .call { callee := .builtin .min, args, .. } => match argsOf c E g args.toList [] with
    | some (.int k x :: vs) => match minmax false k x vs with
      | some v => val v
      | none => none
    | _ => none
  | .call { callee := .builtin .max, args, .. } => match argsOf c E g args.toList [] with
    | some (.int k x :: vs) => match minmax true k x vs with
      | some v => val v
      | none => none
    | _ => none
  | _ => none

end
end Vm
