/-
  Printed by a program for this claim: functions of the code as plain functions, and that the code comes to them. Conditions: those that each theorem states.
-/
import Derived.Test.YthgfoemcjkokjaaProg
import Derived.Test.YthgfoemcjkokjaaNDefs
import Derived.KernelRfl
set_option linter.all false
namespace Go.Proofs.Ythgfoemcjkokjaa
open Go Go.Proofs Vm
noncomputable def P : Program := Try.prog
/-- The types of the lists' elements, each with one of it. -/
noncomputable def elT : Nat → (T : Type) × T
  | 3 => ⟨Int, 0⟩
  | 5 => ⟨Int, 0⟩
  | 22 => ⟨(List Int), []⟩
  | 25 => ⟨S.Num, (⟨[]⟩ : S.Num)⟩
  | 33 => ⟨Int, 0⟩
  | _ => ⟨Unit, ()⟩
noncomputable def El (t : Nat) : Type := (elT t).1
abbrev W := V El
noncomputable def dft (t : Nat) : El t := (elT t).2
noncomputable def enc : (t : Nat) → El t → List W
  | 3, a => (fun a : Int => [.int .i64 a]) a
  | 5, a => (fun a : Int => [.int .u8 a]) a
  | 22, a => (fun a : (List Int) => [.list 33 false a]) a
  | 25, a => (fun a : S.Num => [.list 33 false a.limbs]) a
  | 33, a => (fun a : Int => [.int .u64 a]) a
  | _, _ => []
noncomputable def dec : (t : Nat) → List W → Option (El t)
  | 3, [.int .i64 x1] => some (show Int from x1)
  | 5, [.int .u8 x1] => some (show Int from x1)
  | 22, [.list 33 false x1] => some (show (List Int) from x1)
  | 25, [.list 33 false x1] => some (show S.Num from ⟨x1⟩)
  | 33, [.int .u64 x1] => some (show Int from x1)
  | _, _ => none

theorem ti3 : TIok P 3 { size := 1, bytes := 8, agg := some false, app := true, kind := some .i64, zero := some (.int .i64 0) } where
  size _ w := Try.sizeOf3 w
  agg b h w := by cases h; exact Try.isAgg3 w
  fields := fun h => absurd rfl h
  elem e h := by cases h
  kind k h := by cases h; exact Try.underlying3
  zero z h w := by cases h; exact Try.zeroValue3 w
  str h := (by cases h)
  isBool h := (by cases h)
  arr e m h := by cases h
  sarr e m h := by cases h
  app h := app_of Try.type3 rfl rfl rfl rfl
  map k e h := by cases h
  flat sh h := by cases h

theorem ti4 : TIok P 4 { size := 1, bytes := 1, agg := some false, zero := some (.bool false), isBool := true } where
  size _ w := Try.sizeOf4 w
  agg b h w := by cases h; exact Try.isAgg4 w
  fields := fun h => absurd rfl h
  elem e h := by cases h
  kind k h := by cases h
  zero z h w := by cases h; exact Try.zeroValue4 w
  str h := (by cases h)
  isBool h := Try.underlying4
  arr e m h := by cases h
  sarr e m h := by cases h
  app h := by cases h
  map k e h := by cases h
  flat sh h := by cases h

theorem ti5 : TIok P 5 { size := 1, bytes := 1, agg := some false, app := true, kind := some .u8, zero := some (.int .u8 0) } where
  size _ w := Try.sizeOf5 w
  agg b h w := by cases h; exact Try.isAgg5 w
  fields := fun h => absurd rfl h
  elem e h := by cases h
  kind k h := by cases h; exact Try.underlying5
  zero z h w := by cases h; exact Try.zeroValue5 w
  str h := (by cases h)
  isBool h := (by cases h)
  arr e m h := by cases h
  sarr e m h := by cases h
  app h := app_of Try.type5 rfl rfl rfl rfl
  map k e h := by cases h
  flat sh h := by cases h

theorem ti9 : TIok P 9 { size := 1, bytes := 16, agg := some false, zero := some (.string ⟨#[]⟩), str := true } where
  size _ w := Try.sizeOf9 w
  agg b h w := by cases h; exact Try.isAgg9 w
  fields := fun h => absurd rfl h
  elem e h := by cases h
  kind k h := by cases h
  zero z h w := by cases h; exact Try.zeroValue9 w
  str h := Try.underlying9
  isBool h := (by cases h)
  arr e m h := by cases h
  sarr e m h := by cases h
  app h := by cases h
  map k e h := by cases h
  flat sh h := by cases h

theorem ti22 : TIok P 22 { size := 1, bytes := 24, agg := some false, elem := some 33, app := true, slc := [(0, 33)], zero := some (.slice none 0 0) } where
  size _ w := Try.sizeOf22 w
  agg b h w := by cases h; exact Try.isAgg22 w
  fields := fun h => absurd rfl h
  elem e h := by cases h; exact Try.underlying22
  kind k h := by cases h
  zero z h w := by cases h; exact Try.zeroValue22 w
  str h := (by cases h)
  isBool h := (by cases h)
  arr e m h := by cases h
  sarr e m h := by cases h
  app h := app_of Try.type22 rfl rfl rfl rfl
  map k e h := by cases h
  flat sh h := by cases h

theorem ti24 : TIok P 24 { size := 1, bytes := 24, agg := some true, fields := [(0, 22)], slc := [(0, 33)], zero := some (.agg #[.slice none 0 0]) } where
  size _ w := Try.sizeOf24 w
  agg b h w := by cases h; exact Try.isAgg24 w
  fields := fun _ => ⟨_, Try.underlying24, rfl⟩
  elem e h := by cases h
  kind k h := by cases h
  zero z h w := by cases h; exact Try.zeroValue24 w
  str h := (by cases h)
  isBool h := (by cases h)
  arr e m h := by cases h
  sarr e m h := by cases h
  app h := by cases h
  map k e h := by cases h
  flat sh h := by cases h

theorem ti25 : TIok P 25 { size := 1, bytes := 24, agg := some true, fields := [(0, 22)], app := true, slc := [(0, 33)], zero := some (.agg #[.slice none 0 0]) } where
  size _ w := Try.sizeOf25 w
  agg b h w := by cases h; exact Try.isAgg25 w
  fields := fun _ => ⟨_, Try.underlying25, rfl⟩
  elem e h := by cases h
  kind k h := by cases h
  zero z h w := by cases h; exact Try.zeroValue25 w
  str h := (by cases h)
  isBool h := (by cases h)
  arr e m h := by cases h
  sarr e m h := by cases h
  app h := app_of Try.type25 rfl rfl rfl rfl
  map k e h := by cases h
  flat sh h := by cases h

theorem ti29 : TIok P 29 { size := 1, bytes := 8, agg := some false, kind := some .i64, zero := some (.int .i64 0) } where
  size _ w := Try.sizeOf29 w
  agg b h w := by cases h; exact Try.isAgg29 w
  fields := fun h => absurd rfl h
  elem e h := by cases h
  kind k h := by cases h; exact Try.underlying29
  zero z h w := by cases h; exact Try.zeroValue29 w
  str h := (by cases h)
  isBool h := (by cases h)
  arr e m h := by cases h
  sarr e m h := by cases h
  app h := by cases h
  map k e h := by cases h
  flat sh h := by cases h

theorem ti33 : TIok P 33 { size := 1, bytes := 8, agg := some false, app := true, kind := some .u64, zero := some (.int .u64 0) } where
  size _ w := Try.sizeOf33 w
  agg b h w := by cases h; exact Try.isAgg33 w
  fields := fun h => absurd rfl h
  elem e h := by cases h
  kind k h := by cases h; exact Try.underlying33
  zero z h w := by cases h; exact Try.zeroValue33 w
  str h := (by cases h)
  isBool h := (by cases h)
  arr e m h := by cases h
  sarr e m h := by cases h
  app h := app_of Try.type33 rfl rfl rfl rfl
  map k e h := by cases h
  flat sh h := by cases h

theorem ti36 : TIok P 36 { size := 1, bytes := 24, agg := some false, elem := some 5, slc := [(0, 5)], zero := some (.slice none 0 0) } where
  size _ w := Try.sizeOf36 w
  agg b h w := by cases h; exact Try.isAgg36 w
  fields := fun h => absurd rfl h
  elem e h := by cases h; exact Try.underlying36
  kind k h := by cases h
  zero z h w := by cases h; exact Try.zeroValue36 w
  str h := (by cases h)
  isBool h := (by cases h)
  arr e m h := by cases h
  sarr e m h := by cases h
  app h := by cases h
  map k e h := by cases h
  flat sh h := by cases h

theorem ti42 : TIok P 42 { size := 1, bytes := 8, agg := some false, kind := some .i64, zero := some (.int .i64 0) } where
  size _ w := Try.sizeOf42 w
  agg b h w := by cases h; exact Try.isAgg42 w
  fields := fun h => absurd rfl h
  elem e h := by cases h
  kind k h := by cases h; exact Try.underlying42
  zero z h w := by cases h; exact Try.zeroValue42 w
  str h := (by cases h)
  isBool h := (by cases h)
  arr e m h := by cases h
  sarr e m h := by cases h
  app h := by cases h
  map k e h := by cases h
  flat sh h := by cases h

theorem ti65 : TIok P 65 { size := 1, bytes := 24, agg := some false, elem := some 3, slc := [(0, 3)], zero := some (.slice none 0 0) } where
  size _ w := Try.sizeOf65 w
  agg b h w := by cases h; exact Try.isAgg65 w
  fields := fun h => absurd rfl h
  elem e h := by cases h; exact Try.underlying65
  kind k h := by cases h
  zero z h w := by cases h; exact Try.zeroValue65 w
  str h := (by cases h)
  isBool h := (by cases h)
  arr e m h := by cases h
  sarr e m h := by cases h
  app h := by cases h
  map k e h := by cases h
  flat sh h := by cases h

theorem ti72 : TIok P 72 { size := 1, bytes := 24, agg := some false, elem := some 22, slc := [(0, 22)], zero := some (.slice none 0 0) } where
  size _ w := Try.sizeOf72 w
  agg b h w := by cases h; exact Try.isAgg72 w
  fields := fun h => absurd rfl h
  elem e h := by cases h; exact Try.underlying72
  kind k h := by cases h
  zero z h w := by cases h; exact Try.zeroValue72 w
  str h := (by cases h)
  isBool h := (by cases h)
  arr e m h := by cases h
  sarr e m h := by cases h
  app h := by cases h
  map k e h := by cases h
  flat sh h := by cases h

theorem ti111 : TIok P 111 { size := 1, bytes := 24, agg := some false, elem := some 25, slc := [(0, 25)], zero := some (.slice none 0 0) } where
  size _ w := Try.sizeOf111 w
  agg b h w := by cases h; exact Try.isAgg111 w
  fields := fun h => absurd rfl h
  elem e h := by cases h; exact Try.underlying111
  kind k h := by cases h
  zero z h w := by cases h; exact Try.zeroValue111 w
  str h := (by cases h)
  isBool h := (by cases h)
  arr e m h := by cases h
  sarr e m h := by cases h
  app h := by cases h
  map k e h := by cases h
  flat sh h := by cases h

noncomputable def tis : List TI := [{},
  {},
  {},
  { size := 1, bytes := 8, agg := some false, app := true, kind := some .i64, zero := some (.int .i64 0) },
  { size := 1, bytes := 1, agg := some false, zero := some (.bool false), isBool := true },
  { size := 1, bytes := 1, agg := some false, app := true, kind := some .u8, zero := some (.int .u8 0) },
  {},
  {},
  {},
  { size := 1, bytes := 16, agg := some false, zero := some (.string ⟨#[]⟩), str := true },
  {},
  {},
  {},
  {},
  {},
  {},
  {},
  {},
  {},
  {},
  {},
  {},
  { size := 1, bytes := 24, agg := some false, elem := some 33, app := true, slc := [(0, 33)], zero := some (.slice none 0 0) },
  {},
  { size := 1, bytes := 24, agg := some true, fields := [(0, 22)], slc := [(0, 33)], zero := some (.agg #[.slice none 0 0]) },
  { size := 1, bytes := 24, agg := some true, fields := [(0, 22)], app := true, slc := [(0, 33)], zero := some (.agg #[.slice none 0 0]) },
  {},
  {},
  {},
  { size := 1, bytes := 8, agg := some false, kind := some .i64, zero := some (.int .i64 0) },
  {},
  {},
  {},
  { size := 1, bytes := 8, agg := some false, app := true, kind := some .u64, zero := some (.int .u64 0) },
  {},
  {},
  { size := 1, bytes := 24, agg := some false, elem := some 5, slc := [(0, 5)], zero := some (.slice none 0 0) },
  {},
  {},
  {},
  {},
  {},
  { size := 1, bytes := 8, agg := some false, kind := some .i64, zero := some (.int .i64 0) },
  {},
  {},
  {},
  {},
  {},
  {},
  {},
  {},
  {},
  {},
  {},
  {},
  {},
  {},
  {},
  {},
  {},
  {},
  {},
  {},
  {},
  {},
  { size := 1, bytes := 24, agg := some false, elem := some 3, slc := [(0, 3)], zero := some (.slice none 0 0) },
  {},
  {},
  {},
  {},
  {},
  {},
  { size := 1, bytes := 24, agg := some false, elem := some 22, slc := [(0, 22)], zero := some (.slice none 0 0) },
  {},
  {},
  {},
  {},
  {},
  {},
  {},
  {},
  {},
  {},
  {},
  {},
  {},
  {},
  {},
  {},
  {},
  {},
  {},
  {},
  {},
  {},
  {},
  {},
  {},
  {},
  {},
  {},
  {},
  {},
  {},
  {},
  {},
  {},
  {},
  {},
  {},
  {},
  { size := 1, bytes := 24, agg := some false, elem := some 25, slc := [(0, 25)], zero := some (.slice none 0 0) },
  {},
  {},
  {},
  {},
  {},
  {},
  {},
  {},
  {},
  {},
  {},
  {},
  {},
  {},
  {},
  {},
  {},
  {},
  {},
  {},
  {},
  {},
  {},
  {},
  {},
  {},
  {},
  {},
  {},
  {},
  {},
  {},
  {},
  {},
  {},
  {},
  {},
  {},
  {},
  {},
  {},
  {},
  {},
  {},
  {},
  {},
  {},
  {},
  {},
  {},
  {},
  {},
  {},
  {},
  {},
  {},
  {},
  {},
  {},
  {},
  {},
  {},
  {},
  {},
  {},
  {},
  {},
  {},
  {},
  {},
  {},
  {},
  {},
  {},
  {}]

set_option maxRecDepth 100000 in
theorem tis_all : AllTI P 0 tis := ⟨(TIok.default _ _), ⟨(TIok.default _ _), ⟨(TIok.default _ _), ⟨ti3, ⟨ti4, ⟨ti5, ⟨(TIok.default _ _), ⟨(TIok.default _ _), ⟨(TIok.default _ _), ⟨ti9, ⟨(TIok.default _ _), ⟨(TIok.default _ _), ⟨(TIok.default _ _), ⟨(TIok.default _ _), ⟨(TIok.default _ _), ⟨(TIok.default _ _), ⟨(TIok.default _ _), ⟨(TIok.default _ _), ⟨(TIok.default _ _), ⟨(TIok.default _ _), ⟨(TIok.default _ _), ⟨(TIok.default _ _), ⟨ti22, ⟨(TIok.default _ _), ⟨ti24, ⟨ti25, ⟨(TIok.default _ _), ⟨(TIok.default _ _), ⟨(TIok.default _ _), ⟨ti29, ⟨(TIok.default _ _), ⟨(TIok.default _ _), ⟨(TIok.default _ _), ⟨ti33, ⟨(TIok.default _ _), ⟨(TIok.default _ _), ⟨ti36, ⟨(TIok.default _ _), ⟨(TIok.default _ _), ⟨(TIok.default _ _), ⟨(TIok.default _ _), ⟨(TIok.default _ _), ⟨ti42, ⟨(TIok.default _ _), ⟨(TIok.default _ _), ⟨(TIok.default _ _), ⟨(TIok.default _ _), ⟨(TIok.default _ _), ⟨(TIok.default _ _), ⟨(TIok.default _ _), ⟨(TIok.default _ _), ⟨(TIok.default _ _), ⟨(TIok.default _ _), ⟨(TIok.default _ _), ⟨(TIok.default _ _), ⟨(TIok.default _ _), ⟨(TIok.default _ _), ⟨(TIok.default _ _), ⟨(TIok.default _ _), ⟨(TIok.default _ _), ⟨(TIok.default _ _), ⟨(TIok.default _ _), ⟨(TIok.default _ _), ⟨(TIok.default _ _), ⟨(TIok.default _ _), ⟨ti65, ⟨(TIok.default _ _), ⟨(TIok.default _ _), ⟨(TIok.default _ _), ⟨(TIok.default _ _), ⟨(TIok.default _ _), ⟨(TIok.default _ _), ⟨ti72, ⟨(TIok.default _ _), ⟨(TIok.default _ _), ⟨(TIok.default _ _), ⟨(TIok.default _ _), ⟨(TIok.default _ _), ⟨(TIok.default _ _), ⟨(TIok.default _ _), ⟨(TIok.default _ _), ⟨(TIok.default _ _), ⟨(TIok.default _ _), ⟨(TIok.default _ _), ⟨(TIok.default _ _), ⟨(TIok.default _ _), ⟨(TIok.default _ _), ⟨(TIok.default _ _), ⟨(TIok.default _ _), ⟨(TIok.default _ _), ⟨(TIok.default _ _), ⟨(TIok.default _ _), ⟨(TIok.default _ _), ⟨(TIok.default _ _), ⟨(TIok.default _ _), ⟨(TIok.default _ _), ⟨(TIok.default _ _), ⟨(TIok.default _ _), ⟨(TIok.default _ _), ⟨(TIok.default _ _), ⟨(TIok.default _ _), ⟨(TIok.default _ _), ⟨(TIok.default _ _), ⟨(TIok.default _ _), ⟨(TIok.default _ _), ⟨(TIok.default _ _), ⟨(TIok.default _ _), ⟨(TIok.default _ _), ⟨(TIok.default _ _), ⟨(TIok.default _ _), ⟨(TIok.default _ _), ⟨ti111, ⟨(TIok.default _ _), ⟨(TIok.default _ _), ⟨(TIok.default _ _), ⟨(TIok.default _ _), ⟨(TIok.default _ _), ⟨(TIok.default _ _), ⟨(TIok.default _ _), ⟨(TIok.default _ _), ⟨(TIok.default _ _), ⟨(TIok.default _ _), ⟨(TIok.default _ _), ⟨(TIok.default _ _), ⟨(TIok.default _ _), ⟨(TIok.default _ _), ⟨(TIok.default _ _), ⟨(TIok.default _ _), ⟨(TIok.default _ _), ⟨(TIok.default _ _), ⟨(TIok.default _ _), ⟨(TIok.default _ _), ⟨(TIok.default _ _), ⟨(TIok.default _ _), ⟨(TIok.default _ _), ⟨(TIok.default _ _), ⟨(TIok.default _ _), ⟨(TIok.default _ _), ⟨(TIok.default _ _), ⟨(TIok.default _ _), ⟨(TIok.default _ _), ⟨(TIok.default _ _), ⟨(TIok.default _ _), ⟨(TIok.default _ _), ⟨(TIok.default _ _), ⟨(TIok.default _ _), ⟨(TIok.default _ _), ⟨(TIok.default _ _), ⟨(TIok.default _ _), ⟨(TIok.default _ _), ⟨(TIok.default _ _), ⟨(TIok.default _ _), ⟨(TIok.default _ _), ⟨(TIok.default _ _), ⟨(TIok.default _ _), ⟨(TIok.default _ _), ⟨(TIok.default _ _), ⟨(TIok.default _ _), ⟨(TIok.default _ _), ⟨(TIok.default _ _), ⟨(TIok.default _ _), ⟨(TIok.default _ _), ⟨(TIok.default _ _), ⟨(TIok.default _ _), ⟨(TIok.default _ _), ⟨(TIok.default _ _), ⟨(TIok.default _ _), ⟨(TIok.default _ _), ⟨(TIok.default _ _), ⟨(TIok.default _ _), ⟨(TIok.default _ _), ⟨(TIok.default _ _), ⟨(TIok.default _ _), ⟨(TIok.default _ _), ⟨(TIok.default _ _), ⟨(TIok.default _ _), ⟨(TIok.default _ _), ⟨(TIok.default _ _), ⟨(TIok.default _ _), ⟨(TIok.default _ _), ⟨(TIok.default _ _), ⟨(TIok.default _ _), ⟨(TIok.default _ _), ⟨(TIok.default _ _), ⟨(TIok.default _ _), ⟨(TIok.default _ _), ⟨(TIok.default _ _), trivial⟩⟩⟩⟩⟩⟩⟩⟩⟩⟩⟩⟩⟩⟩⟩⟩⟩⟩⟩⟩⟩⟩⟩⟩⟩⟩⟩⟩⟩⟩⟩⟩⟩⟩⟩⟩⟩⟩⟩⟩⟩⟩⟩⟩⟩⟩⟩⟩⟩⟩⟩⟩⟩⟩⟩⟩⟩⟩⟩⟩⟩⟩⟩⟩⟩⟩⟩⟩⟩⟩⟩⟩⟩⟩⟩⟩⟩⟩⟩⟩⟩⟩⟩⟩⟩⟩⟩⟩⟩⟩⟩⟩⟩⟩⟩⟩⟩⟩⟩⟩⟩⟩⟩⟩⟩⟩⟩⟩⟩⟩⟩⟩⟩⟩⟩⟩⟩⟩⟩⟩⟩⟩⟩⟩⟩⟩⟩⟩⟩⟩⟩⟩⟩⟩⟩⟩⟩⟩⟩⟩⟩⟩⟩⟩⟩⟩⟩⟩⟩⟩⟩⟩⟩⟩⟩⟩⟩⟩⟩⟩⟩⟩⟩⟩⟩⟩⟩⟩⟩⟩⟩⟩⟩⟩⟩⟩⟩⟩⟩⟩⟩⟩⟩⟩⟩⟩⟩

noncomputable def base : Cfg El := { P := P, ty := fun t => (nth tis t).getD {}, C := { enc := enc, dec := dec, dft := dft }, call := fun _ _ => none, own := [], pins := [], inv := fun _ _ => True }

theorem base_ok : CfgOk base where
  ty t := tis_ok tis_all t
  arr t e m h := arrs_ok (l := tis) (by kernel_rfl) t e m h
  enc t a p := by show all (ok0 p) (enc t a) = true; unfold enc; split <;> rfl
  fresh t a := by show all (fun v => allFr0 (frs true v)) (enc t a) = true; unfold enc; split <;> rfl
  one t a := by show all one (enc t a) = true; unfold enc; split <;> rfl
  plain t a h := by
    have h' : plainT ((nth tis t).getD {}) = true := h
    show all plainV (enc t a) = true
    unfold enc; split <;> first | rfl | (exact absurd h' (by decide))
  old t a := by show all old0 (enc t a) = true; unfold enc; split <;> rfl
  u8 t a h := by
    have h' : ((nth tis t).getD {}).kind = some .u8 := h
    show enc t a = [] ∨ ∃ n, enc t a = [.int .u8 n]
    unfold enc; split <;> first | exact .inr ⟨_, rfl⟩ | exact .inl rfl | (exact absurd h' (by decide))
  inv _ _ _ _ _ _ _ := trivial
  dec t cs a h := by
    have h' : dec t cs = some a := h
    show enc t a = cs
    unfold dec at h'
    split at h' <;> first | (cases h'; rfl) | cases h'

  call f vs r outs ps h := by cases h

theorem mixed : P.follows .mixedOrders = true := by kernel_rfl

noncomputable def noLoop : Nat → Env El → Tr El := fun _ _ => .fail
end Go.Proofs.Ythgfoemcjkokjaa
