/-
  Printed by a program for this claim: functions of the code as plain functions, and that the code comes to them. Conditions: those that each theorem states.
-/
import Derived.Test.YthnlknegnlmklaaProg
import Derived.Test.YthnlknegnlmklaaDEDefs
import Derived.KernelRfl
set_option linter.all false
namespace Go.Proofs.Ythnlknegnlmklaa
open Go Go.Proofs Vm
noncomputable def P : Program := Try.prog
/-- The types of the lists' elements, each with one of it. -/
noncomputable def elT : Nat → (T : Type) × T
  | 3 => ⟨Int, 0⟩
  | 5 => ⟨Int, 0⟩
  | 9 => ⟨ByteArray, (⟨#[]⟩ : ByteArray)⟩
  | 39 => ⟨Int, 0⟩
  | _ => ⟨Unit, ()⟩
noncomputable def El (t : Nat) : Type := (elT t).1
abbrev W := V El
noncomputable def dft (t : Nat) : El t := (elT t).2
noncomputable def enc : (t : Nat) → El t → List W
  | 3, a => (fun a : Int => [.int .i64 a]) a
  | 5, a => (fun a : Int => [.int .u8 a]) a
  | 9, a => (fun a : ByteArray => [.str a]) a
  | 39, a => (fun a : Int => [.int .u64 a]) a
  | _, _ => []
noncomputable def dec : (t : Nat) → List W → Option (El t)
  | 3, [.int .i64 x1] => some (show Int from x1)
  | 5, [.int .u8 x1] => some (show Int from x1)
  | 9, [.str x1] => some (show ByteArray from x1)
  | 39, [.int .u64 x1] => some (show Int from x1)
  | _, _ => none

theorem ti2 : TIok P 2 { size := 1, bytes := 8, agg := some false, kind := some .i64, zero := some (.int .i64 0) } where
  size _ w := Try.sizeOf2 w
  agg b h w := by cases h; exact Try.isAgg2 w
  fields := fun h => absurd rfl h
  elem e h := by cases h
  kind k h := by cases h; exact Try.underlying2
  zero z h w := by cases h; exact Try.zeroValue2 w
  str h := (by cases h)
  isBool h := (by cases h)
  arr e m h := by cases h
  sarr e m h := by cases h
  app h := by cases h
  map k e h := by cases h
  flat sh h := by cases h

theorem ti3 : TIok P 3 { size := 1, bytes := 8, agg := some false, app := true, kind := some .i64, zero := some (.int .i64 0) } where
  size _ w := Try.sizeOf3 w
  agg b h w := by cases h; exact Try.isAgg3 w
  fields := fun h => absurd rfl h
  elem e h := by cases h
  kind k h := by cases h; exact Try.underlying3
  zero z h w := by cases h; exact Try.zeroValue3 w
  str h := (by cases h)
  isBool h := (by cases h)
  arr e m h := by cases h
  sarr e m h := by cases h
  app h := app_of Try.type3 rfl rfl rfl rfl
  map k e h := by cases h
  flat sh h := by cases h

theorem ti4 : TIok P 4 { size := 1, bytes := 1, agg := some false, zero := some (.bool false), isBool := true } where
  size _ w := Try.sizeOf4 w
  agg b h w := by cases h; exact Try.isAgg4 w
  fields := fun h => absurd rfl h
  elem e h := by cases h
  kind k h := by cases h
  zero z h w := by cases h; exact Try.zeroValue4 w
  str h := (by cases h)
  isBool h := Try.underlying4
  arr e m h := by cases h
  sarr e m h := by cases h
  app h := by cases h
  map k e h := by cases h
  flat sh h := by cases h

theorem ti5 : TIok P 5 { size := 1, bytes := 1, agg := some false, app := true, kind := some .u8, zero := some (.int .u8 0) } where
  size _ w := Try.sizeOf5 w
  agg b h w := by cases h; exact Try.isAgg5 w
  fields := fun h => absurd rfl h
  elem e h := by cases h
  kind k h := by cases h; exact Try.underlying5
  zero z h w := by cases h; exact Try.zeroValue5 w
  str h := (by cases h)
  isBool h := (by cases h)
  arr e m h := by cases h
  sarr e m h := by cases h
  app h := app_of Try.type5 rfl rfl rfl rfl
  map k e h := by cases h
  flat sh h := by cases h

theorem ti9 : TIok P 9 { size := 1, bytes := 16, agg := some false, app := true, zero := some (.string ⟨#[]⟩), str := true } where
  size _ w := Try.sizeOf9 w
  agg b h w := by cases h; exact Try.isAgg9 w
  fields := fun h => absurd rfl h
  elem e h := by cases h
  kind k h := by cases h
  zero z h w := by cases h; exact Try.zeroValue9 w
  str h := Try.underlying9
  isBool h := (by cases h)
  arr e m h := by cases h
  sarr e m h := by cases h
  app h := app_of Try.type9 rfl rfl rfl rfl
  map k e h := by cases h
  flat sh h := by cases h

theorem ti21 : TIok P 21 { size := 1, bytes := 4, agg := some false, kind := some .i32, zero := some (.int .i32 0) } where
  size _ w := Try.sizeOf21 w
  agg b h w := by cases h; exact Try.isAgg21 w
  fields := fun h => absurd rfl h
  elem e h := by cases h
  kind k h := by cases h; exact Try.underlying21
  zero z h w := by cases h; exact Try.zeroValue21 w
  str h := (by cases h)
  isBool h := (by cases h)
  arr e m h := by cases h
  sarr e m h := by cases h
  app h := by cases h
  map k e h := by cases h
  flat sh h := by cases h

theorem ti34 : TIok P 34 { size := 1, bytes := 24, agg := some false, elem := some 9, slc := [(0, 9)], zero := some (.slice none 0 0) } where
  size _ w := Try.sizeOf34 w
  agg b h w := by cases h; exact Try.isAgg34 w
  fields := fun h => absurd rfl h
  elem e h := by cases h; exact Try.underlying34
  kind k h := by cases h
  zero z h w := by cases h; exact Try.zeroValue34 w
  str h := (by cases h)
  isBool h := (by cases h)
  arr e m h := by cases h
  sarr e m h := by cases h
  app h := by cases h
  map k e h := by cases h
  flat sh h := by cases h

theorem ti38 : TIok P 38 { size := 1, bytes := 24, agg := some false, elem := some 39, slc := [(0, 39)], zero := some (.slice none 0 0) } where
  size _ w := Try.sizeOf38 w
  agg b h w := by cases h; exact Try.isAgg38 w
  fields := fun h => absurd rfl h
  elem e h := by cases h; exact Try.underlying38
  kind k h := by cases h
  zero z h w := by cases h; exact Try.zeroValue38 w
  str h := (by cases h)
  isBool h := (by cases h)
  arr e m h := by cases h
  sarr e m h := by cases h
  app h := by cases h
  map k e h := by cases h
  flat sh h := by cases h

theorem ti39 : TIok P 39 { size := 1, bytes := 8, agg := some false, app := true, kind := some .u64, zero := some (.int .u64 0) } where
  size _ w := Try.sizeOf39 w
  agg b h w := by cases h; exact Try.isAgg39 w
  fields := fun h => absurd rfl h
  elem e h := by cases h
  kind k h := by cases h; exact Try.underlying39
  zero z h w := by cases h; exact Try.zeroValue39 w
  str h := (by cases h)
  isBool h := (by cases h)
  arr e m h := by cases h
  sarr e m h := by cases h
  app h := app_of Try.type39 rfl rfl rfl rfl
  map k e h := by cases h
  flat sh h := by cases h

theorem ti40 : TIok P 40 { size := 1, bytes := 24, agg := some true, fields := [(0, 38)], slc := [(0, 39)], zero := some (.agg #[.slice none 0 0]) } where
  size _ w := Try.sizeOf40 w
  agg b h w := by cases h; exact Try.isAgg40 w
  fields := fun _ => ⟨_, Try.underlying40, rfl⟩
  elem e h := by cases h
  kind k h := by cases h
  zero z h w := by cases h; exact Try.zeroValue40 w
  str h := (by cases h)
  isBool h := (by cases h)
  arr e m h := by cases h
  sarr e m h := by cases h
  app h := by cases h
  map k e h := by cases h
  flat sh h := by cases h

theorem ti41 : TIok P 41 { size := 1, bytes := 24, agg := some true, fields := [(0, 38)], slc := [(0, 39)], zero := some (.agg #[.slice none 0 0]) } where
  size _ w := Try.sizeOf41 w
  agg b h w := by cases h; exact Try.isAgg41 w
  fields := fun _ => ⟨_, Try.underlying41, rfl⟩
  elem e h := by cases h
  kind k h := by cases h
  zero z h w := by cases h; exact Try.zeroValue41 w
  str h := (by cases h)
  isBool h := (by cases h)
  arr e m h := by cases h
  sarr e m h := by cases h
  app h := by cases h
  map k e h := by cases h
  flat sh h := by cases h

theorem ti44 : TIok P 44 { size := 1, bytes := 24, agg := some false, elem := some 5, slc := [(0, 5)], zero := some (.slice none 0 0) } where
  size _ w := Try.sizeOf44 w
  agg b h w := by cases h; exact Try.isAgg44 w
  fields := fun h => absurd rfl h
  elem e h := by cases h; exact Try.underlying44
  kind k h := by cases h
  zero z h w := by cases h; exact Try.zeroValue44 w
  str h := (by cases h)
  isBool h := (by cases h)
  arr e m h := by cases h
  sarr e m h := by cases h
  app h := by cases h
  map k e h := by cases h
  flat sh h := by cases h

theorem ti46 : TIok P 46 { size := 1, bytes := 8, agg := some false, kind := some .i64, zero := some (.int .i64 0) } where
  size _ w := Try.sizeOf46 w
  agg b h w := by cases h; exact Try.isAgg46 w
  fields := fun h => absurd rfl h
  elem e h := by cases h
  kind k h := by cases h; exact Try.underlying46
  zero z h w := by cases h; exact Try.zeroValue46 w
  str h := (by cases h)
  isBool h := (by cases h)
  arr e m h := by cases h
  sarr e m h := by cases h
  app h := by cases h
  map k e h := by cases h
  flat sh h := by cases h

theorem ti60 : TIok P 60 { size := 1, bytes := 8, agg := some false, kind := some .i64, zero := some (.int .i64 0) } where
  size _ w := Try.sizeOf60 w
  agg b h w := by cases h; exact Try.isAgg60 w
  fields := fun h => absurd rfl h
  elem e h := by cases h
  kind k h := by cases h; exact Try.underlying60
  zero z h w := by cases h; exact Try.zeroValue60 w
  str h := (by cases h)
  isBool h := (by cases h)
  arr e m h := by cases h
  sarr e m h := by cases h
  app h := by cases h
  map k e h := by cases h
  flat sh h := by cases h

theorem ti74 : TIok P 74 { size := 1, bytes := 24, agg := some false, elem := some 3, slc := [(0, 3)], zero := some (.slice none 0 0) } where
  size _ w := Try.sizeOf74 w
  agg b h w := by cases h; exact Try.isAgg74 w
  fields := fun h => absurd rfl h
  elem e h := by cases h; exact Try.underlying74
  kind k h := by cases h
  zero z h w := by cases h; exact Try.zeroValue74 w
  str h := (by cases h)
  isBool h := (by cases h)
  arr e m h := by cases h
  sarr e m h := by cases h
  app h := by cases h
  map k e h := by cases h
  flat sh h := by cases h

theorem ti86 : TIok P 86 { size := 1, bytes := 8, agg := some false, zero := some (.nilFunc) } where
  size _ w := Try.sizeOf86 w
  agg b h w := by cases h; exact Try.isAgg86 w
  fields := fun h => absurd rfl h
  elem e h := by cases h
  kind k h := by cases h
  zero z h w := by cases h; exact Try.zeroValue86 w
  str h := (by cases h)
  isBool h := (by cases h)
  arr e m h := by cases h
  sarr e m h := by cases h
  app h := by cases h
  map k e h := by cases h
  flat sh h := by cases h

theorem ti87 : TIok P 87 { size := 1, bytes := 8, agg := some false, zero := some (.nilFunc) } where
  size _ w := Try.sizeOf87 w
  agg b h w := by cases h; exact Try.isAgg87 w
  fields := fun h => absurd rfl h
  elem e h := by cases h
  kind k h := by cases h
  zero z h w := by cases h; exact Try.zeroValue87 w
  str h := (by cases h)
  isBool h := (by cases h)
  arr e m h := by cases h
  sarr e m h := by cases h
  app h := by cases h
  map k e h := by cases h
  flat sh h := by cases h

theorem ti124 : TIok P 124 { size := 1, bytes := 8, agg := some false, zero := some (.nilFunc) } where
  size _ w := Try.sizeOf124 w
  agg b h w := by cases h; exact Try.isAgg124 w
  fields := fun h => absurd rfl h
  elem e h := by cases h
  kind k h := by cases h
  zero z h w := by cases h; exact Try.zeroValue124 w
  str h := (by cases h)
  isBool h := (by cases h)
  arr e m h := by cases h
  sarr e m h := by cases h
  app h := by cases h
  map k e h := by cases h
  flat sh h := by cases h

theorem ti127 : TIok P 127 { size := 1, bytes := 8, agg := some false, kind := some .u64, zero := some (.int .u64 0) } where
  size _ w := Try.sizeOf127 w
  agg b h w := by cases h; exact Try.isAgg127 w
  fields := fun h => absurd rfl h
  elem e h := by cases h
  kind k h := by cases h; exact Try.underlying127
  zero z h w := by cases h; exact Try.zeroValue127 w
  str h := (by cases h)
  isBool h := (by cases h)
  arr e m h := by cases h
  sarr e m h := by cases h
  app h := by cases h
  map k e h := by cases h
  flat sh h := by cases h

noncomputable def tis : List TI := [{},
  {},
  { size := 1, bytes := 8, agg := some false, kind := some .i64, zero := some (.int .i64 0) },
  { size := 1, bytes := 8, agg := some false, app := true, kind := some .i64, zero := some (.int .i64 0) },
  { size := 1, bytes := 1, agg := some false, zero := some (.bool false), isBool := true },
  { size := 1, bytes := 1, agg := some false, app := true, kind := some .u8, zero := some (.int .u8 0) },
  {},
  {},
  {},
  { size := 1, bytes := 16, agg := some false, app := true, zero := some (.string ⟨#[]⟩), str := true },
  {},
  {},
  {},
  {},
  {},
  {},
  {},
  {},
  {},
  {},
  {},
  { size := 1, bytes := 4, agg := some false, kind := some .i32, zero := some (.int .i32 0) },
  {},
  {},
  {},
  {},
  {},
  {},
  {},
  {},
  {},
  {},
  {},
  {},
  { size := 1, bytes := 24, agg := some false, elem := some 9, slc := [(0, 9)], zero := some (.slice none 0 0) },
  {},
  {},
  {},
  { size := 1, bytes := 24, agg := some false, elem := some 39, slc := [(0, 39)], zero := some (.slice none 0 0) },
  { size := 1, bytes := 8, agg := some false, app := true, kind := some .u64, zero := some (.int .u64 0) },
  { size := 1, bytes := 24, agg := some true, fields := [(0, 38)], slc := [(0, 39)], zero := some (.agg #[.slice none 0 0]) },
  { size := 1, bytes := 24, agg := some true, fields := [(0, 38)], slc := [(0, 39)], zero := some (.agg #[.slice none 0 0]) },
  {},
  {},
  { size := 1, bytes := 24, agg := some false, elem := some 5, slc := [(0, 5)], zero := some (.slice none 0 0) },
  {},
  { size := 1, bytes := 8, agg := some false, kind := some .i64, zero := some (.int .i64 0) },
  {},
  {},
  {},
  {},
  {},
  {},
  {},
  {},
  {},
  {},
  {},
  {},
  {},
  { size := 1, bytes := 8, agg := some false, kind := some .i64, zero := some (.int .i64 0) },
  {},
  {},
  {},
  {},
  {},
  {},
  {},
  {},
  {},
  {},
  {},
  {},
  {},
  { size := 1, bytes := 24, agg := some false, elem := some 3, slc := [(0, 3)], zero := some (.slice none 0 0) },
  {},
  {},
  {},
  {},
  {},
  {},
  {},
  {},
  {},
  {},
  {},
  { size := 1, bytes := 8, agg := some false, zero := some (.nilFunc) },
  { size := 1, bytes := 8, agg := some false, zero := some (.nilFunc) },
  {},
  {},
  {},
  {},
  {},
  {},
  {},
  {},
  {},
  {},
  {},
  {},
  {},
  {},
  {},
  {},
  {},
  {},
  {},
  {},
  {},
  {},
  {},
  {},
  {},
  {},
  {},
  {},
  {},
  {},
  {},
  {},
  {},
  {},
  {},
  {},
  { size := 1, bytes := 8, agg := some false, zero := some (.nilFunc) },
  {},
  {},
  { size := 1, bytes := 8, agg := some false, kind := some .u64, zero := some (.int .u64 0) },
  {},
  {},
  {},
  {},
  {},
  {},
  {},
  {},
  {},
  {},
  {},
  {},
  {},
  {},
  {},
  {},
  {},
  {},
  {},
  {},
  {},
  {},
  {},
  {},
  {},
  {},
  {},
  {},
  {},
  {}]

set_option maxRecDepth 100000 in
theorem tis_all : AllTI P 0 tis := ⟨(TIok.default _ _), ⟨(TIok.default _ _), ⟨ti2, ⟨ti3, ⟨ti4, ⟨ti5, ⟨(TIok.default _ _), ⟨(TIok.default _ _), ⟨(TIok.default _ _), ⟨ti9, ⟨(TIok.default _ _), ⟨(TIok.default _ _), ⟨(TIok.default _ _), ⟨(TIok.default _ _), ⟨(TIok.default _ _), ⟨(TIok.default _ _), ⟨(TIok.default _ _), ⟨(TIok.default _ _), ⟨(TIok.default _ _), ⟨(TIok.default _ _), ⟨(TIok.default _ _), ⟨ti21, ⟨(TIok.default _ _), ⟨(TIok.default _ _), ⟨(TIok.default _ _), ⟨(TIok.default _ _), ⟨(TIok.default _ _), ⟨(TIok.default _ _), ⟨(TIok.default _ _), ⟨(TIok.default _ _), ⟨(TIok.default _ _), ⟨(TIok.default _ _), ⟨(TIok.default _ _), ⟨(TIok.default _ _), ⟨ti34, ⟨(TIok.default _ _), ⟨(TIok.default _ _), ⟨(TIok.default _ _), ⟨ti38, ⟨ti39, ⟨ti40, ⟨ti41, ⟨(TIok.default _ _), ⟨(TIok.default _ _), ⟨ti44, ⟨(TIok.default _ _), ⟨ti46, ⟨(TIok.default _ _), ⟨(TIok.default _ _), ⟨(TIok.default _ _), ⟨(TIok.default _ _), ⟨(TIok.default _ _), ⟨(TIok.default _ _), ⟨(TIok.default _ _), ⟨(TIok.default _ _), ⟨(TIok.default _ _), ⟨(TIok.default _ _), ⟨(TIok.default _ _), ⟨(TIok.default _ _), ⟨(TIok.default _ _), ⟨ti60, ⟨(TIok.default _ _), ⟨(TIok.default _ _), ⟨(TIok.default _ _), ⟨(TIok.default _ _), ⟨(TIok.default _ _), ⟨(TIok.default _ _), ⟨(TIok.default _ _), ⟨(TIok.default _ _), ⟨(TIok.default _ _), ⟨(TIok.default _ _), ⟨(TIok.default _ _), ⟨(TIok.default _ _), ⟨(TIok.default _ _), ⟨ti74, ⟨(TIok.default _ _), ⟨(TIok.default _ _), ⟨(TIok.default _ _), ⟨(TIok.default _ _), ⟨(TIok.default _ _), ⟨(TIok.default _ _), ⟨(TIok.default _ _), ⟨(TIok.default _ _), ⟨(TIok.default _ _), ⟨(TIok.default _ _), ⟨(TIok.default _ _), ⟨ti86, ⟨ti87, ⟨(TIok.default _ _), ⟨(TIok.default _ _), ⟨(TIok.default _ _), ⟨(TIok.default _ _), ⟨(TIok.default _ _), ⟨(TIok.default _ _), ⟨(TIok.default _ _), ⟨(TIok.default _ _), ⟨(TIok.default _ _), ⟨(TIok.default _ _), ⟨(TIok.default _ _), ⟨(TIok.default _ _), ⟨(TIok.default _ _), ⟨(TIok.default _ _), ⟨(TIok.default _ _), ⟨(TIok.default _ _), ⟨(TIok.default _ _), ⟨(TIok.default _ _), ⟨(TIok.default _ _), ⟨(TIok.default _ _), ⟨(TIok.default _ _), ⟨(TIok.default _ _), ⟨(TIok.default _ _), ⟨(TIok.default _ _), ⟨(TIok.default _ _), ⟨(TIok.default _ _), ⟨(TIok.default _ _), ⟨(TIok.default _ _), ⟨(TIok.default _ _), ⟨(TIok.default _ _), ⟨(TIok.default _ _), ⟨(TIok.default _ _), ⟨(TIok.default _ _), ⟨(TIok.default _ _), ⟨(TIok.default _ _), ⟨(TIok.default _ _), ⟨ti124, ⟨(TIok.default _ _), ⟨(TIok.default _ _), ⟨ti127, ⟨(TIok.default _ _), ⟨(TIok.default _ _), ⟨(TIok.default _ _), ⟨(TIok.default _ _), ⟨(TIok.default _ _), ⟨(TIok.default _ _), ⟨(TIok.default _ _), ⟨(TIok.default _ _), ⟨(TIok.default _ _), ⟨(TIok.default _ _), ⟨(TIok.default _ _), ⟨(TIok.default _ _), ⟨(TIok.default _ _), ⟨(TIok.default _ _), ⟨(TIok.default _ _), ⟨(TIok.default _ _), ⟨(TIok.default _ _), ⟨(TIok.default _ _), ⟨(TIok.default _ _), ⟨(TIok.default _ _), ⟨(TIok.default _ _), ⟨(TIok.default _ _), ⟨(TIok.default _ _), ⟨(TIok.default _ _), ⟨(TIok.default _ _), ⟨(TIok.default _ _), ⟨(TIok.default _ _), ⟨(TIok.default _ _), ⟨(TIok.default _ _), ⟨(TIok.default _ _), trivial⟩⟩⟩⟩⟩⟩⟩⟩⟩⟩⟩⟩⟩⟩⟩⟩⟩⟩⟩⟩⟩⟩⟩⟩⟩⟩⟩⟩⟩⟩⟩⟩⟩⟩⟩⟩⟩⟩⟩⟩⟩⟩⟩⟩⟩⟩⟩⟩⟩⟩⟩⟩⟩⟩⟩⟩⟩⟩⟩⟩⟩⟩⟩⟩⟩⟩⟩⟩⟩⟩⟩⟩⟩⟩⟩⟩⟩⟩⟩⟩⟩⟩⟩⟩⟩⟩⟩⟩⟩⟩⟩⟩⟩⟩⟩⟩⟩⟩⟩⟩⟩⟩⟩⟩⟩⟩⟩⟩⟩⟩⟩⟩⟩⟩⟩⟩⟩⟩⟩⟩⟩⟩⟩⟩⟩⟩⟩⟩⟩⟩⟩⟩⟩⟩⟩⟩⟩⟩⟩⟩⟩⟩⟩⟩⟩⟩⟩⟩⟩⟩⟩⟩⟩⟩⟩⟩⟩⟩

noncomputable def base : Cfg El := { P := P, ty := fun t => (nth tis t).getD {}, C := { enc := enc, dec := dec, dft := dft }, call := fun _ _ => none, own := [], pins := [], inv := fun _ _ => True }

theorem base_ok : CfgOk base where
  ty t := tis_ok tis_all t
  arr t e m h := arrs_ok (l := tis) (by kernel_rfl) t e m h
  enc t a p := by show all (ok0 p) (enc t a) = true; unfold enc; split <;> rfl
  fresh t a := by show all (fun v => allFr0 (frs true v)) (enc t a) = true; unfold enc; split <;> rfl
  one t a := by show all one (enc t a) = true; unfold enc; split <;> rfl
  plain t a h := by
    have h' : plainT ((nth tis t).getD {}) = true := h
    show all plainV (enc t a) = true
    unfold enc; split <;> first | rfl | (exact absurd h' (by decide))
  old t a := by show all old0 (enc t a) = true; unfold enc; split <;> rfl
  u8 t a h := by
    have h' : ((nth tis t).getD {}).kind = some .u8 := h
    show enc t a = [] ∨ ∃ n, enc t a = [.int .u8 n]
    unfold enc; split <;> first | exact .inr ⟨_, rfl⟩ | exact .inl rfl | (exact absurd h' (by decide))
  inv _ _ _ _ _ _ _ := trivial
  dec t cs a h := by
    have h' : dec t cs = some a := h
    show enc t a = cs
    unfold dec at h'
    split at h' <;> first | (cases h'; rfl) | cases h'

  call f vs r outs ps h := by cases h

theorem mixed : P.follows .mixedOrders = true := by kernel_rfl

noncomputable def noLoop : Nat → Env El → Tr El := fun _ _ => .fail
end Go.Proofs.Ythnlknegnlmklaa
