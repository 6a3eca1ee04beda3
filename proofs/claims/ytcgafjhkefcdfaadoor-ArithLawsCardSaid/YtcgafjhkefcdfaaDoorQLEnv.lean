/-
  Printed by a program for this claim: functions of the code as plain functions, and that the code comes to them. Conditions: those that each theorem states.
-/
import Derived.Test.YtcgafjhkefcdfaaDoorProg
import Derived.Test.YtcgafjhkefcdfaaDoorQLDefs
import Derived.KernelRfl
set_option linter.all false
namespace Go.Proofs.YtcgafjhkefcdfaaDoor
open Go Go.Proofs Vm
noncomputable def P : Program := Tryd.prog
/-- The types of the lists' elements, each with one of it. -/
noncomputable def elT : Nat → (T : Type) × T
  | 2 => ⟨Int, 0⟩
  | 5 => ⟨Int, 0⟩
  | 24 => ⟨Int, 0⟩
  | 31 => ⟨Int, 0⟩
  | _ => ⟨Unit, ()⟩
noncomputable def El (t : Nat) : Type := (elT t).1
abbrev W := V El
noncomputable def dft (t : Nat) : El t := (elT t).2
noncomputable def enc : (t : Nat) → El t → List W
  | 2, a => (fun a : Int => [.int .i64 a]) a
  | 5, a => (fun a : Int => [.int .u8 a]) a
  | 24, a => (fun a : Int => [.int .u64 a]) a
  | 31, a => (fun a : Int => [.int .i64 a]) a
  | _, _ => []
noncomputable def dec : (t : Nat) → List W → Option (El t)
  | 2, [.int .i64 x1] => some (show Int from x1)
  | 5, [.int .u8 x1] => some (show Int from x1)
  | 24, [.int .u64 x1] => some (show Int from x1)
  | 31, [.int .i64 x1] => some (show Int from x1)
  | _, _ => none

theorem flat22 : FlatT P 2 22 [.int .i64, .int .i64] :=
  FlatT.struct (sh := [.int .i64, .int .i64]) Tryd.underlying22 Tryd.stoodInHeld22 Tryd.isAgg22 Tryd.sizeOf22 (.cons (s1 := [.int .i64]) (s2 := [.int .i64]) (by decide) rfl (FlatT.int Tryd.underlying2 Tryd.isAgg2) (.cons (s1 := [.int .i64]) (s2 := []) (by decide) rfl (FlatT.int Tryd.underlying2 Tryd.isAgg2) (.nil _)))

theorem flat23 : FlatT P 2 23 [.int .i64, .int .i64] :=
  FlatT.struct (sh := [.int .i64, .int .i64]) Tryd.underlying23 Tryd.stoodInHeld23 Tryd.isAgg23 Tryd.sizeOf23 (.cons (s1 := [.int .i64]) (s2 := [.int .i64]) (by decide) rfl (FlatT.int Tryd.underlying2 Tryd.isAgg2) (.cons (s1 := [.int .i64]) (s2 := []) (by decide) rfl (FlatT.int Tryd.underlying2 Tryd.isAgg2) (.nil _)))

theorem flat25 : FlatT P 2 25 [.int .u64, .int .u64] :=
  FlatT.struct (sh := [.int .u64, .int .u64]) Tryd.underlying25 Tryd.stoodInHeld25 Tryd.isAgg25 Tryd.sizeOf25 (.cons (s1 := [.int .u64]) (s2 := [.int .u64]) (by decide) rfl (FlatT.int Tryd.underlying24 Tryd.isAgg24) (.cons (s1 := [.int .u64]) (s2 := []) (by decide) rfl (FlatT.int Tryd.underlying24 Tryd.isAgg24) (.nil _)))

theorem flat26 : FlatT P 2 26 [.int .u64, .int .u64] :=
  FlatT.struct (sh := [.int .u64, .int .u64]) Tryd.underlying26 Tryd.stoodInHeld26 Tryd.isAgg26 Tryd.sizeOf26 (.cons (s1 := [.int .u64]) (s2 := [.int .u64]) (by decide) rfl (FlatT.int Tryd.underlying24 Tryd.isAgg24) (.cons (s1 := [.int .u64]) (s2 := []) (by decide) rfl (FlatT.int Tryd.underlying24 Tryd.isAgg24) (.nil _)))

theorem flat27 : FlatT P 3 27 [.int .i64, .int .i64, .int .u64, .int .u64] :=
  FlatT.struct (sh := [.int .i64, .int .i64, .int .u64, .int .u64]) Tryd.underlying27 Tryd.stoodInHeld27 Tryd.isAgg27 Tryd.sizeOf27 (.cons (s1 := [.int .i64, .int .i64]) (s2 := [.int .u64, .int .u64]) (by decide) rfl flat23 (.cons (s1 := [.int .u64, .int .u64]) (s2 := []) (by decide) rfl flat26 (.nil _)))

theorem flat28 : FlatT P 3 28 [.int .i64, .int .i64, .int .u64, .int .u64] :=
  FlatT.struct (sh := [.int .i64, .int .i64, .int .u64, .int .u64]) Tryd.underlying28 Tryd.stoodInHeld28 Tryd.isAgg28 Tryd.sizeOf28 (.cons (s1 := [.int .i64, .int .i64]) (s2 := [.int .u64, .int .u64]) (by decide) rfl flat23 (.cons (s1 := [.int .u64, .int .u64]) (s2 := []) (by decide) rfl flat26 (.nil _)))

theorem flat48 : FlatT P 2 48 [.int .u64, .int .u64] :=
  FlatT.array (n := 2) Tryd.underlying48 Tryd.isAgg48 Tryd.sizeOf48 Tryd.sizeOf24 Tryd.isAgg24 (FlatT.int Tryd.underlying24 Tryd.isAgg24)

theorem ti2 : TIok P 2 { size := 1, bytes := 8, agg := some false, app := true, kind := some .i64, zero := some (.int .i64 0) } where
  size _ w := Tryd.sizeOf2 w
  agg b h w := by cases h; exact Tryd.isAgg2 w
  fields := fun h => absurd rfl h
  elem e h := by cases h
  kind k h := by cases h; exact Tryd.underlying2
  zero z h w := by cases h; exact Tryd.zeroValue2 w
  str h := (by cases h)
  isBool h := (by cases h)
  arr e m h := by cases h
  sarr e m h := by cases h
  app h := app_of Tryd.type2 rfl rfl rfl rfl
  map k e h := by cases h
  flat sh h := by cases h

theorem ti3 : TIok P 3 { size := 1, bytes := 8, agg := some false, kind := some .i64, zero := some (.int .i64 0) } where
  size _ w := Tryd.sizeOf3 w
  agg b h w := by cases h; exact Tryd.isAgg3 w
  fields := fun h => absurd rfl h
  elem e h := by cases h
  kind k h := by cases h; exact Tryd.underlying3
  zero z h w := by cases h; exact Tryd.zeroValue3 w
  str h := (by cases h)
  isBool h := (by cases h)
  arr e m h := by cases h
  sarr e m h := by cases h
  app h := by cases h
  map k e h := by cases h
  flat sh h := by cases h

theorem ti4 : TIok P 4 { size := 1, bytes := 1, agg := some false, zero := some (.bool false), isBool := true } where
  size _ w := Tryd.sizeOf4 w
  agg b h w := by cases h; exact Tryd.isAgg4 w
  fields := fun h => absurd rfl h
  elem e h := by cases h
  kind k h := by cases h
  zero z h w := by cases h; exact Tryd.zeroValue4 w
  str h := (by cases h)
  isBool h := Tryd.underlying4
  arr e m h := by cases h
  sarr e m h := by cases h
  app h := by cases h
  map k e h := by cases h
  flat sh h := by cases h

theorem ti5 : TIok P 5 { size := 1, bytes := 1, agg := some false, app := true, kind := some .u8, zero := some (.int .u8 0) } where
  size _ w := Tryd.sizeOf5 w
  agg b h w := by cases h; exact Tryd.isAgg5 w
  fields := fun h => absurd rfl h
  elem e h := by cases h
  kind k h := by cases h; exact Tryd.underlying5
  zero z h w := by cases h; exact Tryd.zeroValue5 w
  str h := (by cases h)
  isBool h := (by cases h)
  arr e m h := by cases h
  sarr e m h := by cases h
  app h := app_of Tryd.type5 rfl rfl rfl rfl
  map k e h := by cases h
  flat sh h := by cases h

theorem ti9 : TIok P 9 { size := 1, bytes := 16, agg := some false, zero := some (.string ⟨#[]⟩), str := true } where
  size _ w := Tryd.sizeOf9 w
  agg b h w := by cases h; exact Tryd.isAgg9 w
  fields := fun h => absurd rfl h
  elem e h := by cases h
  kind k h := by cases h
  zero z h w := by cases h; exact Tryd.zeroValue9 w
  str h := Tryd.underlying9
  isBool h := (by cases h)
  arr e m h := by cases h
  sarr e m h := by cases h
  app h := by cases h
  map k e h := by cases h
  flat sh h := by cases h

theorem ti22 : TIok P 22 { size := 2, bytes := 16, agg := some true, fields := [(0, 2), (1, 2)], zero := some (.agg #[.int .i64 0, .int .i64 0]), flat := some [.int .i64, .int .i64] } where
  size _ w := Tryd.sizeOf22 w
  agg b h w := by cases h; exact Tryd.isAgg22 w
  fields := fun _ => ⟨_, Tryd.underlying22, rfl⟩
  elem e h := by cases h
  kind k h := by cases h
  zero z h w := by cases h; exact Tryd.zeroValue22 w
  str h := (by cases h)
  isBool h := (by cases h)
  arr e m h := by cases h
  sarr e m h := by cases h
  app h := by cases h
  map k e h := by cases h
  flat sh h := by cases h; exact ⟨Tryd.eqGuardType22, fun xs ys r w h1 h2 h3 => flat22.equal (by decide) Tryd.isAgg22 xs ys r w h1 h2 h3⟩

theorem ti23 : TIok P 23 { size := 2, bytes := 16, agg := some true, fields := [(0, 2), (1, 2)], zero := some (.agg #[.int .i64 0, .int .i64 0]), flat := some [.int .i64, .int .i64] } where
  size _ w := Tryd.sizeOf23 w
  agg b h w := by cases h; exact Tryd.isAgg23 w
  fields := fun _ => ⟨_, Tryd.underlying23, rfl⟩
  elem e h := by cases h
  kind k h := by cases h
  zero z h w := by cases h; exact Tryd.zeroValue23 w
  str h := (by cases h)
  isBool h := (by cases h)
  arr e m h := by cases h
  sarr e m h := by cases h
  app h := by cases h
  map k e h := by cases h
  flat sh h := by cases h; exact ⟨Tryd.eqGuardType23, fun xs ys r w h1 h2 h3 => flat23.equal (by decide) Tryd.isAgg23 xs ys r w h1 h2 h3⟩

theorem ti24 : TIok P 24 { size := 1, bytes := 8, agg := some false, app := true, kind := some .u64, zero := some (.int .u64 0) } where
  size _ w := Tryd.sizeOf24 w
  agg b h w := by cases h; exact Tryd.isAgg24 w
  fields := fun h => absurd rfl h
  elem e h := by cases h
  kind k h := by cases h; exact Tryd.underlying24
  zero z h w := by cases h; exact Tryd.zeroValue24 w
  str h := (by cases h)
  isBool h := (by cases h)
  arr e m h := by cases h
  sarr e m h := by cases h
  app h := app_of Tryd.type24 rfl rfl rfl rfl
  map k e h := by cases h
  flat sh h := by cases h

theorem ti25 : TIok P 25 { size := 2, bytes := 16, agg := some true, fields := [(0, 24), (1, 24)], zero := some (.agg #[.int .u64 0, .int .u64 0]), flat := some [.int .u64, .int .u64] } where
  size _ w := Tryd.sizeOf25 w
  agg b h w := by cases h; exact Tryd.isAgg25 w
  fields := fun _ => ⟨_, Tryd.underlying25, rfl⟩
  elem e h := by cases h
  kind k h := by cases h
  zero z h w := by cases h; exact Tryd.zeroValue25 w
  str h := (by cases h)
  isBool h := (by cases h)
  arr e m h := by cases h
  sarr e m h := by cases h
  app h := by cases h
  map k e h := by cases h
  flat sh h := by cases h; exact ⟨Tryd.eqGuardType25, fun xs ys r w h1 h2 h3 => flat25.equal (by decide) Tryd.isAgg25 xs ys r w h1 h2 h3⟩

theorem ti26 : TIok P 26 { size := 2, bytes := 16, agg := some true, fields := [(0, 24), (1, 24)], zero := some (.agg #[.int .u64 0, .int .u64 0]), flat := some [.int .u64, .int .u64] } where
  size _ w := Tryd.sizeOf26 w
  agg b h w := by cases h; exact Tryd.isAgg26 w
  fields := fun _ => ⟨_, Tryd.underlying26, rfl⟩
  elem e h := by cases h
  kind k h := by cases h
  zero z h w := by cases h; exact Tryd.zeroValue26 w
  str h := (by cases h)
  isBool h := (by cases h)
  arr e m h := by cases h
  sarr e m h := by cases h
  app h := by cases h
  map k e h := by cases h
  flat sh h := by cases h; exact ⟨Tryd.eqGuardType26, fun xs ys r w h1 h2 h3 => flat26.equal (by decide) Tryd.isAgg26 xs ys r w h1 h2 h3⟩

theorem ti27 : TIok P 27 { size := 4, bytes := 32, agg := some true, fields := [(0, 23), (2, 26)], zero := some (.agg #[.int .i64 0, .int .i64 0, .int .u64 0, .int .u64 0]), flat := some [.int .i64, .int .i64, .int .u64, .int .u64] } where
  size _ w := Tryd.sizeOf27 w
  agg b h w := by cases h; exact Tryd.isAgg27 w
  fields := fun _ => ⟨_, Tryd.underlying27, rfl⟩
  elem e h := by cases h
  kind k h := by cases h
  zero z h w := by cases h; exact Tryd.zeroValue27 w
  str h := (by cases h)
  isBool h := (by cases h)
  arr e m h := by cases h
  sarr e m h := by cases h
  app h := by cases h
  map k e h := by cases h
  flat sh h := by cases h; exact ⟨Tryd.eqGuardType27, fun xs ys r w h1 h2 h3 => flat27.equal (by decide) Tryd.isAgg27 xs ys r w h1 h2 h3⟩

theorem ti28 : TIok P 28 { size := 4, bytes := 32, agg := some true, fields := [(0, 23), (2, 26)], zero := some (.agg #[.int .i64 0, .int .i64 0, .int .u64 0, .int .u64 0]), flat := some [.int .i64, .int .i64, .int .u64, .int .u64] } where
  size _ w := Tryd.sizeOf28 w
  agg b h w := by cases h; exact Tryd.isAgg28 w
  fields := fun _ => ⟨_, Tryd.underlying28, rfl⟩
  elem e h := by cases h
  kind k h := by cases h
  zero z h w := by cases h; exact Tryd.zeroValue28 w
  str h := (by cases h)
  isBool h := (by cases h)
  arr e m h := by cases h
  sarr e m h := by cases h
  app h := by cases h
  map k e h := by cases h
  flat sh h := by cases h; exact ⟨Tryd.eqGuardType28, fun xs ys r w h1 h2 h3 => flat28.equal (by decide) Tryd.isAgg28 xs ys r w h1 h2 h3⟩

theorem ti31 : TIok P 31 { size := 1, bytes := 8, agg := some false, app := true, kind := some .i64, zero := some (.int .i64 0) } where
  size _ w := Tryd.sizeOf31 w
  agg b h w := by cases h; exact Tryd.isAgg31 w
  fields := fun h => absurd rfl h
  elem e h := by cases h
  kind k h := by cases h; exact Tryd.underlying31
  zero z h w := by cases h; exact Tryd.zeroValue31 w
  str h := (by cases h)
  isBool h := (by cases h)
  arr e m h := by cases h
  sarr e m h := by cases h
  app h := app_of Tryd.type31 rfl rfl rfl rfl
  map k e h := by cases h
  flat sh h := by cases h

theorem ti32 : TIok P 32 { size := 1, bytes := 24, agg := some false, elem := some 31, slc := [(0, 31)], zero := some (.slice none 0 0) } where
  size _ w := Tryd.sizeOf32 w
  agg b h w := by cases h; exact Tryd.isAgg32 w
  fields := fun h => absurd rfl h
  elem e h := by cases h; exact Tryd.underlying32
  kind k h := by cases h
  zero z h w := by cases h; exact Tryd.zeroValue32 w
  str h := (by cases h)
  isBool h := (by cases h)
  arr e m h := by cases h
  sarr e m h := by cases h
  app h := by cases h
  map k e h := by cases h
  flat sh h := by cases h

theorem ti47 : TIok P 47 { size := 2, bytes := 16, agg := some true, sarr := some (24, 2), zero := some (.agg #[.int .u64 0, .int .u64 0]) } where
  size _ w := Tryd.sizeOf47 w
  agg b h w := by cases h; exact Tryd.isAgg47 w
  fields := fun h => absurd rfl h
  elem e h := by cases h
  kind k h := by cases h
  zero z h w := by cases h; exact Tryd.zeroValue47 w
  str h := (by cases h)
  isBool h := (by cases h)
  arr e m h := by cases h
  sarr e m h := by cases h; exact Tryd.underlying47
  app h := by cases h
  map k e h := by cases h
  flat sh h := by cases h

theorem ti48 : TIok P 48 { size := 2, bytes := 16, agg := some true, sarr := some (24, 2), zero := some (.agg #[.int .u64 0, .int .u64 0]), flat := some [.int .u64, .int .u64] } where
  size _ w := Tryd.sizeOf48 w
  agg b h w := by cases h; exact Tryd.isAgg48 w
  fields := fun h => absurd rfl h
  elem e h := by cases h
  kind k h := by cases h
  zero z h w := by cases h; exact Tryd.zeroValue48 w
  str h := (by cases h)
  isBool h := (by cases h)
  arr e m h := by cases h
  sarr e m h := by cases h; exact Tryd.underlying48
  app h := by cases h
  map k e h := by cases h
  flat sh h := by cases h; exact ⟨(by kernel_rfl), fun xs ys r w h1 h2 h3 => flat48.equal (by decide) Tryd.isAgg48 xs ys r w h1 h2 h3⟩

theorem ti69 : TIok P 69 { size := 1, bytes := 8, agg := some false, zero := some (.nilFunc) } where
  size _ w := Tryd.sizeOf69 w
  agg b h w := by cases h; exact Tryd.isAgg69 w
  fields := fun h => absurd rfl h
  elem e h := by cases h
  kind k h := by cases h
  zero z h w := by cases h; exact Tryd.zeroValue69 w
  str h := (by cases h)
  isBool h := (by cases h)
  arr e m h := by cases h
  sarr e m h := by cases h
  app h := by cases h
  map k e h := by cases h
  flat sh h := by cases h

theorem ti71 : TIok P 71 { size := 1, bytes := 8, agg := some false, map := some (.i64, 69), zero := some (.map none) } where
  size _ w := Tryd.sizeOf71 w
  agg b h w := by cases h; exact Tryd.isAgg71 w
  fields := fun h => absurd rfl h
  elem e h := by cases h
  kind k h := by cases h
  zero z h w := by cases h; exact Tryd.zeroValue71 w
  str h := (by cases h)
  isBool h := (by cases h)
  arr e m h := by cases h
  sarr e m h := by cases h
  app h := by cases h
  map k e h := by cases h; exact ⟨31, Tryd.underlying71, Tryd.underlying31⟩
  flat sh h := by cases h

theorem ti73 : TIok P 73 { size := 2, bytes := 16, agg := some true, arr := some (2, 2), zero := some (.agg #[.int .i64 0, .int .i64 0]) } where
  size _ w := Tryd.sizeOf73 w
  agg b h w := by cases h; exact Tryd.isAgg73 w
  fields := fun h => absurd rfl h
  elem e h := by cases h
  kind k h := by cases h
  zero z h w := by cases h; exact Tryd.zeroValue73 w
  str h := (by cases h)
  isBool h := (by cases h)
  arr e m h := by cases h; exact Tryd.underlying73
  sarr e m h := by cases h
  app h := by cases h
  map k e h := by cases h
  flat sh h := by cases h

theorem ti78 : TIok P 78 { size := 1, bytes := 8, agg := some false, kind := some .u64, zero := some (.int .u64 0) } where
  size _ w := Tryd.sizeOf78 w
  agg b h w := by cases h; exact Tryd.isAgg78 w
  fields := fun h => absurd rfl h
  elem e h := by cases h
  kind k h := by cases h; exact Tryd.underlying78
  zero z h w := by cases h; exact Tryd.zeroValue78 w
  str h := (by cases h)
  isBool h := (by cases h)
  arr e m h := by cases h
  sarr e m h := by cases h
  app h := by cases h
  map k e h := by cases h
  flat sh h := by cases h

theorem ti93 : TIok P 93 { size := 24, bytes := 24, agg := some true, arr := some (5, 24), zero := some (.agg #[.int .u8 0, .int .u8 0, .int .u8 0, .int .u8 0, .int .u8 0, .int .u8 0, .int .u8 0, .int .u8 0, .int .u8 0, .int .u8 0, .int .u8 0, .int .u8 0, .int .u8 0, .int .u8 0, .int .u8 0, .int .u8 0, .int .u8 0, .int .u8 0, .int .u8 0, .int .u8 0, .int .u8 0, .int .u8 0, .int .u8 0, .int .u8 0]) } where
  size _ w := Tryd.sizeOf93 w
  agg b h w := by cases h; exact Tryd.isAgg93 w
  fields := fun h => absurd rfl h
  elem e h := by cases h
  kind k h := by cases h
  zero z h w := by cases h; exact Tryd.zeroValue93 w
  str h := (by cases h)
  isBool h := (by cases h)
  arr e m h := by cases h; exact Tryd.underlying93
  sarr e m h := by cases h
  app h := by cases h
  map k e h := by cases h
  flat sh h := by cases h

theorem ti96 : TIok P 96 { size := 1, bytes := 24, agg := some false, elem := some 5, slc := [(0, 5)], zero := some (.slice none 0 0) } where
  size _ w := Tryd.sizeOf96 w
  agg b h w := by cases h; exact Tryd.isAgg96 w
  fields := fun h => absurd rfl h
  elem e h := by cases h; exact Tryd.underlying96
  kind k h := by cases h
  zero z h w := by cases h; exact Tryd.zeroValue96 w
  str h := (by cases h)
  isBool h := (by cases h)
  arr e m h := by cases h
  sarr e m h := by cases h
  app h := by cases h
  map k e h := by cases h
  flat sh h := by cases h

theorem ti101 : TIok P 101 { size := 20, bytes := 160, agg := some true, arr := some (24, 20), zero := some (.agg #[.int .u64 0, .int .u64 0, .int .u64 0, .int .u64 0, .int .u64 0, .int .u64 0, .int .u64 0, .int .u64 0, .int .u64 0, .int .u64 0, .int .u64 0, .int .u64 0, .int .u64 0, .int .u64 0, .int .u64 0, .int .u64 0, .int .u64 0, .int .u64 0, .int .u64 0, .int .u64 0]) } where
  size _ w := Tryd.sizeOf101 w
  agg b h w := by cases h; exact Tryd.isAgg101 w
  fields := fun h => absurd rfl h
  elem e h := by cases h
  kind k h := by cases h
  zero z h w := by cases h; exact Tryd.zeroValue101 w
  str h := (by cases h)
  isBool h := (by cases h)
  arr e m h := by cases h; exact Tryd.underlying101
  sarr e m h := by cases h
  app h := by cases h
  map k e h := by cases h
  flat sh h := by cases h

theorem ti102 : TIok P 102 { size := 1, bytes := 4, agg := some false, kind := some .u32, zero := some (.int .u32 0) } where
  size _ w := Tryd.sizeOf102 w
  agg b h w := by cases h; exact Tryd.isAgg102 w
  fields := fun h => absurd rfl h
  elem e h := by cases h
  kind k h := by cases h; exact Tryd.underlying102
  zero z h w := by cases h; exact Tryd.zeroValue102 w
  str h := (by cases h)
  isBool h := (by cases h)
  arr e m h := by cases h
  sarr e m h := by cases h
  app h := by cases h
  map k e h := by cases h
  flat sh h := by cases h

theorem ti103 : TIok P 103 { size := 65, bytes := 65, agg := some true, arr := some (5, 65), zero := some (.agg #[.int .u8 0, .int .u8 0, .int .u8 0, .int .u8 0, .int .u8 0, .int .u8 0, .int .u8 0, .int .u8 0, .int .u8 0, .int .u8 0, .int .u8 0, .int .u8 0, .int .u8 0, .int .u8 0, .int .u8 0, .int .u8 0, .int .u8 0, .int .u8 0, .int .u8 0, .int .u8 0, .int .u8 0, .int .u8 0, .int .u8 0, .int .u8 0, .int .u8 0, .int .u8 0, .int .u8 0, .int .u8 0, .int .u8 0, .int .u8 0, .int .u8 0, .int .u8 0, .int .u8 0, .int .u8 0, .int .u8 0, .int .u8 0, .int .u8 0, .int .u8 0, .int .u8 0, .int .u8 0, .int .u8 0, .int .u8 0, .int .u8 0, .int .u8 0, .int .u8 0, .int .u8 0, .int .u8 0, .int .u8 0, .int .u8 0, .int .u8 0, .int .u8 0, .int .u8 0, .int .u8 0, .int .u8 0, .int .u8 0, .int .u8 0, .int .u8 0, .int .u8 0, .int .u8 0, .int .u8 0, .int .u8 0, .int .u8 0, .int .u8 0, .int .u8 0, .int .u8 0]) } where
  size _ w := Tryd.sizeOf103 w
  agg b h w := by cases h; exact Tryd.isAgg103 w
  fields := fun h => absurd rfl h
  elem e h := by cases h
  kind k h := by cases h
  zero z h w := by cases h; exact Tryd.zeroValue103 w
  str h := (by cases h)
  isBool h := (by cases h)
  arr e m h := by cases h; exact Tryd.underlying103
  sarr e m h := by cases h
  app h := by cases h
  map k e h := by cases h
  flat sh h := by cases h

theorem ti109 : TIok P 109 { size := 32, bytes := 32, agg := some true, arr := some (5, 32), zero := some (.agg #[.int .u8 0, .int .u8 0, .int .u8 0, .int .u8 0, .int .u8 0, .int .u8 0, .int .u8 0, .int .u8 0, .int .u8 0, .int .u8 0, .int .u8 0, .int .u8 0, .int .u8 0, .int .u8 0, .int .u8 0, .int .u8 0, .int .u8 0, .int .u8 0, .int .u8 0, .int .u8 0, .int .u8 0, .int .u8 0, .int .u8 0, .int .u8 0, .int .u8 0, .int .u8 0, .int .u8 0, .int .u8 0, .int .u8 0, .int .u8 0, .int .u8 0, .int .u8 0]) } where
  size _ w := Tryd.sizeOf109 w
  agg b h w := by cases h; exact Tryd.isAgg109 w
  fields := fun h => absurd rfl h
  elem e h := by cases h
  kind k h := by cases h
  zero z h w := by cases h; exact Tryd.zeroValue109 w
  str h := (by cases h)
  isBool h := (by cases h)
  arr e m h := by cases h; exact Tryd.underlying109
  sarr e m h := by cases h
  app h := by cases h
  map k e h := by cases h
  flat sh h := by cases h

theorem ti110 : TIok P 110 { size := 64, bytes := 64, agg := some true, arr := some (5, 64), zero := some (.agg #[.int .u8 0, .int .u8 0, .int .u8 0, .int .u8 0, .int .u8 0, .int .u8 0, .int .u8 0, .int .u8 0, .int .u8 0, .int .u8 0, .int .u8 0, .int .u8 0, .int .u8 0, .int .u8 0, .int .u8 0, .int .u8 0, .int .u8 0, .int .u8 0, .int .u8 0, .int .u8 0, .int .u8 0, .int .u8 0, .int .u8 0, .int .u8 0, .int .u8 0, .int .u8 0, .int .u8 0, .int .u8 0, .int .u8 0, .int .u8 0, .int .u8 0, .int .u8 0, .int .u8 0, .int .u8 0, .int .u8 0, .int .u8 0, .int .u8 0, .int .u8 0, .int .u8 0, .int .u8 0, .int .u8 0, .int .u8 0, .int .u8 0, .int .u8 0, .int .u8 0, .int .u8 0, .int .u8 0, .int .u8 0, .int .u8 0, .int .u8 0, .int .u8 0, .int .u8 0, .int .u8 0, .int .u8 0, .int .u8 0, .int .u8 0, .int .u8 0, .int .u8 0, .int .u8 0, .int .u8 0, .int .u8 0, .int .u8 0, .int .u8 0, .int .u8 0]) } where
  size _ w := Tryd.sizeOf110 w
  agg b h w := by cases h; exact Tryd.isAgg110 w
  fields := fun h => absurd rfl h
  elem e h := by cases h
  kind k h := by cases h
  zero z h w := by cases h; exact Tryd.zeroValue110 w
  str h := (by cases h)
  isBool h := (by cases h)
  arr e m h := by cases h; exact Tryd.underlying110
  sarr e m h := by cases h
  app h := by cases h
  map k e h := by cases h
  flat sh h := by cases h

noncomputable def tis : List TI := [{},
  {},
  { size := 1, bytes := 8, agg := some false, app := true, kind := some .i64, zero := some (.int .i64 0) },
  { size := 1, bytes := 8, agg := some false, kind := some .i64, zero := some (.int .i64 0) },
  { size := 1, bytes := 1, agg := some false, zero := some (.bool false), isBool := true },
  { size := 1, bytes := 1, agg := some false, app := true, kind := some .u8, zero := some (.int .u8 0) },
  {},
  {},
  {},
  { size := 1, bytes := 16, agg := some false, zero := some (.string ⟨#[]⟩), str := true },
  {},
  {},
  {},
  {},
  {},
  {},
  {},
  {},
  {},
  {},
  {},
  {},
  { size := 2, bytes := 16, agg := some true, fields := [(0, 2), (1, 2)], zero := some (.agg #[.int .i64 0, .int .i64 0]), flat := some [.int .i64, .int .i64] },
  { size := 2, bytes := 16, agg := some true, fields := [(0, 2), (1, 2)], zero := some (.agg #[.int .i64 0, .int .i64 0]), flat := some [.int .i64, .int .i64] },
  { size := 1, bytes := 8, agg := some false, app := true, kind := some .u64, zero := some (.int .u64 0) },
  { size := 2, bytes := 16, agg := some true, fields := [(0, 24), (1, 24)], zero := some (.agg #[.int .u64 0, .int .u64 0]), flat := some [.int .u64, .int .u64] },
  { size := 2, bytes := 16, agg := some true, fields := [(0, 24), (1, 24)], zero := some (.agg #[.int .u64 0, .int .u64 0]), flat := some [.int .u64, .int .u64] },
  { size := 4, bytes := 32, agg := some true, fields := [(0, 23), (2, 26)], zero := some (.agg #[.int .i64 0, .int .i64 0, .int .u64 0, .int .u64 0]), flat := some [.int .i64, .int .i64, .int .u64, .int .u64] },
  { size := 4, bytes := 32, agg := some true, fields := [(0, 23), (2, 26)], zero := some (.agg #[.int .i64 0, .int .i64 0, .int .u64 0, .int .u64 0]), flat := some [.int .i64, .int .i64, .int .u64, .int .u64] },
  {},
  {},
  { size := 1, bytes := 8, agg := some false, app := true, kind := some .i64, zero := some (.int .i64 0) },
  { size := 1, bytes := 24, agg := some false, elem := some 31, slc := [(0, 31)], zero := some (.slice none 0 0) },
  {},
  {},
  {},
  {},
  {},
  {},
  {},
  {},
  {},
  {},
  {},
  {},
  {},
  {},
  { size := 2, bytes := 16, agg := some true, sarr := some (24, 2), zero := some (.agg #[.int .u64 0, .int .u64 0]) },
  { size := 2, bytes := 16, agg := some true, sarr := some (24, 2), zero := some (.agg #[.int .u64 0, .int .u64 0]), flat := some [.int .u64, .int .u64] },
  {},
  {},
  {},
  {},
  {},
  {},
  {},
  {},
  {},
  {},
  {},
  {},
  {},
  {},
  {},
  {},
  {},
  {},
  {},
  {},
  { size := 1, bytes := 8, agg := some false, zero := some (.nilFunc) },
  {},
  { size := 1, bytes := 8, agg := some false, map := some (.i64, 69), zero := some (.map none) },
  {},
  { size := 2, bytes := 16, agg := some true, arr := some (2, 2), zero := some (.agg #[.int .i64 0, .int .i64 0]) },
  {},
  {},
  {},
  {},
  { size := 1, bytes := 8, agg := some false, kind := some .u64, zero := some (.int .u64 0) },
  {},
  {},
  {},
  {},
  {},
  {},
  {},
  {},
  {},
  {},
  {},
  {},
  {},
  {},
  { size := 24, bytes := 24, agg := some true, arr := some (5, 24), zero := some (.agg #[.int .u8 0, .int .u8 0, .int .u8 0, .int .u8 0, .int .u8 0, .int .u8 0, .int .u8 0, .int .u8 0, .int .u8 0, .int .u8 0, .int .u8 0, .int .u8 0, .int .u8 0, .int .u8 0, .int .u8 0, .int .u8 0, .int .u8 0, .int .u8 0, .int .u8 0, .int .u8 0, .int .u8 0, .int .u8 0, .int .u8 0, .int .u8 0]) },
  {},
  {},
  { size := 1, bytes := 24, agg := some false, elem := some 5, slc := [(0, 5)], zero := some (.slice none 0 0) },
  {},
  {},
  {},
  {},
  { size := 20, bytes := 160, agg := some true, arr := some (24, 20), zero := some (.agg #[.int .u64 0, .int .u64 0, .int .u64 0, .int .u64 0, .int .u64 0, .int .u64 0, .int .u64 0, .int .u64 0, .int .u64 0, .int .u64 0, .int .u64 0, .int .u64 0, .int .u64 0, .int .u64 0, .int .u64 0, .int .u64 0, .int .u64 0, .int .u64 0, .int .u64 0, .int .u64 0]) },
  { size := 1, bytes := 4, agg := some false, kind := some .u32, zero := some (.int .u32 0) },
  { size := 65, bytes := 65, agg := some true, arr := some (5, 65), zero := some (.agg #[.int .u8 0, .int .u8 0, .int .u8 0, .int .u8 0, .int .u8 0, .int .u8 0, .int .u8 0, .int .u8 0, .int .u8 0, .int .u8 0, .int .u8 0, .int .u8 0, .int .u8 0, .int .u8 0, .int .u8 0, .int .u8 0, .int .u8 0, .int .u8 0, .int .u8 0, .int .u8 0, .int .u8 0, .int .u8 0, .int .u8 0, .int .u8 0, .int .u8 0, .int .u8 0, .int .u8 0, .int .u8 0, .int .u8 0, .int .u8 0, .int .u8 0, .int .u8 0, .int .u8 0, .int .u8 0, .int .u8 0, .int .u8 0, .int .u8 0, .int .u8 0, .int .u8 0, .int .u8 0, .int .u8 0, .int .u8 0, .int .u8 0, .int .u8 0, .int .u8 0, .int .u8 0, .int .u8 0, .int .u8 0, .int .u8 0, .int .u8 0, .int .u8 0, .int .u8 0, .int .u8 0, .int .u8 0, .int .u8 0, .int .u8 0, .int .u8 0, .int .u8 0, .int .u8 0, .int .u8 0, .int .u8 0, .int .u8 0, .int .u8 0, .int .u8 0, .int .u8 0]) },
  {},
  {},
  {},
  {},
  {},
  { size := 32, bytes := 32, agg := some true, arr := some (5, 32), zero := some (.agg #[.int .u8 0, .int .u8 0, .int .u8 0, .int .u8 0, .int .u8 0, .int .u8 0, .int .u8 0, .int .u8 0, .int .u8 0, .int .u8 0, .int .u8 0, .int .u8 0, .int .u8 0, .int .u8 0, .int .u8 0, .int .u8 0, .int .u8 0, .int .u8 0, .int .u8 0, .int .u8 0, .int .u8 0, .int .u8 0, .int .u8 0, .int .u8 0, .int .u8 0, .int .u8 0, .int .u8 0, .int .u8 0, .int .u8 0, .int .u8 0, .int .u8 0, .int .u8 0]) },
  { size := 64, bytes := 64, agg := some true, arr := some (5, 64), zero := some (.agg #[.int .u8 0, .int .u8 0, .int .u8 0, .int .u8 0, .int .u8 0, .int .u8 0, .int .u8 0, .int .u8 0, .int .u8 0, .int .u8 0, .int .u8 0, .int .u8 0, .int .u8 0, .int .u8 0, .int .u8 0, .int .u8 0, .int .u8 0, .int .u8 0, .int .u8 0, .int .u8 0, .int .u8 0, .int .u8 0, .int .u8 0, .int .u8 0, .int .u8 0, .int .u8 0, .int .u8 0, .int .u8 0, .int .u8 0, .int .u8 0, .int .u8 0, .int .u8 0, .int .u8 0, .int .u8 0, .int .u8 0, .int .u8 0, .int .u8 0, .int .u8 0, .int .u8 0, .int .u8 0, .int .u8 0, .int .u8 0, .int .u8 0, .int .u8 0, .int .u8 0, .int .u8 0, .int .u8 0, .int .u8 0, .int .u8 0, .int .u8 0, .int .u8 0, .int .u8 0, .int .u8 0, .int .u8 0, .int .u8 0, .int .u8 0, .int .u8 0, .int .u8 0, .int .u8 0, .int .u8 0, .int .u8 0, .int .u8 0, .int .u8 0, .int .u8 0]) },
  {},
  {},
  {},
  {},
  {},
  {},
  {},
  {},
  {},
  {},
  {},
  {},
  {},
  {},
  {},
  {},
  {},
  {}]

set_option maxRecDepth 100000 in
theorem tis_all : AllTI P 0 tis := ⟨(TIok.default _ _), ⟨(TIok.default _ _), ⟨ti2, ⟨ti3, ⟨ti4, ⟨ti5, ⟨(TIok.default _ _), ⟨(TIok.default _ _), ⟨(TIok.default _ _), ⟨ti9, ⟨(TIok.default _ _), ⟨(TIok.default _ _), ⟨(TIok.default _ _), ⟨(TIok.default _ _), ⟨(TIok.default _ _), ⟨(TIok.default _ _), ⟨(TIok.default _ _), ⟨(TIok.default _ _), ⟨(TIok.default _ _), ⟨(TIok.default _ _), ⟨(TIok.default _ _), ⟨(TIok.default _ _), ⟨ti22, ⟨ti23, ⟨ti24, ⟨ti25, ⟨ti26, ⟨ti27, ⟨ti28, ⟨(TIok.default _ _), ⟨(TIok.default _ _), ⟨ti31, ⟨ti32, ⟨(TIok.default _ _), ⟨(TIok.default _ _), ⟨(TIok.default _ _), ⟨(TIok.default _ _), ⟨(TIok.default _ _), ⟨(TIok.default _ _), ⟨(TIok.default _ _), ⟨(TIok.default _ _), ⟨(TIok.default _ _), ⟨(TIok.default _ _), ⟨(TIok.default _ _), ⟨(TIok.default _ _), ⟨(TIok.default _ _), ⟨(TIok.default _ _), ⟨ti47, ⟨ti48, ⟨(TIok.default _ _), ⟨(TIok.default _ _), ⟨(TIok.default _ _), ⟨(TIok.default _ _), ⟨(TIok.default _ _), ⟨(TIok.default _ _), ⟨(TIok.default _ _), ⟨(TIok.default _ _), ⟨(TIok.default _ _), ⟨(TIok.default _ _), ⟨(TIok.default _ _), ⟨(TIok.default _ _), ⟨(TIok.default _ _), ⟨(TIok.default _ _), ⟨(TIok.default _ _), ⟨(TIok.default _ _), ⟨(TIok.default _ _), ⟨(TIok.default _ _), ⟨(TIok.default _ _), ⟨(TIok.default _ _), ⟨ti69, ⟨(TIok.default _ _), ⟨ti71, ⟨(TIok.default _ _), ⟨ti73, ⟨(TIok.default _ _), ⟨(TIok.default _ _), ⟨(TIok.default _ _), ⟨(TIok.default _ _), ⟨ti78, ⟨(TIok.default _ _), ⟨(TIok.default _ _), ⟨(TIok.default _ _), ⟨(TIok.default _ _), ⟨(TIok.default _ _), ⟨(TIok.default _ _), ⟨(TIok.default _ _), ⟨(TIok.default _ _), ⟨(TIok.default _ _), ⟨(TIok.default _ _), ⟨(TIok.default _ _), ⟨(TIok.default _ _), ⟨(TIok.default _ _), ⟨(TIok.default _ _), ⟨ti93, ⟨(TIok.default _ _), ⟨(TIok.default _ _), ⟨ti96, ⟨(TIok.default _ _), ⟨(TIok.default _ _), ⟨(TIok.default _ _), ⟨(TIok.default _ _), ⟨ti101, ⟨ti102, ⟨ti103, ⟨(TIok.default _ _), ⟨(TIok.default _ _), ⟨(TIok.default _ _), ⟨(TIok.default _ _), ⟨(TIok.default _ _), ⟨ti109, ⟨ti110, ⟨(TIok.default _ _), ⟨(TIok.default _ _), ⟨(TIok.default _ _), ⟨(TIok.default _ _), ⟨(TIok.default _ _), ⟨(TIok.default _ _), ⟨(TIok.default _ _), ⟨(TIok.default _ _), ⟨(TIok.default _ _), ⟨(TIok.default _ _), ⟨(TIok.default _ _), ⟨(TIok.default _ _), ⟨(TIok.default _ _), ⟨(TIok.default _ _), ⟨(TIok.default _ _), ⟨(TIok.default _ _), ⟨(TIok.default _ _), ⟨(TIok.default _ _), trivial⟩⟩⟩⟩⟩⟩⟩⟩⟩⟩⟩⟩⟩⟩⟩⟩⟩⟩⟩⟩⟩⟩⟩⟩⟩⟩⟩⟩⟩⟩⟩⟩⟩⟩⟩⟩⟩⟩⟩⟩⟩⟩⟩⟩⟩⟩⟩⟩⟩⟩⟩⟩⟩⟩⟩⟩⟩⟩⟩⟩⟩⟩⟩⟩⟩⟩⟩⟩⟩⟩⟩⟩⟩⟩⟩⟩⟩⟩⟩⟩⟩⟩⟩⟩⟩⟩⟩⟩⟩⟩⟩⟩⟩⟩⟩⟩⟩⟩⟩⟩⟩⟩⟩⟩⟩⟩⟩⟩⟩⟩⟩⟩⟩⟩⟩⟩⟩⟩⟩⟩⟩⟩⟩⟩⟩⟩⟩⟩⟩

noncomputable def base : Cfg El := { P := P, ty := fun t => (nth tis t).getD {}, C := { enc := enc, dec := dec, dft := dft }, call := fun _ _ => none, own := [], pins := [], inv := fun S w => Lib.TabIs P w "internal/strconv.uint64pow10" .u64 Lib.pow10Tab ∧ S 0 }

theorem base_ok : CfgOk base where
  ty t := tis_ok tis_all t
  arr t e m h := arrs_ok (l := tis) (by kernel_rfl) t e m h
  enc t a p := by show all (ok0 p) (enc t a) = true; unfold enc; split <;> rfl
  fresh t a := by show all (fun v => allFr0 (frs true v)) (enc t a) = true; unfold enc; split <;> rfl
  one t a := by show all one (enc t a) = true; unfold enc; split <;> rfl
  plain t a h := by
    have h' : plainT ((nth tis t).getD {}) = true := h
    show all plainV (enc t a) = true
    unfold enc; split <;> first | rfl | (exact absurd h' (by decide))
  old t a := by show all old0 (enc t a) = true; unfold enc; split <;> rfl
  u8 t a h := by
    have h' : ((nth tis t).getD {}).kind = some .u8 := h
    show enc t a = [] ∨ ∃ n, enc t a = [.int .u8 n]
    unfold enc; split <;> first | exact .inr ⟨_, rfl⟩ | exact .inl rfl | (exact absurd h' (by decide))
  inv S S' w w' h hs hb := ⟨tab_kept (g := 0) (by kernel_rfl) h.1 (hb _ h.2), hs _ h.2⟩
  dec t cs a h := by
    have h' : dec t cs = some a := h
    show enc t a = cs
    unfold dec at h'
    split at h' <;> first | (cases h'; rfl) | cases h'

  call f vs r outs ps h := by cases h

theorem mixed : P.follows .mixedOrders = true := by kernel_rfl

noncomputable def noLoop : Nat → Env El → Tr El := fun _ _ => .fail
end Go.Proofs.YtcgafjhkefcdfaaDoor
