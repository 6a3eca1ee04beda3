/-
  Printed by a program for this claim: functions of the code as plain functions, and that the code comes to them. Conditions: those that each theorem states.
-/
import Derived.Test.YtpnegnhbbcligaaProg
import Derived.Test.YtpnegnhbbcligaaIDefs
import Derived.KernelRfl
set_option linter.all false
namespace Go.Proofs.Ytpnegnhbbcligaa
open Go Go.Proofs Vm
noncomputable def P : Program := Try.prog
/-- The types of the lists' elements, each with one of it. -/
noncomputable def elT : Nat → (T : Type) × T
  | 2 => ⟨Int, 0⟩
  | 24 => ⟨S.Inter, (⟨0, 0⟩ : S.Inter)⟩
  | 36 => ⟨Int, 0⟩
  | 67 => ⟨S.Cong, (⟨0, 0⟩ : S.Cong)⟩
  | 69 => ⟨S.Cong, (⟨0, 0⟩ : S.Cong)⟩
  | _ => ⟨Unit, ()⟩
noncomputable def El (t : Nat) : Type := (elT t).1
abbrev W := V El
noncomputable def dft (t : Nat) : El t := (elT t).2
noncomputable def enc : (t : Nat) → El t → List W
  | 2, a => (fun a : Int => [.int .i64 a]) a
  | 24, a => (fun a : S.Inter => [.int .i64 a.Lo, .int .i64 a.Hi]) a
  | 36, a => (fun a : Int => [.int .u64 a]) a
  | 67, a => (fun a : S.Cong => [.int .u64 a.M, .int .u64 a.R]) a
  | 69, a => (fun a : S.Cong => [.int .u64 a.M, .int .u64 a.R]) a
  | _, _ => []
noncomputable def dec : (t : Nat) → List W → Option (El t)
  | 2, [.int .i64 x1] => some (show Int from x1)
  | 24, [.int .i64 x1, .int .i64 x2] => some (show S.Inter from ⟨x1, x2⟩)
  | 36, [.int .u64 x1] => some (show Int from x1)
  | 67, [.int .u64 x1, .int .u64 x2] => some (show S.Cong from ⟨x1, x2⟩)
  | 69, [.int .u64 x1, .int .u64 x2] => some (show S.Cong from ⟨x1, x2⟩)
  | _, _ => none

theorem flat23 : FlatT P 2 23 [.int .i64, .int .i64] :=
  FlatT.struct (sh := [.int .i64, .int .i64]) Try.underlying23 Try.stoodInHeld23 Try.isAgg23 Try.sizeOf23 (.cons (s1 := [.int .i64]) (s2 := [.int .i64]) (by decide) rfl (FlatT.int Try.underlying2 Try.isAgg2) (.cons (s1 := [.int .i64]) (s2 := []) (by decide) rfl (FlatT.int Try.underlying2 Try.isAgg2) (.nil _)))

theorem flat24 : FlatT P 2 24 [.int .i64, .int .i64] :=
  FlatT.struct (sh := [.int .i64, .int .i64]) Try.underlying24 Try.stoodInHeld24 Try.isAgg24 Try.sizeOf24 (.cons (s1 := [.int .i64]) (s2 := [.int .i64]) (by decide) rfl (FlatT.int Try.underlying2 Try.isAgg2) (.cons (s1 := [.int .i64]) (s2 := []) (by decide) rfl (FlatT.int Try.underlying2 Try.isAgg2) (.nil _)))

theorem flat26 : FlatT P 2 26 [.int .i64, .int .i64] :=
  FlatT.struct (sh := [.int .i64, .int .i64]) Try.underlying26 Try.stoodInHeld26 Try.isAgg26 Try.sizeOf26 (.cons (s1 := [.int .i64]) (s2 := [.int .i64]) (by decide) rfl (FlatT.int Try.underlying2 Try.isAgg2) (.cons (s1 := [.int .i64]) (s2 := []) (by decide) rfl (FlatT.int Try.underlying2 Try.isAgg2) (.nil _)))

theorem flat66 : FlatT P 2 66 [.int .u64, .int .u64] :=
  FlatT.struct (sh := [.int .u64, .int .u64]) Try.underlying66 Try.stoodInHeld66 Try.isAgg66 Try.sizeOf66 (.cons (s1 := [.int .u64]) (s2 := [.int .u64]) (by decide) rfl (FlatT.int Try.underlying36 Try.isAgg36) (.cons (s1 := [.int .u64]) (s2 := []) (by decide) rfl (FlatT.int Try.underlying36 Try.isAgg36) (.nil _)))

theorem flat67 : FlatT P 2 67 [.int .u64, .int .u64] :=
  FlatT.struct (sh := [.int .u64, .int .u64]) Try.underlying67 Try.stoodInHeld67 Try.isAgg67 Try.sizeOf67 (.cons (s1 := [.int .u64]) (s2 := [.int .u64]) (by decide) rfl (FlatT.int Try.underlying36 Try.isAgg36) (.cons (s1 := [.int .u64]) (s2 := []) (by decide) rfl (FlatT.int Try.underlying36 Try.isAgg36) (.nil _)))

theorem flat69 : FlatT P 2 69 [.int .u64, .int .u64] :=
  FlatT.struct (sh := [.int .u64, .int .u64]) Try.underlying69 Try.stoodInHeld69 Try.isAgg69 Try.sizeOf69 (.cons (s1 := [.int .u64]) (s2 := [.int .u64]) (by decide) rfl (FlatT.int Try.underlying36 Try.isAgg36) (.cons (s1 := [.int .u64]) (s2 := []) (by decide) rfl (FlatT.int Try.underlying36 Try.isAgg36) (.nil _)))

theorem ti2 : TIok P 2 { size := 1, bytes := 8, agg := some false, app := true, kind := some .i64, zero := some (.int .i64 0) } where
  size _ w := Try.sizeOf2 w
  agg b h w := by cases h; exact Try.isAgg2 w
  fields := fun h => absurd rfl h
  elem e h := by cases h
  kind k h := by cases h; exact Try.underlying2
  zero z h w := by cases h; exact Try.zeroValue2 w
  str h := (by cases h)
  isBool h := (by cases h)
  arr e m h := by cases h
  sarr e m h := by cases h
  app h := app_of Try.type2 rfl rfl rfl rfl
  flat sh h := by cases h

theorem ti3 : TIok P 3 { size := 1, bytes := 8, agg := some false, kind := some .i64, zero := some (.int .i64 0) } where
  size _ w := Try.sizeOf3 w
  agg b h w := by cases h; exact Try.isAgg3 w
  fields := fun h => absurd rfl h
  elem e h := by cases h
  kind k h := by cases h; exact Try.underlying3
  zero z h w := by cases h; exact Try.zeroValue3 w
  str h := (by cases h)
  isBool h := (by cases h)
  arr e m h := by cases h
  sarr e m h := by cases h
  app h := by cases h
  flat sh h := by cases h

theorem ti4 : TIok P 4 { size := 1, bytes := 1, agg := some false, zero := some (.bool false), isBool := true } where
  size _ w := Try.sizeOf4 w
  agg b h w := by cases h; exact Try.isAgg4 w
  fields := fun h => absurd rfl h
  elem e h := by cases h
  kind k h := by cases h
  zero z h w := by cases h; exact Try.zeroValue4 w
  str h := (by cases h)
  isBool h := Try.underlying4
  arr e m h := by cases h
  sarr e m h := by cases h
  app h := by cases h
  flat sh h := by cases h

theorem ti5 : TIok P 5 { size := 1, bytes := 1, agg := some false, kind := some .u8, zero := some (.int .u8 0) } where
  size _ w := Try.sizeOf5 w
  agg b h w := by cases h; exact Try.isAgg5 w
  fields := fun h => absurd rfl h
  elem e h := by cases h
  kind k h := by cases h; exact Try.underlying5
  zero z h w := by cases h; exact Try.zeroValue5 w
  str h := (by cases h)
  isBool h := (by cases h)
  arr e m h := by cases h
  sarr e m h := by cases h
  app h := by cases h
  flat sh h := by cases h

theorem ti9 : TIok P 9 { size := 1, bytes := 16, agg := some false, zero := some (.string ⟨#[]⟩), str := true } where
  size _ w := Try.sizeOf9 w
  agg b h w := by cases h; exact Try.isAgg9 w
  fields := fun h => absurd rfl h
  elem e h := by cases h
  kind k h := by cases h
  zero z h w := by cases h; exact Try.zeroValue9 w
  str h := Try.underlying9
  isBool h := (by cases h)
  arr e m h := by cases h
  sarr e m h := by cases h
  app h := by cases h
  flat sh h := by cases h

theorem ti22 : TIok P 22 { size := 1, bytes := 24, agg := some false, elem := some 24, slc := [(0, 24)], zero := some (.slice none 0 0) } where
  size _ w := Try.sizeOf22 w
  agg b h w := by cases h; exact Try.isAgg22 w
  fields := fun h => absurd rfl h
  elem e h := by cases h; exact Try.underlying22
  kind k h := by cases h
  zero z h w := by cases h; exact Try.zeroValue22 w
  str h := (by cases h)
  isBool h := (by cases h)
  arr e m h := by cases h
  sarr e m h := by cases h
  app h := by cases h
  flat sh h := by cases h

theorem ti23 : TIok P 23 { size := 2, bytes := 16, agg := some true, fields := [(0, 2), (1, 2)], zero := some (.agg #[.int .i64 0, .int .i64 0]), flat := some [.int .i64, .int .i64] } where
  size _ w := Try.sizeOf23 w
  agg b h w := by cases h; exact Try.isAgg23 w
  fields := fun _ => ⟨_, Try.underlying23, rfl⟩
  elem e h := by cases h
  kind k h := by cases h
  zero z h w := by cases h; exact Try.zeroValue23 w
  str h := (by cases h)
  isBool h := (by cases h)
  arr e m h := by cases h
  sarr e m h := by cases h
  app h := by cases h
  flat sh h := by cases h; exact ⟨Try.eqGuardType23, fun xs ys r w h1 h2 h3 => flat23.equal (by decide) Try.isAgg23 xs ys r w h1 h2 h3⟩

theorem ti24 : TIok P 24 { size := 2, bytes := 16, agg := some true, fields := [(0, 2), (1, 2)], app := true, zero := some (.agg #[.int .i64 0, .int .i64 0]), flat := some [.int .i64, .int .i64] } where
  size _ w := Try.sizeOf24 w
  agg b h w := by cases h; exact Try.isAgg24 w
  fields := fun _ => ⟨_, Try.underlying24, rfl⟩
  elem e h := by cases h
  kind k h := by cases h
  zero z h w := by cases h; exact Try.zeroValue24 w
  str h := (by cases h)
  isBool h := (by cases h)
  arr e m h := by cases h
  sarr e m h := by cases h
  app h := app_of Try.type24 rfl rfl rfl rfl
  flat sh h := by cases h; exact ⟨Try.eqGuardType24, fun xs ys r w h1 h2 h3 => flat24.equal (by decide) Try.isAgg24 xs ys r w h1 h2 h3⟩

theorem ti26 : TIok P 26 { size := 2, bytes := 16, agg := some true, fields := [(0, 2), (1, 2)], zero := some (.agg #[.int .i64 0, .int .i64 0]), flat := some [.int .i64, .int .i64] } where
  size _ w := Try.sizeOf26 w
  agg b h w := by cases h; exact Try.isAgg26 w
  fields := fun _ => ⟨_, Try.underlying26, rfl⟩
  elem e h := by cases h
  kind k h := by cases h
  zero z h w := by cases h; exact Try.zeroValue26 w
  str h := (by cases h)
  isBool h := (by cases h)
  arr e m h := by cases h
  sarr e m h := by cases h
  app h := by cases h
  flat sh h := by cases h; exact ⟨Try.eqGuardType26, fun xs ys r w h1 h2 h3 => flat26.equal (by decide) Try.isAgg26 xs ys r w h1 h2 h3⟩

theorem ti36 : TIok P 36 { size := 1, bytes := 8, agg := some false, app := true, kind := some .u64, zero := some (.int .u64 0) } where
  size _ w := Try.sizeOf36 w
  agg b h w := by cases h; exact Try.isAgg36 w
  fields := fun h => absurd rfl h
  elem e h := by cases h
  kind k h := by cases h; exact Try.underlying36
  zero z h w := by cases h; exact Try.zeroValue36 w
  str h := (by cases h)
  isBool h := (by cases h)
  arr e m h := by cases h
  sarr e m h := by cases h
  app h := app_of Try.type36 rfl rfl rfl rfl
  flat sh h := by cases h

theorem ti52 : TIok P 52 { size := 1, bytes := 24, agg := some false, elem := some 2, slc := [(0, 2)], zero := some (.slice none 0 0) } where
  size _ w := Try.sizeOf52 w
  agg b h w := by cases h; exact Try.isAgg52 w
  fields := fun h => absurd rfl h
  elem e h := by cases h; exact Try.underlying52
  kind k h := by cases h
  zero z h w := by cases h; exact Try.zeroValue52 w
  str h := (by cases h)
  isBool h := (by cases h)
  arr e m h := by cases h
  sarr e m h := by cases h
  app h := by cases h
  flat sh h := by cases h

theorem ti60 : TIok P 60 { size := 1, bytes := 8, agg := some false, kind := some .u64, zero := some (.int .u64 0) } where
  size _ w := Try.sizeOf60 w
  agg b h w := by cases h; exact Try.isAgg60 w
  fields := fun h => absurd rfl h
  elem e h := by cases h
  kind k h := by cases h; exact Try.underlying60
  zero z h w := by cases h; exact Try.zeroValue60 w
  str h := (by cases h)
  isBool h := (by cases h)
  arr e m h := by cases h
  sarr e m h := by cases h
  app h := by cases h
  flat sh h := by cases h

theorem ti66 : TIok P 66 { size := 2, bytes := 16, agg := some true, fields := [(0, 36), (1, 36)], zero := some (.agg #[.int .u64 0, .int .u64 0]), flat := some [.int .u64, .int .u64] } where
  size _ w := Try.sizeOf66 w
  agg b h w := by cases h; exact Try.isAgg66 w
  fields := fun _ => ⟨_, Try.underlying66, rfl⟩
  elem e h := by cases h
  kind k h := by cases h
  zero z h w := by cases h; exact Try.zeroValue66 w
  str h := (by cases h)
  isBool h := (by cases h)
  arr e m h := by cases h
  sarr e m h := by cases h
  app h := by cases h
  flat sh h := by cases h; exact ⟨Try.eqGuardType66, fun xs ys r w h1 h2 h3 => flat66.equal (by decide) Try.isAgg66 xs ys r w h1 h2 h3⟩

theorem ti67 : TIok P 67 { size := 2, bytes := 16, agg := some true, fields := [(0, 36), (1, 36)], app := true, zero := some (.agg #[.int .u64 0, .int .u64 0]), flat := some [.int .u64, .int .u64] } where
  size _ w := Try.sizeOf67 w
  agg b h w := by cases h; exact Try.isAgg67 w
  fields := fun _ => ⟨_, Try.underlying67, rfl⟩
  elem e h := by cases h
  kind k h := by cases h
  zero z h w := by cases h; exact Try.zeroValue67 w
  str h := (by cases h)
  isBool h := (by cases h)
  arr e m h := by cases h
  sarr e m h := by cases h
  app h := app_of Try.type67 rfl rfl rfl rfl
  flat sh h := by cases h; exact ⟨Try.eqGuardType67, fun xs ys r w h1 h2 h3 => flat67.equal (by decide) Try.isAgg67 xs ys r w h1 h2 h3⟩

theorem ti69 : TIok P 69 { size := 2, bytes := 16, agg := some true, fields := [(0, 36), (1, 36)], app := true, zero := some (.agg #[.int .u64 0, .int .u64 0]), flat := some [.int .u64, .int .u64] } where
  size _ w := Try.sizeOf69 w
  agg b h w := by cases h; exact Try.isAgg69 w
  fields := fun _ => ⟨_, Try.underlying69, rfl⟩
  elem e h := by cases h
  kind k h := by cases h
  zero z h w := by cases h; exact Try.zeroValue69 w
  str h := (by cases h)
  isBool h := (by cases h)
  arr e m h := by cases h
  sarr e m h := by cases h
  app h := app_of Try.type69 rfl rfl rfl rfl
  flat sh h := by cases h; exact ⟨Try.eqGuardType69, fun xs ys r w h1 h2 h3 => flat69.equal (by decide) Try.isAgg69 xs ys r w h1 h2 h3⟩

theorem ti84 : TIok P 84 { size := 1, bytes := 24, agg := some false, elem := some 67, slc := [(0, 67)], zero := some (.slice none 0 0) } where
  size _ w := Try.sizeOf84 w
  agg b h w := by cases h; exact Try.isAgg84 w
  fields := fun h => absurd rfl h
  elem e h := by cases h; exact Try.underlying84
  kind k h := by cases h
  zero z h w := by cases h; exact Try.zeroValue84 w
  str h := (by cases h)
  isBool h := (by cases h)
  arr e m h := by cases h
  sarr e m h := by cases h
  app h := by cases h
  flat sh h := by cases h

theorem ti87 : TIok P 87 { size := 1, bytes := 24, agg := some false, elem := some 69, slc := [(0, 69)], zero := some (.slice none 0 0) } where
  size _ w := Try.sizeOf87 w
  agg b h w := by cases h; exact Try.isAgg87 w
  fields := fun h => absurd rfl h
  elem e h := by cases h; exact Try.underlying87
  kind k h := by cases h
  zero z h w := by cases h; exact Try.zeroValue87 w
  str h := (by cases h)
  isBool h := (by cases h)
  arr e m h := by cases h
  sarr e m h := by cases h
  app h := by cases h
  flat sh h := by cases h

theorem ti96 : TIok P 96 { size := 1, bytes := 24, agg := some false, elem := some 36, slc := [(0, 36)], zero := some (.slice none 0 0) } where
  size _ w := Try.sizeOf96 w
  agg b h w := by cases h; exact Try.isAgg96 w
  fields := fun h => absurd rfl h
  elem e h := by cases h; exact Try.underlying96
  kind k h := by cases h
  zero z h w := by cases h; exact Try.zeroValue96 w
  str h := (by cases h)
  isBool h := (by cases h)
  arr e m h := by cases h
  sarr e m h := by cases h
  app h := by cases h
  flat sh h := by cases h

noncomputable def tis : List TI := [{},
  {},
  { size := 1, bytes := 8, agg := some false, app := true, kind := some .i64, zero := some (.int .i64 0) },
  { size := 1, bytes := 8, agg := some false, kind := some .i64, zero := some (.int .i64 0) },
  { size := 1, bytes := 1, agg := some false, zero := some (.bool false), isBool := true },
  { size := 1, bytes := 1, agg := some false, kind := some .u8, zero := some (.int .u8 0) },
  {},
  {},
  {},
  { size := 1, bytes := 16, agg := some false, zero := some (.string ⟨#[]⟩), str := true },
  {},
  {},
  {},
  {},
  {},
  {},
  {},
  {},
  {},
  {},
  {},
  {},
  { size := 1, bytes := 24, agg := some false, elem := some 24, slc := [(0, 24)], zero := some (.slice none 0 0) },
  { size := 2, bytes := 16, agg := some true, fields := [(0, 2), (1, 2)], zero := some (.agg #[.int .i64 0, .int .i64 0]), flat := some [.int .i64, .int .i64] },
  { size := 2, bytes := 16, agg := some true, fields := [(0, 2), (1, 2)], app := true, zero := some (.agg #[.int .i64 0, .int .i64 0]), flat := some [.int .i64, .int .i64] },
  {},
  { size := 2, bytes := 16, agg := some true, fields := [(0, 2), (1, 2)], zero := some (.agg #[.int .i64 0, .int .i64 0]), flat := some [.int .i64, .int .i64] },
  {},
  {},
  {},
  {},
  {},
  {},
  {},
  {},
  {},
  { size := 1, bytes := 8, agg := some false, app := true, kind := some .u64, zero := some (.int .u64 0) },
  {},
  {},
  {},
  {},
  {},
  {},
  {},
  {},
  {},
  {},
  {},
  {},
  {},
  {},
  {},
  { size := 1, bytes := 24, agg := some false, elem := some 2, slc := [(0, 2)], zero := some (.slice none 0 0) },
  {},
  {},
  {},
  {},
  {},
  {},
  {},
  { size := 1, bytes := 8, agg := some false, kind := some .u64, zero := some (.int .u64 0) },
  {},
  {},
  {},
  {},
  {},
  { size := 2, bytes := 16, agg := some true, fields := [(0, 36), (1, 36)], zero := some (.agg #[.int .u64 0, .int .u64 0]), flat := some [.int .u64, .int .u64] },
  { size := 2, bytes := 16, agg := some true, fields := [(0, 36), (1, 36)], app := true, zero := some (.agg #[.int .u64 0, .int .u64 0]), flat := some [.int .u64, .int .u64] },
  {},
  { size := 2, bytes := 16, agg := some true, fields := [(0, 36), (1, 36)], app := true, zero := some (.agg #[.int .u64 0, .int .u64 0]), flat := some [.int .u64, .int .u64] },
  {},
  {},
  {},
  {},
  {},
  {},
  {},
  {},
  {},
  {},
  {},
  {},
  {},
  {},
  { size := 1, bytes := 24, agg := some false, elem := some 67, slc := [(0, 67)], zero := some (.slice none 0 0) },
  {},
  {},
  { size := 1, bytes := 24, agg := some false, elem := some 69, slc := [(0, 69)], zero := some (.slice none 0 0) },
  {},
  {},
  {},
  {},
  {},
  {},
  {},
  {},
  { size := 1, bytes := 24, agg := some false, elem := some 36, slc := [(0, 36)], zero := some (.slice none 0 0) },
  {},
  {},
  {},
  {},
  {},
  {},
  {},
  {},
  {},
  {},
  {},
  {},
  {},
  {},
  {},
  {},
  {},
  {},
  {},
  {},
  {},
  {},
  {},
  {},
  {},
  {},
  {},
  {},
  {},
  {},
  {},
  {},
  {},
  {},
  {},
  {},
  {},
  {},
  {},
  {},
  {},
  {},
  {},
  {},
  {},
  {},
  {},
  {},
  {},
  {}]

set_option maxRecDepth 100000 in
theorem tis_all : AllTI P 0 tis := ⟨(TIok.default _ _), ⟨(TIok.default _ _), ⟨ti2, ⟨ti3, ⟨ti4, ⟨ti5, ⟨(TIok.default _ _), ⟨(TIok.default _ _), ⟨(TIok.default _ _), ⟨ti9, ⟨(TIok.default _ _), ⟨(TIok.default _ _), ⟨(TIok.default _ _), ⟨(TIok.default _ _), ⟨(TIok.default _ _), ⟨(TIok.default _ _), ⟨(TIok.default _ _), ⟨(TIok.default _ _), ⟨(TIok.default _ _), ⟨(TIok.default _ _), ⟨(TIok.default _ _), ⟨(TIok.default _ _), ⟨ti22, ⟨ti23, ⟨ti24, ⟨(TIok.default _ _), ⟨ti26, ⟨(TIok.default _ _), ⟨(TIok.default _ _), ⟨(TIok.default _ _), ⟨(TIok.default _ _), ⟨(TIok.default _ _), ⟨(TIok.default _ _), ⟨(TIok.default _ _), ⟨(TIok.default _ _), ⟨(TIok.default _ _), ⟨ti36, ⟨(TIok.default _ _), ⟨(TIok.default _ _), ⟨(TIok.default _ _), ⟨(TIok.default _ _), ⟨(TIok.default _ _), ⟨(TIok.default _ _), ⟨(TIok.default _ _), ⟨(TIok.default _ _), ⟨(TIok.default _ _), ⟨(TIok.default _ _), ⟨(TIok.default _ _), ⟨(TIok.default _ _), ⟨(TIok.default _ _), ⟨(TIok.default _ _), ⟨(TIok.default _ _), ⟨ti52, ⟨(TIok.default _ _), ⟨(TIok.default _ _), ⟨(TIok.default _ _), ⟨(TIok.default _ _), ⟨(TIok.default _ _), ⟨(TIok.default _ _), ⟨(TIok.default _ _), ⟨ti60, ⟨(TIok.default _ _), ⟨(TIok.default _ _), ⟨(TIok.default _ _), ⟨(TIok.default _ _), ⟨(TIok.default _ _), ⟨ti66, ⟨ti67, ⟨(TIok.default _ _), ⟨ti69, ⟨(TIok.default _ _), ⟨(TIok.default _ _), ⟨(TIok.default _ _), ⟨(TIok.default _ _), ⟨(TIok.default _ _), ⟨(TIok.default _ _), ⟨(TIok.default _ _), ⟨(TIok.default _ _), ⟨(TIok.default _ _), ⟨(TIok.default _ _), ⟨(TIok.default _ _), ⟨(TIok.default _ _), ⟨(TIok.default _ _), ⟨(TIok.default _ _), ⟨ti84, ⟨(TIok.default _ _), ⟨(TIok.default _ _), ⟨ti87, ⟨(TIok.default _ _), ⟨(TIok.default _ _), ⟨(TIok.default _ _), ⟨(TIok.default _ _), ⟨(TIok.default _ _), ⟨(TIok.default _ _), ⟨(TIok.default _ _), ⟨(TIok.default _ _), ⟨ti96, ⟨(TIok.default _ _), ⟨(TIok.default _ _), ⟨(TIok.default _ _), ⟨(TIok.default _ _), ⟨(TIok.default _ _), ⟨(TIok.default _ _), ⟨(TIok.default _ _), ⟨(TIok.default _ _), ⟨(TIok.default _ _), ⟨(TIok.default _ _), ⟨(TIok.default _ _), ⟨(TIok.default _ _), ⟨(TIok.default _ _), ⟨(TIok.default _ _), ⟨(TIok.default _ _), ⟨(TIok.default _ _), ⟨(TIok.default _ _), ⟨(TIok.default _ _), ⟨(TIok.default _ _), ⟨(TIok.default _ _), ⟨(TIok.default _ _), ⟨(TIok.default _ _), ⟨(TIok.default _ _), ⟨(TIok.default _ _), ⟨(TIok.default _ _), ⟨(TIok.default _ _), ⟨(TIok.default _ _), ⟨(TIok.default _ _), ⟨(TIok.default _ _), ⟨(TIok.default _ _), ⟨(TIok.default _ _), ⟨(TIok.default _ _), ⟨(TIok.default _ _), ⟨(TIok.default _ _), ⟨(TIok.default _ _), ⟨(TIok.default _ _), ⟨(TIok.default _ _), ⟨(TIok.default _ _), ⟨(TIok.default _ _), ⟨(TIok.default _ _), ⟨(TIok.default _ _), ⟨(TIok.default _ _), ⟨(TIok.default _ _), ⟨(TIok.default _ _), ⟨(TIok.default _ _), ⟨(TIok.default _ _), ⟨(TIok.default _ _), ⟨(TIok.default _ _), ⟨(TIok.default _ _), ⟨(TIok.default _ _), trivial⟩⟩⟩⟩⟩⟩⟩⟩⟩⟩⟩⟩⟩⟩⟩⟩⟩⟩⟩⟩⟩⟩⟩⟩⟩⟩⟩⟩⟩⟩⟩⟩⟩⟩⟩⟩⟩⟩⟩⟩⟩⟩⟩⟩⟩⟩⟩⟩⟩⟩⟩⟩⟩⟩⟩⟩⟩⟩⟩⟩⟩⟩⟩⟩⟩⟩⟩⟩⟩⟩⟩⟩⟩⟩⟩⟩⟩⟩⟩⟩⟩⟩⟩⟩⟩⟩⟩⟩⟩⟩⟩⟩⟩⟩⟩⟩⟩⟩⟩⟩⟩⟩⟩⟩⟩⟩⟩⟩⟩⟩⟩⟩⟩⟩⟩⟩⟩⟩⟩⟩⟩⟩⟩⟩⟩⟩⟩⟩⟩⟩⟩⟩⟩⟩⟩⟩⟩⟩⟩⟩⟩⟩⟩⟩⟩⟩⟩

noncomputable def base : Cfg El := { P := P, ty := fun t => (nth tis t).getD {}, C := { enc := enc, dec := dec, dft := dft }, call := fun _ _ => none, own := [], pins := [] }

theorem base_ok : CfgOk base where
  ty t := tis_ok tis_all t
  arr t e m h := arrs_ok (l := tis) (by kernel_rfl) t e m h
  enc t a p := by show all (ok0 p) (enc t a) = true; unfold enc; split <;> rfl
  fresh t a := by show all (fun v => allFr0 (frs true v)) (enc t a) = true; unfold enc; split <;> rfl
  one t a := by show all one (enc t a) = true; unfold enc; split <;> rfl
  old t a := by show all old0 (enc t a) = true; unfold enc; split <;> rfl
  dec t cs a h := by
    have h' : dec t cs = some a := h
    show enc t a = cs
    unfold dec at h'
    split at h' <;> first | (cases h'; rfl) | cases h'

  call f vs r outs ps h := by cases h

theorem mixed : P.follows .mixedOrders = true := by kernel_rfl

noncomputable def noLoop : Nat → Env El → Tr El := fun _ _ => .fail
end Go.Proofs.Ytpnegnhbbcligaa
