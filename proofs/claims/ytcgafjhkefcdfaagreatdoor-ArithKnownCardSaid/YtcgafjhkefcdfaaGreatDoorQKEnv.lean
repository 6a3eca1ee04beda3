/-
  Printed by a program for this claim: functions of the code as plain functions, and that the code comes to them. Conditions: those that each theorem states.
-/
import Derived.Test.YtcgafjhkefcdfaaGreatDoorProg
import Derived.Test.YtcgafjhkefcdfaaGreatDoorQKDefs
import Derived.KernelRfl
set_option linter.all false
namespace Go.Proofs.YtcgafjhkefcdfaaGreatDoor
open Go Go.Proofs Vm
noncomputable def P : Program := Tryz.prog
noncomputable def elT : Nat → (T : Type) × T
 | 2 => ⟨Int, 0⟩
 | 3 => ⟨Int, 0⟩
 | 5 => ⟨Int, 0⟩
 | 24 => ⟨Int, 0⟩
 | 28 => ⟨S.Value, (⟨(⟨0, 0⟩ : S.Inter), (⟨0, 0⟩ : S.Cong)⟩ : S.Value)⟩
 | 35 => ⟨Int, 0⟩
 | _ => ⟨Unit, ()⟩
noncomputable def El (t : Nat) : Type := (elT t).1
abbrev W := V El
noncomputable def dft (t : Nat) : El t := (elT t).2
noncomputable def enc : (t : Nat) → El t → List W
 | 2, a => (fun a : Int => [.int .i64 a]) a
 | 3, a => (fun a : Int => [.int .i64 a]) a
 | 5, a => (fun a : Int => [.int .u8 a]) a
 | 24, a => (fun a : Int => [.int .u64 a]) a
 | 28, a => (fun a : S.Value => [.int .i64 a.I.Lo, .int .i64 a.I.Hi, .int .u64 a.C.M, .int .u64 a.C.R]) a
 | 35, a => (fun a : Int => [.int .i64 a]) a
 | _, _ => []
noncomputable def dec : (t : Nat) → List W → Option (El t)
 | 2, [.int .i64 x1] => some (show Int from x1)
 | 3, [.int .i64 x1] => some (show Int from x1)
 | 5, [.int .u8 x1] => some (show Int from x1)
 | 24, [.int .u64 x1] => some (show Int from x1)
 | 28, [.int .i64 x1, .int .i64 x2, .int .u64 x3, .int .u64 x4] => some (show S.Value from ⟨⟨x1, x2⟩, ⟨x3, x4⟩⟩)
 | 35, [.int .i64 x1] => some (show Int from x1)
 | _, _ => none
theorem flat22 : FlatT P 2 22 [.int .i64, .int .i64] :=
 FlatT.struct (sh := [.int .i64, .int .i64]) Tryz.underlying22 Tryz.stoodInHeld22 Tryz.isAgg22 Tryz.sizeOf22 (.cons (s1 := [.int .i64]) (s2 := [.int .i64]) (by decide) rfl (FlatT.int Tryz.underlying2 Tryz.isAgg2) (.cons (s1 := [.int .i64]) (s2 := []) (by decide) rfl (FlatT.int Tryz.underlying2 Tryz.isAgg2) (.nil _)))
theorem flat23 : FlatT P 2 23 [.int .i64, .int .i64] :=
 FlatT.struct (sh := [.int .i64, .int .i64]) Tryz.underlying23 Tryz.stoodInHeld23 Tryz.isAgg23 Tryz.sizeOf23 (.cons (s1 := [.int .i64]) (s2 := [.int .i64]) (by decide) rfl (FlatT.int Tryz.underlying2 Tryz.isAgg2) (.cons (s1 := [.int .i64]) (s2 := []) (by decide) rfl (FlatT.int Tryz.underlying2 Tryz.isAgg2) (.nil _)))
theorem flat25 : FlatT P 2 25 [.int .u64, .int .u64] :=
 FlatT.struct (sh := [.int .u64, .int .u64]) Tryz.underlying25 Tryz.stoodInHeld25 Tryz.isAgg25 Tryz.sizeOf25 (.cons (s1 := [.int .u64]) (s2 := [.int .u64]) (by decide) rfl (FlatT.int Tryz.underlying24 Tryz.isAgg24) (.cons (s1 := [.int .u64]) (s2 := []) (by decide) rfl (FlatT.int Tryz.underlying24 Tryz.isAgg24) (.nil _)))
theorem flat26 : FlatT P 2 26 [.int .u64, .int .u64] :=
 FlatT.struct (sh := [.int .u64, .int .u64]) Tryz.underlying26 Tryz.stoodInHeld26 Tryz.isAgg26 Tryz.sizeOf26 (.cons (s1 := [.int .u64]) (s2 := [.int .u64]) (by decide) rfl (FlatT.int Tryz.underlying24 Tryz.isAgg24) (.cons (s1 := [.int .u64]) (s2 := []) (by decide) rfl (FlatT.int Tryz.underlying24 Tryz.isAgg24) (.nil _)))
theorem flat27 : FlatT P 3 27 [.int .i64, .int .i64, .int .u64, .int .u64] :=
 FlatT.struct (sh := [.int .i64, .int .i64, .int .u64, .int .u64]) Tryz.underlying27 Tryz.stoodInHeld27 Tryz.isAgg27 Tryz.sizeOf27 (.cons (s1 := [.int .i64, .int .i64]) (s2 := [.int .u64, .int .u64]) (by decide) rfl flat23 (.cons (s1 := [.int .u64, .int .u64]) (s2 := []) (by decide) rfl flat26 (.nil _)))
theorem flat28 : FlatT P 3 28 [.int .i64, .int .i64, .int .u64, .int .u64] :=
 FlatT.struct (sh := [.int .i64, .int .i64, .int .u64, .int .u64]) Tryz.underlying28 Tryz.stoodInHeld28 Tryz.isAgg28 Tryz.sizeOf28 (.cons (s1 := [.int .i64, .int .i64]) (s2 := [.int .u64, .int .u64]) (by decide) rfl flat23 (.cons (s1 := [.int .u64, .int .u64]) (s2 := []) (by decide) rfl flat26 (.nil _)))
theorem flat29 : FlatT P 2 29 [.int .i64, .int .i64] :=
 FlatT.struct (sh := [.int .i64, .int .i64]) Tryz.underlying29 Tryz.stoodInHeld29 Tryz.isAgg29 Tryz.sizeOf29 (.cons (s1 := [.int .i64]) (s2 := [.int .i64]) (by decide) rfl (FlatT.int Tryz.underlying2 Tryz.isAgg2) (.cons (s1 := [.int .i64]) (s2 := []) (by decide) rfl (FlatT.int Tryz.underlying2 Tryz.isAgg2) (.nil _)))
theorem flat30 : FlatT P 2 30 [.int .u64, .int .u64] :=
 FlatT.struct (sh := [.int .u64, .int .u64]) Tryz.underlying30 Tryz.stoodInHeld30 Tryz.isAgg30 Tryz.sizeOf30 (.cons (s1 := [.int .u64]) (s2 := [.int .u64]) (by decide) rfl (FlatT.int Tryz.underlying24 Tryz.isAgg24) (.cons (s1 := [.int .u64]) (s2 := []) (by decide) rfl (FlatT.int Tryz.underlying24 Tryz.isAgg24) (.nil _)))
theorem flat31 : FlatT P 3 31 [.int .i64, .int .i64, .int .u64, .int .u64] :=
 FlatT.struct (sh := [.int .i64, .int .i64, .int .u64, .int .u64]) Tryz.underlying31 Tryz.stoodInHeld31 Tryz.isAgg31 Tryz.sizeOf31 (.cons (s1 := [.int .i64, .int .i64]) (s2 := [.int .u64, .int .u64]) (by decide) rfl flat29 (.cons (s1 := [.int .u64, .int .u64]) (s2 := []) (by decide) rfl flat30 (.nil _)))
theorem flat32 : FlatT P 3 32 [.int .i64, .int .i64, .int .u64, .int .u64] :=
 FlatT.struct (sh := [.int .i64, .int .i64, .int .u64, .int .u64]) Tryz.underlying32 Tryz.stoodInHeld32 Tryz.isAgg32 Tryz.sizeOf32 (.cons (s1 := [.int .i64, .int .i64]) (s2 := [.int .u64, .int .u64]) (by decide) rfl flat29 (.cons (s1 := [.int .u64, .int .u64]) (s2 := []) (by decide) rfl flat30 (.nil _)))
theorem flat68 : FlatT P 2 68 [.int .u64, .int .u64] :=
 FlatT.array (n := 2) Tryz.underlying68 Tryz.isAgg68 Tryz.sizeOf68 Tryz.sizeOf24 Tryz.isAgg24 (FlatT.int Tryz.underlying24 Tryz.isAgg24)
theorem ti2 : TIok P 2 { size := 1, bytes := 8, agg := some false, app := true, kind := some .i64, zero := some (.int .i64 0) } where
 size _ w := Tryz.sizeOf2 w
 agg b h w := by cases h; exact Tryz.isAgg2 w
 fields := fun h => absurd rfl h
 elem e h := by cases h
 kind k h := by cases h; exact Tryz.underlying2
 zero z h w := by cases h; exact Tryz.zeroValue2 w
 str h := (by cases h)
 isBool h := (by cases h)
 arr e m h := by cases h
 sarr e m h := by cases h
 app h := app_of Tryz.type2 rfl rfl rfl rfl
 map k e h := by cases h
 flat sh h := by cases h
theorem ti3 : TIok P 3 { size := 1, bytes := 8, agg := some false, app := true, kind := some .i64, zero := some (.int .i64 0) } where
 size _ w := Tryz.sizeOf3 w
 agg b h w := by cases h; exact Tryz.isAgg3 w
 fields := fun h => absurd rfl h
 elem e h := by cases h
 kind k h := by cases h; exact Tryz.underlying3
 zero z h w := by cases h; exact Tryz.zeroValue3 w
 str h := (by cases h)
 isBool h := (by cases h)
 arr e m h := by cases h
 sarr e m h := by cases h
 app h := app_of Tryz.type3 rfl rfl rfl rfl
 map k e h := by cases h
 flat sh h := by cases h
theorem ti4 : TIok P 4 { size := 1, bytes := 1, agg := some false, zero := some (.bool false), isBool := true } where
 size _ w := Tryz.sizeOf4 w
 agg b h w := by cases h; exact Tryz.isAgg4 w
 fields := fun h => absurd rfl h
 elem e h := by cases h
 kind k h := by cases h
 zero z h w := by cases h; exact Tryz.zeroValue4 w
 str h := (by cases h)
 isBool h := Tryz.underlying4
 arr e m h := by cases h
 sarr e m h := by cases h
 app h := by cases h
 map k e h := by cases h
 flat sh h := by cases h
theorem ti5 : TIok P 5 { size := 1, bytes := 1, agg := some false, app := true, kind := some .u8, zero := some (.int .u8 0) } where
 size _ w := Tryz.sizeOf5 w
 agg b h w := by cases h; exact Tryz.isAgg5 w
 fields := fun h => absurd rfl h
 elem e h := by cases h
 kind k h := by cases h; exact Tryz.underlying5
 zero z h w := by cases h; exact Tryz.zeroValue5 w
 str h := (by cases h)
 isBool h := (by cases h)
 arr e m h := by cases h
 sarr e m h := by cases h
 app h := app_of Tryz.type5 rfl rfl rfl rfl
 map k e h := by cases h
 flat sh h := by cases h
theorem ti9 : TIok P 9 { size := 1, bytes := 16, agg := some false, zero := some (.string ⟨#[]⟩), str := true } where
 size _ w := Tryz.sizeOf9 w
 agg b h w := by cases h; exact Tryz.isAgg9 w
 fields := fun h => absurd rfl h
 elem e h := by cases h
 kind k h := by cases h
 zero z h w := by cases h; exact Tryz.zeroValue9 w
 str h := Tryz.underlying9
 isBool h := (by cases h)
 arr e m h := by cases h
 sarr e m h := by cases h
 app h := by cases h
 map k e h := by cases h
 flat sh h := by cases h
theorem ti22 : TIok P 22 { size := 2, bytes := 16, agg := some true, fields := [(0, 2), (1, 2)], zero := some (.agg #[.int .i64 0, .int .i64 0]), flat := some [.int .i64, .int .i64] } where
 size _ w := Tryz.sizeOf22 w
 agg b h w := by cases h; exact Tryz.isAgg22 w
 fields := fun _ => ⟨_, Tryz.underlying22, rfl⟩
 elem e h := by cases h
 kind k h := by cases h
 zero z h w := by cases h; exact Tryz.zeroValue22 w
 str h := (by cases h)
 isBool h := (by cases h)
 arr e m h := by cases h
 sarr e m h := by cases h
 app h := by cases h
 map k e h := by cases h
 flat sh h := by cases h; exact ⟨Tryz.eqGuardType22, fun xs ys r w h1 h2 h3 => flat22.equal (by decide) Tryz.isAgg22 xs ys r w h1 h2 h3⟩
theorem ti23 : TIok P 23 { size := 2, bytes := 16, agg := some true, fields := [(0, 2), (1, 2)], zero := some (.agg #[.int .i64 0, .int .i64 0]), flat := some [.int .i64, .int .i64] } where
 size _ w := Tryz.sizeOf23 w
 agg b h w := by cases h; exact Tryz.isAgg23 w
 fields := fun _ => ⟨_, Tryz.underlying23, rfl⟩
 elem e h := by cases h
 kind k h := by cases h
 zero z h w := by cases h; exact Tryz.zeroValue23 w
 str h := (by cases h)
 isBool h := (by cases h)
 arr e m h := by cases h
 sarr e m h := by cases h
 app h := by cases h
 map k e h := by cases h
 flat sh h := by cases h; exact ⟨Tryz.eqGuardType23, fun xs ys r w h1 h2 h3 => flat23.equal (by decide) Tryz.isAgg23 xs ys r w h1 h2 h3⟩
theorem ti24 : TIok P 24 { size := 1, bytes := 8, agg := some false, app := true, kind := some .u64, zero := some (.int .u64 0) } where
 size _ w := Tryz.sizeOf24 w
 agg b h w := by cases h; exact Tryz.isAgg24 w
 fields := fun h => absurd rfl h
 elem e h := by cases h
 kind k h := by cases h; exact Tryz.underlying24
 zero z h w := by cases h; exact Tryz.zeroValue24 w
 str h := (by cases h)
 isBool h := (by cases h)
 arr e m h := by cases h
 sarr e m h := by cases h
 app h := app_of Tryz.type24 rfl rfl rfl rfl
 map k e h := by cases h
 flat sh h := by cases h
theorem ti25 : TIok P 25 { size := 2, bytes := 16, agg := some true, fields := [(0, 24), (1, 24)], zero := some (.agg #[.int .u64 0, .int .u64 0]), flat := some [.int .u64, .int .u64] } where
 size _ w := Tryz.sizeOf25 w
 agg b h w := by cases h; exact Tryz.isAgg25 w
 fields := fun _ => ⟨_, Tryz.underlying25, rfl⟩
 elem e h := by cases h
 kind k h := by cases h
 zero z h w := by cases h; exact Tryz.zeroValue25 w
 str h := (by cases h)
 isBool h := (by cases h)
 arr e m h := by cases h
 sarr e m h := by cases h
 app h := by cases h
 map k e h := by cases h
 flat sh h := by cases h; exact ⟨Tryz.eqGuardType25, fun xs ys r w h1 h2 h3 => flat25.equal (by decide) Tryz.isAgg25 xs ys r w h1 h2 h3⟩
theorem ti26 : TIok P 26 { size := 2, bytes := 16, agg := some true, fields := [(0, 24), (1, 24)], zero := some (.agg #[.int .u64 0, .int .u64 0]), flat := some [.int .u64, .int .u64] } where
 size _ w := Tryz.sizeOf26 w
 agg b h w := by cases h; exact Tryz.isAgg26 w
 fields := fun _ => ⟨_, Tryz.underlying26, rfl⟩
 elem e h := by cases h
 kind k h := by cases h
 zero z h w := by cases h; exact Tryz.zeroValue26 w
 str h := (by cases h)
 isBool h := (by cases h)
 arr e m h := by cases h
 sarr e m h := by cases h
 app h := by cases h
 map k e h := by cases h
 flat sh h := by cases h; exact ⟨Tryz.eqGuardType26, fun xs ys r w h1 h2 h3 => flat26.equal (by decide) Tryz.isAgg26 xs ys r w h1 h2 h3⟩
theorem ti27 : TIok P 27 { size := 4, bytes := 32, agg := some true, fields := [(0, 23), (2, 26)], zero := some (.agg #[.int .i64 0, .int .i64 0, .int .u64 0, .int .u64 0]), flat := some [.int .i64, .int .i64, .int .u64, .int .u64] } where
 size _ w := Tryz.sizeOf27 w
 agg b h w := by cases h; exact Tryz.isAgg27 w
 fields := fun _ => ⟨_, Tryz.underlying27, rfl⟩
 elem e h := by cases h
 kind k h := by cases h
 zero z h w := by cases h; exact Tryz.zeroValue27 w
 str h := (by cases h)
 isBool h := (by cases h)
 arr e m h := by cases h
 sarr e m h := by cases h
 app h := by cases h
 map k e h := by cases h
 flat sh h := by cases h; exact ⟨Tryz.eqGuardType27, fun xs ys r w h1 h2 h3 => flat27.equal (by decide) Tryz.isAgg27 xs ys r w h1 h2 h3⟩
theorem ti28 : TIok P 28 { size := 4, bytes := 32, agg := some true, fields := [(0, 23), (2, 26)], app := true, zero := some (.agg #[.int .i64 0, .int .i64 0, .int .u64 0, .int .u64 0]), flat := some [.int .i64, .int .i64, .int .u64, .int .u64] } where
 size _ w := Tryz.sizeOf28 w
 agg b h w := by cases h; exact Tryz.isAgg28 w
 fields := fun _ => ⟨_, Tryz.underlying28, rfl⟩
 elem e h := by cases h
 kind k h := by cases h
 zero z h w := by cases h; exact Tryz.zeroValue28 w
 str h := (by cases h)
 isBool h := (by cases h)
 arr e m h := by cases h
 sarr e m h := by cases h
 app h := app_of Tryz.type28 rfl rfl rfl rfl
 map k e h := by cases h
 flat sh h := by cases h; exact ⟨Tryz.eqGuardType28, fun xs ys r w h1 h2 h3 => flat28.equal (by decide) Tryz.isAgg28 xs ys r w h1 h2 h3⟩
theorem ti29 : TIok P 29 { size := 2, bytes := 16, agg := some true, fields := [(0, 2), (1, 2)], zero := some (.agg #[.int .i64 0, .int .i64 0]), flat := some [.int .i64, .int .i64] } where
 size _ w := Tryz.sizeOf29 w
 agg b h w := by cases h; exact Tryz.isAgg29 w
 fields := fun _ => ⟨_, Tryz.underlying29, rfl⟩
 elem e h := by cases h
 kind k h := by cases h
 zero z h w := by cases h; exact Tryz.zeroValue29 w
 str h := (by cases h)
 isBool h := (by cases h)
 arr e m h := by cases h
 sarr e m h := by cases h
 app h := by cases h
 map k e h := by cases h
 flat sh h := by cases h; exact ⟨Tryz.eqGuardType29, fun xs ys r w h1 h2 h3 => flat29.equal (by decide) Tryz.isAgg29 xs ys r w h1 h2 h3⟩
theorem ti30 : TIok P 30 { size := 2, bytes := 16, agg := some true, fields := [(0, 24), (1, 24)], zero := some (.agg #[.int .u64 0, .int .u64 0]), flat := some [.int .u64, .int .u64] } where
 size _ w := Tryz.sizeOf30 w
 agg b h w := by cases h; exact Tryz.isAgg30 w
 fields := fun _ => ⟨_, Tryz.underlying30, rfl⟩
 elem e h := by cases h
 kind k h := by cases h
 zero z h w := by cases h; exact Tryz.zeroValue30 w
 str h := (by cases h)
 isBool h := (by cases h)
 arr e m h := by cases h
 sarr e m h := by cases h
 app h := by cases h
 map k e h := by cases h
 flat sh h := by cases h; exact ⟨Tryz.eqGuardType30, fun xs ys r w h1 h2 h3 => flat30.equal (by decide) Tryz.isAgg30 xs ys r w h1 h2 h3⟩
theorem ti31 : TIok P 31 { size := 4, bytes := 32, agg := some true, fields := [(0, 29), (2, 30)], zero := some (.agg #[.int .i64 0, .int .i64 0, .int .u64 0, .int .u64 0]), flat := some [.int .i64, .int .i64, .int .u64, .int .u64] } where
 size _ w := Tryz.sizeOf31 w
 agg b h w := by cases h; exact Tryz.isAgg31 w
 fields := fun _ => ⟨_, Tryz.underlying31, rfl⟩
 elem e h := by cases h
 kind k h := by cases h
 zero z h w := by cases h; exact Tryz.zeroValue31 w
 str h := (by cases h)
 isBool h := (by cases h)
 arr e m h := by cases h
 sarr e m h := by cases h
 app h := by cases h
 map k e h := by cases h
 flat sh h := by cases h; exact ⟨Tryz.eqGuardType31, fun xs ys r w h1 h2 h3 => flat31.equal (by decide) Tryz.isAgg31 xs ys r w h1 h2 h3⟩
theorem ti32 : TIok P 32 { size := 4, bytes := 32, agg := some true, fields := [(0, 29), (2, 30)], zero := some (.agg #[.int .i64 0, .int .i64 0, .int .u64 0, .int .u64 0]), flat := some [.int .i64, .int .i64, .int .u64, .int .u64] } where
 size _ w := Tryz.sizeOf32 w
 agg b h w := by cases h; exact Tryz.isAgg32 w
 fields := fun _ => ⟨_, Tryz.underlying32, rfl⟩
 elem e h := by cases h
 kind k h := by cases h
 zero z h w := by cases h; exact Tryz.zeroValue32 w
 str h := (by cases h)
 isBool h := (by cases h)
 arr e m h := by cases h
 sarr e m h := by cases h
 app h := by cases h
 map k e h := by cases h
 flat sh h := by cases h; exact ⟨Tryz.eqGuardType32, fun xs ys r w h1 h2 h3 => flat32.equal (by decide) Tryz.isAgg32 xs ys r w h1 h2 h3⟩
theorem ti35 : TIok P 35 { size := 1, bytes := 8, agg := some false, app := true, kind := some .i64, zero := some (.int .i64 0) } where
 size _ w := Tryz.sizeOf35 w
 agg b h w := by cases h; exact Tryz.isAgg35 w
 fields := fun h => absurd rfl h
 elem e h := by cases h
 kind k h := by cases h; exact Tryz.underlying35
 zero z h w := by cases h; exact Tryz.zeroValue35 w
 str h := (by cases h)
 isBool h := (by cases h)
 arr e m h := by cases h
 sarr e m h := by cases h
 app h := app_of Tryz.type35 rfl rfl rfl rfl
 map k e h := by cases h
 flat sh h := by cases h
theorem ti46 : TIok P 46 { size := 1, bytes := 24, agg := some false, elem := some 35, slc := [(0, 35)], zero := some (.slice none 0 0) } where
 size _ w := Tryz.sizeOf46 w
 agg b h w := by cases h; exact Tryz.isAgg46 w
 fields := fun h => absurd rfl h
 elem e h := by cases h; exact Tryz.underlying46
 kind k h := by cases h
 zero z h w := by cases h; exact Tryz.zeroValue46 w
 str h := (by cases h)
 isBool h := (by cases h)
 arr e m h := by cases h
 sarr e m h := by cases h
 app h := by cases h
 map k e h := by cases h
 flat sh h := by cases h
theorem ti55 : TIok P 55 { size := 1, bytes := 24, agg := some false, elem := some 28, slc := [(0, 28)], zero := some (.slice none 0 0) } where
 size _ w := Tryz.sizeOf55 w
 agg b h w := by cases h; exact Tryz.isAgg55 w
 fields := fun h => absurd rfl h
 elem e h := by cases h; exact Tryz.underlying55
 kind k h := by cases h
 zero z h w := by cases h; exact Tryz.zeroValue55 w
 str h := (by cases h)
 isBool h := (by cases h)
 arr e m h := by cases h
 sarr e m h := by cases h
 app h := by cases h
 map k e h := by cases h
 flat sh h := by cases h
theorem ti58 : TIok P 58 { size := 1, bytes := 24, agg := some false, elem := some 2, slc := [(0, 2)], zero := some (.slice none 0 0) } where
 size _ w := Tryz.sizeOf58 w
 agg b h w := by cases h; exact Tryz.isAgg58 w
 fields := fun h => absurd rfl h
 elem e h := by cases h; exact Tryz.underlying58
 kind k h := by cases h
 zero z h w := by cases h; exact Tryz.zeroValue58 w
 str h := (by cases h)
 isBool h := (by cases h)
 arr e m h := by cases h
 sarr e m h := by cases h
 app h := by cases h
 map k e h := by cases h
 flat sh h := by cases h
theorem ti59 : TIok P 59 { size := 1, bytes := 24, agg := some false, elem := some 24, slc := [(0, 24)], zero := some (.slice none 0 0) } where
 size _ w := Tryz.sizeOf59 w
 agg b h w := by cases h; exact Tryz.isAgg59 w
 fields := fun h => absurd rfl h
 elem e h := by cases h; exact Tryz.underlying59
 kind k h := by cases h
 zero z h w := by cases h; exact Tryz.zeroValue59 w
 str h := (by cases h)
 isBool h := (by cases h)
 arr e m h := by cases h
 sarr e m h := by cases h
 app h := by cases h
 map k e h := by cases h
 flat sh h := by cases h
theorem ti67 : TIok P 67 { size := 2, bytes := 16, agg := some true, sarr := some (24, 2), zero := some (.agg #[.int .u64 0, .int .u64 0]) } where
 size _ w := Tryz.sizeOf67 w
 agg b h w := by cases h; exact Tryz.isAgg67 w
 fields := fun h => absurd rfl h
 elem e h := by cases h
 kind k h := by cases h
 zero z h w := by cases h; exact Tryz.zeroValue67 w
 str h := (by cases h)
 isBool h := (by cases h)
 arr e m h := by cases h
 sarr e m h := by cases h; exact Tryz.underlying67
 app h := by cases h
 map k e h := by cases h
 flat sh h := by cases h
theorem ti68 : TIok P 68 { size := 2, bytes := 16, agg := some true, sarr := some (24, 2), zero := some (.agg #[.int .u64 0, .int .u64 0]), flat := some [.int .u64, .int .u64] } where
 size _ w := Tryz.sizeOf68 w
 agg b h w := by cases h; exact Tryz.isAgg68 w
 fields := fun h => absurd rfl h
 elem e h := by cases h
 kind k h := by cases h
 zero z h w := by cases h; exact Tryz.zeroValue68 w
 str h := (by cases h)
 isBool h := (by cases h)
 arr e m h := by cases h
 sarr e m h := by cases h; exact Tryz.underlying68
 app h := by cases h
 map k e h := by cases h
 flat sh h := by cases h; exact ⟨(by kernel_rfl), fun xs ys r w h1 h2 h3 => flat68.equal (by decide) Tryz.isAgg68 xs ys r w h1 h2 h3⟩
theorem ti79 : TIok P 79 { size := 1, bytes := 24, agg := some false, elem := some 5, slc := [(0, 5)], zero := some (.slice none 0 0) } where
 size _ w := Tryz.sizeOf79 w
 agg b h w := by cases h; exact Tryz.isAgg79 w
 fields := fun h => absurd rfl h
 elem e h := by cases h; exact Tryz.underlying79
 kind k h := by cases h
 zero z h w := by cases h; exact Tryz.zeroValue79 w
 str h := (by cases h)
 isBool h := (by cases h)
 arr e m h := by cases h
 sarr e m h := by cases h
 app h := by cases h
 map k e h := by cases h
 flat sh h := by cases h
theorem ti97 : TIok P 97 { size := 1, bytes := 8, agg := some false, zero := some (.nilFunc) } where
 size _ w := Tryz.sizeOf97 w
 agg b h w := by cases h; exact Tryz.isAgg97 w
 fields := fun h => absurd rfl h
 elem e h := by cases h
 kind k h := by cases h
 zero z h w := by cases h; exact Tryz.zeroValue97 w
 str h := (by cases h)
 isBool h := (by cases h)
 arr e m h := by cases h
 sarr e m h := by cases h
 app h := by cases h
 map k e h := by cases h
 flat sh h := by cases h
theorem ti99 : TIok P 99 { size := 1, bytes := 8, agg := some false, map := some (.i64, 97), zero := some (.map none) } where
 size _ w := Tryz.sizeOf99 w
 agg b h w := by cases h; exact Tryz.isAgg99 w
 fields := fun h => absurd rfl h
 elem e h := by cases h
 kind k h := by cases h
 zero z h w := by cases h; exact Tryz.zeroValue99 w
 str h := (by cases h)
 isBool h := (by cases h)
 arr e m h := by cases h
 sarr e m h := by cases h
 app h := by cases h
 map k e h := by cases h; exact ⟨35, Tryz.underlying99, Tryz.underlying35⟩
 flat sh h := by cases h
theorem ti116 : TIok P 116 { size := 2, bytes := 16, agg := some true, arr := some (2, 2), zero := some (.agg #[.int .i64 0, .int .i64 0]) } where
 size _ w := Tryz.sizeOf116 w
 agg b h w := by cases h; exact Tryz.isAgg116 w
 fields := fun h => absurd rfl h
 elem e h := by cases h
 kind k h := by cases h
 zero z h w := by cases h; exact Tryz.zeroValue116 w
 str h := (by cases h)
 isBool h := (by cases h)
 arr e m h := by cases h; exact Tryz.underlying116
 sarr e m h := by cases h
 app h := by cases h
 map k e h := by cases h
 flat sh h := by cases h
theorem ti134 : TIok P 134 { size := 1, bytes := 8, agg := some false, kind := some .u64, zero := some (.int .u64 0) } where
 size _ w := Tryz.sizeOf134 w
 agg b h w := by cases h; exact Tryz.isAgg134 w
 fields := fun h => absurd rfl h
 elem e h := by cases h
 kind k h := by cases h; exact Tryz.underlying134
 zero z h w := by cases h; exact Tryz.zeroValue134 w
 str h := (by cases h)
 isBool h := (by cases h)
 arr e m h := by cases h
 sarr e m h := by cases h
 app h := by cases h
 map k e h := by cases h
 flat sh h := by cases h
theorem ti156 : TIok P 156 { size := 64, bytes := 512, agg := some true, arr := some (3, 64), zero := some (.agg #[.int .i64 0, .int .i64 0, .int .i64 0, .int .i64 0, .int .i64 0, .int .i64 0, .int .i64 0, .int .i64 0, .int .i64 0, .int .i64 0, .int .i64 0, .int .i64 0, .int .i64 0, .int .i64 0, .int .i64 0, .int .i64 0, .int .i64 0, .int .i64 0, .int .i64 0, .int .i64 0, .int .i64 0, .int .i64 0, .int .i64 0, .int .i64 0, .int .i64 0, .int .i64 0, .int .i64 0, .int .i64 0, .int .i64 0, .int .i64 0, .int .i64 0, .int .i64 0, .int .i64 0, .int .i64 0, .int .i64 0, .int .i64 0, .int .i64 0, .int .i64 0, .int .i64 0, .int .i64 0, .int .i64 0, .int .i64 0, .int .i64 0, .int .i64 0, .int .i64 0, .int .i64 0, .int .i64 0, .int .i64 0, .int .i64 0, .int .i64 0, .int .i64 0, .int .i64 0, .int .i64 0, .int .i64 0, .int .i64 0, .int .i64 0, .int .i64 0, .int .i64 0, .int .i64 0, .int .i64 0, .int .i64 0, .int .i64 0, .int .i64 0, .int .i64 0]) } where
 size _ w := Tryz.sizeOf156 w
 agg b h w := by cases h; exact Tryz.isAgg156 w
 fields := fun h => absurd rfl h
 elem e h := by cases h
 kind k h := by cases h
 zero z h w := by cases h; exact Tryz.zeroValue156 w
 str h := (by cases h)
 isBool h := (by cases h)
 arr e m h := by cases h; exact Tryz.underlying156
 sarr e m h := by cases h
 app h := by cases h
 map k e h := by cases h
 flat sh h := by cases h
theorem ti182 : TIok P 182 { size := 1, bytes := 24, agg := some false, elem := some 3, slc := [(0, 3)], zero := some (.slice none 0 0) } where
 size _ w := Tryz.sizeOf182 w
 agg b h w := by cases h; exact Tryz.isAgg182 w
 fields := fun h => absurd rfl h
 elem e h := by cases h; exact Tryz.underlying182
 kind k h := by cases h
 zero z h w := by cases h; exact Tryz.zeroValue182 w
 str h := (by cases h)
 isBool h := (by cases h)
 arr e m h := by cases h
 sarr e m h := by cases h
 app h := by cases h
 map k e h := by cases h
 flat sh h := by cases h
theorem ti184 : TIok P 184 { size := 24, bytes := 24, agg := some true, arr := some (5, 24), zero := some (.agg #[.int .u8 0, .int .u8 0, .int .u8 0, .int .u8 0, .int .u8 0, .int .u8 0, .int .u8 0, .int .u8 0, .int .u8 0, .int .u8 0, .int .u8 0, .int .u8 0, .int .u8 0, .int .u8 0, .int .u8 0, .int .u8 0, .int .u8 0, .int .u8 0, .int .u8 0, .int .u8 0, .int .u8 0, .int .u8 0, .int .u8 0, .int .u8 0]) } where
 size _ w := Tryz.sizeOf184 w
 agg b h w := by cases h; exact Tryz.isAgg184 w
 fields := fun h => absurd rfl h
 elem e h := by cases h
 kind k h := by cases h
 zero z h w := by cases h; exact Tryz.zeroValue184 w
 str h := (by cases h)
 isBool h := (by cases h)
 arr e m h := by cases h; exact Tryz.underlying184
 sarr e m h := by cases h
 app h := by cases h
 map k e h := by cases h
 flat sh h := by cases h
theorem ti194 : TIok P 194 { size := 20, bytes := 160, agg := some true, arr := some (24, 20), zero := some (.agg #[.int .u64 0, .int .u64 0, .int .u64 0, .int .u64 0, .int .u64 0, .int .u64 0, .int .u64 0, .int .u64 0, .int .u64 0, .int .u64 0, .int .u64 0, .int .u64 0, .int .u64 0, .int .u64 0, .int .u64 0, .int .u64 0, .int .u64 0, .int .u64 0, .int .u64 0, .int .u64 0]) } where
 size _ w := Tryz.sizeOf194 w
 agg b h w := by cases h; exact Tryz.isAgg194 w
 fields := fun h => absurd rfl h
 elem e h := by cases h
 kind k h := by cases h
 zero z h w := by cases h; exact Tryz.zeroValue194 w
 str h := (by cases h)
 isBool h := (by cases h)
 arr e m h := by cases h; exact Tryz.underlying194
 sarr e m h := by cases h
 app h := by cases h
 map k e h := by cases h
 flat sh h := by cases h
theorem ti195 : TIok P 195 { size := 1, bytes := 4, agg := some false, kind := some .u32, zero := some (.int .u32 0) } where
 size _ w := Tryz.sizeOf195 w
 agg b h w := by cases h; exact Tryz.isAgg195 w
 fields := fun h => absurd rfl h
 elem e h := by cases h
 kind k h := by cases h; exact Tryz.underlying195
 zero z h w := by cases h; exact Tryz.zeroValue195 w
 str h := (by cases h)
 isBool h := (by cases h)
 arr e m h := by cases h
 sarr e m h := by cases h
 app h := by cases h
 map k e h := by cases h
 flat sh h := by cases h
theorem ti196 : TIok P 196 { size := 65, bytes := 65, agg := some true, arr := some (5, 65), zero := some (.agg #[.int .u8 0, .int .u8 0, .int .u8 0, .int .u8 0, .int .u8 0, .int .u8 0, .int .u8 0, .int .u8 0, .int .u8 0, .int .u8 0, .int .u8 0, .int .u8 0, .int .u8 0, .int .u8 0, .int .u8 0, .int .u8 0, .int .u8 0, .int .u8 0, .int .u8 0, .int .u8 0, .int .u8 0, .int .u8 0, .int .u8 0, .int .u8 0, .int .u8 0, .int .u8 0, .int .u8 0, .int .u8 0, .int .u8 0, .int .u8 0, .int .u8 0, .int .u8 0, .int .u8 0, .int .u8 0, .int .u8 0, .int .u8 0, .int .u8 0, .int .u8 0, .int .u8 0, .int .u8 0, .int .u8 0, .int .u8 0, .int .u8 0, .int .u8 0, .int .u8 0, .int .u8 0, .int .u8 0, .int .u8 0, .int .u8 0, .int .u8 0, .int .u8 0, .int .u8 0, .int .u8 0, .int .u8 0, .int .u8 0, .int .u8 0, .int .u8 0, .int .u8 0, .int .u8 0, .int .u8 0, .int .u8 0, .int .u8 0, .int .u8 0, .int .u8 0, .int .u8 0]) } where
 size _ w := Tryz.sizeOf196 w
 agg b h w := by cases h; exact Tryz.isAgg196 w
 fields := fun h => absurd rfl h
 elem e h := by cases h
 kind k h := by cases h
 zero z h w := by cases h; exact Tryz.zeroValue196 w
 str h := (by cases h)
 isBool h := (by cases h)
 arr e m h := by cases h; exact Tryz.underlying196
 sarr e m h := by cases h
 app h := by cases h
 map k e h := by cases h
 flat sh h := by cases h
theorem ti199 : TIok P 199 { size := 64, bytes := 64, agg := some true, arr := some (5, 64), zero := some (.agg #[.int .u8 0, .int .u8 0, .int .u8 0, .int .u8 0, .int .u8 0, .int .u8 0, .int .u8 0, .int .u8 0, .int .u8 0, .int .u8 0, .int .u8 0, .int .u8 0, .int .u8 0, .int .u8 0, .int .u8 0, .int .u8 0, .int .u8 0, .int .u8 0, .int .u8 0, .int .u8 0, .int .u8 0, .int .u8 0, .int .u8 0, .int .u8 0, .int .u8 0, .int .u8 0, .int .u8 0, .int .u8 0, .int .u8 0, .int .u8 0, .int .u8 0, .int .u8 0, .int .u8 0, .int .u8 0, .int .u8 0, .int .u8 0, .int .u8 0, .int .u8 0, .int .u8 0, .int .u8 0, .int .u8 0, .int .u8 0, .int .u8 0, .int .u8 0, .int .u8 0, .int .u8 0, .int .u8 0, .int .u8 0, .int .u8 0, .int .u8 0, .int .u8 0, .int .u8 0, .int .u8 0, .int .u8 0, .int .u8 0, .int .u8 0, .int .u8 0, .int .u8 0, .int .u8 0, .int .u8 0, .int .u8 0, .int .u8 0, .int .u8 0, .int .u8 0]) } where
 size _ w := Tryz.sizeOf199 w
 agg b h w := by cases h; exact Tryz.isAgg199 w
 fields := fun h => absurd rfl h
 elem e h := by cases h
 kind k h := by cases h
 zero z h w := by cases h; exact Tryz.zeroValue199 w
 str h := (by cases h)
 isBool h := (by cases h)
 arr e m h := by cases h; exact Tryz.underlying199
 sarr e m h := by cases h
 app h := by cases h
 map k e h := by cases h
 flat sh h := by cases h
theorem ti203 : TIok P 203 { size := 32, bytes := 32, agg := some true, arr := some (5, 32), zero := some (.agg #[.int .u8 0, .int .u8 0, .int .u8 0, .int .u8 0, .int .u8 0, .int .u8 0, .int .u8 0, .int .u8 0, .int .u8 0, .int .u8 0, .int .u8 0, .int .u8 0, .int .u8 0, .int .u8 0, .int .u8 0, .int .u8 0, .int .u8 0, .int .u8 0, .int .u8 0, .int .u8 0, .int .u8 0, .int .u8 0, .int .u8 0, .int .u8 0, .int .u8 0, .int .u8 0, .int .u8 0, .int .u8 0, .int .u8 0, .int .u8 0, .int .u8 0, .int .u8 0]) } where
 size _ w := Tryz.sizeOf203 w
 agg b h w := by cases h; exact Tryz.isAgg203 w
 fields := fun h => absurd rfl h
 elem e h := by cases h
 kind k h := by cases h
 zero z h w := by cases h; exact Tryz.zeroValue203 w
 str h := (by cases h)
 isBool h := (by cases h)
 arr e m h := by cases h; exact Tryz.underlying203
 sarr e m h := by cases h
 app h := by cases h
 map k e h := by cases h
 flat sh h := by cases h
noncomputable def tis : List TI := [{},
 {},
 { size := 1, bytes := 8, agg := some false, app := true, kind := some .i64, zero := some (.int .i64 0) },
 { size := 1, bytes := 8, agg := some false, app := true, kind := some .i64, zero := some (.int .i64 0) },
 { size := 1, bytes := 1, agg := some false, zero := some (.bool false), isBool := true },
 { size := 1, bytes := 1, agg := some false, app := true, kind := some .u8, zero := some (.int .u8 0) },
 {},
 {},
 {},
 { size := 1, bytes := 16, agg := some false, zero := some (.string ⟨#[]⟩), str := true },
 {},
 {},
 {},
 {},
 {},
 {},
 {},
 {},
 {},
 {},
 {},
 {},
 { size := 2, bytes := 16, agg := some true, fields := [(0, 2), (1, 2)], zero := some (.agg #[.int .i64 0, .int .i64 0]), flat := some [.int .i64, .int .i64] },
 { size := 2, bytes := 16, agg := some true, fields := [(0, 2), (1, 2)], zero := some (.agg #[.int .i64 0, .int .i64 0]), flat := some [.int .i64, .int .i64] },
 { size := 1, bytes := 8, agg := some false, app := true, kind := some .u64, zero := some (.int .u64 0) },
 { size := 2, bytes := 16, agg := some true, fields := [(0, 24), (1, 24)], zero := some (.agg #[.int .u64 0, .int .u64 0]), flat := some [.int .u64, .int .u64] },
 { size := 2, bytes := 16, agg := some true, fields := [(0, 24), (1, 24)], zero := some (.agg #[.int .u64 0, .int .u64 0]), flat := some [.int .u64, .int .u64] },
 { size := 4, bytes := 32, agg := some true, fields := [(0, 23), (2, 26)], zero := some (.agg #[.int .i64 0, .int .i64 0, .int .u64 0, .int .u64 0]), flat := some [.int .i64, .int .i64, .int .u64, .int .u64] },
 { size := 4, bytes := 32, agg := some true, fields := [(0, 23), (2, 26)], app := true, zero := some (.agg #[.int .i64 0, .int .i64 0, .int .u64 0, .int .u64 0]), flat := some [.int .i64, .int .i64, .int .u64, .int .u64] },
 { size := 2, bytes := 16, agg := some true, fields := [(0, 2), (1, 2)], zero := some (.agg #[.int .i64 0, .int .i64 0]), flat := some [.int .i64, .int .i64] },
 { size := 2, bytes := 16, agg := some true, fields := [(0, 24), (1, 24)], zero := some (.agg #[.int .u64 0, .int .u64 0]), flat := some [.int .u64, .int .u64] },
 { size := 4, bytes := 32, agg := some true, fields := [(0, 29), (2, 30)], zero := some (.agg #[.int .i64 0, .int .i64 0, .int .u64 0, .int .u64 0]), flat := some [.int .i64, .int .i64, .int .u64, .int .u64] },
 { size := 4, bytes := 32, agg := some true, fields := [(0, 29), (2, 30)], zero := some (.agg #[.int .i64 0, .int .i64 0, .int .u64 0, .int .u64 0]), flat := some [.int .i64, .int .i64, .int .u64, .int .u64] },
 {},
 {},
 { size := 1, bytes := 8, agg := some false, app := true, kind := some .i64, zero := some (.int .i64 0) },
 {},
 {},
 {},
 {},
 {},
 {},
 {},
 {},
 {},
 {},
 { size := 1, bytes := 24, agg := some false, elem := some 35, slc := [(0, 35)], zero := some (.slice none 0 0) },
 {},
 {},
 {},
 {},
 {},
 {},
 {},
 {},
 { size := 1, bytes := 24, agg := some false, elem := some 28, slc := [(0, 28)], zero := some (.slice none 0 0) },
 {},
 {},
 { size := 1, bytes := 24, agg := some false, elem := some 2, slc := [(0, 2)], zero := some (.slice none 0 0) },
 { size := 1, bytes := 24, agg := some false, elem := some 24, slc := [(0, 24)], zero := some (.slice none 0 0) },
 {},
 {},
 {},
 {},
 {},
 {},
 {},
 { size := 2, bytes := 16, agg := some true, sarr := some (24, 2), zero := some (.agg #[.int .u64 0, .int .u64 0]) },
 { size := 2, bytes := 16, agg := some true, sarr := some (24, 2), zero := some (.agg #[.int .u64 0, .int .u64 0]), flat := some [.int .u64, .int .u64] },
 {},
 {},
 {},
 {},
 {},
 {},
 {},
 {},
 {},
 {},
 { size := 1, bytes := 24, agg := some false, elem := some 5, slc := [(0, 5)], zero := some (.slice none 0 0) },
 {},
 {},
 {},
 {},
 {},
 {},
 {},
 {},
 {},
 {},
 {},
 {},
 {},
 {},
 {},
 {},
 {},
 { size := 1, bytes := 8, agg := some false, zero := some (.nilFunc) },
 {},
 { size := 1, bytes := 8, agg := some false, map := some (.i64, 97), zero := some (.map none) },
 {},
 {},
 {},
 {},
 {},
 {},
 {},
 {},
 {},
 {},
 {},
 {},
 {},
 {},
 {},
 {},
 { size := 2, bytes := 16, agg := some true, arr := some (2, 2), zero := some (.agg #[.int .i64 0, .int .i64 0]) },
 {},
 {},
 {},
 {},
 {},
 {},
 {},
 {},
 {},
 {},
 {},
 {},
 {},
 {},
 {},
 {},
 {},
 { size := 1, bytes := 8, agg := some false, kind := some .u64, zero := some (.int .u64 0) },
 {},
 {},
 {},
 {},
 {},
 {},
 {},
 {},
 {},
 {},
 {},
 {},
 {},
 {},
 {},
 {},
 {},
 {},
 {},
 {},
 {},
 { size := 64, bytes := 512, agg := some true, arr := some (3, 64), zero := some (.agg #[.int .i64 0, .int .i64 0, .int .i64 0, .int .i64 0, .int .i64 0, .int .i64 0, .int .i64 0, .int .i64 0, .int .i64 0, .int .i64 0, .int .i64 0, .int .i64 0, .int .i64 0, .int .i64 0, .int .i64 0, .int .i64 0, .int .i64 0, .int .i64 0, .int .i64 0, .int .i64 0, .int .i64 0, .int .i64 0, .int .i64 0, .int .i64 0, .int .i64 0, .int .i64 0, .int .i64 0, .int .i64 0, .int .i64 0, .int .i64 0, .int .i64 0, .int .i64 0, .int .i64 0, .int .i64 0, .int .i64 0, .int .i64 0, .int .i64 0, .int .i64 0, .int .i64 0, .int .i64 0, .int .i64 0, .int .i64 0, .int .i64 0, .int .i64 0, .int .i64 0, .int .i64 0, .int .i64 0, .int .i64 0, .int .i64 0, .int .i64 0, .int .i64 0, .int .i64 0, .int .i64 0, .int .i64 0, .int .i64 0, .int .i64 0, .int .i64 0, .int .i64 0, .int .i64 0, .int .i64 0, .int .i64 0, .int .i64 0, .int .i64 0, .int .i64 0]) },
 {},
 {},
 {},
 {},
 {},
 {},
 {},
 {},
 {},
 {},
 {},
 {},
 {},
 {},
 {},
 {},
 {},
 {},
 {},
 {},
 {},
 {},
 {},
 {},
 {},
 { size := 1, bytes := 24, agg := some false, elem := some 3, slc := [(0, 3)], zero := some (.slice none 0 0) },
 {},
 { size := 24, bytes := 24, agg := some true, arr := some (5, 24), zero := some (.agg #[.int .u8 0, .int .u8 0, .int .u8 0, .int .u8 0, .int .u8 0, .int .u8 0, .int .u8 0, .int .u8 0, .int .u8 0, .int .u8 0, .int .u8 0, .int .u8 0, .int .u8 0, .int .u8 0, .int .u8 0, .int .u8 0, .int .u8 0, .int .u8 0, .int .u8 0, .int .u8 0, .int .u8 0, .int .u8 0, .int .u8 0, .int .u8 0]) },
 {},
 {},
 {},
 {},
 {},
 {},
 {},
 {},
 {},
 { size := 20, bytes := 160, agg := some true, arr := some (24, 20), zero := some (.agg #[.int .u64 0, .int .u64 0, .int .u64 0, .int .u64 0, .int .u64 0, .int .u64 0, .int .u64 0, .int .u64 0, .int .u64 0, .int .u64 0, .int .u64 0, .int .u64 0, .int .u64 0, .int .u64 0, .int .u64 0, .int .u64 0, .int .u64 0, .int .u64 0, .int .u64 0, .int .u64 0]) },
 { size := 1, bytes := 4, agg := some false, kind := some .u32, zero := some (.int .u32 0) },
 { size := 65, bytes := 65, agg := some true, arr := some (5, 65), zero := some (.agg #[.int .u8 0, .int .u8 0, .int .u8 0, .int .u8 0, .int .u8 0, .int .u8 0, .int .u8 0, .int .u8 0, .int .u8 0, .int .u8 0, .int .u8 0, .int .u8 0, .int .u8 0, .int .u8 0, .int .u8 0, .int .u8 0, .int .u8 0, .int .u8 0, .int .u8 0, .int .u8 0, .int .u8 0, .int .u8 0, .int .u8 0, .int .u8 0, .int .u8 0, .int .u8 0, .int .u8 0, .int .u8 0, .int .u8 0, .int .u8 0, .int .u8 0, .int .u8 0, .int .u8 0, .int .u8 0, .int .u8 0, .int .u8 0, .int .u8 0, .int .u8 0, .int .u8 0, .int .u8 0, .int .u8 0, .int .u8 0, .int .u8 0, .int .u8 0, .int .u8 0, .int .u8 0, .int .u8 0, .int .u8 0, .int .u8 0, .int .u8 0, .int .u8 0, .int .u8 0, .int .u8 0, .int .u8 0, .int .u8 0, .int .u8 0, .int .u8 0, .int .u8 0, .int .u8 0, .int .u8 0, .int .u8 0, .int .u8 0, .int .u8 0, .int .u8 0, .int .u8 0]) },
 {},
 {},
 { size := 64, bytes := 64, agg := some true, arr := some (5, 64), zero := some (.agg #[.int .u8 0, .int .u8 0, .int .u8 0, .int .u8 0, .int .u8 0, .int .u8 0, .int .u8 0, .int .u8 0, .int .u8 0, .int .u8 0, .int .u8 0, .int .u8 0, .int .u8 0, .int .u8 0, .int .u8 0, .int .u8 0, .int .u8 0, .int .u8 0, .int .u8 0, .int .u8 0, .int .u8 0, .int .u8 0, .int .u8 0, .int .u8 0, .int .u8 0, .int .u8 0, .int .u8 0, .int .u8 0, .int .u8 0, .int .u8 0, .int .u8 0, .int .u8 0, .int .u8 0, .int .u8 0, .int .u8 0, .int .u8 0, .int .u8 0, .int .u8 0, .int .u8 0, .int .u8 0, .int .u8 0, .int .u8 0, .int .u8 0, .int .u8 0, .int .u8 0, .int .u8 0, .int .u8 0, .int .u8 0, .int .u8 0, .int .u8 0, .int .u8 0, .int .u8 0, .int .u8 0, .int .u8 0, .int .u8 0, .int .u8 0, .int .u8 0, .int .u8 0, .int .u8 0, .int .u8 0, .int .u8 0, .int .u8 0, .int .u8 0, .int .u8 0]) },
 {},
 {},
 {},
 { size := 32, bytes := 32, agg := some true, arr := some (5, 32), zero := some (.agg #[.int .u8 0, .int .u8 0, .int .u8 0, .int .u8 0, .int .u8 0, .int .u8 0, .int .u8 0, .int .u8 0, .int .u8 0, .int .u8 0, .int .u8 0, .int .u8 0, .int .u8 0, .int .u8 0, .int .u8 0, .int .u8 0, .int .u8 0, .int .u8 0, .int .u8 0, .int .u8 0, .int .u8 0, .int .u8 0, .int .u8 0, .int .u8 0, .int .u8 0, .int .u8 0, .int .u8 0, .int .u8 0, .int .u8 0, .int .u8 0, .int .u8 0, .int .u8 0]) },
 {},
 {},
 {},
 {},
 {},
 {},
 {},
 {},
 {},
 {},
 {},
 {},
 {},
 {},
 {},
 {},
 {},
 {}]
set_option maxRecDepth 100000 in
theorem tis_all : AllTI P 0 tis := ⟨(TIok.default _ _), ⟨(TIok.default _ _), ⟨ti2, ⟨ti3, ⟨ti4, ⟨ti5, ⟨(TIok.default _ _), ⟨(TIok.default _ _), ⟨(TIok.default _ _), ⟨ti9, ⟨(TIok.default _ _), ⟨(TIok.default _ _), ⟨(TIok.default _ _), ⟨(TIok.default _ _), ⟨(TIok.default _ _), ⟨(TIok.default _ _), ⟨(TIok.default _ _), ⟨(TIok.default _ _), ⟨(TIok.default _ _), ⟨(TIok.default _ _), ⟨(TIok.default _ _), ⟨(TIok.default _ _), ⟨ti22, ⟨ti23, ⟨ti24, ⟨ti25, ⟨ti26, ⟨ti27, ⟨ti28, ⟨ti29, ⟨ti30, ⟨ti31, ⟨ti32, ⟨(TIok.default _ _), ⟨(TIok.default _ _), ⟨ti35, ⟨(TIok.default _ _), ⟨(TIok.default _ _), ⟨(TIok.default _ _), ⟨(TIok.default _ _), ⟨(TIok.default _ _), ⟨(TIok.default _ _), ⟨(TIok.default _ _), ⟨(TIok.default _ _), ⟨(TIok.default _ _), ⟨(TIok.default _ _), ⟨ti46, ⟨(TIok.default _ _), ⟨(TIok.default _ _), ⟨(TIok.default _ _), ⟨(TIok.default _ _), ⟨(TIok.default _ _), ⟨(TIok.default _ _), ⟨(TIok.default _ _), ⟨(TIok.default _ _), ⟨ti55, ⟨(TIok.default _ _), ⟨(TIok.default _ _), ⟨ti58, ⟨ti59, ⟨(TIok.default _ _), ⟨(TIok.default _ _), ⟨(TIok.default _ _), ⟨(TIok.default _ _), ⟨(TIok.default _ _), ⟨(TIok.default _ _), ⟨(TIok.default _ _), ⟨ti67, ⟨ti68, ⟨(TIok.default _ _), ⟨(TIok.default _ _), ⟨(TIok.default _ _), ⟨(TIok.default _ _), ⟨(TIok.default _ _), ⟨(TIok.default _ _), ⟨(TIok.default _ _), ⟨(TIok.default _ _), ⟨(TIok.default _ _), ⟨(TIok.default _ _), ⟨ti79, ⟨(TIok.default _ _), ⟨(TIok.default _ _), ⟨(TIok.default _ _), ⟨(TIok.default _ _), ⟨(TIok.default _ _), ⟨(TIok.default _ _), ⟨(TIok.default _ _), ⟨(TIok.default _ _), ⟨(TIok.default _ _), ⟨(TIok.default _ _), ⟨(TIok.default _ _), ⟨(TIok.default _ _), ⟨(TIok.default _ _), ⟨(TIok.default _ _), ⟨(TIok.default _ _), ⟨(TIok.default _ _), ⟨(TIok.default _ _), ⟨ti97, ⟨(TIok.default _ _), ⟨ti99, ⟨(TIok.default _ _), ⟨(TIok.default _ _), ⟨(TIok.default _ _), ⟨(TIok.default _ _), ⟨(TIok.default _ _), ⟨(TIok.default _ _), ⟨(TIok.default _ _), ⟨(TIok.default _ _), ⟨(TIok.default _ _), ⟨(TIok.default _ _), ⟨(TIok.default _ _), ⟨(TIok.default _ _), ⟨(TIok.default _ _), ⟨(TIok.default _ _), ⟨(TIok.default _ _), ⟨(TIok.default _ _), ⟨ti116, ⟨(TIok.default _ _), ⟨(TIok.default _ _), ⟨(TIok.default _ _), ⟨(TIok.default _ _), ⟨(TIok.default _ _), ⟨(TIok.default _ _), ⟨(TIok.default _ _), ⟨(TIok.default _ _), ⟨(TIok.default _ _), ⟨(TIok.default _ _), ⟨(TIok.default _ _), ⟨(TIok.default _ _), ⟨(TIok.default _ _), ⟨(TIok.default _ _), ⟨(TIok.default _ _), ⟨(TIok.default _ _), ⟨(TIok.default _ _), ⟨ti134, ⟨(TIok.default _ _), ⟨(TIok.default _ _), ⟨(TIok.default _ _), ⟨(TIok.default _ _), ⟨(TIok.default _ _), ⟨(TIok.default _ _), ⟨(TIok.default _ _), ⟨(TIok.default _ _), ⟨(TIok.default _ _), ⟨(TIok.default _ _), ⟨(TIok.default _ _), ⟨(TIok.default _ _), ⟨(TIok.default _ _), ⟨(TIok.default _ _), ⟨(TIok.default _ _), ⟨(TIok.default _ _), ⟨(TIok.default _ _), ⟨(TIok.default _ _), ⟨(TIok.default _ _), ⟨(TIok.default _ _), ⟨(TIok.default _ _), ⟨ti156, ⟨(TIok.default _ _), ⟨(TIok.default _ _), ⟨(TIok.default _ _), ⟨(TIok.default _ _), ⟨(TIok.default _ _), ⟨(TIok.default _ _), ⟨(TIok.default _ _), ⟨(TIok.default _ _), ⟨(TIok.default _ _), ⟨(TIok.default _ _), ⟨(TIok.default _ _), ⟨(TIok.default _ _), ⟨(TIok.default _ _), ⟨(TIok.default _ _), ⟨(TIok.default _ _), ⟨(TIok.default _ _), ⟨(TIok.default _ _), ⟨(TIok.default _ _), ⟨(TIok.default _ _), ⟨(TIok.default _ _), ⟨(TIok.default _ _), ⟨(TIok.default _ _), ⟨(TIok.default _ _), ⟨(TIok.default _ _), ⟨(TIok.default _ _), ⟨ti182, ⟨(TIok.default _ _), ⟨ti184, ⟨(TIok.default _ _), ⟨(TIok.default _ _), ⟨(TIok.default _ _), ⟨(TIok.default _ _), ⟨(TIok.default _ _), ⟨(TIok.default _ _), ⟨(TIok.default _ _), ⟨(TIok.default _ _), ⟨(TIok.default _ _), ⟨ti194, ⟨ti195, ⟨ti196, ⟨(TIok.default _ _), ⟨(TIok.default _ _), ⟨ti199, ⟨(TIok.default _ _), ⟨(TIok.default _ _), ⟨(TIok.default _ _), ⟨ti203, ⟨(TIok.default _ _), ⟨(TIok.default _ _), ⟨(TIok.default _ _), ⟨(TIok.default _ _), ⟨(TIok.default _ _), ⟨(TIok.default _ _), ⟨(TIok.default _ _), ⟨(TIok.default _ _), ⟨(TIok.default _ _), ⟨(TIok.default _ _), ⟨(TIok.default _ _), ⟨(TIok.default _ _), ⟨(TIok.default _ _), ⟨(TIok.default _ _), ⟨(TIok.default _ _), ⟨(TIok.default _ _), ⟨(TIok.default _ _), ⟨(TIok.default _ _), trivial⟩⟩⟩⟩⟩⟩⟩⟩⟩⟩⟩⟩⟩⟩⟩⟩⟩⟩⟩⟩⟩⟩⟩⟩⟩⟩⟩⟩⟩⟩⟩⟩⟩⟩⟩⟩⟩⟩⟩⟩⟩⟩⟩⟩⟩⟩⟩⟩⟩⟩⟩⟩⟩⟩⟩⟩⟩⟩⟩⟩⟩⟩⟩⟩⟩⟩⟩⟩⟩⟩⟩⟩⟩⟩⟩⟩⟩⟩⟩⟩⟩⟩⟩⟩⟩⟩⟩⟩⟩⟩⟩⟩⟩⟩⟩⟩⟩⟩⟩⟩⟩⟩⟩⟩⟩⟩⟩⟩⟩⟩⟩⟩⟩⟩⟩⟩⟩⟩⟩⟩⟩⟩⟩⟩⟩⟩⟩⟩⟩⟩⟩⟩⟩⟩⟩⟩⟩⟩⟩⟩⟩⟩⟩⟩⟩⟩⟩⟩⟩⟩⟩⟩⟩⟩⟩⟩⟩⟩⟩⟩⟩⟩⟩⟩⟩⟩⟩⟩⟩⟩⟩⟩⟩⟩⟩⟩⟩⟩⟩⟩⟩⟩⟩⟩⟩⟩⟩⟩⟩⟩⟩⟩⟩⟩⟩⟩⟩⟩⟩⟩⟩⟩⟩⟩⟩⟩⟩⟩⟩⟩⟩⟩⟩⟩⟩⟩⟩⟩⟩⟩⟩⟩
noncomputable def base : Cfg El := { P := P, ty := fun t => (nth tis t).getD {}, C := { enc := enc, dec := dec, dft := dft }, call := fun _ _ => none, own := [], pins := [], inv := fun S w => Lib.TabIs P w "internal/strconv.uint64pow10" .u64 Lib.pow10Tab ∧ S 0 }
theorem base_ok : CfgOk base where
 ty t := tis_ok tis_all t
 arr t e m h := arrs_ok (l := tis) (by kernel_rfl) t e m h
 enc t a p := by show all (ok0 p) (enc t a) = true; unfold enc; split <;> rfl
 fresh t a := by show all (fun v => allFr0 (frs true v)) (enc t a) = true; unfold enc; split <;> rfl
 one t a := by show all one (enc t a) = true; unfold enc; split <;> rfl
 plain t a h := by
  have h' : plainT ((nth tis t).getD {}) = true := h
  show all plainV (enc t a) = true
  unfold enc; split <;> first | rfl | (exact absurd h' (by decide))
 old t a := by show all old0 (enc t a) = true; unfold enc; split <;> rfl
 u8 t a h := by
  have h' : ((nth tis t).getD {}).kind = some .u8 := h
  show enc t a = [] ∨ ∃ n, enc t a = [.int .u8 n]
  unfold enc; split <;> first | exact .inr ⟨_, rfl⟩ | exact .inl rfl | (exact absurd h' (by decide))
 inv S S' w w' h hs hb := ⟨tab_kept (g := 0) (by kernel_rfl) h.1 (hb _ h.2), hs _ h.2⟩
 dec t cs a h := by
  have h' : dec t cs = some a := h
  show enc t a = cs
  unfold dec at h'
  split at h' <;> first | (cases h'; rfl) | cases h'
 call f vs r outs ps h := by cases h
theorem mixed : P.follows .mixedOrders = true := by kernel_rfl
noncomputable def noLoop : Nat → Env El → Tr El := fun _ _ => .fail
end Go.Proofs.YtcgafjhkefcdfaaGreatDoor
