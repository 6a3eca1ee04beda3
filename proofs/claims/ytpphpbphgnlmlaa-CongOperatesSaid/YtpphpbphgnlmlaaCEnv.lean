/-
  Printed by a program for this claim: functions of the code as plain functions, and that the code comes to them. Conditions: those that each theorem states.
-/
import Derived.Test.YtpphpbphgnlmlaaProg
import Derived.Test.YtpphpbphgnlmlaaCDefs
import Derived.KernelRfl
set_option linter.all false
namespace Go.Proofs.Ytpphpbphgnlmlaa
open Go Go.Proofs Vm
noncomputable def P : Program := Try.prog
/-- The types of the lists' elements, each with one of it. -/
noncomputable def elT : Nat → (T : Type) × T
  | 54 => ⟨S.Cong, (⟨0, 0⟩ : S.Cong)⟩
  | 56 => ⟨S.Cong, (⟨0, 0⟩ : S.Cong)⟩
  | _ => ⟨Unit, ()⟩
noncomputable def El (t : Nat) : Type := (elT t).1
abbrev W := V El
noncomputable def dft (t : Nat) : El t := (elT t).2
noncomputable def enc : (t : Nat) → El t → List W
  | 54, a => (fun a : S.Cong => [.int .u64 a.M, .int .u64 a.R]) a
  | 56, a => (fun a : S.Cong => [.int .u64 a.M, .int .u64 a.R]) a
  | _, _ => []
noncomputable def dec : (t : Nat) → List W → Option (El t)
  | 54, [.int .u64 x1, .int .u64 x2] => some (show S.Cong from ⟨x1, x2⟩)
  | 56, [.int .u64 x1, .int .u64 x2] => some (show S.Cong from ⟨x1, x2⟩)
  | _, _ => none

theorem flat53 : FlatT P 2 53 [.int .u64, .int .u64] :=
  FlatT.struct (sh := [.int .u64, .int .u64]) Try.underlying53 Try.stoodInHeld53 Try.isAgg53 Try.sizeOf53 (.cons (s1 := [.int .u64]) (s2 := [.int .u64]) (by decide) rfl (FlatT.int Try.underlying36 Try.isAgg36) (.cons (s1 := [.int .u64]) (s2 := []) (by decide) rfl (FlatT.int Try.underlying36 Try.isAgg36) (.nil _)))

theorem flat54 : FlatT P 2 54 [.int .u64, .int .u64] :=
  FlatT.struct (sh := [.int .u64, .int .u64]) Try.underlying54 Try.stoodInHeld54 Try.isAgg54 Try.sizeOf54 (.cons (s1 := [.int .u64]) (s2 := [.int .u64]) (by decide) rfl (FlatT.int Try.underlying36 Try.isAgg36) (.cons (s1 := [.int .u64]) (s2 := []) (by decide) rfl (FlatT.int Try.underlying36 Try.isAgg36) (.nil _)))

theorem flat56 : FlatT P 2 56 [.int .u64, .int .u64] :=
  FlatT.struct (sh := [.int .u64, .int .u64]) Try.underlying56 Try.stoodInHeld56 Try.isAgg56 Try.sizeOf56 (.cons (s1 := [.int .u64]) (s2 := [.int .u64]) (by decide) rfl (FlatT.int Try.underlying36 Try.isAgg36) (.cons (s1 := [.int .u64]) (s2 := []) (by decide) rfl (FlatT.int Try.underlying36 Try.isAgg36) (.nil _)))

theorem ti2 : TIok P 2 { size := 1, bytes := 8, agg := some false, kind := some .i64, zero := some (.int .i64 0) } where
  size _ w := Try.sizeOf2 w
  agg b h w := by cases h; exact Try.isAgg2 w
  fields := fun h => absurd rfl h
  elem e h := by cases h
  kind k h := by cases h; exact Try.underlying2
  zero z h w := by cases h; exact Try.zeroValue2 w
  str h := (by cases h)
  isBool h := (by cases h)
  flat sh h := by cases h

theorem ti3 : TIok P 3 { size := 1, bytes := 8, agg := some false, kind := some .i64, zero := some (.int .i64 0) } where
  size _ w := Try.sizeOf3 w
  agg b h w := by cases h; exact Try.isAgg3 w
  fields := fun h => absurd rfl h
  elem e h := by cases h
  kind k h := by cases h; exact Try.underlying3
  zero z h w := by cases h; exact Try.zeroValue3 w
  str h := (by cases h)
  isBool h := (by cases h)
  flat sh h := by cases h

theorem ti4 : TIok P 4 { size := 1, bytes := 1, agg := some false, zero := some (.bool false), isBool := true } where
  size _ w := Try.sizeOf4 w
  agg b h w := by cases h; exact Try.isAgg4 w
  fields := fun h => absurd rfl h
  elem e h := by cases h
  kind k h := by cases h
  zero z h w := by cases h; exact Try.zeroValue4 w
  str h := (by cases h)
  isBool h := Try.underlying4
  flat sh h := by cases h

theorem ti5 : TIok P 5 { size := 1, bytes := 1, agg := some false, kind := some .u8, zero := some (.int .u8 0) } where
  size _ w := Try.sizeOf5 w
  agg b h w := by cases h; exact Try.isAgg5 w
  fields := fun h => absurd rfl h
  elem e h := by cases h
  kind k h := by cases h; exact Try.underlying5
  zero z h w := by cases h; exact Try.zeroValue5 w
  str h := (by cases h)
  isBool h := (by cases h)
  flat sh h := by cases h

theorem ti9 : TIok P 9 { size := 1, bytes := 16, agg := some false, zero := some (.string ⟨#[]⟩), str := true } where
  size _ w := Try.sizeOf9 w
  agg b h w := by cases h; exact Try.isAgg9 w
  fields := fun h => absurd rfl h
  elem e h := by cases h
  kind k h := by cases h
  zero z h w := by cases h; exact Try.zeroValue9 w
  str h := Try.underlying9
  isBool h := (by cases h)
  flat sh h := by cases h

theorem ti36 : TIok P 36 { size := 1, bytes := 8, agg := some false, kind := some .u64, zero := some (.int .u64 0) } where
  size _ w := Try.sizeOf36 w
  agg b h w := by cases h; exact Try.isAgg36 w
  fields := fun h => absurd rfl h
  elem e h := by cases h
  kind k h := by cases h; exact Try.underlying36
  zero z h w := by cases h; exact Try.zeroValue36 w
  str h := (by cases h)
  isBool h := (by cases h)
  flat sh h := by cases h

theorem ti53 : TIok P 53 { size := 2, bytes := 16, agg := some true, fields := [(0, 36), (1, 36)], zero := some (.agg #[.int .u64 0, .int .u64 0]), flat := some [.int .u64, .int .u64] } where
  size _ w := Try.sizeOf53 w
  agg b h w := by cases h; exact Try.isAgg53 w
  fields := fun _ => ⟨_, Try.underlying53, rfl⟩
  elem e h := by cases h
  kind k h := by cases h
  zero z h w := by cases h; exact Try.zeroValue53 w
  str h := (by cases h)
  isBool h := (by cases h)
  flat sh h := by cases h; exact ⟨Try.eqGuardType53, fun xs ys r w h1 h2 h3 => flat53.equal (by decide) Try.isAgg53 xs ys r w h1 h2 h3⟩

theorem ti54 : TIok P 54 { size := 2, bytes := 16, agg := some true, fields := [(0, 36), (1, 36)], zero := some (.agg #[.int .u64 0, .int .u64 0]), flat := some [.int .u64, .int .u64] } where
  size _ w := Try.sizeOf54 w
  agg b h w := by cases h; exact Try.isAgg54 w
  fields := fun _ => ⟨_, Try.underlying54, rfl⟩
  elem e h := by cases h
  kind k h := by cases h
  zero z h w := by cases h; exact Try.zeroValue54 w
  str h := (by cases h)
  isBool h := (by cases h)
  flat sh h := by cases h; exact ⟨Try.eqGuardType54, fun xs ys r w h1 h2 h3 => flat54.equal (by decide) Try.isAgg54 xs ys r w h1 h2 h3⟩

theorem ti56 : TIok P 56 { size := 2, bytes := 16, agg := some true, fields := [(0, 36), (1, 36)], zero := some (.agg #[.int .u64 0, .int .u64 0]), flat := some [.int .u64, .int .u64] } where
  size _ w := Try.sizeOf56 w
  agg b h w := by cases h; exact Try.isAgg56 w
  fields := fun _ => ⟨_, Try.underlying56, rfl⟩
  elem e h := by cases h
  kind k h := by cases h
  zero z h w := by cases h; exact Try.zeroValue56 w
  str h := (by cases h)
  isBool h := (by cases h)
  flat sh h := by cases h; exact ⟨Try.eqGuardType56, fun xs ys r w h1 h2 h3 => flat56.equal (by decide) Try.isAgg56 xs ys r w h1 h2 h3⟩

theorem ti71 : TIok P 71 { size := 1, bytes := 24, agg := some false, elem := some 54, zero := some (.slice none 0 0) } where
  size _ w := Try.sizeOf71 w
  agg b h w := by cases h; exact Try.isAgg71 w
  fields := fun h => absurd rfl h
  elem e h := by cases h; exact Try.underlying71
  kind k h := by cases h
  zero z h w := by cases h; exact Try.zeroValue71 w
  str h := (by cases h)
  isBool h := (by cases h)
  flat sh h := by cases h

theorem ti74 : TIok P 74 { size := 1, bytes := 24, agg := some false, elem := some 56, zero := some (.slice none 0 0) } where
  size _ w := Try.sizeOf74 w
  agg b h w := by cases h; exact Try.isAgg74 w
  fields := fun h => absurd rfl h
  elem e h := by cases h; exact Try.underlying74
  kind k h := by cases h
  zero z h w := by cases h; exact Try.zeroValue74 w
  str h := (by cases h)
  isBool h := (by cases h)
  flat sh h := by cases h

theorem ti97 : TIok P 97 { size := 1, bytes := 8, agg := some false, kind := some .u64, zero := some (.int .u64 0) } where
  size _ w := Try.sizeOf97 w
  agg b h w := by cases h; exact Try.isAgg97 w
  fields := fun h => absurd rfl h
  elem e h := by cases h
  kind k h := by cases h; exact Try.underlying97
  zero z h w := by cases h; exact Try.zeroValue97 w
  str h := (by cases h)
  isBool h := (by cases h)
  flat sh h := by cases h

noncomputable def tis : List TI := [{},
  {},
  { size := 1, bytes := 8, agg := some false, kind := some .i64, zero := some (.int .i64 0) },
  { size := 1, bytes := 8, agg := some false, kind := some .i64, zero := some (.int .i64 0) },
  { size := 1, bytes := 1, agg := some false, zero := some (.bool false), isBool := true },
  { size := 1, bytes := 1, agg := some false, kind := some .u8, zero := some (.int .u8 0) },
  {},
  {},
  {},
  { size := 1, bytes := 16, agg := some false, zero := some (.string ⟨#[]⟩), str := true },
  {},
  {},
  {},
  {},
  {},
  {},
  {},
  {},
  {},
  {},
  {},
  {},
  {},
  {},
  {},
  {},
  {},
  {},
  {},
  {},
  {},
  {},
  {},
  {},
  {},
  {},
  { size := 1, bytes := 8, agg := some false, kind := some .u64, zero := some (.int .u64 0) },
  {},
  {},
  {},
  {},
  {},
  {},
  {},
  {},
  {},
  {},
  {},
  {},
  {},
  {},
  {},
  {},
  { size := 2, bytes := 16, agg := some true, fields := [(0, 36), (1, 36)], zero := some (.agg #[.int .u64 0, .int .u64 0]), flat := some [.int .u64, .int .u64] },
  { size := 2, bytes := 16, agg := some true, fields := [(0, 36), (1, 36)], zero := some (.agg #[.int .u64 0, .int .u64 0]), flat := some [.int .u64, .int .u64] },
  {},
  { size := 2, bytes := 16, agg := some true, fields := [(0, 36), (1, 36)], zero := some (.agg #[.int .u64 0, .int .u64 0]), flat := some [.int .u64, .int .u64] },
  {},
  {},
  {},
  {},
  {},
  {},
  {},
  {},
  {},
  {},
  {},
  {},
  {},
  {},
  { size := 1, bytes := 24, agg := some false, elem := some 54, zero := some (.slice none 0 0) },
  {},
  {},
  { size := 1, bytes := 24, agg := some false, elem := some 56, zero := some (.slice none 0 0) },
  {},
  {},
  {},
  {},
  {},
  {},
  {},
  {},
  {},
  {},
  {},
  {},
  {},
  {},
  {},
  {},
  {},
  {},
  {},
  {},
  {},
  {},
  { size := 1, bytes := 8, agg := some false, kind := some .u64, zero := some (.int .u64 0) },
  {},
  {},
  {},
  {},
  {},
  {},
  {},
  {},
  {},
  {},
  {},
  {},
  {},
  {},
  {},
  {},
  {},
  {},
  {},
  {}]

set_option maxRecDepth 100000 in
theorem tis_all : AllTI P 0 tis := ⟨(TIok.default _ _), ⟨(TIok.default _ _), ⟨ti2, ⟨ti3, ⟨ti4, ⟨ti5, ⟨(TIok.default _ _), ⟨(TIok.default _ _), ⟨(TIok.default _ _), ⟨ti9, ⟨(TIok.default _ _), ⟨(TIok.default _ _), ⟨(TIok.default _ _), ⟨(TIok.default _ _), ⟨(TIok.default _ _), ⟨(TIok.default _ _), ⟨(TIok.default _ _), ⟨(TIok.default _ _), ⟨(TIok.default _ _), ⟨(TIok.default _ _), ⟨(TIok.default _ _), ⟨(TIok.default _ _), ⟨(TIok.default _ _), ⟨(TIok.default _ _), ⟨(TIok.default _ _), ⟨(TIok.default _ _), ⟨(TIok.default _ _), ⟨(TIok.default _ _), ⟨(TIok.default _ _), ⟨(TIok.default _ _), ⟨(TIok.default _ _), ⟨(TIok.default _ _), ⟨(TIok.default _ _), ⟨(TIok.default _ _), ⟨(TIok.default _ _), ⟨(TIok.default _ _), ⟨ti36, ⟨(TIok.default _ _), ⟨(TIok.default _ _), ⟨(TIok.default _ _), ⟨(TIok.default _ _), ⟨(TIok.default _ _), ⟨(TIok.default _ _), ⟨(TIok.default _ _), ⟨(TIok.default _ _), ⟨(TIok.default _ _), ⟨(TIok.default _ _), ⟨(TIok.default _ _), ⟨(TIok.default _ _), ⟨(TIok.default _ _), ⟨(TIok.default _ _), ⟨(TIok.default _ _), ⟨(TIok.default _ _), ⟨ti53, ⟨ti54, ⟨(TIok.default _ _), ⟨ti56, ⟨(TIok.default _ _), ⟨(TIok.default _ _), ⟨(TIok.default _ _), ⟨(TIok.default _ _), ⟨(TIok.default _ _), ⟨(TIok.default _ _), ⟨(TIok.default _ _), ⟨(TIok.default _ _), ⟨(TIok.default _ _), ⟨(TIok.default _ _), ⟨(TIok.default _ _), ⟨(TIok.default _ _), ⟨(TIok.default _ _), ⟨(TIok.default _ _), ⟨ti71, ⟨(TIok.default _ _), ⟨(TIok.default _ _), ⟨ti74, ⟨(TIok.default _ _), ⟨(TIok.default _ _), ⟨(TIok.default _ _), ⟨(TIok.default _ _), ⟨(TIok.default _ _), ⟨(TIok.default _ _), ⟨(TIok.default _ _), ⟨(TIok.default _ _), ⟨(TIok.default _ _), ⟨(TIok.default _ _), ⟨(TIok.default _ _), ⟨(TIok.default _ _), ⟨(TIok.default _ _), ⟨(TIok.default _ _), ⟨(TIok.default _ _), ⟨(TIok.default _ _), ⟨(TIok.default _ _), ⟨(TIok.default _ _), ⟨(TIok.default _ _), ⟨(TIok.default _ _), ⟨(TIok.default _ _), ⟨(TIok.default _ _), ⟨ti97, ⟨(TIok.default _ _), ⟨(TIok.default _ _), ⟨(TIok.default _ _), ⟨(TIok.default _ _), ⟨(TIok.default _ _), ⟨(TIok.default _ _), ⟨(TIok.default _ _), ⟨(TIok.default _ _), ⟨(TIok.default _ _), ⟨(TIok.default _ _), ⟨(TIok.default _ _), ⟨(TIok.default _ _), ⟨(TIok.default _ _), ⟨(TIok.default _ _), ⟨(TIok.default _ _), ⟨(TIok.default _ _), ⟨(TIok.default _ _), ⟨(TIok.default _ _), ⟨(TIok.default _ _), ⟨(TIok.default _ _), trivial⟩⟩⟩⟩⟩⟩⟩⟩⟩⟩⟩⟩⟩⟩⟩⟩⟩⟩⟩⟩⟩⟩⟩⟩⟩⟩⟩⟩⟩⟩⟩⟩⟩⟩⟩⟩⟩⟩⟩⟩⟩⟩⟩⟩⟩⟩⟩⟩⟩⟩⟩⟩⟩⟩⟩⟩⟩⟩⟩⟩⟩⟩⟩⟩⟩⟩⟩⟩⟩⟩⟩⟩⟩⟩⟩⟩⟩⟩⟩⟩⟩⟩⟩⟩⟩⟩⟩⟩⟩⟩⟩⟩⟩⟩⟩⟩⟩⟩⟩⟩⟩⟩⟩⟩⟩⟩⟩⟩⟩⟩⟩⟩⟩⟩⟩⟩⟩⟩

noncomputable def base : Cfg El := { P := P, ty := fun t => (nth tis t).getD {}, C := { enc := enc, dec := dec, dft := dft }, call := fun _ _ => none }

theorem base_ok : CfgOk base where
  ty t := tis_ok tis_all t
  enc t a d := by show all (avoid0 d) (enc t a) = true; unfold enc; split <;> rfl
  dec t cs a h := by
    have h' : dec t cs = some a := h
    show enc t a = cs
    unfold dec at h'
    split at h' <;> first | (cases h'; rfl) | cases h'

  call f vs r ps h := by cases h

theorem mixed : P.follows .mixedOrders = true := by kernel_rfl

noncomputable def noLoop : Nat → Env El → Tr El := fun _ _ => .fail
end Go.Proofs.Ytpphpbphgnlmlaa
