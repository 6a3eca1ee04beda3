/-
  Printed by a program for this claim: functions of the code as plain functions, and that the code comes to them. Conditions: those that each theorem states.
-/
import Derived.Test.YtpphpbphgnlmlaaProg
import Derived.Test.YtpphpbphgnlmlaaADefs
import Derived.KernelRfl
set_option linter.all false
namespace Go.Proofs.Ytpphpbphgnlmlaa
open Go Go.Proofs Vm
noncomputable def P : Program := Try.prog
/-- The types of the lists' elements, each with one of it. -/
noncomputable def elT : Nat → (T : Type) × T
  | 24 => ⟨S.Inter, (⟨0, 0⟩ : S.Inter)⟩
  | _ => ⟨Unit, ()⟩
noncomputable def El (t : Nat) : Type := (elT t).1
abbrev W := V El
noncomputable def dft (t : Nat) : El t := (elT t).2
noncomputable def enc : (t : Nat) → El t → List W
  | 24, a => (fun a : S.Inter => [.int .i64 a.Lo, .int .i64 a.Hi]) a
  | _, _ => []
noncomputable def dec : (t : Nat) → List W → Option (El t)
  | 24, [.int .i64 x1, .int .i64 x2] => some (show S.Inter from ⟨x1, x2⟩)
  | _, _ => none

theorem flat23 : FlatT P 2 23 [.int .i64, .int .i64] :=
  FlatT.struct (sh := [.int .i64, .int .i64]) Try.underlying23 Try.stoodInHeld23 Try.isAgg23 Try.sizeOf23 (.cons (s1 := [.int .i64]) (s2 := [.int .i64]) (by decide) rfl (FlatT.int Try.underlying2 Try.isAgg2) (.cons (s1 := [.int .i64]) (s2 := []) (by decide) rfl (FlatT.int Try.underlying2 Try.isAgg2) (.nil _)))

theorem flat24 : FlatT P 2 24 [.int .i64, .int .i64] :=
  FlatT.struct (sh := [.int .i64, .int .i64]) Try.underlying24 Try.stoodInHeld24 Try.isAgg24 Try.sizeOf24 (.cons (s1 := [.int .i64]) (s2 := [.int .i64]) (by decide) rfl (FlatT.int Try.underlying2 Try.isAgg2) (.cons (s1 := [.int .i64]) (s2 := []) (by decide) rfl (FlatT.int Try.underlying2 Try.isAgg2) (.nil _)))

theorem flat26 : FlatT P 2 26 [.int .i64, .int .i64] :=
  FlatT.struct (sh := [.int .i64, .int .i64]) Try.underlying26 Try.stoodInHeld26 Try.isAgg26 Try.sizeOf26 (.cons (s1 := [.int .i64]) (s2 := [.int .i64]) (by decide) rfl (FlatT.int Try.underlying2 Try.isAgg2) (.cons (s1 := [.int .i64]) (s2 := []) (by decide) rfl (FlatT.int Try.underlying2 Try.isAgg2) (.nil _)))

theorem ti2 : TIok P 2 { size := 1, bytes := 8, agg := some false, kind := some .i64, zero := some (.int .i64 0) } where
  size _ w := Try.sizeOf2 w
  agg b h w := by cases h; exact Try.isAgg2 w
  fields := fun h => absurd rfl h
  elem e h := by cases h
  kind k h := by cases h; exact Try.underlying2
  zero z h w := by cases h; exact Try.zeroValue2 w
  str h := (by cases h)
  isBool h := (by cases h)
  flat sh h := by cases h

theorem ti3 : TIok P 3 { size := 1, bytes := 8, agg := some false, kind := some .i64, zero := some (.int .i64 0) } where
  size _ w := Try.sizeOf3 w
  agg b h w := by cases h; exact Try.isAgg3 w
  fields := fun h => absurd rfl h
  elem e h := by cases h
  kind k h := by cases h; exact Try.underlying3
  zero z h w := by cases h; exact Try.zeroValue3 w
  str h := (by cases h)
  isBool h := (by cases h)
  flat sh h := by cases h

theorem ti4 : TIok P 4 { size := 1, bytes := 1, agg := some false, zero := some (.bool false), isBool := true } where
  size _ w := Try.sizeOf4 w
  agg b h w := by cases h; exact Try.isAgg4 w
  fields := fun h => absurd rfl h
  elem e h := by cases h
  kind k h := by cases h
  zero z h w := by cases h; exact Try.zeroValue4 w
  str h := (by cases h)
  isBool h := Try.underlying4
  flat sh h := by cases h

theorem ti22 : TIok P 22 { size := 1, bytes := 24, agg := some false, elem := some 24, zero := some (.slice none 0 0) } where
  size _ w := Try.sizeOf22 w
  agg b h w := by cases h; exact Try.isAgg22 w
  fields := fun h => absurd rfl h
  elem e h := by cases h; exact Try.underlying22
  kind k h := by cases h
  zero z h w := by cases h; exact Try.zeroValue22 w
  str h := (by cases h)
  isBool h := (by cases h)
  flat sh h := by cases h

theorem ti23 : TIok P 23 { size := 2, bytes := 16, agg := some true, fields := [(0, 2), (1, 2)], zero := some (.agg #[.int .i64 0, .int .i64 0]), flat := some [.int .i64, .int .i64] } where
  size _ w := Try.sizeOf23 w
  agg b h w := by cases h; exact Try.isAgg23 w
  fields := fun _ => ⟨_, Try.underlying23, rfl⟩
  elem e h := by cases h
  kind k h := by cases h
  zero z h w := by cases h; exact Try.zeroValue23 w
  str h := (by cases h)
  isBool h := (by cases h)
  flat sh h := by cases h; exact ⟨Try.eqGuardType23, fun xs ys r w h1 h2 h3 => flat23.equal (by decide) Try.isAgg23 xs ys r w h1 h2 h3⟩

theorem ti24 : TIok P 24 { size := 2, bytes := 16, agg := some true, fields := [(0, 2), (1, 2)], zero := some (.agg #[.int .i64 0, .int .i64 0]), flat := some [.int .i64, .int .i64] } where
  size _ w := Try.sizeOf24 w
  agg b h w := by cases h; exact Try.isAgg24 w
  fields := fun _ => ⟨_, Try.underlying24, rfl⟩
  elem e h := by cases h
  kind k h := by cases h
  zero z h w := by cases h; exact Try.zeroValue24 w
  str h := (by cases h)
  isBool h := (by cases h)
  flat sh h := by cases h; exact ⟨Try.eqGuardType24, fun xs ys r w h1 h2 h3 => flat24.equal (by decide) Try.isAgg24 xs ys r w h1 h2 h3⟩

theorem ti26 : TIok P 26 { size := 2, bytes := 16, agg := some true, fields := [(0, 2), (1, 2)], zero := some (.agg #[.int .i64 0, .int .i64 0]), flat := some [.int .i64, .int .i64] } where
  size _ w := Try.sizeOf26 w
  agg b h w := by cases h; exact Try.isAgg26 w
  fields := fun _ => ⟨_, Try.underlying26, rfl⟩
  elem e h := by cases h
  kind k h := by cases h
  zero z h w := by cases h; exact Try.zeroValue26 w
  str h := (by cases h)
  isBool h := (by cases h)
  flat sh h := by cases h; exact ⟨Try.eqGuardType26, fun xs ys r w h1 h2 h3 => flat26.equal (by decide) Try.isAgg26 xs ys r w h1 h2 h3⟩

theorem ti36 : TIok P 36 { size := 1, bytes := 8, agg := some false, kind := some .u64, zero := some (.int .u64 0) } where
  size _ w := Try.sizeOf36 w
  agg b h w := by cases h; exact Try.isAgg36 w
  fields := fun h => absurd rfl h
  elem e h := by cases h
  kind k h := by cases h; exact Try.underlying36
  zero z h w := by cases h; exact Try.zeroValue36 w
  str h := (by cases h)
  isBool h := (by cases h)
  flat sh h := by cases h

noncomputable def tis : List TI := [{},
  {},
  { size := 1, bytes := 8, agg := some false, kind := some .i64, zero := some (.int .i64 0) },
  { size := 1, bytes := 8, agg := some false, kind := some .i64, zero := some (.int .i64 0) },
  { size := 1, bytes := 1, agg := some false, zero := some (.bool false), isBool := true },
  {},
  {},
  {},
  {},
  {},
  {},
  {},
  {},
  {},
  {},
  {},
  {},
  {},
  {},
  {},
  {},
  {},
  { size := 1, bytes := 24, agg := some false, elem := some 24, zero := some (.slice none 0 0) },
  { size := 2, bytes := 16, agg := some true, fields := [(0, 2), (1, 2)], zero := some (.agg #[.int .i64 0, .int .i64 0]), flat := some [.int .i64, .int .i64] },
  { size := 2, bytes := 16, agg := some true, fields := [(0, 2), (1, 2)], zero := some (.agg #[.int .i64 0, .int .i64 0]), flat := some [.int .i64, .int .i64] },
  {},
  { size := 2, bytes := 16, agg := some true, fields := [(0, 2), (1, 2)], zero := some (.agg #[.int .i64 0, .int .i64 0]), flat := some [.int .i64, .int .i64] },
  {},
  {},
  {},
  {},
  {},
  {},
  {},
  {},
  {},
  { size := 1, bytes := 8, agg := some false, kind := some .u64, zero := some (.int .u64 0) },
  {},
  {},
  {},
  {},
  {},
  {},
  {},
  {},
  {},
  {},
  {},
  {},
  {},
  {},
  {},
  {},
  {},
  {},
  {},
  {},
  {},
  {},
  {},
  {},
  {},
  {},
  {},
  {},
  {},
  {},
  {},
  {},
  {},
  {},
  {},
  {},
  {},
  {},
  {},
  {},
  {},
  {},
  {},
  {},
  {},
  {},
  {},
  {},
  {},
  {},
  {},
  {},
  {},
  {},
  {},
  {},
  {},
  {},
  {},
  {},
  {},
  {},
  {},
  {},
  {},
  {},
  {},
  {},
  {},
  {},
  {},
  {},
  {},
  {},
  {},
  {},
  {},
  {},
  {},
  {},
  {}]

set_option maxRecDepth 100000 in
theorem tis_all : AllTI P 0 tis := ⟨(TIok.default _ _), ⟨(TIok.default _ _), ⟨ti2, ⟨ti3, ⟨ti4, ⟨(TIok.default _ _), ⟨(TIok.default _ _), ⟨(TIok.default _ _), ⟨(TIok.default _ _), ⟨(TIok.default _ _), ⟨(TIok.default _ _), ⟨(TIok.default _ _), ⟨(TIok.default _ _), ⟨(TIok.default _ _), ⟨(TIok.default _ _), ⟨(TIok.default _ _), ⟨(TIok.default _ _), ⟨(TIok.default _ _), ⟨(TIok.default _ _), ⟨(TIok.default _ _), ⟨(TIok.default _ _), ⟨(TIok.default _ _), ⟨ti22, ⟨ti23, ⟨ti24, ⟨(TIok.default _ _), ⟨ti26, ⟨(TIok.default _ _), ⟨(TIok.default _ _), ⟨(TIok.default _ _), ⟨(TIok.default _ _), ⟨(TIok.default _ _), ⟨(TIok.default _ _), ⟨(TIok.default _ _), ⟨(TIok.default _ _), ⟨(TIok.default _ _), ⟨ti36, ⟨(TIok.default _ _), ⟨(TIok.default _ _), ⟨(TIok.default _ _), ⟨(TIok.default _ _), ⟨(TIok.default _ _), ⟨(TIok.default _ _), ⟨(TIok.default _ _), ⟨(TIok.default _ _), ⟨(TIok.default _ _), ⟨(TIok.default _ _), ⟨(TIok.default _ _), ⟨(TIok.default _ _), ⟨(TIok.default _ _), ⟨(TIok.default _ _), ⟨(TIok.default _ _), ⟨(TIok.default _ _), ⟨(TIok.default _ _), ⟨(TIok.default _ _), ⟨(TIok.default _ _), ⟨(TIok.default _ _), ⟨(TIok.default _ _), ⟨(TIok.default _ _), ⟨(TIok.default _ _), ⟨(TIok.default _ _), ⟨(TIok.default _ _), ⟨(TIok.default _ _), ⟨(TIok.default _ _), ⟨(TIok.default _ _), ⟨(TIok.default _ _), ⟨(TIok.default _ _), ⟨(TIok.default _ _), ⟨(TIok.default _ _), ⟨(TIok.default _ _), ⟨(TIok.default _ _), ⟨(TIok.default _ _), ⟨(TIok.default _ _), ⟨(TIok.default _ _), ⟨(TIok.default _ _), ⟨(TIok.default _ _), ⟨(TIok.default _ _), ⟨(TIok.default _ _), ⟨(TIok.default _ _), ⟨(TIok.default _ _), ⟨(TIok.default _ _), ⟨(TIok.default _ _), ⟨(TIok.default _ _), ⟨(TIok.default _ _), ⟨(TIok.default _ _), ⟨(TIok.default _ _), ⟨(TIok.default _ _), ⟨(TIok.default _ _), ⟨(TIok.default _ _), ⟨(TIok.default _ _), ⟨(TIok.default _ _), ⟨(TIok.default _ _), ⟨(TIok.default _ _), ⟨(TIok.default _ _), ⟨(TIok.default _ _), ⟨(TIok.default _ _), ⟨(TIok.default _ _), ⟨(TIok.default _ _), ⟨(TIok.default _ _), ⟨(TIok.default _ _), ⟨(TIok.default _ _), ⟨(TIok.default _ _), ⟨(TIok.default _ _), ⟨(TIok.default _ _), ⟨(TIok.default _ _), ⟨(TIok.default _ _), ⟨(TIok.default _ _), ⟨(TIok.default _ _), ⟨(TIok.default _ _), ⟨(TIok.default _ _), ⟨(TIok.default _ _), ⟨(TIok.default _ _), ⟨(TIok.default _ _), ⟨(TIok.default _ _), ⟨(TIok.default _ _), ⟨(TIok.default _ _), ⟨(TIok.default _ _), ⟨(TIok.default _ _), trivial⟩⟩⟩⟩⟩⟩⟩⟩⟩⟩⟩⟩⟩⟩⟩⟩⟩⟩⟩⟩⟩⟩⟩⟩⟩⟩⟩⟩⟩⟩⟩⟩⟩⟩⟩⟩⟩⟩⟩⟩⟩⟩⟩⟩⟩⟩⟩⟩⟩⟩⟩⟩⟩⟩⟩⟩⟩⟩⟩⟩⟩⟩⟩⟩⟩⟩⟩⟩⟩⟩⟩⟩⟩⟩⟩⟩⟩⟩⟩⟩⟩⟩⟩⟩⟩⟩⟩⟩⟩⟩⟩⟩⟩⟩⟩⟩⟩⟩⟩⟩⟩⟩⟩⟩⟩⟩⟩⟩⟩⟩⟩⟩⟩⟩⟩⟩⟩⟩

noncomputable def base : Cfg El := { P := P, ty := fun t => (nth tis t).getD {}, C := { enc := enc, dec := dec, dft := dft }, call := fun _ _ => none }

theorem base_ok : CfgOk base where
  ty t := tis_ok tis_all t
  enc t a d := by show all (avoid0 d) (enc t a) = true; unfold enc; split <;> rfl
  dec t cs a h := by
    have h' : dec t cs = some a := h
    show enc t a = cs
    unfold dec at h'
    split at h' <;> first | (cases h'; rfl) | cases h'
  callee f vs r h := by cases h
  call f vs r ps h := by cases h

theorem mixed : P.follows .mixedOrders = true := by kernel_rfl

noncomputable def noLoop : Nat → Env El → Tr El := fun _ _ => .fail
end Go.Proofs.Ytpphpbphgnlmlaa
