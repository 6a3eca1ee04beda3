/-
  Printed by a program for this claim: functions of the code as plain functions, and that the code comes to them. Conditions: those that each theorem states.
-/
import Derived.Test.YtpnegnhbbcligaaProg
import Derived.Test.YtpnegnhbbcligaaWDefs
import Derived.KernelRfl
set_option linter.all false
namespace Go.Proofs.Ytpnegnhbbcligaa
open Go Go.Proofs Vm
noncomputable def P : Program := Try.prog
/-- The types of the lists' elements, each with one of it. -/
noncomputable def elT : Nat → (T : Type) × T
  | 2 => ⟨Int, 0⟩
  | 3 => ⟨Int, 0⟩
  | _ => ⟨Unit, ()⟩
noncomputable def El (t : Nat) : Type := (elT t).1
abbrev W := V El
noncomputable def dft (t : Nat) : El t := (elT t).2
noncomputable def enc : (t : Nat) → El t → List W
  | 2, a => (fun a : Int => [.int .i64 a]) a
  | 3, a => (fun a : Int => [.int .i64 a]) a
  | _, _ => []
noncomputable def dec : (t : Nat) → List W → Option (El t)
  | 2, [.int .i64 x1] => some (show Int from x1)
  | 3, [.int .i64 x1] => some (show Int from x1)
  | _, _ => none

theorem ti2 : TIok P 2 { size := 1, bytes := 8, agg := some false, app := true, kind := some .i64, zero := some (.int .i64 0) } where
  size _ w := Try.sizeOf2 w
  agg b h w := by cases h; exact Try.isAgg2 w
  fields := fun h => absurd rfl h
  elem e h := by cases h
  kind k h := by cases h; exact Try.underlying2
  zero z h w := by cases h; exact Try.zeroValue2 w
  str h := (by cases h)
  isBool h := (by cases h)
  arr e m h := by cases h
  sarr e m h := by cases h
  app h := app_of Try.type2 rfl rfl rfl rfl
  map k e h := by cases h
  flat sh h := by cases h

theorem ti3 : TIok P 3 { size := 1, bytes := 8, agg := some false, app := true, kind := some .i64, zero := some (.int .i64 0) } where
  size _ w := Try.sizeOf3 w
  agg b h w := by cases h; exact Try.isAgg3 w
  fields := fun h => absurd rfl h
  elem e h := by cases h
  kind k h := by cases h; exact Try.underlying3
  zero z h w := by cases h; exact Try.zeroValue3 w
  str h := (by cases h)
  isBool h := (by cases h)
  arr e m h := by cases h
  sarr e m h := by cases h
  app h := app_of Try.type3 rfl rfl rfl rfl
  map k e h := by cases h
  flat sh h := by cases h

theorem ti4 : TIok P 4 { size := 1, bytes := 1, agg := some false, zero := some (.bool false), isBool := true } where
  size _ w := Try.sizeOf4 w
  agg b h w := by cases h; exact Try.isAgg4 w
  fields := fun h => absurd rfl h
  elem e h := by cases h
  kind k h := by cases h
  zero z h w := by cases h; exact Try.zeroValue4 w
  str h := (by cases h)
  isBool h := Try.underlying4
  arr e m h := by cases h
  sarr e m h := by cases h
  app h := by cases h
  map k e h := by cases h
  flat sh h := by cases h

theorem ti36 : TIok P 36 { size := 1, bytes := 8, agg := some false, kind := some .u64, zero := some (.int .u64 0) } where
  size _ w := Try.sizeOf36 w
  agg b h w := by cases h; exact Try.isAgg36 w
  fields := fun h => absurd rfl h
  elem e h := by cases h
  kind k h := by cases h; exact Try.underlying36
  zero z h w := by cases h; exact Try.zeroValue36 w
  str h := (by cases h)
  isBool h := (by cases h)
  arr e m h := by cases h
  sarr e m h := by cases h
  app h := by cases h
  map k e h := by cases h
  flat sh h := by cases h

theorem ti52 : TIok P 52 { size := 1, bytes := 24, agg := some false, elem := some 2, slc := [(0, 2)], zero := some (.slice none 0 0) } where
  size _ w := Try.sizeOf52 w
  agg b h w := by cases h; exact Try.isAgg52 w
  fields := fun h => absurd rfl h
  elem e h := by cases h; exact Try.underlying52
  kind k h := by cases h
  zero z h w := by cases h; exact Try.zeroValue52 w
  str h := (by cases h)
  isBool h := (by cases h)
  arr e m h := by cases h
  sarr e m h := by cases h
  app h := by cases h
  map k e h := by cases h
  flat sh h := by cases h

theorem ti54 : TIok P 54 { size := 1, bytes := 8, agg := some false, kind := some .i64, zero := some (.int .i64 0) } where
  size _ w := Try.sizeOf54 w
  agg b h w := by cases h; exact Try.isAgg54 w
  fields := fun h => absurd rfl h
  elem e h := by cases h
  kind k h := by cases h; exact Try.underlying54
  zero z h w := by cases h; exact Try.zeroValue54 w
  str h := (by cases h)
  isBool h := (by cases h)
  arr e m h := by cases h
  sarr e m h := by cases h
  app h := by cases h
  map k e h := by cases h
  flat sh h := by cases h

theorem ti59 : TIok P 59 { size := 1, bytes := 8, agg := some false, zero := some (.nilFunc) } where
  size _ w := Try.sizeOf59 w
  agg b h w := by cases h; exact Try.isAgg59 w
  fields := fun h => absurd rfl h
  elem e h := by cases h
  kind k h := by cases h
  zero z h w := by cases h; exact Try.zeroValue59 w
  str h := (by cases h)
  isBool h := (by cases h)
  arr e m h := by cases h
  sarr e m h := by cases h
  app h := by cases h
  map k e h := by cases h
  flat sh h := by cases h

theorem ti60 : TIok P 60 { size := 1, bytes := 8, agg := some false, kind := some .u64, zero := some (.int .u64 0) } where
  size _ w := Try.sizeOf60 w
  agg b h w := by cases h; exact Try.isAgg60 w
  fields := fun h => absurd rfl h
  elem e h := by cases h
  kind k h := by cases h; exact Try.underlying60
  zero z h w := by cases h; exact Try.zeroValue60 w
  str h := (by cases h)
  isBool h := (by cases h)
  arr e m h := by cases h
  sarr e m h := by cases h
  app h := by cases h
  map k e h := by cases h
  flat sh h := by cases h

theorem ti101 : TIok P 101 { size := 1, bytes := 8, agg := some false, map := some (.i64, 59), zero := some (.map none) } where
  size _ w := Try.sizeOf101 w
  agg b h w := by cases h; exact Try.isAgg101 w
  fields := fun h => absurd rfl h
  elem e h := by cases h
  kind k h := by cases h
  zero z h w := by cases h; exact Try.zeroValue101 w
  str h := (by cases h)
  isBool h := (by cases h)
  arr e m h := by cases h
  sarr e m h := by cases h
  app h := by cases h
  map k e h := by cases h; exact ⟨54, Try.underlying101, Try.underlying54⟩
  flat sh h := by cases h

theorem ti106 : TIok P 106 { size := 64, bytes := 512, agg := some true, arr := some (3, 64), zero := some (.agg #[.int .i64 0, .int .i64 0, .int .i64 0, .int .i64 0, .int .i64 0, .int .i64 0, .int .i64 0, .int .i64 0, .int .i64 0, .int .i64 0, .int .i64 0, .int .i64 0, .int .i64 0, .int .i64 0, .int .i64 0, .int .i64 0, .int .i64 0, .int .i64 0, .int .i64 0, .int .i64 0, .int .i64 0, .int .i64 0, .int .i64 0, .int .i64 0, .int .i64 0, .int .i64 0, .int .i64 0, .int .i64 0, .int .i64 0, .int .i64 0, .int .i64 0, .int .i64 0, .int .i64 0, .int .i64 0, .int .i64 0, .int .i64 0, .int .i64 0, .int .i64 0, .int .i64 0, .int .i64 0, .int .i64 0, .int .i64 0, .int .i64 0, .int .i64 0, .int .i64 0, .int .i64 0, .int .i64 0, .int .i64 0, .int .i64 0, .int .i64 0, .int .i64 0, .int .i64 0, .int .i64 0, .int .i64 0, .int .i64 0, .int .i64 0, .int .i64 0, .int .i64 0, .int .i64 0, .int .i64 0, .int .i64 0, .int .i64 0, .int .i64 0, .int .i64 0]) } where
  size _ w := Try.sizeOf106 w
  agg b h w := by cases h; exact Try.isAgg106 w
  fields := fun h => absurd rfl h
  elem e h := by cases h
  kind k h := by cases h
  zero z h w := by cases h; exact Try.zeroValue106 w
  str h := (by cases h)
  isBool h := (by cases h)
  arr e m h := by cases h; exact Try.underlying106
  sarr e m h := by cases h
  app h := by cases h
  map k e h := by cases h
  flat sh h := by cases h

noncomputable def tis : List TI := [{},
  {},
  { size := 1, bytes := 8, agg := some false, app := true, kind := some .i64, zero := some (.int .i64 0) },
  { size := 1, bytes := 8, agg := some false, app := true, kind := some .i64, zero := some (.int .i64 0) },
  { size := 1, bytes := 1, agg := some false, zero := some (.bool false), isBool := true },
  {},
  {},
  {},
  {},
  {},
  {},
  {},
  {},
  {},
  {},
  {},
  {},
  {},
  {},
  {},
  {},
  {},
  {},
  {},
  {},
  {},
  {},
  {},
  {},
  {},
  {},
  {},
  {},
  {},
  {},
  {},
  { size := 1, bytes := 8, agg := some false, kind := some .u64, zero := some (.int .u64 0) },
  {},
  {},
  {},
  {},
  {},
  {},
  {},
  {},
  {},
  {},
  {},
  {},
  {},
  {},
  {},
  { size := 1, bytes := 24, agg := some false, elem := some 2, slc := [(0, 2)], zero := some (.slice none 0 0) },
  {},
  { size := 1, bytes := 8, agg := some false, kind := some .i64, zero := some (.int .i64 0) },
  {},
  {},
  {},
  {},
  { size := 1, bytes := 8, agg := some false, zero := some (.nilFunc) },
  { size := 1, bytes := 8, agg := some false, kind := some .u64, zero := some (.int .u64 0) },
  {},
  {},
  {},
  {},
  {},
  {},
  {},
  {},
  {},
  {},
  {},
  {},
  {},
  {},
  {},
  {},
  {},
  {},
  {},
  {},
  {},
  {},
  {},
  {},
  {},
  {},
  {},
  {},
  {},
  {},
  {},
  {},
  {},
  {},
  {},
  {},
  {},
  {},
  {},
  {},
  { size := 1, bytes := 8, agg := some false, map := some (.i64, 59), zero := some (.map none) },
  {},
  {},
  {},
  {},
  { size := 64, bytes := 512, agg := some true, arr := some (3, 64), zero := some (.agg #[.int .i64 0, .int .i64 0, .int .i64 0, .int .i64 0, .int .i64 0, .int .i64 0, .int .i64 0, .int .i64 0, .int .i64 0, .int .i64 0, .int .i64 0, .int .i64 0, .int .i64 0, .int .i64 0, .int .i64 0, .int .i64 0, .int .i64 0, .int .i64 0, .int .i64 0, .int .i64 0, .int .i64 0, .int .i64 0, .int .i64 0, .int .i64 0, .int .i64 0, .int .i64 0, .int .i64 0, .int .i64 0, .int .i64 0, .int .i64 0, .int .i64 0, .int .i64 0, .int .i64 0, .int .i64 0, .int .i64 0, .int .i64 0, .int .i64 0, .int .i64 0, .int .i64 0, .int .i64 0, .int .i64 0, .int .i64 0, .int .i64 0, .int .i64 0, .int .i64 0, .int .i64 0, .int .i64 0, .int .i64 0, .int .i64 0, .int .i64 0, .int .i64 0, .int .i64 0, .int .i64 0, .int .i64 0, .int .i64 0, .int .i64 0, .int .i64 0, .int .i64 0, .int .i64 0, .int .i64 0, .int .i64 0, .int .i64 0, .int .i64 0, .int .i64 0]) },
  {},
  {},
  {},
  {},
  {},
  {},
  {},
  {},
  {},
  {},
  {},
  {},
  {},
  {},
  {},
  {},
  {},
  {},
  {},
  {},
  {},
  {},
  {},
  {},
  {},
  {},
  {},
  {},
  {},
  {},
  {},
  {},
  {},
  {},
  {},
  {},
  {},
  {},
  {},
  {}]

set_option maxRecDepth 100000 in
theorem tis_all : AllTI P 0 tis := ⟨(TIok.default _ _), ⟨(TIok.default _ _), ⟨ti2, ⟨ti3, ⟨ti4, ⟨(TIok.default _ _), ⟨(TIok.default _ _), ⟨(TIok.default _ _), ⟨(TIok.default _ _), ⟨(TIok.default _ _), ⟨(TIok.default _ _), ⟨(TIok.default _ _), ⟨(TIok.default _ _), ⟨(TIok.default _ _), ⟨(TIok.default _ _), ⟨(TIok.default _ _), ⟨(TIok.default _ _), ⟨(TIok.default _ _), ⟨(TIok.default _ _), ⟨(TIok.default _ _), ⟨(TIok.default _ _), ⟨(TIok.default _ _), ⟨(TIok.default _ _), ⟨(TIok.default _ _), ⟨(TIok.default _ _), ⟨(TIok.default _ _), ⟨(TIok.default _ _), ⟨(TIok.default _ _), ⟨(TIok.default _ _), ⟨(TIok.default _ _), ⟨(TIok.default _ _), ⟨(TIok.default _ _), ⟨(TIok.default _ _), ⟨(TIok.default _ _), ⟨(TIok.default _ _), ⟨(TIok.default _ _), ⟨ti36, ⟨(TIok.default _ _), ⟨(TIok.default _ _), ⟨(TIok.default _ _), ⟨(TIok.default _ _), ⟨(TIok.default _ _), ⟨(TIok.default _ _), ⟨(TIok.default _ _), ⟨(TIok.default _ _), ⟨(TIok.default _ _), ⟨(TIok.default _ _), ⟨(TIok.default _ _), ⟨(TIok.default _ _), ⟨(TIok.default _ _), ⟨(TIok.default _ _), ⟨(TIok.default _ _), ⟨ti52, ⟨(TIok.default _ _), ⟨ti54, ⟨(TIok.default _ _), ⟨(TIok.default _ _), ⟨(TIok.default _ _), ⟨(TIok.default _ _), ⟨ti59, ⟨ti60, ⟨(TIok.default _ _), ⟨(TIok.default _ _), ⟨(TIok.default _ _), ⟨(TIok.default _ _), ⟨(TIok.default _ _), ⟨(TIok.default _ _), ⟨(TIok.default _ _), ⟨(TIok.default _ _), ⟨(TIok.default _ _), ⟨(TIok.default _ _), ⟨(TIok.default _ _), ⟨(TIok.default _ _), ⟨(TIok.default _ _), ⟨(TIok.default _ _), ⟨(TIok.default _ _), ⟨(TIok.default _ _), ⟨(TIok.default _ _), ⟨(TIok.default _ _), ⟨(TIok.default _ _), ⟨(TIok.default _ _), ⟨(TIok.default _ _), ⟨(TIok.default _ _), ⟨(TIok.default _ _), ⟨(TIok.default _ _), ⟨(TIok.default _ _), ⟨(TIok.default _ _), ⟨(TIok.default _ _), ⟨(TIok.default _ _), ⟨(TIok.default _ _), ⟨(TIok.default _ _), ⟨(TIok.default _ _), ⟨(TIok.default _ _), ⟨(TIok.default _ _), ⟨(TIok.default _ _), ⟨(TIok.default _ _), ⟨(TIok.default _ _), ⟨(TIok.default _ _), ⟨(TIok.default _ _), ⟨(TIok.default _ _), ⟨(TIok.default _ _), ⟨ti101, ⟨(TIok.default _ _), ⟨(TIok.default _ _), ⟨(TIok.default _ _), ⟨(TIok.default _ _), ⟨ti106, ⟨(TIok.default _ _), ⟨(TIok.default _ _), ⟨(TIok.default _ _), ⟨(TIok.default _ _), ⟨(TIok.default _ _), ⟨(TIok.default _ _), ⟨(TIok.default _ _), ⟨(TIok.default _ _), ⟨(TIok.default _ _), ⟨(TIok.default _ _), ⟨(TIok.default _ _), ⟨(TIok.default _ _), ⟨(TIok.default _ _), ⟨(TIok.default _ _), ⟨(TIok.default _ _), ⟨(TIok.default _ _), ⟨(TIok.default _ _), ⟨(TIok.default _ _), ⟨(TIok.default _ _), ⟨(TIok.default _ _), ⟨(TIok.default _ _), ⟨(TIok.default _ _), ⟨(TIok.default _ _), ⟨(TIok.default _ _), ⟨(TIok.default _ _), ⟨(TIok.default _ _), ⟨(TIok.default _ _), ⟨(TIok.default _ _), ⟨(TIok.default _ _), ⟨(TIok.default _ _), ⟨(TIok.default _ _), ⟨(TIok.default _ _), ⟨(TIok.default _ _), ⟨(TIok.default _ _), ⟨(TIok.default _ _), ⟨(TIok.default _ _), ⟨(TIok.default _ _), ⟨(TIok.default _ _), ⟨(TIok.default _ _), ⟨(TIok.default _ _), trivial⟩⟩⟩⟩⟩⟩⟩⟩⟩⟩⟩⟩⟩⟩⟩⟩⟩⟩⟩⟩⟩⟩⟩⟩⟩⟩⟩⟩⟩⟩⟩⟩⟩⟩⟩⟩⟩⟩⟩⟩⟩⟩⟩⟩⟩⟩⟩⟩⟩⟩⟩⟩⟩⟩⟩⟩⟩⟩⟩⟩⟩⟩⟩⟩⟩⟩⟩⟩⟩⟩⟩⟩⟩⟩⟩⟩⟩⟩⟩⟩⟩⟩⟩⟩⟩⟩⟩⟩⟩⟩⟩⟩⟩⟩⟩⟩⟩⟩⟩⟩⟩⟩⟩⟩⟩⟩⟩⟩⟩⟩⟩⟩⟩⟩⟩⟩⟩⟩⟩⟩⟩⟩⟩⟩⟩⟩⟩⟩⟩⟩⟩⟩⟩⟩⟩⟩⟩⟩⟩⟩⟩⟩⟩⟩⟩⟩⟩

noncomputable def base : Cfg El := { P := P, ty := fun t => (nth tis t).getD {}, C := { enc := enc, dec := dec, dft := dft }, call := fun _ _ => none, own := [], pins := [], inv := fun _ _ => True }

theorem base_ok : CfgOk base where
  ty t := tis_ok tis_all t
  arr t e m h := arrs_ok (l := tis) (by kernel_rfl) t e m h
  enc t a p := by show all (ok0 p) (enc t a) = true; unfold enc; split <;> rfl
  fresh t a := by show all (fun v => allFr0 (frs true v)) (enc t a) = true; unfold enc; split <;> rfl
  one t a := by show all one (enc t a) = true; unfold enc; split <;> rfl
  plain t a h := by
    have h' : plainT ((nth tis t).getD {}) = true := h
    show all plainV (enc t a) = true
    unfold enc; split <;> first | rfl | (exact absurd h' (by decide))
  old t a := by show all old0 (enc t a) = true; unfold enc; split <;> rfl
  u8 t a h := by
    have h' : ((nth tis t).getD {}).kind = some .u8 := h
    show enc t a = [] ∨ ∃ n, enc t a = [.int .u8 n]
    unfold enc; split <;> first | exact .inr ⟨_, rfl⟩ | exact .inl rfl | (exact absurd h' (by decide))
  inv _ _ _ _ _ _ _ := trivial
  dec t cs a h := by
    have h' : dec t cs = some a := h
    show enc t a = cs
    unfold dec at h'
    split at h' <;> first | (cases h'; rfl) | cases h'

  call f vs r outs ps h := by cases h

theorem mixed : P.follows .mixedOrders = true := by kernel_rfl

noncomputable def noLoop : Nat → Env El → Tr El := fun _ _ => .fail
end Go.Proofs.Ytpnegnhbbcligaa
