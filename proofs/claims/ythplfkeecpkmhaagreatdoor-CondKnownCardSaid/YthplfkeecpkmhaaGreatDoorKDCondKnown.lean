/-
  The statement CondKnown: whatever the input, the function answers true, and the input reads as it did. Conditions: none beside the statement's own.
-/
import Derived.Test.YthplfkeecpkmhaaGreatDoorKDSem
import Derived.Test.YthplfkeecpkmhaaGreatDoorCondKnownPlain
import Derived.Test.YthplfkeecpkmhaaGreatDoorRows
import Derived.WalkKit
import Derived.ProofKit
import Derived.OpenShut
import Derived.ShutString
import Derived.ChangeOld
import Derived.Below
import Derived.LaidMore
import Derived.Stop.Joined
import Derived.Stop.LaidErr
import Derived.SevenTiedAt
import Derived.Test.YthplfkeecpkmhaaGreatDoorCards
import Derived.Test.YthplfkeecpkmhaaGreatDoorTie
namespace Go.Proofs.YthplfkeecpkmhaaGreatDoor.condKnown
open Go Go.Proofs Go.Proofs.YthplfkeecpkmhaaGreatDoor Go.ChangeShapes Go.WideShapes Go.ChangeAt Go.RowKit Vm
open Go.ChangeMaps (open_string shut_string)
set_option linter.all false

section
attribute [local irreducible] Vm.Tr.vc Vm.Tr.out Vm.Fn Vm.Fn.out Vm.ev Vm.loopsOf Vm.Tr.noReq
noncomputable def body9 : Code := (Tryz.f9.body).getD .skip
noncomputable def lb9_0 : Code := ((nth (loopsOf 0 body9) 0).getD (0, .skip)).2
noncomputable def px9_0 : List W → Option S.law24_CondKnown_L0
  | [.own 212, .int .i64 y1, .rowc 28 false none y2] => some ⟨y1, y2⟩
  | _ => none
noncomputable def tx9_0 (x : S.law24_CondKnown_L0) : List W := [.own 212, .int .i64 x.lo, .rowc 28 false none x.l]
noncomputable def py9_0 : Ex → List W → Option (S.law24_CondKnown_L0)
  | .exit 0, [.own 212, .int .i64 y1, .rowc 28 false none y2] => some ⟨y1, y2⟩
  | _, _ => none
noncomputable def ld9_0 : LD El where
  X := S.law24_CondKnown_L0
  Y := S.law24_CondKnown_L0
  keys := [.slot 1, .slot 2, .row 212]
  fits := [56, 2, 0]
  px := px9_0
  tx := tx9_0
  okeys := [.slot 1, .slot 2, .row 212]
  ofits := [56, 2, 0]
  py := py9_0
  ty := fun y => tx9_0 y
  oex := fun _ => .exit 0
  junk := [.slot 3, .slot 10, .slot 11, .slot 12, .slot 13, .slot 14, .slot 15, .slot 16, .slot 17, .slot 18, .slot 19, .slot 20, .slot 21, .slot 22, .slot 23, .slot 24, .slot 25, .slot 26, .slot 27, .slot 28, .slot 29, .slot 30, .slot 31, .slot 32, .row 634]
  rows := [(1, 28)]
noncomputable def lo9_0 : S.law24_CondKnown_L0 → Tr El := fun y => .leaf (.exit 0) (zipK ld9_0.okeys (tx9_0 y) ++ junkK ld9_0.junk)
noncomputable def lb9_2 : Code := ((nth (loopsOf 0 lb9_0) 0).getD (0, .skip)).2
noncomputable def px9_2 : List W → Option S.law24_CondKnown_L2
  | [.own 634, .int .i64 y1, .int .u64 y2, .rowc 28 false none y3] => some ⟨y1, y2, y3⟩
  | _ => none
noncomputable def tx9_2 (x : S.law24_CondKnown_L2) : List W := [.own 634, .int .i64 x.lo, .int .u64 x.m, .rowc 28 false none x.l]
noncomputable def py9_2 : Ex → List W → Option (S.law24_CondKnown_L2)
  | .exit 2, [.own 634, .int .i64 y1, .int .u64 y2, .rowc 28 false none y3] => some ⟨y1, y2, y3⟩
  | _, _ => none
noncomputable def ld9_2 : LD El where
  X := S.law24_CondKnown_L2
  Y := S.law24_CondKnown_L2
  keys := [.slot 1, .slot 2, .slot 3, .row 634]
  fits := [56, 2, 24, 0]
  px := px9_2
  tx := tx9_2
  okeys := [.slot 1, .slot 2, .slot 3, .row 634]
  ofits := [56, 2, 24, 0]
  py := py9_2
  ty := fun y => tx9_2 y
  oex := fun _ => .exit 2
  junk := [.slot 14, .slot 15, .slot 16, .slot 17, .slot 18, .slot 19, .slot 20, .slot 21, .slot 22, .slot 23, .slot 24, .slot 25, .slot 26, .slot 27, .slot 28, .slot 29, .slot 30, .slot 31, .slot 32, .row 212]
  rows := [(1, 28)]
noncomputable def lo9_2 : S.law24_CondKnown_L2 → Tr El := fun y => .leaf (.exit 2) (zipK ld9_2.okeys (tx9_2 y) ++ junkK ld9_2.junk)
noncomputable def lb9_4 : Code := ((nth (loopsOf 0 body9) 1).getD (0, .skip)).2
noncomputable def px9_4 : List W → Option S.law24_CondKnown_L4
  | [.bool y1, .own 1056, .int .i64 y2, .rowc 28 false none y3] => some ⟨y1, y2, y3⟩
  | _ => none
noncomputable def tx9_4 (x : S.law24_CondKnown_L4) : List W := [.bool x.t0, .own 1056, .int .i64 x.i, .rowc 28 false none x.l]
noncomputable def py9_4 : Ex → List W → Option (Bool × S.law24_CondKnown_L4)
  | .ret, [.bool y1, .own 1056, .int .i64 y2, .rowc 28 false none y3] => some ⟨true, ⟨y1, y2, y3⟩⟩
  | .exit 4, [.bool y1, .own 1056, .int .i64 y2, .rowc 28 false none y3] => some ⟨false, ⟨y1, y2, y3⟩⟩
  | _, _ => none
noncomputable def ld9_4 : LD El where
  X := S.law24_CondKnown_L4
  Y := Bool × S.law24_CondKnown_L4
  keys := [.slot 0, .slot 1, .slot 6, .row 1056]
  fits := [4, 56, 3, 0]
  px := px9_4
  tx := tx9_4
  okeys := [.slot 0, .slot 1, .slot 6, .row 1056]
  ofits := [4, 56, 3, 0]
  py := py9_4
  ty := fun y => bif y.1 then tx9_4 y.2 else tx9_4 y.2
  oex := fun y => bif y.1 then .ret else .exit 4
  junk := [.slot 7, .slot 8, .slot 9, .slot 55, .slot 56, .slot 57, .slot 58, .slot 59, .slot 60, .slot 61, .slot 62, .slot 63, .slot 64, .slot 65, .slot 66, .slot 67, .slot 68, .slot 69, .slot 70, .slot 71, .slot 72, .slot 73, .slot 74, .slot 75, .slot 76, .slot 77, .slot 78, .slot 79, .slot 80, .slot 81, .slot 82, .slot 83, .slot 84, .slot 85, .slot 86, .slot 87, .slot 88, .slot 89, .slot 90, .slot 91, .slot 92, .slot 93, .slot 94, .slot 95, .slot 96, .slot 97, .slot 98, .slot 99, .slot 100, .slot 101, .slot 102, .slot 103, .slot 104, .slot 105, .slot 106, .slot 107, .slot 108, .slot 109, .slot 110, .slot 111, .slot 112, .slot 113, .slot 114, .slot 115, .slot 116, .slot 117, .slot 118, .slot 119, .slot 120, .slot 121, .slot 122, .slot 123, .slot 124, .slot 125, .slot 126, .slot 127, .slot 128, .slot 129, .slot 130, .slot 131, .slot 132, .slot 133, .slot 134, .slot 135, .slot 136, .slot 137, .slot 138, .slot 139, .slot 140, .slot 141, .slot 142, .slot 143, .slot 144, .slot 145, .slot 146, .slot 147, .slot 148, .slot 149, .slot 150, .slot 151, .slot 152, .slot 153, .slot 154, .slot 155, .slot 156, .slot 157, .slot 158, .slot 159, .slot 160, .slot 161, .slot 162, .slot 163, .slot 164, .slot 165, .slot 166, .slot 167, .slot 168, .slot 169, .slot 170, .slot 171, .slot 172, .slot 173, .slot 174, .slot 175, .slot 176, .slot 177, .slot 178, .slot 179, .slot 180, .slot 181, .slot 182, .slot 183, .slot 184, .slot 185, .slot 186, .slot 187, .slot 188, .slot 189, .slot 190, .slot 191, .slot 192, .slot 193, .slot 194, .slot 195, .slot 196, .slot 197, .slot 198, .slot 199, .slot 200, .slot 201, .slot 202, .slot 203, .slot 204, .slot 205, .slot 206, .slot 207, .slot 208, .slot 209, .row 54, .slot 54, .row 1478, .row 1900]
  rows := [(1, 28)]
noncomputable def lo9_4 : (Bool × S.law24_CondKnown_L4) → Tr El := fun y => .node y.1 (.leaf (.ret) (zipK ld9_4.okeys (tx9_4 y.2) ++ junkK ld9_4.junk)) (.leaf (.exit 4) (zipK ld9_4.okeys (tx9_4 y.2) ++ junkK ld9_4.junk))
noncomputable def lb9_6 : Code := ((nth (loopsOf 4 lb9_4) 0).getD (0, .skip)).2
noncomputable def px9_6 : List W → Option S.law24_CondKnown_L6
  | [.bool y1, .own 1478, .int .i64 y2, .int .i64 y3, .rowc 28 false none y4] => some ⟨y1, y2, y3, y4⟩
  | _ => none
noncomputable def tx9_6 (x : S.law24_CondKnown_L6) : List W := [.bool x.t0, .own 1478, .int .i64 x.i, .int .i64 x.k, .rowc 28 false none x.l]
noncomputable def py9_6 : Ex → List W → Option (Bool × S.law24_CondKnown_L6)
  | .ret, [.bool y1, .own 1478, .int .i64 y2, .int .i64 y3, .rowc 28 false none y4] => some ⟨true, ⟨y1, y2, y3, y4⟩⟩
  | .exit 6, [.bool y1, .own 1478, .int .i64 y2, .int .i64 y3, .rowc 28 false none y4] => some ⟨false, ⟨y1, y2, y3, y4⟩⟩
  | _, _ => none
noncomputable def ld9_6 : LD El where
  X := S.law24_CondKnown_L6
  Y := Bool × S.law24_CondKnown_L6
  keys := [.slot 0, .slot 1, .slot 6, .slot 7, .row 1478]
  fits := [4, 56, 3, 3, 0]
  px := px9_6
  tx := tx9_6
  okeys := [.slot 0, .slot 1, .slot 6, .slot 7, .row 1478]
  ofits := [4, 56, 3, 3, 0]
  py := py9_6
  ty := fun y => bif y.1 then tx9_6 y.2 else tx9_6 y.2
  oex := fun y => bif y.1 then .ret else .exit 6
  junk := [.slot 8, .slot 9, .slot 61, .slot 62, .slot 63, .slot 64, .slot 65, .slot 66, .slot 67, .slot 68, .slot 69, .slot 70, .slot 71, .slot 72, .slot 73, .slot 74, .slot 75, .slot 76, .slot 77, .slot 78, .slot 79, .slot 80, .slot 81, .slot 82, .slot 83, .slot 84, .slot 85, .slot 86, .slot 87, .slot 88, .slot 89, .slot 90, .slot 91, .slot 92, .slot 93, .slot 94, .slot 95, .slot 96, .slot 97, .slot 98, .slot 99, .slot 100, .slot 101, .slot 102, .slot 103, .slot 104, .slot 105, .slot 106, .slot 107, .slot 108, .slot 109, .slot 110, .slot 111, .slot 112, .slot 113, .slot 114, .slot 115, .slot 116, .slot 117, .slot 118, .slot 119, .slot 120, .slot 121, .slot 122, .slot 123, .slot 124, .slot 125, .slot 126, .slot 127, .slot 128, .slot 129, .slot 130, .slot 131, .slot 132, .slot 133, .slot 134, .slot 135, .slot 136, .slot 137, .slot 138, .slot 139, .slot 140, .slot 141, .slot 142, .slot 143, .slot 144, .slot 145, .slot 146, .slot 147, .slot 148, .slot 149, .slot 150, .slot 151, .slot 152, .slot 153, .slot 154, .slot 155, .slot 156, .slot 157, .slot 158, .slot 159, .slot 160, .slot 161, .slot 162, .slot 163, .slot 164, .slot 165, .slot 166, .slot 167, .slot 168, .slot 169, .slot 170, .slot 171, .slot 172, .slot 173, .slot 174, .slot 175, .slot 176, .slot 177, .slot 178, .slot 179, .slot 180, .slot 181, .slot 182, .slot 183, .slot 184, .slot 185, .slot 186, .slot 187, .slot 188, .slot 189, .slot 190, .slot 191, .slot 192, .slot 193, .slot 194, .slot 195, .slot 196, .slot 197, .slot 198, .slot 199, .slot 200, .slot 201, .slot 202, .slot 203, .slot 204, .slot 205, .slot 206, .slot 207, .slot 208, .slot 209, .row 1056, .slot 56, .row 1900]
  rows := [(1, 28)]
noncomputable def lo9_6 : (Bool × S.law24_CondKnown_L6) → Tr El := fun y => .node y.1 (.leaf (.ret) (zipK ld9_6.okeys (tx9_6 y.2) ++ junkK ld9_6.junk)) (.leaf (.exit 6) (zipK ld9_6.okeys (tx9_6 y.2) ++ junkK ld9_6.junk))
noncomputable def lb9_8 : Code := ((nth (loopsOf 6 lb9_6) 0).getD (0, .skip)).2
noncomputable def px9_8 : List W → Option S.law24_CondKnown_L8
  | [.bool y1, .own 1900, .int .i64 y2, .int .i64 y3, .int .i64 y4, .rowc 28 false none y5] => some ⟨y1, y2, y3, y4, y5⟩
  | _ => none
noncomputable def tx9_8 (x : S.law24_CondKnown_L8) : List W := [.bool x.t0, .own 1900, .int .i64 x.i, .int .i64 x.k, .int .i64 x.op, .rowc 28 false none x.l]
noncomputable def py9_8 : Ex → List W → Option (Bool × S.law24_CondKnown_L8)
  | .ret, [.bool y1, .own 1900, .int .i64 y2, .int .i64 y3, .int .i64 y4, .rowc 28 false none y5] => some ⟨true, ⟨y1, y2, y3, y4, y5⟩⟩
  | .exit 8, [.bool y1, .own 1900, .int .i64 y2, .int .i64 y3, .int .i64 y4, .rowc 28 false none y5] => some ⟨false, ⟨y1, y2, y3, y4, y5⟩⟩
  | _, _ => none
noncomputable def ld9_8 : LD El where
  X := S.law24_CondKnown_L8
  Y := Bool × S.law24_CondKnown_L8
  keys := [.slot 0, .slot 1, .slot 6, .slot 7, .slot 9, .row 1900]
  fits := [4, 56, 3, 3, 3, 0]
  px := px9_8
  tx := tx9_8
  okeys := [.slot 0, .slot 1, .slot 6, .slot 7, .slot 9, .row 1900]
  ofits := [4, 56, 3, 3, 3, 0]
  py := py9_8
  ty := fun y => bif y.1 then tx9_8 y.2 else tx9_8 y.2
  oex := fun y => bif y.1 then .ret else .exit 8
  junk := [.slot 138, .slot 139, .slot 140, .slot 141, .slot 142, .slot 143, .slot 144, .slot 145, .slot 146, .slot 147, .slot 148, .slot 149, .slot 150, .slot 151, .slot 152, .slot 153, .slot 154, .slot 155, .slot 156, .slot 157, .slot 158, .slot 159, .slot 160, .slot 161, .slot 162, .slot 163, .slot 164, .slot 165, .slot 166, .slot 167, .slot 168, .slot 169, .slot 170, .slot 171, .slot 172, .slot 173, .slot 174, .slot 175, .slot 176, .slot 177, .slot 178, .slot 179, .slot 180, .slot 181, .slot 182, .slot 183, .slot 184, .slot 185, .slot 186, .slot 187, .slot 188, .slot 189, .slot 190, .slot 191, .slot 192, .slot 193, .slot 194, .slot 195, .slot 196, .slot 197, .slot 198, .slot 199, .slot 200, .slot 201, .slot 202, .slot 203, .slot 204, .slot 205, .slot 206, .slot 207, .slot 208, .slot 209, .row 1478, .slot 78, .slot 74, .slot 62]
  rows := [(1, 28)]
noncomputable def lo9_8 : (Bool × S.law24_CondKnown_L8) → Tr El := fun y => .node y.1 (.leaf (.ret) (zipK ld9_8.okeys (tx9_8 y.2) ++ junkK ld9_8.junk)) (.leaf (.exit 8) (zipK ld9_8.okeys (tx9_8 y.2) ++ junkK ld9_8.junk))
noncomputable def loop9 : Nat → Env El → Tr El
  | 0 => ld9_0.tree c63 Tryz.f9.ntmps 0 lb9_0 S.law24_CondKnown_L0_run lo9_0 S.law24_CondKnown_L0_step S.law24_CondKnown_L0_vcs
  | 2 => ld9_2.tree c63 Tryz.f9.ntmps 2 lb9_2 S.law24_CondKnown_L2_run lo9_2 S.law24_CondKnown_L2_step S.law24_CondKnown_L2_vcs
  | 4 => ld9_4.tree c63 Tryz.f9.ntmps 4 lb9_4 S.law24_CondKnown_L4_run lo9_4 S.law24_CondKnown_L4_step S.law24_CondKnown_L4_vcs
  | 6 => ld9_6.tree c63 Tryz.f9.ntmps 6 lb9_6 S.law24_CondKnown_L6_run lo9_6 S.law24_CondKnown_L6_step S.law24_CondKnown_L6_vcs
  | 8 => ld9_8.tree c63 Tryz.f9.ntmps 8 lb9_8 S.law24_CondKnown_L8_run lo9_8 S.law24_CondKnown_L8_step S.law24_CondKnown_L8_vcs
  | _ => fun _ => .fail
theorem lok9_8 : ∀ w0 S0, LoopOk c63 Tryz.f9.ntmps w0 S0 loop9 8 lb9_8 :=
  loop_ok (c := c63) (n := Tryz.f9.ntmps) c63_ok mixed ld9_8 (body := lb9_8) (key := 8) (loop := loop9) (F := S.law24_CondKnown_L8_run) (out := lo9_8) (step := S.law24_CondKnown_L8_step) (vcs := S.law24_CondKnown_L8_vcs)
    (fun _ => by kernel_rfl) (no_loops (by kernel_rfl)) rfl rfl
    (fun vs x h => by unfold ld9_8 px9_8 at h; dsimp only at h; split at h <;> first | (cases h; rfl) | cases h)
    (fun e vs y h => by unfold ld9_8 py9_8 at h; dsimp only at h; split at h <;> first | (cases h; exact ⟨rfl, rfl⟩) | cases h)
    (by kernel_rfl) (fun | (true, _) => rfl | (false, _) => rfl) (fun | (true, _), _, h => h.1 rfl | (false, _), _, h => h.2 rfl) (fun x => by kernel_rfl) (fun x h => Eq.mpr (show Vm.Tr.vc (Vm.ev c63 Tryz.f9.ntmps loop9 8 lb9_8 (ld9_8.vars x) []) = S.law24_CondKnown_L8_vcs x by kernel_rfl) h)
theorem lok9_6 : ∀ w0 S0, LoopOk c63 Tryz.f9.ntmps w0 S0 loop9 6 lb9_6 :=
  loop_ok (c := c63) (n := Tryz.f9.ntmps) c63_ok mixed ld9_6 (body := lb9_6) (key := 6) (loop := loop9) (F := S.law24_CondKnown_L6_run) (out := lo9_6) (step := S.law24_CondKnown_L6_step) (vcs := S.law24_CondKnown_L6_vcs)
    (fun _ => by kernel_rfl) (loops_all (l := [(8, lb9_8)]) (by kernel_rfl) ⟨lok9_8, trivial⟩) rfl rfl
    (fun vs x h => by unfold ld9_6 px9_6 at h; dsimp only at h; split at h <;> first | (cases h; rfl) | cases h)
    (fun e vs y h => by unfold ld9_6 py9_6 at h; dsimp only at h; split at h <;> first | (cases h; exact ⟨rfl, rfl⟩) | cases h)
    (by kernel_rfl) (fun | (true, _) => rfl | (false, _) => rfl) (fun | (true, _), _, h => h.1 rfl | (false, _), _, h => h.2 rfl) (fun x => by kernel_rfl) (fun x h => Eq.mpr (show Vm.Tr.vc (Vm.ev c63 Tryz.f9.ntmps loop9 6 lb9_6 (ld9_6.vars x) []) = S.law24_CondKnown_L6_vcs x by kernel_rfl) h)
theorem lok9_4 : ∀ w0 S0, LoopOk c63 Tryz.f9.ntmps w0 S0 loop9 4 lb9_4 :=
  loop_ok (c := c63) (n := Tryz.f9.ntmps) c63_ok mixed ld9_4 (body := lb9_4) (key := 4) (loop := loop9) (F := S.law24_CondKnown_L4_run) (out := lo9_4) (step := S.law24_CondKnown_L4_step) (vcs := S.law24_CondKnown_L4_vcs)
    (fun _ => by kernel_rfl) (loops_all (l := [(6, lb9_6)]) (by kernel_rfl) ⟨lok9_6, trivial⟩) rfl rfl
    (fun vs x h => by unfold ld9_4 px9_4 at h; dsimp only at h; split at h <;> first | (cases h; rfl) | cases h)
    (fun e vs y h => by unfold ld9_4 py9_4 at h; dsimp only at h; split at h <;> first | (cases h; exact ⟨rfl, rfl⟩) | cases h)
    (by kernel_rfl) (fun | (true, _) => rfl | (false, _) => rfl) (fun | (true, _), _, h => h.1 rfl | (false, _), _, h => h.2 rfl) (fun x => by kernel_rfl) (fun x h => Eq.mpr (show Vm.Tr.vc (Vm.ev c63 Tryz.f9.ntmps loop9 4 lb9_4 (ld9_4.vars x) []) = S.law24_CondKnown_L4_vcs x by kernel_rfl) h)
theorem lok9_2 : ∀ w0 S0, LoopOk c63 Tryz.f9.ntmps w0 S0 loop9 2 lb9_2 :=
  loop_ok (c := c63) (n := Tryz.f9.ntmps) c63_ok mixed ld9_2 (body := lb9_2) (key := 2) (loop := loop9) (F := S.law24_CondKnown_L2_run) (out := lo9_2) (step := S.law24_CondKnown_L2_step) (vcs := S.law24_CondKnown_L2_vcs)
    (fun _ => by kernel_rfl) (no_loops (by kernel_rfl)) rfl rfl
    (fun vs x h => by unfold ld9_2 px9_2 at h; dsimp only at h; split at h <;> first | (cases h; rfl) | cases h)
    (fun e vs y h => by unfold ld9_2 py9_2 at h; dsimp only at h; split at h <;> first | (cases h; exact ⟨rfl, rfl⟩) | cases h)
    (by kernel_rfl) (fun _ => rfl) (fun _ _ h => h) (fun x => by kernel_rfl) (fun x h => Eq.mpr (show Vm.Tr.vc (Vm.ev c63 Tryz.f9.ntmps loop9 2 lb9_2 (ld9_2.vars x) []) = S.law24_CondKnown_L2_vcs x by kernel_rfl) h)
theorem lok9_0 : ∀ w0 S0, LoopOk c63 Tryz.f9.ntmps w0 S0 loop9 0 lb9_0 :=
  loop_ok (c := c63) (n := Tryz.f9.ntmps) c63_ok mixed ld9_0 (body := lb9_0) (key := 0) (loop := loop9) (F := S.law24_CondKnown_L0_run) (out := lo9_0) (step := S.law24_CondKnown_L0_step) (vcs := S.law24_CondKnown_L0_vcs)
    (fun _ => by kernel_rfl) (loops_all (l := [(2, lb9_2)]) (by kernel_rfl) ⟨lok9_2, trivial⟩) rfl rfl
    (fun vs x h => by unfold ld9_0 px9_0 at h; dsimp only at h; split at h <;> first | (cases h; rfl) | cases h)
    (fun e vs y h => by unfold ld9_0 py9_0 at h; dsimp only at h; split at h <;> first | (cases h; exact ⟨rfl, rfl⟩) | cases h)
    (by kernel_rfl) (fun _ => rfl) (fun _ _ h => h) (fun x => by kernel_rfl) (fun x h => Eq.mpr (show Vm.Tr.vc (Vm.ev c63 Tryz.f9.ntmps loop9 0 lb9_0 (ld9_0.vars x) []) = S.law24_CondKnown_L0_vcs x by kernel_rfl) h)
theorem fn9 (hp : S.law24_CondKnown_pre) : CallOk c63 9 [] (wr_b (S.law24_CondKnown)) (wo_b (S.law24_CondKnown)) :=
  (call_ok (c := c63) (f := 9) (fn := Tryz.f9) (code := body9) (args := ([])) (loop := loop9) (md := ⟨false, false⟩) (rd := rd_b) (wr := wr_b) (wo := wo_b) (r := S.law24_CondKnown) c63_ok (by kernel_rfl) (by kernel_rfl) (by kernel_rfl) (loops_all (l := [(0, lb9_0), (4, lb9_4)]) (by kernel_rfl) ⟨lok9_0, ⟨lok9_4, trivial⟩⟩) (by kernel_rfl) (by kernel_rfl) (by kernel_rfl)
    rw_b np_b no_b (by kernel_rfl) (Eq.mpr (show Vm.Tr.vc (Vm.Fn c63 Tryz.f9 body9 loop9 ([])) = S.law24_CondKnown_pre by kernel_rfl) hp))
end

theorem own : ownKnob Tryz.prog.godebug = none := by kernel_rfl
theorem laidOut : laidOutB Tryz.prog = true := by kernel_rfl
theorem door_met (os : Os) (args : Array Value) : laidMetH Tryz.prog Rows.condKnownRow.laid ((World.doorLaid Tryz.prog 24 os).forCall (fun _ _ => 0) ⟨#[], args, []⟩).memory :=
  laidMetH_of_parts3 (fuel := 8) (laidMet_of_run' 8 (by kernel_rfl) (by kernel_rfl)) (by kernel_rfl) (by kernel_rfl)
theorem tab_of {w : World} (h0 : laidMetH Tryz.prog Rows.condKnownRow.laid w) : base.inv (fun b => b < w.heap.size) w := by
  have h := h0
  rw [MakeChecks.laidMetH_plain _ _ _ (by kernel_rfl)] at h
  have ht : Lib.TabIs Tryz.prog w "internal/strconv.uint64pow10" .u64 Lib.pow10Tab := Lib.tabIs_of_head (g := 0) (by kernel_rfl) (by kernel_rfl) Tryz.underlying174 Tryz.underlying24 (by kernel_rfl) (by kernel_rfl) (laidMet.tail (laidMet.tail h))
  exact ⟨ht, tab_lt (g := 0) (by kernel_rfl) ht⟩
set_option maxRecDepth 100000 in
theorem lifted (os : Os) (started : os.Started) (H : Type) (enc : TypeId × Value → H) :
    ReturnsInHanded {} Tryz.checked os 9 .any (fun w args => (Rows.condKnownSpec.pre enc Tryz.prog Tryz.f9 [] false w args ∧ laidMetH Tryz.prog Rows.condKnownRow.laid w) ∧ sizedMet enc Tryz.prog Tryz.f9 (OpenSpec.ofChange Rows.condKnownSpec) false w args) (Rows.condKnownSpec.post enc Tryz.prog Tryz.f9 false true false false) := by
  refine returnsInHanded_of_change_and (C := Tryz.checked) (X := fun w _ => laidMetH Tryz.prog Rows.condKnownRow.laid w) (fun _ _ _ hh h => h.of_heap hh) own started (by kernel_rfl) Tryz.func9
    (ChangeSpec.witness_shaped (enc := enc) (C := Tryz.checked) (os := os) (X := fun w _ => laidMetH Tryz.prog Rows.condKnownRow.laid w) false (World.doorLaid Tryz.prog 24 os) #[] 8 rfl (World.shaped_of_RefB (by kernel_rfl) (by kernel_rfl)) (by kernel_rfl) (by kernel_rfl) (by kernel_rfl) (door_met os _)) ?_
  intro w base0 args ds gs before hval0 hW _ _ hL _
  have hval : ∀ (j : Nat) t v, Tryz.f9.params[j]? = some t → args[j]? = some v → Value.okWide Tryz.prog w .any base0 t v := hval0
  have hW' := hW
  obtain ⟨p, q, hA0, hV, rfl, hfz, hnd⟩ := hW
  have hA : DataW.TrodAll enc Tryz.prog w 0 (fun _ => true) true Tryz.f9.params.toList args.toList ds p := hA0
  rw [Tryz.params9] at hA hval
  obtain ⟨hargs, rfl, rfl⟩ := trodAll_nil hA
  obtain rfl : args = #[] := by cases args; simp_all
  obtain ⟨rfl, rfl⟩ := trodVars_none hV
  have hp := SV.CondKnown_law  
  have hc := fn9  hp.1
  rw [hp.2] at hc
  refine (law_calls hc (P := Tryz.prog) rfl (tab_of hL) .nil).mono fun e w' ⟨he, bel⟩ => ?_
  subst he
  exact ⟨_, rfl, _, _, _, [], _, [], hW', trodAll_mk1 (shut_bool Tryz.underlying4 _), trodAll_mk0, rfl, bel.frame _, fun h => by cases h⟩

theorem over : Rows.CondKnownSaid :=
  OpenClaim.holds_of_wide 9 Tryz.f9 rfl rfl rfl rfl rfl rfl rfl ⟨rfl, rfl, rfl, rfl, rfl⟩ rfl rfl rfl rfl rfl (by kernel_rfl) Tryz.func9 (by kernel_rfl)
    (of_decide_eq_true (by kernel_rfl)) (by unfold Func.isWrapper; first | (rw [if_pos (by decide +kernel)]; kernel_rfl) | (rw [if_neg (by decide +kernel)]; exact ⟨rfl, rfl⟩))
    (fun os started H enc _ => lifted os started H enc)

theorem proved : Rows.CondKnownCardSaid :=
  Claim7.holds_tied_plain_at .later [] [.data, .data, .data] true (true, "fedf0b05ef6fc0b8e90b699712239f7215d6755fae71926e03c084b360a4d224") false
    over (fun _ h => by cases h) (by kernel_rfl) (fun _ h => by cases h) condKnown_row_tie rfl ⟨rfl, rfl⟩ (by kernel_rfl) rfl
    (fun f fn hf hfn => by
      obtain rfl : f = 9 := Option.some.inj ((show Tryz.prog.funcNamed "sieveholes/sieveholeslaw24.CondKnown" = some 9 by kernel_rfl).symm.trans hf) |>.symm
      obtain rfl : fn = Tryz.f9 := (Option.some.inj (Tryz.func9.symm.trans hfn)).symm
      exact ⟨by kernel_rfl, fun j t ht => by
        rw [Tryz.params9] at ht
        simp at ht⟩)
    (by kernel_rfl)
#print axioms proved
end Go.Proofs.YthplfkeecpkmhaaGreatDoor.condKnown
