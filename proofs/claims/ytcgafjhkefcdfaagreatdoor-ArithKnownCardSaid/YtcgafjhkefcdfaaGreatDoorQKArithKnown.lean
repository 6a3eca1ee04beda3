/-
  The statement ArithKnown: whatever the input, the function answers true, and the input reads as it did. Conditions: none beside the statement's own.
-/
import Derived.Test.YtcgafjhkefcdfaaGreatDoorQKSem
import Derived.Test.YtcgafjhkefcdfaaGreatDoorArithKnownPlain
import Derived.Test.YtcgafjhkefcdfaaGreatDoorRows
import Derived.WalkKit
import Derived.ProofKit
import Derived.OpenShut
import Derived.ShutString
import Derived.ChangeOld
import Derived.Below
import Derived.LaidMore
import Derived.Stop.Joined
import Derived.Stop.LaidErr
import Derived.SevenTiedAt
import Derived.Test.YtcgafjhkefcdfaaGreatDoorCards
import Derived.Test.YtcgafjhkefcdfaaGreatDoorTie
namespace Go.Proofs.YtcgafjhkefcdfaaGreatDoor.arithKnown
open Go Go.Proofs Go.Proofs.YtcgafjhkefcdfaaGreatDoor Go.ChangeShapes Go.WideShapes Go.ChangeAt Go.RowKit Vm
open Go.ChangeMaps (open_string shut_string)
set_option linter.all false
section
attribute [local irreducible] Vm.Tr.vc Vm.Tr.out Vm.Fn Vm.Fn.out Vm.ev Vm.loopsOf Vm.Tr.noReq
noncomputable def body5 : Code := (Tryz.f5.body).getD .skip
noncomputable def lb5_0 : Code := ((nth (loopsOf 0 body5) 0).getD (0, .skip)).2
noncomputable def px5_0 : List W → Option S.law22_ArithKnown_L0
 | [.own 239, .int .i64 y1, .rowc 28 false none y2] => some ⟨y1, y2⟩
 | _ => none
noncomputable def tx5_0 (x : S.law22_ArithKnown_L0) : List W := [.own 239, .int .i64 x.lo, .rowc 28 false none x.l]
noncomputable def py5_0 : Ex → List W → Option (S.law22_ArithKnown_L0)
 | .exit 0, [.own 239, .int .i64 y1, .rowc 28 false none y2] => some ⟨y1, y2⟩
 | _, _ => none
noncomputable def ld5_0 : LD El where
 X := S.law22_ArithKnown_L0
 Y := S.law22_ArithKnown_L0
 keys := [.slot 1, .slot 2, .row 239]
 fits := [55, 2, 0]
 px := px5_0
 tx := tx5_0
 okeys := [.slot 1, .slot 2, .row 239]
 ofits := [55, 2, 0]
 py := py5_0
 ty := fun y => tx5_0 y
 oex := fun _ => .exit 0
 junk := [.slot 3, .slot 12, .slot 13, .slot 14, .slot 15, .slot 16, .slot 17, .slot 18, .slot 19, .slot 20, .slot 21, .slot 22, .slot 23, .slot 24, .slot 25, .slot 26, .slot 27, .slot 28, .slot 29, .slot 30, .slot 31, .slot 32, .slot 33, .slot 34, .slot 35, .slot 36, .slot 37, .slot 38, .slot 39, .row 715]
 rows := [(1, 28)]
noncomputable def lo5_0 : S.law22_ArithKnown_L0 → Tr El := fun y => .leaf (.exit 0) (zipK ld5_0.okeys (tx5_0 y) ++ junkK ld5_0.junk)
noncomputable def lb5_2 : Code := ((nth (loopsOf 0 lb5_0) 0).getD (0, .skip)).2
noncomputable def px5_2 : List W → Option S.law22_ArithKnown_L2
 | [.own 715, .int .i64 y1, .int .u64 y2, .rowc 28 false none y3] => some ⟨y1, y2, y3⟩
 | _ => none
noncomputable def tx5_2 (x : S.law22_ArithKnown_L2) : List W := [.own 715, .int .i64 x.lo, .int .u64 x.m, .rowc 28 false none x.l]
noncomputable def py5_2 : Ex → List W → Option (S.law22_ArithKnown_L2)
 | .exit 2, [.own 715, .int .i64 y1, .int .u64 y2, .rowc 28 false none y3] => some ⟨y1, y2, y3⟩
 | _, _ => none
noncomputable def ld5_2 : LD El where
 X := S.law22_ArithKnown_L2
 Y := S.law22_ArithKnown_L2
 keys := [.slot 1, .slot 2, .slot 3, .row 715]
 fits := [55, 2, 24, 0]
 px := px5_2
 tx := tx5_2
 okeys := [.slot 1, .slot 2, .slot 3, .row 715]
 ofits := [55, 2, 24, 0]
 py := py5_2
 ty := fun y => tx5_2 y
 oex := fun _ => .exit 2
 junk := [.slot 16, .slot 17, .slot 18, .slot 19, .slot 20, .slot 21, .slot 22, .slot 23, .slot 24, .slot 25, .slot 26, .slot 27, .slot 28, .slot 29, .slot 30, .slot 31, .slot 32, .slot 33, .slot 34, .slot 35, .slot 36, .slot 37, .slot 38, .slot 39, .row 239]
 rows := [(1, 28)]
noncomputable def lo5_2 : S.law22_ArithKnown_L2 → Tr El := fun y => .leaf (.exit 2) (zipK ld5_2.okeys (tx5_2 y) ++ junkK ld5_2.junk)
noncomputable def lb5_4 : Code := ((nth (loopsOf 0 body5) 1).getD (0, .skip)).2
noncomputable def px5_4 : List W → Option S.law22_ArithKnown_L4
 | [.bool y1, .own 1191, .int .i64 y2, .rowc 28 false none y3] => some ⟨y1, y2, y3⟩
 | _ => none
noncomputable def tx5_4 (x : S.law22_ArithKnown_L4) : List W := [.bool x.t0, .own 1191, .int .i64 x.i, .rowc 28 false none x.l]
noncomputable def py5_4 : Ex → List W → Option (Bool × S.law22_ArithKnown_L4)
 | .ret, [.bool y1, .own 1191, .int .i64 y2, .rowc 28 false none y3] => some ⟨true, ⟨y1, y2, y3⟩⟩
 | .exit 4, [.bool y1, .own 1191, .int .i64 y2, .rowc 28 false none y3] => some ⟨false, ⟨y1, y2, y3⟩⟩
 | _, _ => none
noncomputable def ld5_4 : LD El where
 X := S.law22_ArithKnown_L4
 Y := Bool × S.law22_ArithKnown_L4
 keys := [.slot 0, .slot 1, .slot 4, .row 1191]
 fits := [4, 55, 3, 0]
 px := px5_4
 tx := tx5_4
 okeys := [.slot 0, .slot 1, .slot 4, .row 1191]
 ofits := [4, 55, 3, 0]
 py := py5_4
 ty := fun y => bif y.1 then tx5_4 y.2 else tx5_4 y.2
 oex := fun y => bif y.1 then .ret else .exit 4
 junk := [.slot 5, .slot 40, .slot 41, .slot 42, .slot 43, .slot 44, .slot 45, .slot 46, .slot 47, .slot 48, .slot 49, .slot 50, .slot 51, .slot 52, .slot 53, .slot 54, .slot 55, .slot 56, .slot 57, .slot 58, .slot 59, .slot 60, .slot 61, .slot 62, .slot 63, .slot 64, .slot 65, .slot 66, .slot 67, .slot 68, .slot 69, .slot 70, .slot 71, .slot 72, .slot 73, .slot 74, .slot 75, .slot 76, .slot 77, .slot 78, .slot 79, .slot 80, .slot 81, .slot 82, .slot 83, .slot 84, .slot 85, .slot 86, .slot 87, .slot 88, .slot 89, .slot 90, .slot 91, .slot 92, .slot 93, .slot 94, .slot 95, .slot 96, .slot 97, .slot 98, .slot 99, .slot 100, .slot 101, .slot 102, .slot 103, .slot 104, .slot 105, .slot 106, .slot 107, .slot 108, .slot 109, .slot 110, .slot 111, .slot 112, .row 239, .row 1667]
 rows := [(1, 28)]
noncomputable def lo5_4 : (Bool × S.law22_ArithKnown_L4) → Tr El := fun y => .node y.1 (.leaf (.ret) (zipK ld5_4.okeys (tx5_4 y.2) ++ junkK ld5_4.junk)) (.leaf (.exit 4) (zipK ld5_4.okeys (tx5_4 y.2) ++ junkK ld5_4.junk))
noncomputable def lb5_6 : Code := ((nth (loopsOf 4 lb5_4) 0).getD (0, .skip)).2
noncomputable def px5_6 : List W → Option S.law22_ArithKnown_L6
 | [.bool y1, .own 1667, .int .i64 y2, .int .i64 y3, .rowc 28 false none y4] => some ⟨y1, y2, y3, y4⟩
 | _ => none
noncomputable def tx5_6 (x : S.law22_ArithKnown_L6) : List W := [.bool x.t0, .own 1667, .int .i64 x.i, .int .i64 x.k, .rowc 28 false none x.l]
noncomputable def py5_6 : Ex → List W → Option (Bool × S.law22_ArithKnown_L6)
 | .ret, [.bool y1, .own 1667, .int .i64 y2, .int .i64 y3, .rowc 28 false none y4] => some ⟨true, ⟨y1, y2, y3, y4⟩⟩
 | .exit 6, [.bool y1, .own 1667, .int .i64 y2, .int .i64 y3, .rowc 28 false none y4] => some ⟨false, ⟨y1, y2, y3, y4⟩⟩
 | _, _ => none
noncomputable def ld5_6 : LD El where
 X := S.law22_ArithKnown_L6
 Y := Bool × S.law22_ArithKnown_L6
 keys := [.slot 0, .slot 1, .slot 4, .slot 5, .row 1667]
 fits := [4, 55, 3, 3, 0]
 px := px5_6
 tx := tx5_6
 okeys := [.slot 0, .slot 1, .slot 4, .slot 5, .row 1667]
 ofits := [4, 55, 3, 3, 0]
 py := py5_6
 ty := fun y => bif y.1 then tx5_6 y.2 else tx5_6 y.2
 oex := fun y => bif y.1 then .ret else .exit 6
 junk := [.slot 46, .slot 47, .slot 48, .slot 49, .slot 50, .slot 51, .slot 52, .slot 53, .slot 54, .slot 55, .slot 56, .slot 57, .slot 58, .slot 59, .slot 60, .slot 61, .slot 62, .slot 63, .slot 64, .slot 65, .slot 66, .slot 67, .slot 68, .slot 69, .slot 70, .slot 71, .slot 72, .slot 73, .slot 74, .slot 75, .slot 76, .slot 77, .slot 78, .slot 79, .slot 80, .slot 81, .slot 82, .slot 83, .slot 84, .slot 85, .slot 86, .slot 87, .slot 88, .slot 89, .slot 90, .slot 91, .slot 92, .slot 93, .slot 94, .slot 95, .slot 96, .slot 97, .slot 98, .slot 99, .slot 100, .slot 101, .slot 102, .slot 103, .slot 104, .slot 105, .slot 106, .slot 107, .slot 108, .slot 109, .slot 110, .slot 111, .slot 112, .row 1191, .slot 41]
 rows := [(1, 28)]
noncomputable def lo5_6 : (Bool × S.law22_ArithKnown_L6) → Tr El := fun y => .node y.1 (.leaf (.ret) (zipK ld5_6.okeys (tx5_6 y.2) ++ junkK ld5_6.junk)) (.leaf (.exit 6) (zipK ld5_6.okeys (tx5_6 y.2) ++ junkK ld5_6.junk))
noncomputable def lb5_8 : Code := ((nth (loopsOf 0 body5) 2).getD (0, .skip)).2
noncomputable def px5_8 : List W → Option S.law22_ArithKnown_L8
 | [.list 2 false y1, .own 2149, .int .i64 y2, .rowc 28 false none y3] => some ⟨y1, y2, y3⟩
 | _ => none
noncomputable def tx5_8 (x : S.law22_ArithKnown_L8) : List W := [.list 2 false x.ends, .own 2149, .int .i64 x.i, .rowc 28 false none x.w]
noncomputable def py5_8 : Ex → List W → Option (S.law22_ArithKnown_L8)
 | .exit 8, [.list 2 false y1, .own 2149, .int .i64 y2, .rowc 28 false none y3] => some ⟨y1, y2, y3⟩
 | _, _ => none
noncomputable def ld5_8 : LD El where
 X := S.law22_ArithKnown_L8
 Y := S.law22_ArithKnown_L8
 keys := [.slot 6, .slot 7, .slot 8, .row 2149]
 fits := [58, 55, 3, 0]
 px := px5_8
 tx := tx5_8
 okeys := [.slot 6, .slot 7, .slot 8, .row 2149]
 ofits := [58, 55, 3, 0]
 py := py5_8
 ty := fun y => tx5_8 y
 oex := fun _ => .exit 8
 junk := [.slot 9, .slot 114, .slot 115, .slot 116, .slot 117, .slot 118, .slot 119, .slot 120, .slot 121, .slot 122, .slot 123, .slot 124, .slot 125, .slot 126, .slot 127, .slot 128, .slot 129, .slot 130, .slot 131, .slot 132, .slot 133, .slot 134, .slot 135, .slot 136, .slot 137, .slot 138, .slot 139, .slot 140, .slot 141, .slot 142, .slot 143, .slot 144, .slot 145, .slot 146, .slot 147, .slot 148, .slot 149, .slot 150, .slot 151, .row 2625]
 rows := [(7, 28)]
noncomputable def lo5_8 : S.law22_ArithKnown_L8 → Tr El := fun y => .leaf (.exit 8) (zipK ld5_8.okeys (tx5_8 y) ++ junkK ld5_8.junk)
noncomputable def lb5_10 : Code := ((nth (loopsOf 8 lb5_8) 0).getD (0, .skip)).2
noncomputable def px5_10 : List W → Option S.law22_ArithKnown_L10
 | [.list 2 false y1, .own 2625, .int .i64 y2, .int .i64 y3, .rowc 28 false none y4] => some ⟨y1, y2, y3, y4⟩
 | _ => none
noncomputable def tx5_10 (x : S.law22_ArithKnown_L10) : List W := [.list 2 false x.ends, .own 2625, .int .i64 x.i, .int .i64 x.k, .rowc 28 false none x.w]
noncomputable def py5_10 : Ex → List W → Option (S.law22_ArithKnown_L10)
 | .exit 10, [.list 2 false y1, .own 2625, .int .i64 y2, .int .i64 y3, .rowc 28 false none y4] => some ⟨y1, y2, y3, y4⟩
 | _, _ => none
noncomputable def ld5_10 : LD El where
 X := S.law22_ArithKnown_L10
 Y := S.law22_ArithKnown_L10
 keys := [.slot 6, .slot 7, .slot 8, .slot 9, .row 2625]
 fits := [58, 55, 3, 3, 0]
 px := px5_10
 tx := tx5_10
 okeys := [.slot 6, .slot 7, .slot 8, .slot 9, .row 2625]
 ofits := [58, 55, 3, 3, 0]
 py := py5_10
 ty := fun y => tx5_10 y
 oex := fun _ => .exit 10
 junk := [.slot 121, .slot 122, .slot 123, .slot 124, .slot 125, .slot 126, .slot 127, .slot 128, .slot 129, .slot 130, .slot 131, .slot 132, .slot 133, .slot 134, .slot 135, .slot 136, .slot 137, .slot 138, .slot 139, .slot 140, .slot 141, .slot 142, .slot 143, .slot 144, .slot 145, .slot 146, .slot 147, .slot 148, .slot 149, .slot 150, .slot 151, .row 2149]
 rows := [(7, 28)]
noncomputable def lo5_10 : S.law22_ArithKnown_L10 → Tr El := fun y => .leaf (.exit 10) (zipK ld5_10.okeys (tx5_10 y) ++ junkK ld5_10.junk)
noncomputable def lb5_12 : Code := ((nth (loopsOf 0 body5) 3).getD (0, .skip)).2
noncomputable def px5_12 : List W → Option S.law22_ArithKnown_L12
 | [.bool y1, .list 2 false y2, .own 3101, .int .i64 y3, .rowc 28 false none y4] => some ⟨y1, y2, y3, y4⟩
 | _ => none
noncomputable def tx5_12 (x : S.law22_ArithKnown_L12) : List W := [.bool x.t0, .list 2 false x.ends, .own 3101, .int .i64 x.i, .rowc 28 false none x.w]
noncomputable def py5_12 : Ex → List W → Option (Bool × S.law22_ArithKnown_L12)
 | .ret, [.bool y1, .list 2 false y2, .own 3101, .int .i64 y3, .rowc 28 false none y4] => some ⟨true, ⟨y1, y2, y3, y4⟩⟩
 | .exit 12, [.bool y1, .list 2 false y2, .own 3101, .int .i64 y3, .rowc 28 false none y4] => some ⟨false, ⟨y1, y2, y3, y4⟩⟩
 | _, _ => none
noncomputable def ld5_12 : LD El where
 X := S.law22_ArithKnown_L12
 Y := Bool × S.law22_ArithKnown_L12
 keys := [.slot 0, .slot 6, .slot 7, .slot 10, .row 3101]
 fits := [4, 58, 55, 3, 0]
 px := px5_12
 tx := tx5_12
 okeys := [.slot 0, .slot 6, .slot 7, .slot 10, .row 3101]
 ofits := [4, 58, 55, 3, 0]
 py := py5_12
 ty := fun y => bif y.1 then tx5_12 y.2 else tx5_12 y.2
 oex := fun y => bif y.1 then .ret else .exit 12
 junk := [.slot 11, .slot 152, .slot 153, .slot 154, .slot 155, .slot 156, .slot 157, .slot 158, .slot 159, .slot 160, .slot 161, .slot 162, .slot 163, .slot 164, .slot 165, .slot 166, .slot 167, .slot 168, .slot 169, .slot 170, .slot 171, .slot 172, .slot 173, .slot 174, .slot 175, .slot 176, .slot 177, .slot 178, .slot 179, .slot 180, .slot 181, .slot 182, .slot 183, .slot 184, .slot 185, .slot 186, .slot 187, .slot 188, .slot 189, .slot 190, .slot 191, .slot 192, .slot 193, .slot 194, .slot 195, .slot 196, .slot 197, .slot 198, .slot 199, .slot 200, .slot 201, .slot 202, .slot 203, .slot 204, .slot 205, .slot 206, .slot 207, .slot 208, .slot 209, .slot 210, .slot 211, .slot 212, .slot 213, .slot 214, .slot 215, .slot 216, .slot 217, .slot 218, .slot 219, .slot 220, .slot 221, .slot 222, .slot 223, .slot 224, .slot 225, .slot 226, .row 2149, .row 3577]
 rows := [(7, 28)]
noncomputable def lo5_12 : (Bool × S.law22_ArithKnown_L12) → Tr El := fun y => .node y.1 (.leaf (.ret) (zipK ld5_12.okeys (tx5_12 y.2) ++ junkK ld5_12.junk)) (.leaf (.exit 12) (zipK ld5_12.okeys (tx5_12 y.2) ++ junkK ld5_12.junk))
noncomputable def lb5_14 : Code := ((nth (loopsOf 12 lb5_12) 0).getD (0, .skip)).2
noncomputable def px5_14 : List W → Option S.law22_ArithKnown_L14
 | [.bool y1, .list 2 false y2, .own 3577, .int .i64 y3, .int .i64 y4, .rowc 28 false none y5] => some ⟨y1, y2, y3, y4, y5⟩
 | _ => none
noncomputable def tx5_14 (x : S.law22_ArithKnown_L14) : List W := [.bool x.t0, .list 2 false x.ends, .own 3577, .int .i64 x.i, .int .i64 x.k, .rowc 28 false none x.w]
noncomputable def py5_14 : Ex → List W → Option (Bool × S.law22_ArithKnown_L14)
 | .ret, [.bool y1, .list 2 false y2, .own 3577, .int .i64 y3, .int .i64 y4, .rowc 28 false none y5] => some ⟨true, ⟨y1, y2, y3, y4, y5⟩⟩
 | .exit 14, [.bool y1, .list 2 false y2, .own 3577, .int .i64 y3, .int .i64 y4, .rowc 28 false none y5] => some ⟨false, ⟨y1, y2, y3, y4, y5⟩⟩
 | _, _ => none
noncomputable def ld5_14 : LD El where
 X := S.law22_ArithKnown_L14
 Y := Bool × S.law22_ArithKnown_L14
 keys := [.slot 0, .slot 6, .slot 7, .slot 10, .slot 11, .row 3577]
 fits := [4, 58, 55, 3, 3, 0]
 px := px5_14
 tx := tx5_14
 okeys := [.slot 0, .slot 6, .slot 7, .slot 10, .slot 11, .row 3577]
 ofits := [4, 58, 55, 3, 3, 0]
 py := py5_14
 ty := fun y => bif y.1 then tx5_14 y.2 else tx5_14 y.2
 oex := fun y => bif y.1 then .ret else .exit 14
 junk := [.slot 158, .slot 159, .slot 160, .slot 161, .slot 162, .slot 163, .slot 164, .slot 165, .slot 166, .slot 167, .slot 168, .slot 169, .slot 170, .slot 171, .slot 172, .slot 173, .slot 174, .slot 175, .slot 176, .slot 177, .slot 178, .slot 179, .slot 180, .slot 181, .slot 182, .slot 183, .slot 184, .slot 185, .slot 186, .slot 187, .slot 188, .slot 189, .slot 190, .slot 191, .slot 192, .slot 193, .slot 194, .slot 195, .slot 196, .slot 197, .slot 198, .slot 199, .slot 200, .slot 201, .slot 202, .slot 203, .slot 204, .slot 205, .slot 206, .slot 207, .slot 208, .slot 209, .slot 210, .slot 211, .slot 212, .slot 213, .slot 214, .slot 215, .slot 216, .slot 217, .slot 218, .slot 219, .slot 220, .slot 221, .slot 222, .slot 223, .slot 224, .slot 225, .slot 226, .row 3101, .slot 153]
 rows := [(7, 28)]
noncomputable def lo5_14 : (Bool × S.law22_ArithKnown_L14) → Tr El := fun y => .node y.1 (.leaf (.ret) (zipK ld5_14.okeys (tx5_14 y.2) ++ junkK ld5_14.junk)) (.leaf (.exit 14) (zipK ld5_14.okeys (tx5_14 y.2) ++ junkK ld5_14.junk))
noncomputable def loop5 : Nat → Env El → Tr El
 | 0 => ld5_0.tree c27 Tryz.f5.ntmps 0 lb5_0 S.law22_ArithKnown_L0_run lo5_0 S.law22_ArithKnown_L0_step S.law22_ArithKnown_L0_vcs
 | 2 => ld5_2.tree c27 Tryz.f5.ntmps 2 lb5_2 S.law22_ArithKnown_L2_run lo5_2 S.law22_ArithKnown_L2_step S.law22_ArithKnown_L2_vcs
 | 4 => ld5_4.tree c27 Tryz.f5.ntmps 4 lb5_4 S.law22_ArithKnown_L4_run lo5_4 S.law22_ArithKnown_L4_step S.law22_ArithKnown_L4_vcs
 | 6 => ld5_6.tree c27 Tryz.f5.ntmps 6 lb5_6 S.law22_ArithKnown_L6_run lo5_6 S.law22_ArithKnown_L6_step S.law22_ArithKnown_L6_vcs
 | 8 => ld5_8.tree c27 Tryz.f5.ntmps 8 lb5_8 S.law22_ArithKnown_L8_run lo5_8 S.law22_ArithKnown_L8_step S.law22_ArithKnown_L8_vcs
 | 10 => ld5_10.tree c27 Tryz.f5.ntmps 10 lb5_10 S.law22_ArithKnown_L10_run lo5_10 S.law22_ArithKnown_L10_step S.law22_ArithKnown_L10_vcs
 | 12 => ld5_12.tree c27 Tryz.f5.ntmps 12 lb5_12 S.law22_ArithKnown_L12_run lo5_12 S.law22_ArithKnown_L12_step S.law22_ArithKnown_L12_vcs
 | 14 => ld5_14.tree c27 Tryz.f5.ntmps 14 lb5_14 S.law22_ArithKnown_L14_run lo5_14 S.law22_ArithKnown_L14_step S.law22_ArithKnown_L14_vcs
 | _ => fun _ => .fail
theorem lok5_14 : ∀ w0 S0, LoopOk c27 Tryz.f5.ntmps w0 S0 loop5 14 lb5_14 :=
 loop_ok (c := c27) (n := Tryz.f5.ntmps) c27_ok mixed ld5_14 (body := lb5_14) (key := 14) (loop := loop5) (F := S.law22_ArithKnown_L14_run) (out := lo5_14) (step := S.law22_ArithKnown_L14_step) (vcs := S.law22_ArithKnown_L14_vcs)
  (fun _ => by kernel_rfl) (no_loops (by kernel_rfl)) rfl rfl
  (fun vs x h => by unfold ld5_14 px5_14 at h; dsimp only at h; split at h <;> first | (cases h; rfl) | cases h)
  (fun e vs y h => by unfold ld5_14 py5_14 at h; dsimp only at h; split at h <;> first | (cases h; exact ⟨rfl, rfl⟩) | cases h)
  (by kernel_rfl) (fun | (true, _) => rfl | (false, _) => rfl) (fun | (true, _), _, h => h.1 rfl | (false, _), _, h => h.2 rfl) (fun x => by kernel_rfl) (fun x h => Eq.mpr (show Vm.Tr.vc (Vm.ev c27 Tryz.f5.ntmps loop5 14 lb5_14 (ld5_14.vars x) []) = S.law22_ArithKnown_L14_vcs x by kernel_rfl) h)
theorem lok5_12 : ∀ w0 S0, LoopOk c27 Tryz.f5.ntmps w0 S0 loop5 12 lb5_12 :=
 loop_ok (c := c27) (n := Tryz.f5.ntmps) c27_ok mixed ld5_12 (body := lb5_12) (key := 12) (loop := loop5) (F := S.law22_ArithKnown_L12_run) (out := lo5_12) (step := S.law22_ArithKnown_L12_step) (vcs := S.law22_ArithKnown_L12_vcs)
  (fun _ => by kernel_rfl) (loops_all (l := [(14, lb5_14)]) (by kernel_rfl) ⟨lok5_14, trivial⟩) rfl rfl
  (fun vs x h => by unfold ld5_12 px5_12 at h; dsimp only at h; split at h <;> first | (cases h; rfl) | cases h)
  (fun e vs y h => by unfold ld5_12 py5_12 at h; dsimp only at h; split at h <;> first | (cases h; exact ⟨rfl, rfl⟩) | cases h)
  (by kernel_rfl) (fun | (true, _) => rfl | (false, _) => rfl) (fun | (true, _), _, h => h.1 rfl | (false, _), _, h => h.2 rfl) (fun x => by kernel_rfl) (fun x h => Eq.mpr (show Vm.Tr.vc (Vm.ev c27 Tryz.f5.ntmps loop5 12 lb5_12 (ld5_12.vars x) []) = S.law22_ArithKnown_L12_vcs x by kernel_rfl) h)
theorem lok5_10 : ∀ w0 S0, LoopOk c27 Tryz.f5.ntmps w0 S0 loop5 10 lb5_10 :=
 loop_ok (c := c27) (n := Tryz.f5.ntmps) c27_ok mixed ld5_10 (body := lb5_10) (key := 10) (loop := loop5) (F := S.law22_ArithKnown_L10_run) (out := lo5_10) (step := S.law22_ArithKnown_L10_step) (vcs := S.law22_ArithKnown_L10_vcs)
  (fun _ => by kernel_rfl) (no_loops (by kernel_rfl)) rfl rfl
  (fun vs x h => by unfold ld5_10 px5_10 at h; dsimp only at h; split at h <;> first | (cases h; rfl) | cases h)
  (fun e vs y h => by unfold ld5_10 py5_10 at h; dsimp only at h; split at h <;> first | (cases h; exact ⟨rfl, rfl⟩) | cases h)
  (by kernel_rfl) (fun _ => rfl) (fun _ _ h => h) (fun x => by kernel_rfl) (fun x h => Eq.mpr (show Vm.Tr.vc (Vm.ev c27 Tryz.f5.ntmps loop5 10 lb5_10 (ld5_10.vars x) []) = S.law22_ArithKnown_L10_vcs x by kernel_rfl) h)
theorem lok5_8 : ∀ w0 S0, LoopOk c27 Tryz.f5.ntmps w0 S0 loop5 8 lb5_8 :=
 loop_ok (c := c27) (n := Tryz.f5.ntmps) c27_ok mixed ld5_8 (body := lb5_8) (key := 8) (loop := loop5) (F := S.law22_ArithKnown_L8_run) (out := lo5_8) (step := S.law22_ArithKnown_L8_step) (vcs := S.law22_ArithKnown_L8_vcs)
  (fun _ => by kernel_rfl) (loops_all (l := [(10, lb5_10)]) (by kernel_rfl) ⟨lok5_10, trivial⟩) rfl rfl
  (fun vs x h => by unfold ld5_8 px5_8 at h; dsimp only at h; split at h <;> first | (cases h; rfl) | cases h)
  (fun e vs y h => by unfold ld5_8 py5_8 at h; dsimp only at h; split at h <;> first | (cases h; exact ⟨rfl, rfl⟩) | cases h)
  (by kernel_rfl) (fun _ => rfl) (fun _ _ h => h) (fun x => by kernel_rfl) (fun x h => Eq.mpr (show Vm.Tr.vc (Vm.ev c27 Tryz.f5.ntmps loop5 8 lb5_8 (ld5_8.vars x) []) = S.law22_ArithKnown_L8_vcs x by kernel_rfl) h)
theorem lok5_6 : ∀ w0 S0, LoopOk c27 Tryz.f5.ntmps w0 S0 loop5 6 lb5_6 :=
 loop_ok (c := c27) (n := Tryz.f5.ntmps) c27_ok mixed ld5_6 (body := lb5_6) (key := 6) (loop := loop5) (F := S.law22_ArithKnown_L6_run) (out := lo5_6) (step := S.law22_ArithKnown_L6_step) (vcs := S.law22_ArithKnown_L6_vcs)
  (fun _ => by kernel_rfl) (no_loops (by kernel_rfl)) rfl rfl
  (fun vs x h => by unfold ld5_6 px5_6 at h; dsimp only at h; split at h <;> first | (cases h; rfl) | cases h)
  (fun e vs y h => by unfold ld5_6 py5_6 at h; dsimp only at h; split at h <;> first | (cases h; exact ⟨rfl, rfl⟩) | cases h)
  (by kernel_rfl) (fun | (true, _) => rfl | (false, _) => rfl) (fun | (true, _), _, h => h.1 rfl | (false, _), _, h => h.2 rfl) (fun x => by kernel_rfl) (fun x h => Eq.mpr (show Vm.Tr.vc (Vm.ev c27 Tryz.f5.ntmps loop5 6 lb5_6 (ld5_6.vars x) []) = S.law22_ArithKnown_L6_vcs x by kernel_rfl) h)
theorem lok5_4 : ∀ w0 S0, LoopOk c27 Tryz.f5.ntmps w0 S0 loop5 4 lb5_4 :=
 loop_ok (c := c27) (n := Tryz.f5.ntmps) c27_ok mixed ld5_4 (body := lb5_4) (key := 4) (loop := loop5) (F := S.law22_ArithKnown_L4_run) (out := lo5_4) (step := S.law22_ArithKnown_L4_step) (vcs := S.law22_ArithKnown_L4_vcs)
  (fun _ => by kernel_rfl) (loops_all (l := [(6, lb5_6)]) (by kernel_rfl) ⟨lok5_6, trivial⟩) rfl rfl
  (fun vs x h => by unfold ld5_4 px5_4 at h; dsimp only at h; split at h <;> first | (cases h; rfl) | cases h)
  (fun e vs y h => by unfold ld5_4 py5_4 at h; dsimp only at h; split at h <;> first | (cases h; exact ⟨rfl, rfl⟩) | cases h)
  (by kernel_rfl) (fun | (true, _) => rfl | (false, _) => rfl) (fun | (true, _), _, h => h.1 rfl | (false, _), _, h => h.2 rfl) (fun x => by kernel_rfl) (fun x h => Eq.mpr (show Vm.Tr.vc (Vm.ev c27 Tryz.f5.ntmps loop5 4 lb5_4 (ld5_4.vars x) []) = S.law22_ArithKnown_L4_vcs x by kernel_rfl) h)
theorem lok5_2 : ∀ w0 S0, LoopOk c27 Tryz.f5.ntmps w0 S0 loop5 2 lb5_2 :=
 loop_ok (c := c27) (n := Tryz.f5.ntmps) c27_ok mixed ld5_2 (body := lb5_2) (key := 2) (loop := loop5) (F := S.law22_ArithKnown_L2_run) (out := lo5_2) (step := S.law22_ArithKnown_L2_step) (vcs := S.law22_ArithKnown_L2_vcs)
  (fun _ => by kernel_rfl) (no_loops (by kernel_rfl)) rfl rfl
  (fun vs x h => by unfold ld5_2 px5_2 at h; dsimp only at h; split at h <;> first | (cases h; rfl) | cases h)
  (fun e vs y h => by unfold ld5_2 py5_2 at h; dsimp only at h; split at h <;> first | (cases h; exact ⟨rfl, rfl⟩) | cases h)
  (by kernel_rfl) (fun _ => rfl) (fun _ _ h => h) (fun x => by kernel_rfl) (fun x h => Eq.mpr (show Vm.Tr.vc (Vm.ev c27 Tryz.f5.ntmps loop5 2 lb5_2 (ld5_2.vars x) []) = S.law22_ArithKnown_L2_vcs x by kernel_rfl) h)
theorem lok5_0 : ∀ w0 S0, LoopOk c27 Tryz.f5.ntmps w0 S0 loop5 0 lb5_0 :=
 loop_ok (c := c27) (n := Tryz.f5.ntmps) c27_ok mixed ld5_0 (body := lb5_0) (key := 0) (loop := loop5) (F := S.law22_ArithKnown_L0_run) (out := lo5_0) (step := S.law22_ArithKnown_L0_step) (vcs := S.law22_ArithKnown_L0_vcs)
  (fun _ => by kernel_rfl) (loops_all (l := [(2, lb5_2)]) (by kernel_rfl) ⟨lok5_2, trivial⟩) rfl rfl
  (fun vs x h => by unfold ld5_0 px5_0 at h; dsimp only at h; split at h <;> first | (cases h; rfl) | cases h)
  (fun e vs y h => by unfold ld5_0 py5_0 at h; dsimp only at h; split at h <;> first | (cases h; exact ⟨rfl, rfl⟩) | cases h)
  (by kernel_rfl) (fun _ => rfl) (fun _ _ h => h) (fun x => by kernel_rfl) (fun x h => Eq.mpr (show Vm.Tr.vc (Vm.ev c27 Tryz.f5.ntmps loop5 0 lb5_0 (ld5_0.vars x) []) = S.law22_ArithKnown_L0_vcs x by kernel_rfl) h)
theorem fn5 (hp : S.law22_ArithKnown_pre) : CallOk c27 5 [] (wr_b (S.law22_ArithKnown)) (wo_b (S.law22_ArithKnown)) :=
 (call_ok (fn := Tryz.f5) (code := body5) (loop := loop5) (md := ⟨false, false⟩) (rd := rd_b) (wr := wr_b) (wo := wo_b) c27_ok (by kernel_rfl) (by kernel_rfl) (by kernel_rfl) (loops_all (l := [(0, lb5_0), (4, lb5_4), (8, lb5_8), (12, lb5_12)]) (by kernel_rfl) ⟨lok5_0, ⟨lok5_4, ⟨lok5_8, ⟨lok5_12, trivial⟩⟩⟩⟩) (by kernel_rfl) (by kernel_rfl) (by kernel_rfl)
  rw_b np_b no_b (by kernel_rfl) (Eq.mpr (show Vm.Tr.vc (Vm.Fn c27 Tryz.f5 body5 loop5 ([])) = S.law22_ArithKnown_pre by kernel_rfl) hp))
end
theorem own : ownKnob Tryz.prog.godebug = none := by kernel_rfl
theorem laidOut : laidOutB Tryz.prog = true := by kernel_rfl
theorem door_met (os : Os) (args : Array Value) : laidMetH Tryz.prog Rows.arithKnownRow.laid ((World.doorLaid Tryz.prog 24 os).forCall (fun _ _ => 0) ⟨#[], args, []⟩).memory :=
 laidMetH_of_parts3 (fuel := 8) (laidMet_of_run' 8 (by kernel_rfl) (by kernel_rfl)) (by kernel_rfl) (by kernel_rfl)
theorem tab_of {w : World} (h0 : laidMetH Tryz.prog Rows.arithKnownRow.laid w) : base.inv (fun b => b < w.heap.size) w := by
 have h := h0
 rw [MakeChecks.laidMetH_plain _ _ _ (by kernel_rfl)] at h
 have ht : Lib.TabIs Tryz.prog w "internal/strconv.uint64pow10" .u64 Lib.pow10Tab := Lib.tabIs_of_head (g := 0) (by kernel_rfl) (by kernel_rfl) Tryz.underlying194 Tryz.underlying24 (by kernel_rfl) (by kernel_rfl) (laidMet.tail (laidMet.tail h))
 exact ⟨ht, tab_lt (g := 0) (by kernel_rfl) ht⟩
set_option maxRecDepth 100000 in
theorem lifted (os : Os) (started : os.Started) (H : Type) (enc : TypeId × Value → H) :
  ReturnsInHanded {} Tryz.checked os 5 .any (fun w args => (Rows.arithKnownSpec.pre enc Tryz.prog Tryz.f5 [] false w args ∧ laidMetH Tryz.prog Rows.arithKnownRow.laid w) ∧ sizedMet enc Tryz.prog Tryz.f5 (OpenSpec.ofChange Rows.arithKnownSpec) false w args) (Rows.arithKnownSpec.post enc Tryz.prog Tryz.f5 false true false false) := by
 refine returnsInHanded_of_change_and (C := Tryz.checked) (X := fun w _ => laidMetH Tryz.prog Rows.arithKnownRow.laid w) (fun _ _ _ hh h => h.of_heap hh) own started (by kernel_rfl) Tryz.func5
  (ChangeSpec.witness_shaped (enc := enc) (C := Tryz.checked) (os := os) (X := fun w _ => laidMetH Tryz.prog Rows.arithKnownRow.laid w) false (World.doorLaid Tryz.prog 24 os) #[] 8 rfl (World.shaped_of_RefB (by kernel_rfl) (by kernel_rfl)) (by kernel_rfl) (by kernel_rfl) (by kernel_rfl) (door_met os _)) ?_
 intro w base0 args ds gs before hval0 hW _ _ hL _
 have hval : ∀ (j : Nat) t v, Tryz.f5.params[j]? = some t → args[j]? = some v → Value.okWide Tryz.prog w .any base0 t v := hval0
 have hW' := hW
 obtain ⟨p, q, hA0, hV, rfl, hfz, hnd⟩ := hW
 have hA : DataW.TrodAll enc Tryz.prog w 0 (fun _ => true) true Tryz.f5.params.toList args.toList ds p := hA0
 rw [Tryz.params5] at hA hval
 obtain ⟨hargs, rfl, rfl⟩ := trodAll_nil hA
 obtain rfl : args = #[] := by cases args; simp_all
 obtain ⟨rfl, rfl⟩ := trodVars_none hV
 have hp := SV.ArithKnown_law
 have hc := fn5  hp.1
 rw [hp.2] at hc
 refine (law_calls hc (P := Tryz.prog) rfl (tab_of hL) .nil).mono fun e w' ⟨he, bel⟩ => ?_
 subst he
 exact ⟨_, rfl, _, _, _, [], _, [], hW', trodAll_mk1 (shut_bool Tryz.underlying4 _), trodAll_mk0, rfl, bel.frame _, fun h => by cases h⟩
theorem over : Rows.ArithKnownSaid :=
 OpenClaim.holds_of_wide 5 Tryz.f5 rfl rfl rfl rfl rfl rfl rfl ⟨rfl, rfl, rfl, rfl, rfl⟩ rfl rfl rfl rfl rfl (by kernel_rfl) Tryz.func5 (by kernel_rfl)
  (of_decide_eq_true (by kernel_rfl)) (by unfold Func.isWrapper; first | (rw [if_pos (by decide +kernel)]; kernel_rfl) | (rw [if_neg (by decide +kernel)]; exact ⟨rfl, rfl⟩))
  (fun os started H enc _ => lifted os started H enc)
theorem proved : Rows.ArithKnownCardSaid :=
 Claim7.holds_tied_plain_at .later [] [.data, .data, .data] true (true, "f9a24e40b5cf80ee043d30d879ff0927fd064a944b0401cc8d4e604f2d7089f5") false
  over (fun _ h => by cases h) (by kernel_rfl) (fun _ h => by cases h) arithKnown_row_tie rfl ⟨rfl, rfl⟩ (by kernel_rfl) rfl
  (fun f fn hf hfn => by
   obtain rfl : f = 5 := Option.some.inj ((show Tryz.prog.funcNamed "sieveholes/sieveholeslaw22.ArithKnown" = some 5 by kernel_rfl).symm.trans hf) |>.symm
   obtain rfl : fn = Tryz.f5 := (Option.some.inj (Tryz.func5.symm.trans hfn)).symm
   exact ⟨by kernel_rfl, fun j t ht => by
    rw [Tryz.params5] at ht
    simp at ht⟩)
  (by kernel_rfl)
#print axioms proved
end Go.Proofs.YtcgafjhkefcdfaaGreatDoor.arithKnown
