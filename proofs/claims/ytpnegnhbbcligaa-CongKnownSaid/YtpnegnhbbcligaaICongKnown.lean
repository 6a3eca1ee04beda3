/-
  The statement CongKnown: whatever the input, the function answers true, and the input reads as it did. Conditions: none beside the statement's own.
-/
import Derived.Test.YtpnegnhbbcligaaISem
import Derived.Test.YtpnegnhbbcligaaCongKnownPlain
import Derived.Test.YtpnegnhbbcligaaRows
import Derived.WalkKit
import Derived.ProofKit
import Derived.OpenShut
import Derived.ShutString
import Derived.ChangeOld
import Derived.Below
namespace Go.Proofs.Ytpnegnhbbcligaa.congKnown
open Go Go.Proofs Go.Proofs.Ytpnegnhbbcligaa Go.ChangeShapes Go.WideShapes Go.ChangeAt Go.RowKit Vm
open Go.ChangeMaps (open_string shut_string)
set_option linter.all false

section
attribute [local irreducible] Vm.Tr.vc Vm.Tr.out Vm.Fn Vm.Fn.out Vm.ev Vm.loopsOf Vm.Tr.noReq
noncomputable def body14 : Code := (Try.f14.body).getD .skip
noncomputable def lb14_0 : Code := ((nth (loopsOf 0 body14) 0).getD (0, .skip)).2
noncomputable def px14_0 : List W → Option S.law20_CongKnown_L0
  | [.own 222, .int .u64 y1, .rowc 67 false none y2] => some ⟨y1, y2⟩
  | _ => none
noncomputable def tx14_0 (x : S.law20_CongKnown_L0) : List W := [.own 222, .int .u64 x.m, .rowc 67 false none x.l]
noncomputable def py14_0 : Ex → List W → Option (S.law20_CongKnown_L0)
  | .exit 0, [.own 222, .int .u64 y1, .rowc 67 false none y2] => some ⟨y1, y2⟩
  | _, _ => none
noncomputable def ld14_0 : LD El where
  X := S.law20_CongKnown_L0
  Y := S.law20_CongKnown_L0
  keys := [.slot 1, .slot 2, .row 222]
  fits := [84, 36, 0]
  px := px14_0
  tx := tx14_0
  okeys := [.slot 1, .slot 2, .row 222]
  ofits := [84, 36, 0]
  py := py14_0
  ty := fun y => tx14_0 y
  oex := fun _ => .exit 0
  junk := [.slot 3, .slot 15, .slot 16, .slot 17, .slot 18, .slot 19, .slot 20, .slot 21, .slot 22, .slot 23, .slot 24, .slot 25, .slot 26, .slot 27, .slot 28, .slot 29, .slot 30, .slot 31, .row 664]
  rows := [(1, 67)]
noncomputable def lo14_0 : S.law20_CongKnown_L0 → Tr El := fun y => .leaf (.exit 0) (zipK ld14_0.okeys (tx14_0 y) ++ junkK ld14_0.junk)
noncomputable def lb14_2 : Code := ((nth (loopsOf 0 lb14_0) 0).getD (0, .skip)).2
noncomputable def px14_2 : List W → Option S.law20_CongKnown_L2
  | [.own 664, .int .u64 y1, .int .i64 y2, .rowc 67 false none y3] => some ⟨y1, y2, y3⟩
  | _ => none
noncomputable def tx14_2 (x : S.law20_CongKnown_L2) : List W := [.own 664, .int .u64 x.m, .int .i64 x.n, .rowc 67 false none x.l]
noncomputable def py14_2 : Ex → List W → Option (S.law20_CongKnown_L2)
  | .exit 2, [.own 664, .int .u64 y1, .int .i64 y2, .rowc 67 false none y3] => some ⟨y1, y2, y3⟩
  | _, _ => none
noncomputable def ld14_2 : LD El where
  X := S.law20_CongKnown_L2
  Y := S.law20_CongKnown_L2
  keys := [.slot 1, .slot 2, .slot 3, .row 664]
  fits := [84, 36, 2, 0]
  px := px14_2
  tx := tx14_2
  okeys := [.slot 1, .slot 2, .slot 3, .row 664]
  ofits := [84, 36, 2, 0]
  py := py14_2
  ty := fun y => tx14_2 y
  oex := fun _ => .exit 2
  junk := [.slot 19, .slot 20, .slot 21, .slot 22, .slot 23, .slot 24, .slot 25, .slot 26, .slot 27, .slot 28, .slot 29, .slot 30, .slot 31, .row 222]
  rows := [(1, 67)]
noncomputable def lo14_2 : S.law20_CongKnown_L2 → Tr El := fun y => .leaf (.exit 2) (zipK ld14_2.okeys (tx14_2 y) ++ junkK ld14_2.junk)
noncomputable def lb14_4 : Code := ((nth (loopsOf 0 body14) 1).getD (0, .skip)).2
noncomputable def px14_4 : List W → Option S.law20_CongKnown_L4
  | [.bool y1, .own 1106, .int .i64 y2, .rowc 67 false none y3] => some ⟨y1, y2, y3⟩
  | _ => none
noncomputable def tx14_4 (x : S.law20_CongKnown_L4) : List W := [.bool x.t0, .own 1106, .int .i64 x.i, .rowc 67 false none x.l]
noncomputable def py14_4 : Ex → List W → Option (Bool × S.law20_CongKnown_L4)
  | .ret, [.bool y1, .own 1106, .int .i64 y2, .rowc 67 false none y3] => some ⟨true, ⟨y1, y2, y3⟩⟩
  | .exit 4, [.bool y1, .own 1106, .int .i64 y2, .rowc 67 false none y3] => some ⟨false, ⟨y1, y2, y3⟩⟩
  | _, _ => none
noncomputable def ld14_4 : LD El where
  X := S.law20_CongKnown_L4
  Y := Bool × S.law20_CongKnown_L4
  keys := [.slot 0, .slot 1, .slot 4, .row 1106]
  fits := [4, 84, 3, 0]
  px := px14_4
  tx := tx14_4
  okeys := [.slot 0, .slot 1, .slot 4, .row 1106]
  ofits := [4, 84, 3, 0]
  py := py14_4
  ty := fun y => bif y.1 then tx14_4 y.2 else tx14_4 y.2
  oex := fun y => bif y.1 then .ret else .exit 4
  junk := [.slot 5, .slot 32, .slot 33, .slot 34, .slot 35, .slot 36, .slot 37, .slot 38, .slot 39, .slot 40, .slot 41, .slot 42, .slot 43, .slot 44, .slot 45, .slot 46, .slot 47, .slot 48, .slot 49, .slot 50, .slot 51, .slot 52, .slot 53, .slot 54, .slot 55, .slot 56, .slot 57, .slot 58, .slot 59, .slot 60, .slot 61, .slot 62, .slot 63, .slot 64, .slot 65, .slot 66, .slot 67, .slot 68, .slot 69, .slot 70, .slot 71, .slot 72, .slot 73, .slot 74, .slot 75, .slot 76, .slot 77, .slot 78, .slot 79, .slot 80, .slot 81, .slot 82, .slot 83, .slot 84, .slot 85, .slot 86, .slot 87, .slot 88, .slot 89, .slot 90, .slot 91, .slot 92, .slot 93, .slot 94, .slot 95, .slot 96, .slot 97, .slot 98, .slot 99, .slot 100, .slot 101, .slot 102, .slot 103, .slot 104, .slot 105, .slot 106, .slot 107, .row 222, .row 1548]
  rows := [(1, 67)]
noncomputable def lo14_4 : (Bool × S.law20_CongKnown_L4) → Tr El := fun y => .node y.1 (.leaf (.ret) (zipK ld14_4.okeys (tx14_4 y.2) ++ junkK ld14_4.junk)) (.leaf (.exit 4) (zipK ld14_4.okeys (tx14_4 y.2) ++ junkK ld14_4.junk))
noncomputable def lb14_6 : Code := ((nth (loopsOf 4 lb14_4) 0).getD (0, .skip)).2
noncomputable def px14_6 : List W → Option S.law20_CongKnown_L6
  | [.bool y1, .own 1548, .int .i64 y2, .int .i64 y3, .rowc 67 false none y4] => some ⟨y1, y2, y3, y4⟩
  | _ => none
noncomputable def tx14_6 (x : S.law20_CongKnown_L6) : List W := [.bool x.t0, .own 1548, .int .i64 x.i, .int .i64 x.k, .rowc 67 false none x.l]
noncomputable def py14_6 : Ex → List W → Option (Bool × S.law20_CongKnown_L6)
  | .ret, [.bool y1, .own 1548, .int .i64 y2, .int .i64 y3, .rowc 67 false none y4] => some ⟨true, ⟨y1, y2, y3, y4⟩⟩
  | .exit 6, [.bool y1, .own 1548, .int .i64 y2, .int .i64 y3, .rowc 67 false none y4] => some ⟨false, ⟨y1, y2, y3, y4⟩⟩
  | _, _ => none
noncomputable def ld14_6 : LD El where
  X := S.law20_CongKnown_L6
  Y := Bool × S.law20_CongKnown_L6
  keys := [.slot 0, .slot 1, .slot 4, .slot 5, .row 1548]
  fits := [4, 84, 3, 3, 0]
  px := px14_6
  tx := tx14_6
  okeys := [.slot 0, .slot 1, .slot 4, .slot 5, .row 1548]
  ofits := [4, 84, 3, 3, 0]
  py := py14_6
  ty := fun y => bif y.1 then tx14_6 y.2 else tx14_6 y.2
  oex := fun y => bif y.1 then .ret else .exit 6
  junk := [.slot 38, .slot 39, .slot 40, .slot 41, .slot 42, .slot 43, .slot 44, .slot 45, .slot 46, .slot 47, .slot 48, .slot 49, .slot 50, .slot 51, .slot 52, .slot 53, .slot 54, .slot 55, .slot 56, .slot 57, .slot 58, .slot 59, .slot 60, .slot 61, .slot 62, .slot 63, .slot 64, .slot 65, .slot 66, .slot 67, .slot 68, .slot 69, .slot 70, .slot 71, .slot 72, .slot 73, .slot 74, .slot 75, .slot 76, .row 1106]
  rows := [(1, 67)]
noncomputable def lo14_6 : (Bool × S.law20_CongKnown_L6) → Tr El := fun y => .node y.1 (.leaf (.ret) (zipK ld14_6.okeys (tx14_6 y.2) ++ junkK ld14_6.junk)) (.leaf (.exit 6) (zipK ld14_6.okeys (tx14_6 y.2) ++ junkK ld14_6.junk))
noncomputable def lb14_8 : Code := ((nth (loopsOf 0 body14) 2).getD (0, .skip)).2
noncomputable def px14_8 : List W → Option S.law20_CongKnown_L8
  | [.bool y1, .list 36 false y2, .list 2 false y3, .int .i64 y4] => some ⟨y1, y2, y3, y4⟩
  | _ => none
noncomputable def tx14_8 (x : S.law20_CongKnown_L8) : List W := [.bool x.t0, .list 36 false x.mods, .list 2 false x.nums, .int .i64 x.i]
noncomputable def py14_8 : Ex → List W → Option (Bool × S.law20_CongKnown_L8)
  | .ret, [.bool y1, .list 36 false y2, .list 2 false y3, .int .i64 y4] => some ⟨true, ⟨y1, y2, y3, y4⟩⟩
  | .exit 8, [.bool y1, .list 36 false y2, .list 2 false y3, .int .i64 y4] => some ⟨false, ⟨y1, y2, y3, y4⟩⟩
  | _, _ => none
noncomputable def ld14_8 : LD El where
  X := S.law20_CongKnown_L8
  Y := Bool × S.law20_CongKnown_L8
  keys := [.slot 0, .slot 6, .slot 7, .slot 8]
  fits := [4, 96, 52, 3]
  px := px14_8
  tx := tx14_8
  okeys := [.slot 0, .slot 6, .slot 7, .slot 8]
  ofits := [4, 96, 52, 3]
  py := py14_8
  ty := fun y => bif y.1 then tx14_8 y.2 else tx14_8 y.2
  oex := fun y => bif y.1 then .ret else .exit 8
  junk := [.slot 9, .slot 10, .slot 11, .slot 12, .slot 13, .slot 14, .slot 110, .slot 111, .slot 112, .slot 113, .slot 114, .slot 115, .slot 116, .slot 117, .slot 118, .slot 119, .slot 120, .slot 121, .slot 122, .slot 123, .slot 124, .slot 125, .slot 126, .slot 127, .slot 128, .slot 129, .slot 130, .slot 131, .slot 132, .slot 133, .slot 134, .slot 135, .slot 136, .slot 137, .slot 138, .slot 139, .slot 140, .slot 141, .slot 142, .slot 143, .slot 144, .slot 145, .slot 146, .slot 147, .slot 148, .slot 149, .slot 150, .slot 151, .slot 152, .slot 153, .slot 154, .slot 155, .slot 156, .slot 157, .slot 158, .slot 159, .slot 160, .slot 161, .slot 162, .slot 163, .slot 164, .slot 165, .slot 166, .slot 167, .slot 168, .slot 169, .slot 170, .slot 171, .slot 172, .slot 173, .slot 174, .slot 175, .slot 176, .slot 177, .slot 178, .slot 179, .slot 180, .slot 181, .slot 182, .slot 183, .slot 184, .slot 185, .slot 186, .slot 187, .slot 188, .slot 189, .slot 190, .slot 191, .slot 192, .slot 193, .slot 194, .slot 195, .slot 196, .slot 197, .slot 198, .slot 199, .slot 200, .slot 201, .slot 202, .slot 203, .slot 204, .slot 205, .slot 206, .slot 207, .slot 208, .slot 209, .slot 210]
  rows := []
noncomputable def lo14_8 : (Bool × S.law20_CongKnown_L8) → Tr El := fun y => .node y.1 (.leaf (.ret) (zipK ld14_8.okeys (tx14_8 y.2) ++ junkK ld14_8.junk)) (.leaf (.exit 8) (zipK ld14_8.okeys (tx14_8 y.2) ++ junkK ld14_8.junk))
noncomputable def lb14_10 : Code := ((nth (loopsOf 8 lb14_8) 0).getD (0, .skip)).2
noncomputable def px14_10 : List W → Option S.law20_CongKnown_L10
  | [.bool y1, .list 36 false y2, .list 2 false y3, .int .i64 y4, .int .i64 y5] => some ⟨y1, y2, y3, y4, y5⟩
  | _ => none
noncomputable def tx14_10 (x : S.law20_CongKnown_L10) : List W := [.bool x.t0, .list 36 false x.mods, .list 2 false x.nums, .int .i64 x.i, .int .i64 x.k]
noncomputable def py14_10 : Ex → List W → Option (Bool × S.law20_CongKnown_L10)
  | .ret, [.bool y1, .list 36 false y2, .list 2 false y3, .int .i64 y4, .int .i64 y5] => some ⟨true, ⟨y1, y2, y3, y4, y5⟩⟩
  | .exit 10, [.bool y1, .list 36 false y2, .list 2 false y3, .int .i64 y4, .int .i64 y5] => some ⟨false, ⟨y1, y2, y3, y4, y5⟩⟩
  | _, _ => none
noncomputable def ld14_10 : LD El where
  X := S.law20_CongKnown_L10
  Y := Bool × S.law20_CongKnown_L10
  keys := [.slot 0, .slot 6, .slot 7, .slot 8, .slot 9]
  fits := [4, 96, 52, 3, 3]
  px := px14_10
  tx := tx14_10
  okeys := [.slot 0, .slot 6, .slot 7, .slot 8, .slot 9]
  ofits := [4, 96, 52, 3, 3]
  py := py14_10
  ty := fun y => bif y.1 then tx14_10 y.2 else tx14_10 y.2
  oex := fun y => bif y.1 then .ret else .exit 10
  junk := [.slot 10, .slot 11, .slot 12, .slot 13, .slot 14, .slot 116, .slot 117, .slot 118, .slot 119, .slot 120, .slot 121, .slot 122, .slot 123, .slot 124, .slot 125, .slot 126, .slot 127, .slot 128, .slot 129, .slot 130, .slot 131, .slot 132, .slot 133, .slot 134, .slot 135, .slot 136, .slot 137, .slot 138, .slot 139, .slot 140, .slot 141, .slot 142, .slot 143, .slot 144, .slot 145, .slot 146, .slot 147, .slot 148, .slot 149, .slot 150, .slot 151, .slot 152, .slot 153, .slot 154, .slot 155, .slot 156, .slot 157, .slot 158, .slot 159, .slot 160, .slot 161, .slot 162, .slot 163, .slot 164, .slot 165, .slot 166, .slot 167, .slot 168, .slot 169, .slot 170, .slot 171, .slot 172, .slot 173, .slot 174, .slot 175, .slot 176, .slot 177, .slot 178, .slot 179, .slot 180, .slot 181, .slot 182, .slot 183, .slot 184, .slot 185, .slot 186, .slot 187, .slot 188, .slot 189, .slot 190, .slot 191, .slot 192, .slot 193, .slot 194, .slot 195, .slot 196, .slot 197, .slot 198, .slot 199, .slot 200, .slot 201, .slot 202, .slot 203, .slot 204, .slot 205, .slot 206, .slot 207, .slot 208, .slot 209, .slot 210]
  rows := []
noncomputable def lo14_10 : (Bool × S.law20_CongKnown_L10) → Tr El := fun y => .node y.1 (.leaf (.ret) (zipK ld14_10.okeys (tx14_10 y.2) ++ junkK ld14_10.junk)) (.leaf (.exit 10) (zipK ld14_10.okeys (tx14_10 y.2) ++ junkK ld14_10.junk))
noncomputable def lb14_12 : Code := ((nth (loopsOf 10 lb14_10) 0).getD (0, .skip)).2
noncomputable def px14_12 : List W → Option S.law20_CongKnown_L12
  | [.bool y1, .list 36 false y2, .list 2 false y3, .int .i64 y4, .int .i64 y5, .int .i64 y6] => some ⟨y1, y2, y3, y4, y5, y6⟩
  | _ => none
noncomputable def tx14_12 (x : S.law20_CongKnown_L12) : List W := [.bool x.t0, .list 36 false x.mods, .list 2 false x.nums, .int .i64 x.i, .int .i64 x.k, .int .i64 x.n]
noncomputable def py14_12 : Ex → List W → Option (Bool × S.law20_CongKnown_L12)
  | .ret, [.bool y1, .list 36 false y2, .list 2 false y3, .int .i64 y4, .int .i64 y5, .int .i64 y6] => some ⟨true, ⟨y1, y2, y3, y4, y5, y6⟩⟩
  | .exit 12, [.bool y1, .list 36 false y2, .list 2 false y3, .int .i64 y4, .int .i64 y5, .int .i64 y6] => some ⟨false, ⟨y1, y2, y3, y4, y5, y6⟩⟩
  | _, _ => none
noncomputable def ld14_12 : LD El where
  X := S.law20_CongKnown_L12
  Y := Bool × S.law20_CongKnown_L12
  keys := [.slot 0, .slot 6, .slot 7, .slot 8, .slot 9, .slot 10]
  fits := [4, 96, 52, 3, 3, 3]
  px := px14_12
  tx := tx14_12
  okeys := [.slot 0, .slot 6, .slot 7, .slot 8, .slot 9, .slot 10]
  ofits := [4, 96, 52, 3, 3, 3]
  py := py14_12
  ty := fun y => bif y.1 then tx14_12 y.2 else tx14_12 y.2
  oex := fun y => bif y.1 then .ret else .exit 12
  junk := [.slot 11, .slot 12, .slot 13, .slot 14, .slot 122, .slot 123, .slot 124, .slot 125, .slot 126, .slot 127, .slot 128, .slot 129, .slot 130, .slot 131, .slot 132, .slot 133, .slot 134, .slot 135, .slot 136, .slot 137, .slot 138, .slot 139, .slot 140, .slot 141, .slot 142, .slot 143, .slot 144, .slot 145, .slot 146, .slot 147, .slot 148, .slot 149, .slot 150, .slot 151, .slot 152, .slot 153, .slot 154, .slot 155, .slot 156, .slot 157, .slot 158, .slot 159, .slot 160, .slot 161, .slot 162, .slot 163, .slot 164, .slot 165, .slot 166, .slot 167, .slot 168, .slot 169, .slot 170, .slot 171, .slot 172, .slot 173, .slot 174, .slot 175, .slot 176, .slot 177, .slot 178, .slot 179, .slot 180, .slot 181, .slot 182, .slot 183, .slot 184, .slot 185, .slot 186, .slot 187, .slot 188, .slot 189, .slot 190, .slot 191, .slot 192, .slot 193, .slot 194, .slot 195, .slot 196, .slot 197, .slot 198, .slot 199, .slot 200, .slot 201, .slot 202, .slot 203, .slot 204, .slot 205, .slot 206, .slot 207, .slot 208, .slot 209, .slot 210]
  rows := []
noncomputable def lo14_12 : (Bool × S.law20_CongKnown_L12) → Tr El := fun y => .node y.1 (.leaf (.ret) (zipK ld14_12.okeys (tx14_12 y.2) ++ junkK ld14_12.junk)) (.leaf (.exit 12) (zipK ld14_12.okeys (tx14_12 y.2) ++ junkK ld14_12.junk))
noncomputable def loop14 : Nat → Env El → Tr El
  | 0 => ld14_0.tree c13 Try.f14.ntmps 0 lb14_0 S.law20_CongKnown_L0_run lo14_0 S.law20_CongKnown_L0_step S.law20_CongKnown_L0_vcs
  | 2 => ld14_2.tree c13 Try.f14.ntmps 2 lb14_2 S.law20_CongKnown_L2_run lo14_2 S.law20_CongKnown_L2_step S.law20_CongKnown_L2_vcs
  | 4 => ld14_4.tree c13 Try.f14.ntmps 4 lb14_4 S.law20_CongKnown_L4_run lo14_4 S.law20_CongKnown_L4_step S.law20_CongKnown_L4_vcs
  | 6 => ld14_6.tree c13 Try.f14.ntmps 6 lb14_6 S.law20_CongKnown_L6_run lo14_6 S.law20_CongKnown_L6_step S.law20_CongKnown_L6_vcs
  | 8 => ld14_8.tree c13 Try.f14.ntmps 8 lb14_8 S.law20_CongKnown_L8_run lo14_8 S.law20_CongKnown_L8_step S.law20_CongKnown_L8_vcs
  | 10 => ld14_10.tree c13 Try.f14.ntmps 10 lb14_10 S.law20_CongKnown_L10_run lo14_10 S.law20_CongKnown_L10_step S.law20_CongKnown_L10_vcs
  | 12 => ld14_12.tree c13 Try.f14.ntmps 12 lb14_12 S.law20_CongKnown_L12_run lo14_12 S.law20_CongKnown_L12_step S.law20_CongKnown_L12_vcs
  | _ => fun _ => .fail
theorem lok14_12 : ∀ w0 S0, LoopOk c13 Try.f14.ntmps w0 S0 loop14 12 lb14_12 :=
  loop_ok (c := c13) (n := Try.f14.ntmps) c13_ok mixed ld14_12 (body := lb14_12) (key := 12) (loop := loop14) (F := S.law20_CongKnown_L12_run) (out := lo14_12) (step := S.law20_CongKnown_L12_step) (vcs := S.law20_CongKnown_L12_vcs)
    (fun _ => by kernel_rfl) (no_loops (by kernel_rfl)) rfl rfl
    (fun vs x h => by unfold ld14_12 px14_12 at h; dsimp only at h; split at h <;> first | (cases h; rfl) | cases h)
    (fun e vs y h => by unfold ld14_12 py14_12 at h; dsimp only at h; split at h <;> first | (cases h; exact ⟨rfl, rfl⟩) | cases h)
    (by kernel_rfl) (fun | (true, _) => rfl | (false, _) => rfl) (fun | (true, _), _, h => h.1 rfl | (false, _), _, h => h.2 rfl) (fun x => by kernel_rfl) (fun x h => Eq.mpr (show Vm.Tr.vc (Vm.ev c13 Try.f14.ntmps loop14 12 lb14_12 (ld14_12.vars x) []) = S.law20_CongKnown_L12_vcs x by kernel_rfl) h)
theorem lok14_10 : ∀ w0 S0, LoopOk c13 Try.f14.ntmps w0 S0 loop14 10 lb14_10 :=
  loop_ok (c := c13) (n := Try.f14.ntmps) c13_ok mixed ld14_10 (body := lb14_10) (key := 10) (loop := loop14) (F := S.law20_CongKnown_L10_run) (out := lo14_10) (step := S.law20_CongKnown_L10_step) (vcs := S.law20_CongKnown_L10_vcs)
    (fun _ => by kernel_rfl) (loops_all (l := [(12, lb14_12)]) (by kernel_rfl) ⟨lok14_12, trivial⟩) rfl rfl
    (fun vs x h => by unfold ld14_10 px14_10 at h; dsimp only at h; split at h <;> first | (cases h; rfl) | cases h)
    (fun e vs y h => by unfold ld14_10 py14_10 at h; dsimp only at h; split at h <;> first | (cases h; exact ⟨rfl, rfl⟩) | cases h)
    (by kernel_rfl) (fun | (true, _) => rfl | (false, _) => rfl) (fun | (true, _), _, h => h.1 rfl | (false, _), _, h => h.2 rfl) (fun x => by kernel_rfl) (fun x h => Eq.mpr (show Vm.Tr.vc (Vm.ev c13 Try.f14.ntmps loop14 10 lb14_10 (ld14_10.vars x) []) = S.law20_CongKnown_L10_vcs x by kernel_rfl) h)
theorem lok14_8 : ∀ w0 S0, LoopOk c13 Try.f14.ntmps w0 S0 loop14 8 lb14_8 :=
  loop_ok (c := c13) (n := Try.f14.ntmps) c13_ok mixed ld14_8 (body := lb14_8) (key := 8) (loop := loop14) (F := S.law20_CongKnown_L8_run) (out := lo14_8) (step := S.law20_CongKnown_L8_step) (vcs := S.law20_CongKnown_L8_vcs)
    (fun _ => by kernel_rfl) (loops_all (l := [(10, lb14_10)]) (by kernel_rfl) ⟨lok14_10, trivial⟩) rfl rfl
    (fun vs x h => by unfold ld14_8 px14_8 at h; dsimp only at h; split at h <;> first | (cases h; rfl) | cases h)
    (fun e vs y h => by unfold ld14_8 py14_8 at h; dsimp only at h; split at h <;> first | (cases h; exact ⟨rfl, rfl⟩) | cases h)
    (by kernel_rfl) (fun | (true, _) => rfl | (false, _) => rfl) (fun | (true, _), _, h => h.1 rfl | (false, _), _, h => h.2 rfl) (fun x => by kernel_rfl) (fun x h => Eq.mpr (show Vm.Tr.vc (Vm.ev c13 Try.f14.ntmps loop14 8 lb14_8 (ld14_8.vars x) []) = S.law20_CongKnown_L8_vcs x by kernel_rfl) h)
theorem lok14_6 : ∀ w0 S0, LoopOk c13 Try.f14.ntmps w0 S0 loop14 6 lb14_6 :=
  loop_ok (c := c13) (n := Try.f14.ntmps) c13_ok mixed ld14_6 (body := lb14_6) (key := 6) (loop := loop14) (F := S.law20_CongKnown_L6_run) (out := lo14_6) (step := S.law20_CongKnown_L6_step) (vcs := S.law20_CongKnown_L6_vcs)
    (fun _ => by kernel_rfl) (no_loops (by kernel_rfl)) rfl rfl
    (fun vs x h => by unfold ld14_6 px14_6 at h; dsimp only at h; split at h <;> first | (cases h; rfl) | cases h)
    (fun e vs y h => by unfold ld14_6 py14_6 at h; dsimp only at h; split at h <;> first | (cases h; exact ⟨rfl, rfl⟩) | cases h)
    (by kernel_rfl) (fun | (true, _) => rfl | (false, _) => rfl) (fun | (true, _), _, h => h.1 rfl | (false, _), _, h => h.2 rfl) (fun x => by kernel_rfl) (fun x h => Eq.mpr (show Vm.Tr.vc (Vm.ev c13 Try.f14.ntmps loop14 6 lb14_6 (ld14_6.vars x) []) = S.law20_CongKnown_L6_vcs x by kernel_rfl) h)
theorem lok14_4 : ∀ w0 S0, LoopOk c13 Try.f14.ntmps w0 S0 loop14 4 lb14_4 :=
  loop_ok (c := c13) (n := Try.f14.ntmps) c13_ok mixed ld14_4 (body := lb14_4) (key := 4) (loop := loop14) (F := S.law20_CongKnown_L4_run) (out := lo14_4) (step := S.law20_CongKnown_L4_step) (vcs := S.law20_CongKnown_L4_vcs)
    (fun _ => by kernel_rfl) (loops_all (l := [(6, lb14_6)]) (by kernel_rfl) ⟨lok14_6, trivial⟩) rfl rfl
    (fun vs x h => by unfold ld14_4 px14_4 at h; dsimp only at h; split at h <;> first | (cases h; rfl) | cases h)
    (fun e vs y h => by unfold ld14_4 py14_4 at h; dsimp only at h; split at h <;> first | (cases h; exact ⟨rfl, rfl⟩) | cases h)
    (by kernel_rfl) (fun | (true, _) => rfl | (false, _) => rfl) (fun | (true, _), _, h => h.1 rfl | (false, _), _, h => h.2 rfl) (fun x => by kernel_rfl) (fun x h => Eq.mpr (show Vm.Tr.vc (Vm.ev c13 Try.f14.ntmps loop14 4 lb14_4 (ld14_4.vars x) []) = S.law20_CongKnown_L4_vcs x by kernel_rfl) h)
theorem lok14_2 : ∀ w0 S0, LoopOk c13 Try.f14.ntmps w0 S0 loop14 2 lb14_2 :=
  loop_ok (c := c13) (n := Try.f14.ntmps) c13_ok mixed ld14_2 (body := lb14_2) (key := 2) (loop := loop14) (F := S.law20_CongKnown_L2_run) (out := lo14_2) (step := S.law20_CongKnown_L2_step) (vcs := S.law20_CongKnown_L2_vcs)
    (fun _ => by kernel_rfl) (no_loops (by kernel_rfl)) rfl rfl
    (fun vs x h => by unfold ld14_2 px14_2 at h; dsimp only at h; split at h <;> first | (cases h; rfl) | cases h)
    (fun e vs y h => by unfold ld14_2 py14_2 at h; dsimp only at h; split at h <;> first | (cases h; exact ⟨rfl, rfl⟩) | cases h)
    (by kernel_rfl) (fun _ => rfl) (fun _ _ h => h) (fun x => by kernel_rfl) (fun x h => Eq.mpr (show Vm.Tr.vc (Vm.ev c13 Try.f14.ntmps loop14 2 lb14_2 (ld14_2.vars x) []) = S.law20_CongKnown_L2_vcs x by kernel_rfl) h)
theorem lok14_0 : ∀ w0 S0, LoopOk c13 Try.f14.ntmps w0 S0 loop14 0 lb14_0 :=
  loop_ok (c := c13) (n := Try.f14.ntmps) c13_ok mixed ld14_0 (body := lb14_0) (key := 0) (loop := loop14) (F := S.law20_CongKnown_L0_run) (out := lo14_0) (step := S.law20_CongKnown_L0_step) (vcs := S.law20_CongKnown_L0_vcs)
    (fun _ => by kernel_rfl) (loops_all (l := [(2, lb14_2)]) (by kernel_rfl) ⟨lok14_2, trivial⟩) rfl rfl
    (fun vs x h => by unfold ld14_0 px14_0 at h; dsimp only at h; split at h <;> first | (cases h; rfl) | cases h)
    (fun e vs y h => by unfold ld14_0 py14_0 at h; dsimp only at h; split at h <;> first | (cases h; exact ⟨rfl, rfl⟩) | cases h)
    (by kernel_rfl) (fun _ => rfl) (fun _ _ h => h) (fun x => by kernel_rfl) (fun x h => Eq.mpr (show Vm.Tr.vc (Vm.ev c13 Try.f14.ntmps loop14 0 lb14_0 (ld14_0.vars x) []) = S.law20_CongKnown_L0_vcs x by kernel_rfl) h)
theorem fn14 (hp : S.law20_CongKnown_pre) : CallOk c13 14 [] (wr_b (S.law20_CongKnown)) (wo_b (S.law20_CongKnown)) :=
  (call_ok (c := c13) (f := 14) (fn := Try.f14) (code := body14) (args := ([])) (loop := loop14) (md := ⟨false, false⟩) (rd := rd_b) (wr := wr_b) (wo := wo_b) (r := S.law20_CongKnown) c13_ok (by kernel_rfl) (by kernel_rfl) (by kernel_rfl) (loops_all (l := [(0, lb14_0), (4, lb14_4), (8, lb14_8)]) (by kernel_rfl) ⟨lok14_0, ⟨lok14_4, ⟨lok14_8, trivial⟩⟩⟩) (by kernel_rfl) (by kernel_rfl) (by kernel_rfl)
    rw_b np_b no_b (by kernel_rfl) (Eq.mpr (show Vm.Tr.vc (Vm.Fn c13 Try.f14 body14 loop14 ([])) = S.law20_CongKnown_pre by kernel_rfl) hp))
end

theorem own : ownKnob Try.prog.godebug = none := by kernel_rfl
theorem laidOut : laidOutB Try.prog = true := by kernel_rfl
set_option maxRecDepth 100000 in
theorem lifted (os : Os) (started : os.Started) (H : Type) (enc : TypeId × Value → H) :
    ReturnsInHanded {} Try.checked os 14 .any (Rows.congKnownSpec.pre6 enc Try.prog Try.f14 Rows.congKnownRow.domain false) (Rows.congKnownSpec.post enc Try.prog Try.f14 false true false false) := by
  refine returnsInHanded_of_change (C := Try.checked) own started (by kernel_rfl) Try.func14
    (ChangeSpec.witness6 (enc := enc) (C := Try.checked) false ⟨#[], #[], []⟩ 8 (by kernel_rfl) (by kernel_rfl) (by kernel_rfl) (by kernel_rfl)) ?_
  intro w base0 args ds gs before hval0 hW hcnd _
  have hval : ∀ (j : Nat) t v, Try.f14.params[j]? = some t → args[j]? = some v → Value.okWide Try.prog w .any base0 t v := hval0
  have hW' := hW
  obtain ⟨p, q, hA0, hV, rfl, hfz, hnd⟩ := hW
  have hA : DataW.TrodAll enc Try.prog w 0 (fun _ => true) true Try.f14.params.toList args.toList ds p := hA0
  rw [Try.params14] at hA hval
  obtain ⟨hargs, rfl, rfl⟩ := trodAll_nil hA
  obtain rfl : args = #[] := by cases args; simp_all
  obtain ⟨rfl, rfl⟩ := trodVars_none hV
  have hp := S.CongKnown_law  
  have hc := fn14  hp.1
  rw [hp.2] at hc
  refine (law_calls hc (P := Try.prog) rfl .nil).mono fun e w' ⟨he, bel⟩ => ?_
  subst he
  exact ⟨_, rfl, _, _, _, [], _, [], hW', trodAll_mk1 (shut_bool Try.underlying4 _), trodAll_mk0, rfl, bel.frame _, fun h => by cases h⟩

theorem over : Rows.congKnownRow.holds Try.pinned (OpenSpec.ofChange Rows.congKnownSpec) :=
  OpenClaim.holds_of_wide 14 Try.f14 rfl rfl rfl rfl rfl rfl rfl ⟨rfl, rfl, rfl, rfl, rfl⟩ rfl rfl rfl rfl rfl (by kernel_rfl) Try.func14 (by kernel_rfl)
    (of_decide_eq_true (by kernel_rfl)) (by unfold Func.isWrapper; first | (rw [if_pos (by decide +kernel)]; kernel_rfl) | (rw [if_neg (by decide +kernel)]; exact ⟨rfl, rfl⟩))
    (fun os started H enc _ => lifted os started H enc)

theorem proved : Rows.CongKnownSaid := over
#print axioms proved
end Go.Proofs.Ytpnegnhbbcligaa.congKnown
