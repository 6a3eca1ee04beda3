/-
  Printed by a program for this claim: functions of the code as plain functions, and that the code comes to them. Conditions: those that each theorem states.
-/
import Derived.Test.YtcgafjhkefcdfaaGreatDoorQKEnv
import Derived.Test.YtcgafjhkefcdfaaGreatDoorQKFmt
set_option linter.all false
namespace Go.Proofs.YtcgafjhkefcdfaaGreatDoor
open Go Go.Proofs Vm
attribute [local irreducible] Vm.Tr.vc Vm.Tr.out Vm.Fn Vm.Fn.out Vm.ev Vm.loopsOf Vm.Tr.noReq
noncomputable def rd_S25 : W → List (List W) → Option (S.Cong)
 | .agg [.int .u64 x1, .int .u64 x2], [] => some ⟨x1, x2⟩
 | _, _ => none
noncomputable def wr_S25 (x : S.Cong) : W := .agg [.int .u64 x.M, .int .u64 x.R]
noncomputable def wo_S25 (_x : S.Cong) : List (List W) := []
theorem rw_S25 (v : W) (os : List (List W)) (x : S.Cong) (h : rd_S25 v os = some x) : v = wr_S25 x ∧ os = wo_S25 x := by
 unfold rd_S25 at h
 split at h <;> first | (cases h; exact ⟨rfl, rfl⟩) | cases h
theorem np_S25 (x : S.Cong) : okv (fun _ => false) (wr_S25 x) = true := rfl
theorem no_S25 (x : S.Cong) : all (fun cs => all (ok0 fun _ => false) cs) (wo_S25 x) = true := rfl
noncomputable def body69 : Code := (Tryz.f69.body).getD .skip
theorem fn69 (n : Int) : CallOk base 69 [.int .i64 n] (wr_S25 (S.cong_Const n)) (wo_S25 (S.cong_Const n)) :=
 (call_ok (fn := Tryz.f69) (code := body69) (loop := noLoop) (md := ⟨false, false⟩) (rd := rd_S25) (wr := wr_S25) (wo := wo_S25) base_ok (by kernel_rfl) (by kernel_rfl) (by kernel_rfl) (no_loops (by kernel_rfl)) (by kernel_rfl) (by kernel_rfl) (by kernel_rfl)
  rw_S25 np_S25 no_S25 (by kernel_rfl) (Tr.vc_of_noReq (by kernel_rfl)))
noncomputable def sem69 : List W → Option (W × List (List W) × List Prop)
 | [.int .i64 y1] => some (wr_S25 (S.cong_Const y1), wo_S25 (S.cong_Const y1), [])
 | _ => none
noncomputable def c69 : Cfg El := base.add 69 sem69
theorem c69_ok : CfgOk c69 := base_ok.add (fun args w => Tryz.call69 args w) (fun vs r outs ps h hp => by
 unfold sem69 at h
 split at h
 ·rename_i y1; cases h; exact fn69 y1
 ·cases h)
noncomputable def rd_u64 : W → List (List W) → Option (Int)
 | .int .u64 x1, [] => some x1
 | _, _ => none
noncomputable def wr_u64 (x : Int) : W := .int .u64 x
noncomputable def wo_u64 (_x : Int) : List (List W) := []
theorem rw_u64 (v : W) (os : List (List W)) (x : Int) (h : rd_u64 v os = some x) : v = wr_u64 x ∧ os = wo_u64 x := by
 unfold rd_u64 at h
 split at h <;> first | (cases h; exact ⟨rfl, rfl⟩) | cases h
theorem np_u64 (x : Int) : okv (fun _ => false) (wr_u64 x) = true := rfl
theorem no_u64 (x : Int) : all (fun cs => all (ok0 fun _ => false) cs) (wo_u64 x) = true := rfl
noncomputable def body73 : Code := (Tryz.f73.body).getD .skip
theorem fn73 (n : Int) (m : Int) (hp : S.cong_rest_pre n m) : CallOk c69 73 [.int .i64 n, .int .u64 m] (wr_u64 (S.cong_rest n m)) (wo_u64 (S.cong_rest n m)) :=
 (call_ok (fn := Tryz.f73) (code := body73) (loop := noLoop) (md := ⟨false, false⟩) (rd := rd_u64) (wr := wr_u64) (wo := wo_u64) c69_ok (by kernel_rfl) (by kernel_rfl) (by kernel_rfl) (no_loops (by kernel_rfl)) (by kernel_rfl) (by kernel_rfl) (by kernel_rfl)
  rw_u64 np_u64 no_u64 (by kernel_rfl) (Eq.mpr (show Vm.Tr.vc (Vm.Fn c69 Tryz.f73 body73 noLoop ([.int .i64 n, .int .u64 m])) = S.cong_rest_pre n m by kernel_rfl) hp))
noncomputable def sem73 : List W → Option (W × List (List W) × List Prop)
 | [.int .i64 y1, .int .u64 y2] => some (wr_u64 (S.cong_rest y1 y2), wo_u64 (S.cong_rest y1 y2), [S.cong_rest_pre y1 y2])
 | _ => none
noncomputable def c73 : Cfg El := c69.add 73 sem73
theorem c73_ok : CfgOk c73 := c69_ok.add (fun args w => Tryz.call73 args w) (fun vs r outs ps h hp => by
 unfold sem73 at h
 split at h
 ·rename_i y1 y2; cases h; exact fn73 y1 y2 hp
 ·cases h)
noncomputable def body26 : Code := (Tryz.f26.body).getD .skip
theorem fn26 (m : Int) (n : Int) (hp : S.cong_Make_pre m n) : CallOk c73 26 [.int .u64 m, .int .i64 n] (wr_S25 (S.cong_Make m n)) (wo_S25 (S.cong_Make m n)) :=
 (call_ok (fn := Tryz.f26) (code := body26) (loop := noLoop) (md := ⟨false, false⟩) (rd := rd_S25) (wr := wr_S25) (wo := wo_S25) c73_ok (by kernel_rfl) (by kernel_rfl) (by kernel_rfl) (no_loops (by kernel_rfl)) (by kernel_rfl) (by kernel_rfl) (by kernel_rfl)
  rw_S25 np_S25 no_S25 (by kernel_rfl) (Eq.mpr (show Vm.Tr.vc (Vm.Fn c73 Tryz.f26 body26 noLoop ([.int .u64 m, .int .i64 n])) = S.cong_Make_pre m n by kernel_rfl) hp))
noncomputable def sem26 : List W → Option (W × List (List W) × List Prop)
 | [.int .u64 y1, .int .i64 y2] => some (wr_S25 (S.cong_Make y1 y2), wo_S25 (S.cong_Make y1 y2), [S.cong_Make_pre y1 y2])
 | _ => none
noncomputable def c26 : Cfg El := c73.add 26 sem26
theorem c26_ok : CfgOk c26 := c73_ok.add (fun args w => Tryz.call26 args w) (fun vs r outs ps h hp => by
 unfold sem26 at h
 split at h
 ·rename_i y1 y2; cases h; exact fn26 y1 y2 hp
 ·cases h)
noncomputable def rd_S31 : W → List (List W) → Option (S.Value)
 | .agg [.int .i64 x1, .int .i64 x2, .int .u64 x3, .int .u64 x4], [] => some ⟨⟨x1, x2⟩, ⟨x3, x4⟩⟩
 | _, _ => none
noncomputable def wr_S31 (x : S.Value) : W := .agg [.int .i64 x.I.Lo, .int .i64 x.I.Hi, .int .u64 x.C.M, .int .u64 x.C.R]
noncomputable def wo_S31 (_x : S.Value) : List (List W) := []
theorem rw_S31 (v : W) (os : List (List W)) (x : S.Value) (h : rd_S31 v os = some x) : v = wr_S31 x ∧ os = wo_S31 x := by
 unfold rd_S31 at h
 split at h <;> first | (cases h; exact ⟨rfl, rfl⟩) | cases h
theorem np_S31 (x : S.Value) : okv (fun _ => false) (wr_S31 x) = true := rfl
theorem no_S31 (x : S.Value) : all (fun cs => all (ok0 fun _ => false) cs) (wo_S31 x) = true := rfl
noncomputable def body8 : Code := (Tryz.f8.body).getD .skip
theorem fn8 (v : S.Value) : CallOk c26 8 [.agg [.int .i64 v.I.Lo, .int .i64 v.I.Hi, .int .u64 v.C.M, .int .u64 v.C.R]] (wr_S31 (S.docs_Value v)) (wo_S31 (S.docs_Value v)) :=
 (call_ok (fn := Tryz.f8) (code := body8) (loop := noLoop) (md := ⟨false, false⟩) (rd := rd_S31) (wr := wr_S31) (wo := wo_S31) c26_ok (by kernel_rfl) (by kernel_rfl) (by kernel_rfl) (no_loops (by kernel_rfl)) (by kernel_rfl) (by kernel_rfl) (by kernel_rfl)
  rw_S31 np_S31 no_S31 (by kernel_rfl) (Tr.vc_of_noReq (by kernel_rfl)))
noncomputable def sem8 : List W → Option (W × List (List W) × List Prop)
 | [.agg [.int .i64 y1, .int .i64 y2, .int .u64 y3, .int .u64 y4]] => some (wr_S31 (S.docs_Value ⟨⟨y1, y2⟩, ⟨y3, y4⟩⟩), wo_S31 (S.docs_Value ⟨⟨y1, y2⟩, ⟨y3, y4⟩⟩), [])
 | _ => none
noncomputable def c8 : Cfg El := c26.add 8 sem8
theorem c8_ok : CfgOk c8 := c26_ok.add (fun args w => Tryz.call8 args w) (fun vs r outs ps h hp => by
 unfold sem8 at h
 split at h
 ·rename_i y1 y2 y3 y4; cases h; exact fn8 ⟨⟨y1, y2⟩, ⟨y3, y4⟩⟩
 ·cases h)
noncomputable def rd_b : W → List (List W) → Option (Bool)
 | .bool x1, [] => some x1
 | _, _ => none
noncomputable def wr_b (x : Bool) : W := .bool x
noncomputable def wo_b (_x : Bool) : List (List W) := []
theorem rw_b (v : W) (os : List (List W)) (x : Bool) (h : rd_b v os = some x) : v = wr_b x ∧ os = wo_b x := by
 unfold rd_b at h
 split at h <;> first | (cases h; exact ⟨rfl, rfl⟩) | cases h
theorem np_b (x : Bool) : okv (fun _ => false) (wr_b x) = true := rfl
theorem no_b (x : Bool) : all (fun cs => all (ok0 fun _ => false) cs) (wo_b x) = true := rfl
noncomputable def body88 : Code := (Tryz.f88.body).getD .skip
theorem fn88 (c : S.Cong) : CallOk c8 88 [.agg [.int .u64 c.M, .int .u64 c.R]] (wr_b (S.cong_Cong_single c)) (wo_b (S.cong_Cong_single c)) :=
 (call_ok (fn := Tryz.f88) (code := body88) (loop := noLoop) (md := ⟨false, false⟩) (rd := rd_b) (wr := wr_b) (wo := wo_b) c8_ok (by kernel_rfl) (by kernel_rfl) (by kernel_rfl) (no_loops (by kernel_rfl)) (by kernel_rfl) (by kernel_rfl) (by kernel_rfl)
  rw_b np_b no_b (by kernel_rfl) (Tr.vc_of_noReq (by kernel_rfl)))
noncomputable def sem88 : List W → Option (W × List (List W) × List Prop)
 | [.agg [.int .u64 y1, .int .u64 y2]] => some (wr_b (S.cong_Cong_single ⟨y1, y2⟩), wo_b (S.cong_Cong_single ⟨y1, y2⟩), [])
 | _ => none
noncomputable def c88 : Cfg El := c8.add 88 sem88
theorem c88_ok : CfgOk c88 := c8_ok.add (fun args w => Tryz.call88 args w) (fun vs r outs ps h hp => by
 unfold sem88 at h
 split at h
 ·rename_i y1 y2; cases h; exact fn88 ⟨y1, y2⟩
 ·cases h)
noncomputable def body60 : Code := (Tryz.f60.body).getD .skip
theorem fn60 (c : S.Cong) : CallOk c88 60 [.agg [.int .u64 c.M, .int .u64 c.R]] (wr_b (S.cong_Cong_Right c)) (wo_b (S.cong_Cong_Right c)) :=
 (call_ok (fn := Tryz.f60) (code := body60) (loop := noLoop) (md := ⟨false, false⟩) (rd := rd_b) (wr := wr_b) (wo := wo_b) c88_ok (by kernel_rfl) (by kernel_rfl) (by kernel_rfl) (no_loops (by kernel_rfl)) (by kernel_rfl) (by kernel_rfl) (by kernel_rfl)
  rw_b np_b no_b (by kernel_rfl) (Tr.vc_of_noReq (by kernel_rfl)))
noncomputable def sem60 : List W → Option (W × List (List W) × List Prop)
 | [.agg [.int .u64 y1, .int .u64 y2]] => some (wr_b (S.cong_Cong_Right ⟨y1, y2⟩), wo_b (S.cong_Cong_Right ⟨y1, y2⟩), [])
 | _ => none
noncomputable def c60 : Cfg El := c88.add 60 sem60
theorem c60_ok : CfgOk c60 := c88_ok.add (fun args w => Tryz.call60 args w) (fun vs r outs ps h hp => by
 unfold sem60 at h
 split at h
 ·rename_i y1 y2; cases h; exact fn60 ⟨y1, y2⟩
 ·cases h)
noncomputable def rd_i64 : W → List (List W) → Option (Int)
 | .int .i64 x1, [] => some x1
 | _, _ => none
noncomputable def wr_i64 (x : Int) : W := .int .i64 x
noncomputable def wo_i64 (_x : Int) : List (List W) := []
theorem rw_i64 (v : W) (os : List (List W)) (x : Int) (h : rd_i64 v os = some x) : v = wr_i64 x ∧ os = wo_i64 x := by
 unfold rd_i64 at h
 split at h <;> first | (cases h; exact ⟨rfl, rfl⟩) | cases h
theorem np_i64 (x : Int) : okv (fun _ => false) (wr_i64 x) = true := rfl
theorem no_i64 (x : Int) : all (fun cs => all (ok0 fun _ => false) cs) (wo_i64 x) = true := rfl
noncomputable def body115 : Code := (Tryz.f115.body).getD .skip
theorem fn115 (c : S.Cong) : CallOk c60 115 [.agg [.int .u64 c.M, .int .u64 c.R]] (wr_i64 (S.cong_Cong_number c)) (wo_i64 (S.cong_Cong_number c)) :=
 (call_ok (fn := Tryz.f115) (code := body115) (loop := noLoop) (md := ⟨false, false⟩) (rd := rd_i64) (wr := wr_i64) (wo := wo_i64) c60_ok (by kernel_rfl) (by kernel_rfl) (by kernel_rfl) (no_loops (by kernel_rfl)) (by kernel_rfl) (by kernel_rfl) (by kernel_rfl)
  rw_i64 np_i64 no_i64 (by kernel_rfl) (Tr.vc_of_noReq (by kernel_rfl)))
noncomputable def sem115 : List W → Option (W × List (List W) × List Prop)
 | [.agg [.int .u64 y1, .int .u64 y2]] => some (wr_i64 (S.cong_Cong_number ⟨y1, y2⟩), wo_i64 (S.cong_Cong_number ⟨y1, y2⟩), [])
 | _ => none
noncomputable def c115 : Cfg El := c60.add 115 sem115
theorem c115_ok : CfgOk c115 := c60_ok.add (fun args w => Tryz.call115 args w) (fun vs r outs ps h hp => by
 unfold sem115 at h
 split at h
 ·rename_i y1 y2; cases h; exact fn115 ⟨y1, y2⟩
 ·cases h)
noncomputable def rd_i64_b : W → List (List W) → Option (Int × Bool)
 | .tup [.int .i64 x1, .bool x2], [] => some ⟨x1, x2⟩
 | _, _ => none
noncomputable def wr_i64_b (x : Int × Bool) : W := .tup [.int .i64 x.1, .bool x.2]
noncomputable def wo_i64_b (_x : Int × Bool) : List (List W) := []
theorem rw_i64_b (v : W) (os : List (List W)) (x : Int × Bool) (h : rd_i64_b v os = some x) : v = wr_i64_b x ∧ os = wo_i64_b x := by
 unfold rd_i64_b at h
 split at h <;> first | (cases h; exact ⟨rfl, rfl⟩) | cases h
theorem np_i64_b (x : Int × Bool) : okv (fun _ => false) (wr_i64_b x) = true := rfl
theorem no_i64_b (x : Int × Bool) : all (fun cs => all (ok0 fun _ => false) cs) (wo_i64_b x) = true := rfl
noncomputable def body114 : Code := (Tryz.f114.body).getD .skip
theorem fn114 (c : S.Cong) (ok : Bool) : CallOk c115 114 [.agg [.int .u64 c.M, .int .u64 c.R], .bool ok] (wr_i64_b (S.cong_Cong_number0 c ok)) (wo_i64_b (S.cong_Cong_number0 c ok)) :=
 (call_ok (fn := Tryz.f114) (code := body114) (loop := noLoop) (md := ⟨false, false⟩) (rd := rd_i64_b) (wr := wr_i64_b) (wo := wo_i64_b) c115_ok (by kernel_rfl) (by kernel_rfl) (by kernel_rfl) (no_loops (by kernel_rfl)) (by kernel_rfl) (by kernel_rfl) (by kernel_rfl)
  rw_i64_b np_i64_b no_i64_b (by kernel_rfl) (Tr.vc_of_noReq (by kernel_rfl)))
noncomputable def sem114 : List W → Option (W × List (List W) × List Prop)
 | [.agg [.int .u64 y1, .int .u64 y2], .bool y3] => some (wr_i64_b (S.cong_Cong_number0 ⟨y1, y2⟩ y3), wo_i64_b (S.cong_Cong_number0 ⟨y1, y2⟩ y3), [])
 | _ => none
noncomputable def c114 : Cfg El := c115.add 114 sem114
theorem c114_ok : CfgOk c114 := c115_ok.add (fun args w => Tryz.call114 args w) (fun vs r outs ps h hp => by
 unfold sem114 at h
 split at h
 ·rename_i y1 y2 y3; cases h; exact fn114 ⟨y1, y2⟩ y3
 ·cases h)
noncomputable def sem177 : List W → Option (W × List (List W) × List Prop)
 | [.int .u64 x, .int .u64 y, .int .u64 c] => some (.tup [.int .u64 (S.math_bits_Add64 x y c).1, .int .u64 (S.math_bits_Add64 x y c).2], [], [S.math_bits_Add64_pre x y c])
 | _ => none
noncomputable def c177 : Cfg El := c114.add 177 sem177
theorem c177_ok : CfgOk c177 := c114_ok.addExt (fun vs r outs ps h hp => by
 unfold sem177 at h
 split at h
 ·cases h; exact ⟨rfl, ext_add64 (c := c114) (fn := Tryz.f177) (by kernel_rfl) (by kernel_rfl) (by kernel_rfl) (by kernel_rfl) (by kernel_rfl) hp⟩
 ·cases h)
noncomputable def body116 : Code := (Tryz.f116.body).getD .skip
theorem fn116 (a : Int) (b : Int) (m : Int) (hp : S.cong_plus_pre a b m) : CallOk c177 116 [.int .u64 a, .int .u64 b, .int .u64 m] (wr_u64 (S.cong_plus a b m)) (wo_u64 (S.cong_plus a b m)) :=
 (call_ok (fn := Tryz.f116) (code := body116) (loop := noLoop) (md := ⟨false, false⟩) (rd := rd_u64) (wr := wr_u64) (wo := wo_u64) c177_ok (by kernel_rfl) (by kernel_rfl) (by kernel_rfl) (no_loops (by kernel_rfl)) (by kernel_rfl) (by kernel_rfl) (by kernel_rfl)
  rw_u64 np_u64 no_u64 (by kernel_rfl) (Eq.mpr (show Vm.Tr.vc (Vm.Fn c177 Tryz.f116 body116 noLoop ([.int .u64 a, .int .u64 b, .int .u64 m])) = S.cong_plus_pre a b m by kernel_rfl) hp))
noncomputable def sem116 : List W → Option (W × List (List W) × List Prop)
 | [.int .u64 y1, .int .u64 y2, .int .u64 y3] => some (wr_u64 (S.cong_plus y1 y2 y3), wo_u64 (S.cong_plus y1 y2 y3), [S.cong_plus_pre y1 y2 y3])
 | _ => none
noncomputable def c116 : Cfg El := c177.add 116 sem116
theorem c116_ok : CfgOk c116 := c177_ok.add (fun args w => Tryz.call116 args w) (fun vs r outs ps h hp => by
 unfold sem116 at h
 split at h
 ·rename_i y1 y2 y3; cases h; exact fn116 y1 y2 y3 hp
 ·cases h)
noncomputable def body59 : Code := (Tryz.f59.body).getD .skip
theorem fn59 (c : S.Cong) (a1 : Int) (hp : S.cong_Cong_Least_pre c a1) : CallOk c116 59 [.agg [.int .u64 c.M, .int .u64 c.R], .int .i64 a1] (wr_i64_b (S.cong_Cong_Least c a1)) (wo_i64_b (S.cong_Cong_Least c a1)) :=
 (call_ok (fn := Tryz.f59) (code := body59) (loop := noLoop) (md := ⟨false, false⟩) (rd := rd_i64_b) (wr := wr_i64_b) (wo := wo_i64_b) c116_ok (by kernel_rfl) (by kernel_rfl) (by kernel_rfl) (no_loops (by kernel_rfl)) (by kernel_rfl) (by kernel_rfl) (by kernel_rfl)
  rw_i64_b np_i64_b no_i64_b (by kernel_rfl) (Eq.mpr (show Vm.Tr.vc (Vm.Fn c116 Tryz.f59 body59 noLoop ([.agg [.int .u64 c.M, .int .u64 c.R], .int .i64 a1])) = S.cong_Cong_Least_pre c a1 by kernel_rfl) hp))
noncomputable def sem59 : List W → Option (W × List (List W) × List Prop)
 | [.agg [.int .u64 y1, .int .u64 y2], .int .i64 y3] => some (wr_i64_b (S.cong_Cong_Least ⟨y1, y2⟩ y3), wo_i64_b (S.cong_Cong_Least ⟨y1, y2⟩ y3), [S.cong_Cong_Least_pre ⟨y1, y2⟩ y3])
 | _ => none
noncomputable def c59 : Cfg El := c116.add 59 sem59
theorem c59_ok : CfgOk c59 := c116_ok.add (fun args w => Tryz.call59 args w) (fun vs r outs ps h hp => by
 unfold sem59 at h
 split at h
 ·rename_i y1 y2 y3; cases h; exact fn59 ⟨y1, y2⟩ y3 hp
 ·cases h)
noncomputable def body61 : Code := (Tryz.f61.body).getD .skip
theorem fn61 (c : S.Cong) (to : Int) (hp : S.cong_Cong_Greatest_pre c to) : CallOk c59 61 [.agg [.int .u64 c.M, .int .u64 c.R], .int .i64 to] (wr_i64_b (S.cong_Cong_Greatest c to)) (wo_i64_b (S.cong_Cong_Greatest c to)) :=
 (call_ok (fn := Tryz.f61) (code := body61) (loop := noLoop) (md := ⟨false, false⟩) (rd := rd_i64_b) (wr := wr_i64_b) (wo := wo_i64_b) c59_ok (by kernel_rfl) (by kernel_rfl) (by kernel_rfl) (no_loops (by kernel_rfl)) (by kernel_rfl) (by kernel_rfl) (by kernel_rfl)
  rw_i64_b np_i64_b no_i64_b (by kernel_rfl) (Eq.mpr (show Vm.Tr.vc (Vm.Fn c59 Tryz.f61 body61 noLoop ([.agg [.int .u64 c.M, .int .u64 c.R], .int .i64 to])) = S.cong_Cong_Greatest_pre c to by kernel_rfl) hp))
noncomputable def sem61 : List W → Option (W × List (List W) × List Prop)
 | [.agg [.int .u64 y1, .int .u64 y2], .int .i64 y3] => some (wr_i64_b (S.cong_Cong_Greatest ⟨y1, y2⟩ y3), wo_i64_b (S.cong_Cong_Greatest ⟨y1, y2⟩ y3), [S.cong_Cong_Greatest_pre ⟨y1, y2⟩ y3])
 | _ => none
noncomputable def c61 : Cfg El := c59.add 61 sem61
theorem c61_ok : CfgOk c61 := c59_ok.add (fun args w => Tryz.call61 args w) (fun vs r outs ps h hp => by
 unfold sem61 at h
 split at h
 ·rename_i y1 y2 y3; cases h; exact fn61 ⟨y1, y2⟩ y3 hp
 ·cases h)
noncomputable def rd_S22 : W → List (List W) → Option (S.Inter)
 | .agg [.int .i64 x1, .int .i64 x2], [] => some ⟨x1, x2⟩
 | _, _ => none
noncomputable def wr_S22 (x : S.Inter) : W := .agg [.int .i64 x.Lo, .int .i64 x.Hi]
noncomputable def wo_S22 (_x : S.Inter) : List (List W) := []
theorem rw_S22 (v : W) (os : List (List W)) (x : S.Inter) (h : rd_S22 v os = some x) : v = wr_S22 x ∧ os = wo_S22 x := by
 unfold rd_S22 at h
 split at h <;> first | (cases h; exact ⟨rfl, rfl⟩) | cases h
theorem np_S22 (x : S.Inter) : okv (fun _ => false) (wr_S22 x) = true := rfl
theorem no_S22 (x : S.Inter) : all (fun cs => all (ok0 fun _ => false) cs) (wo_S22 x) = true := rfl
noncomputable def body76 : Code := (Tryz.f76.body).getD .skip
theorem fn76 : CallOk c61 76 [] (wr_S22 (S.inter_Empty)) (wo_S22 (S.inter_Empty)) :=
 (call_ok (fn := Tryz.f76) (code := body76) (loop := noLoop) (md := ⟨false, false⟩) (rd := rd_S22) (wr := wr_S22) (wo := wo_S22) c61_ok (by kernel_rfl) (by kernel_rfl) (by kernel_rfl) (no_loops (by kernel_rfl)) (by kernel_rfl) (by kernel_rfl) (by kernel_rfl)
  rw_S22 np_S22 no_S22 (by kernel_rfl) (Tr.vc_of_noReq (by kernel_rfl)))
noncomputable def sem76 : List W → Option (W × List (List W) × List Prop)
 | [] => some (wr_S22 (S.inter_Empty), wo_S22 (S.inter_Empty), [])
 | _ => none
noncomputable def c76 : Cfg El := c61.add 76 sem76
theorem c76_ok : CfgOk c76 := c61_ok.add (fun args w => Tryz.call76 args w) (fun vs r outs ps h hp => by
 unfold sem76 at h
 split at h
 ·cases h; exact fn76
 ·cases h)
noncomputable def body42 : Code := (Tryz.f42.body).getD .skip
theorem fn42 (lo : Int) (hi : Int) : CallOk c76 42 [.int .i64 lo, .int .i64 hi] (wr_S22 (S.inter_Of lo hi)) (wo_S22 (S.inter_Of lo hi)) :=
 (call_ok (fn := Tryz.f42) (code := body42) (loop := noLoop) (md := ⟨false, false⟩) (rd := rd_S22) (wr := wr_S22) (wo := wo_S22) c76_ok (by kernel_rfl) (by kernel_rfl) (by kernel_rfl) (no_loops (by kernel_rfl)) (by kernel_rfl) (by kernel_rfl) (by kernel_rfl)
  rw_S22 np_S22 no_S22 (by kernel_rfl) (Tr.vc_of_noReq (by kernel_rfl)))
noncomputable def sem42 : List W → Option (W × List (List W) × List Prop)
 | [.int .i64 y1, .int .i64 y2] => some (wr_S22 (S.inter_Of y1 y2), wo_S22 (S.inter_Of y1 y2), [])
 | _ => none
noncomputable def c42 : Cfg El := c76.add 42 sem42
theorem c42_ok : CfgOk c42 := c76_ok.add (fun args w => Tryz.call42 args w) (fun vs r outs ps h hp => by
 unfold sem42 at h
 split at h
 ·rename_i y1 y2; cases h; exact fn42 y1 y2
 ·cases h)
noncomputable def body117 : Code := (Tryz.f117.body).getD .skip
theorem fn117 (i : S.Inter) : CallOk c42 117 [.agg [.int .i64 i.Lo, .int .i64 i.Hi]] (wr_S22 (S.inter_Inter_plain i)) (wo_S22 (S.inter_Inter_plain i)) :=
 (call_ok (fn := Tryz.f117) (code := body117) (loop := noLoop) (md := ⟨false, false⟩) (rd := rd_S22) (wr := wr_S22) (wo := wo_S22) c42_ok (by kernel_rfl) (by kernel_rfl) (by kernel_rfl) (no_loops (by kernel_rfl)) (by kernel_rfl) (by kernel_rfl) (by kernel_rfl)
  rw_S22 np_S22 no_S22 (by kernel_rfl) (Tr.vc_of_noReq (by kernel_rfl)))
noncomputable def sem117 : List W → Option (W × List (List W) × List Prop)
 | [.agg [.int .i64 y1, .int .i64 y2]] => some (wr_S22 (S.inter_Inter_plain ⟨y1, y2⟩), wo_S22 (S.inter_Inter_plain ⟨y1, y2⟩), [])
 | _ => none
noncomputable def c117 : Cfg El := c42.add 117 sem117
theorem c117_ok : CfgOk c117 := c42_ok.add (fun args w => Tryz.call117 args w) (fun vs r outs ps h hp => by
 unfold sem117 at h
 split at h
 ·rename_i y1 y2; cases h; exact fn117 ⟨y1, y2⟩
 ·cases h)
noncomputable def body62 : Code := (Tryz.f62.body).getD .skip
theorem fn62 (i : S.Inter) : CallOk c117 62 [.agg [.int .i64 i.Lo, .int .i64 i.Hi]] (wr_b (S.inter_Inter_IsEmpty i)) (wo_b (S.inter_Inter_IsEmpty i)) :=
 (call_ok (fn := Tryz.f62) (code := body62) (loop := noLoop) (md := ⟨false, false⟩) (rd := rd_b) (wr := wr_b) (wo := wo_b) c117_ok (by kernel_rfl) (by kernel_rfl) (by kernel_rfl) (no_loops (by kernel_rfl)) (by kernel_rfl) (by kernel_rfl) (by kernel_rfl)
  rw_b np_b no_b (by kernel_rfl) (Tr.vc_of_noReq (by kernel_rfl)))
noncomputable def sem62 : List W → Option (W × List (List W) × List Prop)
 | [.agg [.int .i64 y1, .int .i64 y2]] => some (wr_b (S.inter_Inter_IsEmpty ⟨y1, y2⟩), wo_b (S.inter_Inter_IsEmpty ⟨y1, y2⟩), [])
 | _ => none
noncomputable def c62 : Cfg El := c117.add 62 sem62
theorem c62_ok : CfgOk c62 := c117_ok.add (fun args w => Tryz.call62 args w) (fun vs r outs ps h hp => by
 unfold sem62 at h
 split at h
 ·rename_i y1 y2; cases h; exact fn62 ⟨y1, y2⟩
 ·cases h)
noncomputable def body75 : Code := (Tryz.f75.body).getD .skip
theorem fn75 : CallOk c62 75 [] (wr_S25 (S.cong_Top)) (wo_S25 (S.cong_Top)) :=
 (call_ok (fn := Tryz.f75) (code := body75) (loop := noLoop) (md := ⟨false, false⟩) (rd := rd_S25) (wr := wr_S25) (wo := wo_S25) c62_ok (by kernel_rfl) (by kernel_rfl) (by kernel_rfl) (no_loops (by kernel_rfl)) (by kernel_rfl) (by kernel_rfl) (by kernel_rfl)
  rw_S25 np_S25 no_S25 (by kernel_rfl) (Tr.vc_of_noReq (by kernel_rfl)))
noncomputable def sem75 : List W → Option (W × List (List W) × List Prop)
 | [] => some (wr_S25 (S.cong_Top), wo_S25 (S.cong_Top), [])
 | _ => none
noncomputable def c75 : Cfg El := c62.add 75 sem75
theorem c75_ok : CfgOk c75 := c62_ok.add (fun args w => Tryz.call75 args w) (fun vs r outs ps h hp => by
 unfold sem75 at h
 split at h
 ·cases h; exact fn75
 ·cases h)
noncomputable def rd_S27 : W → List (List W) → Option (S.Value)
 | .agg [.int .i64 x1, .int .i64 x2, .int .u64 x3, .int .u64 x4], [] => some ⟨⟨x1, x2⟩, ⟨x3, x4⟩⟩
 | _, _ => none
noncomputable def wr_S27 (x : S.Value) : W := .agg [.int .i64 x.I.Lo, .int .i64 x.I.Hi, .int .u64 x.C.M, .int .u64 x.C.R]
noncomputable def wo_S27 (_x : S.Value) : List (List W) := []
theorem rw_S27 (v : W) (os : List (List W)) (x : S.Value) (h : rd_S27 v os = some x) : v = wr_S27 x ∧ os = wo_S27 x := by
 unfold rd_S27 at h
 split at h <;> first | (cases h; exact ⟨rfl, rfl⟩) | cases h
theorem np_S27 (x : S.Value) : okv (fun _ => false) (wr_S27 x) = true := rfl
theorem no_S27 (x : S.Value) : all (fun cs => all (ok0 fun _ => false) cs) (wo_S27 x) = true := rfl
noncomputable def body29 : Code := (Tryz.f29.body).getD .skip
theorem fn29 : CallOk c75 29 [] (wr_S27 (S.value_Bottom)) (wo_S27 (S.value_Bottom)) :=
 (call_ok (fn := Tryz.f29) (code := body29) (loop := noLoop) (md := ⟨false, false⟩) (rd := rd_S27) (wr := wr_S27) (wo := wo_S27) c75_ok (by kernel_rfl) (by kernel_rfl) (by kernel_rfl) (no_loops (by kernel_rfl)) (by kernel_rfl) (by kernel_rfl) (by kernel_rfl)
  rw_S27 np_S27 no_S27 (by kernel_rfl) (Tr.vc_of_noReq (by kernel_rfl)))
noncomputable def sem29 : List W → Option (W × List (List W) × List Prop)
 | [] => some (wr_S27 (S.value_Bottom), wo_S27 (S.value_Bottom), [])
 | _ => none
noncomputable def c29 : Cfg El := c75.add 29 sem29
theorem c29_ok : CfgOk c29 := c75_ok.add (fun args w => Tryz.call29 args w) (fun vs r outs ps h hp => by
 unfold sem29 at h
 split at h
 ·cases h; exact fn29
 ·cases h)
noncomputable def body68 : Code := (Tryz.f68.body).getD .skip
theorem fn68 (n : Int) : CallOk c29 68 [.int .i64 n] (wr_S22 (S.inter_One n)) (wo_S22 (S.inter_One n)) :=
 (call_ok (fn := Tryz.f68) (code := body68) (loop := noLoop) (md := ⟨false, false⟩) (rd := rd_S22) (wr := wr_S22) (wo := wo_S22) c29_ok (by kernel_rfl) (by kernel_rfl) (by kernel_rfl) (no_loops (by kernel_rfl)) (by kernel_rfl) (by kernel_rfl) (by kernel_rfl)
  rw_S22 np_S22 no_S22 (by kernel_rfl) (Tr.vc_of_noReq (by kernel_rfl)))
noncomputable def sem68 : List W → Option (W × List (List W) × List Prop)
 | [.int .i64 y1] => some (wr_S22 (S.inter_One y1), wo_S22 (S.inter_One y1), [])
 | _ => none
noncomputable def c68 : Cfg El := c29.add 68 sem68
theorem c68_ok : CfgOk c68 := c29_ok.add (fun args w => Tryz.call68 args w) (fun vs r outs ps h hp => by
 unfold sem68 at h
 split at h
 ·rename_i y1; cases h; exact fn68 y1
 ·cases h)
noncomputable def body21 : Code := (Tryz.f21.body).getD .skip
theorem fn21 (n : Int) : CallOk c68 21 [.int .i64 n] (wr_S27 (S.value_One n)) (wo_S27 (S.value_One n)) :=
 (call_ok (fn := Tryz.f21) (code := body21) (loop := noLoop) (md := ⟨false, false⟩) (rd := rd_S27) (wr := wr_S27) (wo := wo_S27) c68_ok (by kernel_rfl) (by kernel_rfl) (by kernel_rfl) (no_loops (by kernel_rfl)) (by kernel_rfl) (by kernel_rfl) (by kernel_rfl)
  rw_S27 np_S27 no_S27 (by kernel_rfl) (Tr.vc_of_noReq (by kernel_rfl)))
noncomputable def sem21 : List W → Option (W × List (List W) × List Prop)
 | [.int .i64 y1] => some (wr_S27 (S.value_One y1), wo_S27 (S.value_One y1), [])
 | _ => none
noncomputable def c21 : Cfg El := c68.add 21 sem21
theorem c21_ok : CfgOk c21 := c68_ok.add (fun args w => Tryz.call21 args w) (fun vs r outs ps h hp => by
 unfold sem21 at h
 split at h
 ·rename_i y1; cases h; exact fn21 y1
 ·cases h)
noncomputable def body17 : Code := (Tryz.f17.body).getD .skip
theorem fn17 (i : S.Inter) (c : S.Cong) (hp : S.value_Make_pre i c) : CallOk c21 17 [.agg [.int .i64 i.Lo, .int .i64 i.Hi], .agg [.int .u64 c.M, .int .u64 c.R]] (wr_S27 (S.value_Make i c)) (wo_S27 (S.value_Make i c)) :=
 (call_ok (fn := Tryz.f17) (code := body17) (loop := noLoop) (md := ⟨false, false⟩) (rd := rd_S27) (wr := wr_S27) (wo := wo_S27) c21_ok (by kernel_rfl) (by kernel_rfl) (by kernel_rfl) (no_loops (by kernel_rfl)) (by kernel_rfl) (by kernel_rfl) (by kernel_rfl)
  rw_S27 np_S27 no_S27 (by kernel_rfl) (Eq.mpr (show Vm.Tr.vc (Vm.Fn c21 Tryz.f17 body17 noLoop ([.agg [.int .i64 i.Lo, .int .i64 i.Hi], .agg [.int .u64 c.M, .int .u64 c.R]])) = S.value_Make_pre i c by kernel_rfl) hp))
noncomputable def sem17 : List W → Option (W × List (List W) × List Prop)
 | [.agg [.int .i64 y1, .int .i64 y2], .agg [.int .u64 y3, .int .u64 y4]] => some (wr_S27 (S.value_Make ⟨y1, y2⟩ ⟨y3, y4⟩), wo_S27 (S.value_Make ⟨y1, y2⟩ ⟨y3, y4⟩), [S.value_Make_pre ⟨y1, y2⟩ ⟨y3, y4⟩])
 | _ => none
noncomputable def c17 : Cfg El := c21.add 17 sem17
theorem c17_ok : CfgOk c17 := c21_ok.add (fun args w => Tryz.call17 args w) (fun vs r outs ps h hp => by
 unfold sem17 at h
 split at h
 ·rename_i y1 y2 y3 y4; cases h; exact fn17 ⟨y1, y2⟩ ⟨y3, y4⟩ hp
 ·cases h)
noncomputable def body35 : Code := (Tryz.f35.body).getD .skip
theorem fn35 (v : S.Value) (hp : S.arith_plain_pre v) : CallOk c17 35 [.agg [.int .i64 v.I.Lo, .int .i64 v.I.Hi, .int .u64 v.C.M, .int .u64 v.C.R]] (wr_S27 (S.arith_plain v)) (wo_S27 (S.arith_plain v)) :=
 (call_ok (fn := Tryz.f35) (code := body35) (loop := noLoop) (md := ⟨false, false⟩) (rd := rd_S27) (wr := wr_S27) (wo := wo_S27) c17_ok (by kernel_rfl) (by kernel_rfl) (by kernel_rfl) (no_loops (by kernel_rfl)) (by kernel_rfl) (by kernel_rfl) (by kernel_rfl)
  rw_S27 np_S27 no_S27 (by kernel_rfl) (Eq.mpr (show Vm.Tr.vc (Vm.Fn c17 Tryz.f35 body35 noLoop ([.agg [.int .i64 v.I.Lo, .int .i64 v.I.Hi, .int .u64 v.C.M, .int .u64 v.C.R]])) = S.arith_plain_pre v by kernel_rfl) hp))
noncomputable def sem35 : List W → Option (W × List (List W) × List Prop)
 | [.agg [.int .i64 y1, .int .i64 y2, .int .u64 y3, .int .u64 y4]] => some (wr_S27 (S.arith_plain ⟨⟨y1, y2⟩, ⟨y3, y4⟩⟩), wo_S27 (S.arith_plain ⟨⟨y1, y2⟩, ⟨y3, y4⟩⟩), [S.arith_plain_pre ⟨⟨y1, y2⟩, ⟨y3, y4⟩⟩])
 | _ => none
noncomputable def c35 : Cfg El := c17.add 35 sem35
theorem c35_ok : CfgOk c35 := c17_ok.add (fun args w => Tryz.call35 args w) (fun vs r outs ps h hp => by
 unfold sem35 at h
 split at h
 ·rename_i y1 y2 y3 y4; cases h; exact fn35 ⟨⟨y1, y2⟩, ⟨y3, y4⟩⟩ hp
 ·cases h)
noncomputable def body63 : Code := (Tryz.f63.body).getD .skip
theorem fn63 (v : S.Value) (hp : S.value_Value_reduced_pre v) : CallOk c35 63 [.agg [.int .i64 v.I.Lo, .int .i64 v.I.Hi, .int .u64 v.C.M, .int .u64 v.C.R]] (wr_S27 (S.value_Value_reduced v)) (wo_S27 (S.value_Value_reduced v)) :=
 (call_ok (fn := Tryz.f63) (code := body63) (loop := noLoop) (md := ⟨false, false⟩) (rd := rd_S27) (wr := wr_S27) (wo := wo_S27) c35_ok (by kernel_rfl) (by kernel_rfl) (by kernel_rfl) (no_loops (by kernel_rfl)) (by kernel_rfl) (by kernel_rfl) (by kernel_rfl)
  rw_S27 np_S27 no_S27 (by kernel_rfl) (Eq.mpr (show Vm.Tr.vc (Vm.Fn c35 Tryz.f63 body63 noLoop ([.agg [.int .i64 v.I.Lo, .int .i64 v.I.Hi, .int .u64 v.C.M, .int .u64 v.C.R]])) = S.value_Value_reduced_pre v by kernel_rfl) hp))
noncomputable def sem63 : List W → Option (W × List (List W) × List Prop)
 | [.agg [.int .i64 y1, .int .i64 y2, .int .u64 y3, .int .u64 y4]] => some (wr_S27 (S.value_Value_reduced ⟨⟨y1, y2⟩, ⟨y3, y4⟩⟩), wo_S27 (S.value_Value_reduced ⟨⟨y1, y2⟩, ⟨y3, y4⟩⟩), [S.value_Value_reduced_pre ⟨⟨y1, y2⟩, ⟨y3, y4⟩⟩])
 | _ => none
noncomputable def c63 : Cfg El := c35.add 63 sem63
theorem c63_ok : CfgOk c63 := c35_ok.add (fun args w => Tryz.call63 args w) (fun vs r outs ps h hp => by
 unfold sem63 at h
 split at h
 ·rename_i y1 y2 y3 y4; cases h; exact fn63 ⟨⟨y1, y2⟩, ⟨y3, y4⟩⟩ hp
 ·cases h)
noncomputable def body70 : Code := (Tryz.f70.body).getD .skip
theorem fn70 (i : S.Inter) : CallOk c63 70 [.agg [.int .i64 i.Lo, .int .i64 i.Hi]] (wr_i64_b (S.inter_Inter_Single i)) (wo_i64_b (S.inter_Inter_Single i)) :=
 (call_ok (fn := Tryz.f70) (code := body70) (loop := noLoop) (md := ⟨false, false⟩) (rd := rd_i64_b) (wr := wr_i64_b) (wo := wo_i64_b) c63_ok (by kernel_rfl) (by kernel_rfl) (by kernel_rfl) (no_loops (by kernel_rfl)) (by kernel_rfl) (by kernel_rfl) (by kernel_rfl)
  rw_i64_b np_i64_b no_i64_b (by kernel_rfl) (Tr.vc_of_noReq (by kernel_rfl)))
noncomputable def sem70 : List W → Option (W × List (List W) × List Prop)
 | [.agg [.int .i64 y1, .int .i64 y2]] => some (wr_i64_b (S.inter_Inter_Single ⟨y1, y2⟩), wo_i64_b (S.inter_Inter_Single ⟨y1, y2⟩), [])
 | _ => none
noncomputable def c70 : Cfg El := c63.add 70 sem70
theorem c70_ok : CfgOk c70 := c63_ok.add (fun args w => Tryz.call70 args w) (fun vs r outs ps h hp => by
 unfold sem70 at h
 split at h
 ·rename_i y1 y2; cases h; exact fn70 ⟨y1, y2⟩
 ·cases h)
noncomputable def body22 : Code := (Tryz.f22.body).getD .skip
theorem fn22 (v : S.Value) (hp : S.value_Value_Single_pre v) : CallOk c70 22 [.agg [.int .i64 v.I.Lo, .int .i64 v.I.Hi, .int .u64 v.C.M, .int .u64 v.C.R]] (wr_i64_b (S.value_Value_Single v)) (wo_i64_b (S.value_Value_Single v)) :=
 (call_ok (fn := Tryz.f22) (code := body22) (loop := noLoop) (md := ⟨false, false⟩) (rd := rd_i64_b) (wr := wr_i64_b) (wo := wo_i64_b) c70_ok (by kernel_rfl) (by kernel_rfl) (by kernel_rfl) (no_loops (by kernel_rfl)) (by kernel_rfl) (by kernel_rfl) (by kernel_rfl)
  rw_i64_b np_i64_b no_i64_b (by kernel_rfl) (Eq.mpr (show Vm.Tr.vc (Vm.Fn c70 Tryz.f22 body22 noLoop ([.agg [.int .i64 v.I.Lo, .int .i64 v.I.Hi, .int .u64 v.C.M, .int .u64 v.C.R]])) = S.value_Value_Single_pre v by kernel_rfl) hp))
noncomputable def sem22 : List W → Option (W × List (List W) × List Prop)
 | [.agg [.int .i64 y1, .int .i64 y2, .int .u64 y3, .int .u64 y4]] => some (wr_i64_b (S.value_Value_Single ⟨⟨y1, y2⟩, ⟨y3, y4⟩⟩), wo_i64_b (S.value_Value_Single ⟨⟨y1, y2⟩, ⟨y3, y4⟩⟩), [S.value_Value_Single_pre ⟨⟨y1, y2⟩, ⟨y3, y4⟩⟩])
 | _ => none
noncomputable def c22 : Cfg El := c70.add 22 sem22
theorem c22_ok : CfgOk c22 := c70_ok.add (fun args w => Tryz.call22 args w) (fun vs r outs ps h hp => by
 unfold sem22 at h
 split at h
 ·rename_i y1 y2 y3 y4; cases h; exact fn22 ⟨⟨y1, y2⟩, ⟨y3, y4⟩⟩ hp
 ·cases h)
noncomputable def body18 : Code := (Tryz.f18.body).getD .skip
theorem fn18 (v : S.Value) (hp : S.value_Value_IsBottom_pre v) : CallOk c22 18 [.agg [.int .i64 v.I.Lo, .int .i64 v.I.Hi, .int .u64 v.C.M, .int .u64 v.C.R]] (wr_b (S.value_Value_IsBottom v)) (wo_b (S.value_Value_IsBottom v)) :=
 (call_ok (fn := Tryz.f18) (code := body18) (loop := noLoop) (md := ⟨false, false⟩) (rd := rd_b) (wr := wr_b) (wo := wo_b) c22_ok (by kernel_rfl) (by kernel_rfl) (by kernel_rfl) (no_loops (by kernel_rfl)) (by kernel_rfl) (by kernel_rfl) (by kernel_rfl)
  rw_b np_b no_b (by kernel_rfl) (Eq.mpr (show Vm.Tr.vc (Vm.Fn c22 Tryz.f18 body18 noLoop ([.agg [.int .i64 v.I.Lo, .int .i64 v.I.Hi, .int .u64 v.C.M, .int .u64 v.C.R]])) = S.value_Value_IsBottom_pre v by kernel_rfl) hp))
noncomputable def sem18 : List W → Option (W × List (List W) × List Prop)
 | [.agg [.int .i64 y1, .int .i64 y2, .int .u64 y3, .int .u64 y4]] => some (wr_b (S.value_Value_IsBottom ⟨⟨y1, y2⟩, ⟨y3, y4⟩⟩), wo_b (S.value_Value_IsBottom ⟨⟨y1, y2⟩, ⟨y3, y4⟩⟩), [S.value_Value_IsBottom_pre ⟨⟨y1, y2⟩, ⟨y3, y4⟩⟩])
 | _ => none
noncomputable def c18 : Cfg El := c22.add 18 sem18
theorem c18_ok : CfgOk c18 := c22_ok.add (fun args w => Tryz.call18 args w) (fun vs r outs ps h hp => by
 unfold sem18 at h
 split at h
 ·rename_i y1 y2 y3 y4; cases h; exact fn18 ⟨⟨y1, y2⟩, ⟨y3, y4⟩⟩ hp
 ·cases h)
noncomputable def body36 : Code := (Tryz.f36.body).getD .skip
theorem fn36 (op : Int) : CallOk c18 36 [.int .i64 op] (wr_b (S.arith_known op)) (wo_b (S.arith_known op)) :=
 (call_ok (fn := Tryz.f36) (code := body36) (loop := noLoop) (md := ⟨false, false⟩) (rd := rd_b) (wr := wr_b) (wo := wo_b) c18_ok (by kernel_rfl) (by kernel_rfl) (by kernel_rfl) (no_loops (by kernel_rfl)) (by kernel_rfl) (by kernel_rfl) (by kernel_rfl)
  rw_b np_b no_b (by kernel_rfl) (Tr.vc_of_noReq (by kernel_rfl)))
noncomputable def sem36 : List W → Option (W × List (List W) × List Prop)
 | [.int .i64 y1] => some (wr_b (S.arith_known y1), wo_b (S.arith_known y1), [])
 | _ => none
noncomputable def c36 : Cfg El := c18.add 36 sem36
theorem c36_ok : CfgOk c36 := c18_ok.add (fun args w => Tryz.call36 args w) (fun vs r outs ps h hp => by
 unfold sem36 at h
 split at h
 ·rename_i y1; cases h; exact fn36 y1
 ·cases h)
noncomputable def body40 : Code := (Tryz.f40.body).getD .skip
theorem fn40 : CallOk c36 40 [] (wr_S22 (S.inter_Whole)) (wo_S22 (S.inter_Whole)) :=
 (call_ok (fn := Tryz.f40) (code := body40) (loop := noLoop) (md := ⟨false, false⟩) (rd := rd_S22) (wr := wr_S22) (wo := wo_S22) c36_ok (by kernel_rfl) (by kernel_rfl) (by kernel_rfl) (no_loops (by kernel_rfl)) (by kernel_rfl) (by kernel_rfl) (by kernel_rfl)
  rw_S22 np_S22 no_S22 (by kernel_rfl) (Tr.vc_of_noReq (by kernel_rfl)))
noncomputable def sem40 : List W → Option (W × List (List W) × List Prop)
 | [] => some (wr_S22 (S.inter_Whole), wo_S22 (S.inter_Whole), [])
 | _ => none
noncomputable def c40 : Cfg El := c36.add 40 sem40
theorem c40_ok : CfgOk c40 := c36_ok.add (fun args w => Tryz.call40 args w) (fun vs r outs ps h hp => by
 unfold sem40 at h
 split at h
 ·cases h; exact fn40
 ·cases h)
noncomputable def body28 : Code := (Tryz.f28.body).getD .skip
theorem fn28 : CallOk c40 28 [] (wr_S27 (S.value_Top)) (wo_S27 (S.value_Top)) :=
 (call_ok (fn := Tryz.f28) (code := body28) (loop := noLoop) (md := ⟨false, false⟩) (rd := rd_S27) (wr := wr_S27) (wo := wo_S27) c40_ok (by kernel_rfl) (by kernel_rfl) (by kernel_rfl) (no_loops (by kernel_rfl)) (by kernel_rfl) (by kernel_rfl) (by kernel_rfl)
  rw_S27 np_S27 no_S27 (by kernel_rfl) (Tr.vc_of_noReq (by kernel_rfl)))
noncomputable def sem28 : List W → Option (W × List (List W) × List Prop)
 | [] => some (wr_S27 (S.value_Top), wo_S27 (S.value_Top), [])
 | _ => none
noncomputable def c28 : Cfg El := c40.add 28 sem28
theorem c28_ok : CfgOk c28 := c40_ok.add (fun args w => Tryz.call28 args w) (fun vs r outs ps h hp => by
 unfold sem28 at h
 split at h
 ·cases h; exact fn28
 ·cases h)
noncomputable def body178 : Code := (Tryz.f178.body).getD .skip
theorem fn178 (x : Int) : CallOk c28 178 [.int .i64 x] (wr_b (S.cmp_isNaNint64 x)) (wo_b (S.cmp_isNaNint64 x)) :=
 (call_ok (fn := Tryz.f178) (code := body178) (loop := noLoop) (md := ⟨false, false⟩) (rd := rd_b) (wr := wr_b) (wo := wo_b) c28_ok (by kernel_rfl) (by kernel_rfl) (by kernel_rfl) (no_loops (by kernel_rfl)) (by kernel_rfl) (by kernel_rfl) (by kernel_rfl)
  rw_b np_b no_b (by kernel_rfl) (Tr.vc_of_noReq (by kernel_rfl)))
noncomputable def sem178 : List W → Option (W × List (List W) × List Prop)
 | [.int .i64 y1] => some (wr_b (S.cmp_isNaNint64 y1), wo_b (S.cmp_isNaNint64 y1), [])
 | _ => none
noncomputable def c178 : Cfg El := c28.add 178 sem178
theorem c178_ok : CfgOk c178 := c28_ok.add (fun args w => Tryz.call178 args w) (fun vs r outs ps h hp => by
 unfold sem178 at h
 split at h
 ·rename_i y1; cases h; exact fn178 y1
 ·cases h)
noncomputable def body118 : Code := (Tryz.f118.body).getD .skip
theorem fn118 (x : Int) (y : Int) : CallOk c178 118 [.int .i64 x, .int .i64 y] (wr_i64 (S.cmp_Compareint64 x y)) (wo_i64 (S.cmp_Compareint64 x y)) :=
 (call_ok (fn := Tryz.f118) (code := body118) (loop := noLoop) (md := ⟨false, false⟩) (rd := rd_i64) (wr := wr_i64) (wo := wo_i64) c178_ok (by kernel_rfl) (by kernel_rfl) (by kernel_rfl) (no_loops (by kernel_rfl)) (by kernel_rfl) (by kernel_rfl) (by kernel_rfl)
  rw_i64 np_i64 no_i64 (by kernel_rfl) (Tr.vc_of_noReq (by kernel_rfl)))
noncomputable def sem118 : List W → Option (W × List (List W) × List Prop)
 | [.int .i64 y1, .int .i64 y2] => some (wr_i64 (S.cmp_Compareint64 y1 y2), wo_i64 (S.cmp_Compareint64 y1 y2), [])
 | _ => none
noncomputable def c118 : Cfg El := c178.add 118 sem118
theorem c118_ok : CfgOk c118 := c178_ok.add (fun args w => Tryz.call118 args w) (fun vs r outs ps h hp => by
 unfold sem118 at h
 split at h
 ·rename_i y1 y2; cases h; exact fn118 y1 y2
 ·cases h)
noncomputable def rd_b_b : W → List (List W) → Option (Bool × Bool)
 | .tup [.bool x1, .bool x2], [] => some ⟨x1, x2⟩
 | _, _ => none
noncomputable def wr_b_b (x : Bool × Bool) : W := .tup [.bool x.1, .bool x.2]
noncomputable def wo_b_b (_x : Bool × Bool) : List (List W) := []
theorem rw_b_b (v : W) (os : List (List W)) (x : Bool × Bool) (h : rd_b_b v os = some x) : v = wr_b_b x ∧ os = wo_b_b x := by
 unfold rd_b_b at h
 split at h <;> first | (cases h; exact ⟨rfl, rfl⟩) | cases h
theorem np_b_b (x : Bool × Bool) : okv (fun _ => false) (wr_b_b x) = true := rfl
theorem no_b_b (x : Bool × Bool) : all (fun cs => all (ok0 fun _ => false) cs) (wo_b_b x) = true := rfl
noncomputable def body64 : Code := (Tryz.f64.body).getD .skip
theorem fn64 (op : Int) (a : Int) (b : Int) : CallOk c118 64 [.int .i64 op, .int .i64 a, .int .i64 b] (wr_b_b (S.word_compares op a b)) (wo_b_b (S.word_compares op a b)) :=
 (call_ok (fn := Tryz.f64) (code := body64) (loop := noLoop) (md := ⟨false, false⟩) (rd := rd_b_b) (wr := wr_b_b) (wo := wo_b_b) c118_ok (by kernel_rfl) (by kernel_rfl) (by kernel_rfl) (no_loops (by kernel_rfl)) (by kernel_rfl) (by kernel_rfl) (by kernel_rfl)
  rw_b_b np_b_b no_b_b (by kernel_rfl) (Tr.vc_of_noReq (by kernel_rfl)))
noncomputable def sem64 : List W → Option (W × List (List W) × List Prop)
 | [.int .i64 y1, .int .i64 y2, .int .i64 y3] => some (wr_b_b (S.word_compares y1 y2 y3), wo_b_b (S.word_compares y1 y2 y3), [])
 | _ => none
noncomputable def c64 : Cfg El := c118.add 64 sem64
theorem c64_ok : CfgOk c64 := c118_ok.add (fun args w => Tryz.call64 args w) (fun vs r outs ps h hp => by
 unfold sem64 at h
 split at h
 ·rename_i y1 y2 y3; cases h; exact fn64 y1 y2 y3
 ·cases h)
noncomputable def body65 : Code := (Tryz.f65.body).getD .skip
theorem fn65 (x : Bool) : CallOk c64 65 [.bool x] (wr_i64 (S.word_Bit x)) (wo_i64 (S.word_Bit x)) :=
 (call_ok (fn := Tryz.f65) (code := body65) (loop := noLoop) (md := ⟨false, false⟩) (rd := rd_i64) (wr := wr_i64) (wo := wo_i64) c64_ok (by kernel_rfl) (by kernel_rfl) (by kernel_rfl) (no_loops (by kernel_rfl)) (by kernel_rfl) (by kernel_rfl) (by kernel_rfl)
  rw_i64 np_i64 no_i64 (by kernel_rfl) (Tr.vc_of_noReq (by kernel_rfl)))
noncomputable def sem65 : List W → Option (W × List (List W) × List Prop)
 | [.bool y1] => some (wr_i64 (S.word_Bit y1), wo_i64 (S.word_Bit y1), [])
 | _ => none
noncomputable def c65 : Cfg El := c64.add 65 sem65
theorem c65_ok : CfgOk c65 := c64_ok.add (fun args w => Tryz.call65 args w) (fun vs r outs ps h hp => by
 unfold sem65 at h
 split at h
 ·rename_i y1; cases h; exact fn65 y1
 ·cases h)
noncomputable def body72 : Code := (Tryz.f72.body).getD .skip
theorem fn72 (n : Int) : CallOk c65 72 [.int .i64 n] (wr_b (S.word_Truth n)) (wo_b (S.word_Truth n)) :=
 (call_ok (fn := Tryz.f72) (code := body72) (loop := noLoop) (md := ⟨false, false⟩) (rd := rd_b) (wr := wr_b) (wo := wo_b) c65_ok (by kernel_rfl) (by kernel_rfl) (by kernel_rfl) (no_loops (by kernel_rfl)) (by kernel_rfl) (by kernel_rfl) (by kernel_rfl)
  rw_b np_b no_b (by kernel_rfl) (Tr.vc_of_noReq (by kernel_rfl)))
noncomputable def sem72 : List W → Option (W × List (List W) × List Prop)
 | [.int .i64 y1] => some (wr_b (S.word_Truth y1), wo_b (S.word_Truth y1), [])
 | _ => none
noncomputable def c72 : Cfg El := c65.add 72 sem72
theorem c72_ok : CfgOk c72 := c65_ok.add (fun args w => Tryz.call72 args w) (fun vs r outs ps h hp => by
 unfold sem72 at h
 split at h
 ·rename_i y1; cases h; exact fn72 y1
 ·cases h)
noncomputable def body119 : Code := (Tryz.f119.body).getD .skip
theorem fn119 (a : Int) (b : Int) : CallOk c72 119 [.int .i64 a, .int .i64 b] (wr_i64 (S.word_reckons_1 a b)) (wo_i64 (S.word_reckons_1 a b)) :=
 (call_ok (fn := Tryz.f119) (code := body119) (loop := noLoop) (md := ⟨false, false⟩) (rd := rd_i64) (wr := wr_i64) (wo := wo_i64) c72_ok (by kernel_rfl) (by kernel_rfl) (by kernel_rfl) (no_loops (by kernel_rfl)) (by kernel_rfl) (by kernel_rfl) (by kernel_rfl)
  rw_i64 np_i64 no_i64 (by kernel_rfl) (Tr.vc_of_noReq (by kernel_rfl)))
noncomputable def sem119 : List W → Option (W × List (List W) × List Prop)
 | [.int .i64 y1, .int .i64 y2] => some (wr_i64 (S.word_reckons_1 y1 y2), wo_i64 (S.word_reckons_1 y1 y2), [])
 | _ => none
noncomputable def c119 : Cfg El := c72.add 119 sem119
theorem c119_ok : CfgOk c119 := c72_ok.add (fun args w => Tryz.call119 args w) (fun vs r outs ps h hp => by
 unfold sem119 at h
 split at h
 ·rename_i y1 y2; cases h; exact fn119 y1 y2
 ·cases h)
noncomputable def body120 : Code := (Tryz.f120.body).getD .skip
theorem fn120 (a : Int) (b : Int) : CallOk c119 120 [.int .i64 a, .int .i64 b] (wr_i64 (S.word_reckons_2 a b)) (wo_i64 (S.word_reckons_2 a b)) :=
 (call_ok (fn := Tryz.f120) (code := body120) (loop := noLoop) (md := ⟨false, false⟩) (rd := rd_i64) (wr := wr_i64) (wo := wo_i64) c119_ok (by kernel_rfl) (by kernel_rfl) (by kernel_rfl) (no_loops (by kernel_rfl)) (by kernel_rfl) (by kernel_rfl) (by kernel_rfl)
  rw_i64 np_i64 no_i64 (by kernel_rfl) (Tr.vc_of_noReq (by kernel_rfl)))
noncomputable def sem120 : List W → Option (W × List (List W) × List Prop)
 | [.int .i64 y1, .int .i64 y2] => some (wr_i64 (S.word_reckons_2 y1 y2), wo_i64 (S.word_reckons_2 y1 y2), [])
 | _ => none
noncomputable def c120 : Cfg El := c119.add 120 sem120
theorem c120_ok : CfgOk c120 := c119_ok.add (fun args w => Tryz.call120 args w) (fun vs r outs ps h hp => by
 unfold sem120 at h
 split at h
 ·rename_i y1 y2; cases h; exact fn120 y1 y2
 ·cases h)
noncomputable def body121 : Code := (Tryz.f121.body).getD .skip
theorem fn121 (a : Int) (b : Int) : CallOk c120 121 [.int .i64 a, .int .i64 b] (wr_i64 (S.word_reckons_3 a b)) (wo_i64 (S.word_reckons_3 a b)) :=
 (call_ok (fn := Tryz.f121) (code := body121) (loop := noLoop) (md := ⟨false, false⟩) (rd := rd_i64) (wr := wr_i64) (wo := wo_i64) c120_ok (by kernel_rfl) (by kernel_rfl) (by kernel_rfl) (no_loops (by kernel_rfl)) (by kernel_rfl) (by kernel_rfl) (by kernel_rfl)
  rw_i64 np_i64 no_i64 (by kernel_rfl) (Tr.vc_of_noReq (by kernel_rfl)))
noncomputable def sem121 : List W → Option (W × List (List W) × List Prop)
 | [.int .i64 y1, .int .i64 y2] => some (wr_i64 (S.word_reckons_3 y1 y2), wo_i64 (S.word_reckons_3 y1 y2), [])
 | _ => none
noncomputable def c121 : Cfg El := c120.add 121 sem121
theorem c121_ok : CfgOk c121 := c120_ok.add (fun args w => Tryz.call121 args w) (fun vs r outs ps h hp => by
 unfold sem121 at h
 split at h
 ·rename_i y1 y2; cases h; exact fn121 y1 y2
 ·cases h)
noncomputable def body122 : Code := (Tryz.f122.body).getD .skip
theorem fn122 (a : Int) (b : Int) : CallOk c121 122 [.int .i64 a, .int .i64 b] (wr_i64 (S.word_reckons_4 a b)) (wo_i64 (S.word_reckons_4 a b)) :=
 (call_ok (fn := Tryz.f122) (code := body122) (loop := noLoop) (md := ⟨false, false⟩) (rd := rd_i64) (wr := wr_i64) (wo := wo_i64) c121_ok (by kernel_rfl) (by kernel_rfl) (by kernel_rfl) (no_loops (by kernel_rfl)) (by kernel_rfl) (by kernel_rfl) (by kernel_rfl)
  rw_i64 np_i64 no_i64 (by kernel_rfl) (Tr.vc_of_noReq (by kernel_rfl)))
noncomputable def sem122 : List W → Option (W × List (List W) × List Prop)
 | [.int .i64 y1, .int .i64 y2] => some (wr_i64 (S.word_reckons_4 y1 y2), wo_i64 (S.word_reckons_4 y1 y2), [])
 | _ => none
noncomputable def c122 : Cfg El := c121.add 122 sem122
theorem c122_ok : CfgOk c122 := c121_ok.add (fun args w => Tryz.call122 args w) (fun vs r outs ps h hp => by
 unfold sem122 at h
 split at h
 ·rename_i y1 y2; cases h; exact fn122 y1 y2
 ·cases h)
noncomputable def body123 : Code := (Tryz.f123.body).getD .skip
theorem fn123 (a : Int) (b : Int) : CallOk c122 123 [.int .i64 a, .int .i64 b] (wr_i64 (S.word_reckons_5 a b)) (wo_i64 (S.word_reckons_5 a b)) :=
 (call_ok (fn := Tryz.f123) (code := body123) (loop := noLoop) (md := ⟨false, false⟩) (rd := rd_i64) (wr := wr_i64) (wo := wo_i64) c122_ok (by kernel_rfl) (by kernel_rfl) (by kernel_rfl) (no_loops (by kernel_rfl)) (by kernel_rfl) (by kernel_rfl) (by kernel_rfl)
  rw_i64 np_i64 no_i64 (by kernel_rfl) (Tr.vc_of_noReq (by kernel_rfl)))
noncomputable def sem123 : List W → Option (W × List (List W) × List Prop)
 | [.int .i64 y1, .int .i64 y2] => some (wr_i64 (S.word_reckons_5 y1 y2), wo_i64 (S.word_reckons_5 y1 y2), [])
 | _ => none
noncomputable def c123 : Cfg El := c122.add 123 sem123
theorem c123_ok : CfgOk c123 := c122_ok.add (fun args w => Tryz.call123 args w) (fun vs r outs ps h hp => by
 unfold sem123 at h
 split at h
 ·rename_i y1 y2; cases h; exact fn123 y1 y2
 ·cases h)
noncomputable def body125 : Code := (Tryz.f125.body).getD .skip
theorem fn125 (b : Int) : CallOk c123 125 [.int .i64 b] (wr_u64 (S.word_Shift b)) (wo_u64 (S.word_Shift b)) :=
 (call_ok (fn := Tryz.f125) (code := body125) (loop := noLoop) (md := ⟨false, false⟩) (rd := rd_u64) (wr := wr_u64) (wo := wo_u64) c123_ok (by kernel_rfl) (by kernel_rfl) (by kernel_rfl) (no_loops (by kernel_rfl)) (by kernel_rfl) (by kernel_rfl) (by kernel_rfl)
  rw_u64 np_u64 no_u64 (by kernel_rfl) (Tr.vc_of_noReq (by kernel_rfl)))
noncomputable def sem125 : List W → Option (W × List (List W) × List Prop)
 | [.int .i64 y1] => some (wr_u64 (S.word_Shift y1), wo_u64 (S.word_Shift y1), [])
 | _ => none
noncomputable def c125 : Cfg El := c123.add 125 sem125
theorem c125_ok : CfgOk c125 := c123_ok.add (fun args w => Tryz.call125 args w) (fun vs r outs ps h hp => by
 unfold sem125 at h
 split at h
 ·rename_i y1; cases h; exact fn125 y1
 ·cases h)
noncomputable def body124 : Code := (Tryz.f124.body).getD .skip
theorem fn124 (a : Int) (b : Int) (hp : S.word_reckons_6_pre a b) : CallOk c125 124 [.int .i64 a, .int .i64 b] (wr_i64 (S.word_reckons_6 a b)) (wo_i64 (S.word_reckons_6 a b)) :=
 (call_ok (fn := Tryz.f124) (code := body124) (loop := noLoop) (md := ⟨false, false⟩) (rd := rd_i64) (wr := wr_i64) (wo := wo_i64) c125_ok (by kernel_rfl) (by kernel_rfl) (by kernel_rfl) (no_loops (by kernel_rfl)) (by kernel_rfl) (by kernel_rfl) (by kernel_rfl)
  rw_i64 np_i64 no_i64 (by kernel_rfl) (Eq.mpr (show Vm.Tr.vc (Vm.Fn c125 Tryz.f124 body124 noLoop ([.int .i64 a, .int .i64 b])) = S.word_reckons_6_pre a b by kernel_rfl) hp))
noncomputable def sem124 : List W → Option (W × List (List W) × List Prop)
 | [.int .i64 y1, .int .i64 y2] => some (wr_i64 (S.word_reckons_6 y1 y2), wo_i64 (S.word_reckons_6 y1 y2), [S.word_reckons_6_pre y1 y2])
 | _ => none
noncomputable def c124 : Cfg El := c125.add 124 sem124
theorem c124_ok : CfgOk c124 := c125_ok.add (fun args w => Tryz.call124 args w) (fun vs r outs ps h hp => by
 unfold sem124 at h
 split at h
 ·rename_i y1 y2; cases h; exact fn124 y1 y2 hp
 ·cases h)
noncomputable def body126 : Code := (Tryz.f126.body).getD .skip
theorem fn126 (a : Int) (b : Int) (hp : S.word_reckons_7_pre a b) : CallOk c124 126 [.int .i64 a, .int .i64 b] (wr_i64 (S.word_reckons_7 a b)) (wo_i64 (S.word_reckons_7 a b)) :=
 (call_ok (fn := Tryz.f126) (code := body126) (loop := noLoop) (md := ⟨false, false⟩) (rd := rd_i64) (wr := wr_i64) (wo := wo_i64) c124_ok (by kernel_rfl) (by kernel_rfl) (by kernel_rfl) (no_loops (by kernel_rfl)) (by kernel_rfl) (by kernel_rfl) (by kernel_rfl)
  rw_i64 np_i64 no_i64 (by kernel_rfl) (Eq.mpr (show Vm.Tr.vc (Vm.Fn c124 Tryz.f126 body126 noLoop ([.int .i64 a, .int .i64 b])) = S.word_reckons_7_pre a b by kernel_rfl) hp))
noncomputable def sem126 : List W → Option (W × List (List W) × List Prop)
 | [.int .i64 y1, .int .i64 y2] => some (wr_i64 (S.word_reckons_7 y1 y2), wo_i64 (S.word_reckons_7 y1 y2), [S.word_reckons_7_pre y1 y2])
 | _ => none
noncomputable def c126 : Cfg El := c124.add 126 sem126
theorem c126_ok : CfgOk c126 := c124_ok.add (fun args w => Tryz.call126 args w) (fun vs r outs ps h hp => by
 unfold sem126 at h
 split at h
 ·rename_i y1 y2; cases h; exact fn126 y1 y2 hp
 ·cases h)
noncomputable def body127 : Code := (Tryz.f127.body).getD .skip
theorem fn127 (a : Int) (b : Int) : CallOk c126 127 [.int .i64 a, .int .i64 b] (wr_i64 (S.word_reckons_8 a b)) (wo_i64 (S.word_reckons_8 a b)) :=
 (call_ok (fn := Tryz.f127) (code := body127) (loop := noLoop) (md := ⟨false, false⟩) (rd := rd_i64) (wr := wr_i64) (wo := wo_i64) c126_ok (by kernel_rfl) (by kernel_rfl) (by kernel_rfl) (no_loops (by kernel_rfl)) (by kernel_rfl) (by kernel_rfl) (by kernel_rfl)
  rw_i64 np_i64 no_i64 (by kernel_rfl) (Tr.vc_of_noReq (by kernel_rfl)))
noncomputable def sem127 : List W → Option (W × List (List W) × List Prop)
 | [.int .i64 y1, .int .i64 y2] => some (wr_i64 (S.word_reckons_8 y1 y2), wo_i64 (S.word_reckons_8 y1 y2), [])
 | _ => none
noncomputable def c127 : Cfg El := c126.add 127 sem127
theorem c127_ok : CfgOk c127 := c126_ok.add (fun args w => Tryz.call127 args w) (fun vs r outs ps h hp => by
 unfold sem127 at h
 split at h
 ·rename_i y1 y2; cases h; exact fn127 y1 y2
 ·cases h)
noncomputable def body128 : Code := (Tryz.f128.body).getD .skip
theorem fn128 (a : Int) (b : Int) : CallOk c127 128 [.int .i64 a, .int .i64 b] (wr_i64 (S.word_reckons_9 a b)) (wo_i64 (S.word_reckons_9 a b)) :=
 (call_ok (fn := Tryz.f128) (code := body128) (loop := noLoop) (md := ⟨false, false⟩) (rd := rd_i64) (wr := wr_i64) (wo := wo_i64) c127_ok (by kernel_rfl) (by kernel_rfl) (by kernel_rfl) (no_loops (by kernel_rfl)) (by kernel_rfl) (by kernel_rfl) (by kernel_rfl)
  rw_i64 np_i64 no_i64 (by kernel_rfl) (Tr.vc_of_noReq (by kernel_rfl)))
noncomputable def sem128 : List W → Option (W × List (List W) × List Prop)
 | [.int .i64 y1, .int .i64 y2] => some (wr_i64 (S.word_reckons_9 y1 y2), wo_i64 (S.word_reckons_9 y1 y2), [])
 | _ => none
noncomputable def c128 : Cfg El := c127.add 128 sem128
theorem c128_ok : CfgOk c128 := c127_ok.add (fun args w => Tryz.call128 args w) (fun vs r outs ps h hp => by
 unfold sem128 at h
 split at h
 ·rename_i y1 y2; cases h; exact fn128 y1 y2
 ·cases h)
noncomputable def body129 : Code := (Tryz.f129.body).getD .skip
theorem fn129 (a : Int) (b : Int) : CallOk c128 129 [.int .i64 a, .int .i64 b] (wr_i64 (S.word_reckons_10 a b)) (wo_i64 (S.word_reckons_10 a b)) :=
 (call_ok (fn := Tryz.f129) (code := body129) (loop := noLoop) (md := ⟨false, false⟩) (rd := rd_i64) (wr := wr_i64) (wo := wo_i64) c128_ok (by kernel_rfl) (by kernel_rfl) (by kernel_rfl) (no_loops (by kernel_rfl)) (by kernel_rfl) (by kernel_rfl) (by kernel_rfl)
  rw_i64 np_i64 no_i64 (by kernel_rfl) (Tr.vc_of_noReq (by kernel_rfl)))
noncomputable def sem129 : List W → Option (W × List (List W) × List Prop)
 | [.int .i64 y1, .int .i64 y2] => some (wr_i64 (S.word_reckons_10 y1 y2), wo_i64 (S.word_reckons_10 y1 y2), [])
 | _ => none
noncomputable def c129 : Cfg El := c128.add 129 sem129
theorem c129_ok : CfgOk c129 := c128_ok.add (fun args w => Tryz.call129 args w) (fun vs r outs ps h hp => by
 unfold sem129 at h
 split at h
 ·rename_i y1 y2; cases h; exact fn129 y1 y2
 ·cases h)
noncomputable def body130 : Code := (Tryz.f130.body).getD .skip
theorem fn130 (a : Int) (b : Int) (hp : S.word_reckons_11_pre a b) : CallOk c129 130 [.int .i64 a, .int .i64 b] (wr_i64 (S.word_reckons_11 a b)) (wo_i64 (S.word_reckons_11 a b)) :=
 (call_ok (fn := Tryz.f130) (code := body130) (loop := noLoop) (md := ⟨false, false⟩) (rd := rd_i64) (wr := wr_i64) (wo := wo_i64) c129_ok (by kernel_rfl) (by kernel_rfl) (by kernel_rfl) (no_loops (by kernel_rfl)) (by kernel_rfl) (by kernel_rfl) (by kernel_rfl)
  rw_i64 np_i64 no_i64 (by kernel_rfl) (Eq.mpr (show Vm.Tr.vc (Vm.Fn c129 Tryz.f130 body130 noLoop ([.int .i64 a, .int .i64 b])) = S.word_reckons_11_pre a b by kernel_rfl) hp))
noncomputable def sem130 : List W → Option (W × List (List W) × List Prop)
 | [.int .i64 y1, .int .i64 y2] => some (wr_i64 (S.word_reckons_11 y1 y2), wo_i64 (S.word_reckons_11 y1 y2), [S.word_reckons_11_pre y1 y2])
 | _ => none
noncomputable def c130 : Cfg El := c129.add 130 sem130
theorem c130_ok : CfgOk c130 := c129_ok.add (fun args w => Tryz.call130 args w) (fun vs r outs ps h hp => by
 unfold sem130 at h
 split at h
 ·rename_i y1 y2; cases h; exact fn130 y1 y2 hp
 ·cases h)
noncomputable def body131 : Code := (Tryz.f131.body).getD .skip
theorem fn131 (a : Int) (b : Int) (hp : S.word_reckons_12_pre a b) : CallOk c130 131 [.int .i64 a, .int .i64 b] (wr_i64 (S.word_reckons_12 a b)) (wo_i64 (S.word_reckons_12 a b)) :=
 (call_ok (fn := Tryz.f131) (code := body131) (loop := noLoop) (md := ⟨false, false⟩) (rd := rd_i64) (wr := wr_i64) (wo := wo_i64) c130_ok (by kernel_rfl) (by kernel_rfl) (by kernel_rfl) (no_loops (by kernel_rfl)) (by kernel_rfl) (by kernel_rfl) (by kernel_rfl)
  rw_i64 np_i64 no_i64 (by kernel_rfl) (Eq.mpr (show Vm.Tr.vc (Vm.Fn c130 Tryz.f131 body131 noLoop ([.int .i64 a, .int .i64 b])) = S.word_reckons_12_pre a b by kernel_rfl) hp))
noncomputable def sem131 : List W → Option (W × List (List W) × List Prop)
 | [.int .i64 y1, .int .i64 y2] => some (wr_i64 (S.word_reckons_12 y1 y2), wo_i64 (S.word_reckons_12 y1 y2), [S.word_reckons_12_pre y1 y2])
 | _ => none
noncomputable def c131 : Cfg El := c130.add 131 sem131
theorem c131_ok : CfgOk c131 := c130_ok.add (fun args w => Tryz.call131 args w) (fun vs r outs ps h hp => by
 unfold sem131 at h
 split at h
 ·rename_i y1 y2; cases h; exact fn131 y1 y2 hp
 ·cases h)
noncomputable def rd_M99_f : W → List (List W) → Option ((List (Int × Go.Value)))
 | .cmap .i64 true x1, [] => some x1
 | _, _ => none
noncomputable def wr_M99_f (x : (List (Int × Go.Value))) : W := .cmap .i64 true x
noncomputable def wo_M99_f (_x : (List (Int × Go.Value))) : List (List W) := []
theorem rw_M99_f (v : W) (os : List (List W)) (x : (List (Int × Go.Value))) (h : rd_M99_f v os = some x) : v = wr_M99_f x ∧ os = wo_M99_f x := by
 unfold rd_M99_f at h
 split at h <;> first | (cases h; exact ⟨rfl, rfl⟩) | cases h
theorem np_M99_f (x : (List (Int × Go.Value))) : okv (fun _ => false) (wr_M99_f x) = true := rfl
theorem no_M99_f (x : (List (Int × Go.Value))) : all (fun cs => all (ok0 fun _ => false) cs) (wo_M99_f x) = true := rfl
noncomputable def body66 : Code := (Tryz.f66.body).getD .skip
theorem fn66 : CallOk c131 66 [] (wr_M99_f (S.word_reckons)) (wo_M99_f (S.word_reckons)) :=
 (call_ok (fn := Tryz.f66) (code := body66) (loop := noLoop) (md := ⟨false, true⟩) (rd := rd_M99_f) (wr := wr_M99_f) (wo := wo_M99_f) c131_ok (by kernel_rfl) (by kernel_rfl) (by kernel_rfl) (no_loops (by kernel_rfl)) (by kernel_rfl) (by kernel_rfl) (by kernel_rfl)
  rw_M99_f np_M99_f no_M99_f (by kernel_rfl) (Tr.vc_of_noReq (by kernel_rfl)))
noncomputable def sem66 : List W → Option (W × List (List W) × List Prop)
 | [] => some (wr_M99_f (S.word_reckons), wo_M99_f (S.word_reckons), [])
 | _ => none
noncomputable def c66 : Cfg El := c131.add 66 sem66
theorem c66_ok : CfgOk c66 := c131_ok.add (fun args w => Tryz.call66 args w) (fun vs r outs ps h hp => by
 unfold sem66 at h
 split at h
 ·cases h; exact fn66
 ·cases h)
noncomputable def body67 : Code := (Tryz.f67.body).getD .skip
theorem fn67 (op : Int) : CallOk c66 67 [.int .i64 op] (wr_b (S.word_Traps op)) (wo_b (S.word_Traps op)) :=
 (call_ok (fn := Tryz.f67) (code := body67) (loop := noLoop) (md := ⟨false, false⟩) (rd := rd_b) (wr := wr_b) (wo := wo_b) c66_ok (by kernel_rfl) (by kernel_rfl) (by kernel_rfl) (no_loops (by kernel_rfl)) (by kernel_rfl) (by kernel_rfl) (by kernel_rfl)
  rw_b np_b no_b (by kernel_rfl) (Tr.vc_of_noReq (by kernel_rfl)))
noncomputable def sem67 : List W → Option (W × List (List W) × List Prop)
 | [.int .i64 y1] => some (wr_b (S.word_Traps y1), wo_b (S.word_Traps y1), [])
 | _ => none
noncomputable def c67 : Cfg El := c66.add 67 sem67
theorem c67_ok : CfgOk c67 := c66_ok.add (fun args w => Tryz.call67 args w) (fun vs r outs ps h hp => by
 unfold sem67 at h
 split at h
 ·rename_i y1; cases h; exact fn67 y1
 ·cases h)
noncomputable def body20 : Code := (Tryz.f20.body).getD .skip
theorem fn20 (op : Int) (a : Int) (b : Int) (hp : S.word_Do_pre op a b) : CallOk c67 20 [.int .i64 op, .int .i64 a, .int .i64 b] (wr_i64_b (S.word_Do op a b)) (wo_i64_b (S.word_Do op a b)) :=
 (call_ok (fn := Tryz.f20) (code := body20) (loop := noLoop) (md := ⟨false, false⟩) (rd := rd_i64_b) (wr := wr_i64_b) (wo := wo_i64_b) c67_ok (by kernel_rfl) (by kernel_rfl) (by kernel_rfl) (no_loops (by kernel_rfl)) (by kernel_rfl) (by kernel_rfl) (by kernel_rfl)
  rw_i64_b np_i64_b no_i64_b (by kernel_rfl) (Eq.mpr (show Vm.Tr.vc (Vm.Fn c67 Tryz.f20 body20 noLoop ([.int .i64 op, .int .i64 a, .int .i64 b])) = S.word_Do_pre op a b by kernel_rfl) hp))
noncomputable def sem20 : List W → Option (W × List (List W) × List Prop)
 | [.int .i64 y1, .int .i64 y2, .int .i64 y3] => some (wr_i64_b (S.word_Do y1 y2 y3), wo_i64_b (S.word_Do y1 y2 y3), [S.word_Do_pre y1 y2 y3])
 | _ => none
noncomputable def c20 : Cfg El := c67.add 20 sem20
theorem c20_ok : CfgOk c20 := c67_ok.add (fun args w => Tryz.call20 args w) (fun vs r outs ps h hp => by
 unfold sem20 at h
 split at h
 ·rename_i y1 y2 y3; cases h; exact fn20 y1 y2 y3 hp
 ·cases h)
noncomputable def rd_A67 : W → List (List W) → Option ((Int × Int))
 | .agg [.int .u64 x1, .int .u64 x2], [] => some (x1, x2)
 | _, _ => none
noncomputable def wr_A67 (x : (Int × Int)) : W := .agg [.int .u64 x.1, .int .u64 x.2]
noncomputable def wo_A67 (_x : (Int × Int)) : List (List W) := []
theorem rw_A67 (v : W) (os : List (List W)) (x : (Int × Int)) (h : rd_A67 v os = some x) : v = wr_A67 x ∧ os = wo_A67 x := by
 unfold rd_A67 at h
 split at h <;> first | (cases h; exact ⟨rfl, rfl⟩) | cases h
theorem np_A67 (x : (Int × Int)) : okv (fun _ => false) (wr_A67 x) = true := rfl
theorem no_A67 (x : (Int × Int)) : all (fun cs => all (ok0 fun _ => false) cs) (wo_A67 x) = true := rfl
noncomputable def body56 : Code := (Tryz.f56.body).getD .skip
theorem fn56 (n : Int) : CallOk c20 56 [.int .i64 n] (wr_A67 (S.arith_of n)) (wo_A67 (S.arith_of n)) :=
 (call_ok (fn := Tryz.f56) (code := body56) (loop := noLoop) (md := ⟨false, false⟩) (rd := rd_A67) (wr := wr_A67) (wo := wo_A67) c20_ok (by kernel_rfl) (by kernel_rfl) (by kernel_rfl) (no_loops (by kernel_rfl)) (by kernel_rfl) (by kernel_rfl) (by kernel_rfl)
  rw_A67 np_A67 no_A67 (by kernel_rfl) (Tr.vc_of_noReq (by kernel_rfl)))
noncomputable def sem56 : List W → Option (W × List (List W) × List Prop)
 | [.int .i64 y1] => some (wr_A67 (S.arith_of y1), wo_A67 (S.arith_of y1), [])
 | _ => none
noncomputable def c56 : Cfg El := c20.add 56 sem56
theorem c56_ok : CfgOk c56 := c20_ok.add (fun args w => Tryz.call56 args w) (fun vs r outs ps h hp => by
 unfold sem56 at h
 split at h
 ·rename_i y1; cases h; exact fn56 y1
 ·cases h)
noncomputable def body152 : Code := (Tryz.f152.body).getD .skip
theorem fn152 (a : (Int × Int)) (b : (Int × Int)) (hp : S.arith_wide_plus_pre a b) : CallOk c56 152 [.agg [.int .u64 a.1, .int .u64 a.2], .agg [.int .u64 b.1, .int .u64 b.2]] (wr_A67 (S.arith_wide_plus a b)) (wo_A67 (S.arith_wide_plus a b)) :=
 (call_ok (fn := Tryz.f152) (code := body152) (loop := noLoop) (md := ⟨false, false⟩) (rd := rd_A67) (wr := wr_A67) (wo := wo_A67) c56_ok (by kernel_rfl) (by kernel_rfl) (by kernel_rfl) (no_loops (by kernel_rfl)) (by kernel_rfl) (by kernel_rfl) (by kernel_rfl)
  rw_A67 np_A67 no_A67 (by kernel_rfl) (Eq.mpr (show Vm.Tr.vc (Vm.Fn c56 Tryz.f152 body152 noLoop ([.agg [.int .u64 a.1, .int .u64 a.2], .agg [.int .u64 b.1, .int .u64 b.2]])) = S.arith_wide_plus_pre a b by kernel_rfl) hp))
noncomputable def sem152 : List W → Option (W × List (List W) × List Prop)
 | [.agg [.int .u64 y1, .int .u64 y2], .agg [.int .u64 y3, .int .u64 y4]] => some (wr_A67 (S.arith_wide_plus (y1, y2) (y3, y4)), wo_A67 (S.arith_wide_plus (y1, y2) (y3, y4)), [S.arith_wide_plus_pre (y1, y2) (y3, y4)])
 | _ => none
noncomputable def c152 : Cfg El := c56.add 152 sem152
theorem c152_ok : CfgOk c152 := c56_ok.add (fun args w => Tryz.call152 args w) (fun vs r outs ps h hp => by
 unfold sem152 at h
 split at h
 ·rename_i y1 y2 y3 y4; cases h; exact fn152 (y1, y2) (y3, y4) hp
 ·cases h)
noncomputable def sem157 : List W → Option (W × List (List W) × List Prop)
 | [.int .u64 x, .int .u64 y, .int .u64 c] => some (.tup [.int .u64 (S.math_bits_Sub64 x y c).1, .int .u64 (S.math_bits_Sub64 x y c).2], [], [S.math_bits_Sub64_pre x y c])
 | _ => none
noncomputable def c157 : Cfg El := c152.add 157 sem157
theorem c157_ok : CfgOk c157 := c152_ok.addExt (fun vs r outs ps h hp => by
 unfold sem157 at h
 split at h
 ·cases h; exact ⟨rfl, ext_sub64 (c := c152) (fn := Tryz.f157) (by kernel_rfl) (by kernel_rfl) (by kernel_rfl) (by kernel_rfl) (by kernel_rfl) hp⟩
 ·cases h)
noncomputable def body87 : Code := (Tryz.f87.body).getD .skip
theorem fn87 (a : (Int × Int)) (b : (Int × Int)) (hp : S.arith_wide_minus_pre a b) : CallOk c157 87 [.agg [.int .u64 a.1, .int .u64 a.2], .agg [.int .u64 b.1, .int .u64 b.2]] (wr_A67 (S.arith_wide_minus a b)) (wo_A67 (S.arith_wide_minus a b)) :=
 (call_ok (fn := Tryz.f87) (code := body87) (loop := noLoop) (md := ⟨false, false⟩) (rd := rd_A67) (wr := wr_A67) (wo := wo_A67) c157_ok (by kernel_rfl) (by kernel_rfl) (by kernel_rfl) (no_loops (by kernel_rfl)) (by kernel_rfl) (by kernel_rfl) (by kernel_rfl)
  rw_A67 np_A67 no_A67 (by kernel_rfl) (Eq.mpr (show Vm.Tr.vc (Vm.Fn c157 Tryz.f87 body87 noLoop ([.agg [.int .u64 a.1, .int .u64 a.2], .agg [.int .u64 b.1, .int .u64 b.2]])) = S.arith_wide_minus_pre a b by kernel_rfl) hp))
noncomputable def sem87 : List W → Option (W × List (List W) × List Prop)
 | [.agg [.int .u64 y1, .int .u64 y2], .agg [.int .u64 y3, .int .u64 y4]] => some (wr_A67 (S.arith_wide_minus (y1, y2) (y3, y4)), wo_A67 (S.arith_wide_minus (y1, y2) (y3, y4)), [S.arith_wide_minus_pre (y1, y2) (y3, y4)])
 | _ => none
noncomputable def c87 : Cfg El := c157.add 87 sem87
theorem c87_ok : CfgOk c87 := c157_ok.add (fun args w => Tryz.call87 args w) (fun vs r outs ps h hp => by
 unfold sem87 at h
 split at h
 ·rename_i y1 y2 y3 y4; cases h; exact fn87 (y1, y2) (y3, y4) hp
 ·cases h)
noncomputable def rd_u64_u64 : W → List (List W) → Option (Int × Int)
 | .tup [.int .u64 x1, .int .u64 x2], [] => some ⟨x1, x2⟩
 | _, _ => none
noncomputable def wr_u64_u64 (x : Int × Int) : W := .tup [.int .u64 x.1, .int .u64 x.2]
noncomputable def wo_u64_u64 (_x : Int × Int) : List (List W) := []
theorem rw_u64_u64 (v : W) (os : List (List W)) (x : Int × Int) (h : rd_u64_u64 v os = some x) : v = wr_u64_u64 x ∧ os = wo_u64_u64 x := by
 unfold rd_u64_u64 at h
 split at h <;> first | (cases h; exact ⟨rfl, rfl⟩) | cases h
theorem np_u64_u64 (x : Int × Int) : okv (fun _ => false) (wr_u64_u64 x) = true := rfl
theorem no_u64_u64 (x : Int × Int) : all (fun cs => all (ok0 fun _ => false) cs) (wo_u64_u64 x) = true := rfl
noncomputable def body189 : Code := (Tryz.f189.body).getD .skip
theorem fn189 (x : Int) (y : Int) : CallOk c87 189 [.int .u64 x, .int .u64 y] (wr_u64_u64 (S.math_bits_Mul64 x y)) (wo_u64_u64 (S.math_bits_Mul64 x y)) :=
 (call_ok (fn := Tryz.f189) (code := body189) (loop := noLoop) (md := ⟨false, false⟩) (rd := rd_u64_u64) (wr := wr_u64_u64) (wo := wo_u64_u64) c87_ok (by kernel_rfl) (by kernel_rfl) (by kernel_rfl) (no_loops (by kernel_rfl)) (by kernel_rfl) (by kernel_rfl) (by kernel_rfl)
  rw_u64_u64 np_u64_u64 no_u64_u64 (by kernel_rfl) (Tr.vc_of_noReq (by kernel_rfl)))
noncomputable def sem189 : List W → Option (W × List (List W) × List Prop)
 | [.int .u64 y1, .int .u64 y2] => some (wr_u64_u64 (S.math_bits_Mul64 y1 y2), wo_u64_u64 (S.math_bits_Mul64 y1 y2), [])
 | _ => none
noncomputable def c189 : Cfg El := c87.add 189 sem189
theorem c189_ok : CfgOk c189 := c87_ok.add (fun args w => Tryz.call189 args w) (fun vs r outs ps h hp => by
 unfold sem189 at h
 split at h
 ·rename_i y1 y2; cases h; exact fn189 y1 y2
 ·cases h)
noncomputable def body153 : Code := (Tryz.f153.body).getD .skip
theorem fn153 (a : Int) (b : Int) : CallOk c189 153 [.int .i64 a, .int .i64 b] (wr_A67 (S.arith_times a b)) (wo_A67 (S.arith_times a b)) :=
 (call_ok (fn := Tryz.f153) (code := body153) (loop := noLoop) (md := ⟨false, false⟩) (rd := rd_A67) (wr := wr_A67) (wo := wo_A67) c189_ok (by kernel_rfl) (by kernel_rfl) (by kernel_rfl) (no_loops (by kernel_rfl)) (by kernel_rfl) (by kernel_rfl) (by kernel_rfl)
  rw_A67 np_A67 no_A67 (by kernel_rfl) (Tr.vc_of_noReq (by kernel_rfl)))
noncomputable def sem153 : List W → Option (W × List (List W) × List Prop)
 | [.int .i64 y1, .int .i64 y2] => some (wr_A67 (S.arith_times y1 y2), wo_A67 (S.arith_times y1 y2), [])
 | _ => none
noncomputable def c153 : Cfg El := c189.add 153 sem153
theorem c153_ok : CfgOk c153 := c189_ok.add (fun args w => Tryz.call153 args w) (fun vs r outs ps h hp => by
 unfold sem153 at h
 split at h
 ·rename_i y1 y2; cases h; exact fn153 y1 y2
 ·cases h)
noncomputable def body83 : Code := (Tryz.f83.body).getD .skip
theorem fn83 (op : Int) (a : Int) (b : Int) (hp : S.arith_exact_pre op a b) : CallOk c153 83 [.int .i64 op, .int .i64 a, .int .i64 b] (wr_A67 (S.arith_exact op a b)) (wo_A67 (S.arith_exact op a b)) :=
 (call_ok (fn := Tryz.f83) (code := body83) (loop := noLoop) (md := ⟨false, false⟩) (rd := rd_A67) (wr := wr_A67) (wo := wo_A67) c153_ok (by kernel_rfl) (by kernel_rfl) (by kernel_rfl) (no_loops (by kernel_rfl)) (by kernel_rfl) (by kernel_rfl) (by kernel_rfl)
  rw_A67 np_A67 no_A67 (by kernel_rfl) (Eq.mpr (show Vm.Tr.vc (Vm.Fn c153 Tryz.f83 body83 noLoop ([.int .i64 op, .int .i64 a, .int .i64 b])) = S.arith_exact_pre op a b by kernel_rfl) hp))
noncomputable def sem83 : List W → Option (W × List (List W) × List Prop)
 | [.int .i64 y1, .int .i64 y2, .int .i64 y3] => some (wr_A67 (S.arith_exact y1 y2 y3), wo_A67 (S.arith_exact y1 y2 y3), [S.arith_exact_pre y1 y2 y3])
 | _ => none
noncomputable def c83 : Cfg El := c153.add 83 sem83
theorem c83_ok : CfgOk c83 := c153_ok.add (fun args w => Tryz.call83 args w) (fun vs r outs ps h hp => by
 unfold sem83 at h
 split at h
 ·rename_i y1 y2 y3; cases h; exact fn83 y1 y2 y3 hp
 ·cases h)
noncomputable def body84 : Code := (Tryz.f84.body).getD .skip
theorem fn84 (a : (Int × Int)) (b : (Int × Int)) : CallOk c83 84 [.agg [.int .u64 a.1, .int .u64 a.2], .agg [.int .u64 b.1, .int .u64 b.2]] (wr_b (S.arith_wide_less a b)) (wo_b (S.arith_wide_less a b)) :=
 (call_ok (fn := Tryz.f84) (code := body84) (loop := noLoop) (md := ⟨false, false⟩) (rd := rd_b) (wr := wr_b) (wo := wo_b) c83_ok (by kernel_rfl) (by kernel_rfl) (by kernel_rfl) (no_loops (by kernel_rfl)) (by kernel_rfl) (by kernel_rfl) (by kernel_rfl)
  rw_b np_b no_b (by kernel_rfl) (Tr.vc_of_noReq (by kernel_rfl)))
noncomputable def sem84 : List W → Option (W × List (List W) × List Prop)
 | [.agg [.int .u64 y1, .int .u64 y2], .agg [.int .u64 y3, .int .u64 y4]] => some (wr_b (S.arith_wide_less (y1, y2) (y3, y4)), wo_b (S.arith_wide_less (y1, y2) (y3, y4)), [])
 | _ => none
noncomputable def c84 : Cfg El := c83.add 84 sem84
theorem c84_ok : CfgOk c84 := c83_ok.add (fun args w => Tryz.call84 args w) (fun vs r outs ps h hp => by
 unfold sem84 at h
 split at h
 ·rename_i y1 y2 y3 y4; cases h; exact fn84 (y1, y2) (y3, y4)
 ·cases h)
noncomputable def rd_A67_A67 : W → List (List W) → Option ((Int × Int) × (Int × Int))
 | .tup [.agg [.int .u64 x1, .int .u64 x2], .agg [.int .u64 x3, .int .u64 x4]], [] => some ⟨(x1, x2), (x3, x4)⟩
 | _, _ => none
noncomputable def wr_A67_A67 (x : (Int × Int) × (Int × Int)) : W := .tup [.agg [.int .u64 x.1.1, .int .u64 x.1.2], .agg [.int .u64 x.2.1, .int .u64 x.2.2]]
noncomputable def wo_A67_A67 (_x : (Int × Int) × (Int × Int)) : List (List W) := []
theorem rw_A67_A67 (v : W) (os : List (List W)) (x : (Int × Int) × (Int × Int)) (h : rd_A67_A67 v os = some x) : v = wr_A67_A67 x ∧ os = wo_A67_A67 x := by
 unfold rd_A67_A67 at h
 split at h <;> first | (cases h; exact ⟨rfl, rfl⟩) | cases h
theorem np_A67_A67 (x : (Int × Int) × (Int × Int)) : okv (fun _ => false) (wr_A67_A67 x) = true := rfl
theorem no_A67_A67 (x : (Int × Int) × (Int × Int)) : all (fun cs => all (ok0 fun _ => false) cs) (wo_A67_A67 x) = true := rfl
noncomputable def body37 : Code := (Tryz.f37.body).getD .skip
noncomputable def lb37_0 : Code := ((nth (loopsOf 0 body37) 0).getD (0, .skip)).2
noncomputable def px37_0 : List W → Option S.arith_bounds_L0
 | [.int .i64 y1, .ptr 6 0, .ptr 7 0, .ptr 8 0, .ptr 9 0, .int .i64 y2, .int .u64 y3, .int .u64 y4, .int .u64 y5, .int .u64 y6, .rowc 2 false (some 2) y7, .rowc 2 false (some 2) y8] => some ⟨y1, y2, y3, y4, y5, y6, y7, y8⟩
 | _ => none
noncomputable def tx37_0 (x : S.arith_bounds_L0) : List W := [.int .i64 x.op, .ptr 6 0, .ptr 7 0, .ptr 8 0, .ptr 9 0, .int .i64 x.t33, .int .u64 x.lo_0, .int .u64 x.lo_1, .int .u64 x.hi_0, .int .u64 x.hi_1, .rowc 2 false (some 2) x.l, .rowc 2 false (some 2) x.r]
noncomputable def py37_0 : Ex → List W → Option (S.arith_bounds_L0)
 | .exit 0, [.int .i64 y1, .ptr 6 0, .ptr 7 0, .ptr 8 0, .ptr 9 0, .int .i64 y2, .int .u64 y3, .int .u64 y4, .int .u64 y5, .int .u64 y6, .rowc 2 false (some 2) y7, .rowc 2 false (some 2) y8] => some ⟨y1, y2, y3, y4, y5, y6, y7, y8⟩
 | _, _ => none
noncomputable def ld37_0 : LD El where
 X := S.arith_bounds_L0
 Y := S.arith_bounds_L0
 keys := [.slot 0, .slot 6, .slot 7, .slot 8, .slot 9, .slot 33, .cell 6 0, .cell 6 1, .cell 7 0, .cell 7 1, .row 8, .row 9]
 fits := [35, 0, 0, 0, 0, 3, 24, 24, 24, 24, 0, 0]
 px := px37_0
 tx := tx37_0
 okeys := [.slot 0, .slot 6, .slot 7, .slot 8, .slot 9, .slot 33, .cell 6 0, .cell 6 1, .cell 7 0, .cell 7 1, .row 8, .row 9]
 ofits := [35, 0, 0, 0, 0, 3, 24, 24, 24, 24, 0, 0]
 py := py37_0
 ty := fun y => tx37_0 y
 oex := fun _ => .exit 0
 junk := [.slot 10, .slot 11, .slot 34, .slot 35, .slot 36, .slot 37, .slot 38, .slot 39, .slot 40, .slot 41, .slot 42, .slot 43, .slot 44, .slot 45, .slot 46, .slot 47, .slot 48, .slot 49, .slot 50, .slot 51, .slot 52, .slot 53, .slot 54]
 rows := []
noncomputable def lo37_0 : S.arith_bounds_L0 → Tr El := fun y => .leaf (.exit 0) (zipK ld37_0.okeys (tx37_0 y) ++ junkK ld37_0.junk)
noncomputable def loop37 : Nat → Env El → Tr El
 | 0 => ld37_0.tree c84 Tryz.f37.ntmps 0 lb37_0 S.arith_bounds_L0_run lo37_0 S.arith_bounds_L0_step S.arith_bounds_L0_vcs
 | _ => fun _ => .fail
theorem lok37_0 : ∀ w0 S0, LoopOk c84 Tryz.f37.ntmps w0 S0 loop37 0 lb37_0 :=
 loop_ok (c := c84) (n := Tryz.f37.ntmps) c84_ok mixed ld37_0 (body := lb37_0) (key := 0) (loop := loop37) (F := S.arith_bounds_L0_run) (out := lo37_0) (step := S.arith_bounds_L0_step) (vcs := S.arith_bounds_L0_vcs)
  (fun _ => by kernel_rfl) (no_loops (by kernel_rfl)) rfl rfl
  (fun vs x h => by unfold ld37_0 px37_0 at h; dsimp only at h; split at h <;> first | (cases h; rfl) | cases h)
  (fun e vs y h => by unfold ld37_0 py37_0 at h; dsimp only at h; split at h <;> first | (cases h; exact ⟨rfl, rfl⟩) | cases h)
  (by kernel_rfl) (fun _ => rfl) (fun _ _ h => h) (fun x => by kernel_rfl) (fun x h => Eq.mpr (show Vm.Tr.vc (Vm.ev c84 Tryz.f37.ntmps loop37 0 lb37_0 (ld37_0.vars x) []) = S.arith_bounds_L0_vcs x by kernel_rfl) h)
theorem fn37 (op : Int) (a : S.Value) (b : S.Value) (hp : S.arith_bounds_pre op a b) : CallOk c84 37 [.int .i64 op, .agg [.int .i64 a.I.Lo, .int .i64 a.I.Hi, .int .u64 a.C.M, .int .u64 a.C.R], .agg [.int .i64 b.I.Lo, .int .i64 b.I.Hi, .int .u64 b.C.M, .int .u64 b.C.R]] (wr_A67_A67 (S.arith_bounds op a b)) (wo_A67_A67 (S.arith_bounds op a b)) :=
 (call_ok (fn := Tryz.f37) (code := body37) (loop := loop37) (md := ⟨false, false⟩) (rd := rd_A67_A67) (wr := wr_A67_A67) (wo := wo_A67_A67) c84_ok (by kernel_rfl) (by kernel_rfl) (by kernel_rfl) (loops_all (l := [(0, lb37_0)]) (by kernel_rfl) ⟨lok37_0, trivial⟩) (by kernel_rfl) (by kernel_rfl) (by kernel_rfl)
  rw_A67_A67 np_A67_A67 no_A67_A67 (by kernel_rfl) (Eq.mpr (show Vm.Tr.vc (Vm.Fn c84 Tryz.f37 body37 loop37 ([.int .i64 op, .agg [.int .i64 a.I.Lo, .int .i64 a.I.Hi, .int .u64 a.C.M, .int .u64 a.C.R], .agg [.int .i64 b.I.Lo, .int .i64 b.I.Hi, .int .u64 b.C.M, .int .u64 b.C.R]])) = S.arith_bounds_pre op a b by kernel_rfl) hp))
noncomputable def sem37 : List W → Option (W × List (List W) × List Prop)
 | [.int .i64 y1, .agg [.int .i64 y2, .int .i64 y3, .int .u64 y4, .int .u64 y5], .agg [.int .i64 y6, .int .i64 y7, .int .u64 y8, .int .u64 y9]] => some (wr_A67_A67 (S.arith_bounds y1 ⟨⟨y2, y3⟩, ⟨y4, y5⟩⟩ ⟨⟨y6, y7⟩, ⟨y8, y9⟩⟩), wo_A67_A67 (S.arith_bounds y1 ⟨⟨y2, y3⟩, ⟨y4, y5⟩⟩ ⟨⟨y6, y7⟩, ⟨y8, y9⟩⟩), [S.arith_bounds_pre y1 ⟨⟨y2, y3⟩, ⟨y4, y5⟩⟩ ⟨⟨y6, y7⟩, ⟨y8, y9⟩⟩])
 | _ => none
noncomputable def c37 : Cfg El := c84.add 37 sem37
theorem c37_ok : CfgOk c37 := c84_ok.add (fun args w => Tryz.call37 args w) (fun vs r outs ps h hp => by
 unfold sem37 at h
 split at h
 ·rename_i y1 y2 y3 y4 y5 y6 y7 y8 y9; cases h; exact fn37 y1 ⟨⟨y2, y3⟩, ⟨y4, y5⟩⟩ ⟨⟨y6, y7⟩, ⟨y8, y9⟩⟩ hp
 ·cases h)
noncomputable def body150 : Code := (Tryz.f150.body).getD .skip
noncomputable def lb150_0 : Code := ((nth (loopsOf 0 body150) 0).getD (0, .skip)).2
noncomputable def px150_0 : List W → Option S.cong_gcd_L0
 | [.int .u64 y1, .int .u64 y2] => some ⟨y1, y2⟩
 | _ => none
noncomputable def tx150_0 (x : S.cong_gcd_L0) : List W := [.int .u64 x.a, .int .u64 x.b]
noncomputable def py150_0 : Ex → List W → Option (S.cong_gcd_L0)
 | .exit 0, [.int .u64 y1, .int .u64 y2] => some ⟨y1, y2⟩
 | _, _ => none
noncomputable def ld150_0 : LD El where
 X := S.cong_gcd_L0
 Y := S.cong_gcd_L0
 keys := [.slot 0, .slot 1]
 fits := [24, 24]
 px := px150_0
 tx := tx150_0
 okeys := [.slot 0, .slot 1]
 ofits := [24, 24]
 py := py150_0
 ty := fun y => tx150_0 y
 oex := fun _ => .exit 0
 junk := [.slot 5, .slot 6, .slot 7, .slot 8, .slot 9, .slot 10]
 rows := []
noncomputable def lo150_0 : S.cong_gcd_L0 → Tr El := fun y => .leaf (.exit 0) (zipK ld150_0.okeys (tx150_0 y) ++ junkK ld150_0.junk)
noncomputable def loop150 : Nat → Env El → Tr El
 | 0 => ld150_0.tree c37 Tryz.f150.ntmps 0 lb150_0 S.cong_gcd_L0_run lo150_0 S.cong_gcd_L0_step S.cong_gcd_L0_vcs
 | _ => fun _ => .fail
theorem lok150_0 : ∀ w0 S0, LoopOk c37 Tryz.f150.ntmps w0 S0 loop150 0 lb150_0 :=
 loop_ok (c := c37) (n := Tryz.f150.ntmps) c37_ok mixed ld150_0 (body := lb150_0) (key := 0) (loop := loop150) (F := S.cong_gcd_L0_run) (out := lo150_0) (step := S.cong_gcd_L0_step) (vcs := S.cong_gcd_L0_vcs)
  (fun _ => by kernel_rfl) (no_loops (by kernel_rfl)) rfl rfl
  (fun vs x h => by unfold ld150_0 px150_0 at h; dsimp only at h; split at h <;> first | (cases h; rfl) | cases h)
  (fun e vs y h => by unfold ld150_0 py150_0 at h; dsimp only at h; split at h <;> first | (cases h; exact ⟨rfl, rfl⟩) | cases h)
  (by kernel_rfl) (fun _ => rfl) (fun _ _ h => h) (fun x => by kernel_rfl) (fun x h => Eq.mpr (show Vm.Tr.vc (Vm.ev c37 Tryz.f150.ntmps loop150 0 lb150_0 (ld150_0.vars x) []) = S.cong_gcd_L0_vcs x by kernel_rfl) h)
theorem fn150 (a : Int) (b : Int) (hp : S.cong_gcd_pre a b) : CallOk c37 150 [.int .u64 a, .int .u64 b] (wr_u64 (S.cong_gcd a b)) (wo_u64 (S.cong_gcd a b)) :=
 (call_ok (fn := Tryz.f150) (code := body150) (loop := loop150) (md := ⟨false, false⟩) (rd := rd_u64) (wr := wr_u64) (wo := wo_u64) c37_ok (by kernel_rfl) (by kernel_rfl) (by kernel_rfl) (loops_all (l := [(0, lb150_0)]) (by kernel_rfl) ⟨lok150_0, trivial⟩) (by kernel_rfl) (by kernel_rfl) (by kernel_rfl)
  rw_u64 np_u64 no_u64 (by kernel_rfl) (Eq.mpr (show Vm.Tr.vc (Vm.Fn c37 Tryz.f150 body150 loop150 ([.int .u64 a, .int .u64 b])) = S.cong_gcd_pre a b by kernel_rfl) hp))
noncomputable def sem150 : List W → Option (W × List (List W) × List Prop)
 | [.int .u64 y1, .int .u64 y2] => some (wr_u64 (S.cong_gcd y1 y2), wo_u64 (S.cong_gcd y1 y2), [S.cong_gcd_pre y1 y2])
 | _ => none
noncomputable def c150 : Cfg El := c37.add 150 sem150
theorem c150_ok : CfgOk c150 := c37_ok.add (fun args w => Tryz.call150 args w) (fun vs r outs ps h hp => by
 unfold sem150 at h
 split at h
 ·rename_i y1 y2; cases h; exact fn150 y1 y2 hp
 ·cases h)
noncomputable def body151 : Code := (Tryz.f151.body).getD .skip
theorem fn151 (c : S.Cong) (g : Int) (hp : S.cong_Cong_by_pre c g) : CallOk c150 151 [.agg [.int .u64 c.M, .int .u64 c.R], .int .u64 g] (wr_u64 (S.cong_Cong_by c g)) (wo_u64 (S.cong_Cong_by c g)) :=
 (call_ok (fn := Tryz.f151) (code := body151) (loop := noLoop) (md := ⟨false, false⟩) (rd := rd_u64) (wr := wr_u64) (wo := wo_u64) c150_ok (by kernel_rfl) (by kernel_rfl) (by kernel_rfl) (no_loops (by kernel_rfl)) (by kernel_rfl) (by kernel_rfl) (by kernel_rfl)
  rw_u64 np_u64 no_u64 (by kernel_rfl) (Eq.mpr (show Vm.Tr.vc (Vm.Fn c150 Tryz.f151 body151 noLoop ([.agg [.int .u64 c.M, .int .u64 c.R], .int .u64 g])) = S.cong_Cong_by_pre c g by kernel_rfl) hp))
noncomputable def sem151 : List W → Option (W × List (List W) × List Prop)
 | [.agg [.int .u64 y1, .int .u64 y2], .int .u64 y3] => some (wr_u64 (S.cong_Cong_by ⟨y1, y2⟩ y3), wo_u64 (S.cong_Cong_by ⟨y1, y2⟩ y3), [S.cong_Cong_by_pre ⟨y1, y2⟩ y3])
 | _ => none
noncomputable def c151 : Cfg El := c150.add 151 sem151
theorem c151_ok : CfgOk c151 := c150_ok.add (fun args w => Tryz.call151 args w) (fun vs r outs ps h hp => by
 unfold sem151 at h
 split at h
 ·rename_i y1 y2 y3; cases h; exact fn151 ⟨y1, y2⟩ y3 hp
 ·cases h)
noncomputable def body85 : Code := (Tryz.f85.body).getD .skip
theorem fn85 (a : S.Cong) (b : S.Cong) (hp : S.cong_Add_pre a b) : CallOk c151 85 [.agg [.int .u64 a.M, .int .u64 a.R], .agg [.int .u64 b.M, .int .u64 b.R]] (wr_S25 (S.cong_Add a b)) (wo_S25 (S.cong_Add a b)) :=
 (call_ok (fn := Tryz.f85) (code := body85) (loop := noLoop) (md := ⟨false, false⟩) (rd := rd_S25) (wr := wr_S25) (wo := wo_S25) c151_ok (by kernel_rfl) (by kernel_rfl) (by kernel_rfl) (no_loops (by kernel_rfl)) (by kernel_rfl) (by kernel_rfl) (by kernel_rfl)
  rw_S25 np_S25 no_S25 (by kernel_rfl) (Eq.mpr (show Vm.Tr.vc (Vm.Fn c151 Tryz.f85 body85 noLoop ([.agg [.int .u64 a.M, .int .u64 a.R], .agg [.int .u64 b.M, .int .u64 b.R]])) = S.cong_Add_pre a b by kernel_rfl) hp))
noncomputable def sem85 : List W → Option (W × List (List W) × List Prop)
 | [.agg [.int .u64 y1, .int .u64 y2], .agg [.int .u64 y3, .int .u64 y4]] => some (wr_S25 (S.cong_Add ⟨y1, y2⟩ ⟨y3, y4⟩), wo_S25 (S.cong_Add ⟨y1, y2⟩ ⟨y3, y4⟩), [S.cong_Add_pre ⟨y1, y2⟩ ⟨y3, y4⟩])
 | _ => none
noncomputable def c85 : Cfg El := c151.add 85 sem85
theorem c85_ok : CfgOk c85 := c151_ok.add (fun args w => Tryz.call85 args w) (fun vs r outs ps h hp => by
 unfold sem85 at h
 split at h
 ·rename_i y1 y2 y3 y4; cases h; exact fn85 ⟨y1, y2⟩ ⟨y3, y4⟩ hp
 ·cases h)
noncomputable def body82 : Code := (Tryz.f82.body).getD .skip
theorem fn82 (a : S.Cong) (b : S.Cong) (hp : S.cong_Sub_pre a b) : CallOk c85 82 [.agg [.int .u64 a.M, .int .u64 a.R], .agg [.int .u64 b.M, .int .u64 b.R]] (wr_S25 (S.cong_Sub a b)) (wo_S25 (S.cong_Sub a b)) :=
 (call_ok (fn := Tryz.f82) (code := body82) (loop := noLoop) (md := ⟨false, false⟩) (rd := rd_S25) (wr := wr_S25) (wo := wo_S25) c85_ok (by kernel_rfl) (by kernel_rfl) (by kernel_rfl) (no_loops (by kernel_rfl)) (by kernel_rfl) (by kernel_rfl) (by kernel_rfl)
  rw_S25 np_S25 no_S25 (by kernel_rfl) (Eq.mpr (show Vm.Tr.vc (Vm.Fn c85 Tryz.f82 body82 noLoop ([.agg [.int .u64 a.M, .int .u64 a.R], .agg [.int .u64 b.M, .int .u64 b.R]])) = S.cong_Sub_pre a b by kernel_rfl) hp))
noncomputable def sem82 : List W → Option (W × List (List W) × List Prop)
 | [.agg [.int .u64 y1, .int .u64 y2], .agg [.int .u64 y3, .int .u64 y4]] => some (wr_S25 (S.cong_Sub ⟨y1, y2⟩ ⟨y3, y4⟩), wo_S25 (S.cong_Sub ⟨y1, y2⟩ ⟨y3, y4⟩), [S.cong_Sub_pre ⟨y1, y2⟩ ⟨y3, y4⟩])
 | _ => none
noncomputable def c82 : Cfg El := c85.add 82 sem82
theorem c82_ok : CfgOk c82 := c85_ok.add (fun args w => Tryz.call82 args w) (fun vs r outs ps h hp => by
 unfold sem82 at h
 split at h
 ·rename_i y1 y2 y3 y4; cases h; exact fn82 ⟨y1, y2⟩ ⟨y3, y4⟩ hp
 ·cases h)
noncomputable def rd_u64_b : W → List (List W) → Option (Int × Bool)
 | .tup [.int .u64 x1, .bool x2], [] => some ⟨x1, x2⟩
 | _, _ => none
noncomputable def wr_u64_b (x : Int × Bool) : W := .tup [.int .u64 x.1, .bool x.2]
noncomputable def wo_u64_b (_x : Int × Bool) : List (List W) := []
theorem rw_u64_b (v : W) (os : List (List W)) (x : Int × Bool) (h : rd_u64_b v os = some x) : v = wr_u64_b x ∧ os = wo_u64_b x := by
 unfold rd_u64_b at h
 split at h <;> first | (cases h; exact ⟨rfl, rfl⟩) | cases h
theorem np_u64_b (x : Int × Bool) : okv (fun _ => false) (wr_u64_b x) = true := rfl
theorem no_u64_b (x : Int × Bool) : all (fun cs => all (ok0 fun _ => false) cs) (wo_u64_b x) = true := rfl
noncomputable def body155 : Code := (Tryz.f155.body).getD .skip
theorem fn155 (a : Int) (b : Int) : CallOk c82 155 [.int .u64 a, .int .u64 b] (wr_u64_b (S.cong_fits a b)) (wo_u64_b (S.cong_fits a b)) :=
 (call_ok (fn := Tryz.f155) (code := body155) (loop := noLoop) (md := ⟨false, false⟩) (rd := rd_u64_b) (wr := wr_u64_b) (wo := wo_u64_b) c82_ok (by kernel_rfl) (by kernel_rfl) (by kernel_rfl) (no_loops (by kernel_rfl)) (by kernel_rfl) (by kernel_rfl) (by kernel_rfl)
  rw_u64_b np_u64_b no_u64_b (by kernel_rfl) (Tr.vc_of_noReq (by kernel_rfl)))
noncomputable def sem155 : List W → Option (W × List (List W) × List Prop)
 | [.int .u64 y1, .int .u64 y2] => some (wr_u64_b (S.cong_fits y1 y2), wo_u64_b (S.cong_fits y1 y2), [])
 | _ => none
noncomputable def c155 : Cfg El := c82.add 155 sem155
theorem c155_ok : CfgOk c155 := c82_ok.add (fun args w => Tryz.call155 args w) (fun vs r outs ps h hp => by
 unfold sem155 at h
 split at h
 ·rename_i y1 y2; cases h; exact fn155 y1 y2
 ·cases h)
noncomputable def body201 : Code := (Tryz.f201.body).getD .skip
theorem fn201 (x : Int) (hp : S.math_bits_Len64_pre x) : CallOk c155 201 [.int .u64 x] (wr_i64 (S.math_bits_Len64 x)) (wo_i64 (S.math_bits_Len64 x)) :=
 (call_ok (fn := Tryz.f201) (code := body201) (loop := noLoop) (md := ⟨false, false⟩) (rd := rd_i64) (wr := wr_i64) (wo := wo_i64) c155_ok (by kernel_rfl) (by kernel_rfl) (by kernel_rfl) (no_loops (by kernel_rfl)) (by kernel_rfl) (by kernel_rfl) (by kernel_rfl)
  rw_i64 np_i64 no_i64 (by kernel_rfl) (Eq.mpr (show Vm.Tr.vc (Vm.Fn c155 Tryz.f201 body201 noLoop ([.int .u64 x])) = S.math_bits_Len64_pre x by kernel_rfl) hp))
noncomputable def sem201 : List W → Option (W × List (List W) × List Prop)
 | [.int .u64 y1] => some (wr_i64 (S.math_bits_Len64 y1), wo_i64 (S.math_bits_Len64 y1), [S.math_bits_Len64_pre y1])
 | _ => none
noncomputable def c201 : Cfg El := c155.add 201 sem201
theorem c201_ok : CfgOk c201 := c155_ok.add (fun args w => Tryz.call201 args w) (fun vs r outs ps h hp => by
 unfold sem201 at h
 split at h
 ·rename_i y1; cases h; exact fn201 y1 hp
 ·cases h)
noncomputable def body215 : Code := (Tryz.f215.body).getD .skip
theorem fn215 (x : Int) (hp : S.math_bits_LeadingZeros64_pre x) : CallOk c201 215 [.int .u64 x] (wr_i64 (S.math_bits_LeadingZeros64 x)) (wo_i64 (S.math_bits_LeadingZeros64 x)) :=
 (call_ok (fn := Tryz.f215) (code := body215) (loop := noLoop) (md := ⟨false, false⟩) (rd := rd_i64) (wr := wr_i64) (wo := wo_i64) c201_ok (by kernel_rfl) (by kernel_rfl) (by kernel_rfl) (no_loops (by kernel_rfl)) (by kernel_rfl) (by kernel_rfl) (by kernel_rfl)
  rw_i64 np_i64 no_i64 (by kernel_rfl) (Eq.mpr (show Vm.Tr.vc (Vm.Fn c201 Tryz.f215 body215 noLoop ([.int .u64 x])) = S.math_bits_LeadingZeros64_pre x by kernel_rfl) hp))
noncomputable def sem215 : List W → Option (W × List (List W) × List Prop)
 | [.int .u64 y1] => some (wr_i64 (S.math_bits_LeadingZeros64 y1), wo_i64 (S.math_bits_LeadingZeros64 y1), [S.math_bits_LeadingZeros64_pre y1])
 | _ => none
noncomputable def c215 : Cfg El := c201.add 215 sem215
theorem c215_ok : CfgOk c215 := c201_ok.add (fun args w => Tryz.call215 args w) (fun vs r outs ps h hp => by
 unfold sem215 at h
 split at h
 ·rename_i y1; cases h; exact fn215 y1 hp
 ·cases h)
noncomputable def body208 : Code := (Tryz.f208.body).getD .skip
noncomputable def lb208_0 : Code := ((nth (loopsOf 0 body208) 0).getD (0, .skip)).2
noncomputable def px208_0 : List W → Option S.math_bits_Div64_L0
 | [.int .u64 y1, .int .u64 y2, .int .u64 y3, .int .u64 y4, .int .u64 y5] => some ⟨y1, y2, y3, y4, y5⟩
 | _ => none
noncomputable def tx208_0 (x : S.math_bits_Div64_L0) : List W := [.int .u64 x.yn1, .int .u64 x.yn0, .int .u64 x.un1, .int .u64 x.q1, .int .u64 x.rhat]
noncomputable def py208_0 : Ex → List W → Option (S.math_bits_Div64_L0)
 | .exit 0, [.int .u64 y1, .int .u64 y2, .int .u64 y3, .int .u64 y4, .int .u64 y5] => some ⟨y1, y2, y3, y4, y5⟩
 | _, _ => none
noncomputable def ld208_0 : LD El where
 X := S.math_bits_Div64_L0
 Y := S.math_bits_Div64_L0
 keys := [.slot 9, .slot 10, .slot 13, .slot 15, .slot 16]
 fits := [24, 24, 24, 24, 24]
 px := px208_0
 tx := tx208_0
 okeys := [.slot 9, .slot 10, .slot 13, .slot 15, .slot 16]
 ofits := [24, 24, 24, 24, 24]
 py := py208_0
 ty := fun y => tx208_0 y
 oex := fun _ => .exit 0
 junk := [.slot 67, .slot 68, .slot 69, .slot 70, .slot 71, .slot 72, .slot 73, .slot 74, .slot 75, .slot 76, .slot 77, .slot 78, .slot 79, .slot 80, .slot 81, .slot 82, .slot 83, .slot 84, .slot 85]
 rows := []
noncomputable def lo208_0 : S.math_bits_Div64_L0 → Tr El := fun y => .leaf (.exit 0) (zipK ld208_0.okeys (tx208_0 y) ++ junkK ld208_0.junk)
noncomputable def lb208_2 : Code := ((nth (loopsOf 0 body208) 1).getD (0, .skip)).2
noncomputable def px208_2 : List W → Option S.math_bits_Div64_L2
 | [.int .u64 y1, .int .u64 y2, .int .u64 y3, .int .u64 y4, .int .u64 y5] => some ⟨y1, y2, y3, y4, y5⟩
 | _ => none
noncomputable def tx208_2 (x : S.math_bits_Div64_L2) : List W := [.int .u64 x.yn1, .int .u64 x.yn0, .int .u64 x.un0, .int .u64 x.rhat, .int .u64 x.q0]
noncomputable def py208_2 : Ex → List W → Option (S.math_bits_Div64_L2)
 | .exit 2, [.int .u64 y1, .int .u64 y2, .int .u64 y3, .int .u64 y4, .int .u64 y5] => some ⟨y1, y2, y3, y4, y5⟩
 | _, _ => none
noncomputable def ld208_2 : LD El where
 X := S.math_bits_Div64_L2
 Y := S.math_bits_Div64_L2
 keys := [.slot 9, .slot 10, .slot 14, .slot 16, .slot 18]
 fits := [24, 24, 24, 24, 24]
 px := px208_2
 tx := tx208_2
 okeys := [.slot 9, .slot 10, .slot 14, .slot 16, .slot 18]
 ofits := [24, 24, 24, 24, 24]
 py := py208_2
 ty := fun y => tx208_2 y
 oex := fun _ => .exit 2
 junk := [.slot 102, .slot 103, .slot 104, .slot 105, .slot 106, .slot 107, .slot 108, .slot 109, .slot 110, .slot 111, .slot 112, .slot 113, .slot 114, .slot 115, .slot 116, .slot 117, .slot 118, .slot 119, .slot 120]
 rows := []
noncomputable def lo208_2 : S.math_bits_Div64_L2 → Tr El := fun y => .leaf (.exit 2) (zipK ld208_2.okeys (tx208_2 y) ++ junkK ld208_2.junk)
noncomputable def loop208 : Nat → Env El → Tr El
 | 0 => ld208_0.tree c215 Tryz.f208.ntmps 0 lb208_0 S.math_bits_Div64_L0_run lo208_0 S.math_bits_Div64_L0_step S.math_bits_Div64_L0_vcs
 | 2 => ld208_2.tree c215 Tryz.f208.ntmps 2 lb208_2 S.math_bits_Div64_L2_run lo208_2 S.math_bits_Div64_L2_step S.math_bits_Div64_L2_vcs
 | _ => fun _ => .fail
theorem lok208_2 : ∀ w0 S0, LoopOk c215 Tryz.f208.ntmps w0 S0 loop208 2 lb208_2 :=
 loop_ok (c := c215) (n := Tryz.f208.ntmps) c215_ok mixed ld208_2 (body := lb208_2) (key := 2) (loop := loop208) (F := S.math_bits_Div64_L2_run) (out := lo208_2) (step := S.math_bits_Div64_L2_step) (vcs := S.math_bits_Div64_L2_vcs)
  (fun _ => by kernel_rfl) (no_loops (by kernel_rfl)) rfl rfl
  (fun vs x h => by unfold ld208_2 px208_2 at h; dsimp only at h; split at h <;> first | (cases h; rfl) | cases h)
  (fun e vs y h => by unfold ld208_2 py208_2 at h; dsimp only at h; split at h <;> first | (cases h; exact ⟨rfl, rfl⟩) | cases h)
  (by kernel_rfl) (fun _ => rfl) (fun _ _ h => h) (fun x => by kernel_rfl) (fun _ _ => Tr.vc_of_noReq (by kernel_rfl))
theorem lok208_0 : ∀ w0 S0, LoopOk c215 Tryz.f208.ntmps w0 S0 loop208 0 lb208_0 :=
 loop_ok (c := c215) (n := Tryz.f208.ntmps) c215_ok mixed ld208_0 (body := lb208_0) (key := 0) (loop := loop208) (F := S.math_bits_Div64_L0_run) (out := lo208_0) (step := S.math_bits_Div64_L0_step) (vcs := S.math_bits_Div64_L0_vcs)
  (fun _ => by kernel_rfl) (no_loops (by kernel_rfl)) rfl rfl
  (fun vs x h => by unfold ld208_0 px208_0 at h; dsimp only at h; split at h <;> first | (cases h; rfl) | cases h)
  (fun e vs y h => by unfold ld208_0 py208_0 at h; dsimp only at h; split at h <;> first | (cases h; exact ⟨rfl, rfl⟩) | cases h)
  (by kernel_rfl) (fun _ => rfl) (fun _ _ h => h) (fun x => by kernel_rfl) (fun _ _ => Tr.vc_of_noReq (by kernel_rfl))
theorem fn208 (hi : Int) (lo : Int) (y : Int) (hp : S.math_bits_Div64_pre hi lo y) : CallOk c215 208 [.int .u64 hi, .int .u64 lo, .int .u64 y] (wr_u64_u64 (S.math_bits_Div64 hi lo y)) (wo_u64_u64 (S.math_bits_Div64 hi lo y)) :=
 (call_ok (fn := Tryz.f208) (code := body208) (loop := loop208) (md := ⟨false, false⟩) (rd := rd_u64_u64) (wr := wr_u64_u64) (wo := wo_u64_u64) c215_ok (by kernel_rfl) (by kernel_rfl) (by kernel_rfl) (loops_all (l := [(0, lb208_0), (2, lb208_2)]) (by kernel_rfl) ⟨lok208_0, ⟨lok208_2, trivial⟩⟩) (by kernel_rfl) (by kernel_rfl) (by kernel_rfl)
  rw_u64_u64 np_u64_u64 no_u64_u64 (by kernel_rfl) (Eq.mpr (show Vm.Tr.vc (Vm.Fn c215 Tryz.f208 body208 loop208 ([.int .u64 hi, .int .u64 lo, .int .u64 y])) = S.math_bits_Div64_pre hi lo y by kernel_rfl) hp))
noncomputable def sem208 : List W → Option (W × List (List W) × List Prop)
 | [.int .u64 y1, .int .u64 y2, .int .u64 y3] => some (wr_u64_u64 (S.math_bits_Div64 y1 y2 y3), wo_u64_u64 (S.math_bits_Div64 y1 y2 y3), [S.math_bits_Div64_pre y1 y2 y3])
 | _ => none
noncomputable def c208 : Cfg El := c215.add 208 sem208
theorem c208_ok : CfgOk c208 := c215_ok.add (fun args w => Tryz.call208 args w) (fun vs r outs ps h hp => by
 unfold sem208 at h
 split at h
 ·rename_i y1 y2 y3; cases h; exact fn208 y1 y2 y3 hp
 ·cases h)
noncomputable def body190 : Code := (Tryz.f190.body).getD .skip
theorem fn190 (hi : Int) (lo : Int) (y : Int) (hp : S.math_bits_Rem64_pre hi lo y) : CallOk c208 190 [.int .u64 hi, .int .u64 lo, .int .u64 y] (wr_u64 (S.math_bits_Rem64 hi lo y)) (wo_u64 (S.math_bits_Rem64 hi lo y)) :=
 (call_ok (fn := Tryz.f190) (code := body190) (loop := noLoop) (md := ⟨false, false⟩) (rd := rd_u64) (wr := wr_u64) (wo := wo_u64) c208_ok (by kernel_rfl) (by kernel_rfl) (by kernel_rfl) (no_loops (by kernel_rfl)) (by kernel_rfl) (by kernel_rfl) (by kernel_rfl)
  rw_u64 np_u64 no_u64 (by kernel_rfl) (Eq.mpr (show Vm.Tr.vc (Vm.Fn c208 Tryz.f190 body190 noLoop ([.int .u64 hi, .int .u64 lo, .int .u64 y])) = S.math_bits_Rem64_pre hi lo y by kernel_rfl) hp))
noncomputable def sem190 : List W → Option (W × List (List W) × List Prop)
 | [.int .u64 y1, .int .u64 y2, .int .u64 y3] => some (wr_u64 (S.math_bits_Rem64 y1 y2 y3), wo_u64 (S.math_bits_Rem64 y1 y2 y3), [S.math_bits_Rem64_pre y1 y2 y3])
 | _ => none
noncomputable def c190 : Cfg El := c208.add 190 sem190
theorem c190_ok : CfgOk c190 := c208_ok.add (fun args w => Tryz.call190 args w) (fun vs r outs ps h hp => by
 unfold sem190 at h
 split at h
 ·rename_i y1 y2 y3; cases h; exact fn190 y1 y2 y3 hp
 ·cases h)
noncomputable def body156 : Code := (Tryz.f156.body).getD .skip
theorem fn156 (a : Int) (b : Int) (m : Int) (hp : S.cong_times_pre a b m) : CallOk c190 156 [.int .u64 a, .int .u64 b, .int .u64 m] (wr_u64 (S.cong_times a b m)) (wo_u64 (S.cong_times a b m)) :=
 (call_ok (fn := Tryz.f156) (code := body156) (loop := noLoop) (md := ⟨false, false⟩) (rd := rd_u64) (wr := wr_u64) (wo := wo_u64) c190_ok (by kernel_rfl) (by kernel_rfl) (by kernel_rfl) (no_loops (by kernel_rfl)) (by kernel_rfl) (by kernel_rfl) (by kernel_rfl)
  rw_u64 np_u64 no_u64 (by kernel_rfl) (Eq.mpr (show Vm.Tr.vc (Vm.Fn c190 Tryz.f156 body156 noLoop ([.int .u64 a, .int .u64 b, .int .u64 m])) = S.cong_times_pre a b m by kernel_rfl) hp))
noncomputable def sem156 : List W → Option (W × List (List W) × List Prop)
 | [.int .u64 y1, .int .u64 y2, .int .u64 y3] => some (wr_u64 (S.cong_times y1 y2 y3), wo_u64 (S.cong_times y1 y2 y3), [S.cong_times_pre y1 y2 y3])
 | _ => none
noncomputable def c156 : Cfg El := c190.add 156 sem156
theorem c156_ok : CfgOk c156 := c190_ok.add (fun args w => Tryz.call156 args w) (fun vs r outs ps h hp => by
 unfold sem156 at h
 split at h
 ·rename_i y1 y2 y3; cases h; exact fn156 y1 y2 y3 hp
 ·cases h)
noncomputable def body154 : Code := (Tryz.f154.body).getD .skip
theorem fn154 (c : S.Cong) (n : Int) (hp : S.cong_Cong_scaled_pre c n) : CallOk c156 154 [.agg [.int .u64 c.M, .int .u64 c.R], .int .i64 n] (wr_S25 (S.cong_Cong_scaled c n)) (wo_S25 (S.cong_Cong_scaled c n)) :=
 (call_ok (fn := Tryz.f154) (code := body154) (loop := noLoop) (md := ⟨false, false⟩) (rd := rd_S25) (wr := wr_S25) (wo := wo_S25) c156_ok (by kernel_rfl) (by kernel_rfl) (by kernel_rfl) (no_loops (by kernel_rfl)) (by kernel_rfl) (by kernel_rfl) (by kernel_rfl)
  rw_S25 np_S25 no_S25 (by kernel_rfl) (Eq.mpr (show Vm.Tr.vc (Vm.Fn c156 Tryz.f154 body154 noLoop ([.agg [.int .u64 c.M, .int .u64 c.R], .int .i64 n])) = S.cong_Cong_scaled_pre c n by kernel_rfl) hp))
noncomputable def sem154 : List W → Option (W × List (List W) × List Prop)
 | [.agg [.int .u64 y1, .int .u64 y2], .int .i64 y3] => some (wr_S25 (S.cong_Cong_scaled ⟨y1, y2⟩ y3), wo_S25 (S.cong_Cong_scaled ⟨y1, y2⟩ y3), [S.cong_Cong_scaled_pre ⟨y1, y2⟩ y3])
 | _ => none
noncomputable def c154 : Cfg El := c156.add 154 sem154
theorem c154_ok : CfgOk c154 := c156_ok.add (fun args w => Tryz.call154 args w) (fun vs r outs ps h hp => by
 unfold sem154 at h
 split at h
 ·rename_i y1 y2 y3; cases h; exact fn154 ⟨y1, y2⟩ y3 hp
 ·cases h)
noncomputable def body86 : Code := (Tryz.f86.body).getD .skip
theorem fn86 (a : S.Cong) (b : S.Cong) (hp : S.cong_Mul_pre a b) : CallOk c154 86 [.agg [.int .u64 a.M, .int .u64 a.R], .agg [.int .u64 b.M, .int .u64 b.R]] (wr_S25 (S.cong_Mul a b)) (wo_S25 (S.cong_Mul a b)) :=
 (call_ok (fn := Tryz.f86) (code := body86) (loop := noLoop) (md := ⟨false, false⟩) (rd := rd_S25) (wr := wr_S25) (wo := wo_S25) c154_ok (by kernel_rfl) (by kernel_rfl) (by kernel_rfl) (no_loops (by kernel_rfl)) (by kernel_rfl) (by kernel_rfl) (by kernel_rfl)
  rw_S25 np_S25 no_S25 (by kernel_rfl) (Eq.mpr (show Vm.Tr.vc (Vm.Fn c154 Tryz.f86 body86 noLoop ([.agg [.int .u64 a.M, .int .u64 a.R], .agg [.int .u64 b.M, .int .u64 b.R]])) = S.cong_Mul_pre a b by kernel_rfl) hp))
noncomputable def sem86 : List W → Option (W × List (List W) × List Prop)
 | [.agg [.int .u64 y1, .int .u64 y2], .agg [.int .u64 y3, .int .u64 y4]] => some (wr_S25 (S.cong_Mul ⟨y1, y2⟩ ⟨y3, y4⟩), wo_S25 (S.cong_Mul ⟨y1, y2⟩ ⟨y3, y4⟩), [S.cong_Mul_pre ⟨y1, y2⟩ ⟨y3, y4⟩])
 | _ => none
noncomputable def c86 : Cfg El := c154.add 86 sem86
theorem c86_ok : CfgOk c86 := c154_ok.add (fun args w => Tryz.call86 args w) (fun vs r outs ps h hp => by
 unfold sem86 at h
 split at h
 ·rename_i y1 y2 y3 y4; cases h; exact fn86 ⟨y1, y2⟩ ⟨y3, y4⟩ hp
 ·cases h)
noncomputable def body38 : Code := (Tryz.f38.body).getD .skip
theorem fn38 (op : Int) (a : S.Cong) (b : S.Cong) (hp : S.arith_congruence_pre op a b) : CallOk c86 38 [.int .i64 op, .agg [.int .u64 a.M, .int .u64 a.R], .agg [.int .u64 b.M, .int .u64 b.R]] (wr_S25 (S.arith_congruence op a b)) (wo_S25 (S.arith_congruence op a b)) :=
 (call_ok (fn := Tryz.f38) (code := body38) (loop := noLoop) (md := ⟨false, false⟩) (rd := rd_S25) (wr := wr_S25) (wo := wo_S25) c86_ok (by kernel_rfl) (by kernel_rfl) (by kernel_rfl) (no_loops (by kernel_rfl)) (by kernel_rfl) (by kernel_rfl) (by kernel_rfl)
  rw_S25 np_S25 no_S25 (by kernel_rfl) (Eq.mpr (show Vm.Tr.vc (Vm.Fn c86 Tryz.f38 body38 noLoop ([.int .i64 op, .agg [.int .u64 a.M, .int .u64 a.R], .agg [.int .u64 b.M, .int .u64 b.R]])) = S.arith_congruence_pre op a b by kernel_rfl) hp))
noncomputable def sem38 : List W → Option (W × List (List W) × List Prop)
 | [.int .i64 y1, .agg [.int .u64 y2, .int .u64 y3], .agg [.int .u64 y4, .int .u64 y5]] => some (wr_S25 (S.arith_congruence y1 ⟨y2, y3⟩ ⟨y4, y5⟩), wo_S25 (S.arith_congruence y1 ⟨y2, y3⟩ ⟨y4, y5⟩), [S.arith_congruence_pre y1 ⟨y2, y3⟩ ⟨y4, y5⟩])
 | _ => none
noncomputable def c38 : Cfg El := c86.add 38 sem38
theorem c38_ok : CfgOk c38 := c86_ok.add (fun args w => Tryz.call38 args w) (fun vs r outs ps h hp => by
 unfold sem38 at h
 split at h
 ·rename_i y1 y2 y3 y4 y5; cases h; exact fn38 y1 ⟨y2, y3⟩ ⟨y4, y5⟩ hp
 ·cases h)
noncomputable def body39 : Code := (Tryz.f39.body).getD .skip
theorem fn39 (a : (Int × Int)) (hp : S.arith_wide_round_pre a) : CallOk c38 39 [.agg [.int .u64 a.1, .int .u64 a.2]] (wr_u64 (S.arith_wide_round a)) (wo_u64 (S.arith_wide_round a)) :=
 (call_ok (fn := Tryz.f39) (code := body39) (loop := noLoop) (md := ⟨false, false⟩) (rd := rd_u64) (wr := wr_u64) (wo := wo_u64) c38_ok (by kernel_rfl) (by kernel_rfl) (by kernel_rfl) (no_loops (by kernel_rfl)) (by kernel_rfl) (by kernel_rfl) (by kernel_rfl)
  rw_u64 np_u64 no_u64 (by kernel_rfl) (Eq.mpr (show Vm.Tr.vc (Vm.Fn c38 Tryz.f39 body39 noLoop ([.agg [.int .u64 a.1, .int .u64 a.2]])) = S.arith_wide_round_pre a by kernel_rfl) hp))
noncomputable def sem39 : List W → Option (W × List (List W) × List Prop)
 | [.agg [.int .u64 y1, .int .u64 y2]] => some (wr_u64 (S.arith_wide_round (y1, y2)), wo_u64 (S.arith_wide_round (y1, y2)), [S.arith_wide_round_pre (y1, y2)])
 | _ => none
noncomputable def c39 : Cfg El := c38.add 39 sem39
theorem c39_ok : CfgOk c39 := c38_ok.add (fun args w => Tryz.call39 args w) (fun vs r outs ps h hp => by
 unfold sem39 at h
 split at h
 ·rename_i y1 y2; cases h; exact fn39 (y1, y2) hp
 ·cases h)
noncomputable def body41 : Code := (Tryz.f41.body).getD .skip
theorem fn41 (c : S.Cong) (hp : S.cong_Cong_Wrapped_pre c) : CallOk c39 41 [.agg [.int .u64 c.M, .int .u64 c.R]] (wr_S25 (S.cong_Cong_Wrapped c)) (wo_S25 (S.cong_Cong_Wrapped c)) :=
 (call_ok (fn := Tryz.f41) (code := body41) (loop := noLoop) (md := ⟨false, false⟩) (rd := rd_S25) (wr := wr_S25) (wo := wo_S25) c39_ok (by kernel_rfl) (by kernel_rfl) (by kernel_rfl) (no_loops (by kernel_rfl)) (by kernel_rfl) (by kernel_rfl) (by kernel_rfl)
  rw_S25 np_S25 no_S25 (by kernel_rfl) (Eq.mpr (show Vm.Tr.vc (Vm.Fn c39 Tryz.f41 body41 noLoop ([.agg [.int .u64 c.M, .int .u64 c.R]])) = S.cong_Cong_Wrapped_pre c by kernel_rfl) hp))
noncomputable def sem41 : List W → Option (W × List (List W) × List Prop)
 | [.agg [.int .u64 y1, .int .u64 y2]] => some (wr_S25 (S.cong_Cong_Wrapped ⟨y1, y2⟩), wo_S25 (S.cong_Cong_Wrapped ⟨y1, y2⟩), [S.cong_Cong_Wrapped_pre ⟨y1, y2⟩])
 | _ => none
noncomputable def c41 : Cfg El := c39.add 41 sem41
theorem c41_ok : CfgOk c41 := c39_ok.add (fun args w => Tryz.call41 args w) (fun vs r outs ps h hp => by
 unfold sem41 at h
 split at h
 ·rename_i y1 y2; cases h; exact fn41 ⟨y1, y2⟩ hp
 ·cases h)
noncomputable def body9 : Code := (Tryz.f9.body).getD .skip
theorem fn9 (op : Int) (a : S.Value) (b : S.Value) (hp : S.arith_Do_pre op a b) : CallOk c41 9 [.int .i64 op, .agg [.int .i64 a.I.Lo, .int .i64 a.I.Hi, .int .u64 a.C.M, .int .u64 a.C.R], .agg [.int .i64 b.I.Lo, .int .i64 b.I.Hi, .int .u64 b.C.M, .int .u64 b.C.R]] (wr_S27 (S.arith_Do op a b)) (wo_S27 (S.arith_Do op a b)) :=
 (call_ok (fn := Tryz.f9) (code := body9) (loop := noLoop) (md := ⟨false, false⟩) (rd := rd_S27) (wr := wr_S27) (wo := wo_S27) c41_ok (by kernel_rfl) (by kernel_rfl) (by kernel_rfl) (no_loops (by kernel_rfl)) (by kernel_rfl) (by kernel_rfl) (by kernel_rfl)
  rw_S27 np_S27 no_S27 (by kernel_rfl) (Eq.mpr (show Vm.Tr.vc (Vm.Fn c41 Tryz.f9 body9 noLoop ([.int .i64 op, .agg [.int .i64 a.I.Lo, .int .i64 a.I.Hi, .int .u64 a.C.M, .int .u64 a.C.R], .agg [.int .i64 b.I.Lo, .int .i64 b.I.Hi, .int .u64 b.C.M, .int .u64 b.C.R]])) = S.arith_Do_pre op a b by kernel_rfl) hp))
noncomputable def sem9 : List W → Option (W × List (List W) × List Prop)
 | [.int .i64 y1, .agg [.int .i64 y2, .int .i64 y3, .int .u64 y4, .int .u64 y5], .agg [.int .i64 y6, .int .i64 y7, .int .u64 y8, .int .u64 y9]] => some (wr_S27 (S.arith_Do y1 ⟨⟨y2, y3⟩, ⟨y4, y5⟩⟩ ⟨⟨y6, y7⟩, ⟨y8, y9⟩⟩), wo_S27 (S.arith_Do y1 ⟨⟨y2, y3⟩, ⟨y4, y5⟩⟩ ⟨⟨y6, y7⟩, ⟨y8, y9⟩⟩), [S.arith_Do_pre y1 ⟨⟨y2, y3⟩, ⟨y4, y5⟩⟩ ⟨⟨y6, y7⟩, ⟨y8, y9⟩⟩])
 | _ => none
noncomputable def c9 : Cfg El := c41.add 9 sem9
theorem c9_ok : CfgOk c9 := c41_ok.add (fun args w => Tryz.call9 args w) (fun vs r outs ps h hp => by
 unfold sem9 at h
 split at h
 ·rename_i y1 y2 y3 y4 y5 y6 y7 y8 y9; cases h; exact fn9 y1 ⟨⟨y2, y3⟩, ⟨y4, y5⟩⟩ ⟨⟨y6, y7⟩, ⟨y8, y9⟩⟩ hp
 ·cases h)
noncomputable def body10 : Code := (Tryz.f10.body).getD .skip
theorem fn10 (a : S.Value) (hp : S.arith_Neg_pre a) : CallOk c9 10 [.agg [.int .i64 a.I.Lo, .int .i64 a.I.Hi, .int .u64 a.C.M, .int .u64 a.C.R]] (wr_S27 (S.arith_Neg a)) (wo_S27 (S.arith_Neg a)) :=
 (call_ok (fn := Tryz.f10) (code := body10) (loop := noLoop) (md := ⟨false, false⟩) (rd := rd_S27) (wr := wr_S27) (wo := wo_S27) c9_ok (by kernel_rfl) (by kernel_rfl) (by kernel_rfl) (no_loops (by kernel_rfl)) (by kernel_rfl) (by kernel_rfl) (by kernel_rfl)
  rw_S27 np_S27 no_S27 (by kernel_rfl) (Eq.mpr (show Vm.Tr.vc (Vm.Fn c9 Tryz.f10 body10 noLoop ([.agg [.int .i64 a.I.Lo, .int .i64 a.I.Hi, .int .u64 a.C.M, .int .u64 a.C.R]])) = S.arith_Neg_pre a by kernel_rfl) hp))
noncomputable def sem10 : List W → Option (W × List (List W) × List Prop)
 | [.agg [.int .i64 y1, .int .i64 y2, .int .u64 y3, .int .u64 y4]] => some (wr_S27 (S.arith_Neg ⟨⟨y1, y2⟩, ⟨y3, y4⟩⟩), wo_S27 (S.arith_Neg ⟨⟨y1, y2⟩, ⟨y3, y4⟩⟩), [S.arith_Neg_pre ⟨⟨y1, y2⟩, ⟨y3, y4⟩⟩])
 | _ => none
noncomputable def c10 : Cfg El := c9.add 10 sem10
theorem c10_ok : CfgOk c10 := c9_ok.add (fun args w => Tryz.call10 args w) (fun vs r outs ps h hp => by
 unfold sem10 at h
 split at h
 ·rename_i y1 y2 y3 y4; cases h; exact fn10 ⟨⟨y1, y2⟩, ⟨y3, y4⟩⟩ hp
 ·cases h)
noncomputable def body107 : Code := (Tryz.f107.body).getD .skip
theorem fn107 (i : S.Inter) : CallOk c10 107 [.agg [.int .i64 i.Lo, .int .i64 i.Hi]] (wr_b (S.ref19_Empty i)) (wo_b (S.ref19_Empty i)) :=
 (call_ok (fn := Tryz.f107) (code := body107) (loop := noLoop) (md := ⟨false, false⟩) (rd := rd_b) (wr := wr_b) (wo := wo_b) c10_ok (by kernel_rfl) (by kernel_rfl) (by kernel_rfl) (no_loops (by kernel_rfl)) (by kernel_rfl) (by kernel_rfl) (by kernel_rfl)
  rw_b np_b no_b (by kernel_rfl) (Tr.vc_of_noReq (by kernel_rfl)))
noncomputable def sem107 : List W → Option (W × List (List W) × List Prop)
 | [.agg [.int .i64 y1, .int .i64 y2]] => some (wr_b (S.ref19_Empty ⟨y1, y2⟩), wo_b (S.ref19_Empty ⟨y1, y2⟩), [])
 | _ => none
noncomputable def c107 : Cfg El := c10.add 107 sem107
theorem c107_ok : CfgOk c107 := c10_ok.add (fun args w => Tryz.call107 args w) (fun vs r outs ps h hp => by
 unfold sem107 at h
 split at h
 ·rename_i y1 y2; cases h; exact fn107 ⟨y1, y2⟩
 ·cases h)
noncomputable def body44 : Code := (Tryz.f44.body).getD .skip
theorem fn44 : CallOk c107 44 [] (wr_S31 (S.ref21_Bottom)) (wo_S31 (S.ref21_Bottom)) :=
 (call_ok (fn := Tryz.f44) (code := body44) (loop := noLoop) (md := ⟨false, false⟩) (rd := rd_S31) (wr := wr_S31) (wo := wo_S31) c107_ok (by kernel_rfl) (by kernel_rfl) (by kernel_rfl) (no_loops (by kernel_rfl)) (by kernel_rfl) (by kernel_rfl) (by kernel_rfl)
  rw_S31 np_S31 no_S31 (by kernel_rfl) (Tr.vc_of_noReq (by kernel_rfl)))
noncomputable def sem44 : List W → Option (W × List (List W) × List Prop)
 | [] => some (wr_S31 (S.ref21_Bottom), wo_S31 (S.ref21_Bottom), [])
 | _ => none
noncomputable def c44 : Cfg El := c107.add 44 sem44
theorem c44_ok : CfgOk c44 := c107_ok.add (fun args w => Tryz.call44 args w) (fun vs r outs ps h hp => by
 unfold sem44 at h
 split at h
 ·cases h; exact fn44
 ·cases h)
noncomputable def body108 : Code := (Tryz.f108.body).getD .skip
theorem fn108 (i : S.Inter) (n : Int) : CallOk c44 108 [.agg [.int .i64 i.Lo, .int .i64 i.Hi], .int .i64 n] (wr_b (S.ref19_Has i n)) (wo_b (S.ref19_Has i n)) :=
 (call_ok (fn := Tryz.f108) (code := body108) (loop := noLoop) (md := ⟨false, false⟩) (rd := rd_b) (wr := wr_b) (wo := wo_b) c44_ok (by kernel_rfl) (by kernel_rfl) (by kernel_rfl) (no_loops (by kernel_rfl)) (by kernel_rfl) (by kernel_rfl) (by kernel_rfl)
  rw_b np_b no_b (by kernel_rfl) (Tr.vc_of_noReq (by kernel_rfl)))
noncomputable def sem108 : List W → Option (W × List (List W) × List Prop)
 | [.agg [.int .i64 y1, .int .i64 y2], .int .i64 y3] => some (wr_b (S.ref19_Has ⟨y1, y2⟩ y3), wo_b (S.ref19_Has ⟨y1, y2⟩ y3), [])
 | _ => none
noncomputable def c108 : Cfg El := c44.add 108 sem108
theorem c108_ok : CfgOk c108 := c44_ok.add (fun args w => Tryz.call108 args w) (fun vs r outs ps h hp => by
 unfold sem108 at h
 split at h
 ·rename_i y1 y2 y3; cases h; exact fn108 ⟨y1, y2⟩ y3
 ·cases h)
noncomputable def body162 : Code := (Tryz.f162.body).getD .skip
theorem fn162 (n : Int) (m : Int) (hp : S.ref20_Rest_pre n m) : CallOk c108 162 [.int .i64 n, .int .u64 m] (wr_u64 (S.ref20_Rest n m)) (wo_u64 (S.ref20_Rest n m)) :=
 (call_ok (fn := Tryz.f162) (code := body162) (loop := noLoop) (md := ⟨false, false⟩) (rd := rd_u64) (wr := wr_u64) (wo := wo_u64) c108_ok (by kernel_rfl) (by kernel_rfl) (by kernel_rfl) (no_loops (by kernel_rfl)) (by kernel_rfl) (by kernel_rfl) (by kernel_rfl)
  rw_u64 np_u64 no_u64 (by kernel_rfl) (Eq.mpr (show Vm.Tr.vc (Vm.Fn c108 Tryz.f162 body162 noLoop ([.int .i64 n, .int .u64 m])) = S.ref20_Rest_pre n m by kernel_rfl) hp))
noncomputable def sem162 : List W → Option (W × List (List W) × List Prop)
 | [.int .i64 y1, .int .u64 y2] => some (wr_u64 (S.ref20_Rest y1 y2), wo_u64 (S.ref20_Rest y1 y2), [S.ref20_Rest_pre y1 y2])
 | _ => none
noncomputable def c162 : Cfg El := c108.add 162 sem162
theorem c162_ok : CfgOk c162 := c108_ok.add (fun args w => Tryz.call162 args w) (fun vs r outs ps h hp => by
 unfold sem162 at h
 split at h
 ·rename_i y1 y2; cases h; exact fn162 y1 y2 hp
 ·cases h)
noncomputable def body100 : Code := (Tryz.f100.body).getD .skip
theorem fn100 (m : Int) (n : Int) (hp : S.ref20_Make_pre m n) : CallOk c162 100 [.int .u64 m, .int .i64 n] (wr_S25 (S.ref20_Make m n)) (wo_S25 (S.ref20_Make m n)) :=
 (call_ok (fn := Tryz.f100) (code := body100) (loop := noLoop) (md := ⟨false, false⟩) (rd := rd_S25) (wr := wr_S25) (wo := wo_S25) c162_ok (by kernel_rfl) (by kernel_rfl) (by kernel_rfl) (no_loops (by kernel_rfl)) (by kernel_rfl) (by kernel_rfl) (by kernel_rfl)
  rw_S25 np_S25 no_S25 (by kernel_rfl) (Eq.mpr (show Vm.Tr.vc (Vm.Fn c162 Tryz.f100 body100 noLoop ([.int .u64 m, .int .i64 n])) = S.ref20_Make_pre m n by kernel_rfl) hp))
noncomputable def sem100 : List W → Option (W × List (List W) × List Prop)
 | [.int .u64 y1, .int .i64 y2] => some (wr_S25 (S.ref20_Make y1 y2), wo_S25 (S.ref20_Make y1 y2), [S.ref20_Make_pre y1 y2])
 | _ => none
noncomputable def c100 : Cfg El := c162.add 100 sem100
theorem c100_ok : CfgOk c100 := c162_ok.add (fun args w => Tryz.call100 args w) (fun vs r outs ps h hp => by
 unfold sem100 at h
 split at h
 ·rename_i y1 y2; cases h; exact fn100 y1 y2 hp
 ·cases h)
noncomputable def body47 : Code := (Tryz.f47.body).getD .skip
theorem fn47 (n : Int) (hp : S.ref21_One_pre n) : CallOk c100 47 [.int .i64 n] (wr_S31 (S.ref21_One n)) (wo_S31 (S.ref21_One n)) :=
 (call_ok (fn := Tryz.f47) (code := body47) (loop := noLoop) (md := ⟨false, false⟩) (rd := rd_S31) (wr := wr_S31) (wo := wo_S31) c100_ok (by kernel_rfl) (by kernel_rfl) (by kernel_rfl) (no_loops (by kernel_rfl)) (by kernel_rfl) (by kernel_rfl) (by kernel_rfl)
  rw_S31 np_S31 no_S31 (by kernel_rfl) (Eq.mpr (show Vm.Tr.vc (Vm.Fn c100 Tryz.f47 body47 noLoop ([.int .i64 n])) = S.ref21_One_pre n by kernel_rfl) hp))
noncomputable def sem47 : List W → Option (W × List (List W) × List Prop)
 | [.int .i64 y1] => some (wr_S31 (S.ref21_One y1), wo_S31 (S.ref21_One y1), [S.ref21_One_pre y1])
 | _ => none
noncomputable def c47 : Cfg El := c100.add 47 sem47
theorem c47_ok : CfgOk c47 := c100_ok.add (fun args w => Tryz.call47 args w) (fun vs r outs ps h hp => by
 unfold sem47 at h
 split at h
 ·rename_i y1; cases h; exact fn47 y1 hp
 ·cases h)
noncomputable def body109 : Code := (Tryz.f109.body).getD .skip
theorem fn109 (c : S.Cong) (n : Int) (hp : S.ref21_up_pre c n) : CallOk c47 109 [.agg [.int .u64 c.M, .int .u64 c.R], .int .i64 n] (wr_u64 (S.ref21_up c n)) (wo_u64 (S.ref21_up c n)) :=
 (call_ok (fn := Tryz.f109) (code := body109) (loop := noLoop) (md := ⟨false, false⟩) (rd := rd_u64) (wr := wr_u64) (wo := wo_u64) c47_ok (by kernel_rfl) (by kernel_rfl) (by kernel_rfl) (no_loops (by kernel_rfl)) (by kernel_rfl) (by kernel_rfl) (by kernel_rfl)
  rw_u64 np_u64 no_u64 (by kernel_rfl) (Eq.mpr (show Vm.Tr.vc (Vm.Fn c47 Tryz.f109 body109 noLoop ([.agg [.int .u64 c.M, .int .u64 c.R], .int .i64 n])) = S.ref21_up_pre c n by kernel_rfl) hp))
noncomputable def sem109 : List W → Option (W × List (List W) × List Prop)
 | [.agg [.int .u64 y1, .int .u64 y2], .int .i64 y3] => some (wr_u64 (S.ref21_up ⟨y1, y2⟩ y3), wo_u64 (S.ref21_up ⟨y1, y2⟩ y3), [S.ref21_up_pre ⟨y1, y2⟩ y3])
 | _ => none
noncomputable def c109 : Cfg El := c47.add 109 sem109
theorem c109_ok : CfgOk c109 := c47_ok.add (fun args w => Tryz.call109 args w) (fun vs r outs ps h hp => by
 unfold sem109 at h
 split at h
 ·rename_i y1 y2 y3; cases h; exact fn109 ⟨y1, y2⟩ y3 hp
 ·cases h)
noncomputable def body110 : Code := (Tryz.f110.body).getD .skip
theorem fn110 (c : S.Cong) (n : Int) (hp : S.ref21_down_pre c n) : CallOk c109 110 [.agg [.int .u64 c.M, .int .u64 c.R], .int .i64 n] (wr_u64 (S.ref21_down c n)) (wo_u64 (S.ref21_down c n)) :=
 (call_ok (fn := Tryz.f110) (code := body110) (loop := noLoop) (md := ⟨false, false⟩) (rd := rd_u64) (wr := wr_u64) (wo := wo_u64) c109_ok (by kernel_rfl) (by kernel_rfl) (by kernel_rfl) (no_loops (by kernel_rfl)) (by kernel_rfl) (by kernel_rfl) (by kernel_rfl)
  rw_u64 np_u64 no_u64 (by kernel_rfl) (Eq.mpr (show Vm.Tr.vc (Vm.Fn c109 Tryz.f110 body110 noLoop ([.agg [.int .u64 c.M, .int .u64 c.R], .int .i64 n])) = S.ref21_down_pre c n by kernel_rfl) hp))
noncomputable def sem110 : List W → Option (W × List (List W) × List Prop)
 | [.agg [.int .u64 y1, .int .u64 y2], .int .i64 y3] => some (wr_u64 (S.ref21_down ⟨y1, y2⟩ y3), wo_u64 (S.ref21_down ⟨y1, y2⟩ y3), [S.ref21_down_pre ⟨y1, y2⟩ y3])
 | _ => none
noncomputable def c110 : Cfg El := c109.add 110 sem110
theorem c110_ok : CfgOk c110 := c109_ok.add (fun args w => Tryz.call110 args w) (fun vs r outs ps h hp => by
 unfold sem110 at h
 split at h
 ·rename_i y1 y2 y3; cases h; exact fn110 ⟨y1, y2⟩ y3 hp
 ·cases h)
noncomputable def body52 : Code := (Tryz.f52.body).getD .skip
theorem fn52 (i : S.Inter) (c : S.Cong) (hp : S.ref21_Make_pre i c) : CallOk c110 52 [.agg [.int .i64 i.Lo, .int .i64 i.Hi], .agg [.int .u64 c.M, .int .u64 c.R]] (wr_S31 (S.ref21_Make i c)) (wo_S31 (S.ref21_Make i c)) :=
 (call_ok (fn := Tryz.f52) (code := body52) (loop := noLoop) (md := ⟨false, false⟩) (rd := rd_S31) (wr := wr_S31) (wo := wo_S31) c110_ok (by kernel_rfl) (by kernel_rfl) (by kernel_rfl) (no_loops (by kernel_rfl)) (by kernel_rfl) (by kernel_rfl) (by kernel_rfl)
  rw_S31 np_S31 no_S31 (by kernel_rfl) (Eq.mpr (show Vm.Tr.vc (Vm.Fn c110 Tryz.f52 body52 noLoop ([.agg [.int .i64 i.Lo, .int .i64 i.Hi], .agg [.int .u64 c.M, .int .u64 c.R]])) = S.ref21_Make_pre i c by kernel_rfl) hp))
noncomputable def sem52 : List W → Option (W × List (List W) × List Prop)
 | [.agg [.int .i64 y1, .int .i64 y2], .agg [.int .u64 y3, .int .u64 y4]] => some (wr_S31 (S.ref21_Make ⟨y1, y2⟩ ⟨y3, y4⟩), wo_S31 (S.ref21_Make ⟨y1, y2⟩ ⟨y3, y4⟩), [S.ref21_Make_pre ⟨y1, y2⟩ ⟨y3, y4⟩])
 | _ => none
noncomputable def c52 : Cfg El := c110.add 52 sem52
theorem c52_ok : CfgOk c52 := c110_ok.add (fun args w => Tryz.call52 args w) (fun vs r outs ps h hp => by
 unfold sem52 at h
 split at h
 ·rename_i y1 y2 y3 y4; cases h; exact fn52 ⟨y1, y2⟩ ⟨y3, y4⟩ hp
 ·cases h)
noncomputable def body43 : Code := (Tryz.f43.body).getD .skip
theorem fn43 (v : S.Value) (hp : S.ref21_Plain_pre v) : CallOk c52 43 [.agg [.int .i64 v.I.Lo, .int .i64 v.I.Hi, .int .u64 v.C.M, .int .u64 v.C.R]] (wr_S31 (S.ref21_Plain v)) (wo_S31 (S.ref21_Plain v)) :=
 (call_ok (fn := Tryz.f43) (code := body43) (loop := noLoop) (md := ⟨false, false⟩) (rd := rd_S31) (wr := wr_S31) (wo := wo_S31) c52_ok (by kernel_rfl) (by kernel_rfl) (by kernel_rfl) (no_loops (by kernel_rfl)) (by kernel_rfl) (by kernel_rfl) (by kernel_rfl)
  rw_S31 np_S31 no_S31 (by kernel_rfl) (Eq.mpr (show Vm.Tr.vc (Vm.Fn c52 Tryz.f43 body43 noLoop ([.agg [.int .i64 v.I.Lo, .int .i64 v.I.Hi, .int .u64 v.C.M, .int .u64 v.C.R]])) = S.ref21_Plain_pre v by kernel_rfl) hp))
noncomputable def sem43 : List W → Option (W × List (List W) × List Prop)
 | [.agg [.int .i64 y1, .int .i64 y2, .int .u64 y3, .int .u64 y4]] => some (wr_S31 (S.ref21_Plain ⟨⟨y1, y2⟩, ⟨y3, y4⟩⟩), wo_S31 (S.ref21_Plain ⟨⟨y1, y2⟩, ⟨y3, y4⟩⟩), [S.ref21_Plain_pre ⟨⟨y1, y2⟩, ⟨y3, y4⟩⟩])
 | _ => none
noncomputable def c43 : Cfg El := c52.add 43 sem43
theorem c43_ok : CfgOk c43 := c52_ok.add (fun args w => Tryz.call43 args w) (fun vs r outs ps h hp => by
 unfold sem43 at h
 split at h
 ·rename_i y1 y2 y3 y4; cases h; exact fn43 ⟨⟨y1, y2⟩, ⟨y3, y4⟩⟩ hp
 ·cases h)
noncomputable def body89 : Code := (Tryz.f89.body).getD .skip
theorem fn89 : CallOk c43 89 [] (wr_i64 (S.ref19_Least)) (wo_i64 (S.ref19_Least)) :=
 (call_ok (fn := Tryz.f89) (code := body89) (loop := noLoop) (md := ⟨false, false⟩) (rd := rd_i64) (wr := wr_i64) (wo := wo_i64) c43_ok (by kernel_rfl) (by kernel_rfl) (by kernel_rfl) (no_loops (by kernel_rfl)) (by kernel_rfl) (by kernel_rfl) (by kernel_rfl)
  rw_i64 np_i64 no_i64 (by kernel_rfl) (Tr.vc_of_noReq (by kernel_rfl)))
noncomputable def sem89 : List W → Option (W × List (List W) × List Prop)
 | [] => some (wr_i64 (S.ref19_Least), wo_i64 (S.ref19_Least), [])
 | _ => none
noncomputable def c89 : Cfg El := c43.add 89 sem89
theorem c89_ok : CfgOk c89 := c43_ok.add (fun args w => Tryz.call89 args w) (fun vs r outs ps h hp => by
 unfold sem89 at h
 split at h
 ·cases h; exact fn89
 ·cases h)
noncomputable def body90 : Code := (Tryz.f90.body).getD .skip
theorem fn90 : CallOk c89 90 [] (wr_i64 (S.ref19_Most)) (wo_i64 (S.ref19_Most)) :=
 (call_ok (fn := Tryz.f90) (code := body90) (loop := noLoop) (md := ⟨false, false⟩) (rd := rd_i64) (wr := wr_i64) (wo := wo_i64) c89_ok (by kernel_rfl) (by kernel_rfl) (by kernel_rfl) (no_loops (by kernel_rfl)) (by kernel_rfl) (by kernel_rfl) (by kernel_rfl)
  rw_i64 np_i64 no_i64 (by kernel_rfl) (Tr.vc_of_noReq (by kernel_rfl)))
noncomputable def sem90 : List W → Option (W × List (List W) × List Prop)
 | [] => some (wr_i64 (S.ref19_Most), wo_i64 (S.ref19_Most), [])
 | _ => none
noncomputable def c90 : Cfg El := c89.add 90 sem90
theorem c90_ok : CfgOk c90 := c89_ok.add (fun args w => Tryz.call90 args w) (fun vs r outs ps h hp => by
 unfold sem90 at h
 split at h
 ·cases h; exact fn90
 ·cases h)
noncomputable def body45 : Code := (Tryz.f45.body).getD .skip
theorem fn45 : CallOk c90 45 [] (wr_S31 (S.ref21_Top)) (wo_S31 (S.ref21_Top)) :=
 (call_ok (fn := Tryz.f45) (code := body45) (loop := noLoop) (md := ⟨false, false⟩) (rd := rd_S31) (wr := wr_S31) (wo := wo_S31) c90_ok (by kernel_rfl) (by kernel_rfl) (by kernel_rfl) (no_loops (by kernel_rfl)) (by kernel_rfl) (by kernel_rfl) (by kernel_rfl)
  rw_S31 np_S31 no_S31 (by kernel_rfl) (Tr.vc_of_noReq (by kernel_rfl)))
noncomputable def sem45 : List W → Option (W × List (List W) × List Prop)
 | [] => some (wr_S31 (S.ref21_Top), wo_S31 (S.ref21_Top), [])
 | _ => none
noncomputable def c45 : Cfg El := c90.add 45 sem45
theorem c45_ok : CfgOk c45 := c90_ok.add (fun args w => Tryz.call45 args w) (fun vs r outs ps h hp => by
 unfold sem45 at h
 split at h
 ·cases h; exact fn45
 ·cases h)
noncomputable def body91 : Code := (Tryz.f91.body).getD .skip
theorem fn91 (x : Bool) : CallOk c45 91 [.bool x] (wr_i64 (S.ref09_bit x)) (wo_i64 (S.ref09_bit x)) :=
 (call_ok (fn := Tryz.f91) (code := body91) (loop := noLoop) (md := ⟨false, false⟩) (rd := rd_i64) (wr := wr_i64) (wo := wo_i64) c45_ok (by kernel_rfl) (by kernel_rfl) (by kernel_rfl) (no_loops (by kernel_rfl)) (by kernel_rfl) (by kernel_rfl) (by kernel_rfl)
  rw_i64 np_i64 no_i64 (by kernel_rfl) (Tr.vc_of_noReq (by kernel_rfl)))
noncomputable def sem91 : List W → Option (W × List (List W) × List Prop)
 | [.bool y1] => some (wr_i64 (S.ref09_bit y1), wo_i64 (S.ref09_bit y1), [])
 | _ => none
noncomputable def c91 : Cfg El := c45.add 91 sem91
theorem c91_ok : CfgOk c91 := c45_ok.add (fun args w => Tryz.call91 args w) (fun vs r outs ps h hp => by
 unfold sem91 at h
 split at h
 ·rename_i y1; cases h; exact fn91 y1
 ·cases h)
noncomputable def rd_A156 : W → List (List W) → Option ((List Int))
 | .arr 3 false 64 x1, [] => some x1
 | _, _ => none
noncomputable def wr_A156 (x : (List Int)) : W := .arr 3 false 64 x
noncomputable def wo_A156 (_x : (List Int)) : List (List W) := []
theorem rw_A156 (v : W) (os : List (List W)) (x : (List Int)) (h : rd_A156 v os = some x) : v = wr_A156 x ∧ os = wo_A156 x := by
 unfold rd_A156 at h
 split at h <;> first | (cases h; exact ⟨rfl, rfl⟩) | cases h
theorem np_A156 (x : (List Int)) : okv (fun _ => false) (wr_A156 x) = true := rfl
theorem no_A156 (x : (List Int)) : all (fun cs => all (ok0 fun _ => false) cs) (wo_A156 x) = true := rfl
noncomputable def body158 : Code := (Tryz.f158.body).getD .skip
noncomputable def lb158_0 : Code := ((nth (loopsOf 0 body158) 0).getD (0, .skip)).2
noncomputable def px158_0 : List W → Option S.ref09_digits_L0
 | [.ptr 3 0, .int .u64 y1, .int .i64 y2, .rowc 3 false (some 64) y3] => some ⟨y1, y2, y3⟩
 | _ => none
noncomputable def tx158_0 (x : S.ref09_digits_L0) : List W := [.ptr 3 0, .int .u64 x.u, .int .i64 x.i, .rowc 3 false (some 64) x.out]
noncomputable def py158_0 : Ex → List W → Option (S.ref09_digits_L0)
 | .exit 0, [.ptr 3 0, .int .u64 y1, .int .i64 y2, .rowc 3 false (some 64) y3] => some ⟨y1, y2, y3⟩
 | _, _ => none
noncomputable def ld158_0 : LD El where
 X := S.ref09_digits_L0
 Y := S.ref09_digits_L0
 keys := [.slot 3, .slot 4, .slot 5, .row 3]
 fits := [0, 24, 3, 0]
 px := px158_0
 tx := tx158_0
 okeys := [.slot 3, .slot 4, .slot 5, .row 3]
 ofits := [0, 24, 3, 0]
 py := py158_0
 ty := fun y => tx158_0 y
 oex := fun _ => .exit 0
 junk := [.slot 8, .slot 9, .slot 10, .slot 11, .slot 12, .slot 13, .slot 14, .slot 15, .slot 16, .slot 17, .slot 18]
 rows := []
noncomputable def lo158_0 : S.ref09_digits_L0 → Tr El := fun y => .leaf (.exit 0) (zipK ld158_0.okeys (tx158_0 y) ++ junkK ld158_0.junk)
noncomputable def loop158 : Nat → Env El → Tr El
 | 0 => ld158_0.tree c91 Tryz.f158.ntmps 0 lb158_0 S.ref09_digits_L0_run lo158_0 S.ref09_digits_L0_step S.ref09_digits_L0_vcs
 | _ => fun _ => .fail
theorem lok158_0 : ∀ w0 S0, LoopOk c91 Tryz.f158.ntmps w0 S0 loop158 0 lb158_0 :=
 loop_ok (c := c91) (n := Tryz.f158.ntmps) c91_ok mixed ld158_0 (body := lb158_0) (key := 0) (loop := loop158) (F := S.ref09_digits_L0_run) (out := lo158_0) (step := S.ref09_digits_L0_step) (vcs := S.ref09_digits_L0_vcs)
  (fun _ => by kernel_rfl) (no_loops (by kernel_rfl)) rfl rfl
  (fun vs x h => by unfold ld158_0 px158_0 at h; dsimp only at h; split at h <;> first | (cases h; rfl) | cases h)
  (fun e vs y h => by unfold ld158_0 py158_0 at h; dsimp only at h; split at h <;> first | (cases h; exact ⟨rfl, rfl⟩) | cases h)
  (by kernel_rfl) (fun _ => rfl) (fun _ _ h => h) (fun x => by kernel_rfl) (fun x h => Eq.mpr (show Vm.Tr.vc (Vm.ev c91 Tryz.f158.ntmps loop158 0 lb158_0 (ld158_0.vars x) []) = S.ref09_digits_L0_vcs x by kernel_rfl) h)
theorem fn158 (n : Int) (hp : S.ref09_digits_pre n) : CallOk c91 158 [.int .i64 n] (wr_A156 (S.ref09_digits n)) (wo_A156 (S.ref09_digits n)) :=
 (call_ok (fn := Tryz.f158) (code := body158) (loop := loop158) (md := ⟨false, false⟩) (rd := rd_A156) (wr := wr_A156) (wo := wo_A156) c91_ok (by kernel_rfl) (by kernel_rfl) (by kernel_rfl) (loops_all (l := [(0, lb158_0)]) (by kernel_rfl) ⟨lok158_0, trivial⟩) (by kernel_rfl) (by kernel_rfl) (by kernel_rfl)
  rw_A156 np_A156 no_A156 (by kernel_rfl) (Eq.mpr (show Vm.Tr.vc (Vm.Fn c91 Tryz.f158 body158 loop158 ([.int .i64 n])) = S.ref09_digits_pre n by kernel_rfl) hp))
noncomputable def sem158 : List W → Option (W × List (List W) × List Prop)
 | [.int .i64 y1] => some (wr_A156 (S.ref09_digits y1), wo_A156 (S.ref09_digits y1), [S.ref09_digits_pre y1])
 | _ => none
noncomputable def c158 : Cfg El := c91.add 158 sem158
theorem c158_ok : CfgOk c158 := c91_ok.add (fun args w => Tryz.call158 args w) (fun vs r outs ps h hp => by
 unfold sem158 at h
 split at h
 ·rename_i y1; cases h; exact fn158 y1 hp
 ·cases h)
noncomputable def body92 : Code := (Tryz.f92.body).getD .skip
noncomputable def lb92_0 : Code := ((nth (loopsOf 0 body92) 0).getD (0, .skip)).2
noncomputable def px92_0 : List W → Option S.ref09_less_L0
 | [.bool y1, .ptr 5 0, .ptr 6 0, .int .i64 y2, .rowc 3 false (some 64) y3, .rowc 3 false (some 64) y4] => some ⟨y1, y2, y3, y4⟩
 | _ => none
noncomputable def tx92_0 (x : S.ref09_less_L0) : List W := [.bool x.t4, .ptr 5 0, .ptr 6 0, .int .i64 x.i, .rowc 3 false (some 64) x.vx, .rowc 3 false (some 64) x.y]
noncomputable def py92_0 : Ex → List W → Option (Bool × S.ref09_less_L0)
 | .ret, [.bool y1, .ptr 5 0, .ptr 6 0, .int .i64 y2, .rowc 3 false (some 64) y3, .rowc 3 false (some 64) y4] => some ⟨true, ⟨y1, y2, y3, y4⟩⟩
 | .exit 0, [.bool y1, .ptr 5 0, .ptr 6 0, .int .i64 y2, .rowc 3 false (some 64) y3, .rowc 3 false (some 64) y4] => some ⟨false, ⟨y1, y2, y3, y4⟩⟩
 | _, _ => none
noncomputable def ld92_0 : LD El where
 X := S.ref09_less_L0
 Y := Bool × S.ref09_less_L0
 keys := [.slot 4, .slot 5, .slot 6, .slot 7, .row 5, .row 6]
 fits := [4, 0, 0, 3, 0, 0]
 px := px92_0
 tx := tx92_0
 okeys := [.slot 4, .slot 5, .slot 6, .slot 7, .row 5, .row 6]
 ofits := [4, 0, 0, 3, 0, 0]
 py := py92_0
 ty := fun y => bif y.1 then tx92_0 y.2 else tx92_0 y.2
 oex := fun y => bif y.1 then .ret else .exit 0
 junk := [.slot 20, .slot 21, .slot 22, .slot 23, .slot 24, .slot 25, .slot 26, .slot 27, .slot 28, .slot 29, .slot 30, .slot 31, .slot 32, .slot 33, .slot 34, .slot 35, .slot 36, .slot 37]
 rows := []
noncomputable def lo92_0 : (Bool × S.ref09_less_L0) → Tr El := fun y => .node y.1 (.leaf (.ret) (zipK ld92_0.okeys (tx92_0 y.2) ++ junkK ld92_0.junk)) (.leaf (.exit 0) (zipK ld92_0.okeys (tx92_0 y.2) ++ junkK ld92_0.junk))
noncomputable def loop92 : Nat → Env El → Tr El
 | 0 => ld92_0.tree c158 Tryz.f92.ntmps 0 lb92_0 S.ref09_less_L0_run lo92_0 S.ref09_less_L0_step S.ref09_less_L0_vcs
 | _ => fun _ => .fail
theorem lok92_0 : ∀ w0 S0, LoopOk c158 Tryz.f92.ntmps w0 S0 loop92 0 lb92_0 :=
 loop_ok (c := c158) (n := Tryz.f92.ntmps) c158_ok mixed ld92_0 (body := lb92_0) (key := 0) (loop := loop92) (F := S.ref09_less_L0_run) (out := lo92_0) (step := S.ref09_less_L0_step) (vcs := S.ref09_less_L0_vcs)
  (fun _ => by kernel_rfl) (no_loops (by kernel_rfl)) rfl rfl
  (fun vs x h => by unfold ld92_0 px92_0 at h; dsimp only at h; split at h <;> first | (cases h; rfl) | cases h)
  (fun e vs y h => by unfold ld92_0 py92_0 at h; dsimp only at h; split at h <;> first | (cases h; exact ⟨rfl, rfl⟩) | cases h)
  (by kernel_rfl) (fun | (true, _) => rfl | (false, _) => rfl) (fun | (true, _), _, h => h.1 rfl | (false, _), _, h => h.2 rfl) (fun x => by kernel_rfl) (fun x h => Eq.mpr (show Vm.Tr.vc (Vm.ev c158 Tryz.f92.ntmps loop92 0 lb92_0 (ld92_0.vars x) []) = S.ref09_less_L0_vcs x by kernel_rfl) h)
theorem fn92 (a : Int) (b : Int) (hp : S.ref09_less_pre a b) : CallOk c158 92 [.int .i64 a, .int .i64 b] (wr_b (S.ref09_less a b)) (wo_b (S.ref09_less a b)) :=
 (call_ok (fn := Tryz.f92) (code := body92) (loop := loop92) (md := ⟨false, false⟩) (rd := rd_b) (wr := wr_b) (wo := wo_b) c158_ok (by kernel_rfl) (by kernel_rfl) (by kernel_rfl) (loops_all (l := [(0, lb92_0)]) (by kernel_rfl) ⟨lok92_0, trivial⟩) (by kernel_rfl) (by kernel_rfl) (by kernel_rfl)
  rw_b np_b no_b (by kernel_rfl) (Eq.mpr (show Vm.Tr.vc (Vm.Fn c158 Tryz.f92 body92 loop92 ([.int .i64 a, .int .i64 b])) = S.ref09_less_pre a b by kernel_rfl) hp))
noncomputable def sem92 : List W → Option (W × List (List W) × List Prop)
 | [.int .i64 y1, .int .i64 y2] => some (wr_b (S.ref09_less y1 y2), wo_b (S.ref09_less y1 y2), [S.ref09_less_pre y1 y2])
 | _ => none
noncomputable def c92 : Cfg El := c158.add 92 sem92
theorem c92_ok : CfgOk c92 := c158_ok.add (fun args w => Tryz.call92 args w) (fun vs r outs ps h hp => by
 unfold sem92 at h
 split at h
 ·rename_i y1 y2; cases h; exact fn92 y1 y2 hp
 ·cases h)
noncomputable def body159 : Code := (Tryz.f159.body).getD .skip
noncomputable def lb159_0 : Code := ((nth (loopsOf 0 body159) 0).getD (0, .skip)).2
noncomputable def px159_0 : List W → Option S.ref09_number_L0
 | [.ptr 1 0, .int .u64 y1, .int .i64 y2, .rowc 3 false (some 64) y3] => some ⟨y1, y2, y3⟩
 | _ => none
noncomputable def tx159_0 (x : S.ref09_number_L0) : List W := [.ptr 1 0, .int .u64 x.u, .int .i64 x.i, .rowc 3 false (some 64) x.d]
noncomputable def py159_0 : Ex → List W → Option (S.ref09_number_L0)
 | .exit 0, [.ptr 1 0, .int .u64 y1, .int .i64 y2, .rowc 3 false (some 64) y3] => some ⟨y1, y2, y3⟩
 | _, _ => none
noncomputable def ld159_0 : LD El where
 X := S.ref09_number_L0
 Y := S.ref09_number_L0
 keys := [.slot 1, .slot 3, .slot 4, .row 1]
 fits := [0, 24, 3, 0]
 px := px159_0
 tx := tx159_0
 okeys := [.slot 1, .slot 3, .slot 4, .row 1]
 ofits := [0, 24, 3, 0]
 py := py159_0
 ty := fun y => tx159_0 y
 oex := fun _ => .exit 0
 junk := [.slot 5, .slot 6, .slot 7, .slot 8, .slot 9, .slot 10, .slot 11, .slot 12, .slot 13, .slot 14, .slot 15]
 rows := []
noncomputable def lo159_0 : S.ref09_number_L0 → Tr El := fun y => .leaf (.exit 0) (zipK ld159_0.okeys (tx159_0 y) ++ junkK ld159_0.junk)
noncomputable def loop159 : Nat → Env El → Tr El
 | 0 => ld159_0.tree c92 Tryz.f159.ntmps 0 lb159_0 S.ref09_number_L0_run lo159_0 S.ref09_number_L0_step S.ref09_number_L0_vcs
 | _ => fun _ => .fail
theorem lok159_0 : ∀ w0 S0, LoopOk c92 Tryz.f159.ntmps w0 S0 loop159 0 lb159_0 :=
 loop_ok (c := c92) (n := Tryz.f159.ntmps) c92_ok mixed ld159_0 (body := lb159_0) (key := 0) (loop := loop159) (F := S.ref09_number_L0_run) (out := lo159_0) (step := S.ref09_number_L0_step) (vcs := S.ref09_number_L0_vcs)
  (fun _ => by kernel_rfl) (no_loops (by kernel_rfl)) rfl rfl
  (fun vs x h => by unfold ld159_0 px159_0 at h; dsimp only at h; split at h <;> first | (cases h; rfl) | cases h)
  (fun e vs y h => by unfold ld159_0 py159_0 at h; dsimp only at h; split at h <;> first | (cases h; exact ⟨rfl, rfl⟩) | cases h)
  (by kernel_rfl) (fun _ => rfl) (fun _ _ h => h) (fun x => by kernel_rfl) (fun x h => Eq.mpr (show Vm.Tr.vc (Vm.ev c92 Tryz.f159.ntmps loop159 0 lb159_0 (ld159_0.vars x) []) = S.ref09_number_L0_vcs x by kernel_rfl) h)
theorem fn159 (d : (List Int)) (hp : S.ref09_number_pre d) : CallOk c92 159 [.arr 3 false 64 d] (wr_i64 (S.ref09_number d)) (wo_i64 (S.ref09_number d)) :=
 (call_ok (fn := Tryz.f159) (code := body159) (loop := loop159) (md := ⟨false, false⟩) (rd := rd_i64) (wr := wr_i64) (wo := wo_i64) c92_ok (by kernel_rfl) (by kernel_rfl) (by kernel_rfl) (loops_all (l := [(0, lb159_0)]) (by kernel_rfl) ⟨lok159_0, trivial⟩) (by kernel_rfl) (by kernel_rfl) (by kernel_rfl)
  rw_i64 np_i64 no_i64 (by kernel_rfl) (Eq.mpr (show Vm.Tr.vc (Vm.Fn c92 Tryz.f159 body159 loop159 ([.arr 3 false 64 d])) = S.ref09_number_pre d by kernel_rfl) hp))
noncomputable def sem159 : List W → Option (W × List (List W) × List Prop)
 | [.arr 3 false 64 y1] => some (wr_i64 (S.ref09_number y1), wo_i64 (S.ref09_number y1), [S.ref09_number_pre y1])
 | _ => none
noncomputable def c159 : Cfg El := c92.add 159 sem159
theorem c159_ok : CfgOk c159 := c92_ok.add (fun args w => Tryz.call159 args w) (fun vs r outs ps h hp => by
 unfold sem159 at h
 split at h
 ·rename_i y1; cases h; exact fn159 y1 hp
 ·cases h)
noncomputable def body93 : Code := (Tryz.f93.body).getD .skip
noncomputable def lb93_0 : Code := ((nth (loopsOf 0 body93) 0).getD (0, .skip)).2
noncomputable def px93_0 : List W → Option S.ref09_each_L0
 | [.int .i64 y1, .ptr 7 0, .ptr 8 0, .ptr 9 0, .int .i64 y2, .rowc 3 false (some 64) y3, .rowc 3 false (some 64) y4, .rowc 3 false (some 64) y5] => some ⟨y1, y2, y3, y4, y5⟩
 | _ => none
noncomputable def tx93_0 (x : S.ref09_each_L0) : List W := [.int .i64 x.how, .ptr 7 0, .ptr 8 0, .ptr 9 0, .int .i64 x.i, .rowc 3 false (some 64) x.vx, .rowc 3 false (some 64) x.y, .rowc 3 false (some 64) x.out]
noncomputable def py93_0 : Ex → List W → Option (S.ref09_each_L0)
 | .exit 0, [.int .i64 y1, .ptr 7 0, .ptr 8 0, .ptr 9 0, .int .i64 y2, .rowc 3 false (some 64) y3, .rowc 3 false (some 64) y4, .rowc 3 false (some 64) y5] => some ⟨y1, y2, y3, y4, y5⟩
 | _, _ => none
noncomputable def ld93_0 : LD El where
 X := S.ref09_each_L0
 Y := S.ref09_each_L0
 keys := [.slot 2, .slot 7, .slot 8, .slot 9, .slot 10, .row 7, .row 8, .row 9]
 fits := [3, 0, 0, 0, 3, 0, 0, 0]
 px := px93_0
 tx := tx93_0
 okeys := [.slot 2, .slot 7, .slot 8, .slot 9, .slot 10, .row 7, .row 8, .row 9]
 ofits := [3, 0, 0, 0, 3, 0, 0, 0]
 py := py93_0
 ty := fun y => tx93_0 y
 oex := fun _ => .exit 0
 junk := [.slot 11, .slot 16, .slot 17, .slot 18, .slot 19, .slot 20, .slot 21, .slot 22, .slot 23, .slot 24, .slot 25, .slot 26, .slot 27, .slot 28, .slot 29, .slot 30, .slot 31, .slot 32, .slot 33, .slot 34, .slot 35, .slot 36, .slot 37, .slot 38, .slot 39, .slot 40, .slot 41, .slot 42, .slot 43, .slot 44, .slot 45, .slot 46, .slot 47, .slot 48, .slot 49, .slot 50]
 rows := []
noncomputable def lo93_0 : S.ref09_each_L0 → Tr El := fun y => .leaf (.exit 0) (zipK ld93_0.okeys (tx93_0 y) ++ junkK ld93_0.junk)
noncomputable def loop93 : Nat → Env El → Tr El
 | 0 => ld93_0.tree c159 Tryz.f93.ntmps 0 lb93_0 S.ref09_each_L0_run lo93_0 S.ref09_each_L0_step S.ref09_each_L0_vcs
 | _ => fun _ => .fail
theorem lok93_0 : ∀ w0 S0, LoopOk c159 Tryz.f93.ntmps w0 S0 loop93 0 lb93_0 :=
 loop_ok (c := c159) (n := Tryz.f93.ntmps) c159_ok mixed ld93_0 (body := lb93_0) (key := 0) (loop := loop93) (F := S.ref09_each_L0_run) (out := lo93_0) (step := S.ref09_each_L0_step) (vcs := S.ref09_each_L0_vcs)
  (fun _ => by kernel_rfl) (no_loops (by kernel_rfl)) rfl rfl
  (fun vs x h => by unfold ld93_0 px93_0 at h; dsimp only at h; split at h <;> first | (cases h; rfl) | cases h)
  (fun e vs y h => by unfold ld93_0 py93_0 at h; dsimp only at h; split at h <;> first | (cases h; exact ⟨rfl, rfl⟩) | cases h)
  (by kernel_rfl) (fun _ => rfl) (fun _ _ h => h) (fun x => by kernel_rfl) (fun x h => Eq.mpr (show Vm.Tr.vc (Vm.ev c159 Tryz.f93.ntmps loop93 0 lb93_0 (ld93_0.vars x) []) = S.ref09_each_L0_vcs x by kernel_rfl) h)
theorem fn93 (a : Int) (b : Int) (how : Int) (hp : S.ref09_each_pre a b how) : CallOk c159 93 [.int .i64 a, .int .i64 b, .int .i64 how] (wr_i64 (S.ref09_each a b how)) (wo_i64 (S.ref09_each a b how)) :=
 (call_ok (fn := Tryz.f93) (code := body93) (loop := loop93) (md := ⟨false, false⟩) (rd := rd_i64) (wr := wr_i64) (wo := wo_i64) c159_ok (by kernel_rfl) (by kernel_rfl) (by kernel_rfl) (loops_all (l := [(0, lb93_0)]) (by kernel_rfl) ⟨lok93_0, trivial⟩) (by kernel_rfl) (by kernel_rfl) (by kernel_rfl)
  rw_i64 np_i64 no_i64 (by kernel_rfl) (Eq.mpr (show Vm.Tr.vc (Vm.Fn c159 Tryz.f93 body93 loop93 ([.int .i64 a, .int .i64 b, .int .i64 how])) = S.ref09_each_pre a b how by kernel_rfl) hp))
noncomputable def sem93 : List W → Option (W × List (List W) × List Prop)
 | [.int .i64 y1, .int .i64 y2, .int .i64 y3] => some (wr_i64 (S.ref09_each y1 y2 y3), wo_i64 (S.ref09_each y1 y2 y3), [S.ref09_each_pre y1 y2 y3])
 | _ => none
noncomputable def c93 : Cfg El := c159.add 93 sem93
theorem c93_ok : CfgOk c93 := c159_ok.add (fun args w => Tryz.call93 args w) (fun vs r outs ps h hp => by
 unfold sem93 at h
 split at h
 ·rename_i y1 y2 y3; cases h; exact fn93 y1 y2 y3 hp
 ·cases h)
noncomputable def body95 : Code := (Tryz.f95.body).getD .skip
noncomputable def lb95_0 : Code := ((nth (loopsOf 0 body95) 0).getD (0, .skip)).2
noncomputable def px95_0 : List W → Option S.ref09_Shift_L0
 | [.ptr 3 0, .int .i64 y1, .int .i64 y2, .rowc 3 false (some 64) y3] => some ⟨y1, y2, y3⟩
 | _ => none
noncomputable def tx95_0 (x : S.ref09_Shift_L0) : List W := [.ptr 3 0, .int .i64 x.n, .int .i64 x.i, .rowc 3 false (some 64) x.d]
noncomputable def py95_0 : Ex → List W → Option (S.ref09_Shift_L0)
 | .exit 0, [.ptr 3 0, .int .i64 y1, .int .i64 y2, .rowc 3 false (some 64) y3] => some ⟨y1, y2, y3⟩
 | _, _ => none
noncomputable def ld95_0 : LD El where
 X := S.ref09_Shift_L0
 Y := S.ref09_Shift_L0
 keys := [.slot 3, .slot 4, .slot 5, .row 3]
 fits := [0, 3, 3, 0]
 px := px95_0
 tx := tx95_0
 okeys := [.slot 3, .slot 4, .slot 5, .row 3]
 ofits := [0, 3, 3, 0]
 py := py95_0
 ty := fun y => tx95_0 y
 oex := fun _ => .exit 0
 junk := [.slot 8, .slot 9, .slot 10, .slot 11, .slot 12, .slot 13, .slot 14, .slot 15, .slot 16, .slot 17]
 rows := []
noncomputable def lo95_0 : S.ref09_Shift_L0 → Tr El := fun y => .leaf (.exit 0) (zipK ld95_0.okeys (tx95_0 y) ++ junkK ld95_0.junk)
noncomputable def loop95 : Nat → Env El → Tr El
 | 0 => ld95_0.tree c93 Tryz.f95.ntmps 0 lb95_0 S.ref09_Shift_L0_run lo95_0 S.ref09_Shift_L0_step S.ref09_Shift_L0_vcs
 | _ => fun _ => .fail
theorem lok95_0 : ∀ w0 S0, LoopOk c93 Tryz.f95.ntmps w0 S0 loop95 0 lb95_0 :=
 loop_ok (c := c93) (n := Tryz.f95.ntmps) c93_ok mixed ld95_0 (body := lb95_0) (key := 0) (loop := loop95) (F := S.ref09_Shift_L0_run) (out := lo95_0) (step := S.ref09_Shift_L0_step) (vcs := S.ref09_Shift_L0_vcs)
  (fun _ => by kernel_rfl) (no_loops (by kernel_rfl)) rfl rfl
  (fun vs x h => by unfold ld95_0 px95_0 at h; dsimp only at h; split at h <;> first | (cases h; rfl) | cases h)
  (fun e vs y h => by unfold ld95_0 py95_0 at h; dsimp only at h; split at h <;> first | (cases h; exact ⟨rfl, rfl⟩) | cases h)
  (by kernel_rfl) (fun _ => rfl) (fun _ _ h => h) (fun x => by kernel_rfl) (fun x h => Eq.mpr (show Vm.Tr.vc (Vm.ev c93 Tryz.f95.ntmps loop95 0 lb95_0 (ld95_0.vars x) []) = S.ref09_Shift_L0_vcs x by kernel_rfl) h)
theorem fn95 (b : Int) (hp : S.ref09_Shift_pre b) : CallOk c93 95 [.int .i64 b] (wr_i64 (S.ref09_Shift b)) (wo_i64 (S.ref09_Shift b)) :=
 (call_ok (fn := Tryz.f95) (code := body95) (loop := loop95) (md := ⟨false, false⟩) (rd := rd_i64) (wr := wr_i64) (wo := wo_i64) c93_ok (by kernel_rfl) (by kernel_rfl) (by kernel_rfl) (loops_all (l := [(0, lb95_0)]) (by kernel_rfl) ⟨lok95_0, trivial⟩) (by kernel_rfl) (by kernel_rfl) (by kernel_rfl)
  rw_i64 np_i64 no_i64 (by kernel_rfl) (Eq.mpr (show Vm.Tr.vc (Vm.Fn c93 Tryz.f95 body95 loop95 ([.int .i64 b])) = S.ref09_Shift_pre b by kernel_rfl) hp))
noncomputable def sem95 : List W → Option (W × List (List W) × List Prop)
 | [.int .i64 y1] => some (wr_i64 (S.ref09_Shift y1), wo_i64 (S.ref09_Shift y1), [S.ref09_Shift_pre y1])
 | _ => none
noncomputable def c95 : Cfg El := c93.add 95 sem95
theorem c95_ok : CfgOk c95 := c93_ok.add (fun args w => Tryz.call95 args w) (fun vs r outs ps h hp => by
 unfold sem95 at h
 split at h
 ·rename_i y1; cases h; exact fn95 y1 hp
 ·cases h)
noncomputable def body94 : Code := (Tryz.f94.body).getD .skip
noncomputable def lb94_0 : Code := ((nth (loopsOf 0 body94) 0).getD (0, .skip)).2
noncomputable def px94_0 : List W → Option S.ref09_shift_L0
 | [.int .i64 y1, .ptr 5 0, .ptr 6 0, .int .i64 y2, .rowc 3 false (some 64) y3, .rowc 3 false (some 64) y4] => some ⟨y1, y2, y3, y4⟩
 | _ => none
noncomputable def tx94_0 (x : S.ref09_shift_L0) : List W := [.int .i64 x.vby, .ptr 5 0, .ptr 6 0, .int .i64 x.i, .rowc 3 false (some 64) x.vx, .rowc 3 false (some 64) x.out]
noncomputable def py94_0 : Ex → List W → Option (S.ref09_shift_L0)
 | .exit 0, [.int .i64 y1, .ptr 5 0, .ptr 6 0, .int .i64 y2, .rowc 3 false (some 64) y3, .rowc 3 false (some 64) y4] => some ⟨y1, y2, y3, y4⟩
 | _, _ => none
noncomputable def ld94_0 : LD El where
 X := S.ref09_shift_L0
 Y := S.ref09_shift_L0
 keys := [.slot 1, .slot 5, .slot 6, .slot 7, .row 5, .row 6]
 fits := [3, 0, 0, 3, 0, 0]
 px := px94_0
 tx := tx94_0
 okeys := [.slot 1, .slot 5, .slot 6, .slot 7, .row 5, .row 6]
 ofits := [3, 0, 0, 3, 0, 0]
 py := py94_0
 ty := fun y => tx94_0 y
 oex := fun _ => .exit 0
 junk := [.slot 8, .slot 11, .slot 12, .slot 13, .slot 14, .slot 15, .slot 16, .slot 17, .slot 18, .slot 19, .slot 20, .slot 21, .slot 22, .slot 23, .slot 24, .slot 25, .slot 26]
 rows := []
noncomputable def lo94_0 : S.ref09_shift_L0 → Tr El := fun y => .leaf (.exit 0) (zipK ld94_0.okeys (tx94_0 y) ++ junkK ld94_0.junk)
noncomputable def loop94 : Nat → Env El → Tr El
 | 0 => ld94_0.tree c95 Tryz.f94.ntmps 0 lb94_0 S.ref09_shift_L0_run lo94_0 S.ref09_shift_L0_step S.ref09_shift_L0_vcs
 | _ => fun _ => .fail
theorem lok94_0 : ∀ w0 S0, LoopOk c95 Tryz.f94.ntmps w0 S0 loop94 0 lb94_0 :=
 loop_ok (c := c95) (n := Tryz.f94.ntmps) c95_ok mixed ld94_0 (body := lb94_0) (key := 0) (loop := loop94) (F := S.ref09_shift_L0_run) (out := lo94_0) (step := S.ref09_shift_L0_step) (vcs := S.ref09_shift_L0_vcs)
  (fun _ => by kernel_rfl) (no_loops (by kernel_rfl)) rfl rfl
  (fun vs x h => by unfold ld94_0 px94_0 at h; dsimp only at h; split at h <;> first | (cases h; rfl) | cases h)
  (fun e vs y h => by unfold ld94_0 py94_0 at h; dsimp only at h; split at h <;> first | (cases h; exact ⟨rfl, rfl⟩) | cases h)
  (by kernel_rfl) (fun _ => rfl) (fun _ _ h => h) (fun x => by kernel_rfl) (fun x h => Eq.mpr (show Vm.Tr.vc (Vm.ev c95 Tryz.f94.ntmps loop94 0 lb94_0 (ld94_0.vars x) []) = S.ref09_shift_L0_vcs x by kernel_rfl) h)
theorem fn94 (a : Int) (a1 : Int) (hp : S.ref09_shift_pre a a1) : CallOk c95 94 [.int .i64 a, .int .i64 a1] (wr_i64 (S.ref09_shift a a1)) (wo_i64 (S.ref09_shift a a1)) :=
 (call_ok (fn := Tryz.f94) (code := body94) (loop := loop94) (md := ⟨false, false⟩) (rd := rd_i64) (wr := wr_i64) (wo := wo_i64) c95_ok (by kernel_rfl) (by kernel_rfl) (by kernel_rfl) (loops_all (l := [(0, lb94_0)]) (by kernel_rfl) ⟨lok94_0, trivial⟩) (by kernel_rfl) (by kernel_rfl) (by kernel_rfl)
  rw_i64 np_i64 no_i64 (by kernel_rfl) (Eq.mpr (show Vm.Tr.vc (Vm.Fn c95 Tryz.f94 body94 loop94 ([.int .i64 a, .int .i64 a1])) = S.ref09_shift_pre a a1 by kernel_rfl) hp))
noncomputable def sem94 : List W → Option (W × List (List W) × List Prop)
 | [.int .i64 y1, .int .i64 y2] => some (wr_i64 (S.ref09_shift y1 y2), wo_i64 (S.ref09_shift y1 y2), [S.ref09_shift_pre y1 y2])
 | _ => none
noncomputable def c94 : Cfg El := c95.add 94 sem94
theorem c94_ok : CfgOk c94 := c95_ok.add (fun args w => Tryz.call94 args w) (fun vs r outs ps h hp => by
 unfold sem94 at h
 split at h
 ·rename_i y1 y2; cases h; exact fn94 y1 y2 hp
 ·cases h)
noncomputable def body96 : Code := (Tryz.f96.body).getD .skip
noncomputable def lb96_0 : Code := ((nth (loopsOf 0 body96) 0).getD (0, .skip)).2
noncomputable def px96_0 : List W → Option S.ref09_add_L0
 | [.ptr 5 0, .ptr 6 0, .ptr 7 0, .int .i64 y1, .int .i64 y2, .rowc 3 false (some 64) y3, .rowc 3 false (some 64) y4, .rowc 3 false (some 64) y5] => some ⟨y1, y2, y3, y4, y5⟩
 | _ => none
noncomputable def tx96_0 (x : S.ref09_add_L0) : List W := [.ptr 5 0, .ptr 6 0, .ptr 7 0, .int .i64 x.carry, .int .i64 x.i, .rowc 3 false (some 64) x.vx, .rowc 3 false (some 64) x.y, .rowc 3 false (some 64) x.out]
noncomputable def py96_0 : Ex → List W → Option (S.ref09_add_L0)
 | .exit 0, [.ptr 5 0, .ptr 6 0, .ptr 7 0, .int .i64 y1, .int .i64 y2, .rowc 3 false (some 64) y3, .rowc 3 false (some 64) y4, .rowc 3 false (some 64) y5] => some ⟨y1, y2, y3, y4, y5⟩
 | _, _ => none
noncomputable def ld96_0 : LD El where
 X := S.ref09_add_L0
 Y := S.ref09_add_L0
 keys := [.slot 5, .slot 6, .slot 7, .slot 8, .slot 9, .row 5, .row 6, .row 7]
 fits := [0, 0, 0, 3, 3, 0, 0, 0]
 px := px96_0
 tx := tx96_0
 okeys := [.slot 5, .slot 6, .slot 7, .slot 8, .slot 9, .row 5, .row 6, .row 7]
 ofits := [0, 0, 0, 3, 3, 0, 0, 0]
 py := py96_0
 ty := fun y => tx96_0 y
 oex := fun _ => .exit 0
 junk := [.slot 10, .slot 15, .slot 16, .slot 17, .slot 18, .slot 19, .slot 20, .slot 21, .slot 22, .slot 23, .slot 24, .slot 25, .slot 26, .slot 27, .slot 28, .slot 29, .slot 30, .slot 31, .slot 32, .slot 33]
 rows := []
noncomputable def lo96_0 : S.ref09_add_L0 → Tr El := fun y => .leaf (.exit 0) (zipK ld96_0.okeys (tx96_0 y) ++ junkK ld96_0.junk)
noncomputable def loop96 : Nat → Env El → Tr El
 | 0 => ld96_0.tree c94 Tryz.f96.ntmps 0 lb96_0 S.ref09_add_L0_run lo96_0 S.ref09_add_L0_step S.ref09_add_L0_vcs
 | _ => fun _ => .fail
theorem lok96_0 : ∀ w0 S0, LoopOk c94 Tryz.f96.ntmps w0 S0 loop96 0 lb96_0 :=
 loop_ok (c := c94) (n := Tryz.f96.ntmps) c94_ok mixed ld96_0 (body := lb96_0) (key := 0) (loop := loop96) (F := S.ref09_add_L0_run) (out := lo96_0) (step := S.ref09_add_L0_step) (vcs := S.ref09_add_L0_vcs)
  (fun _ => by kernel_rfl) (no_loops (by kernel_rfl)) rfl rfl
  (fun vs x h => by unfold ld96_0 px96_0 at h; dsimp only at h; split at h <;> first | (cases h; rfl) | cases h)
  (fun e vs y h => by unfold ld96_0 py96_0 at h; dsimp only at h; split at h <;> first | (cases h; exact ⟨rfl, rfl⟩) | cases h)
  (by kernel_rfl) (fun _ => rfl) (fun _ _ h => h) (fun x => by kernel_rfl) (fun x h => Eq.mpr (show Vm.Tr.vc (Vm.ev c94 Tryz.f96.ntmps loop96 0 lb96_0 (ld96_0.vars x) []) = S.ref09_add_L0_vcs x by kernel_rfl) h)
theorem fn96 (a : Int) (b : Int) (hp : S.ref09_add_pre a b) : CallOk c94 96 [.int .i64 a, .int .i64 b] (wr_i64 (S.ref09_add a b)) (wo_i64 (S.ref09_add a b)) :=
 (call_ok (fn := Tryz.f96) (code := body96) (loop := loop96) (md := ⟨false, false⟩) (rd := rd_i64) (wr := wr_i64) (wo := wo_i64) c94_ok (by kernel_rfl) (by kernel_rfl) (by kernel_rfl) (loops_all (l := [(0, lb96_0)]) (by kernel_rfl) ⟨lok96_0, trivial⟩) (by kernel_rfl) (by kernel_rfl) (by kernel_rfl)
  rw_i64 np_i64 no_i64 (by kernel_rfl) (Eq.mpr (show Vm.Tr.vc (Vm.Fn c94 Tryz.f96 body96 loop96 ([.int .i64 a, .int .i64 b])) = S.ref09_add_pre a b by kernel_rfl) hp))
noncomputable def sem96 : List W → Option (W × List (List W) × List Prop)
 | [.int .i64 y1, .int .i64 y2] => some (wr_i64 (S.ref09_add y1 y2), wo_i64 (S.ref09_add y1 y2), [S.ref09_add_pre y1 y2])
 | _ => none
noncomputable def c96 : Cfg El := c94.add 96 sem96
theorem c96_ok : CfgOk c96 := c94_ok.add (fun args w => Tryz.call96 args w) (fun vs r outs ps h hp => by
 unfold sem96 at h
 split at h
 ·rename_i y1 y2; cases h; exact fn96 y1 y2 hp
 ·cases h)
noncomputable def body160 : Code := (Tryz.f160.body).getD .skip
noncomputable def lb160_0 : Code := ((nth (loopsOf 0 body160) 0).getD (0, .skip)).2
noncomputable def px160_0 : List W → Option S.ref09_Inv_L0
 | [.ptr 3 0, .int .i64 y1, .rowc 3 false (some 64) y2] => some ⟨y1, y2⟩
 | _ => none
noncomputable def tx160_0 (x : S.ref09_Inv_L0) : List W := [.ptr 3 0, .int .i64 x.i, .rowc 3 false (some 64) x.vx]
noncomputable def py160_0 : Ex → List W → Option (S.ref09_Inv_L0)
 | .exit 0, [.ptr 3 0, .int .i64 y1, .rowc 3 false (some 64) y2] => some ⟨y1, y2⟩
 | _, _ => none
noncomputable def ld160_0 : LD El where
 X := S.ref09_Inv_L0
 Y := S.ref09_Inv_L0
 keys := [.slot 3, .slot 4, .row 3]
 fits := [0, 3, 0]
 px := px160_0
 tx := tx160_0
 okeys := [.slot 3, .slot 4, .row 3]
 ofits := [0, 3, 0]
 py := py160_0
 ty := fun y => tx160_0 y
 oex := fun _ => .exit 0
 junk := [.slot 7, .slot 8, .slot 9, .slot 10, .slot 11, .slot 12, .slot 13, .slot 14, .slot 15, .slot 16]
 rows := []
noncomputable def lo160_0 : S.ref09_Inv_L0 → Tr El := fun y => .leaf (.exit 0) (zipK ld160_0.okeys (tx160_0 y) ++ junkK ld160_0.junk)
noncomputable def loop160 : Nat → Env El → Tr El
 | 0 => ld160_0.tree c96 Tryz.f160.ntmps 0 lb160_0 S.ref09_Inv_L0_run lo160_0 S.ref09_Inv_L0_step S.ref09_Inv_L0_vcs
 | _ => fun _ => .fail
theorem lok160_0 : ∀ w0 S0, LoopOk c96 Tryz.f160.ntmps w0 S0 loop160 0 lb160_0 :=
 loop_ok (c := c96) (n := Tryz.f160.ntmps) c96_ok mixed ld160_0 (body := lb160_0) (key := 0) (loop := loop160) (F := S.ref09_Inv_L0_run) (out := lo160_0) (step := S.ref09_Inv_L0_step) (vcs := S.ref09_Inv_L0_vcs)
  (fun _ => by kernel_rfl) (no_loops (by kernel_rfl)) rfl rfl
  (fun vs x h => by unfold ld160_0 px160_0 at h; dsimp only at h; split at h <;> first | (cases h; rfl) | cases h)
  (fun e vs y h => by unfold ld160_0 py160_0 at h; dsimp only at h; split at h <;> first | (cases h; exact ⟨rfl, rfl⟩) | cases h)
  (by kernel_rfl) (fun _ => rfl) (fun _ _ h => h) (fun x => by kernel_rfl) (fun x h => Eq.mpr (show Vm.Tr.vc (Vm.ev c96 Tryz.f160.ntmps loop160 0 lb160_0 (ld160_0.vars x) []) = S.ref09_Inv_L0_vcs x by kernel_rfl) h)
theorem fn160 (a : Int) (hp : S.ref09_Inv_pre a) : CallOk c96 160 [.int .i64 a] (wr_i64 (S.ref09_Inv a)) (wo_i64 (S.ref09_Inv a)) :=
 (call_ok (fn := Tryz.f160) (code := body160) (loop := loop160) (md := ⟨false, false⟩) (rd := rd_i64) (wr := wr_i64) (wo := wo_i64) c96_ok (by kernel_rfl) (by kernel_rfl) (by kernel_rfl) (loops_all (l := [(0, lb160_0)]) (by kernel_rfl) ⟨lok160_0, trivial⟩) (by kernel_rfl) (by kernel_rfl) (by kernel_rfl)
  rw_i64 np_i64 no_i64 (by kernel_rfl) (Eq.mpr (show Vm.Tr.vc (Vm.Fn c96 Tryz.f160 body160 loop160 ([.int .i64 a])) = S.ref09_Inv_pre a by kernel_rfl) hp))
noncomputable def sem160 : List W → Option (W × List (List W) × List Prop)
 | [.int .i64 y1] => some (wr_i64 (S.ref09_Inv y1), wo_i64 (S.ref09_Inv y1), [S.ref09_Inv_pre y1])
 | _ => none
noncomputable def c160 : Cfg El := c96.add 160 sem160
theorem c160_ok : CfgOk c160 := c96_ok.add (fun args w => Tryz.call160 args w) (fun vs r outs ps h hp => by
 unfold sem160 at h
 split at h
 ·rename_i y1; cases h; exact fn160 y1 hp
 ·cases h)
noncomputable def body97 : Code := (Tryz.f97.body).getD .skip
theorem fn97 (a : Int) (hp : S.ref09_neg_pre a) : CallOk c160 97 [.int .i64 a] (wr_i64 (S.ref09_neg a)) (wo_i64 (S.ref09_neg a)) :=
 (call_ok (fn := Tryz.f97) (code := body97) (loop := noLoop) (md := ⟨false, false⟩) (rd := rd_i64) (wr := wr_i64) (wo := wo_i64) c160_ok (by kernel_rfl) (by kernel_rfl) (by kernel_rfl) (no_loops (by kernel_rfl)) (by kernel_rfl) (by kernel_rfl) (by kernel_rfl)
  rw_i64 np_i64 no_i64 (by kernel_rfl) (Eq.mpr (show Vm.Tr.vc (Vm.Fn c160 Tryz.f97 body97 noLoop ([.int .i64 a])) = S.ref09_neg_pre a by kernel_rfl) hp))
noncomputable def sem97 : List W → Option (W × List (List W) × List Prop)
 | [.int .i64 y1] => some (wr_i64 (S.ref09_neg y1), wo_i64 (S.ref09_neg y1), [S.ref09_neg_pre y1])
 | _ => none
noncomputable def c97 : Cfg El := c160.add 97 sem97
theorem c97_ok : CfgOk c97 := c160_ok.add (fun args w => Tryz.call97 args w) (fun vs r outs ps h hp => by
 unfold sem97 at h
 split at h
 ·rename_i y1; cases h; exact fn97 y1 hp
 ·cases h)
noncomputable def body98 : Code := (Tryz.f98.body).getD .skip
noncomputable def lb98_0 : Code := ((nth (loopsOf 0 body98) 0).getD (0, .skip)).2
noncomputable def px98_0 : List W → Option S.ref09_mul_L0
 | [.int .i64 y1, .ptr 5 0, .int .i64 y2, .int .i64 y3, .rowc 3 false (some 64) y4] => some ⟨y1, y2, y3, y4⟩
 | _ => none
noncomputable def tx98_0 (x : S.ref09_mul_L0) : List W := [.int .i64 x.a, .ptr 5 0, .int .i64 x.sum, .int .i64 x.i, .rowc 3 false (some 64) x.y]
noncomputable def py98_0 : Ex → List W → Option (S.ref09_mul_L0)
 | .exit 0, [.int .i64 y1, .ptr 5 0, .int .i64 y2, .int .i64 y3, .rowc 3 false (some 64) y4] => some ⟨y1, y2, y3, y4⟩
 | _, _ => none
noncomputable def ld98_0 : LD El where
 X := S.ref09_mul_L0
 Y := S.ref09_mul_L0
 keys := [.slot 0, .slot 5, .slot 6, .slot 7, .row 5]
 fits := [2, 0, 2, 3, 0]
 px := px98_0
 tx := tx98_0
 okeys := [.slot 0, .slot 5, .slot 6, .slot 7, .row 5]
 ofits := [2, 0, 2, 3, 0]
 py := py98_0
 ty := fun y => tx98_0 y
 oex := fun _ => .exit 0
 junk := [.slot 10, .slot 11, .slot 12, .slot 13, .slot 14, .slot 15, .slot 16, .slot 17, .slot 18, .slot 19, .slot 20, .slot 21, .slot 22, .slot 23]
 rows := []
noncomputable def lo98_0 : S.ref09_mul_L0 → Tr El := fun y => .leaf (.exit 0) (zipK ld98_0.okeys (tx98_0 y) ++ junkK ld98_0.junk)
noncomputable def loop98 : Nat → Env El → Tr El
 | 0 => ld98_0.tree c97 Tryz.f98.ntmps 0 lb98_0 S.ref09_mul_L0_run lo98_0 S.ref09_mul_L0_step S.ref09_mul_L0_vcs
 | _ => fun _ => .fail
theorem lok98_0 : ∀ w0 S0, LoopOk c97 Tryz.f98.ntmps w0 S0 loop98 0 lb98_0 :=
 loop_ok (c := c97) (n := Tryz.f98.ntmps) c97_ok mixed ld98_0 (body := lb98_0) (key := 0) (loop := loop98) (F := S.ref09_mul_L0_run) (out := lo98_0) (step := S.ref09_mul_L0_step) (vcs := S.ref09_mul_L0_vcs)
  (fun _ => by kernel_rfl) (no_loops (by kernel_rfl)) rfl rfl
  (fun vs x h => by unfold ld98_0 px98_0 at h; dsimp only at h; split at h <;> first | (cases h; rfl) | cases h)
  (fun e vs y h => by unfold ld98_0 py98_0 at h; dsimp only at h; split at h <;> first | (cases h; exact ⟨rfl, rfl⟩) | cases h)
  (by kernel_rfl) (fun _ => rfl) (fun _ _ h => h) (fun x => by kernel_rfl) (fun x h => Eq.mpr (show Vm.Tr.vc (Vm.ev c97 Tryz.f98.ntmps loop98 0 lb98_0 (ld98_0.vars x) []) = S.ref09_mul_L0_vcs x by kernel_rfl) h)
theorem fn98 (a : Int) (b : Int) (hp : S.ref09_mul_pre a b) : CallOk c97 98 [.int .i64 a, .int .i64 b] (wr_i64 (S.ref09_mul a b)) (wo_i64 (S.ref09_mul a b)) :=
 (call_ok (fn := Tryz.f98) (code := body98) (loop := loop98) (md := ⟨false, false⟩) (rd := rd_i64) (wr := wr_i64) (wo := wo_i64) c97_ok (by kernel_rfl) (by kernel_rfl) (by kernel_rfl) (loops_all (l := [(0, lb98_0)]) (by kernel_rfl) ⟨lok98_0, trivial⟩) (by kernel_rfl) (by kernel_rfl) (by kernel_rfl)
  rw_i64 np_i64 no_i64 (by kernel_rfl) (Eq.mpr (show Vm.Tr.vc (Vm.Fn c97 Tryz.f98 body98 loop98 ([.int .i64 a, .int .i64 b])) = S.ref09_mul_pre a b by kernel_rfl) hp))
noncomputable def sem98 : List W → Option (W × List (List W) × List Prop)
 | [.int .i64 y1, .int .i64 y2] => some (wr_i64 (S.ref09_mul y1 y2), wo_i64 (S.ref09_mul y1 y2), [S.ref09_mul_pre y1 y2])
 | _ => none
noncomputable def c98 : Cfg El := c97.add 98 sem98
theorem c98_ok : CfgOk c98 := c97_ok.add (fun args w => Tryz.call98 args w) (fun vs r outs ps h hp => by
 unfold sem98 at h
 split at h
 ·rename_i y1 y2; cases h; exact fn98 y1 y2 hp
 ·cases h)
noncomputable def body161 : Code := (Tryz.f161.body).getD .skip
theorem fn161 (a : Int) (hp : S.ref09_size_pre a) : CallOk c98 161 [.int .i64 a] (wr_u64 (S.ref09_size a)) (wo_u64 (S.ref09_size a)) :=
 (call_ok (fn := Tryz.f161) (code := body161) (loop := noLoop) (md := ⟨false, false⟩) (rd := rd_u64) (wr := wr_u64) (wo := wo_u64) c98_ok (by kernel_rfl) (by kernel_rfl) (by kernel_rfl) (no_loops (by kernel_rfl)) (by kernel_rfl) (by kernel_rfl) (by kernel_rfl)
  rw_u64 np_u64 no_u64 (by kernel_rfl) (Eq.mpr (show Vm.Tr.vc (Vm.Fn c98 Tryz.f161 body161 noLoop ([.int .i64 a])) = S.ref09_size_pre a by kernel_rfl) hp))
noncomputable def sem161 : List W → Option (W × List (List W) × List Prop)
 | [.int .i64 y1] => some (wr_u64 (S.ref09_size y1), wo_u64 (S.ref09_size y1), [S.ref09_size_pre y1])
 | _ => none
noncomputable def c161 : Cfg El := c98.add 161 sem161
theorem c161_ok : CfgOk c161 := c98_ok.add (fun args w => Tryz.call161 args w) (fun vs r outs ps h hp => by
 unfold sem161 at h
 split at h
 ·rename_i y1; cases h; exact fn161 y1 hp
 ·cases h)
noncomputable def body99 : Code := (Tryz.f99.body).getD .skip
theorem fn99 (a : Int) (b : Int) (hp : S.ref09_quotient_pre a b) : CallOk c161 99 [.int .i64 a, .int .i64 b] (wr_i64 (S.ref09_quotient a b)) (wo_i64 (S.ref09_quotient a b)) :=
 (call_ok (fn := Tryz.f99) (code := body99) (loop := noLoop) (md := ⟨false, false⟩) (rd := rd_i64) (wr := wr_i64) (wo := wo_i64) c161_ok (by kernel_rfl) (by kernel_rfl) (by kernel_rfl) (no_loops (by kernel_rfl)) (by kernel_rfl) (by kernel_rfl) (by kernel_rfl)
  rw_i64 np_i64 no_i64 (by kernel_rfl) (Eq.mpr (show Vm.Tr.vc (Vm.Fn c161 Tryz.f99 body99 noLoop ([.int .i64 a, .int .i64 b])) = S.ref09_quotient_pre a b by kernel_rfl) hp))
noncomputable def sem99 : List W → Option (W × List (List W) × List Prop)
 | [.int .i64 y1, .int .i64 y2] => some (wr_i64 (S.ref09_quotient y1 y2), wo_i64 (S.ref09_quotient y1 y2), [S.ref09_quotient_pre y1 y2])
 | _ => none
noncomputable def c99 : Cfg El := c161.add 99 sem99
theorem c99_ok : CfgOk c99 := c161_ok.add (fun args w => Tryz.call99 args w) (fun vs r outs ps h hp => by
 unfold sem99 at h
 split at h
 ·rename_i y1 y2; cases h; exact fn99 y1 y2 hp
 ·cases h)
noncomputable def body46 : Code := (Tryz.f46.body).getD .skip
theorem fn46 (op : Int) (a : Int) (b : Int) (hp : S.ref09_Do_pre op a b) : CallOk c99 46 [.int .i64 op, .int .i64 a, .int .i64 b] (wr_i64_b (S.ref09_Do op a b)) (wo_i64_b (S.ref09_Do op a b)) :=
 (call_ok (fn := Tryz.f46) (code := body46) (loop := noLoop) (md := ⟨false, false⟩) (rd := rd_i64_b) (wr := wr_i64_b) (wo := wo_i64_b) c99_ok (by kernel_rfl) (by kernel_rfl) (by kernel_rfl) (no_loops (by kernel_rfl)) (by kernel_rfl) (by kernel_rfl) (by kernel_rfl)
  rw_i64_b np_i64_b no_i64_b (by kernel_rfl) (Eq.mpr (show Vm.Tr.vc (Vm.Fn c99 Tryz.f46 body46 noLoop ([.int .i64 op, .int .i64 a, .int .i64 b])) = S.ref09_Do_pre op a b by kernel_rfl) hp))
noncomputable def sem46 : List W → Option (W × List (List W) × List Prop)
 | [.int .i64 y1, .int .i64 y2, .int .i64 y3] => some (wr_i64_b (S.ref09_Do y1 y2 y3), wo_i64_b (S.ref09_Do y1 y2 y3), [S.ref09_Do_pre y1 y2 y3])
 | _ => none
noncomputable def c46 : Cfg El := c99.add 46 sem46
theorem c46_ok : CfgOk c46 := c99_ok.add (fun args w => Tryz.call46 args w) (fun vs r outs ps h hp => by
 unfold sem46 at h
 split at h
 ·rename_i y1 y2 y3; cases h; exact fn46 y1 y2 y3 hp
 ·cases h)
noncomputable def rd_L5_o_f : W → List (List W) → Option ((List Int))
 | .olist 5 true x2, [] => some x2
 | _, _ => none
noncomputable def wr_L5_o_f (x : (List Int)) : W := .olist 5 true x
noncomputable def wo_L5_o_f (_x : (List Int)) : List (List W) := []
theorem rw_L5_o_f (v : W) (os : List (List W)) (x : (List Int)) (h : rd_L5_o_f v os = some x) : v = wr_L5_o_f x ∧ os = wo_L5_o_f x := by
 unfold rd_L5_o_f at h
 split at h <;> first | (cases h; exact ⟨rfl, rfl⟩) | cases h
theorem np_L5_o_f (x : (List Int)) : okv (fun _ => false) (wr_L5_o_f x) = true := rfl
theorem no_L5_o_f (x : (List Int)) : all (fun cs => all (ok0 fun _ => false) cs) (wo_L5_o_f x) = true := rfl
noncomputable def body167 : Code := (Tryz.f167.body).getD .skip
noncomputable def lb167_0 : Code := ((nth (loopsOf 0 body167) 0).getD (0, .skip)).2
noncomputable def px167_0 : List W → Option S.ref01_trim_L0
 | [.own 28, .rowc 5 false none y1] => some ⟨y1⟩
 | _ => none
noncomputable def tx167_0 (x : S.ref01_trim_L0) : List W := [.own 28, .rowc 5 false none x.out]
noncomputable def py167_0 : Ex → List W → Option (S.ref01_trim_L0)
 | .exit 0, [.own 28, .rowc 5 false none y1] => some ⟨y1⟩
 | _, _ => none
noncomputable def ld167_0 : LD El where
 X := S.ref01_trim_L0
 Y := S.ref01_trim_L0
 keys := [.slot 3, .row 28]
 fits := [79, 0]
 px := px167_0
 tx := tx167_0
 okeys := [.slot 3, .row 28]
 ofits := [79, 0]
 py := py167_0
 ty := fun y => tx167_0 y
 oex := fun _ => .exit 0
 junk := [.slot 7, .slot 8, .slot 9, .slot 10, .slot 11, .slot 12, .slot 13, .slot 14, .slot 15, .slot 16, .slot 17, .slot 18, .slot 19, .slot 20, .slot 21, .slot 22, .slot 23, .row 6, .slot 6]
 rows := [(3, 5)]
noncomputable def lo167_0 : S.ref01_trim_L0 → Tr El := fun y => .leaf (.exit 0) (zipK ld167_0.okeys (tx167_0 y) ++ junkK ld167_0.junk)
noncomputable def loop167 : Nat → Env El → Tr El
 | 0 => ld167_0.tree (c46.hint [23] []) Tryz.f167.ntmps 0 lb167_0 S.ref01_trim_L0_run lo167_0 S.ref01_trim_L0_step S.ref01_trim_L0_vcs
 | _ => fun _ => .fail
theorem lok167_0 : ∀ w0 S0, LoopOk (c46.hint [23] []) Tryz.f167.ntmps w0 S0 loop167 0 lb167_0 :=
 loop_ok (c := (c46.hint [23] [])) (n := Tryz.f167.ntmps) (CfgOk.hint c46_ok [23] []) mixed ld167_0 (body := lb167_0) (key := 0) (loop := loop167) (F := S.ref01_trim_L0_run) (out := lo167_0) (step := S.ref01_trim_L0_step) (vcs := S.ref01_trim_L0_vcs)
  (fun _ => by kernel_rfl) (no_loops (by kernel_rfl)) rfl rfl
  (fun vs x h => by unfold ld167_0 px167_0 at h; dsimp only at h; split at h <;> first | (cases h; rfl) | cases h)
  (fun e vs y h => by unfold ld167_0 py167_0 at h; dsimp only at h; split at h <;> first | (cases h; exact ⟨rfl, rfl⟩) | cases h)
  (by kernel_rfl) (fun _ => rfl) (fun _ _ h => h) (fun x => by kernel_rfl) (fun x h => Eq.mpr (show Vm.Tr.vc (Vm.ev (c46.hint [23] []) Tryz.f167.ntmps loop167 0 lb167_0 (ld167_0.vars x) []) = S.ref01_trim_L0_vcs x by kernel_rfl) h)
theorem fn167 (l : (List Int)) (hp : S.ref01_trim_pre l) : CallOk c46 167 [.list 5 false l] (wr_L5_o_f (S.ref01_trim l)) (wo_L5_o_f (S.ref01_trim l)) :=
 CallOk.unhint (c := c46) (call_ok (c := (c46.hint [23] [])) (f := 167) (fn := Tryz.f167) (code := body167) (args := ([.list 5 false l])) (loop := loop167) (md := ⟨true, true⟩) (rd := rd_L5_o_f) (wr := wr_L5_o_f) (wo := wo_L5_o_f) (r := (S.ref01_trim l)) (CfgOk.hint c46_ok [23] []) (by kernel_rfl) (by kernel_rfl) (by kernel_rfl) (loops_all (l := [(0, lb167_0)]) (by kernel_rfl) ⟨lok167_0, trivial⟩) (by kernel_rfl) (by kernel_rfl) (by kernel_rfl)
  rw_L5_o_f np_L5_o_f no_L5_o_f (by kernel_rfl) (Eq.mpr (show Vm.Tr.vc (Vm.Fn (c46.hint [23] []) Tryz.f167 body167 loop167 ([.list 5 false l])) = S.ref01_trim_pre l by kernel_rfl) hp))
noncomputable def sem167 : List W → Option (W × List (List W) × List Prop)
 | [.list 5 false y1] => some (wr_L5_o_f (S.ref01_trim y1), wo_L5_o_f (S.ref01_trim y1), [S.ref01_trim_pre y1])
 | _ => none
noncomputable def c167 : Cfg El := c46.add 167 sem167
theorem c167_ok : CfgOk c167 := c46_ok.add (fun args w => Tryz.call167 args w) (fun vs r outs ps h hp => by
 unfold sem167 at h
 split at h
 ·rename_i y1; cases h; exact fn167 y1 hp
 ·cases h)
noncomputable def body103 : Code := (Tryz.f103.body).getD .skip
noncomputable def lb103_0 : Code := ((nth (loopsOf 0 body103) 0).getD (0, .skip)).2
noncomputable def px103_0 : List W → Option S.ref01_Of_L0
 | [.list 24 false y1, .own 34, .int .i64 y2, .rowc 5 false none y3] => some ⟨y1, y2, y3⟩
 | _ => none
noncomputable def tx103_0 (x : S.ref01_Of_L0) : List W := [.list 24 false x.l, .own 34, .int .i64 x.i, .rowc 5 false none x.out]
noncomputable def py103_0 : Ex → List W → Option (S.ref01_Of_L0)
 | .exit 0, [.list 24 false y1, .own 34, .int .i64 y2, .rowc 5 false none y3] => some ⟨y1, y2, y3⟩
 | _, _ => none
noncomputable def ld103_0 : LD El where
 X := S.ref01_Of_L0
 Y := S.ref01_Of_L0
 keys := [.slot 0, .slot 3, .slot 4, .row 34]
 fits := [59, 79, 3, 0]
 px := px103_0
 tx := tx103_0
 okeys := [.slot 0, .slot 3, .slot 4, .row 34]
 ofits := [59, 79, 3, 0]
 py := py103_0
 ty := fun y => tx103_0 y
 oex := fun _ => .exit 0
 junk := [.slot 5, .slot 6, .slot 7, .slot 8, .slot 9, .slot 10, .slot 11, .slot 12, .slot 13, .slot 14, .slot 15, .slot 16, .slot 17, .slot 18, .slot 19, .slot 20, .slot 21, .slot 22, .slot 23, .slot 24, .slot 25, .slot 26, .slot 27, .slot 28, .row 96]
 rows := [(3, 5)]
noncomputable def lo103_0 : S.ref01_Of_L0 → Tr El := fun y => .leaf (.exit 0) (zipK ld103_0.okeys (tx103_0 y) ++ junkK ld103_0.junk)
noncomputable def lb103_2 : Code := ((nth (loopsOf 0 lb103_0) 0).getD (0, .skip)).2
noncomputable def px103_2 : List W → Option S.ref01_Of_L2
 | [.own 96, .int .u64 y1, .int .i64 y2, .rowc 5 false none y3] => some ⟨y1, y2, y3⟩
 | _ => none
noncomputable def tx103_2 (x : S.ref01_Of_L2) : List W := [.own 96, .int .u64 x.n, .int .i64 x.k, .rowc 5 false none x.out]
noncomputable def py103_2 : Ex → List W → Option (S.ref01_Of_L2)
 | .exit 2, [.own 96, .int .u64 y1, .int .i64 y2, .rowc 5 false none y3] => some ⟨y1, y2, y3⟩
 | _, _ => none
noncomputable def ld103_2 : LD El where
 X := S.ref01_Of_L2
 Y := S.ref01_Of_L2
 keys := [.slot 3, .slot 5, .slot 6, .row 96]
 fits := [79, 24, 3, 0]
 px := px103_2
 tx := tx103_2
 okeys := [.slot 3, .slot 5, .slot 6, .row 96]
 ofits := [79, 24, 3, 0]
 py := py103_2
 ty := fun y => tx103_2 y
 oex := fun _ => .exit 2
 junk := [.slot 17, .slot 18, .slot 19, .slot 20, .slot 21, .slot 22, .slot 23, .slot 24, .slot 25, .slot 26, .slot 27, .slot 28, .row 34]
 rows := [(3, 5)]
noncomputable def lo103_2 : S.ref01_Of_L2 → Tr El := fun y => .leaf (.exit 2) (zipK ld103_2.okeys (tx103_2 y) ++ junkK ld103_2.junk)
noncomputable def loop103 : Nat → Env El → Tr El
 | 0 => ld103_0.tree (c167.hint [30] []) Tryz.f103.ntmps 0 lb103_0 S.ref01_Of_L0_run lo103_0 S.ref01_Of_L0_step S.ref01_Of_L0_vcs
 | 2 => ld103_2.tree (c167.hint [30] []) Tryz.f103.ntmps 2 lb103_2 S.ref01_Of_L2_run lo103_2 S.ref01_Of_L2_step S.ref01_Of_L2_vcs
 | _ => fun _ => .fail
theorem lok103_2 : ∀ w0 S0, LoopOk (c167.hint [30] []) Tryz.f103.ntmps w0 S0 loop103 2 lb103_2 :=
 loop_ok (c := (c167.hint [30] [])) (n := Tryz.f103.ntmps) (CfgOk.hint c167_ok [30] []) mixed ld103_2 (body := lb103_2) (key := 2) (loop := loop103) (F := S.ref01_Of_L2_run) (out := lo103_2) (step := S.ref01_Of_L2_step) (vcs := S.ref01_Of_L2_vcs)
  (fun _ => by kernel_rfl) (no_loops (by kernel_rfl)) rfl rfl
  (fun vs x h => by unfold ld103_2 px103_2 at h; dsimp only at h; split at h <;> first | (cases h; rfl) | cases h)
  (fun e vs y h => by unfold ld103_2 py103_2 at h; dsimp only at h; split at h <;> first | (cases h; exact ⟨rfl, rfl⟩) | cases h)
  (by kernel_rfl) (fun _ => rfl) (fun _ _ h => h) (fun x => by kernel_rfl) (fun x h => Eq.mpr (show Vm.Tr.vc (Vm.ev (c167.hint [30] []) Tryz.f103.ntmps loop103 2 lb103_2 (ld103_2.vars x) []) = S.ref01_Of_L2_vcs x by kernel_rfl) h)
theorem lok103_0 : ∀ w0 S0, LoopOk (c167.hint [30] []) Tryz.f103.ntmps w0 S0 loop103 0 lb103_0 :=
 loop_ok (c := (c167.hint [30] [])) (n := Tryz.f103.ntmps) (CfgOk.hint c167_ok [30] []) mixed ld103_0 (body := lb103_0) (key := 0) (loop := loop103) (F := S.ref01_Of_L0_run) (out := lo103_0) (step := S.ref01_Of_L0_step) (vcs := S.ref01_Of_L0_vcs)
  (fun _ => by kernel_rfl) (loops_all (l := [(2, lb103_2)]) (by kernel_rfl) ⟨lok103_2, trivial⟩) rfl rfl
  (fun vs x h => by unfold ld103_0 px103_0 at h; dsimp only at h; split at h <;> first | (cases h; rfl) | cases h)
  (fun e vs y h => by unfold ld103_0 py103_0 at h; dsimp only at h; split at h <;> first | (cases h; exact ⟨rfl, rfl⟩) | cases h)
  (by kernel_rfl) (fun _ => rfl) (fun _ _ h => h) (fun x => by kernel_rfl) (fun x h => Eq.mpr (show Vm.Tr.vc (Vm.ev (c167.hint [30] []) Tryz.f103.ntmps loop103 0 lb103_0 (ld103_0.vars x) []) = S.ref01_Of_L0_vcs x by kernel_rfl) h)
theorem fn103 (l : (List Int)) (hp : S.ref01_Of_pre l) : CallOk c167 103 [.list 24 false l] (wr_L5_o_f (S.ref01_Of l)) (wo_L5_o_f (S.ref01_Of l)) :=
 CallOk.unhint (c := c167) (call_ok (c := (c167.hint [30] [])) (f := 103) (fn := Tryz.f103) (code := body103) (args := ([.list 24 false l])) (loop := loop103) (md := ⟨true, true⟩) (rd := rd_L5_o_f) (wr := wr_L5_o_f) (wo := wo_L5_o_f) (r := (S.ref01_Of l)) (CfgOk.hint c167_ok [30] []) (by kernel_rfl) (by kernel_rfl) (by kernel_rfl) (loops_all (l := [(0, lb103_0)]) (by kernel_rfl) ⟨lok103_0, trivial⟩) (by kernel_rfl) (by kernel_rfl) (by kernel_rfl)
  rw_L5_o_f np_L5_o_f no_L5_o_f (by kernel_rfl) (Eq.mpr (show Vm.Tr.vc (Vm.Fn (c167.hint [30] []) Tryz.f103 body103 loop103 ([.list 24 false l])) = S.ref01_Of_pre l by kernel_rfl) hp))
noncomputable def sem103 : List W → Option (W × List (List W) × List Prop)
 | [.list 24 false y1] => some (wr_L5_o_f (S.ref01_Of y1), wo_L5_o_f (S.ref01_Of y1), [S.ref01_Of_pre y1])
 | _ => none
noncomputable def c103 : Cfg El := c167.add 103 sem103
theorem c103_ok : CfgOk c103 := c167_ok.add (fun args w => Tryz.call103 args w) (fun vs r outs ps h hp => by
 unfold sem103 at h
 split at h
 ·rename_i y1; cases h; exact fn103 y1 hp
 ·cases h)
noncomputable def body111 : Code := (Tryz.f111.body).getD .skip
theorem fn111 (hp : S.ref22_base_pre) : CallOk c103 111 [] (wr_L5_o_f (S.ref22_base)) (wo_L5_o_f (S.ref22_base)) :=
 CallOk.unhint (c := c103) (call_ok (c := (c103.hint [2] [])) (f := 111) (fn := Tryz.f111) (code := body111) (args := ([])) (loop := noLoop) (md := ⟨true, true⟩) (rd := rd_L5_o_f) (wr := wr_L5_o_f) (wo := wo_L5_o_f) (r := S.ref22_base) (CfgOk.hint c103_ok [2] []) (by kernel_rfl) (by kernel_rfl) (by kernel_rfl) (no_loops (by kernel_rfl)) (by kernel_rfl) (by kernel_rfl) (by kernel_rfl)
  rw_L5_o_f np_L5_o_f no_L5_o_f (by kernel_rfl) (Eq.mpr (show Vm.Tr.vc (Vm.Fn (c103.hint [2] []) Tryz.f111 body111 noLoop ([])) = S.ref22_base_pre by kernel_rfl) hp))
noncomputable def sem111 : List W → Option (W × List (List W) × List Prop)
 | [] => some (wr_L5_o_f (S.ref22_base), wo_L5_o_f (S.ref22_base), [S.ref22_base_pre])
 | _ => none
noncomputable def c111 : Cfg El := c103.add 111 sem111
theorem c111_ok : CfgOk c111 := c103_ok.add (fun args w => Tryz.call111 args w) (fun vs r outs ps h hp => by
 unfold sem111 at h
 split at h
 ·cases h; exact fn111 hp
 ·cases h)
noncomputable def body191 : Code := (Tryz.f191.body).getD .skip
theorem fn191 (n : (List Int)) (i : Int) (hp : S.ref01_at_pre n i) : CallOk c111 191 [.list 5 false n, .int .i64 i] (wr_i64 (S.ref01_at n i)) (wo_i64 (S.ref01_at n i)) :=
 (call_ok (fn := Tryz.f191) (code := body191) (loop := noLoop) (md := ⟨false, false⟩) (rd := rd_i64) (wr := wr_i64) (wo := wo_i64) c111_ok (by kernel_rfl) (by kernel_rfl) (by kernel_rfl) (no_loops (by kernel_rfl)) (by kernel_rfl) (by kernel_rfl) (by kernel_rfl)
  rw_i64 np_i64 no_i64 (by kernel_rfl) (Eq.mpr (show Vm.Tr.vc (Vm.Fn c111 Tryz.f191 body191 noLoop ([.list 5 false n, .int .i64 i])) = S.ref01_at_pre n i by kernel_rfl) hp))
noncomputable def sem191 : List W → Option (W × List (List W) × List Prop)
 | [.list 5 false y1, .int .i64 y2] => some (wr_i64 (S.ref01_at y1 y2), wo_i64 (S.ref01_at y1 y2), [S.ref01_at_pre y1 y2])
 | _ => none
noncomputable def c191 : Cfg El := c111.add 191 sem191
theorem c191_ok : CfgOk c191 := c111_ok.add (fun args w => Tryz.call191 args w) (fun vs r outs ps h hp => by
 unfold sem191 at h
 split at h
 ·rename_i y1 y2; cases h; exact fn191 y1 y2 hp
 ·cases h)
noncomputable def body163 : Code := (Tryz.f163.body).getD .skip
noncomputable def lb163_0 : Code := ((nth (loopsOf 0 body163) 0).getD (0, .skip)).2
noncomputable def px163_0 : List W → Option S.ref01_Add_L0
 | [.list 5 false y1, .list 5 false y2, .own 49, .int .i64 y3, .int .i64 y4, .rowc 5 false none y5] => some ⟨y1, y2, y3, y4, y5⟩
 | _ => none
noncomputable def tx163_0 (x : S.ref01_Add_L0) : List W := [.list 5 false x.a, .list 5 false x.b, .own 49, .int .i64 x.carry, .int .i64 x.i, .rowc 5 false none x.out]
noncomputable def py163_0 : Ex → List W → Option (S.ref01_Add_L0)
 | .exit 0, [.list 5 false y1, .list 5 false y2, .own 49, .int .i64 y3, .int .i64 y4, .rowc 5 false none y5] => some ⟨y1, y2, y3, y4, y5⟩
 | _, _ => none
noncomputable def ld163_0 : LD El where
 X := S.ref01_Add_L0
 Y := S.ref01_Add_L0
 keys := [.slot 0, .slot 1, .slot 5, .slot 6, .slot 7, .row 49]
 fits := [79, 79, 79, 3, 3, 0]
 px := px163_0
 tx := tx163_0
 okeys := [.slot 0, .slot 1, .slot 5, .slot 6, .slot 7, .row 49]
 ofits := [79, 79, 79, 3, 3, 0]
 py := py163_0
 ty := fun y => tx163_0 y
 oex := fun _ => .exit 0
 junk := [.slot 8, .slot 9, .slot 10, .slot 11, .slot 12, .slot 13, .slot 14, .slot 15, .slot 16, .slot 17, .slot 18, .slot 19, .slot 20, .slot 21, .slot 22, .slot 23, .slot 24, .slot 25, .slot 26, .slot 27, .slot 28, .slot 29, .slot 30, .slot 31, .slot 32, .slot 33, .slot 34, .slot 35, .slot 36, .slot 37, .slot 38, .slot 39, .slot 40, .slot 41]
 rows := [(5, 5)]
noncomputable def lo163_0 : S.ref01_Add_L0 → Tr El := fun y => .leaf (.exit 0) (zipK ld163_0.okeys (tx163_0 y) ++ junkK ld163_0.junk)
noncomputable def loop163 : Nat → Env El → Tr El
 | 0 => ld163_0.tree (c191.hint [43] []) Tryz.f163.ntmps 0 lb163_0 S.ref01_Add_L0_run lo163_0 S.ref01_Add_L0_step S.ref01_Add_L0_vcs
 | _ => fun _ => .fail
theorem lok163_0 : ∀ w0 S0, LoopOk (c191.hint [43] []) Tryz.f163.ntmps w0 S0 loop163 0 lb163_0 :=
 loop_ok (c := (c191.hint [43] [])) (n := Tryz.f163.ntmps) (CfgOk.hint c191_ok [43] []) mixed ld163_0 (body := lb163_0) (key := 0) (loop := loop163) (F := S.ref01_Add_L0_run) (out := lo163_0) (step := S.ref01_Add_L0_step) (vcs := S.ref01_Add_L0_vcs)
  (fun _ => by kernel_rfl) (no_loops (by kernel_rfl)) rfl rfl
  (fun vs x h => by unfold ld163_0 px163_0 at h; dsimp only at h; split at h <;> first | (cases h; rfl) | cases h)
  (fun e vs y h => by unfold ld163_0 py163_0 at h; dsimp only at h; split at h <;> first | (cases h; exact ⟨rfl, rfl⟩) | cases h)
  (by kernel_rfl) (fun _ => rfl) (fun _ _ h => h) (fun x => by kernel_rfl) (fun x h => Eq.mpr (show Vm.Tr.vc (Vm.ev (c191.hint [43] []) Tryz.f163.ntmps loop163 0 lb163_0 (ld163_0.vars x) []) = S.ref01_Add_L0_vcs x by kernel_rfl) h)
theorem fn163 (a : (List Int)) (b : (List Int)) (hp : S.ref01_Add_pre a b) : CallOk c191 163 [.list 5 false a, .list 5 false b] (wr_L5_o_f (S.ref01_Add a b)) (wo_L5_o_f (S.ref01_Add a b)) :=
 CallOk.unhint (c := c191) (call_ok (c := (c191.hint [43] [])) (f := 163) (fn := Tryz.f163) (code := body163) (args := ([.list 5 false a, .list 5 false b])) (loop := loop163) (md := ⟨true, true⟩) (rd := rd_L5_o_f) (wr := wr_L5_o_f) (wo := wo_L5_o_f) (r := (S.ref01_Add a b)) (CfgOk.hint c191_ok [43] []) (by kernel_rfl) (by kernel_rfl) (by kernel_rfl) (loops_all (l := [(0, lb163_0)]) (by kernel_rfl) ⟨lok163_0, trivial⟩) (by kernel_rfl) (by kernel_rfl) (by kernel_rfl)
  rw_L5_o_f np_L5_o_f no_L5_o_f (by kernel_rfl) (Eq.mpr (show Vm.Tr.vc (Vm.Fn (c191.hint [43] []) Tryz.f163 body163 loop163 ([.list 5 false a, .list 5 false b])) = S.ref01_Add_pre a b by kernel_rfl) hp))
noncomputable def sem163 : List W → Option (W × List (List W) × List Prop)
 | [.list 5 false y1, .list 5 false y2] => some (wr_L5_o_f (S.ref01_Add y1 y2), wo_L5_o_f (S.ref01_Add y1 y2), [S.ref01_Add_pre y1 y2])
 | _ => none
noncomputable def c163 : Cfg El := c191.add 163 sem163
theorem c163_ok : CfgOk c163 := c191_ok.add (fun args w => Tryz.call163 args w) (fun vs r outs ps h hp => by
 unfold sem163 at h
 split at h
 ·rename_i y1 y2; cases h; exact fn163 y1 y2 hp
 ·cases h)
noncomputable def body166 : Code := (Tryz.f166.body).getD .skip
theorem fn166 (n : Int) (hp : S.ref22_much_pre n) : CallOk c163 166 [.int .i64 n] (wr_L5_o_f (S.ref22_much n)) (wo_L5_o_f (S.ref22_much n)) :=
 CallOk.unhint (c := c163) (call_ok (c := (c163.hint [9, 13] [])) (f := 166) (fn := Tryz.f166) (code := body166) (args := ([.int .i64 n])) (loop := noLoop) (md := ⟨true, true⟩) (rd := rd_L5_o_f) (wr := wr_L5_o_f) (wo := wo_L5_o_f) (r := (S.ref22_much n)) (CfgOk.hint c163_ok [9, 13] []) (by kernel_rfl) (by kernel_rfl) (by kernel_rfl) (no_loops (by kernel_rfl)) (by kernel_rfl) (by kernel_rfl) (by kernel_rfl)
  rw_L5_o_f np_L5_o_f no_L5_o_f (by kernel_rfl) (Eq.mpr (show Vm.Tr.vc (Vm.Fn (c163.hint [9, 13] []) Tryz.f166 body166 noLoop ([.int .i64 n])) = S.ref22_much_pre n by kernel_rfl) hp))
noncomputable def sem166 : List W → Option (W × List (List W) × List Prop)
 | [.int .i64 y1] => some (wr_L5_o_f (S.ref22_much y1), wo_L5_o_f (S.ref22_much y1), [S.ref22_much_pre y1])
 | _ => none
noncomputable def c166 : Cfg El := c163.add 166 sem166
theorem c166_ok : CfgOk c166 := c163_ok.add (fun args w => Tryz.call166 args w) (fun vs r outs ps h hp => by
 unfold sem166 at h
 split at h
 ·rename_i y1; cases h; exact fn166 y1 hp
 ·cases h)
noncomputable def body165 : Code := (Tryz.f165.body).getD .skip
noncomputable def lb165_0 : Code := ((nth (loopsOf 0 body165) 0).getD (0, .skip)).2
noncomputable def px165_0 : List W → Option S.ref01_Mul_L0
 | [.list 5 false y1, .list 5 false y2, .own 110, .int .i64 y3, .rowc 3 false none y4] => some ⟨y1, y2, y3, y4⟩
 | _ => none
noncomputable def tx165_0 (x : S.ref01_Mul_L0) : List W := [.list 5 false x.a, .list 5 false x.b, .own 110, .int .i64 x.i, .rowc 3 false none x.sums]
noncomputable def py165_0 : Ex → List W → Option (S.ref01_Mul_L0)
 | .exit 0, [.list 5 false y1, .list 5 false y2, .own 110, .int .i64 y3, .rowc 3 false none y4] => some ⟨y1, y2, y3, y4⟩
 | _, _ => none
noncomputable def ld165_0 : LD El where
 X := S.ref01_Mul_L0
 Y := S.ref01_Mul_L0
 keys := [.slot 0, .slot 1, .slot 5, .slot 6, .row 110]
 fits := [79, 79, 182, 3, 0]
 px := px165_0
 tx := tx165_0
 okeys := [.slot 0, .slot 1, .slot 5, .slot 6, .row 110]
 ofits := [79, 79, 182, 3, 0]
 py := py165_0
 ty := fun y => tx165_0 y
 oex := fun _ => .exit 0
 junk := [.slot 7, .slot 8, .slot 20, .slot 21, .slot 22, .slot 23, .slot 24, .slot 25, .slot 26, .slot 27, .slot 28, .slot 29, .slot 30, .slot 31, .slot 32, .slot 33, .slot 34, .slot 35, .slot 36, .slot 37, .slot 38, .slot 39, .slot 40, .slot 41, .slot 42, .slot 43, .slot 44, .slot 45, .slot 46, .slot 47, .slot 48, .slot 49, .slot 50, .slot 51, .slot 52, .slot 53, .slot 54, .slot 55, .slot 56, .slot 57, .slot 58, .slot 59, .slot 60, .slot 61, .slot 62, .slot 63, .slot 64, .slot 65, .slot 66, .slot 67, .slot 68, .slot 69, .slot 70, .slot 71, .slot 72, .row 19, .slot 19, .row 320]
 rows := [(5, 3)]
noncomputable def lo165_0 : S.ref01_Mul_L0 → Tr El := fun y => .leaf (.exit 0) (zipK ld165_0.okeys (tx165_0 y) ++ junkK ld165_0.junk)
noncomputable def lb165_2 : Code := ((nth (loopsOf 0 lb165_0) 0).getD (0, .skip)).2
noncomputable def px165_2 : List W → Option S.ref01_Mul_L2
 | [.list 5 false y1, .list 5 false y2, .own 320, .int .i64 y3, .int .i64 y4, .rowc 3 false none y5] => some ⟨y1, y2, y3, y4, y5⟩
 | _ => none
noncomputable def tx165_2 (x : S.ref01_Mul_L2) : List W := [.list 5 false x.a, .list 5 false x.b, .own 320, .int .i64 x.i, .int .i64 x.k, .rowc 3 false none x.sums]
noncomputable def py165_2 : Ex → List W → Option (S.ref01_Mul_L2)
 | .exit 2, [.list 5 false y1, .list 5 false y2, .own 320, .int .i64 y3, .int .i64 y4, .rowc 3 false none y5] => some ⟨y1, y2, y3, y4, y5⟩
 | _, _ => none
noncomputable def ld165_2 : LD El where
 X := S.ref01_Mul_L2
 Y := S.ref01_Mul_L2
 keys := [.slot 0, .slot 1, .slot 5, .slot 6, .slot 7, .row 320]
 fits := [79, 79, 182, 3, 3, 0]
 px := px165_2
 tx := tx165_2
 okeys := [.slot 0, .slot 1, .slot 5, .slot 6, .slot 7, .row 320]
 ofits := [79, 79, 182, 3, 3, 0]
 py := py165_2
 ty := fun y => tx165_2 y
 oex := fun _ => .exit 2
 junk := [.slot 8, .slot 26, .slot 27, .slot 28, .slot 29, .slot 30, .slot 31, .slot 32, .slot 33, .slot 34, .slot 35, .slot 36, .slot 37, .slot 38, .slot 39, .slot 40, .slot 41, .slot 42, .slot 43, .slot 44, .slot 45, .slot 46, .slot 47, .slot 48, .slot 49, .slot 50, .slot 51, .slot 52, .slot 53, .slot 54, .slot 55, .slot 56, .slot 57, .slot 58, .slot 59, .slot 60, .slot 61, .slot 62, .slot 63, .slot 64, .slot 65, .slot 66, .slot 67, .slot 68, .slot 69, .slot 70, .slot 71, .slot 72, .row 110]
 rows := [(5, 3)]
noncomputable def lo165_2 : S.ref01_Mul_L2 → Tr El := fun y => .leaf (.exit 2) (zipK ld165_2.okeys (tx165_2 y) ++ junkK ld165_2.junk)
noncomputable def lb165_4 : Code := ((nth (loopsOf 0 body165) 1).getD (0, .skip)).2
noncomputable def px165_4 : List W → Option S.ref01_Mul_L4
 | [.own 530, .own 534, .int .i64 y1, .int .i64 y2, .rowc 3 false none y3, .rowc 5 false none y4] => some ⟨y1, y2, y3, y4⟩
 | _ => none
noncomputable def tx165_4 (x : S.ref01_Mul_L4) : List W := [.own 530, .own 534, .int .i64 x.carry, .int .i64 x.i, .rowc 3 false none x.sums, .rowc 5 false none x.out]
noncomputable def py165_4 : Ex → List W → Option (S.ref01_Mul_L4)
 | .exit 4, [.own 530, .own 534, .int .i64 y1, .int .i64 y2, .rowc 3 false none y3, .rowc 5 false none y4] => some ⟨y1, y2, y3, y4⟩
 | _, _ => none
noncomputable def ld165_4 : LD El where
 X := S.ref01_Mul_L4
 Y := S.ref01_Mul_L4
 keys := [.slot 5, .slot 9, .slot 10, .slot 11, .row 530, .row 534]
 fits := [182, 79, 3, 3, 0, 0]
 px := px165_4
 tx := tx165_4
 okeys := [.slot 5, .slot 9, .slot 10, .slot 11, .row 530, .row 534]
 ofits := [182, 79, 3, 3, 0, 0]
 py := py165_4
 ty := fun y => tx165_4 y
 oex := fun _ => .exit 4
 junk := [.slot 12, .slot 73, .slot 74, .slot 75, .slot 76, .slot 77, .slot 78, .slot 79, .slot 80, .slot 81, .slot 82, .slot 83, .slot 84, .slot 85, .slot 86, .slot 87, .slot 88, .slot 89, .slot 90, .slot 91, .slot 92, .row 110]
 rows := [(5, 3), (9, 5)]
noncomputable def lo165_4 : S.ref01_Mul_L4 → Tr El := fun y => .leaf (.exit 4) (zipK ld165_4.okeys (tx165_4 y) ++ junkK ld165_4.junk)
noncomputable def lb165_6 : Code := ((nth (loopsOf 0 body165) 2).getD (0, .skip)).2
noncomputable def px165_6 : List W → Option S.ref01_Mul_L6
 | [.own 744, .int .i64 y1, .rowc 5 false none y2] => some ⟨y1, y2⟩
 | _ => none
noncomputable def tx165_6 (x : S.ref01_Mul_L6) : List W := [.own 744, .int .i64 x.carry, .rowc 5 false none x.out]
noncomputable def py165_6 : Ex → List W → Option (S.ref01_Mul_L6)
 | .exit 6, [.own 744, .int .i64 y1, .rowc 5 false none y2] => some ⟨y1, y2⟩
 | _, _ => none
noncomputable def ld165_6 : LD El where
 X := S.ref01_Mul_L6
 Y := S.ref01_Mul_L6
 keys := [.slot 9, .slot 10, .row 744]
 fits := [79, 3, 0]
 px := px165_6
 tx := tx165_6
 okeys := [.slot 9, .slot 10, .row 744]
 ofits := [79, 3, 0]
 py := py165_6
 ty := fun y => tx165_6 y
 oex := fun _ => .exit 6
 junk := [.slot 93, .slot 94, .slot 95, .slot 96, .slot 97, .slot 98, .slot 99, .slot 100, .slot 101, .slot 102, .row 534]
 rows := [(9, 5)]
noncomputable def lo165_6 : S.ref01_Mul_L6 → Tr El := fun y => .leaf (.exit 6) (zipK ld165_6.okeys (tx165_6 y) ++ junkK ld165_6.junk)
noncomputable def loop165 : Nat → Env El → Tr El
 | 0 => ld165_0.tree (c166.hint [104] []) Tryz.f165.ntmps 0 lb165_0 S.ref01_Mul_L0_run lo165_0 S.ref01_Mul_L0_step S.ref01_Mul_L0_vcs
 | 2 => ld165_2.tree (c166.hint [104] []) Tryz.f165.ntmps 2 lb165_2 S.ref01_Mul_L2_run lo165_2 S.ref01_Mul_L2_step S.ref01_Mul_L2_vcs
 | 4 => ld165_4.tree (c166.hint [104] []) Tryz.f165.ntmps 4 lb165_4 S.ref01_Mul_L4_run lo165_4 S.ref01_Mul_L4_step S.ref01_Mul_L4_vcs
 | 6 => ld165_6.tree (c166.hint [104] []) Tryz.f165.ntmps 6 lb165_6 S.ref01_Mul_L6_run lo165_6 S.ref01_Mul_L6_step S.ref01_Mul_L6_vcs
 | _ => fun _ => .fail
theorem lok165_6 : ∀ w0 S0, LoopOk (c166.hint [104] []) Tryz.f165.ntmps w0 S0 loop165 6 lb165_6 :=
 loop_ok (c := (c166.hint [104] [])) (n := Tryz.f165.ntmps) (CfgOk.hint c166_ok [104] []) mixed ld165_6 (body := lb165_6) (key := 6) (loop := loop165) (F := S.ref01_Mul_L6_run) (out := lo165_6) (step := S.ref01_Mul_L6_step) (vcs := S.ref01_Mul_L6_vcs)
  (fun _ => by kernel_rfl) (no_loops (by kernel_rfl)) rfl rfl
  (fun vs x h => by unfold ld165_6 px165_6 at h; dsimp only at h; split at h <;> first | (cases h; rfl) | cases h)
  (fun e vs y h => by unfold ld165_6 py165_6 at h; dsimp only at h; split at h <;> first | (cases h; exact ⟨rfl, rfl⟩) | cases h)
  (by kernel_rfl) (fun _ => rfl) (fun _ _ h => h) (fun x => by kernel_rfl) (fun x h => Eq.mpr (show Vm.Tr.vc (Vm.ev (c166.hint [104] []) Tryz.f165.ntmps loop165 6 lb165_6 (ld165_6.vars x) []) = S.ref01_Mul_L6_vcs x by kernel_rfl) h)
theorem lok165_4 : ∀ w0 S0, LoopOk (c166.hint [104] []) Tryz.f165.ntmps w0 S0 loop165 4 lb165_4 :=
 loop_ok (c := (c166.hint [104] [])) (n := Tryz.f165.ntmps) (CfgOk.hint c166_ok [104] []) mixed ld165_4 (body := lb165_4) (key := 4) (loop := loop165) (F := S.ref01_Mul_L4_run) (out := lo165_4) (step := S.ref01_Mul_L4_step) (vcs := S.ref01_Mul_L4_vcs)
  (fun _ => by kernel_rfl) (no_loops (by kernel_rfl)) rfl rfl
  (fun vs x h => by unfold ld165_4 px165_4 at h; dsimp only at h; split at h <;> first | (cases h; rfl) | cases h)
  (fun e vs y h => by unfold ld165_4 py165_4 at h; dsimp only at h; split at h <;> first | (cases h; exact ⟨rfl, rfl⟩) | cases h)
  (by kernel_rfl) (fun _ => rfl) (fun _ _ h => h) (fun x => by kernel_rfl) (fun x h => Eq.mpr (show Vm.Tr.vc (Vm.ev (c166.hint [104] []) Tryz.f165.ntmps loop165 4 lb165_4 (ld165_4.vars x) []) = S.ref01_Mul_L4_vcs x by kernel_rfl) h)
theorem lok165_2 : ∀ w0 S0, LoopOk (c166.hint [104] []) Tryz.f165.ntmps w0 S0 loop165 2 lb165_2 :=
 loop_ok (c := (c166.hint [104] [])) (n := Tryz.f165.ntmps) (CfgOk.hint c166_ok [104] []) mixed ld165_2 (body := lb165_2) (key := 2) (loop := loop165) (F := S.ref01_Mul_L2_run) (out := lo165_2) (step := S.ref01_Mul_L2_step) (vcs := S.ref01_Mul_L2_vcs)
  (fun _ => by kernel_rfl) (no_loops (by kernel_rfl)) rfl rfl
  (fun vs x h => by unfold ld165_2 px165_2 at h; dsimp only at h; split at h <;> first | (cases h; rfl) | cases h)
  (fun e vs y h => by unfold ld165_2 py165_2 at h; dsimp only at h; split at h <;> first | (cases h; exact ⟨rfl, rfl⟩) | cases h)
  (by kernel_rfl) (fun _ => rfl) (fun _ _ h => h) (fun x => by kernel_rfl) (fun x h => Eq.mpr (show Vm.Tr.vc (Vm.ev (c166.hint [104] []) Tryz.f165.ntmps loop165 2 lb165_2 (ld165_2.vars x) []) = S.ref01_Mul_L2_vcs x by kernel_rfl) h)
theorem lok165_0 : ∀ w0 S0, LoopOk (c166.hint [104] []) Tryz.f165.ntmps w0 S0 loop165 0 lb165_0 :=
 loop_ok (c := (c166.hint [104] [])) (n := Tryz.f165.ntmps) (CfgOk.hint c166_ok [104] []) mixed ld165_0 (body := lb165_0) (key := 0) (loop := loop165) (F := S.ref01_Mul_L0_run) (out := lo165_0) (step := S.ref01_Mul_L0_step) (vcs := S.ref01_Mul_L0_vcs)
  (fun _ => by kernel_rfl) (loops_all (l := [(2, lb165_2)]) (by kernel_rfl) ⟨lok165_2, trivial⟩) rfl rfl
  (fun vs x h => by unfold ld165_0 px165_0 at h; dsimp only at h; split at h <;> first | (cases h; rfl) | cases h)
  (fun e vs y h => by unfold ld165_0 py165_0 at h; dsimp only at h; split at h <;> first | (cases h; exact ⟨rfl, rfl⟩) | cases h)
  (by kernel_rfl) (fun _ => rfl) (fun _ _ h => h) (fun x => by kernel_rfl) (fun x h => Eq.mpr (show Vm.Tr.vc (Vm.ev (c166.hint [104] []) Tryz.f165.ntmps loop165 0 lb165_0 (ld165_0.vars x) []) = S.ref01_Mul_L0_vcs x by kernel_rfl) h)
theorem fn165 (a : (List Int)) (b : (List Int)) (hp : S.ref01_Mul_pre a b) : CallOk c166 165 [.list 5 false a, .list 5 false b] (wr_L5_o_f (S.ref01_Mul a b)) (wo_L5_o_f (S.ref01_Mul a b)) :=
 CallOk.unhint (c := c166) (call_ok (c := (c166.hint [104] [])) (f := 165) (fn := Tryz.f165) (code := body165) (args := ([.list 5 false a, .list 5 false b])) (loop := loop165) (md := ⟨true, true⟩) (rd := rd_L5_o_f) (wr := wr_L5_o_f) (wo := wo_L5_o_f) (r := (S.ref01_Mul a b)) (CfgOk.hint c166_ok [104] []) (by kernel_rfl) (by kernel_rfl) (by kernel_rfl) (loops_all (l := [(0, lb165_0), (4, lb165_4), (6, lb165_6)]) (by kernel_rfl) ⟨lok165_0, ⟨lok165_4, ⟨lok165_6, trivial⟩⟩⟩) (by kernel_rfl) (by kernel_rfl) (by kernel_rfl)
  rw_L5_o_f np_L5_o_f no_L5_o_f (by kernel_rfl) (Eq.mpr (show Vm.Tr.vc (Vm.Fn (c166.hint [104] []) Tryz.f165 body165 loop165 ([.list 5 false a, .list 5 false b])) = S.ref01_Mul_pre a b by kernel_rfl) hp))
noncomputable def sem165 : List W → Option (W × List (List W) × List Prop)
 | [.list 5 false y1, .list 5 false y2] => some (wr_L5_o_f (S.ref01_Mul y1 y2), wo_L5_o_f (S.ref01_Mul y1 y2), [S.ref01_Mul_pre y1 y2])
 | _ => none
noncomputable def c165 : Cfg El := c166.add 165 sem165
theorem c165_ok : CfgOk c165 := c166_ok.add (fun args w => Tryz.call165 args w) (fun vs r outs ps h hp => by
 unfold sem165 at h
 split at h
 ·rename_i y1 y2; cases h; exact fn165 y1 y2 hp
 ·cases h)
noncomputable def body192 : Code := (Tryz.f192.body).getD .skip
noncomputable def lb192_0 : Code := ((nth (loopsOf 0 body192) 0).getD (0, .skip)).2
noncomputable def px192_0 : List W → Option S.ref01_Sub_L0
 | [.list 5 false y1, .list 5 false y2, .own 40, .int .i64 y3, .int .i64 y4, .rowc 5 false none y5] => some ⟨y1, y2, y3, y4, y5⟩
 | _ => none
noncomputable def tx192_0 (x : S.ref01_Sub_L0) : List W := [.list 5 false x.a, .list 5 false x.b, .own 40, .int .i64 x.borrow, .int .i64 x.i, .rowc 5 false none x.out]
noncomputable def py192_0 : Ex → List W → Option (S.ref01_Sub_L0)
 | .exit 0, [.list 5 false y1, .list 5 false y2, .own 40, .int .i64 y3, .int .i64 y4, .rowc 5 false none y5] => some ⟨y1, y2, y3, y4, y5⟩
 | _, _ => none
noncomputable def ld192_0 : LD El where
 X := S.ref01_Sub_L0
 Y := S.ref01_Sub_L0
 keys := [.slot 0, .slot 1, .slot 5, .slot 6, .slot 7, .row 40]
 fits := [79, 79, 79, 3, 3, 0]
 px := px192_0
 tx := tx192_0
 okeys := [.slot 0, .slot 1, .slot 5, .slot 6, .slot 7, .row 40]
 ofits := [79, 79, 79, 3, 3, 0]
 py := py192_0
 ty := fun y => tx192_0 y
 oex := fun _ => .exit 0
 junk := [.slot 8, .slot 9, .slot 10, .slot 11, .slot 12, .slot 13, .slot 14, .slot 15, .slot 16, .slot 17, .slot 18, .slot 19, .slot 20, .slot 21, .slot 22, .slot 23, .slot 24, .slot 25, .slot 26, .slot 27, .slot 28, .slot 29, .slot 30, .slot 31, .slot 32]
 rows := [(5, 5)]
noncomputable def lo192_0 : S.ref01_Sub_L0 → Tr El := fun y => .leaf (.exit 0) (zipK ld192_0.okeys (tx192_0 y) ++ junkK ld192_0.junk)
noncomputable def loop192 : Nat → Env El → Tr El
 | 0 => ld192_0.tree (c165.hint [34] []) Tryz.f192.ntmps 0 lb192_0 S.ref01_Sub_L0_run lo192_0 S.ref01_Sub_L0_step S.ref01_Sub_L0_vcs
 | _ => fun _ => .fail
theorem lok192_0 : ∀ w0 S0, LoopOk (c165.hint [34] []) Tryz.f192.ntmps w0 S0 loop192 0 lb192_0 :=
 loop_ok (c := (c165.hint [34] [])) (n := Tryz.f192.ntmps) (CfgOk.hint c165_ok [34] []) mixed ld192_0 (body := lb192_0) (key := 0) (loop := loop192) (F := S.ref01_Sub_L0_run) (out := lo192_0) (step := S.ref01_Sub_L0_step) (vcs := S.ref01_Sub_L0_vcs)
  (fun _ => by kernel_rfl) (no_loops (by kernel_rfl)) rfl rfl
  (fun vs x h => by unfold ld192_0 px192_0 at h; dsimp only at h; split at h <;> first | (cases h; rfl) | cases h)
  (fun e vs y h => by unfold ld192_0 py192_0 at h; dsimp only at h; split at h <;> first | (cases h; exact ⟨rfl, rfl⟩) | cases h)
  (by kernel_rfl) (fun _ => rfl) (fun _ _ h => h) (fun x => by kernel_rfl) (fun x h => Eq.mpr (show Vm.Tr.vc (Vm.ev (c165.hint [34] []) Tryz.f192.ntmps loop192 0 lb192_0 (ld192_0.vars x) []) = S.ref01_Sub_L0_vcs x by kernel_rfl) h)
theorem fn192 (a : (List Int)) (b : (List Int)) (hp : S.ref01_Sub_pre a b) : CallOk c165 192 [.list 5 false a, .list 5 false b] (wr_L5_o_f (S.ref01_Sub a b)) (wo_L5_o_f (S.ref01_Sub a b)) :=
 CallOk.unhint (c := c165) (call_ok (c := (c165.hint [34] [])) (f := 192) (fn := Tryz.f192) (code := body192) (args := ([.list 5 false a, .list 5 false b])) (loop := loop192) (md := ⟨true, true⟩) (rd := rd_L5_o_f) (wr := wr_L5_o_f) (wo := wo_L5_o_f) (r := (S.ref01_Sub a b)) (CfgOk.hint c165_ok [34] []) (by kernel_rfl) (by kernel_rfl) (by kernel_rfl) (loops_all (l := [(0, lb192_0)]) (by kernel_rfl) ⟨lok192_0, trivial⟩) (by kernel_rfl) (by kernel_rfl) (by kernel_rfl)
  rw_L5_o_f np_L5_o_f no_L5_o_f (by kernel_rfl) (Eq.mpr (show Vm.Tr.vc (Vm.Fn (c165.hint [34] []) Tryz.f192 body192 loop192 ([.list 5 false a, .list 5 false b])) = S.ref01_Sub_pre a b by kernel_rfl) hp))
noncomputable def sem192 : List W → Option (W × List (List W) × List Prop)
 | [.list 5 false y1, .list 5 false y2] => some (wr_L5_o_f (S.ref01_Sub y1 y2), wo_L5_o_f (S.ref01_Sub y1 y2), [S.ref01_Sub_pre y1 y2])
 | _ => none
noncomputable def c192 : Cfg El := c165.add 192 sem192
theorem c192_ok : CfgOk c192 := c165_ok.add (fun args w => Tryz.call192 args w) (fun vs r outs ps h hp => by
 unfold sem192 at h
 split at h
 ·rename_i y1 y2; cases h; exact fn192 y1 y2 hp
 ·cases h)
noncomputable def body164 : Code := (Tryz.f164.body).getD .skip
theorem fn164 (x : (List Int)) (n : (List Int)) (below : Bool) (hp : S.ref22_put_pre x n below) : CallOk c192 164 [.list 5 false x, .list 5 false n, .bool below] (wr_L5_o_f (S.ref22_put x n below)) (wo_L5_o_f (S.ref22_put x n below)) :=
 CallOk.unhint (c := c192) (call_ok (c := (c192.hint [10, 13] [])) (f := 164) (fn := Tryz.f164) (code := body164) (args := ([.list 5 false x, .list 5 false n, .bool below])) (loop := noLoop) (md := ⟨true, true⟩) (rd := rd_L5_o_f) (wr := wr_L5_o_f) (wo := wo_L5_o_f) (r := (S.ref22_put x n below)) (CfgOk.hint c192_ok [10, 13] []) (by kernel_rfl) (by kernel_rfl) (by kernel_rfl) (no_loops (by kernel_rfl)) (by kernel_rfl) (by kernel_rfl) (by kernel_rfl)
  rw_L5_o_f np_L5_o_f no_L5_o_f (by kernel_rfl) (Eq.mpr (show Vm.Tr.vc (Vm.Fn (c192.hint [10, 13] []) Tryz.f164 body164 noLoop ([.list 5 false x, .list 5 false n, .bool below])) = S.ref22_put_pre x n below by kernel_rfl) hp))
noncomputable def sem164 : List W → Option (W × List (List W) × List Prop)
 | [.list 5 false y1, .list 5 false y2, .bool y3] => some (wr_L5_o_f (S.ref22_put y1 y2 y3), wo_L5_o_f (S.ref22_put y1 y2 y3), [S.ref22_put_pre y1 y2 y3])
 | _ => none
noncomputable def c164 : Cfg El := c192.add 164 sem164
theorem c164_ok : CfgOk c164 := c192_ok.add (fun args w => Tryz.call164 args w) (fun vs r outs ps h hp => by
 unfold sem164 at h
 split at h
 ·rename_i y1 y2 y3; cases h; exact fn164 y1 y2 y3 hp
 ·cases h)
noncomputable def body101 : Code := (Tryz.f101.body).getD .skip
theorem fn101 (op : Int) (a : Int) (b : Int) (hp : S.ref22_Exact_pre op a b) : CallOk c164 101 [.int .i64 op, .int .i64 a, .int .i64 b] (wr_L5_o_f (S.ref22_Exact op a b)) (wo_L5_o_f (S.ref22_Exact op a b)) :=
 CallOk.unhint (c := c164) (call_ok (c := (c164.hint [25, 40] [])) (f := 101) (fn := Tryz.f101) (code := body101) (args := ([.int .i64 op, .int .i64 a, .int .i64 b])) (loop := noLoop) (md := ⟨true, true⟩) (rd := rd_L5_o_f) (wr := wr_L5_o_f) (wo := wo_L5_o_f) (r := (S.ref22_Exact op a b)) (CfgOk.hint c164_ok [25, 40] []) (by kernel_rfl) (by kernel_rfl) (by kernel_rfl) (no_loops (by kernel_rfl)) (by kernel_rfl) (by kernel_rfl) (by kernel_rfl)
  rw_L5_o_f np_L5_o_f no_L5_o_f (by kernel_rfl) (Eq.mpr (show Vm.Tr.vc (Vm.Fn (c164.hint [25, 40] []) Tryz.f101 body101 noLoop ([.int .i64 op, .int .i64 a, .int .i64 b])) = S.ref22_Exact_pre op a b by kernel_rfl) hp))
noncomputable def sem101 : List W → Option (W × List (List W) × List Prop)
 | [.int .i64 y1, .int .i64 y2, .int .i64 y3] => some (wr_L5_o_f (S.ref22_Exact y1 y2 y3), wo_L5_o_f (S.ref22_Exact y1 y2 y3), [S.ref22_Exact_pre y1 y2 y3])
 | _ => none
noncomputable def c101 : Cfg El := c164.add 101 sem101
theorem c101_ok : CfgOk c101 := c164_ok.add (fun args w => Tryz.call101 args w) (fun vs r outs ps h hp => by
 unfold sem101 at h
 split at h
 ·rename_i y1 y2 y3; cases h; exact fn101 y1 y2 y3 hp
 ·cases h)
noncomputable def body51 : Code := (Tryz.f51.body).getD .skip
noncomputable def lb51_0 : Code := ((nth (loopsOf 0 body51) 0).getD (0, .skip)).2
noncomputable def px51_0 : List W → Option S.ref01_Cmp_L0
 | [.list 5 false y1, .list 5 false y2, .int .i64 y3, .int .i64 y4] => some ⟨y1, y2, y3, y4⟩
 | _ => none
noncomputable def tx51_0 (x : S.ref01_Cmp_L0) : List W := [.list 5 false x.a, .list 5 false x.b, .int .i64 x.t4, .int .i64 x.i]
noncomputable def py51_0 : Ex → List W → Option (Bool × S.ref01_Cmp_L0)
 | .ret, [.list 5 false y1, .list 5 false y2, .int .i64 y3, .int .i64 y4] => some ⟨true, ⟨y1, y2, y3, y4⟩⟩
 | .exit 0, [.list 5 false y1, .list 5 false y2, .int .i64 y3, .int .i64 y4] => some ⟨false, ⟨y1, y2, y3, y4⟩⟩
 | _, _ => none
noncomputable def ld51_0 : LD El where
 X := S.ref01_Cmp_L0
 Y := Bool × S.ref01_Cmp_L0
 keys := [.slot 0, .slot 1, .slot 4, .slot 5]
 fits := [79, 79, 3, 3]
 px := px51_0
 tx := tx51_0
 okeys := [.slot 0, .slot 1, .slot 4, .slot 5]
 ofits := [79, 79, 3, 3]
 py := py51_0
 ty := fun y => bif y.1 then tx51_0 y.2 else tx51_0 y.2
 oex := fun y => bif y.1 then .ret else .exit 0
 junk := [.slot 19, .slot 20, .slot 21, .slot 22, .slot 23, .slot 24, .slot 25, .slot 26, .slot 27, .slot 28, .slot 29, .slot 30, .slot 31, .slot 32, .slot 33, .slot 34, .slot 35, .slot 36, .slot 37, .slot 38, .slot 39, .slot 40]
 rows := []
noncomputable def lo51_0 : (Bool × S.ref01_Cmp_L0) → Tr El := fun y => .node y.1 (.leaf (.ret) (zipK ld51_0.okeys (tx51_0 y.2) ++ junkK ld51_0.junk)) (.leaf (.exit 0) (zipK ld51_0.okeys (tx51_0 y.2) ++ junkK ld51_0.junk))
noncomputable def loop51 : Nat → Env El → Tr El
 | 0 => ld51_0.tree c101 Tryz.f51.ntmps 0 lb51_0 S.ref01_Cmp_L0_run lo51_0 S.ref01_Cmp_L0_step S.ref01_Cmp_L0_vcs
 | _ => fun _ => .fail
theorem lok51_0 : ∀ w0 S0, LoopOk c101 Tryz.f51.ntmps w0 S0 loop51 0 lb51_0 :=
 loop_ok (c := c101) (n := Tryz.f51.ntmps) c101_ok mixed ld51_0 (body := lb51_0) (key := 0) (loop := loop51) (F := S.ref01_Cmp_L0_run) (out := lo51_0) (step := S.ref01_Cmp_L0_step) (vcs := S.ref01_Cmp_L0_vcs)
  (fun _ => by kernel_rfl) (no_loops (by kernel_rfl)) rfl rfl
  (fun vs x h => by unfold ld51_0 px51_0 at h; dsimp only at h; split at h <;> first | (cases h; rfl) | cases h)
  (fun e vs y h => by unfold ld51_0 py51_0 at h; dsimp only at h; split at h <;> first | (cases h; exact ⟨rfl, rfl⟩) | cases h)
  (by kernel_rfl) (fun | (true, _) => rfl | (false, _) => rfl) (fun | (true, _), _, h => h.1 rfl | (false, _), _, h => h.2 rfl) (fun x => by kernel_rfl) (fun x h => Eq.mpr (show Vm.Tr.vc (Vm.ev c101 Tryz.f51.ntmps loop51 0 lb51_0 (ld51_0.vars x) []) = S.ref01_Cmp_L0_vcs x by kernel_rfl) h)
theorem fn51 (a : (List Int)) (b : (List Int)) (hp : S.ref01_Cmp_pre a b) : CallOk c101 51 [.list 5 false a, .list 5 false b] (wr_i64 (S.ref01_Cmp a b)) (wo_i64 (S.ref01_Cmp a b)) :=
 (call_ok (fn := Tryz.f51) (code := body51) (loop := loop51) (md := ⟨false, false⟩) (rd := rd_i64) (wr := wr_i64) (wo := wo_i64) c101_ok (by kernel_rfl) (by kernel_rfl) (by kernel_rfl) (loops_all (l := [(0, lb51_0)]) (by kernel_rfl) ⟨lok51_0, trivial⟩) (by kernel_rfl) (by kernel_rfl) (by kernel_rfl)
  rw_i64 np_i64 no_i64 (by kernel_rfl) (Eq.mpr (show Vm.Tr.vc (Vm.Fn c101 Tryz.f51 body51 loop51 ([.list 5 false a, .list 5 false b])) = S.ref01_Cmp_pre a b by kernel_rfl) hp))
noncomputable def sem51 : List W → Option (W × List (List W) × List Prop)
 | [.list 5 false y1, .list 5 false y2] => some (wr_i64 (S.ref01_Cmp y1 y2), wo_i64 (S.ref01_Cmp y1 y2), [S.ref01_Cmp_pre y1 y2])
 | _ => none
noncomputable def c51 : Cfg El := c101.add 51 sem51
theorem c51_ok : CfgOk c51 := c101_ok.add (fun args w => Tryz.call51 args w) (fun vs r outs ps h hp => by
 unfold sem51 at h
 split at h
 ·rename_i y1 y2; cases h; exact fn51 y1 y2 hp
 ·cases h)
noncomputable def rd_L5_L5 : W → List (List W) → Option ((List Int) × (List Int))
 | .tup [.list 5 false x1, .list 5 false x2], [] => some ⟨x1, x2⟩
 | _, _ => none
noncomputable def wr_L5_L5 (x : (List Int) × (List Int)) : W := .tup [.list 5 false x.1, .list 5 false x.2]
noncomputable def wo_L5_L5 (_x : (List Int) × (List Int)) : List (List W) := []
theorem rw_L5_L5 (v : W) (os : List (List W)) (x : (List Int) × (List Int)) (h : rd_L5_L5 v os = some x) : v = wr_L5_L5 x ∧ os = wo_L5_L5 x := by
 unfold rd_L5_L5 at h
 split at h <;> first | (cases h; exact ⟨rfl, rfl⟩) | cases h
theorem np_L5_L5 (x : (List Int) × (List Int)) : okv (fun _ => false) (wr_L5_L5 x) = true := rfl
theorem no_L5_L5 (x : (List Int) × (List Int)) : all (fun cs => all (ok0 fun _ => false) cs) (wo_L5_L5 x) = true := rfl
noncomputable def body48 : Code := (Tryz.f48.body).getD .skip
noncomputable def lb48_0 : Code := ((nth (loopsOf 0 body48) 0).getD (0, .skip)).2
noncomputable def px48_0 : List W → Option S.ref22_Bounds_L0
 | [.int .i64 y1, .list 2 false y2, .list 2 false y3, .list 5 false y4, .list 5 false y5, .int .i64 y6] => some ⟨y1, y2, y3, y4, y5, y6⟩
 | _ => none
noncomputable def tx48_0 (x : S.ref22_Bounds_L0) : List W := [.int .i64 x.op, .list 2 false x.l, .list 2 false x.r, .list 5 false x.lo, .list 5 false x.hi, .int .i64 x.i]
noncomputable def py48_0 : Ex → List W → Option (S.ref22_Bounds_L0)
 | .exit 0, [.int .i64 y1, .list 2 false y2, .list 2 false y3, .list 5 false y4, .list 5 false y5, .int .i64 y6] => some ⟨y1, y2, y3, y4, y5, y6⟩
 | _, _ => none
noncomputable def ld48_0 : LD El where
 X := S.ref22_Bounds_L0
 Y := S.ref22_Bounds_L0
 keys := [.slot 0, .slot 8, .slot 9, .slot 10, .slot 11, .slot 12]
 fits := [3, 58, 58, 79, 79, 3]
 px := px48_0
 tx := tx48_0
 okeys := [.slot 0, .slot 8, .slot 9, .slot 10, .slot 11, .slot 12]
 ofits := [3, 58, 58, 79, 79, 3]
 py := py48_0
 ty := fun y => tx48_0 y
 oex := fun _ => .exit 0
 junk := [.slot 13, .slot 56, .slot 57, .slot 58, .slot 59, .slot 60, .slot 61, .slot 62, .slot 63, .slot 64, .slot 65, .slot 66, .slot 67, .slot 68, .slot 69, .slot 70, .slot 71, .slot 72, .slot 73, .slot 74, .slot 75, .slot 76, .slot 77, .slot 78, .slot 79]
 rows := []
noncomputable def lo48_0 : S.ref22_Bounds_L0 → Tr El := fun y => .leaf (.exit 0) (zipK ld48_0.okeys (tx48_0 y) ++ junkK ld48_0.junk)
noncomputable def loop48 : Nat → Env El → Tr El
 | 0 => ld48_0.tree c51 Tryz.f48.ntmps 0 lb48_0 S.ref22_Bounds_L0_run lo48_0 S.ref22_Bounds_L0_step S.ref22_Bounds_L0_vcs
 | _ => fun _ => .fail
theorem lok48_0 : ∀ w0 S0, LoopOk c51 Tryz.f48.ntmps w0 S0 loop48 0 lb48_0 :=
 loop_ok (c := c51) (n := Tryz.f48.ntmps) c51_ok mixed ld48_0 (body := lb48_0) (key := 0) (loop := loop48) (F := S.ref22_Bounds_L0_run) (out := lo48_0) (step := S.ref22_Bounds_L0_step) (vcs := S.ref22_Bounds_L0_vcs)
  (fun _ => by kernel_rfl) (no_loops (by kernel_rfl)) rfl rfl
  (fun vs x h => by unfold ld48_0 px48_0 at h; dsimp only at h; split at h <;> first | (cases h; rfl) | cases h)
  (fun e vs y h => by unfold ld48_0 py48_0 at h; dsimp only at h; split at h <;> first | (cases h; exact ⟨rfl, rfl⟩) | cases h)
  (by kernel_rfl) (fun _ => rfl) (fun _ _ h => h) (fun x => by kernel_rfl) (fun x h => Eq.mpr (show Vm.Tr.vc (Vm.ev c51 Tryz.f48.ntmps loop48 0 lb48_0 (ld48_0.vars x) []) = S.ref22_Bounds_L0_vcs x by kernel_rfl) h)
theorem fn48 (op : Int) (a : S.Value) (b : S.Value) (hp : S.ref22_Bounds_pre op a b) : CallOk c51 48 [.int .i64 op, .agg [.int .i64 a.I.Lo, .int .i64 a.I.Hi, .int .u64 a.C.M, .int .u64 a.C.R], .agg [.int .i64 b.I.Lo, .int .i64 b.I.Hi, .int .u64 b.C.M, .int .u64 b.C.R]] (wr_L5_L5 (S.ref22_Bounds op a b)) (wo_L5_L5 (S.ref22_Bounds op a b)) :=
 (call_ok (fn := Tryz.f48) (code := body48) (loop := loop48) (md := ⟨false, false⟩) (rd := rd_L5_L5) (wr := wr_L5_L5) (wo := wo_L5_L5) c51_ok (by kernel_rfl) (by kernel_rfl) (by kernel_rfl) (loops_all (l := [(0, lb48_0)]) (by kernel_rfl) ⟨lok48_0, trivial⟩) (by kernel_rfl) (by kernel_rfl) (by kernel_rfl)
  rw_L5_L5 np_L5_L5 no_L5_L5 (by kernel_rfl) (Eq.mpr (show Vm.Tr.vc (Vm.Fn c51 Tryz.f48 body48 loop48 ([.int .i64 op, .agg [.int .i64 a.I.Lo, .int .i64 a.I.Hi, .int .u64 a.C.M, .int .u64 a.C.R], .agg [.int .i64 b.I.Lo, .int .i64 b.I.Hi, .int .u64 b.C.M, .int .u64 b.C.R]])) = S.ref22_Bounds_pre op a b by kernel_rfl) hp))
noncomputable def sem48 : List W → Option (W × List (List W) × List Prop)
 | [.int .i64 y1, .agg [.int .i64 y2, .int .i64 y3, .int .u64 y4, .int .u64 y5], .agg [.int .i64 y6, .int .i64 y7, .int .u64 y8, .int .u64 y9]] => some (wr_L5_L5 (S.ref22_Bounds y1 ⟨⟨y2, y3⟩, ⟨y4, y5⟩⟩ ⟨⟨y6, y7⟩, ⟨y8, y9⟩⟩), wo_L5_L5 (S.ref22_Bounds y1 ⟨⟨y2, y3⟩, ⟨y4, y5⟩⟩ ⟨⟨y6, y7⟩, ⟨y8, y9⟩⟩), [S.ref22_Bounds_pre y1 ⟨⟨y2, y3⟩, ⟨y4, y5⟩⟩ ⟨⟨y6, y7⟩, ⟨y8, y9⟩⟩])
 | _ => none
noncomputable def c48 : Cfg El := c51.add 48 sem48
theorem c48_ok : CfgOk c48 := c51_ok.add (fun args w => Tryz.call48 args w) (fun vs r outs ps h hp => by
 unfold sem48 at h
 split at h
 ·rename_i y1 y2 y3 y4 y5 y6 y7 y8 y9; cases h; exact fn48 y1 ⟨⟨y2, y3⟩, ⟨y4, y5⟩⟩ ⟨⟨y6, y7⟩, ⟨y8, y9⟩⟩ hp
 ·cases h)
noncomputable def rd_L24_o_f : W → List (List W) → Option ((List Int))
 | .olist 24 true x2, [] => some x2
 | _, _ => none
noncomputable def wr_L24_o_f (x : (List Int)) : W := .olist 24 true x
noncomputable def wo_L24_o_f (_x : (List Int)) : List (List W) := []
theorem rw_L24_o_f (v : W) (os : List (List W)) (x : (List Int)) (h : rd_L24_o_f v os = some x) : v = wr_L24_o_f x ∧ os = wo_L24_o_f x := by
 unfold rd_L24_o_f at h
 split at h <;> first | (cases h; exact ⟨rfl, rfl⟩) | cases h
theorem np_L24_o_f (x : (List Int)) : okv (fun _ => false) (wr_L24_o_f x) = true := rfl
theorem no_L24_o_f (x : (List Int)) : all (fun cs => all (ok0 fun _ => false) cs) (wo_L24_o_f x) = true := rfl
noncomputable def body102 : Code := (Tryz.f102.body).getD .skip
noncomputable def lb102_0 : Code := ((nth (loopsOf 0 body102) 0).getD (0, .skip)).2
noncomputable def px102_0 : List W → Option S.ref01_Limbs_L0
 | [.list 5 false y1, .own 40, .int .i64 y2, .rowc 24 false none y3] => some ⟨y1, y2, y3⟩
 | _ => none
noncomputable def tx102_0 (x : S.ref01_Limbs_L0) : List W := [.list 5 false x.n, .own 40, .int .i64 x.i, .rowc 24 false none x.out]
noncomputable def py102_0 : Ex → List W → Option (S.ref01_Limbs_L0)
 | .exit 0, [.list 5 false y1, .own 40, .int .i64 y2, .rowc 24 false none y3] => some ⟨y1, y2, y3⟩
 | _, _ => none
noncomputable def ld102_0 : LD El where
 X := S.ref01_Limbs_L0
 Y := S.ref01_Limbs_L0
 keys := [.slot 0, .slot 3, .slot 4, .row 40]
 fits := [79, 59, 3, 0]
 px := px102_0
 tx := tx102_0
 okeys := [.slot 0, .slot 3, .slot 4, .row 40]
 ofits := [79, 59, 3, 0]
 py := py102_0
 ty := fun y => tx102_0 y
 oex := fun _ => .exit 0
 junk := [.slot 5, .slot 6, .slot 7, .slot 8, .slot 9, .slot 10, .slot 11, .slot 12, .slot 13, .slot 14, .slot 15, .slot 16, .slot 17, .slot 18, .slot 19, .slot 20, .slot 21, .slot 22, .slot 23, .slot 24, .slot 25, .slot 26, .slot 27, .slot 28, .slot 29, .slot 30, .slot 31, .slot 32, .slot 33, .slot 34, .slot 35]
 rows := [(3, 24)]
noncomputable def lo102_0 : S.ref01_Limbs_L0 → Tr El := fun y => .leaf (.exit 0) (zipK ld102_0.okeys (tx102_0 y) ++ junkK ld102_0.junk)
noncomputable def lb102_2 : Code := ((nth (loopsOf 0 lb102_0) 0).getD (0, .skip)).2
noncomputable def px102_2 : List W → Option S.ref01_Limbs_L2
 | [.list 5 false y1, .int .i64 y2, .int .u64 y3, .int .i64 y4] => some ⟨y1, y2, y3, y4⟩
 | _ => none
noncomputable def tx102_2 (x : S.ref01_Limbs_L2) : List W := [.list 5 false x.n, .int .i64 x.i, .int .u64 x.vx, .int .i64 x.k]
noncomputable def py102_2 : Ex → List W → Option (S.ref01_Limbs_L2)
 | .exit 2, [.list 5 false y1, .int .i64 y2, .int .u64 y3, .int .i64 y4] => some ⟨y1, y2, y3, y4⟩
 | _, _ => none
noncomputable def ld102_2 : LD El where
 X := S.ref01_Limbs_L2
 Y := S.ref01_Limbs_L2
 keys := [.slot 0, .slot 4, .slot 5, .slot 6]
 fits := [79, 3, 24, 3]
 px := px102_2
 tx := tx102_2
 okeys := [.slot 0, .slot 4, .slot 5, .slot 6]
 ofits := [79, 3, 24, 3]
 py := py102_2
 ty := fun y => tx102_2 y
 oex := fun _ => .exit 2
 junk := [.slot 19, .slot 20, .slot 21, .slot 22, .slot 23, .slot 24, .slot 25, .slot 26, .slot 27, .slot 28, .slot 29, .slot 30, .slot 31]
 rows := []
noncomputable def lo102_2 : S.ref01_Limbs_L2 → Tr El := fun y => .leaf (.exit 2) (zipK ld102_2.okeys (tx102_2 y) ++ junkK ld102_2.junk)
noncomputable def loop102 : Nat → Env El → Tr El
 | 0 => ld102_0.tree c48 Tryz.f102.ntmps 0 lb102_0 S.ref01_Limbs_L0_run lo102_0 S.ref01_Limbs_L0_step S.ref01_Limbs_L0_vcs
 | 2 => ld102_2.tree c48 Tryz.f102.ntmps 2 lb102_2 S.ref01_Limbs_L2_run lo102_2 S.ref01_Limbs_L2_step S.ref01_Limbs_L2_vcs
 | _ => fun _ => .fail
theorem lok102_2 : ∀ w0 S0, LoopOk c48 Tryz.f102.ntmps w0 S0 loop102 2 lb102_2 :=
 loop_ok (c := c48) (n := Tryz.f102.ntmps) c48_ok mixed ld102_2 (body := lb102_2) (key := 2) (loop := loop102) (F := S.ref01_Limbs_L2_run) (out := lo102_2) (step := S.ref01_Limbs_L2_step) (vcs := S.ref01_Limbs_L2_vcs)
  (fun _ => by kernel_rfl) (no_loops (by kernel_rfl)) rfl rfl
  (fun vs x h => by unfold ld102_2 px102_2 at h; dsimp only at h; split at h <;> first | (cases h; rfl) | cases h)
  (fun e vs y h => by unfold ld102_2 py102_2 at h; dsimp only at h; split at h <;> first | (cases h; exact ⟨rfl, rfl⟩) | cases h)
  (by kernel_rfl) (fun _ => rfl) (fun _ _ h => h) (fun x => by kernel_rfl) (fun x h => Eq.mpr (show Vm.Tr.vc (Vm.ev c48 Tryz.f102.ntmps loop102 2 lb102_2 (ld102_2.vars x) []) = S.ref01_Limbs_L2_vcs x by kernel_rfl) h)
theorem lok102_0 : ∀ w0 S0, LoopOk c48 Tryz.f102.ntmps w0 S0 loop102 0 lb102_0 :=
 loop_ok (c := c48) (n := Tryz.f102.ntmps) c48_ok mixed ld102_0 (body := lb102_0) (key := 0) (loop := loop102) (F := S.ref01_Limbs_L0_run) (out := lo102_0) (step := S.ref01_Limbs_L0_step) (vcs := S.ref01_Limbs_L0_vcs)
  (fun _ => by kernel_rfl) (loops_all (l := [(2, lb102_2)]) (by kernel_rfl) ⟨lok102_2, trivial⟩) rfl rfl
  (fun vs x h => by unfold ld102_0 px102_0 at h; dsimp only at h; split at h <;> first | (cases h; rfl) | cases h)
  (fun e vs y h => by unfold ld102_0 py102_0 at h; dsimp only at h; split at h <;> first | (cases h; exact ⟨rfl, rfl⟩) | cases h)
  (by kernel_rfl) (fun _ => rfl) (fun _ _ h => h) (fun x => by kernel_rfl) (fun x h => Eq.mpr (show Vm.Tr.vc (Vm.ev c48 Tryz.f102.ntmps loop102 0 lb102_0 (ld102_0.vars x) []) = S.ref01_Limbs_L0_vcs x by kernel_rfl) h)
theorem fn102 (n : (List Int)) (hp : S.ref01_Limbs_pre n) : CallOk c48 102 [.list 5 false n] (wr_L24_o_f (S.ref01_Limbs n)) (wo_L24_o_f (S.ref01_Limbs n)) :=
 (call_ok (fn := Tryz.f102) (code := body102) (loop := loop102) (md := ⟨true, true⟩) (rd := rd_L24_o_f) (wr := wr_L24_o_f) (wo := wo_L24_o_f) c48_ok (by kernel_rfl) (by kernel_rfl) (by kernel_rfl) (loops_all (l := [(0, lb102_0)]) (by kernel_rfl) ⟨lok102_0, trivial⟩) (by kernel_rfl) (by kernel_rfl) (by kernel_rfl)
  rw_L24_o_f np_L24_o_f no_L24_o_f (by kernel_rfl) (Eq.mpr (show Vm.Tr.vc (Vm.Fn c48 Tryz.f102 body102 loop102 ([.list 5 false n])) = S.ref01_Limbs_pre n by kernel_rfl) hp))
noncomputable def sem102 : List W → Option (W × List (List W) × List Prop)
 | [.list 5 false y1] => some (wr_L24_o_f (S.ref01_Limbs y1), wo_L24_o_f (S.ref01_Limbs y1), [S.ref01_Limbs_pre y1])
 | _ => none
noncomputable def c102 : Cfg El := c48.add 102 sem102
theorem c102_ok : CfgOk c102 := c48_ok.add (fun args w => Tryz.call102 args w) (fun vs r outs ps h hp => by
 unfold sem102 at h
 split at h
 ·rename_i y1; cases h; exact fn102 y1 hp
 ·cases h)
noncomputable def rd_L5_i64_f : W → List (List W) → Option ((List Int) × Int)
 | .tup [.list 5 true x1, .int .i64 x2], [] => some ⟨x1, x2⟩
 | _, _ => none
noncomputable def wr_L5_i64_f (x : (List Int) × Int) : W := .tup [.list 5 true x.1, .int .i64 x.2]
noncomputable def wo_L5_i64_f (_x : (List Int) × Int) : List (List W) := []
theorem rw_L5_i64_f (v : W) (os : List (List W)) (x : (List Int) × Int) (h : rd_L5_i64_f v os = some x) : v = wr_L5_i64_f x ∧ os = wo_L5_i64_f x := by
 unfold rd_L5_i64_f at h
 split at h <;> first | (cases h; exact ⟨rfl, rfl⟩) | cases h
theorem np_L5_i64_f (x : (List Int) × Int) : okv (fun _ => false) (wr_L5_i64_f x) = true := rfl
theorem no_L5_i64_f (x : (List Int) × Int) : all (fun cs => all (ok0 fun _ => false) cs) (wo_L5_i64_f x) = true := rfl
noncomputable def body49 : Code := (Tryz.f49.body).getD .skip
theorem fn49 (x : (List Int)) (hp : S.ref22_Round_pre x) : CallOk c102 49 [.list 5 false x] (wr_L5_i64_f (S.ref22_Round x)) (wo_L5_i64_f (S.ref22_Round x)) :=
 (call_ok (fn := Tryz.f49) (code := body49) (loop := noLoop) (md := ⟨false, true⟩) (rd := rd_L5_i64_f) (wr := wr_L5_i64_f) (wo := wo_L5_i64_f) c102_ok (by kernel_rfl) (by kernel_rfl) (by kernel_rfl) (no_loops (by kernel_rfl)) (by kernel_rfl) (by kernel_rfl) (by kernel_rfl)
  rw_L5_i64_f np_L5_i64_f no_L5_i64_f (by kernel_rfl) (Eq.mpr (show Vm.Tr.vc (Vm.Fn c102 Tryz.f49 body49 noLoop ([.list 5 false x])) = S.ref22_Round_pre x by kernel_rfl) hp))
noncomputable def sem49 : List W → Option (W × List (List W) × List Prop)
 | [.list 5 false y1] => some (wr_L5_i64_f (S.ref22_Round y1), wo_L5_i64_f (S.ref22_Round y1), [S.ref22_Round_pre y1])
 | _ => none
noncomputable def c49 : Cfg El := c102.add 49 sem49
theorem c49_ok : CfgOk c49 := c102_ok.add (fun args w => Tryz.call49 args w) (fun vs r outs ps h hp => by
 unfold sem49 at h
 split at h
 ·rename_i y1; cases h; exact fn49 y1 hp
 ·cases h)
noncomputable def body168 : Code := (Tryz.f168.body).getD .skip
noncomputable def semr168 (n : Nat) : List W → Option (W × List (List W) × List Prop)
 | [.int .u64 y1, .int .u64 y2] => some (wr_u64 (S.ref20_Gcd_F n y1 y2), wo_u64 (S.ref20_Gcd_F n y1 y2), [S.ref20_Gcd_D n y1 y2])
 | _ => none
theorem fns168 (n : Nat) (hc : CfgOk (c49.add 168 (semr168 n))) (a : Int) (b : Int) (hp : S.ref20_Gcd_D (n + 1) a b) : CallOk (c49.add 168 (semr168 n)) 168 [.int .u64 a, .int .u64 b] (wr_u64 (S.ref20_Gcd_F (n + 1) a b)) (wo_u64 (S.ref20_Gcd_F (n + 1) a b)) :=
 (call_ok (c := (c49.add 168 (semr168 n))) (f := 168) (fn := Tryz.f168) (code := body168) (args := ([.int .u64 a, .int .u64 b])) (loop := noLoop) (md := ⟨false, false⟩) (rd := rd_u64) (wr := wr_u64) (wo := wo_u64) (r := (S.ref20_Gcd_F (n + 1) a b)) hc (by kernel_rfl) (by kernel_rfl) (by kernel_rfl) (no_loops (by kernel_rfl)) (by kernel_rfl) (by kernel_rfl) (by kernel_rfl)
  rw_u64 np_u64 no_u64 (by kernel_rfl) (Eq.mpr (show Vm.Tr.vc (Vm.Fn (c49.add 168 (semr168 n)) Tryz.f168 body168 noLoop ([.int .u64 a, .int .u64 b])) = S.ref20_Gcd_D (n + 1) a b by kernel_rfl) hp))
theorem fnr168 (n : Nat) : ∀ (a : Int) (b : Int), S.ref20_Gcd_D n a b → CallOk c49 168 [.int .u64 a, .int .u64 b] (wr_u64 (S.ref20_Gcd_F n a b)) (wo_u64 (S.ref20_Gcd_F n a b)) := by
 induction n with
 | zero => intro a b hp; exact False.elim hp
 | succ n ih =>
  intro a b hp
  have hc : CfgOk (c49.add 168 (semr168 n)) := c49_ok.add (fun args w => Tryz.call168 args w) (fun vs r outs ps h hp => by
   unfold semr168 at h
   split at h
   ·cases h; exact ih _ _ hp
   ·cases h)
  exact CallOk.unadd (c := c49) (fns168 n hc a b hp)
theorem fn168 (a : Int) (b : Int) (hp : S.ref20_Gcd_pre a b) : CallOk c49 168 [.int .u64 a, .int .u64 b] (wr_u64 (S.ref20_Gcd a b)) (wo_u64 (S.ref20_Gcd a b)) := fnr168 _ a b (Classical.epsilon_spec hp)
noncomputable def sem168 : List W → Option (W × List (List W) × List Prop)
 | [.int .u64 y1, .int .u64 y2] => some (wr_u64 (S.ref20_Gcd y1 y2), wo_u64 (S.ref20_Gcd y1 y2), [S.ref20_Gcd_pre y1 y2])
 | _ => none
noncomputable def c168 : Cfg El := c49.add 168 sem168
theorem c168_ok : CfgOk c168 := c49_ok.add (fun args w => Tryz.call168 args w) (fun vs r outs ps h hp => by
 unfold sem168 at h
 split at h
 ·rename_i y1 y2; cases h; exact fn168 y1 y2 hp
 ·cases h)
noncomputable def body170 : Code := (Tryz.f170.body).getD .skip
theorem fn170 (c : S.Cong) (g : Int) (hp : S.ref20_Of_pre c g) : CallOk c168 170 [.agg [.int .u64 c.M, .int .u64 c.R], .int .u64 g] (wr_u64 (S.ref20_Of c g)) (wo_u64 (S.ref20_Of c g)) :=
 (call_ok (fn := Tryz.f170) (code := body170) (loop := noLoop) (md := ⟨false, false⟩) (rd := rd_u64) (wr := wr_u64) (wo := wo_u64) c168_ok (by kernel_rfl) (by kernel_rfl) (by kernel_rfl) (no_loops (by kernel_rfl)) (by kernel_rfl) (by kernel_rfl) (by kernel_rfl)
  rw_u64 np_u64 no_u64 (by kernel_rfl) (Eq.mpr (show Vm.Tr.vc (Vm.Fn c168 Tryz.f170 body170 noLoop ([.agg [.int .u64 c.M, .int .u64 c.R], .int .u64 g])) = S.ref20_Of_pre c g by kernel_rfl) hp))
noncomputable def sem170 : List W → Option (W × List (List W) × List Prop)
 | [.agg [.int .u64 y1, .int .u64 y2], .int .u64 y3] => some (wr_u64 (S.ref20_Of ⟨y1, y2⟩ y3), wo_u64 (S.ref20_Of ⟨y1, y2⟩ y3), [S.ref20_Of_pre ⟨y1, y2⟩ y3])
 | _ => none
noncomputable def c170 : Cfg El := c168.add 170 sem170
theorem c170_ok : CfgOk c170 := c168_ok.add (fun args w => Tryz.call170 args w) (fun vs r outs ps h hp => by
 unfold sem170 at h
 split at h
 ·rename_i y1 y2 y3; cases h; exact fn170 ⟨y1, y2⟩ y3 hp
 ·cases h)
noncomputable def body169 : Code := (Tryz.f169.body).getD .skip
theorem fn169 (a : Int) (b : Int) (m : Int) : CallOk c170 169 [.int .u64 a, .int .u64 b, .int .u64 m] (wr_u64 (S.ref20_plus a b m)) (wo_u64 (S.ref20_plus a b m)) :=
 (call_ok (fn := Tryz.f169) (code := body169) (loop := noLoop) (md := ⟨false, false⟩) (rd := rd_u64) (wr := wr_u64) (wo := wo_u64) c170_ok (by kernel_rfl) (by kernel_rfl) (by kernel_rfl) (no_loops (by kernel_rfl)) (by kernel_rfl) (by kernel_rfl) (by kernel_rfl)
  rw_u64 np_u64 no_u64 (by kernel_rfl) (Tr.vc_of_noReq (by kernel_rfl)))
noncomputable def sem169 : List W → Option (W × List (List W) × List Prop)
 | [.int .u64 y1, .int .u64 y2, .int .u64 y3] => some (wr_u64 (S.ref20_plus y1 y2 y3), wo_u64 (S.ref20_plus y1 y2 y3), [])
 | _ => none
noncomputable def c169 : Cfg El := c170.add 169 sem169
theorem c169_ok : CfgOk c169 := c170_ok.add (fun args w => Tryz.call169 args w) (fun vs r outs ps h hp => by
 unfold sem169 at h
 split at h
 ·rename_i y1 y2 y3; cases h; exact fn169 y1 y2 y3
 ·cases h)
noncomputable def body104 : Code := (Tryz.f104.body).getD .skip
theorem fn104 (a : S.Cong) (b : S.Cong) (hp : S.ref20_Add_pre a b) : CallOk c169 104 [.agg [.int .u64 a.M, .int .u64 a.R], .agg [.int .u64 b.M, .int .u64 b.R]] (wr_S25 (S.ref20_Add a b)) (wo_S25 (S.ref20_Add a b)) :=
 (call_ok (fn := Tryz.f104) (code := body104) (loop := noLoop) (md := ⟨false, false⟩) (rd := rd_S25) (wr := wr_S25) (wo := wo_S25) c169_ok (by kernel_rfl) (by kernel_rfl) (by kernel_rfl) (no_loops (by kernel_rfl)) (by kernel_rfl) (by kernel_rfl) (by kernel_rfl)
  rw_S25 np_S25 no_S25 (by kernel_rfl) (Eq.mpr (show Vm.Tr.vc (Vm.Fn c169 Tryz.f104 body104 noLoop ([.agg [.int .u64 a.M, .int .u64 a.R], .agg [.int .u64 b.M, .int .u64 b.R]])) = S.ref20_Add_pre a b by kernel_rfl) hp))
noncomputable def sem104 : List W → Option (W × List (List W) × List Prop)
 | [.agg [.int .u64 y1, .int .u64 y2], .agg [.int .u64 y3, .int .u64 y4]] => some (wr_S25 (S.ref20_Add ⟨y1, y2⟩ ⟨y3, y4⟩), wo_S25 (S.ref20_Add ⟨y1, y2⟩ ⟨y3, y4⟩), [S.ref20_Add_pre ⟨y1, y2⟩ ⟨y3, y4⟩])
 | _ => none
noncomputable def c104 : Cfg El := c169.add 104 sem104
theorem c104_ok : CfgOk c104 := c169_ok.add (fun args w => Tryz.call104 args w) (fun vs r outs ps h hp => by
 unfold sem104 at h
 split at h
 ·rename_i y1 y2 y3 y4; cases h; exact fn104 ⟨y1, y2⟩ ⟨y3, y4⟩ hp
 ·cases h)
noncomputable def body171 : Code := (Tryz.f171.body).getD .skip
theorem fn171 (a : Int) (b : Int) (m : Int) : CallOk c104 171 [.int .u64 a, .int .u64 b, .int .u64 m] (wr_u64 (S.ref20_minus a b m)) (wo_u64 (S.ref20_minus a b m)) :=
 (call_ok (fn := Tryz.f171) (code := body171) (loop := noLoop) (md := ⟨false, false⟩) (rd := rd_u64) (wr := wr_u64) (wo := wo_u64) c104_ok (by kernel_rfl) (by kernel_rfl) (by kernel_rfl) (no_loops (by kernel_rfl)) (by kernel_rfl) (by kernel_rfl) (by kernel_rfl)
  rw_u64 np_u64 no_u64 (by kernel_rfl) (Tr.vc_of_noReq (by kernel_rfl)))
noncomputable def sem171 : List W → Option (W × List (List W) × List Prop)
 | [.int .u64 y1, .int .u64 y2, .int .u64 y3] => some (wr_u64 (S.ref20_minus y1 y2 y3), wo_u64 (S.ref20_minus y1 y2 y3), [])
 | _ => none
noncomputable def c171 : Cfg El := c104.add 171 sem171
theorem c171_ok : CfgOk c171 := c104_ok.add (fun args w => Tryz.call171 args w) (fun vs r outs ps h hp => by
 unfold sem171 at h
 split at h
 ·rename_i y1 y2 y3; cases h; exact fn171 y1 y2 y3
 ·cases h)
noncomputable def body105 : Code := (Tryz.f105.body).getD .skip
theorem fn105 (a : S.Cong) (b : S.Cong) (hp : S.ref20_Sub_pre a b) : CallOk c171 105 [.agg [.int .u64 a.M, .int .u64 a.R], .agg [.int .u64 b.M, .int .u64 b.R]] (wr_S25 (S.ref20_Sub a b)) (wo_S25 (S.ref20_Sub a b)) :=
 (call_ok (fn := Tryz.f105) (code := body105) (loop := noLoop) (md := ⟨false, false⟩) (rd := rd_S25) (wr := wr_S25) (wo := wo_S25) c171_ok (by kernel_rfl) (by kernel_rfl) (by kernel_rfl) (no_loops (by kernel_rfl)) (by kernel_rfl) (by kernel_rfl) (by kernel_rfl)
  rw_S25 np_S25 no_S25 (by kernel_rfl) (Eq.mpr (show Vm.Tr.vc (Vm.Fn c171 Tryz.f105 body105 noLoop ([.agg [.int .u64 a.M, .int .u64 a.R], .agg [.int .u64 b.M, .int .u64 b.R]])) = S.ref20_Sub_pre a b by kernel_rfl) hp))
noncomputable def sem105 : List W → Option (W × List (List W) × List Prop)
 | [.agg [.int .u64 y1, .int .u64 y2], .agg [.int .u64 y3, .int .u64 y4]] => some (wr_S25 (S.ref20_Sub ⟨y1, y2⟩ ⟨y3, y4⟩), wo_S25 (S.ref20_Sub ⟨y1, y2⟩ ⟨y3, y4⟩), [S.ref20_Sub_pre ⟨y1, y2⟩ ⟨y3, y4⟩])
 | _ => none
noncomputable def c105 : Cfg El := c171.add 105 sem105
theorem c105_ok : CfgOk c105 := c171_ok.add (fun args w => Tryz.call105 args w) (fun vs r outs ps h hp => by
 unfold sem105 at h
 split at h
 ·rename_i y1 y2 y3 y4; cases h; exact fn105 ⟨y1, y2⟩ ⟨y3, y4⟩ hp
 ·cases h)
noncomputable def body173 : Code := (Tryz.f173.body).getD .skip
theorem fn173 (a : Int) (b : Int) (hp : S.ref20_fits_pre a b) : CallOk c105 173 [.int .u64 a, .int .u64 b] (wr_u64_b (S.ref20_fits a b)) (wo_u64_b (S.ref20_fits a b)) :=
 (call_ok (fn := Tryz.f173) (code := body173) (loop := noLoop) (md := ⟨false, false⟩) (rd := rd_u64_b) (wr := wr_u64_b) (wo := wo_u64_b) c105_ok (by kernel_rfl) (by kernel_rfl) (by kernel_rfl) (no_loops (by kernel_rfl)) (by kernel_rfl) (by kernel_rfl) (by kernel_rfl)
  rw_u64_b np_u64_b no_u64_b (by kernel_rfl) (Eq.mpr (show Vm.Tr.vc (Vm.Fn c105 Tryz.f173 body173 noLoop ([.int .u64 a, .int .u64 b])) = S.ref20_fits_pre a b by kernel_rfl) hp))
noncomputable def sem173 : List W → Option (W × List (List W) × List Prop)
 | [.int .u64 y1, .int .u64 y2] => some (wr_u64_b (S.ref20_fits y1 y2), wo_u64_b (S.ref20_fits y1 y2), [S.ref20_fits_pre y1 y2])
 | _ => none
noncomputable def c173 : Cfg El := c105.add 173 sem173
theorem c173_ok : CfgOk c173 := c105_ok.add (fun args w => Tryz.call173 args w) (fun vs r outs ps h hp => by
 unfold sem173 at h
 split at h
 ·rename_i y1 y2; cases h; exact fn173 y1 y2 hp
 ·cases h)
noncomputable def body174 : Code := (Tryz.f174.body).getD .skip
noncomputable def lb174_0 : Code := ((nth (loopsOf 0 body174) 0).getD (0, .skip)).2
noncomputable def px174_0 : List W → Option S.ref20_times_L0
 | [.int .u64 y1, .int .u64 y2, .int .u64 y3, .int .u64 y4] => some ⟨y1, y2, y3, y4⟩
 | _ => none
noncomputable def tx174_0 (x : S.ref20_times_L0) : List W := [.int .u64 x.a, .int .u64 x.b, .int .u64 x.m, .int .u64 x.out]
noncomputable def py174_0 : Ex → List W → Option (S.ref20_times_L0)
 | .exit 0, [.int .u64 y1, .int .u64 y2, .int .u64 y3, .int .u64 y4] => some ⟨y1, y2, y3, y4⟩
 | _, _ => none
noncomputable def ld174_0 : LD El where
 X := S.ref20_times_L0
 Y := S.ref20_times_L0
 keys := [.slot 0, .slot 1, .slot 2, .slot 7]
 fits := [24, 24, 24, 24]
 px := px174_0
 tx := tx174_0
 okeys := [.slot 0, .slot 1, .slot 2, .slot 7]
 ofits := [24, 24, 24, 24]
 py := py174_0
 ty := fun y => tx174_0 y
 oex := fun _ => .exit 0
 junk := [.slot 8, .slot 9, .slot 10, .slot 11, .slot 12, .slot 13, .slot 14, .slot 15, .slot 16, .slot 17, .slot 18, .slot 19, .slot 20, .slot 21, .slot 22]
 rows := []
noncomputable def lo174_0 : S.ref20_times_L0 → Tr El := fun y => .leaf (.exit 0) (zipK ld174_0.okeys (tx174_0 y) ++ junkK ld174_0.junk)
noncomputable def loop174 : Nat → Env El → Tr El
 | 0 => ld174_0.tree c173 Tryz.f174.ntmps 0 lb174_0 S.ref20_times_L0_run lo174_0 S.ref20_times_L0_step S.ref20_times_L0_vcs
 | _ => fun _ => .fail
theorem lok174_0 : ∀ w0 S0, LoopOk c173 Tryz.f174.ntmps w0 S0 loop174 0 lb174_0 :=
 loop_ok (c := c173) (n := Tryz.f174.ntmps) c173_ok mixed ld174_0 (body := lb174_0) (key := 0) (loop := loop174) (F := S.ref20_times_L0_run) (out := lo174_0) (step := S.ref20_times_L0_step) (vcs := S.ref20_times_L0_vcs)
  (fun _ => by kernel_rfl) (no_loops (by kernel_rfl)) rfl rfl
  (fun vs x h => by unfold ld174_0 px174_0 at h; dsimp only at h; split at h <;> first | (cases h; rfl) | cases h)
  (fun e vs y h => by unfold ld174_0 py174_0 at h; dsimp only at h; split at h <;> first | (cases h; exact ⟨rfl, rfl⟩) | cases h)
  (by kernel_rfl) (fun _ => rfl) (fun _ _ h => h) (fun x => by kernel_rfl) (fun _ _ => Tr.vc_of_noReq (by kernel_rfl))
theorem fn174 (a : Int) (b : Int) (m : Int) (hp : S.ref20_times_pre a b m) : CallOk c173 174 [.int .u64 a, .int .u64 b, .int .u64 m] (wr_u64 (S.ref20_times a b m)) (wo_u64 (S.ref20_times a b m)) :=
 (call_ok (fn := Tryz.f174) (code := body174) (loop := loop174) (md := ⟨false, false⟩) (rd := rd_u64) (wr := wr_u64) (wo := wo_u64) c173_ok (by kernel_rfl) (by kernel_rfl) (by kernel_rfl) (loops_all (l := [(0, lb174_0)]) (by kernel_rfl) ⟨lok174_0, trivial⟩) (by kernel_rfl) (by kernel_rfl) (by kernel_rfl)
  rw_u64 np_u64 no_u64 (by kernel_rfl) (Eq.mpr (show Vm.Tr.vc (Vm.Fn c173 Tryz.f174 body174 loop174 ([.int .u64 a, .int .u64 b, .int .u64 m])) = S.ref20_times_pre a b m by kernel_rfl) hp))
noncomputable def sem174 : List W → Option (W × List (List W) × List Prop)
 | [.int .u64 y1, .int .u64 y2, .int .u64 y3] => some (wr_u64 (S.ref20_times y1 y2 y3), wo_u64 (S.ref20_times y1 y2 y3), [S.ref20_times_pre y1 y2 y3])
 | _ => none
noncomputable def c174 : Cfg El := c173.add 174 sem174
theorem c174_ok : CfgOk c174 := c173_ok.add (fun args w => Tryz.call174 args w) (fun vs r outs ps h hp => by
 unfold sem174 at h
 split at h
 ·rename_i y1 y2 y3; cases h; exact fn174 y1 y2 y3 hp
 ·cases h)
noncomputable def body172 : Code := (Tryz.f172.body).getD .skip
theorem fn172 (c : S.Cong) (n : Int) (hp : S.ref20_scale_pre c n) : CallOk c174 172 [.agg [.int .u64 c.M, .int .u64 c.R], .int .i64 n] (wr_S25 (S.ref20_scale c n)) (wo_S25 (S.ref20_scale c n)) :=
 (call_ok (fn := Tryz.f172) (code := body172) (loop := noLoop) (md := ⟨false, false⟩) (rd := rd_S25) (wr := wr_S25) (wo := wo_S25) c174_ok (by kernel_rfl) (by kernel_rfl) (by kernel_rfl) (no_loops (by kernel_rfl)) (by kernel_rfl) (by kernel_rfl) (by kernel_rfl)
  rw_S25 np_S25 no_S25 (by kernel_rfl) (Eq.mpr (show Vm.Tr.vc (Vm.Fn c174 Tryz.f172 body172 noLoop ([.agg [.int .u64 c.M, .int .u64 c.R], .int .i64 n])) = S.ref20_scale_pre c n by kernel_rfl) hp))
noncomputable def sem172 : List W → Option (W × List (List W) × List Prop)
 | [.agg [.int .u64 y1, .int .u64 y2], .int .i64 y3] => some (wr_S25 (S.ref20_scale ⟨y1, y2⟩ y3), wo_S25 (S.ref20_scale ⟨y1, y2⟩ y3), [S.ref20_scale_pre ⟨y1, y2⟩ y3])
 | _ => none
noncomputable def c172 : Cfg El := c174.add 172 sem172
theorem c172_ok : CfgOk c172 := c174_ok.add (fun args w => Tryz.call172 args w) (fun vs r outs ps h hp => by
 unfold sem172 at h
 split at h
 ·rename_i y1 y2 y3; cases h; exact fn172 ⟨y1, y2⟩ y3 hp
 ·cases h)
noncomputable def body106 : Code := (Tryz.f106.body).getD .skip
theorem fn106 (a : S.Cong) (b : S.Cong) (hp : S.ref20_Mul_pre a b) : CallOk c172 106 [.agg [.int .u64 a.M, .int .u64 a.R], .agg [.int .u64 b.M, .int .u64 b.R]] (wr_S25 (S.ref20_Mul a b)) (wo_S25 (S.ref20_Mul a b)) :=
 (call_ok (fn := Tryz.f106) (code := body106) (loop := noLoop) (md := ⟨false, false⟩) (rd := rd_S25) (wr := wr_S25) (wo := wo_S25) c172_ok (by kernel_rfl) (by kernel_rfl) (by kernel_rfl) (no_loops (by kernel_rfl)) (by kernel_rfl) (by kernel_rfl) (by kernel_rfl)
  rw_S25 np_S25 no_S25 (by kernel_rfl) (Eq.mpr (show Vm.Tr.vc (Vm.Fn c172 Tryz.f106 body106 noLoop ([.agg [.int .u64 a.M, .int .u64 a.R], .agg [.int .u64 b.M, .int .u64 b.R]])) = S.ref20_Mul_pre a b by kernel_rfl) hp))
noncomputable def sem106 : List W → Option (W × List (List W) × List Prop)
 | [.agg [.int .u64 y1, .int .u64 y2], .agg [.int .u64 y3, .int .u64 y4]] => some (wr_S25 (S.ref20_Mul ⟨y1, y2⟩ ⟨y3, y4⟩), wo_S25 (S.ref20_Mul ⟨y1, y2⟩ ⟨y3, y4⟩), [S.ref20_Mul_pre ⟨y1, y2⟩ ⟨y3, y4⟩])
 | _ => none
noncomputable def c106 : Cfg El := c172.add 106 sem106
theorem c106_ok : CfgOk c106 := c172_ok.add (fun args w => Tryz.call106 args w) (fun vs r outs ps h hp => by
 unfold sem106 at h
 split at h
 ·rename_i y1 y2 y3 y4; cases h; exact fn106 ⟨y1, y2⟩ ⟨y3, y4⟩ hp
 ·cases h)
noncomputable def body50 : Code := (Tryz.f50.body).getD .skip
theorem fn50 (op : Int) (a : S.Cong) (b : S.Cong) (hp : S.ref22_congruence_pre op a b) : CallOk c106 50 [.int .i64 op, .agg [.int .u64 a.M, .int .u64 a.R], .agg [.int .u64 b.M, .int .u64 b.R]] (wr_S25 (S.ref22_congruence op a b)) (wo_S25 (S.ref22_congruence op a b)) :=
 (call_ok (fn := Tryz.f50) (code := body50) (loop := noLoop) (md := ⟨false, false⟩) (rd := rd_S25) (wr := wr_S25) (wo := wo_S25) c106_ok (by kernel_rfl) (by kernel_rfl) (by kernel_rfl) (no_loops (by kernel_rfl)) (by kernel_rfl) (by kernel_rfl) (by kernel_rfl)
  rw_S25 np_S25 no_S25 (by kernel_rfl) (Eq.mpr (show Vm.Tr.vc (Vm.Fn c106 Tryz.f50 body50 noLoop ([.int .i64 op, .agg [.int .u64 a.M, .int .u64 a.R], .agg [.int .u64 b.M, .int .u64 b.R]])) = S.ref22_congruence_pre op a b by kernel_rfl) hp))
noncomputable def sem50 : List W → Option (W × List (List W) × List Prop)
 | [.int .i64 y1, .agg [.int .u64 y2, .int .u64 y3], .agg [.int .u64 y4, .int .u64 y5]] => some (wr_S25 (S.ref22_congruence y1 ⟨y2, y3⟩ ⟨y4, y5⟩), wo_S25 (S.ref22_congruence y1 ⟨y2, y3⟩ ⟨y4, y5⟩), [S.ref22_congruence_pre y1 ⟨y2, y3⟩ ⟨y4, y5⟩])
 | _ => none
noncomputable def c50 : Cfg El := c106.add 50 sem50
theorem c50_ok : CfgOk c50 := c106_ok.add (fun args w => Tryz.call50 args w) (fun vs r outs ps h hp => by
 unfold sem50 at h
 split at h
 ·rename_i y1 y2 y3 y4 y5; cases h; exact fn50 y1 ⟨y2, y3⟩ ⟨y4, y5⟩ hp
 ·cases h)
noncomputable def body53 : Code := (Tryz.f53.body).getD .skip
noncomputable def lb53_0 : Code := ((nth (loopsOf 0 body53) 0).getD (0, .skip)).2
noncomputable def px53_0 : List W → Option S.ref20_Wrapped_L0
 | [.ptr 1 0, .int .u64 y1, .int .u64 y2, .int .u64 y3] => some ⟨y1, ⟨y2, y3⟩⟩
 | _ => none
noncomputable def tx53_0 (x : S.ref20_Wrapped_L0) : List W := [.ptr 1 0, .int .u64 x.p, .int .u64 x.c.M, .int .u64 x.c.R]
noncomputable def py53_0 : Ex → List W → Option (S.ref20_Wrapped_L0)
 | .exit 0, [.ptr 1 0, .int .u64 y1, .int .u64 y2, .int .u64 y3] => some ⟨y1, ⟨y2, y3⟩⟩
 | _, _ => none
noncomputable def ld53_0 : LD El where
 X := S.ref20_Wrapped_L0
 Y := S.ref20_Wrapped_L0
 keys := [.slot 1, .slot 3, .cell 1 0, .cell 1 1]
 fits := [0, 24, 24, 24]
 px := px53_0
 tx := tx53_0
 okeys := [.slot 1, .slot 3, .cell 1 0, .cell 1 1]
 ofits := [0, 24, 24, 24]
 py := py53_0
 ty := fun y => tx53_0 y
 oex := fun _ => .exit 0
 junk := [.slot 8, .slot 9, .slot 10, .slot 11, .slot 12, .slot 13, .slot 14, .slot 15, .slot 16, .slot 17]
 rows := []
noncomputable def lo53_0 : S.ref20_Wrapped_L0 → Tr El := fun y => .leaf (.exit 0) (zipK ld53_0.okeys (tx53_0 y) ++ junkK ld53_0.junk)
noncomputable def loop53 : Nat → Env El → Tr El
 | 0 => ld53_0.tree c50 Tryz.f53.ntmps 0 lb53_0 S.ref20_Wrapped_L0_run lo53_0 S.ref20_Wrapped_L0_step S.ref20_Wrapped_L0_vcs
 | _ => fun _ => .fail
theorem lok53_0 : ∀ w0 S0, LoopOk c50 Tryz.f53.ntmps w0 S0 loop53 0 lb53_0 :=
 loop_ok (c := c50) (n := Tryz.f53.ntmps) c50_ok mixed ld53_0 (body := lb53_0) (key := 0) (loop := loop53) (F := S.ref20_Wrapped_L0_run) (out := lo53_0) (step := S.ref20_Wrapped_L0_step) (vcs := S.ref20_Wrapped_L0_vcs)
  (fun _ => by kernel_rfl) (no_loops (by kernel_rfl)) rfl rfl
  (fun vs x h => by unfold ld53_0 px53_0 at h; dsimp only at h; split at h <;> first | (cases h; rfl) | cases h)
  (fun e vs y h => by unfold ld53_0 py53_0 at h; dsimp only at h; split at h <;> first | (cases h; exact ⟨rfl, rfl⟩) | cases h)
  (by kernel_rfl) (fun _ => rfl) (fun _ _ h => h) (fun x => by kernel_rfl) (fun _ _ => Tr.vc_of_noReq (by kernel_rfl))
theorem fn53 (c : S.Cong) (hp : S.ref20_Wrapped_pre c) : CallOk c50 53 [.agg [.int .u64 c.M, .int .u64 c.R]] (wr_S25 (S.ref20_Wrapped c)) (wo_S25 (S.ref20_Wrapped c)) :=
 (call_ok (fn := Tryz.f53) (code := body53) (loop := loop53) (md := ⟨false, false⟩) (rd := rd_S25) (wr := wr_S25) (wo := wo_S25) c50_ok (by kernel_rfl) (by kernel_rfl) (by kernel_rfl) (loops_all (l := [(0, lb53_0)]) (by kernel_rfl) ⟨lok53_0, trivial⟩) (by kernel_rfl) (by kernel_rfl) (by kernel_rfl)
  rw_S25 np_S25 no_S25 (by kernel_rfl) (Eq.mpr (show Vm.Tr.vc (Vm.Fn c50 Tryz.f53 body53 loop53 ([.agg [.int .u64 c.M, .int .u64 c.R]])) = S.ref20_Wrapped_pre c by kernel_rfl) hp))
noncomputable def sem53 : List W → Option (W × List (List W) × List Prop)
 | [.agg [.int .u64 y1, .int .u64 y2]] => some (wr_S25 (S.ref20_Wrapped ⟨y1, y2⟩), wo_S25 (S.ref20_Wrapped ⟨y1, y2⟩), [S.ref20_Wrapped_pre ⟨y1, y2⟩])
 | _ => none
noncomputable def c53 : Cfg El := c50.add 53 sem53
theorem c53_ok : CfgOk c53 := c50_ok.add (fun args w => Tryz.call53 args w) (fun vs r outs ps h hp => by
 unfold sem53 at h
 split at h
 ·rename_i y1 y2; cases h; exact fn53 ⟨y1, y2⟩ hp
 ·cases h)
noncomputable def rd_L5_f : W → List (List W) → Option ((List Int))
 | .list 5 true x1, [] => some x1
 | _, _ => none
noncomputable def wr_L5_f (x : (List Int)) : W := .list 5 true x
noncomputable def wo_L5_f (_x : (List Int)) : List (List W) := []
theorem rw_L5_f (v : W) (os : List (List W)) (x : (List Int)) (h : rd_L5_f v os = some x) : v = wr_L5_f x ∧ os = wo_L5_f x := by
 unfold rd_L5_f at h
 split at h <;> first | (cases h; exact ⟨rfl, rfl⟩) | cases h
theorem np_L5_f (x : (List Int)) : okv (fun _ => false) (wr_L5_f x) = true := rfl
theorem no_L5_f (x : (List Int)) : all (fun cs => all (ok0 fun _ => false) cs) (wo_L5_f x) = true := rfl
noncomputable def body54 : Code := (Tryz.f54.body).getD .skip
theorem fn54 (hp : S.ref22_zero_pre) : CallOk c53 54 [] (wr_L5_f (S.ref22_zero)) (wo_L5_f (S.ref22_zero)) :=
 (call_ok (fn := Tryz.f54) (code := body54) (loop := noLoop) (md := ⟨false, true⟩) (rd := rd_L5_f) (wr := wr_L5_f) (wo := wo_L5_f) c53_ok (by kernel_rfl) (by kernel_rfl) (by kernel_rfl) (no_loops (by kernel_rfl)) (by kernel_rfl) (by kernel_rfl) (by kernel_rfl)
  rw_L5_f np_L5_f no_L5_f (by kernel_rfl) (Eq.mpr (show Vm.Tr.vc (Vm.Fn c53 Tryz.f54 body54 noLoop ([])) = S.ref22_zero_pre by kernel_rfl) hp))
noncomputable def sem54 : List W → Option (W × List (List W) × List Prop)
 | [] => some (wr_L5_f (S.ref22_zero), wo_L5_f (S.ref22_zero), [S.ref22_zero_pre])
 | _ => none
noncomputable def c54 : Cfg El := c53.add 54 sem54
theorem c54_ok : CfgOk c54 := c53_ok.add (fun args w => Tryz.call54 args w) (fun vs r outs ps h hp => by
 unfold sem54 at h
 split at h
 ·cases h; exact fn54 hp
 ·cases h)
end Go.Proofs.YtcgafjhkefcdfaaGreatDoor
