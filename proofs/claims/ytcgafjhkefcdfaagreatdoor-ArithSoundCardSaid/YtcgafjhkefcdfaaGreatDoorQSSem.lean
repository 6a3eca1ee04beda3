/-
  Printed by a program for this claim: functions of the code as plain functions, and that the code comes to them. Conditions: those that each theorem states.
-/
import Derived.Test.YtcgafjhkefcdfaaGreatDoorQSEnv
import Derived.Test.YtcgafjhkefcdfaaGreatDoorQSFmt
set_option linter.all false
namespace Go.Proofs.YtcgafjhkefcdfaaGreatDoor
open Go Go.Proofs Vm
attribute [local irreducible] Vm.Tr.vc Vm.Tr.out Vm.Fn Vm.Fn.out Vm.ev Vm.loopsOf Vm.Tr.noReq
noncomputable def rd_b : W → List (List W) → Option (Bool)
  | .bool x1, [] => some x1
  | _, _ => none
noncomputable def wr_b (x : Bool) : W := .bool x
noncomputable def wo_b (_x : Bool) : List (List W) := []
theorem rw_b (v : W) (os : List (List W)) (x : Bool) (h : rd_b v os = some x) : v = wr_b x ∧ os = wo_b x := by
  unfold rd_b at h
  split at h <;> first | (cases h; exact ⟨rfl, rfl⟩) | cases h
theorem np_b (x : Bool) : okv (fun _ => false) (wr_b x) = true := rfl
theorem no_b (x : Bool) : all (fun cs => all (ok0 fun _ => false) cs) (wo_b x) = true := rfl

noncomputable def body88 : Code := (Tryz.f88.body).getD .skip
theorem fn88 (c : S.Cong) : CallOk base 88 [.agg [.int .u64 c.M, .int .u64 c.R]] (wr_b (S.cong_Cong_single c)) (wo_b (S.cong_Cong_single c)) :=
  (call_ok (c := base) (f := 88) (fn := Tryz.f88) (code := body88) (args := ([.agg [.int .u64 c.M, .int .u64 c.R]])) (loop := noLoop) (md := ⟨false, false⟩) (rd := rd_b) (wr := wr_b) (wo := wo_b) (r := (S.cong_Cong_single c)) base_ok (by kernel_rfl) (by kernel_rfl) (by kernel_rfl) (no_loops (by kernel_rfl)) (by kernel_rfl) (by kernel_rfl) (by kernel_rfl)
    rw_b np_b no_b (by kernel_rfl) (Tr.vc_of_noReq (by kernel_rfl)))

noncomputable def sem88 : List W → Option (W × List (List W) × List Prop)
  | [.agg [.int .u64 y1, .int .u64 y2]] => some (wr_b (S.cong_Cong_single (⟨y1, y2⟩ : S.Cong)), wo_b (S.cong_Cong_single (⟨y1, y2⟩ : S.Cong)), [])
  | _ => none
noncomputable def c88 : Cfg El := base.add 88 sem88
theorem c88_ok : CfgOk c88 := base_ok.add (fun args w => Tryz.call88 args w) (fun vs r outs ps h hp => by
  unfold sem88 at h
  split at h
  · rename_i y1 y2; cases h; exact fn88 (⟨y1, y2⟩ : S.Cong)
  · cases h)

noncomputable def body60 : Code := (Tryz.f60.body).getD .skip
theorem fn60 (c : S.Cong) : CallOk c88 60 [.agg [.int .u64 c.M, .int .u64 c.R]] (wr_b (S.cong_Cong_Right c)) (wo_b (S.cong_Cong_Right c)) :=
  (call_ok (c := c88) (f := 60) (fn := Tryz.f60) (code := body60) (args := ([.agg [.int .u64 c.M, .int .u64 c.R]])) (loop := noLoop) (md := ⟨false, false⟩) (rd := rd_b) (wr := wr_b) (wo := wo_b) (r := (S.cong_Cong_Right c)) c88_ok (by kernel_rfl) (by kernel_rfl) (by kernel_rfl) (no_loops (by kernel_rfl)) (by kernel_rfl) (by kernel_rfl) (by kernel_rfl)
    rw_b np_b no_b (by kernel_rfl) (Tr.vc_of_noReq (by kernel_rfl)))

noncomputable def sem60 : List W → Option (W × List (List W) × List Prop)
  | [.agg [.int .u64 y1, .int .u64 y2]] => some (wr_b (S.cong_Cong_Right (⟨y1, y2⟩ : S.Cong)), wo_b (S.cong_Cong_Right (⟨y1, y2⟩ : S.Cong)), [])
  | _ => none
noncomputable def c60 : Cfg El := c88.add 60 sem60
theorem c60_ok : CfgOk c60 := c88_ok.add (fun args w => Tryz.call60 args w) (fun vs r outs ps h hp => by
  unfold sem60 at h
  split at h
  · rename_i y1 y2; cases h; exact fn60 (⟨y1, y2⟩ : S.Cong)
  · cases h)

noncomputable def rd_i64 : W → List (List W) → Option (Int)
  | .int .i64 x1, [] => some x1
  | _, _ => none
noncomputable def wr_i64 (x : Int) : W := .int .i64 x
noncomputable def wo_i64 (_x : Int) : List (List W) := []
theorem rw_i64 (v : W) (os : List (List W)) (x : Int) (h : rd_i64 v os = some x) : v = wr_i64 x ∧ os = wo_i64 x := by
  unfold rd_i64 at h
  split at h <;> first | (cases h; exact ⟨rfl, rfl⟩) | cases h
theorem np_i64 (x : Int) : okv (fun _ => false) (wr_i64 x) = true := rfl
theorem no_i64 (x : Int) : all (fun cs => all (ok0 fun _ => false) cs) (wo_i64 x) = true := rfl

noncomputable def body115 : Code := (Tryz.f115.body).getD .skip
theorem fn115 (c : S.Cong) : CallOk c60 115 [.agg [.int .u64 c.M, .int .u64 c.R]] (wr_i64 (S.cong_Cong_number c)) (wo_i64 (S.cong_Cong_number c)) :=
  (call_ok (c := c60) (f := 115) (fn := Tryz.f115) (code := body115) (args := ([.agg [.int .u64 c.M, .int .u64 c.R]])) (loop := noLoop) (md := ⟨false, false⟩) (rd := rd_i64) (wr := wr_i64) (wo := wo_i64) (r := (S.cong_Cong_number c)) c60_ok (by kernel_rfl) (by kernel_rfl) (by kernel_rfl) (no_loops (by kernel_rfl)) (by kernel_rfl) (by kernel_rfl) (by kernel_rfl)
    rw_i64 np_i64 no_i64 (by kernel_rfl) (Tr.vc_of_noReq (by kernel_rfl)))

noncomputable def sem115 : List W → Option (W × List (List W) × List Prop)
  | [.agg [.int .u64 y1, .int .u64 y2]] => some (wr_i64 (S.cong_Cong_number (⟨y1, y2⟩ : S.Cong)), wo_i64 (S.cong_Cong_number (⟨y1, y2⟩ : S.Cong)), [])
  | _ => none
noncomputable def c115 : Cfg El := c60.add 115 sem115
theorem c115_ok : CfgOk c115 := c60_ok.add (fun args w => Tryz.call115 args w) (fun vs r outs ps h hp => by
  unfold sem115 at h
  split at h
  · rename_i y1 y2; cases h; exact fn115 (⟨y1, y2⟩ : S.Cong)
  · cases h)

noncomputable def rd_i64_b : W → List (List W) → Option (Int × Bool)
  | .tup [.int .i64 x1, .bool x2], [] => some ⟨x1, x2⟩
  | _, _ => none
noncomputable def wr_i64_b (x : Int × Bool) : W := .tup [.int .i64 x.1, .bool x.2]
noncomputable def wo_i64_b (_x : Int × Bool) : List (List W) := []
theorem rw_i64_b (v : W) (os : List (List W)) (x : Int × Bool) (h : rd_i64_b v os = some x) : v = wr_i64_b x ∧ os = wo_i64_b x := by
  unfold rd_i64_b at h
  split at h <;> first | (cases h; exact ⟨rfl, rfl⟩) | cases h
theorem np_i64_b (x : Int × Bool) : okv (fun _ => false) (wr_i64_b x) = true := rfl
theorem no_i64_b (x : Int × Bool) : all (fun cs => all (ok0 fun _ => false) cs) (wo_i64_b x) = true := rfl

noncomputable def body114 : Code := (Tryz.f114.body).getD .skip
theorem fn114 (c : S.Cong) (ok : Bool) : CallOk c115 114 [.agg [.int .u64 c.M, .int .u64 c.R], .bool ok] (wr_i64_b (S.cong_Cong_number0 c ok)) (wo_i64_b (S.cong_Cong_number0 c ok)) :=
  (call_ok (c := c115) (f := 114) (fn := Tryz.f114) (code := body114) (args := ([.agg [.int .u64 c.M, .int .u64 c.R], .bool ok])) (loop := noLoop) (md := ⟨false, false⟩) (rd := rd_i64_b) (wr := wr_i64_b) (wo := wo_i64_b) (r := (S.cong_Cong_number0 c ok)) c115_ok (by kernel_rfl) (by kernel_rfl) (by kernel_rfl) (no_loops (by kernel_rfl)) (by kernel_rfl) (by kernel_rfl) (by kernel_rfl)
    rw_i64_b np_i64_b no_i64_b (by kernel_rfl) (Tr.vc_of_noReq (by kernel_rfl)))

noncomputable def sem114 : List W → Option (W × List (List W) × List Prop)
  | [.agg [.int .u64 y1, .int .u64 y2], .bool y3] => some (wr_i64_b (S.cong_Cong_number0 (⟨y1, y2⟩ : S.Cong) y3), wo_i64_b (S.cong_Cong_number0 (⟨y1, y2⟩ : S.Cong) y3), [])
  | _ => none
noncomputable def c114 : Cfg El := c115.add 114 sem114
theorem c114_ok : CfgOk c114 := c115_ok.add (fun args w => Tryz.call114 args w) (fun vs r outs ps h hp => by
  unfold sem114 at h
  split at h
  · rename_i y1 y2 y3; cases h; exact fn114 (⟨y1, y2⟩ : S.Cong) y3
  · cases h)

noncomputable def rd_u64 : W → List (List W) → Option (Int)
  | .int .u64 x1, [] => some x1
  | _, _ => none
noncomputable def wr_u64 (x : Int) : W := .int .u64 x
noncomputable def wo_u64 (_x : Int) : List (List W) := []
theorem rw_u64 (v : W) (os : List (List W)) (x : Int) (h : rd_u64 v os = some x) : v = wr_u64 x ∧ os = wo_u64 x := by
  unfold rd_u64 at h
  split at h <;> first | (cases h; exact ⟨rfl, rfl⟩) | cases h
theorem np_u64 (x : Int) : okv (fun _ => false) (wr_u64 x) = true := rfl
theorem no_u64 (x : Int) : all (fun cs => all (ok0 fun _ => false) cs) (wo_u64 x) = true := rfl

noncomputable def body73 : Code := (Tryz.f73.body).getD .skip
theorem fn73 (n : Int) (m : Int) (hp : S.cong_rest_pre n m) : CallOk c114 73 [.int .i64 n, .int .u64 m] (wr_u64 (S.cong_rest n m)) (wo_u64 (S.cong_rest n m)) :=
  (call_ok (c := c114) (f := 73) (fn := Tryz.f73) (code := body73) (args := ([.int .i64 n, .int .u64 m])) (loop := noLoop) (md := ⟨false, false⟩) (rd := rd_u64) (wr := wr_u64) (wo := wo_u64) (r := (S.cong_rest n m)) c114_ok (by kernel_rfl) (by kernel_rfl) (by kernel_rfl) (no_loops (by kernel_rfl)) (by kernel_rfl) (by kernel_rfl) (by kernel_rfl)
    rw_u64 np_u64 no_u64 (by kernel_rfl) (Eq.mpr (show Vm.Tr.vc (Vm.Fn c114 Tryz.f73 body73 noLoop ([.int .i64 n, .int .u64 m])) = S.cong_rest_pre n m by kernel_rfl) hp))

noncomputable def sem73 : List W → Option (W × List (List W) × List Prop)
  | [.int .i64 y1, .int .u64 y2] => some (wr_u64 (S.cong_rest y1 y2), wo_u64 (S.cong_rest y1 y2), [S.cong_rest_pre y1 y2])
  | _ => none
noncomputable def c73 : Cfg El := c114.add 73 sem73
theorem c73_ok : CfgOk c73 := c114_ok.add (fun args w => Tryz.call73 args w) (fun vs r outs ps h hp => by
  unfold sem73 at h
  split at h
  · rename_i y1 y2; cases h; exact fn73 y1 y2 hp
  · cases h)

noncomputable def sem177 : List W → Option (W × List (List W) × List Prop)
  | [.int .u64 x, .int .u64 y, .int .u64 c] => some (.tup [.int .u64 (S.math_bits_Add64 x y c).1, .int .u64 (S.math_bits_Add64 x y c).2], [], [S.math_bits_Add64_pre x y c])
  | _ => none
noncomputable def c177 : Cfg El := c73.add 177 sem177
theorem c177_ok : CfgOk c177 := c73_ok.addExt (fun vs r outs ps h hp => by
  unfold sem177 at h
  split at h
  · cases h; exact ⟨rfl, ext_add64 (c := c73) (fn := Tryz.f177) (by kernel_rfl) (by kernel_rfl) (by kernel_rfl) (by kernel_rfl) (by kernel_rfl) hp⟩
  · cases h)

noncomputable def body116 : Code := (Tryz.f116.body).getD .skip
theorem fn116 (a : Int) (b : Int) (m : Int) (hp : S.cong_plus_pre a b m) : CallOk c177 116 [.int .u64 a, .int .u64 b, .int .u64 m] (wr_u64 (S.cong_plus a b m)) (wo_u64 (S.cong_plus a b m)) :=
  (call_ok (c := c177) (f := 116) (fn := Tryz.f116) (code := body116) (args := ([.int .u64 a, .int .u64 b, .int .u64 m])) (loop := noLoop) (md := ⟨false, false⟩) (rd := rd_u64) (wr := wr_u64) (wo := wo_u64) (r := (S.cong_plus a b m)) c177_ok (by kernel_rfl) (by kernel_rfl) (by kernel_rfl) (no_loops (by kernel_rfl)) (by kernel_rfl) (by kernel_rfl) (by kernel_rfl)
    rw_u64 np_u64 no_u64 (by kernel_rfl) (Eq.mpr (show Vm.Tr.vc (Vm.Fn c177 Tryz.f116 body116 noLoop ([.int .u64 a, .int .u64 b, .int .u64 m])) = S.cong_plus_pre a b m by kernel_rfl) hp))

noncomputable def sem116 : List W → Option (W × List (List W) × List Prop)
  | [.int .u64 y1, .int .u64 y2, .int .u64 y3] => some (wr_u64 (S.cong_plus y1 y2 y3), wo_u64 (S.cong_plus y1 y2 y3), [S.cong_plus_pre y1 y2 y3])
  | _ => none
noncomputable def c116 : Cfg El := c177.add 116 sem116
theorem c116_ok : CfgOk c116 := c177_ok.add (fun args w => Tryz.call116 args w) (fun vs r outs ps h hp => by
  unfold sem116 at h
  split at h
  · rename_i y1 y2 y3; cases h; exact fn116 y1 y2 y3 hp
  · cases h)

noncomputable def body59 : Code := (Tryz.f59.body).getD .skip
theorem fn59 (c : S.Cong) (a1 : Int) (hp : S.cong_Cong_Least_pre c a1) : CallOk c116 59 [.agg [.int .u64 c.M, .int .u64 c.R], .int .i64 a1] (wr_i64_b (S.cong_Cong_Least c a1)) (wo_i64_b (S.cong_Cong_Least c a1)) :=
  (call_ok (c := c116) (f := 59) (fn := Tryz.f59) (code := body59) (args := ([.agg [.int .u64 c.M, .int .u64 c.R], .int .i64 a1])) (loop := noLoop) (md := ⟨false, false⟩) (rd := rd_i64_b) (wr := wr_i64_b) (wo := wo_i64_b) (r := (S.cong_Cong_Least c a1)) c116_ok (by kernel_rfl) (by kernel_rfl) (by kernel_rfl) (no_loops (by kernel_rfl)) (by kernel_rfl) (by kernel_rfl) (by kernel_rfl)
    rw_i64_b np_i64_b no_i64_b (by kernel_rfl) (Eq.mpr (show Vm.Tr.vc (Vm.Fn c116 Tryz.f59 body59 noLoop ([.agg [.int .u64 c.M, .int .u64 c.R], .int .i64 a1])) = S.cong_Cong_Least_pre c a1 by kernel_rfl) hp))

noncomputable def sem59 : List W → Option (W × List (List W) × List Prop)
  | [.agg [.int .u64 y1, .int .u64 y2], .int .i64 y3] => some (wr_i64_b (S.cong_Cong_Least (⟨y1, y2⟩ : S.Cong) y3), wo_i64_b (S.cong_Cong_Least (⟨y1, y2⟩ : S.Cong) y3), [S.cong_Cong_Least_pre (⟨y1, y2⟩ : S.Cong) y3])
  | _ => none
noncomputable def c59 : Cfg El := c116.add 59 sem59
theorem c59_ok : CfgOk c59 := c116_ok.add (fun args w => Tryz.call59 args w) (fun vs r outs ps h hp => by
  unfold sem59 at h
  split at h
  · rename_i y1 y2 y3; cases h; exact fn59 (⟨y1, y2⟩ : S.Cong) y3 hp
  · cases h)

noncomputable def body61 : Code := (Tryz.f61.body).getD .skip
theorem fn61 (c : S.Cong) (to : Int) (hp : S.cong_Cong_Greatest_pre c to) : CallOk c59 61 [.agg [.int .u64 c.M, .int .u64 c.R], .int .i64 to] (wr_i64_b (S.cong_Cong_Greatest c to)) (wo_i64_b (S.cong_Cong_Greatest c to)) :=
  (call_ok (c := c59) (f := 61) (fn := Tryz.f61) (code := body61) (args := ([.agg [.int .u64 c.M, .int .u64 c.R], .int .i64 to])) (loop := noLoop) (md := ⟨false, false⟩) (rd := rd_i64_b) (wr := wr_i64_b) (wo := wo_i64_b) (r := (S.cong_Cong_Greatest c to)) c59_ok (by kernel_rfl) (by kernel_rfl) (by kernel_rfl) (no_loops (by kernel_rfl)) (by kernel_rfl) (by kernel_rfl) (by kernel_rfl)
    rw_i64_b np_i64_b no_i64_b (by kernel_rfl) (Eq.mpr (show Vm.Tr.vc (Vm.Fn c59 Tryz.f61 body61 noLoop ([.agg [.int .u64 c.M, .int .u64 c.R], .int .i64 to])) = S.cong_Cong_Greatest_pre c to by kernel_rfl) hp))

noncomputable def sem61 : List W → Option (W × List (List W) × List Prop)
  | [.agg [.int .u64 y1, .int .u64 y2], .int .i64 y3] => some (wr_i64_b (S.cong_Cong_Greatest (⟨y1, y2⟩ : S.Cong) y3), wo_i64_b (S.cong_Cong_Greatest (⟨y1, y2⟩ : S.Cong) y3), [S.cong_Cong_Greatest_pre (⟨y1, y2⟩ : S.Cong) y3])
  | _ => none
noncomputable def c61 : Cfg El := c59.add 61 sem61
theorem c61_ok : CfgOk c61 := c59_ok.add (fun args w => Tryz.call61 args w) (fun vs r outs ps h hp => by
  unfold sem61 at h
  split at h
  · rename_i y1 y2 y3; cases h; exact fn61 (⟨y1, y2⟩ : S.Cong) y3 hp
  · cases h)

noncomputable def rd_S22 : W → List (List W) → Option (S.Inter)
  | .agg [.int .i64 x1, .int .i64 x2], [] => some ⟨x1, x2⟩
  | _, _ => none
noncomputable def wr_S22 (x : S.Inter) : W := .agg [.int .i64 x.Lo, .int .i64 x.Hi]
noncomputable def wo_S22 (_x : S.Inter) : List (List W) := []
theorem rw_S22 (v : W) (os : List (List W)) (x : S.Inter) (h : rd_S22 v os = some x) : v = wr_S22 x ∧ os = wo_S22 x := by
  unfold rd_S22 at h
  split at h <;> first | (cases h; exact ⟨rfl, rfl⟩) | cases h
theorem np_S22 (x : S.Inter) : okv (fun _ => false) (wr_S22 x) = true := rfl
theorem no_S22 (x : S.Inter) : all (fun cs => all (ok0 fun _ => false) cs) (wo_S22 x) = true := rfl

noncomputable def body76 : Code := (Tryz.f76.body).getD .skip
theorem fn76 : CallOk c61 76 [] (wr_S22 (S.inter_Empty)) (wo_S22 (S.inter_Empty)) :=
  (call_ok (c := c61) (f := 76) (fn := Tryz.f76) (code := body76) (args := ([])) (loop := noLoop) (md := ⟨false, false⟩) (rd := rd_S22) (wr := wr_S22) (wo := wo_S22) (r := S.inter_Empty) c61_ok (by kernel_rfl) (by kernel_rfl) (by kernel_rfl) (no_loops (by kernel_rfl)) (by kernel_rfl) (by kernel_rfl) (by kernel_rfl)
    rw_S22 np_S22 no_S22 (by kernel_rfl) (Tr.vc_of_noReq (by kernel_rfl)))

noncomputable def sem76 : List W → Option (W × List (List W) × List Prop)
  | [] => some (wr_S22 (S.inter_Empty), wo_S22 (S.inter_Empty), [])
  | _ => none
noncomputable def c76 : Cfg El := c61.add 76 sem76
theorem c76_ok : CfgOk c76 := c61_ok.add (fun args w => Tryz.call76 args w) (fun vs r outs ps h hp => by
  unfold sem76 at h
  split at h
  · cases h; exact fn76
  · cases h)

noncomputable def body42 : Code := (Tryz.f42.body).getD .skip
theorem fn42 (lo : Int) (hi : Int) : CallOk c76 42 [.int .i64 lo, .int .i64 hi] (wr_S22 (S.inter_Of lo hi)) (wo_S22 (S.inter_Of lo hi)) :=
  (call_ok (c := c76) (f := 42) (fn := Tryz.f42) (code := body42) (args := ([.int .i64 lo, .int .i64 hi])) (loop := noLoop) (md := ⟨false, false⟩) (rd := rd_S22) (wr := wr_S22) (wo := wo_S22) (r := (S.inter_Of lo hi)) c76_ok (by kernel_rfl) (by kernel_rfl) (by kernel_rfl) (no_loops (by kernel_rfl)) (by kernel_rfl) (by kernel_rfl) (by kernel_rfl)
    rw_S22 np_S22 no_S22 (by kernel_rfl) (Tr.vc_of_noReq (by kernel_rfl)))

noncomputable def sem42 : List W → Option (W × List (List W) × List Prop)
  | [.int .i64 y1, .int .i64 y2] => some (wr_S22 (S.inter_Of y1 y2), wo_S22 (S.inter_Of y1 y2), [])
  | _ => none
noncomputable def c42 : Cfg El := c76.add 42 sem42
theorem c42_ok : CfgOk c42 := c76_ok.add (fun args w => Tryz.call42 args w) (fun vs r outs ps h hp => by
  unfold sem42 at h
  split at h
  · rename_i y1 y2; cases h; exact fn42 y1 y2
  · cases h)

noncomputable def body117 : Code := (Tryz.f117.body).getD .skip
theorem fn117 (i : S.Inter) : CallOk c42 117 [.agg [.int .i64 i.Lo, .int .i64 i.Hi]] (wr_S22 (S.inter_Inter_plain i)) (wo_S22 (S.inter_Inter_plain i)) :=
  (call_ok (c := c42) (f := 117) (fn := Tryz.f117) (code := body117) (args := ([.agg [.int .i64 i.Lo, .int .i64 i.Hi]])) (loop := noLoop) (md := ⟨false, false⟩) (rd := rd_S22) (wr := wr_S22) (wo := wo_S22) (r := (S.inter_Inter_plain i)) c42_ok (by kernel_rfl) (by kernel_rfl) (by kernel_rfl) (no_loops (by kernel_rfl)) (by kernel_rfl) (by kernel_rfl) (by kernel_rfl)
    rw_S22 np_S22 no_S22 (by kernel_rfl) (Tr.vc_of_noReq (by kernel_rfl)))

noncomputable def sem117 : List W → Option (W × List (List W) × List Prop)
  | [.agg [.int .i64 y1, .int .i64 y2]] => some (wr_S22 (S.inter_Inter_plain (⟨y1, y2⟩ : S.Inter)), wo_S22 (S.inter_Inter_plain (⟨y1, y2⟩ : S.Inter)), [])
  | _ => none
noncomputable def c117 : Cfg El := c42.add 117 sem117
theorem c117_ok : CfgOk c117 := c42_ok.add (fun args w => Tryz.call117 args w) (fun vs r outs ps h hp => by
  unfold sem117 at h
  split at h
  · rename_i y1 y2; cases h; exact fn117 (⟨y1, y2⟩ : S.Inter)
  · cases h)

noncomputable def body62 : Code := (Tryz.f62.body).getD .skip
theorem fn62 (i : S.Inter) : CallOk c117 62 [.agg [.int .i64 i.Lo, .int .i64 i.Hi]] (wr_b (S.inter_Inter_IsEmpty i)) (wo_b (S.inter_Inter_IsEmpty i)) :=
  (call_ok (c := c117) (f := 62) (fn := Tryz.f62) (code := body62) (args := ([.agg [.int .i64 i.Lo, .int .i64 i.Hi]])) (loop := noLoop) (md := ⟨false, false⟩) (rd := rd_b) (wr := wr_b) (wo := wo_b) (r := (S.inter_Inter_IsEmpty i)) c117_ok (by kernel_rfl) (by kernel_rfl) (by kernel_rfl) (no_loops (by kernel_rfl)) (by kernel_rfl) (by kernel_rfl) (by kernel_rfl)
    rw_b np_b no_b (by kernel_rfl) (Tr.vc_of_noReq (by kernel_rfl)))

noncomputable def sem62 : List W → Option (W × List (List W) × List Prop)
  | [.agg [.int .i64 y1, .int .i64 y2]] => some (wr_b (S.inter_Inter_IsEmpty (⟨y1, y2⟩ : S.Inter)), wo_b (S.inter_Inter_IsEmpty (⟨y1, y2⟩ : S.Inter)), [])
  | _ => none
noncomputable def c62 : Cfg El := c117.add 62 sem62
theorem c62_ok : CfgOk c62 := c117_ok.add (fun args w => Tryz.call62 args w) (fun vs r outs ps h hp => by
  unfold sem62 at h
  split at h
  · rename_i y1 y2; cases h; exact fn62 (⟨y1, y2⟩ : S.Inter)
  · cases h)

noncomputable def rd_S25 : W → List (List W) → Option (S.Cong)
  | .agg [.int .u64 x1, .int .u64 x2], [] => some ⟨x1, x2⟩
  | _, _ => none
noncomputable def wr_S25 (x : S.Cong) : W := .agg [.int .u64 x.M, .int .u64 x.R]
noncomputable def wo_S25 (_x : S.Cong) : List (List W) := []
theorem rw_S25 (v : W) (os : List (List W)) (x : S.Cong) (h : rd_S25 v os = some x) : v = wr_S25 x ∧ os = wo_S25 x := by
  unfold rd_S25 at h
  split at h <;> first | (cases h; exact ⟨rfl, rfl⟩) | cases h
theorem np_S25 (x : S.Cong) : okv (fun _ => false) (wr_S25 x) = true := rfl
theorem no_S25 (x : S.Cong) : all (fun cs => all (ok0 fun _ => false) cs) (wo_S25 x) = true := rfl

noncomputable def body75 : Code := (Tryz.f75.body).getD .skip
theorem fn75 : CallOk c62 75 [] (wr_S25 (S.cong_Top)) (wo_S25 (S.cong_Top)) :=
  (call_ok (c := c62) (f := 75) (fn := Tryz.f75) (code := body75) (args := ([])) (loop := noLoop) (md := ⟨false, false⟩) (rd := rd_S25) (wr := wr_S25) (wo := wo_S25) (r := S.cong_Top) c62_ok (by kernel_rfl) (by kernel_rfl) (by kernel_rfl) (no_loops (by kernel_rfl)) (by kernel_rfl) (by kernel_rfl) (by kernel_rfl)
    rw_S25 np_S25 no_S25 (by kernel_rfl) (Tr.vc_of_noReq (by kernel_rfl)))

noncomputable def sem75 : List W → Option (W × List (List W) × List Prop)
  | [] => some (wr_S25 (S.cong_Top), wo_S25 (S.cong_Top), [])
  | _ => none
noncomputable def c75 : Cfg El := c62.add 75 sem75
theorem c75_ok : CfgOk c75 := c62_ok.add (fun args w => Tryz.call75 args w) (fun vs r outs ps h hp => by
  unfold sem75 at h
  split at h
  · cases h; exact fn75
  · cases h)

noncomputable def rd_S27 : W → List (List W) → Option (S.Value)
  | .agg [.int .i64 x1, .int .i64 x2, .int .u64 x3, .int .u64 x4], [] => some ⟨⟨x1, x2⟩, ⟨x3, x4⟩⟩
  | _, _ => none
noncomputable def wr_S27 (x : S.Value) : W := .agg [.int .i64 x.I.Lo, .int .i64 x.I.Hi, .int .u64 x.C.M, .int .u64 x.C.R]
noncomputable def wo_S27 (_x : S.Value) : List (List W) := []
theorem rw_S27 (v : W) (os : List (List W)) (x : S.Value) (h : rd_S27 v os = some x) : v = wr_S27 x ∧ os = wo_S27 x := by
  unfold rd_S27 at h
  split at h <;> first | (cases h; exact ⟨rfl, rfl⟩) | cases h
theorem np_S27 (x : S.Value) : okv (fun _ => false) (wr_S27 x) = true := rfl
theorem no_S27 (x : S.Value) : all (fun cs => all (ok0 fun _ => false) cs) (wo_S27 x) = true := rfl

noncomputable def body29 : Code := (Tryz.f29.body).getD .skip
theorem fn29 : CallOk c75 29 [] (wr_S27 (S.value_Bottom)) (wo_S27 (S.value_Bottom)) :=
  (call_ok (c := c75) (f := 29) (fn := Tryz.f29) (code := body29) (args := ([])) (loop := noLoop) (md := ⟨false, false⟩) (rd := rd_S27) (wr := wr_S27) (wo := wo_S27) (r := S.value_Bottom) c75_ok (by kernel_rfl) (by kernel_rfl) (by kernel_rfl) (no_loops (by kernel_rfl)) (by kernel_rfl) (by kernel_rfl) (by kernel_rfl)
    rw_S27 np_S27 no_S27 (by kernel_rfl) (Tr.vc_of_noReq (by kernel_rfl)))

noncomputable def sem29 : List W → Option (W × List (List W) × List Prop)
  | [] => some (wr_S27 (S.value_Bottom), wo_S27 (S.value_Bottom), [])
  | _ => none
noncomputable def c29 : Cfg El := c75.add 29 sem29
theorem c29_ok : CfgOk c29 := c75_ok.add (fun args w => Tryz.call29 args w) (fun vs r outs ps h hp => by
  unfold sem29 at h
  split at h
  · cases h; exact fn29
  · cases h)

noncomputable def body68 : Code := (Tryz.f68.body).getD .skip
theorem fn68 (n : Int) : CallOk c29 68 [.int .i64 n] (wr_S22 (S.inter_One n)) (wo_S22 (S.inter_One n)) :=
  (call_ok (c := c29) (f := 68) (fn := Tryz.f68) (code := body68) (args := ([.int .i64 n])) (loop := noLoop) (md := ⟨false, false⟩) (rd := rd_S22) (wr := wr_S22) (wo := wo_S22) (r := (S.inter_One n)) c29_ok (by kernel_rfl) (by kernel_rfl) (by kernel_rfl) (no_loops (by kernel_rfl)) (by kernel_rfl) (by kernel_rfl) (by kernel_rfl)
    rw_S22 np_S22 no_S22 (by kernel_rfl) (Tr.vc_of_noReq (by kernel_rfl)))

noncomputable def sem68 : List W → Option (W × List (List W) × List Prop)
  | [.int .i64 y1] => some (wr_S22 (S.inter_One y1), wo_S22 (S.inter_One y1), [])
  | _ => none
noncomputable def c68 : Cfg El := c29.add 68 sem68
theorem c68_ok : CfgOk c68 := c29_ok.add (fun args w => Tryz.call68 args w) (fun vs r outs ps h hp => by
  unfold sem68 at h
  split at h
  · rename_i y1; cases h; exact fn68 y1
  · cases h)

noncomputable def body69 : Code := (Tryz.f69.body).getD .skip
theorem fn69 (n : Int) : CallOk c68 69 [.int .i64 n] (wr_S25 (S.cong_Const n)) (wo_S25 (S.cong_Const n)) :=
  (call_ok (c := c68) (f := 69) (fn := Tryz.f69) (code := body69) (args := ([.int .i64 n])) (loop := noLoop) (md := ⟨false, false⟩) (rd := rd_S25) (wr := wr_S25) (wo := wo_S25) (r := (S.cong_Const n)) c68_ok (by kernel_rfl) (by kernel_rfl) (by kernel_rfl) (no_loops (by kernel_rfl)) (by kernel_rfl) (by kernel_rfl) (by kernel_rfl)
    rw_S25 np_S25 no_S25 (by kernel_rfl) (Tr.vc_of_noReq (by kernel_rfl)))

noncomputable def sem69 : List W → Option (W × List (List W) × List Prop)
  | [.int .i64 y1] => some (wr_S25 (S.cong_Const y1), wo_S25 (S.cong_Const y1), [])
  | _ => none
noncomputable def c69 : Cfg El := c68.add 69 sem69
theorem c69_ok : CfgOk c69 := c68_ok.add (fun args w => Tryz.call69 args w) (fun vs r outs ps h hp => by
  unfold sem69 at h
  split at h
  · rename_i y1; cases h; exact fn69 y1
  · cases h)

noncomputable def body21 : Code := (Tryz.f21.body).getD .skip
theorem fn21 (n : Int) : CallOk c69 21 [.int .i64 n] (wr_S27 (S.value_One n)) (wo_S27 (S.value_One n)) :=
  (call_ok (c := c69) (f := 21) (fn := Tryz.f21) (code := body21) (args := ([.int .i64 n])) (loop := noLoop) (md := ⟨false, false⟩) (rd := rd_S27) (wr := wr_S27) (wo := wo_S27) (r := (S.value_One n)) c69_ok (by kernel_rfl) (by kernel_rfl) (by kernel_rfl) (no_loops (by kernel_rfl)) (by kernel_rfl) (by kernel_rfl) (by kernel_rfl)
    rw_S27 np_S27 no_S27 (by kernel_rfl) (Tr.vc_of_noReq (by kernel_rfl)))

noncomputable def sem21 : List W → Option (W × List (List W) × List Prop)
  | [.int .i64 y1] => some (wr_S27 (S.value_One y1), wo_S27 (S.value_One y1), [])
  | _ => none
noncomputable def c21 : Cfg El := c69.add 21 sem21
theorem c21_ok : CfgOk c21 := c69_ok.add (fun args w => Tryz.call21 args w) (fun vs r outs ps h hp => by
  unfold sem21 at h
  split at h
  · rename_i y1; cases h; exact fn21 y1
  · cases h)

noncomputable def body17 : Code := (Tryz.f17.body).getD .skip
theorem fn17 (i : S.Inter) (c : S.Cong) (hp : S.value_Make_pre i c) : CallOk c21 17 [.agg [.int .i64 i.Lo, .int .i64 i.Hi], .agg [.int .u64 c.M, .int .u64 c.R]] (wr_S27 (S.value_Make i c)) (wo_S27 (S.value_Make i c)) :=
  (call_ok (c := c21) (f := 17) (fn := Tryz.f17) (code := body17) (args := ([.agg [.int .i64 i.Lo, .int .i64 i.Hi], .agg [.int .u64 c.M, .int .u64 c.R]])) (loop := noLoop) (md := ⟨false, false⟩) (rd := rd_S27) (wr := wr_S27) (wo := wo_S27) (r := (S.value_Make i c)) c21_ok (by kernel_rfl) (by kernel_rfl) (by kernel_rfl) (no_loops (by kernel_rfl)) (by kernel_rfl) (by kernel_rfl) (by kernel_rfl)
    rw_S27 np_S27 no_S27 (by kernel_rfl) (Eq.mpr (show Vm.Tr.vc (Vm.Fn c21 Tryz.f17 body17 noLoop ([.agg [.int .i64 i.Lo, .int .i64 i.Hi], .agg [.int .u64 c.M, .int .u64 c.R]])) = S.value_Make_pre i c by kernel_rfl) hp))

noncomputable def sem17 : List W → Option (W × List (List W) × List Prop)
  | [.agg [.int .i64 y1, .int .i64 y2], .agg [.int .u64 y3, .int .u64 y4]] => some (wr_S27 (S.value_Make (⟨y1, y2⟩ : S.Inter) (⟨y3, y4⟩ : S.Cong)), wo_S27 (S.value_Make (⟨y1, y2⟩ : S.Inter) (⟨y3, y4⟩ : S.Cong)), [S.value_Make_pre (⟨y1, y2⟩ : S.Inter) (⟨y3, y4⟩ : S.Cong)])
  | _ => none
noncomputable def c17 : Cfg El := c21.add 17 sem17
theorem c17_ok : CfgOk c17 := c21_ok.add (fun args w => Tryz.call17 args w) (fun vs r outs ps h hp => by
  unfold sem17 at h
  split at h
  · rename_i y1 y2 y3 y4; cases h; exact fn17 (⟨y1, y2⟩ : S.Inter) (⟨y3, y4⟩ : S.Cong) hp
  · cases h)

noncomputable def body63 : Code := (Tryz.f63.body).getD .skip
theorem fn63 (v : S.Value) (hp : S.value_Value_reduced_pre v) : CallOk c17 63 [.agg [.int .i64 v.I.Lo, .int .i64 v.I.Hi, .int .u64 v.C.M, .int .u64 v.C.R]] (wr_S27 (S.value_Value_reduced v)) (wo_S27 (S.value_Value_reduced v)) :=
  (call_ok (c := c17) (f := 63) (fn := Tryz.f63) (code := body63) (args := ([.agg [.int .i64 v.I.Lo, .int .i64 v.I.Hi, .int .u64 v.C.M, .int .u64 v.C.R]])) (loop := noLoop) (md := ⟨false, false⟩) (rd := rd_S27) (wr := wr_S27) (wo := wo_S27) (r := (S.value_Value_reduced v)) c17_ok (by kernel_rfl) (by kernel_rfl) (by kernel_rfl) (no_loops (by kernel_rfl)) (by kernel_rfl) (by kernel_rfl) (by kernel_rfl)
    rw_S27 np_S27 no_S27 (by kernel_rfl) (Eq.mpr (show Vm.Tr.vc (Vm.Fn c17 Tryz.f63 body63 noLoop ([.agg [.int .i64 v.I.Lo, .int .i64 v.I.Hi, .int .u64 v.C.M, .int .u64 v.C.R]])) = S.value_Value_reduced_pre v by kernel_rfl) hp))

noncomputable def sem63 : List W → Option (W × List (List W) × List Prop)
  | [.agg [.int .i64 y1, .int .i64 y2, .int .u64 y3, .int .u64 y4]] => some (wr_S27 (S.value_Value_reduced (⟨(⟨y1, y2⟩ : S.Inter), (⟨y3, y4⟩ : S.Cong)⟩ : S.Value)), wo_S27 (S.value_Value_reduced (⟨(⟨y1, y2⟩ : S.Inter), (⟨y3, y4⟩ : S.Cong)⟩ : S.Value)), [S.value_Value_reduced_pre (⟨(⟨y1, y2⟩ : S.Inter), (⟨y3, y4⟩ : S.Cong)⟩ : S.Value)])
  | _ => none
noncomputable def c63 : Cfg El := c17.add 63 sem63
theorem c63_ok : CfgOk c63 := c17_ok.add (fun args w => Tryz.call63 args w) (fun vs r outs ps h hp => by
  unfold sem63 at h
  split at h
  · rename_i y1 y2 y3 y4; cases h; exact fn63 (⟨(⟨y1, y2⟩ : S.Inter), (⟨y3, y4⟩ : S.Cong)⟩ : S.Value) hp
  · cases h)

noncomputable def body18 : Code := (Tryz.f18.body).getD .skip
theorem fn18 (v : S.Value) (hp : S.value_Value_IsBottom_pre v) : CallOk c63 18 [.agg [.int .i64 v.I.Lo, .int .i64 v.I.Hi, .int .u64 v.C.M, .int .u64 v.C.R]] (wr_b (S.value_Value_IsBottom v)) (wo_b (S.value_Value_IsBottom v)) :=
  (call_ok (c := c63) (f := 18) (fn := Tryz.f18) (code := body18) (args := ([.agg [.int .i64 v.I.Lo, .int .i64 v.I.Hi, .int .u64 v.C.M, .int .u64 v.C.R]])) (loop := noLoop) (md := ⟨false, false⟩) (rd := rd_b) (wr := wr_b) (wo := wo_b) (r := (S.value_Value_IsBottom v)) c63_ok (by kernel_rfl) (by kernel_rfl) (by kernel_rfl) (no_loops (by kernel_rfl)) (by kernel_rfl) (by kernel_rfl) (by kernel_rfl)
    rw_b np_b no_b (by kernel_rfl) (Eq.mpr (show Vm.Tr.vc (Vm.Fn c63 Tryz.f18 body18 noLoop ([.agg [.int .i64 v.I.Lo, .int .i64 v.I.Hi, .int .u64 v.C.M, .int .u64 v.C.R]])) = S.value_Value_IsBottom_pre v by kernel_rfl) hp))

noncomputable def sem18 : List W → Option (W × List (List W) × List Prop)
  | [.agg [.int .i64 y1, .int .i64 y2, .int .u64 y3, .int .u64 y4]] => some (wr_b (S.value_Value_IsBottom (⟨(⟨y1, y2⟩ : S.Inter), (⟨y3, y4⟩ : S.Cong)⟩ : S.Value)), wo_b (S.value_Value_IsBottom (⟨(⟨y1, y2⟩ : S.Inter), (⟨y3, y4⟩ : S.Cong)⟩ : S.Value)), [S.value_Value_IsBottom_pre (⟨(⟨y1, y2⟩ : S.Inter), (⟨y3, y4⟩ : S.Cong)⟩ : S.Value)])
  | _ => none
noncomputable def c18 : Cfg El := c63.add 18 sem18
theorem c18_ok : CfgOk c18 := c63_ok.add (fun args w => Tryz.call18 args w) (fun vs r outs ps h hp => by
  unfold sem18 at h
  split at h
  · rename_i y1 y2 y3 y4; cases h; exact fn18 (⟨(⟨y1, y2⟩ : S.Inter), (⟨y3, y4⟩ : S.Cong)⟩ : S.Value) hp
  · cases h)

noncomputable def body179 : Code := (Tryz.f179.body).getD .skip
theorem fn179 (i : S.Inter) (n : Int) : CallOk c18 179 [.agg [.int .i64 i.Lo, .int .i64 i.Hi], .int .i64 n] (wr_b (S.inter_Inter_Has i n)) (wo_b (S.inter_Inter_Has i n)) :=
  (call_ok (c := c18) (f := 179) (fn := Tryz.f179) (code := body179) (args := ([.agg [.int .i64 i.Lo, .int .i64 i.Hi], .int .i64 n])) (loop := noLoop) (md := ⟨false, false⟩) (rd := rd_b) (wr := wr_b) (wo := wo_b) (r := (S.inter_Inter_Has i n)) c18_ok (by kernel_rfl) (by kernel_rfl) (by kernel_rfl) (no_loops (by kernel_rfl)) (by kernel_rfl) (by kernel_rfl) (by kernel_rfl)
    rw_b np_b no_b (by kernel_rfl) (Tr.vc_of_noReq (by kernel_rfl)))

noncomputable def sem179 : List W → Option (W × List (List W) × List Prop)
  | [.agg [.int .i64 y1, .int .i64 y2], .int .i64 y3] => some (wr_b (S.inter_Inter_Has (⟨y1, y2⟩ : S.Inter) y3), wo_b (S.inter_Inter_Has (⟨y1, y2⟩ : S.Inter) y3), [])
  | _ => none
noncomputable def c179 : Cfg El := c18.add 179 sem179
theorem c179_ok : CfgOk c179 := c18_ok.add (fun args w => Tryz.call179 args w) (fun vs r outs ps h hp => by
  unfold sem179 at h
  split at h
  · rename_i y1 y2 y3; cases h; exact fn179 (⟨y1, y2⟩ : S.Inter) y3
  · cases h)

noncomputable def body132 : Code := (Tryz.f132.body).getD .skip
theorem fn132 (a : S.Inter) (b : S.Inter) : CallOk c179 132 [.agg [.int .i64 a.Lo, .int .i64 a.Hi], .agg [.int .i64 b.Lo, .int .i64 b.Hi]] (wr_b (S.inter_Within a b)) (wo_b (S.inter_Within a b)) :=
  (call_ok (c := c179) (f := 132) (fn := Tryz.f132) (code := body132) (args := ([.agg [.int .i64 a.Lo, .int .i64 a.Hi], .agg [.int .i64 b.Lo, .int .i64 b.Hi]])) (loop := noLoop) (md := ⟨false, false⟩) (rd := rd_b) (wr := wr_b) (wo := wo_b) (r := (S.inter_Within a b)) c179_ok (by kernel_rfl) (by kernel_rfl) (by kernel_rfl) (no_loops (by kernel_rfl)) (by kernel_rfl) (by kernel_rfl) (by kernel_rfl)
    rw_b np_b no_b (by kernel_rfl) (Tr.vc_of_noReq (by kernel_rfl)))

noncomputable def sem132 : List W → Option (W × List (List W) × List Prop)
  | [.agg [.int .i64 y1, .int .i64 y2], .agg [.int .i64 y3, .int .i64 y4]] => some (wr_b (S.inter_Within (⟨y1, y2⟩ : S.Inter) (⟨y3, y4⟩ : S.Inter)), wo_b (S.inter_Within (⟨y1, y2⟩ : S.Inter) (⟨y3, y4⟩ : S.Inter)), [])
  | _ => none
noncomputable def c132 : Cfg El := c179.add 132 sem132
theorem c132_ok : CfgOk c132 := c179_ok.add (fun args w => Tryz.call132 args w) (fun vs r outs ps h hp => by
  unfold sem132 at h
  split at h
  · rename_i y1 y2 y3 y4; cases h; exact fn132 (⟨y1, y2⟩ : S.Inter) (⟨y3, y4⟩ : S.Inter)
  · cases h)

noncomputable def body151 : Code := (Tryz.f151.body).getD .skip
theorem fn151 (c : S.Cong) (g : Int) (hp : S.cong_Cong_by_pre c g) : CallOk c132 151 [.agg [.int .u64 c.M, .int .u64 c.R], .int .u64 g] (wr_u64 (S.cong_Cong_by c g)) (wo_u64 (S.cong_Cong_by c g)) :=
  (call_ok (c := c132) (f := 151) (fn := Tryz.f151) (code := body151) (args := ([.agg [.int .u64 c.M, .int .u64 c.R], .int .u64 g])) (loop := noLoop) (md := ⟨false, false⟩) (rd := rd_u64) (wr := wr_u64) (wo := wo_u64) (r := (S.cong_Cong_by c g)) c132_ok (by kernel_rfl) (by kernel_rfl) (by kernel_rfl) (no_loops (by kernel_rfl)) (by kernel_rfl) (by kernel_rfl) (by kernel_rfl)
    rw_u64 np_u64 no_u64 (by kernel_rfl) (Eq.mpr (show Vm.Tr.vc (Vm.Fn c132 Tryz.f151 body151 noLoop ([.agg [.int .u64 c.M, .int .u64 c.R], .int .u64 g])) = S.cong_Cong_by_pre c g by kernel_rfl) hp))

noncomputable def sem151 : List W → Option (W × List (List W) × List Prop)
  | [.agg [.int .u64 y1, .int .u64 y2], .int .u64 y3] => some (wr_u64 (S.cong_Cong_by (⟨y1, y2⟩ : S.Cong) y3), wo_u64 (S.cong_Cong_by (⟨y1, y2⟩ : S.Cong) y3), [S.cong_Cong_by_pre (⟨y1, y2⟩ : S.Cong) y3])
  | _ => none
noncomputable def c151 : Cfg El := c132.add 151 sem151
theorem c151_ok : CfgOk c151 := c132_ok.add (fun args w => Tryz.call151 args w) (fun vs r outs ps h hp => by
  unfold sem151 at h
  split at h
  · rename_i y1 y2 y3; cases h; exact fn151 (⟨y1, y2⟩ : S.Cong) y3 hp
  · cases h)

noncomputable def body133 : Code := (Tryz.f133.body).getD .skip
theorem fn133 (a : S.Cong) (b : S.Cong) (hp : S.cong_Within_pre a b) : CallOk c151 133 [.agg [.int .u64 a.M, .int .u64 a.R], .agg [.int .u64 b.M, .int .u64 b.R]] (wr_b (S.cong_Within a b)) (wo_b (S.cong_Within a b)) :=
  (call_ok (c := c151) (f := 133) (fn := Tryz.f133) (code := body133) (args := ([.agg [.int .u64 a.M, .int .u64 a.R], .agg [.int .u64 b.M, .int .u64 b.R]])) (loop := noLoop) (md := ⟨false, false⟩) (rd := rd_b) (wr := wr_b) (wo := wo_b) (r := (S.cong_Within a b)) c151_ok (by kernel_rfl) (by kernel_rfl) (by kernel_rfl) (no_loops (by kernel_rfl)) (by kernel_rfl) (by kernel_rfl) (by kernel_rfl)
    rw_b np_b no_b (by kernel_rfl) (Eq.mpr (show Vm.Tr.vc (Vm.Fn c151 Tryz.f133 body133 noLoop ([.agg [.int .u64 a.M, .int .u64 a.R], .agg [.int .u64 b.M, .int .u64 b.R]])) = S.cong_Within_pre a b by kernel_rfl) hp))

noncomputable def sem133 : List W → Option (W × List (List W) × List Prop)
  | [.agg [.int .u64 y1, .int .u64 y2], .agg [.int .u64 y3, .int .u64 y4]] => some (wr_b (S.cong_Within (⟨y1, y2⟩ : S.Cong) (⟨y3, y4⟩ : S.Cong)), wo_b (S.cong_Within (⟨y1, y2⟩ : S.Cong) (⟨y3, y4⟩ : S.Cong)), [S.cong_Within_pre (⟨y1, y2⟩ : S.Cong) (⟨y3, y4⟩ : S.Cong)])
  | _ => none
noncomputable def c133 : Cfg El := c151.add 133 sem133
theorem c133_ok : CfgOk c133 := c151_ok.add (fun args w => Tryz.call133 args w) (fun vs r outs ps h hp => by
  unfold sem133 at h
  split at h
  · rename_i y1 y2 y3 y4; cases h; exact fn133 (⟨y1, y2⟩ : S.Cong) (⟨y3, y4⟩ : S.Cong) hp
  · cases h)

noncomputable def body71 : Code := (Tryz.f71.body).getD .skip
theorem fn71 (a : S.Value) (b : S.Value) (hp : S.value_Within_pre a b) : CallOk c133 71 [.agg [.int .i64 a.I.Lo, .int .i64 a.I.Hi, .int .u64 a.C.M, .int .u64 a.C.R], .agg [.int .i64 b.I.Lo, .int .i64 b.I.Hi, .int .u64 b.C.M, .int .u64 b.C.R]] (wr_b (S.value_Within a b)) (wo_b (S.value_Within a b)) :=
  (call_ok (c := c133) (f := 71) (fn := Tryz.f71) (code := body71) (args := ([.agg [.int .i64 a.I.Lo, .int .i64 a.I.Hi, .int .u64 a.C.M, .int .u64 a.C.R], .agg [.int .i64 b.I.Lo, .int .i64 b.I.Hi, .int .u64 b.C.M, .int .u64 b.C.R]])) (loop := noLoop) (md := ⟨false, false⟩) (rd := rd_b) (wr := wr_b) (wo := wo_b) (r := (S.value_Within a b)) c133_ok (by kernel_rfl) (by kernel_rfl) (by kernel_rfl) (no_loops (by kernel_rfl)) (by kernel_rfl) (by kernel_rfl) (by kernel_rfl)
    rw_b np_b no_b (by kernel_rfl) (Eq.mpr (show Vm.Tr.vc (Vm.Fn c133 Tryz.f71 body71 noLoop ([.agg [.int .i64 a.I.Lo, .int .i64 a.I.Hi, .int .u64 a.C.M, .int .u64 a.C.R], .agg [.int .i64 b.I.Lo, .int .i64 b.I.Hi, .int .u64 b.C.M, .int .u64 b.C.R]])) = S.value_Within_pre a b by kernel_rfl) hp))

noncomputable def sem71 : List W → Option (W × List (List W) × List Prop)
  | [.agg [.int .i64 y1, .int .i64 y2, .int .u64 y3, .int .u64 y4], .agg [.int .i64 y5, .int .i64 y6, .int .u64 y7, .int .u64 y8]] => some (wr_b (S.value_Within (⟨(⟨y1, y2⟩ : S.Inter), (⟨y3, y4⟩ : S.Cong)⟩ : S.Value) (⟨(⟨y5, y6⟩ : S.Inter), (⟨y7, y8⟩ : S.Cong)⟩ : S.Value)), wo_b (S.value_Within (⟨(⟨y1, y2⟩ : S.Inter), (⟨y3, y4⟩ : S.Cong)⟩ : S.Value) (⟨(⟨y5, y6⟩ : S.Inter), (⟨y7, y8⟩ : S.Cong)⟩ : S.Value)), [S.value_Within_pre (⟨(⟨y1, y2⟩ : S.Inter), (⟨y3, y4⟩ : S.Cong)⟩ : S.Value) (⟨(⟨y5, y6⟩ : S.Inter), (⟨y7, y8⟩ : S.Cong)⟩ : S.Value)])
  | _ => none
noncomputable def c71 : Cfg El := c133.add 71 sem71
theorem c71_ok : CfgOk c71 := c133_ok.add (fun args w => Tryz.call71 args w) (fun vs r outs ps h hp => by
  unfold sem71 at h
  split at h
  · rename_i y1 y2 y3 y4 y5 y6 y7 y8; cases h; exact fn71 (⟨(⟨y1, y2⟩ : S.Inter), (⟨y3, y4⟩ : S.Cong)⟩ : S.Value) (⟨(⟨y5, y6⟩ : S.Inter), (⟨y7, y8⟩ : S.Cong)⟩ : S.Value) hp
  · cases h)

noncomputable def body23 : Code := (Tryz.f23.body).getD .skip
theorem fn23 (v : S.Value) (n : Int) (hp : S.value_Value_Has_pre v n) : CallOk c71 23 [.agg [.int .i64 v.I.Lo, .int .i64 v.I.Hi, .int .u64 v.C.M, .int .u64 v.C.R], .int .i64 n] (wr_b (S.value_Value_Has v n)) (wo_b (S.value_Value_Has v n)) :=
  (call_ok (c := c71) (f := 23) (fn := Tryz.f23) (code := body23) (args := ([.agg [.int .i64 v.I.Lo, .int .i64 v.I.Hi, .int .u64 v.C.M, .int .u64 v.C.R], .int .i64 n])) (loop := noLoop) (md := ⟨false, false⟩) (rd := rd_b) (wr := wr_b) (wo := wo_b) (r := (S.value_Value_Has v n)) c71_ok (by kernel_rfl) (by kernel_rfl) (by kernel_rfl) (no_loops (by kernel_rfl)) (by kernel_rfl) (by kernel_rfl) (by kernel_rfl)
    rw_b np_b no_b (by kernel_rfl) (Eq.mpr (show Vm.Tr.vc (Vm.Fn c71 Tryz.f23 body23 noLoop ([.agg [.int .i64 v.I.Lo, .int .i64 v.I.Hi, .int .u64 v.C.M, .int .u64 v.C.R], .int .i64 n])) = S.value_Value_Has_pre v n by kernel_rfl) hp))

noncomputable def sem23 : List W → Option (W × List (List W) × List Prop)
  | [.agg [.int .i64 y1, .int .i64 y2, .int .u64 y3, .int .u64 y4], .int .i64 y5] => some (wr_b (S.value_Value_Has (⟨(⟨y1, y2⟩ : S.Inter), (⟨y3, y4⟩ : S.Cong)⟩ : S.Value) y5), wo_b (S.value_Value_Has (⟨(⟨y1, y2⟩ : S.Inter), (⟨y3, y4⟩ : S.Cong)⟩ : S.Value) y5), [S.value_Value_Has_pre (⟨(⟨y1, y2⟩ : S.Inter), (⟨y3, y4⟩ : S.Cong)⟩ : S.Value) y5])
  | _ => none
noncomputable def c23 : Cfg El := c71.add 23 sem23
theorem c23_ok : CfgOk c23 := c71_ok.add (fun args w => Tryz.call23 args w) (fun vs r outs ps h hp => by
  unfold sem23 at h
  split at h
  · rename_i y1 y2 y3 y4 y5; cases h; exact fn23 (⟨(⟨y1, y2⟩ : S.Inter), (⟨y3, y4⟩ : S.Cong)⟩ : S.Value) y5 hp
  · cases h)

noncomputable def body16 : Code := (Tryz.f16.body).getD .skip
theorem fn16 (v : S.Value) (n : Int) (hp : S.law22_near_pre v n) : CallOk c23 16 [.agg [.int .i64 v.I.Lo, .int .i64 v.I.Hi, .int .u64 v.C.M, .int .u64 v.C.R], .int .i64 n] (wr_i64_b (S.law22_near v n)) (wo_i64_b (S.law22_near v n)) :=
  (call_ok (c := c23) (f := 16) (fn := Tryz.f16) (code := body16) (args := ([.agg [.int .i64 v.I.Lo, .int .i64 v.I.Hi, .int .u64 v.C.M, .int .u64 v.C.R], .int .i64 n])) (loop := noLoop) (md := ⟨false, false⟩) (rd := rd_i64_b) (wr := wr_i64_b) (wo := wo_i64_b) (r := (S.law22_near v n)) c23_ok (by kernel_rfl) (by kernel_rfl) (by kernel_rfl) (no_loops (by kernel_rfl)) (by kernel_rfl) (by kernel_rfl) (by kernel_rfl)
    rw_i64_b np_i64_b no_i64_b (by kernel_rfl) (Eq.mpr (show Vm.Tr.vc (Vm.Fn c23 Tryz.f16 body16 noLoop ([.agg [.int .i64 v.I.Lo, .int .i64 v.I.Hi, .int .u64 v.C.M, .int .u64 v.C.R], .int .i64 n])) = S.law22_near_pre v n by kernel_rfl) hp))

noncomputable def sem16 : List W → Option (W × List (List W) × List Prop)
  | [.agg [.int .i64 y1, .int .i64 y2, .int .u64 y3, .int .u64 y4], .int .i64 y5] => some (wr_i64_b (S.law22_near (⟨(⟨y1, y2⟩ : S.Inter), (⟨y3, y4⟩ : S.Cong)⟩ : S.Value) y5), wo_i64_b (S.law22_near (⟨(⟨y1, y2⟩ : S.Inter), (⟨y3, y4⟩ : S.Cong)⟩ : S.Value) y5), [S.law22_near_pre (⟨(⟨y1, y2⟩ : S.Inter), (⟨y3, y4⟩ : S.Cong)⟩ : S.Value) y5])
  | _ => none
noncomputable def c16 : Cfg El := c23.add 16 sem16
theorem c16_ok : CfgOk c16 := c23_ok.add (fun args w => Tryz.call16 args w) (fun vs r outs ps h hp => by
  unfold sem16 at h
  split at h
  · rename_i y1 y2 y3 y4 y5; cases h; exact fn16 (⟨(⟨y1, y2⟩ : S.Inter), (⟨y3, y4⟩ : S.Cong)⟩ : S.Value) y5 hp
  · cases h)

noncomputable def body26 : Code := (Tryz.f26.body).getD .skip
theorem fn26 (m : Int) (n : Int) (hp : S.cong_Make_pre m n) : CallOk c16 26 [.int .u64 m, .int .i64 n] (wr_S25 (S.cong_Make m n)) (wo_S25 (S.cong_Make m n)) :=
  (call_ok (c := c16) (f := 26) (fn := Tryz.f26) (code := body26) (args := ([.int .u64 m, .int .i64 n])) (loop := noLoop) (md := ⟨false, false⟩) (rd := rd_S25) (wr := wr_S25) (wo := wo_S25) (r := (S.cong_Make m n)) c16_ok (by kernel_rfl) (by kernel_rfl) (by kernel_rfl) (no_loops (by kernel_rfl)) (by kernel_rfl) (by kernel_rfl) (by kernel_rfl)
    rw_S25 np_S25 no_S25 (by kernel_rfl) (Eq.mpr (show Vm.Tr.vc (Vm.Fn c16 Tryz.f26 body26 noLoop ([.int .u64 m, .int .i64 n])) = S.cong_Make_pre m n by kernel_rfl) hp))

noncomputable def sem26 : List W → Option (W × List (List W) × List Prop)
  | [.int .u64 y1, .int .i64 y2] => some (wr_S25 (S.cong_Make y1 y2), wo_S25 (S.cong_Make y1 y2), [S.cong_Make_pre y1 y2])
  | _ => none
noncomputable def c26 : Cfg El := c16.add 26 sem26
theorem c26_ok : CfgOk c26 := c16_ok.add (fun args w => Tryz.call26 args w) (fun vs r outs ps h hp => by
  unfold sem26 at h
  split at h
  · rename_i y1 y2; cases h; exact fn26 y1 y2 hp
  · cases h)

noncomputable def body35 : Code := (Tryz.f35.body).getD .skip
theorem fn35 (v : S.Value) (hp : S.arith_plain_pre v) : CallOk c26 35 [.agg [.int .i64 v.I.Lo, .int .i64 v.I.Hi, .int .u64 v.C.M, .int .u64 v.C.R]] (wr_S27 (S.arith_plain v)) (wo_S27 (S.arith_plain v)) :=
  (call_ok (c := c26) (f := 35) (fn := Tryz.f35) (code := body35) (args := ([.agg [.int .i64 v.I.Lo, .int .i64 v.I.Hi, .int .u64 v.C.M, .int .u64 v.C.R]])) (loop := noLoop) (md := ⟨false, false⟩) (rd := rd_S27) (wr := wr_S27) (wo := wo_S27) (r := (S.arith_plain v)) c26_ok (by kernel_rfl) (by kernel_rfl) (by kernel_rfl) (no_loops (by kernel_rfl)) (by kernel_rfl) (by kernel_rfl) (by kernel_rfl)
    rw_S27 np_S27 no_S27 (by kernel_rfl) (Eq.mpr (show Vm.Tr.vc (Vm.Fn c26 Tryz.f35 body35 noLoop ([.agg [.int .i64 v.I.Lo, .int .i64 v.I.Hi, .int .u64 v.C.M, .int .u64 v.C.R]])) = S.arith_plain_pre v by kernel_rfl) hp))

noncomputable def sem35 : List W → Option (W × List (List W) × List Prop)
  | [.agg [.int .i64 y1, .int .i64 y2, .int .u64 y3, .int .u64 y4]] => some (wr_S27 (S.arith_plain (⟨(⟨y1, y2⟩ : S.Inter), (⟨y3, y4⟩ : S.Cong)⟩ : S.Value)), wo_S27 (S.arith_plain (⟨(⟨y1, y2⟩ : S.Inter), (⟨y3, y4⟩ : S.Cong)⟩ : S.Value)), [S.arith_plain_pre (⟨(⟨y1, y2⟩ : S.Inter), (⟨y3, y4⟩ : S.Cong)⟩ : S.Value)])
  | _ => none
noncomputable def c35 : Cfg El := c26.add 35 sem35
theorem c35_ok : CfgOk c35 := c26_ok.add (fun args w => Tryz.call35 args w) (fun vs r outs ps h hp => by
  unfold sem35 at h
  split at h
  · rename_i y1 y2 y3 y4; cases h; exact fn35 (⟨(⟨y1, y2⟩ : S.Inter), (⟨y3, y4⟩ : S.Cong)⟩ : S.Value) hp
  · cases h)

noncomputable def body70 : Code := (Tryz.f70.body).getD .skip
theorem fn70 (i : S.Inter) : CallOk c35 70 [.agg [.int .i64 i.Lo, .int .i64 i.Hi]] (wr_i64_b (S.inter_Inter_Single i)) (wo_i64_b (S.inter_Inter_Single i)) :=
  (call_ok (c := c35) (f := 70) (fn := Tryz.f70) (code := body70) (args := ([.agg [.int .i64 i.Lo, .int .i64 i.Hi]])) (loop := noLoop) (md := ⟨false, false⟩) (rd := rd_i64_b) (wr := wr_i64_b) (wo := wo_i64_b) (r := (S.inter_Inter_Single i)) c35_ok (by kernel_rfl) (by kernel_rfl) (by kernel_rfl) (no_loops (by kernel_rfl)) (by kernel_rfl) (by kernel_rfl) (by kernel_rfl)
    rw_i64_b np_i64_b no_i64_b (by kernel_rfl) (Tr.vc_of_noReq (by kernel_rfl)))

noncomputable def sem70 : List W → Option (W × List (List W) × List Prop)
  | [.agg [.int .i64 y1, .int .i64 y2]] => some (wr_i64_b (S.inter_Inter_Single (⟨y1, y2⟩ : S.Inter)), wo_i64_b (S.inter_Inter_Single (⟨y1, y2⟩ : S.Inter)), [])
  | _ => none
noncomputable def c70 : Cfg El := c35.add 70 sem70
theorem c70_ok : CfgOk c70 := c35_ok.add (fun args w => Tryz.call70 args w) (fun vs r outs ps h hp => by
  unfold sem70 at h
  split at h
  · rename_i y1 y2; cases h; exact fn70 (⟨y1, y2⟩ : S.Inter)
  · cases h)

noncomputable def body22 : Code := (Tryz.f22.body).getD .skip
theorem fn22 (v : S.Value) (hp : S.value_Value_Single_pre v) : CallOk c70 22 [.agg [.int .i64 v.I.Lo, .int .i64 v.I.Hi, .int .u64 v.C.M, .int .u64 v.C.R]] (wr_i64_b (S.value_Value_Single v)) (wo_i64_b (S.value_Value_Single v)) :=
  (call_ok (c := c70) (f := 22) (fn := Tryz.f22) (code := body22) (args := ([.agg [.int .i64 v.I.Lo, .int .i64 v.I.Hi, .int .u64 v.C.M, .int .u64 v.C.R]])) (loop := noLoop) (md := ⟨false, false⟩) (rd := rd_i64_b) (wr := wr_i64_b) (wo := wo_i64_b) (r := (S.value_Value_Single v)) c70_ok (by kernel_rfl) (by kernel_rfl) (by kernel_rfl) (no_loops (by kernel_rfl)) (by kernel_rfl) (by kernel_rfl) (by kernel_rfl)
    rw_i64_b np_i64_b no_i64_b (by kernel_rfl) (Eq.mpr (show Vm.Tr.vc (Vm.Fn c70 Tryz.f22 body22 noLoop ([.agg [.int .i64 v.I.Lo, .int .i64 v.I.Hi, .int .u64 v.C.M, .int .u64 v.C.R]])) = S.value_Value_Single_pre v by kernel_rfl) hp))

noncomputable def sem22 : List W → Option (W × List (List W) × List Prop)
  | [.agg [.int .i64 y1, .int .i64 y2, .int .u64 y3, .int .u64 y4]] => some (wr_i64_b (S.value_Value_Single (⟨(⟨y1, y2⟩ : S.Inter), (⟨y3, y4⟩ : S.Cong)⟩ : S.Value)), wo_i64_b (S.value_Value_Single (⟨(⟨y1, y2⟩ : S.Inter), (⟨y3, y4⟩ : S.Cong)⟩ : S.Value)), [S.value_Value_Single_pre (⟨(⟨y1, y2⟩ : S.Inter), (⟨y3, y4⟩ : S.Cong)⟩ : S.Value)])
  | _ => none
noncomputable def c22 : Cfg El := c70.add 22 sem22
theorem c22_ok : CfgOk c22 := c70_ok.add (fun args w => Tryz.call22 args w) (fun vs r outs ps h hp => by
  unfold sem22 at h
  split at h
  · rename_i y1 y2 y3 y4; cases h; exact fn22 (⟨(⟨y1, y2⟩ : S.Inter), (⟨y3, y4⟩ : S.Cong)⟩ : S.Value) hp
  · cases h)

noncomputable def body36 : Code := (Tryz.f36.body).getD .skip
theorem fn36 (op : Int) : CallOk c22 36 [.int .i64 op] (wr_b (S.arith_known op)) (wo_b (S.arith_known op)) :=
  (call_ok (c := c22) (f := 36) (fn := Tryz.f36) (code := body36) (args := ([.int .i64 op])) (loop := noLoop) (md := ⟨false, false⟩) (rd := rd_b) (wr := wr_b) (wo := wo_b) (r := (S.arith_known op)) c22_ok (by kernel_rfl) (by kernel_rfl) (by kernel_rfl) (no_loops (by kernel_rfl)) (by kernel_rfl) (by kernel_rfl) (by kernel_rfl)
    rw_b np_b no_b (by kernel_rfl) (Tr.vc_of_noReq (by kernel_rfl)))

noncomputable def sem36 : List W → Option (W × List (List W) × List Prop)
  | [.int .i64 y1] => some (wr_b (S.arith_known y1), wo_b (S.arith_known y1), [])
  | _ => none
noncomputable def c36 : Cfg El := c22.add 36 sem36
theorem c36_ok : CfgOk c36 := c22_ok.add (fun args w => Tryz.call36 args w) (fun vs r outs ps h hp => by
  unfold sem36 at h
  split at h
  · rename_i y1; cases h; exact fn36 y1
  · cases h)

noncomputable def body40 : Code := (Tryz.f40.body).getD .skip
theorem fn40 : CallOk c36 40 [] (wr_S22 (S.inter_Whole)) (wo_S22 (S.inter_Whole)) :=
  (call_ok (c := c36) (f := 40) (fn := Tryz.f40) (code := body40) (args := ([])) (loop := noLoop) (md := ⟨false, false⟩) (rd := rd_S22) (wr := wr_S22) (wo := wo_S22) (r := S.inter_Whole) c36_ok (by kernel_rfl) (by kernel_rfl) (by kernel_rfl) (no_loops (by kernel_rfl)) (by kernel_rfl) (by kernel_rfl) (by kernel_rfl)
    rw_S22 np_S22 no_S22 (by kernel_rfl) (Tr.vc_of_noReq (by kernel_rfl)))

noncomputable def sem40 : List W → Option (W × List (List W) × List Prop)
  | [] => some (wr_S22 (S.inter_Whole), wo_S22 (S.inter_Whole), [])
  | _ => none
noncomputable def c40 : Cfg El := c36.add 40 sem40
theorem c40_ok : CfgOk c40 := c36_ok.add (fun args w => Tryz.call40 args w) (fun vs r outs ps h hp => by
  unfold sem40 at h
  split at h
  · cases h; exact fn40
  · cases h)

noncomputable def body28 : Code := (Tryz.f28.body).getD .skip
theorem fn28 : CallOk c40 28 [] (wr_S27 (S.value_Top)) (wo_S27 (S.value_Top)) :=
  (call_ok (c := c40) (f := 28) (fn := Tryz.f28) (code := body28) (args := ([])) (loop := noLoop) (md := ⟨false, false⟩) (rd := rd_S27) (wr := wr_S27) (wo := wo_S27) (r := S.value_Top) c40_ok (by kernel_rfl) (by kernel_rfl) (by kernel_rfl) (no_loops (by kernel_rfl)) (by kernel_rfl) (by kernel_rfl) (by kernel_rfl)
    rw_S27 np_S27 no_S27 (by kernel_rfl) (Tr.vc_of_noReq (by kernel_rfl)))

noncomputable def sem28 : List W → Option (W × List (List W) × List Prop)
  | [] => some (wr_S27 (S.value_Top), wo_S27 (S.value_Top), [])
  | _ => none
noncomputable def c28 : Cfg El := c40.add 28 sem28
theorem c28_ok : CfgOk c28 := c40_ok.add (fun args w => Tryz.call28 args w) (fun vs r outs ps h hp => by
  unfold sem28 at h
  split at h
  · cases h; exact fn28
  · cases h)

noncomputable def body178 : Code := (Tryz.f178.body).getD .skip
theorem fn178 (x : Int) : CallOk c28 178 [.int .i64 x] (wr_b (S.cmp_isNaNint64 x)) (wo_b (S.cmp_isNaNint64 x)) :=
  (call_ok (c := c28) (f := 178) (fn := Tryz.f178) (code := body178) (args := ([.int .i64 x])) (loop := noLoop) (md := ⟨false, false⟩) (rd := rd_b) (wr := wr_b) (wo := wo_b) (r := (S.cmp_isNaNint64 x)) c28_ok (by kernel_rfl) (by kernel_rfl) (by kernel_rfl) (no_loops (by kernel_rfl)) (by kernel_rfl) (by kernel_rfl) (by kernel_rfl)
    rw_b np_b no_b (by kernel_rfl) (Tr.vc_of_noReq (by kernel_rfl)))

noncomputable def sem178 : List W → Option (W × List (List W) × List Prop)
  | [.int .i64 y1] => some (wr_b (S.cmp_isNaNint64 y1), wo_b (S.cmp_isNaNint64 y1), [])
  | _ => none
noncomputable def c178 : Cfg El := c28.add 178 sem178
theorem c178_ok : CfgOk c178 := c28_ok.add (fun args w => Tryz.call178 args w) (fun vs r outs ps h hp => by
  unfold sem178 at h
  split at h
  · rename_i y1; cases h; exact fn178 y1
  · cases h)

noncomputable def body118 : Code := (Tryz.f118.body).getD .skip
theorem fn118 (x : Int) (y : Int) : CallOk c178 118 [.int .i64 x, .int .i64 y] (wr_i64 (S.cmp_Compareint64 x y)) (wo_i64 (S.cmp_Compareint64 x y)) :=
  (call_ok (c := c178) (f := 118) (fn := Tryz.f118) (code := body118) (args := ([.int .i64 x, .int .i64 y])) (loop := noLoop) (md := ⟨false, false⟩) (rd := rd_i64) (wr := wr_i64) (wo := wo_i64) (r := (S.cmp_Compareint64 x y)) c178_ok (by kernel_rfl) (by kernel_rfl) (by kernel_rfl) (no_loops (by kernel_rfl)) (by kernel_rfl) (by kernel_rfl) (by kernel_rfl)
    rw_i64 np_i64 no_i64 (by kernel_rfl) (Tr.vc_of_noReq (by kernel_rfl)))

noncomputable def sem118 : List W → Option (W × List (List W) × List Prop)
  | [.int .i64 y1, .int .i64 y2] => some (wr_i64 (S.cmp_Compareint64 y1 y2), wo_i64 (S.cmp_Compareint64 y1 y2), [])
  | _ => none
noncomputable def c118 : Cfg El := c178.add 118 sem118
theorem c118_ok : CfgOk c118 := c178_ok.add (fun args w => Tryz.call118 args w) (fun vs r outs ps h hp => by
  unfold sem118 at h
  split at h
  · rename_i y1 y2; cases h; exact fn118 y1 y2
  · cases h)

noncomputable def rd_b_b : W → List (List W) → Option (Bool × Bool)
  | .tup [.bool x1, .bool x2], [] => some ⟨x1, x2⟩
  | _, _ => none
noncomputable def wr_b_b (x : Bool × Bool) : W := .tup [.bool x.1, .bool x.2]
noncomputable def wo_b_b (_x : Bool × Bool) : List (List W) := []
theorem rw_b_b (v : W) (os : List (List W)) (x : Bool × Bool) (h : rd_b_b v os = some x) : v = wr_b_b x ∧ os = wo_b_b x := by
  unfold rd_b_b at h
  split at h <;> first | (cases h; exact ⟨rfl, rfl⟩) | cases h
theorem np_b_b (x : Bool × Bool) : okv (fun _ => false) (wr_b_b x) = true := rfl
theorem no_b_b (x : Bool × Bool) : all (fun cs => all (ok0 fun _ => false) cs) (wo_b_b x) = true := rfl

noncomputable def body64 : Code := (Tryz.f64.body).getD .skip
theorem fn64 (op : Int) (a : Int) (b : Int) : CallOk c118 64 [.int .i64 op, .int .i64 a, .int .i64 b] (wr_b_b (S.word_compares op a b)) (wo_b_b (S.word_compares op a b)) :=
  (call_ok (c := c118) (f := 64) (fn := Tryz.f64) (code := body64) (args := ([.int .i64 op, .int .i64 a, .int .i64 b])) (loop := noLoop) (md := ⟨false, false⟩) (rd := rd_b_b) (wr := wr_b_b) (wo := wo_b_b) (r := (S.word_compares op a b)) c118_ok (by kernel_rfl) (by kernel_rfl) (by kernel_rfl) (no_loops (by kernel_rfl)) (by kernel_rfl) (by kernel_rfl) (by kernel_rfl)
    rw_b_b np_b_b no_b_b (by kernel_rfl) (Tr.vc_of_noReq (by kernel_rfl)))

noncomputable def sem64 : List W → Option (W × List (List W) × List Prop)
  | [.int .i64 y1, .int .i64 y2, .int .i64 y3] => some (wr_b_b (S.word_compares y1 y2 y3), wo_b_b (S.word_compares y1 y2 y3), [])
  | _ => none
noncomputable def c64 : Cfg El := c118.add 64 sem64
theorem c64_ok : CfgOk c64 := c118_ok.add (fun args w => Tryz.call64 args w) (fun vs r outs ps h hp => by
  unfold sem64 at h
  split at h
  · rename_i y1 y2 y3; cases h; exact fn64 y1 y2 y3
  · cases h)

noncomputable def body65 : Code := (Tryz.f65.body).getD .skip
theorem fn65 (x : Bool) : CallOk c64 65 [.bool x] (wr_i64 (S.word_Bit x)) (wo_i64 (S.word_Bit x)) :=
  (call_ok (c := c64) (f := 65) (fn := Tryz.f65) (code := body65) (args := ([.bool x])) (loop := noLoop) (md := ⟨false, false⟩) (rd := rd_i64) (wr := wr_i64) (wo := wo_i64) (r := (S.word_Bit x)) c64_ok (by kernel_rfl) (by kernel_rfl) (by kernel_rfl) (no_loops (by kernel_rfl)) (by kernel_rfl) (by kernel_rfl) (by kernel_rfl)
    rw_i64 np_i64 no_i64 (by kernel_rfl) (Tr.vc_of_noReq (by kernel_rfl)))

noncomputable def sem65 : List W → Option (W × List (List W) × List Prop)
  | [.bool y1] => some (wr_i64 (S.word_Bit y1), wo_i64 (S.word_Bit y1), [])
  | _ => none
noncomputable def c65 : Cfg El := c64.add 65 sem65
theorem c65_ok : CfgOk c65 := c64_ok.add (fun args w => Tryz.call65 args w) (fun vs r outs ps h hp => by
  unfold sem65 at h
  split at h
  · rename_i y1; cases h; exact fn65 y1
  · cases h)

noncomputable def body72 : Code := (Tryz.f72.body).getD .skip
theorem fn72 (n : Int) : CallOk c65 72 [.int .i64 n] (wr_b (S.word_Truth n)) (wo_b (S.word_Truth n)) :=
  (call_ok (c := c65) (f := 72) (fn := Tryz.f72) (code := body72) (args := ([.int .i64 n])) (loop := noLoop) (md := ⟨false, false⟩) (rd := rd_b) (wr := wr_b) (wo := wo_b) (r := (S.word_Truth n)) c65_ok (by kernel_rfl) (by kernel_rfl) (by kernel_rfl) (no_loops (by kernel_rfl)) (by kernel_rfl) (by kernel_rfl) (by kernel_rfl)
    rw_b np_b no_b (by kernel_rfl) (Tr.vc_of_noReq (by kernel_rfl)))

noncomputable def sem72 : List W → Option (W × List (List W) × List Prop)
  | [.int .i64 y1] => some (wr_b (S.word_Truth y1), wo_b (S.word_Truth y1), [])
  | _ => none
noncomputable def c72 : Cfg El := c65.add 72 sem72
theorem c72_ok : CfgOk c72 := c65_ok.add (fun args w => Tryz.call72 args w) (fun vs r outs ps h hp => by
  unfold sem72 at h
  split at h
  · rename_i y1; cases h; exact fn72 y1
  · cases h)

noncomputable def body119 : Code := (Tryz.f119.body).getD .skip
theorem fn119 (a : Int) (b : Int) : CallOk c72 119 [.int .i64 a, .int .i64 b] (wr_i64 (S.word_reckons_1 a b)) (wo_i64 (S.word_reckons_1 a b)) :=
  (call_ok (c := c72) (f := 119) (fn := Tryz.f119) (code := body119) (args := ([.int .i64 a, .int .i64 b])) (loop := noLoop) (md := ⟨false, false⟩) (rd := rd_i64) (wr := wr_i64) (wo := wo_i64) (r := (S.word_reckons_1 a b)) c72_ok (by kernel_rfl) (by kernel_rfl) (by kernel_rfl) (no_loops (by kernel_rfl)) (by kernel_rfl) (by kernel_rfl) (by kernel_rfl)
    rw_i64 np_i64 no_i64 (by kernel_rfl) (Tr.vc_of_noReq (by kernel_rfl)))

noncomputable def sem119 : List W → Option (W × List (List W) × List Prop)
  | [.int .i64 y1, .int .i64 y2] => some (wr_i64 (S.word_reckons_1 y1 y2), wo_i64 (S.word_reckons_1 y1 y2), [])
  | _ => none
noncomputable def c119 : Cfg El := c72.add 119 sem119
theorem c119_ok : CfgOk c119 := c72_ok.add (fun args w => Tryz.call119 args w) (fun vs r outs ps h hp => by
  unfold sem119 at h
  split at h
  · rename_i y1 y2; cases h; exact fn119 y1 y2
  · cases h)

noncomputable def body120 : Code := (Tryz.f120.body).getD .skip
theorem fn120 (a : Int) (b : Int) : CallOk c119 120 [.int .i64 a, .int .i64 b] (wr_i64 (S.word_reckons_2 a b)) (wo_i64 (S.word_reckons_2 a b)) :=
  (call_ok (c := c119) (f := 120) (fn := Tryz.f120) (code := body120) (args := ([.int .i64 a, .int .i64 b])) (loop := noLoop) (md := ⟨false, false⟩) (rd := rd_i64) (wr := wr_i64) (wo := wo_i64) (r := (S.word_reckons_2 a b)) c119_ok (by kernel_rfl) (by kernel_rfl) (by kernel_rfl) (no_loops (by kernel_rfl)) (by kernel_rfl) (by kernel_rfl) (by kernel_rfl)
    rw_i64 np_i64 no_i64 (by kernel_rfl) (Tr.vc_of_noReq (by kernel_rfl)))

noncomputable def sem120 : List W → Option (W × List (List W) × List Prop)
  | [.int .i64 y1, .int .i64 y2] => some (wr_i64 (S.word_reckons_2 y1 y2), wo_i64 (S.word_reckons_2 y1 y2), [])
  | _ => none
noncomputable def c120 : Cfg El := c119.add 120 sem120
theorem c120_ok : CfgOk c120 := c119_ok.add (fun args w => Tryz.call120 args w) (fun vs r outs ps h hp => by
  unfold sem120 at h
  split at h
  · rename_i y1 y2; cases h; exact fn120 y1 y2
  · cases h)

noncomputable def body121 : Code := (Tryz.f121.body).getD .skip
theorem fn121 (a : Int) (b : Int) : CallOk c120 121 [.int .i64 a, .int .i64 b] (wr_i64 (S.word_reckons_3 a b)) (wo_i64 (S.word_reckons_3 a b)) :=
  (call_ok (c := c120) (f := 121) (fn := Tryz.f121) (code := body121) (args := ([.int .i64 a, .int .i64 b])) (loop := noLoop) (md := ⟨false, false⟩) (rd := rd_i64) (wr := wr_i64) (wo := wo_i64) (r := (S.word_reckons_3 a b)) c120_ok (by kernel_rfl) (by kernel_rfl) (by kernel_rfl) (no_loops (by kernel_rfl)) (by kernel_rfl) (by kernel_rfl) (by kernel_rfl)
    rw_i64 np_i64 no_i64 (by kernel_rfl) (Tr.vc_of_noReq (by kernel_rfl)))

noncomputable def sem121 : List W → Option (W × List (List W) × List Prop)
  | [.int .i64 y1, .int .i64 y2] => some (wr_i64 (S.word_reckons_3 y1 y2), wo_i64 (S.word_reckons_3 y1 y2), [])
  | _ => none
noncomputable def c121 : Cfg El := c120.add 121 sem121
theorem c121_ok : CfgOk c121 := c120_ok.add (fun args w => Tryz.call121 args w) (fun vs r outs ps h hp => by
  unfold sem121 at h
  split at h
  · rename_i y1 y2; cases h; exact fn121 y1 y2
  · cases h)

noncomputable def body122 : Code := (Tryz.f122.body).getD .skip
theorem fn122 (a : Int) (b : Int) : CallOk c121 122 [.int .i64 a, .int .i64 b] (wr_i64 (S.word_reckons_4 a b)) (wo_i64 (S.word_reckons_4 a b)) :=
  (call_ok (c := c121) (f := 122) (fn := Tryz.f122) (code := body122) (args := ([.int .i64 a, .int .i64 b])) (loop := noLoop) (md := ⟨false, false⟩) (rd := rd_i64) (wr := wr_i64) (wo := wo_i64) (r := (S.word_reckons_4 a b)) c121_ok (by kernel_rfl) (by kernel_rfl) (by kernel_rfl) (no_loops (by kernel_rfl)) (by kernel_rfl) (by kernel_rfl) (by kernel_rfl)
    rw_i64 np_i64 no_i64 (by kernel_rfl) (Tr.vc_of_noReq (by kernel_rfl)))

noncomputable def sem122 : List W → Option (W × List (List W) × List Prop)
  | [.int .i64 y1, .int .i64 y2] => some (wr_i64 (S.word_reckons_4 y1 y2), wo_i64 (S.word_reckons_4 y1 y2), [])
  | _ => none
noncomputable def c122 : Cfg El := c121.add 122 sem122
theorem c122_ok : CfgOk c122 := c121_ok.add (fun args w => Tryz.call122 args w) (fun vs r outs ps h hp => by
  unfold sem122 at h
  split at h
  · rename_i y1 y2; cases h; exact fn122 y1 y2
  · cases h)

noncomputable def body123 : Code := (Tryz.f123.body).getD .skip
theorem fn123 (a : Int) (b : Int) : CallOk c122 123 [.int .i64 a, .int .i64 b] (wr_i64 (S.word_reckons_5 a b)) (wo_i64 (S.word_reckons_5 a b)) :=
  (call_ok (c := c122) (f := 123) (fn := Tryz.f123) (code := body123) (args := ([.int .i64 a, .int .i64 b])) (loop := noLoop) (md := ⟨false, false⟩) (rd := rd_i64) (wr := wr_i64) (wo := wo_i64) (r := (S.word_reckons_5 a b)) c122_ok (by kernel_rfl) (by kernel_rfl) (by kernel_rfl) (no_loops (by kernel_rfl)) (by kernel_rfl) (by kernel_rfl) (by kernel_rfl)
    rw_i64 np_i64 no_i64 (by kernel_rfl) (Tr.vc_of_noReq (by kernel_rfl)))

noncomputable def sem123 : List W → Option (W × List (List W) × List Prop)
  | [.int .i64 y1, .int .i64 y2] => some (wr_i64 (S.word_reckons_5 y1 y2), wo_i64 (S.word_reckons_5 y1 y2), [])
  | _ => none
noncomputable def c123 : Cfg El := c122.add 123 sem123
theorem c123_ok : CfgOk c123 := c122_ok.add (fun args w => Tryz.call123 args w) (fun vs r outs ps h hp => by
  unfold sem123 at h
  split at h
  · rename_i y1 y2; cases h; exact fn123 y1 y2
  · cases h)

noncomputable def body125 : Code := (Tryz.f125.body).getD .skip
theorem fn125 (b : Int) : CallOk c123 125 [.int .i64 b] (wr_u64 (S.word_Shift b)) (wo_u64 (S.word_Shift b)) :=
  (call_ok (c := c123) (f := 125) (fn := Tryz.f125) (code := body125) (args := ([.int .i64 b])) (loop := noLoop) (md := ⟨false, false⟩) (rd := rd_u64) (wr := wr_u64) (wo := wo_u64) (r := (S.word_Shift b)) c123_ok (by kernel_rfl) (by kernel_rfl) (by kernel_rfl) (no_loops (by kernel_rfl)) (by kernel_rfl) (by kernel_rfl) (by kernel_rfl)
    rw_u64 np_u64 no_u64 (by kernel_rfl) (Tr.vc_of_noReq (by kernel_rfl)))

noncomputable def sem125 : List W → Option (W × List (List W) × List Prop)
  | [.int .i64 y1] => some (wr_u64 (S.word_Shift y1), wo_u64 (S.word_Shift y1), [])
  | _ => none
noncomputable def c125 : Cfg El := c123.add 125 sem125
theorem c125_ok : CfgOk c125 := c123_ok.add (fun args w => Tryz.call125 args w) (fun vs r outs ps h hp => by
  unfold sem125 at h
  split at h
  · rename_i y1; cases h; exact fn125 y1
  · cases h)

noncomputable def body124 : Code := (Tryz.f124.body).getD .skip
theorem fn124 (a : Int) (b : Int) (hp : S.word_reckons_6_pre a b) : CallOk c125 124 [.int .i64 a, .int .i64 b] (wr_i64 (S.word_reckons_6 a b)) (wo_i64 (S.word_reckons_6 a b)) :=
  (call_ok (c := c125) (f := 124) (fn := Tryz.f124) (code := body124) (args := ([.int .i64 a, .int .i64 b])) (loop := noLoop) (md := ⟨false, false⟩) (rd := rd_i64) (wr := wr_i64) (wo := wo_i64) (r := (S.word_reckons_6 a b)) c125_ok (by kernel_rfl) (by kernel_rfl) (by kernel_rfl) (no_loops (by kernel_rfl)) (by kernel_rfl) (by kernel_rfl) (by kernel_rfl)
    rw_i64 np_i64 no_i64 (by kernel_rfl) (Eq.mpr (show Vm.Tr.vc (Vm.Fn c125 Tryz.f124 body124 noLoop ([.int .i64 a, .int .i64 b])) = S.word_reckons_6_pre a b by kernel_rfl) hp))

noncomputable def sem124 : List W → Option (W × List (List W) × List Prop)
  | [.int .i64 y1, .int .i64 y2] => some (wr_i64 (S.word_reckons_6 y1 y2), wo_i64 (S.word_reckons_6 y1 y2), [S.word_reckons_6_pre y1 y2])
  | _ => none
noncomputable def c124 : Cfg El := c125.add 124 sem124
theorem c124_ok : CfgOk c124 := c125_ok.add (fun args w => Tryz.call124 args w) (fun vs r outs ps h hp => by
  unfold sem124 at h
  split at h
  · rename_i y1 y2; cases h; exact fn124 y1 y2 hp
  · cases h)

noncomputable def body126 : Code := (Tryz.f126.body).getD .skip
theorem fn126 (a : Int) (b : Int) (hp : S.word_reckons_7_pre a b) : CallOk c124 126 [.int .i64 a, .int .i64 b] (wr_i64 (S.word_reckons_7 a b)) (wo_i64 (S.word_reckons_7 a b)) :=
  (call_ok (c := c124) (f := 126) (fn := Tryz.f126) (code := body126) (args := ([.int .i64 a, .int .i64 b])) (loop := noLoop) (md := ⟨false, false⟩) (rd := rd_i64) (wr := wr_i64) (wo := wo_i64) (r := (S.word_reckons_7 a b)) c124_ok (by kernel_rfl) (by kernel_rfl) (by kernel_rfl) (no_loops (by kernel_rfl)) (by kernel_rfl) (by kernel_rfl) (by kernel_rfl)
    rw_i64 np_i64 no_i64 (by kernel_rfl) (Eq.mpr (show Vm.Tr.vc (Vm.Fn c124 Tryz.f126 body126 noLoop ([.int .i64 a, .int .i64 b])) = S.word_reckons_7_pre a b by kernel_rfl) hp))

noncomputable def sem126 : List W → Option (W × List (List W) × List Prop)
  | [.int .i64 y1, .int .i64 y2] => some (wr_i64 (S.word_reckons_7 y1 y2), wo_i64 (S.word_reckons_7 y1 y2), [S.word_reckons_7_pre y1 y2])
  | _ => none
noncomputable def c126 : Cfg El := c124.add 126 sem126
theorem c126_ok : CfgOk c126 := c124_ok.add (fun args w => Tryz.call126 args w) (fun vs r outs ps h hp => by
  unfold sem126 at h
  split at h
  · rename_i y1 y2; cases h; exact fn126 y1 y2 hp
  · cases h)

noncomputable def body127 : Code := (Tryz.f127.body).getD .skip
theorem fn127 (a : Int) (b : Int) : CallOk c126 127 [.int .i64 a, .int .i64 b] (wr_i64 (S.word_reckons_8 a b)) (wo_i64 (S.word_reckons_8 a b)) :=
  (call_ok (c := c126) (f := 127) (fn := Tryz.f127) (code := body127) (args := ([.int .i64 a, .int .i64 b])) (loop := noLoop) (md := ⟨false, false⟩) (rd := rd_i64) (wr := wr_i64) (wo := wo_i64) (r := (S.word_reckons_8 a b)) c126_ok (by kernel_rfl) (by kernel_rfl) (by kernel_rfl) (no_loops (by kernel_rfl)) (by kernel_rfl) (by kernel_rfl) (by kernel_rfl)
    rw_i64 np_i64 no_i64 (by kernel_rfl) (Tr.vc_of_noReq (by kernel_rfl)))

noncomputable def sem127 : List W → Option (W × List (List W) × List Prop)
  | [.int .i64 y1, .int .i64 y2] => some (wr_i64 (S.word_reckons_8 y1 y2), wo_i64 (S.word_reckons_8 y1 y2), [])
  | _ => none
noncomputable def c127 : Cfg El := c126.add 127 sem127
theorem c127_ok : CfgOk c127 := c126_ok.add (fun args w => Tryz.call127 args w) (fun vs r outs ps h hp => by
  unfold sem127 at h
  split at h
  · rename_i y1 y2; cases h; exact fn127 y1 y2
  · cases h)

noncomputable def body128 : Code := (Tryz.f128.body).getD .skip
theorem fn128 (a : Int) (b : Int) : CallOk c127 128 [.int .i64 a, .int .i64 b] (wr_i64 (S.word_reckons_9 a b)) (wo_i64 (S.word_reckons_9 a b)) :=
  (call_ok (c := c127) (f := 128) (fn := Tryz.f128) (code := body128) (args := ([.int .i64 a, .int .i64 b])) (loop := noLoop) (md := ⟨false, false⟩) (rd := rd_i64) (wr := wr_i64) (wo := wo_i64) (r := (S.word_reckons_9 a b)) c127_ok (by kernel_rfl) (by kernel_rfl) (by kernel_rfl) (no_loops (by kernel_rfl)) (by kernel_rfl) (by kernel_rfl) (by kernel_rfl)
    rw_i64 np_i64 no_i64 (by kernel_rfl) (Tr.vc_of_noReq (by kernel_rfl)))

noncomputable def sem128 : List W → Option (W × List (List W) × List Prop)
  | [.int .i64 y1, .int .i64 y2] => some (wr_i64 (S.word_reckons_9 y1 y2), wo_i64 (S.word_reckons_9 y1 y2), [])
  | _ => none
noncomputable def c128 : Cfg El := c127.add 128 sem128
theorem c128_ok : CfgOk c128 := c127_ok.add (fun args w => Tryz.call128 args w) (fun vs r outs ps h hp => by
  unfold sem128 at h
  split at h
  · rename_i y1 y2; cases h; exact fn128 y1 y2
  · cases h)

noncomputable def body129 : Code := (Tryz.f129.body).getD .skip
theorem fn129 (a : Int) (b : Int) : CallOk c128 129 [.int .i64 a, .int .i64 b] (wr_i64 (S.word_reckons_10 a b)) (wo_i64 (S.word_reckons_10 a b)) :=
  (call_ok (c := c128) (f := 129) (fn := Tryz.f129) (code := body129) (args := ([.int .i64 a, .int .i64 b])) (loop := noLoop) (md := ⟨false, false⟩) (rd := rd_i64) (wr := wr_i64) (wo := wo_i64) (r := (S.word_reckons_10 a b)) c128_ok (by kernel_rfl) (by kernel_rfl) (by kernel_rfl) (no_loops (by kernel_rfl)) (by kernel_rfl) (by kernel_rfl) (by kernel_rfl)
    rw_i64 np_i64 no_i64 (by kernel_rfl) (Tr.vc_of_noReq (by kernel_rfl)))

noncomputable def sem129 : List W → Option (W × List (List W) × List Prop)
  | [.int .i64 y1, .int .i64 y2] => some (wr_i64 (S.word_reckons_10 y1 y2), wo_i64 (S.word_reckons_10 y1 y2), [])
  | _ => none
noncomputable def c129 : Cfg El := c128.add 129 sem129
theorem c129_ok : CfgOk c129 := c128_ok.add (fun args w => Tryz.call129 args w) (fun vs r outs ps h hp => by
  unfold sem129 at h
  split at h
  · rename_i y1 y2; cases h; exact fn129 y1 y2
  · cases h)

noncomputable def body130 : Code := (Tryz.f130.body).getD .skip
theorem fn130 (a : Int) (b : Int) (hp : S.word_reckons_11_pre a b) : CallOk c129 130 [.int .i64 a, .int .i64 b] (wr_i64 (S.word_reckons_11 a b)) (wo_i64 (S.word_reckons_11 a b)) :=
  (call_ok (c := c129) (f := 130) (fn := Tryz.f130) (code := body130) (args := ([.int .i64 a, .int .i64 b])) (loop := noLoop) (md := ⟨false, false⟩) (rd := rd_i64) (wr := wr_i64) (wo := wo_i64) (r := (S.word_reckons_11 a b)) c129_ok (by kernel_rfl) (by kernel_rfl) (by kernel_rfl) (no_loops (by kernel_rfl)) (by kernel_rfl) (by kernel_rfl) (by kernel_rfl)
    rw_i64 np_i64 no_i64 (by kernel_rfl) (Eq.mpr (show Vm.Tr.vc (Vm.Fn c129 Tryz.f130 body130 noLoop ([.int .i64 a, .int .i64 b])) = S.word_reckons_11_pre a b by kernel_rfl) hp))

noncomputable def sem130 : List W → Option (W × List (List W) × List Prop)
  | [.int .i64 y1, .int .i64 y2] => some (wr_i64 (S.word_reckons_11 y1 y2), wo_i64 (S.word_reckons_11 y1 y2), [S.word_reckons_11_pre y1 y2])
  | _ => none
noncomputable def c130 : Cfg El := c129.add 130 sem130
theorem c130_ok : CfgOk c130 := c129_ok.add (fun args w => Tryz.call130 args w) (fun vs r outs ps h hp => by
  unfold sem130 at h
  split at h
  · rename_i y1 y2; cases h; exact fn130 y1 y2 hp
  · cases h)

noncomputable def body131 : Code := (Tryz.f131.body).getD .skip
theorem fn131 (a : Int) (b : Int) (hp : S.word_reckons_12_pre a b) : CallOk c130 131 [.int .i64 a, .int .i64 b] (wr_i64 (S.word_reckons_12 a b)) (wo_i64 (S.word_reckons_12 a b)) :=
  (call_ok (c := c130) (f := 131) (fn := Tryz.f131) (code := body131) (args := ([.int .i64 a, .int .i64 b])) (loop := noLoop) (md := ⟨false, false⟩) (rd := rd_i64) (wr := wr_i64) (wo := wo_i64) (r := (S.word_reckons_12 a b)) c130_ok (by kernel_rfl) (by kernel_rfl) (by kernel_rfl) (no_loops (by kernel_rfl)) (by kernel_rfl) (by kernel_rfl) (by kernel_rfl)
    rw_i64 np_i64 no_i64 (by kernel_rfl) (Eq.mpr (show Vm.Tr.vc (Vm.Fn c130 Tryz.f131 body131 noLoop ([.int .i64 a, .int .i64 b])) = S.word_reckons_12_pre a b by kernel_rfl) hp))

noncomputable def sem131 : List W → Option (W × List (List W) × List Prop)
  | [.int .i64 y1, .int .i64 y2] => some (wr_i64 (S.word_reckons_12 y1 y2), wo_i64 (S.word_reckons_12 y1 y2), [S.word_reckons_12_pre y1 y2])
  | _ => none
noncomputable def c131 : Cfg El := c130.add 131 sem131
theorem c131_ok : CfgOk c131 := c130_ok.add (fun args w => Tryz.call131 args w) (fun vs r outs ps h hp => by
  unfold sem131 at h
  split at h
  · rename_i y1 y2; cases h; exact fn131 y1 y2 hp
  · cases h)

noncomputable def rd_M99_f : W → List (List W) → Option ((List (Int × Go.Value)))
  | .cmap .i64 true x1, [] => some x1
  | _, _ => none
noncomputable def wr_M99_f (x : (List (Int × Go.Value))) : W := .cmap .i64 true x
noncomputable def wo_M99_f (_x : (List (Int × Go.Value))) : List (List W) := []
theorem rw_M99_f (v : W) (os : List (List W)) (x : (List (Int × Go.Value))) (h : rd_M99_f v os = some x) : v = wr_M99_f x ∧ os = wo_M99_f x := by
  unfold rd_M99_f at h
  split at h <;> first | (cases h; exact ⟨rfl, rfl⟩) | cases h
theorem np_M99_f (x : (List (Int × Go.Value))) : okv (fun _ => false) (wr_M99_f x) = true := rfl
theorem no_M99_f (x : (List (Int × Go.Value))) : all (fun cs => all (ok0 fun _ => false) cs) (wo_M99_f x) = true := rfl

noncomputable def body66 : Code := (Tryz.f66.body).getD .skip
theorem fn66 : CallOk c131 66 [] (wr_M99_f (S.word_reckons)) (wo_M99_f (S.word_reckons)) :=
  (call_ok (c := c131) (f := 66) (fn := Tryz.f66) (code := body66) (args := ([])) (loop := noLoop) (md := ⟨false, true⟩) (rd := rd_M99_f) (wr := wr_M99_f) (wo := wo_M99_f) (r := S.word_reckons) c131_ok (by kernel_rfl) (by kernel_rfl) (by kernel_rfl) (no_loops (by kernel_rfl)) (by kernel_rfl) (by kernel_rfl) (by kernel_rfl)
    rw_M99_f np_M99_f no_M99_f (by kernel_rfl) (Tr.vc_of_noReq (by kernel_rfl)))

noncomputable def sem66 : List W → Option (W × List (List W) × List Prop)
  | [] => some (wr_M99_f (S.word_reckons), wo_M99_f (S.word_reckons), [])
  | _ => none
noncomputable def c66 : Cfg El := c131.add 66 sem66
theorem c66_ok : CfgOk c66 := c131_ok.add (fun args w => Tryz.call66 args w) (fun vs r outs ps h hp => by
  unfold sem66 at h
  split at h
  · cases h; exact fn66
  · cases h)

noncomputable def body67 : Code := (Tryz.f67.body).getD .skip
theorem fn67 (op : Int) : CallOk c66 67 [.int .i64 op] (wr_b (S.word_Traps op)) (wo_b (S.word_Traps op)) :=
  (call_ok (c := c66) (f := 67) (fn := Tryz.f67) (code := body67) (args := ([.int .i64 op])) (loop := noLoop) (md := ⟨false, false⟩) (rd := rd_b) (wr := wr_b) (wo := wo_b) (r := (S.word_Traps op)) c66_ok (by kernel_rfl) (by kernel_rfl) (by kernel_rfl) (no_loops (by kernel_rfl)) (by kernel_rfl) (by kernel_rfl) (by kernel_rfl)
    rw_b np_b no_b (by kernel_rfl) (Tr.vc_of_noReq (by kernel_rfl)))

noncomputable def sem67 : List W → Option (W × List (List W) × List Prop)
  | [.int .i64 y1] => some (wr_b (S.word_Traps y1), wo_b (S.word_Traps y1), [])
  | _ => none
noncomputable def c67 : Cfg El := c66.add 67 sem67
theorem c67_ok : CfgOk c67 := c66_ok.add (fun args w => Tryz.call67 args w) (fun vs r outs ps h hp => by
  unfold sem67 at h
  split at h
  · rename_i y1; cases h; exact fn67 y1
  · cases h)

noncomputable def body20 : Code := (Tryz.f20.body).getD .skip
theorem fn20 (op : Int) (a : Int) (b : Int) (hp : S.word_Do_pre op a b) : CallOk c67 20 [.int .i64 op, .int .i64 a, .int .i64 b] (wr_i64_b (S.word_Do op a b)) (wo_i64_b (S.word_Do op a b)) :=
  (call_ok (c := c67) (f := 20) (fn := Tryz.f20) (code := body20) (args := ([.int .i64 op, .int .i64 a, .int .i64 b])) (loop := noLoop) (md := ⟨false, false⟩) (rd := rd_i64_b) (wr := wr_i64_b) (wo := wo_i64_b) (r := (S.word_Do op a b)) c67_ok (by kernel_rfl) (by kernel_rfl) (by kernel_rfl) (no_loops (by kernel_rfl)) (by kernel_rfl) (by kernel_rfl) (by kernel_rfl)
    rw_i64_b np_i64_b no_i64_b (by kernel_rfl) (Eq.mpr (show Vm.Tr.vc (Vm.Fn c67 Tryz.f20 body20 noLoop ([.int .i64 op, .int .i64 a, .int .i64 b])) = S.word_Do_pre op a b by kernel_rfl) hp))

noncomputable def sem20 : List W → Option (W × List (List W) × List Prop)
  | [.int .i64 y1, .int .i64 y2, .int .i64 y3] => some (wr_i64_b (S.word_Do y1 y2 y3), wo_i64_b (S.word_Do y1 y2 y3), [S.word_Do_pre y1 y2 y3])
  | _ => none
noncomputable def c20 : Cfg El := c67.add 20 sem20
theorem c20_ok : CfgOk c20 := c67_ok.add (fun args w => Tryz.call20 args w) (fun vs r outs ps h hp => by
  unfold sem20 at h
  split at h
  · rename_i y1 y2 y3; cases h; exact fn20 y1 y2 y3 hp
  · cases h)

noncomputable def rd_A67 : W → List (List W) → Option ((Int × Int))
  | .agg [.int .u64 x1, .int .u64 x2], [] => some (x1, x2)
  | _, _ => none
noncomputable def wr_A67 (x : (Int × Int)) : W := .agg [.int .u64 x.1, .int .u64 x.2]
noncomputable def wo_A67 (_x : (Int × Int)) : List (List W) := []
theorem rw_A67 (v : W) (os : List (List W)) (x : (Int × Int)) (h : rd_A67 v os = some x) : v = wr_A67 x ∧ os = wo_A67 x := by
  unfold rd_A67 at h
  split at h <;> first | (cases h; exact ⟨rfl, rfl⟩) | cases h
theorem np_A67 (x : (Int × Int)) : okv (fun _ => false) (wr_A67 x) = true := rfl
theorem no_A67 (x : (Int × Int)) : all (fun cs => all (ok0 fun _ => false) cs) (wo_A67 x) = true := rfl

noncomputable def body56 : Code := (Tryz.f56.body).getD .skip
theorem fn56 (n : Int) : CallOk c20 56 [.int .i64 n] (wr_A67 (S.arith_of n)) (wo_A67 (S.arith_of n)) :=
  (call_ok (c := c20) (f := 56) (fn := Tryz.f56) (code := body56) (args := ([.int .i64 n])) (loop := noLoop) (md := ⟨false, false⟩) (rd := rd_A67) (wr := wr_A67) (wo := wo_A67) (r := (S.arith_of n)) c20_ok (by kernel_rfl) (by kernel_rfl) (by kernel_rfl) (no_loops (by kernel_rfl)) (by kernel_rfl) (by kernel_rfl) (by kernel_rfl)
    rw_A67 np_A67 no_A67 (by kernel_rfl) (Tr.vc_of_noReq (by kernel_rfl)))

noncomputable def sem56 : List W → Option (W × List (List W) × List Prop)
  | [.int .i64 y1] => some (wr_A67 (S.arith_of y1), wo_A67 (S.arith_of y1), [])
  | _ => none
noncomputable def c56 : Cfg El := c20.add 56 sem56
theorem c56_ok : CfgOk c56 := c20_ok.add (fun args w => Tryz.call56 args w) (fun vs r outs ps h hp => by
  unfold sem56 at h
  split at h
  · rename_i y1; cases h; exact fn56 y1
  · cases h)

noncomputable def body152 : Code := (Tryz.f152.body).getD .skip
theorem fn152 (a : (Int × Int)) (b : (Int × Int)) (hp : S.arith_wide_plus_pre a b) : CallOk c56 152 [.agg [.int .u64 a.1, .int .u64 a.2], .agg [.int .u64 b.1, .int .u64 b.2]] (wr_A67 (S.arith_wide_plus a b)) (wo_A67 (S.arith_wide_plus a b)) :=
  (call_ok (c := c56) (f := 152) (fn := Tryz.f152) (code := body152) (args := ([.agg [.int .u64 a.1, .int .u64 a.2], .agg [.int .u64 b.1, .int .u64 b.2]])) (loop := noLoop) (md := ⟨false, false⟩) (rd := rd_A67) (wr := wr_A67) (wo := wo_A67) (r := (S.arith_wide_plus a b)) c56_ok (by kernel_rfl) (by kernel_rfl) (by kernel_rfl) (no_loops (by kernel_rfl)) (by kernel_rfl) (by kernel_rfl) (by kernel_rfl)
    rw_A67 np_A67 no_A67 (by kernel_rfl) (Eq.mpr (show Vm.Tr.vc (Vm.Fn c56 Tryz.f152 body152 noLoop ([.agg [.int .u64 a.1, .int .u64 a.2], .agg [.int .u64 b.1, .int .u64 b.2]])) = S.arith_wide_plus_pre a b by kernel_rfl) hp))

noncomputable def sem152 : List W → Option (W × List (List W) × List Prop)
  | [.agg [.int .u64 y1, .int .u64 y2], .agg [.int .u64 y3, .int .u64 y4]] => some (wr_A67 (S.arith_wide_plus (y1, y2) (y3, y4)), wo_A67 (S.arith_wide_plus (y1, y2) (y3, y4)), [S.arith_wide_plus_pre (y1, y2) (y3, y4)])
  | _ => none
noncomputable def c152 : Cfg El := c56.add 152 sem152
theorem c152_ok : CfgOk c152 := c56_ok.add (fun args w => Tryz.call152 args w) (fun vs r outs ps h hp => by
  unfold sem152 at h
  split at h
  · rename_i y1 y2 y3 y4; cases h; exact fn152 (y1, y2) (y3, y4) hp
  · cases h)

noncomputable def sem157 : List W → Option (W × List (List W) × List Prop)
  | [.int .u64 x, .int .u64 y, .int .u64 c] => some (.tup [.int .u64 (S.math_bits_Sub64 x y c).1, .int .u64 (S.math_bits_Sub64 x y c).2], [], [S.math_bits_Sub64_pre x y c])
  | _ => none
noncomputable def c157 : Cfg El := c152.add 157 sem157
theorem c157_ok : CfgOk c157 := c152_ok.addExt (fun vs r outs ps h hp => by
  unfold sem157 at h
  split at h
  · cases h; exact ⟨rfl, ext_sub64 (c := c152) (fn := Tryz.f157) (by kernel_rfl) (by kernel_rfl) (by kernel_rfl) (by kernel_rfl) (by kernel_rfl) hp⟩
  · cases h)

noncomputable def body87 : Code := (Tryz.f87.body).getD .skip
theorem fn87 (a : (Int × Int)) (b : (Int × Int)) (hp : S.arith_wide_minus_pre a b) : CallOk c157 87 [.agg [.int .u64 a.1, .int .u64 a.2], .agg [.int .u64 b.1, .int .u64 b.2]] (wr_A67 (S.arith_wide_minus a b)) (wo_A67 (S.arith_wide_minus a b)) :=
  (call_ok (c := c157) (f := 87) (fn := Tryz.f87) (code := body87) (args := ([.agg [.int .u64 a.1, .int .u64 a.2], .agg [.int .u64 b.1, .int .u64 b.2]])) (loop := noLoop) (md := ⟨false, false⟩) (rd := rd_A67) (wr := wr_A67) (wo := wo_A67) (r := (S.arith_wide_minus a b)) c157_ok (by kernel_rfl) (by kernel_rfl) (by kernel_rfl) (no_loops (by kernel_rfl)) (by kernel_rfl) (by kernel_rfl) (by kernel_rfl)
    rw_A67 np_A67 no_A67 (by kernel_rfl) (Eq.mpr (show Vm.Tr.vc (Vm.Fn c157 Tryz.f87 body87 noLoop ([.agg [.int .u64 a.1, .int .u64 a.2], .agg [.int .u64 b.1, .int .u64 b.2]])) = S.arith_wide_minus_pre a b by kernel_rfl) hp))

noncomputable def sem87 : List W → Option (W × List (List W) × List Prop)
  | [.agg [.int .u64 y1, .int .u64 y2], .agg [.int .u64 y3, .int .u64 y4]] => some (wr_A67 (S.arith_wide_minus (y1, y2) (y3, y4)), wo_A67 (S.arith_wide_minus (y1, y2) (y3, y4)), [S.arith_wide_minus_pre (y1, y2) (y3, y4)])
  | _ => none
noncomputable def c87 : Cfg El := c157.add 87 sem87
theorem c87_ok : CfgOk c87 := c157_ok.add (fun args w => Tryz.call87 args w) (fun vs r outs ps h hp => by
  unfold sem87 at h
  split at h
  · rename_i y1 y2 y3 y4; cases h; exact fn87 (y1, y2) (y3, y4) hp
  · cases h)

noncomputable def rd_u64_u64 : W → List (List W) → Option (Int × Int)
  | .tup [.int .u64 x1, .int .u64 x2], [] => some ⟨x1, x2⟩
  | _, _ => none
noncomputable def wr_u64_u64 (x : Int × Int) : W := .tup [.int .u64 x.1, .int .u64 x.2]
noncomputable def wo_u64_u64 (_x : Int × Int) : List (List W) := []
theorem rw_u64_u64 (v : W) (os : List (List W)) (x : Int × Int) (h : rd_u64_u64 v os = some x) : v = wr_u64_u64 x ∧ os = wo_u64_u64 x := by
  unfold rd_u64_u64 at h
  split at h <;> first | (cases h; exact ⟨rfl, rfl⟩) | cases h
theorem np_u64_u64 (x : Int × Int) : okv (fun _ => false) (wr_u64_u64 x) = true := rfl
theorem no_u64_u64 (x : Int × Int) : all (fun cs => all (ok0 fun _ => false) cs) (wo_u64_u64 x) = true := rfl

noncomputable def body189 : Code := (Tryz.f189.body).getD .skip
theorem fn189 (x : Int) (y : Int) : CallOk c87 189 [.int .u64 x, .int .u64 y] (wr_u64_u64 (S.math_bits_Mul64 x y)) (wo_u64_u64 (S.math_bits_Mul64 x y)) :=
  (call_ok (c := c87) (f := 189) (fn := Tryz.f189) (code := body189) (args := ([.int .u64 x, .int .u64 y])) (loop := noLoop) (md := ⟨false, false⟩) (rd := rd_u64_u64) (wr := wr_u64_u64) (wo := wo_u64_u64) (r := (S.math_bits_Mul64 x y)) c87_ok (by kernel_rfl) (by kernel_rfl) (by kernel_rfl) (no_loops (by kernel_rfl)) (by kernel_rfl) (by kernel_rfl) (by kernel_rfl)
    rw_u64_u64 np_u64_u64 no_u64_u64 (by kernel_rfl) (Tr.vc_of_noReq (by kernel_rfl)))

noncomputable def sem189 : List W → Option (W × List (List W) × List Prop)
  | [.int .u64 y1, .int .u64 y2] => some (wr_u64_u64 (S.math_bits_Mul64 y1 y2), wo_u64_u64 (S.math_bits_Mul64 y1 y2), [])
  | _ => none
noncomputable def c189 : Cfg El := c87.add 189 sem189
theorem c189_ok : CfgOk c189 := c87_ok.add (fun args w => Tryz.call189 args w) (fun vs r outs ps h hp => by
  unfold sem189 at h
  split at h
  · rename_i y1 y2; cases h; exact fn189 y1 y2
  · cases h)

noncomputable def body153 : Code := (Tryz.f153.body).getD .skip
theorem fn153 (a : Int) (b : Int) : CallOk c189 153 [.int .i64 a, .int .i64 b] (wr_A67 (S.arith_times a b)) (wo_A67 (S.arith_times a b)) :=
  (call_ok (c := c189) (f := 153) (fn := Tryz.f153) (code := body153) (args := ([.int .i64 a, .int .i64 b])) (loop := noLoop) (md := ⟨false, false⟩) (rd := rd_A67) (wr := wr_A67) (wo := wo_A67) (r := (S.arith_times a b)) c189_ok (by kernel_rfl) (by kernel_rfl) (by kernel_rfl) (no_loops (by kernel_rfl)) (by kernel_rfl) (by kernel_rfl) (by kernel_rfl)
    rw_A67 np_A67 no_A67 (by kernel_rfl) (Tr.vc_of_noReq (by kernel_rfl)))

noncomputable def sem153 : List W → Option (W × List (List W) × List Prop)
  | [.int .i64 y1, .int .i64 y2] => some (wr_A67 (S.arith_times y1 y2), wo_A67 (S.arith_times y1 y2), [])
  | _ => none
noncomputable def c153 : Cfg El := c189.add 153 sem153
theorem c153_ok : CfgOk c153 := c189_ok.add (fun args w => Tryz.call153 args w) (fun vs r outs ps h hp => by
  unfold sem153 at h
  split at h
  · rename_i y1 y2; cases h; exact fn153 y1 y2
  · cases h)

noncomputable def body83 : Code := (Tryz.f83.body).getD .skip
theorem fn83 (op : Int) (a : Int) (b : Int) (hp : S.arith_exact_pre op a b) : CallOk c153 83 [.int .i64 op, .int .i64 a, .int .i64 b] (wr_A67 (S.arith_exact op a b)) (wo_A67 (S.arith_exact op a b)) :=
  (call_ok (c := c153) (f := 83) (fn := Tryz.f83) (code := body83) (args := ([.int .i64 op, .int .i64 a, .int .i64 b])) (loop := noLoop) (md := ⟨false, false⟩) (rd := rd_A67) (wr := wr_A67) (wo := wo_A67) (r := (S.arith_exact op a b)) c153_ok (by kernel_rfl) (by kernel_rfl) (by kernel_rfl) (no_loops (by kernel_rfl)) (by kernel_rfl) (by kernel_rfl) (by kernel_rfl)
    rw_A67 np_A67 no_A67 (by kernel_rfl) (Eq.mpr (show Vm.Tr.vc (Vm.Fn c153 Tryz.f83 body83 noLoop ([.int .i64 op, .int .i64 a, .int .i64 b])) = S.arith_exact_pre op a b by kernel_rfl) hp))

noncomputable def sem83 : List W → Option (W × List (List W) × List Prop)
  | [.int .i64 y1, .int .i64 y2, .int .i64 y3] => some (wr_A67 (S.arith_exact y1 y2 y3), wo_A67 (S.arith_exact y1 y2 y3), [S.arith_exact_pre y1 y2 y3])
  | _ => none
noncomputable def c83 : Cfg El := c153.add 83 sem83
theorem c83_ok : CfgOk c83 := c153_ok.add (fun args w => Tryz.call83 args w) (fun vs r outs ps h hp => by
  unfold sem83 at h
  split at h
  · rename_i y1 y2 y3; cases h; exact fn83 y1 y2 y3 hp
  · cases h)

noncomputable def body84 : Code := (Tryz.f84.body).getD .skip
theorem fn84 (a : (Int × Int)) (b : (Int × Int)) : CallOk c83 84 [.agg [.int .u64 a.1, .int .u64 a.2], .agg [.int .u64 b.1, .int .u64 b.2]] (wr_b (S.arith_wide_less a b)) (wo_b (S.arith_wide_less a b)) :=
  (call_ok (c := c83) (f := 84) (fn := Tryz.f84) (code := body84) (args := ([.agg [.int .u64 a.1, .int .u64 a.2], .agg [.int .u64 b.1, .int .u64 b.2]])) (loop := noLoop) (md := ⟨false, false⟩) (rd := rd_b) (wr := wr_b) (wo := wo_b) (r := (S.arith_wide_less a b)) c83_ok (by kernel_rfl) (by kernel_rfl) (by kernel_rfl) (no_loops (by kernel_rfl)) (by kernel_rfl) (by kernel_rfl) (by kernel_rfl)
    rw_b np_b no_b (by kernel_rfl) (Tr.vc_of_noReq (by kernel_rfl)))

noncomputable def sem84 : List W → Option (W × List (List W) × List Prop)
  | [.agg [.int .u64 y1, .int .u64 y2], .agg [.int .u64 y3, .int .u64 y4]] => some (wr_b (S.arith_wide_less (y1, y2) (y3, y4)), wo_b (S.arith_wide_less (y1, y2) (y3, y4)), [])
  | _ => none
noncomputable def c84 : Cfg El := c83.add 84 sem84
theorem c84_ok : CfgOk c84 := c83_ok.add (fun args w => Tryz.call84 args w) (fun vs r outs ps h hp => by
  unfold sem84 at h
  split at h
  · rename_i y1 y2 y3 y4; cases h; exact fn84 (y1, y2) (y3, y4)
  · cases h)

noncomputable def rd_A67_A67 : W → List (List W) → Option ((Int × Int) × (Int × Int))
  | .tup [.agg [.int .u64 x1, .int .u64 x2], .agg [.int .u64 x3, .int .u64 x4]], [] => some ⟨(x1, x2), (x3, x4)⟩
  | _, _ => none
noncomputable def wr_A67_A67 (x : (Int × Int) × (Int × Int)) : W := .tup [.agg [.int .u64 x.1.1, .int .u64 x.1.2], .agg [.int .u64 x.2.1, .int .u64 x.2.2]]
noncomputable def wo_A67_A67 (_x : (Int × Int) × (Int × Int)) : List (List W) := []
theorem rw_A67_A67 (v : W) (os : List (List W)) (x : (Int × Int) × (Int × Int)) (h : rd_A67_A67 v os = some x) : v = wr_A67_A67 x ∧ os = wo_A67_A67 x := by
  unfold rd_A67_A67 at h
  split at h <;> first | (cases h; exact ⟨rfl, rfl⟩) | cases h
theorem np_A67_A67 (x : (Int × Int) × (Int × Int)) : okv (fun _ => false) (wr_A67_A67 x) = true := rfl
theorem no_A67_A67 (x : (Int × Int) × (Int × Int)) : all (fun cs => all (ok0 fun _ => false) cs) (wo_A67_A67 x) = true := rfl

noncomputable def body37 : Code := (Tryz.f37.body).getD .skip
noncomputable def lb37_0 : Code := ((nth (loopsOf 0 body37) 0).getD (0, .skip)).2
noncomputable def px37_0 : List W → Option S.arith_bounds_L0
  | [.int .i64 y1, .ptr 6 0, .ptr 7 0, .ptr 8 0, .ptr 9 0, .int .i64 y2, .int .u64 y3, .int .u64 y4, .int .u64 y5, .int .u64 y6, .rowc 2 false (some 2) y7, .rowc 2 false (some 2) y8] => some ⟨y1, y2, y3, y4, y5, y6, y7, y8⟩
  | _ => none
noncomputable def tx37_0 (x : S.arith_bounds_L0) : List W := [.int .i64 x.op, .ptr 6 0, .ptr 7 0, .ptr 8 0, .ptr 9 0, .int .i64 x.t33, .int .u64 x.lo_0, .int .u64 x.lo_1, .int .u64 x.hi_0, .int .u64 x.hi_1, .rowc 2 false (some 2) x.l, .rowc 2 false (some 2) x.r]
noncomputable def py37_0 : Ex → List W → Option (S.arith_bounds_L0)
  | .exit 0, [.int .i64 y1, .ptr 6 0, .ptr 7 0, .ptr 8 0, .ptr 9 0, .int .i64 y2, .int .u64 y3, .int .u64 y4, .int .u64 y5, .int .u64 y6, .rowc 2 false (some 2) y7, .rowc 2 false (some 2) y8] => some ⟨y1, y2, y3, y4, y5, y6, y7, y8⟩
  | _, _ => none
noncomputable def ld37_0 : LD El where
  X := S.arith_bounds_L0
  Y := S.arith_bounds_L0
  keys := [.slot 0, .slot 6, .slot 7, .slot 8, .slot 9, .slot 33, .cell 6 0, .cell 6 1, .cell 7 0, .cell 7 1, .row 8, .row 9]
  fits := [35, 0, 0, 0, 0, 3, 24, 24, 24, 24, 0, 0]
  px := px37_0
  tx := tx37_0
  okeys := [.slot 0, .slot 6, .slot 7, .slot 8, .slot 9, .slot 33, .cell 6 0, .cell 6 1, .cell 7 0, .cell 7 1, .row 8, .row 9]
  ofits := [35, 0, 0, 0, 0, 3, 24, 24, 24, 24, 0, 0]
  py := py37_0
  ty := fun y => tx37_0 y
  oex := fun _ => .exit 0
  junk := [.slot 10, .slot 11, .slot 34, .slot 35, .slot 36, .slot 37, .slot 38, .slot 39, .slot 40, .slot 41, .slot 42, .slot 43, .slot 44, .slot 45, .slot 46, .slot 47, .slot 48, .slot 49, .slot 50, .slot 51, .slot 52, .slot 53, .slot 54]
  rows := []
noncomputable def lo37_0 : S.arith_bounds_L0 → Tr El := fun y => .leaf (.exit 0) (zipK ld37_0.okeys (tx37_0 y) ++ junkK ld37_0.junk)
noncomputable def loop37 : Nat → Env El → Tr El
  | 0 => ld37_0.tree c84 Tryz.f37.ntmps 0 lb37_0 S.arith_bounds_L0_run lo37_0 S.arith_bounds_L0_step S.arith_bounds_L0_vcs
  | _ => fun _ => .fail
theorem lok37_0 : ∀ w0 S0, LoopOk c84 Tryz.f37.ntmps w0 S0 loop37 0 lb37_0 :=
  loop_ok (c := c84) (n := Tryz.f37.ntmps) c84_ok mixed ld37_0 (body := lb37_0) (key := 0) (loop := loop37) (F := S.arith_bounds_L0_run) (out := lo37_0) (step := S.arith_bounds_L0_step) (vcs := S.arith_bounds_L0_vcs)
    (fun _ => by kernel_rfl) (no_loops (by kernel_rfl)) rfl rfl
    (fun vs x h => by unfold ld37_0 px37_0 at h; dsimp only at h; split at h <;> first | (cases h; rfl) | cases h)
    (fun e vs y h => by unfold ld37_0 py37_0 at h; dsimp only at h; split at h <;> first | (cases h; exact ⟨rfl, rfl⟩) | cases h)
    (by kernel_rfl) (fun _ => rfl) (fun _ _ h => h) (fun x => by kernel_rfl) (fun x h => Eq.mpr (show Vm.Tr.vc (Vm.ev c84 Tryz.f37.ntmps loop37 0 lb37_0 (ld37_0.vars x) []) = S.arith_bounds_L0_vcs x by kernel_rfl) h)
theorem fn37 (op : Int) (a : S.Value) (b : S.Value) (hp : S.arith_bounds_pre op a b) : CallOk c84 37 [.int .i64 op, .agg [.int .i64 a.I.Lo, .int .i64 a.I.Hi, .int .u64 a.C.M, .int .u64 a.C.R], .agg [.int .i64 b.I.Lo, .int .i64 b.I.Hi, .int .u64 b.C.M, .int .u64 b.C.R]] (wr_A67_A67 (S.arith_bounds op a b)) (wo_A67_A67 (S.arith_bounds op a b)) :=
  (call_ok (c := c84) (f := 37) (fn := Tryz.f37) (code := body37) (args := ([.int .i64 op, .agg [.int .i64 a.I.Lo, .int .i64 a.I.Hi, .int .u64 a.C.M, .int .u64 a.C.R], .agg [.int .i64 b.I.Lo, .int .i64 b.I.Hi, .int .u64 b.C.M, .int .u64 b.C.R]])) (loop := loop37) (md := ⟨false, false⟩) (rd := rd_A67_A67) (wr := wr_A67_A67) (wo := wo_A67_A67) (r := (S.arith_bounds op a b)) c84_ok (by kernel_rfl) (by kernel_rfl) (by kernel_rfl) (loops_all (l := [(0, lb37_0)]) (by kernel_rfl) ⟨lok37_0, trivial⟩) (by kernel_rfl) (by kernel_rfl) (by kernel_rfl)
    rw_A67_A67 np_A67_A67 no_A67_A67 (by kernel_rfl) (Eq.mpr (show Vm.Tr.vc (Vm.Fn c84 Tryz.f37 body37 loop37 ([.int .i64 op, .agg [.int .i64 a.I.Lo, .int .i64 a.I.Hi, .int .u64 a.C.M, .int .u64 a.C.R], .agg [.int .i64 b.I.Lo, .int .i64 b.I.Hi, .int .u64 b.C.M, .int .u64 b.C.R]])) = S.arith_bounds_pre op a b by kernel_rfl) hp))

noncomputable def sem37 : List W → Option (W × List (List W) × List Prop)
  | [.int .i64 y1, .agg [.int .i64 y2, .int .i64 y3, .int .u64 y4, .int .u64 y5], .agg [.int .i64 y6, .int .i64 y7, .int .u64 y8, .int .u64 y9]] => some (wr_A67_A67 (S.arith_bounds y1 (⟨(⟨y2, y3⟩ : S.Inter), (⟨y4, y5⟩ : S.Cong)⟩ : S.Value) (⟨(⟨y6, y7⟩ : S.Inter), (⟨y8, y9⟩ : S.Cong)⟩ : S.Value)), wo_A67_A67 (S.arith_bounds y1 (⟨(⟨y2, y3⟩ : S.Inter), (⟨y4, y5⟩ : S.Cong)⟩ : S.Value) (⟨(⟨y6, y7⟩ : S.Inter), (⟨y8, y9⟩ : S.Cong)⟩ : S.Value)), [S.arith_bounds_pre y1 (⟨(⟨y2, y3⟩ : S.Inter), (⟨y4, y5⟩ : S.Cong)⟩ : S.Value) (⟨(⟨y6, y7⟩ : S.Inter), (⟨y8, y9⟩ : S.Cong)⟩ : S.Value)])
  | _ => none
noncomputable def c37 : Cfg El := c84.add 37 sem37
theorem c37_ok : CfgOk c37 := c84_ok.add (fun args w => Tryz.call37 args w) (fun vs r outs ps h hp => by
  unfold sem37 at h
  split at h
  · rename_i y1 y2 y3 y4 y5 y6 y7 y8 y9; cases h; exact fn37 y1 (⟨(⟨y2, y3⟩ : S.Inter), (⟨y4, y5⟩ : S.Cong)⟩ : S.Value) (⟨(⟨y6, y7⟩ : S.Inter), (⟨y8, y9⟩ : S.Cong)⟩ : S.Value) hp
  · cases h)

noncomputable def body150 : Code := (Tryz.f150.body).getD .skip
noncomputable def lb150_0 : Code := ((nth (loopsOf 0 body150) 0).getD (0, .skip)).2
noncomputable def px150_0 : List W → Option S.cong_gcd_L0
  | [.int .u64 y1, .int .u64 y2] => some ⟨y1, y2⟩
  | _ => none
noncomputable def tx150_0 (x : S.cong_gcd_L0) : List W := [.int .u64 x.a, .int .u64 x.b]
noncomputable def py150_0 : Ex → List W → Option (S.cong_gcd_L0)
  | .exit 0, [.int .u64 y1, .int .u64 y2] => some ⟨y1, y2⟩
  | _, _ => none
noncomputable def ld150_0 : LD El where
  X := S.cong_gcd_L0
  Y := S.cong_gcd_L0
  keys := [.slot 0, .slot 1]
  fits := [24, 24]
  px := px150_0
  tx := tx150_0
  okeys := [.slot 0, .slot 1]
  ofits := [24, 24]
  py := py150_0
  ty := fun y => tx150_0 y
  oex := fun _ => .exit 0
  junk := [.slot 5, .slot 6, .slot 7, .slot 8, .slot 9, .slot 10]
  rows := []
noncomputable def lo150_0 : S.cong_gcd_L0 → Tr El := fun y => .leaf (.exit 0) (zipK ld150_0.okeys (tx150_0 y) ++ junkK ld150_0.junk)
noncomputable def loop150 : Nat → Env El → Tr El
  | 0 => ld150_0.tree c37 Tryz.f150.ntmps 0 lb150_0 S.cong_gcd_L0_run lo150_0 S.cong_gcd_L0_step S.cong_gcd_L0_vcs
  | _ => fun _ => .fail
theorem lok150_0 : ∀ w0 S0, LoopOk c37 Tryz.f150.ntmps w0 S0 loop150 0 lb150_0 :=
  loop_ok (c := c37) (n := Tryz.f150.ntmps) c37_ok mixed ld150_0 (body := lb150_0) (key := 0) (loop := loop150) (F := S.cong_gcd_L0_run) (out := lo150_0) (step := S.cong_gcd_L0_step) (vcs := S.cong_gcd_L0_vcs)
    (fun _ => by kernel_rfl) (no_loops (by kernel_rfl)) rfl rfl
    (fun vs x h => by unfold ld150_0 px150_0 at h; dsimp only at h; split at h <;> first | (cases h; rfl) | cases h)
    (fun e vs y h => by unfold ld150_0 py150_0 at h; dsimp only at h; split at h <;> first | (cases h; exact ⟨rfl, rfl⟩) | cases h)
    (by kernel_rfl) (fun _ => rfl) (fun _ _ h => h) (fun x => by kernel_rfl) (fun x h => Eq.mpr (show Vm.Tr.vc (Vm.ev c37 Tryz.f150.ntmps loop150 0 lb150_0 (ld150_0.vars x) []) = S.cong_gcd_L0_vcs x by kernel_rfl) h)
theorem fn150 (a : Int) (b : Int) (hp : S.cong_gcd_pre a b) : CallOk c37 150 [.int .u64 a, .int .u64 b] (wr_u64 (S.cong_gcd a b)) (wo_u64 (S.cong_gcd a b)) :=
  (call_ok (c := c37) (f := 150) (fn := Tryz.f150) (code := body150) (args := ([.int .u64 a, .int .u64 b])) (loop := loop150) (md := ⟨false, false⟩) (rd := rd_u64) (wr := wr_u64) (wo := wo_u64) (r := (S.cong_gcd a b)) c37_ok (by kernel_rfl) (by kernel_rfl) (by kernel_rfl) (loops_all (l := [(0, lb150_0)]) (by kernel_rfl) ⟨lok150_0, trivial⟩) (by kernel_rfl) (by kernel_rfl) (by kernel_rfl)
    rw_u64 np_u64 no_u64 (by kernel_rfl) (Eq.mpr (show Vm.Tr.vc (Vm.Fn c37 Tryz.f150 body150 loop150 ([.int .u64 a, .int .u64 b])) = S.cong_gcd_pre a b by kernel_rfl) hp))

noncomputable def sem150 : List W → Option (W × List (List W) × List Prop)
  | [.int .u64 y1, .int .u64 y2] => some (wr_u64 (S.cong_gcd y1 y2), wo_u64 (S.cong_gcd y1 y2), [S.cong_gcd_pre y1 y2])
  | _ => none
noncomputable def c150 : Cfg El := c37.add 150 sem150
theorem c150_ok : CfgOk c150 := c37_ok.add (fun args w => Tryz.call150 args w) (fun vs r outs ps h hp => by
  unfold sem150 at h
  split at h
  · rename_i y1 y2; cases h; exact fn150 y1 y2 hp
  · cases h)

noncomputable def body85 : Code := (Tryz.f85.body).getD .skip
theorem fn85 (a : S.Cong) (b : S.Cong) (hp : S.cong_Add_pre a b) : CallOk c150 85 [.agg [.int .u64 a.M, .int .u64 a.R], .agg [.int .u64 b.M, .int .u64 b.R]] (wr_S25 (S.cong_Add a b)) (wo_S25 (S.cong_Add a b)) :=
  (call_ok (c := c150) (f := 85) (fn := Tryz.f85) (code := body85) (args := ([.agg [.int .u64 a.M, .int .u64 a.R], .agg [.int .u64 b.M, .int .u64 b.R]])) (loop := noLoop) (md := ⟨false, false⟩) (rd := rd_S25) (wr := wr_S25) (wo := wo_S25) (r := (S.cong_Add a b)) c150_ok (by kernel_rfl) (by kernel_rfl) (by kernel_rfl) (no_loops (by kernel_rfl)) (by kernel_rfl) (by kernel_rfl) (by kernel_rfl)
    rw_S25 np_S25 no_S25 (by kernel_rfl) (Eq.mpr (show Vm.Tr.vc (Vm.Fn c150 Tryz.f85 body85 noLoop ([.agg [.int .u64 a.M, .int .u64 a.R], .agg [.int .u64 b.M, .int .u64 b.R]])) = S.cong_Add_pre a b by kernel_rfl) hp))

noncomputable def sem85 : List W → Option (W × List (List W) × List Prop)
  | [.agg [.int .u64 y1, .int .u64 y2], .agg [.int .u64 y3, .int .u64 y4]] => some (wr_S25 (S.cong_Add (⟨y1, y2⟩ : S.Cong) (⟨y3, y4⟩ : S.Cong)), wo_S25 (S.cong_Add (⟨y1, y2⟩ : S.Cong) (⟨y3, y4⟩ : S.Cong)), [S.cong_Add_pre (⟨y1, y2⟩ : S.Cong) (⟨y3, y4⟩ : S.Cong)])
  | _ => none
noncomputable def c85 : Cfg El := c150.add 85 sem85
theorem c85_ok : CfgOk c85 := c150_ok.add (fun args w => Tryz.call85 args w) (fun vs r outs ps h hp => by
  unfold sem85 at h
  split at h
  · rename_i y1 y2 y3 y4; cases h; exact fn85 (⟨y1, y2⟩ : S.Cong) (⟨y3, y4⟩ : S.Cong) hp
  · cases h)

noncomputable def body82 : Code := (Tryz.f82.body).getD .skip
theorem fn82 (a : S.Cong) (b : S.Cong) (hp : S.cong_Sub_pre a b) : CallOk c85 82 [.agg [.int .u64 a.M, .int .u64 a.R], .agg [.int .u64 b.M, .int .u64 b.R]] (wr_S25 (S.cong_Sub a b)) (wo_S25 (S.cong_Sub a b)) :=
  (call_ok (c := c85) (f := 82) (fn := Tryz.f82) (code := body82) (args := ([.agg [.int .u64 a.M, .int .u64 a.R], .agg [.int .u64 b.M, .int .u64 b.R]])) (loop := noLoop) (md := ⟨false, false⟩) (rd := rd_S25) (wr := wr_S25) (wo := wo_S25) (r := (S.cong_Sub a b)) c85_ok (by kernel_rfl) (by kernel_rfl) (by kernel_rfl) (no_loops (by kernel_rfl)) (by kernel_rfl) (by kernel_rfl) (by kernel_rfl)
    rw_S25 np_S25 no_S25 (by kernel_rfl) (Eq.mpr (show Vm.Tr.vc (Vm.Fn c85 Tryz.f82 body82 noLoop ([.agg [.int .u64 a.M, .int .u64 a.R], .agg [.int .u64 b.M, .int .u64 b.R]])) = S.cong_Sub_pre a b by kernel_rfl) hp))

noncomputable def sem82 : List W → Option (W × List (List W) × List Prop)
  | [.agg [.int .u64 y1, .int .u64 y2], .agg [.int .u64 y3, .int .u64 y4]] => some (wr_S25 (S.cong_Sub (⟨y1, y2⟩ : S.Cong) (⟨y3, y4⟩ : S.Cong)), wo_S25 (S.cong_Sub (⟨y1, y2⟩ : S.Cong) (⟨y3, y4⟩ : S.Cong)), [S.cong_Sub_pre (⟨y1, y2⟩ : S.Cong) (⟨y3, y4⟩ : S.Cong)])
  | _ => none
noncomputable def c82 : Cfg El := c85.add 82 sem82
theorem c82_ok : CfgOk c82 := c85_ok.add (fun args w => Tryz.call82 args w) (fun vs r outs ps h hp => by
  unfold sem82 at h
  split at h
  · rename_i y1 y2 y3 y4; cases h; exact fn82 (⟨y1, y2⟩ : S.Cong) (⟨y3, y4⟩ : S.Cong) hp
  · cases h)

noncomputable def rd_u64_b : W → List (List W) → Option (Int × Bool)
  | .tup [.int .u64 x1, .bool x2], [] => some ⟨x1, x2⟩
  | _, _ => none
noncomputable def wr_u64_b (x : Int × Bool) : W := .tup [.int .u64 x.1, .bool x.2]
noncomputable def wo_u64_b (_x : Int × Bool) : List (List W) := []
theorem rw_u64_b (v : W) (os : List (List W)) (x : Int × Bool) (h : rd_u64_b v os = some x) : v = wr_u64_b x ∧ os = wo_u64_b x := by
  unfold rd_u64_b at h
  split at h <;> first | (cases h; exact ⟨rfl, rfl⟩) | cases h
theorem np_u64_b (x : Int × Bool) : okv (fun _ => false) (wr_u64_b x) = true := rfl
theorem no_u64_b (x : Int × Bool) : all (fun cs => all (ok0 fun _ => false) cs) (wo_u64_b x) = true := rfl

noncomputable def body155 : Code := (Tryz.f155.body).getD .skip
theorem fn155 (a : Int) (b : Int) : CallOk c82 155 [.int .u64 a, .int .u64 b] (wr_u64_b (S.cong_fits a b)) (wo_u64_b (S.cong_fits a b)) :=
  (call_ok (c := c82) (f := 155) (fn := Tryz.f155) (code := body155) (args := ([.int .u64 a, .int .u64 b])) (loop := noLoop) (md := ⟨false, false⟩) (rd := rd_u64_b) (wr := wr_u64_b) (wo := wo_u64_b) (r := (S.cong_fits a b)) c82_ok (by kernel_rfl) (by kernel_rfl) (by kernel_rfl) (no_loops (by kernel_rfl)) (by kernel_rfl) (by kernel_rfl) (by kernel_rfl)
    rw_u64_b np_u64_b no_u64_b (by kernel_rfl) (Tr.vc_of_noReq (by kernel_rfl)))

noncomputable def sem155 : List W → Option (W × List (List W) × List Prop)
  | [.int .u64 y1, .int .u64 y2] => some (wr_u64_b (S.cong_fits y1 y2), wo_u64_b (S.cong_fits y1 y2), [])
  | _ => none
noncomputable def c155 : Cfg El := c82.add 155 sem155
theorem c155_ok : CfgOk c155 := c82_ok.add (fun args w => Tryz.call155 args w) (fun vs r outs ps h hp => by
  unfold sem155 at h
  split at h
  · rename_i y1 y2; cases h; exact fn155 y1 y2
  · cases h)

noncomputable def body201 : Code := (Tryz.f201.body).getD .skip
theorem fn201 (x : Int) (hp : S.math_bits_Len64_pre x) : CallOk c155 201 [.int .u64 x] (wr_i64 (S.math_bits_Len64 x)) (wo_i64 (S.math_bits_Len64 x)) :=
  (call_ok (c := c155) (f := 201) (fn := Tryz.f201) (code := body201) (args := ([.int .u64 x])) (loop := noLoop) (md := ⟨false, false⟩) (rd := rd_i64) (wr := wr_i64) (wo := wo_i64) (r := (S.math_bits_Len64 x)) c155_ok (by kernel_rfl) (by kernel_rfl) (by kernel_rfl) (no_loops (by kernel_rfl)) (by kernel_rfl) (by kernel_rfl) (by kernel_rfl)
    rw_i64 np_i64 no_i64 (by kernel_rfl) (Eq.mpr (show Vm.Tr.vc (Vm.Fn c155 Tryz.f201 body201 noLoop ([.int .u64 x])) = S.math_bits_Len64_pre x by kernel_rfl) hp))

noncomputable def sem201 : List W → Option (W × List (List W) × List Prop)
  | [.int .u64 y1] => some (wr_i64 (S.math_bits_Len64 y1), wo_i64 (S.math_bits_Len64 y1), [S.math_bits_Len64_pre y1])
  | _ => none
noncomputable def c201 : Cfg El := c155.add 201 sem201
theorem c201_ok : CfgOk c201 := c155_ok.add (fun args w => Tryz.call201 args w) (fun vs r outs ps h hp => by
  unfold sem201 at h
  split at h
  · rename_i y1; cases h; exact fn201 y1 hp
  · cases h)

noncomputable def body215 : Code := (Tryz.f215.body).getD .skip
theorem fn215 (x : Int) (hp : S.math_bits_LeadingZeros64_pre x) : CallOk c201 215 [.int .u64 x] (wr_i64 (S.math_bits_LeadingZeros64 x)) (wo_i64 (S.math_bits_LeadingZeros64 x)) :=
  (call_ok (c := c201) (f := 215) (fn := Tryz.f215) (code := body215) (args := ([.int .u64 x])) (loop := noLoop) (md := ⟨false, false⟩) (rd := rd_i64) (wr := wr_i64) (wo := wo_i64) (r := (S.math_bits_LeadingZeros64 x)) c201_ok (by kernel_rfl) (by kernel_rfl) (by kernel_rfl) (no_loops (by kernel_rfl)) (by kernel_rfl) (by kernel_rfl) (by kernel_rfl)
    rw_i64 np_i64 no_i64 (by kernel_rfl) (Eq.mpr (show Vm.Tr.vc (Vm.Fn c201 Tryz.f215 body215 noLoop ([.int .u64 x])) = S.math_bits_LeadingZeros64_pre x by kernel_rfl) hp))

noncomputable def sem215 : List W → Option (W × List (List W) × List Prop)
  | [.int .u64 y1] => some (wr_i64 (S.math_bits_LeadingZeros64 y1), wo_i64 (S.math_bits_LeadingZeros64 y1), [S.math_bits_LeadingZeros64_pre y1])
  | _ => none
noncomputable def c215 : Cfg El := c201.add 215 sem215
theorem c215_ok : CfgOk c215 := c201_ok.add (fun args w => Tryz.call215 args w) (fun vs r outs ps h hp => by
  unfold sem215 at h
  split at h
  · rename_i y1; cases h; exact fn215 y1 hp
  · cases h)

noncomputable def body208 : Code := (Tryz.f208.body).getD .skip
noncomputable def lb208_0 : Code := ((nth (loopsOf 0 body208) 0).getD (0, .skip)).2
noncomputable def px208_0 : List W → Option S.math_bits_Div64_L0
  | [.int .u64 y1, .int .u64 y2, .int .u64 y3, .int .u64 y4, .int .u64 y5] => some ⟨y1, y2, y3, y4, y5⟩
  | _ => none
noncomputable def tx208_0 (x : S.math_bits_Div64_L0) : List W := [.int .u64 x.yn1, .int .u64 x.yn0, .int .u64 x.un1, .int .u64 x.q1, .int .u64 x.rhat]
noncomputable def py208_0 : Ex → List W → Option (S.math_bits_Div64_L0)
  | .exit 0, [.int .u64 y1, .int .u64 y2, .int .u64 y3, .int .u64 y4, .int .u64 y5] => some ⟨y1, y2, y3, y4, y5⟩
  | _, _ => none
noncomputable def ld208_0 : LD El where
  X := S.math_bits_Div64_L0
  Y := S.math_bits_Div64_L0
  keys := [.slot 9, .slot 10, .slot 13, .slot 15, .slot 16]
  fits := [24, 24, 24, 24, 24]
  px := px208_0
  tx := tx208_0
  okeys := [.slot 9, .slot 10, .slot 13, .slot 15, .slot 16]
  ofits := [24, 24, 24, 24, 24]
  py := py208_0
  ty := fun y => tx208_0 y
  oex := fun _ => .exit 0
  junk := [.slot 67, .slot 68, .slot 69, .slot 70, .slot 71, .slot 72, .slot 73, .slot 74, .slot 75, .slot 76, .slot 77, .slot 78, .slot 79, .slot 80, .slot 81, .slot 82, .slot 83, .slot 84, .slot 85]
  rows := []
noncomputable def lo208_0 : S.math_bits_Div64_L0 → Tr El := fun y => .leaf (.exit 0) (zipK ld208_0.okeys (tx208_0 y) ++ junkK ld208_0.junk)
noncomputable def lb208_2 : Code := ((nth (loopsOf 0 body208) 1).getD (0, .skip)).2
noncomputable def px208_2 : List W → Option S.math_bits_Div64_L2
  | [.int .u64 y1, .int .u64 y2, .int .u64 y3, .int .u64 y4, .int .u64 y5] => some ⟨y1, y2, y3, y4, y5⟩
  | _ => none
noncomputable def tx208_2 (x : S.math_bits_Div64_L2) : List W := [.int .u64 x.yn1, .int .u64 x.yn0, .int .u64 x.un0, .int .u64 x.rhat, .int .u64 x.q0]
noncomputable def py208_2 : Ex → List W → Option (S.math_bits_Div64_L2)
  | .exit 2, [.int .u64 y1, .int .u64 y2, .int .u64 y3, .int .u64 y4, .int .u64 y5] => some ⟨y1, y2, y3, y4, y5⟩
  | _, _ => none
noncomputable def ld208_2 : LD El where
  X := S.math_bits_Div64_L2
  Y := S.math_bits_Div64_L2
  keys := [.slot 9, .slot 10, .slot 14, .slot 16, .slot 18]
  fits := [24, 24, 24, 24, 24]
  px := px208_2
  tx := tx208_2
  okeys := [.slot 9, .slot 10, .slot 14, .slot 16, .slot 18]
  ofits := [24, 24, 24, 24, 24]
  py := py208_2
  ty := fun y => tx208_2 y
  oex := fun _ => .exit 2
  junk := [.slot 102, .slot 103, .slot 104, .slot 105, .slot 106, .slot 107, .slot 108, .slot 109, .slot 110, .slot 111, .slot 112, .slot 113, .slot 114, .slot 115, .slot 116, .slot 117, .slot 118, .slot 119, .slot 120]
  rows := []
noncomputable def lo208_2 : S.math_bits_Div64_L2 → Tr El := fun y => .leaf (.exit 2) (zipK ld208_2.okeys (tx208_2 y) ++ junkK ld208_2.junk)
noncomputable def loop208 : Nat → Env El → Tr El
  | 0 => ld208_0.tree c215 Tryz.f208.ntmps 0 lb208_0 S.math_bits_Div64_L0_run lo208_0 S.math_bits_Div64_L0_step S.math_bits_Div64_L0_vcs
  | 2 => ld208_2.tree c215 Tryz.f208.ntmps 2 lb208_2 S.math_bits_Div64_L2_run lo208_2 S.math_bits_Div64_L2_step S.math_bits_Div64_L2_vcs
  | _ => fun _ => .fail
theorem lok208_2 : ∀ w0 S0, LoopOk c215 Tryz.f208.ntmps w0 S0 loop208 2 lb208_2 :=
  loop_ok (c := c215) (n := Tryz.f208.ntmps) c215_ok mixed ld208_2 (body := lb208_2) (key := 2) (loop := loop208) (F := S.math_bits_Div64_L2_run) (out := lo208_2) (step := S.math_bits_Div64_L2_step) (vcs := S.math_bits_Div64_L2_vcs)
    (fun _ => by kernel_rfl) (no_loops (by kernel_rfl)) rfl rfl
    (fun vs x h => by unfold ld208_2 px208_2 at h; dsimp only at h; split at h <;> first | (cases h; rfl) | cases h)
    (fun e vs y h => by unfold ld208_2 py208_2 at h; dsimp only at h; split at h <;> first | (cases h; exact ⟨rfl, rfl⟩) | cases h)
    (by kernel_rfl) (fun _ => rfl) (fun _ _ h => h) (fun x => by kernel_rfl) (fun _ _ => Tr.vc_of_noReq (by kernel_rfl))
theorem lok208_0 : ∀ w0 S0, LoopOk c215 Tryz.f208.ntmps w0 S0 loop208 0 lb208_0 :=
  loop_ok (c := c215) (n := Tryz.f208.ntmps) c215_ok mixed ld208_0 (body := lb208_0) (key := 0) (loop := loop208) (F := S.math_bits_Div64_L0_run) (out := lo208_0) (step := S.math_bits_Div64_L0_step) (vcs := S.math_bits_Div64_L0_vcs)
    (fun _ => by kernel_rfl) (no_loops (by kernel_rfl)) rfl rfl
    (fun vs x h => by unfold ld208_0 px208_0 at h; dsimp only at h; split at h <;> first | (cases h; rfl) | cases h)
    (fun e vs y h => by unfold ld208_0 py208_0 at h; dsimp only at h; split at h <;> first | (cases h; exact ⟨rfl, rfl⟩) | cases h)
    (by kernel_rfl) (fun _ => rfl) (fun _ _ h => h) (fun x => by kernel_rfl) (fun _ _ => Tr.vc_of_noReq (by kernel_rfl))
theorem fn208 (hi : Int) (lo : Int) (y : Int) (hp : S.math_bits_Div64_pre hi lo y) : CallOk c215 208 [.int .u64 hi, .int .u64 lo, .int .u64 y] (wr_u64_u64 (S.math_bits_Div64 hi lo y)) (wo_u64_u64 (S.math_bits_Div64 hi lo y)) :=
  (call_ok (c := c215) (f := 208) (fn := Tryz.f208) (code := body208) (args := ([.int .u64 hi, .int .u64 lo, .int .u64 y])) (loop := loop208) (md := ⟨false, false⟩) (rd := rd_u64_u64) (wr := wr_u64_u64) (wo := wo_u64_u64) (r := (S.math_bits_Div64 hi lo y)) c215_ok (by kernel_rfl) (by kernel_rfl) (by kernel_rfl) (loops_all (l := [(0, lb208_0), (2, lb208_2)]) (by kernel_rfl) ⟨lok208_0, ⟨lok208_2, trivial⟩⟩) (by kernel_rfl) (by kernel_rfl) (by kernel_rfl)
    rw_u64_u64 np_u64_u64 no_u64_u64 (by kernel_rfl) (Eq.mpr (show Vm.Tr.vc (Vm.Fn c215 Tryz.f208 body208 loop208 ([.int .u64 hi, .int .u64 lo, .int .u64 y])) = S.math_bits_Div64_pre hi lo y by kernel_rfl) hp))

noncomputable def sem208 : List W → Option (W × List (List W) × List Prop)
  | [.int .u64 y1, .int .u64 y2, .int .u64 y3] => some (wr_u64_u64 (S.math_bits_Div64 y1 y2 y3), wo_u64_u64 (S.math_bits_Div64 y1 y2 y3), [S.math_bits_Div64_pre y1 y2 y3])
  | _ => none
noncomputable def c208 : Cfg El := c215.add 208 sem208
theorem c208_ok : CfgOk c208 := c215_ok.add (fun args w => Tryz.call208 args w) (fun vs r outs ps h hp => by
  unfold sem208 at h
  split at h
  · rename_i y1 y2 y3; cases h; exact fn208 y1 y2 y3 hp
  · cases h)

noncomputable def body190 : Code := (Tryz.f190.body).getD .skip
theorem fn190 (hi : Int) (lo : Int) (y : Int) (hp : S.math_bits_Rem64_pre hi lo y) : CallOk c208 190 [.int .u64 hi, .int .u64 lo, .int .u64 y] (wr_u64 (S.math_bits_Rem64 hi lo y)) (wo_u64 (S.math_bits_Rem64 hi lo y)) :=
  (call_ok (c := c208) (f := 190) (fn := Tryz.f190) (code := body190) (args := ([.int .u64 hi, .int .u64 lo, .int .u64 y])) (loop := noLoop) (md := ⟨false, false⟩) (rd := rd_u64) (wr := wr_u64) (wo := wo_u64) (r := (S.math_bits_Rem64 hi lo y)) c208_ok (by kernel_rfl) (by kernel_rfl) (by kernel_rfl) (no_loops (by kernel_rfl)) (by kernel_rfl) (by kernel_rfl) (by kernel_rfl)
    rw_u64 np_u64 no_u64 (by kernel_rfl) (Eq.mpr (show Vm.Tr.vc (Vm.Fn c208 Tryz.f190 body190 noLoop ([.int .u64 hi, .int .u64 lo, .int .u64 y])) = S.math_bits_Rem64_pre hi lo y by kernel_rfl) hp))

noncomputable def sem190 : List W → Option (W × List (List W) × List Prop)
  | [.int .u64 y1, .int .u64 y2, .int .u64 y3] => some (wr_u64 (S.math_bits_Rem64 y1 y2 y3), wo_u64 (S.math_bits_Rem64 y1 y2 y3), [S.math_bits_Rem64_pre y1 y2 y3])
  | _ => none
noncomputable def c190 : Cfg El := c208.add 190 sem190
theorem c190_ok : CfgOk c190 := c208_ok.add (fun args w => Tryz.call190 args w) (fun vs r outs ps h hp => by
  unfold sem190 at h
  split at h
  · rename_i y1 y2 y3; cases h; exact fn190 y1 y2 y3 hp
  · cases h)

noncomputable def body156 : Code := (Tryz.f156.body).getD .skip
theorem fn156 (a : Int) (b : Int) (m : Int) (hp : S.cong_times_pre a b m) : CallOk c190 156 [.int .u64 a, .int .u64 b, .int .u64 m] (wr_u64 (S.cong_times a b m)) (wo_u64 (S.cong_times a b m)) :=
  (call_ok (c := c190) (f := 156) (fn := Tryz.f156) (code := body156) (args := ([.int .u64 a, .int .u64 b, .int .u64 m])) (loop := noLoop) (md := ⟨false, false⟩) (rd := rd_u64) (wr := wr_u64) (wo := wo_u64) (r := (S.cong_times a b m)) c190_ok (by kernel_rfl) (by kernel_rfl) (by kernel_rfl) (no_loops (by kernel_rfl)) (by kernel_rfl) (by kernel_rfl) (by kernel_rfl)
    rw_u64 np_u64 no_u64 (by kernel_rfl) (Eq.mpr (show Vm.Tr.vc (Vm.Fn c190 Tryz.f156 body156 noLoop ([.int .u64 a, .int .u64 b, .int .u64 m])) = S.cong_times_pre a b m by kernel_rfl) hp))

noncomputable def sem156 : List W → Option (W × List (List W) × List Prop)
  | [.int .u64 y1, .int .u64 y2, .int .u64 y3] => some (wr_u64 (S.cong_times y1 y2 y3), wo_u64 (S.cong_times y1 y2 y3), [S.cong_times_pre y1 y2 y3])
  | _ => none
noncomputable def c156 : Cfg El := c190.add 156 sem156
theorem c156_ok : CfgOk c156 := c190_ok.add (fun args w => Tryz.call156 args w) (fun vs r outs ps h hp => by
  unfold sem156 at h
  split at h
  · rename_i y1 y2 y3; cases h; exact fn156 y1 y2 y3 hp
  · cases h)

noncomputable def body154 : Code := (Tryz.f154.body).getD .skip
theorem fn154 (c : S.Cong) (n : Int) (hp : S.cong_Cong_scaled_pre c n) : CallOk c156 154 [.agg [.int .u64 c.M, .int .u64 c.R], .int .i64 n] (wr_S25 (S.cong_Cong_scaled c n)) (wo_S25 (S.cong_Cong_scaled c n)) :=
  (call_ok (c := c156) (f := 154) (fn := Tryz.f154) (code := body154) (args := ([.agg [.int .u64 c.M, .int .u64 c.R], .int .i64 n])) (loop := noLoop) (md := ⟨false, false⟩) (rd := rd_S25) (wr := wr_S25) (wo := wo_S25) (r := (S.cong_Cong_scaled c n)) c156_ok (by kernel_rfl) (by kernel_rfl) (by kernel_rfl) (no_loops (by kernel_rfl)) (by kernel_rfl) (by kernel_rfl) (by kernel_rfl)
    rw_S25 np_S25 no_S25 (by kernel_rfl) (Eq.mpr (show Vm.Tr.vc (Vm.Fn c156 Tryz.f154 body154 noLoop ([.agg [.int .u64 c.M, .int .u64 c.R], .int .i64 n])) = S.cong_Cong_scaled_pre c n by kernel_rfl) hp))

noncomputable def sem154 : List W → Option (W × List (List W) × List Prop)
  | [.agg [.int .u64 y1, .int .u64 y2], .int .i64 y3] => some (wr_S25 (S.cong_Cong_scaled (⟨y1, y2⟩ : S.Cong) y3), wo_S25 (S.cong_Cong_scaled (⟨y1, y2⟩ : S.Cong) y3), [S.cong_Cong_scaled_pre (⟨y1, y2⟩ : S.Cong) y3])
  | _ => none
noncomputable def c154 : Cfg El := c156.add 154 sem154
theorem c154_ok : CfgOk c154 := c156_ok.add (fun args w => Tryz.call154 args w) (fun vs r outs ps h hp => by
  unfold sem154 at h
  split at h
  · rename_i y1 y2 y3; cases h; exact fn154 (⟨y1, y2⟩ : S.Cong) y3 hp
  · cases h)

noncomputable def body86 : Code := (Tryz.f86.body).getD .skip
theorem fn86 (a : S.Cong) (b : S.Cong) (hp : S.cong_Mul_pre a b) : CallOk c154 86 [.agg [.int .u64 a.M, .int .u64 a.R], .agg [.int .u64 b.M, .int .u64 b.R]] (wr_S25 (S.cong_Mul a b)) (wo_S25 (S.cong_Mul a b)) :=
  (call_ok (c := c154) (f := 86) (fn := Tryz.f86) (code := body86) (args := ([.agg [.int .u64 a.M, .int .u64 a.R], .agg [.int .u64 b.M, .int .u64 b.R]])) (loop := noLoop) (md := ⟨false, false⟩) (rd := rd_S25) (wr := wr_S25) (wo := wo_S25) (r := (S.cong_Mul a b)) c154_ok (by kernel_rfl) (by kernel_rfl) (by kernel_rfl) (no_loops (by kernel_rfl)) (by kernel_rfl) (by kernel_rfl) (by kernel_rfl)
    rw_S25 np_S25 no_S25 (by kernel_rfl) (Eq.mpr (show Vm.Tr.vc (Vm.Fn c154 Tryz.f86 body86 noLoop ([.agg [.int .u64 a.M, .int .u64 a.R], .agg [.int .u64 b.M, .int .u64 b.R]])) = S.cong_Mul_pre a b by kernel_rfl) hp))

noncomputable def sem86 : List W → Option (W × List (List W) × List Prop)
  | [.agg [.int .u64 y1, .int .u64 y2], .agg [.int .u64 y3, .int .u64 y4]] => some (wr_S25 (S.cong_Mul (⟨y1, y2⟩ : S.Cong) (⟨y3, y4⟩ : S.Cong)), wo_S25 (S.cong_Mul (⟨y1, y2⟩ : S.Cong) (⟨y3, y4⟩ : S.Cong)), [S.cong_Mul_pre (⟨y1, y2⟩ : S.Cong) (⟨y3, y4⟩ : S.Cong)])
  | _ => none
noncomputable def c86 : Cfg El := c154.add 86 sem86
theorem c86_ok : CfgOk c86 := c154_ok.add (fun args w => Tryz.call86 args w) (fun vs r outs ps h hp => by
  unfold sem86 at h
  split at h
  · rename_i y1 y2 y3 y4; cases h; exact fn86 (⟨y1, y2⟩ : S.Cong) (⟨y3, y4⟩ : S.Cong) hp
  · cases h)

noncomputable def body38 : Code := (Tryz.f38.body).getD .skip
theorem fn38 (op : Int) (a : S.Cong) (b : S.Cong) (hp : S.arith_congruence_pre op a b) : CallOk c86 38 [.int .i64 op, .agg [.int .u64 a.M, .int .u64 a.R], .agg [.int .u64 b.M, .int .u64 b.R]] (wr_S25 (S.arith_congruence op a b)) (wo_S25 (S.arith_congruence op a b)) :=
  (call_ok (c := c86) (f := 38) (fn := Tryz.f38) (code := body38) (args := ([.int .i64 op, .agg [.int .u64 a.M, .int .u64 a.R], .agg [.int .u64 b.M, .int .u64 b.R]])) (loop := noLoop) (md := ⟨false, false⟩) (rd := rd_S25) (wr := wr_S25) (wo := wo_S25) (r := (S.arith_congruence op a b)) c86_ok (by kernel_rfl) (by kernel_rfl) (by kernel_rfl) (no_loops (by kernel_rfl)) (by kernel_rfl) (by kernel_rfl) (by kernel_rfl)
    rw_S25 np_S25 no_S25 (by kernel_rfl) (Eq.mpr (show Vm.Tr.vc (Vm.Fn c86 Tryz.f38 body38 noLoop ([.int .i64 op, .agg [.int .u64 a.M, .int .u64 a.R], .agg [.int .u64 b.M, .int .u64 b.R]])) = S.arith_congruence_pre op a b by kernel_rfl) hp))

noncomputable def sem38 : List W → Option (W × List (List W) × List Prop)
  | [.int .i64 y1, .agg [.int .u64 y2, .int .u64 y3], .agg [.int .u64 y4, .int .u64 y5]] => some (wr_S25 (S.arith_congruence y1 (⟨y2, y3⟩ : S.Cong) (⟨y4, y5⟩ : S.Cong)), wo_S25 (S.arith_congruence y1 (⟨y2, y3⟩ : S.Cong) (⟨y4, y5⟩ : S.Cong)), [S.arith_congruence_pre y1 (⟨y2, y3⟩ : S.Cong) (⟨y4, y5⟩ : S.Cong)])
  | _ => none
noncomputable def c38 : Cfg El := c86.add 38 sem38
theorem c38_ok : CfgOk c38 := c86_ok.add (fun args w => Tryz.call38 args w) (fun vs r outs ps h hp => by
  unfold sem38 at h
  split at h
  · rename_i y1 y2 y3 y4 y5; cases h; exact fn38 y1 (⟨y2, y3⟩ : S.Cong) (⟨y4, y5⟩ : S.Cong) hp
  · cases h)

noncomputable def body39 : Code := (Tryz.f39.body).getD .skip
theorem fn39 (a : (Int × Int)) (hp : S.arith_wide_round_pre a) : CallOk c38 39 [.agg [.int .u64 a.1, .int .u64 a.2]] (wr_u64 (S.arith_wide_round a)) (wo_u64 (S.arith_wide_round a)) :=
  (call_ok (c := c38) (f := 39) (fn := Tryz.f39) (code := body39) (args := ([.agg [.int .u64 a.1, .int .u64 a.2]])) (loop := noLoop) (md := ⟨false, false⟩) (rd := rd_u64) (wr := wr_u64) (wo := wo_u64) (r := (S.arith_wide_round a)) c38_ok (by kernel_rfl) (by kernel_rfl) (by kernel_rfl) (no_loops (by kernel_rfl)) (by kernel_rfl) (by kernel_rfl) (by kernel_rfl)
    rw_u64 np_u64 no_u64 (by kernel_rfl) (Eq.mpr (show Vm.Tr.vc (Vm.Fn c38 Tryz.f39 body39 noLoop ([.agg [.int .u64 a.1, .int .u64 a.2]])) = S.arith_wide_round_pre a by kernel_rfl) hp))

noncomputable def sem39 : List W → Option (W × List (List W) × List Prop)
  | [.agg [.int .u64 y1, .int .u64 y2]] => some (wr_u64 (S.arith_wide_round (y1, y2)), wo_u64 (S.arith_wide_round (y1, y2)), [S.arith_wide_round_pre (y1, y2)])
  | _ => none
noncomputable def c39 : Cfg El := c38.add 39 sem39
theorem c39_ok : CfgOk c39 := c38_ok.add (fun args w => Tryz.call39 args w) (fun vs r outs ps h hp => by
  unfold sem39 at h
  split at h
  · rename_i y1 y2; cases h; exact fn39 (y1, y2) hp
  · cases h)

noncomputable def body41 : Code := (Tryz.f41.body).getD .skip
theorem fn41 (c : S.Cong) (hp : S.cong_Cong_Wrapped_pre c) : CallOk c39 41 [.agg [.int .u64 c.M, .int .u64 c.R]] (wr_S25 (S.cong_Cong_Wrapped c)) (wo_S25 (S.cong_Cong_Wrapped c)) :=
  (call_ok (c := c39) (f := 41) (fn := Tryz.f41) (code := body41) (args := ([.agg [.int .u64 c.M, .int .u64 c.R]])) (loop := noLoop) (md := ⟨false, false⟩) (rd := rd_S25) (wr := wr_S25) (wo := wo_S25) (r := (S.cong_Cong_Wrapped c)) c39_ok (by kernel_rfl) (by kernel_rfl) (by kernel_rfl) (no_loops (by kernel_rfl)) (by kernel_rfl) (by kernel_rfl) (by kernel_rfl)
    rw_S25 np_S25 no_S25 (by kernel_rfl) (Eq.mpr (show Vm.Tr.vc (Vm.Fn c39 Tryz.f41 body41 noLoop ([.agg [.int .u64 c.M, .int .u64 c.R]])) = S.cong_Cong_Wrapped_pre c by kernel_rfl) hp))

noncomputable def sem41 : List W → Option (W × List (List W) × List Prop)
  | [.agg [.int .u64 y1, .int .u64 y2]] => some (wr_S25 (S.cong_Cong_Wrapped (⟨y1, y2⟩ : S.Cong)), wo_S25 (S.cong_Cong_Wrapped (⟨y1, y2⟩ : S.Cong)), [S.cong_Cong_Wrapped_pre (⟨y1, y2⟩ : S.Cong)])
  | _ => none
noncomputable def c41 : Cfg El := c39.add 41 sem41
theorem c41_ok : CfgOk c41 := c39_ok.add (fun args w => Tryz.call41 args w) (fun vs r outs ps h hp => by
  unfold sem41 at h
  split at h
  · rename_i y1 y2; cases h; exact fn41 (⟨y1, y2⟩ : S.Cong) hp
  · cases h)

noncomputable def body9 : Code := (Tryz.f9.body).getD .skip
theorem fn9 (op : Int) (a : S.Value) (b : S.Value) (hp : S.arith_Do_pre op a b) : CallOk c41 9 [.int .i64 op, .agg [.int .i64 a.I.Lo, .int .i64 a.I.Hi, .int .u64 a.C.M, .int .u64 a.C.R], .agg [.int .i64 b.I.Lo, .int .i64 b.I.Hi, .int .u64 b.C.M, .int .u64 b.C.R]] (wr_S27 (S.arith_Do op a b)) (wo_S27 (S.arith_Do op a b)) :=
  (call_ok (c := c41) (f := 9) (fn := Tryz.f9) (code := body9) (args := ([.int .i64 op, .agg [.int .i64 a.I.Lo, .int .i64 a.I.Hi, .int .u64 a.C.M, .int .u64 a.C.R], .agg [.int .i64 b.I.Lo, .int .i64 b.I.Hi, .int .u64 b.C.M, .int .u64 b.C.R]])) (loop := noLoop) (md := ⟨false, false⟩) (rd := rd_S27) (wr := wr_S27) (wo := wo_S27) (r := (S.arith_Do op a b)) c41_ok (by kernel_rfl) (by kernel_rfl) (by kernel_rfl) (no_loops (by kernel_rfl)) (by kernel_rfl) (by kernel_rfl) (by kernel_rfl)
    rw_S27 np_S27 no_S27 (by kernel_rfl) (Eq.mpr (show Vm.Tr.vc (Vm.Fn c41 Tryz.f9 body9 noLoop ([.int .i64 op, .agg [.int .i64 a.I.Lo, .int .i64 a.I.Hi, .int .u64 a.C.M, .int .u64 a.C.R], .agg [.int .i64 b.I.Lo, .int .i64 b.I.Hi, .int .u64 b.C.M, .int .u64 b.C.R]])) = S.arith_Do_pre op a b by kernel_rfl) hp))

noncomputable def sem9 : List W → Option (W × List (List W) × List Prop)
  | [.int .i64 y1, .agg [.int .i64 y2, .int .i64 y3, .int .u64 y4, .int .u64 y5], .agg [.int .i64 y6, .int .i64 y7, .int .u64 y8, .int .u64 y9]] => some (wr_S27 (S.arith_Do y1 (⟨(⟨y2, y3⟩ : S.Inter), (⟨y4, y5⟩ : S.Cong)⟩ : S.Value) (⟨(⟨y6, y7⟩ : S.Inter), (⟨y8, y9⟩ : S.Cong)⟩ : S.Value)), wo_S27 (S.arith_Do y1 (⟨(⟨y2, y3⟩ : S.Inter), (⟨y4, y5⟩ : S.Cong)⟩ : S.Value) (⟨(⟨y6, y7⟩ : S.Inter), (⟨y8, y9⟩ : S.Cong)⟩ : S.Value)), [S.arith_Do_pre y1 (⟨(⟨y2, y3⟩ : S.Inter), (⟨y4, y5⟩ : S.Cong)⟩ : S.Value) (⟨(⟨y6, y7⟩ : S.Inter), (⟨y8, y9⟩ : S.Cong)⟩ : S.Value)])
  | _ => none
noncomputable def c9 : Cfg El := c41.add 9 sem9
theorem c9_ok : CfgOk c9 := c41_ok.add (fun args w => Tryz.call9 args w) (fun vs r outs ps h hp => by
  unfold sem9 at h
  split at h
  · rename_i y1 y2 y3 y4 y5 y6 y7 y8 y9; cases h; exact fn9 y1 (⟨(⟨y2, y3⟩ : S.Inter), (⟨y4, y5⟩ : S.Cong)⟩ : S.Value) (⟨(⟨y6, y7⟩ : S.Inter), (⟨y8, y9⟩ : S.Cong)⟩ : S.Value) hp
  · cases h)

noncomputable def body209 : Code := (Tryz.f209.body).getD .skip
theorem fn209 (x : Int) : CallOk c9 209 [.int .i64 x] (wr_i64 (S.internal_strconv_log10Pow2 x)) (wo_i64 (S.internal_strconv_log10Pow2 x)) :=
  (call_ok (c := c9) (f := 209) (fn := Tryz.f209) (code := body209) (args := ([.int .i64 x])) (loop := noLoop) (md := ⟨false, false⟩) (rd := rd_i64) (wr := wr_i64) (wo := wo_i64) (r := (S.internal_strconv_log10Pow2 x)) c9_ok (by kernel_rfl) (by kernel_rfl) (by kernel_rfl) (no_loops (by kernel_rfl)) (by kernel_rfl) (by kernel_rfl) (by kernel_rfl)
    rw_i64 np_i64 no_i64 (by kernel_rfl) (Tr.vc_of_noReq (by kernel_rfl)))

noncomputable def sem209 : List W → Option (W × List (List W) × List Prop)
  | [.int .i64 y1] => some (wr_i64 (S.internal_strconv_log10Pow2 y1), wo_i64 (S.internal_strconv_log10Pow2 y1), [])
  | _ => none
noncomputable def c209 : Cfg El := c9.add 209 sem209
theorem c209_ok : CfgOk c209 := c9_ok.add (fun args w => Tryz.call209 args w) (fun vs r outs ps h hp => by
  unfold sem209 at h
  split at h
  · rename_i y1; cases h; exact fn209 y1
  · cases h)

noncomputable def body210 : Code := (Tryz.f210.body).getD .skip
theorem fn210 (b : Bool) : CallOk c209 210 [.bool b] (wr_i64 (S.internal_strconv_bool2int b)) (wo_i64 (S.internal_strconv_bool2int b)) :=
  (call_ok (c := c209) (f := 210) (fn := Tryz.f210) (code := body210) (args := ([.bool b])) (loop := noLoop) (md := ⟨false, false⟩) (rd := rd_i64) (wr := wr_i64) (wo := wo_i64) (r := (S.internal_strconv_bool2int b)) c209_ok (by kernel_rfl) (by kernel_rfl) (by kernel_rfl) (no_loops (by kernel_rfl)) (by kernel_rfl) (by kernel_rfl) (by kernel_rfl)
    rw_i64 np_i64 no_i64 (by kernel_rfl) (Tr.vc_of_noReq (by kernel_rfl)))

noncomputable def sem210 : List W → Option (W × List (List W) × List Prop)
  | [.bool y1] => some (wr_i64 (S.internal_strconv_bool2int y1), wo_i64 (S.internal_strconv_bool2int y1), [])
  | _ => none
noncomputable def c210 : Cfg El := c209.add 210 sem210
theorem c210_ok : CfgOk c210 := c209_ok.add (fun args w => Tryz.call210 args w) (fun vs r outs ps h hp => by
  unfold sem210 at h
  split at h
  · rename_i y1; cases h; exact fn210 y1
  · cases h)

noncomputable def body211 : Code := (Tryz.f211.body).getD .skip
theorem fn211 (x : Int) : CallOk c210 211 [.int .i64 x] (wr_b (S.internal_strconv_isPowerOfTwo x)) (wo_b (S.internal_strconv_isPowerOfTwo x)) :=
  (call_ok (c := c210) (f := 211) (fn := Tryz.f211) (code := body211) (args := ([.int .i64 x])) (loop := noLoop) (md := ⟨false, false⟩) (rd := rd_b) (wr := wr_b) (wo := wo_b) (r := (S.internal_strconv_isPowerOfTwo x)) c210_ok (by kernel_rfl) (by kernel_rfl) (by kernel_rfl) (no_loops (by kernel_rfl)) (by kernel_rfl) (by kernel_rfl) (by kernel_rfl)
    rw_b np_b no_b (by kernel_rfl) (Tr.vc_of_noReq (by kernel_rfl)))

noncomputable def sem211 : List W → Option (W × List (List W) × List Prop)
  | [.int .i64 y1] => some (wr_b (S.internal_strconv_isPowerOfTwo y1), wo_b (S.internal_strconv_isPowerOfTwo y1), [])
  | _ => none
noncomputable def c211 : Cfg El := c210.add 211 sem211
theorem c211_ok : CfgOk c211 := c210_ok.add (fun args w => Tryz.call211 args w) (fun vs r outs ps h hp => by
  unfold sem211 at h
  split at h
  · rename_i y1; cases h; exact fn211 y1
  · cases h)

noncomputable def rd_s : W → List (List W) → Option (ByteArray)
  | .str x1, [] => some x1
  | _, _ => none
noncomputable def wr_s (x : ByteArray) : W := .str x
noncomputable def wo_s (_x : ByteArray) : List (List W) := []
theorem rw_s (v : W) (os : List (List W)) (x : ByteArray) (h : rd_s v os = some x) : v = wr_s x ∧ os = wo_s x := by
  unfold rd_s at h
  split at h <;> first | (cases h; exact ⟨rfl, rfl⟩) | cases h
theorem np_s (x : ByteArray) : okv (fun _ => false) (wr_s x) = true := rfl
theorem no_s (x : ByteArray) : all (fun cs => all (ok0 fun _ => false) cs) (wo_s x) = true := rfl

theorem fn175 (i : Int) (base : Int) (hp : fmtI_pre i base) : CallOk c211 175 [.int .i64 i, .int .i64 base] (wr_s (fmtI i base)) (wo_s (fmtI i base)) :=
  fmtI_calls (c := c211) (P := P) rfl Tryz.laysM246 rfl (fun _ _ h => h.1) i base hp

noncomputable def sem175 : List W → Option (W × List (List W) × List Prop)
  | [.int .i64 y1, .int .i64 y2] => some (wr_s (fmtI y1 y2), wo_s (fmtI y1 y2), [fmtI_pre y1 y2])
  | _ => none
noncomputable def c175 : Cfg El := c211.add 175 sem175
theorem c175_ok : CfgOk c175 := c211_ok.add (fun args w => Tryz.call175 args w) (fun vs r outs ps h hp => by
  unfold sem175 at h
  split at h
  · rename_i y1 y2; cases h; exact fn175 y1 y2 hp
  · cases h)

noncomputable def body112 : Code := (Tryz.f112.body).getD .skip
theorem fn112 (i : Int) (base : Int) (hp : S.strconv_FormatInt_pre i base) : CallOk c175 112 [.int .i64 i, .int .i64 base] (wr_s (S.strconv_FormatInt i base)) (wo_s (S.strconv_FormatInt i base)) :=
  (call_ok (c := c175) (f := 112) (fn := Tryz.f112) (code := body112) (args := ([.int .i64 i, .int .i64 base])) (loop := noLoop) (md := ⟨false, false⟩) (rd := rd_s) (wr := wr_s) (wo := wo_s) (r := (S.strconv_FormatInt i base)) c175_ok (by kernel_rfl) (by kernel_rfl) (by kernel_rfl) (no_loops (by kernel_rfl)) (by kernel_rfl) (by kernel_rfl) (by kernel_rfl)
    rw_s np_s no_s (by kernel_rfl) (Eq.mpr (show Vm.Tr.vc (Vm.Fn c175 Tryz.f112 body112 noLoop ([.int .i64 i, .int .i64 base])) = S.strconv_FormatInt_pre i base by kernel_rfl) hp))

noncomputable def sem112 : List W → Option (W × List (List W) × List Prop)
  | [.int .i64 y1, .int .i64 y2] => some (wr_s (S.strconv_FormatInt y1 y2), wo_s (S.strconv_FormatInt y1 y2), [S.strconv_FormatInt_pre y1 y2])
  | _ => none
noncomputable def c112 : Cfg El := c175.add 112 sem112
theorem c112_ok : CfgOk c112 := c175_ok.add (fun args w => Tryz.call112 args w) (fun vs r outs ps h hp => by
  unfold sem112 at h
  split at h
  · rename_i y1 y2; cases h; exact fn112 y1 y2 hp
  · cases h)

theorem fn176 (i : Int) (base : Int) (hp : fmtU_pre i base) : CallOk c112 176 [.int .u64 i, .int .i64 base] (wr_s (fmtU i base)) (wo_s (fmtU i base)) :=
  fmtU_calls i base hp (c := c112) rfl (fun _ _ h => h.1)

noncomputable def sem176 : List W → Option (W × List (List W) × List Prop)
  | [.int .u64 y1, .int .i64 y2] => some (wr_s (fmtU y1 y2), wo_s (fmtU y1 y2), [fmtU_pre y1 y2])
  | _ => none
noncomputable def c176 : Cfg El := c112.add 176 sem176
theorem c176_ok : CfgOk c176 := c112_ok.add (fun args w => Tryz.call176 args w) (fun vs r outs ps h hp => by
  unfold sem176 at h
  split at h
  · rename_i y1 y2; cases h; exact fn176 y1 y2 hp
  · cases h)

noncomputable def body113 : Code := (Tryz.f113.body).getD .skip
theorem fn113 (i : Int) (base : Int) (hp : S.strconv_FormatUint_pre i base) : CallOk c176 113 [.int .u64 i, .int .i64 base] (wr_s (S.strconv_FormatUint i base)) (wo_s (S.strconv_FormatUint i base)) :=
  (call_ok (c := c176) (f := 113) (fn := Tryz.f113) (code := body113) (args := ([.int .u64 i, .int .i64 base])) (loop := noLoop) (md := ⟨false, false⟩) (rd := rd_s) (wr := wr_s) (wo := wo_s) (r := (S.strconv_FormatUint i base)) c176_ok (by kernel_rfl) (by kernel_rfl) (by kernel_rfl) (no_loops (by kernel_rfl)) (by kernel_rfl) (by kernel_rfl) (by kernel_rfl)
    rw_s np_s no_s (by kernel_rfl) (Eq.mpr (show Vm.Tr.vc (Vm.Fn c176 Tryz.f113 body113 noLoop ([.int .u64 i, .int .i64 base])) = S.strconv_FormatUint_pre i base by kernel_rfl) hp))

noncomputable def sem113 : List W → Option (W × List (List W) × List Prop)
  | [.int .u64 y1, .int .i64 y2] => some (wr_s (S.strconv_FormatUint y1 y2), wo_s (S.strconv_FormatUint y1 y2), [S.strconv_FormatUint_pre y1 y2])
  | _ => none
noncomputable def c113 : Cfg El := c176.add 113 sem113
theorem c113_ok : CfgOk c113 := c176_ok.add (fun args w => Tryz.call113 args w) (fun vs r outs ps h hp => by
  unfold sem113 at h
  split at h
  · rename_i y1 y2; cases h; exact fn113 y1 y2 hp
  · cases h)

noncomputable def body57 : Code := (Tryz.f57.body).getD .skip
theorem fn57 (v : S.Value) (hp : S.value_Value_Text_pre v) : CallOk c113 57 [.agg [.int .i64 v.I.Lo, .int .i64 v.I.Hi, .int .u64 v.C.M, .int .u64 v.C.R]] (wr_s (S.value_Value_Text v)) (wo_s (S.value_Value_Text v)) :=
  (call_ok (c := c113) (f := 57) (fn := Tryz.f57) (code := body57) (args := ([.agg [.int .i64 v.I.Lo, .int .i64 v.I.Hi, .int .u64 v.C.M, .int .u64 v.C.R]])) (loop := noLoop) (md := ⟨false, false⟩) (rd := rd_s) (wr := wr_s) (wo := wo_s) (r := (S.value_Value_Text v)) c113_ok (by kernel_rfl) (by kernel_rfl) (by kernel_rfl) (no_loops (by kernel_rfl)) (by kernel_rfl) (by kernel_rfl) (by kernel_rfl)
    rw_s np_s no_s (by kernel_rfl) (Eq.mpr (show Vm.Tr.vc (Vm.Fn c113 Tryz.f57 body57 noLoop ([.agg [.int .i64 v.I.Lo, .int .i64 v.I.Hi, .int .u64 v.C.M, .int .u64 v.C.R]])) = S.value_Value_Text_pre v by kernel_rfl) hp))

noncomputable def sem57 : List W → Option (W × List (List W) × List Prop)
  | [.agg [.int .i64 y1, .int .i64 y2, .int .u64 y3, .int .u64 y4]] => some (wr_s (S.value_Value_Text (⟨(⟨y1, y2⟩ : S.Inter), (⟨y3, y4⟩ : S.Cong)⟩ : S.Value)), wo_s (S.value_Value_Text (⟨(⟨y1, y2⟩ : S.Inter), (⟨y3, y4⟩ : S.Cong)⟩ : S.Value)), [S.value_Value_Text_pre (⟨(⟨y1, y2⟩ : S.Inter), (⟨y3, y4⟩ : S.Cong)⟩ : S.Value)])
  | _ => none
noncomputable def c57 : Cfg El := c113.add 57 sem57
theorem c57_ok : CfgOk c57 := c113_ok.add (fun args w => Tryz.call57 args w) (fun vs r outs ps h hp => by
  unfold sem57 at h
  split at h
  · rename_i y1 y2 y3 y4; cases h; exact fn57 (⟨(⟨y1, y2⟩ : S.Inter), (⟨y3, y4⟩ : S.Cong)⟩ : S.Value) hp
  · cases h)

noncomputable def body58 : Code := (Tryz.f58.body).getD .skip
theorem fn58 (lo : Int) (hi : Int) (hp : S.value_Range_pre lo hi) : CallOk c57 58 [.int .i64 lo, .int .i64 hi] (wr_S27 (S.value_Range lo hi)) (wo_S27 (S.value_Range lo hi)) :=
  (call_ok (c := c57) (f := 58) (fn := Tryz.f58) (code := body58) (args := ([.int .i64 lo, .int .i64 hi])) (loop := noLoop) (md := ⟨false, false⟩) (rd := rd_S27) (wr := wr_S27) (wo := wo_S27) (r := (S.value_Range lo hi)) c57_ok (by kernel_rfl) (by kernel_rfl) (by kernel_rfl) (no_loops (by kernel_rfl)) (by kernel_rfl) (by kernel_rfl) (by kernel_rfl)
    rw_S27 np_S27 no_S27 (by kernel_rfl) (Eq.mpr (show Vm.Tr.vc (Vm.Fn c57 Tryz.f58 body58 noLoop ([.int .i64 lo, .int .i64 hi])) = S.value_Range_pre lo hi by kernel_rfl) hp))

noncomputable def sem58 : List W → Option (W × List (List W) × List Prop)
  | [.int .i64 y1, .int .i64 y2] => some (wr_S27 (S.value_Range y1 y2), wo_S27 (S.value_Range y1 y2), [S.value_Range_pre y1 y2])
  | _ => none
noncomputable def c58 : Cfg El := c57.add 58 sem58
theorem c58_ok : CfgOk c58 := c57_ok.add (fun args w => Tryz.call58 args w) (fun vs r outs ps h hp => by
  unfold sem58 at h
  split at h
  · rename_i y1 y2; cases h; exact fn58 y1 y2 hp
  · cases h)

noncomputable def body10 : Code := (Tryz.f10.body).getD .skip
theorem fn10 (a : S.Value) (hp : S.arith_Neg_pre a) : CallOk c58 10 [.agg [.int .i64 a.I.Lo, .int .i64 a.I.Hi, .int .u64 a.C.M, .int .u64 a.C.R]] (wr_S27 (S.arith_Neg a)) (wo_S27 (S.arith_Neg a)) :=
  (call_ok (c := c58) (f := 10) (fn := Tryz.f10) (code := body10) (args := ([.agg [.int .i64 a.I.Lo, .int .i64 a.I.Hi, .int .u64 a.C.M, .int .u64 a.C.R]])) (loop := noLoop) (md := ⟨false, false⟩) (rd := rd_S27) (wr := wr_S27) (wo := wo_S27) (r := (S.arith_Neg a)) c58_ok (by kernel_rfl) (by kernel_rfl) (by kernel_rfl) (no_loops (by kernel_rfl)) (by kernel_rfl) (by kernel_rfl) (by kernel_rfl)
    rw_S27 np_S27 no_S27 (by kernel_rfl) (Eq.mpr (show Vm.Tr.vc (Vm.Fn c58 Tryz.f10 body10 noLoop ([.agg [.int .i64 a.I.Lo, .int .i64 a.I.Hi, .int .u64 a.C.M, .int .u64 a.C.R]])) = S.arith_Neg_pre a by kernel_rfl) hp))

noncomputable def sem10 : List W → Option (W × List (List W) × List Prop)
  | [.agg [.int .i64 y1, .int .i64 y2, .int .u64 y3, .int .u64 y4]] => some (wr_S27 (S.arith_Neg (⟨(⟨y1, y2⟩ : S.Inter), (⟨y3, y4⟩ : S.Cong)⟩ : S.Value)), wo_S27 (S.arith_Neg (⟨(⟨y1, y2⟩ : S.Inter), (⟨y3, y4⟩ : S.Cong)⟩ : S.Value)), [S.arith_Neg_pre (⟨(⟨y1, y2⟩ : S.Inter), (⟨y3, y4⟩ : S.Cong)⟩ : S.Value)])
  | _ => none
noncomputable def c10 : Cfg El := c58.add 10 sem10
theorem c10_ok : CfgOk c10 := c58_ok.add (fun args w => Tryz.call10 args w) (fun vs r outs ps h hp => by
  unfold sem10 at h
  split at h
  · rename_i y1 y2 y3 y4; cases h; exact fn10 (⟨(⟨y1, y2⟩ : S.Inter), (⟨y3, y4⟩ : S.Cong)⟩ : S.Value) hp
  · cases h)

noncomputable def body15 : Code := (Tryz.f15.body).getD .skip
theorem fn15 (hp : S.law22_works_pre) : CallOk c10 15 [] (wr_b (S.law22_works)) (wo_b (S.law22_works)) :=
  (call_ok (c := c10) (f := 15) (fn := Tryz.f15) (code := body15) (args := ([])) (loop := noLoop) (md := ⟨false, false⟩) (rd := rd_b) (wr := wr_b) (wo := wo_b) (r := S.law22_works) c10_ok (by kernel_rfl) (by kernel_rfl) (by kernel_rfl) (no_loops (by kernel_rfl)) (by kernel_rfl) (by kernel_rfl) (by kernel_rfl)
    rw_b np_b no_b (by kernel_rfl) (Eq.mpr (show Vm.Tr.vc (Vm.Fn c10 Tryz.f15 body15 noLoop ([])) = S.law22_works_pre by kernel_rfl) hp))

noncomputable def sem15 : List W → Option (W × List (List W) × List Prop)
  | [] => some (wr_b (S.law22_works), wo_b (S.law22_works), [S.law22_works_pre])
  | _ => none
noncomputable def c15 : Cfg El := c10.add 15 sem15
theorem c15_ok : CfgOk c15 := c10_ok.add (fun args w => Tryz.call15 args w) (fun vs r outs ps h hp => by
  unfold sem15 at h
  split at h
  · cases h; exact fn15 hp
  · cases h)

noncomputable def rd_L35_o_f : W → List (List W) → Option ((List Int))
  | .olist 35 true x2, [] => some x2
  | _, _ => none
noncomputable def wr_L35_o_f (x : (List Int)) : W := .olist 35 true x
noncomputable def wo_L35_o_f (_x : (List Int)) : List (List W) := []
theorem rw_L35_o_f (v : W) (os : List (List W)) (x : (List Int)) (h : rd_L35_o_f v os = some x) : v = wr_L35_o_f x ∧ os = wo_L35_o_f x := by
  unfold rd_L35_o_f at h
  split at h <;> first | (cases h; exact ⟨rfl, rfl⟩) | cases h
theorem np_L35_o_f (x : (List Int)) : okv (fun _ => false) (wr_L35_o_f x) = true := rfl
theorem no_L35_o_f (x : (List Int)) : all (fun cs => all (ok0 fun _ => false) cs) (wo_L35_o_f x) = true := rfl

noncomputable def body19 : Code := (Tryz.f19.body).getD .skip
theorem fn19 : CallOk c15 19 [] (wr_L35_o_f (S.law22_ops)) (wo_L35_o_f (S.law22_ops)) :=
  CallOk.unhint (c := c15) (call_ok (c := (c15.hint [1] [])) (f := 19) (fn := Tryz.f19) (code := body19) (args := ([])) (loop := noLoop) (md := ⟨true, true⟩) (rd := rd_L35_o_f) (wr := wr_L35_o_f) (wo := wo_L35_o_f) (r := S.law22_ops) (CfgOk.hint c15_ok [1] []) (by kernel_rfl) (by kernel_rfl) (by kernel_rfl) (no_loops (by kernel_rfl)) (by kernel_rfl) (by kernel_rfl) (by kernel_rfl)
    rw_L35_o_f np_L35_o_f no_L35_o_f (by kernel_rfl) (Tr.vc_of_noReq (by kernel_rfl)))

noncomputable def sem19 : List W → Option (W × List (List W) × List Prop)
  | [] => some (wr_L35_o_f (S.law22_ops), wo_L35_o_f (S.law22_ops), [])
  | _ => none
noncomputable def c19 : Cfg El := c15.add 19 sem19
theorem c19_ok : CfgOk c19 := c15_ok.add (fun args w => Tryz.call19 args w) (fun vs r outs ps h hp => by
  unfold sem19 at h
  split at h
  · cases h; exact fn19
  · cases h)

noncomputable def body55 : Code := (Tryz.f55.body).getD .skip
theorem fn55 (a : (Int × Int)) (b : (Int × Int)) : CallOk c19 55 [.agg [.int .u64 a.1, .int .u64 a.2], .agg [.int .u64 b.1, .int .u64 b.2]] (wr_b (S.arith_one a b)) (wo_b (S.arith_one a b)) :=
  (call_ok (c := c19) (f := 55) (fn := Tryz.f55) (code := body55) (args := ([.agg [.int .u64 a.1, .int .u64 a.2], .agg [.int .u64 b.1, .int .u64 b.2]])) (loop := noLoop) (md := ⟨false, false⟩) (rd := rd_b) (wr := wr_b) (wo := wo_b) (r := (S.arith_one a b)) c19_ok (by kernel_rfl) (by kernel_rfl) (by kernel_rfl) (no_loops (by kernel_rfl)) (by kernel_rfl) (by kernel_rfl) (by kernel_rfl)
    rw_b np_b no_b (by kernel_rfl) (Tr.vc_of_noReq (by kernel_rfl)))

noncomputable def sem55 : List W → Option (W × List (List W) × List Prop)
  | [.agg [.int .u64 y1, .int .u64 y2], .agg [.int .u64 y3, .int .u64 y4]] => some (wr_b (S.arith_one (y1, y2) (y3, y4)), wo_b (S.arith_one (y1, y2) (y3, y4)), [])
  | _ => none
noncomputable def c55 : Cfg El := c19.add 55 sem55
theorem c55_ok : CfgOk c55 := c19_ok.add (fun args w => Tryz.call55 args w) (fun vs r outs ps h hp => by
  unfold sem55 at h
  split at h
  · rename_i y1 y2 y3 y4; cases h; exact fn55 (y1, y2) (y3, y4)
  · cases h)

noncomputable def body13 : Code := (Tryz.f13.body).getD .skip
theorem fn13 (op : Int) (a : S.Value) (b : S.Value) (hp : S.arith_Wraps_pre op a b) : CallOk c55 13 [.int .i64 op, .agg [.int .i64 a.I.Lo, .int .i64 a.I.Hi, .int .u64 a.C.M, .int .u64 a.C.R], .agg [.int .i64 b.I.Lo, .int .i64 b.I.Hi, .int .u64 b.C.M, .int .u64 b.C.R]] (wr_b (S.arith_Wraps op a b)) (wo_b (S.arith_Wraps op a b)) :=
  (call_ok (c := c55) (f := 13) (fn := Tryz.f13) (code := body13) (args := ([.int .i64 op, .agg [.int .i64 a.I.Lo, .int .i64 a.I.Hi, .int .u64 a.C.M, .int .u64 a.C.R], .agg [.int .i64 b.I.Lo, .int .i64 b.I.Hi, .int .u64 b.C.M, .int .u64 b.C.R]])) (loop := noLoop) (md := ⟨false, false⟩) (rd := rd_b) (wr := wr_b) (wo := wo_b) (r := (S.arith_Wraps op a b)) c55_ok (by kernel_rfl) (by kernel_rfl) (by kernel_rfl) (no_loops (by kernel_rfl)) (by kernel_rfl) (by kernel_rfl) (by kernel_rfl)
    rw_b np_b no_b (by kernel_rfl) (Eq.mpr (show Vm.Tr.vc (Vm.Fn c55 Tryz.f13 body13 noLoop ([.int .i64 op, .agg [.int .i64 a.I.Lo, .int .i64 a.I.Hi, .int .u64 a.C.M, .int .u64 a.C.R], .agg [.int .i64 b.I.Lo, .int .i64 b.I.Hi, .int .u64 b.C.M, .int .u64 b.C.R]])) = S.arith_Wraps_pre op a b by kernel_rfl) hp))

noncomputable def sem13 : List W → Option (W × List (List W) × List Prop)
  | [.int .i64 y1, .agg [.int .i64 y2, .int .i64 y3, .int .u64 y4, .int .u64 y5], .agg [.int .i64 y6, .int .i64 y7, .int .u64 y8, .int .u64 y9]] => some (wr_b (S.arith_Wraps y1 (⟨(⟨y2, y3⟩ : S.Inter), (⟨y4, y5⟩ : S.Cong)⟩ : S.Value) (⟨(⟨y6, y7⟩ : S.Inter), (⟨y8, y9⟩ : S.Cong)⟩ : S.Value)), wo_b (S.arith_Wraps y1 (⟨(⟨y2, y3⟩ : S.Inter), (⟨y4, y5⟩ : S.Cong)⟩ : S.Value) (⟨(⟨y6, y7⟩ : S.Inter), (⟨y8, y9⟩ : S.Cong)⟩ : S.Value)), [S.arith_Wraps_pre y1 (⟨(⟨y2, y3⟩ : S.Inter), (⟨y4, y5⟩ : S.Cong)⟩ : S.Value) (⟨(⟨y6, y7⟩ : S.Inter), (⟨y8, y9⟩ : S.Cong)⟩ : S.Value)])
  | _ => none
noncomputable def c13 : Cfg El := c55.add 13 sem13
theorem c13_ok : CfgOk c13 := c55_ok.add (fun args w => Tryz.call13 args w) (fun vs r outs ps h hp => by
  unfold sem13 at h
  split at h
  · rename_i y1 y2 y3 y4 y5 y6 y7 y8 y9; cases h; exact fn13 y1 (⟨(⟨y2, y3⟩ : S.Inter), (⟨y4, y5⟩ : S.Cong)⟩ : S.Value) (⟨(⟨y6, y7⟩ : S.Inter), (⟨y8, y9⟩ : S.Cong)⟩ : S.Value) hp
  · cases h)

noncomputable def body24 : Code := (Tryz.f24.body).getD .skip
noncomputable def lb24_0 : Code := ((nth (loopsOf 0 body24) 0).getD (0, .skip)).2
noncomputable def px24_0 : List W → Option S.law22_made_L0
  | [.int .i64 y1, .int .i64 y2, .bool y3, .list 2 false y4, .list 2 false y5, .int .i64 y6] => some ⟨y1, y2, y3, y4, y5, y6⟩
  | _ => none
noncomputable def tx24_0 (x : S.law22_made_L0) : List W := [.int .i64 x.op, .int .i64 x.n, .bool x.t8, .list 2 false x.l, .list 2 false x.r, .int .i64 x.i]
noncomputable def py24_0 : Ex → List W → Option (Bool × S.law22_made_L0)
  | .ret, [.int .i64 y1, .int .i64 y2, .bool y3, .list 2 false y4, .list 2 false y5, .int .i64 y6] => some ⟨true, ⟨y1, y2, y3, y4, y5, y6⟩⟩
  | .exit 0, [.int .i64 y1, .int .i64 y2, .bool y3, .list 2 false y4, .list 2 false y5, .int .i64 y6] => some ⟨false, ⟨y1, y2, y3, y4, y5, y6⟩⟩
  | _, _ => none
noncomputable def ld24_0 : LD El where
  X := S.law22_made_L0
  Y := Bool × S.law22_made_L0
  keys := [.slot 0, .slot 3, .slot 8, .slot 9, .slot 10, .slot 11]
  fits := [35, 2, 4, 58, 58, 3]
  px := px24_0
  tx := tx24_0
  okeys := [.slot 0, .slot 3, .slot 8, .slot 9, .slot 10, .slot 11]
  ofits := [35, 2, 4, 58, 58, 3]
  py := py24_0
  ty := fun y => bif y.1 then tx24_0 y.2 else tx24_0 y.2
  oex := fun y => bif y.1 then .ret else .exit 0
  junk := [.slot 12, .slot 13, .slot 28, .slot 29, .slot 30, .slot 31, .slot 32, .slot 33, .slot 34, .slot 35, .slot 36, .slot 37, .slot 38, .slot 39, .slot 40, .slot 41, .slot 42, .slot 43, .slot 44, .slot 45, .slot 46, .slot 47, .slot 48, .slot 49]
  rows := []
noncomputable def lo24_0 : (Bool × S.law22_made_L0) → Tr El := fun y => .node y.1 (.leaf (.ret) (zipK ld24_0.okeys (tx24_0 y.2) ++ junkK ld24_0.junk)) (.leaf (.exit 0) (zipK ld24_0.okeys (tx24_0 y.2) ++ junkK ld24_0.junk))
noncomputable def loop24 : Nat → Env El → Tr El
  | 0 => ld24_0.tree c13 Tryz.f24.ntmps 0 lb24_0 S.law22_made_L0_run lo24_0 S.law22_made_L0_step S.law22_made_L0_vcs
  | _ => fun _ => .fail
theorem lok24_0 : ∀ w0 S0, LoopOk c13 Tryz.f24.ntmps w0 S0 loop24 0 lb24_0 :=
  loop_ok (c := c13) (n := Tryz.f24.ntmps) c13_ok mixed ld24_0 (body := lb24_0) (key := 0) (loop := loop24) (F := S.law22_made_L0_run) (out := lo24_0) (step := S.law22_made_L0_step) (vcs := S.law22_made_L0_vcs)
    (fun _ => by kernel_rfl) (no_loops (by kernel_rfl)) rfl rfl
    (fun vs x h => by unfold ld24_0 px24_0 at h; dsimp only at h; split at h <;> first | (cases h; rfl) | cases h)
    (fun e vs y h => by unfold ld24_0 py24_0 at h; dsimp only at h; split at h <;> first | (cases h; exact ⟨rfl, rfl⟩) | cases h)
    (by kernel_rfl) (fun | (true, _) => rfl | (false, _) => rfl) (fun | (true, _), _, h => h.1 rfl | (false, _), _, h => h.2 rfl) (fun x => by kernel_rfl) (fun x h => Eq.mpr (show Vm.Tr.vc (Vm.ev c13 Tryz.f24.ntmps loop24 0 lb24_0 (ld24_0.vars x) []) = S.law22_made_L0_vcs x by kernel_rfl) h)
theorem fn24 (op : Int) (a : S.Value) (b : S.Value) (n : Int) (hp : S.law22_made_pre op a b n) : CallOk c13 24 [.int .i64 op, .agg [.int .i64 a.I.Lo, .int .i64 a.I.Hi, .int .u64 a.C.M, .int .u64 a.C.R], .agg [.int .i64 b.I.Lo, .int .i64 b.I.Hi, .int .u64 b.C.M, .int .u64 b.C.R], .int .i64 n] (wr_b (S.law22_made op a b n)) (wo_b (S.law22_made op a b n)) :=
  (call_ok (c := c13) (f := 24) (fn := Tryz.f24) (code := body24) (args := ([.int .i64 op, .agg [.int .i64 a.I.Lo, .int .i64 a.I.Hi, .int .u64 a.C.M, .int .u64 a.C.R], .agg [.int .i64 b.I.Lo, .int .i64 b.I.Hi, .int .u64 b.C.M, .int .u64 b.C.R], .int .i64 n])) (loop := loop24) (md := ⟨false, false⟩) (rd := rd_b) (wr := wr_b) (wo := wo_b) (r := (S.law22_made op a b n)) c13_ok (by kernel_rfl) (by kernel_rfl) (by kernel_rfl) (loops_all (l := [(0, lb24_0)]) (by kernel_rfl) ⟨lok24_0, trivial⟩) (by kernel_rfl) (by kernel_rfl) (by kernel_rfl)
    rw_b np_b no_b (by kernel_rfl) (Eq.mpr (show Vm.Tr.vc (Vm.Fn c13 Tryz.f24 body24 loop24 ([.int .i64 op, .agg [.int .i64 a.I.Lo, .int .i64 a.I.Hi, .int .u64 a.C.M, .int .u64 a.C.R], .agg [.int .i64 b.I.Lo, .int .i64 b.I.Hi, .int .u64 b.C.M, .int .u64 b.C.R], .int .i64 n])) = S.law22_made_pre op a b n by kernel_rfl) hp))

noncomputable def sem24 : List W → Option (W × List (List W) × List Prop)
  | [.int .i64 y1, .agg [.int .i64 y2, .int .i64 y3, .int .u64 y4, .int .u64 y5], .agg [.int .i64 y6, .int .i64 y7, .int .u64 y8, .int .u64 y9], .int .i64 y10] => some (wr_b (S.law22_made y1 (⟨(⟨y2, y3⟩ : S.Inter), (⟨y4, y5⟩ : S.Cong)⟩ : S.Value) (⟨(⟨y6, y7⟩ : S.Inter), (⟨y8, y9⟩ : S.Cong)⟩ : S.Value) y10), wo_b (S.law22_made y1 (⟨(⟨y2, y3⟩ : S.Inter), (⟨y4, y5⟩ : S.Cong)⟩ : S.Value) (⟨(⟨y6, y7⟩ : S.Inter), (⟨y8, y9⟩ : S.Cong)⟩ : S.Value) y10), [S.law22_made_pre y1 (⟨(⟨y2, y3⟩ : S.Inter), (⟨y4, y5⟩ : S.Cong)⟩ : S.Value) (⟨(⟨y6, y7⟩ : S.Inter), (⟨y8, y9⟩ : S.Cong)⟩ : S.Value) y10])
  | _ => none
noncomputable def c24 : Cfg El := c13.add 24 sem24
theorem c24_ok : CfgOk c24 := c13_ok.add (fun args w => Tryz.call24 args w) (fun vs r outs ps h hp => by
  unfold sem24 at h
  split at h
  · rename_i y1 y2 y3 y4 y5 y6 y7 y8 y9 y10; cases h; exact fn24 y1 (⟨(⟨y2, y3⟩ : S.Inter), (⟨y4, y5⟩ : S.Cong)⟩ : S.Value) (⟨(⟨y6, y7⟩ : S.Inter), (⟨y8, y9⟩ : S.Cong)⟩ : S.Value) y10 hp
  · cases h)

noncomputable def body25 : Code := (Tryz.f25.body).getD .skip
theorem fn25 (op : Int) (a : Int) : CallOk c24 25 [.int .i64 op, .int .i64 a] (wr_i64_b (S.word_One op a)) (wo_i64_b (S.word_One op a)) :=
  (call_ok (c := c24) (f := 25) (fn := Tryz.f25) (code := body25) (args := ([.int .i64 op, .int .i64 a])) (loop := noLoop) (md := ⟨false, false⟩) (rd := rd_i64_b) (wr := wr_i64_b) (wo := wo_i64_b) (r := (S.word_One op a)) c24_ok (by kernel_rfl) (by kernel_rfl) (by kernel_rfl) (no_loops (by kernel_rfl)) (by kernel_rfl) (by kernel_rfl) (by kernel_rfl)
    rw_i64_b np_i64_b no_i64_b (by kernel_rfl) (Tr.vc_of_noReq (by kernel_rfl)))

noncomputable def sem25 : List W → Option (W × List (List W) × List Prop)
  | [.int .i64 y1, .int .i64 y2] => some (wr_i64_b (S.word_One y1 y2), wo_i64_b (S.word_One y1 y2), [])
  | _ => none
noncomputable def c25 : Cfg El := c24.add 25 sem25
theorem c25_ok : CfgOk c25 := c24_ok.add (fun args w => Tryz.call25 args w) (fun vs r outs ps h hp => by
  unfold sem25 at h
  split at h
  · rename_i y1 y2; cases h; exact fn25 y1 y2
  · cases h)
end Go.Proofs.YtcgafjhkefcdfaaGreatDoor
