/-
  Printed by a program for this claim: functions of the code as plain functions, and that the code comes to them. Conditions: those that each theorem states.
-/
import Derived.Test.YthplfkeecpkmhaaGreatDoorKDEnv
import Derived.Test.YthplfkeecpkmhaaGreatDoorKDFmt
set_option linter.all false
namespace Go.Proofs.YthplfkeecpkmhaaGreatDoor
open Go Go.Proofs Vm
attribute [local irreducible] Vm.Tr.vc Vm.Tr.out Vm.Fn Vm.Fn.out Vm.ev Vm.loopsOf Vm.Tr.noReq
noncomputable def rd_S31 : W → List (List W) → Option (S.Value)
  | .agg [.int .i64 x1, .int .i64 x2, .int .u64 x3, .int .u64 x4], [] => some ⟨⟨x1, x2⟩, ⟨x3, x4⟩⟩
  | _, _ => none
noncomputable def wr_S31 (x : S.Value) : W := .agg [.int .i64 x.I.Lo, .int .i64 x.I.Hi, .int .u64 x.C.M, .int .u64 x.C.R]
noncomputable def wo_S31 (_x : S.Value) : List (List W) := []
theorem rw_S31 (v : W) (os : List (List W)) (x : S.Value) (h : rd_S31 v os = some x) : v = wr_S31 x ∧ os = wo_S31 x := by
  unfold rd_S31 at h
  split at h <;> first | (cases h; exact ⟨rfl, rfl⟩) | cases h
theorem np_S31 (x : S.Value) : okv (fun _ => false) (wr_S31 x) = true := rfl
theorem no_S31 (x : S.Value) : all (fun cs => all (ok0 fun _ => false) cs) (wo_S31 x) = true := rfl

noncomputable def body12 : Code := (Tryz.f12.body).getD .skip
theorem fn12 (v : S.Value) : CallOk base 12 [.agg [.int .i64 v.I.Lo, .int .i64 v.I.Hi, .int .u64 v.C.M, .int .u64 v.C.R]] (wr_S31 (S.docs_Value v)) (wo_S31 (S.docs_Value v)) :=
  (call_ok (c := base) (f := 12) (fn := Tryz.f12) (code := body12) (args := ([.agg [.int .i64 v.I.Lo, .int .i64 v.I.Hi, .int .u64 v.C.M, .int .u64 v.C.R]])) (loop := noLoop) (md := ⟨false, false⟩) (rd := rd_S31) (wr := wr_S31) (wo := wo_S31) (r := (S.docs_Value v)) base_ok (by kernel_rfl) (by kernel_rfl) (by kernel_rfl) (no_loops (by kernel_rfl)) (by kernel_rfl) (by kernel_rfl) (by kernel_rfl)
    rw_S31 np_S31 no_S31 (by kernel_rfl) (Tr.vc_of_noReq (by kernel_rfl)))

noncomputable def sem12 : List W → Option (W × List (List W) × List Prop)
  | [.agg [.int .i64 y1, .int .i64 y2, .int .u64 y3, .int .u64 y4]] => some (wr_S31 (S.docs_Value (⟨(⟨y1, y2⟩ : S.Inter), (⟨y3, y4⟩ : S.Cong)⟩ : S.Value)), wo_S31 (S.docs_Value (⟨(⟨y1, y2⟩ : S.Inter), (⟨y3, y4⟩ : S.Cong)⟩ : S.Value)), [])
  | _ => none
noncomputable def c12 : Cfg El := base.add 12 sem12
theorem c12_ok : CfgOk c12 := base_ok.add (fun args w => Tryz.call12 args w) (fun vs r outs ps h hp => by
  unfold sem12 at h
  split at h
  · rename_i y1 y2 y3 y4; cases h; exact fn12 (⟨(⟨y1, y2⟩ : S.Inter), (⟨y3, y4⟩ : S.Cong)⟩ : S.Value)
  · cases h)

noncomputable def rd_b : W → List (List W) → Option (Bool)
  | .bool x1, [] => some x1
  | _, _ => none
noncomputable def wr_b (x : Bool) : W := .bool x
noncomputable def wo_b (_x : Bool) : List (List W) := []
theorem rw_b (v : W) (os : List (List W)) (x : Bool) (h : rd_b v os = some x) : v = wr_b x ∧ os = wo_b x := by
  unfold rd_b at h
  split at h <;> first | (cases h; exact ⟨rfl, rfl⟩) | cases h
theorem np_b (x : Bool) : okv (fun _ => false) (wr_b x) = true := rfl
theorem no_b (x : Bool) : all (fun cs => all (ok0 fun _ => false) cs) (wo_b x) = true := rfl

noncomputable def body120 : Code := (Tryz.f120.body).getD .skip
theorem fn120 (c : S.Cong) : CallOk c12 120 [.agg [.int .u64 c.M, .int .u64 c.R]] (wr_b (S.cong_Cong_single c)) (wo_b (S.cong_Cong_single c)) :=
  (call_ok (c := c12) (f := 120) (fn := Tryz.f120) (code := body120) (args := ([.agg [.int .u64 c.M, .int .u64 c.R]])) (loop := noLoop) (md := ⟨false, false⟩) (rd := rd_b) (wr := wr_b) (wo := wo_b) (r := (S.cong_Cong_single c)) c12_ok (by kernel_rfl) (by kernel_rfl) (by kernel_rfl) (no_loops (by kernel_rfl)) (by kernel_rfl) (by kernel_rfl) (by kernel_rfl)
    rw_b np_b no_b (by kernel_rfl) (Tr.vc_of_noReq (by kernel_rfl)))

noncomputable def sem120 : List W → Option (W × List (List W) × List Prop)
  | [.agg [.int .u64 y1, .int .u64 y2]] => some (wr_b (S.cong_Cong_single (⟨y1, y2⟩ : S.Cong)), wo_b (S.cong_Cong_single (⟨y1, y2⟩ : S.Cong)), [])
  | _ => none
noncomputable def c120 : Cfg El := c12.add 120 sem120
theorem c120_ok : CfgOk c120 := c12_ok.add (fun args w => Tryz.call120 args w) (fun vs r outs ps h hp => by
  unfold sem120 at h
  split at h
  · rename_i y1 y2; cases h; exact fn120 (⟨y1, y2⟩ : S.Cong)
  · cases h)

noncomputable def body64 : Code := (Tryz.f64.body).getD .skip
theorem fn64 (c : S.Cong) : CallOk c120 64 [.agg [.int .u64 c.M, .int .u64 c.R]] (wr_b (S.cong_Cong_Right c)) (wo_b (S.cong_Cong_Right c)) :=
  (call_ok (c := c120) (f := 64) (fn := Tryz.f64) (code := body64) (args := ([.agg [.int .u64 c.M, .int .u64 c.R]])) (loop := noLoop) (md := ⟨false, false⟩) (rd := rd_b) (wr := wr_b) (wo := wo_b) (r := (S.cong_Cong_Right c)) c120_ok (by kernel_rfl) (by kernel_rfl) (by kernel_rfl) (no_loops (by kernel_rfl)) (by kernel_rfl) (by kernel_rfl) (by kernel_rfl)
    rw_b np_b no_b (by kernel_rfl) (Tr.vc_of_noReq (by kernel_rfl)))

noncomputable def sem64 : List W → Option (W × List (List W) × List Prop)
  | [.agg [.int .u64 y1, .int .u64 y2]] => some (wr_b (S.cong_Cong_Right (⟨y1, y2⟩ : S.Cong)), wo_b (S.cong_Cong_Right (⟨y1, y2⟩ : S.Cong)), [])
  | _ => none
noncomputable def c64 : Cfg El := c120.add 64 sem64
theorem c64_ok : CfgOk c64 := c120_ok.add (fun args w => Tryz.call64 args w) (fun vs r outs ps h hp => by
  unfold sem64 at h
  split at h
  · rename_i y1 y2; cases h; exact fn64 (⟨y1, y2⟩ : S.Cong)
  · cases h)

noncomputable def rd_i64 : W → List (List W) → Option (Int)
  | .int .i64 x1, [] => some x1
  | _, _ => none
noncomputable def wr_i64 (x : Int) : W := .int .i64 x
noncomputable def wo_i64 (_x : Int) : List (List W) := []
theorem rw_i64 (v : W) (os : List (List W)) (x : Int) (h : rd_i64 v os = some x) : v = wr_i64 x ∧ os = wo_i64 x := by
  unfold rd_i64 at h
  split at h <;> first | (cases h; exact ⟨rfl, rfl⟩) | cases h
theorem np_i64 (x : Int) : okv (fun _ => false) (wr_i64 x) = true := rfl
theorem no_i64 (x : Int) : all (fun cs => all (ok0 fun _ => false) cs) (wo_i64 x) = true := rfl

noncomputable def body122 : Code := (Tryz.f122.body).getD .skip
theorem fn122 (c : S.Cong) : CallOk c64 122 [.agg [.int .u64 c.M, .int .u64 c.R]] (wr_i64 (S.cong_Cong_number c)) (wo_i64 (S.cong_Cong_number c)) :=
  (call_ok (c := c64) (f := 122) (fn := Tryz.f122) (code := body122) (args := ([.agg [.int .u64 c.M, .int .u64 c.R]])) (loop := noLoop) (md := ⟨false, false⟩) (rd := rd_i64) (wr := wr_i64) (wo := wo_i64) (r := (S.cong_Cong_number c)) c64_ok (by kernel_rfl) (by kernel_rfl) (by kernel_rfl) (no_loops (by kernel_rfl)) (by kernel_rfl) (by kernel_rfl) (by kernel_rfl)
    rw_i64 np_i64 no_i64 (by kernel_rfl) (Tr.vc_of_noReq (by kernel_rfl)))

noncomputable def sem122 : List W → Option (W × List (List W) × List Prop)
  | [.agg [.int .u64 y1, .int .u64 y2]] => some (wr_i64 (S.cong_Cong_number (⟨y1, y2⟩ : S.Cong)), wo_i64 (S.cong_Cong_number (⟨y1, y2⟩ : S.Cong)), [])
  | _ => none
noncomputable def c122 : Cfg El := c64.add 122 sem122
theorem c122_ok : CfgOk c122 := c64_ok.add (fun args w => Tryz.call122 args w) (fun vs r outs ps h hp => by
  unfold sem122 at h
  split at h
  · rename_i y1 y2; cases h; exact fn122 (⟨y1, y2⟩ : S.Cong)
  · cases h)

noncomputable def rd_i64_b : W → List (List W) → Option (Int × Bool)
  | .tup [.int .i64 x1, .bool x2], [] => some ⟨x1, x2⟩
  | _, _ => none
noncomputable def wr_i64_b (x : Int × Bool) : W := .tup [.int .i64 x.1, .bool x.2]
noncomputable def wo_i64_b (_x : Int × Bool) : List (List W) := []
theorem rw_i64_b (v : W) (os : List (List W)) (x : Int × Bool) (h : rd_i64_b v os = some x) : v = wr_i64_b x ∧ os = wo_i64_b x := by
  unfold rd_i64_b at h
  split at h <;> first | (cases h; exact ⟨rfl, rfl⟩) | cases h
theorem np_i64_b (x : Int × Bool) : okv (fun _ => false) (wr_i64_b x) = true := rfl
theorem no_i64_b (x : Int × Bool) : all (fun cs => all (ok0 fun _ => false) cs) (wo_i64_b x) = true := rfl

noncomputable def body121 : Code := (Tryz.f121.body).getD .skip
theorem fn121 (c : S.Cong) (ok : Bool) : CallOk c122 121 [.agg [.int .u64 c.M, .int .u64 c.R], .bool ok] (wr_i64_b (S.cong_Cong_number0 c ok)) (wo_i64_b (S.cong_Cong_number0 c ok)) :=
  (call_ok (c := c122) (f := 121) (fn := Tryz.f121) (code := body121) (args := ([.agg [.int .u64 c.M, .int .u64 c.R], .bool ok])) (loop := noLoop) (md := ⟨false, false⟩) (rd := rd_i64_b) (wr := wr_i64_b) (wo := wo_i64_b) (r := (S.cong_Cong_number0 c ok)) c122_ok (by kernel_rfl) (by kernel_rfl) (by kernel_rfl) (no_loops (by kernel_rfl)) (by kernel_rfl) (by kernel_rfl) (by kernel_rfl)
    rw_i64_b np_i64_b no_i64_b (by kernel_rfl) (Tr.vc_of_noReq (by kernel_rfl)))

noncomputable def sem121 : List W → Option (W × List (List W) × List Prop)
  | [.agg [.int .u64 y1, .int .u64 y2], .bool y3] => some (wr_i64_b (S.cong_Cong_number0 (⟨y1, y2⟩ : S.Cong) y3), wo_i64_b (S.cong_Cong_number0 (⟨y1, y2⟩ : S.Cong) y3), [])
  | _ => none
noncomputable def c121 : Cfg El := c122.add 121 sem121
theorem c121_ok : CfgOk c121 := c122_ok.add (fun args w => Tryz.call121 args w) (fun vs r outs ps h hp => by
  unfold sem121 at h
  split at h
  · rename_i y1 y2 y3; cases h; exact fn121 (⟨y1, y2⟩ : S.Cong) y3
  · cases h)

noncomputable def rd_u64 : W → List (List W) → Option (Int)
  | .int .u64 x1, [] => some x1
  | _, _ => none
noncomputable def wr_u64 (x : Int) : W := .int .u64 x
noncomputable def wo_u64 (_x : Int) : List (List W) := []
theorem rw_u64 (v : W) (os : List (List W)) (x : Int) (h : rd_u64 v os = some x) : v = wr_u64 x ∧ os = wo_u64 x := by
  unfold rd_u64 at h
  split at h <;> first | (cases h; exact ⟨rfl, rfl⟩) | cases h
theorem np_u64 (x : Int) : okv (fun _ => false) (wr_u64 x) = true := rfl
theorem no_u64 (x : Int) : all (fun cs => all (ok0 fun _ => false) cs) (wo_u64 x) = true := rfl

noncomputable def body103 : Code := (Tryz.f103.body).getD .skip
theorem fn103 (n : Int) (m : Int) (hp : S.cong_rest_pre n m) : CallOk c121 103 [.int .i64 n, .int .u64 m] (wr_u64 (S.cong_rest n m)) (wo_u64 (S.cong_rest n m)) :=
  (call_ok (c := c121) (f := 103) (fn := Tryz.f103) (code := body103) (args := ([.int .i64 n, .int .u64 m])) (loop := noLoop) (md := ⟨false, false⟩) (rd := rd_u64) (wr := wr_u64) (wo := wo_u64) (r := (S.cong_rest n m)) c121_ok (by kernel_rfl) (by kernel_rfl) (by kernel_rfl) (no_loops (by kernel_rfl)) (by kernel_rfl) (by kernel_rfl) (by kernel_rfl)
    rw_u64 np_u64 no_u64 (by kernel_rfl) (Eq.mpr (show Vm.Tr.vc (Vm.Fn c121 Tryz.f103 body103 noLoop ([.int .i64 n, .int .u64 m])) = S.cong_rest_pre n m by kernel_rfl) hp))

noncomputable def sem103 : List W → Option (W × List (List W) × List Prop)
  | [.int .i64 y1, .int .u64 y2] => some (wr_u64 (S.cong_rest y1 y2), wo_u64 (S.cong_rest y1 y2), [S.cong_rest_pre y1 y2])
  | _ => none
noncomputable def c103 : Cfg El := c121.add 103 sem103
theorem c103_ok : CfgOk c103 := c121_ok.add (fun args w => Tryz.call103 args w) (fun vs r outs ps h hp => by
  unfold sem103 at h
  split at h
  · rename_i y1 y2; cases h; exact fn103 y1 y2 hp
  · cases h)

noncomputable def sem173 : List W → Option (W × List (List W) × List Prop)
  | [.int .u64 x, .int .u64 y, .int .u64 c] => some (.tup [.int .u64 (S.math_bits_Add64 x y c).1, .int .u64 (S.math_bits_Add64 x y c).2], [], [S.math_bits_Add64_pre x y c])
  | _ => none
noncomputable def c173 : Cfg El := c103.add 173 sem173
theorem c173_ok : CfgOk c173 := c103_ok.addExt (fun vs r outs ps h hp => by
  unfold sem173 at h
  split at h
  · cases h; exact ⟨rfl, ext_add64 (c := c103) (fn := Tryz.f173) (by kernel_rfl) (by kernel_rfl) (by kernel_rfl) (by kernel_rfl) (by kernel_rfl) hp⟩
  · cases h)

noncomputable def body123 : Code := (Tryz.f123.body).getD .skip
theorem fn123 (a : Int) (b : Int) (m : Int) (hp : S.cong_plus_pre a b m) : CallOk c173 123 [.int .u64 a, .int .u64 b, .int .u64 m] (wr_u64 (S.cong_plus a b m)) (wo_u64 (S.cong_plus a b m)) :=
  (call_ok (c := c173) (f := 123) (fn := Tryz.f123) (code := body123) (args := ([.int .u64 a, .int .u64 b, .int .u64 m])) (loop := noLoop) (md := ⟨false, false⟩) (rd := rd_u64) (wr := wr_u64) (wo := wo_u64) (r := (S.cong_plus a b m)) c173_ok (by kernel_rfl) (by kernel_rfl) (by kernel_rfl) (no_loops (by kernel_rfl)) (by kernel_rfl) (by kernel_rfl) (by kernel_rfl)
    rw_u64 np_u64 no_u64 (by kernel_rfl) (Eq.mpr (show Vm.Tr.vc (Vm.Fn c173 Tryz.f123 body123 noLoop ([.int .u64 a, .int .u64 b, .int .u64 m])) = S.cong_plus_pre a b m by kernel_rfl) hp))

noncomputable def sem123 : List W → Option (W × List (List W) × List Prop)
  | [.int .u64 y1, .int .u64 y2, .int .u64 y3] => some (wr_u64 (S.cong_plus y1 y2 y3), wo_u64 (S.cong_plus y1 y2 y3), [S.cong_plus_pre y1 y2 y3])
  | _ => none
noncomputable def c123 : Cfg El := c173.add 123 sem123
theorem c123_ok : CfgOk c123 := c173_ok.add (fun args w => Tryz.call123 args w) (fun vs r outs ps h hp => by
  unfold sem123 at h
  split at h
  · rename_i y1 y2 y3; cases h; exact fn123 y1 y2 y3 hp
  · cases h)

noncomputable def body65 : Code := (Tryz.f65.body).getD .skip
theorem fn65 (c : S.Cong) (a1 : Int) (hp : S.cong_Cong_Least_pre c a1) : CallOk c123 65 [.agg [.int .u64 c.M, .int .u64 c.R], .int .i64 a1] (wr_i64_b (S.cong_Cong_Least c a1)) (wo_i64_b (S.cong_Cong_Least c a1)) :=
  (call_ok (c := c123) (f := 65) (fn := Tryz.f65) (code := body65) (args := ([.agg [.int .u64 c.M, .int .u64 c.R], .int .i64 a1])) (loop := noLoop) (md := ⟨false, false⟩) (rd := rd_i64_b) (wr := wr_i64_b) (wo := wo_i64_b) (r := (S.cong_Cong_Least c a1)) c123_ok (by kernel_rfl) (by kernel_rfl) (by kernel_rfl) (no_loops (by kernel_rfl)) (by kernel_rfl) (by kernel_rfl) (by kernel_rfl)
    rw_i64_b np_i64_b no_i64_b (by kernel_rfl) (Eq.mpr (show Vm.Tr.vc (Vm.Fn c123 Tryz.f65 body65 noLoop ([.agg [.int .u64 c.M, .int .u64 c.R], .int .i64 a1])) = S.cong_Cong_Least_pre c a1 by kernel_rfl) hp))

noncomputable def sem65 : List W → Option (W × List (List W) × List Prop)
  | [.agg [.int .u64 y1, .int .u64 y2], .int .i64 y3] => some (wr_i64_b (S.cong_Cong_Least (⟨y1, y2⟩ : S.Cong) y3), wo_i64_b (S.cong_Cong_Least (⟨y1, y2⟩ : S.Cong) y3), [S.cong_Cong_Least_pre (⟨y1, y2⟩ : S.Cong) y3])
  | _ => none
noncomputable def c65 : Cfg El := c123.add 65 sem65
theorem c65_ok : CfgOk c65 := c123_ok.add (fun args w => Tryz.call65 args w) (fun vs r outs ps h hp => by
  unfold sem65 at h
  split at h
  · rename_i y1 y2 y3; cases h; exact fn65 (⟨y1, y2⟩ : S.Cong) y3 hp
  · cases h)

noncomputable def body66 : Code := (Tryz.f66.body).getD .skip
theorem fn66 (c : S.Cong) (to : Int) (hp : S.cong_Cong_Greatest_pre c to) : CallOk c65 66 [.agg [.int .u64 c.M, .int .u64 c.R], .int .i64 to] (wr_i64_b (S.cong_Cong_Greatest c to)) (wo_i64_b (S.cong_Cong_Greatest c to)) :=
  (call_ok (c := c65) (f := 66) (fn := Tryz.f66) (code := body66) (args := ([.agg [.int .u64 c.M, .int .u64 c.R], .int .i64 to])) (loop := noLoop) (md := ⟨false, false⟩) (rd := rd_i64_b) (wr := wr_i64_b) (wo := wo_i64_b) (r := (S.cong_Cong_Greatest c to)) c65_ok (by kernel_rfl) (by kernel_rfl) (by kernel_rfl) (no_loops (by kernel_rfl)) (by kernel_rfl) (by kernel_rfl) (by kernel_rfl)
    rw_i64_b np_i64_b no_i64_b (by kernel_rfl) (Eq.mpr (show Vm.Tr.vc (Vm.Fn c65 Tryz.f66 body66 noLoop ([.agg [.int .u64 c.M, .int .u64 c.R], .int .i64 to])) = S.cong_Cong_Greatest_pre c to by kernel_rfl) hp))

noncomputable def sem66 : List W → Option (W × List (List W) × List Prop)
  | [.agg [.int .u64 y1, .int .u64 y2], .int .i64 y3] => some (wr_i64_b (S.cong_Cong_Greatest (⟨y1, y2⟩ : S.Cong) y3), wo_i64_b (S.cong_Cong_Greatest (⟨y1, y2⟩ : S.Cong) y3), [S.cong_Cong_Greatest_pre (⟨y1, y2⟩ : S.Cong) y3])
  | _ => none
noncomputable def c66 : Cfg El := c65.add 66 sem66
theorem c66_ok : CfgOk c66 := c65_ok.add (fun args w => Tryz.call66 args w) (fun vs r outs ps h hp => by
  unfold sem66 at h
  split at h
  · rename_i y1 y2 y3; cases h; exact fn66 (⟨y1, y2⟩ : S.Cong) y3 hp
  · cases h)

noncomputable def rd_S22 : W → List (List W) → Option (S.Inter)
  | .agg [.int .i64 x1, .int .i64 x2], [] => some ⟨x1, x2⟩
  | _, _ => none
noncomputable def wr_S22 (x : S.Inter) : W := .agg [.int .i64 x.Lo, .int .i64 x.Hi]
noncomputable def wo_S22 (_x : S.Inter) : List (List W) := []
theorem rw_S22 (v : W) (os : List (List W)) (x : S.Inter) (h : rd_S22 v os = some x) : v = wr_S22 x ∧ os = wo_S22 x := by
  unfold rd_S22 at h
  split at h <;> first | (cases h; exact ⟨rfl, rfl⟩) | cases h
theorem np_S22 (x : S.Inter) : okv (fun _ => false) (wr_S22 x) = true := rfl
theorem no_S22 (x : S.Inter) : all (fun cs => all (ok0 fun _ => false) cs) (wo_S22 x) = true := rfl

noncomputable def body84 : Code := (Tryz.f84.body).getD .skip
theorem fn84 : CallOk c66 84 [] (wr_S22 (S.inter_Empty)) (wo_S22 (S.inter_Empty)) :=
  (call_ok (c := c66) (f := 84) (fn := Tryz.f84) (code := body84) (args := ([])) (loop := noLoop) (md := ⟨false, false⟩) (rd := rd_S22) (wr := wr_S22) (wo := wo_S22) (r := S.inter_Empty) c66_ok (by kernel_rfl) (by kernel_rfl) (by kernel_rfl) (no_loops (by kernel_rfl)) (by kernel_rfl) (by kernel_rfl) (by kernel_rfl)
    rw_S22 np_S22 no_S22 (by kernel_rfl) (Tr.vc_of_noReq (by kernel_rfl)))

noncomputable def sem84 : List W → Option (W × List (List W) × List Prop)
  | [] => some (wr_S22 (S.inter_Empty), wo_S22 (S.inter_Empty), [])
  | _ => none
noncomputable def c84 : Cfg El := c66.add 84 sem84
theorem c84_ok : CfgOk c84 := c66_ok.add (fun args w => Tryz.call84 args w) (fun vs r outs ps h hp => by
  unfold sem84 at h
  split at h
  · cases h; exact fn84
  · cases h)

noncomputable def body68 : Code := (Tryz.f68.body).getD .skip
theorem fn68 (lo : Int) (hi : Int) : CallOk c84 68 [.int .i64 lo, .int .i64 hi] (wr_S22 (S.inter_Of lo hi)) (wo_S22 (S.inter_Of lo hi)) :=
  (call_ok (c := c84) (f := 68) (fn := Tryz.f68) (code := body68) (args := ([.int .i64 lo, .int .i64 hi])) (loop := noLoop) (md := ⟨false, false⟩) (rd := rd_S22) (wr := wr_S22) (wo := wo_S22) (r := (S.inter_Of lo hi)) c84_ok (by kernel_rfl) (by kernel_rfl) (by kernel_rfl) (no_loops (by kernel_rfl)) (by kernel_rfl) (by kernel_rfl) (by kernel_rfl)
    rw_S22 np_S22 no_S22 (by kernel_rfl) (Tr.vc_of_noReq (by kernel_rfl)))

noncomputable def sem68 : List W → Option (W × List (List W) × List Prop)
  | [.int .i64 y1, .int .i64 y2] => some (wr_S22 (S.inter_Of y1 y2), wo_S22 (S.inter_Of y1 y2), [])
  | _ => none
noncomputable def c68 : Cfg El := c84.add 68 sem68
theorem c68_ok : CfgOk c68 := c84_ok.add (fun args w => Tryz.call68 args w) (fun vs r outs ps h hp => by
  unfold sem68 at h
  split at h
  · rename_i y1 y2; cases h; exact fn68 y1 y2
  · cases h)

noncomputable def body124 : Code := (Tryz.f124.body).getD .skip
theorem fn124 (i : S.Inter) : CallOk c68 124 [.agg [.int .i64 i.Lo, .int .i64 i.Hi]] (wr_S22 (S.inter_Inter_plain i)) (wo_S22 (S.inter_Inter_plain i)) :=
  (call_ok (c := c68) (f := 124) (fn := Tryz.f124) (code := body124) (args := ([.agg [.int .i64 i.Lo, .int .i64 i.Hi]])) (loop := noLoop) (md := ⟨false, false⟩) (rd := rd_S22) (wr := wr_S22) (wo := wo_S22) (r := (S.inter_Inter_plain i)) c68_ok (by kernel_rfl) (by kernel_rfl) (by kernel_rfl) (no_loops (by kernel_rfl)) (by kernel_rfl) (by kernel_rfl) (by kernel_rfl)
    rw_S22 np_S22 no_S22 (by kernel_rfl) (Tr.vc_of_noReq (by kernel_rfl)))

noncomputable def sem124 : List W → Option (W × List (List W) × List Prop)
  | [.agg [.int .i64 y1, .int .i64 y2]] => some (wr_S22 (S.inter_Inter_plain (⟨y1, y2⟩ : S.Inter)), wo_S22 (S.inter_Inter_plain (⟨y1, y2⟩ : S.Inter)), [])
  | _ => none
noncomputable def c124 : Cfg El := c68.add 124 sem124
theorem c124_ok : CfgOk c124 := c68_ok.add (fun args w => Tryz.call124 args w) (fun vs r outs ps h hp => by
  unfold sem124 at h
  split at h
  · rename_i y1 y2; cases h; exact fn124 (⟨y1, y2⟩ : S.Inter)
  · cases h)

noncomputable def body67 : Code := (Tryz.f67.body).getD .skip
theorem fn67 (i : S.Inter) : CallOk c124 67 [.agg [.int .i64 i.Lo, .int .i64 i.Hi]] (wr_b (S.inter_Inter_IsEmpty i)) (wo_b (S.inter_Inter_IsEmpty i)) :=
  (call_ok (c := c124) (f := 67) (fn := Tryz.f67) (code := body67) (args := ([.agg [.int .i64 i.Lo, .int .i64 i.Hi]])) (loop := noLoop) (md := ⟨false, false⟩) (rd := rd_b) (wr := wr_b) (wo := wo_b) (r := (S.inter_Inter_IsEmpty i)) c124_ok (by kernel_rfl) (by kernel_rfl) (by kernel_rfl) (no_loops (by kernel_rfl)) (by kernel_rfl) (by kernel_rfl) (by kernel_rfl)
    rw_b np_b no_b (by kernel_rfl) (Tr.vc_of_noReq (by kernel_rfl)))

noncomputable def sem67 : List W → Option (W × List (List W) × List Prop)
  | [.agg [.int .i64 y1, .int .i64 y2]] => some (wr_b (S.inter_Inter_IsEmpty (⟨y1, y2⟩ : S.Inter)), wo_b (S.inter_Inter_IsEmpty (⟨y1, y2⟩ : S.Inter)), [])
  | _ => none
noncomputable def c67 : Cfg El := c124.add 67 sem67
theorem c67_ok : CfgOk c67 := c124_ok.add (fun args w => Tryz.call67 args w) (fun vs r outs ps h hp => by
  unfold sem67 at h
  split at h
  · rename_i y1 y2; cases h; exact fn67 (⟨y1, y2⟩ : S.Inter)
  · cases h)

noncomputable def rd_S25 : W → List (List W) → Option (S.Cong)
  | .agg [.int .u64 x1, .int .u64 x2], [] => some ⟨x1, x2⟩
  | _, _ => none
noncomputable def wr_S25 (x : S.Cong) : W := .agg [.int .u64 x.M, .int .u64 x.R]
noncomputable def wo_S25 (_x : S.Cong) : List (List W) := []
theorem rw_S25 (v : W) (os : List (List W)) (x : S.Cong) (h : rd_S25 v os = some x) : v = wr_S25 x ∧ os = wo_S25 x := by
  unfold rd_S25 at h
  split at h <;> first | (cases h; exact ⟨rfl, rfl⟩) | cases h
theorem np_S25 (x : S.Cong) : okv (fun _ => false) (wr_S25 x) = true := rfl
theorem no_S25 (x : S.Cong) : all (fun cs => all (ok0 fun _ => false) cs) (wo_S25 x) = true := rfl

noncomputable def body31 : Code := (Tryz.f31.body).getD .skip
theorem fn31 : CallOk c67 31 [] (wr_S25 (S.cong_Top)) (wo_S25 (S.cong_Top)) :=
  (call_ok (c := c67) (f := 31) (fn := Tryz.f31) (code := body31) (args := ([])) (loop := noLoop) (md := ⟨false, false⟩) (rd := rd_S25) (wr := wr_S25) (wo := wo_S25) (r := S.cong_Top) c67_ok (by kernel_rfl) (by kernel_rfl) (by kernel_rfl) (no_loops (by kernel_rfl)) (by kernel_rfl) (by kernel_rfl) (by kernel_rfl)
    rw_S25 np_S25 no_S25 (by kernel_rfl) (Tr.vc_of_noReq (by kernel_rfl)))

noncomputable def sem31 : List W → Option (W × List (List W) × List Prop)
  | [] => some (wr_S25 (S.cong_Top), wo_S25 (S.cong_Top), [])
  | _ => none
noncomputable def c31 : Cfg El := c67.add 31 sem31
theorem c31_ok : CfgOk c31 := c67_ok.add (fun args w => Tryz.call31 args w) (fun vs r outs ps h hp => by
  unfold sem31 at h
  split at h
  · cases h; exact fn31
  · cases h)

noncomputable def rd_S27 : W → List (List W) → Option (S.Value)
  | .agg [.int .i64 x1, .int .i64 x2, .int .u64 x3, .int .u64 x4], [] => some ⟨⟨x1, x2⟩, ⟨x3, x4⟩⟩
  | _, _ => none
noncomputable def wr_S27 (x : S.Value) : W := .agg [.int .i64 x.I.Lo, .int .i64 x.I.Hi, .int .u64 x.C.M, .int .u64 x.C.R]
noncomputable def wo_S27 (_x : S.Value) : List (List W) := []
theorem rw_S27 (v : W) (os : List (List W)) (x : S.Value) (h : rd_S27 v os = some x) : v = wr_S27 x ∧ os = wo_S27 x := by
  unfold rd_S27 at h
  split at h <;> first | (cases h; exact ⟨rfl, rfl⟩) | cases h
theorem np_S27 (x : S.Value) : okv (fun _ => false) (wr_S27 x) = true := rfl
theorem no_S27 (x : S.Value) : all (fun cs => all (ok0 fun _ => false) cs) (wo_S27 x) = true := rfl

noncomputable def body29 : Code := (Tryz.f29.body).getD .skip
theorem fn29 : CallOk c31 29 [] (wr_S27 (S.value_Bottom)) (wo_S27 (S.value_Bottom)) :=
  (call_ok (c := c31) (f := 29) (fn := Tryz.f29) (code := body29) (args := ([])) (loop := noLoop) (md := ⟨false, false⟩) (rd := rd_S27) (wr := wr_S27) (wo := wo_S27) (r := S.value_Bottom) c31_ok (by kernel_rfl) (by kernel_rfl) (by kernel_rfl) (no_loops (by kernel_rfl)) (by kernel_rfl) (by kernel_rfl) (by kernel_rfl)
    rw_S27 np_S27 no_S27 (by kernel_rfl) (Tr.vc_of_noReq (by kernel_rfl)))

noncomputable def sem29 : List W → Option (W × List (List W) × List Prop)
  | [] => some (wr_S27 (S.value_Bottom), wo_S27 (S.value_Bottom), [])
  | _ => none
noncomputable def c29 : Cfg El := c31.add 29 sem29
theorem c29_ok : CfgOk c29 := c31_ok.add (fun args w => Tryz.call29 args w) (fun vs r outs ps h hp => by
  unfold sem29 at h
  split at h
  · cases h; exact fn29
  · cases h)

noncomputable def body79 : Code := (Tryz.f79.body).getD .skip
theorem fn79 (n : Int) : CallOk c29 79 [.int .i64 n] (wr_S22 (S.inter_One n)) (wo_S22 (S.inter_One n)) :=
  (call_ok (c := c29) (f := 79) (fn := Tryz.f79) (code := body79) (args := ([.int .i64 n])) (loop := noLoop) (md := ⟨false, false⟩) (rd := rd_S22) (wr := wr_S22) (wo := wo_S22) (r := (S.inter_One n)) c29_ok (by kernel_rfl) (by kernel_rfl) (by kernel_rfl) (no_loops (by kernel_rfl)) (by kernel_rfl) (by kernel_rfl) (by kernel_rfl)
    rw_S22 np_S22 no_S22 (by kernel_rfl) (Tr.vc_of_noReq (by kernel_rfl)))

noncomputable def sem79 : List W → Option (W × List (List W) × List Prop)
  | [.int .i64 y1] => some (wr_S22 (S.inter_One y1), wo_S22 (S.inter_One y1), [])
  | _ => none
noncomputable def c79 : Cfg El := c29.add 79 sem79
theorem c79_ok : CfgOk c79 := c29_ok.add (fun args w => Tryz.call79 args w) (fun vs r outs ps h hp => by
  unfold sem79 at h
  split at h
  · rename_i y1; cases h; exact fn79 y1
  · cases h)

noncomputable def body80 : Code := (Tryz.f80.body).getD .skip
theorem fn80 (n : Int) : CallOk c79 80 [.int .i64 n] (wr_S25 (S.cong_Const n)) (wo_S25 (S.cong_Const n)) :=
  (call_ok (c := c79) (f := 80) (fn := Tryz.f80) (code := body80) (args := ([.int .i64 n])) (loop := noLoop) (md := ⟨false, false⟩) (rd := rd_S25) (wr := wr_S25) (wo := wo_S25) (r := (S.cong_Const n)) c79_ok (by kernel_rfl) (by kernel_rfl) (by kernel_rfl) (no_loops (by kernel_rfl)) (by kernel_rfl) (by kernel_rfl) (by kernel_rfl)
    rw_S25 np_S25 no_S25 (by kernel_rfl) (Tr.vc_of_noReq (by kernel_rfl)))

noncomputable def sem80 : List W → Option (W × List (List W) × List Prop)
  | [.int .i64 y1] => some (wr_S25 (S.cong_Const y1), wo_S25 (S.cong_Const y1), [])
  | _ => none
noncomputable def c80 : Cfg El := c79.add 80 sem80
theorem c80_ok : CfgOk c80 := c79_ok.add (fun args w => Tryz.call80 args w) (fun vs r outs ps h hp => by
  unfold sem80 at h
  split at h
  · rename_i y1; cases h; exact fn80 y1
  · cases h)

noncomputable def body25 : Code := (Tryz.f25.body).getD .skip
theorem fn25 (n : Int) : CallOk c80 25 [.int .i64 n] (wr_S27 (S.value_One n)) (wo_S27 (S.value_One n)) :=
  (call_ok (c := c80) (f := 25) (fn := Tryz.f25) (code := body25) (args := ([.int .i64 n])) (loop := noLoop) (md := ⟨false, false⟩) (rd := rd_S27) (wr := wr_S27) (wo := wo_S27) (r := (S.value_One n)) c80_ok (by kernel_rfl) (by kernel_rfl) (by kernel_rfl) (no_loops (by kernel_rfl)) (by kernel_rfl) (by kernel_rfl) (by kernel_rfl)
    rw_S27 np_S27 no_S27 (by kernel_rfl) (Tr.vc_of_noReq (by kernel_rfl)))

noncomputable def sem25 : List W → Option (W × List (List W) × List Prop)
  | [.int .i64 y1] => some (wr_S27 (S.value_One y1), wo_S27 (S.value_One y1), [])
  | _ => none
noncomputable def c25 : Cfg El := c80.add 25 sem25
theorem c25_ok : CfgOk c25 := c80_ok.add (fun args w => Tryz.call25 args w) (fun vs r outs ps h hp => by
  unfold sem25 at h
  split at h
  · rename_i y1; cases h; exact fn25 y1
  · cases h)

noncomputable def body11 : Code := (Tryz.f11.body).getD .skip
theorem fn11 (i : S.Inter) (c : S.Cong) (hp : S.value_Make_pre i c) : CallOk c25 11 [.agg [.int .i64 i.Lo, .int .i64 i.Hi], .agg [.int .u64 c.M, .int .u64 c.R]] (wr_S27 (S.value_Make i c)) (wo_S27 (S.value_Make i c)) :=
  (call_ok (c := c25) (f := 11) (fn := Tryz.f11) (code := body11) (args := ([.agg [.int .i64 i.Lo, .int .i64 i.Hi], .agg [.int .u64 c.M, .int .u64 c.R]])) (loop := noLoop) (md := ⟨false, false⟩) (rd := rd_S27) (wr := wr_S27) (wo := wo_S27) (r := (S.value_Make i c)) c25_ok (by kernel_rfl) (by kernel_rfl) (by kernel_rfl) (no_loops (by kernel_rfl)) (by kernel_rfl) (by kernel_rfl) (by kernel_rfl)
    rw_S27 np_S27 no_S27 (by kernel_rfl) (Eq.mpr (show Vm.Tr.vc (Vm.Fn c25 Tryz.f11 body11 noLoop ([.agg [.int .i64 i.Lo, .int .i64 i.Hi], .agg [.int .u64 c.M, .int .u64 c.R]])) = S.value_Make_pre i c by kernel_rfl) hp))

noncomputable def sem11 : List W → Option (W × List (List W) × List Prop)
  | [.agg [.int .i64 y1, .int .i64 y2], .agg [.int .u64 y3, .int .u64 y4]] => some (wr_S27 (S.value_Make (⟨y1, y2⟩ : S.Inter) (⟨y3, y4⟩ : S.Cong)), wo_S27 (S.value_Make (⟨y1, y2⟩ : S.Inter) (⟨y3, y4⟩ : S.Cong)), [S.value_Make_pre (⟨y1, y2⟩ : S.Inter) (⟨y3, y4⟩ : S.Cong)])
  | _ => none
noncomputable def c11 : Cfg El := c25.add 11 sem11
theorem c11_ok : CfgOk c11 := c25_ok.add (fun args w => Tryz.call11 args w) (fun vs r outs ps h hp => by
  unfold sem11 at h
  split at h
  · rename_i y1 y2 y3 y4; cases h; exact fn11 (⟨y1, y2⟩ : S.Inter) (⟨y3, y4⟩ : S.Cong) hp
  · cases h)

noncomputable def body104 : Code := (Tryz.f104.body).getD .skip
theorem fn104 (v : S.Value) (hp : S.cond_plain_pre v) : CallOk c11 104 [.agg [.int .i64 v.I.Lo, .int .i64 v.I.Hi, .int .u64 v.C.M, .int .u64 v.C.R]] (wr_S27 (S.cond_plain v)) (wo_S27 (S.cond_plain v)) :=
  (call_ok (c := c11) (f := 104) (fn := Tryz.f104) (code := body104) (args := ([.agg [.int .i64 v.I.Lo, .int .i64 v.I.Hi, .int .u64 v.C.M, .int .u64 v.C.R]])) (loop := noLoop) (md := ⟨false, false⟩) (rd := rd_S27) (wr := wr_S27) (wo := wo_S27) (r := (S.cond_plain v)) c11_ok (by kernel_rfl) (by kernel_rfl) (by kernel_rfl) (no_loops (by kernel_rfl)) (by kernel_rfl) (by kernel_rfl) (by kernel_rfl)
    rw_S27 np_S27 no_S27 (by kernel_rfl) (Eq.mpr (show Vm.Tr.vc (Vm.Fn c11 Tryz.f104 body104 noLoop ([.agg [.int .i64 v.I.Lo, .int .i64 v.I.Hi, .int .u64 v.C.M, .int .u64 v.C.R]])) = S.cond_plain_pre v by kernel_rfl) hp))

noncomputable def sem104 : List W → Option (W × List (List W) × List Prop)
  | [.agg [.int .i64 y1, .int .i64 y2, .int .u64 y3, .int .u64 y4]] => some (wr_S27 (S.cond_plain (⟨(⟨y1, y2⟩ : S.Inter), (⟨y3, y4⟩ : S.Cong)⟩ : S.Value)), wo_S27 (S.cond_plain (⟨(⟨y1, y2⟩ : S.Inter), (⟨y3, y4⟩ : S.Cong)⟩ : S.Value)), [S.cond_plain_pre (⟨(⟨y1, y2⟩ : S.Inter), (⟨y3, y4⟩ : S.Cong)⟩ : S.Value)])
  | _ => none
noncomputable def c104 : Cfg El := c11.add 104 sem104
theorem c104_ok : CfgOk c104 := c11_ok.add (fun args w => Tryz.call104 args w) (fun vs r outs ps h hp => by
  unfold sem104 at h
  split at h
  · rename_i y1 y2 y3 y4; cases h; exact fn104 (⟨(⟨y1, y2⟩ : S.Inter), (⟨y3, y4⟩ : S.Cong)⟩ : S.Value) hp
  · cases h)

noncomputable def body69 : Code := (Tryz.f69.body).getD .skip
theorem fn69 (v : S.Value) (hp : S.value_Value_reduced_pre v) : CallOk c104 69 [.agg [.int .i64 v.I.Lo, .int .i64 v.I.Hi, .int .u64 v.C.M, .int .u64 v.C.R]] (wr_S27 (S.value_Value_reduced v)) (wo_S27 (S.value_Value_reduced v)) :=
  (call_ok (c := c104) (f := 69) (fn := Tryz.f69) (code := body69) (args := ([.agg [.int .i64 v.I.Lo, .int .i64 v.I.Hi, .int .u64 v.C.M, .int .u64 v.C.R]])) (loop := noLoop) (md := ⟨false, false⟩) (rd := rd_S27) (wr := wr_S27) (wo := wo_S27) (r := (S.value_Value_reduced v)) c104_ok (by kernel_rfl) (by kernel_rfl) (by kernel_rfl) (no_loops (by kernel_rfl)) (by kernel_rfl) (by kernel_rfl) (by kernel_rfl)
    rw_S27 np_S27 no_S27 (by kernel_rfl) (Eq.mpr (show Vm.Tr.vc (Vm.Fn c104 Tryz.f69 body69 noLoop ([.agg [.int .i64 v.I.Lo, .int .i64 v.I.Hi, .int .u64 v.C.M, .int .u64 v.C.R]])) = S.value_Value_reduced_pre v by kernel_rfl) hp))

noncomputable def sem69 : List W → Option (W × List (List W) × List Prop)
  | [.agg [.int .i64 y1, .int .i64 y2, .int .u64 y3, .int .u64 y4]] => some (wr_S27 (S.value_Value_reduced (⟨(⟨y1, y2⟩ : S.Inter), (⟨y3, y4⟩ : S.Cong)⟩ : S.Value)), wo_S27 (S.value_Value_reduced (⟨(⟨y1, y2⟩ : S.Inter), (⟨y3, y4⟩ : S.Cong)⟩ : S.Value)), [S.value_Value_reduced_pre (⟨(⟨y1, y2⟩ : S.Inter), (⟨y3, y4⟩ : S.Cong)⟩ : S.Value)])
  | _ => none
noncomputable def c69 : Cfg El := c104.add 69 sem69
theorem c69_ok : CfgOk c69 := c104_ok.add (fun args w => Tryz.call69 args w) (fun vs r outs ps h hp => by
  unfold sem69 at h
  split at h
  · rename_i y1 y2 y3 y4; cases h; exact fn69 (⟨(⟨y1, y2⟩ : S.Inter), (⟨y3, y4⟩ : S.Cong)⟩ : S.Value) hp
  · cases h)

noncomputable def body17 : Code := (Tryz.f17.body).getD .skip
theorem fn17 (v : S.Value) (hp : S.value_Value_IsBottom_pre v) : CallOk c69 17 [.agg [.int .i64 v.I.Lo, .int .i64 v.I.Hi, .int .u64 v.C.M, .int .u64 v.C.R]] (wr_b (S.value_Value_IsBottom v)) (wo_b (S.value_Value_IsBottom v)) :=
  (call_ok (c := c69) (f := 17) (fn := Tryz.f17) (code := body17) (args := ([.agg [.int .i64 v.I.Lo, .int .i64 v.I.Hi, .int .u64 v.C.M, .int .u64 v.C.R]])) (loop := noLoop) (md := ⟨false, false⟩) (rd := rd_b) (wr := wr_b) (wo := wo_b) (r := (S.value_Value_IsBottom v)) c69_ok (by kernel_rfl) (by kernel_rfl) (by kernel_rfl) (no_loops (by kernel_rfl)) (by kernel_rfl) (by kernel_rfl) (by kernel_rfl)
    rw_b np_b no_b (by kernel_rfl) (Eq.mpr (show Vm.Tr.vc (Vm.Fn c69 Tryz.f17 body17 noLoop ([.agg [.int .i64 v.I.Lo, .int .i64 v.I.Hi, .int .u64 v.C.M, .int .u64 v.C.R]])) = S.value_Value_IsBottom_pre v by kernel_rfl) hp))

noncomputable def sem17 : List W → Option (W × List (List W) × List Prop)
  | [.agg [.int .i64 y1, .int .i64 y2, .int .u64 y3, .int .u64 y4]] => some (wr_b (S.value_Value_IsBottom (⟨(⟨y1, y2⟩ : S.Inter), (⟨y3, y4⟩ : S.Cong)⟩ : S.Value)), wo_b (S.value_Value_IsBottom (⟨(⟨y1, y2⟩ : S.Inter), (⟨y3, y4⟩ : S.Cong)⟩ : S.Value)), [S.value_Value_IsBottom_pre (⟨(⟨y1, y2⟩ : S.Inter), (⟨y3, y4⟩ : S.Cong)⟩ : S.Value)])
  | _ => none
noncomputable def c17 : Cfg El := c69.add 17 sem17
theorem c17_ok : CfgOk c17 := c69_ok.add (fun args w => Tryz.call17 args w) (fun vs r outs ps h hp => by
  unfold sem17 at h
  split at h
  · rename_i y1 y2 y3 y4; cases h; exact fn17 (⟨(⟨y1, y2⟩ : S.Inter), (⟨y3, y4⟩ : S.Cong)⟩ : S.Value) hp
  · cases h)

noncomputable def body62 : Code := (Tryz.f62.body).getD .skip
theorem fn62 : CallOk c17 62 [] (wr_S22 (S.inter_Whole)) (wo_S22 (S.inter_Whole)) :=
  (call_ok (c := c17) (f := 62) (fn := Tryz.f62) (code := body62) (args := ([])) (loop := noLoop) (md := ⟨false, false⟩) (rd := rd_S22) (wr := wr_S22) (wo := wo_S22) (r := S.inter_Whole) c17_ok (by kernel_rfl) (by kernel_rfl) (by kernel_rfl) (no_loops (by kernel_rfl)) (by kernel_rfl) (by kernel_rfl) (by kernel_rfl)
    rw_S22 np_S22 no_S22 (by kernel_rfl) (Tr.vc_of_noReq (by kernel_rfl)))

noncomputable def sem62 : List W → Option (W × List (List W) × List Prop)
  | [] => some (wr_S22 (S.inter_Whole), wo_S22 (S.inter_Whole), [])
  | _ => none
noncomputable def c62 : Cfg El := c17.add 62 sem62
theorem c62_ok : CfgOk c62 := c17_ok.add (fun args w => Tryz.call62 args w) (fun vs r outs ps h hp => by
  unfold sem62 at h
  split at h
  · cases h; exact fn62
  · cases h)

noncomputable def body27 : Code := (Tryz.f27.body).getD .skip
theorem fn27 : CallOk c62 27 [] (wr_S27 (S.value_Top)) (wo_S27 (S.value_Top)) :=
  (call_ok (c := c62) (f := 27) (fn := Tryz.f27) (code := body27) (args := ([])) (loop := noLoop) (md := ⟨false, false⟩) (rd := rd_S27) (wr := wr_S27) (wo := wo_S27) (r := S.value_Top) c62_ok (by kernel_rfl) (by kernel_rfl) (by kernel_rfl) (no_loops (by kernel_rfl)) (by kernel_rfl) (by kernel_rfl) (by kernel_rfl)
    rw_S27 np_S27 no_S27 (by kernel_rfl) (Tr.vc_of_noReq (by kernel_rfl)))

noncomputable def sem27 : List W → Option (W × List (List W) × List Prop)
  | [] => some (wr_S27 (S.value_Top), wo_S27 (S.value_Top), [])
  | _ => none
noncomputable def c27 : Cfg El := c62.add 27 sem27
theorem c27_ok : CfgOk c27 := c62_ok.add (fun args w => Tryz.call27 args w) (fun vs r outs ps h hp => by
  unfold sem27 at h
  split at h
  · cases h; exact fn27
  · cases h)

noncomputable def body108 : Code := (Tryz.f108.body).getD .skip
theorem fn108 : CallOk c27 108 [] (wr_S27 (S.cond_zero)) (wo_S27 (S.cond_zero)) :=
  (call_ok (c := c27) (f := 108) (fn := Tryz.f108) (code := body108) (args := ([])) (loop := noLoop) (md := ⟨false, false⟩) (rd := rd_S27) (wr := wr_S27) (wo := wo_S27) (r := S.cond_zero) c27_ok (by kernel_rfl) (by kernel_rfl) (by kernel_rfl) (no_loops (by kernel_rfl)) (by kernel_rfl) (by kernel_rfl) (by kernel_rfl)
    rw_S27 np_S27 no_S27 (by kernel_rfl) (Tr.vc_of_noReq (by kernel_rfl)))

noncomputable def sem108 : List W → Option (W × List (List W) × List Prop)
  | [] => some (wr_S27 (S.cond_zero), wo_S27 (S.cond_zero), [])
  | _ => none
noncomputable def c108 : Cfg El := c27.add 108 sem108
theorem c108_ok : CfgOk c108 := c27_ok.add (fun args w => Tryz.call108 args w) (fun vs r outs ps h hp => by
  unfold sem108 at h
  split at h
  · cases h; exact fn108
  · cases h)

noncomputable def body147 : Code := (Tryz.f147.body).getD .skip
theorem fn147 (i : S.Inter) (n : Int) : CallOk c108 147 [.agg [.int .i64 i.Lo, .int .i64 i.Hi], .int .i64 n] (wr_b (S.inter_Inter_Has i n)) (wo_b (S.inter_Inter_Has i n)) :=
  (call_ok (c := c108) (f := 147) (fn := Tryz.f147) (code := body147) (args := ([.agg [.int .i64 i.Lo, .int .i64 i.Hi], .int .i64 n])) (loop := noLoop) (md := ⟨false, false⟩) (rd := rd_b) (wr := wr_b) (wo := wo_b) (r := (S.inter_Inter_Has i n)) c108_ok (by kernel_rfl) (by kernel_rfl) (by kernel_rfl) (no_loops (by kernel_rfl)) (by kernel_rfl) (by kernel_rfl) (by kernel_rfl)
    rw_b np_b no_b (by kernel_rfl) (Tr.vc_of_noReq (by kernel_rfl)))

noncomputable def sem147 : List W → Option (W × List (List W) × List Prop)
  | [.agg [.int .i64 y1, .int .i64 y2], .int .i64 y3] => some (wr_b (S.inter_Inter_Has (⟨y1, y2⟩ : S.Inter) y3), wo_b (S.inter_Inter_Has (⟨y1, y2⟩ : S.Inter) y3), [])
  | _ => none
noncomputable def c147 : Cfg El := c108.add 147 sem147
theorem c147_ok : CfgOk c147 := c108_ok.add (fun args w => Tryz.call147 args w) (fun vs r outs ps h hp => by
  unfold sem147 at h
  split at h
  · rename_i y1 y2 y3; cases h; exact fn147 (⟨y1, y2⟩ : S.Inter) y3
  · cases h)

noncomputable def body101 : Code := (Tryz.f101.body).getD .skip
theorem fn101 (a : S.Inter) (b : S.Inter) : CallOk c147 101 [.agg [.int .i64 a.Lo, .int .i64 a.Hi], .agg [.int .i64 b.Lo, .int .i64 b.Hi]] (wr_b (S.inter_Within a b)) (wo_b (S.inter_Within a b)) :=
  (call_ok (c := c147) (f := 101) (fn := Tryz.f101) (code := body101) (args := ([.agg [.int .i64 a.Lo, .int .i64 a.Hi], .agg [.int .i64 b.Lo, .int .i64 b.Hi]])) (loop := noLoop) (md := ⟨false, false⟩) (rd := rd_b) (wr := wr_b) (wo := wo_b) (r := (S.inter_Within a b)) c147_ok (by kernel_rfl) (by kernel_rfl) (by kernel_rfl) (no_loops (by kernel_rfl)) (by kernel_rfl) (by kernel_rfl) (by kernel_rfl)
    rw_b np_b no_b (by kernel_rfl) (Tr.vc_of_noReq (by kernel_rfl)))

noncomputable def sem101 : List W → Option (W × List (List W) × List Prop)
  | [.agg [.int .i64 y1, .int .i64 y2], .agg [.int .i64 y3, .int .i64 y4]] => some (wr_b (S.inter_Within (⟨y1, y2⟩ : S.Inter) (⟨y3, y4⟩ : S.Inter)), wo_b (S.inter_Within (⟨y1, y2⟩ : S.Inter) (⟨y3, y4⟩ : S.Inter)), [])
  | _ => none
noncomputable def c101 : Cfg El := c147.add 101 sem101
theorem c101_ok : CfgOk c101 := c147_ok.add (fun args w => Tryz.call101 args w) (fun vs r outs ps h hp => by
  unfold sem101 at h
  split at h
  · rename_i y1 y2 y3 y4; cases h; exact fn101 (⟨y1, y2⟩ : S.Inter) (⟨y3, y4⟩ : S.Inter)
  · cases h)

noncomputable def body142 : Code := (Tryz.f142.body).getD .skip
theorem fn142 (c : S.Cong) (g : Int) (hp : S.cong_Cong_by_pre c g) : CallOk c101 142 [.agg [.int .u64 c.M, .int .u64 c.R], .int .u64 g] (wr_u64 (S.cong_Cong_by c g)) (wo_u64 (S.cong_Cong_by c g)) :=
  (call_ok (c := c101) (f := 142) (fn := Tryz.f142) (code := body142) (args := ([.agg [.int .u64 c.M, .int .u64 c.R], .int .u64 g])) (loop := noLoop) (md := ⟨false, false⟩) (rd := rd_u64) (wr := wr_u64) (wo := wo_u64) (r := (S.cong_Cong_by c g)) c101_ok (by kernel_rfl) (by kernel_rfl) (by kernel_rfl) (no_loops (by kernel_rfl)) (by kernel_rfl) (by kernel_rfl) (by kernel_rfl)
    rw_u64 np_u64 no_u64 (by kernel_rfl) (Eq.mpr (show Vm.Tr.vc (Vm.Fn c101 Tryz.f142 body142 noLoop ([.agg [.int .u64 c.M, .int .u64 c.R], .int .u64 g])) = S.cong_Cong_by_pre c g by kernel_rfl) hp))

noncomputable def sem142 : List W → Option (W × List (List W) × List Prop)
  | [.agg [.int .u64 y1, .int .u64 y2], .int .u64 y3] => some (wr_u64 (S.cong_Cong_by (⟨y1, y2⟩ : S.Cong) y3), wo_u64 (S.cong_Cong_by (⟨y1, y2⟩ : S.Cong) y3), [S.cong_Cong_by_pre (⟨y1, y2⟩ : S.Cong) y3])
  | _ => none
noncomputable def c142 : Cfg El := c101.add 142 sem142
theorem c142_ok : CfgOk c142 := c101_ok.add (fun args w => Tryz.call142 args w) (fun vs r outs ps h hp => by
  unfold sem142 at h
  split at h
  · rename_i y1 y2 y3; cases h; exact fn142 (⟨y1, y2⟩ : S.Cong) y3 hp
  · cases h)

noncomputable def body102 : Code := (Tryz.f102.body).getD .skip
theorem fn102 (a : S.Cong) (b : S.Cong) (hp : S.cong_Within_pre a b) : CallOk c142 102 [.agg [.int .u64 a.M, .int .u64 a.R], .agg [.int .u64 b.M, .int .u64 b.R]] (wr_b (S.cong_Within a b)) (wo_b (S.cong_Within a b)) :=
  (call_ok (c := c142) (f := 102) (fn := Tryz.f102) (code := body102) (args := ([.agg [.int .u64 a.M, .int .u64 a.R], .agg [.int .u64 b.M, .int .u64 b.R]])) (loop := noLoop) (md := ⟨false, false⟩) (rd := rd_b) (wr := wr_b) (wo := wo_b) (r := (S.cong_Within a b)) c142_ok (by kernel_rfl) (by kernel_rfl) (by kernel_rfl) (no_loops (by kernel_rfl)) (by kernel_rfl) (by kernel_rfl) (by kernel_rfl)
    rw_b np_b no_b (by kernel_rfl) (Eq.mpr (show Vm.Tr.vc (Vm.Fn c142 Tryz.f102 body102 noLoop ([.agg [.int .u64 a.M, .int .u64 a.R], .agg [.int .u64 b.M, .int .u64 b.R]])) = S.cong_Within_pre a b by kernel_rfl) hp))

noncomputable def sem102 : List W → Option (W × List (List W) × List Prop)
  | [.agg [.int .u64 y1, .int .u64 y2], .agg [.int .u64 y3, .int .u64 y4]] => some (wr_b (S.cong_Within (⟨y1, y2⟩ : S.Cong) (⟨y3, y4⟩ : S.Cong)), wo_b (S.cong_Within (⟨y1, y2⟩ : S.Cong) (⟨y3, y4⟩ : S.Cong)), [S.cong_Within_pre (⟨y1, y2⟩ : S.Cong) (⟨y3, y4⟩ : S.Cong)])
  | _ => none
noncomputable def c102 : Cfg El := c142.add 102 sem102
theorem c102_ok : CfgOk c102 := c142_ok.add (fun args w => Tryz.call102 args w) (fun vs r outs ps h hp => by
  unfold sem102 at h
  split at h
  · rename_i y1 y2 y3 y4; cases h; exact fn102 (⟨y1, y2⟩ : S.Cong) (⟨y3, y4⟩ : S.Cong) hp
  · cases h)

noncomputable def body42 : Code := (Tryz.f42.body).getD .skip
theorem fn42 (a : S.Value) (b : S.Value) (hp : S.value_Within_pre a b) : CallOk c102 42 [.agg [.int .i64 a.I.Lo, .int .i64 a.I.Hi, .int .u64 a.C.M, .int .u64 a.C.R], .agg [.int .i64 b.I.Lo, .int .i64 b.I.Hi, .int .u64 b.C.M, .int .u64 b.C.R]] (wr_b (S.value_Within a b)) (wo_b (S.value_Within a b)) :=
  (call_ok (c := c102) (f := 42) (fn := Tryz.f42) (code := body42) (args := ([.agg [.int .i64 a.I.Lo, .int .i64 a.I.Hi, .int .u64 a.C.M, .int .u64 a.C.R], .agg [.int .i64 b.I.Lo, .int .i64 b.I.Hi, .int .u64 b.C.M, .int .u64 b.C.R]])) (loop := noLoop) (md := ⟨false, false⟩) (rd := rd_b) (wr := wr_b) (wo := wo_b) (r := (S.value_Within a b)) c102_ok (by kernel_rfl) (by kernel_rfl) (by kernel_rfl) (no_loops (by kernel_rfl)) (by kernel_rfl) (by kernel_rfl) (by kernel_rfl)
    rw_b np_b no_b (by kernel_rfl) (Eq.mpr (show Vm.Tr.vc (Vm.Fn c102 Tryz.f42 body42 noLoop ([.agg [.int .i64 a.I.Lo, .int .i64 a.I.Hi, .int .u64 a.C.M, .int .u64 a.C.R], .agg [.int .i64 b.I.Lo, .int .i64 b.I.Hi, .int .u64 b.C.M, .int .u64 b.C.R]])) = S.value_Within_pre a b by kernel_rfl) hp))

noncomputable def sem42 : List W → Option (W × List (List W) × List Prop)
  | [.agg [.int .i64 y1, .int .i64 y2, .int .u64 y3, .int .u64 y4], .agg [.int .i64 y5, .int .i64 y6, .int .u64 y7, .int .u64 y8]] => some (wr_b (S.value_Within (⟨(⟨y1, y2⟩ : S.Inter), (⟨y3, y4⟩ : S.Cong)⟩ : S.Value) (⟨(⟨y5, y6⟩ : S.Inter), (⟨y7, y8⟩ : S.Cong)⟩ : S.Value)), wo_b (S.value_Within (⟨(⟨y1, y2⟩ : S.Inter), (⟨y3, y4⟩ : S.Cong)⟩ : S.Value) (⟨(⟨y5, y6⟩ : S.Inter), (⟨y7, y8⟩ : S.Cong)⟩ : S.Value)), [S.value_Within_pre (⟨(⟨y1, y2⟩ : S.Inter), (⟨y3, y4⟩ : S.Cong)⟩ : S.Value) (⟨(⟨y5, y6⟩ : S.Inter), (⟨y7, y8⟩ : S.Cong)⟩ : S.Value)])
  | _ => none
noncomputable def c42 : Cfg El := c102.add 42 sem42
theorem c42_ok : CfgOk c42 := c102_ok.add (fun args w => Tryz.call42 args w) (fun vs r outs ps h hp => by
  unfold sem42 at h
  split at h
  · rename_i y1 y2 y3 y4 y5 y6 y7 y8; cases h; exact fn42 (⟨(⟨y1, y2⟩ : S.Inter), (⟨y3, y4⟩ : S.Cong)⟩ : S.Value) (⟨(⟨y5, y6⟩ : S.Inter), (⟨y7, y8⟩ : S.Cong)⟩ : S.Value) hp
  · cases h)

noncomputable def body19 : Code := (Tryz.f19.body).getD .skip
theorem fn19 (v : S.Value) (n : Int) (hp : S.value_Value_Has_pre v n) : CallOk c42 19 [.agg [.int .i64 v.I.Lo, .int .i64 v.I.Hi, .int .u64 v.C.M, .int .u64 v.C.R], .int .i64 n] (wr_b (S.value_Value_Has v n)) (wo_b (S.value_Value_Has v n)) :=
  (call_ok (c := c42) (f := 19) (fn := Tryz.f19) (code := body19) (args := ([.agg [.int .i64 v.I.Lo, .int .i64 v.I.Hi, .int .u64 v.C.M, .int .u64 v.C.R], .int .i64 n])) (loop := noLoop) (md := ⟨false, false⟩) (rd := rd_b) (wr := wr_b) (wo := wo_b) (r := (S.value_Value_Has v n)) c42_ok (by kernel_rfl) (by kernel_rfl) (by kernel_rfl) (no_loops (by kernel_rfl)) (by kernel_rfl) (by kernel_rfl) (by kernel_rfl)
    rw_b np_b no_b (by kernel_rfl) (Eq.mpr (show Vm.Tr.vc (Vm.Fn c42 Tryz.f19 body19 noLoop ([.agg [.int .i64 v.I.Lo, .int .i64 v.I.Hi, .int .u64 v.C.M, .int .u64 v.C.R], .int .i64 n])) = S.value_Value_Has_pre v n by kernel_rfl) hp))

noncomputable def sem19 : List W → Option (W × List (List W) × List Prop)
  | [.agg [.int .i64 y1, .int .i64 y2, .int .u64 y3, .int .u64 y4], .int .i64 y5] => some (wr_b (S.value_Value_Has (⟨(⟨y1, y2⟩ : S.Inter), (⟨y3, y4⟩ : S.Cong)⟩ : S.Value) y5), wo_b (S.value_Value_Has (⟨(⟨y1, y2⟩ : S.Inter), (⟨y3, y4⟩ : S.Cong)⟩ : S.Value) y5), [S.value_Value_Has_pre (⟨(⟨y1, y2⟩ : S.Inter), (⟨y3, y4⟩ : S.Cong)⟩ : S.Value) y5])
  | _ => none
noncomputable def c19 : Cfg El := c42.add 19 sem19
theorem c19_ok : CfgOk c19 := c42_ok.add (fun args w => Tryz.call19 args w) (fun vs r outs ps h hp => by
  unfold sem19 at h
  split at h
  · rename_i y1 y2 y3 y4 y5; cases h; exact fn19 (⟨(⟨y1, y2⟩ : S.Inter), (⟨y3, y4⟩ : S.Cong)⟩ : S.Value) y5 hp
  · cases h)

noncomputable def rd_b_b : W → List (List W) → Option (Bool × Bool)
  | .tup [.bool x1, .bool x2], [] => some ⟨x1, x2⟩
  | _, _ => none
noncomputable def wr_b_b (x : Bool × Bool) : W := .tup [.bool x.1, .bool x.2]
noncomputable def wo_b_b (_x : Bool × Bool) : List (List W) := []
theorem rw_b_b (v : W) (os : List (List W)) (x : Bool × Bool) (h : rd_b_b v os = some x) : v = wr_b_b x ∧ os = wo_b_b x := by
  unfold rd_b_b at h
  split at h <;> first | (cases h; exact ⟨rfl, rfl⟩) | cases h
theorem np_b_b (x : Bool × Bool) : okv (fun _ => false) (wr_b_b x) = true := rfl
theorem no_b_b (x : Bool × Bool) : all (fun cs => all (ok0 fun _ => false) cs) (wo_b_b x) = true := rfl

noncomputable def body49 : Code := (Tryz.f49.body).getD .skip
theorem fn49 (v : S.Value) (hp : S.cond_Truth_pre v) : CallOk c19 49 [.agg [.int .i64 v.I.Lo, .int .i64 v.I.Hi, .int .u64 v.C.M, .int .u64 v.C.R]] (wr_b_b (S.cond_Truth v)) (wo_b_b (S.cond_Truth v)) :=
  (call_ok (c := c19) (f := 49) (fn := Tryz.f49) (code := body49) (args := ([.agg [.int .i64 v.I.Lo, .int .i64 v.I.Hi, .int .u64 v.C.M, .int .u64 v.C.R]])) (loop := noLoop) (md := ⟨false, false⟩) (rd := rd_b_b) (wr := wr_b_b) (wo := wo_b_b) (r := (S.cond_Truth v)) c19_ok (by kernel_rfl) (by kernel_rfl) (by kernel_rfl) (no_loops (by kernel_rfl)) (by kernel_rfl) (by kernel_rfl) (by kernel_rfl)
    rw_b_b np_b_b no_b_b (by kernel_rfl) (Eq.mpr (show Vm.Tr.vc (Vm.Fn c19 Tryz.f49 body49 noLoop ([.agg [.int .i64 v.I.Lo, .int .i64 v.I.Hi, .int .u64 v.C.M, .int .u64 v.C.R]])) = S.cond_Truth_pre v by kernel_rfl) hp))

noncomputable def sem49 : List W → Option (W × List (List W) × List Prop)
  | [.agg [.int .i64 y1, .int .i64 y2, .int .u64 y3, .int .u64 y4]] => some (wr_b_b (S.cond_Truth (⟨(⟨y1, y2⟩ : S.Inter), (⟨y3, y4⟩ : S.Cong)⟩ : S.Value)), wo_b_b (S.cond_Truth (⟨(⟨y1, y2⟩ : S.Inter), (⟨y3, y4⟩ : S.Cong)⟩ : S.Value)), [S.cond_Truth_pre (⟨(⟨y1, y2⟩ : S.Inter), (⟨y3, y4⟩ : S.Cong)⟩ : S.Value)])
  | _ => none
noncomputable def c49 : Cfg El := c19.add 49 sem49
theorem c49_ok : CfgOk c49 := c19_ok.add (fun args w => Tryz.call49 args w) (fun vs r outs ps h hp => by
  unfold sem49 at h
  split at h
  · rename_i y1 y2 y3 y4; cases h; exact fn49 (⟨(⟨y1, y2⟩ : S.Inter), (⟨y3, y4⟩ : S.Cong)⟩ : S.Value) hp
  · cases h)

noncomputable def body141 : Code := (Tryz.f141.body).getD .skip
noncomputable def lb141_0 : Code := ((nth (loopsOf 0 body141) 0).getD (0, .skip)).2
noncomputable def px141_0 : List W → Option S.cong_gcd_L0
  | [.int .u64 y1, .int .u64 y2] => some ⟨y1, y2⟩
  | _ => none
noncomputable def tx141_0 (x : S.cong_gcd_L0) : List W := [.int .u64 x.a, .int .u64 x.b]
noncomputable def py141_0 : Ex → List W → Option (S.cong_gcd_L0)
  | .exit 0, [.int .u64 y1, .int .u64 y2] => some ⟨y1, y2⟩
  | _, _ => none
noncomputable def ld141_0 : LD El where
  X := S.cong_gcd_L0
  Y := S.cong_gcd_L0
  keys := [.slot 0, .slot 1]
  fits := [24, 24]
  px := px141_0
  tx := tx141_0
  okeys := [.slot 0, .slot 1]
  ofits := [24, 24]
  py := py141_0
  ty := fun y => tx141_0 y
  oex := fun _ => .exit 0
  junk := [.slot 5, .slot 6, .slot 7, .slot 8, .slot 9, .slot 10]
  rows := []
noncomputable def lo141_0 : S.cong_gcd_L0 → Tr El := fun y => .leaf (.exit 0) (zipK ld141_0.okeys (tx141_0 y) ++ junkK ld141_0.junk)
noncomputable def loop141 : Nat → Env El → Tr El
  | 0 => ld141_0.tree c49 Tryz.f141.ntmps 0 lb141_0 S.cong_gcd_L0_run lo141_0 S.cong_gcd_L0_step S.cong_gcd_L0_vcs
  | _ => fun _ => .fail
theorem lok141_0 : ∀ w0 S0, LoopOk c49 Tryz.f141.ntmps w0 S0 loop141 0 lb141_0 :=
  loop_ok (c := c49) (n := Tryz.f141.ntmps) c49_ok mixed ld141_0 (body := lb141_0) (key := 0) (loop := loop141) (F := S.cong_gcd_L0_run) (out := lo141_0) (step := S.cong_gcd_L0_step) (vcs := S.cong_gcd_L0_vcs)
    (fun _ => by kernel_rfl) (no_loops (by kernel_rfl)) rfl rfl
    (fun vs x h => by unfold ld141_0 px141_0 at h; dsimp only at h; split at h <;> first | (cases h; rfl) | cases h)
    (fun e vs y h => by unfold ld141_0 py141_0 at h; dsimp only at h; split at h <;> first | (cases h; exact ⟨rfl, rfl⟩) | cases h)
    (by kernel_rfl) (fun _ => rfl) (fun _ _ h => h) (fun x => by kernel_rfl) (fun x h => Eq.mpr (show Vm.Tr.vc (Vm.ev c49 Tryz.f141.ntmps loop141 0 lb141_0 (ld141_0.vars x) []) = S.cong_gcd_L0_vcs x by kernel_rfl) h)
theorem fn141 (a : Int) (b : Int) (hp : S.cong_gcd_pre a b) : CallOk c49 141 [.int .u64 a, .int .u64 b] (wr_u64 (S.cong_gcd a b)) (wo_u64 (S.cong_gcd a b)) :=
  (call_ok (c := c49) (f := 141) (fn := Tryz.f141) (code := body141) (args := ([.int .u64 a, .int .u64 b])) (loop := loop141) (md := ⟨false, false⟩) (rd := rd_u64) (wr := wr_u64) (wo := wo_u64) (r := (S.cong_gcd a b)) c49_ok (by kernel_rfl) (by kernel_rfl) (by kernel_rfl) (loops_all (l := [(0, lb141_0)]) (by kernel_rfl) ⟨lok141_0, trivial⟩) (by kernel_rfl) (by kernel_rfl) (by kernel_rfl)
    rw_u64 np_u64 no_u64 (by kernel_rfl) (Eq.mpr (show Vm.Tr.vc (Vm.Fn c49 Tryz.f141 body141 loop141 ([.int .u64 a, .int .u64 b])) = S.cong_gcd_pre a b by kernel_rfl) hp))

noncomputable def sem141 : List W → Option (W × List (List W) × List Prop)
  | [.int .u64 y1, .int .u64 y2] => some (wr_u64 (S.cong_gcd y1 y2), wo_u64 (S.cong_gcd y1 y2), [S.cong_gcd_pre y1 y2])
  | _ => none
noncomputable def c141 : Cfg El := c49.add 141 sem141
theorem c141_ok : CfgOk c141 := c49_ok.add (fun args w => Tryz.call141 args w) (fun vs r outs ps h hp => by
  unfold sem141 at h
  split at h
  · rename_i y1 y2; cases h; exact fn141 y1 y2 hp
  · cases h)

noncomputable def body45 : Code := (Tryz.f45.body).getD .skip
theorem fn45 (m : Int) (n : Int) (hp : S.cong_Make_pre m n) : CallOk c141 45 [.int .u64 m, .int .i64 n] (wr_S25 (S.cong_Make m n)) (wo_S25 (S.cong_Make m n)) :=
  (call_ok (c := c141) (f := 45) (fn := Tryz.f45) (code := body45) (args := ([.int .u64 m, .int .i64 n])) (loop := noLoop) (md := ⟨false, false⟩) (rd := rd_S25) (wr := wr_S25) (wo := wo_S25) (r := (S.cong_Make m n)) c141_ok (by kernel_rfl) (by kernel_rfl) (by kernel_rfl) (no_loops (by kernel_rfl)) (by kernel_rfl) (by kernel_rfl) (by kernel_rfl)
    rw_S25 np_S25 no_S25 (by kernel_rfl) (Eq.mpr (show Vm.Tr.vc (Vm.Fn c141 Tryz.f45 body45 noLoop ([.int .u64 m, .int .i64 n])) = S.cong_Make_pre m n by kernel_rfl) hp))

noncomputable def sem45 : List W → Option (W × List (List W) × List Prop)
  | [.int .u64 y1, .int .i64 y2] => some (wr_S25 (S.cong_Make y1 y2), wo_S25 (S.cong_Make y1 y2), [S.cong_Make_pre y1 y2])
  | _ => none
noncomputable def c45 : Cfg El := c141.add 45 sem45
theorem c45_ok : CfgOk c45 := c141_ok.add (fun args w => Tryz.call45 args w) (fun vs r outs ps h hp => by
  unfold sem45 at h
  split at h
  · rename_i y1 y2; cases h; exact fn45 y1 y2 hp
  · cases h)

noncomputable def body145 : Code := (Tryz.f145.body).getD .skip
theorem fn145 (c : S.Cong) (n : Int) (hp : S.cong_Cong_Has_pre c n) : CallOk c45 145 [.agg [.int .u64 c.M, .int .u64 c.R], .int .i64 n] (wr_b (S.cong_Cong_Has c n)) (wo_b (S.cong_Cong_Has c n)) :=
  (call_ok (c := c45) (f := 145) (fn := Tryz.f145) (code := body145) (args := ([.agg [.int .u64 c.M, .int .u64 c.R], .int .i64 n])) (loop := noLoop) (md := ⟨false, false⟩) (rd := rd_b) (wr := wr_b) (wo := wo_b) (r := (S.cong_Cong_Has c n)) c45_ok (by kernel_rfl) (by kernel_rfl) (by kernel_rfl) (no_loops (by kernel_rfl)) (by kernel_rfl) (by kernel_rfl) (by kernel_rfl)
    rw_b np_b no_b (by kernel_rfl) (Eq.mpr (show Vm.Tr.vc (Vm.Fn c45 Tryz.f145 body145 noLoop ([.agg [.int .u64 c.M, .int .u64 c.R], .int .i64 n])) = S.cong_Cong_Has_pre c n by kernel_rfl) hp))

noncomputable def sem145 : List W → Option (W × List (List W) × List Prop)
  | [.agg [.int .u64 y1, .int .u64 y2], .int .i64 y3] => some (wr_b (S.cong_Cong_Has (⟨y1, y2⟩ : S.Cong) y3), wo_b (S.cong_Cong_Has (⟨y1, y2⟩ : S.Cong) y3), [S.cong_Cong_Has_pre (⟨y1, y2⟩ : S.Cong) y3])
  | _ => none
noncomputable def c145 : Cfg El := c45.add 145 sem145
theorem c145_ok : CfgOk c145 := c45_ok.add (fun args w => Tryz.call145 args w) (fun vs r outs ps h hp => by
  unfold sem145 at h
  split at h
  · rename_i y1 y2 y3; cases h; exact fn145 (⟨y1, y2⟩ : S.Cong) y3 hp
  · cases h)

noncomputable def rd_S25_b : W → List (List W) → Option (S.Cong × Bool)
  | .tup [.agg [.int .u64 x1, .int .u64 x2], .bool x3], [] => some ⟨⟨x1, x2⟩, x3⟩
  | _, _ => none
noncomputable def wr_S25_b (x : S.Cong × Bool) : W := .tup [.agg [.int .u64 x.1.M, .int .u64 x.1.R], .bool x.2]
noncomputable def wo_S25_b (_x : S.Cong × Bool) : List (List W) := []
theorem rw_S25_b (v : W) (os : List (List W)) (x : S.Cong × Bool) (h : rd_S25_b v os = some x) : v = wr_S25_b x ∧ os = wo_S25_b x := by
  unfold rd_S25_b at h
  split at h <;> first | (cases h; exact ⟨rfl, rfl⟩) | cases h
theorem np_S25_b (x : S.Cong × Bool) : okv (fun _ => false) (wr_S25_b x) = true := rfl
theorem no_S25_b (x : S.Cong × Bool) : all (fun cs => all (ok0 fun _ => false) cs) (wo_S25_b x) = true := rfl

noncomputable def body144 : Code := (Tryz.f144.body).getD .skip
theorem fn144 (c : S.Cong) (ok : Bool) : CallOk c145 144 [.agg [.int .u64 c.M, .int .u64 c.R], .bool ok] (wr_S25_b (S.cong_Cong_if1 c ok)) (wo_S25_b (S.cong_Cong_if1 c ok)) :=
  (call_ok (c := c145) (f := 144) (fn := Tryz.f144) (code := body144) (args := ([.agg [.int .u64 c.M, .int .u64 c.R], .bool ok])) (loop := noLoop) (md := ⟨false, false⟩) (rd := rd_S25_b) (wr := wr_S25_b) (wo := wo_S25_b) (r := (S.cong_Cong_if1 c ok)) c145_ok (by kernel_rfl) (by kernel_rfl) (by kernel_rfl) (no_loops (by kernel_rfl)) (by kernel_rfl) (by kernel_rfl) (by kernel_rfl)
    rw_S25_b np_S25_b no_S25_b (by kernel_rfl) (Tr.vc_of_noReq (by kernel_rfl)))

noncomputable def sem144 : List W → Option (W × List (List W) × List Prop)
  | [.agg [.int .u64 y1, .int .u64 y2], .bool y3] => some (wr_S25_b (S.cong_Cong_if1 (⟨y1, y2⟩ : S.Cong) y3), wo_S25_b (S.cong_Cong_if1 (⟨y1, y2⟩ : S.Cong) y3), [])
  | _ => none
noncomputable def c144 : Cfg El := c145.add 144 sem144
theorem c144_ok : CfgOk c144 := c145_ok.add (fun args w => Tryz.call144 args w) (fun vs r outs ps h hp => by
  unfold sem144 at h
  split at h
  · rename_i y1 y2 y3; cases h; exact fn144 (⟨y1, y2⟩ : S.Cong) y3
  · cases h)

noncomputable def body95 : Code := (Tryz.f95.body).getD .skip
theorem fn95 (a : S.Cong) (b : S.Cong) (hp : S.cong_Meet_pre a b) : CallOk c144 95 [.agg [.int .u64 a.M, .int .u64 a.R], .agg [.int .u64 b.M, .int .u64 b.R]] (wr_S25_b (S.cong_Meet a b)) (wo_S25_b (S.cong_Meet a b)) :=
  (call_ok (c := c144) (f := 95) (fn := Tryz.f95) (code := body95) (args := ([.agg [.int .u64 a.M, .int .u64 a.R], .agg [.int .u64 b.M, .int .u64 b.R]])) (loop := noLoop) (md := ⟨false, false⟩) (rd := rd_S25_b) (wr := wr_S25_b) (wo := wo_S25_b) (r := (S.cong_Meet a b)) c144_ok (by kernel_rfl) (by kernel_rfl) (by kernel_rfl) (no_loops (by kernel_rfl)) (by kernel_rfl) (by kernel_rfl) (by kernel_rfl)
    rw_S25_b np_S25_b no_S25_b (by kernel_rfl) (Eq.mpr (show Vm.Tr.vc (Vm.Fn c144 Tryz.f95 body95 noLoop ([.agg [.int .u64 a.M, .int .u64 a.R], .agg [.int .u64 b.M, .int .u64 b.R]])) = S.cong_Meet_pre a b by kernel_rfl) hp))

noncomputable def sem95 : List W → Option (W × List (List W) × List Prop)
  | [.agg [.int .u64 y1, .int .u64 y2], .agg [.int .u64 y3, .int .u64 y4]] => some (wr_S25_b (S.cong_Meet (⟨y1, y2⟩ : S.Cong) (⟨y3, y4⟩ : S.Cong)), wo_S25_b (S.cong_Meet (⟨y1, y2⟩ : S.Cong) (⟨y3, y4⟩ : S.Cong)), [S.cong_Meet_pre (⟨y1, y2⟩ : S.Cong) (⟨y3, y4⟩ : S.Cong)])
  | _ => none
noncomputable def c95 : Cfg El := c144.add 95 sem95
theorem c95_ok : CfgOk c95 := c144_ok.add (fun args w => Tryz.call95 args w) (fun vs r outs ps h hp => by
  unfold sem95 at h
  split at h
  · rename_i y1 y2 y3 y4; cases h; exact fn95 (⟨y1, y2⟩ : S.Cong) (⟨y3, y4⟩ : S.Cong) hp
  · cases h)

noncomputable def body146 : Code := (Tryz.f146.body).getD .skip
theorem fn146 (a : S.Inter) (b : S.Inter) : CallOk c95 146 [.agg [.int .i64 a.Lo, .int .i64 a.Hi], .agg [.int .i64 b.Lo, .int .i64 b.Hi]] (wr_S22 (S.inter_Meet_1 a b)) (wo_S22 (S.inter_Meet_1 a b)) :=
  (call_ok (c := c95) (f := 146) (fn := Tryz.f146) (code := body146) (args := ([.agg [.int .i64 a.Lo, .int .i64 a.Hi], .agg [.int .i64 b.Lo, .int .i64 b.Hi]])) (loop := noLoop) (md := ⟨false, false⟩) (rd := rd_S22) (wr := wr_S22) (wo := wo_S22) (r := (S.inter_Meet_1 a b)) c95_ok (by kernel_rfl) (by kernel_rfl) (by kernel_rfl) (no_loops (by kernel_rfl)) (by kernel_rfl) (by kernel_rfl) (by kernel_rfl)
    rw_S22 np_S22 no_S22 (by kernel_rfl) (Tr.vc_of_noReq (by kernel_rfl)))

noncomputable def sem146 : List W → Option (W × List (List W) × List Prop)
  | [.agg [.int .i64 y1, .int .i64 y2], .agg [.int .i64 y3, .int .i64 y4]] => some (wr_S22 (S.inter_Meet_1 (⟨y1, y2⟩ : S.Inter) (⟨y3, y4⟩ : S.Inter)), wo_S22 (S.inter_Meet_1 (⟨y1, y2⟩ : S.Inter) (⟨y3, y4⟩ : S.Inter)), [])
  | _ => none
noncomputable def c146 : Cfg El := c95.add 146 sem146
theorem c146_ok : CfgOk c146 := c95_ok.add (fun args w => Tryz.call146 args w) (fun vs r outs ps h hp => by
  unfold sem146 at h
  split at h
  · rename_i y1 y2 y3 y4; cases h; exact fn146 (⟨y1, y2⟩ : S.Inter) (⟨y3, y4⟩ : S.Inter)
  · cases h)

noncomputable def body139 : Code := (Tryz.f139.body).getD .skip
noncomputable def lb139_inter_Meet_1_0 : Code := ((nth (loopsOf 0 body139) 0).getD (0, .skip)).2
noncomputable def px139_inter_Meet_1_0 : List W → Option S.inter_fold_inter_Meet_1_L0
  | [.fn 146, .ptr 3 0, .list 23 false y1, .int .i64 y2, .int .i64 y3, .int .i64 y4, .int .i64 y5] => some ⟨y1, y2, y3, ⟨y4, y5⟩⟩
  | _ => none
noncomputable def tx139_inter_Meet_1_0 (x : S.inter_fold_inter_Meet_1_L0) : List W := [.fn 146, .ptr 3 0, .list 23 false x.t9, .int .i64 x.t10, .int .i64 x.t11, .int .i64 x.first.Lo, .int .i64 x.first.Hi]
noncomputable def py139_inter_Meet_1_0 : Ex → List W → Option (S.inter_fold_inter_Meet_1_L0)
  | .exit 0, [.fn 146, .ptr 3 0, .list 23 false y1, .int .i64 y2, .int .i64 y3, .int .i64 y4, .int .i64 y5] => some ⟨y1, y2, y3, ⟨y4, y5⟩⟩
  | _, _ => none
noncomputable def ld139_inter_Meet_1_0 : LD El where
  X := S.inter_fold_inter_Meet_1_L0
  Y := S.inter_fold_inter_Meet_1_L0
  keys := [.slot 2, .slot 3, .slot 9, .slot 10, .slot 11, .cell 3 0, .cell 3 1]
  fits := [117, 0, 146, 3, 3, 2, 2]
  px := px139_inter_Meet_1_0
  tx := tx139_inter_Meet_1_0
  okeys := [.slot 2, .slot 3, .slot 9, .slot 10, .slot 11, .cell 3 0, .cell 3 1]
  ofits := [117, 0, 146, 3, 3, 2, 2]
  py := py139_inter_Meet_1_0
  ty := fun y => tx139_inter_Meet_1_0 y
  oex := fun _ => .exit 0
  junk := [.slot 8, .slot 12, .slot 13, .slot 14, .slot 15, .slot 16, .slot 17, .slot 18, .slot 19]
  rows := []
noncomputable def lo139_inter_Meet_1_0 : S.inter_fold_inter_Meet_1_L0 → Tr El := fun y => .leaf (.exit 0) (zipK ld139_inter_Meet_1_0.okeys (tx139_inter_Meet_1_0 y) ++ junkK ld139_inter_Meet_1_0.junk)
noncomputable def loop139_inter_Meet_1 : Nat → Env El → Tr El
  | 0 => ld139_inter_Meet_1_0.tree c146 Tryz.f139.ntmps 0 lb139_inter_Meet_1_0 S.inter_fold_inter_Meet_1_L0_run lo139_inter_Meet_1_0 S.inter_fold_inter_Meet_1_L0_step S.inter_fold_inter_Meet_1_L0_vcs
  | _ => fun _ => .fail
theorem lok139_inter_Meet_1_0 : ∀ w0 S0, LoopOk c146 Tryz.f139.ntmps w0 S0 loop139_inter_Meet_1 0 lb139_inter_Meet_1_0 :=
  loop_ok (c := c146) (n := Tryz.f139.ntmps) c146_ok mixed ld139_inter_Meet_1_0 (body := lb139_inter_Meet_1_0) (key := 0) (loop := loop139_inter_Meet_1) (F := S.inter_fold_inter_Meet_1_L0_run) (out := lo139_inter_Meet_1_0) (step := S.inter_fold_inter_Meet_1_L0_step) (vcs := S.inter_fold_inter_Meet_1_L0_vcs)
    (fun _ => by kernel_rfl) (no_loops (by kernel_rfl)) rfl rfl
    (fun vs x h => by unfold ld139_inter_Meet_1_0 px139_inter_Meet_1_0 at h; dsimp only at h; split at h <;> first | (cases h; rfl) | cases h)
    (fun e vs y h => by unfold ld139_inter_Meet_1_0 py139_inter_Meet_1_0 at h; dsimp only at h; split at h <;> first | (cases h; exact ⟨rfl, rfl⟩) | cases h)
    (by kernel_rfl) (fun _ => rfl) (fun _ _ h => h) (fun x => by kernel_rfl) (fun x h => Eq.mpr (show Vm.Tr.vc (Vm.ev c146 Tryz.f139.ntmps loop139_inter_Meet_1 0 lb139_inter_Meet_1_0 (ld139_inter_Meet_1_0.vars x) []) = S.inter_fold_inter_Meet_1_L0_vcs x by kernel_rfl) h)
theorem fn139_inter_Meet_1 (first : S.Inter) (l : (List S.Inter)) (hp : S.inter_fold_inter_Meet_1_pre first l) : CallOk c146 139 [.agg [.int .i64 first.Lo, .int .i64 first.Hi], .list 23 false l, .fn 146] (wr_S22 (S.inter_fold_inter_Meet_1 first l)) (wo_S22 (S.inter_fold_inter_Meet_1 first l)) :=
  (call_ok (c := c146) (f := 139) (fn := Tryz.f139) (code := body139) (args := ([.agg [.int .i64 first.Lo, .int .i64 first.Hi], .list 23 false l, .fn 146])) (loop := loop139_inter_Meet_1) (md := ⟨false, false⟩) (rd := rd_S22) (wr := wr_S22) (wo := wo_S22) (r := (S.inter_fold_inter_Meet_1 first l)) c146_ok (by kernel_rfl) (by kernel_rfl) (by kernel_rfl) (loops_all (l := [(0, lb139_inter_Meet_1_0)]) (by kernel_rfl) ⟨lok139_inter_Meet_1_0, trivial⟩) (by kernel_rfl) (by kernel_rfl) (by kernel_rfl)
    rw_S22 np_S22 no_S22 (by kernel_rfl) (Eq.mpr (show Vm.Tr.vc (Vm.Fn c146 Tryz.f139 body139 loop139_inter_Meet_1 ([.agg [.int .i64 first.Lo, .int .i64 first.Hi], .list 23 false l, .fn 146])) = S.inter_fold_inter_Meet_1_pre first l by kernel_rfl) hp))

noncomputable def sem139 : List W → Option (W × List (List W) × List Prop)
  | [.agg [.int .i64 y1, .int .i64 y2], .list 23 false y3, .fn 146] => some (wr_S22 (S.inter_fold_inter_Meet_1 (⟨y1, y2⟩ : S.Inter) y3), wo_S22 (S.inter_fold_inter_Meet_1 (⟨y1, y2⟩ : S.Inter) y3), [S.inter_fold_inter_Meet_1_pre (⟨y1, y2⟩ : S.Inter) y3])
  | _ => none
noncomputable def c139 : Cfg El := c146.add 139 sem139
theorem c139_ok : CfgOk c139 := c146_ok.add (fun args w => Tryz.call139 args w) (fun vs r outs ps h hp => by
  unfold sem139 at h
  split at h
  · rename_i y1 y2 y3; cases h; exact fn139_inter_Meet_1 (⟨y1, y2⟩ : S.Inter) y3 hp
  · cases h)

noncomputable def body96 : Code := (Tryz.f96.body).getD .skip
theorem fn96 (l : (List S.Inter)) (hp : S.inter_Meet_pre l) : CallOk c139 96 [.list 23 false l] (wr_S22 (S.inter_Meet l)) (wo_S22 (S.inter_Meet l)) :=
  (call_ok (c := c139) (f := 96) (fn := Tryz.f96) (code := body96) (args := ([.list 23 false l])) (loop := noLoop) (md := ⟨false, false⟩) (rd := rd_S22) (wr := wr_S22) (wo := wo_S22) (r := (S.inter_Meet l)) c139_ok (by kernel_rfl) (by kernel_rfl) (by kernel_rfl) (no_loops (by kernel_rfl)) (by kernel_rfl) (by kernel_rfl) (by kernel_rfl)
    rw_S22 np_S22 no_S22 (by kernel_rfl) (Eq.mpr (show Vm.Tr.vc (Vm.Fn c139 Tryz.f96 body96 noLoop ([.list 23 false l])) = S.inter_Meet_pre l by kernel_rfl) hp))

noncomputable def sem96 : List W → Option (W × List (List W) × List Prop)
  | [.list 23 false y1] => some (wr_S22 (S.inter_Meet y1), wo_S22 (S.inter_Meet y1), [S.inter_Meet_pre y1])
  | _ => none
noncomputable def c96 : Cfg El := c139.add 96 sem96
theorem c96_ok : CfgOk c96 := c139_ok.add (fun args w => Tryz.call96 args w) (fun vs r outs ps h hp => by
  unfold sem96 at h
  split at h
  · rename_i y1; cases h; exact fn96 y1 hp
  · cases h)

noncomputable def rd_S27_S27 : W → List (List W) → Option (S.Value × S.Value)
  | .tup [.agg [.int .i64 x1, .int .i64 x2, .int .u64 x3, .int .u64 x4], .agg [.int .i64 x5, .int .i64 x6, .int .u64 x7, .int .u64 x8]], [] => some ⟨⟨⟨x1, x2⟩, ⟨x3, x4⟩⟩, ⟨⟨x5, x6⟩, ⟨x7, x8⟩⟩⟩
  | _, _ => none
noncomputable def wr_S27_S27 (x : S.Value × S.Value) : W := .tup [.agg [.int .i64 x.1.I.Lo, .int .i64 x.1.I.Hi, .int .u64 x.1.C.M, .int .u64 x.1.C.R], .agg [.int .i64 x.2.I.Lo, .int .i64 x.2.I.Hi, .int .u64 x.2.C.M, .int .u64 x.2.C.R]]
noncomputable def wo_S27_S27 (_x : S.Value × S.Value) : List (List W) := []
theorem rw_S27_S27 (v : W) (os : List (List W)) (x : S.Value × S.Value) (h : rd_S27_S27 v os = some x) : v = wr_S27_S27 x ∧ os = wo_S27_S27 x := by
  unfold rd_S27_S27 at h
  split at h <;> first | (cases h; exact ⟨rfl, rfl⟩) | cases h
theorem np_S27_S27 (x : S.Value × S.Value) : okv (fun _ => false) (wr_S27_S27 x) = true := rfl
theorem no_S27_S27 (x : S.Value × S.Value) : all (fun cs => all (ok0 fun _ => false) cs) (wo_S27_S27 x) = true := rfl

noncomputable def body152 : Code := (Tryz.f152.body).getD .skip
theorem fn152 (a : S.Value) (b : S.Value) (hp : S.cond_alike_pre a b) : CallOk c96 152 [.agg [.int .i64 a.I.Lo, .int .i64 a.I.Hi, .int .u64 a.C.M, .int .u64 a.C.R], .agg [.int .i64 b.I.Lo, .int .i64 b.I.Hi, .int .u64 b.C.M, .int .u64 b.C.R]] (wr_S27_S27 (S.cond_alike a b)) (wo_S27_S27 (S.cond_alike a b)) :=
  (call_ok (c := c96) (f := 152) (fn := Tryz.f152) (code := body152) (args := ([.agg [.int .i64 a.I.Lo, .int .i64 a.I.Hi, .int .u64 a.C.M, .int .u64 a.C.R], .agg [.int .i64 b.I.Lo, .int .i64 b.I.Hi, .int .u64 b.C.M, .int .u64 b.C.R]])) (loop := noLoop) (md := ⟨false, false⟩) (rd := rd_S27_S27) (wr := wr_S27_S27) (wo := wo_S27_S27) (r := (S.cond_alike a b)) c96_ok (by kernel_rfl) (by kernel_rfl) (by kernel_rfl) (no_loops (by kernel_rfl)) (by kernel_rfl) (by kernel_rfl) (by kernel_rfl)
    rw_S27_S27 np_S27_S27 no_S27_S27 (by kernel_rfl) (Eq.mpr (show Vm.Tr.vc (Vm.Fn c96 Tryz.f152 body152 noLoop ([.agg [.int .i64 a.I.Lo, .int .i64 a.I.Hi, .int .u64 a.C.M, .int .u64 a.C.R], .agg [.int .i64 b.I.Lo, .int .i64 b.I.Hi, .int .u64 b.C.M, .int .u64 b.C.R]])) = S.cond_alike_pre a b by kernel_rfl) hp))

noncomputable def sem152 : List W → Option (W × List (List W) × List Prop)
  | [.agg [.int .i64 y1, .int .i64 y2, .int .u64 y3, .int .u64 y4], .agg [.int .i64 y5, .int .i64 y6, .int .u64 y7, .int .u64 y8]] => some (wr_S27_S27 (S.cond_alike (⟨(⟨y1, y2⟩ : S.Inter), (⟨y3, y4⟩ : S.Cong)⟩ : S.Value) (⟨(⟨y5, y6⟩ : S.Inter), (⟨y7, y8⟩ : S.Cong)⟩ : S.Value)), wo_S27_S27 (S.cond_alike (⟨(⟨y1, y2⟩ : S.Inter), (⟨y3, y4⟩ : S.Cong)⟩ : S.Value) (⟨(⟨y5, y6⟩ : S.Inter), (⟨y7, y8⟩ : S.Cong)⟩ : S.Value)), [S.cond_alike_pre (⟨(⟨y1, y2⟩ : S.Inter), (⟨y3, y4⟩ : S.Cong)⟩ : S.Value) (⟨(⟨y5, y6⟩ : S.Inter), (⟨y7, y8⟩ : S.Cong)⟩ : S.Value)])
  | _ => none
noncomputable def c152 : Cfg El := c96.add 152 sem152
theorem c152_ok : CfgOk c152 := c96_ok.add (fun args w => Tryz.call152 args w) (fun vs r outs ps h hp => by
  unfold sem152 at h
  split at h
  · rename_i y1 y2 y3 y4 y5 y6 y7 y8; cases h; exact fn152 (⟨(⟨y1, y2⟩ : S.Inter), (⟨y3, y4⟩ : S.Cong)⟩ : S.Value) (⟨(⟨y5, y6⟩ : S.Inter), (⟨y7, y8⟩ : S.Cong)⟩ : S.Value) hp
  · cases h)

noncomputable def body71 : Code := (Tryz.f71.body).getD .skip
theorem fn71 (i : S.Inter) : CallOk c152 71 [.agg [.int .i64 i.Lo, .int .i64 i.Hi]] (wr_i64_b (S.inter_Inter_Single i)) (wo_i64_b (S.inter_Inter_Single i)) :=
  (call_ok (c := c152) (f := 71) (fn := Tryz.f71) (code := body71) (args := ([.agg [.int .i64 i.Lo, .int .i64 i.Hi]])) (loop := noLoop) (md := ⟨false, false⟩) (rd := rd_i64_b) (wr := wr_i64_b) (wo := wo_i64_b) (r := (S.inter_Inter_Single i)) c152_ok (by kernel_rfl) (by kernel_rfl) (by kernel_rfl) (no_loops (by kernel_rfl)) (by kernel_rfl) (by kernel_rfl) (by kernel_rfl)
    rw_i64_b np_i64_b no_i64_b (by kernel_rfl) (Tr.vc_of_noReq (by kernel_rfl)))

noncomputable def sem71 : List W → Option (W × List (List W) × List Prop)
  | [.agg [.int .i64 y1, .int .i64 y2]] => some (wr_i64_b (S.inter_Inter_Single (⟨y1, y2⟩ : S.Inter)), wo_i64_b (S.inter_Inter_Single (⟨y1, y2⟩ : S.Inter)), [])
  | _ => none
noncomputable def c71 : Cfg El := c152.add 71 sem71
theorem c71_ok : CfgOk c71 := c152_ok.add (fun args w => Tryz.call71 args w) (fun vs r outs ps h hp => by
  unfold sem71 at h
  split at h
  · rename_i y1 y2; cases h; exact fn71 (⟨y1, y2⟩ : S.Inter)
  · cases h)

noncomputable def body15 : Code := (Tryz.f15.body).getD .skip
theorem fn15 (v : S.Value) (hp : S.value_Value_Single_pre v) : CallOk c71 15 [.agg [.int .i64 v.I.Lo, .int .i64 v.I.Hi, .int .u64 v.C.M, .int .u64 v.C.R]] (wr_i64_b (S.value_Value_Single v)) (wo_i64_b (S.value_Value_Single v)) :=
  (call_ok (c := c71) (f := 15) (fn := Tryz.f15) (code := body15) (args := ([.agg [.int .i64 v.I.Lo, .int .i64 v.I.Hi, .int .u64 v.C.M, .int .u64 v.C.R]])) (loop := noLoop) (md := ⟨false, false⟩) (rd := rd_i64_b) (wr := wr_i64_b) (wo := wo_i64_b) (r := (S.value_Value_Single v)) c71_ok (by kernel_rfl) (by kernel_rfl) (by kernel_rfl) (no_loops (by kernel_rfl)) (by kernel_rfl) (by kernel_rfl) (by kernel_rfl)
    rw_i64_b np_i64_b no_i64_b (by kernel_rfl) (Eq.mpr (show Vm.Tr.vc (Vm.Fn c71 Tryz.f15 body15 noLoop ([.agg [.int .i64 v.I.Lo, .int .i64 v.I.Hi, .int .u64 v.C.M, .int .u64 v.C.R]])) = S.value_Value_Single_pre v by kernel_rfl) hp))

noncomputable def sem15 : List W → Option (W × List (List W) × List Prop)
  | [.agg [.int .i64 y1, .int .i64 y2, .int .u64 y3, .int .u64 y4]] => some (wr_i64_b (S.value_Value_Single (⟨(⟨y1, y2⟩ : S.Inter), (⟨y3, y4⟩ : S.Cong)⟩ : S.Value)), wo_i64_b (S.value_Value_Single (⟨(⟨y1, y2⟩ : S.Inter), (⟨y3, y4⟩ : S.Cong)⟩ : S.Value)), [S.value_Value_Single_pre (⟨(⟨y1, y2⟩ : S.Inter), (⟨y3, y4⟩ : S.Cong)⟩ : S.Value)])
  | _ => none
noncomputable def c15 : Cfg El := c71.add 15 sem15
theorem c15_ok : CfgOk c15 := c71_ok.add (fun args w => Tryz.call15 args w) (fun vs r outs ps h hp => by
  unfold sem15 at h
  split at h
  · rename_i y1 y2 y3 y4; cases h; exact fn15 (⟨(⟨y1, y2⟩ : S.Inter), (⟨y3, y4⟩ : S.Cong)⟩ : S.Value) hp
  · cases h)

noncomputable def body153 : Code := (Tryz.f153.body).getD .skip
theorem fn153 (a : S.Value) (b : S.Value) (hp : S.cond_single_pre a b) : CallOk c15 153 [.agg [.int .i64 a.I.Lo, .int .i64 a.I.Hi, .int .u64 a.C.M, .int .u64 a.C.R], .agg [.int .i64 b.I.Lo, .int .i64 b.I.Hi, .int .u64 b.C.M, .int .u64 b.C.R]] (wr_b (S.cond_single a b)) (wo_b (S.cond_single a b)) :=
  (call_ok (c := c15) (f := 153) (fn := Tryz.f153) (code := body153) (args := ([.agg [.int .i64 a.I.Lo, .int .i64 a.I.Hi, .int .u64 a.C.M, .int .u64 a.C.R], .agg [.int .i64 b.I.Lo, .int .i64 b.I.Hi, .int .u64 b.C.M, .int .u64 b.C.R]])) (loop := noLoop) (md := ⟨false, false⟩) (rd := rd_b) (wr := wr_b) (wo := wo_b) (r := (S.cond_single a b)) c15_ok (by kernel_rfl) (by kernel_rfl) (by kernel_rfl) (no_loops (by kernel_rfl)) (by kernel_rfl) (by kernel_rfl) (by kernel_rfl)
    rw_b np_b no_b (by kernel_rfl) (Eq.mpr (show Vm.Tr.vc (Vm.Fn c15 Tryz.f153 body153 noLoop ([.agg [.int .i64 a.I.Lo, .int .i64 a.I.Hi, .int .u64 a.C.M, .int .u64 a.C.R], .agg [.int .i64 b.I.Lo, .int .i64 b.I.Hi, .int .u64 b.C.M, .int .u64 b.C.R]])) = S.cond_single_pre a b by kernel_rfl) hp))

noncomputable def sem153 : List W → Option (W × List (List W) × List Prop)
  | [.agg [.int .i64 y1, .int .i64 y2, .int .u64 y3, .int .u64 y4], .agg [.int .i64 y5, .int .i64 y6, .int .u64 y7, .int .u64 y8]] => some (wr_b (S.cond_single (⟨(⟨y1, y2⟩ : S.Inter), (⟨y3, y4⟩ : S.Cong)⟩ : S.Value) (⟨(⟨y5, y6⟩ : S.Inter), (⟨y7, y8⟩ : S.Cong)⟩ : S.Value)), wo_b (S.cond_single (⟨(⟨y1, y2⟩ : S.Inter), (⟨y3, y4⟩ : S.Cong)⟩ : S.Value) (⟨(⟨y5, y6⟩ : S.Inter), (⟨y7, y8⟩ : S.Cong)⟩ : S.Value)), [S.cond_single_pre (⟨(⟨y1, y2⟩ : S.Inter), (⟨y3, y4⟩ : S.Cong)⟩ : S.Value) (⟨(⟨y5, y6⟩ : S.Inter), (⟨y7, y8⟩ : S.Cong)⟩ : S.Value)])
  | _ => none
noncomputable def c153 : Cfg El := c15.add 153 sem153
theorem c153_ok : CfgOk c153 := c15_ok.add (fun args w => Tryz.call153 args w) (fun vs r outs ps h hp => by
  unfold sem153 at h
  split at h
  · rename_i y1 y2 y3 y4 y5 y6 y7 y8; cases h; exact fn153 (⟨(⟨y1, y2⟩ : S.Inter), (⟨y3, y4⟩ : S.Cong)⟩ : S.Value) (⟨(⟨y5, y6⟩ : S.Inter), (⟨y7, y8⟩ : S.Cong)⟩ : S.Value) hp
  · cases h)

noncomputable def body110 : Code := (Tryz.f110.body).getD .skip
noncomputable def semr110 (n : Nat) : List W → Option (W × List (List W) × List Prop)
  | [.int .i64 y1, .agg [.int .i64 y2, .int .i64 y3, .int .u64 y4, .int .u64 y5], .agg [.int .i64 y6, .int .i64 y7, .int .u64 y8, .int .u64 y9]] => some (wr_b_b (S.cond_tells_F n y1 (⟨(⟨y2, y3⟩ : S.Inter), (⟨y4, y5⟩ : S.Cong)⟩ : S.Value) (⟨(⟨y6, y7⟩ : S.Inter), (⟨y8, y9⟩ : S.Cong)⟩ : S.Value)), wo_b_b (S.cond_tells_F n y1 (⟨(⟨y2, y3⟩ : S.Inter), (⟨y4, y5⟩ : S.Cong)⟩ : S.Value) (⟨(⟨y6, y7⟩ : S.Inter), (⟨y8, y9⟩ : S.Cong)⟩ : S.Value)), [S.cond_tells_D n y1 (⟨(⟨y2, y3⟩ : S.Inter), (⟨y4, y5⟩ : S.Cong)⟩ : S.Value) (⟨(⟨y6, y7⟩ : S.Inter), (⟨y8, y9⟩ : S.Cong)⟩ : S.Value)])
  | _ => none
theorem fns110 (n : Nat) (hc : CfgOk (c153.add 110 (semr110 n))) (op : Int) (a : S.Value) (b : S.Value) (hp : S.cond_tells_D (n + 1) op a b) : CallOk (c153.add 110 (semr110 n)) 110 [.int .i64 op, .agg [.int .i64 a.I.Lo, .int .i64 a.I.Hi, .int .u64 a.C.M, .int .u64 a.C.R], .agg [.int .i64 b.I.Lo, .int .i64 b.I.Hi, .int .u64 b.C.M, .int .u64 b.C.R]] (wr_b_b (S.cond_tells_F (n + 1) op a b)) (wo_b_b (S.cond_tells_F (n + 1) op a b)) :=
  (call_ok (c := (c153.add 110 (semr110 n))) (f := 110) (fn := Tryz.f110) (code := body110) (args := ([.int .i64 op, .agg [.int .i64 a.I.Lo, .int .i64 a.I.Hi, .int .u64 a.C.M, .int .u64 a.C.R], .agg [.int .i64 b.I.Lo, .int .i64 b.I.Hi, .int .u64 b.C.M, .int .u64 b.C.R]])) (loop := noLoop) (md := ⟨false, false⟩) (rd := rd_b_b) (wr := wr_b_b) (wo := wo_b_b) (r := (S.cond_tells_F (n + 1) op a b)) hc (by kernel_rfl) (by kernel_rfl) (by kernel_rfl) (no_loops (by kernel_rfl)) (by kernel_rfl) (by kernel_rfl) (by kernel_rfl)
    rw_b_b np_b_b no_b_b (by kernel_rfl) (Eq.mpr (show Vm.Tr.vc (Vm.Fn (c153.add 110 (semr110 n)) Tryz.f110 body110 noLoop ([.int .i64 op, .agg [.int .i64 a.I.Lo, .int .i64 a.I.Hi, .int .u64 a.C.M, .int .u64 a.C.R], .agg [.int .i64 b.I.Lo, .int .i64 b.I.Hi, .int .u64 b.C.M, .int .u64 b.C.R]])) = S.cond_tells_D (n + 1) op a b by kernel_rfl) hp))

theorem fnr110 (n : Nat) : ∀ (op : Int) (a : S.Value) (b : S.Value), S.cond_tells_D n op a b → CallOk c153 110 [.int .i64 op, .agg [.int .i64 a.I.Lo, .int .i64 a.I.Hi, .int .u64 a.C.M, .int .u64 a.C.R], .agg [.int .i64 b.I.Lo, .int .i64 b.I.Hi, .int .u64 b.C.M, .int .u64 b.C.R]] (wr_b_b (S.cond_tells_F n op a b)) (wo_b_b (S.cond_tells_F n op a b)) := by
  induction n with
  | zero => intro op a b hp; exact False.elim hp
  | succ n ih =>
    intro op a b hp
    have hc : CfgOk (c153.add 110 (semr110 n)) := c153_ok.add (fun args w => Tryz.call110 args w) (fun vs r outs ps h hp => by
      unfold semr110 at h
      split at h
      · cases h; exact ih _ _ _ hp
      · cases h)
    exact CallOk.same (c := (c153.add 110 (semr110 n))) (c' := c153) rfl rfl rfl rfl (fns110 n hc op a b hp)
theorem fn110 (op : Int) (a : S.Value) (b : S.Value) (hp : S.cond_tells_pre op a b) : CallOk c153 110 [.int .i64 op, .agg [.int .i64 a.I.Lo, .int .i64 a.I.Hi, .int .u64 a.C.M, .int .u64 a.C.R], .agg [.int .i64 b.I.Lo, .int .i64 b.I.Hi, .int .u64 b.C.M, .int .u64 b.C.R]] (wr_b_b (S.cond_tells op a b)) (wo_b_b (S.cond_tells op a b)) := fnr110 _ op a b (Classical.epsilon_spec hp)

noncomputable def sem110 : List W → Option (W × List (List W) × List Prop)
  | [.int .i64 y1, .agg [.int .i64 y2, .int .i64 y3, .int .u64 y4, .int .u64 y5], .agg [.int .i64 y6, .int .i64 y7, .int .u64 y8, .int .u64 y9]] => some (wr_b_b (S.cond_tells y1 (⟨(⟨y2, y3⟩ : S.Inter), (⟨y4, y5⟩ : S.Cong)⟩ : S.Value) (⟨(⟨y6, y7⟩ : S.Inter), (⟨y8, y9⟩ : S.Cong)⟩ : S.Value)), wo_b_b (S.cond_tells y1 (⟨(⟨y2, y3⟩ : S.Inter), (⟨y4, y5⟩ : S.Cong)⟩ : S.Value) (⟨(⟨y6, y7⟩ : S.Inter), (⟨y8, y9⟩ : S.Cong)⟩ : S.Value)), [S.cond_tells_pre y1 (⟨(⟨y2, y3⟩ : S.Inter), (⟨y4, y5⟩ : S.Cong)⟩ : S.Value) (⟨(⟨y6, y7⟩ : S.Inter), (⟨y8, y9⟩ : S.Cong)⟩ : S.Value)])
  | _ => none
noncomputable def c110 : Cfg El := c153.add 110 sem110
theorem c110_ok : CfgOk c110 := c153_ok.add (fun args w => Tryz.call110 args w) (fun vs r outs ps h hp => by
  unfold sem110 at h
  split at h
  · rename_i y1 y2 y3 y4 y5 y6 y7 y8 y9; cases h; exact fn110 y1 (⟨(⟨y2, y3⟩ : S.Inter), (⟨y4, y5⟩ : S.Cong)⟩ : S.Value) (⟨(⟨y6, y7⟩ : S.Inter), (⟨y8, y9⟩ : S.Cong)⟩ : S.Value) hp
  · cases h)

noncomputable def body30 : Code := (Tryz.f30.body).getD .skip
theorem fn30 (lo : Int) (hi : Int) (hp : S.value_Range_pre lo hi) : CallOk c110 30 [.int .i64 lo, .int .i64 hi] (wr_S27 (S.value_Range lo hi)) (wo_S27 (S.value_Range lo hi)) :=
  (call_ok (c := c110) (f := 30) (fn := Tryz.f30) (code := body30) (args := ([.int .i64 lo, .int .i64 hi])) (loop := noLoop) (md := ⟨false, false⟩) (rd := rd_S27) (wr := wr_S27) (wo := wo_S27) (r := (S.value_Range lo hi)) c110_ok (by kernel_rfl) (by kernel_rfl) (by kernel_rfl) (no_loops (by kernel_rfl)) (by kernel_rfl) (by kernel_rfl) (by kernel_rfl)
    rw_S27 np_S27 no_S27 (by kernel_rfl) (Eq.mpr (show Vm.Tr.vc (Vm.Fn c110 Tryz.f30 body30 noLoop ([.int .i64 lo, .int .i64 hi])) = S.value_Range_pre lo hi by kernel_rfl) hp))

noncomputable def sem30 : List W → Option (W × List (List W) × List Prop)
  | [.int .i64 y1, .int .i64 y2] => some (wr_S27 (S.value_Range y1 y2), wo_S27 (S.value_Range y1 y2), [S.value_Range_pre y1 y2])
  | _ => none
noncomputable def c30 : Cfg El := c110.add 30 sem30
theorem c30_ok : CfgOk c30 := c110_ok.add (fun args w => Tryz.call30 args w) (fun vs r outs ps h hp => by
  unfold sem30 at h
  split at h
  · rename_i y1 y2; cases h; exact fn30 y1 y2 hp
  · cases h)

noncomputable def body109 : Code := (Tryz.f109.body).getD .skip
theorem fn109 (yes : Bool) (no : Bool) (hp : S.cond_truth_pre yes no) : CallOk c30 109 [.bool yes, .bool no] (wr_S27 (S.cond_truth yes no)) (wo_S27 (S.cond_truth yes no)) :=
  (call_ok (c := c30) (f := 109) (fn := Tryz.f109) (code := body109) (args := ([.bool yes, .bool no])) (loop := noLoop) (md := ⟨false, false⟩) (rd := rd_S27) (wr := wr_S27) (wo := wo_S27) (r := (S.cond_truth yes no)) c30_ok (by kernel_rfl) (by kernel_rfl) (by kernel_rfl) (no_loops (by kernel_rfl)) (by kernel_rfl) (by kernel_rfl) (by kernel_rfl)
    rw_S27 np_S27 no_S27 (by kernel_rfl) (Eq.mpr (show Vm.Tr.vc (Vm.Fn c30 Tryz.f109 body109 noLoop ([.bool yes, .bool no])) = S.cond_truth_pre yes no by kernel_rfl) hp))

noncomputable def sem109 : List W → Option (W × List (List W) × List Prop)
  | [.bool y1, .bool y2] => some (wr_S27 (S.cond_truth y1 y2), wo_S27 (S.cond_truth y1 y2), [S.cond_truth_pre y1 y2])
  | _ => none
noncomputable def c109 : Cfg El := c30.add 109 sem109
theorem c109_ok : CfgOk c109 := c30_ok.add (fun args w => Tryz.call109 args w) (fun vs r outs ps h hp => by
  unfold sem109 at h
  split at h
  · rename_i y1 y2; cases h; exact fn109 y1 y2 hp
  · cases h)

noncomputable def body52 : Code := (Tryz.f52.body).getD .skip
theorem fn52 (op : Int) (a : S.Value) (b : S.Value) (hp : S.cond_Do_pre op a b) : CallOk c109 52 [.int .i64 op, .agg [.int .i64 a.I.Lo, .int .i64 a.I.Hi, .int .u64 a.C.M, .int .u64 a.C.R], .agg [.int .i64 b.I.Lo, .int .i64 b.I.Hi, .int .u64 b.C.M, .int .u64 b.C.R]] (wr_S27 (S.cond_Do op a b)) (wo_S27 (S.cond_Do op a b)) :=
  (call_ok (c := c109) (f := 52) (fn := Tryz.f52) (code := body52) (args := ([.int .i64 op, .agg [.int .i64 a.I.Lo, .int .i64 a.I.Hi, .int .u64 a.C.M, .int .u64 a.C.R], .agg [.int .i64 b.I.Lo, .int .i64 b.I.Hi, .int .u64 b.C.M, .int .u64 b.C.R]])) (loop := noLoop) (md := ⟨false, false⟩) (rd := rd_S27) (wr := wr_S27) (wo := wo_S27) (r := (S.cond_Do op a b)) c109_ok (by kernel_rfl) (by kernel_rfl) (by kernel_rfl) (no_loops (by kernel_rfl)) (by kernel_rfl) (by kernel_rfl) (by kernel_rfl)
    rw_S27 np_S27 no_S27 (by kernel_rfl) (Eq.mpr (show Vm.Tr.vc (Vm.Fn c109 Tryz.f52 body52 noLoop ([.int .i64 op, .agg [.int .i64 a.I.Lo, .int .i64 a.I.Hi, .int .u64 a.C.M, .int .u64 a.C.R], .agg [.int .i64 b.I.Lo, .int .i64 b.I.Hi, .int .u64 b.C.M, .int .u64 b.C.R]])) = S.cond_Do_pre op a b by kernel_rfl) hp))

noncomputable def sem52 : List W → Option (W × List (List W) × List Prop)
  | [.int .i64 y1, .agg [.int .i64 y2, .int .i64 y3, .int .u64 y4, .int .u64 y5], .agg [.int .i64 y6, .int .i64 y7, .int .u64 y8, .int .u64 y9]] => some (wr_S27 (S.cond_Do y1 (⟨(⟨y2, y3⟩ : S.Inter), (⟨y4, y5⟩ : S.Cong)⟩ : S.Value) (⟨(⟨y6, y7⟩ : S.Inter), (⟨y8, y9⟩ : S.Cong)⟩ : S.Value)), wo_S27 (S.cond_Do y1 (⟨(⟨y2, y3⟩ : S.Inter), (⟨y4, y5⟩ : S.Cong)⟩ : S.Value) (⟨(⟨y6, y7⟩ : S.Inter), (⟨y8, y9⟩ : S.Cong)⟩ : S.Value)), [S.cond_Do_pre y1 (⟨(⟨y2, y3⟩ : S.Inter), (⟨y4, y5⟩ : S.Cong)⟩ : S.Value) (⟨(⟨y6, y7⟩ : S.Inter), (⟨y8, y9⟩ : S.Cong)⟩ : S.Value)])
  | _ => none
noncomputable def c52 : Cfg El := c109.add 52 sem52
theorem c52_ok : CfgOk c52 := c109_ok.add (fun args w => Tryz.call52 args w) (fun vs r outs ps h hp => by
  unfold sem52 at h
  split at h
  · rename_i y1 y2 y3 y4 y5 y6 y7 y8 y9; cases h; exact fn52 y1 (⟨(⟨y2, y3⟩ : S.Inter), (⟨y4, y5⟩ : S.Cong)⟩ : S.Value) (⟨(⟨y6, y7⟩ : S.Inter), (⟨y8, y9⟩ : S.Cong)⟩ : S.Value) hp
  · cases h)

noncomputable def body182 : Code := (Tryz.f182.body).getD .skip
theorem fn182 (v : S.Value) (lo : Int) (hi : Int) (hp : S.cond_between_pre v lo hi) : CallOk c52 182 [.agg [.int .i64 v.I.Lo, .int .i64 v.I.Hi, .int .u64 v.C.M, .int .u64 v.C.R], .int .i64 lo, .int .i64 hi] (wr_S27 (S.cond_between v lo hi)) (wo_S27 (S.cond_between v lo hi)) :=
  (call_ok (c := c52) (f := 182) (fn := Tryz.f182) (code := body182) (args := ([.agg [.int .i64 v.I.Lo, .int .i64 v.I.Hi, .int .u64 v.C.M, .int .u64 v.C.R], .int .i64 lo, .int .i64 hi])) (loop := noLoop) (md := ⟨false, false⟩) (rd := rd_S27) (wr := wr_S27) (wo := wo_S27) (r := (S.cond_between v lo hi)) c52_ok (by kernel_rfl) (by kernel_rfl) (by kernel_rfl) (no_loops (by kernel_rfl)) (by kernel_rfl) (by kernel_rfl) (by kernel_rfl)
    rw_S27 np_S27 no_S27 (by kernel_rfl) (Eq.mpr (show Vm.Tr.vc (Vm.Fn c52 Tryz.f182 body182 noLoop ([.agg [.int .i64 v.I.Lo, .int .i64 v.I.Hi, .int .u64 v.C.M, .int .u64 v.C.R], .int .i64 lo, .int .i64 hi])) = S.cond_between_pre v lo hi by kernel_rfl) hp))

noncomputable def sem182 : List W → Option (W × List (List W) × List Prop)
  | [.agg [.int .i64 y1, .int .i64 y2, .int .u64 y3, .int .u64 y4], .int .i64 y5, .int .i64 y6] => some (wr_S27 (S.cond_between (⟨(⟨y1, y2⟩ : S.Inter), (⟨y3, y4⟩ : S.Cong)⟩ : S.Value) y5 y6), wo_S27 (S.cond_between (⟨(⟨y1, y2⟩ : S.Inter), (⟨y3, y4⟩ : S.Cong)⟩ : S.Value) y5 y6), [S.cond_between_pre (⟨(⟨y1, y2⟩ : S.Inter), (⟨y3, y4⟩ : S.Cong)⟩ : S.Value) y5 y6])
  | _ => none
noncomputable def c182 : Cfg El := c52.add 182 sem182
theorem c182_ok : CfgOk c182 := c52_ok.add (fun args w => Tryz.call182 args w) (fun vs r outs ps h hp => by
  unfold sem182 at h
  split at h
  · rename_i y1 y2 y3 y4 y5 y6; cases h; exact fn182 (⟨(⟨y1, y2⟩ : S.Inter), (⟨y3, y4⟩ : S.Cong)⟩ : S.Value) y5 y6 hp
  · cases h)

noncomputable def body154 : Code := (Tryz.f154.body).getD .skip
theorem fn154 (v : S.Value) (n : Int) (hp : S.cond_from_pre v n) : CallOk c182 154 [.agg [.int .i64 v.I.Lo, .int .i64 v.I.Hi, .int .u64 v.C.M, .int .u64 v.C.R], .int .i64 n] (wr_S27 (S.cond_from v n)) (wo_S27 (S.cond_from v n)) :=
  (call_ok (c := c182) (f := 154) (fn := Tryz.f154) (code := body154) (args := ([.agg [.int .i64 v.I.Lo, .int .i64 v.I.Hi, .int .u64 v.C.M, .int .u64 v.C.R], .int .i64 n])) (loop := noLoop) (md := ⟨false, false⟩) (rd := rd_S27) (wr := wr_S27) (wo := wo_S27) (r := (S.cond_from v n)) c182_ok (by kernel_rfl) (by kernel_rfl) (by kernel_rfl) (no_loops (by kernel_rfl)) (by kernel_rfl) (by kernel_rfl) (by kernel_rfl)
    rw_S27 np_S27 no_S27 (by kernel_rfl) (Eq.mpr (show Vm.Tr.vc (Vm.Fn c182 Tryz.f154 body154 noLoop ([.agg [.int .i64 v.I.Lo, .int .i64 v.I.Hi, .int .u64 v.C.M, .int .u64 v.C.R], .int .i64 n])) = S.cond_from_pre v n by kernel_rfl) hp))

noncomputable def sem154 : List W → Option (W × List (List W) × List Prop)
  | [.agg [.int .i64 y1, .int .i64 y2, .int .u64 y3, .int .u64 y4], .int .i64 y5] => some (wr_S27 (S.cond_from (⟨(⟨y1, y2⟩ : S.Inter), (⟨y3, y4⟩ : S.Cong)⟩ : S.Value) y5), wo_S27 (S.cond_from (⟨(⟨y1, y2⟩ : S.Inter), (⟨y3, y4⟩ : S.Cong)⟩ : S.Value) y5), [S.cond_from_pre (⟨(⟨y1, y2⟩ : S.Inter), (⟨y3, y4⟩ : S.Cong)⟩ : S.Value) y5])
  | _ => none
noncomputable def c154 : Cfg El := c182.add 154 sem154
theorem c154_ok : CfgOk c154 := c182_ok.add (fun args w => Tryz.call154 args w) (fun vs r outs ps h hp => by
  unfold sem154 at h
  split at h
  · rename_i y1 y2 y3 y4 y5; cases h; exact fn154 (⟨(⟨y1, y2⟩ : S.Inter), (⟨y3, y4⟩ : S.Cong)⟩ : S.Value) y5 hp
  · cases h)

noncomputable def body112 : Code := (Tryz.f112.body).getD .skip
theorem fn112 (v : S.Value) (n : Int) (hp : S.cond_above_pre v n) : CallOk c154 112 [.agg [.int .i64 v.I.Lo, .int .i64 v.I.Hi, .int .u64 v.C.M, .int .u64 v.C.R], .int .i64 n] (wr_S27 (S.cond_above v n)) (wo_S27 (S.cond_above v n)) :=
  (call_ok (c := c154) (f := 112) (fn := Tryz.f112) (code := body112) (args := ([.agg [.int .i64 v.I.Lo, .int .i64 v.I.Hi, .int .u64 v.C.M, .int .u64 v.C.R], .int .i64 n])) (loop := noLoop) (md := ⟨false, false⟩) (rd := rd_S27) (wr := wr_S27) (wo := wo_S27) (r := (S.cond_above v n)) c154_ok (by kernel_rfl) (by kernel_rfl) (by kernel_rfl) (no_loops (by kernel_rfl)) (by kernel_rfl) (by kernel_rfl) (by kernel_rfl)
    rw_S27 np_S27 no_S27 (by kernel_rfl) (Eq.mpr (show Vm.Tr.vc (Vm.Fn c154 Tryz.f112 body112 noLoop ([.agg [.int .i64 v.I.Lo, .int .i64 v.I.Hi, .int .u64 v.C.M, .int .u64 v.C.R], .int .i64 n])) = S.cond_above_pre v n by kernel_rfl) hp))

noncomputable def sem112 : List W → Option (W × List (List W) × List Prop)
  | [.agg [.int .i64 y1, .int .i64 y2, .int .u64 y3, .int .u64 y4], .int .i64 y5] => some (wr_S27 (S.cond_above (⟨(⟨y1, y2⟩ : S.Inter), (⟨y3, y4⟩ : S.Cong)⟩ : S.Value) y5), wo_S27 (S.cond_above (⟨(⟨y1, y2⟩ : S.Inter), (⟨y3, y4⟩ : S.Cong)⟩ : S.Value) y5), [S.cond_above_pre (⟨(⟨y1, y2⟩ : S.Inter), (⟨y3, y4⟩ : S.Cong)⟩ : S.Value) y5])
  | _ => none
noncomputable def c112 : Cfg El := c154.add 112 sem112
theorem c112_ok : CfgOk c112 := c154_ok.add (fun args w => Tryz.call112 args w) (fun vs r outs ps h hp => by
  unfold sem112 at h
  split at h
  · rename_i y1 y2 y3 y4 y5; cases h; exact fn112 (⟨(⟨y1, y2⟩ : S.Inter), (⟨y3, y4⟩ : S.Cong)⟩ : S.Value) y5 hp
  · cases h)

noncomputable def body155 : Code := (Tryz.f155.body).getD .skip
theorem fn155 (v : S.Value) (n : Int) (hp : S.cond_upto_pre v n) : CallOk c112 155 [.agg [.int .i64 v.I.Lo, .int .i64 v.I.Hi, .int .u64 v.C.M, .int .u64 v.C.R], .int .i64 n] (wr_S27 (S.cond_upto v n)) (wo_S27 (S.cond_upto v n)) :=
  (call_ok (c := c112) (f := 155) (fn := Tryz.f155) (code := body155) (args := ([.agg [.int .i64 v.I.Lo, .int .i64 v.I.Hi, .int .u64 v.C.M, .int .u64 v.C.R], .int .i64 n])) (loop := noLoop) (md := ⟨false, false⟩) (rd := rd_S27) (wr := wr_S27) (wo := wo_S27) (r := (S.cond_upto v n)) c112_ok (by kernel_rfl) (by kernel_rfl) (by kernel_rfl) (no_loops (by kernel_rfl)) (by kernel_rfl) (by kernel_rfl) (by kernel_rfl)
    rw_S27 np_S27 no_S27 (by kernel_rfl) (Eq.mpr (show Vm.Tr.vc (Vm.Fn c112 Tryz.f155 body155 noLoop ([.agg [.int .i64 v.I.Lo, .int .i64 v.I.Hi, .int .u64 v.C.M, .int .u64 v.C.R], .int .i64 n])) = S.cond_upto_pre v n by kernel_rfl) hp))

noncomputable def sem155 : List W → Option (W × List (List W) × List Prop)
  | [.agg [.int .i64 y1, .int .i64 y2, .int .u64 y3, .int .u64 y4], .int .i64 y5] => some (wr_S27 (S.cond_upto (⟨(⟨y1, y2⟩ : S.Inter), (⟨y3, y4⟩ : S.Cong)⟩ : S.Value) y5), wo_S27 (S.cond_upto (⟨(⟨y1, y2⟩ : S.Inter), (⟨y3, y4⟩ : S.Cong)⟩ : S.Value) y5), [S.cond_upto_pre (⟨(⟨y1, y2⟩ : S.Inter), (⟨y3, y4⟩ : S.Cong)⟩ : S.Value) y5])
  | _ => none
noncomputable def c155 : Cfg El := c112.add 155 sem155
theorem c155_ok : CfgOk c155 := c112_ok.add (fun args w => Tryz.call155 args w) (fun vs r outs ps h hp => by
  unfold sem155 at h
  split at h
  · rename_i y1 y2 y3 y4 y5; cases h; exact fn155 (⟨(⟨y1, y2⟩ : S.Inter), (⟨y3, y4⟩ : S.Cong)⟩ : S.Value) y5 hp
  · cases h)

noncomputable def body113 : Code := (Tryz.f113.body).getD .skip
theorem fn113 (v : S.Value) (n : Int) (hp : S.cond_below_pre v n) : CallOk c155 113 [.agg [.int .i64 v.I.Lo, .int .i64 v.I.Hi, .int .u64 v.C.M, .int .u64 v.C.R], .int .i64 n] (wr_S27 (S.cond_below v n)) (wo_S27 (S.cond_below v n)) :=
  (call_ok (c := c155) (f := 113) (fn := Tryz.f113) (code := body113) (args := ([.agg [.int .i64 v.I.Lo, .int .i64 v.I.Hi, .int .u64 v.C.M, .int .u64 v.C.R], .int .i64 n])) (loop := noLoop) (md := ⟨false, false⟩) (rd := rd_S27) (wr := wr_S27) (wo := wo_S27) (r := (S.cond_below v n)) c155_ok (by kernel_rfl) (by kernel_rfl) (by kernel_rfl) (no_loops (by kernel_rfl)) (by kernel_rfl) (by kernel_rfl) (by kernel_rfl)
    rw_S27 np_S27 no_S27 (by kernel_rfl) (Eq.mpr (show Vm.Tr.vc (Vm.Fn c155 Tryz.f113 body113 noLoop ([.agg [.int .i64 v.I.Lo, .int .i64 v.I.Hi, .int .u64 v.C.M, .int .u64 v.C.R], .int .i64 n])) = S.cond_below_pre v n by kernel_rfl) hp))

noncomputable def sem113 : List W → Option (W × List (List W) × List Prop)
  | [.agg [.int .i64 y1, .int .i64 y2, .int .u64 y3, .int .u64 y4], .int .i64 y5] => some (wr_S27 (S.cond_below (⟨(⟨y1, y2⟩ : S.Inter), (⟨y3, y4⟩ : S.Cong)⟩ : S.Value) y5), wo_S27 (S.cond_below (⟨(⟨y1, y2⟩ : S.Inter), (⟨y3, y4⟩ : S.Cong)⟩ : S.Value) y5), [S.cond_below_pre (⟨(⟨y1, y2⟩ : S.Inter), (⟨y3, y4⟩ : S.Cong)⟩ : S.Value) y5])
  | _ => none
noncomputable def c113 : Cfg El := c155.add 113 sem113
theorem c113_ok : CfgOk c113 := c155_ok.add (fun args w => Tryz.call113 args w) (fun vs r outs ps h hp => by
  unfold sem113 at h
  split at h
  · rename_i y1 y2 y3 y4 y5; cases h; exact fn113 (⟨(⟨y1, y2⟩ : S.Inter), (⟨y3, y4⟩ : S.Cong)⟩ : S.Value) y5 hp
  · cases h)

noncomputable def body54 : Code := (Tryz.f54.body).getD .skip
theorem fn54 (v : S.Value) (n : Int) (hp : S.cond_Without_pre v n) : CallOk c113 54 [.agg [.int .i64 v.I.Lo, .int .i64 v.I.Hi, .int .u64 v.C.M, .int .u64 v.C.R], .int .i64 n] (wr_S27 (S.cond_Without v n)) (wo_S27 (S.cond_Without v n)) :=
  (call_ok (c := c113) (f := 54) (fn := Tryz.f54) (code := body54) (args := ([.agg [.int .i64 v.I.Lo, .int .i64 v.I.Hi, .int .u64 v.C.M, .int .u64 v.C.R], .int .i64 n])) (loop := noLoop) (md := ⟨false, false⟩) (rd := rd_S27) (wr := wr_S27) (wo := wo_S27) (r := (S.cond_Without v n)) c113_ok (by kernel_rfl) (by kernel_rfl) (by kernel_rfl) (no_loops (by kernel_rfl)) (by kernel_rfl) (by kernel_rfl) (by kernel_rfl)
    rw_S27 np_S27 no_S27 (by kernel_rfl) (Eq.mpr (show Vm.Tr.vc (Vm.Fn c113 Tryz.f54 body54 noLoop ([.agg [.int .i64 v.I.Lo, .int .i64 v.I.Hi, .int .u64 v.C.M, .int .u64 v.C.R], .int .i64 n])) = S.cond_Without_pre v n by kernel_rfl) hp))

noncomputable def sem54 : List W → Option (W × List (List W) × List Prop)
  | [.agg [.int .i64 y1, .int .i64 y2, .int .u64 y3, .int .u64 y4], .int .i64 y5] => some (wr_S27 (S.cond_Without (⟨(⟨y1, y2⟩ : S.Inter), (⟨y3, y4⟩ : S.Cong)⟩ : S.Value) y5), wo_S27 (S.cond_Without (⟨(⟨y1, y2⟩ : S.Inter), (⟨y3, y4⟩ : S.Cong)⟩ : S.Value) y5), [S.cond_Without_pre (⟨(⟨y1, y2⟩ : S.Inter), (⟨y3, y4⟩ : S.Cong)⟩ : S.Value) y5])
  | _ => none
noncomputable def c54 : Cfg El := c113.add 54 sem54
theorem c54_ok : CfgOk c54 := c113_ok.add (fun args w => Tryz.call54 args w) (fun vs r outs ps h hp => by
  unfold sem54 at h
  split at h
  · rename_i y1 y2 y3 y4 y5; cases h; exact fn54 (⟨(⟨y1, y2⟩ : S.Inter), (⟨y3, y4⟩ : S.Cong)⟩ : S.Value) y5 hp
  · cases h)

noncomputable def body94 : Code := (Tryz.f94.body).getD .skip
theorem fn94 (a : S.Value) (b : S.Value) (hp : S.value_Meet_1_pre a b) : CallOk c54 94 [.agg [.int .i64 a.I.Lo, .int .i64 a.I.Hi, .int .u64 a.C.M, .int .u64 a.C.R], .agg [.int .i64 b.I.Lo, .int .i64 b.I.Hi, .int .u64 b.C.M, .int .u64 b.C.R]] (wr_S27 (S.value_Meet_1 a b)) (wo_S27 (S.value_Meet_1 a b)) :=
  (call_ok (c := c54) (f := 94) (fn := Tryz.f94) (code := body94) (args := ([.agg [.int .i64 a.I.Lo, .int .i64 a.I.Hi, .int .u64 a.C.M, .int .u64 a.C.R], .agg [.int .i64 b.I.Lo, .int .i64 b.I.Hi, .int .u64 b.C.M, .int .u64 b.C.R]])) (loop := noLoop) (md := ⟨false, false⟩) (rd := rd_S27) (wr := wr_S27) (wo := wo_S27) (r := (S.value_Meet_1 a b)) c54_ok (by kernel_rfl) (by kernel_rfl) (by kernel_rfl) (no_loops (by kernel_rfl)) (by kernel_rfl) (by kernel_rfl) (by kernel_rfl)
    rw_S27 np_S27 no_S27 (by kernel_rfl) (Eq.mpr (show Vm.Tr.vc (Vm.Fn c54 Tryz.f94 body94 noLoop ([.agg [.int .i64 a.I.Lo, .int .i64 a.I.Hi, .int .u64 a.C.M, .int .u64 a.C.R], .agg [.int .i64 b.I.Lo, .int .i64 b.I.Hi, .int .u64 b.C.M, .int .u64 b.C.R]])) = S.value_Meet_1_pre a b by kernel_rfl) hp))

noncomputable def sem94 : List W → Option (W × List (List W) × List Prop)
  | [.agg [.int .i64 y1, .int .i64 y2, .int .u64 y3, .int .u64 y4], .agg [.int .i64 y5, .int .i64 y6, .int .u64 y7, .int .u64 y8]] => some (wr_S27 (S.value_Meet_1 (⟨(⟨y1, y2⟩ : S.Inter), (⟨y3, y4⟩ : S.Cong)⟩ : S.Value) (⟨(⟨y5, y6⟩ : S.Inter), (⟨y7, y8⟩ : S.Cong)⟩ : S.Value)), wo_S27 (S.value_Meet_1 (⟨(⟨y1, y2⟩ : S.Inter), (⟨y3, y4⟩ : S.Cong)⟩ : S.Value) (⟨(⟨y5, y6⟩ : S.Inter), (⟨y7, y8⟩ : S.Cong)⟩ : S.Value)), [S.value_Meet_1_pre (⟨(⟨y1, y2⟩ : S.Inter), (⟨y3, y4⟩ : S.Cong)⟩ : S.Value) (⟨(⟨y5, y6⟩ : S.Inter), (⟨y7, y8⟩ : S.Cong)⟩ : S.Value)])
  | _ => none
noncomputable def c94 : Cfg El := c54.add 94 sem94
theorem c94_ok : CfgOk c94 := c54_ok.add (fun args w => Tryz.call94 args w) (fun vs r outs ps h hp => by
  unfold sem94 at h
  split at h
  · rename_i y1 y2 y3 y4 y5 y6 y7 y8; cases h; exact fn94 (⟨(⟨y1, y2⟩ : S.Inter), (⟨y3, y4⟩ : S.Cong)⟩ : S.Value) (⟨(⟨y5, y6⟩ : S.Inter), (⟨y7, y8⟩ : S.Cong)⟩ : S.Value) hp
  · cases h)

noncomputable def body90 : Code := (Tryz.f90.body).getD .skip
noncomputable def lb90_value_Meet_1_0 : Code := ((nth (loopsOf 0 body90) 0).getD (0, .skip)).2
noncomputable def px90_value_Meet_1_0 : List W → Option S.value_fold_value_Meet_1_L0
  | [.fn 94, .ptr 3 0, .list 28 false y1, .int .i64 y2, .int .i64 y3, .int .i64 y4, .int .i64 y5, .int .u64 y6, .int .u64 y7] => some ⟨y1, y2, y3, ⟨⟨y4, y5⟩, ⟨y6, y7⟩⟩⟩
  | _ => none
noncomputable def tx90_value_Meet_1_0 (x : S.value_fold_value_Meet_1_L0) : List W := [.fn 94, .ptr 3 0, .list 28 false x.t9, .int .i64 x.t10, .int .i64 x.t11, .int .i64 x.first.I.Lo, .int .i64 x.first.I.Hi, .int .u64 x.first.C.M, .int .u64 x.first.C.R]
noncomputable def py90_value_Meet_1_0 : Ex → List W → Option (S.value_fold_value_Meet_1_L0)
  | .exit 0, [.fn 94, .ptr 3 0, .list 28 false y1, .int .i64 y2, .int .i64 y3, .int .i64 y4, .int .i64 y5, .int .u64 y6, .int .u64 y7] => some ⟨y1, y2, y3, ⟨⟨y4, y5⟩, ⟨y6, y7⟩⟩⟩
  | _, _ => none
noncomputable def ld90_value_Meet_1_0 : LD El where
  X := S.value_fold_value_Meet_1_L0
  Y := S.value_fold_value_Meet_1_L0
  keys := [.slot 2, .slot 3, .slot 9, .slot 10, .slot 11, .cell 3 0, .cell 3 1, .cell 3 2, .cell 3 3]
  fits := [60, 0, 56, 3, 3, 2, 2, 24, 24]
  px := px90_value_Meet_1_0
  tx := tx90_value_Meet_1_0
  okeys := [.slot 2, .slot 3, .slot 9, .slot 10, .slot 11, .cell 3 0, .cell 3 1, .cell 3 2, .cell 3 3]
  ofits := [60, 0, 56, 3, 3, 2, 2, 24, 24]
  py := py90_value_Meet_1_0
  ty := fun y => tx90_value_Meet_1_0 y
  oex := fun _ => .exit 0
  junk := [.slot 8, .slot 12, .slot 13, .slot 14, .slot 15, .slot 16, .slot 17, .slot 18, .slot 19, .slot 20]
  rows := []
noncomputable def lo90_value_Meet_1_0 : S.value_fold_value_Meet_1_L0 → Tr El := fun y => .leaf (.exit 0) (zipK ld90_value_Meet_1_0.okeys (tx90_value_Meet_1_0 y) ++ junkK ld90_value_Meet_1_0.junk)
noncomputable def loop90_value_Meet_1 : Nat → Env El → Tr El
  | 0 => ld90_value_Meet_1_0.tree c94 Tryz.f90.ntmps 0 lb90_value_Meet_1_0 S.value_fold_value_Meet_1_L0_run lo90_value_Meet_1_0 S.value_fold_value_Meet_1_L0_step S.value_fold_value_Meet_1_L0_vcs
  | _ => fun _ => .fail
theorem lok90_value_Meet_1_0 : ∀ w0 S0, LoopOk c94 Tryz.f90.ntmps w0 S0 loop90_value_Meet_1 0 lb90_value_Meet_1_0 :=
  loop_ok (c := c94) (n := Tryz.f90.ntmps) c94_ok mixed ld90_value_Meet_1_0 (body := lb90_value_Meet_1_0) (key := 0) (loop := loop90_value_Meet_1) (F := S.value_fold_value_Meet_1_L0_run) (out := lo90_value_Meet_1_0) (step := S.value_fold_value_Meet_1_L0_step) (vcs := S.value_fold_value_Meet_1_L0_vcs)
    (fun _ => by kernel_rfl) (no_loops (by kernel_rfl)) rfl rfl
    (fun vs x h => by unfold ld90_value_Meet_1_0 px90_value_Meet_1_0 at h; dsimp only at h; split at h <;> first | (cases h; rfl) | cases h)
    (fun e vs y h => by unfold ld90_value_Meet_1_0 py90_value_Meet_1_0 at h; dsimp only at h; split at h <;> first | (cases h; exact ⟨rfl, rfl⟩) | cases h)
    (by kernel_rfl) (fun _ => rfl) (fun _ _ h => h) (fun x => by kernel_rfl) (fun x h => Eq.mpr (show Vm.Tr.vc (Vm.ev c94 Tryz.f90.ntmps loop90_value_Meet_1 0 lb90_value_Meet_1_0 (ld90_value_Meet_1_0.vars x) []) = S.value_fold_value_Meet_1_L0_vcs x by kernel_rfl) h)
theorem fn90_value_Meet_1 (first : S.Value) (l : (List S.Value)) (hp : S.value_fold_value_Meet_1_pre first l) : CallOk c94 90 [.agg [.int .i64 first.I.Lo, .int .i64 first.I.Hi, .int .u64 first.C.M, .int .u64 first.C.R], .list 28 false l, .fn 94] (wr_S27 (S.value_fold_value_Meet_1 first l)) (wo_S27 (S.value_fold_value_Meet_1 first l)) :=
  (call_ok (c := c94) (f := 90) (fn := Tryz.f90) (code := body90) (args := ([.agg [.int .i64 first.I.Lo, .int .i64 first.I.Hi, .int .u64 first.C.M, .int .u64 first.C.R], .list 28 false l, .fn 94])) (loop := loop90_value_Meet_1) (md := ⟨false, false⟩) (rd := rd_S27) (wr := wr_S27) (wo := wo_S27) (r := (S.value_fold_value_Meet_1 first l)) c94_ok (by kernel_rfl) (by kernel_rfl) (by kernel_rfl) (loops_all (l := [(0, lb90_value_Meet_1_0)]) (by kernel_rfl) ⟨lok90_value_Meet_1_0, trivial⟩) (by kernel_rfl) (by kernel_rfl) (by kernel_rfl)
    rw_S27 np_S27 no_S27 (by kernel_rfl) (Eq.mpr (show Vm.Tr.vc (Vm.Fn c94 Tryz.f90 body90 loop90_value_Meet_1 ([.agg [.int .i64 first.I.Lo, .int .i64 first.I.Hi, .int .u64 first.C.M, .int .u64 first.C.R], .list 28 false l, .fn 94])) = S.value_fold_value_Meet_1_pre first l by kernel_rfl) hp))

noncomputable def sem90 : List W → Option (W × List (List W) × List Prop)
  | [.agg [.int .i64 y1, .int .i64 y2, .int .u64 y3, .int .u64 y4], .list 28 false y5, .fn 94] => some (wr_S27 (S.value_fold_value_Meet_1 (⟨(⟨y1, y2⟩ : S.Inter), (⟨y3, y4⟩ : S.Cong)⟩ : S.Value) y5), wo_S27 (S.value_fold_value_Meet_1 (⟨(⟨y1, y2⟩ : S.Inter), (⟨y3, y4⟩ : S.Cong)⟩ : S.Value) y5), [S.value_fold_value_Meet_1_pre (⟨(⟨y1, y2⟩ : S.Inter), (⟨y3, y4⟩ : S.Cong)⟩ : S.Value) y5])
  | _ => none
noncomputable def c90 : Cfg El := c94.add 90 sem90
theorem c90_ok : CfgOk c90 := c94_ok.add (fun args w => Tryz.call90 args w) (fun vs r outs ps h hp => by
  unfold sem90 at h
  split at h
  · rename_i y1 y2 y3 y4 y5; cases h; exact fn90_value_Meet_1 (⟨(⟨y1, y2⟩ : S.Inter), (⟨y3, y4⟩ : S.Cong)⟩ : S.Value) y5 hp
  · cases h)

noncomputable def body36 : Code := (Tryz.f36.body).getD .skip
theorem fn36 (l : (List S.Value)) (hp : S.value_Meet_pre l) : CallOk c90 36 [.list 28 false l] (wr_S27 (S.value_Meet l)) (wo_S27 (S.value_Meet l)) :=
  (call_ok (c := c90) (f := 36) (fn := Tryz.f36) (code := body36) (args := ([.list 28 false l])) (loop := noLoop) (md := ⟨false, false⟩) (rd := rd_S27) (wr := wr_S27) (wo := wo_S27) (r := (S.value_Meet l)) c90_ok (by kernel_rfl) (by kernel_rfl) (by kernel_rfl) (no_loops (by kernel_rfl)) (by kernel_rfl) (by kernel_rfl) (by kernel_rfl)
    rw_S27 np_S27 no_S27 (by kernel_rfl) (Eq.mpr (show Vm.Tr.vc (Vm.Fn c90 Tryz.f36 body36 noLoop ([.list 28 false l])) = S.value_Meet_pre l by kernel_rfl) hp))

noncomputable def sem36 : List W → Option (W × List (List W) × List Prop)
  | [.list 28 false y1] => some (wr_S27 (S.value_Meet y1), wo_S27 (S.value_Meet y1), [S.value_Meet_pre y1])
  | _ => none
noncomputable def c36 : Cfg El := c90.add 36 sem36
theorem c36_ok : CfgOk c36 := c90_ok.add (fun args w => Tryz.call36 args w) (fun vs r outs ps h hp => by
  unfold sem36 at h
  split at h
  · rename_i y1; cases h; exact fn36 y1 hp
  · cases h)

noncomputable def body56 : Code := (Tryz.f56.body).getD .skip
theorem fn56 (v : S.Value) (truth : Bool) (hp : S.cond_Only_pre v truth) : CallOk c36 56 [.agg [.int .i64 v.I.Lo, .int .i64 v.I.Hi, .int .u64 v.C.M, .int .u64 v.C.R], .bool truth] (wr_S27 (S.cond_Only v truth)) (wo_S27 (S.cond_Only v truth)) :=
  (call_ok (c := c36) (f := 56) (fn := Tryz.f56) (code := body56) (args := ([.agg [.int .i64 v.I.Lo, .int .i64 v.I.Hi, .int .u64 v.C.M, .int .u64 v.C.R], .bool truth])) (loop := noLoop) (md := ⟨false, false⟩) (rd := rd_S27) (wr := wr_S27) (wo := wo_S27) (r := (S.cond_Only v truth)) c36_ok (by kernel_rfl) (by kernel_rfl) (by kernel_rfl) (no_loops (by kernel_rfl)) (by kernel_rfl) (by kernel_rfl) (by kernel_rfl)
    rw_S27 np_S27 no_S27 (by kernel_rfl) (Eq.mpr (show Vm.Tr.vc (Vm.Fn c36 Tryz.f56 body56 noLoop ([.agg [.int .i64 v.I.Lo, .int .i64 v.I.Hi, .int .u64 v.C.M, .int .u64 v.C.R], .bool truth])) = S.cond_Only_pre v truth by kernel_rfl) hp))

noncomputable def sem56 : List W → Option (W × List (List W) × List Prop)
  | [.agg [.int .i64 y1, .int .i64 y2, .int .u64 y3, .int .u64 y4], .bool y5] => some (wr_S27 (S.cond_Only (⟨(⟨y1, y2⟩ : S.Inter), (⟨y3, y4⟩ : S.Cong)⟩ : S.Value) y5), wo_S27 (S.cond_Only (⟨(⟨y1, y2⟩ : S.Inter), (⟨y3, y4⟩ : S.Cong)⟩ : S.Value) y5), [S.cond_Only_pre (⟨(⟨y1, y2⟩ : S.Inter), (⟨y3, y4⟩ : S.Cong)⟩ : S.Value) y5])
  | _ => none
noncomputable def c56 : Cfg El := c36.add 56 sem56
theorem c56_ok : CfgOk c56 := c36_ok.add (fun args w => Tryz.call56 args w) (fun vs r outs ps h hp => by
  unfold sem56 at h
  split at h
  · rename_i y1 y2 y3 y4 y5; cases h; exact fn56 (⟨(⟨y1, y2⟩ : S.Inter), (⟨y3, y4⟩ : S.Cong)⟩ : S.Value) y5 hp
  · cases h)

noncomputable def body180 : Code := (Tryz.f180.body).getD .skip
theorem fn180 (v : S.Value) (other : S.Value) (hp : S.cond_without_pre v other) : CallOk c56 180 [.agg [.int .i64 v.I.Lo, .int .i64 v.I.Hi, .int .u64 v.C.M, .int .u64 v.C.R], .agg [.int .i64 other.I.Lo, .int .i64 other.I.Hi, .int .u64 other.C.M, .int .u64 other.C.R]] (wr_S27 (S.cond_without v other)) (wo_S27 (S.cond_without v other)) :=
  (call_ok (c := c56) (f := 180) (fn := Tryz.f180) (code := body180) (args := ([.agg [.int .i64 v.I.Lo, .int .i64 v.I.Hi, .int .u64 v.C.M, .int .u64 v.C.R], .agg [.int .i64 other.I.Lo, .int .i64 other.I.Hi, .int .u64 other.C.M, .int .u64 other.C.R]])) (loop := noLoop) (md := ⟨false, false⟩) (rd := rd_S27) (wr := wr_S27) (wo := wo_S27) (r := (S.cond_without v other)) c56_ok (by kernel_rfl) (by kernel_rfl) (by kernel_rfl) (no_loops (by kernel_rfl)) (by kernel_rfl) (by kernel_rfl) (by kernel_rfl)
    rw_S27 np_S27 no_S27 (by kernel_rfl) (Eq.mpr (show Vm.Tr.vc (Vm.Fn c56 Tryz.f180 body180 noLoop ([.agg [.int .i64 v.I.Lo, .int .i64 v.I.Hi, .int .u64 v.C.M, .int .u64 v.C.R], .agg [.int .i64 other.I.Lo, .int .i64 other.I.Hi, .int .u64 other.C.M, .int .u64 other.C.R]])) = S.cond_without_pre v other by kernel_rfl) hp))

noncomputable def sem180 : List W → Option (W × List (List W) × List Prop)
  | [.agg [.int .i64 y1, .int .i64 y2, .int .u64 y3, .int .u64 y4], .agg [.int .i64 y5, .int .i64 y6, .int .u64 y7, .int .u64 y8]] => some (wr_S27 (S.cond_without (⟨(⟨y1, y2⟩ : S.Inter), (⟨y3, y4⟩ : S.Cong)⟩ : S.Value) (⟨(⟨y5, y6⟩ : S.Inter), (⟨y7, y8⟩ : S.Cong)⟩ : S.Value)), wo_S27 (S.cond_without (⟨(⟨y1, y2⟩ : S.Inter), (⟨y3, y4⟩ : S.Cong)⟩ : S.Value) (⟨(⟨y5, y6⟩ : S.Inter), (⟨y7, y8⟩ : S.Cong)⟩ : S.Value)), [S.cond_without_pre (⟨(⟨y1, y2⟩ : S.Inter), (⟨y3, y4⟩ : S.Cong)⟩ : S.Value) (⟨(⟨y5, y6⟩ : S.Inter), (⟨y7, y8⟩ : S.Cong)⟩ : S.Value)])
  | _ => none
noncomputable def c180 : Cfg El := c56.add 180 sem180
theorem c180_ok : CfgOk c180 := c56_ok.add (fun args w => Tryz.call180 args w) (fun vs r outs ps h hp => by
  unfold sem180 at h
  split at h
  · rename_i y1 y2 y3 y4 y5 y6 y7 y8; cases h; exact fn180 (⟨(⟨y1, y2⟩ : S.Inter), (⟨y3, y4⟩ : S.Cong)⟩ : S.Value) (⟨(⟨y5, y6⟩ : S.Inter), (⟨y7, y8⟩ : S.Cong)⟩ : S.Value) hp
  · cases h)

noncomputable def body148 : Code := (Tryz.f148.body).getD .skip
theorem fn148 (op : Int) (a : S.Value) (b : S.Value) (hp : S.cond_left_pre op a b) : CallOk c180 148 [.int .i64 op, .agg [.int .i64 a.I.Lo, .int .i64 a.I.Hi, .int .u64 a.C.M, .int .u64 a.C.R], .agg [.int .i64 b.I.Lo, .int .i64 b.I.Hi, .int .u64 b.C.M, .int .u64 b.C.R]] (wr_S27_S27 (S.cond_left op a b)) (wo_S27_S27 (S.cond_left op a b)) :=
  (call_ok (c := c180) (f := 148) (fn := Tryz.f148) (code := body148) (args := ([.int .i64 op, .agg [.int .i64 a.I.Lo, .int .i64 a.I.Hi, .int .u64 a.C.M, .int .u64 a.C.R], .agg [.int .i64 b.I.Lo, .int .i64 b.I.Hi, .int .u64 b.C.M, .int .u64 b.C.R]])) (loop := noLoop) (md := ⟨false, false⟩) (rd := rd_S27_S27) (wr := wr_S27_S27) (wo := wo_S27_S27) (r := (S.cond_left op a b)) c180_ok (by kernel_rfl) (by kernel_rfl) (by kernel_rfl) (no_loops (by kernel_rfl)) (by kernel_rfl) (by kernel_rfl) (by kernel_rfl)
    rw_S27_S27 np_S27_S27 no_S27_S27 (by kernel_rfl) (Eq.mpr (show Vm.Tr.vc (Vm.Fn c180 Tryz.f148 body148 noLoop ([.int .i64 op, .agg [.int .i64 a.I.Lo, .int .i64 a.I.Hi, .int .u64 a.C.M, .int .u64 a.C.R], .agg [.int .i64 b.I.Lo, .int .i64 b.I.Hi, .int .u64 b.C.M, .int .u64 b.C.R]])) = S.cond_left_pre op a b by kernel_rfl) hp))

noncomputable def sem148 : List W → Option (W × List (List W) × List Prop)
  | [.int .i64 y1, .agg [.int .i64 y2, .int .i64 y3, .int .u64 y4, .int .u64 y5], .agg [.int .i64 y6, .int .i64 y7, .int .u64 y8, .int .u64 y9]] => some (wr_S27_S27 (S.cond_left y1 (⟨(⟨y2, y3⟩ : S.Inter), (⟨y4, y5⟩ : S.Cong)⟩ : S.Value) (⟨(⟨y6, y7⟩ : S.Inter), (⟨y8, y9⟩ : S.Cong)⟩ : S.Value)), wo_S27_S27 (S.cond_left y1 (⟨(⟨y2, y3⟩ : S.Inter), (⟨y4, y5⟩ : S.Cong)⟩ : S.Value) (⟨(⟨y6, y7⟩ : S.Inter), (⟨y8, y9⟩ : S.Cong)⟩ : S.Value)), [S.cond_left_pre y1 (⟨(⟨y2, y3⟩ : S.Inter), (⟨y4, y5⟩ : S.Cong)⟩ : S.Value) (⟨(⟨y6, y7⟩ : S.Inter), (⟨y8, y9⟩ : S.Cong)⟩ : S.Value)])
  | _ => none
noncomputable def c148 : Cfg El := c180.add 148 sem148
theorem c148_ok : CfgOk c148 := c180_ok.add (fun args w => Tryz.call148 args w) (fun vs r outs ps h hp => by
  unfold sem148 at h
  split at h
  · rename_i y1 y2 y3 y4 y5 y6 y7 y8 y9; cases h; exact fn148 y1 (⟨(⟨y2, y3⟩ : S.Inter), (⟨y4, y5⟩ : S.Cong)⟩ : S.Value) (⟨(⟨y6, y7⟩ : S.Inter), (⟨y8, y9⟩ : S.Cong)⟩ : S.Value) hp
  · cases h)

noncomputable def body105 : Code := (Tryz.f105.body).getD .skip
theorem fn105 (op : Int) (a : S.Value) (b : S.Value) (truth : Bool) (hp : S.cond_lefts_pre op a b truth) : CallOk c148 105 [.int .i64 op, .agg [.int .i64 a.I.Lo, .int .i64 a.I.Hi, .int .u64 a.C.M, .int .u64 a.C.R], .agg [.int .i64 b.I.Lo, .int .i64 b.I.Hi, .int .u64 b.C.M, .int .u64 b.C.R], .bool truth] (wr_S27_S27 (S.cond_lefts op a b truth)) (wo_S27_S27 (S.cond_lefts op a b truth)) :=
  (call_ok (c := c148) (f := 105) (fn := Tryz.f105) (code := body105) (args := ([.int .i64 op, .agg [.int .i64 a.I.Lo, .int .i64 a.I.Hi, .int .u64 a.C.M, .int .u64 a.C.R], .agg [.int .i64 b.I.Lo, .int .i64 b.I.Hi, .int .u64 b.C.M, .int .u64 b.C.R], .bool truth])) (loop := noLoop) (md := ⟨false, false⟩) (rd := rd_S27_S27) (wr := wr_S27_S27) (wo := wo_S27_S27) (r := (S.cond_lefts op a b truth)) c148_ok (by kernel_rfl) (by kernel_rfl) (by kernel_rfl) (no_loops (by kernel_rfl)) (by kernel_rfl) (by kernel_rfl) (by kernel_rfl)
    rw_S27_S27 np_S27_S27 no_S27_S27 (by kernel_rfl) (Eq.mpr (show Vm.Tr.vc (Vm.Fn c148 Tryz.f105 body105 noLoop ([.int .i64 op, .agg [.int .i64 a.I.Lo, .int .i64 a.I.Hi, .int .u64 a.C.M, .int .u64 a.C.R], .agg [.int .i64 b.I.Lo, .int .i64 b.I.Hi, .int .u64 b.C.M, .int .u64 b.C.R], .bool truth])) = S.cond_lefts_pre op a b truth by kernel_rfl) hp))

noncomputable def sem105 : List W → Option (W × List (List W) × List Prop)
  | [.int .i64 y1, .agg [.int .i64 y2, .int .i64 y3, .int .u64 y4, .int .u64 y5], .agg [.int .i64 y6, .int .i64 y7, .int .u64 y8, .int .u64 y9], .bool y10] => some (wr_S27_S27 (S.cond_lefts y1 (⟨(⟨y2, y3⟩ : S.Inter), (⟨y4, y5⟩ : S.Cong)⟩ : S.Value) (⟨(⟨y6, y7⟩ : S.Inter), (⟨y8, y9⟩ : S.Cong)⟩ : S.Value) y10), wo_S27_S27 (S.cond_lefts y1 (⟨(⟨y2, y3⟩ : S.Inter), (⟨y4, y5⟩ : S.Cong)⟩ : S.Value) (⟨(⟨y6, y7⟩ : S.Inter), (⟨y8, y9⟩ : S.Cong)⟩ : S.Value) y10), [S.cond_lefts_pre y1 (⟨(⟨y2, y3⟩ : S.Inter), (⟨y4, y5⟩ : S.Cong)⟩ : S.Value) (⟨(⟨y6, y7⟩ : S.Inter), (⟨y8, y9⟩ : S.Cong)⟩ : S.Value) y10])
  | _ => none
noncomputable def c105 : Cfg El := c148.add 105 sem105
theorem c105_ok : CfgOk c105 := c148_ok.add (fun args w => Tryz.call105 args w) (fun vs r outs ps h hp => by
  unfold sem105 at h
  split at h
  · rename_i y1 y2 y3 y4 y5 y6 y7 y8 y9 y10; cases h; exact fn105 y1 (⟨(⟨y2, y3⟩ : S.Inter), (⟨y4, y5⟩ : S.Cong)⟩ : S.Value) (⟨(⟨y6, y7⟩ : S.Inter), (⟨y8, y9⟩ : S.Cong)⟩ : S.Value) y10 hp
  · cases h)

noncomputable def body47 : Code := (Tryz.f47.body).getD .skip
theorem fn47 (op : Int) (a : S.Value) (b : S.Value) (truth : Bool) (hp : S.cond_Refine_pre op a b truth) : CallOk c105 47 [.int .i64 op, .agg [.int .i64 a.I.Lo, .int .i64 a.I.Hi, .int .u64 a.C.M, .int .u64 a.C.R], .agg [.int .i64 b.I.Lo, .int .i64 b.I.Hi, .int .u64 b.C.M, .int .u64 b.C.R], .bool truth] (wr_S27_S27 (S.cond_Refine op a b truth)) (wo_S27_S27 (S.cond_Refine op a b truth)) :=
  (call_ok (c := c105) (f := 47) (fn := Tryz.f47) (code := body47) (args := ([.int .i64 op, .agg [.int .i64 a.I.Lo, .int .i64 a.I.Hi, .int .u64 a.C.M, .int .u64 a.C.R], .agg [.int .i64 b.I.Lo, .int .i64 b.I.Hi, .int .u64 b.C.M, .int .u64 b.C.R], .bool truth])) (loop := noLoop) (md := ⟨false, false⟩) (rd := rd_S27_S27) (wr := wr_S27_S27) (wo := wo_S27_S27) (r := (S.cond_Refine op a b truth)) c105_ok (by kernel_rfl) (by kernel_rfl) (by kernel_rfl) (no_loops (by kernel_rfl)) (by kernel_rfl) (by kernel_rfl) (by kernel_rfl)
    rw_S27_S27 np_S27_S27 no_S27_S27 (by kernel_rfl) (Eq.mpr (show Vm.Tr.vc (Vm.Fn c105 Tryz.f47 body47 noLoop ([.int .i64 op, .agg [.int .i64 a.I.Lo, .int .i64 a.I.Hi, .int .u64 a.C.M, .int .u64 a.C.R], .agg [.int .i64 b.I.Lo, .int .i64 b.I.Hi, .int .u64 b.C.M, .int .u64 b.C.R], .bool truth])) = S.cond_Refine_pre op a b truth by kernel_rfl) hp))

noncomputable def sem47 : List W → Option (W × List (List W) × List Prop)
  | [.int .i64 y1, .agg [.int .i64 y2, .int .i64 y3, .int .u64 y4, .int .u64 y5], .agg [.int .i64 y6, .int .i64 y7, .int .u64 y8, .int .u64 y9], .bool y10] => some (wr_S27_S27 (S.cond_Refine y1 (⟨(⟨y2, y3⟩ : S.Inter), (⟨y4, y5⟩ : S.Cong)⟩ : S.Value) (⟨(⟨y6, y7⟩ : S.Inter), (⟨y8, y9⟩ : S.Cong)⟩ : S.Value) y10), wo_S27_S27 (S.cond_Refine y1 (⟨(⟨y2, y3⟩ : S.Inter), (⟨y4, y5⟩ : S.Cong)⟩ : S.Value) (⟨(⟨y6, y7⟩ : S.Inter), (⟨y8, y9⟩ : S.Cong)⟩ : S.Value) y10), [S.cond_Refine_pre y1 (⟨(⟨y2, y3⟩ : S.Inter), (⟨y4, y5⟩ : S.Cong)⟩ : S.Value) (⟨(⟨y6, y7⟩ : S.Inter), (⟨y8, y9⟩ : S.Cong)⟩ : S.Value) y10])
  | _ => none
noncomputable def c47 : Cfg El := c105.add 47 sem47
theorem c47_ok : CfgOk c47 := c105_ok.add (fun args w => Tryz.call47 args w) (fun vs r outs ps h hp => by
  unfold sem47 at h
  split at h
  · rename_i y1 y2 y3 y4 y5 y6 y7 y8 y9 y10; cases h; exact fn47 y1 (⟨(⟨y2, y3⟩ : S.Inter), (⟨y4, y5⟩ : S.Cong)⟩ : S.Value) (⟨(⟨y6, y7⟩ : S.Inter), (⟨y8, y9⟩ : S.Cong)⟩ : S.Value) y10 hp
  · cases h)

noncomputable def body131 : Code := (Tryz.f131.body).getD .skip
theorem fn131 (i : S.Inter) : CallOk c47 131 [.agg [.int .i64 i.Lo, .int .i64 i.Hi]] (wr_b (S.ref19_Empty i)) (wo_b (S.ref19_Empty i)) :=
  (call_ok (c := c47) (f := 131) (fn := Tryz.f131) (code := body131) (args := ([.agg [.int .i64 i.Lo, .int .i64 i.Hi]])) (loop := noLoop) (md := ⟨false, false⟩) (rd := rd_b) (wr := wr_b) (wo := wo_b) (r := (S.ref19_Empty i)) c47_ok (by kernel_rfl) (by kernel_rfl) (by kernel_rfl) (no_loops (by kernel_rfl)) (by kernel_rfl) (by kernel_rfl) (by kernel_rfl)
    rw_b np_b no_b (by kernel_rfl) (Tr.vc_of_noReq (by kernel_rfl)))

noncomputable def sem131 : List W → Option (W × List (List W) × List Prop)
  | [.agg [.int .i64 y1, .int .i64 y2]] => some (wr_b (S.ref19_Empty (⟨y1, y2⟩ : S.Inter)), wo_b (S.ref19_Empty (⟨y1, y2⟩ : S.Inter)), [])
  | _ => none
noncomputable def c131 : Cfg El := c47.add 131 sem131
theorem c131_ok : CfgOk c131 := c47_ok.add (fun args w => Tryz.call131 args w) (fun vs r outs ps h hp => by
  unfold sem131 at h
  split at h
  · rename_i y1 y2; cases h; exact fn131 (⟨y1, y2⟩ : S.Inter)
  · cases h)

noncomputable def body18 : Code := (Tryz.f18.body).getD .skip
theorem fn18 : CallOk c131 18 [] (wr_S31 (S.ref21_Bottom)) (wo_S31 (S.ref21_Bottom)) :=
  (call_ok (c := c131) (f := 18) (fn := Tryz.f18) (code := body18) (args := ([])) (loop := noLoop) (md := ⟨false, false⟩) (rd := rd_S31) (wr := wr_S31) (wo := wo_S31) (r := S.ref21_Bottom) c131_ok (by kernel_rfl) (by kernel_rfl) (by kernel_rfl) (no_loops (by kernel_rfl)) (by kernel_rfl) (by kernel_rfl) (by kernel_rfl)
    rw_S31 np_S31 no_S31 (by kernel_rfl) (Tr.vc_of_noReq (by kernel_rfl)))

noncomputable def sem18 : List W → Option (W × List (List W) × List Prop)
  | [] => some (wr_S31 (S.ref21_Bottom), wo_S31 (S.ref21_Bottom), [])
  | _ => none
noncomputable def c18 : Cfg El := c131.add 18 sem18
theorem c18_ok : CfgOk c18 := c131_ok.add (fun args w => Tryz.call18 args w) (fun vs r outs ps h hp => by
  unfold sem18 at h
  split at h
  · cases h; exact fn18
  · cases h)

noncomputable def body73 : Code := (Tryz.f73.body).getD .skip
theorem fn73 (i : S.Inter) (n : Int) : CallOk c18 73 [.agg [.int .i64 i.Lo, .int .i64 i.Hi], .int .i64 n] (wr_b (S.ref19_Has i n)) (wo_b (S.ref19_Has i n)) :=
  (call_ok (c := c18) (f := 73) (fn := Tryz.f73) (code := body73) (args := ([.agg [.int .i64 i.Lo, .int .i64 i.Hi], .int .i64 n])) (loop := noLoop) (md := ⟨false, false⟩) (rd := rd_b) (wr := wr_b) (wo := wo_b) (r := (S.ref19_Has i n)) c18_ok (by kernel_rfl) (by kernel_rfl) (by kernel_rfl) (no_loops (by kernel_rfl)) (by kernel_rfl) (by kernel_rfl) (by kernel_rfl)
    rw_b np_b no_b (by kernel_rfl) (Tr.vc_of_noReq (by kernel_rfl)))

noncomputable def sem73 : List W → Option (W × List (List W) × List Prop)
  | [.agg [.int .i64 y1, .int .i64 y2], .int .i64 y3] => some (wr_b (S.ref19_Has (⟨y1, y2⟩ : S.Inter) y3), wo_b (S.ref19_Has (⟨y1, y2⟩ : S.Inter) y3), [])
  | _ => none
noncomputable def c73 : Cfg El := c18.add 73 sem73
theorem c73_ok : CfgOk c73 := c18_ok.add (fun args w => Tryz.call73 args w) (fun vs r outs ps h hp => by
  unfold sem73 at h
  split at h
  · rename_i y1 y2 y3; cases h; exact fn73 (⟨y1, y2⟩ : S.Inter) y3
  · cases h)

noncomputable def body126 : Code := (Tryz.f126.body).getD .skip
theorem fn126 (n : Int) (m : Int) (hp : S.ref20_Rest_pre n m) : CallOk c73 126 [.int .i64 n, .int .u64 m] (wr_u64 (S.ref20_Rest n m)) (wo_u64 (S.ref20_Rest n m)) :=
  (call_ok (c := c73) (f := 126) (fn := Tryz.f126) (code := body126) (args := ([.int .i64 n, .int .u64 m])) (loop := noLoop) (md := ⟨false, false⟩) (rd := rd_u64) (wr := wr_u64) (wo := wo_u64) (r := (S.ref20_Rest n m)) c73_ok (by kernel_rfl) (by kernel_rfl) (by kernel_rfl) (no_loops (by kernel_rfl)) (by kernel_rfl) (by kernel_rfl) (by kernel_rfl)
    rw_u64 np_u64 no_u64 (by kernel_rfl) (Eq.mpr (show Vm.Tr.vc (Vm.Fn c73 Tryz.f126 body126 noLoop ([.int .i64 n, .int .u64 m])) = S.ref20_Rest_pre n m by kernel_rfl) hp))

noncomputable def sem126 : List W → Option (W × List (List W) × List Prop)
  | [.int .i64 y1, .int .u64 y2] => some (wr_u64 (S.ref20_Rest y1 y2), wo_u64 (S.ref20_Rest y1 y2), [S.ref20_Rest_pre y1 y2])
  | _ => none
noncomputable def c126 : Cfg El := c73.add 126 sem126
theorem c126_ok : CfgOk c126 := c73_ok.add (fun args w => Tryz.call126 args w) (fun vs r outs ps h hp => by
  unfold sem126 at h
  split at h
  · rename_i y1 y2; cases h; exact fn126 y1 y2 hp
  · cases h)

noncomputable def body81 : Code := (Tryz.f81.body).getD .skip
theorem fn81 (m : Int) (n : Int) (hp : S.ref20_Make_pre m n) : CallOk c126 81 [.int .u64 m, .int .i64 n] (wr_S25 (S.ref20_Make m n)) (wo_S25 (S.ref20_Make m n)) :=
  (call_ok (c := c126) (f := 81) (fn := Tryz.f81) (code := body81) (args := ([.int .u64 m, .int .i64 n])) (loop := noLoop) (md := ⟨false, false⟩) (rd := rd_S25) (wr := wr_S25) (wo := wo_S25) (r := (S.ref20_Make m n)) c126_ok (by kernel_rfl) (by kernel_rfl) (by kernel_rfl) (no_loops (by kernel_rfl)) (by kernel_rfl) (by kernel_rfl) (by kernel_rfl)
    rw_S25 np_S25 no_S25 (by kernel_rfl) (Eq.mpr (show Vm.Tr.vc (Vm.Fn c126 Tryz.f81 body81 noLoop ([.int .u64 m, .int .i64 n])) = S.ref20_Make_pre m n by kernel_rfl) hp))

noncomputable def sem81 : List W → Option (W × List (List W) × List Prop)
  | [.int .u64 y1, .int .i64 y2] => some (wr_S25 (S.ref20_Make y1 y2), wo_S25 (S.ref20_Make y1 y2), [S.ref20_Make_pre y1 y2])
  | _ => none
noncomputable def c81 : Cfg El := c126.add 81 sem81
theorem c81_ok : CfgOk c81 := c126_ok.add (fun args w => Tryz.call81 args w) (fun vs r outs ps h hp => by
  unfold sem81 at h
  split at h
  · rename_i y1 y2; cases h; exact fn81 y1 y2 hp
  · cases h)

noncomputable def body26 : Code := (Tryz.f26.body).getD .skip
theorem fn26 (n : Int) (hp : S.ref21_One_pre n) : CallOk c81 26 [.int .i64 n] (wr_S31 (S.ref21_One n)) (wo_S31 (S.ref21_One n)) :=
  (call_ok (c := c81) (f := 26) (fn := Tryz.f26) (code := body26) (args := ([.int .i64 n])) (loop := noLoop) (md := ⟨false, false⟩) (rd := rd_S31) (wr := wr_S31) (wo := wo_S31) (r := (S.ref21_One n)) c81_ok (by kernel_rfl) (by kernel_rfl) (by kernel_rfl) (no_loops (by kernel_rfl)) (by kernel_rfl) (by kernel_rfl) (by kernel_rfl)
    rw_S31 np_S31 no_S31 (by kernel_rfl) (Eq.mpr (show Vm.Tr.vc (Vm.Fn c81 Tryz.f26 body26 noLoop ([.int .i64 n])) = S.ref21_One_pre n by kernel_rfl) hp))

noncomputable def sem26 : List W → Option (W × List (List W) × List Prop)
  | [.int .i64 y1] => some (wr_S31 (S.ref21_One y1), wo_S31 (S.ref21_One y1), [S.ref21_One_pre y1])
  | _ => none
noncomputable def c26 : Cfg El := c81.add 26 sem26
theorem c26_ok : CfgOk c26 := c81_ok.add (fun args w => Tryz.call26 args w) (fun vs r outs ps h hp => by
  unfold sem26 at h
  split at h
  · rename_i y1; cases h; exact fn26 y1 hp
  · cases h)

noncomputable def body132 : Code := (Tryz.f132.body).getD .skip
theorem fn132 (c : S.Cong) (n : Int) (hp : S.ref21_up_pre c n) : CallOk c26 132 [.agg [.int .u64 c.M, .int .u64 c.R], .int .i64 n] (wr_u64 (S.ref21_up c n)) (wo_u64 (S.ref21_up c n)) :=
  (call_ok (c := c26) (f := 132) (fn := Tryz.f132) (code := body132) (args := ([.agg [.int .u64 c.M, .int .u64 c.R], .int .i64 n])) (loop := noLoop) (md := ⟨false, false⟩) (rd := rd_u64) (wr := wr_u64) (wo := wo_u64) (r := (S.ref21_up c n)) c26_ok (by kernel_rfl) (by kernel_rfl) (by kernel_rfl) (no_loops (by kernel_rfl)) (by kernel_rfl) (by kernel_rfl) (by kernel_rfl)
    rw_u64 np_u64 no_u64 (by kernel_rfl) (Eq.mpr (show Vm.Tr.vc (Vm.Fn c26 Tryz.f132 body132 noLoop ([.agg [.int .u64 c.M, .int .u64 c.R], .int .i64 n])) = S.ref21_up_pre c n by kernel_rfl) hp))

noncomputable def sem132 : List W → Option (W × List (List W) × List Prop)
  | [.agg [.int .u64 y1, .int .u64 y2], .int .i64 y3] => some (wr_u64 (S.ref21_up (⟨y1, y2⟩ : S.Cong) y3), wo_u64 (S.ref21_up (⟨y1, y2⟩ : S.Cong) y3), [S.ref21_up_pre (⟨y1, y2⟩ : S.Cong) y3])
  | _ => none
noncomputable def c132 : Cfg El := c26.add 132 sem132
theorem c132_ok : CfgOk c132 := c26_ok.add (fun args w => Tryz.call132 args w) (fun vs r outs ps h hp => by
  unfold sem132 at h
  split at h
  · rename_i y1 y2 y3; cases h; exact fn132 (⟨y1, y2⟩ : S.Cong) y3 hp
  · cases h)

noncomputable def body133 : Code := (Tryz.f133.body).getD .skip
theorem fn133 (c : S.Cong) (n : Int) (hp : S.ref21_down_pre c n) : CallOk c132 133 [.agg [.int .u64 c.M, .int .u64 c.R], .int .i64 n] (wr_u64 (S.ref21_down c n)) (wo_u64 (S.ref21_down c n)) :=
  (call_ok (c := c132) (f := 133) (fn := Tryz.f133) (code := body133) (args := ([.agg [.int .u64 c.M, .int .u64 c.R], .int .i64 n])) (loop := noLoop) (md := ⟨false, false⟩) (rd := rd_u64) (wr := wr_u64) (wo := wo_u64) (r := (S.ref21_down c n)) c132_ok (by kernel_rfl) (by kernel_rfl) (by kernel_rfl) (no_loops (by kernel_rfl)) (by kernel_rfl) (by kernel_rfl) (by kernel_rfl)
    rw_u64 np_u64 no_u64 (by kernel_rfl) (Eq.mpr (show Vm.Tr.vc (Vm.Fn c132 Tryz.f133 body133 noLoop ([.agg [.int .u64 c.M, .int .u64 c.R], .int .i64 n])) = S.ref21_down_pre c n by kernel_rfl) hp))

noncomputable def sem133 : List W → Option (W × List (List W) × List Prop)
  | [.agg [.int .u64 y1, .int .u64 y2], .int .i64 y3] => some (wr_u64 (S.ref21_down (⟨y1, y2⟩ : S.Cong) y3), wo_u64 (S.ref21_down (⟨y1, y2⟩ : S.Cong) y3), [S.ref21_down_pre (⟨y1, y2⟩ : S.Cong) y3])
  | _ => none
noncomputable def c133 : Cfg El := c132.add 133 sem133
theorem c133_ok : CfgOk c133 := c132_ok.add (fun args w => Tryz.call133 args w) (fun vs r outs ps h hp => by
  unfold sem133 at h
  split at h
  · rename_i y1 y2 y3; cases h; exact fn133 (⟨y1, y2⟩ : S.Cong) y3 hp
  · cases h)

noncomputable def body85 : Code := (Tryz.f85.body).getD .skip
theorem fn85 (i : S.Inter) (c : S.Cong) (hp : S.ref21_Make_pre i c) : CallOk c133 85 [.agg [.int .i64 i.Lo, .int .i64 i.Hi], .agg [.int .u64 c.M, .int .u64 c.R]] (wr_S31 (S.ref21_Make i c)) (wo_S31 (S.ref21_Make i c)) :=
  (call_ok (c := c133) (f := 85) (fn := Tryz.f85) (code := body85) (args := ([.agg [.int .i64 i.Lo, .int .i64 i.Hi], .agg [.int .u64 c.M, .int .u64 c.R]])) (loop := noLoop) (md := ⟨false, false⟩) (rd := rd_S31) (wr := wr_S31) (wo := wo_S31) (r := (S.ref21_Make i c)) c133_ok (by kernel_rfl) (by kernel_rfl) (by kernel_rfl) (no_loops (by kernel_rfl)) (by kernel_rfl) (by kernel_rfl) (by kernel_rfl)
    rw_S31 np_S31 no_S31 (by kernel_rfl) (Eq.mpr (show Vm.Tr.vc (Vm.Fn c133 Tryz.f85 body85 noLoop ([.agg [.int .i64 i.Lo, .int .i64 i.Hi], .agg [.int .u64 c.M, .int .u64 c.R]])) = S.ref21_Make_pre i c by kernel_rfl) hp))

noncomputable def sem85 : List W → Option (W × List (List W) × List Prop)
  | [.agg [.int .i64 y1, .int .i64 y2], .agg [.int .u64 y3, .int .u64 y4]] => some (wr_S31 (S.ref21_Make (⟨y1, y2⟩ : S.Inter) (⟨y3, y4⟩ : S.Cong)), wo_S31 (S.ref21_Make (⟨y1, y2⟩ : S.Inter) (⟨y3, y4⟩ : S.Cong)), [S.ref21_Make_pre (⟨y1, y2⟩ : S.Inter) (⟨y3, y4⟩ : S.Cong)])
  | _ => none
noncomputable def c85 : Cfg El := c133.add 85 sem85
theorem c85_ok : CfgOk c85 := c133_ok.add (fun args w => Tryz.call85 args w) (fun vs r outs ps h hp => by
  unfold sem85 at h
  split at h
  · rename_i y1 y2 y3 y4; cases h; exact fn85 (⟨y1, y2⟩ : S.Inter) (⟨y3, y4⟩ : S.Cong) hp
  · cases h)

noncomputable def body51 : Code := (Tryz.f51.body).getD .skip
theorem fn51 (v : S.Value) (hp : S.ref21_Plain_pre v) : CallOk c85 51 [.agg [.int .i64 v.I.Lo, .int .i64 v.I.Hi, .int .u64 v.C.M, .int .u64 v.C.R]] (wr_S31 (S.ref21_Plain v)) (wo_S31 (S.ref21_Plain v)) :=
  (call_ok (c := c85) (f := 51) (fn := Tryz.f51) (code := body51) (args := ([.agg [.int .i64 v.I.Lo, .int .i64 v.I.Hi, .int .u64 v.C.M, .int .u64 v.C.R]])) (loop := noLoop) (md := ⟨false, false⟩) (rd := rd_S31) (wr := wr_S31) (wo := wo_S31) (r := (S.ref21_Plain v)) c85_ok (by kernel_rfl) (by kernel_rfl) (by kernel_rfl) (no_loops (by kernel_rfl)) (by kernel_rfl) (by kernel_rfl) (by kernel_rfl)
    rw_S31 np_S31 no_S31 (by kernel_rfl) (Eq.mpr (show Vm.Tr.vc (Vm.Fn c85 Tryz.f51 body51 noLoop ([.agg [.int .i64 v.I.Lo, .int .i64 v.I.Hi, .int .u64 v.C.M, .int .u64 v.C.R]])) = S.ref21_Plain_pre v by kernel_rfl) hp))

noncomputable def sem51 : List W → Option (W × List (List W) × List Prop)
  | [.agg [.int .i64 y1, .int .i64 y2, .int .u64 y3, .int .u64 y4]] => some (wr_S31 (S.ref21_Plain (⟨(⟨y1, y2⟩ : S.Inter), (⟨y3, y4⟩ : S.Cong)⟩ : S.Value)), wo_S31 (S.ref21_Plain (⟨(⟨y1, y2⟩ : S.Inter), (⟨y3, y4⟩ : S.Cong)⟩ : S.Value)), [S.ref21_Plain_pre (⟨(⟨y1, y2⟩ : S.Inter), (⟨y3, y4⟩ : S.Cong)⟩ : S.Value)])
  | _ => none
noncomputable def c51 : Cfg El := c85.add 51 sem51
theorem c51_ok : CfgOk c51 := c85_ok.add (fun args w => Tryz.call51 args w) (fun vs r outs ps h hp => by
  unfold sem51 at h
  split at h
  · rename_i y1 y2 y3 y4; cases h; exact fn51 (⟨(⟨y1, y2⟩ : S.Inter), (⟨y3, y4⟩ : S.Cong)⟩ : S.Value) hp
  · cases h)

noncomputable def body74 : Code := (Tryz.f74.body).getD .skip
theorem fn74 (c : S.Cong) (n : Int) (hp : S.ref20_Has_pre c n) : CallOk c51 74 [.agg [.int .u64 c.M, .int .u64 c.R], .int .i64 n] (wr_b (S.ref20_Has c n)) (wo_b (S.ref20_Has c n)) :=
  (call_ok (c := c51) (f := 74) (fn := Tryz.f74) (code := body74) (args := ([.agg [.int .u64 c.M, .int .u64 c.R], .int .i64 n])) (loop := noLoop) (md := ⟨false, false⟩) (rd := rd_b) (wr := wr_b) (wo := wo_b) (r := (S.ref20_Has c n)) c51_ok (by kernel_rfl) (by kernel_rfl) (by kernel_rfl) (no_loops (by kernel_rfl)) (by kernel_rfl) (by kernel_rfl) (by kernel_rfl)
    rw_b np_b no_b (by kernel_rfl) (Eq.mpr (show Vm.Tr.vc (Vm.Fn c51 Tryz.f74 body74 noLoop ([.agg [.int .u64 c.M, .int .u64 c.R], .int .i64 n])) = S.ref20_Has_pre c n by kernel_rfl) hp))

noncomputable def sem74 : List W → Option (W × List (List W) × List Prop)
  | [.agg [.int .u64 y1, .int .u64 y2], .int .i64 y3] => some (wr_b (S.ref20_Has (⟨y1, y2⟩ : S.Cong) y3), wo_b (S.ref20_Has (⟨y1, y2⟩ : S.Cong) y3), [S.ref20_Has_pre (⟨y1, y2⟩ : S.Cong) y3])
  | _ => none
noncomputable def c74 : Cfg El := c51.add 74 sem74
theorem c74_ok : CfgOk c74 := c51_ok.add (fun args w => Tryz.call74 args w) (fun vs r outs ps h hp => by
  unfold sem74 at h
  split at h
  · rename_i y1 y2 y3; cases h; exact fn74 (⟨y1, y2⟩ : S.Cong) y3 hp
  · cases h)

noncomputable def body20 : Code := (Tryz.f20.body).getD .skip
theorem fn20 (v : S.Value) (n : Int) (hp : S.ref21_Has_pre v n) : CallOk c74 20 [.agg [.int .i64 v.I.Lo, .int .i64 v.I.Hi, .int .u64 v.C.M, .int .u64 v.C.R], .int .i64 n] (wr_b (S.ref21_Has v n)) (wo_b (S.ref21_Has v n)) :=
  (call_ok (c := c74) (f := 20) (fn := Tryz.f20) (code := body20) (args := ([.agg [.int .i64 v.I.Lo, .int .i64 v.I.Hi, .int .u64 v.C.M, .int .u64 v.C.R], .int .i64 n])) (loop := noLoop) (md := ⟨false, false⟩) (rd := rd_b) (wr := wr_b) (wo := wo_b) (r := (S.ref21_Has v n)) c74_ok (by kernel_rfl) (by kernel_rfl) (by kernel_rfl) (no_loops (by kernel_rfl)) (by kernel_rfl) (by kernel_rfl) (by kernel_rfl)
    rw_b np_b no_b (by kernel_rfl) (Eq.mpr (show Vm.Tr.vc (Vm.Fn c74 Tryz.f20 body20 noLoop ([.agg [.int .i64 v.I.Lo, .int .i64 v.I.Hi, .int .u64 v.C.M, .int .u64 v.C.R], .int .i64 n])) = S.ref21_Has_pre v n by kernel_rfl) hp))

noncomputable def sem20 : List W → Option (W × List (List W) × List Prop)
  | [.agg [.int .i64 y1, .int .i64 y2, .int .u64 y3, .int .u64 y4], .int .i64 y5] => some (wr_b (S.ref21_Has (⟨(⟨y1, y2⟩ : S.Inter), (⟨y3, y4⟩ : S.Cong)⟩ : S.Value) y5), wo_b (S.ref21_Has (⟨(⟨y1, y2⟩ : S.Inter), (⟨y3, y4⟩ : S.Cong)⟩ : S.Value) y5), [S.ref21_Has_pre (⟨(⟨y1, y2⟩ : S.Inter), (⟨y3, y4⟩ : S.Cong)⟩ : S.Value) y5])
  | _ => none
noncomputable def c20 : Cfg El := c74.add 20 sem20
theorem c20_ok : CfgOk c20 := c74_ok.add (fun args w => Tryz.call20 args w) (fun vs r outs ps h hp => by
  unfold sem20 at h
  split at h
  · rename_i y1 y2 y3 y4 y5; cases h; exact fn20 (⟨(⟨y1, y2⟩ : S.Inter), (⟨y3, y4⟩ : S.Cong)⟩ : S.Value) y5 hp
  · cases h)

noncomputable def body50 : Code := (Tryz.f50.body).getD .skip
theorem fn50 (v : S.Value) (hp : S.ref24_Truth_pre v) : CallOk c20 50 [.agg [.int .i64 v.I.Lo, .int .i64 v.I.Hi, .int .u64 v.C.M, .int .u64 v.C.R]] (wr_b_b (S.ref24_Truth v)) (wo_b_b (S.ref24_Truth v)) :=
  (call_ok (c := c20) (f := 50) (fn := Tryz.f50) (code := body50) (args := ([.agg [.int .i64 v.I.Lo, .int .i64 v.I.Hi, .int .u64 v.C.M, .int .u64 v.C.R]])) (loop := noLoop) (md := ⟨false, false⟩) (rd := rd_b_b) (wr := wr_b_b) (wo := wo_b_b) (r := (S.ref24_Truth v)) c20_ok (by kernel_rfl) (by kernel_rfl) (by kernel_rfl) (no_loops (by kernel_rfl)) (by kernel_rfl) (by kernel_rfl) (by kernel_rfl)
    rw_b_b np_b_b no_b_b (by kernel_rfl) (Eq.mpr (show Vm.Tr.vc (Vm.Fn c20 Tryz.f50 body50 noLoop ([.agg [.int .i64 v.I.Lo, .int .i64 v.I.Hi, .int .u64 v.C.M, .int .u64 v.C.R]])) = S.ref24_Truth_pre v by kernel_rfl) hp))

noncomputable def sem50 : List W → Option (W × List (List W) × List Prop)
  | [.agg [.int .i64 y1, .int .i64 y2, .int .u64 y3, .int .u64 y4]] => some (wr_b_b (S.ref24_Truth (⟨(⟨y1, y2⟩ : S.Inter), (⟨y3, y4⟩ : S.Cong)⟩ : S.Value)), wo_b_b (S.ref24_Truth (⟨(⟨y1, y2⟩ : S.Inter), (⟨y3, y4⟩ : S.Cong)⟩ : S.Value)), [S.ref24_Truth_pre (⟨(⟨y1, y2⟩ : S.Inter), (⟨y3, y4⟩ : S.Cong)⟩ : S.Value)])
  | _ => none
noncomputable def c50 : Cfg El := c20.add 50 sem50
theorem c50_ok : CfgOk c50 := c20_ok.add (fun args w => Tryz.call50 args w) (fun vs r outs ps h hp => by
  unfold sem50 at h
  split at h
  · rename_i y1 y2 y3 y4; cases h; exact fn50 (⟨(⟨y1, y2⟩ : S.Inter), (⟨y3, y4⟩ : S.Cong)⟩ : S.Value) hp
  · cases h)

noncomputable def body135 : Code := (Tryz.f135.body).getD .skip
noncomputable def semr135 (n : Nat) : List W → Option (W × List (List W) × List Prop)
  | [.int .u64 y1, .int .u64 y2] => some (wr_u64 (S.ref20_Gcd_F n y1 y2), wo_u64 (S.ref20_Gcd_F n y1 y2), [S.ref20_Gcd_D n y1 y2])
  | _ => none
theorem fns135 (n : Nat) (hc : CfgOk (c50.add 135 (semr135 n))) (a : Int) (b : Int) (hp : S.ref20_Gcd_D (n + 1) a b) : CallOk (c50.add 135 (semr135 n)) 135 [.int .u64 a, .int .u64 b] (wr_u64 (S.ref20_Gcd_F (n + 1) a b)) (wo_u64 (S.ref20_Gcd_F (n + 1) a b)) :=
  (call_ok (c := (c50.add 135 (semr135 n))) (f := 135) (fn := Tryz.f135) (code := body135) (args := ([.int .u64 a, .int .u64 b])) (loop := noLoop) (md := ⟨false, false⟩) (rd := rd_u64) (wr := wr_u64) (wo := wo_u64) (r := (S.ref20_Gcd_F (n + 1) a b)) hc (by kernel_rfl) (by kernel_rfl) (by kernel_rfl) (no_loops (by kernel_rfl)) (by kernel_rfl) (by kernel_rfl) (by kernel_rfl)
    rw_u64 np_u64 no_u64 (by kernel_rfl) (Eq.mpr (show Vm.Tr.vc (Vm.Fn (c50.add 135 (semr135 n)) Tryz.f135 body135 noLoop ([.int .u64 a, .int .u64 b])) = S.ref20_Gcd_D (n + 1) a b by kernel_rfl) hp))

theorem fnr135 (n : Nat) : ∀ (a : Int) (b : Int), S.ref20_Gcd_D n a b → CallOk c50 135 [.int .u64 a, .int .u64 b] (wr_u64 (S.ref20_Gcd_F n a b)) (wo_u64 (S.ref20_Gcd_F n a b)) := by
  induction n with
  | zero => intro a b hp; exact False.elim hp
  | succ n ih =>
    intro a b hp
    have hc : CfgOk (c50.add 135 (semr135 n)) := c50_ok.add (fun args w => Tryz.call135 args w) (fun vs r outs ps h hp => by
      unfold semr135 at h
      split at h
      · cases h; exact ih _ _ hp
      · cases h)
    exact CallOk.same (c := (c50.add 135 (semr135 n))) (c' := c50) rfl rfl rfl rfl (fns135 n hc a b hp)
theorem fn135 (a : Int) (b : Int) (hp : S.ref20_Gcd_pre a b) : CallOk c50 135 [.int .u64 a, .int .u64 b] (wr_u64 (S.ref20_Gcd a b)) (wo_u64 (S.ref20_Gcd a b)) := fnr135 _ a b (Classical.epsilon_spec hp)

noncomputable def sem135 : List W → Option (W × List (List W) × List Prop)
  | [.int .u64 y1, .int .u64 y2] => some (wr_u64 (S.ref20_Gcd y1 y2), wo_u64 (S.ref20_Gcd y1 y2), [S.ref20_Gcd_pre y1 y2])
  | _ => none
noncomputable def c135 : Cfg El := c50.add 135 sem135
theorem c135_ok : CfgOk c135 := c50_ok.add (fun args w => Tryz.call135 args w) (fun vs r outs ps h hp => by
  unfold sem135 at h
  split at h
  · rename_i y1 y2; cases h; exact fn135 y1 y2 hp
  · cases h)

noncomputable def body137 : Code := (Tryz.f137.body).getD .skip
theorem fn137 (c : S.Cong) (g : Int) (hp : S.ref20_Of_pre c g) : CallOk c135 137 [.agg [.int .u64 c.M, .int .u64 c.R], .int .u64 g] (wr_u64 (S.ref20_Of c g)) (wo_u64 (S.ref20_Of c g)) :=
  (call_ok (c := c135) (f := 137) (fn := Tryz.f137) (code := body137) (args := ([.agg [.int .u64 c.M, .int .u64 c.R], .int .u64 g])) (loop := noLoop) (md := ⟨false, false⟩) (rd := rd_u64) (wr := wr_u64) (wo := wo_u64) (r := (S.ref20_Of c g)) c135_ok (by kernel_rfl) (by kernel_rfl) (by kernel_rfl) (no_loops (by kernel_rfl)) (by kernel_rfl) (by kernel_rfl) (by kernel_rfl)
    rw_u64 np_u64 no_u64 (by kernel_rfl) (Eq.mpr (show Vm.Tr.vc (Vm.Fn c135 Tryz.f137 body137 noLoop ([.agg [.int .u64 c.M, .int .u64 c.R], .int .u64 g])) = S.ref20_Of_pre c g by kernel_rfl) hp))

noncomputable def sem137 : List W → Option (W × List (List W) × List Prop)
  | [.agg [.int .u64 y1, .int .u64 y2], .int .u64 y3] => some (wr_u64 (S.ref20_Of (⟨y1, y2⟩ : S.Cong) y3), wo_u64 (S.ref20_Of (⟨y1, y2⟩ : S.Cong) y3), [S.ref20_Of_pre (⟨y1, y2⟩ : S.Cong) y3])
  | _ => none
noncomputable def c137 : Cfg El := c135.add 137 sem137
theorem c137_ok : CfgOk c137 := c135_ok.add (fun args w => Tryz.call137 args w) (fun vs r outs ps h hp => by
  unfold sem137 at h
  split at h
  · rename_i y1 y2 y3; cases h; exact fn137 (⟨y1, y2⟩ : S.Cong) y3 hp
  · cases h)

noncomputable def body138 : Code := (Tryz.f138.body).getD .skip
theorem fn138 (a : S.Cong) (b : S.Cong) (hp : S.ref20_Within_pre a b) : CallOk c137 138 [.agg [.int .u64 a.M, .int .u64 a.R], .agg [.int .u64 b.M, .int .u64 b.R]] (wr_b (S.ref20_Within a b)) (wo_b (S.ref20_Within a b)) :=
  (call_ok (c := c137) (f := 138) (fn := Tryz.f138) (code := body138) (args := ([.agg [.int .u64 a.M, .int .u64 a.R], .agg [.int .u64 b.M, .int .u64 b.R]])) (loop := noLoop) (md := ⟨false, false⟩) (rd := rd_b) (wr := wr_b) (wo := wo_b) (r := (S.ref20_Within a b)) c137_ok (by kernel_rfl) (by kernel_rfl) (by kernel_rfl) (no_loops (by kernel_rfl)) (by kernel_rfl) (by kernel_rfl) (by kernel_rfl)
    rw_b np_b no_b (by kernel_rfl) (Eq.mpr (show Vm.Tr.vc (Vm.Fn c137 Tryz.f138 body138 noLoop ([.agg [.int .u64 a.M, .int .u64 a.R], .agg [.int .u64 b.M, .int .u64 b.R]])) = S.ref20_Within_pre a b by kernel_rfl) hp))

noncomputable def sem138 : List W → Option (W × List (List W) × List Prop)
  | [.agg [.int .u64 y1, .int .u64 y2], .agg [.int .u64 y3, .int .u64 y4]] => some (wr_b (S.ref20_Within (⟨y1, y2⟩ : S.Cong) (⟨y3, y4⟩ : S.Cong)), wo_b (S.ref20_Within (⟨y1, y2⟩ : S.Cong) (⟨y3, y4⟩ : S.Cong)), [S.ref20_Within_pre (⟨y1, y2⟩ : S.Cong) (⟨y3, y4⟩ : S.Cong)])
  | _ => none
noncomputable def c138 : Cfg El := c137.add 138 sem138
theorem c138_ok : CfgOk c138 := c137_ok.add (fun args w => Tryz.call138 args w) (fun vs r outs ps h hp => by
  unfold sem138 at h
  split at h
  · rename_i y1 y2 y3 y4; cases h; exact fn138 (⟨y1, y2⟩ : S.Cong) (⟨y3, y4⟩ : S.Cong) hp
  · cases h)

noncomputable def body88 : Code := (Tryz.f88.body).getD .skip
theorem fn88 (a : S.Cong) (b : S.Cong) (hp : S.ref20_Meet_pre a b) : CallOk c138 88 [.agg [.int .u64 a.M, .int .u64 a.R], .agg [.int .u64 b.M, .int .u64 b.R]] (wr_S25_b (S.ref20_Meet a b)) (wo_S25_b (S.ref20_Meet a b)) :=
  (call_ok (c := c138) (f := 88) (fn := Tryz.f88) (code := body88) (args := ([.agg [.int .u64 a.M, .int .u64 a.R], .agg [.int .u64 b.M, .int .u64 b.R]])) (loop := noLoop) (md := ⟨false, false⟩) (rd := rd_S25_b) (wr := wr_S25_b) (wo := wo_S25_b) (r := (S.ref20_Meet a b)) c138_ok (by kernel_rfl) (by kernel_rfl) (by kernel_rfl) (no_loops (by kernel_rfl)) (by kernel_rfl) (by kernel_rfl) (by kernel_rfl)
    rw_S25_b np_S25_b no_S25_b (by kernel_rfl) (Eq.mpr (show Vm.Tr.vc (Vm.Fn c138 Tryz.f88 body88 noLoop ([.agg [.int .u64 a.M, .int .u64 a.R], .agg [.int .u64 b.M, .int .u64 b.R]])) = S.ref20_Meet_pre a b by kernel_rfl) hp))

noncomputable def sem88 : List W → Option (W × List (List W) × List Prop)
  | [.agg [.int .u64 y1, .int .u64 y2], .agg [.int .u64 y3, .int .u64 y4]] => some (wr_S25_b (S.ref20_Meet (⟨y1, y2⟩ : S.Cong) (⟨y3, y4⟩ : S.Cong)), wo_S25_b (S.ref20_Meet (⟨y1, y2⟩ : S.Cong) (⟨y3, y4⟩ : S.Cong)), [S.ref20_Meet_pre (⟨y1, y2⟩ : S.Cong) (⟨y3, y4⟩ : S.Cong)])
  | _ => none
noncomputable def c88 : Cfg El := c138.add 88 sem88
theorem c88_ok : CfgOk c88 := c138_ok.add (fun args w => Tryz.call88 args w) (fun vs r outs ps h hp => by
  unfold sem88 at h
  split at h
  · rename_i y1 y2 y3 y4; cases h; exact fn88 (⟨y1, y2⟩ : S.Cong) (⟨y3, y4⟩ : S.Cong) hp
  · cases h)

noncomputable def body134 : Code := (Tryz.f134.body).getD .skip
theorem fn134 (i : S.Inter) : CallOk c88 134 [.agg [.int .i64 i.Lo, .int .i64 i.Hi]] (wr_S22 (S.ref19_Plain i)) (wo_S22 (S.ref19_Plain i)) :=
  (call_ok (c := c88) (f := 134) (fn := Tryz.f134) (code := body134) (args := ([.agg [.int .i64 i.Lo, .int .i64 i.Hi]])) (loop := noLoop) (md := ⟨false, false⟩) (rd := rd_S22) (wr := wr_S22) (wo := wo_S22) (r := (S.ref19_Plain i)) c88_ok (by kernel_rfl) (by kernel_rfl) (by kernel_rfl) (no_loops (by kernel_rfl)) (by kernel_rfl) (by kernel_rfl) (by kernel_rfl)
    rw_S22 np_S22 no_S22 (by kernel_rfl) (Tr.vc_of_noReq (by kernel_rfl)))

noncomputable def sem134 : List W → Option (W × List (List W) × List Prop)
  | [.agg [.int .i64 y1, .int .i64 y2]] => some (wr_S22 (S.ref19_Plain (⟨y1, y2⟩ : S.Inter)), wo_S22 (S.ref19_Plain (⟨y1, y2⟩ : S.Inter)), [])
  | _ => none
noncomputable def c134 : Cfg El := c88.add 134 sem134
theorem c134_ok : CfgOk c134 := c88_ok.add (fun args w => Tryz.call134 args w) (fun vs r outs ps h hp => by
  unfold sem134 at h
  split at h
  · rename_i y1 y2; cases h; exact fn134 (⟨y1, y2⟩ : S.Inter)
  · cases h)

noncomputable def body89 : Code := (Tryz.f89.body).getD .skip
theorem fn89 (a : S.Inter) (b : S.Inter) : CallOk c134 89 [.agg [.int .i64 a.Lo, .int .i64 a.Hi], .agg [.int .i64 b.Lo, .int .i64 b.Hi]] (wr_S22 (S.ref19_Meet a b)) (wo_S22 (S.ref19_Meet a b)) :=
  (call_ok (c := c134) (f := 89) (fn := Tryz.f89) (code := body89) (args := ([.agg [.int .i64 a.Lo, .int .i64 a.Hi], .agg [.int .i64 b.Lo, .int .i64 b.Hi]])) (loop := noLoop) (md := ⟨false, false⟩) (rd := rd_S22) (wr := wr_S22) (wo := wo_S22) (r := (S.ref19_Meet a b)) c134_ok (by kernel_rfl) (by kernel_rfl) (by kernel_rfl) (no_loops (by kernel_rfl)) (by kernel_rfl) (by kernel_rfl) (by kernel_rfl)
    rw_S22 np_S22 no_S22 (by kernel_rfl) (Tr.vc_of_noReq (by kernel_rfl)))

noncomputable def sem89 : List W → Option (W × List (List W) × List Prop)
  | [.agg [.int .i64 y1, .int .i64 y2], .agg [.int .i64 y3, .int .i64 y4]] => some (wr_S22 (S.ref19_Meet (⟨y1, y2⟩ : S.Inter) (⟨y3, y4⟩ : S.Inter)), wo_S22 (S.ref19_Meet (⟨y1, y2⟩ : S.Inter) (⟨y3, y4⟩ : S.Inter)), [])
  | _ => none
noncomputable def c89 : Cfg El := c134.add 89 sem89
theorem c89_ok : CfgOk c89 := c134_ok.add (fun args w => Tryz.call89 args w) (fun vs r outs ps h hp => by
  unfold sem89 at h
  split at h
  · rename_i y1 y2 y3 y4; cases h; exact fn89 (⟨y1, y2⟩ : S.Inter) (⟨y3, y4⟩ : S.Inter)
  · cases h)

noncomputable def body181 : Code := (Tryz.f181.body).getD .skip
theorem fn181 (v : S.Value) (i : S.Inter) (c : S.Cong) (hp : S.ref24_within_pre v i c) : CallOk c89 181 [.agg [.int .i64 v.I.Lo, .int .i64 v.I.Hi, .int .u64 v.C.M, .int .u64 v.C.R], .agg [.int .i64 i.Lo, .int .i64 i.Hi], .agg [.int .u64 c.M, .int .u64 c.R]] (wr_S31 (S.ref24_within v i c)) (wo_S31 (S.ref24_within v i c)) :=
  (call_ok (c := c89) (f := 181) (fn := Tryz.f181) (code := body181) (args := ([.agg [.int .i64 v.I.Lo, .int .i64 v.I.Hi, .int .u64 v.C.M, .int .u64 v.C.R], .agg [.int .i64 i.Lo, .int .i64 i.Hi], .agg [.int .u64 c.M, .int .u64 c.R]])) (loop := noLoop) (md := ⟨false, false⟩) (rd := rd_S31) (wr := wr_S31) (wo := wo_S31) (r := (S.ref24_within v i c)) c89_ok (by kernel_rfl) (by kernel_rfl) (by kernel_rfl) (no_loops (by kernel_rfl)) (by kernel_rfl) (by kernel_rfl) (by kernel_rfl)
    rw_S31 np_S31 no_S31 (by kernel_rfl) (Eq.mpr (show Vm.Tr.vc (Vm.Fn c89 Tryz.f181 body181 noLoop ([.agg [.int .i64 v.I.Lo, .int .i64 v.I.Hi, .int .u64 v.C.M, .int .u64 v.C.R], .agg [.int .i64 i.Lo, .int .i64 i.Hi], .agg [.int .u64 c.M, .int .u64 c.R]])) = S.ref24_within_pre v i c by kernel_rfl) hp))

noncomputable def sem181 : List W → Option (W × List (List W) × List Prop)
  | [.agg [.int .i64 y1, .int .i64 y2, .int .u64 y3, .int .u64 y4], .agg [.int .i64 y5, .int .i64 y6], .agg [.int .u64 y7, .int .u64 y8]] => some (wr_S31 (S.ref24_within (⟨(⟨y1, y2⟩ : S.Inter), (⟨y3, y4⟩ : S.Cong)⟩ : S.Value) (⟨y5, y6⟩ : S.Inter) (⟨y7, y8⟩ : S.Cong)), wo_S31 (S.ref24_within (⟨(⟨y1, y2⟩ : S.Inter), (⟨y3, y4⟩ : S.Cong)⟩ : S.Value) (⟨y5, y6⟩ : S.Inter) (⟨y7, y8⟩ : S.Cong)), [S.ref24_within_pre (⟨(⟨y1, y2⟩ : S.Inter), (⟨y3, y4⟩ : S.Cong)⟩ : S.Value) (⟨y5, y6⟩ : S.Inter) (⟨y7, y8⟩ : S.Cong)])
  | _ => none
noncomputable def c181 : Cfg El := c89.add 181 sem181
theorem c181_ok : CfgOk c181 := c89_ok.add (fun args w => Tryz.call181 args w) (fun vs r outs ps h hp => by
  unfold sem181 at h
  split at h
  · rename_i y1 y2 y3 y4 y5 y6 y7 y8; cases h; exact fn181 (⟨(⟨y1, y2⟩ : S.Inter), (⟨y3, y4⟩ : S.Cong)⟩ : S.Value) (⟨y5, y6⟩ : S.Inter) (⟨y7, y8⟩ : S.Cong) hp
  · cases h)

noncomputable def rd_S31_S31 : W → List (List W) → Option (S.Value × S.Value)
  | .tup [.agg [.int .i64 x1, .int .i64 x2, .int .u64 x3, .int .u64 x4], .agg [.int .i64 x5, .int .i64 x6, .int .u64 x7, .int .u64 x8]], [] => some ⟨⟨⟨x1, x2⟩, ⟨x3, x4⟩⟩, ⟨⟨x5, x6⟩, ⟨x7, x8⟩⟩⟩
  | _, _ => none
noncomputable def wr_S31_S31 (x : S.Value × S.Value) : W := .tup [.agg [.int .i64 x.1.I.Lo, .int .i64 x.1.I.Hi, .int .u64 x.1.C.M, .int .u64 x.1.C.R], .agg [.int .i64 x.2.I.Lo, .int .i64 x.2.I.Hi, .int .u64 x.2.C.M, .int .u64 x.2.C.R]]
noncomputable def wo_S31_S31 (_x : S.Value × S.Value) : List (List W) := []
theorem rw_S31_S31 (v : W) (os : List (List W)) (x : S.Value × S.Value) (h : rd_S31_S31 v os = some x) : v = wr_S31_S31 x ∧ os = wo_S31_S31 x := by
  unfold rd_S31_S31 at h
  split at h <;> first | (cases h; exact ⟨rfl, rfl⟩) | cases h
theorem np_S31_S31 (x : S.Value × S.Value) : okv (fun _ => false) (wr_S31_S31 x) = true := rfl
theorem no_S31_S31 (x : S.Value × S.Value) : all (fun cs => all (ok0 fun _ => false) cs) (wo_S31_S31 x) = true := rfl

noncomputable def body149 : Code := (Tryz.f149.body).getD .skip
theorem fn149 (a : S.Value) (b : S.Value) (hp : S.ref24_alike_pre a b) : CallOk c181 149 [.agg [.int .i64 a.I.Lo, .int .i64 a.I.Hi, .int .u64 a.C.M, .int .u64 a.C.R], .agg [.int .i64 b.I.Lo, .int .i64 b.I.Hi, .int .u64 b.C.M, .int .u64 b.C.R]] (wr_S31_S31 (S.ref24_alike a b)) (wo_S31_S31 (S.ref24_alike a b)) :=
  (call_ok (c := c181) (f := 149) (fn := Tryz.f149) (code := body149) (args := ([.agg [.int .i64 a.I.Lo, .int .i64 a.I.Hi, .int .u64 a.C.M, .int .u64 a.C.R], .agg [.int .i64 b.I.Lo, .int .i64 b.I.Hi, .int .u64 b.C.M, .int .u64 b.C.R]])) (loop := noLoop) (md := ⟨false, false⟩) (rd := rd_S31_S31) (wr := wr_S31_S31) (wo := wo_S31_S31) (r := (S.ref24_alike a b)) c181_ok (by kernel_rfl) (by kernel_rfl) (by kernel_rfl) (no_loops (by kernel_rfl)) (by kernel_rfl) (by kernel_rfl) (by kernel_rfl)
    rw_S31_S31 np_S31_S31 no_S31_S31 (by kernel_rfl) (Eq.mpr (show Vm.Tr.vc (Vm.Fn c181 Tryz.f149 body149 noLoop ([.agg [.int .i64 a.I.Lo, .int .i64 a.I.Hi, .int .u64 a.C.M, .int .u64 a.C.R], .agg [.int .i64 b.I.Lo, .int .i64 b.I.Hi, .int .u64 b.C.M, .int .u64 b.C.R]])) = S.ref24_alike_pre a b by kernel_rfl) hp))

noncomputable def sem149 : List W → Option (W × List (List W) × List Prop)
  | [.agg [.int .i64 y1, .int .i64 y2, .int .u64 y3, .int .u64 y4], .agg [.int .i64 y5, .int .i64 y6, .int .u64 y7, .int .u64 y8]] => some (wr_S31_S31 (S.ref24_alike (⟨(⟨y1, y2⟩ : S.Inter), (⟨y3, y4⟩ : S.Cong)⟩ : S.Value) (⟨(⟨y5, y6⟩ : S.Inter), (⟨y7, y8⟩ : S.Cong)⟩ : S.Value)), wo_S31_S31 (S.ref24_alike (⟨(⟨y1, y2⟩ : S.Inter), (⟨y3, y4⟩ : S.Cong)⟩ : S.Value) (⟨(⟨y5, y6⟩ : S.Inter), (⟨y7, y8⟩ : S.Cong)⟩ : S.Value)), [S.ref24_alike_pre (⟨(⟨y1, y2⟩ : S.Inter), (⟨y3, y4⟩ : S.Cong)⟩ : S.Value) (⟨(⟨y5, y6⟩ : S.Inter), (⟨y7, y8⟩ : S.Cong)⟩ : S.Value)])
  | _ => none
noncomputable def c149 : Cfg El := c181.add 149 sem149
theorem c149_ok : CfgOk c149 := c181_ok.add (fun args w => Tryz.call149 args w) (fun vs r outs ps h hp => by
  unfold sem149 at h
  split at h
  · rename_i y1 y2 y3 y4 y5 y6 y7 y8; cases h; exact fn149 (⟨(⟨y1, y2⟩ : S.Inter), (⟨y3, y4⟩ : S.Cong)⟩ : S.Value) (⟨(⟨y5, y6⟩ : S.Inter), (⟨y7, y8⟩ : S.Cong)⟩ : S.Value) hp
  · cases h)

noncomputable def body106 : Code := (Tryz.f106.body).getD .skip
noncomputable def semr106 (n : Nat) : List W → Option (W × List (List W) × List Prop)
  | [.int .i64 y1, .agg [.int .i64 y2, .int .i64 y3, .int .u64 y4, .int .u64 y5], .agg [.int .i64 y6, .int .i64 y7, .int .u64 y8, .int .u64 y9]] => some (wr_b_b (S.ref24_tells_F n y1 (⟨(⟨y2, y3⟩ : S.Inter), (⟨y4, y5⟩ : S.Cong)⟩ : S.Value) (⟨(⟨y6, y7⟩ : S.Inter), (⟨y8, y9⟩ : S.Cong)⟩ : S.Value)), wo_b_b (S.ref24_tells_F n y1 (⟨(⟨y2, y3⟩ : S.Inter), (⟨y4, y5⟩ : S.Cong)⟩ : S.Value) (⟨(⟨y6, y7⟩ : S.Inter), (⟨y8, y9⟩ : S.Cong)⟩ : S.Value)), [S.ref24_tells_D n y1 (⟨(⟨y2, y3⟩ : S.Inter), (⟨y4, y5⟩ : S.Cong)⟩ : S.Value) (⟨(⟨y6, y7⟩ : S.Inter), (⟨y8, y9⟩ : S.Cong)⟩ : S.Value)])
  | _ => none
theorem fns106 (n : Nat) (hc : CfgOk (c149.add 106 (semr106 n))) (op : Int) (a : S.Value) (b : S.Value) (hp : S.ref24_tells_D (n + 1) op a b) : CallOk (c149.add 106 (semr106 n)) 106 [.int .i64 op, .agg [.int .i64 a.I.Lo, .int .i64 a.I.Hi, .int .u64 a.C.M, .int .u64 a.C.R], .agg [.int .i64 b.I.Lo, .int .i64 b.I.Hi, .int .u64 b.C.M, .int .u64 b.C.R]] (wr_b_b (S.ref24_tells_F (n + 1) op a b)) (wo_b_b (S.ref24_tells_F (n + 1) op a b)) :=
  (call_ok (c := (c149.add 106 (semr106 n))) (f := 106) (fn := Tryz.f106) (code := body106) (args := ([.int .i64 op, .agg [.int .i64 a.I.Lo, .int .i64 a.I.Hi, .int .u64 a.C.M, .int .u64 a.C.R], .agg [.int .i64 b.I.Lo, .int .i64 b.I.Hi, .int .u64 b.C.M, .int .u64 b.C.R]])) (loop := noLoop) (md := ⟨false, false⟩) (rd := rd_b_b) (wr := wr_b_b) (wo := wo_b_b) (r := (S.ref24_tells_F (n + 1) op a b)) hc (by kernel_rfl) (by kernel_rfl) (by kernel_rfl) (no_loops (by kernel_rfl)) (by kernel_rfl) (by kernel_rfl) (by kernel_rfl)
    rw_b_b np_b_b no_b_b (by kernel_rfl) (Eq.mpr (show Vm.Tr.vc (Vm.Fn (c149.add 106 (semr106 n)) Tryz.f106 body106 noLoop ([.int .i64 op, .agg [.int .i64 a.I.Lo, .int .i64 a.I.Hi, .int .u64 a.C.M, .int .u64 a.C.R], .agg [.int .i64 b.I.Lo, .int .i64 b.I.Hi, .int .u64 b.C.M, .int .u64 b.C.R]])) = S.ref24_tells_D (n + 1) op a b by kernel_rfl) hp))

theorem fnr106 (n : Nat) : ∀ (op : Int) (a : S.Value) (b : S.Value), S.ref24_tells_D n op a b → CallOk c149 106 [.int .i64 op, .agg [.int .i64 a.I.Lo, .int .i64 a.I.Hi, .int .u64 a.C.M, .int .u64 a.C.R], .agg [.int .i64 b.I.Lo, .int .i64 b.I.Hi, .int .u64 b.C.M, .int .u64 b.C.R]] (wr_b_b (S.ref24_tells_F n op a b)) (wo_b_b (S.ref24_tells_F n op a b)) := by
  induction n with
  | zero => intro op a b hp; exact False.elim hp
  | succ n ih =>
    intro op a b hp
    have hc : CfgOk (c149.add 106 (semr106 n)) := c149_ok.add (fun args w => Tryz.call106 args w) (fun vs r outs ps h hp => by
      unfold semr106 at h
      split at h
      · cases h; exact ih _ _ _ hp
      · cases h)
    exact CallOk.same (c := (c149.add 106 (semr106 n))) (c' := c149) rfl rfl rfl rfl (fns106 n hc op a b hp)
theorem fn106 (op : Int) (a : S.Value) (b : S.Value) (hp : S.ref24_tells_pre op a b) : CallOk c149 106 [.int .i64 op, .agg [.int .i64 a.I.Lo, .int .i64 a.I.Hi, .int .u64 a.C.M, .int .u64 a.C.R], .agg [.int .i64 b.I.Lo, .int .i64 b.I.Hi, .int .u64 b.C.M, .int .u64 b.C.R]] (wr_b_b (S.ref24_tells op a b)) (wo_b_b (S.ref24_tells op a b)) := fnr106 _ op a b (Classical.epsilon_spec hp)

noncomputable def sem106 : List W → Option (W × List (List W) × List Prop)
  | [.int .i64 y1, .agg [.int .i64 y2, .int .i64 y3, .int .u64 y4, .int .u64 y5], .agg [.int .i64 y6, .int .i64 y7, .int .u64 y8, .int .u64 y9]] => some (wr_b_b (S.ref24_tells y1 (⟨(⟨y2, y3⟩ : S.Inter), (⟨y4, y5⟩ : S.Cong)⟩ : S.Value) (⟨(⟨y6, y7⟩ : S.Inter), (⟨y8, y9⟩ : S.Cong)⟩ : S.Value)), wo_b_b (S.ref24_tells y1 (⟨(⟨y2, y3⟩ : S.Inter), (⟨y4, y5⟩ : S.Cong)⟩ : S.Value) (⟨(⟨y6, y7⟩ : S.Inter), (⟨y8, y9⟩ : S.Cong)⟩ : S.Value)), [S.ref24_tells_pre y1 (⟨(⟨y2, y3⟩ : S.Inter), (⟨y4, y5⟩ : S.Cong)⟩ : S.Value) (⟨(⟨y6, y7⟩ : S.Inter), (⟨y8, y9⟩ : S.Cong)⟩ : S.Value)])
  | _ => none
noncomputable def c106 : Cfg El := c149.add 106 sem106
theorem c106_ok : CfgOk c106 := c149_ok.add (fun args w => Tryz.call106 args w) (fun vs r outs ps h hp => by
  unfold sem106 at h
  split at h
  · rename_i y1 y2 y3 y4 y5 y6 y7 y8 y9; cases h; exact fn106 y1 (⟨(⟨y2, y3⟩ : S.Inter), (⟨y4, y5⟩ : S.Cong)⟩ : S.Value) (⟨(⟨y6, y7⟩ : S.Inter), (⟨y8, y9⟩ : S.Cong)⟩ : S.Value) hp
  · cases h)

noncomputable def body156 : Code := (Tryz.f156.body).getD .skip
theorem fn156 : CallOk c106 156 [] (wr_i64 (S.ref24_most)) (wo_i64 (S.ref24_most)) :=
  (call_ok (c := c106) (f := 156) (fn := Tryz.f156) (code := body156) (args := ([])) (loop := noLoop) (md := ⟨false, false⟩) (rd := rd_i64) (wr := wr_i64) (wo := wo_i64) (r := S.ref24_most) c106_ok (by kernel_rfl) (by kernel_rfl) (by kernel_rfl) (no_loops (by kernel_rfl)) (by kernel_rfl) (by kernel_rfl) (by kernel_rfl)
    rw_i64 np_i64 no_i64 (by kernel_rfl) (Tr.vc_of_noReq (by kernel_rfl)))

noncomputable def sem156 : List W → Option (W × List (List W) × List Prop)
  | [] => some (wr_i64 (S.ref24_most), wo_i64 (S.ref24_most), [])
  | _ => none
noncomputable def c156 : Cfg El := c106.add 156 sem156
theorem c156_ok : CfgOk c156 := c106_ok.add (fun args w => Tryz.call156 args w) (fun vs r outs ps h hp => by
  unfold sem156 at h
  split at h
  · cases h; exact fn156
  · cases h)

noncomputable def body151 : Code := (Tryz.f151.body).getD .skip
theorem fn151 (v : S.Value) (n : Int) (hp : S.ref24_from_pre v n) : CallOk c156 151 [.agg [.int .i64 v.I.Lo, .int .i64 v.I.Hi, .int .u64 v.C.M, .int .u64 v.C.R], .int .i64 n] (wr_S31 (S.ref24_from v n)) (wo_S31 (S.ref24_from v n)) :=
  (call_ok (c := c156) (f := 151) (fn := Tryz.f151) (code := body151) (args := ([.agg [.int .i64 v.I.Lo, .int .i64 v.I.Hi, .int .u64 v.C.M, .int .u64 v.C.R], .int .i64 n])) (loop := noLoop) (md := ⟨false, false⟩) (rd := rd_S31) (wr := wr_S31) (wo := wo_S31) (r := (S.ref24_from v n)) c156_ok (by kernel_rfl) (by kernel_rfl) (by kernel_rfl) (no_loops (by kernel_rfl)) (by kernel_rfl) (by kernel_rfl) (by kernel_rfl)
    rw_S31 np_S31 no_S31 (by kernel_rfl) (Eq.mpr (show Vm.Tr.vc (Vm.Fn c156 Tryz.f151 body151 noLoop ([.agg [.int .i64 v.I.Lo, .int .i64 v.I.Hi, .int .u64 v.C.M, .int .u64 v.C.R], .int .i64 n])) = S.ref24_from_pre v n by kernel_rfl) hp))

noncomputable def sem151 : List W → Option (W × List (List W) × List Prop)
  | [.agg [.int .i64 y1, .int .i64 y2, .int .u64 y3, .int .u64 y4], .int .i64 y5] => some (wr_S31 (S.ref24_from (⟨(⟨y1, y2⟩ : S.Inter), (⟨y3, y4⟩ : S.Cong)⟩ : S.Value) y5), wo_S31 (S.ref24_from (⟨(⟨y1, y2⟩ : S.Inter), (⟨y3, y4⟩ : S.Cong)⟩ : S.Value) y5), [S.ref24_from_pre (⟨(⟨y1, y2⟩ : S.Inter), (⟨y3, y4⟩ : S.Cong)⟩ : S.Value) y5])
  | _ => none
noncomputable def c151 : Cfg El := c156.add 151 sem151
theorem c151_ok : CfgOk c151 := c156_ok.add (fun args w => Tryz.call151 args w) (fun vs r outs ps h hp => by
  unfold sem151 at h
  split at h
  · rename_i y1 y2 y3 y4 y5; cases h; exact fn151 (⟨(⟨y1, y2⟩ : S.Inter), (⟨y3, y4⟩ : S.Cong)⟩ : S.Value) y5 hp
  · cases h)

noncomputable def body114 : Code := (Tryz.f114.body).getD .skip
theorem fn114 (v : S.Value) (n : Int) (hp : S.ref24_above_pre v n) : CallOk c151 114 [.agg [.int .i64 v.I.Lo, .int .i64 v.I.Hi, .int .u64 v.C.M, .int .u64 v.C.R], .int .i64 n] (wr_S31 (S.ref24_above v n)) (wo_S31 (S.ref24_above v n)) :=
  (call_ok (c := c151) (f := 114) (fn := Tryz.f114) (code := body114) (args := ([.agg [.int .i64 v.I.Lo, .int .i64 v.I.Hi, .int .u64 v.C.M, .int .u64 v.C.R], .int .i64 n])) (loop := noLoop) (md := ⟨false, false⟩) (rd := rd_S31) (wr := wr_S31) (wo := wo_S31) (r := (S.ref24_above v n)) c151_ok (by kernel_rfl) (by kernel_rfl) (by kernel_rfl) (no_loops (by kernel_rfl)) (by kernel_rfl) (by kernel_rfl) (by kernel_rfl)
    rw_S31 np_S31 no_S31 (by kernel_rfl) (Eq.mpr (show Vm.Tr.vc (Vm.Fn c151 Tryz.f114 body114 noLoop ([.agg [.int .i64 v.I.Lo, .int .i64 v.I.Hi, .int .u64 v.C.M, .int .u64 v.C.R], .int .i64 n])) = S.ref24_above_pre v n by kernel_rfl) hp))

noncomputable def sem114 : List W → Option (W × List (List W) × List Prop)
  | [.agg [.int .i64 y1, .int .i64 y2, .int .u64 y3, .int .u64 y4], .int .i64 y5] => some (wr_S31 (S.ref24_above (⟨(⟨y1, y2⟩ : S.Inter), (⟨y3, y4⟩ : S.Cong)⟩ : S.Value) y5), wo_S31 (S.ref24_above (⟨(⟨y1, y2⟩ : S.Inter), (⟨y3, y4⟩ : S.Cong)⟩ : S.Value) y5), [S.ref24_above_pre (⟨(⟨y1, y2⟩ : S.Inter), (⟨y3, y4⟩ : S.Cong)⟩ : S.Value) y5])
  | _ => none
noncomputable def c114 : Cfg El := c151.add 114 sem114
theorem c114_ok : CfgOk c114 := c151_ok.add (fun args w => Tryz.call114 args w) (fun vs r outs ps h hp => by
  unfold sem114 at h
  split at h
  · rename_i y1 y2 y3 y4 y5; cases h; exact fn114 (⟨(⟨y1, y2⟩ : S.Inter), (⟨y3, y4⟩ : S.Cong)⟩ : S.Value) y5 hp
  · cases h)

noncomputable def body157 : Code := (Tryz.f157.body).getD .skip
theorem fn157 : CallOk c114 157 [] (wr_i64 (S.ref24_least)) (wo_i64 (S.ref24_least)) :=
  (call_ok (c := c114) (f := 157) (fn := Tryz.f157) (code := body157) (args := ([])) (loop := noLoop) (md := ⟨false, false⟩) (rd := rd_i64) (wr := wr_i64) (wo := wo_i64) (r := S.ref24_least) c114_ok (by kernel_rfl) (by kernel_rfl) (by kernel_rfl) (no_loops (by kernel_rfl)) (by kernel_rfl) (by kernel_rfl) (by kernel_rfl)
    rw_i64 np_i64 no_i64 (by kernel_rfl) (Tr.vc_of_noReq (by kernel_rfl)))

noncomputable def sem157 : List W → Option (W × List (List W) × List Prop)
  | [] => some (wr_i64 (S.ref24_least), wo_i64 (S.ref24_least), [])
  | _ => none
noncomputable def c157 : Cfg El := c114.add 157 sem157
theorem c157_ok : CfgOk c157 := c114_ok.add (fun args w => Tryz.call157 args w) (fun vs r outs ps h hp => by
  unfold sem157 at h
  split at h
  · cases h; exact fn157
  · cases h)

noncomputable def body150 : Code := (Tryz.f150.body).getD .skip
theorem fn150 (v : S.Value) (n : Int) (hp : S.ref24_upto_pre v n) : CallOk c157 150 [.agg [.int .i64 v.I.Lo, .int .i64 v.I.Hi, .int .u64 v.C.M, .int .u64 v.C.R], .int .i64 n] (wr_S31 (S.ref24_upto v n)) (wo_S31 (S.ref24_upto v n)) :=
  (call_ok (c := c157) (f := 150) (fn := Tryz.f150) (code := body150) (args := ([.agg [.int .i64 v.I.Lo, .int .i64 v.I.Hi, .int .u64 v.C.M, .int .u64 v.C.R], .int .i64 n])) (loop := noLoop) (md := ⟨false, false⟩) (rd := rd_S31) (wr := wr_S31) (wo := wo_S31) (r := (S.ref24_upto v n)) c157_ok (by kernel_rfl) (by kernel_rfl) (by kernel_rfl) (no_loops (by kernel_rfl)) (by kernel_rfl) (by kernel_rfl) (by kernel_rfl)
    rw_S31 np_S31 no_S31 (by kernel_rfl) (Eq.mpr (show Vm.Tr.vc (Vm.Fn c157 Tryz.f150 body150 noLoop ([.agg [.int .i64 v.I.Lo, .int .i64 v.I.Hi, .int .u64 v.C.M, .int .u64 v.C.R], .int .i64 n])) = S.ref24_upto_pre v n by kernel_rfl) hp))

noncomputable def sem150 : List W → Option (W × List (List W) × List Prop)
  | [.agg [.int .i64 y1, .int .i64 y2, .int .u64 y3, .int .u64 y4], .int .i64 y5] => some (wr_S31 (S.ref24_upto (⟨(⟨y1, y2⟩ : S.Inter), (⟨y3, y4⟩ : S.Cong)⟩ : S.Value) y5), wo_S31 (S.ref24_upto (⟨(⟨y1, y2⟩ : S.Inter), (⟨y3, y4⟩ : S.Cong)⟩ : S.Value) y5), [S.ref24_upto_pre (⟨(⟨y1, y2⟩ : S.Inter), (⟨y3, y4⟩ : S.Cong)⟩ : S.Value) y5])
  | _ => none
noncomputable def c150 : Cfg El := c157.add 150 sem150
theorem c150_ok : CfgOk c150 := c157_ok.add (fun args w => Tryz.call150 args w) (fun vs r outs ps h hp => by
  unfold sem150 at h
  split at h
  · rename_i y1 y2 y3 y4 y5; cases h; exact fn150 (⟨(⟨y1, y2⟩ : S.Inter), (⟨y3, y4⟩ : S.Cong)⟩ : S.Value) y5 hp
  · cases h)

noncomputable def body115 : Code := (Tryz.f115.body).getD .skip
theorem fn115 (v : S.Value) (n : Int) (hp : S.ref24_below_pre v n) : CallOk c150 115 [.agg [.int .i64 v.I.Lo, .int .i64 v.I.Hi, .int .u64 v.C.M, .int .u64 v.C.R], .int .i64 n] (wr_S31 (S.ref24_below v n)) (wo_S31 (S.ref24_below v n)) :=
  (call_ok (c := c150) (f := 115) (fn := Tryz.f115) (code := body115) (args := ([.agg [.int .i64 v.I.Lo, .int .i64 v.I.Hi, .int .u64 v.C.M, .int .u64 v.C.R], .int .i64 n])) (loop := noLoop) (md := ⟨false, false⟩) (rd := rd_S31) (wr := wr_S31) (wo := wo_S31) (r := (S.ref24_below v n)) c150_ok (by kernel_rfl) (by kernel_rfl) (by kernel_rfl) (no_loops (by kernel_rfl)) (by kernel_rfl) (by kernel_rfl) (by kernel_rfl)
    rw_S31 np_S31 no_S31 (by kernel_rfl) (Eq.mpr (show Vm.Tr.vc (Vm.Fn c150 Tryz.f115 body115 noLoop ([.agg [.int .i64 v.I.Lo, .int .i64 v.I.Hi, .int .u64 v.C.M, .int .u64 v.C.R], .int .i64 n])) = S.ref24_below_pre v n by kernel_rfl) hp))

noncomputable def sem115 : List W → Option (W × List (List W) × List Prop)
  | [.agg [.int .i64 y1, .int .i64 y2, .int .u64 y3, .int .u64 y4], .int .i64 y5] => some (wr_S31 (S.ref24_below (⟨(⟨y1, y2⟩ : S.Inter), (⟨y3, y4⟩ : S.Cong)⟩ : S.Value) y5), wo_S31 (S.ref24_below (⟨(⟨y1, y2⟩ : S.Inter), (⟨y3, y4⟩ : S.Cong)⟩ : S.Value) y5), [S.ref24_below_pre (⟨(⟨y1, y2⟩ : S.Inter), (⟨y3, y4⟩ : S.Cong)⟩ : S.Value) y5])
  | _ => none
noncomputable def c115 : Cfg El := c150.add 115 sem115
theorem c115_ok : CfgOk c115 := c150_ok.add (fun args w => Tryz.call115 args w) (fun vs r outs ps h hp => by
  unfold sem115 at h
  split at h
  · rename_i y1 y2 y3 y4 y5; cases h; exact fn115 (⟨(⟨y1, y2⟩ : S.Inter), (⟨y3, y4⟩ : S.Cong)⟩ : S.Value) y5 hp
  · cases h)

noncomputable def body55 : Code := (Tryz.f55.body).getD .skip
theorem fn55 (v : S.Value) (n : Int) (hp : S.ref24_Without_pre v n) : CallOk c115 55 [.agg [.int .i64 v.I.Lo, .int .i64 v.I.Hi, .int .u64 v.C.M, .int .u64 v.C.R], .int .i64 n] (wr_S31 (S.ref24_Without v n)) (wo_S31 (S.ref24_Without v n)) :=
  (call_ok (c := c115) (f := 55) (fn := Tryz.f55) (code := body55) (args := ([.agg [.int .i64 v.I.Lo, .int .i64 v.I.Hi, .int .u64 v.C.M, .int .u64 v.C.R], .int .i64 n])) (loop := noLoop) (md := ⟨false, false⟩) (rd := rd_S31) (wr := wr_S31) (wo := wo_S31) (r := (S.ref24_Without v n)) c115_ok (by kernel_rfl) (by kernel_rfl) (by kernel_rfl) (no_loops (by kernel_rfl)) (by kernel_rfl) (by kernel_rfl) (by kernel_rfl)
    rw_S31 np_S31 no_S31 (by kernel_rfl) (Eq.mpr (show Vm.Tr.vc (Vm.Fn c115 Tryz.f55 body55 noLoop ([.agg [.int .i64 v.I.Lo, .int .i64 v.I.Hi, .int .u64 v.C.M, .int .u64 v.C.R], .int .i64 n])) = S.ref24_Without_pre v n by kernel_rfl) hp))

noncomputable def sem55 : List W → Option (W × List (List W) × List Prop)
  | [.agg [.int .i64 y1, .int .i64 y2, .int .u64 y3, .int .u64 y4], .int .i64 y5] => some (wr_S31 (S.ref24_Without (⟨(⟨y1, y2⟩ : S.Inter), (⟨y3, y4⟩ : S.Cong)⟩ : S.Value) y5), wo_S31 (S.ref24_Without (⟨(⟨y1, y2⟩ : S.Inter), (⟨y3, y4⟩ : S.Cong)⟩ : S.Value) y5), [S.ref24_Without_pre (⟨(⟨y1, y2⟩ : S.Inter), (⟨y3, y4⟩ : S.Cong)⟩ : S.Value) y5])
  | _ => none
noncomputable def c55 : Cfg El := c115.add 55 sem55
theorem c55_ok : CfgOk c55 := c115_ok.add (fun args w => Tryz.call55 args w) (fun vs r outs ps h hp => by
  unfold sem55 at h
  split at h
  · rename_i y1 y2 y3 y4 y5; cases h; exact fn55 (⟨(⟨y1, y2⟩ : S.Inter), (⟨y3, y4⟩ : S.Cong)⟩ : S.Value) y5 hp
  · cases h)

noncomputable def body34 : Code := (Tryz.f34.body).getD .skip
theorem fn34 (a : S.Value) (b : S.Value) (hp : S.ref21_Meet_pre a b) : CallOk c55 34 [.agg [.int .i64 a.I.Lo, .int .i64 a.I.Hi, .int .u64 a.C.M, .int .u64 a.C.R], .agg [.int .i64 b.I.Lo, .int .i64 b.I.Hi, .int .u64 b.C.M, .int .u64 b.C.R]] (wr_S31 (S.ref21_Meet a b)) (wo_S31 (S.ref21_Meet a b)) :=
  (call_ok (c := c55) (f := 34) (fn := Tryz.f34) (code := body34) (args := ([.agg [.int .i64 a.I.Lo, .int .i64 a.I.Hi, .int .u64 a.C.M, .int .u64 a.C.R], .agg [.int .i64 b.I.Lo, .int .i64 b.I.Hi, .int .u64 b.C.M, .int .u64 b.C.R]])) (loop := noLoop) (md := ⟨false, false⟩) (rd := rd_S31) (wr := wr_S31) (wo := wo_S31) (r := (S.ref21_Meet a b)) c55_ok (by kernel_rfl) (by kernel_rfl) (by kernel_rfl) (no_loops (by kernel_rfl)) (by kernel_rfl) (by kernel_rfl) (by kernel_rfl)
    rw_S31 np_S31 no_S31 (by kernel_rfl) (Eq.mpr (show Vm.Tr.vc (Vm.Fn c55 Tryz.f34 body34 noLoop ([.agg [.int .i64 a.I.Lo, .int .i64 a.I.Hi, .int .u64 a.C.M, .int .u64 a.C.R], .agg [.int .i64 b.I.Lo, .int .i64 b.I.Hi, .int .u64 b.C.M, .int .u64 b.C.R]])) = S.ref21_Meet_pre a b by kernel_rfl) hp))

noncomputable def sem34 : List W → Option (W × List (List W) × List Prop)
  | [.agg [.int .i64 y1, .int .i64 y2, .int .u64 y3, .int .u64 y4], .agg [.int .i64 y5, .int .i64 y6, .int .u64 y7, .int .u64 y8]] => some (wr_S31 (S.ref21_Meet (⟨(⟨y1, y2⟩ : S.Inter), (⟨y3, y4⟩ : S.Cong)⟩ : S.Value) (⟨(⟨y5, y6⟩ : S.Inter), (⟨y7, y8⟩ : S.Cong)⟩ : S.Value)), wo_S31 (S.ref21_Meet (⟨(⟨y1, y2⟩ : S.Inter), (⟨y3, y4⟩ : S.Cong)⟩ : S.Value) (⟨(⟨y5, y6⟩ : S.Inter), (⟨y7, y8⟩ : S.Cong)⟩ : S.Value)), [S.ref21_Meet_pre (⟨(⟨y1, y2⟩ : S.Inter), (⟨y3, y4⟩ : S.Cong)⟩ : S.Value) (⟨(⟨y5, y6⟩ : S.Inter), (⟨y7, y8⟩ : S.Cong)⟩ : S.Value)])
  | _ => none
noncomputable def c34 : Cfg El := c55.add 34 sem34
theorem c34_ok : CfgOk c34 := c55_ok.add (fun args w => Tryz.call34 args w) (fun vs r outs ps h hp => by
  unfold sem34 at h
  split at h
  · rename_i y1 y2 y3 y4 y5 y6 y7 y8; cases h; exact fn34 (⟨(⟨y1, y2⟩ : S.Inter), (⟨y3, y4⟩ : S.Cong)⟩ : S.Value) (⟨(⟨y5, y6⟩ : S.Inter), (⟨y7, y8⟩ : S.Cong)⟩ : S.Value) hp
  · cases h)

noncomputable def body57 : Code := (Tryz.f57.body).getD .skip
theorem fn57 (v : S.Value) (truth : Bool) (hp : S.ref24_Only_pre v truth) : CallOk c34 57 [.agg [.int .i64 v.I.Lo, .int .i64 v.I.Hi, .int .u64 v.C.M, .int .u64 v.C.R], .bool truth] (wr_S31 (S.ref24_Only v truth)) (wo_S31 (S.ref24_Only v truth)) :=
  (call_ok (c := c34) (f := 57) (fn := Tryz.f57) (code := body57) (args := ([.agg [.int .i64 v.I.Lo, .int .i64 v.I.Hi, .int .u64 v.C.M, .int .u64 v.C.R], .bool truth])) (loop := noLoop) (md := ⟨false, false⟩) (rd := rd_S31) (wr := wr_S31) (wo := wo_S31) (r := (S.ref24_Only v truth)) c34_ok (by kernel_rfl) (by kernel_rfl) (by kernel_rfl) (no_loops (by kernel_rfl)) (by kernel_rfl) (by kernel_rfl) (by kernel_rfl)
    rw_S31 np_S31 no_S31 (by kernel_rfl) (Eq.mpr (show Vm.Tr.vc (Vm.Fn c34 Tryz.f57 body57 noLoop ([.agg [.int .i64 v.I.Lo, .int .i64 v.I.Hi, .int .u64 v.C.M, .int .u64 v.C.R], .bool truth])) = S.ref24_Only_pre v truth by kernel_rfl) hp))

noncomputable def sem57 : List W → Option (W × List (List W) × List Prop)
  | [.agg [.int .i64 y1, .int .i64 y2, .int .u64 y3, .int .u64 y4], .bool y5] => some (wr_S31 (S.ref24_Only (⟨(⟨y1, y2⟩ : S.Inter), (⟨y3, y4⟩ : S.Cong)⟩ : S.Value) y5), wo_S31 (S.ref24_Only (⟨(⟨y1, y2⟩ : S.Inter), (⟨y3, y4⟩ : S.Cong)⟩ : S.Value) y5), [S.ref24_Only_pre (⟨(⟨y1, y2⟩ : S.Inter), (⟨y3, y4⟩ : S.Cong)⟩ : S.Value) y5])
  | _ => none
noncomputable def c57 : Cfg El := c34.add 57 sem57
theorem c57_ok : CfgOk c57 := c34_ok.add (fun args w => Tryz.call57 args w) (fun vs r outs ps h hp => by
  unfold sem57 at h
  split at h
  · rename_i y1 y2 y3 y4 y5; cases h; exact fn57 (⟨(⟨y1, y2⟩ : S.Inter), (⟨y3, y4⟩ : S.Cong)⟩ : S.Value) y5 hp
  · cases h)

noncomputable def body107 : Code := (Tryz.f107.body).getD .skip
noncomputable def semr107 (n : Nat) : List W → Option (W × List (List W) × List Prop)
  | [.int .i64 y1, .agg [.int .i64 y2, .int .i64 y3, .int .u64 y4, .int .u64 y5], .agg [.int .i64 y6, .int .i64 y7, .int .u64 y8, .int .u64 y9]] => some (wr_S31_S31 (S.ref24_left_F n y1 (⟨(⟨y2, y3⟩ : S.Inter), (⟨y4, y5⟩ : S.Cong)⟩ : S.Value) (⟨(⟨y6, y7⟩ : S.Inter), (⟨y8, y9⟩ : S.Cong)⟩ : S.Value)), wo_S31_S31 (S.ref24_left_F n y1 (⟨(⟨y2, y3⟩ : S.Inter), (⟨y4, y5⟩ : S.Cong)⟩ : S.Value) (⟨(⟨y6, y7⟩ : S.Inter), (⟨y8, y9⟩ : S.Cong)⟩ : S.Value)), [S.ref24_left_D n y1 (⟨(⟨y2, y3⟩ : S.Inter), (⟨y4, y5⟩ : S.Cong)⟩ : S.Value) (⟨(⟨y6, y7⟩ : S.Inter), (⟨y8, y9⟩ : S.Cong)⟩ : S.Value)])
  | _ => none
theorem fns107 (n : Nat) (hc : CfgOk (c57.add 107 (semr107 n))) (op : Int) (a : S.Value) (b : S.Value) (hp : S.ref24_left_D (n + 1) op a b) : CallOk (c57.add 107 (semr107 n)) 107 [.int .i64 op, .agg [.int .i64 a.I.Lo, .int .i64 a.I.Hi, .int .u64 a.C.M, .int .u64 a.C.R], .agg [.int .i64 b.I.Lo, .int .i64 b.I.Hi, .int .u64 b.C.M, .int .u64 b.C.R]] (wr_S31_S31 (S.ref24_left_F (n + 1) op a b)) (wo_S31_S31 (S.ref24_left_F (n + 1) op a b)) :=
  (call_ok (c := (c57.add 107 (semr107 n))) (f := 107) (fn := Tryz.f107) (code := body107) (args := ([.int .i64 op, .agg [.int .i64 a.I.Lo, .int .i64 a.I.Hi, .int .u64 a.C.M, .int .u64 a.C.R], .agg [.int .i64 b.I.Lo, .int .i64 b.I.Hi, .int .u64 b.C.M, .int .u64 b.C.R]])) (loop := noLoop) (md := ⟨false, false⟩) (rd := rd_S31_S31) (wr := wr_S31_S31) (wo := wo_S31_S31) (r := (S.ref24_left_F (n + 1) op a b)) hc (by kernel_rfl) (by kernel_rfl) (by kernel_rfl) (no_loops (by kernel_rfl)) (by kernel_rfl) (by kernel_rfl) (by kernel_rfl)
    rw_S31_S31 np_S31_S31 no_S31_S31 (by kernel_rfl) (Eq.mpr (show Vm.Tr.vc (Vm.Fn (c57.add 107 (semr107 n)) Tryz.f107 body107 noLoop ([.int .i64 op, .agg [.int .i64 a.I.Lo, .int .i64 a.I.Hi, .int .u64 a.C.M, .int .u64 a.C.R], .agg [.int .i64 b.I.Lo, .int .i64 b.I.Hi, .int .u64 b.C.M, .int .u64 b.C.R]])) = S.ref24_left_D (n + 1) op a b by kernel_rfl) hp))

theorem fnr107 (n : Nat) : ∀ (op : Int) (a : S.Value) (b : S.Value), S.ref24_left_D n op a b → CallOk c57 107 [.int .i64 op, .agg [.int .i64 a.I.Lo, .int .i64 a.I.Hi, .int .u64 a.C.M, .int .u64 a.C.R], .agg [.int .i64 b.I.Lo, .int .i64 b.I.Hi, .int .u64 b.C.M, .int .u64 b.C.R]] (wr_S31_S31 (S.ref24_left_F n op a b)) (wo_S31_S31 (S.ref24_left_F n op a b)) := by
  induction n with
  | zero => intro op a b hp; exact False.elim hp
  | succ n ih =>
    intro op a b hp
    have hc : CfgOk (c57.add 107 (semr107 n)) := c57_ok.add (fun args w => Tryz.call107 args w) (fun vs r outs ps h hp => by
      unfold semr107 at h
      split at h
      · cases h; exact ih _ _ _ hp
      · cases h)
    exact CallOk.same (c := (c57.add 107 (semr107 n))) (c' := c57) rfl rfl rfl rfl (fns107 n hc op a b hp)
theorem fn107 (op : Int) (a : S.Value) (b : S.Value) (hp : S.ref24_left_pre op a b) : CallOk c57 107 [.int .i64 op, .agg [.int .i64 a.I.Lo, .int .i64 a.I.Hi, .int .u64 a.C.M, .int .u64 a.C.R], .agg [.int .i64 b.I.Lo, .int .i64 b.I.Hi, .int .u64 b.C.M, .int .u64 b.C.R]] (wr_S31_S31 (S.ref24_left op a b)) (wo_S31_S31 (S.ref24_left op a b)) := fnr107 _ op a b (Classical.epsilon_spec hp)

noncomputable def sem107 : List W → Option (W × List (List W) × List Prop)
  | [.int .i64 y1, .agg [.int .i64 y2, .int .i64 y3, .int .u64 y4, .int .u64 y5], .agg [.int .i64 y6, .int .i64 y7, .int .u64 y8, .int .u64 y9]] => some (wr_S31_S31 (S.ref24_left y1 (⟨(⟨y2, y3⟩ : S.Inter), (⟨y4, y5⟩ : S.Cong)⟩ : S.Value) (⟨(⟨y6, y7⟩ : S.Inter), (⟨y8, y9⟩ : S.Cong)⟩ : S.Value)), wo_S31_S31 (S.ref24_left y1 (⟨(⟨y2, y3⟩ : S.Inter), (⟨y4, y5⟩ : S.Cong)⟩ : S.Value) (⟨(⟨y6, y7⟩ : S.Inter), (⟨y8, y9⟩ : S.Cong)⟩ : S.Value)), [S.ref24_left_pre y1 (⟨(⟨y2, y3⟩ : S.Inter), (⟨y4, y5⟩ : S.Cong)⟩ : S.Value) (⟨(⟨y6, y7⟩ : S.Inter), (⟨y8, y9⟩ : S.Cong)⟩ : S.Value)])
  | _ => none
noncomputable def c107 : Cfg El := c57.add 107 sem107
theorem c107_ok : CfgOk c107 := c57_ok.add (fun args w => Tryz.call107 args w) (fun vs r outs ps h hp => by
  unfold sem107 at h
  split at h
  · rename_i y1 y2 y3 y4 y5 y6 y7 y8 y9; cases h; exact fn107 y1 (⟨(⟨y2, y3⟩ : S.Inter), (⟨y4, y5⟩ : S.Cong)⟩ : S.Value) (⟨(⟨y6, y7⟩ : S.Inter), (⟨y8, y9⟩ : S.Cong)⟩ : S.Value) hp
  · cases h)

noncomputable def body48 : Code := (Tryz.f48.body).getD .skip
theorem fn48 (op : Int) (a : S.Value) (b : S.Value) (truth : Bool) (hp : S.ref24_Refine_pre op a b truth) : CallOk c107 48 [.int .i64 op, .agg [.int .i64 a.I.Lo, .int .i64 a.I.Hi, .int .u64 a.C.M, .int .u64 a.C.R], .agg [.int .i64 b.I.Lo, .int .i64 b.I.Hi, .int .u64 b.C.M, .int .u64 b.C.R], .bool truth] (wr_S31_S31 (S.ref24_Refine op a b truth)) (wo_S31_S31 (S.ref24_Refine op a b truth)) :=
  (call_ok (c := c107) (f := 48) (fn := Tryz.f48) (code := body48) (args := ([.int .i64 op, .agg [.int .i64 a.I.Lo, .int .i64 a.I.Hi, .int .u64 a.C.M, .int .u64 a.C.R], .agg [.int .i64 b.I.Lo, .int .i64 b.I.Hi, .int .u64 b.C.M, .int .u64 b.C.R], .bool truth])) (loop := noLoop) (md := ⟨false, false⟩) (rd := rd_S31_S31) (wr := wr_S31_S31) (wo := wo_S31_S31) (r := (S.ref24_Refine op a b truth)) c107_ok (by kernel_rfl) (by kernel_rfl) (by kernel_rfl) (no_loops (by kernel_rfl)) (by kernel_rfl) (by kernel_rfl) (by kernel_rfl)
    rw_S31_S31 np_S31_S31 no_S31_S31 (by kernel_rfl) (Eq.mpr (show Vm.Tr.vc (Vm.Fn c107 Tryz.f48 body48 noLoop ([.int .i64 op, .agg [.int .i64 a.I.Lo, .int .i64 a.I.Hi, .int .u64 a.C.M, .int .u64 a.C.R], .agg [.int .i64 b.I.Lo, .int .i64 b.I.Hi, .int .u64 b.C.M, .int .u64 b.C.R], .bool truth])) = S.ref24_Refine_pre op a b truth by kernel_rfl) hp))

noncomputable def sem48 : List W → Option (W × List (List W) × List Prop)
  | [.int .i64 y1, .agg [.int .i64 y2, .int .i64 y3, .int .u64 y4, .int .u64 y5], .agg [.int .i64 y6, .int .i64 y7, .int .u64 y8, .int .u64 y9], .bool y10] => some (wr_S31_S31 (S.ref24_Refine y1 (⟨(⟨y2, y3⟩ : S.Inter), (⟨y4, y5⟩ : S.Cong)⟩ : S.Value) (⟨(⟨y6, y7⟩ : S.Inter), (⟨y8, y9⟩ : S.Cong)⟩ : S.Value) y10), wo_S31_S31 (S.ref24_Refine y1 (⟨(⟨y2, y3⟩ : S.Inter), (⟨y4, y5⟩ : S.Cong)⟩ : S.Value) (⟨(⟨y6, y7⟩ : S.Inter), (⟨y8, y9⟩ : S.Cong)⟩ : S.Value) y10), [S.ref24_Refine_pre y1 (⟨(⟨y2, y3⟩ : S.Inter), (⟨y4, y5⟩ : S.Cong)⟩ : S.Value) (⟨(⟨y6, y7⟩ : S.Inter), (⟨y8, y9⟩ : S.Cong)⟩ : S.Value) y10])
  | _ => none
noncomputable def c48 : Cfg El := c107.add 48 sem48
theorem c48_ok : CfgOk c48 := c107_ok.add (fun args w => Tryz.call48 args w) (fun vs r outs ps h hp => by
  unfold sem48 at h
  split at h
  · rename_i y1 y2 y3 y4 y5 y6 y7 y8 y9 y10; cases h; exact fn48 y1 (⟨(⟨y2, y3⟩ : S.Inter), (⟨y4, y5⟩ : S.Cong)⟩ : S.Value) (⟨(⟨y6, y7⟩ : S.Inter), (⟨y8, y9⟩ : S.Cong)⟩ : S.Value) y10 hp
  · cases h)

noncomputable def body82 : Code := (Tryz.f82.body).getD .skip
theorem fn82 : CallOk c48 82 [] (wr_i64 (S.ref19_Least)) (wo_i64 (S.ref19_Least)) :=
  (call_ok (c := c48) (f := 82) (fn := Tryz.f82) (code := body82) (args := ([])) (loop := noLoop) (md := ⟨false, false⟩) (rd := rd_i64) (wr := wr_i64) (wo := wo_i64) (r := S.ref19_Least) c48_ok (by kernel_rfl) (by kernel_rfl) (by kernel_rfl) (no_loops (by kernel_rfl)) (by kernel_rfl) (by kernel_rfl) (by kernel_rfl)
    rw_i64 np_i64 no_i64 (by kernel_rfl) (Tr.vc_of_noReq (by kernel_rfl)))

noncomputable def sem82 : List W → Option (W × List (List W) × List Prop)
  | [] => some (wr_i64 (S.ref19_Least), wo_i64 (S.ref19_Least), [])
  | _ => none
noncomputable def c82 : Cfg El := c48.add 82 sem82
theorem c82_ok : CfgOk c82 := c48_ok.add (fun args w => Tryz.call82 args w) (fun vs r outs ps h hp => by
  unfold sem82 at h
  split at h
  · cases h; exact fn82
  · cases h)

noncomputable def body83 : Code := (Tryz.f83.body).getD .skip
theorem fn83 : CallOk c82 83 [] (wr_i64 (S.ref19_Most)) (wo_i64 (S.ref19_Most)) :=
  (call_ok (c := c82) (f := 83) (fn := Tryz.f83) (code := body83) (args := ([])) (loop := noLoop) (md := ⟨false, false⟩) (rd := rd_i64) (wr := wr_i64) (wo := wo_i64) (r := S.ref19_Most) c82_ok (by kernel_rfl) (by kernel_rfl) (by kernel_rfl) (no_loops (by kernel_rfl)) (by kernel_rfl) (by kernel_rfl) (by kernel_rfl)
    rw_i64 np_i64 no_i64 (by kernel_rfl) (Tr.vc_of_noReq (by kernel_rfl)))

noncomputable def sem83 : List W → Option (W × List (List W) × List Prop)
  | [] => some (wr_i64 (S.ref19_Most), wo_i64 (S.ref19_Most), [])
  | _ => none
noncomputable def c83 : Cfg El := c82.add 83 sem83
theorem c83_ok : CfgOk c83 := c82_ok.add (fun args w => Tryz.call83 args w) (fun vs r outs ps h hp => by
  unfold sem83 at h
  split at h
  · cases h; exact fn83
  · cases h)

noncomputable def body28 : Code := (Tryz.f28.body).getD .skip
theorem fn28 : CallOk c83 28 [] (wr_S31 (S.ref21_Top)) (wo_S31 (S.ref21_Top)) :=
  (call_ok (c := c83) (f := 28) (fn := Tryz.f28) (code := body28) (args := ([])) (loop := noLoop) (md := ⟨false, false⟩) (rd := rd_S31) (wr := wr_S31) (wo := wo_S31) (r := S.ref21_Top) c83_ok (by kernel_rfl) (by kernel_rfl) (by kernel_rfl) (no_loops (by kernel_rfl)) (by kernel_rfl) (by kernel_rfl) (by kernel_rfl)
    rw_S31 np_S31 no_S31 (by kernel_rfl) (Tr.vc_of_noReq (by kernel_rfl)))

noncomputable def sem28 : List W → Option (W × List (List W) × List Prop)
  | [] => some (wr_S31 (S.ref21_Top), wo_S31 (S.ref21_Top), [])
  | _ => none
noncomputable def c28 : Cfg El := c83.add 28 sem28
theorem c28_ok : CfgOk c28 := c83_ok.add (fun args w => Tryz.call28 args w) (fun vs r outs ps h hp => by
  unfold sem28 at h
  split at h
  · cases h; exact fn28
  · cases h)

noncomputable def body111 : Code := (Tryz.f111.body).getD .skip
theorem fn111 (yes : Bool) (no : Bool) (hp : S.ref24_truth_pre yes no) : CallOk c28 111 [.bool yes, .bool no] (wr_S31 (S.ref24_truth yes no)) (wo_S31 (S.ref24_truth yes no)) :=
  (call_ok (c := c28) (f := 111) (fn := Tryz.f111) (code := body111) (args := ([.bool yes, .bool no])) (loop := noLoop) (md := ⟨false, false⟩) (rd := rd_S31) (wr := wr_S31) (wo := wo_S31) (r := (S.ref24_truth yes no)) c28_ok (by kernel_rfl) (by kernel_rfl) (by kernel_rfl) (no_loops (by kernel_rfl)) (by kernel_rfl) (by kernel_rfl) (by kernel_rfl)
    rw_S31 np_S31 no_S31 (by kernel_rfl) (Eq.mpr (show Vm.Tr.vc (Vm.Fn c28 Tryz.f111 body111 noLoop ([.bool yes, .bool no])) = S.ref24_truth_pre yes no by kernel_rfl) hp))

noncomputable def sem111 : List W → Option (W × List (List W) × List Prop)
  | [.bool y1, .bool y2] => some (wr_S31 (S.ref24_truth y1 y2), wo_S31 (S.ref24_truth y1 y2), [S.ref24_truth_pre y1 y2])
  | _ => none
noncomputable def c111 : Cfg El := c28.add 111 sem111
theorem c111_ok : CfgOk c111 := c28_ok.add (fun args w => Tryz.call111 args w) (fun vs r outs ps h hp => by
  unfold sem111 at h
  split at h
  · rename_i y1 y2; cases h; exact fn111 y1 y2 hp
  · cases h)

noncomputable def body53 : Code := (Tryz.f53.body).getD .skip
theorem fn53 (op : Int) (a : S.Value) (b : S.Value) (hp : S.ref24_Do_pre op a b) : CallOk c111 53 [.int .i64 op, .agg [.int .i64 a.I.Lo, .int .i64 a.I.Hi, .int .u64 a.C.M, .int .u64 a.C.R], .agg [.int .i64 b.I.Lo, .int .i64 b.I.Hi, .int .u64 b.C.M, .int .u64 b.C.R]] (wr_S31 (S.ref24_Do op a b)) (wo_S31 (S.ref24_Do op a b)) :=
  (call_ok (c := c111) (f := 53) (fn := Tryz.f53) (code := body53) (args := ([.int .i64 op, .agg [.int .i64 a.I.Lo, .int .i64 a.I.Hi, .int .u64 a.C.M, .int .u64 a.C.R], .agg [.int .i64 b.I.Lo, .int .i64 b.I.Hi, .int .u64 b.C.M, .int .u64 b.C.R]])) (loop := noLoop) (md := ⟨false, false⟩) (rd := rd_S31) (wr := wr_S31) (wo := wo_S31) (r := (S.ref24_Do op a b)) c111_ok (by kernel_rfl) (by kernel_rfl) (by kernel_rfl) (no_loops (by kernel_rfl)) (by kernel_rfl) (by kernel_rfl) (by kernel_rfl)
    rw_S31 np_S31 no_S31 (by kernel_rfl) (Eq.mpr (show Vm.Tr.vc (Vm.Fn c111 Tryz.f53 body53 noLoop ([.int .i64 op, .agg [.int .i64 a.I.Lo, .int .i64 a.I.Hi, .int .u64 a.C.M, .int .u64 a.C.R], .agg [.int .i64 b.I.Lo, .int .i64 b.I.Hi, .int .u64 b.C.M, .int .u64 b.C.R]])) = S.ref24_Do_pre op a b by kernel_rfl) hp))

noncomputable def sem53 : List W → Option (W × List (List W) × List Prop)
  | [.int .i64 y1, .agg [.int .i64 y2, .int .i64 y3, .int .u64 y4, .int .u64 y5], .agg [.int .i64 y6, .int .i64 y7, .int .u64 y8, .int .u64 y9]] => some (wr_S31 (S.ref24_Do y1 (⟨(⟨y2, y3⟩ : S.Inter), (⟨y4, y5⟩ : S.Cong)⟩ : S.Value) (⟨(⟨y6, y7⟩ : S.Inter), (⟨y8, y9⟩ : S.Cong)⟩ : S.Value)), wo_S31 (S.ref24_Do y1 (⟨(⟨y2, y3⟩ : S.Inter), (⟨y4, y5⟩ : S.Cong)⟩ : S.Value) (⟨(⟨y6, y7⟩ : S.Inter), (⟨y8, y9⟩ : S.Cong)⟩ : S.Value)), [S.ref24_Do_pre y1 (⟨(⟨y2, y3⟩ : S.Inter), (⟨y4, y5⟩ : S.Cong)⟩ : S.Value) (⟨(⟨y6, y7⟩ : S.Inter), (⟨y8, y9⟩ : S.Cong)⟩ : S.Value)])
  | _ => none
noncomputable def c53 : Cfg El := c111.add 53 sem53
theorem c53_ok : CfgOk c53 := c111_ok.add (fun args w => Tryz.call53 args w) (fun vs r outs ps h hp => by
  unfold sem53 at h
  split at h
  · rename_i y1 y2 y3 y4 y5 y6 y7 y8 y9; cases h; exact fn53 y1 (⟨(⟨y2, y3⟩ : S.Inter), (⟨y4, y5⟩ : S.Cong)⟩ : S.Value) (⟨(⟨y6, y7⟩ : S.Inter), (⟨y8, y9⟩ : S.Cong)⟩ : S.Value) hp
  · cases h)

noncomputable def body185 : Code := (Tryz.f185.body).getD .skip
theorem fn185 (x : Int) (hp : S.math_bits_Len64_pre x) : CallOk c53 185 [.int .u64 x] (wr_i64 (S.math_bits_Len64 x)) (wo_i64 (S.math_bits_Len64 x)) :=
  (call_ok (c := c53) (f := 185) (fn := Tryz.f185) (code := body185) (args := ([.int .u64 x])) (loop := noLoop) (md := ⟨false, false⟩) (rd := rd_i64) (wr := wr_i64) (wo := wo_i64) (r := (S.math_bits_Len64 x)) c53_ok (by kernel_rfl) (by kernel_rfl) (by kernel_rfl) (no_loops (by kernel_rfl)) (by kernel_rfl) (by kernel_rfl) (by kernel_rfl)
    rw_i64 np_i64 no_i64 (by kernel_rfl) (Eq.mpr (show Vm.Tr.vc (Vm.Fn c53 Tryz.f185 body185 noLoop ([.int .u64 x])) = S.math_bits_Len64_pre x by kernel_rfl) hp))

noncomputable def sem185 : List W → Option (W × List (List W) × List Prop)
  | [.int .u64 y1] => some (wr_i64 (S.math_bits_Len64 y1), wo_i64 (S.math_bits_Len64 y1), [S.math_bits_Len64_pre y1])
  | _ => none
noncomputable def c185 : Cfg El := c53.add 185 sem185
theorem c185_ok : CfgOk c185 := c53_ok.add (fun args w => Tryz.call185 args w) (fun vs r outs ps h hp => by
  unfold sem185 at h
  split at h
  · rename_i y1; cases h; exact fn185 y1 hp
  · cases h)

noncomputable def body184 : Code := (Tryz.f184.body).getD .skip
theorem fn184 (x : Int) : CallOk c185 184 [.int .i64 x] (wr_i64 (S.internal_strconv_log10Pow2 x)) (wo_i64 (S.internal_strconv_log10Pow2 x)) :=
  (call_ok (c := c185) (f := 184) (fn := Tryz.f184) (code := body184) (args := ([.int .i64 x])) (loop := noLoop) (md := ⟨false, false⟩) (rd := rd_i64) (wr := wr_i64) (wo := wo_i64) (r := (S.internal_strconv_log10Pow2 x)) c185_ok (by kernel_rfl) (by kernel_rfl) (by kernel_rfl) (no_loops (by kernel_rfl)) (by kernel_rfl) (by kernel_rfl) (by kernel_rfl)
    rw_i64 np_i64 no_i64 (by kernel_rfl) (Tr.vc_of_noReq (by kernel_rfl)))

noncomputable def sem184 : List W → Option (W × List (List W) × List Prop)
  | [.int .i64 y1] => some (wr_i64 (S.internal_strconv_log10Pow2 y1), wo_i64 (S.internal_strconv_log10Pow2 y1), [])
  | _ => none
noncomputable def c184 : Cfg El := c185.add 184 sem184
theorem c184_ok : CfgOk c184 := c185_ok.add (fun args w => Tryz.call184 args w) (fun vs r outs ps h hp => by
  unfold sem184 at h
  split at h
  · rename_i y1; cases h; exact fn184 y1
  · cases h)

noncomputable def body186 : Code := (Tryz.f186.body).getD .skip
theorem fn186 (b : Bool) : CallOk c184 186 [.bool b] (wr_i64 (S.internal_strconv_bool2int b)) (wo_i64 (S.internal_strconv_bool2int b)) :=
  (call_ok (c := c184) (f := 186) (fn := Tryz.f186) (code := body186) (args := ([.bool b])) (loop := noLoop) (md := ⟨false, false⟩) (rd := rd_i64) (wr := wr_i64) (wo := wo_i64) (r := (S.internal_strconv_bool2int b)) c184_ok (by kernel_rfl) (by kernel_rfl) (by kernel_rfl) (no_loops (by kernel_rfl)) (by kernel_rfl) (by kernel_rfl) (by kernel_rfl)
    rw_i64 np_i64 no_i64 (by kernel_rfl) (Tr.vc_of_noReq (by kernel_rfl)))

noncomputable def sem186 : List W → Option (W × List (List W) × List Prop)
  | [.bool y1] => some (wr_i64 (S.internal_strconv_bool2int y1), wo_i64 (S.internal_strconv_bool2int y1), [])
  | _ => none
noncomputable def c186 : Cfg El := c184.add 186 sem186
theorem c186_ok : CfgOk c186 := c184_ok.add (fun args w => Tryz.call186 args w) (fun vs r outs ps h hp => by
  unfold sem186 at h
  split at h
  · rename_i y1; cases h; exact fn186 y1
  · cases h)

noncomputable def body187 : Code := (Tryz.f187.body).getD .skip
theorem fn187 (x : Int) : CallOk c186 187 [.int .i64 x] (wr_b (S.internal_strconv_isPowerOfTwo x)) (wo_b (S.internal_strconv_isPowerOfTwo x)) :=
  (call_ok (c := c186) (f := 187) (fn := Tryz.f187) (code := body187) (args := ([.int .i64 x])) (loop := noLoop) (md := ⟨false, false⟩) (rd := rd_b) (wr := wr_b) (wo := wo_b) (r := (S.internal_strconv_isPowerOfTwo x)) c186_ok (by kernel_rfl) (by kernel_rfl) (by kernel_rfl) (no_loops (by kernel_rfl)) (by kernel_rfl) (by kernel_rfl) (by kernel_rfl)
    rw_b np_b no_b (by kernel_rfl) (Tr.vc_of_noReq (by kernel_rfl)))

noncomputable def sem187 : List W → Option (W × List (List W) × List Prop)
  | [.int .i64 y1] => some (wr_b (S.internal_strconv_isPowerOfTwo y1), wo_b (S.internal_strconv_isPowerOfTwo y1), [])
  | _ => none
noncomputable def c187 : Cfg El := c186.add 187 sem187
theorem c187_ok : CfgOk c187 := c186_ok.add (fun args w => Tryz.call187 args w) (fun vs r outs ps h hp => by
  unfold sem187 at h
  split at h
  · rename_i y1; cases h; exact fn187 y1
  · cases h)

noncomputable def rd_s : W → List (List W) → Option (ByteArray)
  | .str x1, [] => some x1
  | _, _ => none
noncomputable def wr_s (x : ByteArray) : W := .str x
noncomputable def wo_s (_x : ByteArray) : List (List W) := []
theorem rw_s (v : W) (os : List (List W)) (x : ByteArray) (h : rd_s v os = some x) : v = wr_s x ∧ os = wo_s x := by
  unfold rd_s at h
  split at h <;> first | (cases h; exact ⟨rfl, rfl⟩) | cases h
theorem np_s (x : ByteArray) : okv (fun _ => false) (wr_s x) = true := rfl
theorem no_s (x : ByteArray) : all (fun cs => all (ok0 fun _ => false) cs) (wo_s x) = true := rfl

theorem fn127 (i : Int) (base : Int) (hp : fmtI_pre i base) : CallOk c187 127 [.int .i64 i, .int .i64 base] (wr_s (fmtI i base)) (wo_s (fmtI i base)) :=
  fmtI_calls (c := c187) (P := P) rfl Tryz.laysM246 rfl (fun _ _ h => h.1) i base hp

noncomputable def sem127 : List W → Option (W × List (List W) × List Prop)
  | [.int .i64 y1, .int .i64 y2] => some (wr_s (fmtI y1 y2), wo_s (fmtI y1 y2), [fmtI_pre y1 y2])
  | _ => none
noncomputable def c127 : Cfg El := c187.add 127 sem127
theorem c127_ok : CfgOk c127 := c187_ok.add (fun args w => Tryz.call127 args w) (fun vs r outs ps h hp => by
  unfold sem127 at h
  split at h
  · rename_i y1 y2; cases h; exact fn127 y1 y2 hp
  · cases h)

noncomputable def body75 : Code := (Tryz.f75.body).getD .skip
theorem fn75 (i : Int) (base : Int) (hp : S.strconv_FormatInt_pre i base) : CallOk c127 75 [.int .i64 i, .int .i64 base] (wr_s (S.strconv_FormatInt i base)) (wo_s (S.strconv_FormatInt i base)) :=
  (call_ok (c := c127) (f := 75) (fn := Tryz.f75) (code := body75) (args := ([.int .i64 i, .int .i64 base])) (loop := noLoop) (md := ⟨false, false⟩) (rd := rd_s) (wr := wr_s) (wo := wo_s) (r := (S.strconv_FormatInt i base)) c127_ok (by kernel_rfl) (by kernel_rfl) (by kernel_rfl) (no_loops (by kernel_rfl)) (by kernel_rfl) (by kernel_rfl) (by kernel_rfl)
    rw_s np_s no_s (by kernel_rfl) (Eq.mpr (show Vm.Tr.vc (Vm.Fn c127 Tryz.f75 body75 noLoop ([.int .i64 i, .int .i64 base])) = S.strconv_FormatInt_pre i base by kernel_rfl) hp))

noncomputable def sem75 : List W → Option (W × List (List W) × List Prop)
  | [.int .i64 y1, .int .i64 y2] => some (wr_s (S.strconv_FormatInt y1 y2), wo_s (S.strconv_FormatInt y1 y2), [S.strconv_FormatInt_pre y1 y2])
  | _ => none
noncomputable def c75 : Cfg El := c127.add 75 sem75
theorem c75_ok : CfgOk c75 := c127_ok.add (fun args w => Tryz.call75 args w) (fun vs r outs ps h hp => by
  unfold sem75 at h
  split at h
  · rename_i y1 y2; cases h; exact fn75 y1 y2 hp
  · cases h)

theorem fn128 (i : Int) (base : Int) (hp : fmtU_pre i base) : CallOk c75 128 [.int .u64 i, .int .i64 base] (wr_s (fmtU i base)) (wo_s (fmtU i base)) :=
  fmtU_calls i base hp (c := c75) rfl (fun _ _ h => h.1)

noncomputable def sem128 : List W → Option (W × List (List W) × List Prop)
  | [.int .u64 y1, .int .i64 y2] => some (wr_s (fmtU y1 y2), wo_s (fmtU y1 y2), [fmtU_pre y1 y2])
  | _ => none
noncomputable def c128 : Cfg El := c75.add 128 sem128
theorem c128_ok : CfgOk c128 := c75_ok.add (fun args w => Tryz.call128 args w) (fun vs r outs ps h hp => by
  unfold sem128 at h
  split at h
  · rename_i y1 y2; cases h; exact fn128 y1 y2 hp
  · cases h)

noncomputable def body76 : Code := (Tryz.f76.body).getD .skip
theorem fn76 (i : Int) (base : Int) (hp : S.strconv_FormatUint_pre i base) : CallOk c128 76 [.int .u64 i, .int .i64 base] (wr_s (S.strconv_FormatUint i base)) (wo_s (S.strconv_FormatUint i base)) :=
  (call_ok (c := c128) (f := 76) (fn := Tryz.f76) (code := body76) (args := ([.int .u64 i, .int .i64 base])) (loop := noLoop) (md := ⟨false, false⟩) (rd := rd_s) (wr := wr_s) (wo := wo_s) (r := (S.strconv_FormatUint i base)) c128_ok (by kernel_rfl) (by kernel_rfl) (by kernel_rfl) (no_loops (by kernel_rfl)) (by kernel_rfl) (by kernel_rfl) (by kernel_rfl)
    rw_s np_s no_s (by kernel_rfl) (Eq.mpr (show Vm.Tr.vc (Vm.Fn c128 Tryz.f76 body76 noLoop ([.int .u64 i, .int .i64 base])) = S.strconv_FormatUint_pre i base by kernel_rfl) hp))

noncomputable def sem76 : List W → Option (W × List (List W) × List Prop)
  | [.int .u64 y1, .int .i64 y2] => some (wr_s (S.strconv_FormatUint y1 y2), wo_s (S.strconv_FormatUint y1 y2), [S.strconv_FormatUint_pre y1 y2])
  | _ => none
noncomputable def c76 : Cfg El := c128.add 76 sem76
theorem c76_ok : CfgOk c76 := c128_ok.add (fun args w => Tryz.call76 args w) (fun vs r outs ps h hp => by
  unfold sem76 at h
  split at h
  · rename_i y1 y2; cases h; exact fn76 y1 y2 hp
  · cases h)

noncomputable def body23 : Code := (Tryz.f23.body).getD .skip
theorem fn23 (v : S.Value) (hp : S.value_Value_Text_pre v) : CallOk c76 23 [.agg [.int .i64 v.I.Lo, .int .i64 v.I.Hi, .int .u64 v.C.M, .int .u64 v.C.R]] (wr_s (S.value_Value_Text v)) (wo_s (S.value_Value_Text v)) :=
  (call_ok (c := c76) (f := 23) (fn := Tryz.f23) (code := body23) (args := ([.agg [.int .i64 v.I.Lo, .int .i64 v.I.Hi, .int .u64 v.C.M, .int .u64 v.C.R]])) (loop := noLoop) (md := ⟨false, false⟩) (rd := rd_s) (wr := wr_s) (wo := wo_s) (r := (S.value_Value_Text v)) c76_ok (by kernel_rfl) (by kernel_rfl) (by kernel_rfl) (no_loops (by kernel_rfl)) (by kernel_rfl) (by kernel_rfl) (by kernel_rfl)
    rw_s np_s no_s (by kernel_rfl) (Eq.mpr (show Vm.Tr.vc (Vm.Fn c76 Tryz.f23 body23 noLoop ([.agg [.int .i64 v.I.Lo, .int .i64 v.I.Hi, .int .u64 v.C.M, .int .u64 v.C.R]])) = S.value_Value_Text_pre v by kernel_rfl) hp))

noncomputable def sem23 : List W → Option (W × List (List W) × List Prop)
  | [.agg [.int .i64 y1, .int .i64 y2, .int .u64 y3, .int .u64 y4]] => some (wr_s (S.value_Value_Text (⟨(⟨y1, y2⟩ : S.Inter), (⟨y3, y4⟩ : S.Cong)⟩ : S.Value)), wo_s (S.value_Value_Text (⟨(⟨y1, y2⟩ : S.Inter), (⟨y3, y4⟩ : S.Cong)⟩ : S.Value)), [S.value_Value_Text_pre (⟨(⟨y1, y2⟩ : S.Inter), (⟨y3, y4⟩ : S.Cong)⟩ : S.Value)])
  | _ => none
noncomputable def c23 : Cfg El := c76.add 23 sem23
theorem c23_ok : CfgOk c23 := c76_ok.add (fun args w => Tryz.call23 args w) (fun vs r outs ps h hp => by
  unfold sem23 at h
  split at h
  · rename_i y1 y2 y3 y4; cases h; exact fn23 (⟨(⟨y1, y2⟩ : S.Inter), (⟨y3, y4⟩ : S.Cong)⟩ : S.Value) hp
  · cases h)

noncomputable def body58 : Code := (Tryz.f58.body).getD .skip
theorem fn58 (hp : S.law24_works_pre) : CallOk c23 58 [] (wr_b (S.law24_works)) (wo_b (S.law24_works)) :=
  (call_ok (c := c23) (f := 58) (fn := Tryz.f58) (code := body58) (args := ([])) (loop := noLoop) (md := ⟨false, false⟩) (rd := rd_b) (wr := wr_b) (wo := wo_b) (r := S.law24_works) c23_ok (by kernel_rfl) (by kernel_rfl) (by kernel_rfl) (no_loops (by kernel_rfl)) (by kernel_rfl) (by kernel_rfl) (by kernel_rfl)
    rw_b np_b no_b (by kernel_rfl) (Eq.mpr (show Vm.Tr.vc (Vm.Fn c23 Tryz.f58 body58 noLoop ([])) = S.law24_works_pre by kernel_rfl) hp))

noncomputable def sem58 : List W → Option (W × List (List W) × List Prop)
  | [] => some (wr_b (S.law24_works), wo_b (S.law24_works), [S.law24_works_pre])
  | _ => none
noncomputable def c58 : Cfg El := c23.add 58 sem58
theorem c58_ok : CfgOk c58 := c23_ok.add (fun args w => Tryz.call58 args w) (fun vs r outs ps h hp => by
  unfold sem58 at h
  split at h
  · cases h; exact fn58 hp
  · cases h)

noncomputable def body6 : Code := (Tryz.f6.body).getD .skip
theorem fn6 (op : Int) (a : S.Value) (b : S.Value) (truth : Bool) (n : Int) (hp : S.law24_CondTells_pre op a b truth n) : CallOk c58 6 [.int .i64 op, .agg [.int .i64 a.I.Lo, .int .i64 a.I.Hi, .int .u64 a.C.M, .int .u64 a.C.R], .agg [.int .i64 b.I.Lo, .int .i64 b.I.Hi, .int .u64 b.C.M, .int .u64 b.C.R], .bool truth, .int .i64 n] (wr_b (S.law24_CondTells op a b truth n)) (wo_b (S.law24_CondTells op a b truth n)) :=
  (call_ok (c := c58) (f := 6) (fn := Tryz.f6) (code := body6) (args := ([.int .i64 op, .agg [.int .i64 a.I.Lo, .int .i64 a.I.Hi, .int .u64 a.C.M, .int .u64 a.C.R], .agg [.int .i64 b.I.Lo, .int .i64 b.I.Hi, .int .u64 b.C.M, .int .u64 b.C.R], .bool truth, .int .i64 n])) (loop := noLoop) (md := ⟨false, false⟩) (rd := rd_b) (wr := wr_b) (wo := wo_b) (r := (S.law24_CondTells op a b truth n)) c58_ok (by kernel_rfl) (by kernel_rfl) (by kernel_rfl) (no_loops (by kernel_rfl)) (by kernel_rfl) (by kernel_rfl) (by kernel_rfl)
    rw_b np_b no_b (by kernel_rfl) (Eq.mpr (show Vm.Tr.vc (Vm.Fn c58 Tryz.f6 body6 noLoop ([.int .i64 op, .agg [.int .i64 a.I.Lo, .int .i64 a.I.Hi, .int .u64 a.C.M, .int .u64 a.C.R], .agg [.int .i64 b.I.Lo, .int .i64 b.I.Hi, .int .u64 b.C.M, .int .u64 b.C.R], .bool truth, .int .i64 n])) = S.law24_CondTells_pre op a b truth n by kernel_rfl) hp))

noncomputable def sem6 : List W → Option (W × List (List W) × List Prop)
  | [.int .i64 y1, .agg [.int .i64 y2, .int .i64 y3, .int .u64 y4, .int .u64 y5], .agg [.int .i64 y6, .int .i64 y7, .int .u64 y8, .int .u64 y9], .bool y10, .int .i64 y11] => some (wr_b (S.law24_CondTells y1 (⟨(⟨y2, y3⟩ : S.Inter), (⟨y4, y5⟩ : S.Cong)⟩ : S.Value) (⟨(⟨y6, y7⟩ : S.Inter), (⟨y8, y9⟩ : S.Cong)⟩ : S.Value) y10 y11), wo_b (S.law24_CondTells y1 (⟨(⟨y2, y3⟩ : S.Inter), (⟨y4, y5⟩ : S.Cong)⟩ : S.Value) (⟨(⟨y6, y7⟩ : S.Inter), (⟨y8, y9⟩ : S.Cong)⟩ : S.Value) y10 y11), [S.law24_CondTells_pre y1 (⟨(⟨y2, y3⟩ : S.Inter), (⟨y4, y5⟩ : S.Cong)⟩ : S.Value) (⟨(⟨y6, y7⟩ : S.Inter), (⟨y8, y9⟩ : S.Cong)⟩ : S.Value) y10 y11])
  | _ => none
noncomputable def c6 : Cfg El := c58.add 6 sem6
theorem c6_ok : CfgOk c6 := c58_ok.add (fun args w => Tryz.call6 args w) (fun vs r outs ps h hp => by
  unfold sem6 at h
  split at h
  · rename_i y1 y2 y3 y4 y5 y6 y7 y8 y9 y10 y11; cases h; exact fn6 y1 (⟨(⟨y2, y3⟩ : S.Inter), (⟨y4, y5⟩ : S.Cong)⟩ : S.Value) (⟨(⟨y6, y7⟩ : S.Inter), (⟨y8, y9⟩ : S.Cong)⟩ : S.Value) y10 y11 hp
  · cases h)

noncomputable def body59 : Code := (Tryz.f59.body).getD .skip
theorem fn59 (v : S.Value) (n : Int) (hp : S.law24_near_pre v n) : CallOk c6 59 [.agg [.int .i64 v.I.Lo, .int .i64 v.I.Hi, .int .u64 v.C.M, .int .u64 v.C.R], .int .i64 n] (wr_i64_b (S.law24_near v n)) (wo_i64_b (S.law24_near v n)) :=
  (call_ok (c := c6) (f := 59) (fn := Tryz.f59) (code := body59) (args := ([.agg [.int .i64 v.I.Lo, .int .i64 v.I.Hi, .int .u64 v.C.M, .int .u64 v.C.R], .int .i64 n])) (loop := noLoop) (md := ⟨false, false⟩) (rd := rd_i64_b) (wr := wr_i64_b) (wo := wo_i64_b) (r := (S.law24_near v n)) c6_ok (by kernel_rfl) (by kernel_rfl) (by kernel_rfl) (no_loops (by kernel_rfl)) (by kernel_rfl) (by kernel_rfl) (by kernel_rfl)
    rw_i64_b np_i64_b no_i64_b (by kernel_rfl) (Eq.mpr (show Vm.Tr.vc (Vm.Fn c6 Tryz.f59 body59 noLoop ([.agg [.int .i64 v.I.Lo, .int .i64 v.I.Hi, .int .u64 v.C.M, .int .u64 v.C.R], .int .i64 n])) = S.law24_near_pre v n by kernel_rfl) hp))

noncomputable def sem59 : List W → Option (W × List (List W) × List Prop)
  | [.agg [.int .i64 y1, .int .i64 y2, .int .u64 y3, .int .u64 y4], .int .i64 y5] => some (wr_i64_b (S.law24_near (⟨(⟨y1, y2⟩ : S.Inter), (⟨y3, y4⟩ : S.Cong)⟩ : S.Value) y5), wo_i64_b (S.law24_near (⟨(⟨y1, y2⟩ : S.Inter), (⟨y3, y4⟩ : S.Cong)⟩ : S.Value) y5), [S.law24_near_pre (⟨(⟨y1, y2⟩ : S.Inter), (⟨y3, y4⟩ : S.Cong)⟩ : S.Value) y5])
  | _ => none
noncomputable def c59 : Cfg El := c6.add 59 sem59
theorem c59_ok : CfgOk c59 := c6_ok.add (fun args w => Tryz.call59 args w) (fun vs r outs ps h hp => by
  unfold sem59 at h
  split at h
  · rename_i y1 y2 y3 y4 y5; cases h; exact fn59 (⟨(⟨y1, y2⟩ : S.Inter), (⟨y3, y4⟩ : S.Cong)⟩ : S.Value) y5 hp
  · cases h)

noncomputable def body183 : Code := (Tryz.f183.body).getD .skip
theorem fn183 (x : Int) : CallOk c59 183 [.int .i64 x] (wr_b (S.cmp_isNaNint64 x)) (wo_b (S.cmp_isNaNint64 x)) :=
  (call_ok (c := c59) (f := 183) (fn := Tryz.f183) (code := body183) (args := ([.int .i64 x])) (loop := noLoop) (md := ⟨false, false⟩) (rd := rd_b) (wr := wr_b) (wo := wo_b) (r := (S.cmp_isNaNint64 x)) c59_ok (by kernel_rfl) (by kernel_rfl) (by kernel_rfl) (no_loops (by kernel_rfl)) (by kernel_rfl) (by kernel_rfl) (by kernel_rfl)
    rw_b np_b no_b (by kernel_rfl) (Tr.vc_of_noReq (by kernel_rfl)))

noncomputable def sem183 : List W → Option (W × List (List W) × List Prop)
  | [.int .i64 y1] => some (wr_b (S.cmp_isNaNint64 y1), wo_b (S.cmp_isNaNint64 y1), [])
  | _ => none
noncomputable def c183 : Cfg El := c59.add 183 sem183
theorem c183_ok : CfgOk c183 := c59_ok.add (fun args w => Tryz.call183 args w) (fun vs r outs ps h hp => by
  unfold sem183 at h
  split at h
  · rename_i y1; cases h; exact fn183 y1
  · cases h)

noncomputable def body158 : Code := (Tryz.f158.body).getD .skip
theorem fn158 (x : Int) (y : Int) : CallOk c183 158 [.int .i64 x, .int .i64 y] (wr_i64 (S.cmp_Compareint64 x y)) (wo_i64 (S.cmp_Compareint64 x y)) :=
  (call_ok (c := c183) (f := 158) (fn := Tryz.f158) (code := body158) (args := ([.int .i64 x, .int .i64 y])) (loop := noLoop) (md := ⟨false, false⟩) (rd := rd_i64) (wr := wr_i64) (wo := wo_i64) (r := (S.cmp_Compareint64 x y)) c183_ok (by kernel_rfl) (by kernel_rfl) (by kernel_rfl) (no_loops (by kernel_rfl)) (by kernel_rfl) (by kernel_rfl) (by kernel_rfl)
    rw_i64 np_i64 no_i64 (by kernel_rfl) (Tr.vc_of_noReq (by kernel_rfl)))

noncomputable def sem158 : List W → Option (W × List (List W) × List Prop)
  | [.int .i64 y1, .int .i64 y2] => some (wr_i64 (S.cmp_Compareint64 y1 y2), wo_i64 (S.cmp_Compareint64 y1 y2), [])
  | _ => none
noncomputable def c158 : Cfg El := c183.add 158 sem158
theorem c158_ok : CfgOk c158 := c183_ok.add (fun args w => Tryz.call158 args w) (fun vs r outs ps h hp => by
  unfold sem158 at h
  split at h
  · rename_i y1 y2; cases h; exact fn158 y1 y2
  · cases h)

noncomputable def body116 : Code := (Tryz.f116.body).getD .skip
theorem fn116 (op : Int) (a : Int) (b : Int) : CallOk c158 116 [.int .i64 op, .int .i64 a, .int .i64 b] (wr_b_b (S.word_compares op a b)) (wo_b_b (S.word_compares op a b)) :=
  (call_ok (c := c158) (f := 116) (fn := Tryz.f116) (code := body116) (args := ([.int .i64 op, .int .i64 a, .int .i64 b])) (loop := noLoop) (md := ⟨false, false⟩) (rd := rd_b_b) (wr := wr_b_b) (wo := wo_b_b) (r := (S.word_compares op a b)) c158_ok (by kernel_rfl) (by kernel_rfl) (by kernel_rfl) (no_loops (by kernel_rfl)) (by kernel_rfl) (by kernel_rfl) (by kernel_rfl)
    rw_b_b np_b_b no_b_b (by kernel_rfl) (Tr.vc_of_noReq (by kernel_rfl)))

noncomputable def sem116 : List W → Option (W × List (List W) × List Prop)
  | [.int .i64 y1, .int .i64 y2, .int .i64 y3] => some (wr_b_b (S.word_compares y1 y2 y3), wo_b_b (S.word_compares y1 y2 y3), [])
  | _ => none
noncomputable def c116 : Cfg El := c158.add 116 sem116
theorem c116_ok : CfgOk c116 := c158_ok.add (fun args w => Tryz.call116 args w) (fun vs r outs ps h hp => by
  unfold sem116 at h
  split at h
  · rename_i y1 y2 y3; cases h; exact fn116 y1 y2 y3
  · cases h)

noncomputable def body117 : Code := (Tryz.f117.body).getD .skip
theorem fn117 (x : Bool) : CallOk c116 117 [.bool x] (wr_i64 (S.word_Bit x)) (wo_i64 (S.word_Bit x)) :=
  (call_ok (c := c116) (f := 117) (fn := Tryz.f117) (code := body117) (args := ([.bool x])) (loop := noLoop) (md := ⟨false, false⟩) (rd := rd_i64) (wr := wr_i64) (wo := wo_i64) (r := (S.word_Bit x)) c116_ok (by kernel_rfl) (by kernel_rfl) (by kernel_rfl) (no_loops (by kernel_rfl)) (by kernel_rfl) (by kernel_rfl) (by kernel_rfl)
    rw_i64 np_i64 no_i64 (by kernel_rfl) (Tr.vc_of_noReq (by kernel_rfl)))

noncomputable def sem117 : List W → Option (W × List (List W) × List Prop)
  | [.bool y1] => some (wr_i64 (S.word_Bit y1), wo_i64 (S.word_Bit y1), [])
  | _ => none
noncomputable def c117 : Cfg El := c116.add 117 sem117
theorem c117_ok : CfgOk c117 := c116_ok.add (fun args w => Tryz.call117 args w) (fun vs r outs ps h hp => by
  unfold sem117 at h
  split at h
  · rename_i y1; cases h; exact fn117 y1
  · cases h)

noncomputable def body160 : Code := (Tryz.f160.body).getD .skip
theorem fn160 (n : Int) : CallOk c117 160 [.int .i64 n] (wr_b (S.word_Truth n)) (wo_b (S.word_Truth n)) :=
  (call_ok (c := c117) (f := 160) (fn := Tryz.f160) (code := body160) (args := ([.int .i64 n])) (loop := noLoop) (md := ⟨false, false⟩) (rd := rd_b) (wr := wr_b) (wo := wo_b) (r := (S.word_Truth n)) c117_ok (by kernel_rfl) (by kernel_rfl) (by kernel_rfl) (no_loops (by kernel_rfl)) (by kernel_rfl) (by kernel_rfl) (by kernel_rfl)
    rw_b np_b no_b (by kernel_rfl) (Tr.vc_of_noReq (by kernel_rfl)))

noncomputable def sem160 : List W → Option (W × List (List W) × List Prop)
  | [.int .i64 y1] => some (wr_b (S.word_Truth y1), wo_b (S.word_Truth y1), [])
  | _ => none
noncomputable def c160 : Cfg El := c117.add 160 sem160
theorem c160_ok : CfgOk c160 := c117_ok.add (fun args w => Tryz.call160 args w) (fun vs r outs ps h hp => by
  unfold sem160 at h
  split at h
  · rename_i y1; cases h; exact fn160 y1
  · cases h)

noncomputable def body159 : Code := (Tryz.f159.body).getD .skip
theorem fn159 (a : Int) (b : Int) : CallOk c160 159 [.int .i64 a, .int .i64 b] (wr_i64 (S.word_reckons_1 a b)) (wo_i64 (S.word_reckons_1 a b)) :=
  (call_ok (c := c160) (f := 159) (fn := Tryz.f159) (code := body159) (args := ([.int .i64 a, .int .i64 b])) (loop := noLoop) (md := ⟨false, false⟩) (rd := rd_i64) (wr := wr_i64) (wo := wo_i64) (r := (S.word_reckons_1 a b)) c160_ok (by kernel_rfl) (by kernel_rfl) (by kernel_rfl) (no_loops (by kernel_rfl)) (by kernel_rfl) (by kernel_rfl) (by kernel_rfl)
    rw_i64 np_i64 no_i64 (by kernel_rfl) (Tr.vc_of_noReq (by kernel_rfl)))

noncomputable def sem159 : List W → Option (W × List (List W) × List Prop)
  | [.int .i64 y1, .int .i64 y2] => some (wr_i64 (S.word_reckons_1 y1 y2), wo_i64 (S.word_reckons_1 y1 y2), [])
  | _ => none
noncomputable def c159 : Cfg El := c160.add 159 sem159
theorem c159_ok : CfgOk c159 := c160_ok.add (fun args w => Tryz.call159 args w) (fun vs r outs ps h hp => by
  unfold sem159 at h
  split at h
  · rename_i y1 y2; cases h; exact fn159 y1 y2
  · cases h)

noncomputable def body161 : Code := (Tryz.f161.body).getD .skip
theorem fn161 (a : Int) (b : Int) : CallOk c159 161 [.int .i64 a, .int .i64 b] (wr_i64 (S.word_reckons_2 a b)) (wo_i64 (S.word_reckons_2 a b)) :=
  (call_ok (c := c159) (f := 161) (fn := Tryz.f161) (code := body161) (args := ([.int .i64 a, .int .i64 b])) (loop := noLoop) (md := ⟨false, false⟩) (rd := rd_i64) (wr := wr_i64) (wo := wo_i64) (r := (S.word_reckons_2 a b)) c159_ok (by kernel_rfl) (by kernel_rfl) (by kernel_rfl) (no_loops (by kernel_rfl)) (by kernel_rfl) (by kernel_rfl) (by kernel_rfl)
    rw_i64 np_i64 no_i64 (by kernel_rfl) (Tr.vc_of_noReq (by kernel_rfl)))

noncomputable def sem161 : List W → Option (W × List (List W) × List Prop)
  | [.int .i64 y1, .int .i64 y2] => some (wr_i64 (S.word_reckons_2 y1 y2), wo_i64 (S.word_reckons_2 y1 y2), [])
  | _ => none
noncomputable def c161 : Cfg El := c159.add 161 sem161
theorem c161_ok : CfgOk c161 := c159_ok.add (fun args w => Tryz.call161 args w) (fun vs r outs ps h hp => by
  unfold sem161 at h
  split at h
  · rename_i y1 y2; cases h; exact fn161 y1 y2
  · cases h)

noncomputable def body162 : Code := (Tryz.f162.body).getD .skip
theorem fn162 (a : Int) (b : Int) : CallOk c161 162 [.int .i64 a, .int .i64 b] (wr_i64 (S.word_reckons_3 a b)) (wo_i64 (S.word_reckons_3 a b)) :=
  (call_ok (c := c161) (f := 162) (fn := Tryz.f162) (code := body162) (args := ([.int .i64 a, .int .i64 b])) (loop := noLoop) (md := ⟨false, false⟩) (rd := rd_i64) (wr := wr_i64) (wo := wo_i64) (r := (S.word_reckons_3 a b)) c161_ok (by kernel_rfl) (by kernel_rfl) (by kernel_rfl) (no_loops (by kernel_rfl)) (by kernel_rfl) (by kernel_rfl) (by kernel_rfl)
    rw_i64 np_i64 no_i64 (by kernel_rfl) (Tr.vc_of_noReq (by kernel_rfl)))

noncomputable def sem162 : List W → Option (W × List (List W) × List Prop)
  | [.int .i64 y1, .int .i64 y2] => some (wr_i64 (S.word_reckons_3 y1 y2), wo_i64 (S.word_reckons_3 y1 y2), [])
  | _ => none
noncomputable def c162 : Cfg El := c161.add 162 sem162
theorem c162_ok : CfgOk c162 := c161_ok.add (fun args w => Tryz.call162 args w) (fun vs r outs ps h hp => by
  unfold sem162 at h
  split at h
  · rename_i y1 y2; cases h; exact fn162 y1 y2
  · cases h)

noncomputable def body163 : Code := (Tryz.f163.body).getD .skip
theorem fn163 (a : Int) (b : Int) : CallOk c162 163 [.int .i64 a, .int .i64 b] (wr_i64 (S.word_reckons_4 a b)) (wo_i64 (S.word_reckons_4 a b)) :=
  (call_ok (c := c162) (f := 163) (fn := Tryz.f163) (code := body163) (args := ([.int .i64 a, .int .i64 b])) (loop := noLoop) (md := ⟨false, false⟩) (rd := rd_i64) (wr := wr_i64) (wo := wo_i64) (r := (S.word_reckons_4 a b)) c162_ok (by kernel_rfl) (by kernel_rfl) (by kernel_rfl) (no_loops (by kernel_rfl)) (by kernel_rfl) (by kernel_rfl) (by kernel_rfl)
    rw_i64 np_i64 no_i64 (by kernel_rfl) (Tr.vc_of_noReq (by kernel_rfl)))

noncomputable def sem163 : List W → Option (W × List (List W) × List Prop)
  | [.int .i64 y1, .int .i64 y2] => some (wr_i64 (S.word_reckons_4 y1 y2), wo_i64 (S.word_reckons_4 y1 y2), [])
  | _ => none
noncomputable def c163 : Cfg El := c162.add 163 sem163
theorem c163_ok : CfgOk c163 := c162_ok.add (fun args w => Tryz.call163 args w) (fun vs r outs ps h hp => by
  unfold sem163 at h
  split at h
  · rename_i y1 y2; cases h; exact fn163 y1 y2
  · cases h)

noncomputable def body164 : Code := (Tryz.f164.body).getD .skip
theorem fn164 (a : Int) (b : Int) : CallOk c163 164 [.int .i64 a, .int .i64 b] (wr_i64 (S.word_reckons_5 a b)) (wo_i64 (S.word_reckons_5 a b)) :=
  (call_ok (c := c163) (f := 164) (fn := Tryz.f164) (code := body164) (args := ([.int .i64 a, .int .i64 b])) (loop := noLoop) (md := ⟨false, false⟩) (rd := rd_i64) (wr := wr_i64) (wo := wo_i64) (r := (S.word_reckons_5 a b)) c163_ok (by kernel_rfl) (by kernel_rfl) (by kernel_rfl) (no_loops (by kernel_rfl)) (by kernel_rfl) (by kernel_rfl) (by kernel_rfl)
    rw_i64 np_i64 no_i64 (by kernel_rfl) (Tr.vc_of_noReq (by kernel_rfl)))

noncomputable def sem164 : List W → Option (W × List (List W) × List Prop)
  | [.int .i64 y1, .int .i64 y2] => some (wr_i64 (S.word_reckons_5 y1 y2), wo_i64 (S.word_reckons_5 y1 y2), [])
  | _ => none
noncomputable def c164 : Cfg El := c163.add 164 sem164
theorem c164_ok : CfgOk c164 := c163_ok.add (fun args w => Tryz.call164 args w) (fun vs r outs ps h hp => by
  unfold sem164 at h
  split at h
  · rename_i y1 y2; cases h; exact fn164 y1 y2
  · cases h)

noncomputable def body166 : Code := (Tryz.f166.body).getD .skip
theorem fn166 (b : Int) : CallOk c164 166 [.int .i64 b] (wr_u64 (S.word_Shift b)) (wo_u64 (S.word_Shift b)) :=
  (call_ok (c := c164) (f := 166) (fn := Tryz.f166) (code := body166) (args := ([.int .i64 b])) (loop := noLoop) (md := ⟨false, false⟩) (rd := rd_u64) (wr := wr_u64) (wo := wo_u64) (r := (S.word_Shift b)) c164_ok (by kernel_rfl) (by kernel_rfl) (by kernel_rfl) (no_loops (by kernel_rfl)) (by kernel_rfl) (by kernel_rfl) (by kernel_rfl)
    rw_u64 np_u64 no_u64 (by kernel_rfl) (Tr.vc_of_noReq (by kernel_rfl)))

noncomputable def sem166 : List W → Option (W × List (List W) × List Prop)
  | [.int .i64 y1] => some (wr_u64 (S.word_Shift y1), wo_u64 (S.word_Shift y1), [])
  | _ => none
noncomputable def c166 : Cfg El := c164.add 166 sem166
theorem c166_ok : CfgOk c166 := c164_ok.add (fun args w => Tryz.call166 args w) (fun vs r outs ps h hp => by
  unfold sem166 at h
  split at h
  · rename_i y1; cases h; exact fn166 y1
  · cases h)

noncomputable def body165 : Code := (Tryz.f165.body).getD .skip
theorem fn165 (a : Int) (b : Int) (hp : S.word_reckons_6_pre a b) : CallOk c166 165 [.int .i64 a, .int .i64 b] (wr_i64 (S.word_reckons_6 a b)) (wo_i64 (S.word_reckons_6 a b)) :=
  (call_ok (c := c166) (f := 165) (fn := Tryz.f165) (code := body165) (args := ([.int .i64 a, .int .i64 b])) (loop := noLoop) (md := ⟨false, false⟩) (rd := rd_i64) (wr := wr_i64) (wo := wo_i64) (r := (S.word_reckons_6 a b)) c166_ok (by kernel_rfl) (by kernel_rfl) (by kernel_rfl) (no_loops (by kernel_rfl)) (by kernel_rfl) (by kernel_rfl) (by kernel_rfl)
    rw_i64 np_i64 no_i64 (by kernel_rfl) (Eq.mpr (show Vm.Tr.vc (Vm.Fn c166 Tryz.f165 body165 noLoop ([.int .i64 a, .int .i64 b])) = S.word_reckons_6_pre a b by kernel_rfl) hp))

noncomputable def sem165 : List W → Option (W × List (List W) × List Prop)
  | [.int .i64 y1, .int .i64 y2] => some (wr_i64 (S.word_reckons_6 y1 y2), wo_i64 (S.word_reckons_6 y1 y2), [S.word_reckons_6_pre y1 y2])
  | _ => none
noncomputable def c165 : Cfg El := c166.add 165 sem165
theorem c165_ok : CfgOk c165 := c166_ok.add (fun args w => Tryz.call165 args w) (fun vs r outs ps h hp => by
  unfold sem165 at h
  split at h
  · rename_i y1 y2; cases h; exact fn165 y1 y2 hp
  · cases h)

noncomputable def body167 : Code := (Tryz.f167.body).getD .skip
theorem fn167 (a : Int) (b : Int) (hp : S.word_reckons_7_pre a b) : CallOk c165 167 [.int .i64 a, .int .i64 b] (wr_i64 (S.word_reckons_7 a b)) (wo_i64 (S.word_reckons_7 a b)) :=
  (call_ok (c := c165) (f := 167) (fn := Tryz.f167) (code := body167) (args := ([.int .i64 a, .int .i64 b])) (loop := noLoop) (md := ⟨false, false⟩) (rd := rd_i64) (wr := wr_i64) (wo := wo_i64) (r := (S.word_reckons_7 a b)) c165_ok (by kernel_rfl) (by kernel_rfl) (by kernel_rfl) (no_loops (by kernel_rfl)) (by kernel_rfl) (by kernel_rfl) (by kernel_rfl)
    rw_i64 np_i64 no_i64 (by kernel_rfl) (Eq.mpr (show Vm.Tr.vc (Vm.Fn c165 Tryz.f167 body167 noLoop ([.int .i64 a, .int .i64 b])) = S.word_reckons_7_pre a b by kernel_rfl) hp))

noncomputable def sem167 : List W → Option (W × List (List W) × List Prop)
  | [.int .i64 y1, .int .i64 y2] => some (wr_i64 (S.word_reckons_7 y1 y2), wo_i64 (S.word_reckons_7 y1 y2), [S.word_reckons_7_pre y1 y2])
  | _ => none
noncomputable def c167 : Cfg El := c165.add 167 sem167
theorem c167_ok : CfgOk c167 := c165_ok.add (fun args w => Tryz.call167 args w) (fun vs r outs ps h hp => by
  unfold sem167 at h
  split at h
  · rename_i y1 y2; cases h; exact fn167 y1 y2 hp
  · cases h)

noncomputable def body168 : Code := (Tryz.f168.body).getD .skip
theorem fn168 (a : Int) (b : Int) : CallOk c167 168 [.int .i64 a, .int .i64 b] (wr_i64 (S.word_reckons_8 a b)) (wo_i64 (S.word_reckons_8 a b)) :=
  (call_ok (c := c167) (f := 168) (fn := Tryz.f168) (code := body168) (args := ([.int .i64 a, .int .i64 b])) (loop := noLoop) (md := ⟨false, false⟩) (rd := rd_i64) (wr := wr_i64) (wo := wo_i64) (r := (S.word_reckons_8 a b)) c167_ok (by kernel_rfl) (by kernel_rfl) (by kernel_rfl) (no_loops (by kernel_rfl)) (by kernel_rfl) (by kernel_rfl) (by kernel_rfl)
    rw_i64 np_i64 no_i64 (by kernel_rfl) (Tr.vc_of_noReq (by kernel_rfl)))

noncomputable def sem168 : List W → Option (W × List (List W) × List Prop)
  | [.int .i64 y1, .int .i64 y2] => some (wr_i64 (S.word_reckons_8 y1 y2), wo_i64 (S.word_reckons_8 y1 y2), [])
  | _ => none
noncomputable def c168 : Cfg El := c167.add 168 sem168
theorem c168_ok : CfgOk c168 := c167_ok.add (fun args w => Tryz.call168 args w) (fun vs r outs ps h hp => by
  unfold sem168 at h
  split at h
  · rename_i y1 y2; cases h; exact fn168 y1 y2
  · cases h)

noncomputable def body169 : Code := (Tryz.f169.body).getD .skip
theorem fn169 (a : Int) (b : Int) : CallOk c168 169 [.int .i64 a, .int .i64 b] (wr_i64 (S.word_reckons_9 a b)) (wo_i64 (S.word_reckons_9 a b)) :=
  (call_ok (c := c168) (f := 169) (fn := Tryz.f169) (code := body169) (args := ([.int .i64 a, .int .i64 b])) (loop := noLoop) (md := ⟨false, false⟩) (rd := rd_i64) (wr := wr_i64) (wo := wo_i64) (r := (S.word_reckons_9 a b)) c168_ok (by kernel_rfl) (by kernel_rfl) (by kernel_rfl) (no_loops (by kernel_rfl)) (by kernel_rfl) (by kernel_rfl) (by kernel_rfl)
    rw_i64 np_i64 no_i64 (by kernel_rfl) (Tr.vc_of_noReq (by kernel_rfl)))

noncomputable def sem169 : List W → Option (W × List (List W) × List Prop)
  | [.int .i64 y1, .int .i64 y2] => some (wr_i64 (S.word_reckons_9 y1 y2), wo_i64 (S.word_reckons_9 y1 y2), [])
  | _ => none
noncomputable def c169 : Cfg El := c168.add 169 sem169
theorem c169_ok : CfgOk c169 := c168_ok.add (fun args w => Tryz.call169 args w) (fun vs r outs ps h hp => by
  unfold sem169 at h
  split at h
  · rename_i y1 y2; cases h; exact fn169 y1 y2
  · cases h)

noncomputable def body170 : Code := (Tryz.f170.body).getD .skip
theorem fn170 (a : Int) (b : Int) : CallOk c169 170 [.int .i64 a, .int .i64 b] (wr_i64 (S.word_reckons_10 a b)) (wo_i64 (S.word_reckons_10 a b)) :=
  (call_ok (c := c169) (f := 170) (fn := Tryz.f170) (code := body170) (args := ([.int .i64 a, .int .i64 b])) (loop := noLoop) (md := ⟨false, false⟩) (rd := rd_i64) (wr := wr_i64) (wo := wo_i64) (r := (S.word_reckons_10 a b)) c169_ok (by kernel_rfl) (by kernel_rfl) (by kernel_rfl) (no_loops (by kernel_rfl)) (by kernel_rfl) (by kernel_rfl) (by kernel_rfl)
    rw_i64 np_i64 no_i64 (by kernel_rfl) (Tr.vc_of_noReq (by kernel_rfl)))

noncomputable def sem170 : List W → Option (W × List (List W) × List Prop)
  | [.int .i64 y1, .int .i64 y2] => some (wr_i64 (S.word_reckons_10 y1 y2), wo_i64 (S.word_reckons_10 y1 y2), [])
  | _ => none
noncomputable def c170 : Cfg El := c169.add 170 sem170
theorem c170_ok : CfgOk c170 := c169_ok.add (fun args w => Tryz.call170 args w) (fun vs r outs ps h hp => by
  unfold sem170 at h
  split at h
  · rename_i y1 y2; cases h; exact fn170 y1 y2
  · cases h)

noncomputable def body171 : Code := (Tryz.f171.body).getD .skip
theorem fn171 (a : Int) (b : Int) (hp : S.word_reckons_11_pre a b) : CallOk c170 171 [.int .i64 a, .int .i64 b] (wr_i64 (S.word_reckons_11 a b)) (wo_i64 (S.word_reckons_11 a b)) :=
  (call_ok (c := c170) (f := 171) (fn := Tryz.f171) (code := body171) (args := ([.int .i64 a, .int .i64 b])) (loop := noLoop) (md := ⟨false, false⟩) (rd := rd_i64) (wr := wr_i64) (wo := wo_i64) (r := (S.word_reckons_11 a b)) c170_ok (by kernel_rfl) (by kernel_rfl) (by kernel_rfl) (no_loops (by kernel_rfl)) (by kernel_rfl) (by kernel_rfl) (by kernel_rfl)
    rw_i64 np_i64 no_i64 (by kernel_rfl) (Eq.mpr (show Vm.Tr.vc (Vm.Fn c170 Tryz.f171 body171 noLoop ([.int .i64 a, .int .i64 b])) = S.word_reckons_11_pre a b by kernel_rfl) hp))

noncomputable def sem171 : List W → Option (W × List (List W) × List Prop)
  | [.int .i64 y1, .int .i64 y2] => some (wr_i64 (S.word_reckons_11 y1 y2), wo_i64 (S.word_reckons_11 y1 y2), [S.word_reckons_11_pre y1 y2])
  | _ => none
noncomputable def c171 : Cfg El := c170.add 171 sem171
theorem c171_ok : CfgOk c171 := c170_ok.add (fun args w => Tryz.call171 args w) (fun vs r outs ps h hp => by
  unfold sem171 at h
  split at h
  · rename_i y1 y2; cases h; exact fn171 y1 y2 hp
  · cases h)

noncomputable def body172 : Code := (Tryz.f172.body).getD .skip
theorem fn172 (a : Int) (b : Int) (hp : S.word_reckons_12_pre a b) : CallOk c171 172 [.int .i64 a, .int .i64 b] (wr_i64 (S.word_reckons_12 a b)) (wo_i64 (S.word_reckons_12 a b)) :=
  (call_ok (c := c171) (f := 172) (fn := Tryz.f172) (code := body172) (args := ([.int .i64 a, .int .i64 b])) (loop := noLoop) (md := ⟨false, false⟩) (rd := rd_i64) (wr := wr_i64) (wo := wo_i64) (r := (S.word_reckons_12 a b)) c171_ok (by kernel_rfl) (by kernel_rfl) (by kernel_rfl) (no_loops (by kernel_rfl)) (by kernel_rfl) (by kernel_rfl) (by kernel_rfl)
    rw_i64 np_i64 no_i64 (by kernel_rfl) (Eq.mpr (show Vm.Tr.vc (Vm.Fn c171 Tryz.f172 body172 noLoop ([.int .i64 a, .int .i64 b])) = S.word_reckons_12_pre a b by kernel_rfl) hp))

noncomputable def sem172 : List W → Option (W × List (List W) × List Prop)
  | [.int .i64 y1, .int .i64 y2] => some (wr_i64 (S.word_reckons_12 y1 y2), wo_i64 (S.word_reckons_12 y1 y2), [S.word_reckons_12_pre y1 y2])
  | _ => none
noncomputable def c172 : Cfg El := c171.add 172 sem172
theorem c172_ok : CfgOk c172 := c171_ok.add (fun args w => Tryz.call172 args w) (fun vs r outs ps h hp => by
  unfold sem172 at h
  split at h
  · rename_i y1 y2; cases h; exact fn172 y1 y2 hp
  · cases h)

noncomputable def rd_M132_f : W → List (List W) → Option ((List (Int × Go.Value)))
  | .cmap .i64 true x1, [] => some x1
  | _, _ => none
noncomputable def wr_M132_f (x : (List (Int × Go.Value))) : W := .cmap .i64 true x
noncomputable def wo_M132_f (_x : (List (Int × Go.Value))) : List (List W) := []
theorem rw_M132_f (v : W) (os : List (List W)) (x : (List (Int × Go.Value))) (h : rd_M132_f v os = some x) : v = wr_M132_f x ∧ os = wo_M132_f x := by
  unfold rd_M132_f at h
  split at h <;> first | (cases h; exact ⟨rfl, rfl⟩) | cases h
theorem np_M132_f (x : (List (Int × Go.Value))) : okv (fun _ => false) (wr_M132_f x) = true := rfl
theorem no_M132_f (x : (List (Int × Go.Value))) : all (fun cs => all (ok0 fun _ => false) cs) (wo_M132_f x) = true := rfl

noncomputable def body118 : Code := (Tryz.f118.body).getD .skip
theorem fn118 : CallOk c172 118 [] (wr_M132_f (S.word_reckons)) (wo_M132_f (S.word_reckons)) :=
  (call_ok (c := c172) (f := 118) (fn := Tryz.f118) (code := body118) (args := ([])) (loop := noLoop) (md := ⟨false, true⟩) (rd := rd_M132_f) (wr := wr_M132_f) (wo := wo_M132_f) (r := S.word_reckons) c172_ok (by kernel_rfl) (by kernel_rfl) (by kernel_rfl) (no_loops (by kernel_rfl)) (by kernel_rfl) (by kernel_rfl) (by kernel_rfl)
    rw_M132_f np_M132_f no_M132_f (by kernel_rfl) (Tr.vc_of_noReq (by kernel_rfl)))

noncomputable def sem118 : List W → Option (W × List (List W) × List Prop)
  | [] => some (wr_M132_f (S.word_reckons), wo_M132_f (S.word_reckons), [])
  | _ => none
noncomputable def c118 : Cfg El := c172.add 118 sem118
theorem c118_ok : CfgOk c118 := c172_ok.add (fun args w => Tryz.call118 args w) (fun vs r outs ps h hp => by
  unfold sem118 at h
  split at h
  · cases h; exact fn118
  · cases h)

noncomputable def body119 : Code := (Tryz.f119.body).getD .skip
theorem fn119 (op : Int) : CallOk c118 119 [.int .i64 op] (wr_b (S.word_Traps op)) (wo_b (S.word_Traps op)) :=
  (call_ok (c := c118) (f := 119) (fn := Tryz.f119) (code := body119) (args := ([.int .i64 op])) (loop := noLoop) (md := ⟨false, false⟩) (rd := rd_b) (wr := wr_b) (wo := wo_b) (r := (S.word_Traps op)) c118_ok (by kernel_rfl) (by kernel_rfl) (by kernel_rfl) (no_loops (by kernel_rfl)) (by kernel_rfl) (by kernel_rfl) (by kernel_rfl)
    rw_b np_b no_b (by kernel_rfl) (Tr.vc_of_noReq (by kernel_rfl)))

noncomputable def sem119 : List W → Option (W × List (List W) × List Prop)
  | [.int .i64 y1] => some (wr_b (S.word_Traps y1), wo_b (S.word_Traps y1), [])
  | _ => none
noncomputable def c119 : Cfg El := c118.add 119 sem119
theorem c119_ok : CfgOk c119 := c118_ok.add (fun args w => Tryz.call119 args w) (fun vs r outs ps h hp => by
  unfold sem119 at h
  split at h
  · rename_i y1; cases h; exact fn119 y1
  · cases h)

noncomputable def body60 : Code := (Tryz.f60.body).getD .skip
theorem fn60 (op : Int) (a : Int) (b : Int) (hp : S.word_Do_pre op a b) : CallOk c119 60 [.int .i64 op, .int .i64 a, .int .i64 b] (wr_i64_b (S.word_Do op a b)) (wo_i64_b (S.word_Do op a b)) :=
  (call_ok (c := c119) (f := 60) (fn := Tryz.f60) (code := body60) (args := ([.int .i64 op, .int .i64 a, .int .i64 b])) (loop := noLoop) (md := ⟨false, false⟩) (rd := rd_i64_b) (wr := wr_i64_b) (wo := wo_i64_b) (r := (S.word_Do op a b)) c119_ok (by kernel_rfl) (by kernel_rfl) (by kernel_rfl) (no_loops (by kernel_rfl)) (by kernel_rfl) (by kernel_rfl) (by kernel_rfl)
    rw_i64_b np_i64_b no_i64_b (by kernel_rfl) (Eq.mpr (show Vm.Tr.vc (Vm.Fn c119 Tryz.f60 body60 noLoop ([.int .i64 op, .int .i64 a, .int .i64 b])) = S.word_Do_pre op a b by kernel_rfl) hp))

noncomputable def sem60 : List W → Option (W × List (List W) × List Prop)
  | [.int .i64 y1, .int .i64 y2, .int .i64 y3] => some (wr_i64_b (S.word_Do y1 y2 y3), wo_i64_b (S.word_Do y1 y2 y3), [S.word_Do_pre y1 y2 y3])
  | _ => none
noncomputable def c60 : Cfg El := c119.add 60 sem60
theorem c60_ok : CfgOk c60 := c119_ok.add (fun args w => Tryz.call60 args w) (fun vs r outs ps h hp => by
  unfold sem60 at h
  split at h
  · rename_i y1 y2 y3; cases h; exact fn60 y1 y2 y3 hp
  · cases h)

noncomputable def body7 : Code := (Tryz.f7.body).getD .skip
theorem fn7 (op : Int) (a : S.Value) (b : S.Value) (n : Int) (m : Int) (hp : S.law24_CondSound_pre op a b n m) : CallOk c60 7 [.int .i64 op, .agg [.int .i64 a.I.Lo, .int .i64 a.I.Hi, .int .u64 a.C.M, .int .u64 a.C.R], .agg [.int .i64 b.I.Lo, .int .i64 b.I.Hi, .int .u64 b.C.M, .int .u64 b.C.R], .int .i64 n, .int .i64 m] (wr_b (S.law24_CondSound op a b n m)) (wo_b (S.law24_CondSound op a b n m)) :=
  (call_ok (c := c60) (f := 7) (fn := Tryz.f7) (code := body7) (args := ([.int .i64 op, .agg [.int .i64 a.I.Lo, .int .i64 a.I.Hi, .int .u64 a.C.M, .int .u64 a.C.R], .agg [.int .i64 b.I.Lo, .int .i64 b.I.Hi, .int .u64 b.C.M, .int .u64 b.C.R], .int .i64 n, .int .i64 m])) (loop := noLoop) (md := ⟨false, false⟩) (rd := rd_b) (wr := wr_b) (wo := wo_b) (r := (S.law24_CondSound op a b n m)) c60_ok (by kernel_rfl) (by kernel_rfl) (by kernel_rfl) (no_loops (by kernel_rfl)) (by kernel_rfl) (by kernel_rfl) (by kernel_rfl)
    rw_b np_b no_b (by kernel_rfl) (Eq.mpr (show Vm.Tr.vc (Vm.Fn c60 Tryz.f7 body7 noLoop ([.int .i64 op, .agg [.int .i64 a.I.Lo, .int .i64 a.I.Hi, .int .u64 a.C.M, .int .u64 a.C.R], .agg [.int .i64 b.I.Lo, .int .i64 b.I.Hi, .int .u64 b.C.M, .int .u64 b.C.R], .int .i64 n, .int .i64 m])) = S.law24_CondSound_pre op a b n m by kernel_rfl) hp))

noncomputable def sem7 : List W → Option (W × List (List W) × List Prop)
  | [.int .i64 y1, .agg [.int .i64 y2, .int .i64 y3, .int .u64 y4, .int .u64 y5], .agg [.int .i64 y6, .int .i64 y7, .int .u64 y8, .int .u64 y9], .int .i64 y10, .int .i64 y11] => some (wr_b (S.law24_CondSound y1 (⟨(⟨y2, y3⟩ : S.Inter), (⟨y4, y5⟩ : S.Cong)⟩ : S.Value) (⟨(⟨y6, y7⟩ : S.Inter), (⟨y8, y9⟩ : S.Cong)⟩ : S.Value) y10 y11), wo_b (S.law24_CondSound y1 (⟨(⟨y2, y3⟩ : S.Inter), (⟨y4, y5⟩ : S.Cong)⟩ : S.Value) (⟨(⟨y6, y7⟩ : S.Inter), (⟨y8, y9⟩ : S.Cong)⟩ : S.Value) y10 y11), [S.law24_CondSound_pre y1 (⟨(⟨y2, y3⟩ : S.Inter), (⟨y4, y5⟩ : S.Cong)⟩ : S.Value) (⟨(⟨y6, y7⟩ : S.Inter), (⟨y8, y9⟩ : S.Cong)⟩ : S.Value) y10 y11])
  | _ => none
noncomputable def c7 : Cfg El := c60.add 7 sem7
theorem c7_ok : CfgOk c7 := c60_ok.add (fun args w => Tryz.call7 args w) (fun vs r outs ps h hp => by
  unfold sem7 at h
  split at h
  · rename_i y1 y2 y3 y4 y5 y6 y7 y8 y9 y10 y11; cases h; exact fn7 y1 (⟨(⟨y2, y3⟩ : S.Inter), (⟨y4, y5⟩ : S.Cong)⟩ : S.Value) (⟨(⟨y6, y7⟩ : S.Inter), (⟨y8, y9⟩ : S.Cong)⟩ : S.Value) y10 y11 hp
  · cases h)

noncomputable def body61 : Code := (Tryz.f61.body).getD .skip
noncomputable def lb61_0 : Code := ((nth (loopsOf 0 body61) 0).getD (0, .skip)).2
noncomputable def px61_0 : List W → Option S.law24_comes_L0
  | [.int .i64 y1, .int .i64 y2, .ptr 5 0, .ptr 6 0, .bool y3, .list 2 false y4, .list 2 false y5, .int .i64 y6, .int .i64 y7, .int .i64 y8, .int .u64 y9, .int .u64 y10, .int .i64 y11, .int .i64 y12, .int .u64 y13, .int .u64 y14] => some ⟨y1, y2, y3, y4, y5, y6, ⟨⟨y7, y8⟩, ⟨y9, y10⟩⟩, ⟨⟨y11, y12⟩, ⟨y13, y14⟩⟩⟩
  | _ => none
noncomputable def tx61_0 (x : S.law24_comes_L0) : List W := [.int .i64 x.o, .int .i64 x.n, .ptr 5 0, .ptr 6 0, .bool x.t8, .list 2 false x.l, .list 2 false x.r, .int .i64 x.i, .int .i64 x.a.I.Lo, .int .i64 x.a.I.Hi, .int .u64 x.a.C.M, .int .u64 x.a.C.R, .int .i64 x.b.I.Lo, .int .i64 x.b.I.Hi, .int .u64 x.b.C.M, .int .u64 x.b.C.R]
noncomputable def py61_0 : Ex → List W → Option (Bool × S.law24_comes_L0)
  | .ret, [.int .i64 y1, .int .i64 y2, .ptr 5 0, .ptr 6 0, .bool y3, .list 2 false y4, .list 2 false y5, .int .i64 y6, .int .i64 y7, .int .i64 y8, .int .u64 y9, .int .u64 y10, .int .i64 y11, .int .i64 y12, .int .u64 y13, .int .u64 y14] => some ⟨true, ⟨y1, y2, y3, y4, y5, y6, ⟨⟨y7, y8⟩, ⟨y9, y10⟩⟩, ⟨⟨y11, y12⟩, ⟨y13, y14⟩⟩⟩⟩
  | .exit 0, [.int .i64 y1, .int .i64 y2, .ptr 5 0, .ptr 6 0, .bool y3, .list 2 false y4, .list 2 false y5, .int .i64 y6, .int .i64 y7, .int .i64 y8, .int .u64 y9, .int .u64 y10, .int .i64 y11, .int .i64 y12, .int .u64 y13, .int .u64 y14] => some ⟨false, ⟨y1, y2, y3, y4, y5, y6, ⟨⟨y7, y8⟩, ⟨y9, y10⟩⟩, ⟨⟨y11, y12⟩, ⟨y13, y14⟩⟩⟩⟩
  | _, _ => none
noncomputable def ld61_0 : LD El where
  X := S.law24_comes_L0
  Y := Bool × S.law24_comes_L0
  keys := [.slot 0, .slot 3, .slot 5, .slot 6, .slot 8, .slot 9, .slot 10, .slot 11, .cell 5 0, .cell 5 1, .cell 5 2, .cell 5 3, .cell 6 0, .cell 6 1, .cell 6 2, .cell 6 3]
  fits := [69, 2, 0, 0, 4, 40, 40, 3, 2, 2, 24, 24, 2, 2, 24, 24]
  px := px61_0
  tx := tx61_0
  okeys := [.slot 0, .slot 3, .slot 5, .slot 6, .slot 8, .slot 9, .slot 10, .slot 11, .cell 5 0, .cell 5 1, .cell 5 2, .cell 5 3, .cell 6 0, .cell 6 1, .cell 6 2, .cell 6 3]
  ofits := [69, 2, 0, 0, 4, 40, 40, 3, 2, 2, 24, 24, 2, 2, 24, 24]
  py := py61_0
  ty := fun y => bif y.1 then tx61_0 y.2 else tx61_0 y.2
  oex := fun y => bif y.1 then .ret else .exit 0
  junk := [.slot 12, .slot 13, .slot 14, .slot 15, .slot 30, .slot 31, .slot 32, .slot 33, .slot 34, .slot 35, .slot 36, .slot 37, .slot 38, .slot 39, .slot 40, .slot 41, .slot 42, .slot 43, .slot 44, .slot 45, .slot 46, .slot 47, .slot 48, .slot 49, .slot 50, .slot 51, .slot 52, .slot 53, .slot 54, .slot 55, .slot 56, .slot 57, .slot 58, .slot 59, .slot 60, .slot 61, .slot 62, .slot 63, .slot 64, .slot 65, .slot 66]
  rows := []
noncomputable def lo61_0 : (Bool × S.law24_comes_L0) → Tr El := fun y => .node y.1 (.leaf (.ret) (zipK ld61_0.okeys (tx61_0 y.2) ++ junkK ld61_0.junk)) (.leaf (.exit 0) (zipK ld61_0.okeys (tx61_0 y.2) ++ junkK ld61_0.junk))
noncomputable def loop61 : Nat → Env El → Tr El
  | 0 => ld61_0.tree c7 Tryz.f61.ntmps 0 lb61_0 S.law24_comes_L0_run lo61_0 S.law24_comes_L0_step S.law24_comes_L0_vcs
  | _ => fun _ => .fail
theorem lok61_0 : ∀ w0 S0, LoopOk c7 Tryz.f61.ntmps w0 S0 loop61 0 lb61_0 :=
  loop_ok (c := c7) (n := Tryz.f61.ntmps) c7_ok mixed ld61_0 (body := lb61_0) (key := 0) (loop := loop61) (F := S.law24_comes_L0_run) (out := lo61_0) (step := S.law24_comes_L0_step) (vcs := S.law24_comes_L0_vcs)
    (fun _ => by kernel_rfl) (no_loops (by kernel_rfl)) rfl rfl
    (fun vs x h => by unfold ld61_0 px61_0 at h; dsimp only at h; split at h <;> first | (cases h; rfl) | cases h)
    (fun e vs y h => by unfold ld61_0 py61_0 at h; dsimp only at h; split at h <;> first | (cases h; exact ⟨rfl, rfl⟩) | cases h)
    (by kernel_rfl) (fun | (true, _) => rfl | (false, _) => rfl) (fun | (true, _), _, h => h.1 rfl | (false, _), _, h => h.2 rfl) (fun x => by kernel_rfl) (fun x h => Eq.mpr (show Vm.Tr.vc (Vm.ev c7 Tryz.f61.ntmps loop61 0 lb61_0 (ld61_0.vars x) []) = S.law24_comes_L0_vcs x by kernel_rfl) h)
theorem fn61 (o : Int) (a : S.Value) (b : S.Value) (n : Int) (hp : S.law24_comes_pre o a b n) : CallOk c7 61 [.int .i64 o, .agg [.int .i64 a.I.Lo, .int .i64 a.I.Hi, .int .u64 a.C.M, .int .u64 a.C.R], .agg [.int .i64 b.I.Lo, .int .i64 b.I.Hi, .int .u64 b.C.M, .int .u64 b.C.R], .int .i64 n] (wr_b (S.law24_comes o a b n)) (wo_b (S.law24_comes o a b n)) :=
  (call_ok (c := c7) (f := 61) (fn := Tryz.f61) (code := body61) (args := ([.int .i64 o, .agg [.int .i64 a.I.Lo, .int .i64 a.I.Hi, .int .u64 a.C.M, .int .u64 a.C.R], .agg [.int .i64 b.I.Lo, .int .i64 b.I.Hi, .int .u64 b.C.M, .int .u64 b.C.R], .int .i64 n])) (loop := loop61) (md := ⟨false, false⟩) (rd := rd_b) (wr := wr_b) (wo := wo_b) (r := (S.law24_comes o a b n)) c7_ok (by kernel_rfl) (by kernel_rfl) (by kernel_rfl) (loops_all (l := [(0, lb61_0)]) (by kernel_rfl) ⟨lok61_0, trivial⟩) (by kernel_rfl) (by kernel_rfl) (by kernel_rfl)
    rw_b np_b no_b (by kernel_rfl) (Eq.mpr (show Vm.Tr.vc (Vm.Fn c7 Tryz.f61 body61 loop61 ([.int .i64 o, .agg [.int .i64 a.I.Lo, .int .i64 a.I.Hi, .int .u64 a.C.M, .int .u64 a.C.R], .agg [.int .i64 b.I.Lo, .int .i64 b.I.Hi, .int .u64 b.C.M, .int .u64 b.C.R], .int .i64 n])) = S.law24_comes_pre o a b n by kernel_rfl) hp))

noncomputable def sem61 : List W → Option (W × List (List W) × List Prop)
  | [.int .i64 y1, .agg [.int .i64 y2, .int .i64 y3, .int .u64 y4, .int .u64 y5], .agg [.int .i64 y6, .int .i64 y7, .int .u64 y8, .int .u64 y9], .int .i64 y10] => some (wr_b (S.law24_comes y1 (⟨(⟨y2, y3⟩ : S.Inter), (⟨y4, y5⟩ : S.Cong)⟩ : S.Value) (⟨(⟨y6, y7⟩ : S.Inter), (⟨y8, y9⟩ : S.Cong)⟩ : S.Value) y10), wo_b (S.law24_comes y1 (⟨(⟨y2, y3⟩ : S.Inter), (⟨y4, y5⟩ : S.Cong)⟩ : S.Value) (⟨(⟨y6, y7⟩ : S.Inter), (⟨y8, y9⟩ : S.Cong)⟩ : S.Value) y10), [S.law24_comes_pre y1 (⟨(⟨y2, y3⟩ : S.Inter), (⟨y4, y5⟩ : S.Cong)⟩ : S.Value) (⟨(⟨y6, y7⟩ : S.Inter), (⟨y8, y9⟩ : S.Cong)⟩ : S.Value) y10])
  | _ => none
noncomputable def c61 : Cfg El := c7.add 61 sem61
theorem c61_ok : CfgOk c61 := c7_ok.add (fun args w => Tryz.call61 args w) (fun vs r outs ps h hp => by
  unfold sem61 at h
  split at h
  · rename_i y1 y2 y3 y4 y5 y6 y7 y8 y9 y10; cases h; exact fn61 y1 (⟨(⟨y2, y3⟩ : S.Inter), (⟨y4, y5⟩ : S.Cong)⟩ : S.Value) (⟨(⟨y6, y7⟩ : S.Inter), (⟨y8, y9⟩ : S.Cong)⟩ : S.Value) y10 hp
  · cases h)

noncomputable def body8 : Code := (Tryz.f8.body).getD .skip
noncomputable def lb8_0 : Code := ((nth (loopsOf 0 body8) 0).getD (0, .skip)).2
noncomputable def px8_0 : List W → Option S.law24_CondExact_L0
  | [.bool y1, .int .i64 y2, .ptr 8 0, .ptr 9 0, .ptr 10 0, .int .i64 y3, .int .i64 y4, .int .i64 y5, .int .u64 y6, .int .u64 y7, .int .i64 y8, .int .i64 y9, .int .u64 y10, .int .u64 y11, .int .i64 y12, .int .i64 y13, .int .u64 y14, .int .u64 y15] => some ⟨y1, y2, y3, ⟨⟨y4, y5⟩, ⟨y6, y7⟩⟩, ⟨⟨y8, y9⟩, ⟨y10, y11⟩⟩, ⟨⟨y12, y13⟩, ⟨y14, y15⟩⟩⟩
  | _ => none
noncomputable def tx8_0 (x : S.law24_CondExact_L0) : List W := [.bool x.t6, .int .i64 x.o, .ptr 8 0, .ptr 9 0, .ptr 10 0, .int .i64 x.n, .int .i64 x.v.I.Lo, .int .i64 x.v.I.Hi, .int .u64 x.v.C.M, .int .u64 x.v.C.R, .int .i64 x.vx.I.Lo, .int .i64 x.vx.I.Hi, .int .u64 x.vx.C.M, .int .u64 x.vx.C.R, .int .i64 x.y.I.Lo, .int .i64 x.y.I.Hi, .int .u64 x.y.C.M, .int .u64 x.y.C.R]
noncomputable def py8_0 : Ex → List W → Option (Bool × S.law24_CondExact_L0)
  | .ret, [.bool y1, .int .i64 y2, .ptr 8 0, .ptr 9 0, .ptr 10 0, .int .i64 y3, .int .i64 y4, .int .i64 y5, .int .u64 y6, .int .u64 y7, .int .i64 y8, .int .i64 y9, .int .u64 y10, .int .u64 y11, .int .i64 y12, .int .i64 y13, .int .u64 y14, .int .u64 y15] => some ⟨true, ⟨y1, y2, y3, ⟨⟨y4, y5⟩, ⟨y6, y7⟩⟩, ⟨⟨y8, y9⟩, ⟨y10, y11⟩⟩, ⟨⟨y12, y13⟩, ⟨y14, y15⟩⟩⟩⟩
  | .exit 0, [.bool y1, .int .i64 y2, .ptr 8 0, .ptr 9 0, .ptr 10 0, .int .i64 y3, .int .i64 y4, .int .i64 y5, .int .u64 y6, .int .u64 y7, .int .i64 y8, .int .i64 y9, .int .u64 y10, .int .u64 y11, .int .i64 y12, .int .i64 y13, .int .u64 y14, .int .u64 y15] => some ⟨false, ⟨y1, y2, y3, ⟨⟨y4, y5⟩, ⟨y6, y7⟩⟩, ⟨⟨y8, y9⟩, ⟨y10, y11⟩⟩, ⟨⟨y12, y13⟩, ⟨y14, y15⟩⟩⟩⟩
  | _, _ => none
noncomputable def ld8_0 : LD El where
  X := S.law24_CondExact_L0
  Y := Bool × S.law24_CondExact_L0
  keys := [.slot 6, .slot 7, .slot 8, .slot 9, .slot 10, .slot 11, .cell 8 0, .cell 8 1, .cell 8 2, .cell 8 3, .cell 9 0, .cell 9 1, .cell 9 2, .cell 9 3, .cell 10 0, .cell 10 1, .cell 10 2, .cell 10 3]
  fits := [4, 69, 0, 0, 0, 2, 2, 2, 24, 24, 2, 2, 24, 24, 2, 2, 24, 24]
  px := px8_0
  tx := tx8_0
  okeys := [.slot 6, .slot 7, .slot 8, .slot 9, .slot 10, .slot 11, .cell 8 0, .cell 8 1, .cell 8 2, .cell 8 3, .cell 9 0, .cell 9 1, .cell 9 2, .cell 9 3, .cell 10 0, .cell 10 1, .cell 10 2, .cell 10 3]
  ofits := [4, 69, 0, 0, 0, 2, 2, 2, 24, 24, 2, 2, 24, 24, 2, 2, 24, 24]
  py := py8_0
  ty := fun y => bif y.1 then tx8_0 y.2 else tx8_0 y.2
  oex := fun y => bif y.1 then .ret else .exit 0
  junk := [.slot 33, .slot 34, .slot 35, .slot 36, .slot 37, .slot 38, .slot 39, .slot 40, .slot 41, .slot 42, .slot 43, .slot 44, .slot 45, .slot 46, .slot 47]
  rows := []
noncomputable def lo8_0 : (Bool × S.law24_CondExact_L0) → Tr El := fun y => .node y.1 (.leaf (.ret) (zipK ld8_0.okeys (tx8_0 y.2) ++ junkK ld8_0.junk)) (.leaf (.exit 0) (zipK ld8_0.okeys (tx8_0 y.2) ++ junkK ld8_0.junk))
noncomputable def loop8 : Nat → Env El → Tr El
  | 0 => ld8_0.tree c61 Tryz.f8.ntmps 0 lb8_0 S.law24_CondExact_L0_run lo8_0 S.law24_CondExact_L0_step S.law24_CondExact_L0_vcs
  | _ => fun _ => .fail
theorem lok8_0 : ∀ w0 S0, LoopOk c61 Tryz.f8.ntmps w0 S0 loop8 0 lb8_0 :=
  loop_ok (c := c61) (n := Tryz.f8.ntmps) c61_ok mixed ld8_0 (body := lb8_0) (key := 0) (loop := loop8) (F := S.law24_CondExact_L0_run) (out := lo8_0) (step := S.law24_CondExact_L0_step) (vcs := S.law24_CondExact_L0_vcs)
    (fun _ => by kernel_rfl) (no_loops (by kernel_rfl)) rfl rfl
    (fun vs x h => by unfold ld8_0 px8_0 at h; dsimp only at h; split at h <;> first | (cases h; rfl) | cases h)
    (fun e vs y h => by unfold ld8_0 py8_0 at h; dsimp only at h; split at h <;> first | (cases h; exact ⟨rfl, rfl⟩) | cases h)
    (by kernel_rfl) (fun | (true, _) => rfl | (false, _) => rfl) (fun | (true, _), _, h => h.1 rfl | (false, _), _, h => h.2 rfl) (fun x => by kernel_rfl) (fun x h => Eq.mpr (show Vm.Tr.vc (Vm.ev c61 Tryz.f8.ntmps loop8 0 lb8_0 (ld8_0.vars x) []) = S.law24_CondExact_L0_vcs x by kernel_rfl) h)
theorem fn8 (op : Int) (a : S.Value) (b : S.Value) (hp : S.law24_CondExact_pre op a b) : CallOk c61 8 [.int .i64 op, .agg [.int .i64 a.I.Lo, .int .i64 a.I.Hi, .int .u64 a.C.M, .int .u64 a.C.R], .agg [.int .i64 b.I.Lo, .int .i64 b.I.Hi, .int .u64 b.C.M, .int .u64 b.C.R]] (wr_b (S.law24_CondExact op a b)) (wo_b (S.law24_CondExact op a b)) :=
  (call_ok (c := c61) (f := 8) (fn := Tryz.f8) (code := body8) (args := ([.int .i64 op, .agg [.int .i64 a.I.Lo, .int .i64 a.I.Hi, .int .u64 a.C.M, .int .u64 a.C.R], .agg [.int .i64 b.I.Lo, .int .i64 b.I.Hi, .int .u64 b.C.M, .int .u64 b.C.R]])) (loop := loop8) (md := ⟨false, false⟩) (rd := rd_b) (wr := wr_b) (wo := wo_b) (r := (S.law24_CondExact op a b)) c61_ok (by kernel_rfl) (by kernel_rfl) (by kernel_rfl) (loops_all (l := [(0, lb8_0)]) (by kernel_rfl) ⟨lok8_0, trivial⟩) (by kernel_rfl) (by kernel_rfl) (by kernel_rfl)
    rw_b np_b no_b (by kernel_rfl) (Eq.mpr (show Vm.Tr.vc (Vm.Fn c61 Tryz.f8 body8 loop8 ([.int .i64 op, .agg [.int .i64 a.I.Lo, .int .i64 a.I.Hi, .int .u64 a.C.M, .int .u64 a.C.R], .agg [.int .i64 b.I.Lo, .int .i64 b.I.Hi, .int .u64 b.C.M, .int .u64 b.C.R]])) = S.law24_CondExact_pre op a b by kernel_rfl) hp))

noncomputable def sem8 : List W → Option (W × List (List W) × List Prop)
  | [.int .i64 y1, .agg [.int .i64 y2, .int .i64 y3, .int .u64 y4, .int .u64 y5], .agg [.int .i64 y6, .int .i64 y7, .int .u64 y8, .int .u64 y9]] => some (wr_b (S.law24_CondExact y1 (⟨(⟨y2, y3⟩ : S.Inter), (⟨y4, y5⟩ : S.Cong)⟩ : S.Value) (⟨(⟨y6, y7⟩ : S.Inter), (⟨y8, y9⟩ : S.Cong)⟩ : S.Value)), wo_b (S.law24_CondExact y1 (⟨(⟨y2, y3⟩ : S.Inter), (⟨y4, y5⟩ : S.Cong)⟩ : S.Value) (⟨(⟨y6, y7⟩ : S.Inter), (⟨y8, y9⟩ : S.Cong)⟩ : S.Value)), [S.law24_CondExact_pre y1 (⟨(⟨y2, y3⟩ : S.Inter), (⟨y4, y5⟩ : S.Cong)⟩ : S.Value) (⟨(⟨y6, y7⟩ : S.Inter), (⟨y8, y9⟩ : S.Cong)⟩ : S.Value)])
  | _ => none
noncomputable def c8 : Cfg El := c61.add 8 sem8
theorem c8_ok : CfgOk c8 := c61_ok.add (fun args w => Tryz.call8 args w) (fun vs r outs ps h hp => by
  unfold sem8 at h
  split at h
  · rename_i y1 y2 y3 y4 y5 y6 y7 y8 y9; cases h; exact fn8 y1 (⟨(⟨y2, y3⟩ : S.Inter), (⟨y4, y5⟩ : S.Cong)⟩ : S.Value) (⟨(⟨y6, y7⟩ : S.Inter), (⟨y8, y9⟩ : S.Cong)⟩ : S.Value) hp
  · cases h)

noncomputable def body63 : Code := (Tryz.f63.body).getD .skip
theorem fn63 (op : Int) (a : S.Value) (b : S.Value) (truth : Bool) (hp : S.law24_CondKeeps_pre op a b truth) : CallOk c8 63 [.int .i64 op, .agg [.int .i64 a.I.Lo, .int .i64 a.I.Hi, .int .u64 a.C.M, .int .u64 a.C.R], .agg [.int .i64 b.I.Lo, .int .i64 b.I.Hi, .int .u64 b.C.M, .int .u64 b.C.R], .bool truth] (wr_b (S.law24_CondKeeps op a b truth)) (wo_b (S.law24_CondKeeps op a b truth)) :=
  (call_ok (c := c8) (f := 63) (fn := Tryz.f63) (code := body63) (args := ([.int .i64 op, .agg [.int .i64 a.I.Lo, .int .i64 a.I.Hi, .int .u64 a.C.M, .int .u64 a.C.R], .agg [.int .i64 b.I.Lo, .int .i64 b.I.Hi, .int .u64 b.C.M, .int .u64 b.C.R], .bool truth])) (loop := noLoop) (md := ⟨false, false⟩) (rd := rd_b) (wr := wr_b) (wo := wo_b) (r := (S.law24_CondKeeps op a b truth)) c8_ok (by kernel_rfl) (by kernel_rfl) (by kernel_rfl) (no_loops (by kernel_rfl)) (by kernel_rfl) (by kernel_rfl) (by kernel_rfl)
    rw_b np_b no_b (by kernel_rfl) (Eq.mpr (show Vm.Tr.vc (Vm.Fn c8 Tryz.f63 body63 noLoop ([.int .i64 op, .agg [.int .i64 a.I.Lo, .int .i64 a.I.Hi, .int .u64 a.C.M, .int .u64 a.C.R], .agg [.int .i64 b.I.Lo, .int .i64 b.I.Hi, .int .u64 b.C.M, .int .u64 b.C.R], .bool truth])) = S.law24_CondKeeps_pre op a b truth by kernel_rfl) hp))

noncomputable def sem63 : List W → Option (W × List (List W) × List Prop)
  | [.int .i64 y1, .agg [.int .i64 y2, .int .i64 y3, .int .u64 y4, .int .u64 y5], .agg [.int .i64 y6, .int .i64 y7, .int .u64 y8, .int .u64 y9], .bool y10] => some (wr_b (S.law24_CondKeeps y1 (⟨(⟨y2, y3⟩ : S.Inter), (⟨y4, y5⟩ : S.Cong)⟩ : S.Value) (⟨(⟨y6, y7⟩ : S.Inter), (⟨y8, y9⟩ : S.Cong)⟩ : S.Value) y10), wo_b (S.law24_CondKeeps y1 (⟨(⟨y2, y3⟩ : S.Inter), (⟨y4, y5⟩ : S.Cong)⟩ : S.Value) (⟨(⟨y6, y7⟩ : S.Inter), (⟨y8, y9⟩ : S.Cong)⟩ : S.Value) y10), [S.law24_CondKeeps_pre y1 (⟨(⟨y2, y3⟩ : S.Inter), (⟨y4, y5⟩ : S.Cong)⟩ : S.Value) (⟨(⟨y6, y7⟩ : S.Inter), (⟨y8, y9⟩ : S.Cong)⟩ : S.Value) y10])
  | _ => none
noncomputable def c63 : Cfg El := c8.add 63 sem63
theorem c63_ok : CfgOk c63 := c8_ok.add (fun args w => Tryz.call63 args w) (fun vs r outs ps h hp => by
  unfold sem63 at h
  split at h
  · rename_i y1 y2 y3 y4 y5 y6 y7 y8 y9 y10; cases h; exact fn63 y1 (⟨(⟨y2, y3⟩ : S.Inter), (⟨y4, y5⟩ : S.Cong)⟩ : S.Value) (⟨(⟨y6, y7⟩ : S.Inter), (⟨y8, y9⟩ : S.Cong)⟩ : S.Value) y10 hp
  · cases h)
end Go.Proofs.YthplfkeecpkmhaaGreatDoor
