/-
  Printed by a program for this claim: functions of the code as plain functions, and that the code comes to them. Conditions: those that each theorem states.
-/
import Derived.Test.YtcgafjhkefcdfaaDoorQLEnv
import Derived.Test.YtcgafjhkefcdfaaDoorQLFmt
set_option linter.all false
namespace Go.Proofs.YtcgafjhkefcdfaaDoor
open Go Go.Proofs Vm
attribute [local irreducible] Vm.Tr.vc Vm.Tr.out Vm.Fn Vm.Fn.out Vm.ev Vm.loopsOf Vm.Tr.noReq
noncomputable def rd_b : W → List (List W) → Option (Bool)
  | .bool x1, [] => some x1
  | _, _ => none
noncomputable def wr_b (x : Bool) : W := .bool x
noncomputable def wo_b (_x : Bool) : List (List W) := []
theorem rw_b (v : W) (os : List (List W)) (x : Bool) (h : rd_b v os = some x) : v = wr_b x ∧ os = wo_b x := by
  unfold rd_b at h
  split at h <;> first | (cases h; exact ⟨rfl, rfl⟩) | cases h
theorem np_b (x : Bool) : okv (fun _ => false) (wr_b x) = true := rfl
theorem no_b (x : Bool) : all (fun cs => all (ok0 fun _ => false) cs) (wo_b x) = true := rfl

noncomputable def body40 : Code := (Tryd.f40.body).getD .skip
theorem fn40 (c : S.Cong) : CallOk base 40 [.agg [.int .u64 c.M, .int .u64 c.R]] (wr_b (S.cong_Cong_single c)) (wo_b (S.cong_Cong_single c)) :=
  (call_ok (c := base) (f := 40) (fn := Tryd.f40) (code := body40) (args := ([.agg [.int .u64 c.M, .int .u64 c.R]])) (loop := noLoop) (md := ⟨false, false⟩) (rd := rd_b) (wr := wr_b) (wo := wo_b) (r := (S.cong_Cong_single c)) base_ok (by kernel_rfl) (by kernel_rfl) (by kernel_rfl) (no_loops (by kernel_rfl)) (by kernel_rfl) (by kernel_rfl) (by kernel_rfl)
    rw_b np_b no_b (by kernel_rfl) (Tr.vc_of_noReq (by kernel_rfl)))

noncomputable def sem40 : List W → Option (W × List (List W) × List Prop)
  | [.agg [.int .u64 y1, .int .u64 y2]] => some (wr_b (S.cong_Cong_single (⟨y1, y2⟩ : S.Cong)), wo_b (S.cong_Cong_single (⟨y1, y2⟩ : S.Cong)), [])
  | _ => none
noncomputable def c40 : Cfg El := base.add 40 sem40
theorem c40_ok : CfgOk c40 := base_ok.add (fun args w => Tryd.call40 args w) (fun vs r outs ps h hp => by
  unfold sem40 at h
  split at h
  · rename_i y1 y2; cases h; exact fn40 (⟨y1, y2⟩ : S.Cong)
  · cases h)

noncomputable def body15 : Code := (Tryd.f15.body).getD .skip
theorem fn15 (c : S.Cong) : CallOk c40 15 [.agg [.int .u64 c.M, .int .u64 c.R]] (wr_b (S.cong_Cong_Right c)) (wo_b (S.cong_Cong_Right c)) :=
  (call_ok (c := c40) (f := 15) (fn := Tryd.f15) (code := body15) (args := ([.agg [.int .u64 c.M, .int .u64 c.R]])) (loop := noLoop) (md := ⟨false, false⟩) (rd := rd_b) (wr := wr_b) (wo := wo_b) (r := (S.cong_Cong_Right c)) c40_ok (by kernel_rfl) (by kernel_rfl) (by kernel_rfl) (no_loops (by kernel_rfl)) (by kernel_rfl) (by kernel_rfl) (by kernel_rfl)
    rw_b np_b no_b (by kernel_rfl) (Tr.vc_of_noReq (by kernel_rfl)))

noncomputable def sem15 : List W → Option (W × List (List W) × List Prop)
  | [.agg [.int .u64 y1, .int .u64 y2]] => some (wr_b (S.cong_Cong_Right (⟨y1, y2⟩ : S.Cong)), wo_b (S.cong_Cong_Right (⟨y1, y2⟩ : S.Cong)), [])
  | _ => none
noncomputable def c15 : Cfg El := c40.add 15 sem15
theorem c15_ok : CfgOk c15 := c40_ok.add (fun args w => Tryd.call15 args w) (fun vs r outs ps h hp => by
  unfold sem15 at h
  split at h
  · rename_i y1 y2; cases h; exact fn15 (⟨y1, y2⟩ : S.Cong)
  · cases h)

noncomputable def rd_i64 : W → List (List W) → Option (Int)
  | .int .i64 x1, [] => some x1
  | _, _ => none
noncomputable def wr_i64 (x : Int) : W := .int .i64 x
noncomputable def wo_i64 (_x : Int) : List (List W) := []
theorem rw_i64 (v : W) (os : List (List W)) (x : Int) (h : rd_i64 v os = some x) : v = wr_i64 x ∧ os = wo_i64 x := by
  unfold rd_i64 at h
  split at h <;> first | (cases h; exact ⟨rfl, rfl⟩) | cases h
theorem np_i64 (x : Int) : okv (fun _ => false) (wr_i64 x) = true := rfl
theorem no_i64 (x : Int) : all (fun cs => all (ok0 fun _ => false) cs) (wo_i64 x) = true := rfl

noncomputable def body42 : Code := (Tryd.f42.body).getD .skip
theorem fn42 (c : S.Cong) : CallOk c15 42 [.agg [.int .u64 c.M, .int .u64 c.R]] (wr_i64 (S.cong_Cong_number c)) (wo_i64 (S.cong_Cong_number c)) :=
  (call_ok (c := c15) (f := 42) (fn := Tryd.f42) (code := body42) (args := ([.agg [.int .u64 c.M, .int .u64 c.R]])) (loop := noLoop) (md := ⟨false, false⟩) (rd := rd_i64) (wr := wr_i64) (wo := wo_i64) (r := (S.cong_Cong_number c)) c15_ok (by kernel_rfl) (by kernel_rfl) (by kernel_rfl) (no_loops (by kernel_rfl)) (by kernel_rfl) (by kernel_rfl) (by kernel_rfl)
    rw_i64 np_i64 no_i64 (by kernel_rfl) (Tr.vc_of_noReq (by kernel_rfl)))

noncomputable def sem42 : List W → Option (W × List (List W) × List Prop)
  | [.agg [.int .u64 y1, .int .u64 y2]] => some (wr_i64 (S.cong_Cong_number (⟨y1, y2⟩ : S.Cong)), wo_i64 (S.cong_Cong_number (⟨y1, y2⟩ : S.Cong)), [])
  | _ => none
noncomputable def c42 : Cfg El := c15.add 42 sem42
theorem c42_ok : CfgOk c42 := c15_ok.add (fun args w => Tryd.call42 args w) (fun vs r outs ps h hp => by
  unfold sem42 at h
  split at h
  · rename_i y1 y2; cases h; exact fn42 (⟨y1, y2⟩ : S.Cong)
  · cases h)

noncomputable def rd_i64_b : W → List (List W) → Option (Int × Bool)
  | .tup [.int .i64 x1, .bool x2], [] => some ⟨x1, x2⟩
  | _, _ => none
noncomputable def wr_i64_b (x : Int × Bool) : W := .tup [.int .i64 x.1, .bool x.2]
noncomputable def wo_i64_b (_x : Int × Bool) : List (List W) := []
theorem rw_i64_b (v : W) (os : List (List W)) (x : Int × Bool) (h : rd_i64_b v os = some x) : v = wr_i64_b x ∧ os = wo_i64_b x := by
  unfold rd_i64_b at h
  split at h <;> first | (cases h; exact ⟨rfl, rfl⟩) | cases h
theorem np_i64_b (x : Int × Bool) : okv (fun _ => false) (wr_i64_b x) = true := rfl
theorem no_i64_b (x : Int × Bool) : all (fun cs => all (ok0 fun _ => false) cs) (wo_i64_b x) = true := rfl

noncomputable def body41 : Code := (Tryd.f41.body).getD .skip
theorem fn41 (c : S.Cong) (ok : Bool) : CallOk c42 41 [.agg [.int .u64 c.M, .int .u64 c.R], .bool ok] (wr_i64_b (S.cong_Cong_number0 c ok)) (wo_i64_b (S.cong_Cong_number0 c ok)) :=
  (call_ok (c := c42) (f := 41) (fn := Tryd.f41) (code := body41) (args := ([.agg [.int .u64 c.M, .int .u64 c.R], .bool ok])) (loop := noLoop) (md := ⟨false, false⟩) (rd := rd_i64_b) (wr := wr_i64_b) (wo := wo_i64_b) (r := (S.cong_Cong_number0 c ok)) c42_ok (by kernel_rfl) (by kernel_rfl) (by kernel_rfl) (no_loops (by kernel_rfl)) (by kernel_rfl) (by kernel_rfl) (by kernel_rfl)
    rw_i64_b np_i64_b no_i64_b (by kernel_rfl) (Tr.vc_of_noReq (by kernel_rfl)))

noncomputable def sem41 : List W → Option (W × List (List W) × List Prop)
  | [.agg [.int .u64 y1, .int .u64 y2], .bool y3] => some (wr_i64_b (S.cong_Cong_number0 (⟨y1, y2⟩ : S.Cong) y3), wo_i64_b (S.cong_Cong_number0 (⟨y1, y2⟩ : S.Cong) y3), [])
  | _ => none
noncomputable def c41 : Cfg El := c42.add 41 sem41
theorem c41_ok : CfgOk c41 := c42_ok.add (fun args w => Tryd.call41 args w) (fun vs r outs ps h hp => by
  unfold sem41 at h
  split at h
  · rename_i y1 y2 y3; cases h; exact fn41 (⟨y1, y2⟩ : S.Cong) y3
  · cases h)

noncomputable def rd_u64 : W → List (List W) → Option (Int)
  | .int .u64 x1, [] => some x1
  | _, _ => none
noncomputable def wr_u64 (x : Int) : W := .int .u64 x
noncomputable def wo_u64 (_x : Int) : List (List W) := []
theorem rw_u64 (v : W) (os : List (List W)) (x : Int) (h : rd_u64 v os = some x) : v = wr_u64 x ∧ os = wo_u64 x := by
  unfold rd_u64 at h
  split at h <;> first | (cases h; exact ⟨rfl, rfl⟩) | cases h
theorem np_u64 (x : Int) : okv (fun _ => false) (wr_u64 x) = true := rfl
theorem no_u64 (x : Int) : all (fun cs => all (ok0 fun _ => false) cs) (wo_u64 x) = true := rfl

noncomputable def body44 : Code := (Tryd.f44.body).getD .skip
theorem fn44 (n : Int) (m : Int) (hp : S.cong_rest_pre n m) : CallOk c41 44 [.int .i64 n, .int .u64 m] (wr_u64 (S.cong_rest n m)) (wo_u64 (S.cong_rest n m)) :=
  (call_ok (c := c41) (f := 44) (fn := Tryd.f44) (code := body44) (args := ([.int .i64 n, .int .u64 m])) (loop := noLoop) (md := ⟨false, false⟩) (rd := rd_u64) (wr := wr_u64) (wo := wo_u64) (r := (S.cong_rest n m)) c41_ok (by kernel_rfl) (by kernel_rfl) (by kernel_rfl) (no_loops (by kernel_rfl)) (by kernel_rfl) (by kernel_rfl) (by kernel_rfl)
    rw_u64 np_u64 no_u64 (by kernel_rfl) (Eq.mpr (show Vm.Tr.vc (Vm.Fn c41 Tryd.f44 body44 noLoop ([.int .i64 n, .int .u64 m])) = S.cong_rest_pre n m by kernel_rfl) hp))

noncomputable def sem44 : List W → Option (W × List (List W) × List Prop)
  | [.int .i64 y1, .int .u64 y2] => some (wr_u64 (S.cong_rest y1 y2), wo_u64 (S.cong_rest y1 y2), [S.cong_rest_pre y1 y2])
  | _ => none
noncomputable def c44 : Cfg El := c41.add 44 sem44
theorem c44_ok : CfgOk c44 := c41_ok.add (fun args w => Tryd.call44 args w) (fun vs r outs ps h hp => by
  unfold sem44 at h
  split at h
  · rename_i y1 y2; cases h; exact fn44 y1 y2 hp
  · cases h)

noncomputable def sem58 : List W → Option (W × List (List W) × List Prop)
  | [.int .u64 x, .int .u64 y, .int .u64 c] => some (.tup [.int .u64 (S.math_bits_Add64 x y c).1, .int .u64 (S.math_bits_Add64 x y c).2], [], [S.math_bits_Add64_pre x y c])
  | _ => none
noncomputable def c58 : Cfg El := c44.add 58 sem58
theorem c58_ok : CfgOk c58 := c44_ok.addExt (fun vs r outs ps h hp => by
  unfold sem58 at h
  split at h
  · cases h; exact ⟨rfl, ext_add64 (c := c44) (fn := Tryd.f58) (by kernel_rfl) (by kernel_rfl) (by kernel_rfl) (by kernel_rfl) (by kernel_rfl) hp⟩
  · cases h)

noncomputable def body43 : Code := (Tryd.f43.body).getD .skip
theorem fn43 (a : Int) (b : Int) (m : Int) (hp : S.cong_plus_pre a b m) : CallOk c58 43 [.int .u64 a, .int .u64 b, .int .u64 m] (wr_u64 (S.cong_plus a b m)) (wo_u64 (S.cong_plus a b m)) :=
  (call_ok (c := c58) (f := 43) (fn := Tryd.f43) (code := body43) (args := ([.int .u64 a, .int .u64 b, .int .u64 m])) (loop := noLoop) (md := ⟨false, false⟩) (rd := rd_u64) (wr := wr_u64) (wo := wo_u64) (r := (S.cong_plus a b m)) c58_ok (by kernel_rfl) (by kernel_rfl) (by kernel_rfl) (no_loops (by kernel_rfl)) (by kernel_rfl) (by kernel_rfl) (by kernel_rfl)
    rw_u64 np_u64 no_u64 (by kernel_rfl) (Eq.mpr (show Vm.Tr.vc (Vm.Fn c58 Tryd.f43 body43 noLoop ([.int .u64 a, .int .u64 b, .int .u64 m])) = S.cong_plus_pre a b m by kernel_rfl) hp))

noncomputable def sem43 : List W → Option (W × List (List W) × List Prop)
  | [.int .u64 y1, .int .u64 y2, .int .u64 y3] => some (wr_u64 (S.cong_plus y1 y2 y3), wo_u64 (S.cong_plus y1 y2 y3), [S.cong_plus_pre y1 y2 y3])
  | _ => none
noncomputable def c43 : Cfg El := c58.add 43 sem43
theorem c43_ok : CfgOk c43 := c58_ok.add (fun args w => Tryd.call43 args w) (fun vs r outs ps h hp => by
  unfold sem43 at h
  split at h
  · rename_i y1 y2 y3; cases h; exact fn43 y1 y2 y3 hp
  · cases h)

noncomputable def body16 : Code := (Tryd.f16.body).getD .skip
theorem fn16 (c : S.Cong) (a1 : Int) (hp : S.cong_Cong_Least_pre c a1) : CallOk c43 16 [.agg [.int .u64 c.M, .int .u64 c.R], .int .i64 a1] (wr_i64_b (S.cong_Cong_Least c a1)) (wo_i64_b (S.cong_Cong_Least c a1)) :=
  (call_ok (c := c43) (f := 16) (fn := Tryd.f16) (code := body16) (args := ([.agg [.int .u64 c.M, .int .u64 c.R], .int .i64 a1])) (loop := noLoop) (md := ⟨false, false⟩) (rd := rd_i64_b) (wr := wr_i64_b) (wo := wo_i64_b) (r := (S.cong_Cong_Least c a1)) c43_ok (by kernel_rfl) (by kernel_rfl) (by kernel_rfl) (no_loops (by kernel_rfl)) (by kernel_rfl) (by kernel_rfl) (by kernel_rfl)
    rw_i64_b np_i64_b no_i64_b (by kernel_rfl) (Eq.mpr (show Vm.Tr.vc (Vm.Fn c43 Tryd.f16 body16 noLoop ([.agg [.int .u64 c.M, .int .u64 c.R], .int .i64 a1])) = S.cong_Cong_Least_pre c a1 by kernel_rfl) hp))

noncomputable def sem16 : List W → Option (W × List (List W) × List Prop)
  | [.agg [.int .u64 y1, .int .u64 y2], .int .i64 y3] => some (wr_i64_b (S.cong_Cong_Least (⟨y1, y2⟩ : S.Cong) y3), wo_i64_b (S.cong_Cong_Least (⟨y1, y2⟩ : S.Cong) y3), [S.cong_Cong_Least_pre (⟨y1, y2⟩ : S.Cong) y3])
  | _ => none
noncomputable def c16 : Cfg El := c43.add 16 sem16
theorem c16_ok : CfgOk c16 := c43_ok.add (fun args w => Tryd.call16 args w) (fun vs r outs ps h hp => by
  unfold sem16 at h
  split at h
  · rename_i y1 y2 y3; cases h; exact fn16 (⟨y1, y2⟩ : S.Cong) y3 hp
  · cases h)

noncomputable def body17 : Code := (Tryd.f17.body).getD .skip
theorem fn17 (c : S.Cong) (to : Int) (hp : S.cong_Cong_Greatest_pre c to) : CallOk c16 17 [.agg [.int .u64 c.M, .int .u64 c.R], .int .i64 to] (wr_i64_b (S.cong_Cong_Greatest c to)) (wo_i64_b (S.cong_Cong_Greatest c to)) :=
  (call_ok (c := c16) (f := 17) (fn := Tryd.f17) (code := body17) (args := ([.agg [.int .u64 c.M, .int .u64 c.R], .int .i64 to])) (loop := noLoop) (md := ⟨false, false⟩) (rd := rd_i64_b) (wr := wr_i64_b) (wo := wo_i64_b) (r := (S.cong_Cong_Greatest c to)) c16_ok (by kernel_rfl) (by kernel_rfl) (by kernel_rfl) (no_loops (by kernel_rfl)) (by kernel_rfl) (by kernel_rfl) (by kernel_rfl)
    rw_i64_b np_i64_b no_i64_b (by kernel_rfl) (Eq.mpr (show Vm.Tr.vc (Vm.Fn c16 Tryd.f17 body17 noLoop ([.agg [.int .u64 c.M, .int .u64 c.R], .int .i64 to])) = S.cong_Cong_Greatest_pre c to by kernel_rfl) hp))

noncomputable def sem17 : List W → Option (W × List (List W) × List Prop)
  | [.agg [.int .u64 y1, .int .u64 y2], .int .i64 y3] => some (wr_i64_b (S.cong_Cong_Greatest (⟨y1, y2⟩ : S.Cong) y3), wo_i64_b (S.cong_Cong_Greatest (⟨y1, y2⟩ : S.Cong) y3), [S.cong_Cong_Greatest_pre (⟨y1, y2⟩ : S.Cong) y3])
  | _ => none
noncomputable def c17 : Cfg El := c16.add 17 sem17
theorem c17_ok : CfgOk c17 := c16_ok.add (fun args w => Tryd.call17 args w) (fun vs r outs ps h hp => by
  unfold sem17 at h
  split at h
  · rename_i y1 y2 y3; cases h; exact fn17 (⟨y1, y2⟩ : S.Cong) y3 hp
  · cases h)

noncomputable def rd_S22 : W → List (List W) → Option (S.Inter)
  | .agg [.int .i64 x1, .int .i64 x2], [] => some ⟨x1, x2⟩
  | _, _ => none
noncomputable def wr_S22 (x : S.Inter) : W := .agg [.int .i64 x.Lo, .int .i64 x.Hi]
noncomputable def wo_S22 (_x : S.Inter) : List (List W) := []
theorem rw_S22 (v : W) (os : List (List W)) (x : S.Inter) (h : rd_S22 v os = some x) : v = wr_S22 x ∧ os = wo_S22 x := by
  unfold rd_S22 at h
  split at h <;> first | (cases h; exact ⟨rfl, rfl⟩) | cases h
theorem np_S22 (x : S.Inter) : okv (fun _ => false) (wr_S22 x) = true := rfl
theorem no_S22 (x : S.Inter) : all (fun cs => all (ok0 fun _ => false) cs) (wo_S22 x) = true := rfl

noncomputable def body35 : Code := (Tryd.f35.body).getD .skip
theorem fn35 : CallOk c17 35 [] (wr_S22 (S.inter_Empty)) (wo_S22 (S.inter_Empty)) :=
  (call_ok (c := c17) (f := 35) (fn := Tryd.f35) (code := body35) (args := ([])) (loop := noLoop) (md := ⟨false, false⟩) (rd := rd_S22) (wr := wr_S22) (wo := wo_S22) (r := S.inter_Empty) c17_ok (by kernel_rfl) (by kernel_rfl) (by kernel_rfl) (no_loops (by kernel_rfl)) (by kernel_rfl) (by kernel_rfl) (by kernel_rfl)
    rw_S22 np_S22 no_S22 (by kernel_rfl) (Tr.vc_of_noReq (by kernel_rfl)))

noncomputable def sem35 : List W → Option (W × List (List W) × List Prop)
  | [] => some (wr_S22 (S.inter_Empty), wo_S22 (S.inter_Empty), [])
  | _ => none
noncomputable def c35 : Cfg El := c17.add 35 sem35
theorem c35_ok : CfgOk c35 := c17_ok.add (fun args w => Tryd.call35 args w) (fun vs r outs ps h hp => by
  unfold sem35 at h
  split at h
  · cases h; exact fn35
  · cases h)

noncomputable def body19 : Code := (Tryd.f19.body).getD .skip
theorem fn19 (lo : Int) (hi : Int) : CallOk c35 19 [.int .i64 lo, .int .i64 hi] (wr_S22 (S.inter_Of lo hi)) (wo_S22 (S.inter_Of lo hi)) :=
  (call_ok (c := c35) (f := 19) (fn := Tryd.f19) (code := body19) (args := ([.int .i64 lo, .int .i64 hi])) (loop := noLoop) (md := ⟨false, false⟩) (rd := rd_S22) (wr := wr_S22) (wo := wo_S22) (r := (S.inter_Of lo hi)) c35_ok (by kernel_rfl) (by kernel_rfl) (by kernel_rfl) (no_loops (by kernel_rfl)) (by kernel_rfl) (by kernel_rfl) (by kernel_rfl)
    rw_S22 np_S22 no_S22 (by kernel_rfl) (Tr.vc_of_noReq (by kernel_rfl)))

noncomputable def sem19 : List W → Option (W × List (List W) × List Prop)
  | [.int .i64 y1, .int .i64 y2] => some (wr_S22 (S.inter_Of y1 y2), wo_S22 (S.inter_Of y1 y2), [])
  | _ => none
noncomputable def c19 : Cfg El := c35.add 19 sem19
theorem c19_ok : CfgOk c19 := c35_ok.add (fun args w => Tryd.call19 args w) (fun vs r outs ps h hp => by
  unfold sem19 at h
  split at h
  · rename_i y1 y2; cases h; exact fn19 y1 y2
  · cases h)

noncomputable def body45 : Code := (Tryd.f45.body).getD .skip
theorem fn45 (i : S.Inter) : CallOk c19 45 [.agg [.int .i64 i.Lo, .int .i64 i.Hi]] (wr_S22 (S.inter_Inter_plain i)) (wo_S22 (S.inter_Inter_plain i)) :=
  (call_ok (c := c19) (f := 45) (fn := Tryd.f45) (code := body45) (args := ([.agg [.int .i64 i.Lo, .int .i64 i.Hi]])) (loop := noLoop) (md := ⟨false, false⟩) (rd := rd_S22) (wr := wr_S22) (wo := wo_S22) (r := (S.inter_Inter_plain i)) c19_ok (by kernel_rfl) (by kernel_rfl) (by kernel_rfl) (no_loops (by kernel_rfl)) (by kernel_rfl) (by kernel_rfl) (by kernel_rfl)
    rw_S22 np_S22 no_S22 (by kernel_rfl) (Tr.vc_of_noReq (by kernel_rfl)))

noncomputable def sem45 : List W → Option (W × List (List W) × List Prop)
  | [.agg [.int .i64 y1, .int .i64 y2]] => some (wr_S22 (S.inter_Inter_plain (⟨y1, y2⟩ : S.Inter)), wo_S22 (S.inter_Inter_plain (⟨y1, y2⟩ : S.Inter)), [])
  | _ => none
noncomputable def c45 : Cfg El := c19.add 45 sem45
theorem c45_ok : CfgOk c45 := c19_ok.add (fun args w => Tryd.call45 args w) (fun vs r outs ps h hp => by
  unfold sem45 at h
  split at h
  · rename_i y1 y2; cases h; exact fn45 (⟨y1, y2⟩ : S.Inter)
  · cases h)

noncomputable def body18 : Code := (Tryd.f18.body).getD .skip
theorem fn18 (i : S.Inter) : CallOk c45 18 [.agg [.int .i64 i.Lo, .int .i64 i.Hi]] (wr_b (S.inter_Inter_IsEmpty i)) (wo_b (S.inter_Inter_IsEmpty i)) :=
  (call_ok (c := c45) (f := 18) (fn := Tryd.f18) (code := body18) (args := ([.agg [.int .i64 i.Lo, .int .i64 i.Hi]])) (loop := noLoop) (md := ⟨false, false⟩) (rd := rd_b) (wr := wr_b) (wo := wo_b) (r := (S.inter_Inter_IsEmpty i)) c45_ok (by kernel_rfl) (by kernel_rfl) (by kernel_rfl) (no_loops (by kernel_rfl)) (by kernel_rfl) (by kernel_rfl) (by kernel_rfl)
    rw_b np_b no_b (by kernel_rfl) (Tr.vc_of_noReq (by kernel_rfl)))

noncomputable def sem18 : List W → Option (W × List (List W) × List Prop)
  | [.agg [.int .i64 y1, .int .i64 y2]] => some (wr_b (S.inter_Inter_IsEmpty (⟨y1, y2⟩ : S.Inter)), wo_b (S.inter_Inter_IsEmpty (⟨y1, y2⟩ : S.Inter)), [])
  | _ => none
noncomputable def c18 : Cfg El := c45.add 18 sem18
theorem c18_ok : CfgOk c18 := c45_ok.add (fun args w => Tryd.call18 args w) (fun vs r outs ps h hp => by
  unfold sem18 at h
  split at h
  · rename_i y1 y2; cases h; exact fn18 (⟨y1, y2⟩ : S.Inter)
  · cases h)

noncomputable def rd_S25 : W → List (List W) → Option (S.Cong)
  | .agg [.int .u64 x1, .int .u64 x2], [] => some ⟨x1, x2⟩
  | _, _ => none
noncomputable def wr_S25 (x : S.Cong) : W := .agg [.int .u64 x.M, .int .u64 x.R]
noncomputable def wo_S25 (_x : S.Cong) : List (List W) := []
theorem rw_S25 (v : W) (os : List (List W)) (x : S.Cong) (h : rd_S25 v os = some x) : v = wr_S25 x ∧ os = wo_S25 x := by
  unfold rd_S25 at h
  split at h <;> first | (cases h; exact ⟨rfl, rfl⟩) | cases h
theorem np_S25 (x : S.Cong) : okv (fun _ => false) (wr_S25 x) = true := rfl
theorem no_S25 (x : S.Cong) : all (fun cs => all (ok0 fun _ => false) cs) (wo_S25 x) = true := rfl

noncomputable def body36 : Code := (Tryd.f36.body).getD .skip
theorem fn36 : CallOk c18 36 [] (wr_S25 (S.cong_Top)) (wo_S25 (S.cong_Top)) :=
  (call_ok (c := c18) (f := 36) (fn := Tryd.f36) (code := body36) (args := ([])) (loop := noLoop) (md := ⟨false, false⟩) (rd := rd_S25) (wr := wr_S25) (wo := wo_S25) (r := S.cong_Top) c18_ok (by kernel_rfl) (by kernel_rfl) (by kernel_rfl) (no_loops (by kernel_rfl)) (by kernel_rfl) (by kernel_rfl) (by kernel_rfl)
    rw_S25 np_S25 no_S25 (by kernel_rfl) (Tr.vc_of_noReq (by kernel_rfl)))

noncomputable def sem36 : List W → Option (W × List (List W) × List Prop)
  | [] => some (wr_S25 (S.cong_Top), wo_S25 (S.cong_Top), [])
  | _ => none
noncomputable def c36 : Cfg El := c18.add 36 sem36
theorem c36_ok : CfgOk c36 := c18_ok.add (fun args w => Tryd.call36 args w) (fun vs r outs ps h hp => by
  unfold sem36 at h
  split at h
  · cases h; exact fn36
  · cases h)

noncomputable def rd_S27 : W → List (List W) → Option (S.Value)
  | .agg [.int .i64 x1, .int .i64 x2, .int .u64 x3, .int .u64 x4], [] => some ⟨⟨x1, x2⟩, ⟨x3, x4⟩⟩
  | _, _ => none
noncomputable def wr_S27 (x : S.Value) : W := .agg [.int .i64 x.I.Lo, .int .i64 x.I.Hi, .int .u64 x.C.M, .int .u64 x.C.R]
noncomputable def wo_S27 (_x : S.Value) : List (List W) := []
theorem rw_S27 (v : W) (os : List (List W)) (x : S.Value) (h : rd_S27 v os = some x) : v = wr_S27 x ∧ os = wo_S27 x := by
  unfold rd_S27 at h
  split at h <;> first | (cases h; exact ⟨rfl, rfl⟩) | cases h
theorem np_S27 (x : S.Value) : okv (fun _ => false) (wr_S27 x) = true := rfl
theorem no_S27 (x : S.Value) : all (fun cs => all (ok0 fun _ => false) cs) (wo_S27 x) = true := rfl

noncomputable def body13 : Code := (Tryd.f13.body).getD .skip
theorem fn13 : CallOk c36 13 [] (wr_S27 (S.value_Bottom)) (wo_S27 (S.value_Bottom)) :=
  (call_ok (c := c36) (f := 13) (fn := Tryd.f13) (code := body13) (args := ([])) (loop := noLoop) (md := ⟨false, false⟩) (rd := rd_S27) (wr := wr_S27) (wo := wo_S27) (r := S.value_Bottom) c36_ok (by kernel_rfl) (by kernel_rfl) (by kernel_rfl) (no_loops (by kernel_rfl)) (by kernel_rfl) (by kernel_rfl) (by kernel_rfl)
    rw_S27 np_S27 no_S27 (by kernel_rfl) (Tr.vc_of_noReq (by kernel_rfl)))

noncomputable def sem13 : List W → Option (W × List (List W) × List Prop)
  | [] => some (wr_S27 (S.value_Bottom), wo_S27 (S.value_Bottom), [])
  | _ => none
noncomputable def c13 : Cfg El := c36.add 13 sem13
theorem c13_ok : CfgOk c13 := c36_ok.add (fun args w => Tryd.call13 args w) (fun vs r outs ps h hp => by
  unfold sem13 at h
  split at h
  · cases h; exact fn13
  · cases h)

noncomputable def body29 : Code := (Tryd.f29.body).getD .skip
theorem fn29 (n : Int) : CallOk c13 29 [.int .i64 n] (wr_S22 (S.inter_One n)) (wo_S22 (S.inter_One n)) :=
  (call_ok (c := c13) (f := 29) (fn := Tryd.f29) (code := body29) (args := ([.int .i64 n])) (loop := noLoop) (md := ⟨false, false⟩) (rd := rd_S22) (wr := wr_S22) (wo := wo_S22) (r := (S.inter_One n)) c13_ok (by kernel_rfl) (by kernel_rfl) (by kernel_rfl) (no_loops (by kernel_rfl)) (by kernel_rfl) (by kernel_rfl) (by kernel_rfl)
    rw_S22 np_S22 no_S22 (by kernel_rfl) (Tr.vc_of_noReq (by kernel_rfl)))

noncomputable def sem29 : List W → Option (W × List (List W) × List Prop)
  | [.int .i64 y1] => some (wr_S22 (S.inter_One y1), wo_S22 (S.inter_One y1), [])
  | _ => none
noncomputable def c29 : Cfg El := c13.add 29 sem29
theorem c29_ok : CfgOk c29 := c13_ok.add (fun args w => Tryd.call29 args w) (fun vs r outs ps h hp => by
  unfold sem29 at h
  split at h
  · rename_i y1; cases h; exact fn29 y1
  · cases h)

noncomputable def body30 : Code := (Tryd.f30.body).getD .skip
theorem fn30 (n : Int) : CallOk c29 30 [.int .i64 n] (wr_S25 (S.cong_Const n)) (wo_S25 (S.cong_Const n)) :=
  (call_ok (c := c29) (f := 30) (fn := Tryd.f30) (code := body30) (args := ([.int .i64 n])) (loop := noLoop) (md := ⟨false, false⟩) (rd := rd_S25) (wr := wr_S25) (wo := wo_S25) (r := (S.cong_Const n)) c29_ok (by kernel_rfl) (by kernel_rfl) (by kernel_rfl) (no_loops (by kernel_rfl)) (by kernel_rfl) (by kernel_rfl) (by kernel_rfl)
    rw_S25 np_S25 no_S25 (by kernel_rfl) (Tr.vc_of_noReq (by kernel_rfl)))

noncomputable def sem30 : List W → Option (W × List (List W) × List Prop)
  | [.int .i64 y1] => some (wr_S25 (S.cong_Const y1), wo_S25 (S.cong_Const y1), [])
  | _ => none
noncomputable def c30 : Cfg El := c29.add 30 sem30
theorem c30_ok : CfgOk c30 := c29_ok.add (fun args w => Tryd.call30 args w) (fun vs r outs ps h hp => by
  unfold sem30 at h
  split at h
  · rename_i y1; cases h; exact fn30 y1
  · cases h)

noncomputable def body7 : Code := (Tryd.f7.body).getD .skip
theorem fn7 (n : Int) : CallOk c30 7 [.int .i64 n] (wr_S27 (S.value_One n)) (wo_S27 (S.value_One n)) :=
  (call_ok (c := c30) (f := 7) (fn := Tryd.f7) (code := body7) (args := ([.int .i64 n])) (loop := noLoop) (md := ⟨false, false⟩) (rd := rd_S27) (wr := wr_S27) (wo := wo_S27) (r := (S.value_One n)) c30_ok (by kernel_rfl) (by kernel_rfl) (by kernel_rfl) (no_loops (by kernel_rfl)) (by kernel_rfl) (by kernel_rfl) (by kernel_rfl)
    rw_S27 np_S27 no_S27 (by kernel_rfl) (Tr.vc_of_noReq (by kernel_rfl)))

noncomputable def sem7 : List W → Option (W × List (List W) × List Prop)
  | [.int .i64 y1] => some (wr_S27 (S.value_One y1), wo_S27 (S.value_One y1), [])
  | _ => none
noncomputable def c7 : Cfg El := c30.add 7 sem7
theorem c7_ok : CfgOk c7 := c30_ok.add (fun args w => Tryd.call7 args w) (fun vs r outs ps h hp => by
  unfold sem7 at h
  split at h
  · rename_i y1; cases h; exact fn7 y1
  · cases h)

noncomputable def body4 : Code := (Tryd.f4.body).getD .skip
theorem fn4 (i : S.Inter) (c : S.Cong) (hp : S.value_Make_pre i c) : CallOk c7 4 [.agg [.int .i64 i.Lo, .int .i64 i.Hi], .agg [.int .u64 c.M, .int .u64 c.R]] (wr_S27 (S.value_Make i c)) (wo_S27 (S.value_Make i c)) :=
  (call_ok (c := c7) (f := 4) (fn := Tryd.f4) (code := body4) (args := ([.agg [.int .i64 i.Lo, .int .i64 i.Hi], .agg [.int .u64 c.M, .int .u64 c.R]])) (loop := noLoop) (md := ⟨false, false⟩) (rd := rd_S27) (wr := wr_S27) (wo := wo_S27) (r := (S.value_Make i c)) c7_ok (by kernel_rfl) (by kernel_rfl) (by kernel_rfl) (no_loops (by kernel_rfl)) (by kernel_rfl) (by kernel_rfl) (by kernel_rfl)
    rw_S27 np_S27 no_S27 (by kernel_rfl) (Eq.mpr (show Vm.Tr.vc (Vm.Fn c7 Tryd.f4 body4 noLoop ([.agg [.int .i64 i.Lo, .int .i64 i.Hi], .agg [.int .u64 c.M, .int .u64 c.R]])) = S.value_Make_pre i c by kernel_rfl) hp))

noncomputable def sem4 : List W → Option (W × List (List W) × List Prop)
  | [.agg [.int .i64 y1, .int .i64 y2], .agg [.int .u64 y3, .int .u64 y4]] => some (wr_S27 (S.value_Make (⟨y1, y2⟩ : S.Inter) (⟨y3, y4⟩ : S.Cong)), wo_S27 (S.value_Make (⟨y1, y2⟩ : S.Inter) (⟨y3, y4⟩ : S.Cong)), [S.value_Make_pre (⟨y1, y2⟩ : S.Inter) (⟨y3, y4⟩ : S.Cong)])
  | _ => none
noncomputable def c4 : Cfg El := c7.add 4 sem4
theorem c4_ok : CfgOk c4 := c7_ok.add (fun args w => Tryd.call4 args w) (fun vs r outs ps h hp => by
  unfold sem4 at h
  split at h
  · rename_i y1 y2 y3 y4; cases h; exact fn4 (⟨y1, y2⟩ : S.Inter) (⟨y3, y4⟩ : S.Cong) hp
  · cases h)

noncomputable def rd_L31_o_f : W → List (List W) → Option ((List Int))
  | .olist 31 true x2, [] => some x2
  | _, _ => none
noncomputable def wr_L31_o_f (x : (List Int)) : W := .olist 31 true x
noncomputable def wo_L31_o_f (_x : (List Int)) : List (List W) := []
theorem rw_L31_o_f (v : W) (os : List (List W)) (x : (List Int)) (h : rd_L31_o_f v os = some x) : v = wr_L31_o_f x ∧ os = wo_L31_o_f x := by
  unfold rd_L31_o_f at h
  split at h <;> first | (cases h; exact ⟨rfl, rfl⟩) | cases h
theorem np_L31_o_f (x : (List Int)) : okv (fun _ => false) (wr_L31_o_f x) = true := rfl
theorem no_L31_o_f (x : (List Int)) : all (fun cs => all (ok0 fun _ => false) cs) (wo_L31_o_f x) = true := rfl

noncomputable def body6 : Code := (Tryd.f6.body).getD .skip
theorem fn6 : CallOk c4 6 [] (wr_L31_o_f (S.law22_ops)) (wo_L31_o_f (S.law22_ops)) :=
  CallOk.unhint (c := c4) (call_ok (c := (c4.hint [1] [])) (f := 6) (fn := Tryd.f6) (code := body6) (args := ([])) (loop := noLoop) (md := ⟨true, true⟩) (rd := rd_L31_o_f) (wr := wr_L31_o_f) (wo := wo_L31_o_f) (r := S.law22_ops) (CfgOk.hint c4_ok [1] []) (by kernel_rfl) (by kernel_rfl) (by kernel_rfl) (no_loops (by kernel_rfl)) (by kernel_rfl) (by kernel_rfl) (by kernel_rfl)
    rw_L31_o_f np_L31_o_f no_L31_o_f (by kernel_rfl) (Tr.vc_of_noReq (by kernel_rfl)))

noncomputable def sem6 : List W → Option (W × List (List W) × List Prop)
  | [] => some (wr_L31_o_f (S.law22_ops), wo_L31_o_f (S.law22_ops), [])
  | _ => none
noncomputable def c6 : Cfg El := c4.add 6 sem6
theorem c6_ok : CfgOk c6 := c4_ok.add (fun args w => Tryd.call6 args w) (fun vs r outs ps h hp => by
  unfold sem6 at h
  split at h
  · cases h; exact fn6
  · cases h)

noncomputable def body20 : Code := (Tryd.f20.body).getD .skip
theorem fn20 (v : S.Value) (hp : S.arith_plain_pre v) : CallOk c6 20 [.agg [.int .i64 v.I.Lo, .int .i64 v.I.Hi, .int .u64 v.C.M, .int .u64 v.C.R]] (wr_S27 (S.arith_plain v)) (wo_S27 (S.arith_plain v)) :=
  (call_ok (c := c6) (f := 20) (fn := Tryd.f20) (code := body20) (args := ([.agg [.int .i64 v.I.Lo, .int .i64 v.I.Hi, .int .u64 v.C.M, .int .u64 v.C.R]])) (loop := noLoop) (md := ⟨false, false⟩) (rd := rd_S27) (wr := wr_S27) (wo := wo_S27) (r := (S.arith_plain v)) c6_ok (by kernel_rfl) (by kernel_rfl) (by kernel_rfl) (no_loops (by kernel_rfl)) (by kernel_rfl) (by kernel_rfl) (by kernel_rfl)
    rw_S27 np_S27 no_S27 (by kernel_rfl) (Eq.mpr (show Vm.Tr.vc (Vm.Fn c6 Tryd.f20 body20 noLoop ([.agg [.int .i64 v.I.Lo, .int .i64 v.I.Hi, .int .u64 v.C.M, .int .u64 v.C.R]])) = S.arith_plain_pre v by kernel_rfl) hp))

noncomputable def sem20 : List W → Option (W × List (List W) × List Prop)
  | [.agg [.int .i64 y1, .int .i64 y2, .int .u64 y3, .int .u64 y4]] => some (wr_S27 (S.arith_plain (⟨(⟨y1, y2⟩ : S.Inter), (⟨y3, y4⟩ : S.Cong)⟩ : S.Value)), wo_S27 (S.arith_plain (⟨(⟨y1, y2⟩ : S.Inter), (⟨y3, y4⟩ : S.Cong)⟩ : S.Value)), [S.arith_plain_pre (⟨(⟨y1, y2⟩ : S.Inter), (⟨y3, y4⟩ : S.Cong)⟩ : S.Value)])
  | _ => none
noncomputable def c20 : Cfg El := c6.add 20 sem20
theorem c20_ok : CfgOk c20 := c6_ok.add (fun args w => Tryd.call20 args w) (fun vs r outs ps h hp => by
  unfold sem20 at h
  split at h
  · rename_i y1 y2 y3 y4; cases h; exact fn20 (⟨(⟨y1, y2⟩ : S.Inter), (⟨y3, y4⟩ : S.Cong)⟩ : S.Value) hp
  · cases h)

noncomputable def body33 : Code := (Tryd.f33.body).getD .skip
theorem fn33 (v : S.Value) (hp : S.value_Value_reduced_pre v) : CallOk c20 33 [.agg [.int .i64 v.I.Lo, .int .i64 v.I.Hi, .int .u64 v.C.M, .int .u64 v.C.R]] (wr_S27 (S.value_Value_reduced v)) (wo_S27 (S.value_Value_reduced v)) :=
  (call_ok (c := c20) (f := 33) (fn := Tryd.f33) (code := body33) (args := ([.agg [.int .i64 v.I.Lo, .int .i64 v.I.Hi, .int .u64 v.C.M, .int .u64 v.C.R]])) (loop := noLoop) (md := ⟨false, false⟩) (rd := rd_S27) (wr := wr_S27) (wo := wo_S27) (r := (S.value_Value_reduced v)) c20_ok (by kernel_rfl) (by kernel_rfl) (by kernel_rfl) (no_loops (by kernel_rfl)) (by kernel_rfl) (by kernel_rfl) (by kernel_rfl)
    rw_S27 np_S27 no_S27 (by kernel_rfl) (Eq.mpr (show Vm.Tr.vc (Vm.Fn c20 Tryd.f33 body33 noLoop ([.agg [.int .i64 v.I.Lo, .int .i64 v.I.Hi, .int .u64 v.C.M, .int .u64 v.C.R]])) = S.value_Value_reduced_pre v by kernel_rfl) hp))

noncomputable def sem33 : List W → Option (W × List (List W) × List Prop)
  | [.agg [.int .i64 y1, .int .i64 y2, .int .u64 y3, .int .u64 y4]] => some (wr_S27 (S.value_Value_reduced (⟨(⟨y1, y2⟩ : S.Inter), (⟨y3, y4⟩ : S.Cong)⟩ : S.Value)), wo_S27 (S.value_Value_reduced (⟨(⟨y1, y2⟩ : S.Inter), (⟨y3, y4⟩ : S.Cong)⟩ : S.Value)), [S.value_Value_reduced_pre (⟨(⟨y1, y2⟩ : S.Inter), (⟨y3, y4⟩ : S.Cong)⟩ : S.Value)])
  | _ => none
noncomputable def c33 : Cfg El := c20.add 33 sem33
theorem c33_ok : CfgOk c33 := c20_ok.add (fun args w => Tryd.call33 args w) (fun vs r outs ps h hp => by
  unfold sem33 at h
  split at h
  · rename_i y1 y2 y3 y4; cases h; exact fn33 (⟨(⟨y1, y2⟩ : S.Inter), (⟨y3, y4⟩ : S.Cong)⟩ : S.Value) hp
  · cases h)

noncomputable def body34 : Code := (Tryd.f34.body).getD .skip
theorem fn34 (i : S.Inter) : CallOk c33 34 [.agg [.int .i64 i.Lo, .int .i64 i.Hi]] (wr_i64_b (S.inter_Inter_Single i)) (wo_i64_b (S.inter_Inter_Single i)) :=
  (call_ok (c := c33) (f := 34) (fn := Tryd.f34) (code := body34) (args := ([.agg [.int .i64 i.Lo, .int .i64 i.Hi]])) (loop := noLoop) (md := ⟨false, false⟩) (rd := rd_i64_b) (wr := wr_i64_b) (wo := wo_i64_b) (r := (S.inter_Inter_Single i)) c33_ok (by kernel_rfl) (by kernel_rfl) (by kernel_rfl) (no_loops (by kernel_rfl)) (by kernel_rfl) (by kernel_rfl) (by kernel_rfl)
    rw_i64_b np_i64_b no_i64_b (by kernel_rfl) (Tr.vc_of_noReq (by kernel_rfl)))

noncomputable def sem34 : List W → Option (W × List (List W) × List Prop)
  | [.agg [.int .i64 y1, .int .i64 y2]] => some (wr_i64_b (S.inter_Inter_Single (⟨y1, y2⟩ : S.Inter)), wo_i64_b (S.inter_Inter_Single (⟨y1, y2⟩ : S.Inter)), [])
  | _ => none
noncomputable def c34 : Cfg El := c33.add 34 sem34
theorem c34_ok : CfgOk c34 := c33_ok.add (fun args w => Tryd.call34 args w) (fun vs r outs ps h hp => by
  unfold sem34 at h
  split at h
  · rename_i y1 y2; cases h; exact fn34 (⟨y1, y2⟩ : S.Inter)
  · cases h)

noncomputable def body11 : Code := (Tryd.f11.body).getD .skip
theorem fn11 (v : S.Value) (hp : S.value_Value_Single_pre v) : CallOk c34 11 [.agg [.int .i64 v.I.Lo, .int .i64 v.I.Hi, .int .u64 v.C.M, .int .u64 v.C.R]] (wr_i64_b (S.value_Value_Single v)) (wo_i64_b (S.value_Value_Single v)) :=
  (call_ok (c := c34) (f := 11) (fn := Tryd.f11) (code := body11) (args := ([.agg [.int .i64 v.I.Lo, .int .i64 v.I.Hi, .int .u64 v.C.M, .int .u64 v.C.R]])) (loop := noLoop) (md := ⟨false, false⟩) (rd := rd_i64_b) (wr := wr_i64_b) (wo := wo_i64_b) (r := (S.value_Value_Single v)) c34_ok (by kernel_rfl) (by kernel_rfl) (by kernel_rfl) (no_loops (by kernel_rfl)) (by kernel_rfl) (by kernel_rfl) (by kernel_rfl)
    rw_i64_b np_i64_b no_i64_b (by kernel_rfl) (Eq.mpr (show Vm.Tr.vc (Vm.Fn c34 Tryd.f11 body11 noLoop ([.agg [.int .i64 v.I.Lo, .int .i64 v.I.Hi, .int .u64 v.C.M, .int .u64 v.C.R]])) = S.value_Value_Single_pre v by kernel_rfl) hp))

noncomputable def sem11 : List W → Option (W × List (List W) × List Prop)
  | [.agg [.int .i64 y1, .int .i64 y2, .int .u64 y3, .int .u64 y4]] => some (wr_i64_b (S.value_Value_Single (⟨(⟨y1, y2⟩ : S.Inter), (⟨y3, y4⟩ : S.Cong)⟩ : S.Value)), wo_i64_b (S.value_Value_Single (⟨(⟨y1, y2⟩ : S.Inter), (⟨y3, y4⟩ : S.Cong)⟩ : S.Value)), [S.value_Value_Single_pre (⟨(⟨y1, y2⟩ : S.Inter), (⟨y3, y4⟩ : S.Cong)⟩ : S.Value)])
  | _ => none
noncomputable def c11 : Cfg El := c34.add 11 sem11
theorem c11_ok : CfgOk c11 := c34_ok.add (fun args w => Tryd.call11 args w) (fun vs r outs ps h hp => by
  unfold sem11 at h
  split at h
  · rename_i y1 y2 y3 y4; cases h; exact fn11 (⟨(⟨y1, y2⟩ : S.Inter), (⟨y3, y4⟩ : S.Cong)⟩ : S.Value) hp
  · cases h)

noncomputable def body12 : Code := (Tryd.f12.body).getD .skip
theorem fn12 (v : S.Value) (hp : S.value_Value_IsBottom_pre v) : CallOk c11 12 [.agg [.int .i64 v.I.Lo, .int .i64 v.I.Hi, .int .u64 v.C.M, .int .u64 v.C.R]] (wr_b (S.value_Value_IsBottom v)) (wo_b (S.value_Value_IsBottom v)) :=
  (call_ok (c := c11) (f := 12) (fn := Tryd.f12) (code := body12) (args := ([.agg [.int .i64 v.I.Lo, .int .i64 v.I.Hi, .int .u64 v.C.M, .int .u64 v.C.R]])) (loop := noLoop) (md := ⟨false, false⟩) (rd := rd_b) (wr := wr_b) (wo := wo_b) (r := (S.value_Value_IsBottom v)) c11_ok (by kernel_rfl) (by kernel_rfl) (by kernel_rfl) (no_loops (by kernel_rfl)) (by kernel_rfl) (by kernel_rfl) (by kernel_rfl)
    rw_b np_b no_b (by kernel_rfl) (Eq.mpr (show Vm.Tr.vc (Vm.Fn c11 Tryd.f12 body12 noLoop ([.agg [.int .i64 v.I.Lo, .int .i64 v.I.Hi, .int .u64 v.C.M, .int .u64 v.C.R]])) = S.value_Value_IsBottom_pre v by kernel_rfl) hp))

noncomputable def sem12 : List W → Option (W × List (List W) × List Prop)
  | [.agg [.int .i64 y1, .int .i64 y2, .int .u64 y3, .int .u64 y4]] => some (wr_b (S.value_Value_IsBottom (⟨(⟨y1, y2⟩ : S.Inter), (⟨y3, y4⟩ : S.Cong)⟩ : S.Value)), wo_b (S.value_Value_IsBottom (⟨(⟨y1, y2⟩ : S.Inter), (⟨y3, y4⟩ : S.Cong)⟩ : S.Value)), [S.value_Value_IsBottom_pre (⟨(⟨y1, y2⟩ : S.Inter), (⟨y3, y4⟩ : S.Cong)⟩ : S.Value)])
  | _ => none
noncomputable def c12 : Cfg El := c11.add 12 sem12
theorem c12_ok : CfgOk c12 := c11_ok.add (fun args w => Tryd.call12 args w) (fun vs r outs ps h hp => by
  unfold sem12 at h
  split at h
  · rename_i y1 y2 y3 y4; cases h; exact fn12 (⟨(⟨y1, y2⟩ : S.Inter), (⟨y3, y4⟩ : S.Cong)⟩ : S.Value) hp
  · cases h)

noncomputable def body21 : Code := (Tryd.f21.body).getD .skip
theorem fn21 (op : Int) : CallOk c12 21 [.int .i64 op] (wr_b (S.arith_known op)) (wo_b (S.arith_known op)) :=
  (call_ok (c := c12) (f := 21) (fn := Tryd.f21) (code := body21) (args := ([.int .i64 op])) (loop := noLoop) (md := ⟨false, false⟩) (rd := rd_b) (wr := wr_b) (wo := wo_b) (r := (S.arith_known op)) c12_ok (by kernel_rfl) (by kernel_rfl) (by kernel_rfl) (no_loops (by kernel_rfl)) (by kernel_rfl) (by kernel_rfl) (by kernel_rfl)
    rw_b np_b no_b (by kernel_rfl) (Tr.vc_of_noReq (by kernel_rfl)))

noncomputable def sem21 : List W → Option (W × List (List W) × List Prop)
  | [.int .i64 y1] => some (wr_b (S.arith_known y1), wo_b (S.arith_known y1), [])
  | _ => none
noncomputable def c21 : Cfg El := c12.add 21 sem21
theorem c21_ok : CfgOk c21 := c12_ok.add (fun args w => Tryd.call21 args w) (fun vs r outs ps h hp => by
  unfold sem21 at h
  split at h
  · rename_i y1; cases h; exact fn21 y1
  · cases h)

noncomputable def body27 : Code := (Tryd.f27.body).getD .skip
theorem fn27 : CallOk c21 27 [] (wr_S22 (S.inter_Whole)) (wo_S22 (S.inter_Whole)) :=
  (call_ok (c := c21) (f := 27) (fn := Tryd.f27) (code := body27) (args := ([])) (loop := noLoop) (md := ⟨false, false⟩) (rd := rd_S22) (wr := wr_S22) (wo := wo_S22) (r := S.inter_Whole) c21_ok (by kernel_rfl) (by kernel_rfl) (by kernel_rfl) (no_loops (by kernel_rfl)) (by kernel_rfl) (by kernel_rfl) (by kernel_rfl)
    rw_S22 np_S22 no_S22 (by kernel_rfl) (Tr.vc_of_noReq (by kernel_rfl)))

noncomputable def sem27 : List W → Option (W × List (List W) × List Prop)
  | [] => some (wr_S22 (S.inter_Whole), wo_S22 (S.inter_Whole), [])
  | _ => none
noncomputable def c27 : Cfg El := c21.add 27 sem27
theorem c27_ok : CfgOk c27 := c21_ok.add (fun args w => Tryd.call27 args w) (fun vs r outs ps h hp => by
  unfold sem27 at h
  split at h
  · cases h; exact fn27
  · cases h)

noncomputable def body22 : Code := (Tryd.f22.body).getD .skip
theorem fn22 : CallOk c27 22 [] (wr_S27 (S.value_Top)) (wo_S27 (S.value_Top)) :=
  (call_ok (c := c27) (f := 22) (fn := Tryd.f22) (code := body22) (args := ([])) (loop := noLoop) (md := ⟨false, false⟩) (rd := rd_S27) (wr := wr_S27) (wo := wo_S27) (r := S.value_Top) c27_ok (by kernel_rfl) (by kernel_rfl) (by kernel_rfl) (no_loops (by kernel_rfl)) (by kernel_rfl) (by kernel_rfl) (by kernel_rfl)
    rw_S27 np_S27 no_S27 (by kernel_rfl) (Tr.vc_of_noReq (by kernel_rfl)))

noncomputable def sem22 : List W → Option (W × List (List W) × List Prop)
  | [] => some (wr_S27 (S.value_Top), wo_S27 (S.value_Top), [])
  | _ => none
noncomputable def c22 : Cfg El := c27.add 22 sem22
theorem c22_ok : CfgOk c22 := c27_ok.add (fun args w => Tryd.call22 args w) (fun vs r outs ps h hp => by
  unfold sem22 at h
  split at h
  · cases h; exact fn22
  · cases h)

noncomputable def body84 : Code := (Tryd.f84.body).getD .skip
theorem fn84 (x : Int) : CallOk c22 84 [.int .i64 x] (wr_b (S.cmp_isNaNint64 x)) (wo_b (S.cmp_isNaNint64 x)) :=
  (call_ok (c := c22) (f := 84) (fn := Tryd.f84) (code := body84) (args := ([.int .i64 x])) (loop := noLoop) (md := ⟨false, false⟩) (rd := rd_b) (wr := wr_b) (wo := wo_b) (r := (S.cmp_isNaNint64 x)) c22_ok (by kernel_rfl) (by kernel_rfl) (by kernel_rfl) (no_loops (by kernel_rfl)) (by kernel_rfl) (by kernel_rfl) (by kernel_rfl)
    rw_b np_b no_b (by kernel_rfl) (Tr.vc_of_noReq (by kernel_rfl)))

noncomputable def sem84 : List W → Option (W × List (List W) × List Prop)
  | [.int .i64 y1] => some (wr_b (S.cmp_isNaNint64 y1), wo_b (S.cmp_isNaNint64 y1), [])
  | _ => none
noncomputable def c84 : Cfg El := c22.add 84 sem84
theorem c84_ok : CfgOk c84 := c22_ok.add (fun args w => Tryd.call84 args w) (fun vs r outs ps h hp => by
  unfold sem84 at h
  split at h
  · rename_i y1; cases h; exact fn84 y1
  · cases h)

noncomputable def body59 : Code := (Tryd.f59.body).getD .skip
theorem fn59 (x : Int) (y : Int) : CallOk c84 59 [.int .i64 x, .int .i64 y] (wr_i64 (S.cmp_Compareint64 x y)) (wo_i64 (S.cmp_Compareint64 x y)) :=
  (call_ok (c := c84) (f := 59) (fn := Tryd.f59) (code := body59) (args := ([.int .i64 x, .int .i64 y])) (loop := noLoop) (md := ⟨false, false⟩) (rd := rd_i64) (wr := wr_i64) (wo := wo_i64) (r := (S.cmp_Compareint64 x y)) c84_ok (by kernel_rfl) (by kernel_rfl) (by kernel_rfl) (no_loops (by kernel_rfl)) (by kernel_rfl) (by kernel_rfl) (by kernel_rfl)
    rw_i64 np_i64 no_i64 (by kernel_rfl) (Tr.vc_of_noReq (by kernel_rfl)))

noncomputable def sem59 : List W → Option (W × List (List W) × List Prop)
  | [.int .i64 y1, .int .i64 y2] => some (wr_i64 (S.cmp_Compareint64 y1 y2), wo_i64 (S.cmp_Compareint64 y1 y2), [])
  | _ => none
noncomputable def c59 : Cfg El := c84.add 59 sem59
theorem c59_ok : CfgOk c59 := c84_ok.add (fun args w => Tryd.call59 args w) (fun vs r outs ps h hp => by
  unfold sem59 at h
  split at h
  · rename_i y1 y2; cases h; exact fn59 y1 y2
  · cases h)

noncomputable def rd_b_b : W → List (List W) → Option (Bool × Bool)
  | .tup [.bool x1, .bool x2], [] => some ⟨x1, x2⟩
  | _, _ => none
noncomputable def wr_b_b (x : Bool × Bool) : W := .tup [.bool x.1, .bool x.2]
noncomputable def wo_b_b (_x : Bool × Bool) : List (List W) := []
theorem rw_b_b (v : W) (os : List (List W)) (x : Bool × Bool) (h : rd_b_b v os = some x) : v = wr_b_b x ∧ os = wo_b_b x := by
  unfold rd_b_b at h
  split at h <;> first | (cases h; exact ⟨rfl, rfl⟩) | cases h
theorem np_b_b (x : Bool × Bool) : okv (fun _ => false) (wr_b_b x) = true := rfl
theorem no_b_b (x : Bool × Bool) : all (fun cs => all (ok0 fun _ => false) cs) (wo_b_b x) = true := rfl

noncomputable def body46 : Code := (Tryd.f46.body).getD .skip
theorem fn46 (op : Int) (a : Int) (b : Int) : CallOk c59 46 [.int .i64 op, .int .i64 a, .int .i64 b] (wr_b_b (S.word_compares op a b)) (wo_b_b (S.word_compares op a b)) :=
  (call_ok (c := c59) (f := 46) (fn := Tryd.f46) (code := body46) (args := ([.int .i64 op, .int .i64 a, .int .i64 b])) (loop := noLoop) (md := ⟨false, false⟩) (rd := rd_b_b) (wr := wr_b_b) (wo := wo_b_b) (r := (S.word_compares op a b)) c59_ok (by kernel_rfl) (by kernel_rfl) (by kernel_rfl) (no_loops (by kernel_rfl)) (by kernel_rfl) (by kernel_rfl) (by kernel_rfl)
    rw_b_b np_b_b no_b_b (by kernel_rfl) (Tr.vc_of_noReq (by kernel_rfl)))

noncomputable def sem46 : List W → Option (W × List (List W) × List Prop)
  | [.int .i64 y1, .int .i64 y2, .int .i64 y3] => some (wr_b_b (S.word_compares y1 y2 y3), wo_b_b (S.word_compares y1 y2 y3), [])
  | _ => none
noncomputable def c46 : Cfg El := c59.add 46 sem46
theorem c46_ok : CfgOk c46 := c59_ok.add (fun args w => Tryd.call46 args w) (fun vs r outs ps h hp => by
  unfold sem46 at h
  split at h
  · rename_i y1 y2 y3; cases h; exact fn46 y1 y2 y3
  · cases h)

noncomputable def body47 : Code := (Tryd.f47.body).getD .skip
theorem fn47 (x : Bool) : CallOk c46 47 [.bool x] (wr_i64 (S.word_Bit x)) (wo_i64 (S.word_Bit x)) :=
  (call_ok (c := c46) (f := 47) (fn := Tryd.f47) (code := body47) (args := ([.bool x])) (loop := noLoop) (md := ⟨false, false⟩) (rd := rd_i64) (wr := wr_i64) (wo := wo_i64) (r := (S.word_Bit x)) c46_ok (by kernel_rfl) (by kernel_rfl) (by kernel_rfl) (no_loops (by kernel_rfl)) (by kernel_rfl) (by kernel_rfl) (by kernel_rfl)
    rw_i64 np_i64 no_i64 (by kernel_rfl) (Tr.vc_of_noReq (by kernel_rfl)))

noncomputable def sem47 : List W → Option (W × List (List W) × List Prop)
  | [.bool y1] => some (wr_i64 (S.word_Bit y1), wo_i64 (S.word_Bit y1), [])
  | _ => none
noncomputable def c47 : Cfg El := c46.add 47 sem47
theorem c47_ok : CfgOk c47 := c46_ok.add (fun args w => Tryd.call47 args w) (fun vs r outs ps h hp => by
  unfold sem47 at h
  split at h
  · rename_i y1; cases h; exact fn47 y1
  · cases h)

noncomputable def body61 : Code := (Tryd.f61.body).getD .skip
theorem fn61 (n : Int) : CallOk c47 61 [.int .i64 n] (wr_b (S.word_Truth n)) (wo_b (S.word_Truth n)) :=
  (call_ok (c := c47) (f := 61) (fn := Tryd.f61) (code := body61) (args := ([.int .i64 n])) (loop := noLoop) (md := ⟨false, false⟩) (rd := rd_b) (wr := wr_b) (wo := wo_b) (r := (S.word_Truth n)) c47_ok (by kernel_rfl) (by kernel_rfl) (by kernel_rfl) (no_loops (by kernel_rfl)) (by kernel_rfl) (by kernel_rfl) (by kernel_rfl)
    rw_b np_b no_b (by kernel_rfl) (Tr.vc_of_noReq (by kernel_rfl)))

noncomputable def sem61 : List W → Option (W × List (List W) × List Prop)
  | [.int .i64 y1] => some (wr_b (S.word_Truth y1), wo_b (S.word_Truth y1), [])
  | _ => none
noncomputable def c61 : Cfg El := c47.add 61 sem61
theorem c61_ok : CfgOk c61 := c47_ok.add (fun args w => Tryd.call61 args w) (fun vs r outs ps h hp => by
  unfold sem61 at h
  split at h
  · rename_i y1; cases h; exact fn61 y1
  · cases h)

noncomputable def body60 : Code := (Tryd.f60.body).getD .skip
theorem fn60 (a : Int) (b : Int) : CallOk c61 60 [.int .i64 a, .int .i64 b] (wr_i64 (S.word_reckons_1 a b)) (wo_i64 (S.word_reckons_1 a b)) :=
  (call_ok (c := c61) (f := 60) (fn := Tryd.f60) (code := body60) (args := ([.int .i64 a, .int .i64 b])) (loop := noLoop) (md := ⟨false, false⟩) (rd := rd_i64) (wr := wr_i64) (wo := wo_i64) (r := (S.word_reckons_1 a b)) c61_ok (by kernel_rfl) (by kernel_rfl) (by kernel_rfl) (no_loops (by kernel_rfl)) (by kernel_rfl) (by kernel_rfl) (by kernel_rfl)
    rw_i64 np_i64 no_i64 (by kernel_rfl) (Tr.vc_of_noReq (by kernel_rfl)))

noncomputable def sem60 : List W → Option (W × List (List W) × List Prop)
  | [.int .i64 y1, .int .i64 y2] => some (wr_i64 (S.word_reckons_1 y1 y2), wo_i64 (S.word_reckons_1 y1 y2), [])
  | _ => none
noncomputable def c60 : Cfg El := c61.add 60 sem60
theorem c60_ok : CfgOk c60 := c61_ok.add (fun args w => Tryd.call60 args w) (fun vs r outs ps h hp => by
  unfold sem60 at h
  split at h
  · rename_i y1 y2; cases h; exact fn60 y1 y2
  · cases h)

noncomputable def body62 : Code := (Tryd.f62.body).getD .skip
theorem fn62 (a : Int) (b : Int) : CallOk c60 62 [.int .i64 a, .int .i64 b] (wr_i64 (S.word_reckons_2 a b)) (wo_i64 (S.word_reckons_2 a b)) :=
  (call_ok (c := c60) (f := 62) (fn := Tryd.f62) (code := body62) (args := ([.int .i64 a, .int .i64 b])) (loop := noLoop) (md := ⟨false, false⟩) (rd := rd_i64) (wr := wr_i64) (wo := wo_i64) (r := (S.word_reckons_2 a b)) c60_ok (by kernel_rfl) (by kernel_rfl) (by kernel_rfl) (no_loops (by kernel_rfl)) (by kernel_rfl) (by kernel_rfl) (by kernel_rfl)
    rw_i64 np_i64 no_i64 (by kernel_rfl) (Tr.vc_of_noReq (by kernel_rfl)))

noncomputable def sem62 : List W → Option (W × List (List W) × List Prop)
  | [.int .i64 y1, .int .i64 y2] => some (wr_i64 (S.word_reckons_2 y1 y2), wo_i64 (S.word_reckons_2 y1 y2), [])
  | _ => none
noncomputable def c62 : Cfg El := c60.add 62 sem62
theorem c62_ok : CfgOk c62 := c60_ok.add (fun args w => Tryd.call62 args w) (fun vs r outs ps h hp => by
  unfold sem62 at h
  split at h
  · rename_i y1 y2; cases h; exact fn62 y1 y2
  · cases h)

noncomputable def body63 : Code := (Tryd.f63.body).getD .skip
theorem fn63 (a : Int) (b : Int) : CallOk c62 63 [.int .i64 a, .int .i64 b] (wr_i64 (S.word_reckons_3 a b)) (wo_i64 (S.word_reckons_3 a b)) :=
  (call_ok (c := c62) (f := 63) (fn := Tryd.f63) (code := body63) (args := ([.int .i64 a, .int .i64 b])) (loop := noLoop) (md := ⟨false, false⟩) (rd := rd_i64) (wr := wr_i64) (wo := wo_i64) (r := (S.word_reckons_3 a b)) c62_ok (by kernel_rfl) (by kernel_rfl) (by kernel_rfl) (no_loops (by kernel_rfl)) (by kernel_rfl) (by kernel_rfl) (by kernel_rfl)
    rw_i64 np_i64 no_i64 (by kernel_rfl) (Tr.vc_of_noReq (by kernel_rfl)))

noncomputable def sem63 : List W → Option (W × List (List W) × List Prop)
  | [.int .i64 y1, .int .i64 y2] => some (wr_i64 (S.word_reckons_3 y1 y2), wo_i64 (S.word_reckons_3 y1 y2), [])
  | _ => none
noncomputable def c63 : Cfg El := c62.add 63 sem63
theorem c63_ok : CfgOk c63 := c62_ok.add (fun args w => Tryd.call63 args w) (fun vs r outs ps h hp => by
  unfold sem63 at h
  split at h
  · rename_i y1 y2; cases h; exact fn63 y1 y2
  · cases h)

noncomputable def body64 : Code := (Tryd.f64.body).getD .skip
theorem fn64 (a : Int) (b : Int) : CallOk c63 64 [.int .i64 a, .int .i64 b] (wr_i64 (S.word_reckons_4 a b)) (wo_i64 (S.word_reckons_4 a b)) :=
  (call_ok (c := c63) (f := 64) (fn := Tryd.f64) (code := body64) (args := ([.int .i64 a, .int .i64 b])) (loop := noLoop) (md := ⟨false, false⟩) (rd := rd_i64) (wr := wr_i64) (wo := wo_i64) (r := (S.word_reckons_4 a b)) c63_ok (by kernel_rfl) (by kernel_rfl) (by kernel_rfl) (no_loops (by kernel_rfl)) (by kernel_rfl) (by kernel_rfl) (by kernel_rfl)
    rw_i64 np_i64 no_i64 (by kernel_rfl) (Tr.vc_of_noReq (by kernel_rfl)))

noncomputable def sem64 : List W → Option (W × List (List W) × List Prop)
  | [.int .i64 y1, .int .i64 y2] => some (wr_i64 (S.word_reckons_4 y1 y2), wo_i64 (S.word_reckons_4 y1 y2), [])
  | _ => none
noncomputable def c64 : Cfg El := c63.add 64 sem64
theorem c64_ok : CfgOk c64 := c63_ok.add (fun args w => Tryd.call64 args w) (fun vs r outs ps h hp => by
  unfold sem64 at h
  split at h
  · rename_i y1 y2; cases h; exact fn64 y1 y2
  · cases h)

noncomputable def body65 : Code := (Tryd.f65.body).getD .skip
theorem fn65 (a : Int) (b : Int) : CallOk c64 65 [.int .i64 a, .int .i64 b] (wr_i64 (S.word_reckons_5 a b)) (wo_i64 (S.word_reckons_5 a b)) :=
  (call_ok (c := c64) (f := 65) (fn := Tryd.f65) (code := body65) (args := ([.int .i64 a, .int .i64 b])) (loop := noLoop) (md := ⟨false, false⟩) (rd := rd_i64) (wr := wr_i64) (wo := wo_i64) (r := (S.word_reckons_5 a b)) c64_ok (by kernel_rfl) (by kernel_rfl) (by kernel_rfl) (no_loops (by kernel_rfl)) (by kernel_rfl) (by kernel_rfl) (by kernel_rfl)
    rw_i64 np_i64 no_i64 (by kernel_rfl) (Tr.vc_of_noReq (by kernel_rfl)))

noncomputable def sem65 : List W → Option (W × List (List W) × List Prop)
  | [.int .i64 y1, .int .i64 y2] => some (wr_i64 (S.word_reckons_5 y1 y2), wo_i64 (S.word_reckons_5 y1 y2), [])
  | _ => none
noncomputable def c65 : Cfg El := c64.add 65 sem65
theorem c65_ok : CfgOk c65 := c64_ok.add (fun args w => Tryd.call65 args w) (fun vs r outs ps h hp => by
  unfold sem65 at h
  split at h
  · rename_i y1 y2; cases h; exact fn65 y1 y2
  · cases h)

noncomputable def body67 : Code := (Tryd.f67.body).getD .skip
theorem fn67 (b : Int) : CallOk c65 67 [.int .i64 b] (wr_u64 (S.word_Shift b)) (wo_u64 (S.word_Shift b)) :=
  (call_ok (c := c65) (f := 67) (fn := Tryd.f67) (code := body67) (args := ([.int .i64 b])) (loop := noLoop) (md := ⟨false, false⟩) (rd := rd_u64) (wr := wr_u64) (wo := wo_u64) (r := (S.word_Shift b)) c65_ok (by kernel_rfl) (by kernel_rfl) (by kernel_rfl) (no_loops (by kernel_rfl)) (by kernel_rfl) (by kernel_rfl) (by kernel_rfl)
    rw_u64 np_u64 no_u64 (by kernel_rfl) (Tr.vc_of_noReq (by kernel_rfl)))

noncomputable def sem67 : List W → Option (W × List (List W) × List Prop)
  | [.int .i64 y1] => some (wr_u64 (S.word_Shift y1), wo_u64 (S.word_Shift y1), [])
  | _ => none
noncomputable def c67 : Cfg El := c65.add 67 sem67
theorem c67_ok : CfgOk c67 := c65_ok.add (fun args w => Tryd.call67 args w) (fun vs r outs ps h hp => by
  unfold sem67 at h
  split at h
  · rename_i y1; cases h; exact fn67 y1
  · cases h)

noncomputable def body66 : Code := (Tryd.f66.body).getD .skip
theorem fn66 (a : Int) (b : Int) (hp : S.word_reckons_6_pre a b) : CallOk c67 66 [.int .i64 a, .int .i64 b] (wr_i64 (S.word_reckons_6 a b)) (wo_i64 (S.word_reckons_6 a b)) :=
  (call_ok (c := c67) (f := 66) (fn := Tryd.f66) (code := body66) (args := ([.int .i64 a, .int .i64 b])) (loop := noLoop) (md := ⟨false, false⟩) (rd := rd_i64) (wr := wr_i64) (wo := wo_i64) (r := (S.word_reckons_6 a b)) c67_ok (by kernel_rfl) (by kernel_rfl) (by kernel_rfl) (no_loops (by kernel_rfl)) (by kernel_rfl) (by kernel_rfl) (by kernel_rfl)
    rw_i64 np_i64 no_i64 (by kernel_rfl) (Eq.mpr (show Vm.Tr.vc (Vm.Fn c67 Tryd.f66 body66 noLoop ([.int .i64 a, .int .i64 b])) = S.word_reckons_6_pre a b by kernel_rfl) hp))

noncomputable def sem66 : List W → Option (W × List (List W) × List Prop)
  | [.int .i64 y1, .int .i64 y2] => some (wr_i64 (S.word_reckons_6 y1 y2), wo_i64 (S.word_reckons_6 y1 y2), [S.word_reckons_6_pre y1 y2])
  | _ => none
noncomputable def c66 : Cfg El := c67.add 66 sem66
theorem c66_ok : CfgOk c66 := c67_ok.add (fun args w => Tryd.call66 args w) (fun vs r outs ps h hp => by
  unfold sem66 at h
  split at h
  · rename_i y1 y2; cases h; exact fn66 y1 y2 hp
  · cases h)

noncomputable def body68 : Code := (Tryd.f68.body).getD .skip
theorem fn68 (a : Int) (b : Int) (hp : S.word_reckons_7_pre a b) : CallOk c66 68 [.int .i64 a, .int .i64 b] (wr_i64 (S.word_reckons_7 a b)) (wo_i64 (S.word_reckons_7 a b)) :=
  (call_ok (c := c66) (f := 68) (fn := Tryd.f68) (code := body68) (args := ([.int .i64 a, .int .i64 b])) (loop := noLoop) (md := ⟨false, false⟩) (rd := rd_i64) (wr := wr_i64) (wo := wo_i64) (r := (S.word_reckons_7 a b)) c66_ok (by kernel_rfl) (by kernel_rfl) (by kernel_rfl) (no_loops (by kernel_rfl)) (by kernel_rfl) (by kernel_rfl) (by kernel_rfl)
    rw_i64 np_i64 no_i64 (by kernel_rfl) (Eq.mpr (show Vm.Tr.vc (Vm.Fn c66 Tryd.f68 body68 noLoop ([.int .i64 a, .int .i64 b])) = S.word_reckons_7_pre a b by kernel_rfl) hp))

noncomputable def sem68 : List W → Option (W × List (List W) × List Prop)
  | [.int .i64 y1, .int .i64 y2] => some (wr_i64 (S.word_reckons_7 y1 y2), wo_i64 (S.word_reckons_7 y1 y2), [S.word_reckons_7_pre y1 y2])
  | _ => none
noncomputable def c68 : Cfg El := c66.add 68 sem68
theorem c68_ok : CfgOk c68 := c66_ok.add (fun args w => Tryd.call68 args w) (fun vs r outs ps h hp => by
  unfold sem68 at h
  split at h
  · rename_i y1 y2; cases h; exact fn68 y1 y2 hp
  · cases h)

noncomputable def body69 : Code := (Tryd.f69.body).getD .skip
theorem fn69 (a : Int) (b : Int) : CallOk c68 69 [.int .i64 a, .int .i64 b] (wr_i64 (S.word_reckons_8 a b)) (wo_i64 (S.word_reckons_8 a b)) :=
  (call_ok (c := c68) (f := 69) (fn := Tryd.f69) (code := body69) (args := ([.int .i64 a, .int .i64 b])) (loop := noLoop) (md := ⟨false, false⟩) (rd := rd_i64) (wr := wr_i64) (wo := wo_i64) (r := (S.word_reckons_8 a b)) c68_ok (by kernel_rfl) (by kernel_rfl) (by kernel_rfl) (no_loops (by kernel_rfl)) (by kernel_rfl) (by kernel_rfl) (by kernel_rfl)
    rw_i64 np_i64 no_i64 (by kernel_rfl) (Tr.vc_of_noReq (by kernel_rfl)))

noncomputable def sem69 : List W → Option (W × List (List W) × List Prop)
  | [.int .i64 y1, .int .i64 y2] => some (wr_i64 (S.word_reckons_8 y1 y2), wo_i64 (S.word_reckons_8 y1 y2), [])
  | _ => none
noncomputable def c69 : Cfg El := c68.add 69 sem69
theorem c69_ok : CfgOk c69 := c68_ok.add (fun args w => Tryd.call69 args w) (fun vs r outs ps h hp => by
  unfold sem69 at h
  split at h
  · rename_i y1 y2; cases h; exact fn69 y1 y2
  · cases h)

noncomputable def body70 : Code := (Tryd.f70.body).getD .skip
theorem fn70 (a : Int) (b : Int) : CallOk c69 70 [.int .i64 a, .int .i64 b] (wr_i64 (S.word_reckons_9 a b)) (wo_i64 (S.word_reckons_9 a b)) :=
  (call_ok (c := c69) (f := 70) (fn := Tryd.f70) (code := body70) (args := ([.int .i64 a, .int .i64 b])) (loop := noLoop) (md := ⟨false, false⟩) (rd := rd_i64) (wr := wr_i64) (wo := wo_i64) (r := (S.word_reckons_9 a b)) c69_ok (by kernel_rfl) (by kernel_rfl) (by kernel_rfl) (no_loops (by kernel_rfl)) (by kernel_rfl) (by kernel_rfl) (by kernel_rfl)
    rw_i64 np_i64 no_i64 (by kernel_rfl) (Tr.vc_of_noReq (by kernel_rfl)))

noncomputable def sem70 : List W → Option (W × List (List W) × List Prop)
  | [.int .i64 y1, .int .i64 y2] => some (wr_i64 (S.word_reckons_9 y1 y2), wo_i64 (S.word_reckons_9 y1 y2), [])
  | _ => none
noncomputable def c70 : Cfg El := c69.add 70 sem70
theorem c70_ok : CfgOk c70 := c69_ok.add (fun args w => Tryd.call70 args w) (fun vs r outs ps h hp => by
  unfold sem70 at h
  split at h
  · rename_i y1 y2; cases h; exact fn70 y1 y2
  · cases h)

noncomputable def body71 : Code := (Tryd.f71.body).getD .skip
theorem fn71 (a : Int) (b : Int) : CallOk c70 71 [.int .i64 a, .int .i64 b] (wr_i64 (S.word_reckons_10 a b)) (wo_i64 (S.word_reckons_10 a b)) :=
  (call_ok (c := c70) (f := 71) (fn := Tryd.f71) (code := body71) (args := ([.int .i64 a, .int .i64 b])) (loop := noLoop) (md := ⟨false, false⟩) (rd := rd_i64) (wr := wr_i64) (wo := wo_i64) (r := (S.word_reckons_10 a b)) c70_ok (by kernel_rfl) (by kernel_rfl) (by kernel_rfl) (no_loops (by kernel_rfl)) (by kernel_rfl) (by kernel_rfl) (by kernel_rfl)
    rw_i64 np_i64 no_i64 (by kernel_rfl) (Tr.vc_of_noReq (by kernel_rfl)))

noncomputable def sem71 : List W → Option (W × List (List W) × List Prop)
  | [.int .i64 y1, .int .i64 y2] => some (wr_i64 (S.word_reckons_10 y1 y2), wo_i64 (S.word_reckons_10 y1 y2), [])
  | _ => none
noncomputable def c71 : Cfg El := c70.add 71 sem71
theorem c71_ok : CfgOk c71 := c70_ok.add (fun args w => Tryd.call71 args w) (fun vs r outs ps h hp => by
  unfold sem71 at h
  split at h
  · rename_i y1 y2; cases h; exact fn71 y1 y2
  · cases h)

noncomputable def body72 : Code := (Tryd.f72.body).getD .skip
theorem fn72 (a : Int) (b : Int) (hp : S.word_reckons_11_pre a b) : CallOk c71 72 [.int .i64 a, .int .i64 b] (wr_i64 (S.word_reckons_11 a b)) (wo_i64 (S.word_reckons_11 a b)) :=
  (call_ok (c := c71) (f := 72) (fn := Tryd.f72) (code := body72) (args := ([.int .i64 a, .int .i64 b])) (loop := noLoop) (md := ⟨false, false⟩) (rd := rd_i64) (wr := wr_i64) (wo := wo_i64) (r := (S.word_reckons_11 a b)) c71_ok (by kernel_rfl) (by kernel_rfl) (by kernel_rfl) (no_loops (by kernel_rfl)) (by kernel_rfl) (by kernel_rfl) (by kernel_rfl)
    rw_i64 np_i64 no_i64 (by kernel_rfl) (Eq.mpr (show Vm.Tr.vc (Vm.Fn c71 Tryd.f72 body72 noLoop ([.int .i64 a, .int .i64 b])) = S.word_reckons_11_pre a b by kernel_rfl) hp))

noncomputable def sem72 : List W → Option (W × List (List W) × List Prop)
  | [.int .i64 y1, .int .i64 y2] => some (wr_i64 (S.word_reckons_11 y1 y2), wo_i64 (S.word_reckons_11 y1 y2), [S.word_reckons_11_pre y1 y2])
  | _ => none
noncomputable def c72 : Cfg El := c71.add 72 sem72
theorem c72_ok : CfgOk c72 := c71_ok.add (fun args w => Tryd.call72 args w) (fun vs r outs ps h hp => by
  unfold sem72 at h
  split at h
  · rename_i y1 y2; cases h; exact fn72 y1 y2 hp
  · cases h)

noncomputable def body73 : Code := (Tryd.f73.body).getD .skip
theorem fn73 (a : Int) (b : Int) (hp : S.word_reckons_12_pre a b) : CallOk c72 73 [.int .i64 a, .int .i64 b] (wr_i64 (S.word_reckons_12 a b)) (wo_i64 (S.word_reckons_12 a b)) :=
  (call_ok (c := c72) (f := 73) (fn := Tryd.f73) (code := body73) (args := ([.int .i64 a, .int .i64 b])) (loop := noLoop) (md := ⟨false, false⟩) (rd := rd_i64) (wr := wr_i64) (wo := wo_i64) (r := (S.word_reckons_12 a b)) c72_ok (by kernel_rfl) (by kernel_rfl) (by kernel_rfl) (no_loops (by kernel_rfl)) (by kernel_rfl) (by kernel_rfl) (by kernel_rfl)
    rw_i64 np_i64 no_i64 (by kernel_rfl) (Eq.mpr (show Vm.Tr.vc (Vm.Fn c72 Tryd.f73 body73 noLoop ([.int .i64 a, .int .i64 b])) = S.word_reckons_12_pre a b by kernel_rfl) hp))

noncomputable def sem73 : List W → Option (W × List (List W) × List Prop)
  | [.int .i64 y1, .int .i64 y2] => some (wr_i64 (S.word_reckons_12 y1 y2), wo_i64 (S.word_reckons_12 y1 y2), [S.word_reckons_12_pre y1 y2])
  | _ => none
noncomputable def c73 : Cfg El := c72.add 73 sem73
theorem c73_ok : CfgOk c73 := c72_ok.add (fun args w => Tryd.call73 args w) (fun vs r outs ps h hp => by
  unfold sem73 at h
  split at h
  · rename_i y1 y2; cases h; exact fn73 y1 y2 hp
  · cases h)

noncomputable def rd_M71_f : W → List (List W) → Option ((List (Int × Go.Value)))
  | .cmap .i64 true x1, [] => some x1
  | _, _ => none
noncomputable def wr_M71_f (x : (List (Int × Go.Value))) : W := .cmap .i64 true x
noncomputable def wo_M71_f (_x : (List (Int × Go.Value))) : List (List W) := []
theorem rw_M71_f (v : W) (os : List (List W)) (x : (List (Int × Go.Value))) (h : rd_M71_f v os = some x) : v = wr_M71_f x ∧ os = wo_M71_f x := by
  unfold rd_M71_f at h
  split at h <;> first | (cases h; exact ⟨rfl, rfl⟩) | cases h
theorem np_M71_f (x : (List (Int × Go.Value))) : okv (fun _ => false) (wr_M71_f x) = true := rfl
theorem no_M71_f (x : (List (Int × Go.Value))) : all (fun cs => all (ok0 fun _ => false) cs) (wo_M71_f x) = true := rfl

noncomputable def body48 : Code := (Tryd.f48.body).getD .skip
theorem fn48 : CallOk c73 48 [] (wr_M71_f (S.word_reckons)) (wo_M71_f (S.word_reckons)) :=
  (call_ok (c := c73) (f := 48) (fn := Tryd.f48) (code := body48) (args := ([])) (loop := noLoop) (md := ⟨false, true⟩) (rd := rd_M71_f) (wr := wr_M71_f) (wo := wo_M71_f) (r := S.word_reckons) c73_ok (by kernel_rfl) (by kernel_rfl) (by kernel_rfl) (no_loops (by kernel_rfl)) (by kernel_rfl) (by kernel_rfl) (by kernel_rfl)
    rw_M71_f np_M71_f no_M71_f (by kernel_rfl) (Tr.vc_of_noReq (by kernel_rfl)))

noncomputable def sem48 : List W → Option (W × List (List W) × List Prop)
  | [] => some (wr_M71_f (S.word_reckons), wo_M71_f (S.word_reckons), [])
  | _ => none
noncomputable def c48 : Cfg El := c73.add 48 sem48
theorem c48_ok : CfgOk c48 := c73_ok.add (fun args w => Tryd.call48 args w) (fun vs r outs ps h hp => by
  unfold sem48 at h
  split at h
  · cases h; exact fn48
  · cases h)

noncomputable def body49 : Code := (Tryd.f49.body).getD .skip
theorem fn49 (op : Int) : CallOk c48 49 [.int .i64 op] (wr_b (S.word_Traps op)) (wo_b (S.word_Traps op)) :=
  (call_ok (c := c48) (f := 49) (fn := Tryd.f49) (code := body49) (args := ([.int .i64 op])) (loop := noLoop) (md := ⟨false, false⟩) (rd := rd_b) (wr := wr_b) (wo := wo_b) (r := (S.word_Traps op)) c48_ok (by kernel_rfl) (by kernel_rfl) (by kernel_rfl) (no_loops (by kernel_rfl)) (by kernel_rfl) (by kernel_rfl) (by kernel_rfl)
    rw_b np_b no_b (by kernel_rfl) (Tr.vc_of_noReq (by kernel_rfl)))

noncomputable def sem49 : List W → Option (W × List (List W) × List Prop)
  | [.int .i64 y1] => some (wr_b (S.word_Traps y1), wo_b (S.word_Traps y1), [])
  | _ => none
noncomputable def c49 : Cfg El := c48.add 49 sem49
theorem c49_ok : CfgOk c49 := c48_ok.add (fun args w => Tryd.call49 args w) (fun vs r outs ps h hp => by
  unfold sem49 at h
  split at h
  · rename_i y1; cases h; exact fn49 y1
  · cases h)

noncomputable def body23 : Code := (Tryd.f23.body).getD .skip
theorem fn23 (op : Int) (a : Int) (b : Int) (hp : S.word_Do_pre op a b) : CallOk c49 23 [.int .i64 op, .int .i64 a, .int .i64 b] (wr_i64_b (S.word_Do op a b)) (wo_i64_b (S.word_Do op a b)) :=
  (call_ok (c := c49) (f := 23) (fn := Tryd.f23) (code := body23) (args := ([.int .i64 op, .int .i64 a, .int .i64 b])) (loop := noLoop) (md := ⟨false, false⟩) (rd := rd_i64_b) (wr := wr_i64_b) (wo := wo_i64_b) (r := (S.word_Do op a b)) c49_ok (by kernel_rfl) (by kernel_rfl) (by kernel_rfl) (no_loops (by kernel_rfl)) (by kernel_rfl) (by kernel_rfl) (by kernel_rfl)
    rw_i64_b np_i64_b no_i64_b (by kernel_rfl) (Eq.mpr (show Vm.Tr.vc (Vm.Fn c49 Tryd.f23 body23 noLoop ([.int .i64 op, .int .i64 a, .int .i64 b])) = S.word_Do_pre op a b by kernel_rfl) hp))

noncomputable def sem23 : List W → Option (W × List (List W) × List Prop)
  | [.int .i64 y1, .int .i64 y2, .int .i64 y3] => some (wr_i64_b (S.word_Do y1 y2 y3), wo_i64_b (S.word_Do y1 y2 y3), [S.word_Do_pre y1 y2 y3])
  | _ => none
noncomputable def c23 : Cfg El := c49.add 23 sem23
theorem c23_ok : CfgOk c23 := c49_ok.add (fun args w => Tryd.call23 args w) (fun vs r outs ps h hp => by
  unfold sem23 at h
  split at h
  · rename_i y1 y2 y3; cases h; exact fn23 y1 y2 y3 hp
  · cases h)

noncomputable def rd_A47 : W → List (List W) → Option ((Int × Int))
  | .agg [.int .u64 x1, .int .u64 x2], [] => some (x1, x2)
  | _, _ => none
noncomputable def wr_A47 (x : (Int × Int)) : W := .agg [.int .u64 x.1, .int .u64 x.2]
noncomputable def wo_A47 (_x : (Int × Int)) : List (List W) := []
theorem rw_A47 (v : W) (os : List (List W)) (x : (Int × Int)) (h : rd_A47 v os = some x) : v = wr_A47 x ∧ os = wo_A47 x := by
  unfold rd_A47 at h
  split at h <;> first | (cases h; exact ⟨rfl, rfl⟩) | cases h
theorem np_A47 (x : (Int × Int)) : okv (fun _ => false) (wr_A47 x) = true := rfl
theorem no_A47 (x : (Int × Int)) : all (fun cs => all (ok0 fun _ => false) cs) (wo_A47 x) = true := rfl

noncomputable def body32 : Code := (Tryd.f32.body).getD .skip
theorem fn32 (n : Int) : CallOk c23 32 [.int .i64 n] (wr_A47 (S.arith_of n)) (wo_A47 (S.arith_of n)) :=
  (call_ok (c := c23) (f := 32) (fn := Tryd.f32) (code := body32) (args := ([.int .i64 n])) (loop := noLoop) (md := ⟨false, false⟩) (rd := rd_A47) (wr := wr_A47) (wo := wo_A47) (r := (S.arith_of n)) c23_ok (by kernel_rfl) (by kernel_rfl) (by kernel_rfl) (no_loops (by kernel_rfl)) (by kernel_rfl) (by kernel_rfl) (by kernel_rfl)
    rw_A47 np_A47 no_A47 (by kernel_rfl) (Tr.vc_of_noReq (by kernel_rfl)))

noncomputable def sem32 : List W → Option (W × List (List W) × List Prop)
  | [.int .i64 y1] => some (wr_A47 (S.arith_of y1), wo_A47 (S.arith_of y1), [])
  | _ => none
noncomputable def c32 : Cfg El := c23.add 32 sem32
theorem c32_ok : CfgOk c32 := c23_ok.add (fun args w => Tryd.call32 args w) (fun vs r outs ps h hp => by
  unfold sem32 at h
  split at h
  · rename_i y1; cases h; exact fn32 y1
  · cases h)

noncomputable def body74 : Code := (Tryd.f74.body).getD .skip
theorem fn74 (a : (Int × Int)) (b : (Int × Int)) (hp : S.arith_wide_plus_pre a b) : CallOk c32 74 [.agg [.int .u64 a.1, .int .u64 a.2], .agg [.int .u64 b.1, .int .u64 b.2]] (wr_A47 (S.arith_wide_plus a b)) (wo_A47 (S.arith_wide_plus a b)) :=
  (call_ok (c := c32) (f := 74) (fn := Tryd.f74) (code := body74) (args := ([.agg [.int .u64 a.1, .int .u64 a.2], .agg [.int .u64 b.1, .int .u64 b.2]])) (loop := noLoop) (md := ⟨false, false⟩) (rd := rd_A47) (wr := wr_A47) (wo := wo_A47) (r := (S.arith_wide_plus a b)) c32_ok (by kernel_rfl) (by kernel_rfl) (by kernel_rfl) (no_loops (by kernel_rfl)) (by kernel_rfl) (by kernel_rfl) (by kernel_rfl)
    rw_A47 np_A47 no_A47 (by kernel_rfl) (Eq.mpr (show Vm.Tr.vc (Vm.Fn c32 Tryd.f74 body74 noLoop ([.agg [.int .u64 a.1, .int .u64 a.2], .agg [.int .u64 b.1, .int .u64 b.2]])) = S.arith_wide_plus_pre a b by kernel_rfl) hp))

noncomputable def sem74 : List W → Option (W × List (List W) × List Prop)
  | [.agg [.int .u64 y1, .int .u64 y2], .agg [.int .u64 y3, .int .u64 y4]] => some (wr_A47 (S.arith_wide_plus (y1, y2) (y3, y4)), wo_A47 (S.arith_wide_plus (y1, y2) (y3, y4)), [S.arith_wide_plus_pre (y1, y2) (y3, y4)])
  | _ => none
noncomputable def c74 : Cfg El := c32.add 74 sem74
theorem c74_ok : CfgOk c74 := c32_ok.add (fun args w => Tryd.call74 args w) (fun vs r outs ps h hp => by
  unfold sem74 at h
  split at h
  · rename_i y1 y2 y3 y4; cases h; exact fn74 (y1, y2) (y3, y4) hp
  · cases h)

noncomputable def sem81 : List W → Option (W × List (List W) × List Prop)
  | [.int .u64 x, .int .u64 y, .int .u64 c] => some (.tup [.int .u64 (S.math_bits_Sub64 x y c).1, .int .u64 (S.math_bits_Sub64 x y c).2], [], [S.math_bits_Sub64_pre x y c])
  | _ => none
noncomputable def c81 : Cfg El := c74.add 81 sem81
theorem c81_ok : CfgOk c81 := c74_ok.addExt (fun vs r outs ps h hp => by
  unfold sem81 at h
  split at h
  · cases h; exact ⟨rfl, ext_sub64 (c := c74) (fn := Tryd.f81) (by kernel_rfl) (by kernel_rfl) (by kernel_rfl) (by kernel_rfl) (by kernel_rfl) hp⟩
  · cases h)

noncomputable def body55 : Code := (Tryd.f55.body).getD .skip
theorem fn55 (a : (Int × Int)) (b : (Int × Int)) (hp : S.arith_wide_minus_pre a b) : CallOk c81 55 [.agg [.int .u64 a.1, .int .u64 a.2], .agg [.int .u64 b.1, .int .u64 b.2]] (wr_A47 (S.arith_wide_minus a b)) (wo_A47 (S.arith_wide_minus a b)) :=
  (call_ok (c := c81) (f := 55) (fn := Tryd.f55) (code := body55) (args := ([.agg [.int .u64 a.1, .int .u64 a.2], .agg [.int .u64 b.1, .int .u64 b.2]])) (loop := noLoop) (md := ⟨false, false⟩) (rd := rd_A47) (wr := wr_A47) (wo := wo_A47) (r := (S.arith_wide_minus a b)) c81_ok (by kernel_rfl) (by kernel_rfl) (by kernel_rfl) (no_loops (by kernel_rfl)) (by kernel_rfl) (by kernel_rfl) (by kernel_rfl)
    rw_A47 np_A47 no_A47 (by kernel_rfl) (Eq.mpr (show Vm.Tr.vc (Vm.Fn c81 Tryd.f55 body55 noLoop ([.agg [.int .u64 a.1, .int .u64 a.2], .agg [.int .u64 b.1, .int .u64 b.2]])) = S.arith_wide_minus_pre a b by kernel_rfl) hp))

noncomputable def sem55 : List W → Option (W × List (List W) × List Prop)
  | [.agg [.int .u64 y1, .int .u64 y2], .agg [.int .u64 y3, .int .u64 y4]] => some (wr_A47 (S.arith_wide_minus (y1, y2) (y3, y4)), wo_A47 (S.arith_wide_minus (y1, y2) (y3, y4)), [S.arith_wide_minus_pre (y1, y2) (y3, y4)])
  | _ => none
noncomputable def c55 : Cfg El := c81.add 55 sem55
theorem c55_ok : CfgOk c55 := c81_ok.add (fun args w => Tryd.call55 args w) (fun vs r outs ps h hp => by
  unfold sem55 at h
  split at h
  · rename_i y1 y2 y3 y4; cases h; exact fn55 (y1, y2) (y3, y4) hp
  · cases h)

noncomputable def rd_u64_u64 : W → List (List W) → Option (Int × Int)
  | .tup [.int .u64 x1, .int .u64 x2], [] => some ⟨x1, x2⟩
  | _, _ => none
noncomputable def wr_u64_u64 (x : Int × Int) : W := .tup [.int .u64 x.1, .int .u64 x.2]
noncomputable def wo_u64_u64 (_x : Int × Int) : List (List W) := []
theorem rw_u64_u64 (v : W) (os : List (List W)) (x : Int × Int) (h : rd_u64_u64 v os = some x) : v = wr_u64_u64 x ∧ os = wo_u64_u64 x := by
  unfold rd_u64_u64 at h
  split at h <;> first | (cases h; exact ⟨rfl, rfl⟩) | cases h
theorem np_u64_u64 (x : Int × Int) : okv (fun _ => false) (wr_u64_u64 x) = true := rfl
theorem no_u64_u64 (x : Int × Int) : all (fun cs => all (ok0 fun _ => false) cs) (wo_u64_u64 x) = true := rfl

noncomputable def body85 : Code := (Tryd.f85.body).getD .skip
theorem fn85 (x : Int) (y : Int) : CallOk c55 85 [.int .u64 x, .int .u64 y] (wr_u64_u64 (S.math_bits_Mul64 x y)) (wo_u64_u64 (S.math_bits_Mul64 x y)) :=
  (call_ok (c := c55) (f := 85) (fn := Tryd.f85) (code := body85) (args := ([.int .u64 x, .int .u64 y])) (loop := noLoop) (md := ⟨false, false⟩) (rd := rd_u64_u64) (wr := wr_u64_u64) (wo := wo_u64_u64) (r := (S.math_bits_Mul64 x y)) c55_ok (by kernel_rfl) (by kernel_rfl) (by kernel_rfl) (no_loops (by kernel_rfl)) (by kernel_rfl) (by kernel_rfl) (by kernel_rfl)
    rw_u64_u64 np_u64_u64 no_u64_u64 (by kernel_rfl) (Tr.vc_of_noReq (by kernel_rfl)))

noncomputable def sem85 : List W → Option (W × List (List W) × List Prop)
  | [.int .u64 y1, .int .u64 y2] => some (wr_u64_u64 (S.math_bits_Mul64 y1 y2), wo_u64_u64 (S.math_bits_Mul64 y1 y2), [])
  | _ => none
noncomputable def c85 : Cfg El := c55.add 85 sem85
theorem c85_ok : CfgOk c85 := c55_ok.add (fun args w => Tryd.call85 args w) (fun vs r outs ps h hp => by
  unfold sem85 at h
  split at h
  · rename_i y1 y2; cases h; exact fn85 y1 y2
  · cases h)

noncomputable def body75 : Code := (Tryd.f75.body).getD .skip
theorem fn75 (a : Int) (b : Int) : CallOk c85 75 [.int .i64 a, .int .i64 b] (wr_A47 (S.arith_times a b)) (wo_A47 (S.arith_times a b)) :=
  (call_ok (c := c85) (f := 75) (fn := Tryd.f75) (code := body75) (args := ([.int .i64 a, .int .i64 b])) (loop := noLoop) (md := ⟨false, false⟩) (rd := rd_A47) (wr := wr_A47) (wo := wo_A47) (r := (S.arith_times a b)) c85_ok (by kernel_rfl) (by kernel_rfl) (by kernel_rfl) (no_loops (by kernel_rfl)) (by kernel_rfl) (by kernel_rfl) (by kernel_rfl)
    rw_A47 np_A47 no_A47 (by kernel_rfl) (Tr.vc_of_noReq (by kernel_rfl)))

noncomputable def sem75 : List W → Option (W × List (List W) × List Prop)
  | [.int .i64 y1, .int .i64 y2] => some (wr_A47 (S.arith_times y1 y2), wo_A47 (S.arith_times y1 y2), [])
  | _ => none
noncomputable def c75 : Cfg El := c85.add 75 sem75
theorem c75_ok : CfgOk c75 := c85_ok.add (fun args w => Tryd.call75 args w) (fun vs r outs ps h hp => by
  unfold sem75 at h
  split at h
  · rename_i y1 y2; cases h; exact fn75 y1 y2
  · cases h)

noncomputable def body50 : Code := (Tryd.f50.body).getD .skip
theorem fn50 (op : Int) (a : Int) (b : Int) (hp : S.arith_exact_pre op a b) : CallOk c75 50 [.int .i64 op, .int .i64 a, .int .i64 b] (wr_A47 (S.arith_exact op a b)) (wo_A47 (S.arith_exact op a b)) :=
  (call_ok (c := c75) (f := 50) (fn := Tryd.f50) (code := body50) (args := ([.int .i64 op, .int .i64 a, .int .i64 b])) (loop := noLoop) (md := ⟨false, false⟩) (rd := rd_A47) (wr := wr_A47) (wo := wo_A47) (r := (S.arith_exact op a b)) c75_ok (by kernel_rfl) (by kernel_rfl) (by kernel_rfl) (no_loops (by kernel_rfl)) (by kernel_rfl) (by kernel_rfl) (by kernel_rfl)
    rw_A47 np_A47 no_A47 (by kernel_rfl) (Eq.mpr (show Vm.Tr.vc (Vm.Fn c75 Tryd.f50 body50 noLoop ([.int .i64 op, .int .i64 a, .int .i64 b])) = S.arith_exact_pre op a b by kernel_rfl) hp))

noncomputable def sem50 : List W → Option (W × List (List W) × List Prop)
  | [.int .i64 y1, .int .i64 y2, .int .i64 y3] => some (wr_A47 (S.arith_exact y1 y2 y3), wo_A47 (S.arith_exact y1 y2 y3), [S.arith_exact_pre y1 y2 y3])
  | _ => none
noncomputable def c50 : Cfg El := c75.add 50 sem50
theorem c50_ok : CfgOk c50 := c75_ok.add (fun args w => Tryd.call50 args w) (fun vs r outs ps h hp => by
  unfold sem50 at h
  split at h
  · rename_i y1 y2 y3; cases h; exact fn50 y1 y2 y3 hp
  · cases h)

noncomputable def body51 : Code := (Tryd.f51.body).getD .skip
theorem fn51 (a : (Int × Int)) (b : (Int × Int)) : CallOk c50 51 [.agg [.int .u64 a.1, .int .u64 a.2], .agg [.int .u64 b.1, .int .u64 b.2]] (wr_b (S.arith_wide_less a b)) (wo_b (S.arith_wide_less a b)) :=
  (call_ok (c := c50) (f := 51) (fn := Tryd.f51) (code := body51) (args := ([.agg [.int .u64 a.1, .int .u64 a.2], .agg [.int .u64 b.1, .int .u64 b.2]])) (loop := noLoop) (md := ⟨false, false⟩) (rd := rd_b) (wr := wr_b) (wo := wo_b) (r := (S.arith_wide_less a b)) c50_ok (by kernel_rfl) (by kernel_rfl) (by kernel_rfl) (no_loops (by kernel_rfl)) (by kernel_rfl) (by kernel_rfl) (by kernel_rfl)
    rw_b np_b no_b (by kernel_rfl) (Tr.vc_of_noReq (by kernel_rfl)))

noncomputable def sem51 : List W → Option (W × List (List W) × List Prop)
  | [.agg [.int .u64 y1, .int .u64 y2], .agg [.int .u64 y3, .int .u64 y4]] => some (wr_b (S.arith_wide_less (y1, y2) (y3, y4)), wo_b (S.arith_wide_less (y1, y2) (y3, y4)), [])
  | _ => none
noncomputable def c51 : Cfg El := c50.add 51 sem51
theorem c51_ok : CfgOk c51 := c50_ok.add (fun args w => Tryd.call51 args w) (fun vs r outs ps h hp => by
  unfold sem51 at h
  split at h
  · rename_i y1 y2 y3 y4; cases h; exact fn51 (y1, y2) (y3, y4)
  · cases h)

noncomputable def rd_A47_A47 : W → List (List W) → Option ((Int × Int) × (Int × Int))
  | .tup [.agg [.int .u64 x1, .int .u64 x2], .agg [.int .u64 x3, .int .u64 x4]], [] => some ⟨(x1, x2), (x3, x4)⟩
  | _, _ => none
noncomputable def wr_A47_A47 (x : (Int × Int) × (Int × Int)) : W := .tup [.agg [.int .u64 x.1.1, .int .u64 x.1.2], .agg [.int .u64 x.2.1, .int .u64 x.2.2]]
noncomputable def wo_A47_A47 (_x : (Int × Int) × (Int × Int)) : List (List W) := []
theorem rw_A47_A47 (v : W) (os : List (List W)) (x : (Int × Int) × (Int × Int)) (h : rd_A47_A47 v os = some x) : v = wr_A47_A47 x ∧ os = wo_A47_A47 x := by
  unfold rd_A47_A47 at h
  split at h <;> first | (cases h; exact ⟨rfl, rfl⟩) | cases h
theorem np_A47_A47 (x : (Int × Int) × (Int × Int)) : okv (fun _ => false) (wr_A47_A47 x) = true := rfl
theorem no_A47_A47 (x : (Int × Int) × (Int × Int)) : all (fun cs => all (ok0 fun _ => false) cs) (wo_A47_A47 x) = true := rfl

noncomputable def body24 : Code := (Tryd.f24.body).getD .skip
noncomputable def lb24_0 : Code := ((nth (loopsOf 0 body24) 0).getD (0, .skip)).2
noncomputable def px24_0 : List W → Option S.arith_bounds_L0
  | [.int .i64 y1, .ptr 6 0, .ptr 7 0, .ptr 8 0, .ptr 9 0, .int .i64 y2, .int .u64 y3, .int .u64 y4, .int .u64 y5, .int .u64 y6, .rowc 2 false (some 2) y7, .rowc 2 false (some 2) y8] => some ⟨y1, y2, y3, y4, y5, y6, y7, y8⟩
  | _ => none
noncomputable def tx24_0 (x : S.arith_bounds_L0) : List W := [.int .i64 x.op, .ptr 6 0, .ptr 7 0, .ptr 8 0, .ptr 9 0, .int .i64 x.t33, .int .u64 x.lo_0, .int .u64 x.lo_1, .int .u64 x.hi_0, .int .u64 x.hi_1, .rowc 2 false (some 2) x.l, .rowc 2 false (some 2) x.r]
noncomputable def py24_0 : Ex → List W → Option (S.arith_bounds_L0)
  | .exit 0, [.int .i64 y1, .ptr 6 0, .ptr 7 0, .ptr 8 0, .ptr 9 0, .int .i64 y2, .int .u64 y3, .int .u64 y4, .int .u64 y5, .int .u64 y6, .rowc 2 false (some 2) y7, .rowc 2 false (some 2) y8] => some ⟨y1, y2, y3, y4, y5, y6, y7, y8⟩
  | _, _ => none
noncomputable def ld24_0 : LD El where
  X := S.arith_bounds_L0
  Y := S.arith_bounds_L0
  keys := [.slot 0, .slot 6, .slot 7, .slot 8, .slot 9, .slot 33, .cell 6 0, .cell 6 1, .cell 7 0, .cell 7 1, .row 8, .row 9]
  fits := [31, 0, 0, 0, 0, 3, 24, 24, 24, 24, 0, 0]
  px := px24_0
  tx := tx24_0
  okeys := [.slot 0, .slot 6, .slot 7, .slot 8, .slot 9, .slot 33, .cell 6 0, .cell 6 1, .cell 7 0, .cell 7 1, .row 8, .row 9]
  ofits := [31, 0, 0, 0, 0, 3, 24, 24, 24, 24, 0, 0]
  py := py24_0
  ty := fun y => tx24_0 y
  oex := fun _ => .exit 0
  junk := [.slot 10, .slot 11, .slot 34, .slot 35, .slot 36, .slot 37, .slot 38, .slot 39, .slot 40, .slot 41, .slot 42, .slot 43, .slot 44, .slot 45, .slot 46, .slot 47, .slot 48, .slot 49, .slot 50, .slot 51, .slot 52, .slot 53, .slot 54]
  rows := []
noncomputable def lo24_0 : S.arith_bounds_L0 → Tr El := fun y => .leaf (.exit 0) (zipK ld24_0.okeys (tx24_0 y) ++ junkK ld24_0.junk)
noncomputable def loop24 : Nat → Env El → Tr El
  | 0 => ld24_0.tree c51 Tryd.f24.ntmps 0 lb24_0 S.arith_bounds_L0_run lo24_0 S.arith_bounds_L0_step S.arith_bounds_L0_vcs
  | _ => fun _ => .fail
theorem lok24_0 : ∀ w0 S0, LoopOk c51 Tryd.f24.ntmps w0 S0 loop24 0 lb24_0 :=
  loop_ok (c := c51) (n := Tryd.f24.ntmps) c51_ok mixed ld24_0 (body := lb24_0) (key := 0) (loop := loop24) (F := S.arith_bounds_L0_run) (out := lo24_0) (step := S.arith_bounds_L0_step) (vcs := S.arith_bounds_L0_vcs)
    (fun _ => by kernel_rfl) (no_loops (by kernel_rfl)) rfl rfl
    (fun vs x h => by unfold ld24_0 px24_0 at h; dsimp only at h; split at h <;> first | (cases h; rfl) | cases h)
    (fun e vs y h => by unfold ld24_0 py24_0 at h; dsimp only at h; split at h <;> first | (cases h; exact ⟨rfl, rfl⟩) | cases h)
    (by kernel_rfl) (fun _ => rfl) (fun _ _ h => h) (fun x => by kernel_rfl) (fun x h => Eq.mpr (show Vm.Tr.vc (Vm.ev c51 Tryd.f24.ntmps loop24 0 lb24_0 (ld24_0.vars x) []) = S.arith_bounds_L0_vcs x by kernel_rfl) h)
theorem fn24 (op : Int) (a : S.Value) (b : S.Value) (hp : S.arith_bounds_pre op a b) : CallOk c51 24 [.int .i64 op, .agg [.int .i64 a.I.Lo, .int .i64 a.I.Hi, .int .u64 a.C.M, .int .u64 a.C.R], .agg [.int .i64 b.I.Lo, .int .i64 b.I.Hi, .int .u64 b.C.M, .int .u64 b.C.R]] (wr_A47_A47 (S.arith_bounds op a b)) (wo_A47_A47 (S.arith_bounds op a b)) :=
  (call_ok (c := c51) (f := 24) (fn := Tryd.f24) (code := body24) (args := ([.int .i64 op, .agg [.int .i64 a.I.Lo, .int .i64 a.I.Hi, .int .u64 a.C.M, .int .u64 a.C.R], .agg [.int .i64 b.I.Lo, .int .i64 b.I.Hi, .int .u64 b.C.M, .int .u64 b.C.R]])) (loop := loop24) (md := ⟨false, false⟩) (rd := rd_A47_A47) (wr := wr_A47_A47) (wo := wo_A47_A47) (r := (S.arith_bounds op a b)) c51_ok (by kernel_rfl) (by kernel_rfl) (by kernel_rfl) (loops_all (l := [(0, lb24_0)]) (by kernel_rfl) ⟨lok24_0, trivial⟩) (by kernel_rfl) (by kernel_rfl) (by kernel_rfl)
    rw_A47_A47 np_A47_A47 no_A47_A47 (by kernel_rfl) (Eq.mpr (show Vm.Tr.vc (Vm.Fn c51 Tryd.f24 body24 loop24 ([.int .i64 op, .agg [.int .i64 a.I.Lo, .int .i64 a.I.Hi, .int .u64 a.C.M, .int .u64 a.C.R], .agg [.int .i64 b.I.Lo, .int .i64 b.I.Hi, .int .u64 b.C.M, .int .u64 b.C.R]])) = S.arith_bounds_pre op a b by kernel_rfl) hp))

noncomputable def sem24 : List W → Option (W × List (List W) × List Prop)
  | [.int .i64 y1, .agg [.int .i64 y2, .int .i64 y3, .int .u64 y4, .int .u64 y5], .agg [.int .i64 y6, .int .i64 y7, .int .u64 y8, .int .u64 y9]] => some (wr_A47_A47 (S.arith_bounds y1 (⟨(⟨y2, y3⟩ : S.Inter), (⟨y4, y5⟩ : S.Cong)⟩ : S.Value) (⟨(⟨y6, y7⟩ : S.Inter), (⟨y8, y9⟩ : S.Cong)⟩ : S.Value)), wo_A47_A47 (S.arith_bounds y1 (⟨(⟨y2, y3⟩ : S.Inter), (⟨y4, y5⟩ : S.Cong)⟩ : S.Value) (⟨(⟨y6, y7⟩ : S.Inter), (⟨y8, y9⟩ : S.Cong)⟩ : S.Value)), [S.arith_bounds_pre y1 (⟨(⟨y2, y3⟩ : S.Inter), (⟨y4, y5⟩ : S.Cong)⟩ : S.Value) (⟨(⟨y6, y7⟩ : S.Inter), (⟨y8, y9⟩ : S.Cong)⟩ : S.Value)])
  | _ => none
noncomputable def c24 : Cfg El := c51.add 24 sem24
theorem c24_ok : CfgOk c24 := c51_ok.add (fun args w => Tryd.call24 args w) (fun vs r outs ps h hp => by
  unfold sem24 at h
  split at h
  · rename_i y1 y2 y3 y4 y5 y6 y7 y8 y9; cases h; exact fn24 y1 (⟨(⟨y2, y3⟩ : S.Inter), (⟨y4, y5⟩ : S.Cong)⟩ : S.Value) (⟨(⟨y6, y7⟩ : S.Inter), (⟨y8, y9⟩ : S.Cong)⟩ : S.Value) hp
  · cases h)

noncomputable def body76 : Code := (Tryd.f76.body).getD .skip
noncomputable def lb76_0 : Code := ((nth (loopsOf 0 body76) 0).getD (0, .skip)).2
noncomputable def px76_0 : List W → Option S.cong_gcd_L0
  | [.int .u64 y1, .int .u64 y2] => some ⟨y1, y2⟩
  | _ => none
noncomputable def tx76_0 (x : S.cong_gcd_L0) : List W := [.int .u64 x.a, .int .u64 x.b]
noncomputable def py76_0 : Ex → List W → Option (S.cong_gcd_L0)
  | .exit 0, [.int .u64 y1, .int .u64 y2] => some ⟨y1, y2⟩
  | _, _ => none
noncomputable def ld76_0 : LD El where
  X := S.cong_gcd_L0
  Y := S.cong_gcd_L0
  keys := [.slot 0, .slot 1]
  fits := [24, 24]
  px := px76_0
  tx := tx76_0
  okeys := [.slot 0, .slot 1]
  ofits := [24, 24]
  py := py76_0
  ty := fun y => tx76_0 y
  oex := fun _ => .exit 0
  junk := [.slot 5, .slot 6, .slot 7, .slot 8, .slot 9, .slot 10]
  rows := []
noncomputable def lo76_0 : S.cong_gcd_L0 → Tr El := fun y => .leaf (.exit 0) (zipK ld76_0.okeys (tx76_0 y) ++ junkK ld76_0.junk)
noncomputable def loop76 : Nat → Env El → Tr El
  | 0 => ld76_0.tree c24 Tryd.f76.ntmps 0 lb76_0 S.cong_gcd_L0_run lo76_0 S.cong_gcd_L0_step S.cong_gcd_L0_vcs
  | _ => fun _ => .fail
theorem lok76_0 : ∀ w0 S0, LoopOk c24 Tryd.f76.ntmps w0 S0 loop76 0 lb76_0 :=
  loop_ok (c := c24) (n := Tryd.f76.ntmps) c24_ok mixed ld76_0 (body := lb76_0) (key := 0) (loop := loop76) (F := S.cong_gcd_L0_run) (out := lo76_0) (step := S.cong_gcd_L0_step) (vcs := S.cong_gcd_L0_vcs)
    (fun _ => by kernel_rfl) (no_loops (by kernel_rfl)) rfl rfl
    (fun vs x h => by unfold ld76_0 px76_0 at h; dsimp only at h; split at h <;> first | (cases h; rfl) | cases h)
    (fun e vs y h => by unfold ld76_0 py76_0 at h; dsimp only at h; split at h <;> first | (cases h; exact ⟨rfl, rfl⟩) | cases h)
    (by kernel_rfl) (fun _ => rfl) (fun _ _ h => h) (fun x => by kernel_rfl) (fun x h => Eq.mpr (show Vm.Tr.vc (Vm.ev c24 Tryd.f76.ntmps loop76 0 lb76_0 (ld76_0.vars x) []) = S.cong_gcd_L0_vcs x by kernel_rfl) h)
theorem fn76 (a : Int) (b : Int) (hp : S.cong_gcd_pre a b) : CallOk c24 76 [.int .u64 a, .int .u64 b] (wr_u64 (S.cong_gcd a b)) (wo_u64 (S.cong_gcd a b)) :=
  (call_ok (c := c24) (f := 76) (fn := Tryd.f76) (code := body76) (args := ([.int .u64 a, .int .u64 b])) (loop := loop76) (md := ⟨false, false⟩) (rd := rd_u64) (wr := wr_u64) (wo := wo_u64) (r := (S.cong_gcd a b)) c24_ok (by kernel_rfl) (by kernel_rfl) (by kernel_rfl) (loops_all (l := [(0, lb76_0)]) (by kernel_rfl) ⟨lok76_0, trivial⟩) (by kernel_rfl) (by kernel_rfl) (by kernel_rfl)
    rw_u64 np_u64 no_u64 (by kernel_rfl) (Eq.mpr (show Vm.Tr.vc (Vm.Fn c24 Tryd.f76 body76 loop76 ([.int .u64 a, .int .u64 b])) = S.cong_gcd_pre a b by kernel_rfl) hp))

noncomputable def sem76 : List W → Option (W × List (List W) × List Prop)
  | [.int .u64 y1, .int .u64 y2] => some (wr_u64 (S.cong_gcd y1 y2), wo_u64 (S.cong_gcd y1 y2), [S.cong_gcd_pre y1 y2])
  | _ => none
noncomputable def c76 : Cfg El := c24.add 76 sem76
theorem c76_ok : CfgOk c76 := c24_ok.add (fun args w => Tryd.call76 args w) (fun vs r outs ps h hp => by
  unfold sem76 at h
  split at h
  · rename_i y1 y2; cases h; exact fn76 y1 y2 hp
  · cases h)

noncomputable def body77 : Code := (Tryd.f77.body).getD .skip
theorem fn77 (c : S.Cong) (g : Int) (hp : S.cong_Cong_by_pre c g) : CallOk c76 77 [.agg [.int .u64 c.M, .int .u64 c.R], .int .u64 g] (wr_u64 (S.cong_Cong_by c g)) (wo_u64 (S.cong_Cong_by c g)) :=
  (call_ok (c := c76) (f := 77) (fn := Tryd.f77) (code := body77) (args := ([.agg [.int .u64 c.M, .int .u64 c.R], .int .u64 g])) (loop := noLoop) (md := ⟨false, false⟩) (rd := rd_u64) (wr := wr_u64) (wo := wo_u64) (r := (S.cong_Cong_by c g)) c76_ok (by kernel_rfl) (by kernel_rfl) (by kernel_rfl) (no_loops (by kernel_rfl)) (by kernel_rfl) (by kernel_rfl) (by kernel_rfl)
    rw_u64 np_u64 no_u64 (by kernel_rfl) (Eq.mpr (show Vm.Tr.vc (Vm.Fn c76 Tryd.f77 body77 noLoop ([.agg [.int .u64 c.M, .int .u64 c.R], .int .u64 g])) = S.cong_Cong_by_pre c g by kernel_rfl) hp))

noncomputable def sem77 : List W → Option (W × List (List W) × List Prop)
  | [.agg [.int .u64 y1, .int .u64 y2], .int .u64 y3] => some (wr_u64 (S.cong_Cong_by (⟨y1, y2⟩ : S.Cong) y3), wo_u64 (S.cong_Cong_by (⟨y1, y2⟩ : S.Cong) y3), [S.cong_Cong_by_pre (⟨y1, y2⟩ : S.Cong) y3])
  | _ => none
noncomputable def c77 : Cfg El := c76.add 77 sem77
theorem c77_ok : CfgOk c77 := c76_ok.add (fun args w => Tryd.call77 args w) (fun vs r outs ps h hp => by
  unfold sem77 at h
  split at h
  · rename_i y1 y2 y3; cases h; exact fn77 (⟨y1, y2⟩ : S.Cong) y3 hp
  · cases h)

noncomputable def body52 : Code := (Tryd.f52.body).getD .skip
theorem fn52 (a : S.Cong) (b : S.Cong) (hp : S.cong_Add_pre a b) : CallOk c77 52 [.agg [.int .u64 a.M, .int .u64 a.R], .agg [.int .u64 b.M, .int .u64 b.R]] (wr_S25 (S.cong_Add a b)) (wo_S25 (S.cong_Add a b)) :=
  (call_ok (c := c77) (f := 52) (fn := Tryd.f52) (code := body52) (args := ([.agg [.int .u64 a.M, .int .u64 a.R], .agg [.int .u64 b.M, .int .u64 b.R]])) (loop := noLoop) (md := ⟨false, false⟩) (rd := rd_S25) (wr := wr_S25) (wo := wo_S25) (r := (S.cong_Add a b)) c77_ok (by kernel_rfl) (by kernel_rfl) (by kernel_rfl) (no_loops (by kernel_rfl)) (by kernel_rfl) (by kernel_rfl) (by kernel_rfl)
    rw_S25 np_S25 no_S25 (by kernel_rfl) (Eq.mpr (show Vm.Tr.vc (Vm.Fn c77 Tryd.f52 body52 noLoop ([.agg [.int .u64 a.M, .int .u64 a.R], .agg [.int .u64 b.M, .int .u64 b.R]])) = S.cong_Add_pre a b by kernel_rfl) hp))

noncomputable def sem52 : List W → Option (W × List (List W) × List Prop)
  | [.agg [.int .u64 y1, .int .u64 y2], .agg [.int .u64 y3, .int .u64 y4]] => some (wr_S25 (S.cong_Add (⟨y1, y2⟩ : S.Cong) (⟨y3, y4⟩ : S.Cong)), wo_S25 (S.cong_Add (⟨y1, y2⟩ : S.Cong) (⟨y3, y4⟩ : S.Cong)), [S.cong_Add_pre (⟨y1, y2⟩ : S.Cong) (⟨y3, y4⟩ : S.Cong)])
  | _ => none
noncomputable def c52 : Cfg El := c77.add 52 sem52
theorem c52_ok : CfgOk c52 := c77_ok.add (fun args w => Tryd.call52 args w) (fun vs r outs ps h hp => by
  unfold sem52 at h
  split at h
  · rename_i y1 y2 y3 y4; cases h; exact fn52 (⟨y1, y2⟩ : S.Cong) (⟨y3, y4⟩ : S.Cong) hp
  · cases h)

noncomputable def body53 : Code := (Tryd.f53.body).getD .skip
theorem fn53 (a : S.Cong) (b : S.Cong) (hp : S.cong_Sub_pre a b) : CallOk c52 53 [.agg [.int .u64 a.M, .int .u64 a.R], .agg [.int .u64 b.M, .int .u64 b.R]] (wr_S25 (S.cong_Sub a b)) (wo_S25 (S.cong_Sub a b)) :=
  (call_ok (c := c52) (f := 53) (fn := Tryd.f53) (code := body53) (args := ([.agg [.int .u64 a.M, .int .u64 a.R], .agg [.int .u64 b.M, .int .u64 b.R]])) (loop := noLoop) (md := ⟨false, false⟩) (rd := rd_S25) (wr := wr_S25) (wo := wo_S25) (r := (S.cong_Sub a b)) c52_ok (by kernel_rfl) (by kernel_rfl) (by kernel_rfl) (no_loops (by kernel_rfl)) (by kernel_rfl) (by kernel_rfl) (by kernel_rfl)
    rw_S25 np_S25 no_S25 (by kernel_rfl) (Eq.mpr (show Vm.Tr.vc (Vm.Fn c52 Tryd.f53 body53 noLoop ([.agg [.int .u64 a.M, .int .u64 a.R], .agg [.int .u64 b.M, .int .u64 b.R]])) = S.cong_Sub_pre a b by kernel_rfl) hp))

noncomputable def sem53 : List W → Option (W × List (List W) × List Prop)
  | [.agg [.int .u64 y1, .int .u64 y2], .agg [.int .u64 y3, .int .u64 y4]] => some (wr_S25 (S.cong_Sub (⟨y1, y2⟩ : S.Cong) (⟨y3, y4⟩ : S.Cong)), wo_S25 (S.cong_Sub (⟨y1, y2⟩ : S.Cong) (⟨y3, y4⟩ : S.Cong)), [S.cong_Sub_pre (⟨y1, y2⟩ : S.Cong) (⟨y3, y4⟩ : S.Cong)])
  | _ => none
noncomputable def c53 : Cfg El := c52.add 53 sem53
theorem c53_ok : CfgOk c53 := c52_ok.add (fun args w => Tryd.call53 args w) (fun vs r outs ps h hp => by
  unfold sem53 at h
  split at h
  · rename_i y1 y2 y3 y4; cases h; exact fn53 (⟨y1, y2⟩ : S.Cong) (⟨y3, y4⟩ : S.Cong) hp
  · cases h)

noncomputable def rd_u64_b : W → List (List W) → Option (Int × Bool)
  | .tup [.int .u64 x1, .bool x2], [] => some ⟨x1, x2⟩
  | _, _ => none
noncomputable def wr_u64_b (x : Int × Bool) : W := .tup [.int .u64 x.1, .bool x.2]
noncomputable def wo_u64_b (_x : Int × Bool) : List (List W) := []
theorem rw_u64_b (v : W) (os : List (List W)) (x : Int × Bool) (h : rd_u64_b v os = some x) : v = wr_u64_b x ∧ os = wo_u64_b x := by
  unfold rd_u64_b at h
  split at h <;> first | (cases h; exact ⟨rfl, rfl⟩) | cases h
theorem np_u64_b (x : Int × Bool) : okv (fun _ => false) (wr_u64_b x) = true := rfl
theorem no_u64_b (x : Int × Bool) : all (fun cs => all (ok0 fun _ => false) cs) (wo_u64_b x) = true := rfl

noncomputable def body79 : Code := (Tryd.f79.body).getD .skip
theorem fn79 (a : Int) (b : Int) : CallOk c53 79 [.int .u64 a, .int .u64 b] (wr_u64_b (S.cong_fits a b)) (wo_u64_b (S.cong_fits a b)) :=
  (call_ok (c := c53) (f := 79) (fn := Tryd.f79) (code := body79) (args := ([.int .u64 a, .int .u64 b])) (loop := noLoop) (md := ⟨false, false⟩) (rd := rd_u64_b) (wr := wr_u64_b) (wo := wo_u64_b) (r := (S.cong_fits a b)) c53_ok (by kernel_rfl) (by kernel_rfl) (by kernel_rfl) (no_loops (by kernel_rfl)) (by kernel_rfl) (by kernel_rfl) (by kernel_rfl)
    rw_u64_b np_u64_b no_u64_b (by kernel_rfl) (Tr.vc_of_noReq (by kernel_rfl)))

noncomputable def sem79 : List W → Option (W × List (List W) × List Prop)
  | [.int .u64 y1, .int .u64 y2] => some (wr_u64_b (S.cong_fits y1 y2), wo_u64_b (S.cong_fits y1 y2), [])
  | _ => none
noncomputable def c79 : Cfg El := c53.add 79 sem79
theorem c79_ok : CfgOk c79 := c53_ok.add (fun args w => Tryd.call79 args w) (fun vs r outs ps h hp => by
  unfold sem79 at h
  split at h
  · rename_i y1 y2; cases h; exact fn79 y1 y2
  · cases h)

noncomputable def body93 : Code := (Tryd.f93.body).getD .skip
theorem fn93 (x : Int) (hp : S.math_bits_Len64_pre x) : CallOk c79 93 [.int .u64 x] (wr_i64 (S.math_bits_Len64 x)) (wo_i64 (S.math_bits_Len64 x)) :=
  (call_ok (c := c79) (f := 93) (fn := Tryd.f93) (code := body93) (args := ([.int .u64 x])) (loop := noLoop) (md := ⟨false, false⟩) (rd := rd_i64) (wr := wr_i64) (wo := wo_i64) (r := (S.math_bits_Len64 x)) c79_ok (by kernel_rfl) (by kernel_rfl) (by kernel_rfl) (no_loops (by kernel_rfl)) (by kernel_rfl) (by kernel_rfl) (by kernel_rfl)
    rw_i64 np_i64 no_i64 (by kernel_rfl) (Eq.mpr (show Vm.Tr.vc (Vm.Fn c79 Tryd.f93 body93 noLoop ([.int .u64 x])) = S.math_bits_Len64_pre x by kernel_rfl) hp))

noncomputable def sem93 : List W → Option (W × List (List W) × List Prop)
  | [.int .u64 y1] => some (wr_i64 (S.math_bits_Len64 y1), wo_i64 (S.math_bits_Len64 y1), [S.math_bits_Len64_pre y1])
  | _ => none
noncomputable def c93 : Cfg El := c79.add 93 sem93
theorem c93_ok : CfgOk c93 := c79_ok.add (fun args w => Tryd.call93 args w) (fun vs r outs ps h hp => by
  unfold sem93 at h
  split at h
  · rename_i y1; cases h; exact fn93 y1 hp
  · cases h)

noncomputable def body97 : Code := (Tryd.f97.body).getD .skip
theorem fn97 (x : Int) (hp : S.math_bits_LeadingZeros64_pre x) : CallOk c93 97 [.int .u64 x] (wr_i64 (S.math_bits_LeadingZeros64 x)) (wo_i64 (S.math_bits_LeadingZeros64 x)) :=
  (call_ok (c := c93) (f := 97) (fn := Tryd.f97) (code := body97) (args := ([.int .u64 x])) (loop := noLoop) (md := ⟨false, false⟩) (rd := rd_i64) (wr := wr_i64) (wo := wo_i64) (r := (S.math_bits_LeadingZeros64 x)) c93_ok (by kernel_rfl) (by kernel_rfl) (by kernel_rfl) (no_loops (by kernel_rfl)) (by kernel_rfl) (by kernel_rfl) (by kernel_rfl)
    rw_i64 np_i64 no_i64 (by kernel_rfl) (Eq.mpr (show Vm.Tr.vc (Vm.Fn c93 Tryd.f97 body97 noLoop ([.int .u64 x])) = S.math_bits_LeadingZeros64_pre x by kernel_rfl) hp))

noncomputable def sem97 : List W → Option (W × List (List W) × List Prop)
  | [.int .u64 y1] => some (wr_i64 (S.math_bits_LeadingZeros64 y1), wo_i64 (S.math_bits_LeadingZeros64 y1), [S.math_bits_LeadingZeros64_pre y1])
  | _ => none
noncomputable def c97 : Cfg El := c93.add 97 sem97
theorem c97_ok : CfgOk c97 := c93_ok.add (fun args w => Tryd.call97 args w) (fun vs r outs ps h hp => by
  unfold sem97 at h
  split at h
  · rename_i y1; cases h; exact fn97 y1 hp
  · cases h)

noncomputable def body91 : Code := (Tryd.f91.body).getD .skip
noncomputable def lb91_0 : Code := ((nth (loopsOf 0 body91) 0).getD (0, .skip)).2
noncomputable def px91_0 : List W → Option S.math_bits_Div64_L0
  | [.int .u64 y1, .int .u64 y2, .int .u64 y3, .int .u64 y4, .int .u64 y5] => some ⟨y1, y2, y3, y4, y5⟩
  | _ => none
noncomputable def tx91_0 (x : S.math_bits_Div64_L0) : List W := [.int .u64 x.yn1, .int .u64 x.yn0, .int .u64 x.un1, .int .u64 x.q1, .int .u64 x.rhat]
noncomputable def py91_0 : Ex → List W → Option (S.math_bits_Div64_L0)
  | .exit 0, [.int .u64 y1, .int .u64 y2, .int .u64 y3, .int .u64 y4, .int .u64 y5] => some ⟨y1, y2, y3, y4, y5⟩
  | _, _ => none
noncomputable def ld91_0 : LD El where
  X := S.math_bits_Div64_L0
  Y := S.math_bits_Div64_L0
  keys := [.slot 9, .slot 10, .slot 13, .slot 15, .slot 16]
  fits := [24, 24, 24, 24, 24]
  px := px91_0
  tx := tx91_0
  okeys := [.slot 9, .slot 10, .slot 13, .slot 15, .slot 16]
  ofits := [24, 24, 24, 24, 24]
  py := py91_0
  ty := fun y => tx91_0 y
  oex := fun _ => .exit 0
  junk := [.slot 67, .slot 68, .slot 69, .slot 70, .slot 71, .slot 72, .slot 73, .slot 74, .slot 75, .slot 76, .slot 77, .slot 78, .slot 79, .slot 80, .slot 81, .slot 82, .slot 83, .slot 84, .slot 85]
  rows := []
noncomputable def lo91_0 : S.math_bits_Div64_L0 → Tr El := fun y => .leaf (.exit 0) (zipK ld91_0.okeys (tx91_0 y) ++ junkK ld91_0.junk)
noncomputable def lb91_2 : Code := ((nth (loopsOf 0 body91) 1).getD (0, .skip)).2
noncomputable def px91_2 : List W → Option S.math_bits_Div64_L2
  | [.int .u64 y1, .int .u64 y2, .int .u64 y3, .int .u64 y4, .int .u64 y5] => some ⟨y1, y2, y3, y4, y5⟩
  | _ => none
noncomputable def tx91_2 (x : S.math_bits_Div64_L2) : List W := [.int .u64 x.yn1, .int .u64 x.yn0, .int .u64 x.un0, .int .u64 x.rhat, .int .u64 x.q0]
noncomputable def py91_2 : Ex → List W → Option (S.math_bits_Div64_L2)
  | .exit 2, [.int .u64 y1, .int .u64 y2, .int .u64 y3, .int .u64 y4, .int .u64 y5] => some ⟨y1, y2, y3, y4, y5⟩
  | _, _ => none
noncomputable def ld91_2 : LD El where
  X := S.math_bits_Div64_L2
  Y := S.math_bits_Div64_L2
  keys := [.slot 9, .slot 10, .slot 14, .slot 16, .slot 18]
  fits := [24, 24, 24, 24, 24]
  px := px91_2
  tx := tx91_2
  okeys := [.slot 9, .slot 10, .slot 14, .slot 16, .slot 18]
  ofits := [24, 24, 24, 24, 24]
  py := py91_2
  ty := fun y => tx91_2 y
  oex := fun _ => .exit 2
  junk := [.slot 102, .slot 103, .slot 104, .slot 105, .slot 106, .slot 107, .slot 108, .slot 109, .slot 110, .slot 111, .slot 112, .slot 113, .slot 114, .slot 115, .slot 116, .slot 117, .slot 118, .slot 119, .slot 120]
  rows := []
noncomputable def lo91_2 : S.math_bits_Div64_L2 → Tr El := fun y => .leaf (.exit 2) (zipK ld91_2.okeys (tx91_2 y) ++ junkK ld91_2.junk)
noncomputable def loop91 : Nat → Env El → Tr El
  | 0 => ld91_0.tree c97 Tryd.f91.ntmps 0 lb91_0 S.math_bits_Div64_L0_run lo91_0 S.math_bits_Div64_L0_step S.math_bits_Div64_L0_vcs
  | 2 => ld91_2.tree c97 Tryd.f91.ntmps 2 lb91_2 S.math_bits_Div64_L2_run lo91_2 S.math_bits_Div64_L2_step S.math_bits_Div64_L2_vcs
  | _ => fun _ => .fail
theorem lok91_2 : ∀ w0 S0, LoopOk c97 Tryd.f91.ntmps w0 S0 loop91 2 lb91_2 :=
  loop_ok (c := c97) (n := Tryd.f91.ntmps) c97_ok mixed ld91_2 (body := lb91_2) (key := 2) (loop := loop91) (F := S.math_bits_Div64_L2_run) (out := lo91_2) (step := S.math_bits_Div64_L2_step) (vcs := S.math_bits_Div64_L2_vcs)
    (fun _ => by kernel_rfl) (no_loops (by kernel_rfl)) rfl rfl
    (fun vs x h => by unfold ld91_2 px91_2 at h; dsimp only at h; split at h <;> first | (cases h; rfl) | cases h)
    (fun e vs y h => by unfold ld91_2 py91_2 at h; dsimp only at h; split at h <;> first | (cases h; exact ⟨rfl, rfl⟩) | cases h)
    (by kernel_rfl) (fun _ => rfl) (fun _ _ h => h) (fun x => by kernel_rfl) (fun _ _ => Tr.vc_of_noReq (by kernel_rfl))
theorem lok91_0 : ∀ w0 S0, LoopOk c97 Tryd.f91.ntmps w0 S0 loop91 0 lb91_0 :=
  loop_ok (c := c97) (n := Tryd.f91.ntmps) c97_ok mixed ld91_0 (body := lb91_0) (key := 0) (loop := loop91) (F := S.math_bits_Div64_L0_run) (out := lo91_0) (step := S.math_bits_Div64_L0_step) (vcs := S.math_bits_Div64_L0_vcs)
    (fun _ => by kernel_rfl) (no_loops (by kernel_rfl)) rfl rfl
    (fun vs x h => by unfold ld91_0 px91_0 at h; dsimp only at h; split at h <;> first | (cases h; rfl) | cases h)
    (fun e vs y h => by unfold ld91_0 py91_0 at h; dsimp only at h; split at h <;> first | (cases h; exact ⟨rfl, rfl⟩) | cases h)
    (by kernel_rfl) (fun _ => rfl) (fun _ _ h => h) (fun x => by kernel_rfl) (fun _ _ => Tr.vc_of_noReq (by kernel_rfl))
theorem fn91 (hi : Int) (lo : Int) (y : Int) (hp : S.math_bits_Div64_pre hi lo y) : CallOk c97 91 [.int .u64 hi, .int .u64 lo, .int .u64 y] (wr_u64_u64 (S.math_bits_Div64 hi lo y)) (wo_u64_u64 (S.math_bits_Div64 hi lo y)) :=
  (call_ok (c := c97) (f := 91) (fn := Tryd.f91) (code := body91) (args := ([.int .u64 hi, .int .u64 lo, .int .u64 y])) (loop := loop91) (md := ⟨false, false⟩) (rd := rd_u64_u64) (wr := wr_u64_u64) (wo := wo_u64_u64) (r := (S.math_bits_Div64 hi lo y)) c97_ok (by kernel_rfl) (by kernel_rfl) (by kernel_rfl) (loops_all (l := [(0, lb91_0), (2, lb91_2)]) (by kernel_rfl) ⟨lok91_0, ⟨lok91_2, trivial⟩⟩) (by kernel_rfl) (by kernel_rfl) (by kernel_rfl)
    rw_u64_u64 np_u64_u64 no_u64_u64 (by kernel_rfl) (Eq.mpr (show Vm.Tr.vc (Vm.Fn c97 Tryd.f91 body91 loop91 ([.int .u64 hi, .int .u64 lo, .int .u64 y])) = S.math_bits_Div64_pre hi lo y by kernel_rfl) hp))

noncomputable def sem91 : List W → Option (W × List (List W) × List Prop)
  | [.int .u64 y1, .int .u64 y2, .int .u64 y3] => some (wr_u64_u64 (S.math_bits_Div64 y1 y2 y3), wo_u64_u64 (S.math_bits_Div64 y1 y2 y3), [S.math_bits_Div64_pre y1 y2 y3])
  | _ => none
noncomputable def c91 : Cfg El := c97.add 91 sem91
theorem c91_ok : CfgOk c91 := c97_ok.add (fun args w => Tryd.call91 args w) (fun vs r outs ps h hp => by
  unfold sem91 at h
  split at h
  · rename_i y1 y2 y3; cases h; exact fn91 y1 y2 y3 hp
  · cases h)

noncomputable def body86 : Code := (Tryd.f86.body).getD .skip
theorem fn86 (hi : Int) (lo : Int) (y : Int) (hp : S.math_bits_Rem64_pre hi lo y) : CallOk c91 86 [.int .u64 hi, .int .u64 lo, .int .u64 y] (wr_u64 (S.math_bits_Rem64 hi lo y)) (wo_u64 (S.math_bits_Rem64 hi lo y)) :=
  (call_ok (c := c91) (f := 86) (fn := Tryd.f86) (code := body86) (args := ([.int .u64 hi, .int .u64 lo, .int .u64 y])) (loop := noLoop) (md := ⟨false, false⟩) (rd := rd_u64) (wr := wr_u64) (wo := wo_u64) (r := (S.math_bits_Rem64 hi lo y)) c91_ok (by kernel_rfl) (by kernel_rfl) (by kernel_rfl) (no_loops (by kernel_rfl)) (by kernel_rfl) (by kernel_rfl) (by kernel_rfl)
    rw_u64 np_u64 no_u64 (by kernel_rfl) (Eq.mpr (show Vm.Tr.vc (Vm.Fn c91 Tryd.f86 body86 noLoop ([.int .u64 hi, .int .u64 lo, .int .u64 y])) = S.math_bits_Rem64_pre hi lo y by kernel_rfl) hp))

noncomputable def sem86 : List W → Option (W × List (List W) × List Prop)
  | [.int .u64 y1, .int .u64 y2, .int .u64 y3] => some (wr_u64 (S.math_bits_Rem64 y1 y2 y3), wo_u64 (S.math_bits_Rem64 y1 y2 y3), [S.math_bits_Rem64_pre y1 y2 y3])
  | _ => none
noncomputable def c86 : Cfg El := c91.add 86 sem86
theorem c86_ok : CfgOk c86 := c91_ok.add (fun args w => Tryd.call86 args w) (fun vs r outs ps h hp => by
  unfold sem86 at h
  split at h
  · rename_i y1 y2 y3; cases h; exact fn86 y1 y2 y3 hp
  · cases h)

noncomputable def body80 : Code := (Tryd.f80.body).getD .skip
theorem fn80 (a : Int) (b : Int) (m : Int) (hp : S.cong_times_pre a b m) : CallOk c86 80 [.int .u64 a, .int .u64 b, .int .u64 m] (wr_u64 (S.cong_times a b m)) (wo_u64 (S.cong_times a b m)) :=
  (call_ok (c := c86) (f := 80) (fn := Tryd.f80) (code := body80) (args := ([.int .u64 a, .int .u64 b, .int .u64 m])) (loop := noLoop) (md := ⟨false, false⟩) (rd := rd_u64) (wr := wr_u64) (wo := wo_u64) (r := (S.cong_times a b m)) c86_ok (by kernel_rfl) (by kernel_rfl) (by kernel_rfl) (no_loops (by kernel_rfl)) (by kernel_rfl) (by kernel_rfl) (by kernel_rfl)
    rw_u64 np_u64 no_u64 (by kernel_rfl) (Eq.mpr (show Vm.Tr.vc (Vm.Fn c86 Tryd.f80 body80 noLoop ([.int .u64 a, .int .u64 b, .int .u64 m])) = S.cong_times_pre a b m by kernel_rfl) hp))

noncomputable def sem80 : List W → Option (W × List (List W) × List Prop)
  | [.int .u64 y1, .int .u64 y2, .int .u64 y3] => some (wr_u64 (S.cong_times y1 y2 y3), wo_u64 (S.cong_times y1 y2 y3), [S.cong_times_pre y1 y2 y3])
  | _ => none
noncomputable def c80 : Cfg El := c86.add 80 sem80
theorem c80_ok : CfgOk c80 := c86_ok.add (fun args w => Tryd.call80 args w) (fun vs r outs ps h hp => by
  unfold sem80 at h
  split at h
  · rename_i y1 y2 y3; cases h; exact fn80 y1 y2 y3 hp
  · cases h)

noncomputable def body78 : Code := (Tryd.f78.body).getD .skip
theorem fn78 (c : S.Cong) (n : Int) (hp : S.cong_Cong_scaled_pre c n) : CallOk c80 78 [.agg [.int .u64 c.M, .int .u64 c.R], .int .i64 n] (wr_S25 (S.cong_Cong_scaled c n)) (wo_S25 (S.cong_Cong_scaled c n)) :=
  (call_ok (c := c80) (f := 78) (fn := Tryd.f78) (code := body78) (args := ([.agg [.int .u64 c.M, .int .u64 c.R], .int .i64 n])) (loop := noLoop) (md := ⟨false, false⟩) (rd := rd_S25) (wr := wr_S25) (wo := wo_S25) (r := (S.cong_Cong_scaled c n)) c80_ok (by kernel_rfl) (by kernel_rfl) (by kernel_rfl) (no_loops (by kernel_rfl)) (by kernel_rfl) (by kernel_rfl) (by kernel_rfl)
    rw_S25 np_S25 no_S25 (by kernel_rfl) (Eq.mpr (show Vm.Tr.vc (Vm.Fn c80 Tryd.f78 body78 noLoop ([.agg [.int .u64 c.M, .int .u64 c.R], .int .i64 n])) = S.cong_Cong_scaled_pre c n by kernel_rfl) hp))

noncomputable def sem78 : List W → Option (W × List (List W) × List Prop)
  | [.agg [.int .u64 y1, .int .u64 y2], .int .i64 y3] => some (wr_S25 (S.cong_Cong_scaled (⟨y1, y2⟩ : S.Cong) y3), wo_S25 (S.cong_Cong_scaled (⟨y1, y2⟩ : S.Cong) y3), [S.cong_Cong_scaled_pre (⟨y1, y2⟩ : S.Cong) y3])
  | _ => none
noncomputable def c78 : Cfg El := c80.add 78 sem78
theorem c78_ok : CfgOk c78 := c80_ok.add (fun args w => Tryd.call78 args w) (fun vs r outs ps h hp => by
  unfold sem78 at h
  split at h
  · rename_i y1 y2 y3; cases h; exact fn78 (⟨y1, y2⟩ : S.Cong) y3 hp
  · cases h)

noncomputable def body54 : Code := (Tryd.f54.body).getD .skip
theorem fn54 (a : S.Cong) (b : S.Cong) (hp : S.cong_Mul_pre a b) : CallOk c78 54 [.agg [.int .u64 a.M, .int .u64 a.R], .agg [.int .u64 b.M, .int .u64 b.R]] (wr_S25 (S.cong_Mul a b)) (wo_S25 (S.cong_Mul a b)) :=
  (call_ok (c := c78) (f := 54) (fn := Tryd.f54) (code := body54) (args := ([.agg [.int .u64 a.M, .int .u64 a.R], .agg [.int .u64 b.M, .int .u64 b.R]])) (loop := noLoop) (md := ⟨false, false⟩) (rd := rd_S25) (wr := wr_S25) (wo := wo_S25) (r := (S.cong_Mul a b)) c78_ok (by kernel_rfl) (by kernel_rfl) (by kernel_rfl) (no_loops (by kernel_rfl)) (by kernel_rfl) (by kernel_rfl) (by kernel_rfl)
    rw_S25 np_S25 no_S25 (by kernel_rfl) (Eq.mpr (show Vm.Tr.vc (Vm.Fn c78 Tryd.f54 body54 noLoop ([.agg [.int .u64 a.M, .int .u64 a.R], .agg [.int .u64 b.M, .int .u64 b.R]])) = S.cong_Mul_pre a b by kernel_rfl) hp))

noncomputable def sem54 : List W → Option (W × List (List W) × List Prop)
  | [.agg [.int .u64 y1, .int .u64 y2], .agg [.int .u64 y3, .int .u64 y4]] => some (wr_S25 (S.cong_Mul (⟨y1, y2⟩ : S.Cong) (⟨y3, y4⟩ : S.Cong)), wo_S25 (S.cong_Mul (⟨y1, y2⟩ : S.Cong) (⟨y3, y4⟩ : S.Cong)), [S.cong_Mul_pre (⟨y1, y2⟩ : S.Cong) (⟨y3, y4⟩ : S.Cong)])
  | _ => none
noncomputable def c54 : Cfg El := c78.add 54 sem54
theorem c54_ok : CfgOk c54 := c78_ok.add (fun args w => Tryd.call54 args w) (fun vs r outs ps h hp => by
  unfold sem54 at h
  split at h
  · rename_i y1 y2 y3 y4; cases h; exact fn54 (⟨y1, y2⟩ : S.Cong) (⟨y3, y4⟩ : S.Cong) hp
  · cases h)

noncomputable def body25 : Code := (Tryd.f25.body).getD .skip
theorem fn25 (op : Int) (a : S.Cong) (b : S.Cong) (hp : S.arith_congruence_pre op a b) : CallOk c54 25 [.int .i64 op, .agg [.int .u64 a.M, .int .u64 a.R], .agg [.int .u64 b.M, .int .u64 b.R]] (wr_S25 (S.arith_congruence op a b)) (wo_S25 (S.arith_congruence op a b)) :=
  (call_ok (c := c54) (f := 25) (fn := Tryd.f25) (code := body25) (args := ([.int .i64 op, .agg [.int .u64 a.M, .int .u64 a.R], .agg [.int .u64 b.M, .int .u64 b.R]])) (loop := noLoop) (md := ⟨false, false⟩) (rd := rd_S25) (wr := wr_S25) (wo := wo_S25) (r := (S.arith_congruence op a b)) c54_ok (by kernel_rfl) (by kernel_rfl) (by kernel_rfl) (no_loops (by kernel_rfl)) (by kernel_rfl) (by kernel_rfl) (by kernel_rfl)
    rw_S25 np_S25 no_S25 (by kernel_rfl) (Eq.mpr (show Vm.Tr.vc (Vm.Fn c54 Tryd.f25 body25 noLoop ([.int .i64 op, .agg [.int .u64 a.M, .int .u64 a.R], .agg [.int .u64 b.M, .int .u64 b.R]])) = S.arith_congruence_pre op a b by kernel_rfl) hp))

noncomputable def sem25 : List W → Option (W × List (List W) × List Prop)
  | [.int .i64 y1, .agg [.int .u64 y2, .int .u64 y3], .agg [.int .u64 y4, .int .u64 y5]] => some (wr_S25 (S.arith_congruence y1 (⟨y2, y3⟩ : S.Cong) (⟨y4, y5⟩ : S.Cong)), wo_S25 (S.arith_congruence y1 (⟨y2, y3⟩ : S.Cong) (⟨y4, y5⟩ : S.Cong)), [S.arith_congruence_pre y1 (⟨y2, y3⟩ : S.Cong) (⟨y4, y5⟩ : S.Cong)])
  | _ => none
noncomputable def c25 : Cfg El := c54.add 25 sem25
theorem c25_ok : CfgOk c25 := c54_ok.add (fun args w => Tryd.call25 args w) (fun vs r outs ps h hp => by
  unfold sem25 at h
  split at h
  · rename_i y1 y2 y3 y4 y5; cases h; exact fn25 y1 (⟨y2, y3⟩ : S.Cong) (⟨y4, y5⟩ : S.Cong) hp
  · cases h)

noncomputable def body26 : Code := (Tryd.f26.body).getD .skip
theorem fn26 (a : (Int × Int)) (hp : S.arith_wide_round_pre a) : CallOk c25 26 [.agg [.int .u64 a.1, .int .u64 a.2]] (wr_u64 (S.arith_wide_round a)) (wo_u64 (S.arith_wide_round a)) :=
  (call_ok (c := c25) (f := 26) (fn := Tryd.f26) (code := body26) (args := ([.agg [.int .u64 a.1, .int .u64 a.2]])) (loop := noLoop) (md := ⟨false, false⟩) (rd := rd_u64) (wr := wr_u64) (wo := wo_u64) (r := (S.arith_wide_round a)) c25_ok (by kernel_rfl) (by kernel_rfl) (by kernel_rfl) (no_loops (by kernel_rfl)) (by kernel_rfl) (by kernel_rfl) (by kernel_rfl)
    rw_u64 np_u64 no_u64 (by kernel_rfl) (Eq.mpr (show Vm.Tr.vc (Vm.Fn c25 Tryd.f26 body26 noLoop ([.agg [.int .u64 a.1, .int .u64 a.2]])) = S.arith_wide_round_pre a by kernel_rfl) hp))

noncomputable def sem26 : List W → Option (W × List (List W) × List Prop)
  | [.agg [.int .u64 y1, .int .u64 y2]] => some (wr_u64 (S.arith_wide_round (y1, y2)), wo_u64 (S.arith_wide_round (y1, y2)), [S.arith_wide_round_pre (y1, y2)])
  | _ => none
noncomputable def c26 : Cfg El := c25.add 26 sem26
theorem c26_ok : CfgOk c26 := c25_ok.add (fun args w => Tryd.call26 args w) (fun vs r outs ps h hp => by
  unfold sem26 at h
  split at h
  · rename_i y1 y2; cases h; exact fn26 (y1, y2) hp
  · cases h)

noncomputable def body28 : Code := (Tryd.f28.body).getD .skip
theorem fn28 (c : S.Cong) (hp : S.cong_Cong_Wrapped_pre c) : CallOk c26 28 [.agg [.int .u64 c.M, .int .u64 c.R]] (wr_S25 (S.cong_Cong_Wrapped c)) (wo_S25 (S.cong_Cong_Wrapped c)) :=
  (call_ok (c := c26) (f := 28) (fn := Tryd.f28) (code := body28) (args := ([.agg [.int .u64 c.M, .int .u64 c.R]])) (loop := noLoop) (md := ⟨false, false⟩) (rd := rd_S25) (wr := wr_S25) (wo := wo_S25) (r := (S.cong_Cong_Wrapped c)) c26_ok (by kernel_rfl) (by kernel_rfl) (by kernel_rfl) (no_loops (by kernel_rfl)) (by kernel_rfl) (by kernel_rfl) (by kernel_rfl)
    rw_S25 np_S25 no_S25 (by kernel_rfl) (Eq.mpr (show Vm.Tr.vc (Vm.Fn c26 Tryd.f28 body28 noLoop ([.agg [.int .u64 c.M, .int .u64 c.R]])) = S.cong_Cong_Wrapped_pre c by kernel_rfl) hp))

noncomputable def sem28 : List W → Option (W × List (List W) × List Prop)
  | [.agg [.int .u64 y1, .int .u64 y2]] => some (wr_S25 (S.cong_Cong_Wrapped (⟨y1, y2⟩ : S.Cong)), wo_S25 (S.cong_Cong_Wrapped (⟨y1, y2⟩ : S.Cong)), [S.cong_Cong_Wrapped_pre (⟨y1, y2⟩ : S.Cong)])
  | _ => none
noncomputable def c28 : Cfg El := c26.add 28 sem28
theorem c28_ok : CfgOk c28 := c26_ok.add (fun args w => Tryd.call28 args w) (fun vs r outs ps h hp => by
  unfold sem28 at h
  split at h
  · rename_i y1 y2; cases h; exact fn28 (⟨y1, y2⟩ : S.Cong) hp
  · cases h)

noncomputable def body5 : Code := (Tryd.f5.body).getD .skip
theorem fn5 (op : Int) (a : S.Value) (b : S.Value) (hp : S.arith_Do_pre op a b) : CallOk c28 5 [.int .i64 op, .agg [.int .i64 a.I.Lo, .int .i64 a.I.Hi, .int .u64 a.C.M, .int .u64 a.C.R], .agg [.int .i64 b.I.Lo, .int .i64 b.I.Hi, .int .u64 b.C.M, .int .u64 b.C.R]] (wr_S27 (S.arith_Do op a b)) (wo_S27 (S.arith_Do op a b)) :=
  (call_ok (c := c28) (f := 5) (fn := Tryd.f5) (code := body5) (args := ([.int .i64 op, .agg [.int .i64 a.I.Lo, .int .i64 a.I.Hi, .int .u64 a.C.M, .int .u64 a.C.R], .agg [.int .i64 b.I.Lo, .int .i64 b.I.Hi, .int .u64 b.C.M, .int .u64 b.C.R]])) (loop := noLoop) (md := ⟨false, false⟩) (rd := rd_S27) (wr := wr_S27) (wo := wo_S27) (r := (S.arith_Do op a b)) c28_ok (by kernel_rfl) (by kernel_rfl) (by kernel_rfl) (no_loops (by kernel_rfl)) (by kernel_rfl) (by kernel_rfl) (by kernel_rfl)
    rw_S27 np_S27 no_S27 (by kernel_rfl) (Eq.mpr (show Vm.Tr.vc (Vm.Fn c28 Tryd.f5 body5 noLoop ([.int .i64 op, .agg [.int .i64 a.I.Lo, .int .i64 a.I.Hi, .int .u64 a.C.M, .int .u64 a.C.R], .agg [.int .i64 b.I.Lo, .int .i64 b.I.Hi, .int .u64 b.C.M, .int .u64 b.C.R]])) = S.arith_Do_pre op a b by kernel_rfl) hp))

noncomputable def sem5 : List W → Option (W × List (List W) × List Prop)
  | [.int .i64 y1, .agg [.int .i64 y2, .int .i64 y3, .int .u64 y4, .int .u64 y5], .agg [.int .i64 y6, .int .i64 y7, .int .u64 y8, .int .u64 y9]] => some (wr_S27 (S.arith_Do y1 (⟨(⟨y2, y3⟩ : S.Inter), (⟨y4, y5⟩ : S.Cong)⟩ : S.Value) (⟨(⟨y6, y7⟩ : S.Inter), (⟨y8, y9⟩ : S.Cong)⟩ : S.Value)), wo_S27 (S.arith_Do y1 (⟨(⟨y2, y3⟩ : S.Inter), (⟨y4, y5⟩ : S.Cong)⟩ : S.Value) (⟨(⟨y6, y7⟩ : S.Inter), (⟨y8, y9⟩ : S.Cong)⟩ : S.Value)), [S.arith_Do_pre y1 (⟨(⟨y2, y3⟩ : S.Inter), (⟨y4, y5⟩ : S.Cong)⟩ : S.Value) (⟨(⟨y6, y7⟩ : S.Inter), (⟨y8, y9⟩ : S.Cong)⟩ : S.Value)])
  | _ => none
noncomputable def c5 : Cfg El := c28.add 5 sem5
theorem c5_ok : CfgOk c5 := c28_ok.add (fun args w => Tryd.call5 args w) (fun vs r outs ps h hp => by
  unfold sem5 at h
  split at h
  · rename_i y1 y2 y3 y4 y5 y6 y7 y8 y9; cases h; exact fn5 y1 (⟨(⟨y2, y3⟩ : S.Inter), (⟨y4, y5⟩ : S.Cong)⟩ : S.Value) (⟨(⟨y6, y7⟩ : S.Inter), (⟨y8, y9⟩ : S.Cong)⟩ : S.Value) hp
  · cases h)

noncomputable def body31 : Code := (Tryd.f31.body).getD .skip
theorem fn31 (a : (Int × Int)) (b : (Int × Int)) : CallOk c5 31 [.agg [.int .u64 a.1, .int .u64 a.2], .agg [.int .u64 b.1, .int .u64 b.2]] (wr_b (S.arith_one a b)) (wo_b (S.arith_one a b)) :=
  (call_ok (c := c5) (f := 31) (fn := Tryd.f31) (code := body31) (args := ([.agg [.int .u64 a.1, .int .u64 a.2], .agg [.int .u64 b.1, .int .u64 b.2]])) (loop := noLoop) (md := ⟨false, false⟩) (rd := rd_b) (wr := wr_b) (wo := wo_b) (r := (S.arith_one a b)) c5_ok (by kernel_rfl) (by kernel_rfl) (by kernel_rfl) (no_loops (by kernel_rfl)) (by kernel_rfl) (by kernel_rfl) (by kernel_rfl)
    rw_b np_b no_b (by kernel_rfl) (Tr.vc_of_noReq (by kernel_rfl)))

noncomputable def sem31 : List W → Option (W × List (List W) × List Prop)
  | [.agg [.int .u64 y1, .int .u64 y2], .agg [.int .u64 y3, .int .u64 y4]] => some (wr_b (S.arith_one (y1, y2) (y3, y4)), wo_b (S.arith_one (y1, y2) (y3, y4)), [])
  | _ => none
noncomputable def c31 : Cfg El := c5.add 31 sem31
theorem c31_ok : CfgOk c31 := c5_ok.add (fun args w => Tryd.call31 args w) (fun vs r outs ps h hp => by
  unfold sem31 at h
  split at h
  · rename_i y1 y2 y3 y4; cases h; exact fn31 (y1, y2) (y3, y4)
  · cases h)

noncomputable def body8 : Code := (Tryd.f8.body).getD .skip
theorem fn8 (op : Int) (a : S.Value) (b : S.Value) (hp : S.arith_Wraps_pre op a b) : CallOk c31 8 [.int .i64 op, .agg [.int .i64 a.I.Lo, .int .i64 a.I.Hi, .int .u64 a.C.M, .int .u64 a.C.R], .agg [.int .i64 b.I.Lo, .int .i64 b.I.Hi, .int .u64 b.C.M, .int .u64 b.C.R]] (wr_b (S.arith_Wraps op a b)) (wo_b (S.arith_Wraps op a b)) :=
  (call_ok (c := c31) (f := 8) (fn := Tryd.f8) (code := body8) (args := ([.int .i64 op, .agg [.int .i64 a.I.Lo, .int .i64 a.I.Hi, .int .u64 a.C.M, .int .u64 a.C.R], .agg [.int .i64 b.I.Lo, .int .i64 b.I.Hi, .int .u64 b.C.M, .int .u64 b.C.R]])) (loop := noLoop) (md := ⟨false, false⟩) (rd := rd_b) (wr := wr_b) (wo := wo_b) (r := (S.arith_Wraps op a b)) c31_ok (by kernel_rfl) (by kernel_rfl) (by kernel_rfl) (no_loops (by kernel_rfl)) (by kernel_rfl) (by kernel_rfl) (by kernel_rfl)
    rw_b np_b no_b (by kernel_rfl) (Eq.mpr (show Vm.Tr.vc (Vm.Fn c31 Tryd.f8 body8 noLoop ([.int .i64 op, .agg [.int .i64 a.I.Lo, .int .i64 a.I.Hi, .int .u64 a.C.M, .int .u64 a.C.R], .agg [.int .i64 b.I.Lo, .int .i64 b.I.Hi, .int .u64 b.C.M, .int .u64 b.C.R]])) = S.arith_Wraps_pre op a b by kernel_rfl) hp))

noncomputable def sem8 : List W → Option (W × List (List W) × List Prop)
  | [.int .i64 y1, .agg [.int .i64 y2, .int .i64 y3, .int .u64 y4, .int .u64 y5], .agg [.int .i64 y6, .int .i64 y7, .int .u64 y8, .int .u64 y9]] => some (wr_b (S.arith_Wraps y1 (⟨(⟨y2, y3⟩ : S.Inter), (⟨y4, y5⟩ : S.Cong)⟩ : S.Value) (⟨(⟨y6, y7⟩ : S.Inter), (⟨y8, y9⟩ : S.Cong)⟩ : S.Value)), wo_b (S.arith_Wraps y1 (⟨(⟨y2, y3⟩ : S.Inter), (⟨y4, y5⟩ : S.Cong)⟩ : S.Value) (⟨(⟨y6, y7⟩ : S.Inter), (⟨y8, y9⟩ : S.Cong)⟩ : S.Value)), [S.arith_Wraps_pre y1 (⟨(⟨y2, y3⟩ : S.Inter), (⟨y4, y5⟩ : S.Cong)⟩ : S.Value) (⟨(⟨y6, y7⟩ : S.Inter), (⟨y8, y9⟩ : S.Cong)⟩ : S.Value)])
  | _ => none
noncomputable def c8 : Cfg El := c31.add 8 sem8
theorem c8_ok : CfgOk c8 := c31_ok.add (fun args w => Tryd.call8 args w) (fun vs r outs ps h hp => by
  unfold sem8 at h
  split at h
  · rename_i y1 y2 y3 y4 y5 y6 y7 y8 y9; cases h; exact fn8 y1 (⟨(⟨y2, y3⟩ : S.Inter), (⟨y4, y5⟩ : S.Cong)⟩ : S.Value) (⟨(⟨y6, y7⟩ : S.Inter), (⟨y8, y9⟩ : S.Cong)⟩ : S.Value) hp
  · cases h)

noncomputable def body10 : Code := (Tryd.f10.body).getD .skip
theorem fn10 (a : S.Value) (hp : S.arith_Neg_pre a) : CallOk c8 10 [.agg [.int .i64 a.I.Lo, .int .i64 a.I.Hi, .int .u64 a.C.M, .int .u64 a.C.R]] (wr_S27 (S.arith_Neg a)) (wo_S27 (S.arith_Neg a)) :=
  (call_ok (c := c8) (f := 10) (fn := Tryd.f10) (code := body10) (args := ([.agg [.int .i64 a.I.Lo, .int .i64 a.I.Hi, .int .u64 a.C.M, .int .u64 a.C.R]])) (loop := noLoop) (md := ⟨false, false⟩) (rd := rd_S27) (wr := wr_S27) (wo := wo_S27) (r := (S.arith_Neg a)) c8_ok (by kernel_rfl) (by kernel_rfl) (by kernel_rfl) (no_loops (by kernel_rfl)) (by kernel_rfl) (by kernel_rfl) (by kernel_rfl)
    rw_S27 np_S27 no_S27 (by kernel_rfl) (Eq.mpr (show Vm.Tr.vc (Vm.Fn c8 Tryd.f10 body10 noLoop ([.agg [.int .i64 a.I.Lo, .int .i64 a.I.Hi, .int .u64 a.C.M, .int .u64 a.C.R]])) = S.arith_Neg_pre a by kernel_rfl) hp))

noncomputable def sem10 : List W → Option (W × List (List W) × List Prop)
  | [.agg [.int .i64 y1, .int .i64 y2, .int .u64 y3, .int .u64 y4]] => some (wr_S27 (S.arith_Neg (⟨(⟨y1, y2⟩ : S.Inter), (⟨y3, y4⟩ : S.Cong)⟩ : S.Value)), wo_S27 (S.arith_Neg (⟨(⟨y1, y2⟩ : S.Inter), (⟨y3, y4⟩ : S.Cong)⟩ : S.Value)), [S.arith_Neg_pre (⟨(⟨y1, y2⟩ : S.Inter), (⟨y3, y4⟩ : S.Cong)⟩ : S.Value)])
  | _ => none
noncomputable def c10 : Cfg El := c8.add 10 sem10
theorem c10_ok : CfgOk c10 := c8_ok.add (fun args w => Tryd.call10 args w) (fun vs r outs ps h hp => by
  unfold sem10 at h
  split at h
  · rename_i y1 y2 y3 y4; cases h; exact fn10 (⟨(⟨y1, y2⟩ : S.Inter), (⟨y3, y4⟩ : S.Cong)⟩ : S.Value) hp
  · cases h)

noncomputable def body9 : Code := (Tryd.f9.body).getD .skip
theorem fn9 (a : S.Value) (b : S.Value) (hp : S.value_Same_pre a b) : CallOk c10 9 [.agg [.int .i64 a.I.Lo, .int .i64 a.I.Hi, .int .u64 a.C.M, .int .u64 a.C.R], .agg [.int .i64 b.I.Lo, .int .i64 b.I.Hi, .int .u64 b.C.M, .int .u64 b.C.R]] (wr_b (S.value_Same a b)) (wo_b (S.value_Same a b)) :=
  (call_ok (c := c10) (f := 9) (fn := Tryd.f9) (code := body9) (args := ([.agg [.int .i64 a.I.Lo, .int .i64 a.I.Hi, .int .u64 a.C.M, .int .u64 a.C.R], .agg [.int .i64 b.I.Lo, .int .i64 b.I.Hi, .int .u64 b.C.M, .int .u64 b.C.R]])) (loop := noLoop) (md := ⟨false, false⟩) (rd := rd_b) (wr := wr_b) (wo := wo_b) (r := (S.value_Same a b)) c10_ok (by kernel_rfl) (by kernel_rfl) (by kernel_rfl) (no_loops (by kernel_rfl)) (by kernel_rfl) (by kernel_rfl) (by kernel_rfl)
    rw_b np_b no_b (by kernel_rfl) (Eq.mpr (show Vm.Tr.vc (Vm.Fn c10 Tryd.f9 body9 noLoop ([.agg [.int .i64 a.I.Lo, .int .i64 a.I.Hi, .int .u64 a.C.M, .int .u64 a.C.R], .agg [.int .i64 b.I.Lo, .int .i64 b.I.Hi, .int .u64 b.C.M, .int .u64 b.C.R]])) = S.value_Same_pre a b by kernel_rfl) hp))

noncomputable def sem9 : List W → Option (W × List (List W) × List Prop)
  | [.agg [.int .i64 y1, .int .i64 y2, .int .u64 y3, .int .u64 y4], .agg [.int .i64 y5, .int .i64 y6, .int .u64 y7, .int .u64 y8]] => some (wr_b (S.value_Same (⟨(⟨y1, y2⟩ : S.Inter), (⟨y3, y4⟩ : S.Cong)⟩ : S.Value) (⟨(⟨y5, y6⟩ : S.Inter), (⟨y7, y8⟩ : S.Cong)⟩ : S.Value)), wo_b (S.value_Same (⟨(⟨y1, y2⟩ : S.Inter), (⟨y3, y4⟩ : S.Cong)⟩ : S.Value) (⟨(⟨y5, y6⟩ : S.Inter), (⟨y7, y8⟩ : S.Cong)⟩ : S.Value)), [S.value_Same_pre (⟨(⟨y1, y2⟩ : S.Inter), (⟨y3, y4⟩ : S.Cong)⟩ : S.Value) (⟨(⟨y5, y6⟩ : S.Inter), (⟨y7, y8⟩ : S.Cong)⟩ : S.Value)])
  | _ => none
noncomputable def c9 : Cfg El := c10.add 9 sem9
theorem c9_ok : CfgOk c9 := c10_ok.add (fun args w => Tryd.call9 args w) (fun vs r outs ps h hp => by
  unfold sem9 at h
  split at h
  · rename_i y1 y2 y3 y4 y5 y6 y7 y8; cases h; exact fn9 (⟨(⟨y1, y2⟩ : S.Inter), (⟨y3, y4⟩ : S.Cong)⟩ : S.Value) (⟨(⟨y5, y6⟩ : S.Inter), (⟨y7, y8⟩ : S.Cong)⟩ : S.Value) hp
  · cases h)

noncomputable def body37 : Code := (Tryd.f37.body).getD .skip
theorem fn37 (m : Int) (n : Int) (hp : S.cong_Make_pre m n) : CallOk c9 37 [.int .u64 m, .int .i64 n] (wr_S25 (S.cong_Make m n)) (wo_S25 (S.cong_Make m n)) :=
  (call_ok (c := c9) (f := 37) (fn := Tryd.f37) (code := body37) (args := ([.int .u64 m, .int .i64 n])) (loop := noLoop) (md := ⟨false, false⟩) (rd := rd_S25) (wr := wr_S25) (wo := wo_S25) (r := (S.cong_Make m n)) c9_ok (by kernel_rfl) (by kernel_rfl) (by kernel_rfl) (no_loops (by kernel_rfl)) (by kernel_rfl) (by kernel_rfl) (by kernel_rfl)
    rw_S25 np_S25 no_S25 (by kernel_rfl) (Eq.mpr (show Vm.Tr.vc (Vm.Fn c9 Tryd.f37 body37 noLoop ([.int .u64 m, .int .i64 n])) = S.cong_Make_pre m n by kernel_rfl) hp))

noncomputable def sem37 : List W → Option (W × List (List W) × List Prop)
  | [.int .u64 y1, .int .i64 y2] => some (wr_S25 (S.cong_Make y1 y2), wo_S25 (S.cong_Make y1 y2), [S.cong_Make_pre y1 y2])
  | _ => none
noncomputable def c37 : Cfg El := c9.add 37 sem37
theorem c37_ok : CfgOk c37 := c9_ok.add (fun args w => Tryd.call37 args w) (fun vs r outs ps h hp => by
  unfold sem37 at h
  split at h
  · rename_i y1 y2; cases h; exact fn37 y1 y2 hp
  · cases h)

noncomputable def body92 : Code := (Tryd.f92.body).getD .skip
theorem fn92 (x : Int) : CallOk c37 92 [.int .i64 x] (wr_i64 (S.internal_strconv_log10Pow2 x)) (wo_i64 (S.internal_strconv_log10Pow2 x)) :=
  (call_ok (c := c37) (f := 92) (fn := Tryd.f92) (code := body92) (args := ([.int .i64 x])) (loop := noLoop) (md := ⟨false, false⟩) (rd := rd_i64) (wr := wr_i64) (wo := wo_i64) (r := (S.internal_strconv_log10Pow2 x)) c37_ok (by kernel_rfl) (by kernel_rfl) (by kernel_rfl) (no_loops (by kernel_rfl)) (by kernel_rfl) (by kernel_rfl) (by kernel_rfl)
    rw_i64 np_i64 no_i64 (by kernel_rfl) (Tr.vc_of_noReq (by kernel_rfl)))

noncomputable def sem92 : List W → Option (W × List (List W) × List Prop)
  | [.int .i64 y1] => some (wr_i64 (S.internal_strconv_log10Pow2 y1), wo_i64 (S.internal_strconv_log10Pow2 y1), [])
  | _ => none
noncomputable def c92 : Cfg El := c37.add 92 sem92
theorem c92_ok : CfgOk c92 := c37_ok.add (fun args w => Tryd.call92 args w) (fun vs r outs ps h hp => by
  unfold sem92 at h
  split at h
  · rename_i y1; cases h; exact fn92 y1
  · cases h)

noncomputable def body94 : Code := (Tryd.f94.body).getD .skip
theorem fn94 (b : Bool) : CallOk c92 94 [.bool b] (wr_i64 (S.internal_strconv_bool2int b)) (wo_i64 (S.internal_strconv_bool2int b)) :=
  (call_ok (c := c92) (f := 94) (fn := Tryd.f94) (code := body94) (args := ([.bool b])) (loop := noLoop) (md := ⟨false, false⟩) (rd := rd_i64) (wr := wr_i64) (wo := wo_i64) (r := (S.internal_strconv_bool2int b)) c92_ok (by kernel_rfl) (by kernel_rfl) (by kernel_rfl) (no_loops (by kernel_rfl)) (by kernel_rfl) (by kernel_rfl) (by kernel_rfl)
    rw_i64 np_i64 no_i64 (by kernel_rfl) (Tr.vc_of_noReq (by kernel_rfl)))

noncomputable def sem94 : List W → Option (W × List (List W) × List Prop)
  | [.bool y1] => some (wr_i64 (S.internal_strconv_bool2int y1), wo_i64 (S.internal_strconv_bool2int y1), [])
  | _ => none
noncomputable def c94 : Cfg El := c92.add 94 sem94
theorem c94_ok : CfgOk c94 := c92_ok.add (fun args w => Tryd.call94 args w) (fun vs r outs ps h hp => by
  unfold sem94 at h
  split at h
  · rename_i y1; cases h; exact fn94 y1
  · cases h)

noncomputable def body95 : Code := (Tryd.f95.body).getD .skip
theorem fn95 (x : Int) : CallOk c94 95 [.int .i64 x] (wr_b (S.internal_strconv_isPowerOfTwo x)) (wo_b (S.internal_strconv_isPowerOfTwo x)) :=
  (call_ok (c := c94) (f := 95) (fn := Tryd.f95) (code := body95) (args := ([.int .i64 x])) (loop := noLoop) (md := ⟨false, false⟩) (rd := rd_b) (wr := wr_b) (wo := wo_b) (r := (S.internal_strconv_isPowerOfTwo x)) c94_ok (by kernel_rfl) (by kernel_rfl) (by kernel_rfl) (no_loops (by kernel_rfl)) (by kernel_rfl) (by kernel_rfl) (by kernel_rfl)
    rw_b np_b no_b (by kernel_rfl) (Tr.vc_of_noReq (by kernel_rfl)))

noncomputable def sem95 : List W → Option (W × List (List W) × List Prop)
  | [.int .i64 y1] => some (wr_b (S.internal_strconv_isPowerOfTwo y1), wo_b (S.internal_strconv_isPowerOfTwo y1), [])
  | _ => none
noncomputable def c95 : Cfg El := c94.add 95 sem95
theorem c95_ok : CfgOk c95 := c94_ok.add (fun args w => Tryd.call95 args w) (fun vs r outs ps h hp => by
  unfold sem95 at h
  split at h
  · rename_i y1; cases h; exact fn95 y1
  · cases h)

noncomputable def rd_s : W → List (List W) → Option (ByteArray)
  | .str x1, [] => some x1
  | _, _ => none
noncomputable def wr_s (x : ByteArray) : W := .str x
noncomputable def wo_s (_x : ByteArray) : List (List W) := []
theorem rw_s (v : W) (os : List (List W)) (x : ByteArray) (h : rd_s v os = some x) : v = wr_s x ∧ os = wo_s x := by
  unfold rd_s at h
  split at h <;> first | (cases h; exact ⟨rfl, rfl⟩) | cases h
theorem np_s (x : ByteArray) : okv (fun _ => false) (wr_s x) = true := rfl
theorem no_s (x : ByteArray) : all (fun cs => all (ok0 fun _ => false) cs) (wo_s x) = true := rfl

theorem fn82 (i : Int) (base : Int) (hp : fmtI_pre i base) : CallOk c95 82 [.int .i64 i, .int .i64 base] (wr_s (fmtI i base)) (wo_s (fmtI i base)) :=
  fmtI_calls (c := c95) (P := P) rfl Tryd.laysM246 rfl (fun _ _ h => h.1) i base hp

noncomputable def sem82 : List W → Option (W × List (List W) × List Prop)
  | [.int .i64 y1, .int .i64 y2] => some (wr_s (fmtI y1 y2), wo_s (fmtI y1 y2), [fmtI_pre y1 y2])
  | _ => none
noncomputable def c82 : Cfg El := c95.add 82 sem82
theorem c82_ok : CfgOk c82 := c95_ok.add (fun args w => Tryd.call82 args w) (fun vs r outs ps h hp => by
  unfold sem82 at h
  split at h
  · rename_i y1 y2; cases h; exact fn82 y1 y2 hp
  · cases h)

noncomputable def body56 : Code := (Tryd.f56.body).getD .skip
theorem fn56 (i : Int) (base : Int) (hp : S.strconv_FormatInt_pre i base) : CallOk c82 56 [.int .i64 i, .int .i64 base] (wr_s (S.strconv_FormatInt i base)) (wo_s (S.strconv_FormatInt i base)) :=
  (call_ok (c := c82) (f := 56) (fn := Tryd.f56) (code := body56) (args := ([.int .i64 i, .int .i64 base])) (loop := noLoop) (md := ⟨false, false⟩) (rd := rd_s) (wr := wr_s) (wo := wo_s) (r := (S.strconv_FormatInt i base)) c82_ok (by kernel_rfl) (by kernel_rfl) (by kernel_rfl) (no_loops (by kernel_rfl)) (by kernel_rfl) (by kernel_rfl) (by kernel_rfl)
    rw_s np_s no_s (by kernel_rfl) (Eq.mpr (show Vm.Tr.vc (Vm.Fn c82 Tryd.f56 body56 noLoop ([.int .i64 i, .int .i64 base])) = S.strconv_FormatInt_pre i base by kernel_rfl) hp))

noncomputable def sem56 : List W → Option (W × List (List W) × List Prop)
  | [.int .i64 y1, .int .i64 y2] => some (wr_s (S.strconv_FormatInt y1 y2), wo_s (S.strconv_FormatInt y1 y2), [S.strconv_FormatInt_pre y1 y2])
  | _ => none
noncomputable def c56 : Cfg El := c82.add 56 sem56
theorem c56_ok : CfgOk c56 := c82_ok.add (fun args w => Tryd.call56 args w) (fun vs r outs ps h hp => by
  unfold sem56 at h
  split at h
  · rename_i y1 y2; cases h; exact fn56 y1 y2 hp
  · cases h)

theorem fn83 (i : Int) (base : Int) (hp : fmtU_pre i base) : CallOk c56 83 [.int .u64 i, .int .i64 base] (wr_s (fmtU i base)) (wo_s (fmtU i base)) :=
  fmtU_calls i base hp (c := c56) rfl (fun _ _ h => h.1)

noncomputable def sem83 : List W → Option (W × List (List W) × List Prop)
  | [.int .u64 y1, .int .i64 y2] => some (wr_s (fmtU y1 y2), wo_s (fmtU y1 y2), [fmtU_pre y1 y2])
  | _ => none
noncomputable def c83 : Cfg El := c56.add 83 sem83
theorem c83_ok : CfgOk c83 := c56_ok.add (fun args w => Tryd.call83 args w) (fun vs r outs ps h hp => by
  unfold sem83 at h
  split at h
  · rename_i y1 y2; cases h; exact fn83 y1 y2 hp
  · cases h)

noncomputable def body57 : Code := (Tryd.f57.body).getD .skip
theorem fn57 (i : Int) (base : Int) (hp : S.strconv_FormatUint_pre i base) : CallOk c83 57 [.int .u64 i, .int .i64 base] (wr_s (S.strconv_FormatUint i base)) (wo_s (S.strconv_FormatUint i base)) :=
  (call_ok (c := c83) (f := 57) (fn := Tryd.f57) (code := body57) (args := ([.int .u64 i, .int .i64 base])) (loop := noLoop) (md := ⟨false, false⟩) (rd := rd_s) (wr := wr_s) (wo := wo_s) (r := (S.strconv_FormatUint i base)) c83_ok (by kernel_rfl) (by kernel_rfl) (by kernel_rfl) (no_loops (by kernel_rfl)) (by kernel_rfl) (by kernel_rfl) (by kernel_rfl)
    rw_s np_s no_s (by kernel_rfl) (Eq.mpr (show Vm.Tr.vc (Vm.Fn c83 Tryd.f57 body57 noLoop ([.int .u64 i, .int .i64 base])) = S.strconv_FormatUint_pre i base by kernel_rfl) hp))

noncomputable def sem57 : List W → Option (W × List (List W) × List Prop)
  | [.int .u64 y1, .int .i64 y2] => some (wr_s (S.strconv_FormatUint y1 y2), wo_s (S.strconv_FormatUint y1 y2), [S.strconv_FormatUint_pre y1 y2])
  | _ => none
noncomputable def c57 : Cfg El := c83.add 57 sem57
theorem c57_ok : CfgOk c57 := c83_ok.add (fun args w => Tryd.call57 args w) (fun vs r outs ps h hp => by
  unfold sem57 at h
  split at h
  · rename_i y1 y2; cases h; exact fn57 y1 y2 hp
  · cases h)

noncomputable def body38 : Code := (Tryd.f38.body).getD .skip
theorem fn38 (v : S.Value) (hp : S.value_Value_Text_pre v) : CallOk c57 38 [.agg [.int .i64 v.I.Lo, .int .i64 v.I.Hi, .int .u64 v.C.M, .int .u64 v.C.R]] (wr_s (S.value_Value_Text v)) (wo_s (S.value_Value_Text v)) :=
  (call_ok (c := c57) (f := 38) (fn := Tryd.f38) (code := body38) (args := ([.agg [.int .i64 v.I.Lo, .int .i64 v.I.Hi, .int .u64 v.C.M, .int .u64 v.C.R]])) (loop := noLoop) (md := ⟨false, false⟩) (rd := rd_s) (wr := wr_s) (wo := wo_s) (r := (S.value_Value_Text v)) c57_ok (by kernel_rfl) (by kernel_rfl) (by kernel_rfl) (no_loops (by kernel_rfl)) (by kernel_rfl) (by kernel_rfl) (by kernel_rfl)
    rw_s np_s no_s (by kernel_rfl) (Eq.mpr (show Vm.Tr.vc (Vm.Fn c57 Tryd.f38 body38 noLoop ([.agg [.int .i64 v.I.Lo, .int .i64 v.I.Hi, .int .u64 v.C.M, .int .u64 v.C.R]])) = S.value_Value_Text_pre v by kernel_rfl) hp))

noncomputable def sem38 : List W → Option (W × List (List W) × List Prop)
  | [.agg [.int .i64 y1, .int .i64 y2, .int .u64 y3, .int .u64 y4]] => some (wr_s (S.value_Value_Text (⟨(⟨y1, y2⟩ : S.Inter), (⟨y3, y4⟩ : S.Cong)⟩ : S.Value)), wo_s (S.value_Value_Text (⟨(⟨y1, y2⟩ : S.Inter), (⟨y3, y4⟩ : S.Cong)⟩ : S.Value)), [S.value_Value_Text_pre (⟨(⟨y1, y2⟩ : S.Inter), (⟨y3, y4⟩ : S.Cong)⟩ : S.Value)])
  | _ => none
noncomputable def c38 : Cfg El := c57.add 38 sem38
theorem c38_ok : CfgOk c38 := c57_ok.add (fun args w => Tryd.call38 args w) (fun vs r outs ps h hp => by
  unfold sem38 at h
  split at h
  · rename_i y1 y2 y3 y4; cases h; exact fn38 (⟨(⟨y1, y2⟩ : S.Inter), (⟨y3, y4⟩ : S.Cong)⟩ : S.Value) hp
  · cases h)

noncomputable def body39 : Code := (Tryd.f39.body).getD .skip
theorem fn39 (lo : Int) (hi : Int) (hp : S.value_Range_pre lo hi) : CallOk c38 39 [.int .i64 lo, .int .i64 hi] (wr_S27 (S.value_Range lo hi)) (wo_S27 (S.value_Range lo hi)) :=
  (call_ok (c := c38) (f := 39) (fn := Tryd.f39) (code := body39) (args := ([.int .i64 lo, .int .i64 hi])) (loop := noLoop) (md := ⟨false, false⟩) (rd := rd_S27) (wr := wr_S27) (wo := wo_S27) (r := (S.value_Range lo hi)) c38_ok (by kernel_rfl) (by kernel_rfl) (by kernel_rfl) (no_loops (by kernel_rfl)) (by kernel_rfl) (by kernel_rfl) (by kernel_rfl)
    rw_S27 np_S27 no_S27 (by kernel_rfl) (Eq.mpr (show Vm.Tr.vc (Vm.Fn c38 Tryd.f39 body39 noLoop ([.int .i64 lo, .int .i64 hi])) = S.value_Range_pre lo hi by kernel_rfl) hp))

noncomputable def sem39 : List W → Option (W × List (List W) × List Prop)
  | [.int .i64 y1, .int .i64 y2] => some (wr_S27 (S.value_Range y1 y2), wo_S27 (S.value_Range y1 y2), [S.value_Range_pre y1 y2])
  | _ => none
noncomputable def c39 : Cfg El := c38.add 39 sem39
theorem c39_ok : CfgOk c39 := c38_ok.add (fun args w => Tryd.call39 args w) (fun vs r outs ps h hp => by
  unfold sem39 at h
  split at h
  · rename_i y1 y2; cases h; exact fn39 y1 y2 hp
  · cases h)

noncomputable def body14 : Code := (Tryd.f14.body).getD .skip
theorem fn14 (hp : S.law22_works_pre) : CallOk c39 14 [] (wr_b (S.law22_works)) (wo_b (S.law22_works)) :=
  (call_ok (c := c39) (f := 14) (fn := Tryd.f14) (code := body14) (args := ([])) (loop := noLoop) (md := ⟨false, false⟩) (rd := rd_b) (wr := wr_b) (wo := wo_b) (r := S.law22_works) c39_ok (by kernel_rfl) (by kernel_rfl) (by kernel_rfl) (no_loops (by kernel_rfl)) (by kernel_rfl) (by kernel_rfl) (by kernel_rfl)
    rw_b np_b no_b (by kernel_rfl) (Eq.mpr (show Vm.Tr.vc (Vm.Fn c39 Tryd.f14 body14 noLoop ([])) = S.law22_works_pre by kernel_rfl) hp))

noncomputable def sem14 : List W → Option (W × List (List W) × List Prop)
  | [] => some (wr_b (S.law22_works), wo_b (S.law22_works), [S.law22_works_pre])
  | _ => none
noncomputable def c14 : Cfg El := c39.add 14 sem14
theorem c14_ok : CfgOk c14 := c39_ok.add (fun args w => Tryd.call14 args w) (fun vs r outs ps h hp => by
  unfold sem14 at h
  split at h
  · cases h; exact fn14 hp
  · cases h)
end Go.Proofs.YtcgafjhkefcdfaaDoor
