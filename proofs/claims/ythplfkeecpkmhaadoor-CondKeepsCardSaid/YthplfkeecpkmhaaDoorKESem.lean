/-
  Printed by a program for this claim: functions of the code as plain functions, and that the code comes to them. Conditions: those that each theorem states.
-/
import Derived.Test.YthplfkeecpkmhaaDoorKEEnv
import Derived.Test.YthplfkeecpkmhaaDoorKEFmt
set_option linter.all false
namespace Go.Proofs.YthplfkeecpkmhaaDoor
open Go Go.Proofs Vm
attribute [local irreducible] Vm.Tr.vc Vm.Tr.out Vm.Fn Vm.Fn.out Vm.ev Vm.loopsOf Vm.Tr.noReq
noncomputable def rd_b : W → List (List W) → Option (Bool)
  | .bool x1, [] => some x1
  | _, _ => none
noncomputable def wr_b (x : Bool) : W := .bool x
noncomputable def wo_b (_x : Bool) : List (List W) := []
theorem rw_b (v : W) (os : List (List W)) (x : Bool) (h : rd_b v os = some x) : v = wr_b x ∧ os = wo_b x := by
  unfold rd_b at h
  split at h <;> first | (cases h; exact ⟨rfl, rfl⟩) | cases h
theorem np_b (x : Bool) : okv (fun _ => false) (wr_b x) = true := rfl
theorem no_b (x : Bool) : all (fun cs => all (ok0 fun _ => false) cs) (wo_b x) = true := rfl

noncomputable def body68 : Code := (Tryd.f68.body).getD .skip
theorem fn68 (c : S.Cong) : CallOk base 68 [.agg [.int .u64 c.M, .int .u64 c.R]] (wr_b (S.cong_Cong_single c)) (wo_b (S.cong_Cong_single c)) :=
  (call_ok (c := base) (f := 68) (fn := Tryd.f68) (code := body68) (args := ([.agg [.int .u64 c.M, .int .u64 c.R]])) (loop := noLoop) (md := ⟨false, false⟩) (rd := rd_b) (wr := wr_b) (wo := wo_b) (r := (S.cong_Cong_single c)) base_ok (by kernel_rfl) (by kernel_rfl) (by kernel_rfl) (no_loops (by kernel_rfl)) (by kernel_rfl) (by kernel_rfl) (by kernel_rfl)
    rw_b np_b no_b (by kernel_rfl) (Tr.vc_of_noReq (by kernel_rfl)))

noncomputable def sem68 : List W → Option (W × List (List W) × List Prop)
  | [.agg [.int .u64 y1, .int .u64 y2]] => some (wr_b (S.cong_Cong_single (⟨y1, y2⟩ : S.Cong)), wo_b (S.cong_Cong_single (⟨y1, y2⟩ : S.Cong)), [])
  | _ => none
noncomputable def c68 : Cfg El := base.add 68 sem68
theorem c68_ok : CfgOk c68 := base_ok.add (fun args w => Tryd.call68 args w) (fun vs r outs ps h hp => by
  unfold sem68 at h
  split at h
  · rename_i y1 y2; cases h; exact fn68 (⟨y1, y2⟩ : S.Cong)
  · cases h)

noncomputable def body51 : Code := (Tryd.f51.body).getD .skip
theorem fn51 (c : S.Cong) : CallOk c68 51 [.agg [.int .u64 c.M, .int .u64 c.R]] (wr_b (S.cong_Cong_Right c)) (wo_b (S.cong_Cong_Right c)) :=
  (call_ok (c := c68) (f := 51) (fn := Tryd.f51) (code := body51) (args := ([.agg [.int .u64 c.M, .int .u64 c.R]])) (loop := noLoop) (md := ⟨false, false⟩) (rd := rd_b) (wr := wr_b) (wo := wo_b) (r := (S.cong_Cong_Right c)) c68_ok (by kernel_rfl) (by kernel_rfl) (by kernel_rfl) (no_loops (by kernel_rfl)) (by kernel_rfl) (by kernel_rfl) (by kernel_rfl)
    rw_b np_b no_b (by kernel_rfl) (Tr.vc_of_noReq (by kernel_rfl)))

noncomputable def sem51 : List W → Option (W × List (List W) × List Prop)
  | [.agg [.int .u64 y1, .int .u64 y2]] => some (wr_b (S.cong_Cong_Right (⟨y1, y2⟩ : S.Cong)), wo_b (S.cong_Cong_Right (⟨y1, y2⟩ : S.Cong)), [])
  | _ => none
noncomputable def c51 : Cfg El := c68.add 51 sem51
theorem c51_ok : CfgOk c51 := c68_ok.add (fun args w => Tryd.call51 args w) (fun vs r outs ps h hp => by
  unfold sem51 at h
  split at h
  · rename_i y1 y2; cases h; exact fn51 (⟨y1, y2⟩ : S.Cong)
  · cases h)

noncomputable def rd_i64 : W → List (List W) → Option (Int)
  | .int .i64 x1, [] => some x1
  | _, _ => none
noncomputable def wr_i64 (x : Int) : W := .int .i64 x
noncomputable def wo_i64 (_x : Int) : List (List W) := []
theorem rw_i64 (v : W) (os : List (List W)) (x : Int) (h : rd_i64 v os = some x) : v = wr_i64 x ∧ os = wo_i64 x := by
  unfold rd_i64 at h
  split at h <;> first | (cases h; exact ⟨rfl, rfl⟩) | cases h
theorem np_i64 (x : Int) : okv (fun _ => false) (wr_i64 x) = true := rfl
theorem no_i64 (x : Int) : all (fun cs => all (ok0 fun _ => false) cs) (wo_i64 x) = true := rfl

noncomputable def body65 : Code := (Tryd.f65.body).getD .skip
theorem fn65 (c : S.Cong) : CallOk c51 65 [.agg [.int .u64 c.M, .int .u64 c.R]] (wr_i64 (S.cong_Cong_number c)) (wo_i64 (S.cong_Cong_number c)) :=
  (call_ok (c := c51) (f := 65) (fn := Tryd.f65) (code := body65) (args := ([.agg [.int .u64 c.M, .int .u64 c.R]])) (loop := noLoop) (md := ⟨false, false⟩) (rd := rd_i64) (wr := wr_i64) (wo := wo_i64) (r := (S.cong_Cong_number c)) c51_ok (by kernel_rfl) (by kernel_rfl) (by kernel_rfl) (no_loops (by kernel_rfl)) (by kernel_rfl) (by kernel_rfl) (by kernel_rfl)
    rw_i64 np_i64 no_i64 (by kernel_rfl) (Tr.vc_of_noReq (by kernel_rfl)))

noncomputable def sem65 : List W → Option (W × List (List W) × List Prop)
  | [.agg [.int .u64 y1, .int .u64 y2]] => some (wr_i64 (S.cong_Cong_number (⟨y1, y2⟩ : S.Cong)), wo_i64 (S.cong_Cong_number (⟨y1, y2⟩ : S.Cong)), [])
  | _ => none
noncomputable def c65 : Cfg El := c51.add 65 sem65
theorem c65_ok : CfgOk c65 := c51_ok.add (fun args w => Tryd.call65 args w) (fun vs r outs ps h hp => by
  unfold sem65 at h
  split at h
  · rename_i y1 y2; cases h; exact fn65 (⟨y1, y2⟩ : S.Cong)
  · cases h)

noncomputable def rd_i64_b : W → List (List W) → Option (Int × Bool)
  | .tup [.int .i64 x1, .bool x2], [] => some ⟨x1, x2⟩
  | _, _ => none
noncomputable def wr_i64_b (x : Int × Bool) : W := .tup [.int .i64 x.1, .bool x.2]
noncomputable def wo_i64_b (_x : Int × Bool) : List (List W) := []
theorem rw_i64_b (v : W) (os : List (List W)) (x : Int × Bool) (h : rd_i64_b v os = some x) : v = wr_i64_b x ∧ os = wo_i64_b x := by
  unfold rd_i64_b at h
  split at h <;> first | (cases h; exact ⟨rfl, rfl⟩) | cases h
theorem np_i64_b (x : Int × Bool) : okv (fun _ => false) (wr_i64_b x) = true := rfl
theorem no_i64_b (x : Int × Bool) : all (fun cs => all (ok0 fun _ => false) cs) (wo_i64_b x) = true := rfl

noncomputable def body79 : Code := (Tryd.f79.body).getD .skip
theorem fn79 (c : S.Cong) (ok : Bool) : CallOk c65 79 [.agg [.int .u64 c.M, .int .u64 c.R], .bool ok] (wr_i64_b (S.cong_Cong_number0 c ok)) (wo_i64_b (S.cong_Cong_number0 c ok)) :=
  (call_ok (c := c65) (f := 79) (fn := Tryd.f79) (code := body79) (args := ([.agg [.int .u64 c.M, .int .u64 c.R], .bool ok])) (loop := noLoop) (md := ⟨false, false⟩) (rd := rd_i64_b) (wr := wr_i64_b) (wo := wo_i64_b) (r := (S.cong_Cong_number0 c ok)) c65_ok (by kernel_rfl) (by kernel_rfl) (by kernel_rfl) (no_loops (by kernel_rfl)) (by kernel_rfl) (by kernel_rfl) (by kernel_rfl)
    rw_i64_b np_i64_b no_i64_b (by kernel_rfl) (Tr.vc_of_noReq (by kernel_rfl)))

noncomputable def sem79 : List W → Option (W × List (List W) × List Prop)
  | [.agg [.int .u64 y1, .int .u64 y2], .bool y3] => some (wr_i64_b (S.cong_Cong_number0 (⟨y1, y2⟩ : S.Cong) y3), wo_i64_b (S.cong_Cong_number0 (⟨y1, y2⟩ : S.Cong) y3), [])
  | _ => none
noncomputable def c79 : Cfg El := c65.add 79 sem79
theorem c79_ok : CfgOk c79 := c65_ok.add (fun args w => Tryd.call79 args w) (fun vs r outs ps h hp => by
  unfold sem79 at h
  split at h
  · rename_i y1 y2 y3; cases h; exact fn79 (⟨y1, y2⟩ : S.Cong) y3
  · cases h)

noncomputable def rd_u64 : W → List (List W) → Option (Int)
  | .int .u64 x1, [] => some x1
  | _, _ => none
noncomputable def wr_u64 (x : Int) : W := .int .u64 x
noncomputable def wo_u64 (_x : Int) : List (List W) := []
theorem rw_u64 (v : W) (os : List (List W)) (x : Int) (h : rd_u64 v os = some x) : v = wr_u64 x ∧ os = wo_u64 x := by
  unfold rd_u64 at h
  split at h <;> first | (cases h; exact ⟨rfl, rfl⟩) | cases h
theorem np_u64 (x : Int) : okv (fun _ => false) (wr_u64 x) = true := rfl
theorem no_u64 (x : Int) : all (fun cs => all (ok0 fun _ => false) cs) (wo_u64 x) = true := rfl

noncomputable def body57 : Code := (Tryd.f57.body).getD .skip
theorem fn57 (n : Int) (m : Int) (hp : S.cong_rest_pre n m) : CallOk c79 57 [.int .i64 n, .int .u64 m] (wr_u64 (S.cong_rest n m)) (wo_u64 (S.cong_rest n m)) :=
  (call_ok (c := c79) (f := 57) (fn := Tryd.f57) (code := body57) (args := ([.int .i64 n, .int .u64 m])) (loop := noLoop) (md := ⟨false, false⟩) (rd := rd_u64) (wr := wr_u64) (wo := wo_u64) (r := (S.cong_rest n m)) c79_ok (by kernel_rfl) (by kernel_rfl) (by kernel_rfl) (no_loops (by kernel_rfl)) (by kernel_rfl) (by kernel_rfl) (by kernel_rfl)
    rw_u64 np_u64 no_u64 (by kernel_rfl) (Eq.mpr (show Vm.Tr.vc (Vm.Fn c79 Tryd.f57 body57 noLoop ([.int .i64 n, .int .u64 m])) = S.cong_rest_pre n m by kernel_rfl) hp))

noncomputable def sem57 : List W → Option (W × List (List W) × List Prop)
  | [.int .i64 y1, .int .u64 y2] => some (wr_u64 (S.cong_rest y1 y2), wo_u64 (S.cong_rest y1 y2), [S.cong_rest_pre y1 y2])
  | _ => none
noncomputable def c57 : Cfg El := c79.add 57 sem57
theorem c57_ok : CfgOk c57 := c79_ok.add (fun args w => Tryd.call57 args w) (fun vs r outs ps h hp => by
  unfold sem57 at h
  split at h
  · rename_i y1 y2; cases h; exact fn57 y1 y2 hp
  · cases h)

noncomputable def sem88 : List W → Option (W × List (List W) × List Prop)
  | [.int .u64 x, .int .u64 y, .int .u64 c] => some (.tup [.int .u64 (S.math_bits_Add64 x y c).1, .int .u64 (S.math_bits_Add64 x y c).2], [], [S.math_bits_Add64_pre x y c])
  | _ => none
noncomputable def c88 : Cfg El := c57.add 88 sem88
theorem c88_ok : CfgOk c88 := c57_ok.addExt (fun vs r outs ps h hp => by
  unfold sem88 at h
  split at h
  · cases h; exact ⟨rfl, ext_add64 (c := c57) (fn := Tryd.f88) (by kernel_rfl) (by kernel_rfl) (by kernel_rfl) (by kernel_rfl) (by kernel_rfl) hp⟩
  · cases h)

noncomputable def body80 : Code := (Tryd.f80.body).getD .skip
theorem fn80 (a : Int) (b : Int) (m : Int) (hp : S.cong_plus_pre a b m) : CallOk c88 80 [.int .u64 a, .int .u64 b, .int .u64 m] (wr_u64 (S.cong_plus a b m)) (wo_u64 (S.cong_plus a b m)) :=
  (call_ok (c := c88) (f := 80) (fn := Tryd.f80) (code := body80) (args := ([.int .u64 a, .int .u64 b, .int .u64 m])) (loop := noLoop) (md := ⟨false, false⟩) (rd := rd_u64) (wr := wr_u64) (wo := wo_u64) (r := (S.cong_plus a b m)) c88_ok (by kernel_rfl) (by kernel_rfl) (by kernel_rfl) (no_loops (by kernel_rfl)) (by kernel_rfl) (by kernel_rfl) (by kernel_rfl)
    rw_u64 np_u64 no_u64 (by kernel_rfl) (Eq.mpr (show Vm.Tr.vc (Vm.Fn c88 Tryd.f80 body80 noLoop ([.int .u64 a, .int .u64 b, .int .u64 m])) = S.cong_plus_pre a b m by kernel_rfl) hp))

noncomputable def sem80 : List W → Option (W × List (List W) × List Prop)
  | [.int .u64 y1, .int .u64 y2, .int .u64 y3] => some (wr_u64 (S.cong_plus y1 y2 y3), wo_u64 (S.cong_plus y1 y2 y3), [S.cong_plus_pre y1 y2 y3])
  | _ => none
noncomputable def c80 : Cfg El := c88.add 80 sem80
theorem c80_ok : CfgOk c80 := c88_ok.add (fun args w => Tryd.call80 args w) (fun vs r outs ps h hp => by
  unfold sem80 at h
  split at h
  · rename_i y1 y2 y3; cases h; exact fn80 y1 y2 y3 hp
  · cases h)

noncomputable def body52 : Code := (Tryd.f52.body).getD .skip
theorem fn52 (c : S.Cong) (a1 : Int) (hp : S.cong_Cong_Least_pre c a1) : CallOk c80 52 [.agg [.int .u64 c.M, .int .u64 c.R], .int .i64 a1] (wr_i64_b (S.cong_Cong_Least c a1)) (wo_i64_b (S.cong_Cong_Least c a1)) :=
  (call_ok (c := c80) (f := 52) (fn := Tryd.f52) (code := body52) (args := ([.agg [.int .u64 c.M, .int .u64 c.R], .int .i64 a1])) (loop := noLoop) (md := ⟨false, false⟩) (rd := rd_i64_b) (wr := wr_i64_b) (wo := wo_i64_b) (r := (S.cong_Cong_Least c a1)) c80_ok (by kernel_rfl) (by kernel_rfl) (by kernel_rfl) (no_loops (by kernel_rfl)) (by kernel_rfl) (by kernel_rfl) (by kernel_rfl)
    rw_i64_b np_i64_b no_i64_b (by kernel_rfl) (Eq.mpr (show Vm.Tr.vc (Vm.Fn c80 Tryd.f52 body52 noLoop ([.agg [.int .u64 c.M, .int .u64 c.R], .int .i64 a1])) = S.cong_Cong_Least_pre c a1 by kernel_rfl) hp))

noncomputable def sem52 : List W → Option (W × List (List W) × List Prop)
  | [.agg [.int .u64 y1, .int .u64 y2], .int .i64 y3] => some (wr_i64_b (S.cong_Cong_Least (⟨y1, y2⟩ : S.Cong) y3), wo_i64_b (S.cong_Cong_Least (⟨y1, y2⟩ : S.Cong) y3), [S.cong_Cong_Least_pre (⟨y1, y2⟩ : S.Cong) y3])
  | _ => none
noncomputable def c52 : Cfg El := c80.add 52 sem52
theorem c52_ok : CfgOk c52 := c80_ok.add (fun args w => Tryd.call52 args w) (fun vs r outs ps h hp => by
  unfold sem52 at h
  split at h
  · rename_i y1 y2 y3; cases h; exact fn52 (⟨y1, y2⟩ : S.Cong) y3 hp
  · cases h)

noncomputable def body53 : Code := (Tryd.f53.body).getD .skip
theorem fn53 (c : S.Cong) (to : Int) (hp : S.cong_Cong_Greatest_pre c to) : CallOk c52 53 [.agg [.int .u64 c.M, .int .u64 c.R], .int .i64 to] (wr_i64_b (S.cong_Cong_Greatest c to)) (wo_i64_b (S.cong_Cong_Greatest c to)) :=
  (call_ok (c := c52) (f := 53) (fn := Tryd.f53) (code := body53) (args := ([.agg [.int .u64 c.M, .int .u64 c.R], .int .i64 to])) (loop := noLoop) (md := ⟨false, false⟩) (rd := rd_i64_b) (wr := wr_i64_b) (wo := wo_i64_b) (r := (S.cong_Cong_Greatest c to)) c52_ok (by kernel_rfl) (by kernel_rfl) (by kernel_rfl) (no_loops (by kernel_rfl)) (by kernel_rfl) (by kernel_rfl) (by kernel_rfl)
    rw_i64_b np_i64_b no_i64_b (by kernel_rfl) (Eq.mpr (show Vm.Tr.vc (Vm.Fn c52 Tryd.f53 body53 noLoop ([.agg [.int .u64 c.M, .int .u64 c.R], .int .i64 to])) = S.cong_Cong_Greatest_pre c to by kernel_rfl) hp))

noncomputable def sem53 : List W → Option (W × List (List W) × List Prop)
  | [.agg [.int .u64 y1, .int .u64 y2], .int .i64 y3] => some (wr_i64_b (S.cong_Cong_Greatest (⟨y1, y2⟩ : S.Cong) y3), wo_i64_b (S.cong_Cong_Greatest (⟨y1, y2⟩ : S.Cong) y3), [S.cong_Cong_Greatest_pre (⟨y1, y2⟩ : S.Cong) y3])
  | _ => none
noncomputable def c53 : Cfg El := c52.add 53 sem53
theorem c53_ok : CfgOk c53 := c52_ok.add (fun args w => Tryd.call53 args w) (fun vs r outs ps h hp => by
  unfold sem53 at h
  split at h
  · rename_i y1 y2 y3; cases h; exact fn53 (⟨y1, y2⟩ : S.Cong) y3 hp
  · cases h)

noncomputable def rd_S22 : W → List (List W) → Option (S.Inter)
  | .agg [.int .i64 x1, .int .i64 x2], [] => some ⟨x1, x2⟩
  | _, _ => none
noncomputable def wr_S22 (x : S.Inter) : W := .agg [.int .i64 x.Lo, .int .i64 x.Hi]
noncomputable def wo_S22 (_x : S.Inter) : List (List W) := []
theorem rw_S22 (v : W) (os : List (List W)) (x : S.Inter) (h : rd_S22 v os = some x) : v = wr_S22 x ∧ os = wo_S22 x := by
  unfold rd_S22 at h
  split at h <;> first | (cases h; exact ⟨rfl, rfl⟩) | cases h
theorem np_S22 (x : S.Inter) : okv (fun _ => false) (wr_S22 x) = true := rfl
theorem no_S22 (x : S.Inter) : all (fun cs => all (ok0 fun _ => false) cs) (wo_S22 x) = true := rfl

noncomputable def body55 : Code := (Tryd.f55.body).getD .skip
theorem fn55 : CallOk c53 55 [] (wr_S22 (S.inter_Empty)) (wo_S22 (S.inter_Empty)) :=
  (call_ok (c := c53) (f := 55) (fn := Tryd.f55) (code := body55) (args := ([])) (loop := noLoop) (md := ⟨false, false⟩) (rd := rd_S22) (wr := wr_S22) (wo := wo_S22) (r := S.inter_Empty) c53_ok (by kernel_rfl) (by kernel_rfl) (by kernel_rfl) (no_loops (by kernel_rfl)) (by kernel_rfl) (by kernel_rfl) (by kernel_rfl)
    rw_S22 np_S22 no_S22 (by kernel_rfl) (Tr.vc_of_noReq (by kernel_rfl)))

noncomputable def sem55 : List W → Option (W × List (List W) × List Prop)
  | [] => some (wr_S22 (S.inter_Empty), wo_S22 (S.inter_Empty), [])
  | _ => none
noncomputable def c55 : Cfg El := c53.add 55 sem55
theorem c55_ok : CfgOk c55 := c53_ok.add (fun args w => Tryd.call55 args w) (fun vs r outs ps h hp => by
  unfold sem55 at h
  split at h
  · cases h; exact fn55
  · cases h)

noncomputable def body22 : Code := (Tryd.f22.body).getD .skip
theorem fn22 (lo : Int) (hi : Int) : CallOk c55 22 [.int .i64 lo, .int .i64 hi] (wr_S22 (S.inter_Of lo hi)) (wo_S22 (S.inter_Of lo hi)) :=
  (call_ok (c := c55) (f := 22) (fn := Tryd.f22) (code := body22) (args := ([.int .i64 lo, .int .i64 hi])) (loop := noLoop) (md := ⟨false, false⟩) (rd := rd_S22) (wr := wr_S22) (wo := wo_S22) (r := (S.inter_Of lo hi)) c55_ok (by kernel_rfl) (by kernel_rfl) (by kernel_rfl) (no_loops (by kernel_rfl)) (by kernel_rfl) (by kernel_rfl) (by kernel_rfl)
    rw_S22 np_S22 no_S22 (by kernel_rfl) (Tr.vc_of_noReq (by kernel_rfl)))

noncomputable def sem22 : List W → Option (W × List (List W) × List Prop)
  | [.int .i64 y1, .int .i64 y2] => some (wr_S22 (S.inter_Of y1 y2), wo_S22 (S.inter_Of y1 y2), [])
  | _ => none
noncomputable def c22 : Cfg El := c55.add 22 sem22
theorem c22_ok : CfgOk c22 := c55_ok.add (fun args w => Tryd.call22 args w) (fun vs r outs ps h hp => by
  unfold sem22 at h
  split at h
  · rename_i y1 y2; cases h; exact fn22 y1 y2
  · cases h)

noncomputable def body73 : Code := (Tryd.f73.body).getD .skip
theorem fn73 (i : S.Inter) : CallOk c22 73 [.agg [.int .i64 i.Lo, .int .i64 i.Hi]] (wr_S22 (S.inter_Inter_plain i)) (wo_S22 (S.inter_Inter_plain i)) :=
  (call_ok (c := c22) (f := 73) (fn := Tryd.f73) (code := body73) (args := ([.agg [.int .i64 i.Lo, .int .i64 i.Hi]])) (loop := noLoop) (md := ⟨false, false⟩) (rd := rd_S22) (wr := wr_S22) (wo := wo_S22) (r := (S.inter_Inter_plain i)) c22_ok (by kernel_rfl) (by kernel_rfl) (by kernel_rfl) (no_loops (by kernel_rfl)) (by kernel_rfl) (by kernel_rfl) (by kernel_rfl)
    rw_S22 np_S22 no_S22 (by kernel_rfl) (Tr.vc_of_noReq (by kernel_rfl)))

noncomputable def sem73 : List W → Option (W × List (List W) × List Prop)
  | [.agg [.int .i64 y1, .int .i64 y2]] => some (wr_S22 (S.inter_Inter_plain (⟨y1, y2⟩ : S.Inter)), wo_S22 (S.inter_Inter_plain (⟨y1, y2⟩ : S.Inter)), [])
  | _ => none
noncomputable def c73 : Cfg El := c22.add 73 sem73
theorem c73_ok : CfgOk c73 := c22_ok.add (fun args w => Tryd.call73 args w) (fun vs r outs ps h hp => by
  unfold sem73 at h
  split at h
  · rename_i y1 y2; cases h; exact fn73 (⟨y1, y2⟩ : S.Inter)
  · cases h)

noncomputable def body54 : Code := (Tryd.f54.body).getD .skip
theorem fn54 (i : S.Inter) : CallOk c73 54 [.agg [.int .i64 i.Lo, .int .i64 i.Hi]] (wr_b (S.inter_Inter_IsEmpty i)) (wo_b (S.inter_Inter_IsEmpty i)) :=
  (call_ok (c := c73) (f := 54) (fn := Tryd.f54) (code := body54) (args := ([.agg [.int .i64 i.Lo, .int .i64 i.Hi]])) (loop := noLoop) (md := ⟨false, false⟩) (rd := rd_b) (wr := wr_b) (wo := wo_b) (r := (S.inter_Inter_IsEmpty i)) c73_ok (by kernel_rfl) (by kernel_rfl) (by kernel_rfl) (no_loops (by kernel_rfl)) (by kernel_rfl) (by kernel_rfl) (by kernel_rfl)
    rw_b np_b no_b (by kernel_rfl) (Tr.vc_of_noReq (by kernel_rfl)))

noncomputable def sem54 : List W → Option (W × List (List W) × List Prop)
  | [.agg [.int .i64 y1, .int .i64 y2]] => some (wr_b (S.inter_Inter_IsEmpty (⟨y1, y2⟩ : S.Inter)), wo_b (S.inter_Inter_IsEmpty (⟨y1, y2⟩ : S.Inter)), [])
  | _ => none
noncomputable def c54 : Cfg El := c73.add 54 sem54
theorem c54_ok : CfgOk c54 := c73_ok.add (fun args w => Tryd.call54 args w) (fun vs r outs ps h hp => by
  unfold sem54 at h
  split at h
  · rename_i y1 y2; cases h; exact fn54 (⟨y1, y2⟩ : S.Inter)
  · cases h)

noncomputable def rd_S25 : W → List (List W) → Option (S.Cong)
  | .agg [.int .u64 x1, .int .u64 x2], [] => some ⟨x1, x2⟩
  | _, _ => none
noncomputable def wr_S25 (x : S.Cong) : W := .agg [.int .u64 x.M, .int .u64 x.R]
noncomputable def wo_S25 (_x : S.Cong) : List (List W) := []
theorem rw_S25 (v : W) (os : List (List W)) (x : S.Cong) (h : rd_S25 v os = some x) : v = wr_S25 x ∧ os = wo_S25 x := by
  unfold rd_S25 at h
  split at h <;> first | (cases h; exact ⟨rfl, rfl⟩) | cases h
theorem np_S25 (x : S.Cong) : okv (fun _ => false) (wr_S25 x) = true := rfl
theorem no_S25 (x : S.Cong) : all (fun cs => all (ok0 fun _ => false) cs) (wo_S25 x) = true := rfl

noncomputable def body48 : Code := (Tryd.f48.body).getD .skip
theorem fn48 : CallOk c54 48 [] (wr_S25 (S.cong_Top)) (wo_S25 (S.cong_Top)) :=
  (call_ok (c := c54) (f := 48) (fn := Tryd.f48) (code := body48) (args := ([])) (loop := noLoop) (md := ⟨false, false⟩) (rd := rd_S25) (wr := wr_S25) (wo := wo_S25) (r := S.cong_Top) c54_ok (by kernel_rfl) (by kernel_rfl) (by kernel_rfl) (no_loops (by kernel_rfl)) (by kernel_rfl) (by kernel_rfl) (by kernel_rfl)
    rw_S25 np_S25 no_S25 (by kernel_rfl) (Tr.vc_of_noReq (by kernel_rfl)))

noncomputable def sem48 : List W → Option (W × List (List W) × List Prop)
  | [] => some (wr_S25 (S.cong_Top), wo_S25 (S.cong_Top), [])
  | _ => none
noncomputable def c48 : Cfg El := c54.add 48 sem48
theorem c48_ok : CfgOk c48 := c54_ok.add (fun args w => Tryd.call48 args w) (fun vs r outs ps h hp => by
  unfold sem48 at h
  split at h
  · cases h; exact fn48
  · cases h)

noncomputable def rd_S27 : W → List (List W) → Option (S.Value)
  | .agg [.int .i64 x1, .int .i64 x2, .int .u64 x3, .int .u64 x4], [] => some ⟨⟨x1, x2⟩, ⟨x3, x4⟩⟩
  | _, _ => none
noncomputable def wr_S27 (x : S.Value) : W := .agg [.int .i64 x.I.Lo, .int .i64 x.I.Hi, .int .u64 x.C.M, .int .u64 x.C.R]
noncomputable def wo_S27 (_x : S.Value) : List (List W) := []
theorem rw_S27 (v : W) (os : List (List W)) (x : S.Value) (h : rd_S27 v os = some x) : v = wr_S27 x ∧ os = wo_S27 x := by
  unfold rd_S27 at h
  split at h <;> first | (cases h; exact ⟨rfl, rfl⟩) | cases h
theorem np_S27 (x : S.Value) : okv (fun _ => false) (wr_S27 x) = true := rfl
theorem no_S27 (x : S.Value) : all (fun cs => all (ok0 fun _ => false) cs) (wo_S27 x) = true := rfl

noncomputable def body28 : Code := (Tryd.f28.body).getD .skip
theorem fn28 : CallOk c48 28 [] (wr_S27 (S.value_Bottom)) (wo_S27 (S.value_Bottom)) :=
  (call_ok (c := c48) (f := 28) (fn := Tryd.f28) (code := body28) (args := ([])) (loop := noLoop) (md := ⟨false, false⟩) (rd := rd_S27) (wr := wr_S27) (wo := wo_S27) (r := S.value_Bottom) c48_ok (by kernel_rfl) (by kernel_rfl) (by kernel_rfl) (no_loops (by kernel_rfl)) (by kernel_rfl) (by kernel_rfl) (by kernel_rfl)
    rw_S27 np_S27 no_S27 (by kernel_rfl) (Tr.vc_of_noReq (by kernel_rfl)))

noncomputable def sem28 : List W → Option (W × List (List W) × List Prop)
  | [] => some (wr_S27 (S.value_Bottom), wo_S27 (S.value_Bottom), [])
  | _ => none
noncomputable def c28 : Cfg El := c48.add 28 sem28
theorem c28_ok : CfgOk c28 := c48_ok.add (fun args w => Tryd.call28 args w) (fun vs r outs ps h hp => by
  unfold sem28 at h
  split at h
  · cases h; exact fn28
  · cases h)

noncomputable def body58 : Code := (Tryd.f58.body).getD .skip
theorem fn58 (n : Int) : CallOk c28 58 [.int .i64 n] (wr_S22 (S.inter_One n)) (wo_S22 (S.inter_One n)) :=
  (call_ok (c := c28) (f := 58) (fn := Tryd.f58) (code := body58) (args := ([.int .i64 n])) (loop := noLoop) (md := ⟨false, false⟩) (rd := rd_S22) (wr := wr_S22) (wo := wo_S22) (r := (S.inter_One n)) c28_ok (by kernel_rfl) (by kernel_rfl) (by kernel_rfl) (no_loops (by kernel_rfl)) (by kernel_rfl) (by kernel_rfl) (by kernel_rfl)
    rw_S22 np_S22 no_S22 (by kernel_rfl) (Tr.vc_of_noReq (by kernel_rfl)))

noncomputable def sem58 : List W → Option (W × List (List W) × List Prop)
  | [.int .i64 y1] => some (wr_S22 (S.inter_One y1), wo_S22 (S.inter_One y1), [])
  | _ => none
noncomputable def c58 : Cfg El := c28.add 58 sem58
theorem c58_ok : CfgOk c58 := c28_ok.add (fun args w => Tryd.call58 args w) (fun vs r outs ps h hp => by
  unfold sem58 at h
  split at h
  · rename_i y1; cases h; exact fn58 y1
  · cases h)

noncomputable def body56 : Code := (Tryd.f56.body).getD .skip
theorem fn56 (n : Int) : CallOk c58 56 [.int .i64 n] (wr_S25 (S.cong_Const n)) (wo_S25 (S.cong_Const n)) :=
  (call_ok (c := c58) (f := 56) (fn := Tryd.f56) (code := body56) (args := ([.int .i64 n])) (loop := noLoop) (md := ⟨false, false⟩) (rd := rd_S25) (wr := wr_S25) (wo := wo_S25) (r := (S.cong_Const n)) c58_ok (by kernel_rfl) (by kernel_rfl) (by kernel_rfl) (no_loops (by kernel_rfl)) (by kernel_rfl) (by kernel_rfl) (by kernel_rfl)
    rw_S25 np_S25 no_S25 (by kernel_rfl) (Tr.vc_of_noReq (by kernel_rfl)))

noncomputable def sem56 : List W → Option (W × List (List W) × List Prop)
  | [.int .i64 y1] => some (wr_S25 (S.cong_Const y1), wo_S25 (S.cong_Const y1), [])
  | _ => none
noncomputable def c56 : Cfg El := c58.add 56 sem56
theorem c56_ok : CfgOk c56 := c58_ok.add (fun args w => Tryd.call56 args w) (fun vs r outs ps h hp => by
  unfold sem56 at h
  split at h
  · rename_i y1; cases h; exact fn56 y1
  · cases h)

noncomputable def body24 : Code := (Tryd.f24.body).getD .skip
theorem fn24 (n : Int) : CallOk c56 24 [.int .i64 n] (wr_S27 (S.value_One n)) (wo_S27 (S.value_One n)) :=
  (call_ok (c := c56) (f := 24) (fn := Tryd.f24) (code := body24) (args := ([.int .i64 n])) (loop := noLoop) (md := ⟨false, false⟩) (rd := rd_S27) (wr := wr_S27) (wo := wo_S27) (r := (S.value_One n)) c56_ok (by kernel_rfl) (by kernel_rfl) (by kernel_rfl) (no_loops (by kernel_rfl)) (by kernel_rfl) (by kernel_rfl) (by kernel_rfl)
    rw_S27 np_S27 no_S27 (by kernel_rfl) (Tr.vc_of_noReq (by kernel_rfl)))

noncomputable def sem24 : List W → Option (W × List (List W) × List Prop)
  | [.int .i64 y1] => some (wr_S27 (S.value_One y1), wo_S27 (S.value_One y1), [])
  | _ => none
noncomputable def c24 : Cfg El := c56.add 24 sem24
theorem c24_ok : CfgOk c24 := c56_ok.add (fun args w => Tryd.call24 args w) (fun vs r outs ps h hp => by
  unfold sem24 at h
  split at h
  · rename_i y1; cases h; exact fn24 y1
  · cases h)

noncomputable def body21 : Code := (Tryd.f21.body).getD .skip
theorem fn21 (i : S.Inter) (c : S.Cong) (hp : S.value_Make_pre i c) : CallOk c24 21 [.agg [.int .i64 i.Lo, .int .i64 i.Hi], .agg [.int .u64 c.M, .int .u64 c.R]] (wr_S27 (S.value_Make i c)) (wo_S27 (S.value_Make i c)) :=
  (call_ok (c := c24) (f := 21) (fn := Tryd.f21) (code := body21) (args := ([.agg [.int .i64 i.Lo, .int .i64 i.Hi], .agg [.int .u64 c.M, .int .u64 c.R]])) (loop := noLoop) (md := ⟨false, false⟩) (rd := rd_S27) (wr := wr_S27) (wo := wo_S27) (r := (S.value_Make i c)) c24_ok (by kernel_rfl) (by kernel_rfl) (by kernel_rfl) (no_loops (by kernel_rfl)) (by kernel_rfl) (by kernel_rfl) (by kernel_rfl)
    rw_S27 np_S27 no_S27 (by kernel_rfl) (Eq.mpr (show Vm.Tr.vc (Vm.Fn c24 Tryd.f21 body21 noLoop ([.agg [.int .i64 i.Lo, .int .i64 i.Hi], .agg [.int .u64 c.M, .int .u64 c.R]])) = S.value_Make_pre i c by kernel_rfl) hp))

noncomputable def sem21 : List W → Option (W × List (List W) × List Prop)
  | [.agg [.int .i64 y1, .int .i64 y2], .agg [.int .u64 y3, .int .u64 y4]] => some (wr_S27 (S.value_Make (⟨y1, y2⟩ : S.Inter) (⟨y3, y4⟩ : S.Cong)), wo_S27 (S.value_Make (⟨y1, y2⟩ : S.Inter) (⟨y3, y4⟩ : S.Cong)), [S.value_Make_pre (⟨y1, y2⟩ : S.Inter) (⟨y3, y4⟩ : S.Cong)])
  | _ => none
noncomputable def c21 : Cfg El := c24.add 21 sem21
theorem c21_ok : CfgOk c21 := c24_ok.add (fun args w => Tryd.call21 args w) (fun vs r outs ps h hp => by
  unfold sem21 at h
  split at h
  · rename_i y1 y2 y3 y4; cases h; exact fn21 (⟨y1, y2⟩ : S.Inter) (⟨y3, y4⟩ : S.Cong) hp
  · cases h)

noncomputable def body43 : Code := (Tryd.f43.body).getD .skip
theorem fn43 (v : S.Value) (hp : S.cond_plain_pre v) : CallOk c21 43 [.agg [.int .i64 v.I.Lo, .int .i64 v.I.Hi, .int .u64 v.C.M, .int .u64 v.C.R]] (wr_S27 (S.cond_plain v)) (wo_S27 (S.cond_plain v)) :=
  (call_ok (c := c21) (f := 43) (fn := Tryd.f43) (code := body43) (args := ([.agg [.int .i64 v.I.Lo, .int .i64 v.I.Hi, .int .u64 v.C.M, .int .u64 v.C.R]])) (loop := noLoop) (md := ⟨false, false⟩) (rd := rd_S27) (wr := wr_S27) (wo := wo_S27) (r := (S.cond_plain v)) c21_ok (by kernel_rfl) (by kernel_rfl) (by kernel_rfl) (no_loops (by kernel_rfl)) (by kernel_rfl) (by kernel_rfl) (by kernel_rfl)
    rw_S27 np_S27 no_S27 (by kernel_rfl) (Eq.mpr (show Vm.Tr.vc (Vm.Fn c21 Tryd.f43 body43 noLoop ([.agg [.int .i64 v.I.Lo, .int .i64 v.I.Hi, .int .u64 v.C.M, .int .u64 v.C.R]])) = S.cond_plain_pre v by kernel_rfl) hp))

noncomputable def sem43 : List W → Option (W × List (List W) × List Prop)
  | [.agg [.int .i64 y1, .int .i64 y2, .int .u64 y3, .int .u64 y4]] => some (wr_S27 (S.cond_plain (⟨(⟨y1, y2⟩ : S.Inter), (⟨y3, y4⟩ : S.Cong)⟩ : S.Value)), wo_S27 (S.cond_plain (⟨(⟨y1, y2⟩ : S.Inter), (⟨y3, y4⟩ : S.Cong)⟩ : S.Value)), [S.cond_plain_pre (⟨(⟨y1, y2⟩ : S.Inter), (⟨y3, y4⟩ : S.Cong)⟩ : S.Value)])
  | _ => none
noncomputable def c43 : Cfg El := c21.add 43 sem43
theorem c43_ok : CfgOk c43 := c21_ok.add (fun args w => Tryd.call43 args w) (fun vs r outs ps h hp => by
  unfold sem43 at h
  split at h
  · rename_i y1 y2 y3 y4; cases h; exact fn43 (⟨(⟨y1, y2⟩ : S.Inter), (⟨y3, y4⟩ : S.Cong)⟩ : S.Value) hp
  · cases h)

noncomputable def body36 : Code := (Tryd.f36.body).getD .skip
theorem fn36 (v : S.Value) (hp : S.value_Value_reduced_pre v) : CallOk c43 36 [.agg [.int .i64 v.I.Lo, .int .i64 v.I.Hi, .int .u64 v.C.M, .int .u64 v.C.R]] (wr_S27 (S.value_Value_reduced v)) (wo_S27 (S.value_Value_reduced v)) :=
  (call_ok (c := c43) (f := 36) (fn := Tryd.f36) (code := body36) (args := ([.agg [.int .i64 v.I.Lo, .int .i64 v.I.Hi, .int .u64 v.C.M, .int .u64 v.C.R]])) (loop := noLoop) (md := ⟨false, false⟩) (rd := rd_S27) (wr := wr_S27) (wo := wo_S27) (r := (S.value_Value_reduced v)) c43_ok (by kernel_rfl) (by kernel_rfl) (by kernel_rfl) (no_loops (by kernel_rfl)) (by kernel_rfl) (by kernel_rfl) (by kernel_rfl)
    rw_S27 np_S27 no_S27 (by kernel_rfl) (Eq.mpr (show Vm.Tr.vc (Vm.Fn c43 Tryd.f36 body36 noLoop ([.agg [.int .i64 v.I.Lo, .int .i64 v.I.Hi, .int .u64 v.C.M, .int .u64 v.C.R]])) = S.value_Value_reduced_pre v by kernel_rfl) hp))

noncomputable def sem36 : List W → Option (W × List (List W) × List Prop)
  | [.agg [.int .i64 y1, .int .i64 y2, .int .u64 y3, .int .u64 y4]] => some (wr_S27 (S.value_Value_reduced (⟨(⟨y1, y2⟩ : S.Inter), (⟨y3, y4⟩ : S.Cong)⟩ : S.Value)), wo_S27 (S.value_Value_reduced (⟨(⟨y1, y2⟩ : S.Inter), (⟨y3, y4⟩ : S.Cong)⟩ : S.Value)), [S.value_Value_reduced_pre (⟨(⟨y1, y2⟩ : S.Inter), (⟨y3, y4⟩ : S.Cong)⟩ : S.Value)])
  | _ => none
noncomputable def c36 : Cfg El := c43.add 36 sem36
theorem c36_ok : CfgOk c36 := c43_ok.add (fun args w => Tryd.call36 args w) (fun vs r outs ps h hp => by
  unfold sem36 at h
  split at h
  · rename_i y1 y2 y3 y4; cases h; exact fn36 (⟨(⟨y1, y2⟩ : S.Inter), (⟨y3, y4⟩ : S.Cong)⟩ : S.Value) hp
  · cases h)

noncomputable def body16 : Code := (Tryd.f16.body).getD .skip
theorem fn16 (v : S.Value) (hp : S.value_Value_IsBottom_pre v) : CallOk c36 16 [.agg [.int .i64 v.I.Lo, .int .i64 v.I.Hi, .int .u64 v.C.M, .int .u64 v.C.R]] (wr_b (S.value_Value_IsBottom v)) (wo_b (S.value_Value_IsBottom v)) :=
  (call_ok (c := c36) (f := 16) (fn := Tryd.f16) (code := body16) (args := ([.agg [.int .i64 v.I.Lo, .int .i64 v.I.Hi, .int .u64 v.C.M, .int .u64 v.C.R]])) (loop := noLoop) (md := ⟨false, false⟩) (rd := rd_b) (wr := wr_b) (wo := wo_b) (r := (S.value_Value_IsBottom v)) c36_ok (by kernel_rfl) (by kernel_rfl) (by kernel_rfl) (no_loops (by kernel_rfl)) (by kernel_rfl) (by kernel_rfl) (by kernel_rfl)
    rw_b np_b no_b (by kernel_rfl) (Eq.mpr (show Vm.Tr.vc (Vm.Fn c36 Tryd.f16 body16 noLoop ([.agg [.int .i64 v.I.Lo, .int .i64 v.I.Hi, .int .u64 v.C.M, .int .u64 v.C.R]])) = S.value_Value_IsBottom_pre v by kernel_rfl) hp))

noncomputable def sem16 : List W → Option (W × List (List W) × List Prop)
  | [.agg [.int .i64 y1, .int .i64 y2, .int .u64 y3, .int .u64 y4]] => some (wr_b (S.value_Value_IsBottom (⟨(⟨y1, y2⟩ : S.Inter), (⟨y3, y4⟩ : S.Cong)⟩ : S.Value)), wo_b (S.value_Value_IsBottom (⟨(⟨y1, y2⟩ : S.Inter), (⟨y3, y4⟩ : S.Cong)⟩ : S.Value)), [S.value_Value_IsBottom_pre (⟨(⟨y1, y2⟩ : S.Inter), (⟨y3, y4⟩ : S.Cong)⟩ : S.Value)])
  | _ => none
noncomputable def c16 : Cfg El := c36.add 16 sem16
theorem c16_ok : CfgOk c16 := c36_ok.add (fun args w => Tryd.call16 args w) (fun vs r outs ps h hp => by
  unfold sem16 at h
  split at h
  · rename_i y1 y2 y3 y4; cases h; exact fn16 (⟨(⟨y1, y2⟩ : S.Inter), (⟨y3, y4⟩ : S.Cong)⟩ : S.Value) hp
  · cases h)

noncomputable def body50 : Code := (Tryd.f50.body).getD .skip
theorem fn50 : CallOk c16 50 [] (wr_S22 (S.inter_Whole)) (wo_S22 (S.inter_Whole)) :=
  (call_ok (c := c16) (f := 50) (fn := Tryd.f50) (code := body50) (args := ([])) (loop := noLoop) (md := ⟨false, false⟩) (rd := rd_S22) (wr := wr_S22) (wo := wo_S22) (r := S.inter_Whole) c16_ok (by kernel_rfl) (by kernel_rfl) (by kernel_rfl) (no_loops (by kernel_rfl)) (by kernel_rfl) (by kernel_rfl) (by kernel_rfl)
    rw_S22 np_S22 no_S22 (by kernel_rfl) (Tr.vc_of_noReq (by kernel_rfl)))

noncomputable def sem50 : List W → Option (W × List (List W) × List Prop)
  | [] => some (wr_S22 (S.inter_Whole), wo_S22 (S.inter_Whole), [])
  | _ => none
noncomputable def c50 : Cfg El := c16.add 50 sem50
theorem c50_ok : CfgOk c50 := c16_ok.add (fun args w => Tryd.call50 args w) (fun vs r outs ps h hp => by
  unfold sem50 at h
  split at h
  · cases h; exact fn50
  · cases h)

noncomputable def body32 : Code := (Tryd.f32.body).getD .skip
theorem fn32 : CallOk c50 32 [] (wr_S27 (S.value_Top)) (wo_S27 (S.value_Top)) :=
  (call_ok (c := c50) (f := 32) (fn := Tryd.f32) (code := body32) (args := ([])) (loop := noLoop) (md := ⟨false, false⟩) (rd := rd_S27) (wr := wr_S27) (wo := wo_S27) (r := S.value_Top) c50_ok (by kernel_rfl) (by kernel_rfl) (by kernel_rfl) (no_loops (by kernel_rfl)) (by kernel_rfl) (by kernel_rfl) (by kernel_rfl)
    rw_S27 np_S27 no_S27 (by kernel_rfl) (Tr.vc_of_noReq (by kernel_rfl)))

noncomputable def sem32 : List W → Option (W × List (List W) × List Prop)
  | [] => some (wr_S27 (S.value_Top), wo_S27 (S.value_Top), [])
  | _ => none
noncomputable def c32 : Cfg El := c50.add 32 sem32
theorem c32_ok : CfgOk c32 := c50_ok.add (fun args w => Tryd.call32 args w) (fun vs r outs ps h hp => by
  unfold sem32 at h
  split at h
  · cases h; exact fn32
  · cases h)

noncomputable def body49 : Code := (Tryd.f49.body).getD .skip
theorem fn49 : CallOk c32 49 [] (wr_S27 (S.cond_zero)) (wo_S27 (S.cond_zero)) :=
  (call_ok (c := c32) (f := 49) (fn := Tryd.f49) (code := body49) (args := ([])) (loop := noLoop) (md := ⟨false, false⟩) (rd := rd_S27) (wr := wr_S27) (wo := wo_S27) (r := S.cond_zero) c32_ok (by kernel_rfl) (by kernel_rfl) (by kernel_rfl) (no_loops (by kernel_rfl)) (by kernel_rfl) (by kernel_rfl) (by kernel_rfl)
    rw_S27 np_S27 no_S27 (by kernel_rfl) (Tr.vc_of_noReq (by kernel_rfl)))

noncomputable def sem49 : List W → Option (W × List (List W) × List Prop)
  | [] => some (wr_S27 (S.cond_zero), wo_S27 (S.cond_zero), [])
  | _ => none
noncomputable def c49 : Cfg El := c32.add 49 sem49
theorem c49_ok : CfgOk c49 := c32_ok.add (fun args w => Tryd.call49 args w) (fun vs r outs ps h hp => by
  unfold sem49 at h
  split at h
  · cases h; exact fn49
  · cases h)

noncomputable def body72 : Code := (Tryd.f72.body).getD .skip
theorem fn72 (i : S.Inter) (n : Int) : CallOk c49 72 [.agg [.int .i64 i.Lo, .int .i64 i.Hi], .int .i64 n] (wr_b (S.inter_Inter_Has i n)) (wo_b (S.inter_Inter_Has i n)) :=
  (call_ok (c := c49) (f := 72) (fn := Tryd.f72) (code := body72) (args := ([.agg [.int .i64 i.Lo, .int .i64 i.Hi], .int .i64 n])) (loop := noLoop) (md := ⟨false, false⟩) (rd := rd_b) (wr := wr_b) (wo := wo_b) (r := (S.inter_Inter_Has i n)) c49_ok (by kernel_rfl) (by kernel_rfl) (by kernel_rfl) (no_loops (by kernel_rfl)) (by kernel_rfl) (by kernel_rfl) (by kernel_rfl)
    rw_b np_b no_b (by kernel_rfl) (Tr.vc_of_noReq (by kernel_rfl)))

noncomputable def sem72 : List W → Option (W × List (List W) × List Prop)
  | [.agg [.int .i64 y1, .int .i64 y2], .int .i64 y3] => some (wr_b (S.inter_Inter_Has (⟨y1, y2⟩ : S.Inter) y3), wo_b (S.inter_Inter_Has (⟨y1, y2⟩ : S.Inter) y3), [])
  | _ => none
noncomputable def c72 : Cfg El := c49.add 72 sem72
theorem c72_ok : CfgOk c72 := c49_ok.add (fun args w => Tryd.call72 args w) (fun vs r outs ps h hp => by
  unfold sem72 at h
  split at h
  · rename_i y1 y2 y3; cases h; exact fn72 (⟨y1, y2⟩ : S.Inter) y3
  · cases h)

noncomputable def body37 : Code := (Tryd.f37.body).getD .skip
theorem fn37 (a : S.Inter) (b : S.Inter) : CallOk c72 37 [.agg [.int .i64 a.Lo, .int .i64 a.Hi], .agg [.int .i64 b.Lo, .int .i64 b.Hi]] (wr_b (S.inter_Within a b)) (wo_b (S.inter_Within a b)) :=
  (call_ok (c := c72) (f := 37) (fn := Tryd.f37) (code := body37) (args := ([.agg [.int .i64 a.Lo, .int .i64 a.Hi], .agg [.int .i64 b.Lo, .int .i64 b.Hi]])) (loop := noLoop) (md := ⟨false, false⟩) (rd := rd_b) (wr := wr_b) (wo := wo_b) (r := (S.inter_Within a b)) c72_ok (by kernel_rfl) (by kernel_rfl) (by kernel_rfl) (no_loops (by kernel_rfl)) (by kernel_rfl) (by kernel_rfl) (by kernel_rfl)
    rw_b np_b no_b (by kernel_rfl) (Tr.vc_of_noReq (by kernel_rfl)))

noncomputable def sem37 : List W → Option (W × List (List W) × List Prop)
  | [.agg [.int .i64 y1, .int .i64 y2], .agg [.int .i64 y3, .int .i64 y4]] => some (wr_b (S.inter_Within (⟨y1, y2⟩ : S.Inter) (⟨y3, y4⟩ : S.Inter)), wo_b (S.inter_Within (⟨y1, y2⟩ : S.Inter) (⟨y3, y4⟩ : S.Inter)), [])
  | _ => none
noncomputable def c37 : Cfg El := c72.add 37 sem37
theorem c37_ok : CfgOk c37 := c72_ok.add (fun args w => Tryd.call37 args w) (fun vs r outs ps h hp => by
  unfold sem37 at h
  split at h
  · rename_i y1 y2 y3 y4; cases h; exact fn37 (⟨y1, y2⟩ : S.Inter) (⟨y3, y4⟩ : S.Inter)
  · cases h)

noncomputable def body66 : Code := (Tryd.f66.body).getD .skip
theorem fn66 (c : S.Cong) (g : Int) (hp : S.cong_Cong_by_pre c g) : CallOk c37 66 [.agg [.int .u64 c.M, .int .u64 c.R], .int .u64 g] (wr_u64 (S.cong_Cong_by c g)) (wo_u64 (S.cong_Cong_by c g)) :=
  (call_ok (c := c37) (f := 66) (fn := Tryd.f66) (code := body66) (args := ([.agg [.int .u64 c.M, .int .u64 c.R], .int .u64 g])) (loop := noLoop) (md := ⟨false, false⟩) (rd := rd_u64) (wr := wr_u64) (wo := wo_u64) (r := (S.cong_Cong_by c g)) c37_ok (by kernel_rfl) (by kernel_rfl) (by kernel_rfl) (no_loops (by kernel_rfl)) (by kernel_rfl) (by kernel_rfl) (by kernel_rfl)
    rw_u64 np_u64 no_u64 (by kernel_rfl) (Eq.mpr (show Vm.Tr.vc (Vm.Fn c37 Tryd.f66 body66 noLoop ([.agg [.int .u64 c.M, .int .u64 c.R], .int .u64 g])) = S.cong_Cong_by_pre c g by kernel_rfl) hp))

noncomputable def sem66 : List W → Option (W × List (List W) × List Prop)
  | [.agg [.int .u64 y1, .int .u64 y2], .int .u64 y3] => some (wr_u64 (S.cong_Cong_by (⟨y1, y2⟩ : S.Cong) y3), wo_u64 (S.cong_Cong_by (⟨y1, y2⟩ : S.Cong) y3), [S.cong_Cong_by_pre (⟨y1, y2⟩ : S.Cong) y3])
  | _ => none
noncomputable def c66 : Cfg El := c37.add 66 sem66
theorem c66_ok : CfgOk c66 := c37_ok.add (fun args w => Tryd.call66 args w) (fun vs r outs ps h hp => by
  unfold sem66 at h
  split at h
  · rename_i y1 y2 y3; cases h; exact fn66 (⟨y1, y2⟩ : S.Cong) y3 hp
  · cases h)

noncomputable def body38 : Code := (Tryd.f38.body).getD .skip
theorem fn38 (a : S.Cong) (b : S.Cong) (hp : S.cong_Within_pre a b) : CallOk c66 38 [.agg [.int .u64 a.M, .int .u64 a.R], .agg [.int .u64 b.M, .int .u64 b.R]] (wr_b (S.cong_Within a b)) (wo_b (S.cong_Within a b)) :=
  (call_ok (c := c66) (f := 38) (fn := Tryd.f38) (code := body38) (args := ([.agg [.int .u64 a.M, .int .u64 a.R], .agg [.int .u64 b.M, .int .u64 b.R]])) (loop := noLoop) (md := ⟨false, false⟩) (rd := rd_b) (wr := wr_b) (wo := wo_b) (r := (S.cong_Within a b)) c66_ok (by kernel_rfl) (by kernel_rfl) (by kernel_rfl) (no_loops (by kernel_rfl)) (by kernel_rfl) (by kernel_rfl) (by kernel_rfl)
    rw_b np_b no_b (by kernel_rfl) (Eq.mpr (show Vm.Tr.vc (Vm.Fn c66 Tryd.f38 body38 noLoop ([.agg [.int .u64 a.M, .int .u64 a.R], .agg [.int .u64 b.M, .int .u64 b.R]])) = S.cong_Within_pre a b by kernel_rfl) hp))

noncomputable def sem38 : List W → Option (W × List (List W) × List Prop)
  | [.agg [.int .u64 y1, .int .u64 y2], .agg [.int .u64 y3, .int .u64 y4]] => some (wr_b (S.cong_Within (⟨y1, y2⟩ : S.Cong) (⟨y3, y4⟩ : S.Cong)), wo_b (S.cong_Within (⟨y1, y2⟩ : S.Cong) (⟨y3, y4⟩ : S.Cong)), [S.cong_Within_pre (⟨y1, y2⟩ : S.Cong) (⟨y3, y4⟩ : S.Cong)])
  | _ => none
noncomputable def c38 : Cfg El := c66.add 38 sem38
theorem c38_ok : CfgOk c38 := c66_ok.add (fun args w => Tryd.call38 args w) (fun vs r outs ps h hp => by
  unfold sem38 at h
  split at h
  · rename_i y1 y2 y3 y4; cases h; exact fn38 (⟨y1, y2⟩ : S.Cong) (⟨y3, y4⟩ : S.Cong) hp
  · cases h)

noncomputable def body9 : Code := (Tryd.f9.body).getD .skip
theorem fn9 (a : S.Value) (b : S.Value) (hp : S.value_Within_pre a b) : CallOk c38 9 [.agg [.int .i64 a.I.Lo, .int .i64 a.I.Hi, .int .u64 a.C.M, .int .u64 a.C.R], .agg [.int .i64 b.I.Lo, .int .i64 b.I.Hi, .int .u64 b.C.M, .int .u64 b.C.R]] (wr_b (S.value_Within a b)) (wo_b (S.value_Within a b)) :=
  (call_ok (c := c38) (f := 9) (fn := Tryd.f9) (code := body9) (args := ([.agg [.int .i64 a.I.Lo, .int .i64 a.I.Hi, .int .u64 a.C.M, .int .u64 a.C.R], .agg [.int .i64 b.I.Lo, .int .i64 b.I.Hi, .int .u64 b.C.M, .int .u64 b.C.R]])) (loop := noLoop) (md := ⟨false, false⟩) (rd := rd_b) (wr := wr_b) (wo := wo_b) (r := (S.value_Within a b)) c38_ok (by kernel_rfl) (by kernel_rfl) (by kernel_rfl) (no_loops (by kernel_rfl)) (by kernel_rfl) (by kernel_rfl) (by kernel_rfl)
    rw_b np_b no_b (by kernel_rfl) (Eq.mpr (show Vm.Tr.vc (Vm.Fn c38 Tryd.f9 body9 noLoop ([.agg [.int .i64 a.I.Lo, .int .i64 a.I.Hi, .int .u64 a.C.M, .int .u64 a.C.R], .agg [.int .i64 b.I.Lo, .int .i64 b.I.Hi, .int .u64 b.C.M, .int .u64 b.C.R]])) = S.value_Within_pre a b by kernel_rfl) hp))

noncomputable def sem9 : List W → Option (W × List (List W) × List Prop)
  | [.agg [.int .i64 y1, .int .i64 y2, .int .u64 y3, .int .u64 y4], .agg [.int .i64 y5, .int .i64 y6, .int .u64 y7, .int .u64 y8]] => some (wr_b (S.value_Within (⟨(⟨y1, y2⟩ : S.Inter), (⟨y3, y4⟩ : S.Cong)⟩ : S.Value) (⟨(⟨y5, y6⟩ : S.Inter), (⟨y7, y8⟩ : S.Cong)⟩ : S.Value)), wo_b (S.value_Within (⟨(⟨y1, y2⟩ : S.Inter), (⟨y3, y4⟩ : S.Cong)⟩ : S.Value) (⟨(⟨y5, y6⟩ : S.Inter), (⟨y7, y8⟩ : S.Cong)⟩ : S.Value)), [S.value_Within_pre (⟨(⟨y1, y2⟩ : S.Inter), (⟨y3, y4⟩ : S.Cong)⟩ : S.Value) (⟨(⟨y5, y6⟩ : S.Inter), (⟨y7, y8⟩ : S.Cong)⟩ : S.Value)])
  | _ => none
noncomputable def c9 : Cfg El := c38.add 9 sem9
theorem c9_ok : CfgOk c9 := c38_ok.add (fun args w => Tryd.call9 args w) (fun vs r outs ps h hp => by
  unfold sem9 at h
  split at h
  · rename_i y1 y2 y3 y4 y5 y6 y7 y8; cases h; exact fn9 (⟨(⟨y1, y2⟩ : S.Inter), (⟨y3, y4⟩ : S.Cong)⟩ : S.Value) (⟨(⟨y5, y6⟩ : S.Inter), (⟨y7, y8⟩ : S.Cong)⟩ : S.Value) hp
  · cases h)

noncomputable def body8 : Code := (Tryd.f8.body).getD .skip
theorem fn8 (v : S.Value) (n : Int) (hp : S.value_Value_Has_pre v n) : CallOk c9 8 [.agg [.int .i64 v.I.Lo, .int .i64 v.I.Hi, .int .u64 v.C.M, .int .u64 v.C.R], .int .i64 n] (wr_b (S.value_Value_Has v n)) (wo_b (S.value_Value_Has v n)) :=
  (call_ok (c := c9) (f := 8) (fn := Tryd.f8) (code := body8) (args := ([.agg [.int .i64 v.I.Lo, .int .i64 v.I.Hi, .int .u64 v.C.M, .int .u64 v.C.R], .int .i64 n])) (loop := noLoop) (md := ⟨false, false⟩) (rd := rd_b) (wr := wr_b) (wo := wo_b) (r := (S.value_Value_Has v n)) c9_ok (by kernel_rfl) (by kernel_rfl) (by kernel_rfl) (no_loops (by kernel_rfl)) (by kernel_rfl) (by kernel_rfl) (by kernel_rfl)
    rw_b np_b no_b (by kernel_rfl) (Eq.mpr (show Vm.Tr.vc (Vm.Fn c9 Tryd.f8 body8 noLoop ([.agg [.int .i64 v.I.Lo, .int .i64 v.I.Hi, .int .u64 v.C.M, .int .u64 v.C.R], .int .i64 n])) = S.value_Value_Has_pre v n by kernel_rfl) hp))

noncomputable def sem8 : List W → Option (W × List (List W) × List Prop)
  | [.agg [.int .i64 y1, .int .i64 y2, .int .u64 y3, .int .u64 y4], .int .i64 y5] => some (wr_b (S.value_Value_Has (⟨(⟨y1, y2⟩ : S.Inter), (⟨y3, y4⟩ : S.Cong)⟩ : S.Value) y5), wo_b (S.value_Value_Has (⟨(⟨y1, y2⟩ : S.Inter), (⟨y3, y4⟩ : S.Cong)⟩ : S.Value) y5), [S.value_Value_Has_pre (⟨(⟨y1, y2⟩ : S.Inter), (⟨y3, y4⟩ : S.Cong)⟩ : S.Value) y5])
  | _ => none
noncomputable def c8 : Cfg El := c9.add 8 sem8
theorem c8_ok : CfgOk c8 := c9_ok.add (fun args w => Tryd.call8 args w) (fun vs r outs ps h hp => by
  unfold sem8 at h
  split at h
  · rename_i y1 y2 y3 y4 y5; cases h; exact fn8 (⟨(⟨y1, y2⟩ : S.Inter), (⟨y3, y4⟩ : S.Cong)⟩ : S.Value) y5 hp
  · cases h)

noncomputable def rd_b_b : W → List (List W) → Option (Bool × Bool)
  | .tup [.bool x1, .bool x2], [] => some ⟨x1, x2⟩
  | _, _ => none
noncomputable def wr_b_b (x : Bool × Bool) : W := .tup [.bool x.1, .bool x.2]
noncomputable def wo_b_b (_x : Bool × Bool) : List (List W) := []
theorem rw_b_b (v : W) (os : List (List W)) (x : Bool × Bool) (h : rd_b_b v os = some x) : v = wr_b_b x ∧ os = wo_b_b x := by
  unfold rd_b_b at h
  split at h <;> first | (cases h; exact ⟨rfl, rfl⟩) | cases h
theorem np_b_b (x : Bool × Bool) : okv (fun _ => false) (wr_b_b x) = true := rfl
theorem no_b_b (x : Bool × Bool) : all (fun cs => all (ok0 fun _ => false) cs) (wo_b_b x) = true := rfl

noncomputable def body19 : Code := (Tryd.f19.body).getD .skip
theorem fn19 (v : S.Value) (hp : S.cond_Truth_pre v) : CallOk c8 19 [.agg [.int .i64 v.I.Lo, .int .i64 v.I.Hi, .int .u64 v.C.M, .int .u64 v.C.R]] (wr_b_b (S.cond_Truth v)) (wo_b_b (S.cond_Truth v)) :=
  (call_ok (c := c8) (f := 19) (fn := Tryd.f19) (code := body19) (args := ([.agg [.int .i64 v.I.Lo, .int .i64 v.I.Hi, .int .u64 v.C.M, .int .u64 v.C.R]])) (loop := noLoop) (md := ⟨false, false⟩) (rd := rd_b_b) (wr := wr_b_b) (wo := wo_b_b) (r := (S.cond_Truth v)) c8_ok (by kernel_rfl) (by kernel_rfl) (by kernel_rfl) (no_loops (by kernel_rfl)) (by kernel_rfl) (by kernel_rfl) (by kernel_rfl)
    rw_b_b np_b_b no_b_b (by kernel_rfl) (Eq.mpr (show Vm.Tr.vc (Vm.Fn c8 Tryd.f19 body19 noLoop ([.agg [.int .i64 v.I.Lo, .int .i64 v.I.Hi, .int .u64 v.C.M, .int .u64 v.C.R]])) = S.cond_Truth_pre v by kernel_rfl) hp))

noncomputable def sem19 : List W → Option (W × List (List W) × List Prop)
  | [.agg [.int .i64 y1, .int .i64 y2, .int .u64 y3, .int .u64 y4]] => some (wr_b_b (S.cond_Truth (⟨(⟨y1, y2⟩ : S.Inter), (⟨y3, y4⟩ : S.Cong)⟩ : S.Value)), wo_b_b (S.cond_Truth (⟨(⟨y1, y2⟩ : S.Inter), (⟨y3, y4⟩ : S.Cong)⟩ : S.Value)), [S.cond_Truth_pre (⟨(⟨y1, y2⟩ : S.Inter), (⟨y3, y4⟩ : S.Cong)⟩ : S.Value)])
  | _ => none
noncomputable def c19 : Cfg El := c8.add 19 sem19
theorem c19_ok : CfgOk c19 := c8_ok.add (fun args w => Tryd.call19 args w) (fun vs r outs ps h hp => by
  unfold sem19 at h
  split at h
  · rename_i y1 y2 y3 y4; cases h; exact fn19 (⟨(⟨y1, y2⟩ : S.Inter), (⟨y3, y4⟩ : S.Cong)⟩ : S.Value) hp
  · cases h)

noncomputable def body64 : Code := (Tryd.f64.body).getD .skip
noncomputable def lb64_0 : Code := ((nth (loopsOf 0 body64) 0).getD (0, .skip)).2
noncomputable def px64_0 : List W → Option S.cong_gcd_L0
  | [.int .u64 y1, .int .u64 y2] => some ⟨y1, y2⟩
  | _ => none
noncomputable def tx64_0 (x : S.cong_gcd_L0) : List W := [.int .u64 x.a, .int .u64 x.b]
noncomputable def py64_0 : Ex → List W → Option (S.cong_gcd_L0)
  | .exit 0, [.int .u64 y1, .int .u64 y2] => some ⟨y1, y2⟩
  | _, _ => none
noncomputable def ld64_0 : LD El where
  X := S.cong_gcd_L0
  Y := S.cong_gcd_L0
  keys := [.slot 0, .slot 1]
  fits := [24, 24]
  px := px64_0
  tx := tx64_0
  okeys := [.slot 0, .slot 1]
  ofits := [24, 24]
  py := py64_0
  ty := fun y => tx64_0 y
  oex := fun _ => .exit 0
  junk := [.slot 5, .slot 6, .slot 7, .slot 8, .slot 9, .slot 10]
  rows := []
noncomputable def lo64_0 : S.cong_gcd_L0 → Tr El := fun y => .leaf (.exit 0) (zipK ld64_0.okeys (tx64_0 y) ++ junkK ld64_0.junk)
noncomputable def loop64 : Nat → Env El → Tr El
  | 0 => ld64_0.tree c19 Tryd.f64.ntmps 0 lb64_0 S.cong_gcd_L0_run lo64_0 S.cong_gcd_L0_step S.cong_gcd_L0_vcs
  | _ => fun _ => .fail
theorem lok64_0 : ∀ w0 S0, LoopOk c19 Tryd.f64.ntmps w0 S0 loop64 0 lb64_0 :=
  loop_ok (c := c19) (n := Tryd.f64.ntmps) c19_ok mixed ld64_0 (body := lb64_0) (key := 0) (loop := loop64) (F := S.cong_gcd_L0_run) (out := lo64_0) (step := S.cong_gcd_L0_step) (vcs := S.cong_gcd_L0_vcs)
    (fun _ => by kernel_rfl) (no_loops (by kernel_rfl)) rfl rfl
    (fun vs x h => by unfold ld64_0 px64_0 at h; dsimp only at h; split at h <;> first | (cases h; rfl) | cases h)
    (fun e vs y h => by unfold ld64_0 py64_0 at h; dsimp only at h; split at h <;> first | (cases h; exact ⟨rfl, rfl⟩) | cases h)
    (by kernel_rfl) (fun _ => rfl) (fun _ _ h => h) (fun x => by kernel_rfl) (fun x h => Eq.mpr (show Vm.Tr.vc (Vm.ev c19 Tryd.f64.ntmps loop64 0 lb64_0 (ld64_0.vars x) []) = S.cong_gcd_L0_vcs x by kernel_rfl) h)
theorem fn64 (a : Int) (b : Int) (hp : S.cong_gcd_pre a b) : CallOk c19 64 [.int .u64 a, .int .u64 b] (wr_u64 (S.cong_gcd a b)) (wo_u64 (S.cong_gcd a b)) :=
  (call_ok (c := c19) (f := 64) (fn := Tryd.f64) (code := body64) (args := ([.int .u64 a, .int .u64 b])) (loop := loop64) (md := ⟨false, false⟩) (rd := rd_u64) (wr := wr_u64) (wo := wo_u64) (r := (S.cong_gcd a b)) c19_ok (by kernel_rfl) (by kernel_rfl) (by kernel_rfl) (loops_all (l := [(0, lb64_0)]) (by kernel_rfl) ⟨lok64_0, trivial⟩) (by kernel_rfl) (by kernel_rfl) (by kernel_rfl)
    rw_u64 np_u64 no_u64 (by kernel_rfl) (Eq.mpr (show Vm.Tr.vc (Vm.Fn c19 Tryd.f64 body64 loop64 ([.int .u64 a, .int .u64 b])) = S.cong_gcd_pre a b by kernel_rfl) hp))

noncomputable def sem64 : List W → Option (W × List (List W) × List Prop)
  | [.int .u64 y1, .int .u64 y2] => some (wr_u64 (S.cong_gcd y1 y2), wo_u64 (S.cong_gcd y1 y2), [S.cong_gcd_pre y1 y2])
  | _ => none
noncomputable def c64 : Cfg El := c19.add 64 sem64
theorem c64_ok : CfgOk c64 := c19_ok.add (fun args w => Tryd.call64 args w) (fun vs r outs ps h hp => by
  unfold sem64 at h
  split at h
  · rename_i y1 y2; cases h; exact fn64 y1 y2 hp
  · cases h)

noncomputable def body23 : Code := (Tryd.f23.body).getD .skip
theorem fn23 (m : Int) (n : Int) (hp : S.cong_Make_pre m n) : CallOk c64 23 [.int .u64 m, .int .i64 n] (wr_S25 (S.cong_Make m n)) (wo_S25 (S.cong_Make m n)) :=
  (call_ok (c := c64) (f := 23) (fn := Tryd.f23) (code := body23) (args := ([.int .u64 m, .int .i64 n])) (loop := noLoop) (md := ⟨false, false⟩) (rd := rd_S25) (wr := wr_S25) (wo := wo_S25) (r := (S.cong_Make m n)) c64_ok (by kernel_rfl) (by kernel_rfl) (by kernel_rfl) (no_loops (by kernel_rfl)) (by kernel_rfl) (by kernel_rfl) (by kernel_rfl)
    rw_S25 np_S25 no_S25 (by kernel_rfl) (Eq.mpr (show Vm.Tr.vc (Vm.Fn c64 Tryd.f23 body23 noLoop ([.int .u64 m, .int .i64 n])) = S.cong_Make_pre m n by kernel_rfl) hp))

noncomputable def sem23 : List W → Option (W × List (List W) × List Prop)
  | [.int .u64 y1, .int .i64 y2] => some (wr_S25 (S.cong_Make y1 y2), wo_S25 (S.cong_Make y1 y2), [S.cong_Make_pre y1 y2])
  | _ => none
noncomputable def c23 : Cfg El := c64.add 23 sem23
theorem c23_ok : CfgOk c23 := c64_ok.add (fun args w => Tryd.call23 args w) (fun vs r outs ps h hp => by
  unfold sem23 at h
  split at h
  · rename_i y1 y2; cases h; exact fn23 y1 y2 hp
  · cases h)

noncomputable def body70 : Code := (Tryd.f70.body).getD .skip
theorem fn70 (c : S.Cong) (n : Int) (hp : S.cong_Cong_Has_pre c n) : CallOk c23 70 [.agg [.int .u64 c.M, .int .u64 c.R], .int .i64 n] (wr_b (S.cong_Cong_Has c n)) (wo_b (S.cong_Cong_Has c n)) :=
  (call_ok (c := c23) (f := 70) (fn := Tryd.f70) (code := body70) (args := ([.agg [.int .u64 c.M, .int .u64 c.R], .int .i64 n])) (loop := noLoop) (md := ⟨false, false⟩) (rd := rd_b) (wr := wr_b) (wo := wo_b) (r := (S.cong_Cong_Has c n)) c23_ok (by kernel_rfl) (by kernel_rfl) (by kernel_rfl) (no_loops (by kernel_rfl)) (by kernel_rfl) (by kernel_rfl) (by kernel_rfl)
    rw_b np_b no_b (by kernel_rfl) (Eq.mpr (show Vm.Tr.vc (Vm.Fn c23 Tryd.f70 body70 noLoop ([.agg [.int .u64 c.M, .int .u64 c.R], .int .i64 n])) = S.cong_Cong_Has_pre c n by kernel_rfl) hp))

noncomputable def sem70 : List W → Option (W × List (List W) × List Prop)
  | [.agg [.int .u64 y1, .int .u64 y2], .int .i64 y3] => some (wr_b (S.cong_Cong_Has (⟨y1, y2⟩ : S.Cong) y3), wo_b (S.cong_Cong_Has (⟨y1, y2⟩ : S.Cong) y3), [S.cong_Cong_Has_pre (⟨y1, y2⟩ : S.Cong) y3])
  | _ => none
noncomputable def c70 : Cfg El := c23.add 70 sem70
theorem c70_ok : CfgOk c70 := c23_ok.add (fun args w => Tryd.call70 args w) (fun vs r outs ps h hp => by
  unfold sem70 at h
  split at h
  · rename_i y1 y2 y3; cases h; exact fn70 (⟨y1, y2⟩ : S.Cong) y3 hp
  · cases h)

noncomputable def rd_S25_b : W → List (List W) → Option (S.Cong × Bool)
  | .tup [.agg [.int .u64 x1, .int .u64 x2], .bool x3], [] => some ⟨⟨x1, x2⟩, x3⟩
  | _, _ => none
noncomputable def wr_S25_b (x : S.Cong × Bool) : W := .tup [.agg [.int .u64 x.1.M, .int .u64 x.1.R], .bool x.2]
noncomputable def wo_S25_b (_x : S.Cong × Bool) : List (List W) := []
theorem rw_S25_b (v : W) (os : List (List W)) (x : S.Cong × Bool) (h : rd_S25_b v os = some x) : v = wr_S25_b x ∧ os = wo_S25_b x := by
  unfold rd_S25_b at h
  split at h <;> first | (cases h; exact ⟨rfl, rfl⟩) | cases h
theorem np_S25_b (x : S.Cong × Bool) : okv (fun _ => false) (wr_S25_b x) = true := rfl
theorem no_S25_b (x : S.Cong × Bool) : all (fun cs => all (ok0 fun _ => false) cs) (wo_S25_b x) = true := rfl

noncomputable def body69 : Code := (Tryd.f69.body).getD .skip
theorem fn69 (c : S.Cong) (ok : Bool) : CallOk c70 69 [.agg [.int .u64 c.M, .int .u64 c.R], .bool ok] (wr_S25_b (S.cong_Cong_if1 c ok)) (wo_S25_b (S.cong_Cong_if1 c ok)) :=
  (call_ok (c := c70) (f := 69) (fn := Tryd.f69) (code := body69) (args := ([.agg [.int .u64 c.M, .int .u64 c.R], .bool ok])) (loop := noLoop) (md := ⟨false, false⟩) (rd := rd_S25_b) (wr := wr_S25_b) (wo := wo_S25_b) (r := (S.cong_Cong_if1 c ok)) c70_ok (by kernel_rfl) (by kernel_rfl) (by kernel_rfl) (no_loops (by kernel_rfl)) (by kernel_rfl) (by kernel_rfl) (by kernel_rfl)
    rw_S25_b np_S25_b no_S25_b (by kernel_rfl) (Tr.vc_of_noReq (by kernel_rfl)))

noncomputable def sem69 : List W → Option (W × List (List W) × List Prop)
  | [.agg [.int .u64 y1, .int .u64 y2], .bool y3] => some (wr_S25_b (S.cong_Cong_if1 (⟨y1, y2⟩ : S.Cong) y3), wo_S25_b (S.cong_Cong_if1 (⟨y1, y2⟩ : S.Cong) y3), [])
  | _ => none
noncomputable def c69 : Cfg El := c70.add 69 sem69
theorem c69_ok : CfgOk c69 := c70_ok.add (fun args w => Tryd.call69 args w) (fun vs r outs ps h hp => by
  unfold sem69 at h
  split at h
  · rename_i y1 y2 y3; cases h; exact fn69 (⟨y1, y2⟩ : S.Cong) y3
  · cases h)

noncomputable def body34 : Code := (Tryd.f34.body).getD .skip
theorem fn34 (a : S.Cong) (b : S.Cong) (hp : S.cong_Meet_pre a b) : CallOk c69 34 [.agg [.int .u64 a.M, .int .u64 a.R], .agg [.int .u64 b.M, .int .u64 b.R]] (wr_S25_b (S.cong_Meet a b)) (wo_S25_b (S.cong_Meet a b)) :=
  (call_ok (c := c69) (f := 34) (fn := Tryd.f34) (code := body34) (args := ([.agg [.int .u64 a.M, .int .u64 a.R], .agg [.int .u64 b.M, .int .u64 b.R]])) (loop := noLoop) (md := ⟨false, false⟩) (rd := rd_S25_b) (wr := wr_S25_b) (wo := wo_S25_b) (r := (S.cong_Meet a b)) c69_ok (by kernel_rfl) (by kernel_rfl) (by kernel_rfl) (no_loops (by kernel_rfl)) (by kernel_rfl) (by kernel_rfl) (by kernel_rfl)
    rw_S25_b np_S25_b no_S25_b (by kernel_rfl) (Eq.mpr (show Vm.Tr.vc (Vm.Fn c69 Tryd.f34 body34 noLoop ([.agg [.int .u64 a.M, .int .u64 a.R], .agg [.int .u64 b.M, .int .u64 b.R]])) = S.cong_Meet_pre a b by kernel_rfl) hp))

noncomputable def sem34 : List W → Option (W × List (List W) × List Prop)
  | [.agg [.int .u64 y1, .int .u64 y2], .agg [.int .u64 y3, .int .u64 y4]] => some (wr_S25_b (S.cong_Meet (⟨y1, y2⟩ : S.Cong) (⟨y3, y4⟩ : S.Cong)), wo_S25_b (S.cong_Meet (⟨y1, y2⟩ : S.Cong) (⟨y3, y4⟩ : S.Cong)), [S.cong_Meet_pre (⟨y1, y2⟩ : S.Cong) (⟨y3, y4⟩ : S.Cong)])
  | _ => none
noncomputable def c34 : Cfg El := c69.add 34 sem34
theorem c34_ok : CfgOk c34 := c69_ok.add (fun args w => Tryd.call34 args w) (fun vs r outs ps h hp => by
  unfold sem34 at h
  split at h
  · rename_i y1 y2 y3 y4; cases h; exact fn34 (⟨y1, y2⟩ : S.Cong) (⟨y3, y4⟩ : S.Cong) hp
  · cases h)

noncomputable def body71 : Code := (Tryd.f71.body).getD .skip
theorem fn71 (a : S.Inter) (b : S.Inter) : CallOk c34 71 [.agg [.int .i64 a.Lo, .int .i64 a.Hi], .agg [.int .i64 b.Lo, .int .i64 b.Hi]] (wr_S22 (S.inter_Meet_1 a b)) (wo_S22 (S.inter_Meet_1 a b)) :=
  (call_ok (c := c34) (f := 71) (fn := Tryd.f71) (code := body71) (args := ([.agg [.int .i64 a.Lo, .int .i64 a.Hi], .agg [.int .i64 b.Lo, .int .i64 b.Hi]])) (loop := noLoop) (md := ⟨false, false⟩) (rd := rd_S22) (wr := wr_S22) (wo := wo_S22) (r := (S.inter_Meet_1 a b)) c34_ok (by kernel_rfl) (by kernel_rfl) (by kernel_rfl) (no_loops (by kernel_rfl)) (by kernel_rfl) (by kernel_rfl) (by kernel_rfl)
    rw_S22 np_S22 no_S22 (by kernel_rfl) (Tr.vc_of_noReq (by kernel_rfl)))

noncomputable def sem71 : List W → Option (W × List (List W) × List Prop)
  | [.agg [.int .i64 y1, .int .i64 y2], .agg [.int .i64 y3, .int .i64 y4]] => some (wr_S22 (S.inter_Meet_1 (⟨y1, y2⟩ : S.Inter) (⟨y3, y4⟩ : S.Inter)), wo_S22 (S.inter_Meet_1 (⟨y1, y2⟩ : S.Inter) (⟨y3, y4⟩ : S.Inter)), [])
  | _ => none
noncomputable def c71 : Cfg El := c34.add 71 sem71
theorem c71_ok : CfgOk c71 := c34_ok.add (fun args w => Tryd.call71 args w) (fun vs r outs ps h hp => by
  unfold sem71 at h
  split at h
  · rename_i y1 y2 y3 y4; cases h; exact fn71 (⟨y1, y2⟩ : S.Inter) (⟨y3, y4⟩ : S.Inter)
  · cases h)

noncomputable def body62 : Code := (Tryd.f62.body).getD .skip
noncomputable def lb62_inter_Meet_1_0 : Code := ((nth (loopsOf 0 body62) 0).getD (0, .skip)).2
noncomputable def px62_inter_Meet_1_0 : List W → Option S.inter_fold_inter_Meet_1_L0
  | [.fn 71, .ptr 3 0, .list 23 false y1, .int .i64 y2, .int .i64 y3, .int .i64 y4, .int .i64 y5] => some ⟨y1, y2, y3, ⟨y4, y5⟩⟩
  | _ => none
noncomputable def tx62_inter_Meet_1_0 (x : S.inter_fold_inter_Meet_1_L0) : List W := [.fn 71, .ptr 3 0, .list 23 false x.t9, .int .i64 x.t10, .int .i64 x.t11, .int .i64 x.first.Lo, .int .i64 x.first.Hi]
noncomputable def py62_inter_Meet_1_0 : Ex → List W → Option (S.inter_fold_inter_Meet_1_L0)
  | .exit 0, [.fn 71, .ptr 3 0, .list 23 false y1, .int .i64 y2, .int .i64 y3, .int .i64 y4, .int .i64 y5] => some ⟨y1, y2, y3, ⟨y4, y5⟩⟩
  | _, _ => none
noncomputable def ld62_inter_Meet_1_0 : LD El where
  X := S.inter_fold_inter_Meet_1_L0
  Y := S.inter_fold_inter_Meet_1_L0
  keys := [.slot 2, .slot 3, .slot 9, .slot 10, .slot 11, .cell 3 0, .cell 3 1]
  fits := [63, 0, 80, 3, 3, 2, 2]
  px := px62_inter_Meet_1_0
  tx := tx62_inter_Meet_1_0
  okeys := [.slot 2, .slot 3, .slot 9, .slot 10, .slot 11, .cell 3 0, .cell 3 1]
  ofits := [63, 0, 80, 3, 3, 2, 2]
  py := py62_inter_Meet_1_0
  ty := fun y => tx62_inter_Meet_1_0 y
  oex := fun _ => .exit 0
  junk := [.slot 8, .slot 12, .slot 13, .slot 14, .slot 15, .slot 16, .slot 17, .slot 18, .slot 19]
  rows := []
noncomputable def lo62_inter_Meet_1_0 : S.inter_fold_inter_Meet_1_L0 → Tr El := fun y => .leaf (.exit 0) (zipK ld62_inter_Meet_1_0.okeys (tx62_inter_Meet_1_0 y) ++ junkK ld62_inter_Meet_1_0.junk)
noncomputable def loop62_inter_Meet_1 : Nat → Env El → Tr El
  | 0 => ld62_inter_Meet_1_0.tree c71 Tryd.f62.ntmps 0 lb62_inter_Meet_1_0 S.inter_fold_inter_Meet_1_L0_run lo62_inter_Meet_1_0 S.inter_fold_inter_Meet_1_L0_step S.inter_fold_inter_Meet_1_L0_vcs
  | _ => fun _ => .fail
theorem lok62_inter_Meet_1_0 : ∀ w0 S0, LoopOk c71 Tryd.f62.ntmps w0 S0 loop62_inter_Meet_1 0 lb62_inter_Meet_1_0 :=
  loop_ok (c := c71) (n := Tryd.f62.ntmps) c71_ok mixed ld62_inter_Meet_1_0 (body := lb62_inter_Meet_1_0) (key := 0) (loop := loop62_inter_Meet_1) (F := S.inter_fold_inter_Meet_1_L0_run) (out := lo62_inter_Meet_1_0) (step := S.inter_fold_inter_Meet_1_L0_step) (vcs := S.inter_fold_inter_Meet_1_L0_vcs)
    (fun _ => by kernel_rfl) (no_loops (by kernel_rfl)) rfl rfl
    (fun vs x h => by unfold ld62_inter_Meet_1_0 px62_inter_Meet_1_0 at h; dsimp only at h; split at h <;> first | (cases h; rfl) | cases h)
    (fun e vs y h => by unfold ld62_inter_Meet_1_0 py62_inter_Meet_1_0 at h; dsimp only at h; split at h <;> first | (cases h; exact ⟨rfl, rfl⟩) | cases h)
    (by kernel_rfl) (fun _ => rfl) (fun _ _ h => h) (fun x => by kernel_rfl) (fun x h => Eq.mpr (show Vm.Tr.vc (Vm.ev c71 Tryd.f62.ntmps loop62_inter_Meet_1 0 lb62_inter_Meet_1_0 (ld62_inter_Meet_1_0.vars x) []) = S.inter_fold_inter_Meet_1_L0_vcs x by kernel_rfl) h)
theorem fn62_inter_Meet_1 (first : S.Inter) (l : (List S.Inter)) (hp : S.inter_fold_inter_Meet_1_pre first l) : CallOk c71 62 [.agg [.int .i64 first.Lo, .int .i64 first.Hi], .list 23 false l, .fn 71] (wr_S22 (S.inter_fold_inter_Meet_1 first l)) (wo_S22 (S.inter_fold_inter_Meet_1 first l)) :=
  (call_ok (c := c71) (f := 62) (fn := Tryd.f62) (code := body62) (args := ([.agg [.int .i64 first.Lo, .int .i64 first.Hi], .list 23 false l, .fn 71])) (loop := loop62_inter_Meet_1) (md := ⟨false, false⟩) (rd := rd_S22) (wr := wr_S22) (wo := wo_S22) (r := (S.inter_fold_inter_Meet_1 first l)) c71_ok (by kernel_rfl) (by kernel_rfl) (by kernel_rfl) (loops_all (l := [(0, lb62_inter_Meet_1_0)]) (by kernel_rfl) ⟨lok62_inter_Meet_1_0, trivial⟩) (by kernel_rfl) (by kernel_rfl) (by kernel_rfl)
    rw_S22 np_S22 no_S22 (by kernel_rfl) (Eq.mpr (show Vm.Tr.vc (Vm.Fn c71 Tryd.f62 body62 loop62_inter_Meet_1 ([.agg [.int .i64 first.Lo, .int .i64 first.Hi], .list 23 false l, .fn 71])) = S.inter_fold_inter_Meet_1_pre first l by kernel_rfl) hp))

noncomputable def sem62 : List W → Option (W × List (List W) × List Prop)
  | [.agg [.int .i64 y1, .int .i64 y2], .list 23 false y3, .fn 71] => some (wr_S22 (S.inter_fold_inter_Meet_1 (⟨y1, y2⟩ : S.Inter) y3), wo_S22 (S.inter_fold_inter_Meet_1 (⟨y1, y2⟩ : S.Inter) y3), [S.inter_fold_inter_Meet_1_pre (⟨y1, y2⟩ : S.Inter) y3])
  | _ => none
noncomputable def c62 : Cfg El := c71.add 62 sem62
theorem c62_ok : CfgOk c62 := c71_ok.add (fun args w => Tryd.call62 args w) (fun vs r outs ps h hp => by
  unfold sem62 at h
  split at h
  · rename_i y1 y2 y3; cases h; exact fn62_inter_Meet_1 (⟨y1, y2⟩ : S.Inter) y3 hp
  · cases h)

noncomputable def body35 : Code := (Tryd.f35.body).getD .skip
theorem fn35 (l : (List S.Inter)) (hp : S.inter_Meet_pre l) : CallOk c62 35 [.list 23 false l] (wr_S22 (S.inter_Meet l)) (wo_S22 (S.inter_Meet l)) :=
  (call_ok (c := c62) (f := 35) (fn := Tryd.f35) (code := body35) (args := ([.list 23 false l])) (loop := noLoop) (md := ⟨false, false⟩) (rd := rd_S22) (wr := wr_S22) (wo := wo_S22) (r := (S.inter_Meet l)) c62_ok (by kernel_rfl) (by kernel_rfl) (by kernel_rfl) (no_loops (by kernel_rfl)) (by kernel_rfl) (by kernel_rfl) (by kernel_rfl)
    rw_S22 np_S22 no_S22 (by kernel_rfl) (Eq.mpr (show Vm.Tr.vc (Vm.Fn c62 Tryd.f35 body35 noLoop ([.list 23 false l])) = S.inter_Meet_pre l by kernel_rfl) hp))

noncomputable def sem35 : List W → Option (W × List (List W) × List Prop)
  | [.list 23 false y1] => some (wr_S22 (S.inter_Meet y1), wo_S22 (S.inter_Meet y1), [S.inter_Meet_pre y1])
  | _ => none
noncomputable def c35 : Cfg El := c62.add 35 sem35
theorem c35_ok : CfgOk c35 := c62_ok.add (fun args w => Tryd.call35 args w) (fun vs r outs ps h hp => by
  unfold sem35 at h
  split at h
  · rename_i y1; cases h; exact fn35 y1 hp
  · cases h)

noncomputable def rd_S27_S27 : W → List (List W) → Option (S.Value × S.Value)
  | .tup [.agg [.int .i64 x1, .int .i64 x2, .int .u64 x3, .int .u64 x4], .agg [.int .i64 x5, .int .i64 x6, .int .u64 x7, .int .u64 x8]], [] => some ⟨⟨⟨x1, x2⟩, ⟨x3, x4⟩⟩, ⟨⟨x5, x6⟩, ⟨x7, x8⟩⟩⟩
  | _, _ => none
noncomputable def wr_S27_S27 (x : S.Value × S.Value) : W := .tup [.agg [.int .i64 x.1.I.Lo, .int .i64 x.1.I.Hi, .int .u64 x.1.C.M, .int .u64 x.1.C.R], .agg [.int .i64 x.2.I.Lo, .int .i64 x.2.I.Hi, .int .u64 x.2.C.M, .int .u64 x.2.C.R]]
noncomputable def wo_S27_S27 (_x : S.Value × S.Value) : List (List W) := []
theorem rw_S27_S27 (v : W) (os : List (List W)) (x : S.Value × S.Value) (h : rd_S27_S27 v os = some x) : v = wr_S27_S27 x ∧ os = wo_S27_S27 x := by
  unfold rd_S27_S27 at h
  split at h <;> first | (cases h; exact ⟨rfl, rfl⟩) | cases h
theorem np_S27_S27 (x : S.Value × S.Value) : okv (fun _ => false) (wr_S27_S27 x) = true := rfl
theorem no_S27_S27 (x : S.Value × S.Value) : all (fun cs => all (ok0 fun _ => false) cs) (wo_S27_S27 x) = true := rfl

noncomputable def body77 : Code := (Tryd.f77.body).getD .skip
theorem fn77 (a : S.Value) (b : S.Value) (hp : S.cond_alike_pre a b) : CallOk c35 77 [.agg [.int .i64 a.I.Lo, .int .i64 a.I.Hi, .int .u64 a.C.M, .int .u64 a.C.R], .agg [.int .i64 b.I.Lo, .int .i64 b.I.Hi, .int .u64 b.C.M, .int .u64 b.C.R]] (wr_S27_S27 (S.cond_alike a b)) (wo_S27_S27 (S.cond_alike a b)) :=
  (call_ok (c := c35) (f := 77) (fn := Tryd.f77) (code := body77) (args := ([.agg [.int .i64 a.I.Lo, .int .i64 a.I.Hi, .int .u64 a.C.M, .int .u64 a.C.R], .agg [.int .i64 b.I.Lo, .int .i64 b.I.Hi, .int .u64 b.C.M, .int .u64 b.C.R]])) (loop := noLoop) (md := ⟨false, false⟩) (rd := rd_S27_S27) (wr := wr_S27_S27) (wo := wo_S27_S27) (r := (S.cond_alike a b)) c35_ok (by kernel_rfl) (by kernel_rfl) (by kernel_rfl) (no_loops (by kernel_rfl)) (by kernel_rfl) (by kernel_rfl) (by kernel_rfl)
    rw_S27_S27 np_S27_S27 no_S27_S27 (by kernel_rfl) (Eq.mpr (show Vm.Tr.vc (Vm.Fn c35 Tryd.f77 body77 noLoop ([.agg [.int .i64 a.I.Lo, .int .i64 a.I.Hi, .int .u64 a.C.M, .int .u64 a.C.R], .agg [.int .i64 b.I.Lo, .int .i64 b.I.Hi, .int .u64 b.C.M, .int .u64 b.C.R]])) = S.cond_alike_pre a b by kernel_rfl) hp))

noncomputable def sem77 : List W → Option (W × List (List W) × List Prop)
  | [.agg [.int .i64 y1, .int .i64 y2, .int .u64 y3, .int .u64 y4], .agg [.int .i64 y5, .int .i64 y6, .int .u64 y7, .int .u64 y8]] => some (wr_S27_S27 (S.cond_alike (⟨(⟨y1, y2⟩ : S.Inter), (⟨y3, y4⟩ : S.Cong)⟩ : S.Value) (⟨(⟨y5, y6⟩ : S.Inter), (⟨y7, y8⟩ : S.Cong)⟩ : S.Value)), wo_S27_S27 (S.cond_alike (⟨(⟨y1, y2⟩ : S.Inter), (⟨y3, y4⟩ : S.Cong)⟩ : S.Value) (⟨(⟨y5, y6⟩ : S.Inter), (⟨y7, y8⟩ : S.Cong)⟩ : S.Value)), [S.cond_alike_pre (⟨(⟨y1, y2⟩ : S.Inter), (⟨y3, y4⟩ : S.Cong)⟩ : S.Value) (⟨(⟨y5, y6⟩ : S.Inter), (⟨y7, y8⟩ : S.Cong)⟩ : S.Value)])
  | _ => none
noncomputable def c77 : Cfg El := c35.add 77 sem77
theorem c77_ok : CfgOk c77 := c35_ok.add (fun args w => Tryd.call77 args w) (fun vs r outs ps h hp => by
  unfold sem77 at h
  split at h
  · rename_i y1 y2 y3 y4 y5 y6 y7 y8; cases h; exact fn77 (⟨(⟨y1, y2⟩ : S.Inter), (⟨y3, y4⟩ : S.Cong)⟩ : S.Value) (⟨(⟨y5, y6⟩ : S.Inter), (⟨y7, y8⟩ : S.Cong)⟩ : S.Value) hp
  · cases h)

noncomputable def body59 : Code := (Tryd.f59.body).getD .skip
theorem fn59 (i : S.Inter) : CallOk c77 59 [.agg [.int .i64 i.Lo, .int .i64 i.Hi]] (wr_i64_b (S.inter_Inter_Single i)) (wo_i64_b (S.inter_Inter_Single i)) :=
  (call_ok (c := c77) (f := 59) (fn := Tryd.f59) (code := body59) (args := ([.agg [.int .i64 i.Lo, .int .i64 i.Hi]])) (loop := noLoop) (md := ⟨false, false⟩) (rd := rd_i64_b) (wr := wr_i64_b) (wo := wo_i64_b) (r := (S.inter_Inter_Single i)) c77_ok (by kernel_rfl) (by kernel_rfl) (by kernel_rfl) (no_loops (by kernel_rfl)) (by kernel_rfl) (by kernel_rfl) (by kernel_rfl)
    rw_i64_b np_i64_b no_i64_b (by kernel_rfl) (Tr.vc_of_noReq (by kernel_rfl)))

noncomputable def sem59 : List W → Option (W × List (List W) × List Prop)
  | [.agg [.int .i64 y1, .int .i64 y2]] => some (wr_i64_b (S.inter_Inter_Single (⟨y1, y2⟩ : S.Inter)), wo_i64_b (S.inter_Inter_Single (⟨y1, y2⟩ : S.Inter)), [])
  | _ => none
noncomputable def c59 : Cfg El := c77.add 59 sem59
theorem c59_ok : CfgOk c59 := c77_ok.add (fun args w => Tryd.call59 args w) (fun vs r outs ps h hp => by
  unfold sem59 at h
  split at h
  · rename_i y1 y2; cases h; exact fn59 (⟨y1, y2⟩ : S.Inter)
  · cases h)

noncomputable def body25 : Code := (Tryd.f25.body).getD .skip
theorem fn25 (v : S.Value) (hp : S.value_Value_Single_pre v) : CallOk c59 25 [.agg [.int .i64 v.I.Lo, .int .i64 v.I.Hi, .int .u64 v.C.M, .int .u64 v.C.R]] (wr_i64_b (S.value_Value_Single v)) (wo_i64_b (S.value_Value_Single v)) :=
  (call_ok (c := c59) (f := 25) (fn := Tryd.f25) (code := body25) (args := ([.agg [.int .i64 v.I.Lo, .int .i64 v.I.Hi, .int .u64 v.C.M, .int .u64 v.C.R]])) (loop := noLoop) (md := ⟨false, false⟩) (rd := rd_i64_b) (wr := wr_i64_b) (wo := wo_i64_b) (r := (S.value_Value_Single v)) c59_ok (by kernel_rfl) (by kernel_rfl) (by kernel_rfl) (no_loops (by kernel_rfl)) (by kernel_rfl) (by kernel_rfl) (by kernel_rfl)
    rw_i64_b np_i64_b no_i64_b (by kernel_rfl) (Eq.mpr (show Vm.Tr.vc (Vm.Fn c59 Tryd.f25 body25 noLoop ([.agg [.int .i64 v.I.Lo, .int .i64 v.I.Hi, .int .u64 v.C.M, .int .u64 v.C.R]])) = S.value_Value_Single_pre v by kernel_rfl) hp))

noncomputable def sem25 : List W → Option (W × List (List W) × List Prop)
  | [.agg [.int .i64 y1, .int .i64 y2, .int .u64 y3, .int .u64 y4]] => some (wr_i64_b (S.value_Value_Single (⟨(⟨y1, y2⟩ : S.Inter), (⟨y3, y4⟩ : S.Cong)⟩ : S.Value)), wo_i64_b (S.value_Value_Single (⟨(⟨y1, y2⟩ : S.Inter), (⟨y3, y4⟩ : S.Cong)⟩ : S.Value)), [S.value_Value_Single_pre (⟨(⟨y1, y2⟩ : S.Inter), (⟨y3, y4⟩ : S.Cong)⟩ : S.Value)])
  | _ => none
noncomputable def c25 : Cfg El := c59.add 25 sem25
theorem c25_ok : CfgOk c25 := c59_ok.add (fun args w => Tryd.call25 args w) (fun vs r outs ps h hp => by
  unfold sem25 at h
  split at h
  · rename_i y1 y2 y3 y4; cases h; exact fn25 (⟨(⟨y1, y2⟩ : S.Inter), (⟨y3, y4⟩ : S.Cong)⟩ : S.Value) hp
  · cases h)

noncomputable def body78 : Code := (Tryd.f78.body).getD .skip
theorem fn78 (a : S.Value) (b : S.Value) (hp : S.cond_single_pre a b) : CallOk c25 78 [.agg [.int .i64 a.I.Lo, .int .i64 a.I.Hi, .int .u64 a.C.M, .int .u64 a.C.R], .agg [.int .i64 b.I.Lo, .int .i64 b.I.Hi, .int .u64 b.C.M, .int .u64 b.C.R]] (wr_b (S.cond_single a b)) (wo_b (S.cond_single a b)) :=
  (call_ok (c := c25) (f := 78) (fn := Tryd.f78) (code := body78) (args := ([.agg [.int .i64 a.I.Lo, .int .i64 a.I.Hi, .int .u64 a.C.M, .int .u64 a.C.R], .agg [.int .i64 b.I.Lo, .int .i64 b.I.Hi, .int .u64 b.C.M, .int .u64 b.C.R]])) (loop := noLoop) (md := ⟨false, false⟩) (rd := rd_b) (wr := wr_b) (wo := wo_b) (r := (S.cond_single a b)) c25_ok (by kernel_rfl) (by kernel_rfl) (by kernel_rfl) (no_loops (by kernel_rfl)) (by kernel_rfl) (by kernel_rfl) (by kernel_rfl)
    rw_b np_b no_b (by kernel_rfl) (Eq.mpr (show Vm.Tr.vc (Vm.Fn c25 Tryd.f78 body78 noLoop ([.agg [.int .i64 a.I.Lo, .int .i64 a.I.Hi, .int .u64 a.C.M, .int .u64 a.C.R], .agg [.int .i64 b.I.Lo, .int .i64 b.I.Hi, .int .u64 b.C.M, .int .u64 b.C.R]])) = S.cond_single_pre a b by kernel_rfl) hp))

noncomputable def sem78 : List W → Option (W × List (List W) × List Prop)
  | [.agg [.int .i64 y1, .int .i64 y2, .int .u64 y3, .int .u64 y4], .agg [.int .i64 y5, .int .i64 y6, .int .u64 y7, .int .u64 y8]] => some (wr_b (S.cond_single (⟨(⟨y1, y2⟩ : S.Inter), (⟨y3, y4⟩ : S.Cong)⟩ : S.Value) (⟨(⟨y5, y6⟩ : S.Inter), (⟨y7, y8⟩ : S.Cong)⟩ : S.Value)), wo_b (S.cond_single (⟨(⟨y1, y2⟩ : S.Inter), (⟨y3, y4⟩ : S.Cong)⟩ : S.Value) (⟨(⟨y5, y6⟩ : S.Inter), (⟨y7, y8⟩ : S.Cong)⟩ : S.Value)), [S.cond_single_pre (⟨(⟨y1, y2⟩ : S.Inter), (⟨y3, y4⟩ : S.Cong)⟩ : S.Value) (⟨(⟨y5, y6⟩ : S.Inter), (⟨y7, y8⟩ : S.Cong)⟩ : S.Value)])
  | _ => none
noncomputable def c78 : Cfg El := c25.add 78 sem78
theorem c78_ok : CfgOk c78 := c25_ok.add (fun args w => Tryd.call78 args w) (fun vs r outs ps h hp => by
  unfold sem78 at h
  split at h
  · rename_i y1 y2 y3 y4 y5 y6 y7 y8; cases h; exact fn78 (⟨(⟨y1, y2⟩ : S.Inter), (⟨y3, y4⟩ : S.Cong)⟩ : S.Value) (⟨(⟨y5, y6⟩ : S.Inter), (⟨y7, y8⟩ : S.Cong)⟩ : S.Value) hp
  · cases h)

noncomputable def body47 : Code := (Tryd.f47.body).getD .skip
noncomputable def semr47 (n : Nat) : List W → Option (W × List (List W) × List Prop)
  | [.int .i64 y1, .agg [.int .i64 y2, .int .i64 y3, .int .u64 y4, .int .u64 y5], .agg [.int .i64 y6, .int .i64 y7, .int .u64 y8, .int .u64 y9]] => some (wr_b_b (S.cond_tells_F n y1 (⟨(⟨y2, y3⟩ : S.Inter), (⟨y4, y5⟩ : S.Cong)⟩ : S.Value) (⟨(⟨y6, y7⟩ : S.Inter), (⟨y8, y9⟩ : S.Cong)⟩ : S.Value)), wo_b_b (S.cond_tells_F n y1 (⟨(⟨y2, y3⟩ : S.Inter), (⟨y4, y5⟩ : S.Cong)⟩ : S.Value) (⟨(⟨y6, y7⟩ : S.Inter), (⟨y8, y9⟩ : S.Cong)⟩ : S.Value)), [S.cond_tells_D n y1 (⟨(⟨y2, y3⟩ : S.Inter), (⟨y4, y5⟩ : S.Cong)⟩ : S.Value) (⟨(⟨y6, y7⟩ : S.Inter), (⟨y8, y9⟩ : S.Cong)⟩ : S.Value)])
  | _ => none
theorem fns47 (n : Nat) (hc : CfgOk (c78.add 47 (semr47 n))) (op : Int) (a : S.Value) (b : S.Value) (hp : S.cond_tells_D (n + 1) op a b) : CallOk (c78.add 47 (semr47 n)) 47 [.int .i64 op, .agg [.int .i64 a.I.Lo, .int .i64 a.I.Hi, .int .u64 a.C.M, .int .u64 a.C.R], .agg [.int .i64 b.I.Lo, .int .i64 b.I.Hi, .int .u64 b.C.M, .int .u64 b.C.R]] (wr_b_b (S.cond_tells_F (n + 1) op a b)) (wo_b_b (S.cond_tells_F (n + 1) op a b)) :=
  (call_ok (c := (c78.add 47 (semr47 n))) (f := 47) (fn := Tryd.f47) (code := body47) (args := ([.int .i64 op, .agg [.int .i64 a.I.Lo, .int .i64 a.I.Hi, .int .u64 a.C.M, .int .u64 a.C.R], .agg [.int .i64 b.I.Lo, .int .i64 b.I.Hi, .int .u64 b.C.M, .int .u64 b.C.R]])) (loop := noLoop) (md := ⟨false, false⟩) (rd := rd_b_b) (wr := wr_b_b) (wo := wo_b_b) (r := (S.cond_tells_F (n + 1) op a b)) hc (by kernel_rfl) (by kernel_rfl) (by kernel_rfl) (no_loops (by kernel_rfl)) (by kernel_rfl) (by kernel_rfl) (by kernel_rfl)
    rw_b_b np_b_b no_b_b (by kernel_rfl) (Eq.mpr (show Vm.Tr.vc (Vm.Fn (c78.add 47 (semr47 n)) Tryd.f47 body47 noLoop ([.int .i64 op, .agg [.int .i64 a.I.Lo, .int .i64 a.I.Hi, .int .u64 a.C.M, .int .u64 a.C.R], .agg [.int .i64 b.I.Lo, .int .i64 b.I.Hi, .int .u64 b.C.M, .int .u64 b.C.R]])) = S.cond_tells_D (n + 1) op a b by kernel_rfl) hp))

theorem fnr47 (n : Nat) : ∀ (op : Int) (a : S.Value) (b : S.Value), S.cond_tells_D n op a b → CallOk c78 47 [.int .i64 op, .agg [.int .i64 a.I.Lo, .int .i64 a.I.Hi, .int .u64 a.C.M, .int .u64 a.C.R], .agg [.int .i64 b.I.Lo, .int .i64 b.I.Hi, .int .u64 b.C.M, .int .u64 b.C.R]] (wr_b_b (S.cond_tells_F n op a b)) (wo_b_b (S.cond_tells_F n op a b)) := by
  induction n with
  | zero => intro op a b hp; exact False.elim hp
  | succ n ih =>
    intro op a b hp
    have hc : CfgOk (c78.add 47 (semr47 n)) := c78_ok.add (fun args w => Tryd.call47 args w) (fun vs r outs ps h hp => by
      unfold semr47 at h
      split at h
      · cases h; exact ih _ _ _ hp
      · cases h)
    exact CallOk.same (c := (c78.add 47 (semr47 n))) (c' := c78) rfl rfl rfl rfl (fns47 n hc op a b hp)
theorem fn47 (op : Int) (a : S.Value) (b : S.Value) (hp : S.cond_tells_pre op a b) : CallOk c78 47 [.int .i64 op, .agg [.int .i64 a.I.Lo, .int .i64 a.I.Hi, .int .u64 a.C.M, .int .u64 a.C.R], .agg [.int .i64 b.I.Lo, .int .i64 b.I.Hi, .int .u64 b.C.M, .int .u64 b.C.R]] (wr_b_b (S.cond_tells op a b)) (wo_b_b (S.cond_tells op a b)) := fnr47 _ op a b (Classical.epsilon_spec hp)

noncomputable def sem47 : List W → Option (W × List (List W) × List Prop)
  | [.int .i64 y1, .agg [.int .i64 y2, .int .i64 y3, .int .u64 y4, .int .u64 y5], .agg [.int .i64 y6, .int .i64 y7, .int .u64 y8, .int .u64 y9]] => some (wr_b_b (S.cond_tells y1 (⟨(⟨y2, y3⟩ : S.Inter), (⟨y4, y5⟩ : S.Cong)⟩ : S.Value) (⟨(⟨y6, y7⟩ : S.Inter), (⟨y8, y9⟩ : S.Cong)⟩ : S.Value)), wo_b_b (S.cond_tells y1 (⟨(⟨y2, y3⟩ : S.Inter), (⟨y4, y5⟩ : S.Cong)⟩ : S.Value) (⟨(⟨y6, y7⟩ : S.Inter), (⟨y8, y9⟩ : S.Cong)⟩ : S.Value)), [S.cond_tells_pre y1 (⟨(⟨y2, y3⟩ : S.Inter), (⟨y4, y5⟩ : S.Cong)⟩ : S.Value) (⟨(⟨y6, y7⟩ : S.Inter), (⟨y8, y9⟩ : S.Cong)⟩ : S.Value)])
  | _ => none
noncomputable def c47 : Cfg El := c78.add 47 sem47
theorem c47_ok : CfgOk c47 := c78_ok.add (fun args w => Tryd.call47 args w) (fun vs r outs ps h hp => by
  unfold sem47 at h
  split at h
  · rename_i y1 y2 y3 y4 y5 y6 y7 y8 y9; cases h; exact fn47 y1 (⟨(⟨y2, y3⟩ : S.Inter), (⟨y4, y5⟩ : S.Cong)⟩ : S.Value) (⟨(⟨y6, y7⟩ : S.Inter), (⟨y8, y9⟩ : S.Cong)⟩ : S.Value) hp
  · cases h)

noncomputable def body18 : Code := (Tryd.f18.body).getD .skip
theorem fn18 (lo : Int) (hi : Int) (hp : S.value_Range_pre lo hi) : CallOk c47 18 [.int .i64 lo, .int .i64 hi] (wr_S27 (S.value_Range lo hi)) (wo_S27 (S.value_Range lo hi)) :=
  (call_ok (c := c47) (f := 18) (fn := Tryd.f18) (code := body18) (args := ([.int .i64 lo, .int .i64 hi])) (loop := noLoop) (md := ⟨false, false⟩) (rd := rd_S27) (wr := wr_S27) (wo := wo_S27) (r := (S.value_Range lo hi)) c47_ok (by kernel_rfl) (by kernel_rfl) (by kernel_rfl) (no_loops (by kernel_rfl)) (by kernel_rfl) (by kernel_rfl) (by kernel_rfl)
    rw_S27 np_S27 no_S27 (by kernel_rfl) (Eq.mpr (show Vm.Tr.vc (Vm.Fn c47 Tryd.f18 body18 noLoop ([.int .i64 lo, .int .i64 hi])) = S.value_Range_pre lo hi by kernel_rfl) hp))

noncomputable def sem18 : List W → Option (W × List (List W) × List Prop)
  | [.int .i64 y1, .int .i64 y2] => some (wr_S27 (S.value_Range y1 y2), wo_S27 (S.value_Range y1 y2), [S.value_Range_pre y1 y2])
  | _ => none
noncomputable def c18 : Cfg El := c47.add 18 sem18
theorem c18_ok : CfgOk c18 := c47_ok.add (fun args w => Tryd.call18 args w) (fun vs r outs ps h hp => by
  unfold sem18 at h
  split at h
  · rename_i y1 y2; cases h; exact fn18 y1 y2 hp
  · cases h)

noncomputable def body46 : Code := (Tryd.f46.body).getD .skip
theorem fn46 (yes : Bool) (no : Bool) (hp : S.cond_truth_pre yes no) : CallOk c18 46 [.bool yes, .bool no] (wr_S27 (S.cond_truth yes no)) (wo_S27 (S.cond_truth yes no)) :=
  (call_ok (c := c18) (f := 46) (fn := Tryd.f46) (code := body46) (args := ([.bool yes, .bool no])) (loop := noLoop) (md := ⟨false, false⟩) (rd := rd_S27) (wr := wr_S27) (wo := wo_S27) (r := (S.cond_truth yes no)) c18_ok (by kernel_rfl) (by kernel_rfl) (by kernel_rfl) (no_loops (by kernel_rfl)) (by kernel_rfl) (by kernel_rfl) (by kernel_rfl)
    rw_S27 np_S27 no_S27 (by kernel_rfl) (Eq.mpr (show Vm.Tr.vc (Vm.Fn c18 Tryd.f46 body46 noLoop ([.bool yes, .bool no])) = S.cond_truth_pre yes no by kernel_rfl) hp))

noncomputable def sem46 : List W → Option (W × List (List W) × List Prop)
  | [.bool y1, .bool y2] => some (wr_S27 (S.cond_truth y1 y2), wo_S27 (S.cond_truth y1 y2), [S.cond_truth_pre y1 y2])
  | _ => none
noncomputable def c46 : Cfg El := c18.add 46 sem46
theorem c46_ok : CfgOk c46 := c18_ok.add (fun args w => Tryd.call46 args w) (fun vs r outs ps h hp => by
  unfold sem46 at h
  split at h
  · rename_i y1 y2; cases h; exact fn46 y1 y2 hp
  · cases h)

noncomputable def body17 : Code := (Tryd.f17.body).getD .skip
theorem fn17 (op : Int) (a : S.Value) (b : S.Value) (hp : S.cond_Do_pre op a b) : CallOk c46 17 [.int .i64 op, .agg [.int .i64 a.I.Lo, .int .i64 a.I.Hi, .int .u64 a.C.M, .int .u64 a.C.R], .agg [.int .i64 b.I.Lo, .int .i64 b.I.Hi, .int .u64 b.C.M, .int .u64 b.C.R]] (wr_S27 (S.cond_Do op a b)) (wo_S27 (S.cond_Do op a b)) :=
  (call_ok (c := c46) (f := 17) (fn := Tryd.f17) (code := body17) (args := ([.int .i64 op, .agg [.int .i64 a.I.Lo, .int .i64 a.I.Hi, .int .u64 a.C.M, .int .u64 a.C.R], .agg [.int .i64 b.I.Lo, .int .i64 b.I.Hi, .int .u64 b.C.M, .int .u64 b.C.R]])) (loop := noLoop) (md := ⟨false, false⟩) (rd := rd_S27) (wr := wr_S27) (wo := wo_S27) (r := (S.cond_Do op a b)) c46_ok (by kernel_rfl) (by kernel_rfl) (by kernel_rfl) (no_loops (by kernel_rfl)) (by kernel_rfl) (by kernel_rfl) (by kernel_rfl)
    rw_S27 np_S27 no_S27 (by kernel_rfl) (Eq.mpr (show Vm.Tr.vc (Vm.Fn c46 Tryd.f17 body17 noLoop ([.int .i64 op, .agg [.int .i64 a.I.Lo, .int .i64 a.I.Hi, .int .u64 a.C.M, .int .u64 a.C.R], .agg [.int .i64 b.I.Lo, .int .i64 b.I.Hi, .int .u64 b.C.M, .int .u64 b.C.R]])) = S.cond_Do_pre op a b by kernel_rfl) hp))

noncomputable def sem17 : List W → Option (W × List (List W) × List Prop)
  | [.int .i64 y1, .agg [.int .i64 y2, .int .i64 y3, .int .u64 y4, .int .u64 y5], .agg [.int .i64 y6, .int .i64 y7, .int .u64 y8, .int .u64 y9]] => some (wr_S27 (S.cond_Do y1 (⟨(⟨y2, y3⟩ : S.Inter), (⟨y4, y5⟩ : S.Cong)⟩ : S.Value) (⟨(⟨y6, y7⟩ : S.Inter), (⟨y8, y9⟩ : S.Cong)⟩ : S.Value)), wo_S27 (S.cond_Do y1 (⟨(⟨y2, y3⟩ : S.Inter), (⟨y4, y5⟩ : S.Cong)⟩ : S.Value) (⟨(⟨y6, y7⟩ : S.Inter), (⟨y8, y9⟩ : S.Cong)⟩ : S.Value)), [S.cond_Do_pre y1 (⟨(⟨y2, y3⟩ : S.Inter), (⟨y4, y5⟩ : S.Cong)⟩ : S.Value) (⟨(⟨y6, y7⟩ : S.Inter), (⟨y8, y9⟩ : S.Cong)⟩ : S.Value)])
  | _ => none
noncomputable def c17 : Cfg El := c46.add 17 sem17
theorem c17_ok : CfgOk c17 := c46_ok.add (fun args w => Tryd.call17 args w) (fun vs r outs ps h hp => by
  unfold sem17 at h
  split at h
  · rename_i y1 y2 y3 y4 y5 y6 y7 y8 y9; cases h; exact fn17 y1 (⟨(⟨y2, y3⟩ : S.Inter), (⟨y4, y5⟩ : S.Cong)⟩ : S.Value) (⟨(⟨y6, y7⟩ : S.Inter), (⟨y8, y9⟩ : S.Cong)⟩ : S.Value) hp
  · cases h)

noncomputable def body93 : Code := (Tryd.f93.body).getD .skip
theorem fn93 (v : S.Value) (lo : Int) (hi : Int) (hp : S.cond_between_pre v lo hi) : CallOk c17 93 [.agg [.int .i64 v.I.Lo, .int .i64 v.I.Hi, .int .u64 v.C.M, .int .u64 v.C.R], .int .i64 lo, .int .i64 hi] (wr_S27 (S.cond_between v lo hi)) (wo_S27 (S.cond_between v lo hi)) :=
  (call_ok (c := c17) (f := 93) (fn := Tryd.f93) (code := body93) (args := ([.agg [.int .i64 v.I.Lo, .int .i64 v.I.Hi, .int .u64 v.C.M, .int .u64 v.C.R], .int .i64 lo, .int .i64 hi])) (loop := noLoop) (md := ⟨false, false⟩) (rd := rd_S27) (wr := wr_S27) (wo := wo_S27) (r := (S.cond_between v lo hi)) c17_ok (by kernel_rfl) (by kernel_rfl) (by kernel_rfl) (no_loops (by kernel_rfl)) (by kernel_rfl) (by kernel_rfl) (by kernel_rfl)
    rw_S27 np_S27 no_S27 (by kernel_rfl) (Eq.mpr (show Vm.Tr.vc (Vm.Fn c17 Tryd.f93 body93 noLoop ([.agg [.int .i64 v.I.Lo, .int .i64 v.I.Hi, .int .u64 v.C.M, .int .u64 v.C.R], .int .i64 lo, .int .i64 hi])) = S.cond_between_pre v lo hi by kernel_rfl) hp))

noncomputable def sem93 : List W → Option (W × List (List W) × List Prop)
  | [.agg [.int .i64 y1, .int .i64 y2, .int .u64 y3, .int .u64 y4], .int .i64 y5, .int .i64 y6] => some (wr_S27 (S.cond_between (⟨(⟨y1, y2⟩ : S.Inter), (⟨y3, y4⟩ : S.Cong)⟩ : S.Value) y5 y6), wo_S27 (S.cond_between (⟨(⟨y1, y2⟩ : S.Inter), (⟨y3, y4⟩ : S.Cong)⟩ : S.Value) y5 y6), [S.cond_between_pre (⟨(⟨y1, y2⟩ : S.Inter), (⟨y3, y4⟩ : S.Cong)⟩ : S.Value) y5 y6])
  | _ => none
noncomputable def c93 : Cfg El := c17.add 93 sem93
theorem c93_ok : CfgOk c93 := c17_ok.add (fun args w => Tryd.call93 args w) (fun vs r outs ps h hp => by
  unfold sem93 at h
  split at h
  · rename_i y1 y2 y3 y4 y5 y6; cases h; exact fn93 (⟨(⟨y1, y2⟩ : S.Inter), (⟨y3, y4⟩ : S.Cong)⟩ : S.Value) y5 y6 hp
  · cases h)

noncomputable def body87 : Code := (Tryd.f87.body).getD .skip
theorem fn87 (v : S.Value) (n : Int) (hp : S.cond_from_pre v n) : CallOk c93 87 [.agg [.int .i64 v.I.Lo, .int .i64 v.I.Hi, .int .u64 v.C.M, .int .u64 v.C.R], .int .i64 n] (wr_S27 (S.cond_from v n)) (wo_S27 (S.cond_from v n)) :=
  (call_ok (c := c93) (f := 87) (fn := Tryd.f87) (code := body87) (args := ([.agg [.int .i64 v.I.Lo, .int .i64 v.I.Hi, .int .u64 v.C.M, .int .u64 v.C.R], .int .i64 n])) (loop := noLoop) (md := ⟨false, false⟩) (rd := rd_S27) (wr := wr_S27) (wo := wo_S27) (r := (S.cond_from v n)) c93_ok (by kernel_rfl) (by kernel_rfl) (by kernel_rfl) (no_loops (by kernel_rfl)) (by kernel_rfl) (by kernel_rfl) (by kernel_rfl)
    rw_S27 np_S27 no_S27 (by kernel_rfl) (Eq.mpr (show Vm.Tr.vc (Vm.Fn c93 Tryd.f87 body87 noLoop ([.agg [.int .i64 v.I.Lo, .int .i64 v.I.Hi, .int .u64 v.C.M, .int .u64 v.C.R], .int .i64 n])) = S.cond_from_pre v n by kernel_rfl) hp))

noncomputable def sem87 : List W → Option (W × List (List W) × List Prop)
  | [.agg [.int .i64 y1, .int .i64 y2, .int .u64 y3, .int .u64 y4], .int .i64 y5] => some (wr_S27 (S.cond_from (⟨(⟨y1, y2⟩ : S.Inter), (⟨y3, y4⟩ : S.Cong)⟩ : S.Value) y5), wo_S27 (S.cond_from (⟨(⟨y1, y2⟩ : S.Inter), (⟨y3, y4⟩ : S.Cong)⟩ : S.Value) y5), [S.cond_from_pre (⟨(⟨y1, y2⟩ : S.Inter), (⟨y3, y4⟩ : S.Cong)⟩ : S.Value) y5])
  | _ => none
noncomputable def c87 : Cfg El := c93.add 87 sem87
theorem c87_ok : CfgOk c87 := c93_ok.add (fun args w => Tryd.call87 args w) (fun vs r outs ps h hp => by
  unfold sem87 at h
  split at h
  · rename_i y1 y2 y3 y4 y5; cases h; exact fn87 (⟨(⟨y1, y2⟩ : S.Inter), (⟨y3, y4⟩ : S.Cong)⟩ : S.Value) y5 hp
  · cases h)

noncomputable def body83 : Code := (Tryd.f83.body).getD .skip
theorem fn83 (v : S.Value) (n : Int) (hp : S.cond_above_pre v n) : CallOk c87 83 [.agg [.int .i64 v.I.Lo, .int .i64 v.I.Hi, .int .u64 v.C.M, .int .u64 v.C.R], .int .i64 n] (wr_S27 (S.cond_above v n)) (wo_S27 (S.cond_above v n)) :=
  (call_ok (c := c87) (f := 83) (fn := Tryd.f83) (code := body83) (args := ([.agg [.int .i64 v.I.Lo, .int .i64 v.I.Hi, .int .u64 v.C.M, .int .u64 v.C.R], .int .i64 n])) (loop := noLoop) (md := ⟨false, false⟩) (rd := rd_S27) (wr := wr_S27) (wo := wo_S27) (r := (S.cond_above v n)) c87_ok (by kernel_rfl) (by kernel_rfl) (by kernel_rfl) (no_loops (by kernel_rfl)) (by kernel_rfl) (by kernel_rfl) (by kernel_rfl)
    rw_S27 np_S27 no_S27 (by kernel_rfl) (Eq.mpr (show Vm.Tr.vc (Vm.Fn c87 Tryd.f83 body83 noLoop ([.agg [.int .i64 v.I.Lo, .int .i64 v.I.Hi, .int .u64 v.C.M, .int .u64 v.C.R], .int .i64 n])) = S.cond_above_pre v n by kernel_rfl) hp))

noncomputable def sem83 : List W → Option (W × List (List W) × List Prop)
  | [.agg [.int .i64 y1, .int .i64 y2, .int .u64 y3, .int .u64 y4], .int .i64 y5] => some (wr_S27 (S.cond_above (⟨(⟨y1, y2⟩ : S.Inter), (⟨y3, y4⟩ : S.Cong)⟩ : S.Value) y5), wo_S27 (S.cond_above (⟨(⟨y1, y2⟩ : S.Inter), (⟨y3, y4⟩ : S.Cong)⟩ : S.Value) y5), [S.cond_above_pre (⟨(⟨y1, y2⟩ : S.Inter), (⟨y3, y4⟩ : S.Cong)⟩ : S.Value) y5])
  | _ => none
noncomputable def c83 : Cfg El := c87.add 83 sem83
theorem c83_ok : CfgOk c83 := c87_ok.add (fun args w => Tryd.call83 args w) (fun vs r outs ps h hp => by
  unfold sem83 at h
  split at h
  · rename_i y1 y2 y3 y4 y5; cases h; exact fn83 (⟨(⟨y1, y2⟩ : S.Inter), (⟨y3, y4⟩ : S.Cong)⟩ : S.Value) y5 hp
  · cases h)

noncomputable def body86 : Code := (Tryd.f86.body).getD .skip
theorem fn86 (v : S.Value) (n : Int) (hp : S.cond_upto_pre v n) : CallOk c83 86 [.agg [.int .i64 v.I.Lo, .int .i64 v.I.Hi, .int .u64 v.C.M, .int .u64 v.C.R], .int .i64 n] (wr_S27 (S.cond_upto v n)) (wo_S27 (S.cond_upto v n)) :=
  (call_ok (c := c83) (f := 86) (fn := Tryd.f86) (code := body86) (args := ([.agg [.int .i64 v.I.Lo, .int .i64 v.I.Hi, .int .u64 v.C.M, .int .u64 v.C.R], .int .i64 n])) (loop := noLoop) (md := ⟨false, false⟩) (rd := rd_S27) (wr := wr_S27) (wo := wo_S27) (r := (S.cond_upto v n)) c83_ok (by kernel_rfl) (by kernel_rfl) (by kernel_rfl) (no_loops (by kernel_rfl)) (by kernel_rfl) (by kernel_rfl) (by kernel_rfl)
    rw_S27 np_S27 no_S27 (by kernel_rfl) (Eq.mpr (show Vm.Tr.vc (Vm.Fn c83 Tryd.f86 body86 noLoop ([.agg [.int .i64 v.I.Lo, .int .i64 v.I.Hi, .int .u64 v.C.M, .int .u64 v.C.R], .int .i64 n])) = S.cond_upto_pre v n by kernel_rfl) hp))

noncomputable def sem86 : List W → Option (W × List (List W) × List Prop)
  | [.agg [.int .i64 y1, .int .i64 y2, .int .u64 y3, .int .u64 y4], .int .i64 y5] => some (wr_S27 (S.cond_upto (⟨(⟨y1, y2⟩ : S.Inter), (⟨y3, y4⟩ : S.Cong)⟩ : S.Value) y5), wo_S27 (S.cond_upto (⟨(⟨y1, y2⟩ : S.Inter), (⟨y3, y4⟩ : S.Cong)⟩ : S.Value) y5), [S.cond_upto_pre (⟨(⟨y1, y2⟩ : S.Inter), (⟨y3, y4⟩ : S.Cong)⟩ : S.Value) y5])
  | _ => none
noncomputable def c86 : Cfg El := c83.add 86 sem86
theorem c86_ok : CfgOk c86 := c83_ok.add (fun args w => Tryd.call86 args w) (fun vs r outs ps h hp => by
  unfold sem86 at h
  split at h
  · rename_i y1 y2 y3 y4 y5; cases h; exact fn86 (⟨(⟨y1, y2⟩ : S.Inter), (⟨y3, y4⟩ : S.Cong)⟩ : S.Value) y5 hp
  · cases h)

noncomputable def body84 : Code := (Tryd.f84.body).getD .skip
theorem fn84 (v : S.Value) (n : Int) (hp : S.cond_below_pre v n) : CallOk c86 84 [.agg [.int .i64 v.I.Lo, .int .i64 v.I.Hi, .int .u64 v.C.M, .int .u64 v.C.R], .int .i64 n] (wr_S27 (S.cond_below v n)) (wo_S27 (S.cond_below v n)) :=
  (call_ok (c := c86) (f := 84) (fn := Tryd.f84) (code := body84) (args := ([.agg [.int .i64 v.I.Lo, .int .i64 v.I.Hi, .int .u64 v.C.M, .int .u64 v.C.R], .int .i64 n])) (loop := noLoop) (md := ⟨false, false⟩) (rd := rd_S27) (wr := wr_S27) (wo := wo_S27) (r := (S.cond_below v n)) c86_ok (by kernel_rfl) (by kernel_rfl) (by kernel_rfl) (no_loops (by kernel_rfl)) (by kernel_rfl) (by kernel_rfl) (by kernel_rfl)
    rw_S27 np_S27 no_S27 (by kernel_rfl) (Eq.mpr (show Vm.Tr.vc (Vm.Fn c86 Tryd.f84 body84 noLoop ([.agg [.int .i64 v.I.Lo, .int .i64 v.I.Hi, .int .u64 v.C.M, .int .u64 v.C.R], .int .i64 n])) = S.cond_below_pre v n by kernel_rfl) hp))

noncomputable def sem84 : List W → Option (W × List (List W) × List Prop)
  | [.agg [.int .i64 y1, .int .i64 y2, .int .u64 y3, .int .u64 y4], .int .i64 y5] => some (wr_S27 (S.cond_below (⟨(⟨y1, y2⟩ : S.Inter), (⟨y3, y4⟩ : S.Cong)⟩ : S.Value) y5), wo_S27 (S.cond_below (⟨(⟨y1, y2⟩ : S.Inter), (⟨y3, y4⟩ : S.Cong)⟩ : S.Value) y5), [S.cond_below_pre (⟨(⟨y1, y2⟩ : S.Inter), (⟨y3, y4⟩ : S.Cong)⟩ : S.Value) y5])
  | _ => none
noncomputable def c84 : Cfg El := c86.add 84 sem84
theorem c84_ok : CfgOk c84 := c86_ok.add (fun args w => Tryd.call84 args w) (fun vs r outs ps h hp => by
  unfold sem84 at h
  split at h
  · rename_i y1 y2 y3 y4 y5; cases h; exact fn84 (⟨(⟨y1, y2⟩ : S.Inter), (⟨y3, y4⟩ : S.Cong)⟩ : S.Value) y5 hp
  · cases h)

noncomputable def body75 : Code := (Tryd.f75.body).getD .skip
theorem fn75 (v : S.Value) (n : Int) (hp : S.cond_Without_pre v n) : CallOk c84 75 [.agg [.int .i64 v.I.Lo, .int .i64 v.I.Hi, .int .u64 v.C.M, .int .u64 v.C.R], .int .i64 n] (wr_S27 (S.cond_Without v n)) (wo_S27 (S.cond_Without v n)) :=
  (call_ok (c := c84) (f := 75) (fn := Tryd.f75) (code := body75) (args := ([.agg [.int .i64 v.I.Lo, .int .i64 v.I.Hi, .int .u64 v.C.M, .int .u64 v.C.R], .int .i64 n])) (loop := noLoop) (md := ⟨false, false⟩) (rd := rd_S27) (wr := wr_S27) (wo := wo_S27) (r := (S.cond_Without v n)) c84_ok (by kernel_rfl) (by kernel_rfl) (by kernel_rfl) (no_loops (by kernel_rfl)) (by kernel_rfl) (by kernel_rfl) (by kernel_rfl)
    rw_S27 np_S27 no_S27 (by kernel_rfl) (Eq.mpr (show Vm.Tr.vc (Vm.Fn c84 Tryd.f75 body75 noLoop ([.agg [.int .i64 v.I.Lo, .int .i64 v.I.Hi, .int .u64 v.C.M, .int .u64 v.C.R], .int .i64 n])) = S.cond_Without_pre v n by kernel_rfl) hp))

noncomputable def sem75 : List W → Option (W × List (List W) × List Prop)
  | [.agg [.int .i64 y1, .int .i64 y2, .int .u64 y3, .int .u64 y4], .int .i64 y5] => some (wr_S27 (S.cond_Without (⟨(⟨y1, y2⟩ : S.Inter), (⟨y3, y4⟩ : S.Cong)⟩ : S.Value) y5), wo_S27 (S.cond_Without (⟨(⟨y1, y2⟩ : S.Inter), (⟨y3, y4⟩ : S.Cong)⟩ : S.Value) y5), [S.cond_Without_pre (⟨(⟨y1, y2⟩ : S.Inter), (⟨y3, y4⟩ : S.Cong)⟩ : S.Value) y5])
  | _ => none
noncomputable def c75 : Cfg El := c84.add 75 sem75
theorem c75_ok : CfgOk c75 := c84_ok.add (fun args w => Tryd.call75 args w) (fun vs r outs ps h hp => by
  unfold sem75 at h
  split at h
  · rename_i y1 y2 y3 y4 y5; cases h; exact fn75 (⟨(⟨y1, y2⟩ : S.Inter), (⟨y3, y4⟩ : S.Cong)⟩ : S.Value) y5 hp
  · cases h)

noncomputable def body33 : Code := (Tryd.f33.body).getD .skip
theorem fn33 (a : S.Value) (b : S.Value) (hp : S.value_Meet_1_pre a b) : CallOk c75 33 [.agg [.int .i64 a.I.Lo, .int .i64 a.I.Hi, .int .u64 a.C.M, .int .u64 a.C.R], .agg [.int .i64 b.I.Lo, .int .i64 b.I.Hi, .int .u64 b.C.M, .int .u64 b.C.R]] (wr_S27 (S.value_Meet_1 a b)) (wo_S27 (S.value_Meet_1 a b)) :=
  (call_ok (c := c75) (f := 33) (fn := Tryd.f33) (code := body33) (args := ([.agg [.int .i64 a.I.Lo, .int .i64 a.I.Hi, .int .u64 a.C.M, .int .u64 a.C.R], .agg [.int .i64 b.I.Lo, .int .i64 b.I.Hi, .int .u64 b.C.M, .int .u64 b.C.R]])) (loop := noLoop) (md := ⟨false, false⟩) (rd := rd_S27) (wr := wr_S27) (wo := wo_S27) (r := (S.value_Meet_1 a b)) c75_ok (by kernel_rfl) (by kernel_rfl) (by kernel_rfl) (no_loops (by kernel_rfl)) (by kernel_rfl) (by kernel_rfl) (by kernel_rfl)
    rw_S27 np_S27 no_S27 (by kernel_rfl) (Eq.mpr (show Vm.Tr.vc (Vm.Fn c75 Tryd.f33 body33 noLoop ([.agg [.int .i64 a.I.Lo, .int .i64 a.I.Hi, .int .u64 a.C.M, .int .u64 a.C.R], .agg [.int .i64 b.I.Lo, .int .i64 b.I.Hi, .int .u64 b.C.M, .int .u64 b.C.R]])) = S.value_Meet_1_pre a b by kernel_rfl) hp))

noncomputable def sem33 : List W → Option (W × List (List W) × List Prop)
  | [.agg [.int .i64 y1, .int .i64 y2, .int .u64 y3, .int .u64 y4], .agg [.int .i64 y5, .int .i64 y6, .int .u64 y7, .int .u64 y8]] => some (wr_S27 (S.value_Meet_1 (⟨(⟨y1, y2⟩ : S.Inter), (⟨y3, y4⟩ : S.Cong)⟩ : S.Value) (⟨(⟨y5, y6⟩ : S.Inter), (⟨y7, y8⟩ : S.Cong)⟩ : S.Value)), wo_S27 (S.value_Meet_1 (⟨(⟨y1, y2⟩ : S.Inter), (⟨y3, y4⟩ : S.Cong)⟩ : S.Value) (⟨(⟨y5, y6⟩ : S.Inter), (⟨y7, y8⟩ : S.Cong)⟩ : S.Value)), [S.value_Meet_1_pre (⟨(⟨y1, y2⟩ : S.Inter), (⟨y3, y4⟩ : S.Cong)⟩ : S.Value) (⟨(⟨y5, y6⟩ : S.Inter), (⟨y7, y8⟩ : S.Cong)⟩ : S.Value)])
  | _ => none
noncomputable def c33 : Cfg El := c75.add 33 sem33
theorem c33_ok : CfgOk c33 := c75_ok.add (fun args w => Tryd.call33 args w) (fun vs r outs ps h hp => by
  unfold sem33 at h
  split at h
  · rename_i y1 y2 y3 y4 y5 y6 y7 y8; cases h; exact fn33 (⟨(⟨y1, y2⟩ : S.Inter), (⟨y3, y4⟩ : S.Cong)⟩ : S.Value) (⟨(⟨y5, y6⟩ : S.Inter), (⟨y7, y8⟩ : S.Cong)⟩ : S.Value) hp
  · cases h)

noncomputable def body27 : Code := (Tryd.f27.body).getD .skip
noncomputable def lb27_value_Meet_1_0 : Code := ((nth (loopsOf 0 body27) 0).getD (0, .skip)).2
noncomputable def px27_value_Meet_1_0 : List W → Option S.value_fold_value_Meet_1_L0
  | [.fn 33, .ptr 3 0, .list 28 false y1, .int .i64 y2, .int .i64 y3, .int .i64 y4, .int .i64 y5, .int .u64 y6, .int .u64 y7] => some ⟨y1, y2, y3, ⟨⟨y4, y5⟩, ⟨y6, y7⟩⟩⟩
  | _ => none
noncomputable def tx27_value_Meet_1_0 (x : S.value_fold_value_Meet_1_L0) : List W := [.fn 33, .ptr 3 0, .list 28 false x.t9, .int .i64 x.t10, .int .i64 x.t11, .int .i64 x.first.I.Lo, .int .i64 x.first.I.Hi, .int .u64 x.first.C.M, .int .u64 x.first.C.R]
noncomputable def py27_value_Meet_1_0 : Ex → List W → Option (S.value_fold_value_Meet_1_L0)
  | .exit 0, [.fn 33, .ptr 3 0, .list 28 false y1, .int .i64 y2, .int .i64 y3, .int .i64 y4, .int .i64 y5, .int .u64 y6, .int .u64 y7] => some ⟨y1, y2, y3, ⟨⟨y4, y5⟩, ⟨y6, y7⟩⟩⟩
  | _, _ => none
noncomputable def ld27_value_Meet_1_0 : LD El where
  X := S.value_fold_value_Meet_1_L0
  Y := S.value_fold_value_Meet_1_L0
  keys := [.slot 2, .slot 3, .slot 9, .slot 10, .slot 11, .cell 3 0, .cell 3 1, .cell 3 2, .cell 3 3]
  fits := [34, 0, 29, 3, 3, 2, 2, 24, 24]
  px := px27_value_Meet_1_0
  tx := tx27_value_Meet_1_0
  okeys := [.slot 2, .slot 3, .slot 9, .slot 10, .slot 11, .cell 3 0, .cell 3 1, .cell 3 2, .cell 3 3]
  ofits := [34, 0, 29, 3, 3, 2, 2, 24, 24]
  py := py27_value_Meet_1_0
  ty := fun y => tx27_value_Meet_1_0 y
  oex := fun _ => .exit 0
  junk := [.slot 8, .slot 12, .slot 13, .slot 14, .slot 15, .slot 16, .slot 17, .slot 18, .slot 19, .slot 20]
  rows := []
noncomputable def lo27_value_Meet_1_0 : S.value_fold_value_Meet_1_L0 → Tr El := fun y => .leaf (.exit 0) (zipK ld27_value_Meet_1_0.okeys (tx27_value_Meet_1_0 y) ++ junkK ld27_value_Meet_1_0.junk)
noncomputable def loop27_value_Meet_1 : Nat → Env El → Tr El
  | 0 => ld27_value_Meet_1_0.tree c33 Tryd.f27.ntmps 0 lb27_value_Meet_1_0 S.value_fold_value_Meet_1_L0_run lo27_value_Meet_1_0 S.value_fold_value_Meet_1_L0_step S.value_fold_value_Meet_1_L0_vcs
  | _ => fun _ => .fail
theorem lok27_value_Meet_1_0 : ∀ w0 S0, LoopOk c33 Tryd.f27.ntmps w0 S0 loop27_value_Meet_1 0 lb27_value_Meet_1_0 :=
  loop_ok (c := c33) (n := Tryd.f27.ntmps) c33_ok mixed ld27_value_Meet_1_0 (body := lb27_value_Meet_1_0) (key := 0) (loop := loop27_value_Meet_1) (F := S.value_fold_value_Meet_1_L0_run) (out := lo27_value_Meet_1_0) (step := S.value_fold_value_Meet_1_L0_step) (vcs := S.value_fold_value_Meet_1_L0_vcs)
    (fun _ => by kernel_rfl) (no_loops (by kernel_rfl)) rfl rfl
    (fun vs x h => by unfold ld27_value_Meet_1_0 px27_value_Meet_1_0 at h; dsimp only at h; split at h <;> first | (cases h; rfl) | cases h)
    (fun e vs y h => by unfold ld27_value_Meet_1_0 py27_value_Meet_1_0 at h; dsimp only at h; split at h <;> first | (cases h; exact ⟨rfl, rfl⟩) | cases h)
    (by kernel_rfl) (fun _ => rfl) (fun _ _ h => h) (fun x => by kernel_rfl) (fun x h => Eq.mpr (show Vm.Tr.vc (Vm.ev c33 Tryd.f27.ntmps loop27_value_Meet_1 0 lb27_value_Meet_1_0 (ld27_value_Meet_1_0.vars x) []) = S.value_fold_value_Meet_1_L0_vcs x by kernel_rfl) h)
theorem fn27_value_Meet_1 (first : S.Value) (l : (List S.Value)) (hp : S.value_fold_value_Meet_1_pre first l) : CallOk c33 27 [.agg [.int .i64 first.I.Lo, .int .i64 first.I.Hi, .int .u64 first.C.M, .int .u64 first.C.R], .list 28 false l, .fn 33] (wr_S27 (S.value_fold_value_Meet_1 first l)) (wo_S27 (S.value_fold_value_Meet_1 first l)) :=
  (call_ok (c := c33) (f := 27) (fn := Tryd.f27) (code := body27) (args := ([.agg [.int .i64 first.I.Lo, .int .i64 first.I.Hi, .int .u64 first.C.M, .int .u64 first.C.R], .list 28 false l, .fn 33])) (loop := loop27_value_Meet_1) (md := ⟨false, false⟩) (rd := rd_S27) (wr := wr_S27) (wo := wo_S27) (r := (S.value_fold_value_Meet_1 first l)) c33_ok (by kernel_rfl) (by kernel_rfl) (by kernel_rfl) (loops_all (l := [(0, lb27_value_Meet_1_0)]) (by kernel_rfl) ⟨lok27_value_Meet_1_0, trivial⟩) (by kernel_rfl) (by kernel_rfl) (by kernel_rfl)
    rw_S27 np_S27 no_S27 (by kernel_rfl) (Eq.mpr (show Vm.Tr.vc (Vm.Fn c33 Tryd.f27 body27 loop27_value_Meet_1 ([.agg [.int .i64 first.I.Lo, .int .i64 first.I.Hi, .int .u64 first.C.M, .int .u64 first.C.R], .list 28 false l, .fn 33])) = S.value_fold_value_Meet_1_pre first l by kernel_rfl) hp))

noncomputable def sem27 : List W → Option (W × List (List W) × List Prop)
  | [.agg [.int .i64 y1, .int .i64 y2, .int .u64 y3, .int .u64 y4], .list 28 false y5, .fn 33] => some (wr_S27 (S.value_fold_value_Meet_1 (⟨(⟨y1, y2⟩ : S.Inter), (⟨y3, y4⟩ : S.Cong)⟩ : S.Value) y5), wo_S27 (S.value_fold_value_Meet_1 (⟨(⟨y1, y2⟩ : S.Inter), (⟨y3, y4⟩ : S.Cong)⟩ : S.Value) y5), [S.value_fold_value_Meet_1_pre (⟨(⟨y1, y2⟩ : S.Inter), (⟨y3, y4⟩ : S.Cong)⟩ : S.Value) y5])
  | _ => none
noncomputable def c27 : Cfg El := c33.add 27 sem27
theorem c27_ok : CfgOk c27 := c33_ok.add (fun args w => Tryd.call27 args w) (fun vs r outs ps h hp => by
  unfold sem27 at h
  split at h
  · rename_i y1 y2 y3 y4 y5; cases h; exact fn27_value_Meet_1 (⟨(⟨y1, y2⟩ : S.Inter), (⟨y3, y4⟩ : S.Cong)⟩ : S.Value) y5 hp
  · cases h)

noncomputable def body7 : Code := (Tryd.f7.body).getD .skip
theorem fn7 (l : (List S.Value)) (hp : S.value_Meet_pre l) : CallOk c27 7 [.list 28 false l] (wr_S27 (S.value_Meet l)) (wo_S27 (S.value_Meet l)) :=
  (call_ok (c := c27) (f := 7) (fn := Tryd.f7) (code := body7) (args := ([.list 28 false l])) (loop := noLoop) (md := ⟨false, false⟩) (rd := rd_S27) (wr := wr_S27) (wo := wo_S27) (r := (S.value_Meet l)) c27_ok (by kernel_rfl) (by kernel_rfl) (by kernel_rfl) (no_loops (by kernel_rfl)) (by kernel_rfl) (by kernel_rfl) (by kernel_rfl)
    rw_S27 np_S27 no_S27 (by kernel_rfl) (Eq.mpr (show Vm.Tr.vc (Vm.Fn c27 Tryd.f7 body7 noLoop ([.list 28 false l])) = S.value_Meet_pre l by kernel_rfl) hp))

noncomputable def sem7 : List W → Option (W × List (List W) × List Prop)
  | [.list 28 false y1] => some (wr_S27 (S.value_Meet y1), wo_S27 (S.value_Meet y1), [S.value_Meet_pre y1])
  | _ => none
noncomputable def c7 : Cfg El := c27.add 7 sem7
theorem c7_ok : CfgOk c7 := c27_ok.add (fun args w => Tryd.call7 args w) (fun vs r outs ps h hp => by
  unfold sem7 at h
  split at h
  · rename_i y1; cases h; exact fn7 y1 hp
  · cases h)

noncomputable def body44 : Code := (Tryd.f44.body).getD .skip
theorem fn44 (v : S.Value) (truth : Bool) (hp : S.cond_Only_pre v truth) : CallOk c7 44 [.agg [.int .i64 v.I.Lo, .int .i64 v.I.Hi, .int .u64 v.C.M, .int .u64 v.C.R], .bool truth] (wr_S27 (S.cond_Only v truth)) (wo_S27 (S.cond_Only v truth)) :=
  (call_ok (c := c7) (f := 44) (fn := Tryd.f44) (code := body44) (args := ([.agg [.int .i64 v.I.Lo, .int .i64 v.I.Hi, .int .u64 v.C.M, .int .u64 v.C.R], .bool truth])) (loop := noLoop) (md := ⟨false, false⟩) (rd := rd_S27) (wr := wr_S27) (wo := wo_S27) (r := (S.cond_Only v truth)) c7_ok (by kernel_rfl) (by kernel_rfl) (by kernel_rfl) (no_loops (by kernel_rfl)) (by kernel_rfl) (by kernel_rfl) (by kernel_rfl)
    rw_S27 np_S27 no_S27 (by kernel_rfl) (Eq.mpr (show Vm.Tr.vc (Vm.Fn c7 Tryd.f44 body44 noLoop ([.agg [.int .i64 v.I.Lo, .int .i64 v.I.Hi, .int .u64 v.C.M, .int .u64 v.C.R], .bool truth])) = S.cond_Only_pre v truth by kernel_rfl) hp))

noncomputable def sem44 : List W → Option (W × List (List W) × List Prop)
  | [.agg [.int .i64 y1, .int .i64 y2, .int .u64 y3, .int .u64 y4], .bool y5] => some (wr_S27 (S.cond_Only (⟨(⟨y1, y2⟩ : S.Inter), (⟨y3, y4⟩ : S.Cong)⟩ : S.Value) y5), wo_S27 (S.cond_Only (⟨(⟨y1, y2⟩ : S.Inter), (⟨y3, y4⟩ : S.Cong)⟩ : S.Value) y5), [S.cond_Only_pre (⟨(⟨y1, y2⟩ : S.Inter), (⟨y3, y4⟩ : S.Cong)⟩ : S.Value) y5])
  | _ => none
noncomputable def c44 : Cfg El := c7.add 44 sem44
theorem c44_ok : CfgOk c44 := c7_ok.add (fun args w => Tryd.call44 args w) (fun vs r outs ps h hp => by
  unfold sem44 at h
  split at h
  · rename_i y1 y2 y3 y4 y5; cases h; exact fn44 (⟨(⟨y1, y2⟩ : S.Inter), (⟨y3, y4⟩ : S.Cong)⟩ : S.Value) y5 hp
  · cases h)

noncomputable def body85 : Code := (Tryd.f85.body).getD .skip
theorem fn85 (v : S.Value) (other : S.Value) (hp : S.cond_without_pre v other) : CallOk c44 85 [.agg [.int .i64 v.I.Lo, .int .i64 v.I.Hi, .int .u64 v.C.M, .int .u64 v.C.R], .agg [.int .i64 other.I.Lo, .int .i64 other.I.Hi, .int .u64 other.C.M, .int .u64 other.C.R]] (wr_S27 (S.cond_without v other)) (wo_S27 (S.cond_without v other)) :=
  (call_ok (c := c44) (f := 85) (fn := Tryd.f85) (code := body85) (args := ([.agg [.int .i64 v.I.Lo, .int .i64 v.I.Hi, .int .u64 v.C.M, .int .u64 v.C.R], .agg [.int .i64 other.I.Lo, .int .i64 other.I.Hi, .int .u64 other.C.M, .int .u64 other.C.R]])) (loop := noLoop) (md := ⟨false, false⟩) (rd := rd_S27) (wr := wr_S27) (wo := wo_S27) (r := (S.cond_without v other)) c44_ok (by kernel_rfl) (by kernel_rfl) (by kernel_rfl) (no_loops (by kernel_rfl)) (by kernel_rfl) (by kernel_rfl) (by kernel_rfl)
    rw_S27 np_S27 no_S27 (by kernel_rfl) (Eq.mpr (show Vm.Tr.vc (Vm.Fn c44 Tryd.f85 body85 noLoop ([.agg [.int .i64 v.I.Lo, .int .i64 v.I.Hi, .int .u64 v.C.M, .int .u64 v.C.R], .agg [.int .i64 other.I.Lo, .int .i64 other.I.Hi, .int .u64 other.C.M, .int .u64 other.C.R]])) = S.cond_without_pre v other by kernel_rfl) hp))

noncomputable def sem85 : List W → Option (W × List (List W) × List Prop)
  | [.agg [.int .i64 y1, .int .i64 y2, .int .u64 y3, .int .u64 y4], .agg [.int .i64 y5, .int .i64 y6, .int .u64 y7, .int .u64 y8]] => some (wr_S27 (S.cond_without (⟨(⟨y1, y2⟩ : S.Inter), (⟨y3, y4⟩ : S.Cong)⟩ : S.Value) (⟨(⟨y5, y6⟩ : S.Inter), (⟨y7, y8⟩ : S.Cong)⟩ : S.Value)), wo_S27 (S.cond_without (⟨(⟨y1, y2⟩ : S.Inter), (⟨y3, y4⟩ : S.Cong)⟩ : S.Value) (⟨(⟨y5, y6⟩ : S.Inter), (⟨y7, y8⟩ : S.Cong)⟩ : S.Value)), [S.cond_without_pre (⟨(⟨y1, y2⟩ : S.Inter), (⟨y3, y4⟩ : S.Cong)⟩ : S.Value) (⟨(⟨y5, y6⟩ : S.Inter), (⟨y7, y8⟩ : S.Cong)⟩ : S.Value)])
  | _ => none
noncomputable def c85 : Cfg El := c44.add 85 sem85
theorem c85_ok : CfgOk c85 := c44_ok.add (fun args w => Tryd.call85 args w) (fun vs r outs ps h hp => by
  unfold sem85 at h
  split at h
  · rename_i y1 y2 y3 y4 y5 y6 y7 y8; cases h; exact fn85 (⟨(⟨y1, y2⟩ : S.Inter), (⟨y3, y4⟩ : S.Cong)⟩ : S.Value) (⟨(⟨y5, y6⟩ : S.Inter), (⟨y7, y8⟩ : S.Cong)⟩ : S.Value) hp
  · cases h)

noncomputable def body76 : Code := (Tryd.f76.body).getD .skip
theorem fn76 (op : Int) (a : S.Value) (b : S.Value) (hp : S.cond_left_pre op a b) : CallOk c85 76 [.int .i64 op, .agg [.int .i64 a.I.Lo, .int .i64 a.I.Hi, .int .u64 a.C.M, .int .u64 a.C.R], .agg [.int .i64 b.I.Lo, .int .i64 b.I.Hi, .int .u64 b.C.M, .int .u64 b.C.R]] (wr_S27_S27 (S.cond_left op a b)) (wo_S27_S27 (S.cond_left op a b)) :=
  (call_ok (c := c85) (f := 76) (fn := Tryd.f76) (code := body76) (args := ([.int .i64 op, .agg [.int .i64 a.I.Lo, .int .i64 a.I.Hi, .int .u64 a.C.M, .int .u64 a.C.R], .agg [.int .i64 b.I.Lo, .int .i64 b.I.Hi, .int .u64 b.C.M, .int .u64 b.C.R]])) (loop := noLoop) (md := ⟨false, false⟩) (rd := rd_S27_S27) (wr := wr_S27_S27) (wo := wo_S27_S27) (r := (S.cond_left op a b)) c85_ok (by kernel_rfl) (by kernel_rfl) (by kernel_rfl) (no_loops (by kernel_rfl)) (by kernel_rfl) (by kernel_rfl) (by kernel_rfl)
    rw_S27_S27 np_S27_S27 no_S27_S27 (by kernel_rfl) (Eq.mpr (show Vm.Tr.vc (Vm.Fn c85 Tryd.f76 body76 noLoop ([.int .i64 op, .agg [.int .i64 a.I.Lo, .int .i64 a.I.Hi, .int .u64 a.C.M, .int .u64 a.C.R], .agg [.int .i64 b.I.Lo, .int .i64 b.I.Hi, .int .u64 b.C.M, .int .u64 b.C.R]])) = S.cond_left_pre op a b by kernel_rfl) hp))

noncomputable def sem76 : List W → Option (W × List (List W) × List Prop)
  | [.int .i64 y1, .agg [.int .i64 y2, .int .i64 y3, .int .u64 y4, .int .u64 y5], .agg [.int .i64 y6, .int .i64 y7, .int .u64 y8, .int .u64 y9]] => some (wr_S27_S27 (S.cond_left y1 (⟨(⟨y2, y3⟩ : S.Inter), (⟨y4, y5⟩ : S.Cong)⟩ : S.Value) (⟨(⟨y6, y7⟩ : S.Inter), (⟨y8, y9⟩ : S.Cong)⟩ : S.Value)), wo_S27_S27 (S.cond_left y1 (⟨(⟨y2, y3⟩ : S.Inter), (⟨y4, y5⟩ : S.Cong)⟩ : S.Value) (⟨(⟨y6, y7⟩ : S.Inter), (⟨y8, y9⟩ : S.Cong)⟩ : S.Value)), [S.cond_left_pre y1 (⟨(⟨y2, y3⟩ : S.Inter), (⟨y4, y5⟩ : S.Cong)⟩ : S.Value) (⟨(⟨y6, y7⟩ : S.Inter), (⟨y8, y9⟩ : S.Cong)⟩ : S.Value)])
  | _ => none
noncomputable def c76 : Cfg El := c85.add 76 sem76
theorem c76_ok : CfgOk c76 := c85_ok.add (fun args w => Tryd.call76 args w) (fun vs r outs ps h hp => by
  unfold sem76 at h
  split at h
  · rename_i y1 y2 y3 y4 y5 y6 y7 y8 y9; cases h; exact fn76 y1 (⟨(⟨y2, y3⟩ : S.Inter), (⟨y4, y5⟩ : S.Cong)⟩ : S.Value) (⟨(⟨y6, y7⟩ : S.Inter), (⟨y8, y9⟩ : S.Cong)⟩ : S.Value) hp
  · cases h)

noncomputable def body45 : Code := (Tryd.f45.body).getD .skip
theorem fn45 (op : Int) (a : S.Value) (b : S.Value) (truth : Bool) (hp : S.cond_lefts_pre op a b truth) : CallOk c76 45 [.int .i64 op, .agg [.int .i64 a.I.Lo, .int .i64 a.I.Hi, .int .u64 a.C.M, .int .u64 a.C.R], .agg [.int .i64 b.I.Lo, .int .i64 b.I.Hi, .int .u64 b.C.M, .int .u64 b.C.R], .bool truth] (wr_S27_S27 (S.cond_lefts op a b truth)) (wo_S27_S27 (S.cond_lefts op a b truth)) :=
  (call_ok (c := c76) (f := 45) (fn := Tryd.f45) (code := body45) (args := ([.int .i64 op, .agg [.int .i64 a.I.Lo, .int .i64 a.I.Hi, .int .u64 a.C.M, .int .u64 a.C.R], .agg [.int .i64 b.I.Lo, .int .i64 b.I.Hi, .int .u64 b.C.M, .int .u64 b.C.R], .bool truth])) (loop := noLoop) (md := ⟨false, false⟩) (rd := rd_S27_S27) (wr := wr_S27_S27) (wo := wo_S27_S27) (r := (S.cond_lefts op a b truth)) c76_ok (by kernel_rfl) (by kernel_rfl) (by kernel_rfl) (no_loops (by kernel_rfl)) (by kernel_rfl) (by kernel_rfl) (by kernel_rfl)
    rw_S27_S27 np_S27_S27 no_S27_S27 (by kernel_rfl) (Eq.mpr (show Vm.Tr.vc (Vm.Fn c76 Tryd.f45 body45 noLoop ([.int .i64 op, .agg [.int .i64 a.I.Lo, .int .i64 a.I.Hi, .int .u64 a.C.M, .int .u64 a.C.R], .agg [.int .i64 b.I.Lo, .int .i64 b.I.Hi, .int .u64 b.C.M, .int .u64 b.C.R], .bool truth])) = S.cond_lefts_pre op a b truth by kernel_rfl) hp))

noncomputable def sem45 : List W → Option (W × List (List W) × List Prop)
  | [.int .i64 y1, .agg [.int .i64 y2, .int .i64 y3, .int .u64 y4, .int .u64 y5], .agg [.int .i64 y6, .int .i64 y7, .int .u64 y8, .int .u64 y9], .bool y10] => some (wr_S27_S27 (S.cond_lefts y1 (⟨(⟨y2, y3⟩ : S.Inter), (⟨y4, y5⟩ : S.Cong)⟩ : S.Value) (⟨(⟨y6, y7⟩ : S.Inter), (⟨y8, y9⟩ : S.Cong)⟩ : S.Value) y10), wo_S27_S27 (S.cond_lefts y1 (⟨(⟨y2, y3⟩ : S.Inter), (⟨y4, y5⟩ : S.Cong)⟩ : S.Value) (⟨(⟨y6, y7⟩ : S.Inter), (⟨y8, y9⟩ : S.Cong)⟩ : S.Value) y10), [S.cond_lefts_pre y1 (⟨(⟨y2, y3⟩ : S.Inter), (⟨y4, y5⟩ : S.Cong)⟩ : S.Value) (⟨(⟨y6, y7⟩ : S.Inter), (⟨y8, y9⟩ : S.Cong)⟩ : S.Value) y10])
  | _ => none
noncomputable def c45 : Cfg El := c76.add 45 sem45
theorem c45_ok : CfgOk c45 := c76_ok.add (fun args w => Tryd.call45 args w) (fun vs r outs ps h hp => by
  unfold sem45 at h
  split at h
  · rename_i y1 y2 y3 y4 y5 y6 y7 y8 y9 y10; cases h; exact fn45 y1 (⟨(⟨y2, y3⟩ : S.Inter), (⟨y4, y5⟩ : S.Cong)⟩ : S.Value) (⟨(⟨y6, y7⟩ : S.Inter), (⟨y8, y9⟩ : S.Cong)⟩ : S.Value) y10 hp
  · cases h)

noncomputable def body15 : Code := (Tryd.f15.body).getD .skip
theorem fn15 (op : Int) (a : S.Value) (b : S.Value) (truth : Bool) (hp : S.cond_Refine_pre op a b truth) : CallOk c45 15 [.int .i64 op, .agg [.int .i64 a.I.Lo, .int .i64 a.I.Hi, .int .u64 a.C.M, .int .u64 a.C.R], .agg [.int .i64 b.I.Lo, .int .i64 b.I.Hi, .int .u64 b.C.M, .int .u64 b.C.R], .bool truth] (wr_S27_S27 (S.cond_Refine op a b truth)) (wo_S27_S27 (S.cond_Refine op a b truth)) :=
  (call_ok (c := c45) (f := 15) (fn := Tryd.f15) (code := body15) (args := ([.int .i64 op, .agg [.int .i64 a.I.Lo, .int .i64 a.I.Hi, .int .u64 a.C.M, .int .u64 a.C.R], .agg [.int .i64 b.I.Lo, .int .i64 b.I.Hi, .int .u64 b.C.M, .int .u64 b.C.R], .bool truth])) (loop := noLoop) (md := ⟨false, false⟩) (rd := rd_S27_S27) (wr := wr_S27_S27) (wo := wo_S27_S27) (r := (S.cond_Refine op a b truth)) c45_ok (by kernel_rfl) (by kernel_rfl) (by kernel_rfl) (no_loops (by kernel_rfl)) (by kernel_rfl) (by kernel_rfl) (by kernel_rfl)
    rw_S27_S27 np_S27_S27 no_S27_S27 (by kernel_rfl) (Eq.mpr (show Vm.Tr.vc (Vm.Fn c45 Tryd.f15 body15 noLoop ([.int .i64 op, .agg [.int .i64 a.I.Lo, .int .i64 a.I.Hi, .int .u64 a.C.M, .int .u64 a.C.R], .agg [.int .i64 b.I.Lo, .int .i64 b.I.Hi, .int .u64 b.C.M, .int .u64 b.C.R], .bool truth])) = S.cond_Refine_pre op a b truth by kernel_rfl) hp))

noncomputable def sem15 : List W → Option (W × List (List W) × List Prop)
  | [.int .i64 y1, .agg [.int .i64 y2, .int .i64 y3, .int .u64 y4, .int .u64 y5], .agg [.int .i64 y6, .int .i64 y7, .int .u64 y8, .int .u64 y9], .bool y10] => some (wr_S27_S27 (S.cond_Refine y1 (⟨(⟨y2, y3⟩ : S.Inter), (⟨y4, y5⟩ : S.Cong)⟩ : S.Value) (⟨(⟨y6, y7⟩ : S.Inter), (⟨y8, y9⟩ : S.Cong)⟩ : S.Value) y10), wo_S27_S27 (S.cond_Refine y1 (⟨(⟨y2, y3⟩ : S.Inter), (⟨y4, y5⟩ : S.Cong)⟩ : S.Value) (⟨(⟨y6, y7⟩ : S.Inter), (⟨y8, y9⟩ : S.Cong)⟩ : S.Value) y10), [S.cond_Refine_pre y1 (⟨(⟨y2, y3⟩ : S.Inter), (⟨y4, y5⟩ : S.Cong)⟩ : S.Value) (⟨(⟨y6, y7⟩ : S.Inter), (⟨y8, y9⟩ : S.Cong)⟩ : S.Value) y10])
  | _ => none
noncomputable def c15 : Cfg El := c45.add 15 sem15
theorem c15_ok : CfgOk c15 := c45_ok.add (fun args w => Tryd.call15 args w) (fun vs r outs ps h hp => by
  unfold sem15 at h
  split at h
  · rename_i y1 y2 y3 y4 y5 y6 y7 y8 y9 y10; cases h; exact fn15 y1 (⟨(⟨y2, y3⟩ : S.Inter), (⟨y4, y5⟩ : S.Cong)⟩ : S.Value) (⟨(⟨y6, y7⟩ : S.Inter), (⟨y8, y9⟩ : S.Cong)⟩ : S.Value) y10 hp
  · cases h)

noncomputable def body95 : Code := (Tryd.f95.body).getD .skip
theorem fn95 (x : Int) (hp : S.math_bits_Len64_pre x) : CallOk c15 95 [.int .u64 x] (wr_i64 (S.math_bits_Len64 x)) (wo_i64 (S.math_bits_Len64 x)) :=
  (call_ok (c := c15) (f := 95) (fn := Tryd.f95) (code := body95) (args := ([.int .u64 x])) (loop := noLoop) (md := ⟨false, false⟩) (rd := rd_i64) (wr := wr_i64) (wo := wo_i64) (r := (S.math_bits_Len64 x)) c15_ok (by kernel_rfl) (by kernel_rfl) (by kernel_rfl) (no_loops (by kernel_rfl)) (by kernel_rfl) (by kernel_rfl) (by kernel_rfl)
    rw_i64 np_i64 no_i64 (by kernel_rfl) (Eq.mpr (show Vm.Tr.vc (Vm.Fn c15 Tryd.f95 body95 noLoop ([.int .u64 x])) = S.math_bits_Len64_pre x by kernel_rfl) hp))

noncomputable def sem95 : List W → Option (W × List (List W) × List Prop)
  | [.int .u64 y1] => some (wr_i64 (S.math_bits_Len64 y1), wo_i64 (S.math_bits_Len64 y1), [S.math_bits_Len64_pre y1])
  | _ => none
noncomputable def c95 : Cfg El := c15.add 95 sem95
theorem c95_ok : CfgOk c95 := c15_ok.add (fun args w => Tryd.call95 args w) (fun vs r outs ps h hp => by
  unfold sem95 at h
  split at h
  · rename_i y1; cases h; exact fn95 y1 hp
  · cases h)

noncomputable def body94 : Code := (Tryd.f94.body).getD .skip
theorem fn94 (x : Int) : CallOk c95 94 [.int .i64 x] (wr_i64 (S.internal_strconv_log10Pow2 x)) (wo_i64 (S.internal_strconv_log10Pow2 x)) :=
  (call_ok (c := c95) (f := 94) (fn := Tryd.f94) (code := body94) (args := ([.int .i64 x])) (loop := noLoop) (md := ⟨false, false⟩) (rd := rd_i64) (wr := wr_i64) (wo := wo_i64) (r := (S.internal_strconv_log10Pow2 x)) c95_ok (by kernel_rfl) (by kernel_rfl) (by kernel_rfl) (no_loops (by kernel_rfl)) (by kernel_rfl) (by kernel_rfl) (by kernel_rfl)
    rw_i64 np_i64 no_i64 (by kernel_rfl) (Tr.vc_of_noReq (by kernel_rfl)))

noncomputable def sem94 : List W → Option (W × List (List W) × List Prop)
  | [.int .i64 y1] => some (wr_i64 (S.internal_strconv_log10Pow2 y1), wo_i64 (S.internal_strconv_log10Pow2 y1), [])
  | _ => none
noncomputable def c94 : Cfg El := c95.add 94 sem94
theorem c94_ok : CfgOk c94 := c95_ok.add (fun args w => Tryd.call94 args w) (fun vs r outs ps h hp => by
  unfold sem94 at h
  split at h
  · rename_i y1; cases h; exact fn94 y1
  · cases h)

noncomputable def body96 : Code := (Tryd.f96.body).getD .skip
theorem fn96 (b : Bool) : CallOk c94 96 [.bool b] (wr_i64 (S.internal_strconv_bool2int b)) (wo_i64 (S.internal_strconv_bool2int b)) :=
  (call_ok (c := c94) (f := 96) (fn := Tryd.f96) (code := body96) (args := ([.bool b])) (loop := noLoop) (md := ⟨false, false⟩) (rd := rd_i64) (wr := wr_i64) (wo := wo_i64) (r := (S.internal_strconv_bool2int b)) c94_ok (by kernel_rfl) (by kernel_rfl) (by kernel_rfl) (no_loops (by kernel_rfl)) (by kernel_rfl) (by kernel_rfl) (by kernel_rfl)
    rw_i64 np_i64 no_i64 (by kernel_rfl) (Tr.vc_of_noReq (by kernel_rfl)))

noncomputable def sem96 : List W → Option (W × List (List W) × List Prop)
  | [.bool y1] => some (wr_i64 (S.internal_strconv_bool2int y1), wo_i64 (S.internal_strconv_bool2int y1), [])
  | _ => none
noncomputable def c96 : Cfg El := c94.add 96 sem96
theorem c96_ok : CfgOk c96 := c94_ok.add (fun args w => Tryd.call96 args w) (fun vs r outs ps h hp => by
  unfold sem96 at h
  split at h
  · rename_i y1; cases h; exact fn96 y1
  · cases h)

noncomputable def body97 : Code := (Tryd.f97.body).getD .skip
theorem fn97 (x : Int) : CallOk c96 97 [.int .i64 x] (wr_b (S.internal_strconv_isPowerOfTwo x)) (wo_b (S.internal_strconv_isPowerOfTwo x)) :=
  (call_ok (c := c96) (f := 97) (fn := Tryd.f97) (code := body97) (args := ([.int .i64 x])) (loop := noLoop) (md := ⟨false, false⟩) (rd := rd_b) (wr := wr_b) (wo := wo_b) (r := (S.internal_strconv_isPowerOfTwo x)) c96_ok (by kernel_rfl) (by kernel_rfl) (by kernel_rfl) (no_loops (by kernel_rfl)) (by kernel_rfl) (by kernel_rfl) (by kernel_rfl)
    rw_b np_b no_b (by kernel_rfl) (Tr.vc_of_noReq (by kernel_rfl)))

noncomputable def sem97 : List W → Option (W × List (List W) × List Prop)
  | [.int .i64 y1] => some (wr_b (S.internal_strconv_isPowerOfTwo y1), wo_b (S.internal_strconv_isPowerOfTwo y1), [])
  | _ => none
noncomputable def c97 : Cfg El := c96.add 97 sem97
theorem c97_ok : CfgOk c97 := c96_ok.add (fun args w => Tryd.call97 args w) (fun vs r outs ps h hp => by
  unfold sem97 at h
  split at h
  · rename_i y1; cases h; exact fn97 y1
  · cases h)

noncomputable def rd_s : W → List (List W) → Option (ByteArray)
  | .str x1, [] => some x1
  | _, _ => none
noncomputable def wr_s (x : ByteArray) : W := .str x
noncomputable def wo_s (_x : ByteArray) : List (List W) := []
theorem rw_s (v : W) (os : List (List W)) (x : ByteArray) (h : rd_s v os = some x) : v = wr_s x ∧ os = wo_s x := by
  unfold rd_s at h
  split at h <;> first | (cases h; exact ⟨rfl, rfl⟩) | cases h
theorem np_s (x : ByteArray) : okv (fun _ => false) (wr_s x) = true := rfl
theorem no_s (x : ByteArray) : all (fun cs => all (ok0 fun _ => false) cs) (wo_s x) = true := rfl

theorem fn81 (i : Int) (base : Int) (hp : fmtI_pre i base) : CallOk c97 81 [.int .i64 i, .int .i64 base] (wr_s (fmtI i base)) (wo_s (fmtI i base)) :=
  fmtI_calls (c := c97) (P := P) rfl Tryd.laysM246 rfl (fun _ _ h => h.1) i base hp

noncomputable def sem81 : List W → Option (W × List (List W) × List Prop)
  | [.int .i64 y1, .int .i64 y2] => some (wr_s (fmtI y1 y2), wo_s (fmtI y1 y2), [fmtI_pre y1 y2])
  | _ => none
noncomputable def c81 : Cfg El := c97.add 81 sem81
theorem c81_ok : CfgOk c81 := c97_ok.add (fun args w => Tryd.call81 args w) (fun vs r outs ps h hp => by
  unfold sem81 at h
  split at h
  · rename_i y1 y2; cases h; exact fn81 y1 y2 hp
  · cases h)

noncomputable def body60 : Code := (Tryd.f60.body).getD .skip
theorem fn60 (i : Int) (base : Int) (hp : S.strconv_FormatInt_pre i base) : CallOk c81 60 [.int .i64 i, .int .i64 base] (wr_s (S.strconv_FormatInt i base)) (wo_s (S.strconv_FormatInt i base)) :=
  (call_ok (c := c81) (f := 60) (fn := Tryd.f60) (code := body60) (args := ([.int .i64 i, .int .i64 base])) (loop := noLoop) (md := ⟨false, false⟩) (rd := rd_s) (wr := wr_s) (wo := wo_s) (r := (S.strconv_FormatInt i base)) c81_ok (by kernel_rfl) (by kernel_rfl) (by kernel_rfl) (no_loops (by kernel_rfl)) (by kernel_rfl) (by kernel_rfl) (by kernel_rfl)
    rw_s np_s no_s (by kernel_rfl) (Eq.mpr (show Vm.Tr.vc (Vm.Fn c81 Tryd.f60 body60 noLoop ([.int .i64 i, .int .i64 base])) = S.strconv_FormatInt_pre i base by kernel_rfl) hp))

noncomputable def sem60 : List W → Option (W × List (List W) × List Prop)
  | [.int .i64 y1, .int .i64 y2] => some (wr_s (S.strconv_FormatInt y1 y2), wo_s (S.strconv_FormatInt y1 y2), [S.strconv_FormatInt_pre y1 y2])
  | _ => none
noncomputable def c60 : Cfg El := c81.add 60 sem60
theorem c60_ok : CfgOk c60 := c81_ok.add (fun args w => Tryd.call60 args w) (fun vs r outs ps h hp => by
  unfold sem60 at h
  split at h
  · rename_i y1 y2; cases h; exact fn60 y1 y2 hp
  · cases h)

theorem fn82 (i : Int) (base : Int) (hp : fmtU_pre i base) : CallOk c60 82 [.int .u64 i, .int .i64 base] (wr_s (fmtU i base)) (wo_s (fmtU i base)) :=
  fmtU_calls i base hp (c := c60) rfl (fun _ _ h => h.1)

noncomputable def sem82 : List W → Option (W × List (List W) × List Prop)
  | [.int .u64 y1, .int .i64 y2] => some (wr_s (fmtU y1 y2), wo_s (fmtU y1 y2), [fmtU_pre y1 y2])
  | _ => none
noncomputable def c82 : Cfg El := c60.add 82 sem82
theorem c82_ok : CfgOk c82 := c60_ok.add (fun args w => Tryd.call82 args w) (fun vs r outs ps h hp => by
  unfold sem82 at h
  split at h
  · rename_i y1 y2; cases h; exact fn82 y1 y2 hp
  · cases h)

noncomputable def body61 : Code := (Tryd.f61.body).getD .skip
theorem fn61 (i : Int) (base : Int) (hp : S.strconv_FormatUint_pre i base) : CallOk c82 61 [.int .u64 i, .int .i64 base] (wr_s (S.strconv_FormatUint i base)) (wo_s (S.strconv_FormatUint i base)) :=
  (call_ok (c := c82) (f := 61) (fn := Tryd.f61) (code := body61) (args := ([.int .u64 i, .int .i64 base])) (loop := noLoop) (md := ⟨false, false⟩) (rd := rd_s) (wr := wr_s) (wo := wo_s) (r := (S.strconv_FormatUint i base)) c82_ok (by kernel_rfl) (by kernel_rfl) (by kernel_rfl) (no_loops (by kernel_rfl)) (by kernel_rfl) (by kernel_rfl) (by kernel_rfl)
    rw_s np_s no_s (by kernel_rfl) (Eq.mpr (show Vm.Tr.vc (Vm.Fn c82 Tryd.f61 body61 noLoop ([.int .u64 i, .int .i64 base])) = S.strconv_FormatUint_pre i base by kernel_rfl) hp))

noncomputable def sem61 : List W → Option (W × List (List W) × List Prop)
  | [.int .u64 y1, .int .i64 y2] => some (wr_s (S.strconv_FormatUint y1 y2), wo_s (S.strconv_FormatUint y1 y2), [S.strconv_FormatUint_pre y1 y2])
  | _ => none
noncomputable def c61 : Cfg El := c82.add 61 sem61
theorem c61_ok : CfgOk c61 := c82_ok.add (fun args w => Tryd.call61 args w) (fun vs r outs ps h hp => by
  unfold sem61 at h
  split at h
  · rename_i y1 y2; cases h; exact fn61 y1 y2 hp
  · cases h)

noncomputable def body26 : Code := (Tryd.f26.body).getD .skip
theorem fn26 (v : S.Value) (hp : S.value_Value_Text_pre v) : CallOk c61 26 [.agg [.int .i64 v.I.Lo, .int .i64 v.I.Hi, .int .u64 v.C.M, .int .u64 v.C.R]] (wr_s (S.value_Value_Text v)) (wo_s (S.value_Value_Text v)) :=
  (call_ok (c := c61) (f := 26) (fn := Tryd.f26) (code := body26) (args := ([.agg [.int .i64 v.I.Lo, .int .i64 v.I.Hi, .int .u64 v.C.M, .int .u64 v.C.R]])) (loop := noLoop) (md := ⟨false, false⟩) (rd := rd_s) (wr := wr_s) (wo := wo_s) (r := (S.value_Value_Text v)) c61_ok (by kernel_rfl) (by kernel_rfl) (by kernel_rfl) (no_loops (by kernel_rfl)) (by kernel_rfl) (by kernel_rfl) (by kernel_rfl)
    rw_s np_s no_s (by kernel_rfl) (Eq.mpr (show Vm.Tr.vc (Vm.Fn c61 Tryd.f26 body26 noLoop ([.agg [.int .i64 v.I.Lo, .int .i64 v.I.Hi, .int .u64 v.C.M, .int .u64 v.C.R]])) = S.value_Value_Text_pre v by kernel_rfl) hp))

noncomputable def sem26 : List W → Option (W × List (List W) × List Prop)
  | [.agg [.int .i64 y1, .int .i64 y2, .int .u64 y3, .int .u64 y4]] => some (wr_s (S.value_Value_Text (⟨(⟨y1, y2⟩ : S.Inter), (⟨y3, y4⟩ : S.Cong)⟩ : S.Value)), wo_s (S.value_Value_Text (⟨(⟨y1, y2⟩ : S.Inter), (⟨y3, y4⟩ : S.Cong)⟩ : S.Value)), [S.value_Value_Text_pre (⟨(⟨y1, y2⟩ : S.Inter), (⟨y3, y4⟩ : S.Cong)⟩ : S.Value)])
  | _ => none
noncomputable def c26 : Cfg El := c61.add 26 sem26
theorem c26_ok : CfgOk c26 := c61_ok.add (fun args w => Tryd.call26 args w) (fun vs r outs ps h hp => by
  unfold sem26 at h
  split at h
  · rename_i y1 y2 y3 y4; cases h; exact fn26 (⟨(⟨y1, y2⟩ : S.Inter), (⟨y3, y4⟩ : S.Cong)⟩ : S.Value) hp
  · cases h)

noncomputable def body20 : Code := (Tryd.f20.body).getD .skip
theorem fn20 (hp : S.law24_works_pre) : CallOk c26 20 [] (wr_b (S.law24_works)) (wo_b (S.law24_works)) :=
  (call_ok (c := c26) (f := 20) (fn := Tryd.f20) (code := body20) (args := ([])) (loop := noLoop) (md := ⟨false, false⟩) (rd := rd_b) (wr := wr_b) (wo := wo_b) (r := S.law24_works) c26_ok (by kernel_rfl) (by kernel_rfl) (by kernel_rfl) (no_loops (by kernel_rfl)) (by kernel_rfl) (by kernel_rfl) (by kernel_rfl)
    rw_b np_b no_b (by kernel_rfl) (Eq.mpr (show Vm.Tr.vc (Vm.Fn c26 Tryd.f20 body20 noLoop ([])) = S.law24_works_pre by kernel_rfl) hp))

noncomputable def sem20 : List W → Option (W × List (List W) × List Prop)
  | [] => some (wr_b (S.law24_works), wo_b (S.law24_works), [S.law24_works_pre])
  | _ => none
noncomputable def c20 : Cfg El := c26.add 20 sem20
theorem c20_ok : CfgOk c20 := c26_ok.add (fun args w => Tryd.call20 args w) (fun vs r outs ps h hp => by
  unfold sem20 at h
  split at h
  · cases h; exact fn20 hp
  · cases h)
end Go.Proofs.YthplfkeecpkmhaaDoor
