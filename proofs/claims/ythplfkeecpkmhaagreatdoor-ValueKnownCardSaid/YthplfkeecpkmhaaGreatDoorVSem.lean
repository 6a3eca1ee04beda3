/-
  Printed by a program for this claim: functions of the code as plain functions, and that the code comes to them. Conditions: those that each theorem states.
-/
import Derived.Test.YthplfkeecpkmhaaGreatDoorVEnv
import Derived.Test.YthplfkeecpkmhaaGreatDoorVFmt
import Derived.Test.YthplfkeecpkmhaaGreatDoorVSome
set_option linter.all false
namespace Go.Proofs.YthplfkeecpkmhaaGreatDoor
open Go Go.Proofs Vm
attribute [local irreducible] Vm.Tr.vc Vm.Tr.out Vm.Fn Vm.Fn.out Vm.ev Vm.loopsOf Vm.Tr.noReq
noncomputable def rd_S31 : W → List (List W) → Option (S.Value)
  | .agg [.int .i64 x1, .int .i64 x2, .int .u64 x3, .int .u64 x4], [] => some ⟨⟨x1, x2⟩, ⟨x3, x4⟩⟩
  | _, _ => none
noncomputable def wr_S31 (x : S.Value) : W := .agg [.int .i64 x.I.Lo, .int .i64 x.I.Hi, .int .u64 x.C.M, .int .u64 x.C.R]
noncomputable def wo_S31 (_x : S.Value) : List (List W) := []
theorem rw_S31 (v : W) (os : List (List W)) (x : S.Value) (h : rd_S31 v os = some x) : v = wr_S31 x ∧ os = wo_S31 x := by
  unfold rd_S31 at h
  split at h <;> first | (cases h; exact ⟨rfl, rfl⟩) | cases h
theorem np_S31 (x : S.Value) : okv (fun _ => false) (wr_S31 x) = true := rfl
theorem no_S31 (x : S.Value) : all (fun cs => all (ok0 fun _ => false) cs) (wo_S31 x) = true := rfl

noncomputable def body12 : Code := (Tryz.f12.body).getD .skip
theorem fn12 (v : S.Value) : CallOk base 12 [.agg [.int .i64 v.I.Lo, .int .i64 v.I.Hi, .int .u64 v.C.M, .int .u64 v.C.R]] (wr_S31 (S.docs_Value v)) (wo_S31 (S.docs_Value v)) :=
  (call_ok (c := base) (f := 12) (fn := Tryz.f12) (code := body12) (args := ([.agg [.int .i64 v.I.Lo, .int .i64 v.I.Hi, .int .u64 v.C.M, .int .u64 v.C.R]])) (loop := noLoop) (md := ⟨false, false⟩) (rd := rd_S31) (wr := wr_S31) (wo := wo_S31) (r := (S.docs_Value v)) base_ok (by kernel_rfl) (by kernel_rfl) (by kernel_rfl) (no_loops (by kernel_rfl)) (by kernel_rfl) (by kernel_rfl) (by kernel_rfl)
    rw_S31 np_S31 no_S31 (by kernel_rfl) (Tr.vc_of_noReq (by kernel_rfl)))

noncomputable def sem12 : List W → Option (W × List (List W) × List Prop)
  | [.agg [.int .i64 y1, .int .i64 y2, .int .u64 y3, .int .u64 y4]] => some (wr_S31 (S.docs_Value (⟨(⟨y1, y2⟩ : S.Inter), (⟨y3, y4⟩ : S.Cong)⟩ : S.Value)), wo_S31 (S.docs_Value (⟨(⟨y1, y2⟩ : S.Inter), (⟨y3, y4⟩ : S.Cong)⟩ : S.Value)), [])
  | _ => none
noncomputable def c12 : Cfg El := base.add 12 sem12
theorem c12_ok : CfgOk c12 := base_ok.add (fun args w => Tryz.call12 args w) (fun vs r outs ps h hp => by
  unfold sem12 at h
  split at h
  · rename_i y1 y2 y3 y4; cases h; exact fn12 (⟨(⟨y1, y2⟩ : S.Inter), (⟨y3, y4⟩ : S.Cong)⟩ : S.Value)
  · cases h)

noncomputable def rd_b : W → List (List W) → Option (Bool)
  | .bool x1, [] => some x1
  | _, _ => none
noncomputable def wr_b (x : Bool) : W := .bool x
noncomputable def wo_b (_x : Bool) : List (List W) := []
theorem rw_b (v : W) (os : List (List W)) (x : Bool) (h : rd_b v os = some x) : v = wr_b x ∧ os = wo_b x := by
  unfold rd_b at h
  split at h <;> first | (cases h; exact ⟨rfl, rfl⟩) | cases h
theorem np_b (x : Bool) : okv (fun _ => false) (wr_b x) = true := rfl
theorem no_b (x : Bool) : all (fun cs => all (ok0 fun _ => false) cs) (wo_b x) = true := rfl

noncomputable def body131 : Code := (Tryz.f131.body).getD .skip
theorem fn131 (i : S.Inter) : CallOk c12 131 [.agg [.int .i64 i.Lo, .int .i64 i.Hi]] (wr_b (S.ref19_Empty i)) (wo_b (S.ref19_Empty i)) :=
  (call_ok (c := c12) (f := 131) (fn := Tryz.f131) (code := body131) (args := ([.agg [.int .i64 i.Lo, .int .i64 i.Hi]])) (loop := noLoop) (md := ⟨false, false⟩) (rd := rd_b) (wr := wr_b) (wo := wo_b) (r := (S.ref19_Empty i)) c12_ok (by kernel_rfl) (by kernel_rfl) (by kernel_rfl) (no_loops (by kernel_rfl)) (by kernel_rfl) (by kernel_rfl) (by kernel_rfl)
    rw_b np_b no_b (by kernel_rfl) (Tr.vc_of_noReq (by kernel_rfl)))

noncomputable def sem131 : List W → Option (W × List (List W) × List Prop)
  | [.agg [.int .i64 y1, .int .i64 y2]] => some (wr_b (S.ref19_Empty (⟨y1, y2⟩ : S.Inter)), wo_b (S.ref19_Empty (⟨y1, y2⟩ : S.Inter)), [])
  | _ => none
noncomputable def c131 : Cfg El := c12.add 131 sem131
theorem c131_ok : CfgOk c131 := c12_ok.add (fun args w => Tryz.call131 args w) (fun vs r outs ps h hp => by
  unfold sem131 at h
  split at h
  · rename_i y1 y2; cases h; exact fn131 (⟨y1, y2⟩ : S.Inter)
  · cases h)

noncomputable def body18 : Code := (Tryz.f18.body).getD .skip
theorem fn18 : CallOk c131 18 [] (wr_S31 (S.ref21_Bottom)) (wo_S31 (S.ref21_Bottom)) :=
  (call_ok (c := c131) (f := 18) (fn := Tryz.f18) (code := body18) (args := ([])) (loop := noLoop) (md := ⟨false, false⟩) (rd := rd_S31) (wr := wr_S31) (wo := wo_S31) (r := S.ref21_Bottom) c131_ok (by kernel_rfl) (by kernel_rfl) (by kernel_rfl) (no_loops (by kernel_rfl)) (by kernel_rfl) (by kernel_rfl) (by kernel_rfl)
    rw_S31 np_S31 no_S31 (by kernel_rfl) (Tr.vc_of_noReq (by kernel_rfl)))

noncomputable def sem18 : List W → Option (W × List (List W) × List Prop)
  | [] => some (wr_S31 (S.ref21_Bottom), wo_S31 (S.ref21_Bottom), [])
  | _ => none
noncomputable def c18 : Cfg El := c131.add 18 sem18
theorem c18_ok : CfgOk c18 := c131_ok.add (fun args w => Tryz.call18 args w) (fun vs r outs ps h hp => by
  unfold sem18 at h
  split at h
  · cases h; exact fn18
  · cases h)

noncomputable def body73 : Code := (Tryz.f73.body).getD .skip
theorem fn73 (i : S.Inter) (n : Int) : CallOk c18 73 [.agg [.int .i64 i.Lo, .int .i64 i.Hi], .int .i64 n] (wr_b (S.ref19_Has i n)) (wo_b (S.ref19_Has i n)) :=
  (call_ok (c := c18) (f := 73) (fn := Tryz.f73) (code := body73) (args := ([.agg [.int .i64 i.Lo, .int .i64 i.Hi], .int .i64 n])) (loop := noLoop) (md := ⟨false, false⟩) (rd := rd_b) (wr := wr_b) (wo := wo_b) (r := (S.ref19_Has i n)) c18_ok (by kernel_rfl) (by kernel_rfl) (by kernel_rfl) (no_loops (by kernel_rfl)) (by kernel_rfl) (by kernel_rfl) (by kernel_rfl)
    rw_b np_b no_b (by kernel_rfl) (Tr.vc_of_noReq (by kernel_rfl)))

noncomputable def sem73 : List W → Option (W × List (List W) × List Prop)
  | [.agg [.int .i64 y1, .int .i64 y2], .int .i64 y3] => some (wr_b (S.ref19_Has (⟨y1, y2⟩ : S.Inter) y3), wo_b (S.ref19_Has (⟨y1, y2⟩ : S.Inter) y3), [])
  | _ => none
noncomputable def c73 : Cfg El := c18.add 73 sem73
theorem c73_ok : CfgOk c73 := c18_ok.add (fun args w => Tryz.call73 args w) (fun vs r outs ps h hp => by
  unfold sem73 at h
  split at h
  · rename_i y1 y2 y3; cases h; exact fn73 (⟨y1, y2⟩ : S.Inter) y3
  · cases h)

noncomputable def rd_u64 : W → List (List W) → Option (Int)
  | .int .u64 x1, [] => some x1
  | _, _ => none
noncomputable def wr_u64 (x : Int) : W := .int .u64 x
noncomputable def wo_u64 (_x : Int) : List (List W) := []
theorem rw_u64 (v : W) (os : List (List W)) (x : Int) (h : rd_u64 v os = some x) : v = wr_u64 x ∧ os = wo_u64 x := by
  unfold rd_u64 at h
  split at h <;> first | (cases h; exact ⟨rfl, rfl⟩) | cases h
theorem np_u64 (x : Int) : okv (fun _ => false) (wr_u64 x) = true := rfl
theorem no_u64 (x : Int) : all (fun cs => all (ok0 fun _ => false) cs) (wo_u64 x) = true := rfl

noncomputable def body126 : Code := (Tryz.f126.body).getD .skip
theorem fn126 (n : Int) (m : Int) (hp : S.ref20_Rest_pre n m) : CallOk c73 126 [.int .i64 n, .int .u64 m] (wr_u64 (S.ref20_Rest n m)) (wo_u64 (S.ref20_Rest n m)) :=
  (call_ok (c := c73) (f := 126) (fn := Tryz.f126) (code := body126) (args := ([.int .i64 n, .int .u64 m])) (loop := noLoop) (md := ⟨false, false⟩) (rd := rd_u64) (wr := wr_u64) (wo := wo_u64) (r := (S.ref20_Rest n m)) c73_ok (by kernel_rfl) (by kernel_rfl) (by kernel_rfl) (no_loops (by kernel_rfl)) (by kernel_rfl) (by kernel_rfl) (by kernel_rfl)
    rw_u64 np_u64 no_u64 (by kernel_rfl) (Eq.mpr (show Vm.Tr.vc (Vm.Fn c73 Tryz.f126 body126 noLoop ([.int .i64 n, .int .u64 m])) = S.ref20_Rest_pre n m by kernel_rfl) hp))

noncomputable def sem126 : List W → Option (W × List (List W) × List Prop)
  | [.int .i64 y1, .int .u64 y2] => some (wr_u64 (S.ref20_Rest y1 y2), wo_u64 (S.ref20_Rest y1 y2), [S.ref20_Rest_pre y1 y2])
  | _ => none
noncomputable def c126 : Cfg El := c73.add 126 sem126
theorem c126_ok : CfgOk c126 := c73_ok.add (fun args w => Tryz.call126 args w) (fun vs r outs ps h hp => by
  unfold sem126 at h
  split at h
  · rename_i y1 y2; cases h; exact fn126 y1 y2 hp
  · cases h)

noncomputable def rd_S25 : W → List (List W) → Option (S.Cong)
  | .agg [.int .u64 x1, .int .u64 x2], [] => some ⟨x1, x2⟩
  | _, _ => none
noncomputable def wr_S25 (x : S.Cong) : W := .agg [.int .u64 x.M, .int .u64 x.R]
noncomputable def wo_S25 (_x : S.Cong) : List (List W) := []
theorem rw_S25 (v : W) (os : List (List W)) (x : S.Cong) (h : rd_S25 v os = some x) : v = wr_S25 x ∧ os = wo_S25 x := by
  unfold rd_S25 at h
  split at h <;> first | (cases h; exact ⟨rfl, rfl⟩) | cases h
theorem np_S25 (x : S.Cong) : okv (fun _ => false) (wr_S25 x) = true := rfl
theorem no_S25 (x : S.Cong) : all (fun cs => all (ok0 fun _ => false) cs) (wo_S25 x) = true := rfl

noncomputable def body81 : Code := (Tryz.f81.body).getD .skip
theorem fn81 (m : Int) (n : Int) (hp : S.ref20_Make_pre m n) : CallOk c126 81 [.int .u64 m, .int .i64 n] (wr_S25 (S.ref20_Make m n)) (wo_S25 (S.ref20_Make m n)) :=
  (call_ok (c := c126) (f := 81) (fn := Tryz.f81) (code := body81) (args := ([.int .u64 m, .int .i64 n])) (loop := noLoop) (md := ⟨false, false⟩) (rd := rd_S25) (wr := wr_S25) (wo := wo_S25) (r := (S.ref20_Make m n)) c126_ok (by kernel_rfl) (by kernel_rfl) (by kernel_rfl) (no_loops (by kernel_rfl)) (by kernel_rfl) (by kernel_rfl) (by kernel_rfl)
    rw_S25 np_S25 no_S25 (by kernel_rfl) (Eq.mpr (show Vm.Tr.vc (Vm.Fn c126 Tryz.f81 body81 noLoop ([.int .u64 m, .int .i64 n])) = S.ref20_Make_pre m n by kernel_rfl) hp))

noncomputable def sem81 : List W → Option (W × List (List W) × List Prop)
  | [.int .u64 y1, .int .i64 y2] => some (wr_S25 (S.ref20_Make y1 y2), wo_S25 (S.ref20_Make y1 y2), [S.ref20_Make_pre y1 y2])
  | _ => none
noncomputable def c81 : Cfg El := c126.add 81 sem81
theorem c81_ok : CfgOk c81 := c126_ok.add (fun args w => Tryz.call81 args w) (fun vs r outs ps h hp => by
  unfold sem81 at h
  split at h
  · rename_i y1 y2; cases h; exact fn81 y1 y2 hp
  · cases h)

noncomputable def body26 : Code := (Tryz.f26.body).getD .skip
theorem fn26 (n : Int) (hp : S.ref21_One_pre n) : CallOk c81 26 [.int .i64 n] (wr_S31 (S.ref21_One n)) (wo_S31 (S.ref21_One n)) :=
  (call_ok (c := c81) (f := 26) (fn := Tryz.f26) (code := body26) (args := ([.int .i64 n])) (loop := noLoop) (md := ⟨false, false⟩) (rd := rd_S31) (wr := wr_S31) (wo := wo_S31) (r := (S.ref21_One n)) c81_ok (by kernel_rfl) (by kernel_rfl) (by kernel_rfl) (no_loops (by kernel_rfl)) (by kernel_rfl) (by kernel_rfl) (by kernel_rfl)
    rw_S31 np_S31 no_S31 (by kernel_rfl) (Eq.mpr (show Vm.Tr.vc (Vm.Fn c81 Tryz.f26 body26 noLoop ([.int .i64 n])) = S.ref21_One_pre n by kernel_rfl) hp))

noncomputable def sem26 : List W → Option (W × List (List W) × List Prop)
  | [.int .i64 y1] => some (wr_S31 (S.ref21_One y1), wo_S31 (S.ref21_One y1), [S.ref21_One_pre y1])
  | _ => none
noncomputable def c26 : Cfg El := c81.add 26 sem26
theorem c26_ok : CfgOk c26 := c81_ok.add (fun args w => Tryz.call26 args w) (fun vs r outs ps h hp => by
  unfold sem26 at h
  split at h
  · rename_i y1; cases h; exact fn26 y1 hp
  · cases h)

noncomputable def body132 : Code := (Tryz.f132.body).getD .skip
theorem fn132 (c : S.Cong) (n : Int) (hp : S.ref21_up_pre c n) : CallOk c26 132 [.agg [.int .u64 c.M, .int .u64 c.R], .int .i64 n] (wr_u64 (S.ref21_up c n)) (wo_u64 (S.ref21_up c n)) :=
  (call_ok (c := c26) (f := 132) (fn := Tryz.f132) (code := body132) (args := ([.agg [.int .u64 c.M, .int .u64 c.R], .int .i64 n])) (loop := noLoop) (md := ⟨false, false⟩) (rd := rd_u64) (wr := wr_u64) (wo := wo_u64) (r := (S.ref21_up c n)) c26_ok (by kernel_rfl) (by kernel_rfl) (by kernel_rfl) (no_loops (by kernel_rfl)) (by kernel_rfl) (by kernel_rfl) (by kernel_rfl)
    rw_u64 np_u64 no_u64 (by kernel_rfl) (Eq.mpr (show Vm.Tr.vc (Vm.Fn c26 Tryz.f132 body132 noLoop ([.agg [.int .u64 c.M, .int .u64 c.R], .int .i64 n])) = S.ref21_up_pre c n by kernel_rfl) hp))

noncomputable def sem132 : List W → Option (W × List (List W) × List Prop)
  | [.agg [.int .u64 y1, .int .u64 y2], .int .i64 y3] => some (wr_u64 (S.ref21_up (⟨y1, y2⟩ : S.Cong) y3), wo_u64 (S.ref21_up (⟨y1, y2⟩ : S.Cong) y3), [S.ref21_up_pre (⟨y1, y2⟩ : S.Cong) y3])
  | _ => none
noncomputable def c132 : Cfg El := c26.add 132 sem132
theorem c132_ok : CfgOk c132 := c26_ok.add (fun args w => Tryz.call132 args w) (fun vs r outs ps h hp => by
  unfold sem132 at h
  split at h
  · rename_i y1 y2 y3; cases h; exact fn132 (⟨y1, y2⟩ : S.Cong) y3 hp
  · cases h)

noncomputable def body133 : Code := (Tryz.f133.body).getD .skip
theorem fn133 (c : S.Cong) (n : Int) (hp : S.ref21_down_pre c n) : CallOk c132 133 [.agg [.int .u64 c.M, .int .u64 c.R], .int .i64 n] (wr_u64 (S.ref21_down c n)) (wo_u64 (S.ref21_down c n)) :=
  (call_ok (c := c132) (f := 133) (fn := Tryz.f133) (code := body133) (args := ([.agg [.int .u64 c.M, .int .u64 c.R], .int .i64 n])) (loop := noLoop) (md := ⟨false, false⟩) (rd := rd_u64) (wr := wr_u64) (wo := wo_u64) (r := (S.ref21_down c n)) c132_ok (by kernel_rfl) (by kernel_rfl) (by kernel_rfl) (no_loops (by kernel_rfl)) (by kernel_rfl) (by kernel_rfl) (by kernel_rfl)
    rw_u64 np_u64 no_u64 (by kernel_rfl) (Eq.mpr (show Vm.Tr.vc (Vm.Fn c132 Tryz.f133 body133 noLoop ([.agg [.int .u64 c.M, .int .u64 c.R], .int .i64 n])) = S.ref21_down_pre c n by kernel_rfl) hp))

noncomputable def sem133 : List W → Option (W × List (List W) × List Prop)
  | [.agg [.int .u64 y1, .int .u64 y2], .int .i64 y3] => some (wr_u64 (S.ref21_down (⟨y1, y2⟩ : S.Cong) y3), wo_u64 (S.ref21_down (⟨y1, y2⟩ : S.Cong) y3), [S.ref21_down_pre (⟨y1, y2⟩ : S.Cong) y3])
  | _ => none
noncomputable def c133 : Cfg El := c132.add 133 sem133
theorem c133_ok : CfgOk c133 := c132_ok.add (fun args w => Tryz.call133 args w) (fun vs r outs ps h hp => by
  unfold sem133 at h
  split at h
  · rename_i y1 y2 y3; cases h; exact fn133 (⟨y1, y2⟩ : S.Cong) y3 hp
  · cases h)

noncomputable def body85 : Code := (Tryz.f85.body).getD .skip
theorem fn85 (i : S.Inter) (c : S.Cong) (hp : S.ref21_Make_pre i c) : CallOk c133 85 [.agg [.int .i64 i.Lo, .int .i64 i.Hi], .agg [.int .u64 c.M, .int .u64 c.R]] (wr_S31 (S.ref21_Make i c)) (wo_S31 (S.ref21_Make i c)) :=
  (call_ok (c := c133) (f := 85) (fn := Tryz.f85) (code := body85) (args := ([.agg [.int .i64 i.Lo, .int .i64 i.Hi], .agg [.int .u64 c.M, .int .u64 c.R]])) (loop := noLoop) (md := ⟨false, false⟩) (rd := rd_S31) (wr := wr_S31) (wo := wo_S31) (r := (S.ref21_Make i c)) c133_ok (by kernel_rfl) (by kernel_rfl) (by kernel_rfl) (no_loops (by kernel_rfl)) (by kernel_rfl) (by kernel_rfl) (by kernel_rfl)
    rw_S31 np_S31 no_S31 (by kernel_rfl) (Eq.mpr (show Vm.Tr.vc (Vm.Fn c133 Tryz.f85 body85 noLoop ([.agg [.int .i64 i.Lo, .int .i64 i.Hi], .agg [.int .u64 c.M, .int .u64 c.R]])) = S.ref21_Make_pre i c by kernel_rfl) hp))

noncomputable def sem85 : List W → Option (W × List (List W) × List Prop)
  | [.agg [.int .i64 y1, .int .i64 y2], .agg [.int .u64 y3, .int .u64 y4]] => some (wr_S31 (S.ref21_Make (⟨y1, y2⟩ : S.Inter) (⟨y3, y4⟩ : S.Cong)), wo_S31 (S.ref21_Make (⟨y1, y2⟩ : S.Inter) (⟨y3, y4⟩ : S.Cong)), [S.ref21_Make_pre (⟨y1, y2⟩ : S.Inter) (⟨y3, y4⟩ : S.Cong)])
  | _ => none
noncomputable def c85 : Cfg El := c133.add 85 sem85
theorem c85_ok : CfgOk c85 := c133_ok.add (fun args w => Tryz.call85 args w) (fun vs r outs ps h hp => by
  unfold sem85 at h
  split at h
  · rename_i y1 y2 y3 y4; cases h; exact fn85 (⟨y1, y2⟩ : S.Inter) (⟨y3, y4⟩ : S.Cong) hp
  · cases h)

noncomputable def body51 : Code := (Tryz.f51.body).getD .skip
theorem fn51 (v : S.Value) (hp : S.ref21_Plain_pre v) : CallOk c85 51 [.agg [.int .i64 v.I.Lo, .int .i64 v.I.Hi, .int .u64 v.C.M, .int .u64 v.C.R]] (wr_S31 (S.ref21_Plain v)) (wo_S31 (S.ref21_Plain v)) :=
  (call_ok (c := c85) (f := 51) (fn := Tryz.f51) (code := body51) (args := ([.agg [.int .i64 v.I.Lo, .int .i64 v.I.Hi, .int .u64 v.C.M, .int .u64 v.C.R]])) (loop := noLoop) (md := ⟨false, false⟩) (rd := rd_S31) (wr := wr_S31) (wo := wo_S31) (r := (S.ref21_Plain v)) c85_ok (by kernel_rfl) (by kernel_rfl) (by kernel_rfl) (no_loops (by kernel_rfl)) (by kernel_rfl) (by kernel_rfl) (by kernel_rfl)
    rw_S31 np_S31 no_S31 (by kernel_rfl) (Eq.mpr (show Vm.Tr.vc (Vm.Fn c85 Tryz.f51 body51 noLoop ([.agg [.int .i64 v.I.Lo, .int .i64 v.I.Hi, .int .u64 v.C.M, .int .u64 v.C.R]])) = S.ref21_Plain_pre v by kernel_rfl) hp))

noncomputable def sem51 : List W → Option (W × List (List W) × List Prop)
  | [.agg [.int .i64 y1, .int .i64 y2, .int .u64 y3, .int .u64 y4]] => some (wr_S31 (S.ref21_Plain (⟨(⟨y1, y2⟩ : S.Inter), (⟨y3, y4⟩ : S.Cong)⟩ : S.Value)), wo_S31 (S.ref21_Plain (⟨(⟨y1, y2⟩ : S.Inter), (⟨y3, y4⟩ : S.Cong)⟩ : S.Value)), [S.ref21_Plain_pre (⟨(⟨y1, y2⟩ : S.Inter), (⟨y3, y4⟩ : S.Cong)⟩ : S.Value)])
  | _ => none
noncomputable def c51 : Cfg El := c85.add 51 sem51
theorem c51_ok : CfgOk c51 := c85_ok.add (fun args w => Tryz.call51 args w) (fun vs r outs ps h hp => by
  unfold sem51 at h
  split at h
  · rename_i y1 y2 y3 y4; cases h; exact fn51 (⟨(⟨y1, y2⟩ : S.Inter), (⟨y3, y4⟩ : S.Cong)⟩ : S.Value) hp
  · cases h)

noncomputable def body10 : Code := (Tryz.f10.body).getD .skip
theorem fn10 (v : S.Value) (hp : S.law21_plain_pre v) : CallOk c51 10 [.agg [.int .i64 v.I.Lo, .int .i64 v.I.Hi, .int .u64 v.C.M, .int .u64 v.C.R]] (wr_S31 (S.law21_plain v)) (wo_S31 (S.law21_plain v)) :=
  (call_ok (c := c51) (f := 10) (fn := Tryz.f10) (code := body10) (args := ([.agg [.int .i64 v.I.Lo, .int .i64 v.I.Hi, .int .u64 v.C.M, .int .u64 v.C.R]])) (loop := noLoop) (md := ⟨false, false⟩) (rd := rd_S31) (wr := wr_S31) (wo := wo_S31) (r := (S.law21_plain v)) c51_ok (by kernel_rfl) (by kernel_rfl) (by kernel_rfl) (no_loops (by kernel_rfl)) (by kernel_rfl) (by kernel_rfl) (by kernel_rfl)
    rw_S31 np_S31 no_S31 (by kernel_rfl) (Eq.mpr (show Vm.Tr.vc (Vm.Fn c51 Tryz.f10 body10 noLoop ([.agg [.int .i64 v.I.Lo, .int .i64 v.I.Hi, .int .u64 v.C.M, .int .u64 v.C.R]])) = S.law21_plain_pre v by kernel_rfl) hp))

noncomputable def sem10 : List W → Option (W × List (List W) × List Prop)
  | [.agg [.int .i64 y1, .int .i64 y2, .int .u64 y3, .int .u64 y4]] => some (wr_S31 (S.law21_plain (⟨(⟨y1, y2⟩ : S.Inter), (⟨y3, y4⟩ : S.Cong)⟩ : S.Value)), wo_S31 (S.law21_plain (⟨(⟨y1, y2⟩ : S.Inter), (⟨y3, y4⟩ : S.Cong)⟩ : S.Value)), [S.law21_plain_pre (⟨(⟨y1, y2⟩ : S.Inter), (⟨y3, y4⟩ : S.Cong)⟩ : S.Value)])
  | _ => none
noncomputable def c10 : Cfg El := c51.add 10 sem10
theorem c10_ok : CfgOk c10 := c51_ok.add (fun args w => Tryz.call10 args w) (fun vs r outs ps h hp => by
  unfold sem10 at h
  split at h
  · rename_i y1 y2 y3 y4; cases h; exact fn10 (⟨(⟨y1, y2⟩ : S.Inter), (⟨y3, y4⟩ : S.Cong)⟩ : S.Value) hp
  · cases h)

noncomputable def body120 : Code := (Tryz.f120.body).getD .skip
theorem fn120 (c : S.Cong) : CallOk c10 120 [.agg [.int .u64 c.M, .int .u64 c.R]] (wr_b (S.cong_Cong_single c)) (wo_b (S.cong_Cong_single c)) :=
  (call_ok (c := c10) (f := 120) (fn := Tryz.f120) (code := body120) (args := ([.agg [.int .u64 c.M, .int .u64 c.R]])) (loop := noLoop) (md := ⟨false, false⟩) (rd := rd_b) (wr := wr_b) (wo := wo_b) (r := (S.cong_Cong_single c)) c10_ok (by kernel_rfl) (by kernel_rfl) (by kernel_rfl) (no_loops (by kernel_rfl)) (by kernel_rfl) (by kernel_rfl) (by kernel_rfl)
    rw_b np_b no_b (by kernel_rfl) (Tr.vc_of_noReq (by kernel_rfl)))

noncomputable def sem120 : List W → Option (W × List (List W) × List Prop)
  | [.agg [.int .u64 y1, .int .u64 y2]] => some (wr_b (S.cong_Cong_single (⟨y1, y2⟩ : S.Cong)), wo_b (S.cong_Cong_single (⟨y1, y2⟩ : S.Cong)), [])
  | _ => none
noncomputable def c120 : Cfg El := c10.add 120 sem120
theorem c120_ok : CfgOk c120 := c10_ok.add (fun args w => Tryz.call120 args w) (fun vs r outs ps h hp => by
  unfold sem120 at h
  split at h
  · rename_i y1 y2; cases h; exact fn120 (⟨y1, y2⟩ : S.Cong)
  · cases h)

noncomputable def body64 : Code := (Tryz.f64.body).getD .skip
theorem fn64 (c : S.Cong) : CallOk c120 64 [.agg [.int .u64 c.M, .int .u64 c.R]] (wr_b (S.cong_Cong_Right c)) (wo_b (S.cong_Cong_Right c)) :=
  (call_ok (c := c120) (f := 64) (fn := Tryz.f64) (code := body64) (args := ([.agg [.int .u64 c.M, .int .u64 c.R]])) (loop := noLoop) (md := ⟨false, false⟩) (rd := rd_b) (wr := wr_b) (wo := wo_b) (r := (S.cong_Cong_Right c)) c120_ok (by kernel_rfl) (by kernel_rfl) (by kernel_rfl) (no_loops (by kernel_rfl)) (by kernel_rfl) (by kernel_rfl) (by kernel_rfl)
    rw_b np_b no_b (by kernel_rfl) (Tr.vc_of_noReq (by kernel_rfl)))

noncomputable def sem64 : List W → Option (W × List (List W) × List Prop)
  | [.agg [.int .u64 y1, .int .u64 y2]] => some (wr_b (S.cong_Cong_Right (⟨y1, y2⟩ : S.Cong)), wo_b (S.cong_Cong_Right (⟨y1, y2⟩ : S.Cong)), [])
  | _ => none
noncomputable def c64 : Cfg El := c120.add 64 sem64
theorem c64_ok : CfgOk c64 := c120_ok.add (fun args w => Tryz.call64 args w) (fun vs r outs ps h hp => by
  unfold sem64 at h
  split at h
  · rename_i y1 y2; cases h; exact fn64 (⟨y1, y2⟩ : S.Cong)
  · cases h)

noncomputable def rd_i64 : W → List (List W) → Option (Int)
  | .int .i64 x1, [] => some x1
  | _, _ => none
noncomputable def wr_i64 (x : Int) : W := .int .i64 x
noncomputable def wo_i64 (_x : Int) : List (List W) := []
theorem rw_i64 (v : W) (os : List (List W)) (x : Int) (h : rd_i64 v os = some x) : v = wr_i64 x ∧ os = wo_i64 x := by
  unfold rd_i64 at h
  split at h <;> first | (cases h; exact ⟨rfl, rfl⟩) | cases h
theorem np_i64 (x : Int) : okv (fun _ => false) (wr_i64 x) = true := rfl
theorem no_i64 (x : Int) : all (fun cs => all (ok0 fun _ => false) cs) (wo_i64 x) = true := rfl

noncomputable def body122 : Code := (Tryz.f122.body).getD .skip
theorem fn122 (c : S.Cong) : CallOk c64 122 [.agg [.int .u64 c.M, .int .u64 c.R]] (wr_i64 (S.cong_Cong_number c)) (wo_i64 (S.cong_Cong_number c)) :=
  (call_ok (c := c64) (f := 122) (fn := Tryz.f122) (code := body122) (args := ([.agg [.int .u64 c.M, .int .u64 c.R]])) (loop := noLoop) (md := ⟨false, false⟩) (rd := rd_i64) (wr := wr_i64) (wo := wo_i64) (r := (S.cong_Cong_number c)) c64_ok (by kernel_rfl) (by kernel_rfl) (by kernel_rfl) (no_loops (by kernel_rfl)) (by kernel_rfl) (by kernel_rfl) (by kernel_rfl)
    rw_i64 np_i64 no_i64 (by kernel_rfl) (Tr.vc_of_noReq (by kernel_rfl)))

noncomputable def sem122 : List W → Option (W × List (List W) × List Prop)
  | [.agg [.int .u64 y1, .int .u64 y2]] => some (wr_i64 (S.cong_Cong_number (⟨y1, y2⟩ : S.Cong)), wo_i64 (S.cong_Cong_number (⟨y1, y2⟩ : S.Cong)), [])
  | _ => none
noncomputable def c122 : Cfg El := c64.add 122 sem122
theorem c122_ok : CfgOk c122 := c64_ok.add (fun args w => Tryz.call122 args w) (fun vs r outs ps h hp => by
  unfold sem122 at h
  split at h
  · rename_i y1 y2; cases h; exact fn122 (⟨y1, y2⟩ : S.Cong)
  · cases h)

noncomputable def rd_i64_b : W → List (List W) → Option (Int × Bool)
  | .tup [.int .i64 x1, .bool x2], [] => some ⟨x1, x2⟩
  | _, _ => none
noncomputable def wr_i64_b (x : Int × Bool) : W := .tup [.int .i64 x.1, .bool x.2]
noncomputable def wo_i64_b (_x : Int × Bool) : List (List W) := []
theorem rw_i64_b (v : W) (os : List (List W)) (x : Int × Bool) (h : rd_i64_b v os = some x) : v = wr_i64_b x ∧ os = wo_i64_b x := by
  unfold rd_i64_b at h
  split at h <;> first | (cases h; exact ⟨rfl, rfl⟩) | cases h
theorem np_i64_b (x : Int × Bool) : okv (fun _ => false) (wr_i64_b x) = true := rfl
theorem no_i64_b (x : Int × Bool) : all (fun cs => all (ok0 fun _ => false) cs) (wo_i64_b x) = true := rfl

noncomputable def body121 : Code := (Tryz.f121.body).getD .skip
theorem fn121 (c : S.Cong) (ok : Bool) : CallOk c122 121 [.agg [.int .u64 c.M, .int .u64 c.R], .bool ok] (wr_i64_b (S.cong_Cong_number0 c ok)) (wo_i64_b (S.cong_Cong_number0 c ok)) :=
  (call_ok (c := c122) (f := 121) (fn := Tryz.f121) (code := body121) (args := ([.agg [.int .u64 c.M, .int .u64 c.R], .bool ok])) (loop := noLoop) (md := ⟨false, false⟩) (rd := rd_i64_b) (wr := wr_i64_b) (wo := wo_i64_b) (r := (S.cong_Cong_number0 c ok)) c122_ok (by kernel_rfl) (by kernel_rfl) (by kernel_rfl) (no_loops (by kernel_rfl)) (by kernel_rfl) (by kernel_rfl) (by kernel_rfl)
    rw_i64_b np_i64_b no_i64_b (by kernel_rfl) (Tr.vc_of_noReq (by kernel_rfl)))

noncomputable def sem121 : List W → Option (W × List (List W) × List Prop)
  | [.agg [.int .u64 y1, .int .u64 y2], .bool y3] => some (wr_i64_b (S.cong_Cong_number0 (⟨y1, y2⟩ : S.Cong) y3), wo_i64_b (S.cong_Cong_number0 (⟨y1, y2⟩ : S.Cong) y3), [])
  | _ => none
noncomputable def c121 : Cfg El := c122.add 121 sem121
theorem c121_ok : CfgOk c121 := c122_ok.add (fun args w => Tryz.call121 args w) (fun vs r outs ps h hp => by
  unfold sem121 at h
  split at h
  · rename_i y1 y2 y3; cases h; exact fn121 (⟨y1, y2⟩ : S.Cong) y3
  · cases h)

noncomputable def body103 : Code := (Tryz.f103.body).getD .skip
theorem fn103 (n : Int) (m : Int) (hp : S.cong_rest_pre n m) : CallOk c121 103 [.int .i64 n, .int .u64 m] (wr_u64 (S.cong_rest n m)) (wo_u64 (S.cong_rest n m)) :=
  (call_ok (c := c121) (f := 103) (fn := Tryz.f103) (code := body103) (args := ([.int .i64 n, .int .u64 m])) (loop := noLoop) (md := ⟨false, false⟩) (rd := rd_u64) (wr := wr_u64) (wo := wo_u64) (r := (S.cong_rest n m)) c121_ok (by kernel_rfl) (by kernel_rfl) (by kernel_rfl) (no_loops (by kernel_rfl)) (by kernel_rfl) (by kernel_rfl) (by kernel_rfl)
    rw_u64 np_u64 no_u64 (by kernel_rfl) (Eq.mpr (show Vm.Tr.vc (Vm.Fn c121 Tryz.f103 body103 noLoop ([.int .i64 n, .int .u64 m])) = S.cong_rest_pre n m by kernel_rfl) hp))

noncomputable def sem103 : List W → Option (W × List (List W) × List Prop)
  | [.int .i64 y1, .int .u64 y2] => some (wr_u64 (S.cong_rest y1 y2), wo_u64 (S.cong_rest y1 y2), [S.cong_rest_pre y1 y2])
  | _ => none
noncomputable def c103 : Cfg El := c121.add 103 sem103
theorem c103_ok : CfgOk c103 := c121_ok.add (fun args w => Tryz.call103 args w) (fun vs r outs ps h hp => by
  unfold sem103 at h
  split at h
  · rename_i y1 y2; cases h; exact fn103 y1 y2 hp
  · cases h)

noncomputable def sem173 : List W → Option (W × List (List W) × List Prop)
  | [.int .u64 x, .int .u64 y, .int .u64 c] => some (.tup [.int .u64 (S.math_bits_Add64 x y c).1, .int .u64 (S.math_bits_Add64 x y c).2], [], [S.math_bits_Add64_pre x y c])
  | _ => none
noncomputable def c173 : Cfg El := c103.add 173 sem173
theorem c173_ok : CfgOk c173 := c103_ok.addExt (fun vs r outs ps h hp => by
  unfold sem173 at h
  split at h
  · cases h; exact ⟨rfl, ext_add64 (c := c103) (fn := Tryz.f173) (by kernel_rfl) (by kernel_rfl) (by kernel_rfl) (by kernel_rfl) (by kernel_rfl) hp⟩
  · cases h)

noncomputable def body123 : Code := (Tryz.f123.body).getD .skip
theorem fn123 (a : Int) (b : Int) (m : Int) (hp : S.cong_plus_pre a b m) : CallOk c173 123 [.int .u64 a, .int .u64 b, .int .u64 m] (wr_u64 (S.cong_plus a b m)) (wo_u64 (S.cong_plus a b m)) :=
  (call_ok (c := c173) (f := 123) (fn := Tryz.f123) (code := body123) (args := ([.int .u64 a, .int .u64 b, .int .u64 m])) (loop := noLoop) (md := ⟨false, false⟩) (rd := rd_u64) (wr := wr_u64) (wo := wo_u64) (r := (S.cong_plus a b m)) c173_ok (by kernel_rfl) (by kernel_rfl) (by kernel_rfl) (no_loops (by kernel_rfl)) (by kernel_rfl) (by kernel_rfl) (by kernel_rfl)
    rw_u64 np_u64 no_u64 (by kernel_rfl) (Eq.mpr (show Vm.Tr.vc (Vm.Fn c173 Tryz.f123 body123 noLoop ([.int .u64 a, .int .u64 b, .int .u64 m])) = S.cong_plus_pre a b m by kernel_rfl) hp))

noncomputable def sem123 : List W → Option (W × List (List W) × List Prop)
  | [.int .u64 y1, .int .u64 y2, .int .u64 y3] => some (wr_u64 (S.cong_plus y1 y2 y3), wo_u64 (S.cong_plus y1 y2 y3), [S.cong_plus_pre y1 y2 y3])
  | _ => none
noncomputable def c123 : Cfg El := c173.add 123 sem123
theorem c123_ok : CfgOk c123 := c173_ok.add (fun args w => Tryz.call123 args w) (fun vs r outs ps h hp => by
  unfold sem123 at h
  split at h
  · rename_i y1 y2 y3; cases h; exact fn123 y1 y2 y3 hp
  · cases h)

noncomputable def body65 : Code := (Tryz.f65.body).getD .skip
theorem fn65 (c : S.Cong) (a1 : Int) (hp : S.cong_Cong_Least_pre c a1) : CallOk c123 65 [.agg [.int .u64 c.M, .int .u64 c.R], .int .i64 a1] (wr_i64_b (S.cong_Cong_Least c a1)) (wo_i64_b (S.cong_Cong_Least c a1)) :=
  (call_ok (c := c123) (f := 65) (fn := Tryz.f65) (code := body65) (args := ([.agg [.int .u64 c.M, .int .u64 c.R], .int .i64 a1])) (loop := noLoop) (md := ⟨false, false⟩) (rd := rd_i64_b) (wr := wr_i64_b) (wo := wo_i64_b) (r := (S.cong_Cong_Least c a1)) c123_ok (by kernel_rfl) (by kernel_rfl) (by kernel_rfl) (no_loops (by kernel_rfl)) (by kernel_rfl) (by kernel_rfl) (by kernel_rfl)
    rw_i64_b np_i64_b no_i64_b (by kernel_rfl) (Eq.mpr (show Vm.Tr.vc (Vm.Fn c123 Tryz.f65 body65 noLoop ([.agg [.int .u64 c.M, .int .u64 c.R], .int .i64 a1])) = S.cong_Cong_Least_pre c a1 by kernel_rfl) hp))

noncomputable def sem65 : List W → Option (W × List (List W) × List Prop)
  | [.agg [.int .u64 y1, .int .u64 y2], .int .i64 y3] => some (wr_i64_b (S.cong_Cong_Least (⟨y1, y2⟩ : S.Cong) y3), wo_i64_b (S.cong_Cong_Least (⟨y1, y2⟩ : S.Cong) y3), [S.cong_Cong_Least_pre (⟨y1, y2⟩ : S.Cong) y3])
  | _ => none
noncomputable def c65 : Cfg El := c123.add 65 sem65
theorem c65_ok : CfgOk c65 := c123_ok.add (fun args w => Tryz.call65 args w) (fun vs r outs ps h hp => by
  unfold sem65 at h
  split at h
  · rename_i y1 y2 y3; cases h; exact fn65 (⟨y1, y2⟩ : S.Cong) y3 hp
  · cases h)

noncomputable def body66 : Code := (Tryz.f66.body).getD .skip
theorem fn66 (c : S.Cong) (to : Int) (hp : S.cong_Cong_Greatest_pre c to) : CallOk c65 66 [.agg [.int .u64 c.M, .int .u64 c.R], .int .i64 to] (wr_i64_b (S.cong_Cong_Greatest c to)) (wo_i64_b (S.cong_Cong_Greatest c to)) :=
  (call_ok (c := c65) (f := 66) (fn := Tryz.f66) (code := body66) (args := ([.agg [.int .u64 c.M, .int .u64 c.R], .int .i64 to])) (loop := noLoop) (md := ⟨false, false⟩) (rd := rd_i64_b) (wr := wr_i64_b) (wo := wo_i64_b) (r := (S.cong_Cong_Greatest c to)) c65_ok (by kernel_rfl) (by kernel_rfl) (by kernel_rfl) (no_loops (by kernel_rfl)) (by kernel_rfl) (by kernel_rfl) (by kernel_rfl)
    rw_i64_b np_i64_b no_i64_b (by kernel_rfl) (Eq.mpr (show Vm.Tr.vc (Vm.Fn c65 Tryz.f66 body66 noLoop ([.agg [.int .u64 c.M, .int .u64 c.R], .int .i64 to])) = S.cong_Cong_Greatest_pre c to by kernel_rfl) hp))

noncomputable def sem66 : List W → Option (W × List (List W) × List Prop)
  | [.agg [.int .u64 y1, .int .u64 y2], .int .i64 y3] => some (wr_i64_b (S.cong_Cong_Greatest (⟨y1, y2⟩ : S.Cong) y3), wo_i64_b (S.cong_Cong_Greatest (⟨y1, y2⟩ : S.Cong) y3), [S.cong_Cong_Greatest_pre (⟨y1, y2⟩ : S.Cong) y3])
  | _ => none
noncomputable def c66 : Cfg El := c65.add 66 sem66
theorem c66_ok : CfgOk c66 := c65_ok.add (fun args w => Tryz.call66 args w) (fun vs r outs ps h hp => by
  unfold sem66 at h
  split at h
  · rename_i y1 y2 y3; cases h; exact fn66 (⟨y1, y2⟩ : S.Cong) y3 hp
  · cases h)

noncomputable def rd_S22 : W → List (List W) → Option (S.Inter)
  | .agg [.int .i64 x1, .int .i64 x2], [] => some ⟨x1, x2⟩
  | _, _ => none
noncomputable def wr_S22 (x : S.Inter) : W := .agg [.int .i64 x.Lo, .int .i64 x.Hi]
noncomputable def wo_S22 (_x : S.Inter) : List (List W) := []
theorem rw_S22 (v : W) (os : List (List W)) (x : S.Inter) (h : rd_S22 v os = some x) : v = wr_S22 x ∧ os = wo_S22 x := by
  unfold rd_S22 at h
  split at h <;> first | (cases h; exact ⟨rfl, rfl⟩) | cases h
theorem np_S22 (x : S.Inter) : okv (fun _ => false) (wr_S22 x) = true := rfl
theorem no_S22 (x : S.Inter) : all (fun cs => all (ok0 fun _ => false) cs) (wo_S22 x) = true := rfl

noncomputable def body84 : Code := (Tryz.f84.body).getD .skip
theorem fn84 : CallOk c66 84 [] (wr_S22 (S.inter_Empty)) (wo_S22 (S.inter_Empty)) :=
  (call_ok (c := c66) (f := 84) (fn := Tryz.f84) (code := body84) (args := ([])) (loop := noLoop) (md := ⟨false, false⟩) (rd := rd_S22) (wr := wr_S22) (wo := wo_S22) (r := S.inter_Empty) c66_ok (by kernel_rfl) (by kernel_rfl) (by kernel_rfl) (no_loops (by kernel_rfl)) (by kernel_rfl) (by kernel_rfl) (by kernel_rfl)
    rw_S22 np_S22 no_S22 (by kernel_rfl) (Tr.vc_of_noReq (by kernel_rfl)))

noncomputable def sem84 : List W → Option (W × List (List W) × List Prop)
  | [] => some (wr_S22 (S.inter_Empty), wo_S22 (S.inter_Empty), [])
  | _ => none
noncomputable def c84 : Cfg El := c66.add 84 sem84
theorem c84_ok : CfgOk c84 := c66_ok.add (fun args w => Tryz.call84 args w) (fun vs r outs ps h hp => by
  unfold sem84 at h
  split at h
  · cases h; exact fn84
  · cases h)

noncomputable def body68 : Code := (Tryz.f68.body).getD .skip
theorem fn68 (lo : Int) (hi : Int) : CallOk c84 68 [.int .i64 lo, .int .i64 hi] (wr_S22 (S.inter_Of lo hi)) (wo_S22 (S.inter_Of lo hi)) :=
  (call_ok (c := c84) (f := 68) (fn := Tryz.f68) (code := body68) (args := ([.int .i64 lo, .int .i64 hi])) (loop := noLoop) (md := ⟨false, false⟩) (rd := rd_S22) (wr := wr_S22) (wo := wo_S22) (r := (S.inter_Of lo hi)) c84_ok (by kernel_rfl) (by kernel_rfl) (by kernel_rfl) (no_loops (by kernel_rfl)) (by kernel_rfl) (by kernel_rfl) (by kernel_rfl)
    rw_S22 np_S22 no_S22 (by kernel_rfl) (Tr.vc_of_noReq (by kernel_rfl)))

noncomputable def sem68 : List W → Option (W × List (List W) × List Prop)
  | [.int .i64 y1, .int .i64 y2] => some (wr_S22 (S.inter_Of y1 y2), wo_S22 (S.inter_Of y1 y2), [])
  | _ => none
noncomputable def c68 : Cfg El := c84.add 68 sem68
theorem c68_ok : CfgOk c68 := c84_ok.add (fun args w => Tryz.call68 args w) (fun vs r outs ps h hp => by
  unfold sem68 at h
  split at h
  · rename_i y1 y2; cases h; exact fn68 y1 y2
  · cases h)

noncomputable def body124 : Code := (Tryz.f124.body).getD .skip
theorem fn124 (i : S.Inter) : CallOk c68 124 [.agg [.int .i64 i.Lo, .int .i64 i.Hi]] (wr_S22 (S.inter_Inter_plain i)) (wo_S22 (S.inter_Inter_plain i)) :=
  (call_ok (c := c68) (f := 124) (fn := Tryz.f124) (code := body124) (args := ([.agg [.int .i64 i.Lo, .int .i64 i.Hi]])) (loop := noLoop) (md := ⟨false, false⟩) (rd := rd_S22) (wr := wr_S22) (wo := wo_S22) (r := (S.inter_Inter_plain i)) c68_ok (by kernel_rfl) (by kernel_rfl) (by kernel_rfl) (no_loops (by kernel_rfl)) (by kernel_rfl) (by kernel_rfl) (by kernel_rfl)
    rw_S22 np_S22 no_S22 (by kernel_rfl) (Tr.vc_of_noReq (by kernel_rfl)))

noncomputable def sem124 : List W → Option (W × List (List W) × List Prop)
  | [.agg [.int .i64 y1, .int .i64 y2]] => some (wr_S22 (S.inter_Inter_plain (⟨y1, y2⟩ : S.Inter)), wo_S22 (S.inter_Inter_plain (⟨y1, y2⟩ : S.Inter)), [])
  | _ => none
noncomputable def c124 : Cfg El := c68.add 124 sem124
theorem c124_ok : CfgOk c124 := c68_ok.add (fun args w => Tryz.call124 args w) (fun vs r outs ps h hp => by
  unfold sem124 at h
  split at h
  · rename_i y1 y2; cases h; exact fn124 (⟨y1, y2⟩ : S.Inter)
  · cases h)

noncomputable def body67 : Code := (Tryz.f67.body).getD .skip
theorem fn67 (i : S.Inter) : CallOk c124 67 [.agg [.int .i64 i.Lo, .int .i64 i.Hi]] (wr_b (S.inter_Inter_IsEmpty i)) (wo_b (S.inter_Inter_IsEmpty i)) :=
  (call_ok (c := c124) (f := 67) (fn := Tryz.f67) (code := body67) (args := ([.agg [.int .i64 i.Lo, .int .i64 i.Hi]])) (loop := noLoop) (md := ⟨false, false⟩) (rd := rd_b) (wr := wr_b) (wo := wo_b) (r := (S.inter_Inter_IsEmpty i)) c124_ok (by kernel_rfl) (by kernel_rfl) (by kernel_rfl) (no_loops (by kernel_rfl)) (by kernel_rfl) (by kernel_rfl) (by kernel_rfl)
    rw_b np_b no_b (by kernel_rfl) (Tr.vc_of_noReq (by kernel_rfl)))

noncomputable def sem67 : List W → Option (W × List (List W) × List Prop)
  | [.agg [.int .i64 y1, .int .i64 y2]] => some (wr_b (S.inter_Inter_IsEmpty (⟨y1, y2⟩ : S.Inter)), wo_b (S.inter_Inter_IsEmpty (⟨y1, y2⟩ : S.Inter)), [])
  | _ => none
noncomputable def c67 : Cfg El := c124.add 67 sem67
theorem c67_ok : CfgOk c67 := c124_ok.add (fun args w => Tryz.call67 args w) (fun vs r outs ps h hp => by
  unfold sem67 at h
  split at h
  · rename_i y1 y2; cases h; exact fn67 (⟨y1, y2⟩ : S.Inter)
  · cases h)

noncomputable def body31 : Code := (Tryz.f31.body).getD .skip
theorem fn31 : CallOk c67 31 [] (wr_S25 (S.cong_Top)) (wo_S25 (S.cong_Top)) :=
  (call_ok (c := c67) (f := 31) (fn := Tryz.f31) (code := body31) (args := ([])) (loop := noLoop) (md := ⟨false, false⟩) (rd := rd_S25) (wr := wr_S25) (wo := wo_S25) (r := S.cong_Top) c67_ok (by kernel_rfl) (by kernel_rfl) (by kernel_rfl) (no_loops (by kernel_rfl)) (by kernel_rfl) (by kernel_rfl) (by kernel_rfl)
    rw_S25 np_S25 no_S25 (by kernel_rfl) (Tr.vc_of_noReq (by kernel_rfl)))

noncomputable def sem31 : List W → Option (W × List (List W) × List Prop)
  | [] => some (wr_S25 (S.cong_Top), wo_S25 (S.cong_Top), [])
  | _ => none
noncomputable def c31 : Cfg El := c67.add 31 sem31
theorem c31_ok : CfgOk c31 := c67_ok.add (fun args w => Tryz.call31 args w) (fun vs r outs ps h hp => by
  unfold sem31 at h
  split at h
  · cases h; exact fn31
  · cases h)

noncomputable def rd_S27 : W → List (List W) → Option (S.Value)
  | .agg [.int .i64 x1, .int .i64 x2, .int .u64 x3, .int .u64 x4], [] => some ⟨⟨x1, x2⟩, ⟨x3, x4⟩⟩
  | _, _ => none
noncomputable def wr_S27 (x : S.Value) : W := .agg [.int .i64 x.I.Lo, .int .i64 x.I.Hi, .int .u64 x.C.M, .int .u64 x.C.R]
noncomputable def wo_S27 (_x : S.Value) : List (List W) := []
theorem rw_S27 (v : W) (os : List (List W)) (x : S.Value) (h : rd_S27 v os = some x) : v = wr_S27 x ∧ os = wo_S27 x := by
  unfold rd_S27 at h
  split at h <;> first | (cases h; exact ⟨rfl, rfl⟩) | cases h
theorem np_S27 (x : S.Value) : okv (fun _ => false) (wr_S27 x) = true := rfl
theorem no_S27 (x : S.Value) : all (fun cs => all (ok0 fun _ => false) cs) (wo_S27 x) = true := rfl

noncomputable def body29 : Code := (Tryz.f29.body).getD .skip
theorem fn29 : CallOk c31 29 [] (wr_S27 (S.value_Bottom)) (wo_S27 (S.value_Bottom)) :=
  (call_ok (c := c31) (f := 29) (fn := Tryz.f29) (code := body29) (args := ([])) (loop := noLoop) (md := ⟨false, false⟩) (rd := rd_S27) (wr := wr_S27) (wo := wo_S27) (r := S.value_Bottom) c31_ok (by kernel_rfl) (by kernel_rfl) (by kernel_rfl) (no_loops (by kernel_rfl)) (by kernel_rfl) (by kernel_rfl) (by kernel_rfl)
    rw_S27 np_S27 no_S27 (by kernel_rfl) (Tr.vc_of_noReq (by kernel_rfl)))

noncomputable def sem29 : List W → Option (W × List (List W) × List Prop)
  | [] => some (wr_S27 (S.value_Bottom), wo_S27 (S.value_Bottom), [])
  | _ => none
noncomputable def c29 : Cfg El := c31.add 29 sem29
theorem c29_ok : CfgOk c29 := c31_ok.add (fun args w => Tryz.call29 args w) (fun vs r outs ps h hp => by
  unfold sem29 at h
  split at h
  · cases h; exact fn29
  · cases h)

noncomputable def body79 : Code := (Tryz.f79.body).getD .skip
theorem fn79 (n : Int) : CallOk c29 79 [.int .i64 n] (wr_S22 (S.inter_One n)) (wo_S22 (S.inter_One n)) :=
  (call_ok (c := c29) (f := 79) (fn := Tryz.f79) (code := body79) (args := ([.int .i64 n])) (loop := noLoop) (md := ⟨false, false⟩) (rd := rd_S22) (wr := wr_S22) (wo := wo_S22) (r := (S.inter_One n)) c29_ok (by kernel_rfl) (by kernel_rfl) (by kernel_rfl) (no_loops (by kernel_rfl)) (by kernel_rfl) (by kernel_rfl) (by kernel_rfl)
    rw_S22 np_S22 no_S22 (by kernel_rfl) (Tr.vc_of_noReq (by kernel_rfl)))

noncomputable def sem79 : List W → Option (W × List (List W) × List Prop)
  | [.int .i64 y1] => some (wr_S22 (S.inter_One y1), wo_S22 (S.inter_One y1), [])
  | _ => none
noncomputable def c79 : Cfg El := c29.add 79 sem79
theorem c79_ok : CfgOk c79 := c29_ok.add (fun args w => Tryz.call79 args w) (fun vs r outs ps h hp => by
  unfold sem79 at h
  split at h
  · rename_i y1; cases h; exact fn79 y1
  · cases h)

noncomputable def body80 : Code := (Tryz.f80.body).getD .skip
theorem fn80 (n : Int) : CallOk c79 80 [.int .i64 n] (wr_S25 (S.cong_Const n)) (wo_S25 (S.cong_Const n)) :=
  (call_ok (c := c79) (f := 80) (fn := Tryz.f80) (code := body80) (args := ([.int .i64 n])) (loop := noLoop) (md := ⟨false, false⟩) (rd := rd_S25) (wr := wr_S25) (wo := wo_S25) (r := (S.cong_Const n)) c79_ok (by kernel_rfl) (by kernel_rfl) (by kernel_rfl) (no_loops (by kernel_rfl)) (by kernel_rfl) (by kernel_rfl) (by kernel_rfl)
    rw_S25 np_S25 no_S25 (by kernel_rfl) (Tr.vc_of_noReq (by kernel_rfl)))

noncomputable def sem80 : List W → Option (W × List (List W) × List Prop)
  | [.int .i64 y1] => some (wr_S25 (S.cong_Const y1), wo_S25 (S.cong_Const y1), [])
  | _ => none
noncomputable def c80 : Cfg El := c79.add 80 sem80
theorem c80_ok : CfgOk c80 := c79_ok.add (fun args w => Tryz.call80 args w) (fun vs r outs ps h hp => by
  unfold sem80 at h
  split at h
  · rename_i y1; cases h; exact fn80 y1
  · cases h)

noncomputable def body25 : Code := (Tryz.f25.body).getD .skip
theorem fn25 (n : Int) : CallOk c80 25 [.int .i64 n] (wr_S27 (S.value_One n)) (wo_S27 (S.value_One n)) :=
  (call_ok (c := c80) (f := 25) (fn := Tryz.f25) (code := body25) (args := ([.int .i64 n])) (loop := noLoop) (md := ⟨false, false⟩) (rd := rd_S27) (wr := wr_S27) (wo := wo_S27) (r := (S.value_One n)) c80_ok (by kernel_rfl) (by kernel_rfl) (by kernel_rfl) (no_loops (by kernel_rfl)) (by kernel_rfl) (by kernel_rfl) (by kernel_rfl)
    rw_S27 np_S27 no_S27 (by kernel_rfl) (Tr.vc_of_noReq (by kernel_rfl)))

noncomputable def sem25 : List W → Option (W × List (List W) × List Prop)
  | [.int .i64 y1] => some (wr_S27 (S.value_One y1), wo_S27 (S.value_One y1), [])
  | _ => none
noncomputable def c25 : Cfg El := c80.add 25 sem25
theorem c25_ok : CfgOk c25 := c80_ok.add (fun args w => Tryz.call25 args w) (fun vs r outs ps h hp => by
  unfold sem25 at h
  split at h
  · rename_i y1; cases h; exact fn25 y1
  · cases h)

noncomputable def body11 : Code := (Tryz.f11.body).getD .skip
theorem fn11 (i : S.Inter) (c : S.Cong) (hp : S.value_Make_pre i c) : CallOk c25 11 [.agg [.int .i64 i.Lo, .int .i64 i.Hi], .agg [.int .u64 c.M, .int .u64 c.R]] (wr_S27 (S.value_Make i c)) (wo_S27 (S.value_Make i c)) :=
  (call_ok (c := c25) (f := 11) (fn := Tryz.f11) (code := body11) (args := ([.agg [.int .i64 i.Lo, .int .i64 i.Hi], .agg [.int .u64 c.M, .int .u64 c.R]])) (loop := noLoop) (md := ⟨false, false⟩) (rd := rd_S27) (wr := wr_S27) (wo := wo_S27) (r := (S.value_Make i c)) c25_ok (by kernel_rfl) (by kernel_rfl) (by kernel_rfl) (no_loops (by kernel_rfl)) (by kernel_rfl) (by kernel_rfl) (by kernel_rfl)
    rw_S27 np_S27 no_S27 (by kernel_rfl) (Eq.mpr (show Vm.Tr.vc (Vm.Fn c25 Tryz.f11 body11 noLoop ([.agg [.int .i64 i.Lo, .int .i64 i.Hi], .agg [.int .u64 c.M, .int .u64 c.R]])) = S.value_Make_pre i c by kernel_rfl) hp))

noncomputable def sem11 : List W → Option (W × List (List W) × List Prop)
  | [.agg [.int .i64 y1, .int .i64 y2], .agg [.int .u64 y3, .int .u64 y4]] => some (wr_S27 (S.value_Make (⟨y1, y2⟩ : S.Inter) (⟨y3, y4⟩ : S.Cong)), wo_S27 (S.value_Make (⟨y1, y2⟩ : S.Inter) (⟨y3, y4⟩ : S.Cong)), [S.value_Make_pre (⟨y1, y2⟩ : S.Inter) (⟨y3, y4⟩ : S.Cong)])
  | _ => none
noncomputable def c11 : Cfg El := c25.add 11 sem11
theorem c11_ok : CfgOk c11 := c25_ok.add (fun args w => Tryz.call11 args w) (fun vs r outs ps h hp => by
  unfold sem11 at h
  split at h
  · rename_i y1 y2 y3 y4; cases h; exact fn11 (⟨y1, y2⟩ : S.Inter) (⟨y3, y4⟩ : S.Cong) hp
  · cases h)

noncomputable def body69 : Code := (Tryz.f69.body).getD .skip
theorem fn69 (v : S.Value) (hp : S.value_Value_reduced_pre v) : CallOk c11 69 [.agg [.int .i64 v.I.Lo, .int .i64 v.I.Hi, .int .u64 v.C.M, .int .u64 v.C.R]] (wr_S27 (S.value_Value_reduced v)) (wo_S27 (S.value_Value_reduced v)) :=
  (call_ok (c := c11) (f := 69) (fn := Tryz.f69) (code := body69) (args := ([.agg [.int .i64 v.I.Lo, .int .i64 v.I.Hi, .int .u64 v.C.M, .int .u64 v.C.R]])) (loop := noLoop) (md := ⟨false, false⟩) (rd := rd_S27) (wr := wr_S27) (wo := wo_S27) (r := (S.value_Value_reduced v)) c11_ok (by kernel_rfl) (by kernel_rfl) (by kernel_rfl) (no_loops (by kernel_rfl)) (by kernel_rfl) (by kernel_rfl) (by kernel_rfl)
    rw_S27 np_S27 no_S27 (by kernel_rfl) (Eq.mpr (show Vm.Tr.vc (Vm.Fn c11 Tryz.f69 body69 noLoop ([.agg [.int .i64 v.I.Lo, .int .i64 v.I.Hi, .int .u64 v.C.M, .int .u64 v.C.R]])) = S.value_Value_reduced_pre v by kernel_rfl) hp))

noncomputable def sem69 : List W → Option (W × List (List W) × List Prop)
  | [.agg [.int .i64 y1, .int .i64 y2, .int .u64 y3, .int .u64 y4]] => some (wr_S27 (S.value_Value_reduced (⟨(⟨y1, y2⟩ : S.Inter), (⟨y3, y4⟩ : S.Cong)⟩ : S.Value)), wo_S27 (S.value_Value_reduced (⟨(⟨y1, y2⟩ : S.Inter), (⟨y3, y4⟩ : S.Cong)⟩ : S.Value)), [S.value_Value_reduced_pre (⟨(⟨y1, y2⟩ : S.Inter), (⟨y3, y4⟩ : S.Cong)⟩ : S.Value)])
  | _ => none
noncomputable def c69 : Cfg El := c11.add 69 sem69
theorem c69_ok : CfgOk c69 := c11_ok.add (fun args w => Tryz.call69 args w) (fun vs r outs ps h hp => by
  unfold sem69 at h
  split at h
  · rename_i y1 y2 y3 y4; cases h; exact fn69 (⟨(⟨y1, y2⟩ : S.Inter), (⟨y3, y4⟩ : S.Cong)⟩ : S.Value) hp
  · cases h)

noncomputable def body17 : Code := (Tryz.f17.body).getD .skip
theorem fn17 (v : S.Value) (hp : S.value_Value_IsBottom_pre v) : CallOk c69 17 [.agg [.int .i64 v.I.Lo, .int .i64 v.I.Hi, .int .u64 v.C.M, .int .u64 v.C.R]] (wr_b (S.value_Value_IsBottom v)) (wo_b (S.value_Value_IsBottom v)) :=
  (call_ok (c := c69) (f := 17) (fn := Tryz.f17) (code := body17) (args := ([.agg [.int .i64 v.I.Lo, .int .i64 v.I.Hi, .int .u64 v.C.M, .int .u64 v.C.R]])) (loop := noLoop) (md := ⟨false, false⟩) (rd := rd_b) (wr := wr_b) (wo := wo_b) (r := (S.value_Value_IsBottom v)) c69_ok (by kernel_rfl) (by kernel_rfl) (by kernel_rfl) (no_loops (by kernel_rfl)) (by kernel_rfl) (by kernel_rfl) (by kernel_rfl)
    rw_b np_b no_b (by kernel_rfl) (Eq.mpr (show Vm.Tr.vc (Vm.Fn c69 Tryz.f17 body17 noLoop ([.agg [.int .i64 v.I.Lo, .int .i64 v.I.Hi, .int .u64 v.C.M, .int .u64 v.C.R]])) = S.value_Value_IsBottom_pre v by kernel_rfl) hp))

noncomputable def sem17 : List W → Option (W × List (List W) × List Prop)
  | [.agg [.int .i64 y1, .int .i64 y2, .int .u64 y3, .int .u64 y4]] => some (wr_b (S.value_Value_IsBottom (⟨(⟨y1, y2⟩ : S.Inter), (⟨y3, y4⟩ : S.Cong)⟩ : S.Value)), wo_b (S.value_Value_IsBottom (⟨(⟨y1, y2⟩ : S.Inter), (⟨y3, y4⟩ : S.Cong)⟩ : S.Value)), [S.value_Value_IsBottom_pre (⟨(⟨y1, y2⟩ : S.Inter), (⟨y3, y4⟩ : S.Cong)⟩ : S.Value)])
  | _ => none
noncomputable def c17 : Cfg El := c69.add 17 sem17
theorem c17_ok : CfgOk c17 := c69_ok.add (fun args w => Tryz.call17 args w) (fun vs r outs ps h hp => by
  unfold sem17 at h
  split at h
  · rename_i y1 y2 y3 y4; cases h; exact fn17 (⟨(⟨y1, y2⟩ : S.Inter), (⟨y3, y4⟩ : S.Cong)⟩ : S.Value) hp
  · cases h)

noncomputable def rd_u64_b : W → List (List W) → Option (Int × Bool)
  | .tup [.int .u64 x1, .bool x2], [] => some ⟨x1, x2⟩
  | _, _ => none
noncomputable def wr_u64_b (x : Int × Bool) : W := .tup [.int .u64 x.1, .bool x.2]
noncomputable def wo_u64_b (_x : Int × Bool) : List (List W) := []
theorem rw_u64_b (v : W) (os : List (List W)) (x : Int × Bool) (h : rd_u64_b v os = some x) : v = wr_u64_b x ∧ os = wo_u64_b x := by
  unfold rd_u64_b at h
  split at h <;> first | (cases h; exact ⟨rfl, rfl⟩) | cases h
theorem np_u64_b (x : Int × Bool) : okv (fun _ => false) (wr_u64_b x) = true := rfl
theorem no_u64_b (x : Int × Bool) : all (fun cs => all (ok0 fun _ => false) cs) (wo_u64_b x) = true := rfl

noncomputable def body70 : Code := (Tryz.f70.body).getD .skip
theorem fn70 (c : S.Cong) (lo : Int) (hi : Int) (hp : S.cong_Cong_Many_pre c lo hi) : CallOk c17 70 [.agg [.int .u64 c.M, .int .u64 c.R], .int .i64 lo, .int .i64 hi] (wr_u64_b (S.cong_Cong_Many c lo hi)) (wo_u64_b (S.cong_Cong_Many c lo hi)) :=
  (call_ok (c := c17) (f := 70) (fn := Tryz.f70) (code := body70) (args := ([.agg [.int .u64 c.M, .int .u64 c.R], .int .i64 lo, .int .i64 hi])) (loop := noLoop) (md := ⟨false, false⟩) (rd := rd_u64_b) (wr := wr_u64_b) (wo := wo_u64_b) (r := (S.cong_Cong_Many c lo hi)) c17_ok (by kernel_rfl) (by kernel_rfl) (by kernel_rfl) (no_loops (by kernel_rfl)) (by kernel_rfl) (by kernel_rfl) (by kernel_rfl)
    rw_u64_b np_u64_b no_u64_b (by kernel_rfl) (Eq.mpr (show Vm.Tr.vc (Vm.Fn c17 Tryz.f70 body70 noLoop ([.agg [.int .u64 c.M, .int .u64 c.R], .int .i64 lo, .int .i64 hi])) = S.cong_Cong_Many_pre c lo hi by kernel_rfl) hp))

noncomputable def sem70 : List W → Option (W × List (List W) × List Prop)
  | [.agg [.int .u64 y1, .int .u64 y2], .int .i64 y3, .int .i64 y4] => some (wr_u64_b (S.cong_Cong_Many (⟨y1, y2⟩ : S.Cong) y3 y4), wo_u64_b (S.cong_Cong_Many (⟨y1, y2⟩ : S.Cong) y3 y4), [S.cong_Cong_Many_pre (⟨y1, y2⟩ : S.Cong) y3 y4])
  | _ => none
noncomputable def c70 : Cfg El := c17.add 70 sem70
theorem c70_ok : CfgOk c70 := c17_ok.add (fun args w => Tryz.call70 args w) (fun vs r outs ps h hp => by
  unfold sem70 at h
  split at h
  · rename_i y1 y2 y3 y4; cases h; exact fn70 (⟨y1, y2⟩ : S.Cong) y3 y4 hp
  · cases h)

noncomputable def body13 : Code := (Tryz.f13.body).getD .skip
theorem fn13 (v : S.Value) (hp : S.value_Value_Card_pre v) : CallOk c70 13 [.agg [.int .i64 v.I.Lo, .int .i64 v.I.Hi, .int .u64 v.C.M, .int .u64 v.C.R]] (wr_u64_b (S.value_Value_Card v)) (wo_u64_b (S.value_Value_Card v)) :=
  (call_ok (c := c70) (f := 13) (fn := Tryz.f13) (code := body13) (args := ([.agg [.int .i64 v.I.Lo, .int .i64 v.I.Hi, .int .u64 v.C.M, .int .u64 v.C.R]])) (loop := noLoop) (md := ⟨false, false⟩) (rd := rd_u64_b) (wr := wr_u64_b) (wo := wo_u64_b) (r := (S.value_Value_Card v)) c70_ok (by kernel_rfl) (by kernel_rfl) (by kernel_rfl) (no_loops (by kernel_rfl)) (by kernel_rfl) (by kernel_rfl) (by kernel_rfl)
    rw_u64_b np_u64_b no_u64_b (by kernel_rfl) (Eq.mpr (show Vm.Tr.vc (Vm.Fn c70 Tryz.f13 body13 noLoop ([.agg [.int .i64 v.I.Lo, .int .i64 v.I.Hi, .int .u64 v.C.M, .int .u64 v.C.R]])) = S.value_Value_Card_pre v by kernel_rfl) hp))

noncomputable def sem13 : List W → Option (W × List (List W) × List Prop)
  | [.agg [.int .i64 y1, .int .i64 y2, .int .u64 y3, .int .u64 y4]] => some (wr_u64_b (S.value_Value_Card (⟨(⟨y1, y2⟩ : S.Inter), (⟨y3, y4⟩ : S.Cong)⟩ : S.Value)), wo_u64_b (S.value_Value_Card (⟨(⟨y1, y2⟩ : S.Inter), (⟨y3, y4⟩ : S.Cong)⟩ : S.Value)), [S.value_Value_Card_pre (⟨(⟨y1, y2⟩ : S.Inter), (⟨y3, y4⟩ : S.Cong)⟩ : S.Value)])
  | _ => none
noncomputable def c13 : Cfg El := c70.add 13 sem13
theorem c13_ok : CfgOk c13 := c70_ok.add (fun args w => Tryz.call13 args w) (fun vs r outs ps h hp => by
  unfold sem13 at h
  split at h
  · rename_i y1 y2 y3 y4; cases h; exact fn13 (⟨(⟨y1, y2⟩ : S.Inter), (⟨y3, y4⟩ : S.Cong)⟩ : S.Value) hp
  · cases h)

noncomputable def body82 : Code := (Tryz.f82.body).getD .skip
theorem fn82 : CallOk c13 82 [] (wr_i64 (S.ref19_Least)) (wo_i64 (S.ref19_Least)) :=
  (call_ok (c := c13) (f := 82) (fn := Tryz.f82) (code := body82) (args := ([])) (loop := noLoop) (md := ⟨false, false⟩) (rd := rd_i64) (wr := wr_i64) (wo := wo_i64) (r := S.ref19_Least) c13_ok (by kernel_rfl) (by kernel_rfl) (by kernel_rfl) (no_loops (by kernel_rfl)) (by kernel_rfl) (by kernel_rfl) (by kernel_rfl)
    rw_i64 np_i64 no_i64 (by kernel_rfl) (Tr.vc_of_noReq (by kernel_rfl)))

noncomputable def sem82 : List W → Option (W × List (List W) × List Prop)
  | [] => some (wr_i64 (S.ref19_Least), wo_i64 (S.ref19_Least), [])
  | _ => none
noncomputable def c82 : Cfg El := c13.add 82 sem82
theorem c82_ok : CfgOk c82 := c13_ok.add (fun args w => Tryz.call82 args w) (fun vs r outs ps h hp => by
  unfold sem82 at h
  split at h
  · cases h; exact fn82
  · cases h)

noncomputable def body83 : Code := (Tryz.f83.body).getD .skip
theorem fn83 : CallOk c82 83 [] (wr_i64 (S.ref19_Most)) (wo_i64 (S.ref19_Most)) :=
  (call_ok (c := c82) (f := 83) (fn := Tryz.f83) (code := body83) (args := ([])) (loop := noLoop) (md := ⟨false, false⟩) (rd := rd_i64) (wr := wr_i64) (wo := wo_i64) (r := S.ref19_Most) c82_ok (by kernel_rfl) (by kernel_rfl) (by kernel_rfl) (no_loops (by kernel_rfl)) (by kernel_rfl) (by kernel_rfl) (by kernel_rfl)
    rw_i64 np_i64 no_i64 (by kernel_rfl) (Tr.vc_of_noReq (by kernel_rfl)))

noncomputable def sem83 : List W → Option (W × List (List W) × List Prop)
  | [] => some (wr_i64 (S.ref19_Most), wo_i64 (S.ref19_Most), [])
  | _ => none
noncomputable def c83 : Cfg El := c82.add 83 sem83
theorem c83_ok : CfgOk c83 := c82_ok.add (fun args w => Tryz.call83 args w) (fun vs r outs ps h hp => by
  unfold sem83 at h
  split at h
  · cases h; exact fn83
  · cases h)

noncomputable def body28 : Code := (Tryz.f28.body).getD .skip
theorem fn28 : CallOk c83 28 [] (wr_S31 (S.ref21_Top)) (wo_S31 (S.ref21_Top)) :=
  (call_ok (c := c83) (f := 28) (fn := Tryz.f28) (code := body28) (args := ([])) (loop := noLoop) (md := ⟨false, false⟩) (rd := rd_S31) (wr := wr_S31) (wo := wo_S31) (r := S.ref21_Top) c83_ok (by kernel_rfl) (by kernel_rfl) (by kernel_rfl) (no_loops (by kernel_rfl)) (by kernel_rfl) (by kernel_rfl) (by kernel_rfl)
    rw_S31 np_S31 no_S31 (by kernel_rfl) (Tr.vc_of_noReq (by kernel_rfl)))

noncomputable def sem28 : List W → Option (W × List (List W) × List Prop)
  | [] => some (wr_S31 (S.ref21_Top), wo_S31 (S.ref21_Top), [])
  | _ => none
noncomputable def c28 : Cfg El := c83.add 28 sem28
theorem c28_ok : CfgOk c28 := c83_ok.add (fun args w => Tryz.call28 args w) (fun vs r outs ps h hp => by
  unfold sem28 at h
  split at h
  · cases h; exact fn28
  · cases h)

noncomputable def body14 : Code := (Tryz.f14.body).getD .skip
theorem fn14 (v : S.Value) (hp : S.ref21_Card_pre v) : CallOk c28 14 [.agg [.int .i64 v.I.Lo, .int .i64 v.I.Hi, .int .u64 v.C.M, .int .u64 v.C.R]] (wr_u64_b (S.ref21_Card v)) (wo_u64_b (S.ref21_Card v)) :=
  (call_ok (c := c28) (f := 14) (fn := Tryz.f14) (code := body14) (args := ([.agg [.int .i64 v.I.Lo, .int .i64 v.I.Hi, .int .u64 v.C.M, .int .u64 v.C.R]])) (loop := noLoop) (md := ⟨false, false⟩) (rd := rd_u64_b) (wr := wr_u64_b) (wo := wo_u64_b) (r := (S.ref21_Card v)) c28_ok (by kernel_rfl) (by kernel_rfl) (by kernel_rfl) (no_loops (by kernel_rfl)) (by kernel_rfl) (by kernel_rfl) (by kernel_rfl)
    rw_u64_b np_u64_b no_u64_b (by kernel_rfl) (Eq.mpr (show Vm.Tr.vc (Vm.Fn c28 Tryz.f14 body14 noLoop ([.agg [.int .i64 v.I.Lo, .int .i64 v.I.Hi, .int .u64 v.C.M, .int .u64 v.C.R]])) = S.ref21_Card_pre v by kernel_rfl) hp))

noncomputable def sem14 : List W → Option (W × List (List W) × List Prop)
  | [.agg [.int .i64 y1, .int .i64 y2, .int .u64 y3, .int .u64 y4]] => some (wr_u64_b (S.ref21_Card (⟨(⟨y1, y2⟩ : S.Inter), (⟨y3, y4⟩ : S.Cong)⟩ : S.Value)), wo_u64_b (S.ref21_Card (⟨(⟨y1, y2⟩ : S.Inter), (⟨y3, y4⟩ : S.Cong)⟩ : S.Value)), [S.ref21_Card_pre (⟨(⟨y1, y2⟩ : S.Inter), (⟨y3, y4⟩ : S.Cong)⟩ : S.Value)])
  | _ => none
noncomputable def c14 : Cfg El := c28.add 14 sem14
theorem c14_ok : CfgOk c14 := c28_ok.add (fun args w => Tryz.call14 args w) (fun vs r outs ps h hp => by
  unfold sem14 at h
  split at h
  · rename_i y1 y2 y3 y4; cases h; exact fn14 (⟨(⟨y1, y2⟩ : S.Inter), (⟨y3, y4⟩ : S.Cong)⟩ : S.Value) hp
  · cases h)

noncomputable def body71 : Code := (Tryz.f71.body).getD .skip
theorem fn71 (i : S.Inter) : CallOk c14 71 [.agg [.int .i64 i.Lo, .int .i64 i.Hi]] (wr_i64_b (S.inter_Inter_Single i)) (wo_i64_b (S.inter_Inter_Single i)) :=
  (call_ok (c := c14) (f := 71) (fn := Tryz.f71) (code := body71) (args := ([.agg [.int .i64 i.Lo, .int .i64 i.Hi]])) (loop := noLoop) (md := ⟨false, false⟩) (rd := rd_i64_b) (wr := wr_i64_b) (wo := wo_i64_b) (r := (S.inter_Inter_Single i)) c14_ok (by kernel_rfl) (by kernel_rfl) (by kernel_rfl) (no_loops (by kernel_rfl)) (by kernel_rfl) (by kernel_rfl) (by kernel_rfl)
    rw_i64_b np_i64_b no_i64_b (by kernel_rfl) (Tr.vc_of_noReq (by kernel_rfl)))

noncomputable def sem71 : List W → Option (W × List (List W) × List Prop)
  | [.agg [.int .i64 y1, .int .i64 y2]] => some (wr_i64_b (S.inter_Inter_Single (⟨y1, y2⟩ : S.Inter)), wo_i64_b (S.inter_Inter_Single (⟨y1, y2⟩ : S.Inter)), [])
  | _ => none
noncomputable def c71 : Cfg El := c14.add 71 sem71
theorem c71_ok : CfgOk c71 := c14_ok.add (fun args w => Tryz.call71 args w) (fun vs r outs ps h hp => by
  unfold sem71 at h
  split at h
  · rename_i y1 y2; cases h; exact fn71 (⟨y1, y2⟩ : S.Inter)
  · cases h)

noncomputable def body15 : Code := (Tryz.f15.body).getD .skip
theorem fn15 (v : S.Value) (hp : S.value_Value_Single_pre v) : CallOk c71 15 [.agg [.int .i64 v.I.Lo, .int .i64 v.I.Hi, .int .u64 v.C.M, .int .u64 v.C.R]] (wr_i64_b (S.value_Value_Single v)) (wo_i64_b (S.value_Value_Single v)) :=
  (call_ok (c := c71) (f := 15) (fn := Tryz.f15) (code := body15) (args := ([.agg [.int .i64 v.I.Lo, .int .i64 v.I.Hi, .int .u64 v.C.M, .int .u64 v.C.R]])) (loop := noLoop) (md := ⟨false, false⟩) (rd := rd_i64_b) (wr := wr_i64_b) (wo := wo_i64_b) (r := (S.value_Value_Single v)) c71_ok (by kernel_rfl) (by kernel_rfl) (by kernel_rfl) (no_loops (by kernel_rfl)) (by kernel_rfl) (by kernel_rfl) (by kernel_rfl)
    rw_i64_b np_i64_b no_i64_b (by kernel_rfl) (Eq.mpr (show Vm.Tr.vc (Vm.Fn c71 Tryz.f15 body15 noLoop ([.agg [.int .i64 v.I.Lo, .int .i64 v.I.Hi, .int .u64 v.C.M, .int .u64 v.C.R]])) = S.value_Value_Single_pre v by kernel_rfl) hp))

noncomputable def sem15 : List W → Option (W × List (List W) × List Prop)
  | [.agg [.int .i64 y1, .int .i64 y2, .int .u64 y3, .int .u64 y4]] => some (wr_i64_b (S.value_Value_Single (⟨(⟨y1, y2⟩ : S.Inter), (⟨y3, y4⟩ : S.Cong)⟩ : S.Value)), wo_i64_b (S.value_Value_Single (⟨(⟨y1, y2⟩ : S.Inter), (⟨y3, y4⟩ : S.Cong)⟩ : S.Value)), [S.value_Value_Single_pre (⟨(⟨y1, y2⟩ : S.Inter), (⟨y3, y4⟩ : S.Cong)⟩ : S.Value)])
  | _ => none
noncomputable def c15 : Cfg El := c71.add 15 sem15
theorem c15_ok : CfgOk c15 := c71_ok.add (fun args w => Tryz.call15 args w) (fun vs r outs ps h hp => by
  unfold sem15 at h
  split at h
  · rename_i y1 y2 y3 y4; cases h; exact fn15 (⟨(⟨y1, y2⟩ : S.Inter), (⟨y3, y4⟩ : S.Cong)⟩ : S.Value) hp
  · cases h)

noncomputable def rd_L2_o_f : W → List (List W) → Option ((List Int))
  | .olist 2 true x2, [] => some x2
  | _, _ => none
noncomputable def wr_L2_o_f (x : (List Int)) : W := .olist 2 true x
noncomputable def wo_L2_o_f (_x : (List Int)) : List (List W) := []
theorem rw_L2_o_f (v : W) (os : List (List W)) (x : (List Int)) (h : rd_L2_o_f v os = some x) : v = wr_L2_o_f x ∧ os = wo_L2_o_f x := by
  unfold rd_L2_o_f at h
  split at h <;> first | (cases h; exact ⟨rfl, rfl⟩) | cases h
theorem np_L2_o_f (x : (List Int)) : okv (fun _ => false) (wr_L2_o_f x) = true := rfl
theorem no_L2_o_f (x : (List Int)) : all (fun cs => all (ok0 fun _ => false) cs) (wo_L2_o_f x) = true := rfl

theorem fn16 (v : S.Value) (most : Int) (hp : S.value_Value_Some_pre v most) : CallOk c15 16 [.agg [.int .i64 v.I.Lo, .int .i64 v.I.Hi, .int .u64 v.C.M, .int .u64 v.C.R], .int .i64 most] (wr_L2_o_f (S.value_Value_Some v most)) (wo_L2_o_f (S.value_Value_Some v most)) :=
  some_calls (c := c15) c15_ok rfl rfl rfl (fun v hp => CallOk.same (c := c11) (c' := c15) rfl rfl rfl rfl (fn69 v hp)) (fun v hp => CallOk.same (c := c69) (c' := c15) rfl rfl rfl rfl (fn17 v hp)) v most hp

noncomputable def sem16 : List W → Option (W × List (List W) × List Prop)
  | [.agg [.int .i64 y1, .int .i64 y2, .int .u64 y3, .int .u64 y4], .int .i64 y5] => some (wr_L2_o_f (S.value_Value_Some (⟨(⟨y1, y2⟩ : S.Inter), (⟨y3, y4⟩ : S.Cong)⟩ : S.Value) y5), wo_L2_o_f (S.value_Value_Some (⟨(⟨y1, y2⟩ : S.Inter), (⟨y3, y4⟩ : S.Cong)⟩ : S.Value) y5), [S.value_Value_Some_pre (⟨(⟨y1, y2⟩ : S.Inter), (⟨y3, y4⟩ : S.Cong)⟩ : S.Value) y5])
  | _ => none
noncomputable def c16 : Cfg El := c15.add 16 sem16
theorem c16_ok : CfgOk c16 := c15_ok.add (fun args w => Tryz.call16 args w) (fun vs r outs ps h hp => by
  unfold sem16 at h
  split at h
  · rename_i y1 y2 y3 y4 y5; cases h; exact fn16 (⟨(⟨y1, y2⟩ : S.Inter), (⟨y3, y4⟩ : S.Cong)⟩ : S.Value) y5 hp
  · cases h)

noncomputable def body147 : Code := (Tryz.f147.body).getD .skip
theorem fn147 (i : S.Inter) (n : Int) : CallOk c16 147 [.agg [.int .i64 i.Lo, .int .i64 i.Hi], .int .i64 n] (wr_b (S.inter_Inter_Has i n)) (wo_b (S.inter_Inter_Has i n)) :=
  (call_ok (c := c16) (f := 147) (fn := Tryz.f147) (code := body147) (args := ([.agg [.int .i64 i.Lo, .int .i64 i.Hi], .int .i64 n])) (loop := noLoop) (md := ⟨false, false⟩) (rd := rd_b) (wr := wr_b) (wo := wo_b) (r := (S.inter_Inter_Has i n)) c16_ok (by kernel_rfl) (by kernel_rfl) (by kernel_rfl) (no_loops (by kernel_rfl)) (by kernel_rfl) (by kernel_rfl) (by kernel_rfl)
    rw_b np_b no_b (by kernel_rfl) (Tr.vc_of_noReq (by kernel_rfl)))

noncomputable def sem147 : List W → Option (W × List (List W) × List Prop)
  | [.agg [.int .i64 y1, .int .i64 y2], .int .i64 y3] => some (wr_b (S.inter_Inter_Has (⟨y1, y2⟩ : S.Inter) y3), wo_b (S.inter_Inter_Has (⟨y1, y2⟩ : S.Inter) y3), [])
  | _ => none
noncomputable def c147 : Cfg El := c16.add 147 sem147
theorem c147_ok : CfgOk c147 := c16_ok.add (fun args w => Tryz.call147 args w) (fun vs r outs ps h hp => by
  unfold sem147 at h
  split at h
  · rename_i y1 y2 y3; cases h; exact fn147 (⟨y1, y2⟩ : S.Inter) y3
  · cases h)

noncomputable def body101 : Code := (Tryz.f101.body).getD .skip
theorem fn101 (a : S.Inter) (b : S.Inter) : CallOk c147 101 [.agg [.int .i64 a.Lo, .int .i64 a.Hi], .agg [.int .i64 b.Lo, .int .i64 b.Hi]] (wr_b (S.inter_Within a b)) (wo_b (S.inter_Within a b)) :=
  (call_ok (c := c147) (f := 101) (fn := Tryz.f101) (code := body101) (args := ([.agg [.int .i64 a.Lo, .int .i64 a.Hi], .agg [.int .i64 b.Lo, .int .i64 b.Hi]])) (loop := noLoop) (md := ⟨false, false⟩) (rd := rd_b) (wr := wr_b) (wo := wo_b) (r := (S.inter_Within a b)) c147_ok (by kernel_rfl) (by kernel_rfl) (by kernel_rfl) (no_loops (by kernel_rfl)) (by kernel_rfl) (by kernel_rfl) (by kernel_rfl)
    rw_b np_b no_b (by kernel_rfl) (Tr.vc_of_noReq (by kernel_rfl)))

noncomputable def sem101 : List W → Option (W × List (List W) × List Prop)
  | [.agg [.int .i64 y1, .int .i64 y2], .agg [.int .i64 y3, .int .i64 y4]] => some (wr_b (S.inter_Within (⟨y1, y2⟩ : S.Inter) (⟨y3, y4⟩ : S.Inter)), wo_b (S.inter_Within (⟨y1, y2⟩ : S.Inter) (⟨y3, y4⟩ : S.Inter)), [])
  | _ => none
noncomputable def c101 : Cfg El := c147.add 101 sem101
theorem c101_ok : CfgOk c101 := c147_ok.add (fun args w => Tryz.call101 args w) (fun vs r outs ps h hp => by
  unfold sem101 at h
  split at h
  · rename_i y1 y2 y3 y4; cases h; exact fn101 (⟨y1, y2⟩ : S.Inter) (⟨y3, y4⟩ : S.Inter)
  · cases h)

noncomputable def body142 : Code := (Tryz.f142.body).getD .skip
theorem fn142 (c : S.Cong) (g : Int) (hp : S.cong_Cong_by_pre c g) : CallOk c101 142 [.agg [.int .u64 c.M, .int .u64 c.R], .int .u64 g] (wr_u64 (S.cong_Cong_by c g)) (wo_u64 (S.cong_Cong_by c g)) :=
  (call_ok (c := c101) (f := 142) (fn := Tryz.f142) (code := body142) (args := ([.agg [.int .u64 c.M, .int .u64 c.R], .int .u64 g])) (loop := noLoop) (md := ⟨false, false⟩) (rd := rd_u64) (wr := wr_u64) (wo := wo_u64) (r := (S.cong_Cong_by c g)) c101_ok (by kernel_rfl) (by kernel_rfl) (by kernel_rfl) (no_loops (by kernel_rfl)) (by kernel_rfl) (by kernel_rfl) (by kernel_rfl)
    rw_u64 np_u64 no_u64 (by kernel_rfl) (Eq.mpr (show Vm.Tr.vc (Vm.Fn c101 Tryz.f142 body142 noLoop ([.agg [.int .u64 c.M, .int .u64 c.R], .int .u64 g])) = S.cong_Cong_by_pre c g by kernel_rfl) hp))

noncomputable def sem142 : List W → Option (W × List (List W) × List Prop)
  | [.agg [.int .u64 y1, .int .u64 y2], .int .u64 y3] => some (wr_u64 (S.cong_Cong_by (⟨y1, y2⟩ : S.Cong) y3), wo_u64 (S.cong_Cong_by (⟨y1, y2⟩ : S.Cong) y3), [S.cong_Cong_by_pre (⟨y1, y2⟩ : S.Cong) y3])
  | _ => none
noncomputable def c142 : Cfg El := c101.add 142 sem142
theorem c142_ok : CfgOk c142 := c101_ok.add (fun args w => Tryz.call142 args w) (fun vs r outs ps h hp => by
  unfold sem142 at h
  split at h
  · rename_i y1 y2 y3; cases h; exact fn142 (⟨y1, y2⟩ : S.Cong) y3 hp
  · cases h)

noncomputable def body102 : Code := (Tryz.f102.body).getD .skip
theorem fn102 (a : S.Cong) (b : S.Cong) (hp : S.cong_Within_pre a b) : CallOk c142 102 [.agg [.int .u64 a.M, .int .u64 a.R], .agg [.int .u64 b.M, .int .u64 b.R]] (wr_b (S.cong_Within a b)) (wo_b (S.cong_Within a b)) :=
  (call_ok (c := c142) (f := 102) (fn := Tryz.f102) (code := body102) (args := ([.agg [.int .u64 a.M, .int .u64 a.R], .agg [.int .u64 b.M, .int .u64 b.R]])) (loop := noLoop) (md := ⟨false, false⟩) (rd := rd_b) (wr := wr_b) (wo := wo_b) (r := (S.cong_Within a b)) c142_ok (by kernel_rfl) (by kernel_rfl) (by kernel_rfl) (no_loops (by kernel_rfl)) (by kernel_rfl) (by kernel_rfl) (by kernel_rfl)
    rw_b np_b no_b (by kernel_rfl) (Eq.mpr (show Vm.Tr.vc (Vm.Fn c142 Tryz.f102 body102 noLoop ([.agg [.int .u64 a.M, .int .u64 a.R], .agg [.int .u64 b.M, .int .u64 b.R]])) = S.cong_Within_pre a b by kernel_rfl) hp))

noncomputable def sem102 : List W → Option (W × List (List W) × List Prop)
  | [.agg [.int .u64 y1, .int .u64 y2], .agg [.int .u64 y3, .int .u64 y4]] => some (wr_b (S.cong_Within (⟨y1, y2⟩ : S.Cong) (⟨y3, y4⟩ : S.Cong)), wo_b (S.cong_Within (⟨y1, y2⟩ : S.Cong) (⟨y3, y4⟩ : S.Cong)), [S.cong_Within_pre (⟨y1, y2⟩ : S.Cong) (⟨y3, y4⟩ : S.Cong)])
  | _ => none
noncomputable def c102 : Cfg El := c142.add 102 sem102
theorem c102_ok : CfgOk c102 := c142_ok.add (fun args w => Tryz.call102 args w) (fun vs r outs ps h hp => by
  unfold sem102 at h
  split at h
  · rename_i y1 y2 y3 y4; cases h; exact fn102 (⟨y1, y2⟩ : S.Cong) (⟨y3, y4⟩ : S.Cong) hp
  · cases h)

noncomputable def body42 : Code := (Tryz.f42.body).getD .skip
theorem fn42 (a : S.Value) (b : S.Value) (hp : S.value_Within_pre a b) : CallOk c102 42 [.agg [.int .i64 a.I.Lo, .int .i64 a.I.Hi, .int .u64 a.C.M, .int .u64 a.C.R], .agg [.int .i64 b.I.Lo, .int .i64 b.I.Hi, .int .u64 b.C.M, .int .u64 b.C.R]] (wr_b (S.value_Within a b)) (wo_b (S.value_Within a b)) :=
  (call_ok (c := c102) (f := 42) (fn := Tryz.f42) (code := body42) (args := ([.agg [.int .i64 a.I.Lo, .int .i64 a.I.Hi, .int .u64 a.C.M, .int .u64 a.C.R], .agg [.int .i64 b.I.Lo, .int .i64 b.I.Hi, .int .u64 b.C.M, .int .u64 b.C.R]])) (loop := noLoop) (md := ⟨false, false⟩) (rd := rd_b) (wr := wr_b) (wo := wo_b) (r := (S.value_Within a b)) c102_ok (by kernel_rfl) (by kernel_rfl) (by kernel_rfl) (no_loops (by kernel_rfl)) (by kernel_rfl) (by kernel_rfl) (by kernel_rfl)
    rw_b np_b no_b (by kernel_rfl) (Eq.mpr (show Vm.Tr.vc (Vm.Fn c102 Tryz.f42 body42 noLoop ([.agg [.int .i64 a.I.Lo, .int .i64 a.I.Hi, .int .u64 a.C.M, .int .u64 a.C.R], .agg [.int .i64 b.I.Lo, .int .i64 b.I.Hi, .int .u64 b.C.M, .int .u64 b.C.R]])) = S.value_Within_pre a b by kernel_rfl) hp))

noncomputable def sem42 : List W → Option (W × List (List W) × List Prop)
  | [.agg [.int .i64 y1, .int .i64 y2, .int .u64 y3, .int .u64 y4], .agg [.int .i64 y5, .int .i64 y6, .int .u64 y7, .int .u64 y8]] => some (wr_b (S.value_Within (⟨(⟨y1, y2⟩ : S.Inter), (⟨y3, y4⟩ : S.Cong)⟩ : S.Value) (⟨(⟨y5, y6⟩ : S.Inter), (⟨y7, y8⟩ : S.Cong)⟩ : S.Value)), wo_b (S.value_Within (⟨(⟨y1, y2⟩ : S.Inter), (⟨y3, y4⟩ : S.Cong)⟩ : S.Value) (⟨(⟨y5, y6⟩ : S.Inter), (⟨y7, y8⟩ : S.Cong)⟩ : S.Value)), [S.value_Within_pre (⟨(⟨y1, y2⟩ : S.Inter), (⟨y3, y4⟩ : S.Cong)⟩ : S.Value) (⟨(⟨y5, y6⟩ : S.Inter), (⟨y7, y8⟩ : S.Cong)⟩ : S.Value)])
  | _ => none
noncomputable def c42 : Cfg El := c102.add 42 sem42
theorem c42_ok : CfgOk c42 := c102_ok.add (fun args w => Tryz.call42 args w) (fun vs r outs ps h hp => by
  unfold sem42 at h
  split at h
  · rename_i y1 y2 y3 y4 y5 y6 y7 y8; cases h; exact fn42 (⟨(⟨y1, y2⟩ : S.Inter), (⟨y3, y4⟩ : S.Cong)⟩ : S.Value) (⟨(⟨y5, y6⟩ : S.Inter), (⟨y7, y8⟩ : S.Cong)⟩ : S.Value) hp
  · cases h)

noncomputable def body19 : Code := (Tryz.f19.body).getD .skip
theorem fn19 (v : S.Value) (n : Int) (hp : S.value_Value_Has_pre v n) : CallOk c42 19 [.agg [.int .i64 v.I.Lo, .int .i64 v.I.Hi, .int .u64 v.C.M, .int .u64 v.C.R], .int .i64 n] (wr_b (S.value_Value_Has v n)) (wo_b (S.value_Value_Has v n)) :=
  (call_ok (c := c42) (f := 19) (fn := Tryz.f19) (code := body19) (args := ([.agg [.int .i64 v.I.Lo, .int .i64 v.I.Hi, .int .u64 v.C.M, .int .u64 v.C.R], .int .i64 n])) (loop := noLoop) (md := ⟨false, false⟩) (rd := rd_b) (wr := wr_b) (wo := wo_b) (r := (S.value_Value_Has v n)) c42_ok (by kernel_rfl) (by kernel_rfl) (by kernel_rfl) (no_loops (by kernel_rfl)) (by kernel_rfl) (by kernel_rfl) (by kernel_rfl)
    rw_b np_b no_b (by kernel_rfl) (Eq.mpr (show Vm.Tr.vc (Vm.Fn c42 Tryz.f19 body19 noLoop ([.agg [.int .i64 v.I.Lo, .int .i64 v.I.Hi, .int .u64 v.C.M, .int .u64 v.C.R], .int .i64 n])) = S.value_Value_Has_pre v n by kernel_rfl) hp))

noncomputable def sem19 : List W → Option (W × List (List W) × List Prop)
  | [.agg [.int .i64 y1, .int .i64 y2, .int .u64 y3, .int .u64 y4], .int .i64 y5] => some (wr_b (S.value_Value_Has (⟨(⟨y1, y2⟩ : S.Inter), (⟨y3, y4⟩ : S.Cong)⟩ : S.Value) y5), wo_b (S.value_Value_Has (⟨(⟨y1, y2⟩ : S.Inter), (⟨y3, y4⟩ : S.Cong)⟩ : S.Value) y5), [S.value_Value_Has_pre (⟨(⟨y1, y2⟩ : S.Inter), (⟨y3, y4⟩ : S.Cong)⟩ : S.Value) y5])
  | _ => none
noncomputable def c19 : Cfg El := c42.add 19 sem19
theorem c19_ok : CfgOk c19 := c42_ok.add (fun args w => Tryz.call19 args w) (fun vs r outs ps h hp => by
  unfold sem19 at h
  split at h
  · rename_i y1 y2 y3 y4 y5; cases h; exact fn19 (⟨(⟨y1, y2⟩ : S.Inter), (⟨y3, y4⟩ : S.Cong)⟩ : S.Value) y5 hp
  · cases h)

noncomputable def body74 : Code := (Tryz.f74.body).getD .skip
theorem fn74 (c : S.Cong) (n : Int) (hp : S.ref20_Has_pre c n) : CallOk c19 74 [.agg [.int .u64 c.M, .int .u64 c.R], .int .i64 n] (wr_b (S.ref20_Has c n)) (wo_b (S.ref20_Has c n)) :=
  (call_ok (c := c19) (f := 74) (fn := Tryz.f74) (code := body74) (args := ([.agg [.int .u64 c.M, .int .u64 c.R], .int .i64 n])) (loop := noLoop) (md := ⟨false, false⟩) (rd := rd_b) (wr := wr_b) (wo := wo_b) (r := (S.ref20_Has c n)) c19_ok (by kernel_rfl) (by kernel_rfl) (by kernel_rfl) (no_loops (by kernel_rfl)) (by kernel_rfl) (by kernel_rfl) (by kernel_rfl)
    rw_b np_b no_b (by kernel_rfl) (Eq.mpr (show Vm.Tr.vc (Vm.Fn c19 Tryz.f74 body74 noLoop ([.agg [.int .u64 c.M, .int .u64 c.R], .int .i64 n])) = S.ref20_Has_pre c n by kernel_rfl) hp))

noncomputable def sem74 : List W → Option (W × List (List W) × List Prop)
  | [.agg [.int .u64 y1, .int .u64 y2], .int .i64 y3] => some (wr_b (S.ref20_Has (⟨y1, y2⟩ : S.Cong) y3), wo_b (S.ref20_Has (⟨y1, y2⟩ : S.Cong) y3), [S.ref20_Has_pre (⟨y1, y2⟩ : S.Cong) y3])
  | _ => none
noncomputable def c74 : Cfg El := c19.add 74 sem74
theorem c74_ok : CfgOk c74 := c19_ok.add (fun args w => Tryz.call74 args w) (fun vs r outs ps h hp => by
  unfold sem74 at h
  split at h
  · rename_i y1 y2 y3; cases h; exact fn74 (⟨y1, y2⟩ : S.Cong) y3 hp
  · cases h)

noncomputable def body20 : Code := (Tryz.f20.body).getD .skip
theorem fn20 (v : S.Value) (n : Int) (hp : S.ref21_Has_pre v n) : CallOk c74 20 [.agg [.int .i64 v.I.Lo, .int .i64 v.I.Hi, .int .u64 v.C.M, .int .u64 v.C.R], .int .i64 n] (wr_b (S.ref21_Has v n)) (wo_b (S.ref21_Has v n)) :=
  (call_ok (c := c74) (f := 20) (fn := Tryz.f20) (code := body20) (args := ([.agg [.int .i64 v.I.Lo, .int .i64 v.I.Hi, .int .u64 v.C.M, .int .u64 v.C.R], .int .i64 n])) (loop := noLoop) (md := ⟨false, false⟩) (rd := rd_b) (wr := wr_b) (wo := wo_b) (r := (S.ref21_Has v n)) c74_ok (by kernel_rfl) (by kernel_rfl) (by kernel_rfl) (no_loops (by kernel_rfl)) (by kernel_rfl) (by kernel_rfl) (by kernel_rfl)
    rw_b np_b no_b (by kernel_rfl) (Eq.mpr (show Vm.Tr.vc (Vm.Fn c74 Tryz.f20 body20 noLoop ([.agg [.int .i64 v.I.Lo, .int .i64 v.I.Hi, .int .u64 v.C.M, .int .u64 v.C.R], .int .i64 n])) = S.ref21_Has_pre v n by kernel_rfl) hp))

noncomputable def sem20 : List W → Option (W × List (List W) × List Prop)
  | [.agg [.int .i64 y1, .int .i64 y2, .int .u64 y3, .int .u64 y4], .int .i64 y5] => some (wr_b (S.ref21_Has (⟨(⟨y1, y2⟩ : S.Inter), (⟨y3, y4⟩ : S.Cong)⟩ : S.Value) y5), wo_b (S.ref21_Has (⟨(⟨y1, y2⟩ : S.Inter), (⟨y3, y4⟩ : S.Cong)⟩ : S.Value) y5), [S.ref21_Has_pre (⟨(⟨y1, y2⟩ : S.Inter), (⟨y3, y4⟩ : S.Cong)⟩ : S.Value) y5])
  | _ => none
noncomputable def c20 : Cfg El := c74.add 20 sem20
theorem c20_ok : CfgOk c20 := c74_ok.add (fun args w => Tryz.call20 args w) (fun vs r outs ps h hp => by
  unfold sem20 at h
  split at h
  · rename_i y1 y2 y3 y4 y5; cases h; exact fn20 (⟨(⟨y1, y2⟩ : S.Inter), (⟨y3, y4⟩ : S.Cong)⟩ : S.Value) y5 hp
  · cases h)

noncomputable def body22 : Code := (Tryz.f22.body).getD .skip
noncomputable def lb22_0 : Code := ((nth (loopsOf 0 body22) 0).getD (0, .skip)).2
noncomputable def px22_0 : List W → Option S.ref21_Some_L0
  | [.int .i64 y1, .ptr 2 0, .own 40, .int .i64 y2, .rowc 2 false none y3, .int .i64 y4, .int .i64 y5, .int .u64 y6, .int .u64 y7] => some ⟨y1, y2, y3, ⟨⟨y4, y5⟩, ⟨y6, y7⟩⟩⟩
  | _ => none
noncomputable def tx22_0 (x : S.ref21_Some_L0) : List W := [.int .i64 x.most, .ptr 2 0, .own 40, .int .i64 x.n, .rowc 2 false none x.out, .int .i64 x.v.I.Lo, .int .i64 x.v.I.Hi, .int .u64 x.v.C.M, .int .u64 x.v.C.R]
noncomputable def py22_0 : Ex → List W → Option (Bool × S.ref21_Some_L0)
  | .ret, [.int .i64 y1, .ptr 2 0, .own 40, .int .i64 y2, .rowc 2 false none y3, .int .i64 y4, .int .i64 y5, .int .u64 y6, .int .u64 y7, .own 40] => some ⟨true, ⟨y1, y2, y3, ⟨⟨y4, y5⟩, ⟨y6, y7⟩⟩⟩⟩
  | .exit 0, [.int .i64 y1, .ptr 2 0, .own 40, .int .i64 y2, .rowc 2 false none y3, .int .i64 y4, .int .i64 y5, .int .u64 y6, .int .u64 y7, .junk] => some ⟨false, ⟨y1, y2, y3, ⟨⟨y4, y5⟩, ⟨y6, y7⟩⟩⟩⟩
  | _, _ => none
noncomputable def ld22_0 : LD El where
  X := S.ref21_Some_L0
  Y := Bool × S.ref21_Some_L0
  keys := [.slot 1, .slot 2, .slot 5, .slot 6, .row 40, .cell 2 0, .cell 2 1, .cell 2 2, .cell 2 3]
  fits := [3, 0, 40, 2, 0, 2, 2, 24, 24]
  px := px22_0
  tx := tx22_0
  okeys := [.slot 1, .slot 2, .slot 5, .slot 6, .row 40, .cell 2 0, .cell 2 1, .cell 2 2, .cell 2 3, .slot 4]
  ofits := [3, 0, 40, 2, 0, 2, 2, 24, 24, 40]
  py := py22_0
  ty := fun y => bif y.1 then tx22_0 y.2 ++ [.own 40] else tx22_0 y.2 ++ [.junk]
  oex := fun y => bif y.1 then .ret else .exit 0
  junk := [.slot 4, .slot 13, .slot 14, .slot 15, .slot 16, .slot 17, .slot 18, .slot 19, .slot 20, .slot 21, .slot 22, .slot 23, .slot 24, .slot 25, .slot 26, .slot 27, .slot 28, .slot 29, .slot 30, .slot 31, .slot 32, .slot 33]
  rows := [(5, 2)]
noncomputable def lo22_0 : (Bool × S.ref21_Some_L0) → Tr El := fun y => .node y.1 (.leaf (.ret) (zipK ld22_0.okeys (tx22_0 y.2 ++ [.own 40]) ++ junkK ld22_0.junk)) (.leaf (.exit 0) (zipK ld22_0.okeys (tx22_0 y.2 ++ [.junk]) ++ junkK ld22_0.junk))
noncomputable def loop22 : Nat → Env El → Tr El
  | 0 => ld22_0.tree c20 Tryz.f22.ntmps 0 lb22_0 S.ref21_Some_L0_run lo22_0 S.ref21_Some_L0_step S.ref21_Some_L0_vcs
  | _ => fun _ => .fail
theorem lok22_0 : ∀ w0 S0, LoopOk c20 Tryz.f22.ntmps w0 S0 loop22 0 lb22_0 :=
  loop_ok (c := c20) (n := Tryz.f22.ntmps) c20_ok mixed ld22_0 (body := lb22_0) (key := 0) (loop := loop22) (F := S.ref21_Some_L0_run) (out := lo22_0) (step := S.ref21_Some_L0_step) (vcs := S.ref21_Some_L0_vcs)
    (fun _ => by kernel_rfl) (no_loops (by kernel_rfl)) rfl rfl
    (fun vs x h => by unfold ld22_0 px22_0 at h; dsimp only at h; split at h <;> first | (cases h; rfl) | cases h)
    (fun e vs y h => by unfold ld22_0 py22_0 at h; dsimp only at h; split at h <;> first | (cases h; exact ⟨rfl, rfl⟩) | cases h)
    (by kernel_rfl) (fun | (true, _) => rfl | (false, _) => rfl) (fun | (true, _), _, h => h.1 rfl | (false, _), _, h => h.2 rfl) (fun x => by kernel_rfl) (fun x h => Eq.mpr (show Vm.Tr.vc (Vm.ev c20 Tryz.f22.ntmps loop22 0 lb22_0 (ld22_0.vars x) []) = S.ref21_Some_L0_vcs x by kernel_rfl) h)
theorem fn22 (v : S.Value) (most : Int) (hp : S.ref21_Some_pre v most) : CallOk c20 22 [.agg [.int .i64 v.I.Lo, .int .i64 v.I.Hi, .int .u64 v.C.M, .int .u64 v.C.R], .int .i64 most] (wr_L2_o_f (S.ref21_Some v most)) (wo_L2_o_f (S.ref21_Some v most)) :=
  (call_ok (c := c20) (f := 22) (fn := Tryz.f22) (code := body22) (args := ([.agg [.int .i64 v.I.Lo, .int .i64 v.I.Hi, .int .u64 v.C.M, .int .u64 v.C.R], .int .i64 most])) (loop := loop22) (md := ⟨true, true⟩) (rd := rd_L2_o_f) (wr := wr_L2_o_f) (wo := wo_L2_o_f) (r := (S.ref21_Some v most)) c20_ok (by kernel_rfl) (by kernel_rfl) (by kernel_rfl) (loops_all (l := [(0, lb22_0)]) (by kernel_rfl) ⟨lok22_0, trivial⟩) (by kernel_rfl) (by kernel_rfl) (by kernel_rfl)
    rw_L2_o_f np_L2_o_f no_L2_o_f (by kernel_rfl) (Eq.mpr (show Vm.Tr.vc (Vm.Fn c20 Tryz.f22 body22 loop22 ([.agg [.int .i64 v.I.Lo, .int .i64 v.I.Hi, .int .u64 v.C.M, .int .u64 v.C.R], .int .i64 most])) = S.ref21_Some_pre v most by kernel_rfl) hp))

noncomputable def sem22 : List W → Option (W × List (List W) × List Prop)
  | [.agg [.int .i64 y1, .int .i64 y2, .int .u64 y3, .int .u64 y4], .int .i64 y5] => some (wr_L2_o_f (S.ref21_Some (⟨(⟨y1, y2⟩ : S.Inter), (⟨y3, y4⟩ : S.Cong)⟩ : S.Value) y5), wo_L2_o_f (S.ref21_Some (⟨(⟨y1, y2⟩ : S.Inter), (⟨y3, y4⟩ : S.Cong)⟩ : S.Value) y5), [S.ref21_Some_pre (⟨(⟨y1, y2⟩ : S.Inter), (⟨y3, y4⟩ : S.Cong)⟩ : S.Value) y5])
  | _ => none
noncomputable def c22 : Cfg El := c20.add 22 sem22
theorem c22_ok : CfgOk c22 := c20_ok.add (fun args w => Tryz.call22 args w) (fun vs r outs ps h hp => by
  unfold sem22 at h
  split at h
  · rename_i y1 y2 y3 y4 y5; cases h; exact fn22 (⟨(⟨y1, y2⟩ : S.Inter), (⟨y3, y4⟩ : S.Cong)⟩ : S.Value) y5 hp
  · cases h)

noncomputable def body21 : Code := (Tryz.f21.body).getD .skip
noncomputable def lb21_0 : Code := ((nth (loopsOf 0 body21) 0).getD (0, .skip)).2
noncomputable def px21_0 : List W → Option S.law21_same_L0
  | [.list 2 false y1, .list 2 false y2, .bool y3, .int .i64 y4] => some ⟨y1, y2, y3, y4⟩
  | _ => none
noncomputable def tx21_0 (x : S.law21_same_L0) : List W := [.list 2 false x.a, .list 2 false x.b, .bool x.t4, .int .i64 x.i]
noncomputable def py21_0 : Ex → List W → Option (Bool × S.law21_same_L0)
  | .ret, [.list 2 false y1, .list 2 false y2, .bool y3, .int .i64 y4] => some ⟨true, ⟨y1, y2, y3, y4⟩⟩
  | .exit 0, [.list 2 false y1, .list 2 false y2, .bool y3, .int .i64 y4] => some ⟨false, ⟨y1, y2, y3, y4⟩⟩
  | _, _ => none
noncomputable def ld21_0 : LD El where
  X := S.law21_same_L0
  Y := Bool × S.law21_same_L0
  keys := [.slot 0, .slot 1, .slot 4, .slot 5]
  fits := [40, 40, 4, 3]
  px := px21_0
  tx := tx21_0
  okeys := [.slot 0, .slot 1, .slot 4, .slot 5]
  ofits := [40, 40, 4, 3]
  py := py21_0
  ty := fun y => bif y.1 then tx21_0 y.2 else tx21_0 y.2
  oex := fun y => bif y.1 then .ret else .exit 0
  junk := [.slot 11, .slot 12, .slot 13, .slot 14, .slot 15, .slot 16, .slot 17, .slot 18, .slot 19, .slot 20, .slot 21, .slot 22, .slot 23, .slot 24, .slot 25]
  rows := []
noncomputable def lo21_0 : (Bool × S.law21_same_L0) → Tr El := fun y => .node y.1 (.leaf (.ret) (zipK ld21_0.okeys (tx21_0 y.2) ++ junkK ld21_0.junk)) (.leaf (.exit 0) (zipK ld21_0.okeys (tx21_0 y.2) ++ junkK ld21_0.junk))
noncomputable def loop21 : Nat → Env El → Tr El
  | 0 => ld21_0.tree c22 Tryz.f21.ntmps 0 lb21_0 S.law21_same_L0_run lo21_0 S.law21_same_L0_step S.law21_same_L0_vcs
  | _ => fun _ => .fail
theorem lok21_0 : ∀ w0 S0, LoopOk c22 Tryz.f21.ntmps w0 S0 loop21 0 lb21_0 :=
  loop_ok (c := c22) (n := Tryz.f21.ntmps) c22_ok mixed ld21_0 (body := lb21_0) (key := 0) (loop := loop21) (F := S.law21_same_L0_run) (out := lo21_0) (step := S.law21_same_L0_step) (vcs := S.law21_same_L0_vcs)
    (fun _ => by kernel_rfl) (no_loops (by kernel_rfl)) rfl rfl
    (fun vs x h => by unfold ld21_0 px21_0 at h; dsimp only at h; split at h <;> first | (cases h; rfl) | cases h)
    (fun e vs y h => by unfold ld21_0 py21_0 at h; dsimp only at h; split at h <;> first | (cases h; exact ⟨rfl, rfl⟩) | cases h)
    (by kernel_rfl) (fun | (true, _) => rfl | (false, _) => rfl) (fun | (true, _), _, h => h.1 rfl | (false, _), _, h => h.2 rfl) (fun x => by kernel_rfl) (fun x h => Eq.mpr (show Vm.Tr.vc (Vm.ev c22 Tryz.f21.ntmps loop21 0 lb21_0 (ld21_0.vars x) []) = S.law21_same_L0_vcs x by kernel_rfl) h)
theorem fn21 (a : (List Int)) (b : (List Int)) (hp : S.law21_same_pre a b) : CallOk c22 21 [.list 2 false a, .list 2 false b] (wr_b (S.law21_same a b)) (wo_b (S.law21_same a b)) :=
  (call_ok (c := c22) (f := 21) (fn := Tryz.f21) (code := body21) (args := ([.list 2 false a, .list 2 false b])) (loop := loop21) (md := ⟨false, false⟩) (rd := rd_b) (wr := wr_b) (wo := wo_b) (r := (S.law21_same a b)) c22_ok (by kernel_rfl) (by kernel_rfl) (by kernel_rfl) (loops_all (l := [(0, lb21_0)]) (by kernel_rfl) ⟨lok21_0, trivial⟩) (by kernel_rfl) (by kernel_rfl) (by kernel_rfl)
    rw_b np_b no_b (by kernel_rfl) (Eq.mpr (show Vm.Tr.vc (Vm.Fn c22 Tryz.f21 body21 loop21 ([.list 2 false a, .list 2 false b])) = S.law21_same_pre a b by kernel_rfl) hp))

noncomputable def sem21 : List W → Option (W × List (List W) × List Prop)
  | [.list 2 false y1, .list 2 false y2] => some (wr_b (S.law21_same y1 y2), wo_b (S.law21_same y1 y2), [S.law21_same_pre y1 y2])
  | _ => none
noncomputable def c21 : Cfg El := c22.add 21 sem21
theorem c21_ok : CfgOk c21 := c22_ok.add (fun args w => Tryz.call21 args w) (fun vs r outs ps h hp => by
  unfold sem21 at h
  split at h
  · rename_i y1 y2; cases h; exact fn21 y1 y2 hp
  · cases h)

noncomputable def body185 : Code := (Tryz.f185.body).getD .skip
theorem fn185 (x : Int) (hp : S.math_bits_Len64_pre x) : CallOk c21 185 [.int .u64 x] (wr_i64 (S.math_bits_Len64 x)) (wo_i64 (S.math_bits_Len64 x)) :=
  (call_ok (c := c21) (f := 185) (fn := Tryz.f185) (code := body185) (args := ([.int .u64 x])) (loop := noLoop) (md := ⟨false, false⟩) (rd := rd_i64) (wr := wr_i64) (wo := wo_i64) (r := (S.math_bits_Len64 x)) c21_ok (by kernel_rfl) (by kernel_rfl) (by kernel_rfl) (no_loops (by kernel_rfl)) (by kernel_rfl) (by kernel_rfl) (by kernel_rfl)
    rw_i64 np_i64 no_i64 (by kernel_rfl) (Eq.mpr (show Vm.Tr.vc (Vm.Fn c21 Tryz.f185 body185 noLoop ([.int .u64 x])) = S.math_bits_Len64_pre x by kernel_rfl) hp))

noncomputable def sem185 : List W → Option (W × List (List W) × List Prop)
  | [.int .u64 y1] => some (wr_i64 (S.math_bits_Len64 y1), wo_i64 (S.math_bits_Len64 y1), [S.math_bits_Len64_pre y1])
  | _ => none
noncomputable def c185 : Cfg El := c21.add 185 sem185
theorem c185_ok : CfgOk c185 := c21_ok.add (fun args w => Tryz.call185 args w) (fun vs r outs ps h hp => by
  unfold sem185 at h
  split at h
  · rename_i y1; cases h; exact fn185 y1 hp
  · cases h)

noncomputable def body184 : Code := (Tryz.f184.body).getD .skip
theorem fn184 (x : Int) : CallOk c185 184 [.int .i64 x] (wr_i64 (S.internal_strconv_log10Pow2 x)) (wo_i64 (S.internal_strconv_log10Pow2 x)) :=
  (call_ok (c := c185) (f := 184) (fn := Tryz.f184) (code := body184) (args := ([.int .i64 x])) (loop := noLoop) (md := ⟨false, false⟩) (rd := rd_i64) (wr := wr_i64) (wo := wo_i64) (r := (S.internal_strconv_log10Pow2 x)) c185_ok (by kernel_rfl) (by kernel_rfl) (by kernel_rfl) (no_loops (by kernel_rfl)) (by kernel_rfl) (by kernel_rfl) (by kernel_rfl)
    rw_i64 np_i64 no_i64 (by kernel_rfl) (Tr.vc_of_noReq (by kernel_rfl)))

noncomputable def sem184 : List W → Option (W × List (List W) × List Prop)
  | [.int .i64 y1] => some (wr_i64 (S.internal_strconv_log10Pow2 y1), wo_i64 (S.internal_strconv_log10Pow2 y1), [])
  | _ => none
noncomputable def c184 : Cfg El := c185.add 184 sem184
theorem c184_ok : CfgOk c184 := c185_ok.add (fun args w => Tryz.call184 args w) (fun vs r outs ps h hp => by
  unfold sem184 at h
  split at h
  · rename_i y1; cases h; exact fn184 y1
  · cases h)

noncomputable def body186 : Code := (Tryz.f186.body).getD .skip
theorem fn186 (b : Bool) : CallOk c184 186 [.bool b] (wr_i64 (S.internal_strconv_bool2int b)) (wo_i64 (S.internal_strconv_bool2int b)) :=
  (call_ok (c := c184) (f := 186) (fn := Tryz.f186) (code := body186) (args := ([.bool b])) (loop := noLoop) (md := ⟨false, false⟩) (rd := rd_i64) (wr := wr_i64) (wo := wo_i64) (r := (S.internal_strconv_bool2int b)) c184_ok (by kernel_rfl) (by kernel_rfl) (by kernel_rfl) (no_loops (by kernel_rfl)) (by kernel_rfl) (by kernel_rfl) (by kernel_rfl)
    rw_i64 np_i64 no_i64 (by kernel_rfl) (Tr.vc_of_noReq (by kernel_rfl)))

noncomputable def sem186 : List W → Option (W × List (List W) × List Prop)
  | [.bool y1] => some (wr_i64 (S.internal_strconv_bool2int y1), wo_i64 (S.internal_strconv_bool2int y1), [])
  | _ => none
noncomputable def c186 : Cfg El := c184.add 186 sem186
theorem c186_ok : CfgOk c186 := c184_ok.add (fun args w => Tryz.call186 args w) (fun vs r outs ps h hp => by
  unfold sem186 at h
  split at h
  · rename_i y1; cases h; exact fn186 y1
  · cases h)

noncomputable def body187 : Code := (Tryz.f187.body).getD .skip
theorem fn187 (x : Int) : CallOk c186 187 [.int .i64 x] (wr_b (S.internal_strconv_isPowerOfTwo x)) (wo_b (S.internal_strconv_isPowerOfTwo x)) :=
  (call_ok (c := c186) (f := 187) (fn := Tryz.f187) (code := body187) (args := ([.int .i64 x])) (loop := noLoop) (md := ⟨false, false⟩) (rd := rd_b) (wr := wr_b) (wo := wo_b) (r := (S.internal_strconv_isPowerOfTwo x)) c186_ok (by kernel_rfl) (by kernel_rfl) (by kernel_rfl) (no_loops (by kernel_rfl)) (by kernel_rfl) (by kernel_rfl) (by kernel_rfl)
    rw_b np_b no_b (by kernel_rfl) (Tr.vc_of_noReq (by kernel_rfl)))

noncomputable def sem187 : List W → Option (W × List (List W) × List Prop)
  | [.int .i64 y1] => some (wr_b (S.internal_strconv_isPowerOfTwo y1), wo_b (S.internal_strconv_isPowerOfTwo y1), [])
  | _ => none
noncomputable def c187 : Cfg El := c186.add 187 sem187
theorem c187_ok : CfgOk c187 := c186_ok.add (fun args w => Tryz.call187 args w) (fun vs r outs ps h hp => by
  unfold sem187 at h
  split at h
  · rename_i y1; cases h; exact fn187 y1
  · cases h)

noncomputable def rd_s : W → List (List W) → Option (ByteArray)
  | .str x1, [] => some x1
  | _, _ => none
noncomputable def wr_s (x : ByteArray) : W := .str x
noncomputable def wo_s (_x : ByteArray) : List (List W) := []
theorem rw_s (v : W) (os : List (List W)) (x : ByteArray) (h : rd_s v os = some x) : v = wr_s x ∧ os = wo_s x := by
  unfold rd_s at h
  split at h <;> first | (cases h; exact ⟨rfl, rfl⟩) | cases h
theorem np_s (x : ByteArray) : okv (fun _ => false) (wr_s x) = true := rfl
theorem no_s (x : ByteArray) : all (fun cs => all (ok0 fun _ => false) cs) (wo_s x) = true := rfl

theorem fn127 (i : Int) (base : Int) (hp : fmtI_pre i base) : CallOk c187 127 [.int .i64 i, .int .i64 base] (wr_s (fmtI i base)) (wo_s (fmtI i base)) :=
  fmtI_calls (c := c187) (P := P) rfl Tryz.laysM246 rfl (fun _ _ h => h.1) i base hp

noncomputable def sem127 : List W → Option (W × List (List W) × List Prop)
  | [.int .i64 y1, .int .i64 y2] => some (wr_s (fmtI y1 y2), wo_s (fmtI y1 y2), [fmtI_pre y1 y2])
  | _ => none
noncomputable def c127 : Cfg El := c187.add 127 sem127
theorem c127_ok : CfgOk c127 := c187_ok.add (fun args w => Tryz.call127 args w) (fun vs r outs ps h hp => by
  unfold sem127 at h
  split at h
  · rename_i y1 y2; cases h; exact fn127 y1 y2 hp
  · cases h)

noncomputable def body75 : Code := (Tryz.f75.body).getD .skip
theorem fn75 (i : Int) (base : Int) (hp : S.strconv_FormatInt_pre i base) : CallOk c127 75 [.int .i64 i, .int .i64 base] (wr_s (S.strconv_FormatInt i base)) (wo_s (S.strconv_FormatInt i base)) :=
  (call_ok (c := c127) (f := 75) (fn := Tryz.f75) (code := body75) (args := ([.int .i64 i, .int .i64 base])) (loop := noLoop) (md := ⟨false, false⟩) (rd := rd_s) (wr := wr_s) (wo := wo_s) (r := (S.strconv_FormatInt i base)) c127_ok (by kernel_rfl) (by kernel_rfl) (by kernel_rfl) (no_loops (by kernel_rfl)) (by kernel_rfl) (by kernel_rfl) (by kernel_rfl)
    rw_s np_s no_s (by kernel_rfl) (Eq.mpr (show Vm.Tr.vc (Vm.Fn c127 Tryz.f75 body75 noLoop ([.int .i64 i, .int .i64 base])) = S.strconv_FormatInt_pre i base by kernel_rfl) hp))

noncomputable def sem75 : List W → Option (W × List (List W) × List Prop)
  | [.int .i64 y1, .int .i64 y2] => some (wr_s (S.strconv_FormatInt y1 y2), wo_s (S.strconv_FormatInt y1 y2), [S.strconv_FormatInt_pre y1 y2])
  | _ => none
noncomputable def c75 : Cfg El := c127.add 75 sem75
theorem c75_ok : CfgOk c75 := c127_ok.add (fun args w => Tryz.call75 args w) (fun vs r outs ps h hp => by
  unfold sem75 at h
  split at h
  · rename_i y1 y2; cases h; exact fn75 y1 y2 hp
  · cases h)

theorem fn128 (i : Int) (base : Int) (hp : fmtU_pre i base) : CallOk c75 128 [.int .u64 i, .int .i64 base] (wr_s (fmtU i base)) (wo_s (fmtU i base)) :=
  fmtU_calls i base hp (c := c75) rfl (fun _ _ h => h.1)

noncomputable def sem128 : List W → Option (W × List (List W) × List Prop)
  | [.int .u64 y1, .int .i64 y2] => some (wr_s (fmtU y1 y2), wo_s (fmtU y1 y2), [fmtU_pre y1 y2])
  | _ => none
noncomputable def c128 : Cfg El := c75.add 128 sem128
theorem c128_ok : CfgOk c128 := c75_ok.add (fun args w => Tryz.call128 args w) (fun vs r outs ps h hp => by
  unfold sem128 at h
  split at h
  · rename_i y1 y2; cases h; exact fn128 y1 y2 hp
  · cases h)

noncomputable def body76 : Code := (Tryz.f76.body).getD .skip
theorem fn76 (i : Int) (base : Int) (hp : S.strconv_FormatUint_pre i base) : CallOk c128 76 [.int .u64 i, .int .i64 base] (wr_s (S.strconv_FormatUint i base)) (wo_s (S.strconv_FormatUint i base)) :=
  (call_ok (c := c128) (f := 76) (fn := Tryz.f76) (code := body76) (args := ([.int .u64 i, .int .i64 base])) (loop := noLoop) (md := ⟨false, false⟩) (rd := rd_s) (wr := wr_s) (wo := wo_s) (r := (S.strconv_FormatUint i base)) c128_ok (by kernel_rfl) (by kernel_rfl) (by kernel_rfl) (no_loops (by kernel_rfl)) (by kernel_rfl) (by kernel_rfl) (by kernel_rfl)
    rw_s np_s no_s (by kernel_rfl) (Eq.mpr (show Vm.Tr.vc (Vm.Fn c128 Tryz.f76 body76 noLoop ([.int .u64 i, .int .i64 base])) = S.strconv_FormatUint_pre i base by kernel_rfl) hp))

noncomputable def sem76 : List W → Option (W × List (List W) × List Prop)
  | [.int .u64 y1, .int .i64 y2] => some (wr_s (S.strconv_FormatUint y1 y2), wo_s (S.strconv_FormatUint y1 y2), [S.strconv_FormatUint_pre y1 y2])
  | _ => none
noncomputable def c76 : Cfg El := c128.add 76 sem76
theorem c76_ok : CfgOk c76 := c128_ok.add (fun args w => Tryz.call76 args w) (fun vs r outs ps h hp => by
  unfold sem76 at h
  split at h
  · rename_i y1 y2; cases h; exact fn76 y1 y2 hp
  · cases h)

noncomputable def body23 : Code := (Tryz.f23.body).getD .skip
theorem fn23 (v : S.Value) (hp : S.value_Value_Text_pre v) : CallOk c76 23 [.agg [.int .i64 v.I.Lo, .int .i64 v.I.Hi, .int .u64 v.C.M, .int .u64 v.C.R]] (wr_s (S.value_Value_Text v)) (wo_s (S.value_Value_Text v)) :=
  (call_ok (c := c76) (f := 23) (fn := Tryz.f23) (code := body23) (args := ([.agg [.int .i64 v.I.Lo, .int .i64 v.I.Hi, .int .u64 v.C.M, .int .u64 v.C.R]])) (loop := noLoop) (md := ⟨false, false⟩) (rd := rd_s) (wr := wr_s) (wo := wo_s) (r := (S.value_Value_Text v)) c76_ok (by kernel_rfl) (by kernel_rfl) (by kernel_rfl) (no_loops (by kernel_rfl)) (by kernel_rfl) (by kernel_rfl) (by kernel_rfl)
    rw_s np_s no_s (by kernel_rfl) (Eq.mpr (show Vm.Tr.vc (Vm.Fn c76 Tryz.f23 body23 noLoop ([.agg [.int .i64 v.I.Lo, .int .i64 v.I.Hi, .int .u64 v.C.M, .int .u64 v.C.R]])) = S.value_Value_Text_pre v by kernel_rfl) hp))

noncomputable def sem23 : List W → Option (W × List (List W) × List Prop)
  | [.agg [.int .i64 y1, .int .i64 y2, .int .u64 y3, .int .u64 y4]] => some (wr_s (S.value_Value_Text (⟨(⟨y1, y2⟩ : S.Inter), (⟨y3, y4⟩ : S.Cong)⟩ : S.Value)), wo_s (S.value_Value_Text (⟨(⟨y1, y2⟩ : S.Inter), (⟨y3, y4⟩ : S.Cong)⟩ : S.Value)), [S.value_Value_Text_pre (⟨(⟨y1, y2⟩ : S.Inter), (⟨y3, y4⟩ : S.Cong)⟩ : S.Value)])
  | _ => none
noncomputable def c23 : Cfg El := c76.add 23 sem23
theorem c23_ok : CfgOk c23 := c76_ok.add (fun args w => Tryz.call23 args w) (fun vs r outs ps h hp => by
  unfold sem23 at h
  split at h
  · rename_i y1 y2 y3 y4; cases h; exact fn23 (⟨(⟨y1, y2⟩ : S.Inter), (⟨y3, y4⟩ : S.Cong)⟩ : S.Value) hp
  · cases h)

noncomputable def rd_L5_o_f : W → List (List W) → Option ((List Int))
  | .olist 5 true x2, [] => some x2
  | _, _ => none
noncomputable def wr_L5_o_f (x : (List Int)) : W := .olist 5 true x
noncomputable def wo_L5_o_f (_x : (List Int)) : List (List W) := []
theorem rw_L5_o_f (v : W) (os : List (List W)) (x : (List Int)) (h : rd_L5_o_f v os = some x) : v = wr_L5_o_f x ∧ os = wo_L5_o_f x := by
  unfold rd_L5_o_f at h
  split at h <;> first | (cases h; exact ⟨rfl, rfl⟩) | cases h
theorem np_L5_o_f (x : (List Int)) : okv (fun _ => false) (wr_L5_o_f x) = true := rfl
theorem no_L5_o_f (x : (List Int)) : all (fun cs => all (ok0 fun _ => false) cs) (wo_L5_o_f x) = true := rfl

noncomputable def body179 : Code := (Tryz.f179.body).getD .skip
noncomputable def lb179_0 : Code := ((nth (loopsOf 0 body179) 0).getD (0, .skip)).2
noncomputable def px179_0 : List W → Option S.ref01_trim_L0
  | [.own 28, .rowc 5 false none y1] => some ⟨y1⟩
  | _ => none
noncomputable def tx179_0 (x : S.ref01_trim_L0) : List W := [.own 28, .rowc 5 false none x.out]
noncomputable def py179_0 : Ex → List W → Option (S.ref01_trim_L0)
  | .exit 0, [.own 28, .rowc 5 false none y1] => some ⟨y1⟩
  | _, _ => none
noncomputable def ld179_0 : LD El where
  X := S.ref01_trim_L0
  Y := S.ref01_trim_L0
  keys := [.slot 3, .row 28]
  fits := [138, 0]
  px := px179_0
  tx := tx179_0
  okeys := [.slot 3, .row 28]
  ofits := [138, 0]
  py := py179_0
  ty := fun y => tx179_0 y
  oex := fun _ => .exit 0
  junk := [.slot 7, .slot 8, .slot 9, .slot 10, .slot 11, .slot 12, .slot 13, .slot 14, .slot 15, .slot 16, .slot 17, .slot 18, .slot 19, .slot 20, .slot 21, .slot 22, .slot 23, .row 6, .slot 6]
  rows := [(3, 5)]
noncomputable def lo179_0 : S.ref01_trim_L0 → Tr El := fun y => .leaf (.exit 0) (zipK ld179_0.okeys (tx179_0 y) ++ junkK ld179_0.junk)
noncomputable def loop179 : Nat → Env El → Tr El
  | 0 => ld179_0.tree (c23.hint [23] []) Tryz.f179.ntmps 0 lb179_0 S.ref01_trim_L0_run lo179_0 S.ref01_trim_L0_step S.ref01_trim_L0_vcs
  | _ => fun _ => .fail
theorem lok179_0 : ∀ w0 S0, LoopOk (c23.hint [23] []) Tryz.f179.ntmps w0 S0 loop179 0 lb179_0 :=
  loop_ok (c := (c23.hint [23] [])) (n := Tryz.f179.ntmps) (CfgOk.hint c23_ok [23] []) mixed ld179_0 (body := lb179_0) (key := 0) (loop := loop179) (F := S.ref01_trim_L0_run) (out := lo179_0) (step := S.ref01_trim_L0_step) (vcs := S.ref01_trim_L0_vcs)
    (fun _ => by kernel_rfl) (no_loops (by kernel_rfl)) rfl rfl
    (fun vs x h => by unfold ld179_0 px179_0 at h; dsimp only at h; split at h <;> first | (cases h; rfl) | cases h)
    (fun e vs y h => by unfold ld179_0 py179_0 at h; dsimp only at h; split at h <;> first | (cases h; exact ⟨rfl, rfl⟩) | cases h)
    (by kernel_rfl) (fun _ => rfl) (fun _ _ h => h) (fun x => by kernel_rfl) (fun x h => Eq.mpr (show Vm.Tr.vc (Vm.ev (c23.hint [23] []) Tryz.f179.ntmps loop179 0 lb179_0 (ld179_0.vars x) []) = S.ref01_trim_L0_vcs x by kernel_rfl) h)
theorem fn179 (l : (List Int)) (hp : S.ref01_trim_pre l) : CallOk c23 179 [.list 5 false l] (wr_L5_o_f (S.ref01_trim l)) (wo_L5_o_f (S.ref01_trim l)) :=
  CallOk.same (c := (c23.hint [23] [])) (c' := c23) rfl rfl rfl rfl (call_ok (c := (c23.hint [23] [])) (f := 179) (fn := Tryz.f179) (code := body179) (args := ([.list 5 false l])) (loop := loop179) (md := ⟨true, true⟩) (rd := rd_L5_o_f) (wr := wr_L5_o_f) (wo := wo_L5_o_f) (r := (S.ref01_trim l)) (CfgOk.hint c23_ok [23] []) (by kernel_rfl) (by kernel_rfl) (by kernel_rfl) (loops_all (l := [(0, lb179_0)]) (by kernel_rfl) ⟨lok179_0, trivial⟩) (by kernel_rfl) (by kernel_rfl) (by kernel_rfl)
    rw_L5_o_f np_L5_o_f no_L5_o_f (by kernel_rfl) (Eq.mpr (show Vm.Tr.vc (Vm.Fn (c23.hint [23] []) Tryz.f179 body179 loop179 ([.list 5 false l])) = S.ref01_trim_pre l by kernel_rfl) hp))

noncomputable def sem179 : List W → Option (W × List (List W) × List Prop)
  | [.list 5 false y1] => some (wr_L5_o_f (S.ref01_trim y1), wo_L5_o_f (S.ref01_trim y1), [S.ref01_trim_pre y1])
  | _ => none
noncomputable def c179 : Cfg El := c23.add 179 sem179
theorem c179_ok : CfgOk c179 := c23_ok.add (fun args w => Tryz.call179 args w) (fun vs r outs ps h hp => by
  unfold sem179 at h
  split at h
  · rename_i y1; cases h; exact fn179 y1 hp
  · cases h)

noncomputable def body130 : Code := (Tryz.f130.body).getD .skip
noncomputable def lb130_0 : Code := ((nth (loopsOf 0 body130) 0).getD (0, .skip)).2
noncomputable def px130_0 : List W → Option S.ref01_Of_L0
  | [.list 24 false y1, .own 34, .int .i64 y2, .rowc 5 false none y3] => some ⟨y1, y2, y3⟩
  | _ => none
noncomputable def tx130_0 (x : S.ref01_Of_L0) : List W := [.list 24 false x.l, .own 34, .int .i64 x.i, .rowc 5 false none x.out]
noncomputable def py130_0 : Ex → List W → Option (S.ref01_Of_L0)
  | .exit 0, [.list 24 false y1, .own 34, .int .i64 y2, .rowc 5 false none y3] => some ⟨y1, y2, y3⟩
  | _, _ => none
noncomputable def ld130_0 : LD El where
  X := S.ref01_Of_L0
  Y := S.ref01_Of_L0
  keys := [.slot 0, .slot 3, .slot 4, .row 34]
  fits := [64, 138, 3, 0]
  px := px130_0
  tx := tx130_0
  okeys := [.slot 0, .slot 3, .slot 4, .row 34]
  ofits := [64, 138, 3, 0]
  py := py130_0
  ty := fun y => tx130_0 y
  oex := fun _ => .exit 0
  junk := [.slot 5, .slot 6, .slot 7, .slot 8, .slot 9, .slot 10, .slot 11, .slot 12, .slot 13, .slot 14, .slot 15, .slot 16, .slot 17, .slot 18, .slot 19, .slot 20, .slot 21, .slot 22, .slot 23, .slot 24, .slot 25, .slot 26, .slot 27, .slot 28, .row 96]
  rows := [(3, 5)]
noncomputable def lo130_0 : S.ref01_Of_L0 → Tr El := fun y => .leaf (.exit 0) (zipK ld130_0.okeys (tx130_0 y) ++ junkK ld130_0.junk)
noncomputable def lb130_2 : Code := ((nth (loopsOf 0 lb130_0) 0).getD (0, .skip)).2
noncomputable def px130_2 : List W → Option S.ref01_Of_L2
  | [.own 96, .int .u64 y1, .int .i64 y2, .rowc 5 false none y3] => some ⟨y1, y2, y3⟩
  | _ => none
noncomputable def tx130_2 (x : S.ref01_Of_L2) : List W := [.own 96, .int .u64 x.n, .int .i64 x.k, .rowc 5 false none x.out]
noncomputable def py130_2 : Ex → List W → Option (S.ref01_Of_L2)
  | .exit 2, [.own 96, .int .u64 y1, .int .i64 y2, .rowc 5 false none y3] => some ⟨y1, y2, y3⟩
  | _, _ => none
noncomputable def ld130_2 : LD El where
  X := S.ref01_Of_L2
  Y := S.ref01_Of_L2
  keys := [.slot 3, .slot 5, .slot 6, .row 96]
  fits := [138, 24, 3, 0]
  px := px130_2
  tx := tx130_2
  okeys := [.slot 3, .slot 5, .slot 6, .row 96]
  ofits := [138, 24, 3, 0]
  py := py130_2
  ty := fun y => tx130_2 y
  oex := fun _ => .exit 2
  junk := [.slot 17, .slot 18, .slot 19, .slot 20, .slot 21, .slot 22, .slot 23, .slot 24, .slot 25, .slot 26, .slot 27, .slot 28, .row 34]
  rows := [(3, 5)]
noncomputable def lo130_2 : S.ref01_Of_L2 → Tr El := fun y => .leaf (.exit 2) (zipK ld130_2.okeys (tx130_2 y) ++ junkK ld130_2.junk)
noncomputable def loop130 : Nat → Env El → Tr El
  | 0 => ld130_0.tree (c179.hint [30] []) Tryz.f130.ntmps 0 lb130_0 S.ref01_Of_L0_run lo130_0 S.ref01_Of_L0_step S.ref01_Of_L0_vcs
  | 2 => ld130_2.tree (c179.hint [30] []) Tryz.f130.ntmps 2 lb130_2 S.ref01_Of_L2_run lo130_2 S.ref01_Of_L2_step S.ref01_Of_L2_vcs
  | _ => fun _ => .fail
theorem lok130_2 : ∀ w0 S0, LoopOk (c179.hint [30] []) Tryz.f130.ntmps w0 S0 loop130 2 lb130_2 :=
  loop_ok (c := (c179.hint [30] [])) (n := Tryz.f130.ntmps) (CfgOk.hint c179_ok [30] []) mixed ld130_2 (body := lb130_2) (key := 2) (loop := loop130) (F := S.ref01_Of_L2_run) (out := lo130_2) (step := S.ref01_Of_L2_step) (vcs := S.ref01_Of_L2_vcs)
    (fun _ => by kernel_rfl) (no_loops (by kernel_rfl)) rfl rfl
    (fun vs x h => by unfold ld130_2 px130_2 at h; dsimp only at h; split at h <;> first | (cases h; rfl) | cases h)
    (fun e vs y h => by unfold ld130_2 py130_2 at h; dsimp only at h; split at h <;> first | (cases h; exact ⟨rfl, rfl⟩) | cases h)
    (by kernel_rfl) (fun _ => rfl) (fun _ _ h => h) (fun x => by kernel_rfl) (fun x h => Eq.mpr (show Vm.Tr.vc (Vm.ev (c179.hint [30] []) Tryz.f130.ntmps loop130 2 lb130_2 (ld130_2.vars x) []) = S.ref01_Of_L2_vcs x by kernel_rfl) h)
theorem lok130_0 : ∀ w0 S0, LoopOk (c179.hint [30] []) Tryz.f130.ntmps w0 S0 loop130 0 lb130_0 :=
  loop_ok (c := (c179.hint [30] [])) (n := Tryz.f130.ntmps) (CfgOk.hint c179_ok [30] []) mixed ld130_0 (body := lb130_0) (key := 0) (loop := loop130) (F := S.ref01_Of_L0_run) (out := lo130_0) (step := S.ref01_Of_L0_step) (vcs := S.ref01_Of_L0_vcs)
    (fun _ => by kernel_rfl) (loops_all (l := [(2, lb130_2)]) (by kernel_rfl) ⟨lok130_2, trivial⟩) rfl rfl
    (fun vs x h => by unfold ld130_0 px130_0 at h; dsimp only at h; split at h <;> first | (cases h; rfl) | cases h)
    (fun e vs y h => by unfold ld130_0 py130_0 at h; dsimp only at h; split at h <;> first | (cases h; exact ⟨rfl, rfl⟩) | cases h)
    (by kernel_rfl) (fun _ => rfl) (fun _ _ h => h) (fun x => by kernel_rfl) (fun x h => Eq.mpr (show Vm.Tr.vc (Vm.ev (c179.hint [30] []) Tryz.f130.ntmps loop130 0 lb130_0 (ld130_0.vars x) []) = S.ref01_Of_L0_vcs x by kernel_rfl) h)
theorem fn130 (l : (List Int)) (hp : S.ref01_Of_pre l) : CallOk c179 130 [.list 24 false l] (wr_L5_o_f (S.ref01_Of l)) (wo_L5_o_f (S.ref01_Of l)) :=
  CallOk.same (c := (c179.hint [30] [])) (c' := c179) rfl rfl rfl rfl (call_ok (c := (c179.hint [30] [])) (f := 130) (fn := Tryz.f130) (code := body130) (args := ([.list 24 false l])) (loop := loop130) (md := ⟨true, true⟩) (rd := rd_L5_o_f) (wr := wr_L5_o_f) (wo := wo_L5_o_f) (r := (S.ref01_Of l)) (CfgOk.hint c179_ok [30] []) (by kernel_rfl) (by kernel_rfl) (by kernel_rfl) (loops_all (l := [(0, lb130_0)]) (by kernel_rfl) ⟨lok130_0, trivial⟩) (by kernel_rfl) (by kernel_rfl) (by kernel_rfl)
    rw_L5_o_f np_L5_o_f no_L5_o_f (by kernel_rfl) (Eq.mpr (show Vm.Tr.vc (Vm.Fn (c179.hint [30] []) Tryz.f130 body130 loop130 ([.list 24 false l])) = S.ref01_Of_pre l by kernel_rfl) hp))

noncomputable def sem130 : List W → Option (W × List (List W) × List Prop)
  | [.list 24 false y1] => some (wr_L5_o_f (S.ref01_Of y1), wo_L5_o_f (S.ref01_Of y1), [S.ref01_Of_pre y1])
  | _ => none
noncomputable def c130 : Cfg El := c179.add 130 sem130
theorem c130_ok : CfgOk c130 := c179_ok.add (fun args w => Tryz.call130 args w) (fun vs r outs ps h hp => by
  unfold sem130 at h
  split at h
  · rename_i y1; cases h; exact fn130 y1 hp
  · cases h)

noncomputable def rd_L24_o_f : W → List (List W) → Option ((List Int))
  | .olist 24 true x2, [] => some x2
  | _, _ => none
noncomputable def wr_L24_o_f (x : (List Int)) : W := .olist 24 true x
noncomputable def wo_L24_o_f (_x : (List Int)) : List (List W) := []
theorem rw_L24_o_f (v : W) (os : List (List W)) (x : (List Int)) (h : rd_L24_o_f v os = some x) : v = wr_L24_o_f x ∧ os = wo_L24_o_f x := by
  unfold rd_L24_o_f at h
  split at h <;> first | (cases h; exact ⟨rfl, rfl⟩) | cases h
theorem np_L24_o_f (x : (List Int)) : okv (fun _ => false) (wr_L24_o_f x) = true := rfl
theorem no_L24_o_f (x : (List Int)) : all (fun cs => all (ok0 fun _ => false) cs) (wo_L24_o_f x) = true := rfl

noncomputable def body189 : Code := (Tryz.f189.body).getD .skip
noncomputable def lb189_0 : Code := ((nth (loopsOf 0 body189) 0).getD (0, .skip)).2
noncomputable def px189_0 : List W → Option S.ref01_Limbs_L0
  | [.list 5 false y1, .own 40, .int .i64 y2, .rowc 24 false none y3] => some ⟨y1, y2, y3⟩
  | _ => none
noncomputable def tx189_0 (x : S.ref01_Limbs_L0) : List W := [.list 5 false x.n, .own 40, .int .i64 x.i, .rowc 24 false none x.out]
noncomputable def py189_0 : Ex → List W → Option (S.ref01_Limbs_L0)
  | .exit 0, [.list 5 false y1, .own 40, .int .i64 y2, .rowc 24 false none y3] => some ⟨y1, y2, y3⟩
  | _, _ => none
noncomputable def ld189_0 : LD El where
  X := S.ref01_Limbs_L0
  Y := S.ref01_Limbs_L0
  keys := [.slot 0, .slot 3, .slot 4, .row 40]
  fits := [138, 64, 3, 0]
  px := px189_0
  tx := tx189_0
  okeys := [.slot 0, .slot 3, .slot 4, .row 40]
  ofits := [138, 64, 3, 0]
  py := py189_0
  ty := fun y => tx189_0 y
  oex := fun _ => .exit 0
  junk := [.slot 5, .slot 6, .slot 7, .slot 8, .slot 9, .slot 10, .slot 11, .slot 12, .slot 13, .slot 14, .slot 15, .slot 16, .slot 17, .slot 18, .slot 19, .slot 20, .slot 21, .slot 22, .slot 23, .slot 24, .slot 25, .slot 26, .slot 27, .slot 28, .slot 29, .slot 30, .slot 31, .slot 32, .slot 33, .slot 34, .slot 35]
  rows := [(3, 24)]
noncomputable def lo189_0 : S.ref01_Limbs_L0 → Tr El := fun y => .leaf (.exit 0) (zipK ld189_0.okeys (tx189_0 y) ++ junkK ld189_0.junk)
noncomputable def lb189_2 : Code := ((nth (loopsOf 0 lb189_0) 0).getD (0, .skip)).2
noncomputable def px189_2 : List W → Option S.ref01_Limbs_L2
  | [.list 5 false y1, .int .i64 y2, .int .u64 y3, .int .i64 y4] => some ⟨y1, y2, y3, y4⟩
  | _ => none
noncomputable def tx189_2 (x : S.ref01_Limbs_L2) : List W := [.list 5 false x.n, .int .i64 x.i, .int .u64 x.vx, .int .i64 x.k]
noncomputable def py189_2 : Ex → List W → Option (S.ref01_Limbs_L2)
  | .exit 2, [.list 5 false y1, .int .i64 y2, .int .u64 y3, .int .i64 y4] => some ⟨y1, y2, y3, y4⟩
  | _, _ => none
noncomputable def ld189_2 : LD El where
  X := S.ref01_Limbs_L2
  Y := S.ref01_Limbs_L2
  keys := [.slot 0, .slot 4, .slot 5, .slot 6]
  fits := [138, 3, 24, 3]
  px := px189_2
  tx := tx189_2
  okeys := [.slot 0, .slot 4, .slot 5, .slot 6]
  ofits := [138, 3, 24, 3]
  py := py189_2
  ty := fun y => tx189_2 y
  oex := fun _ => .exit 2
  junk := [.slot 19, .slot 20, .slot 21, .slot 22, .slot 23, .slot 24, .slot 25, .slot 26, .slot 27, .slot 28, .slot 29, .slot 30, .slot 31]
  rows := []
noncomputable def lo189_2 : S.ref01_Limbs_L2 → Tr El := fun y => .leaf (.exit 2) (zipK ld189_2.okeys (tx189_2 y) ++ junkK ld189_2.junk)
noncomputable def loop189 : Nat → Env El → Tr El
  | 0 => ld189_0.tree c130 Tryz.f189.ntmps 0 lb189_0 S.ref01_Limbs_L0_run lo189_0 S.ref01_Limbs_L0_step S.ref01_Limbs_L0_vcs
  | 2 => ld189_2.tree c130 Tryz.f189.ntmps 2 lb189_2 S.ref01_Limbs_L2_run lo189_2 S.ref01_Limbs_L2_step S.ref01_Limbs_L2_vcs
  | _ => fun _ => .fail
theorem lok189_2 : ∀ w0 S0, LoopOk c130 Tryz.f189.ntmps w0 S0 loop189 2 lb189_2 :=
  loop_ok (c := c130) (n := Tryz.f189.ntmps) c130_ok mixed ld189_2 (body := lb189_2) (key := 2) (loop := loop189) (F := S.ref01_Limbs_L2_run) (out := lo189_2) (step := S.ref01_Limbs_L2_step) (vcs := S.ref01_Limbs_L2_vcs)
    (fun _ => by kernel_rfl) (no_loops (by kernel_rfl)) rfl rfl
    (fun vs x h => by unfold ld189_2 px189_2 at h; dsimp only at h; split at h <;> first | (cases h; rfl) | cases h)
    (fun e vs y h => by unfold ld189_2 py189_2 at h; dsimp only at h; split at h <;> first | (cases h; exact ⟨rfl, rfl⟩) | cases h)
    (by kernel_rfl) (fun _ => rfl) (fun _ _ h => h) (fun x => by kernel_rfl) (fun x h => Eq.mpr (show Vm.Tr.vc (Vm.ev c130 Tryz.f189.ntmps loop189 2 lb189_2 (ld189_2.vars x) []) = S.ref01_Limbs_L2_vcs x by kernel_rfl) h)
theorem lok189_0 : ∀ w0 S0, LoopOk c130 Tryz.f189.ntmps w0 S0 loop189 0 lb189_0 :=
  loop_ok (c := c130) (n := Tryz.f189.ntmps) c130_ok mixed ld189_0 (body := lb189_0) (key := 0) (loop := loop189) (F := S.ref01_Limbs_L0_run) (out := lo189_0) (step := S.ref01_Limbs_L0_step) (vcs := S.ref01_Limbs_L0_vcs)
    (fun _ => by kernel_rfl) (loops_all (l := [(2, lb189_2)]) (by kernel_rfl) ⟨lok189_2, trivial⟩) rfl rfl
    (fun vs x h => by unfold ld189_0 px189_0 at h; dsimp only at h; split at h <;> first | (cases h; rfl) | cases h)
    (fun e vs y h => by unfold ld189_0 py189_0 at h; dsimp only at h; split at h <;> first | (cases h; exact ⟨rfl, rfl⟩) | cases h)
    (by kernel_rfl) (fun _ => rfl) (fun _ _ h => h) (fun x => by kernel_rfl) (fun x h => Eq.mpr (show Vm.Tr.vc (Vm.ev c130 Tryz.f189.ntmps loop189 0 lb189_0 (ld189_0.vars x) []) = S.ref01_Limbs_L0_vcs x by kernel_rfl) h)
theorem fn189 (n : (List Int)) (hp : S.ref01_Limbs_pre n) : CallOk c130 189 [.list 5 false n] (wr_L24_o_f (S.ref01_Limbs n)) (wo_L24_o_f (S.ref01_Limbs n)) :=
  (call_ok (c := c130) (f := 189) (fn := Tryz.f189) (code := body189) (args := ([.list 5 false n])) (loop := loop189) (md := ⟨true, true⟩) (rd := rd_L24_o_f) (wr := wr_L24_o_f) (wo := wo_L24_o_f) (r := (S.ref01_Limbs n)) c130_ok (by kernel_rfl) (by kernel_rfl) (by kernel_rfl) (loops_all (l := [(0, lb189_0)]) (by kernel_rfl) ⟨lok189_0, trivial⟩) (by kernel_rfl) (by kernel_rfl) (by kernel_rfl)
    rw_L24_o_f np_L24_o_f no_L24_o_f (by kernel_rfl) (Eq.mpr (show Vm.Tr.vc (Vm.Fn c130 Tryz.f189 body189 loop189 ([.list 5 false n])) = S.ref01_Limbs_pre n by kernel_rfl) hp))

noncomputable def sem189 : List W → Option (W × List (List W) × List Prop)
  | [.list 5 false y1] => some (wr_L24_o_f (S.ref01_Limbs y1), wo_L24_o_f (S.ref01_Limbs y1), [S.ref01_Limbs_pre y1])
  | _ => none
noncomputable def c189 : Cfg El := c130.add 189 sem189
theorem c189_ok : CfgOk c189 := c130_ok.add (fun args w => Tryz.call189 args w) (fun vs r outs ps h hp => by
  unfold sem189 at h
  split at h
  · rename_i y1; cases h; exact fn189 y1 hp
  · cases h)

noncomputable def rd_L5_u64_i64_f : W → List (List W) → Option ((List Int) × Int × Int)
  | .tup [.list 5 true x1, .int .u64 x2, .int .i64 x3], [] => some ⟨x1, x2, x3⟩
  | _, _ => none
noncomputable def wr_L5_u64_i64_f (x : (List Int) × Int × Int) : W := .tup [.list 5 true x.1, .int .u64 x.2.1, .int .i64 x.2.2]
noncomputable def wo_L5_u64_i64_f (_x : (List Int) × Int × Int) : List (List W) := []
theorem rw_L5_u64_i64_f (v : W) (os : List (List W)) (x : (List Int) × Int × Int) (h : rd_L5_u64_i64_f v os = some x) : v = wr_L5_u64_i64_f x ∧ os = wo_L5_u64_i64_f x := by
  unfold rd_L5_u64_i64_f at h
  split at h <;> first | (cases h; exact ⟨rfl, rfl⟩) | cases h
theorem np_L5_u64_i64_f (x : (List Int) × Int × Int) : okv (fun _ => false) (wr_L5_u64_i64_f x) = true := rfl
theorem no_L5_u64_i64_f (x : (List Int) × Int × Int) : all (fun cs => all (ok0 fun _ => false) cs) (wo_L5_u64_i64_f x) = true := rfl

noncomputable def body178 : Code := (Tryz.f178.body).getD .skip
noncomputable def lb178_0 : Code := ((nth (loopsOf 0 body178) 0).getD (0, .skip)).2
noncomputable def px178_0 : List W → Option S.ref02_Div_L0
  | [.list 5 false y1, .int .u64 y2, .own 72, .int .u64 y3, .int .i64 y4, .rowc 5 false none y5] => some ⟨y1, y2, y3, y4, y5⟩
  | _ => none
noncomputable def tx178_0 (x : S.ref02_Div_L0) : List W := [.list 5 false x.n, .int .u64 x.vby, .own 72, .int .u64 x.left, .int .i64 x.i, .rowc 5 false none x.out]
noncomputable def py178_0 : Ex → List W → Option (S.ref02_Div_L0)
  | .exit 0, [.list 5 false y1, .int .u64 y2, .own 72, .int .u64 y3, .int .i64 y4, .rowc 5 false none y5] => some ⟨y1, y2, y3, y4, y5⟩
  | _, _ => none
noncomputable def ld178_0 : LD El where
  X := S.ref02_Div_L0
  Y := S.ref02_Div_L0
  keys := [.slot 0, .slot 1, .slot 7, .slot 8, .slot 9, .row 72]
  fits := [138, 24, 138, 24, 3, 0]
  px := px178_0
  tx := tx178_0
  okeys := [.slot 0, .slot 1, .slot 7, .slot 8, .slot 9, .row 72]
  ofits := [138, 24, 138, 24, 3, 0]
  py := py178_0
  ty := fun y => tx178_0 y
  oex := fun _ => .exit 0
  junk := [.slot 10, .slot 11, .slot 20, .slot 21, .slot 22, .slot 23, .slot 24, .slot 25, .slot 26, .slot 27, .slot 28, .slot 29, .slot 30, .slot 31, .slot 32, .slot 33, .slot 34, .slot 35, .slot 36, .slot 37, .slot 38, .slot 39, .slot 40, .slot 41, .slot 42, .slot 43, .slot 44, .slot 45, .slot 46, .slot 47, .slot 48, .slot 49, .slot 50, .slot 51, .slot 52, .slot 53, .slot 54, .slot 55, .slot 56, .slot 57, .slot 58, .slot 59, .slot 60, .row 16, .slot 16, .row 202]
  rows := [(7, 5)]
noncomputable def lo178_0 : S.ref02_Div_L0 → Tr El := fun y => .leaf (.exit 0) (zipK ld178_0.okeys (tx178_0 y) ++ junkK ld178_0.junk)
noncomputable def lb178_2 : Code := ((nth (loopsOf 0 lb178_0) 0).getD (0, .skip)).2
noncomputable def px178_2 : List W → Option S.ref02_Div_L2
  | [.list 5 false y1, .int .u64 y2, .own 202, .int .u64 y3, .int .i64 y4, .int .i64 y5, .rowc 5 false none y6] => some ⟨y1, y2, y3, y4, y5, y6⟩
  | _ => none
noncomputable def tx178_2 (x : S.ref02_Div_L2) : List W := [.list 5 false x.n, .int .u64 x.vby, .own 202, .int .u64 x.left, .int .i64 x.i, .int .i64 x.digit, .rowc 5 false none x.out]
noncomputable def py178_2 : Ex → List W → Option (S.ref02_Div_L2)
  | .exit 2, [.list 5 false y1, .int .u64 y2, .own 202, .int .u64 y3, .int .i64 y4, .int .i64 y5, .rowc 5 false none y6] => some ⟨y1, y2, y3, y4, y5, y6⟩
  | _, _ => none
noncomputable def ld178_2 : LD El where
  X := S.ref02_Div_L2
  Y := S.ref02_Div_L2
  keys := [.slot 0, .slot 1, .slot 7, .slot 8, .slot 9, .slot 10, .row 202]
  fits := [138, 24, 138, 24, 3, 3, 0]
  px := px178_2
  tx := tx178_2
  okeys := [.slot 0, .slot 1, .slot 7, .slot 8, .slot 9, .slot 10, .row 202]
  ofits := [138, 24, 138, 24, 3, 3, 0]
  py := py178_2
  ty := fun y => tx178_2 y
  oex := fun _ => .exit 2
  junk := [.slot 11, .slot 24, .slot 25, .slot 26, .slot 27, .slot 28, .slot 29, .slot 30, .slot 31, .slot 32, .slot 33, .slot 34, .slot 35, .slot 36, .slot 37, .slot 38, .slot 39, .slot 40, .slot 41, .slot 42, .slot 43, .slot 44, .slot 45, .slot 46, .slot 47, .slot 48, .slot 49, .slot 50, .slot 51, .slot 52, .slot 53, .slot 54, .slot 55, .slot 56, .slot 57, .slot 58, .slot 59, .slot 60, .row 72]
  rows := [(7, 5)]
noncomputable def lo178_2 : S.ref02_Div_L2 → Tr El := fun y => .leaf (.exit 2) (zipK ld178_2.okeys (tx178_2 y) ++ junkK ld178_2.junk)
noncomputable def loop178 : Nat → Env El → Tr El
  | 0 => ld178_0.tree c189 Tryz.f178.ntmps 0 lb178_0 S.ref02_Div_L0_run lo178_0 S.ref02_Div_L0_step S.ref02_Div_L0_vcs
  | 2 => ld178_2.tree c189 Tryz.f178.ntmps 2 lb178_2 S.ref02_Div_L2_run lo178_2 S.ref02_Div_L2_step S.ref02_Div_L2_vcs
  | _ => fun _ => .fail
theorem lok178_2 : ∀ w0 S0, LoopOk c189 Tryz.f178.ntmps w0 S0 loop178 2 lb178_2 :=
  loop_ok (c := c189) (n := Tryz.f178.ntmps) c189_ok mixed ld178_2 (body := lb178_2) (key := 2) (loop := loop178) (F := S.ref02_Div_L2_run) (out := lo178_2) (step := S.ref02_Div_L2_step) (vcs := S.ref02_Div_L2_vcs)
    (fun _ => by kernel_rfl) (no_loops (by kernel_rfl)) rfl rfl
    (fun vs x h => by unfold ld178_2 px178_2 at h; dsimp only at h; split at h <;> first | (cases h; rfl) | cases h)
    (fun e vs y h => by unfold ld178_2 py178_2 at h; dsimp only at h; split at h <;> first | (cases h; exact ⟨rfl, rfl⟩) | cases h)
    (by kernel_rfl) (fun _ => rfl) (fun _ _ h => h) (fun x => by kernel_rfl) (fun x h => Eq.mpr (show Vm.Tr.vc (Vm.ev c189 Tryz.f178.ntmps loop178 2 lb178_2 (ld178_2.vars x) []) = S.ref02_Div_L2_vcs x by kernel_rfl) h)
theorem lok178_0 : ∀ w0 S0, LoopOk c189 Tryz.f178.ntmps w0 S0 loop178 0 lb178_0 :=
  loop_ok (c := c189) (n := Tryz.f178.ntmps) c189_ok mixed ld178_0 (body := lb178_0) (key := 0) (loop := loop178) (F := S.ref02_Div_L0_run) (out := lo178_0) (step := S.ref02_Div_L0_step) (vcs := S.ref02_Div_L0_vcs)
    (fun _ => by kernel_rfl) (loops_all (l := [(2, lb178_2)]) (by kernel_rfl) ⟨lok178_2, trivial⟩) rfl rfl
    (fun vs x h => by unfold ld178_0 px178_0 at h; dsimp only at h; split at h <;> first | (cases h; rfl) | cases h)
    (fun e vs y h => by unfold ld178_0 py178_0 at h; dsimp only at h; split at h <;> first | (cases h; exact ⟨rfl, rfl⟩) | cases h)
    (by kernel_rfl) (fun _ => rfl) (fun _ _ h => h) (fun x => by kernel_rfl) (fun x h => Eq.mpr (show Vm.Tr.vc (Vm.ev c189 Tryz.f178.ntmps loop178 0 lb178_0 (ld178_0.vars x) []) = S.ref02_Div_L0_vcs x by kernel_rfl) h)
theorem fn178 (n : (List Int)) (a1 : Int) (hp : S.ref02_Div_pre n a1) : CallOk c189 178 [.list 5 false n, .int .u64 a1] (wr_L5_u64_i64_f (S.ref02_Div n a1)) (wo_L5_u64_i64_f (S.ref02_Div n a1)) :=
  (call_ok (c := c189) (f := 178) (fn := Tryz.f178) (code := body178) (args := ([.list 5 false n, .int .u64 a1])) (loop := loop178) (md := ⟨false, true⟩) (rd := rd_L5_u64_i64_f) (wr := wr_L5_u64_i64_f) (wo := wo_L5_u64_i64_f) (r := (S.ref02_Div n a1)) c189_ok (by kernel_rfl) (by kernel_rfl) (by kernel_rfl) (loops_all (l := [(0, lb178_0)]) (by kernel_rfl) ⟨lok178_0, trivial⟩) (by kernel_rfl) (by kernel_rfl) (by kernel_rfl)
    rw_L5_u64_i64_f np_L5_u64_i64_f no_L5_u64_i64_f (by kernel_rfl) (Eq.mpr (show Vm.Tr.vc (Vm.Fn c189 Tryz.f178 body178 loop178 ([.list 5 false n, .int .u64 a1])) = S.ref02_Div_pre n a1 by kernel_rfl) hp))

noncomputable def sem178 : List W → Option (W × List (List W) × List Prop)
  | [.list 5 false y1, .int .u64 y2] => some (wr_L5_u64_i64_f (S.ref02_Div y1 y2), wo_L5_u64_i64_f (S.ref02_Div y1 y2), [S.ref02_Div_pre y1 y2])
  | _ => none
noncomputable def c178 : Cfg El := c189.add 178 sem178
theorem c178_ok : CfgOk c178 := c189_ok.add (fun args w => Tryz.call178 args w) (fun vs r outs ps h hp => by
  unfold sem178 at h
  split at h
  · rename_i y1 y2; cases h; exact fn178 y1 y2 hp
  · cases h)

noncomputable def body129 : Code := (Tryz.f129.body).getD .skip
noncomputable def semr129 (n : Nat) : List W → Option (W × List (List W) × List Prop)
  | [.list 5 false y1] => some (wr_s (S.ref02_Text_F n y1), wo_s (S.ref02_Text_F n y1), [S.ref02_Text_D n y1])
  | _ => none
theorem fns129 (n : Nat) (hc : CfgOk (c178.add 129 (semr129 n))) (a0 : (List Int)) (hp : S.ref02_Text_D (n + 1) a0) : CallOk (c178.add 129 (semr129 n)) 129 [.list 5 false a0] (wr_s (S.ref02_Text_F (n + 1) a0)) (wo_s (S.ref02_Text_F (n + 1) a0)) :=
  (call_ok (c := (c178.add 129 (semr129 n))) (f := 129) (fn := Tryz.f129) (code := body129) (args := ([.list 5 false a0])) (loop := noLoop) (md := ⟨false, false⟩) (rd := rd_s) (wr := wr_s) (wo := wo_s) (r := (S.ref02_Text_F (n + 1) a0)) hc (by kernel_rfl) (by kernel_rfl) (by kernel_rfl) (no_loops (by kernel_rfl)) (by kernel_rfl) (by kernel_rfl) (by kernel_rfl)
    rw_s np_s no_s (by kernel_rfl) (Eq.mpr (show Vm.Tr.vc (Vm.Fn (c178.add 129 (semr129 n)) Tryz.f129 body129 noLoop ([.list 5 false a0])) = S.ref02_Text_D (n + 1) a0 by kernel_rfl) hp))

theorem fnr129 (n : Nat) : ∀ (a0 : (List Int)), S.ref02_Text_D n a0 → CallOk c178 129 [.list 5 false a0] (wr_s (S.ref02_Text_F n a0)) (wo_s (S.ref02_Text_F n a0)) := by
  induction n with
  | zero => intro a0 hp; exact False.elim hp
  | succ n ih =>
    intro a0 hp
    have hc : CfgOk (c178.add 129 (semr129 n)) := c178_ok.add (fun args w => Tryz.call129 args w) (fun vs r outs ps h hp => by
      unfold semr129 at h
      split at h
      · cases h; exact ih _ hp
      · cases h)
    exact CallOk.same (c := (c178.add 129 (semr129 n))) (c' := c178) rfl rfl rfl rfl (fns129 n hc a0 hp)
theorem fn129 (a0 : (List Int)) (hp : S.ref02_Text_pre a0) : CallOk c178 129 [.list 5 false a0] (wr_s (S.ref02_Text a0)) (wo_s (S.ref02_Text a0)) := fnr129 _ a0 (Classical.epsilon_spec hp)

noncomputable def sem129 : List W → Option (W × List (List W) × List Prop)
  | [.list 5 false y1] => some (wr_s (S.ref02_Text y1), wo_s (S.ref02_Text y1), [S.ref02_Text_pre y1])
  | _ => none
noncomputable def c129 : Cfg El := c178.add 129 sem129
theorem c129_ok : CfgOk c129 := c178_ok.add (fun args w => Tryz.call129 args w) (fun vs r outs ps h hp => by
  unfold sem129 at h
  split at h
  · rename_i y1; cases h; exact fn129 y1 hp
  · cases h)

noncomputable def body77 : Code := (Tryz.f77.body).getD .skip
theorem fn77 (n : Int) (hp : S.ref02_Whole_pre n) : CallOk c129 77 [.int .i64 n] (wr_s (S.ref02_Whole n)) (wo_s (S.ref02_Whole n)) :=
  (call_ok (c := c129) (f := 77) (fn := Tryz.f77) (code := body77) (args := ([.int .i64 n])) (loop := noLoop) (md := ⟨false, false⟩) (rd := rd_s) (wr := wr_s) (wo := wo_s) (r := (S.ref02_Whole n)) c129_ok (by kernel_rfl) (by kernel_rfl) (by kernel_rfl) (no_loops (by kernel_rfl)) (by kernel_rfl) (by kernel_rfl) (by kernel_rfl)
    rw_s np_s no_s (by kernel_rfl) (Eq.mpr (show Vm.Tr.vc (Vm.Fn c129 Tryz.f77 body77 noLoop ([.int .i64 n])) = S.ref02_Whole_pre n by kernel_rfl) hp))

noncomputable def sem77 : List W → Option (W × List (List W) × List Prop)
  | [.int .i64 y1] => some (wr_s (S.ref02_Whole y1), wo_s (S.ref02_Whole y1), [S.ref02_Whole_pre y1])
  | _ => none
noncomputable def c77 : Cfg El := c129.add 77 sem77
theorem c77_ok : CfgOk c77 := c129_ok.add (fun args w => Tryz.call77 args w) (fun vs r outs ps h hp => by
  unfold sem77 at h
  split at h
  · rename_i y1; cases h; exact fn77 y1 hp
  · cases h)

noncomputable def body78 : Code := (Tryz.f78.body).getD .skip
noncomputable def semr78 (n : Nat) : List W → Option (W × List (List W) × List Prop)
  | [.int .u64 y1] => some (wr_s (S.ref21_digits_F n y1), wo_s (S.ref21_digits_F n y1), [S.ref21_digits_D n y1])
  | _ => none
theorem fns78 (n : Nat) (hc : CfgOk (c77.add 78 (semr78 n))) (a0 : Int) (hp : S.ref21_digits_D (n + 1) a0) : CallOk (c77.add 78 (semr78 n)) 78 [.int .u64 a0] (wr_s (S.ref21_digits_F (n + 1) a0)) (wo_s (S.ref21_digits_F (n + 1) a0)) :=
  (call_ok (c := (c77.add 78 (semr78 n))) (f := 78) (fn := Tryz.f78) (code := body78) (args := ([.int .u64 a0])) (loop := noLoop) (md := ⟨false, false⟩) (rd := rd_s) (wr := wr_s) (wo := wo_s) (r := (S.ref21_digits_F (n + 1) a0)) hc (by kernel_rfl) (by kernel_rfl) (by kernel_rfl) (no_loops (by kernel_rfl)) (by kernel_rfl) (by kernel_rfl) (by kernel_rfl)
    rw_s np_s no_s (by kernel_rfl) (Eq.mpr (show Vm.Tr.vc (Vm.Fn (c77.add 78 (semr78 n)) Tryz.f78 body78 noLoop ([.int .u64 a0])) = S.ref21_digits_D (n + 1) a0 by kernel_rfl) hp))

theorem fnr78 (n : Nat) : ∀ (a0 : Int), S.ref21_digits_D n a0 → CallOk c77 78 [.int .u64 a0] (wr_s (S.ref21_digits_F n a0)) (wo_s (S.ref21_digits_F n a0)) := by
  induction n with
  | zero => intro a0 hp; exact False.elim hp
  | succ n ih =>
    intro a0 hp
    have hc : CfgOk (c77.add 78 (semr78 n)) := c77_ok.add (fun args w => Tryz.call78 args w) (fun vs r outs ps h hp => by
      unfold semr78 at h
      split at h
      · cases h; exact ih _ hp
      · cases h)
    exact CallOk.same (c := (c77.add 78 (semr78 n))) (c' := c77) rfl rfl rfl rfl (fns78 n hc a0 hp)
theorem fn78 (a0 : Int) (hp : S.ref21_digits_pre a0) : CallOk c77 78 [.int .u64 a0] (wr_s (S.ref21_digits a0)) (wo_s (S.ref21_digits a0)) := fnr78 _ a0 (Classical.epsilon_spec hp)

noncomputable def sem78 : List W → Option (W × List (List W) × List Prop)
  | [.int .u64 y1] => some (wr_s (S.ref21_digits y1), wo_s (S.ref21_digits y1), [S.ref21_digits_pre y1])
  | _ => none
noncomputable def c78 : Cfg El := c77.add 78 sem78
theorem c78_ok : CfgOk c78 := c77_ok.add (fun args w => Tryz.call78 args w) (fun vs r outs ps h hp => by
  unfold sem78 at h
  split at h
  · rename_i y1; cases h; exact fn78 y1 hp
  · cases h)

noncomputable def body24 : Code := (Tryz.f24.body).getD .skip
theorem fn24 (v : S.Value) (hp : S.ref21_Text_pre v) : CallOk c78 24 [.agg [.int .i64 v.I.Lo, .int .i64 v.I.Hi, .int .u64 v.C.M, .int .u64 v.C.R]] (wr_s (S.ref21_Text v)) (wo_s (S.ref21_Text v)) :=
  (call_ok (c := c78) (f := 24) (fn := Tryz.f24) (code := body24) (args := ([.agg [.int .i64 v.I.Lo, .int .i64 v.I.Hi, .int .u64 v.C.M, .int .u64 v.C.R]])) (loop := noLoop) (md := ⟨false, false⟩) (rd := rd_s) (wr := wr_s) (wo := wo_s) (r := (S.ref21_Text v)) c78_ok (by kernel_rfl) (by kernel_rfl) (by kernel_rfl) (no_loops (by kernel_rfl)) (by kernel_rfl) (by kernel_rfl) (by kernel_rfl)
    rw_s np_s no_s (by kernel_rfl) (Eq.mpr (show Vm.Tr.vc (Vm.Fn c78 Tryz.f24 body24 noLoop ([.agg [.int .i64 v.I.Lo, .int .i64 v.I.Hi, .int .u64 v.C.M, .int .u64 v.C.R]])) = S.ref21_Text_pre v by kernel_rfl) hp))

noncomputable def sem24 : List W → Option (W × List (List W) × List Prop)
  | [.agg [.int .i64 y1, .int .i64 y2, .int .u64 y3, .int .u64 y4]] => some (wr_s (S.ref21_Text (⟨(⟨y1, y2⟩ : S.Inter), (⟨y3, y4⟩ : S.Cong)⟩ : S.Value)), wo_s (S.ref21_Text (⟨(⟨y1, y2⟩ : S.Inter), (⟨y3, y4⟩ : S.Cong)⟩ : S.Value)), [S.ref21_Text_pre (⟨(⟨y1, y2⟩ : S.Inter), (⟨y3, y4⟩ : S.Cong)⟩ : S.Value)])
  | _ => none
noncomputable def c24 : Cfg El := c78.add 24 sem24
theorem c24_ok : CfgOk c24 := c78_ok.add (fun args w => Tryz.call24 args w) (fun vs r outs ps h hp => by
  unfold sem24 at h
  split at h
  · rename_i y1 y2 y3 y4; cases h; exact fn24 (⟨(⟨y1, y2⟩ : S.Inter), (⟨y3, y4⟩ : S.Cong)⟩ : S.Value) hp
  · cases h)

noncomputable def body62 : Code := (Tryz.f62.body).getD .skip
theorem fn62 : CallOk c24 62 [] (wr_S22 (S.inter_Whole)) (wo_S22 (S.inter_Whole)) :=
  (call_ok (c := c24) (f := 62) (fn := Tryz.f62) (code := body62) (args := ([])) (loop := noLoop) (md := ⟨false, false⟩) (rd := rd_S22) (wr := wr_S22) (wo := wo_S22) (r := S.inter_Whole) c24_ok (by kernel_rfl) (by kernel_rfl) (by kernel_rfl) (no_loops (by kernel_rfl)) (by kernel_rfl) (by kernel_rfl) (by kernel_rfl)
    rw_S22 np_S22 no_S22 (by kernel_rfl) (Tr.vc_of_noReq (by kernel_rfl)))

noncomputable def sem62 : List W → Option (W × List (List W) × List Prop)
  | [] => some (wr_S22 (S.inter_Whole), wo_S22 (S.inter_Whole), [])
  | _ => none
noncomputable def c62 : Cfg El := c24.add 62 sem62
theorem c62_ok : CfgOk c62 := c24_ok.add (fun args w => Tryz.call62 args w) (fun vs r outs ps h hp => by
  unfold sem62 at h
  split at h
  · cases h; exact fn62
  · cases h)

noncomputable def body27 : Code := (Tryz.f27.body).getD .skip
theorem fn27 : CallOk c62 27 [] (wr_S27 (S.value_Top)) (wo_S27 (S.value_Top)) :=
  (call_ok (c := c62) (f := 27) (fn := Tryz.f27) (code := body27) (args := ([])) (loop := noLoop) (md := ⟨false, false⟩) (rd := rd_S27) (wr := wr_S27) (wo := wo_S27) (r := S.value_Top) c62_ok (by kernel_rfl) (by kernel_rfl) (by kernel_rfl) (no_loops (by kernel_rfl)) (by kernel_rfl) (by kernel_rfl) (by kernel_rfl)
    rw_S27 np_S27 no_S27 (by kernel_rfl) (Tr.vc_of_noReq (by kernel_rfl)))

noncomputable def sem27 : List W → Option (W × List (List W) × List Prop)
  | [] => some (wr_S27 (S.value_Top), wo_S27 (S.value_Top), [])
  | _ => none
noncomputable def c27 : Cfg El := c62.add 27 sem27
theorem c27_ok : CfgOk c27 := c62_ok.add (fun args w => Tryz.call27 args w) (fun vs r outs ps h hp => by
  unfold sem27 at h
  split at h
  · cases h; exact fn27
  · cases h)

noncomputable def body30 : Code := (Tryz.f30.body).getD .skip
theorem fn30 (lo : Int) (hi : Int) (hp : S.value_Range_pre lo hi) : CallOk c27 30 [.int .i64 lo, .int .i64 hi] (wr_S27 (S.value_Range lo hi)) (wo_S27 (S.value_Range lo hi)) :=
  (call_ok (c := c27) (f := 30) (fn := Tryz.f30) (code := body30) (args := ([.int .i64 lo, .int .i64 hi])) (loop := noLoop) (md := ⟨false, false⟩) (rd := rd_S27) (wr := wr_S27) (wo := wo_S27) (r := (S.value_Range lo hi)) c27_ok (by kernel_rfl) (by kernel_rfl) (by kernel_rfl) (no_loops (by kernel_rfl)) (by kernel_rfl) (by kernel_rfl) (by kernel_rfl)
    rw_S27 np_S27 no_S27 (by kernel_rfl) (Eq.mpr (show Vm.Tr.vc (Vm.Fn c27 Tryz.f30 body30 noLoop ([.int .i64 lo, .int .i64 hi])) = S.value_Range_pre lo hi by kernel_rfl) hp))

noncomputable def sem30 : List W → Option (W × List (List W) × List Prop)
  | [.int .i64 y1, .int .i64 y2] => some (wr_S27 (S.value_Range y1 y2), wo_S27 (S.value_Range y1 y2), [S.value_Range_pre y1 y2])
  | _ => none
noncomputable def c30 : Cfg El := c27.add 30 sem30
theorem c30_ok : CfgOk c30 := c27_ok.add (fun args w => Tryz.call30 args w) (fun vs r outs ps h hp => by
  unfold sem30 at h
  split at h
  · rename_i y1 y2; cases h; exact fn30 y1 y2 hp
  · cases h)

noncomputable def body45 : Code := (Tryz.f45.body).getD .skip
theorem fn45 (m : Int) (n : Int) (hp : S.cong_Make_pre m n) : CallOk c30 45 [.int .u64 m, .int .i64 n] (wr_S25 (S.cong_Make m n)) (wo_S25 (S.cong_Make m n)) :=
  (call_ok (c := c30) (f := 45) (fn := Tryz.f45) (code := body45) (args := ([.int .u64 m, .int .i64 n])) (loop := noLoop) (md := ⟨false, false⟩) (rd := rd_S25) (wr := wr_S25) (wo := wo_S25) (r := (S.cong_Make m n)) c30_ok (by kernel_rfl) (by kernel_rfl) (by kernel_rfl) (no_loops (by kernel_rfl)) (by kernel_rfl) (by kernel_rfl) (by kernel_rfl)
    rw_S25 np_S25 no_S25 (by kernel_rfl) (Eq.mpr (show Vm.Tr.vc (Vm.Fn c30 Tryz.f45 body45 noLoop ([.int .u64 m, .int .i64 n])) = S.cong_Make_pre m n by kernel_rfl) hp))

noncomputable def sem45 : List W → Option (W × List (List W) × List Prop)
  | [.int .u64 y1, .int .i64 y2] => some (wr_S25 (S.cong_Make y1 y2), wo_S25 (S.cong_Make y1 y2), [S.cong_Make_pre y1 y2])
  | _ => none
noncomputable def c45 : Cfg El := c30.add 45 sem45
theorem c45_ok : CfgOk c45 := c30_ok.add (fun args w => Tryz.call45 args w) (fun vs r outs ps h hp => by
  unfold sem45 at h
  split at h
  · rename_i y1 y2; cases h; exact fn45 y1 y2 hp
  · cases h)

noncomputable def body140 : Code := (Tryz.f140.body).getD .skip
theorem fn140 (a : S.Inter) (b : S.Inter) : CallOk c45 140 [.agg [.int .i64 a.Lo, .int .i64 a.Hi], .agg [.int .i64 b.Lo, .int .i64 b.Hi]] (wr_S22 (S.inter_Join_1 a b)) (wo_S22 (S.inter_Join_1 a b)) :=
  (call_ok (c := c45) (f := 140) (fn := Tryz.f140) (code := body140) (args := ([.agg [.int .i64 a.Lo, .int .i64 a.Hi], .agg [.int .i64 b.Lo, .int .i64 b.Hi]])) (loop := noLoop) (md := ⟨false, false⟩) (rd := rd_S22) (wr := wr_S22) (wo := wo_S22) (r := (S.inter_Join_1 a b)) c45_ok (by kernel_rfl) (by kernel_rfl) (by kernel_rfl) (no_loops (by kernel_rfl)) (by kernel_rfl) (by kernel_rfl) (by kernel_rfl)
    rw_S22 np_S22 no_S22 (by kernel_rfl) (Tr.vc_of_noReq (by kernel_rfl)))

noncomputable def sem140 : List W → Option (W × List (List W) × List Prop)
  | [.agg [.int .i64 y1, .int .i64 y2], .agg [.int .i64 y3, .int .i64 y4]] => some (wr_S22 (S.inter_Join_1 (⟨y1, y2⟩ : S.Inter) (⟨y3, y4⟩ : S.Inter)), wo_S22 (S.inter_Join_1 (⟨y1, y2⟩ : S.Inter) (⟨y3, y4⟩ : S.Inter)), [])
  | _ => none
noncomputable def c140 : Cfg El := c45.add 140 sem140
theorem c140_ok : CfgOk c140 := c45_ok.add (fun args w => Tryz.call140 args w) (fun vs r outs ps h hp => by
  unfold sem140 at h
  split at h
  · rename_i y1 y2 y3 y4; cases h; exact fn140 (⟨y1, y2⟩ : S.Inter) (⟨y3, y4⟩ : S.Inter)
  · cases h)

noncomputable def body146 : Code := (Tryz.f146.body).getD .skip
theorem fn146 (a : S.Inter) (b : S.Inter) : CallOk c140 146 [.agg [.int .i64 a.Lo, .int .i64 a.Hi], .agg [.int .i64 b.Lo, .int .i64 b.Hi]] (wr_S22 (S.inter_Meet_1 a b)) (wo_S22 (S.inter_Meet_1 a b)) :=
  (call_ok (c := c140) (f := 146) (fn := Tryz.f146) (code := body146) (args := ([.agg [.int .i64 a.Lo, .int .i64 a.Hi], .agg [.int .i64 b.Lo, .int .i64 b.Hi]])) (loop := noLoop) (md := ⟨false, false⟩) (rd := rd_S22) (wr := wr_S22) (wo := wo_S22) (r := (S.inter_Meet_1 a b)) c140_ok (by kernel_rfl) (by kernel_rfl) (by kernel_rfl) (no_loops (by kernel_rfl)) (by kernel_rfl) (by kernel_rfl) (by kernel_rfl)
    rw_S22 np_S22 no_S22 (by kernel_rfl) (Tr.vc_of_noReq (by kernel_rfl)))

noncomputable def sem146 : List W → Option (W × List (List W) × List Prop)
  | [.agg [.int .i64 y1, .int .i64 y2], .agg [.int .i64 y3, .int .i64 y4]] => some (wr_S22 (S.inter_Meet_1 (⟨y1, y2⟩ : S.Inter) (⟨y3, y4⟩ : S.Inter)), wo_S22 (S.inter_Meet_1 (⟨y1, y2⟩ : S.Inter) (⟨y3, y4⟩ : S.Inter)), [])
  | _ => none
noncomputable def c146 : Cfg El := c140.add 146 sem146
theorem c146_ok : CfgOk c146 := c140_ok.add (fun args w => Tryz.call146 args w) (fun vs r outs ps h hp => by
  unfold sem146 at h
  split at h
  · rename_i y1 y2 y3 y4; cases h; exact fn146 (⟨y1, y2⟩ : S.Inter) (⟨y3, y4⟩ : S.Inter)
  · cases h)

noncomputable def body139 : Code := (Tryz.f139.body).getD .skip
noncomputable def lb139_inter_Join_1_0 : Code := ((nth (loopsOf 0 body139) 0).getD (0, .skip)).2
noncomputable def px139_inter_Join_1_0 : List W → Option S.inter_fold_inter_Join_1_L0
  | [.fn 140, .ptr 3 0, .list 23 false y1, .int .i64 y2, .int .i64 y3, .int .i64 y4, .int .i64 y5] => some ⟨y1, y2, y3, ⟨y4, y5⟩⟩
  | _ => none
noncomputable def tx139_inter_Join_1_0 (x : S.inter_fold_inter_Join_1_L0) : List W := [.fn 140, .ptr 3 0, .list 23 false x.t9, .int .i64 x.t10, .int .i64 x.t11, .int .i64 x.first.Lo, .int .i64 x.first.Hi]
noncomputable def py139_inter_Join_1_0 : Ex → List W → Option (S.inter_fold_inter_Join_1_L0)
  | .exit 0, [.fn 140, .ptr 3 0, .list 23 false y1, .int .i64 y2, .int .i64 y3, .int .i64 y4, .int .i64 y5] => some ⟨y1, y2, y3, ⟨y4, y5⟩⟩
  | _, _ => none
noncomputable def ld139_inter_Join_1_0 : LD El where
  X := S.inter_fold_inter_Join_1_L0
  Y := S.inter_fold_inter_Join_1_L0
  keys := [.slot 2, .slot 3, .slot 9, .slot 10, .slot 11, .cell 3 0, .cell 3 1]
  fits := [117, 0, 146, 3, 3, 2, 2]
  px := px139_inter_Join_1_0
  tx := tx139_inter_Join_1_0
  okeys := [.slot 2, .slot 3, .slot 9, .slot 10, .slot 11, .cell 3 0, .cell 3 1]
  ofits := [117, 0, 146, 3, 3, 2, 2]
  py := py139_inter_Join_1_0
  ty := fun y => tx139_inter_Join_1_0 y
  oex := fun _ => .exit 0
  junk := [.slot 8, .slot 12, .slot 13, .slot 14, .slot 15, .slot 16, .slot 17, .slot 18, .slot 19]
  rows := []
noncomputable def lo139_inter_Join_1_0 : S.inter_fold_inter_Join_1_L0 → Tr El := fun y => .leaf (.exit 0) (zipK ld139_inter_Join_1_0.okeys (tx139_inter_Join_1_0 y) ++ junkK ld139_inter_Join_1_0.junk)
noncomputable def loop139_inter_Join_1 : Nat → Env El → Tr El
  | 0 => ld139_inter_Join_1_0.tree c146 Tryz.f139.ntmps 0 lb139_inter_Join_1_0 S.inter_fold_inter_Join_1_L0_run lo139_inter_Join_1_0 S.inter_fold_inter_Join_1_L0_step S.inter_fold_inter_Join_1_L0_vcs
  | _ => fun _ => .fail
theorem lok139_inter_Join_1_0 : ∀ w0 S0, LoopOk c146 Tryz.f139.ntmps w0 S0 loop139_inter_Join_1 0 lb139_inter_Join_1_0 :=
  loop_ok (c := c146) (n := Tryz.f139.ntmps) c146_ok mixed ld139_inter_Join_1_0 (body := lb139_inter_Join_1_0) (key := 0) (loop := loop139_inter_Join_1) (F := S.inter_fold_inter_Join_1_L0_run) (out := lo139_inter_Join_1_0) (step := S.inter_fold_inter_Join_1_L0_step) (vcs := S.inter_fold_inter_Join_1_L0_vcs)
    (fun _ => by kernel_rfl) (no_loops (by kernel_rfl)) rfl rfl
    (fun vs x h => by unfold ld139_inter_Join_1_0 px139_inter_Join_1_0 at h; dsimp only at h; split at h <;> first | (cases h; rfl) | cases h)
    (fun e vs y h => by unfold ld139_inter_Join_1_0 py139_inter_Join_1_0 at h; dsimp only at h; split at h <;> first | (cases h; exact ⟨rfl, rfl⟩) | cases h)
    (by kernel_rfl) (fun _ => rfl) (fun _ _ h => h) (fun x => by kernel_rfl) (fun x h => Eq.mpr (show Vm.Tr.vc (Vm.ev c146 Tryz.f139.ntmps loop139_inter_Join_1 0 lb139_inter_Join_1_0 (ld139_inter_Join_1_0.vars x) []) = S.inter_fold_inter_Join_1_L0_vcs x by kernel_rfl) h)
theorem fn139_inter_Join_1 (first : S.Inter) (l : (List S.Inter)) (hp : S.inter_fold_inter_Join_1_pre first l) : CallOk c146 139 [.agg [.int .i64 first.Lo, .int .i64 first.Hi], .list 23 false l, .fn 140] (wr_S22 (S.inter_fold_inter_Join_1 first l)) (wo_S22 (S.inter_fold_inter_Join_1 first l)) :=
  (call_ok (c := c146) (f := 139) (fn := Tryz.f139) (code := body139) (args := ([.agg [.int .i64 first.Lo, .int .i64 first.Hi], .list 23 false l, .fn 140])) (loop := loop139_inter_Join_1) (md := ⟨false, false⟩) (rd := rd_S22) (wr := wr_S22) (wo := wo_S22) (r := (S.inter_fold_inter_Join_1 first l)) c146_ok (by kernel_rfl) (by kernel_rfl) (by kernel_rfl) (loops_all (l := [(0, lb139_inter_Join_1_0)]) (by kernel_rfl) ⟨lok139_inter_Join_1_0, trivial⟩) (by kernel_rfl) (by kernel_rfl) (by kernel_rfl)
    rw_S22 np_S22 no_S22 (by kernel_rfl) (Eq.mpr (show Vm.Tr.vc (Vm.Fn c146 Tryz.f139 body139 loop139_inter_Join_1 ([.agg [.int .i64 first.Lo, .int .i64 first.Hi], .list 23 false l, .fn 140])) = S.inter_fold_inter_Join_1_pre first l by kernel_rfl) hp))

noncomputable def lb139_inter_Meet_1_0 : Code := ((nth (loopsOf 0 body139) 0).getD (0, .skip)).2
noncomputable def px139_inter_Meet_1_0 : List W → Option S.inter_fold_inter_Meet_1_L0
  | [.fn 146, .ptr 3 0, .list 23 false y1, .int .i64 y2, .int .i64 y3, .int .i64 y4, .int .i64 y5] => some ⟨y1, y2, y3, ⟨y4, y5⟩⟩
  | _ => none
noncomputable def tx139_inter_Meet_1_0 (x : S.inter_fold_inter_Meet_1_L0) : List W := [.fn 146, .ptr 3 0, .list 23 false x.t9, .int .i64 x.t10, .int .i64 x.t11, .int .i64 x.first.Lo, .int .i64 x.first.Hi]
noncomputable def py139_inter_Meet_1_0 : Ex → List W → Option (S.inter_fold_inter_Meet_1_L0)
  | .exit 0, [.fn 146, .ptr 3 0, .list 23 false y1, .int .i64 y2, .int .i64 y3, .int .i64 y4, .int .i64 y5] => some ⟨y1, y2, y3, ⟨y4, y5⟩⟩
  | _, _ => none
noncomputable def ld139_inter_Meet_1_0 : LD El where
  X := S.inter_fold_inter_Meet_1_L0
  Y := S.inter_fold_inter_Meet_1_L0
  keys := [.slot 2, .slot 3, .slot 9, .slot 10, .slot 11, .cell 3 0, .cell 3 1]
  fits := [117, 0, 146, 3, 3, 2, 2]
  px := px139_inter_Meet_1_0
  tx := tx139_inter_Meet_1_0
  okeys := [.slot 2, .slot 3, .slot 9, .slot 10, .slot 11, .cell 3 0, .cell 3 1]
  ofits := [117, 0, 146, 3, 3, 2, 2]
  py := py139_inter_Meet_1_0
  ty := fun y => tx139_inter_Meet_1_0 y
  oex := fun _ => .exit 0
  junk := [.slot 8, .slot 12, .slot 13, .slot 14, .slot 15, .slot 16, .slot 17, .slot 18, .slot 19]
  rows := []
noncomputable def lo139_inter_Meet_1_0 : S.inter_fold_inter_Meet_1_L0 → Tr El := fun y => .leaf (.exit 0) (zipK ld139_inter_Meet_1_0.okeys (tx139_inter_Meet_1_0 y) ++ junkK ld139_inter_Meet_1_0.junk)
noncomputable def loop139_inter_Meet_1 : Nat → Env El → Tr El
  | 0 => ld139_inter_Meet_1_0.tree c146 Tryz.f139.ntmps 0 lb139_inter_Meet_1_0 S.inter_fold_inter_Meet_1_L0_run lo139_inter_Meet_1_0 S.inter_fold_inter_Meet_1_L0_step S.inter_fold_inter_Meet_1_L0_vcs
  | _ => fun _ => .fail
theorem lok139_inter_Meet_1_0 : ∀ w0 S0, LoopOk c146 Tryz.f139.ntmps w0 S0 loop139_inter_Meet_1 0 lb139_inter_Meet_1_0 :=
  loop_ok (c := c146) (n := Tryz.f139.ntmps) c146_ok mixed ld139_inter_Meet_1_0 (body := lb139_inter_Meet_1_0) (key := 0) (loop := loop139_inter_Meet_1) (F := S.inter_fold_inter_Meet_1_L0_run) (out := lo139_inter_Meet_1_0) (step := S.inter_fold_inter_Meet_1_L0_step) (vcs := S.inter_fold_inter_Meet_1_L0_vcs)
    (fun _ => by kernel_rfl) (no_loops (by kernel_rfl)) rfl rfl
    (fun vs x h => by unfold ld139_inter_Meet_1_0 px139_inter_Meet_1_0 at h; dsimp only at h; split at h <;> first | (cases h; rfl) | cases h)
    (fun e vs y h => by unfold ld139_inter_Meet_1_0 py139_inter_Meet_1_0 at h; dsimp only at h; split at h <;> first | (cases h; exact ⟨rfl, rfl⟩) | cases h)
    (by kernel_rfl) (fun _ => rfl) (fun _ _ h => h) (fun x => by kernel_rfl) (fun x h => Eq.mpr (show Vm.Tr.vc (Vm.ev c146 Tryz.f139.ntmps loop139_inter_Meet_1 0 lb139_inter_Meet_1_0 (ld139_inter_Meet_1_0.vars x) []) = S.inter_fold_inter_Meet_1_L0_vcs x by kernel_rfl) h)
theorem fn139_inter_Meet_1 (first : S.Inter) (l : (List S.Inter)) (hp : S.inter_fold_inter_Meet_1_pre first l) : CallOk c146 139 [.agg [.int .i64 first.Lo, .int .i64 first.Hi], .list 23 false l, .fn 146] (wr_S22 (S.inter_fold_inter_Meet_1 first l)) (wo_S22 (S.inter_fold_inter_Meet_1 first l)) :=
  (call_ok (c := c146) (f := 139) (fn := Tryz.f139) (code := body139) (args := ([.agg [.int .i64 first.Lo, .int .i64 first.Hi], .list 23 false l, .fn 146])) (loop := loop139_inter_Meet_1) (md := ⟨false, false⟩) (rd := rd_S22) (wr := wr_S22) (wo := wo_S22) (r := (S.inter_fold_inter_Meet_1 first l)) c146_ok (by kernel_rfl) (by kernel_rfl) (by kernel_rfl) (loops_all (l := [(0, lb139_inter_Meet_1_0)]) (by kernel_rfl) ⟨lok139_inter_Meet_1_0, trivial⟩) (by kernel_rfl) (by kernel_rfl) (by kernel_rfl)
    rw_S22 np_S22 no_S22 (by kernel_rfl) (Eq.mpr (show Vm.Tr.vc (Vm.Fn c146 Tryz.f139 body139 loop139_inter_Meet_1 ([.agg [.int .i64 first.Lo, .int .i64 first.Hi], .list 23 false l, .fn 146])) = S.inter_fold_inter_Meet_1_pre first l by kernel_rfl) hp))

noncomputable def sem139 : List W → Option (W × List (List W) × List Prop)
  | [.agg [.int .i64 y1, .int .i64 y2], .list 23 false y3, .fn 140] => some (wr_S22 (S.inter_fold_inter_Join_1 (⟨y1, y2⟩ : S.Inter) y3), wo_S22 (S.inter_fold_inter_Join_1 (⟨y1, y2⟩ : S.Inter) y3), [S.inter_fold_inter_Join_1_pre (⟨y1, y2⟩ : S.Inter) y3])
  | [.agg [.int .i64 y1, .int .i64 y2], .list 23 false y3, .fn 146] => some (wr_S22 (S.inter_fold_inter_Meet_1 (⟨y1, y2⟩ : S.Inter) y3), wo_S22 (S.inter_fold_inter_Meet_1 (⟨y1, y2⟩ : S.Inter) y3), [S.inter_fold_inter_Meet_1_pre (⟨y1, y2⟩ : S.Inter) y3])
  | _ => none
noncomputable def c139 : Cfg El := c146.add 139 sem139
theorem c139_ok : CfgOk c139 := c146_ok.add (fun args w => Tryz.call139 args w) (fun vs r outs ps h hp => by
  unfold sem139 at h
  split at h
  · rename_i y1 y2 y3; cases h; exact fn139_inter_Join_1 (⟨y1, y2⟩ : S.Inter) y3 hp
  · rename_i y1 y2 y3; cases h; exact fn139_inter_Meet_1 (⟨y1, y2⟩ : S.Inter) y3 hp
  · cases h)

noncomputable def body92 : Code := (Tryz.f92.body).getD .skip
theorem fn92 (l : (List S.Inter)) (hp : S.inter_Join_pre l) : CallOk c139 92 [.list 23 false l] (wr_S22 (S.inter_Join l)) (wo_S22 (S.inter_Join l)) :=
  (call_ok (c := c139) (f := 92) (fn := Tryz.f92) (code := body92) (args := ([.list 23 false l])) (loop := noLoop) (md := ⟨false, false⟩) (rd := rd_S22) (wr := wr_S22) (wo := wo_S22) (r := (S.inter_Join l)) c139_ok (by kernel_rfl) (by kernel_rfl) (by kernel_rfl) (no_loops (by kernel_rfl)) (by kernel_rfl) (by kernel_rfl) (by kernel_rfl)
    rw_S22 np_S22 no_S22 (by kernel_rfl) (Eq.mpr (show Vm.Tr.vc (Vm.Fn c139 Tryz.f92 body92 noLoop ([.list 23 false l])) = S.inter_Join_pre l by kernel_rfl) hp))

noncomputable def sem92 : List W → Option (W × List (List W) × List Prop)
  | [.list 23 false y1] => some (wr_S22 (S.inter_Join y1), wo_S22 (S.inter_Join y1), [S.inter_Join_pre y1])
  | _ => none
noncomputable def c92 : Cfg El := c139.add 92 sem92
theorem c92_ok : CfgOk c92 := c139_ok.add (fun args w => Tryz.call92 args w) (fun vs r outs ps h hp => by
  unfold sem92 at h
  split at h
  · rename_i y1; cases h; exact fn92 y1 hp
  · cases h)

noncomputable def body141 : Code := (Tryz.f141.body).getD .skip
noncomputable def lb141_0 : Code := ((nth (loopsOf 0 body141) 0).getD (0, .skip)).2
noncomputable def px141_0 : List W → Option S.cong_gcd_L0
  | [.int .u64 y1, .int .u64 y2] => some ⟨y1, y2⟩
  | _ => none
noncomputable def tx141_0 (x : S.cong_gcd_L0) : List W := [.int .u64 x.a, .int .u64 x.b]
noncomputable def py141_0 : Ex → List W → Option (S.cong_gcd_L0)
  | .exit 0, [.int .u64 y1, .int .u64 y2] => some ⟨y1, y2⟩
  | _, _ => none
noncomputable def ld141_0 : LD El where
  X := S.cong_gcd_L0
  Y := S.cong_gcd_L0
  keys := [.slot 0, .slot 1]
  fits := [24, 24]
  px := px141_0
  tx := tx141_0
  okeys := [.slot 0, .slot 1]
  ofits := [24, 24]
  py := py141_0
  ty := fun y => tx141_0 y
  oex := fun _ => .exit 0
  junk := [.slot 5, .slot 6, .slot 7, .slot 8, .slot 9, .slot 10]
  rows := []
noncomputable def lo141_0 : S.cong_gcd_L0 → Tr El := fun y => .leaf (.exit 0) (zipK ld141_0.okeys (tx141_0 y) ++ junkK ld141_0.junk)
noncomputable def loop141 : Nat → Env El → Tr El
  | 0 => ld141_0.tree c92 Tryz.f141.ntmps 0 lb141_0 S.cong_gcd_L0_run lo141_0 S.cong_gcd_L0_step S.cong_gcd_L0_vcs
  | _ => fun _ => .fail
theorem lok141_0 : ∀ w0 S0, LoopOk c92 Tryz.f141.ntmps w0 S0 loop141 0 lb141_0 :=
  loop_ok (c := c92) (n := Tryz.f141.ntmps) c92_ok mixed ld141_0 (body := lb141_0) (key := 0) (loop := loop141) (F := S.cong_gcd_L0_run) (out := lo141_0) (step := S.cong_gcd_L0_step) (vcs := S.cong_gcd_L0_vcs)
    (fun _ => by kernel_rfl) (no_loops (by kernel_rfl)) rfl rfl
    (fun vs x h => by unfold ld141_0 px141_0 at h; dsimp only at h; split at h <;> first | (cases h; rfl) | cases h)
    (fun e vs y h => by unfold ld141_0 py141_0 at h; dsimp only at h; split at h <;> first | (cases h; exact ⟨rfl, rfl⟩) | cases h)
    (by kernel_rfl) (fun _ => rfl) (fun _ _ h => h) (fun x => by kernel_rfl) (fun x h => Eq.mpr (show Vm.Tr.vc (Vm.ev c92 Tryz.f141.ntmps loop141 0 lb141_0 (ld141_0.vars x) []) = S.cong_gcd_L0_vcs x by kernel_rfl) h)
theorem fn141 (a : Int) (b : Int) (hp : S.cong_gcd_pre a b) : CallOk c92 141 [.int .u64 a, .int .u64 b] (wr_u64 (S.cong_gcd a b)) (wo_u64 (S.cong_gcd a b)) :=
  (call_ok (c := c92) (f := 141) (fn := Tryz.f141) (code := body141) (args := ([.int .u64 a, .int .u64 b])) (loop := loop141) (md := ⟨false, false⟩) (rd := rd_u64) (wr := wr_u64) (wo := wo_u64) (r := (S.cong_gcd a b)) c92_ok (by kernel_rfl) (by kernel_rfl) (by kernel_rfl) (loops_all (l := [(0, lb141_0)]) (by kernel_rfl) ⟨lok141_0, trivial⟩) (by kernel_rfl) (by kernel_rfl) (by kernel_rfl)
    rw_u64 np_u64 no_u64 (by kernel_rfl) (Eq.mpr (show Vm.Tr.vc (Vm.Fn c92 Tryz.f141 body141 loop141 ([.int .u64 a, .int .u64 b])) = S.cong_gcd_pre a b by kernel_rfl) hp))

noncomputable def sem141 : List W → Option (W × List (List W) × List Prop)
  | [.int .u64 y1, .int .u64 y2] => some (wr_u64 (S.cong_gcd y1 y2), wo_u64 (S.cong_gcd y1 y2), [S.cong_gcd_pre y1 y2])
  | _ => none
noncomputable def c141 : Cfg El := c92.add 141 sem141
theorem c141_ok : CfgOk c141 := c92_ok.add (fun args w => Tryz.call141 args w) (fun vs r outs ps h hp => by
  unfold sem141 at h
  split at h
  · rename_i y1 y2; cases h; exact fn141 y1 y2 hp
  · cases h)

noncomputable def body143 : Code := (Tryz.f143.body).getD .skip
theorem fn143 (a : Int) (b : Int) : CallOk c141 143 [.int .u64 a, .int .u64 b] (wr_u64 (S.cong_far a b)) (wo_u64 (S.cong_far a b)) :=
  (call_ok (c := c141) (f := 143) (fn := Tryz.f143) (code := body143) (args := ([.int .u64 a, .int .u64 b])) (loop := noLoop) (md := ⟨false, false⟩) (rd := rd_u64) (wr := wr_u64) (wo := wo_u64) (r := (S.cong_far a b)) c141_ok (by kernel_rfl) (by kernel_rfl) (by kernel_rfl) (no_loops (by kernel_rfl)) (by kernel_rfl) (by kernel_rfl) (by kernel_rfl)
    rw_u64 np_u64 no_u64 (by kernel_rfl) (Tr.vc_of_noReq (by kernel_rfl)))

noncomputable def sem143 : List W → Option (W × List (List W) × List Prop)
  | [.int .u64 y1, .int .u64 y2] => some (wr_u64 (S.cong_far y1 y2), wo_u64 (S.cong_far y1 y2), [])
  | _ => none
noncomputable def c143 : Cfg El := c141.add 143 sem143
theorem c143_ok : CfgOk c143 := c141_ok.add (fun args w => Tryz.call143 args w) (fun vs r outs ps h hp => by
  unfold sem143 at h
  split at h
  · rename_i y1 y2; cases h; exact fn143 y1 y2
  · cases h)

noncomputable def body93 : Code := (Tryz.f93.body).getD .skip
theorem fn93 (a : S.Cong) (b : S.Cong) (hp : S.cong_Join_pre a b) : CallOk c143 93 [.agg [.int .u64 a.M, .int .u64 a.R], .agg [.int .u64 b.M, .int .u64 b.R]] (wr_S25 (S.cong_Join a b)) (wo_S25 (S.cong_Join a b)) :=
  (call_ok (c := c143) (f := 93) (fn := Tryz.f93) (code := body93) (args := ([.agg [.int .u64 a.M, .int .u64 a.R], .agg [.int .u64 b.M, .int .u64 b.R]])) (loop := noLoop) (md := ⟨false, false⟩) (rd := rd_S25) (wr := wr_S25) (wo := wo_S25) (r := (S.cong_Join a b)) c143_ok (by kernel_rfl) (by kernel_rfl) (by kernel_rfl) (no_loops (by kernel_rfl)) (by kernel_rfl) (by kernel_rfl) (by kernel_rfl)
    rw_S25 np_S25 no_S25 (by kernel_rfl) (Eq.mpr (show Vm.Tr.vc (Vm.Fn c143 Tryz.f93 body93 noLoop ([.agg [.int .u64 a.M, .int .u64 a.R], .agg [.int .u64 b.M, .int .u64 b.R]])) = S.cong_Join_pre a b by kernel_rfl) hp))

noncomputable def sem93 : List W → Option (W × List (List W) × List Prop)
  | [.agg [.int .u64 y1, .int .u64 y2], .agg [.int .u64 y3, .int .u64 y4]] => some (wr_S25 (S.cong_Join (⟨y1, y2⟩ : S.Cong) (⟨y3, y4⟩ : S.Cong)), wo_S25 (S.cong_Join (⟨y1, y2⟩ : S.Cong) (⟨y3, y4⟩ : S.Cong)), [S.cong_Join_pre (⟨y1, y2⟩ : S.Cong) (⟨y3, y4⟩ : S.Cong)])
  | _ => none
noncomputable def c93 : Cfg El := c143.add 93 sem93
theorem c93_ok : CfgOk c93 := c143_ok.add (fun args w => Tryz.call93 args w) (fun vs r outs ps h hp => by
  unfold sem93 at h
  split at h
  · rename_i y1 y2 y3 y4; cases h; exact fn93 (⟨y1, y2⟩ : S.Cong) (⟨y3, y4⟩ : S.Cong) hp
  · cases h)

noncomputable def body91 : Code := (Tryz.f91.body).getD .skip
theorem fn91 (a : S.Value) (b : S.Value) (hp : S.value_Join_1_pre a b) : CallOk c93 91 [.agg [.int .i64 a.I.Lo, .int .i64 a.I.Hi, .int .u64 a.C.M, .int .u64 a.C.R], .agg [.int .i64 b.I.Lo, .int .i64 b.I.Hi, .int .u64 b.C.M, .int .u64 b.C.R]] (wr_S27 (S.value_Join_1 a b)) (wo_S27 (S.value_Join_1 a b)) :=
  (call_ok (c := c93) (f := 91) (fn := Tryz.f91) (code := body91) (args := ([.agg [.int .i64 a.I.Lo, .int .i64 a.I.Hi, .int .u64 a.C.M, .int .u64 a.C.R], .agg [.int .i64 b.I.Lo, .int .i64 b.I.Hi, .int .u64 b.C.M, .int .u64 b.C.R]])) (loop := noLoop) (md := ⟨false, false⟩) (rd := rd_S27) (wr := wr_S27) (wo := wo_S27) (r := (S.value_Join_1 a b)) c93_ok (by kernel_rfl) (by kernel_rfl) (by kernel_rfl) (no_loops (by kernel_rfl)) (by kernel_rfl) (by kernel_rfl) (by kernel_rfl)
    rw_S27 np_S27 no_S27 (by kernel_rfl) (Eq.mpr (show Vm.Tr.vc (Vm.Fn c93 Tryz.f91 body91 noLoop ([.agg [.int .i64 a.I.Lo, .int .i64 a.I.Hi, .int .u64 a.C.M, .int .u64 a.C.R], .agg [.int .i64 b.I.Lo, .int .i64 b.I.Hi, .int .u64 b.C.M, .int .u64 b.C.R]])) = S.value_Join_1_pre a b by kernel_rfl) hp))

noncomputable def sem91 : List W → Option (W × List (List W) × List Prop)
  | [.agg [.int .i64 y1, .int .i64 y2, .int .u64 y3, .int .u64 y4], .agg [.int .i64 y5, .int .i64 y6, .int .u64 y7, .int .u64 y8]] => some (wr_S27 (S.value_Join_1 (⟨(⟨y1, y2⟩ : S.Inter), (⟨y3, y4⟩ : S.Cong)⟩ : S.Value) (⟨(⟨y5, y6⟩ : S.Inter), (⟨y7, y8⟩ : S.Cong)⟩ : S.Value)), wo_S27 (S.value_Join_1 (⟨(⟨y1, y2⟩ : S.Inter), (⟨y3, y4⟩ : S.Cong)⟩ : S.Value) (⟨(⟨y5, y6⟩ : S.Inter), (⟨y7, y8⟩ : S.Cong)⟩ : S.Value)), [S.value_Join_1_pre (⟨(⟨y1, y2⟩ : S.Inter), (⟨y3, y4⟩ : S.Cong)⟩ : S.Value) (⟨(⟨y5, y6⟩ : S.Inter), (⟨y7, y8⟩ : S.Cong)⟩ : S.Value)])
  | _ => none
noncomputable def c91 : Cfg El := c93.add 91 sem91
theorem c91_ok : CfgOk c91 := c93_ok.add (fun args w => Tryz.call91 args w) (fun vs r outs ps h hp => by
  unfold sem91 at h
  split at h
  · rename_i y1 y2 y3 y4 y5 y6 y7 y8; cases h; exact fn91 (⟨(⟨y1, y2⟩ : S.Inter), (⟨y3, y4⟩ : S.Cong)⟩ : S.Value) (⟨(⟨y5, y6⟩ : S.Inter), (⟨y7, y8⟩ : S.Cong)⟩ : S.Value) hp
  · cases h)

noncomputable def body145 : Code := (Tryz.f145.body).getD .skip
theorem fn145 (c : S.Cong) (n : Int) (hp : S.cong_Cong_Has_pre c n) : CallOk c91 145 [.agg [.int .u64 c.M, .int .u64 c.R], .int .i64 n] (wr_b (S.cong_Cong_Has c n)) (wo_b (S.cong_Cong_Has c n)) :=
  (call_ok (c := c91) (f := 145) (fn := Tryz.f145) (code := body145) (args := ([.agg [.int .u64 c.M, .int .u64 c.R], .int .i64 n])) (loop := noLoop) (md := ⟨false, false⟩) (rd := rd_b) (wr := wr_b) (wo := wo_b) (r := (S.cong_Cong_Has c n)) c91_ok (by kernel_rfl) (by kernel_rfl) (by kernel_rfl) (no_loops (by kernel_rfl)) (by kernel_rfl) (by kernel_rfl) (by kernel_rfl)
    rw_b np_b no_b (by kernel_rfl) (Eq.mpr (show Vm.Tr.vc (Vm.Fn c91 Tryz.f145 body145 noLoop ([.agg [.int .u64 c.M, .int .u64 c.R], .int .i64 n])) = S.cong_Cong_Has_pre c n by kernel_rfl) hp))

noncomputable def sem145 : List W → Option (W × List (List W) × List Prop)
  | [.agg [.int .u64 y1, .int .u64 y2], .int .i64 y3] => some (wr_b (S.cong_Cong_Has (⟨y1, y2⟩ : S.Cong) y3), wo_b (S.cong_Cong_Has (⟨y1, y2⟩ : S.Cong) y3), [S.cong_Cong_Has_pre (⟨y1, y2⟩ : S.Cong) y3])
  | _ => none
noncomputable def c145 : Cfg El := c91.add 145 sem145
theorem c145_ok : CfgOk c145 := c91_ok.add (fun args w => Tryz.call145 args w) (fun vs r outs ps h hp => by
  unfold sem145 at h
  split at h
  · rename_i y1 y2 y3; cases h; exact fn145 (⟨y1, y2⟩ : S.Cong) y3 hp
  · cases h)

noncomputable def rd_S25_b : W → List (List W) → Option (S.Cong × Bool)
  | .tup [.agg [.int .u64 x1, .int .u64 x2], .bool x3], [] => some ⟨⟨x1, x2⟩, x3⟩
  | _, _ => none
noncomputable def wr_S25_b (x : S.Cong × Bool) : W := .tup [.agg [.int .u64 x.1.M, .int .u64 x.1.R], .bool x.2]
noncomputable def wo_S25_b (_x : S.Cong × Bool) : List (List W) := []
theorem rw_S25_b (v : W) (os : List (List W)) (x : S.Cong × Bool) (h : rd_S25_b v os = some x) : v = wr_S25_b x ∧ os = wo_S25_b x := by
  unfold rd_S25_b at h
  split at h <;> first | (cases h; exact ⟨rfl, rfl⟩) | cases h
theorem np_S25_b (x : S.Cong × Bool) : okv (fun _ => false) (wr_S25_b x) = true := rfl
theorem no_S25_b (x : S.Cong × Bool) : all (fun cs => all (ok0 fun _ => false) cs) (wo_S25_b x) = true := rfl

noncomputable def body144 : Code := (Tryz.f144.body).getD .skip
theorem fn144 (c : S.Cong) (ok : Bool) : CallOk c145 144 [.agg [.int .u64 c.M, .int .u64 c.R], .bool ok] (wr_S25_b (S.cong_Cong_if1 c ok)) (wo_S25_b (S.cong_Cong_if1 c ok)) :=
  (call_ok (c := c145) (f := 144) (fn := Tryz.f144) (code := body144) (args := ([.agg [.int .u64 c.M, .int .u64 c.R], .bool ok])) (loop := noLoop) (md := ⟨false, false⟩) (rd := rd_S25_b) (wr := wr_S25_b) (wo := wo_S25_b) (r := (S.cong_Cong_if1 c ok)) c145_ok (by kernel_rfl) (by kernel_rfl) (by kernel_rfl) (no_loops (by kernel_rfl)) (by kernel_rfl) (by kernel_rfl) (by kernel_rfl)
    rw_S25_b np_S25_b no_S25_b (by kernel_rfl) (Tr.vc_of_noReq (by kernel_rfl)))

noncomputable def sem144 : List W → Option (W × List (List W) × List Prop)
  | [.agg [.int .u64 y1, .int .u64 y2], .bool y3] => some (wr_S25_b (S.cong_Cong_if1 (⟨y1, y2⟩ : S.Cong) y3), wo_S25_b (S.cong_Cong_if1 (⟨y1, y2⟩ : S.Cong) y3), [])
  | _ => none
noncomputable def c144 : Cfg El := c145.add 144 sem144
theorem c144_ok : CfgOk c144 := c145_ok.add (fun args w => Tryz.call144 args w) (fun vs r outs ps h hp => by
  unfold sem144 at h
  split at h
  · rename_i y1 y2 y3; cases h; exact fn144 (⟨y1, y2⟩ : S.Cong) y3
  · cases h)

noncomputable def body95 : Code := (Tryz.f95.body).getD .skip
theorem fn95 (a : S.Cong) (b : S.Cong) (hp : S.cong_Meet_pre a b) : CallOk c144 95 [.agg [.int .u64 a.M, .int .u64 a.R], .agg [.int .u64 b.M, .int .u64 b.R]] (wr_S25_b (S.cong_Meet a b)) (wo_S25_b (S.cong_Meet a b)) :=
  (call_ok (c := c144) (f := 95) (fn := Tryz.f95) (code := body95) (args := ([.agg [.int .u64 a.M, .int .u64 a.R], .agg [.int .u64 b.M, .int .u64 b.R]])) (loop := noLoop) (md := ⟨false, false⟩) (rd := rd_S25_b) (wr := wr_S25_b) (wo := wo_S25_b) (r := (S.cong_Meet a b)) c144_ok (by kernel_rfl) (by kernel_rfl) (by kernel_rfl) (no_loops (by kernel_rfl)) (by kernel_rfl) (by kernel_rfl) (by kernel_rfl)
    rw_S25_b np_S25_b no_S25_b (by kernel_rfl) (Eq.mpr (show Vm.Tr.vc (Vm.Fn c144 Tryz.f95 body95 noLoop ([.agg [.int .u64 a.M, .int .u64 a.R], .agg [.int .u64 b.M, .int .u64 b.R]])) = S.cong_Meet_pre a b by kernel_rfl) hp))

noncomputable def sem95 : List W → Option (W × List (List W) × List Prop)
  | [.agg [.int .u64 y1, .int .u64 y2], .agg [.int .u64 y3, .int .u64 y4]] => some (wr_S25_b (S.cong_Meet (⟨y1, y2⟩ : S.Cong) (⟨y3, y4⟩ : S.Cong)), wo_S25_b (S.cong_Meet (⟨y1, y2⟩ : S.Cong) (⟨y3, y4⟩ : S.Cong)), [S.cong_Meet_pre (⟨y1, y2⟩ : S.Cong) (⟨y3, y4⟩ : S.Cong)])
  | _ => none
noncomputable def c95 : Cfg El := c144.add 95 sem95
theorem c95_ok : CfgOk c95 := c144_ok.add (fun args w => Tryz.call95 args w) (fun vs r outs ps h hp => by
  unfold sem95 at h
  split at h
  · rename_i y1 y2 y3 y4; cases h; exact fn95 (⟨y1, y2⟩ : S.Cong) (⟨y3, y4⟩ : S.Cong) hp
  · cases h)

noncomputable def body96 : Code := (Tryz.f96.body).getD .skip
theorem fn96 (l : (List S.Inter)) (hp : S.inter_Meet_pre l) : CallOk c95 96 [.list 23 false l] (wr_S22 (S.inter_Meet l)) (wo_S22 (S.inter_Meet l)) :=
  (call_ok (c := c95) (f := 96) (fn := Tryz.f96) (code := body96) (args := ([.list 23 false l])) (loop := noLoop) (md := ⟨false, false⟩) (rd := rd_S22) (wr := wr_S22) (wo := wo_S22) (r := (S.inter_Meet l)) c95_ok (by kernel_rfl) (by kernel_rfl) (by kernel_rfl) (no_loops (by kernel_rfl)) (by kernel_rfl) (by kernel_rfl) (by kernel_rfl)
    rw_S22 np_S22 no_S22 (by kernel_rfl) (Eq.mpr (show Vm.Tr.vc (Vm.Fn c95 Tryz.f96 body96 noLoop ([.list 23 false l])) = S.inter_Meet_pre l by kernel_rfl) hp))

noncomputable def sem96 : List W → Option (W × List (List W) × List Prop)
  | [.list 23 false y1] => some (wr_S22 (S.inter_Meet y1), wo_S22 (S.inter_Meet y1), [S.inter_Meet_pre y1])
  | _ => none
noncomputable def c96 : Cfg El := c95.add 96 sem96
theorem c96_ok : CfgOk c96 := c95_ok.add (fun args w => Tryz.call96 args w) (fun vs r outs ps h hp => by
  unfold sem96 at h
  split at h
  · rename_i y1; cases h; exact fn96 y1 hp
  · cases h)

noncomputable def body94 : Code := (Tryz.f94.body).getD .skip
theorem fn94 (a : S.Value) (b : S.Value) (hp : S.value_Meet_1_pre a b) : CallOk c96 94 [.agg [.int .i64 a.I.Lo, .int .i64 a.I.Hi, .int .u64 a.C.M, .int .u64 a.C.R], .agg [.int .i64 b.I.Lo, .int .i64 b.I.Hi, .int .u64 b.C.M, .int .u64 b.C.R]] (wr_S27 (S.value_Meet_1 a b)) (wo_S27 (S.value_Meet_1 a b)) :=
  (call_ok (c := c96) (f := 94) (fn := Tryz.f94) (code := body94) (args := ([.agg [.int .i64 a.I.Lo, .int .i64 a.I.Hi, .int .u64 a.C.M, .int .u64 a.C.R], .agg [.int .i64 b.I.Lo, .int .i64 b.I.Hi, .int .u64 b.C.M, .int .u64 b.C.R]])) (loop := noLoop) (md := ⟨false, false⟩) (rd := rd_S27) (wr := wr_S27) (wo := wo_S27) (r := (S.value_Meet_1 a b)) c96_ok (by kernel_rfl) (by kernel_rfl) (by kernel_rfl) (no_loops (by kernel_rfl)) (by kernel_rfl) (by kernel_rfl) (by kernel_rfl)
    rw_S27 np_S27 no_S27 (by kernel_rfl) (Eq.mpr (show Vm.Tr.vc (Vm.Fn c96 Tryz.f94 body94 noLoop ([.agg [.int .i64 a.I.Lo, .int .i64 a.I.Hi, .int .u64 a.C.M, .int .u64 a.C.R], .agg [.int .i64 b.I.Lo, .int .i64 b.I.Hi, .int .u64 b.C.M, .int .u64 b.C.R]])) = S.value_Meet_1_pre a b by kernel_rfl) hp))

noncomputable def sem94 : List W → Option (W × List (List W) × List Prop)
  | [.agg [.int .i64 y1, .int .i64 y2, .int .u64 y3, .int .u64 y4], .agg [.int .i64 y5, .int .i64 y6, .int .u64 y7, .int .u64 y8]] => some (wr_S27 (S.value_Meet_1 (⟨(⟨y1, y2⟩ : S.Inter), (⟨y3, y4⟩ : S.Cong)⟩ : S.Value) (⟨(⟨y5, y6⟩ : S.Inter), (⟨y7, y8⟩ : S.Cong)⟩ : S.Value)), wo_S27 (S.value_Meet_1 (⟨(⟨y1, y2⟩ : S.Inter), (⟨y3, y4⟩ : S.Cong)⟩ : S.Value) (⟨(⟨y5, y6⟩ : S.Inter), (⟨y7, y8⟩ : S.Cong)⟩ : S.Value)), [S.value_Meet_1_pre (⟨(⟨y1, y2⟩ : S.Inter), (⟨y3, y4⟩ : S.Cong)⟩ : S.Value) (⟨(⟨y5, y6⟩ : S.Inter), (⟨y7, y8⟩ : S.Cong)⟩ : S.Value)])
  | _ => none
noncomputable def c94 : Cfg El := c96.add 94 sem94
theorem c94_ok : CfgOk c94 := c96_ok.add (fun args w => Tryz.call94 args w) (fun vs r outs ps h hp => by
  unfold sem94 at h
  split at h
  · rename_i y1 y2 y3 y4 y5 y6 y7 y8; cases h; exact fn94 (⟨(⟨y1, y2⟩ : S.Inter), (⟨y3, y4⟩ : S.Cong)⟩ : S.Value) (⟨(⟨y5, y6⟩ : S.Inter), (⟨y7, y8⟩ : S.Cong)⟩ : S.Value) hp
  · cases h)

noncomputable def body90 : Code := (Tryz.f90.body).getD .skip
noncomputable def lb90_value_Join_1_0 : Code := ((nth (loopsOf 0 body90) 0).getD (0, .skip)).2
noncomputable def px90_value_Join_1_0 : List W → Option S.value_fold_value_Join_1_L0
  | [.fn 91, .ptr 3 0, .list 28 false y1, .int .i64 y2, .int .i64 y3, .int .i64 y4, .int .i64 y5, .int .u64 y6, .int .u64 y7] => some ⟨y1, y2, y3, ⟨⟨y4, y5⟩, ⟨y6, y7⟩⟩⟩
  | _ => none
noncomputable def tx90_value_Join_1_0 (x : S.value_fold_value_Join_1_L0) : List W := [.fn 91, .ptr 3 0, .list 28 false x.t9, .int .i64 x.t10, .int .i64 x.t11, .int .i64 x.first.I.Lo, .int .i64 x.first.I.Hi, .int .u64 x.first.C.M, .int .u64 x.first.C.R]
noncomputable def py90_value_Join_1_0 : Ex → List W → Option (S.value_fold_value_Join_1_L0)
  | .exit 0, [.fn 91, .ptr 3 0, .list 28 false y1, .int .i64 y2, .int .i64 y3, .int .i64 y4, .int .i64 y5, .int .u64 y6, .int .u64 y7] => some ⟨y1, y2, y3, ⟨⟨y4, y5⟩, ⟨y6, y7⟩⟩⟩
  | _, _ => none
noncomputable def ld90_value_Join_1_0 : LD El where
  X := S.value_fold_value_Join_1_L0
  Y := S.value_fold_value_Join_1_L0
  keys := [.slot 2, .slot 3, .slot 9, .slot 10, .slot 11, .cell 3 0, .cell 3 1, .cell 3 2, .cell 3 3]
  fits := [60, 0, 56, 3, 3, 2, 2, 24, 24]
  px := px90_value_Join_1_0
  tx := tx90_value_Join_1_0
  okeys := [.slot 2, .slot 3, .slot 9, .slot 10, .slot 11, .cell 3 0, .cell 3 1, .cell 3 2, .cell 3 3]
  ofits := [60, 0, 56, 3, 3, 2, 2, 24, 24]
  py := py90_value_Join_1_0
  ty := fun y => tx90_value_Join_1_0 y
  oex := fun _ => .exit 0
  junk := [.slot 8, .slot 12, .slot 13, .slot 14, .slot 15, .slot 16, .slot 17, .slot 18, .slot 19, .slot 20]
  rows := []
noncomputable def lo90_value_Join_1_0 : S.value_fold_value_Join_1_L0 → Tr El := fun y => .leaf (.exit 0) (zipK ld90_value_Join_1_0.okeys (tx90_value_Join_1_0 y) ++ junkK ld90_value_Join_1_0.junk)
noncomputable def loop90_value_Join_1 : Nat → Env El → Tr El
  | 0 => ld90_value_Join_1_0.tree c94 Tryz.f90.ntmps 0 lb90_value_Join_1_0 S.value_fold_value_Join_1_L0_run lo90_value_Join_1_0 S.value_fold_value_Join_1_L0_step S.value_fold_value_Join_1_L0_vcs
  | _ => fun _ => .fail
theorem lok90_value_Join_1_0 : ∀ w0 S0, LoopOk c94 Tryz.f90.ntmps w0 S0 loop90_value_Join_1 0 lb90_value_Join_1_0 :=
  loop_ok (c := c94) (n := Tryz.f90.ntmps) c94_ok mixed ld90_value_Join_1_0 (body := lb90_value_Join_1_0) (key := 0) (loop := loop90_value_Join_1) (F := S.value_fold_value_Join_1_L0_run) (out := lo90_value_Join_1_0) (step := S.value_fold_value_Join_1_L0_step) (vcs := S.value_fold_value_Join_1_L0_vcs)
    (fun _ => by kernel_rfl) (no_loops (by kernel_rfl)) rfl rfl
    (fun vs x h => by unfold ld90_value_Join_1_0 px90_value_Join_1_0 at h; dsimp only at h; split at h <;> first | (cases h; rfl) | cases h)
    (fun e vs y h => by unfold ld90_value_Join_1_0 py90_value_Join_1_0 at h; dsimp only at h; split at h <;> first | (cases h; exact ⟨rfl, rfl⟩) | cases h)
    (by kernel_rfl) (fun _ => rfl) (fun _ _ h => h) (fun x => by kernel_rfl) (fun x h => Eq.mpr (show Vm.Tr.vc (Vm.ev c94 Tryz.f90.ntmps loop90_value_Join_1 0 lb90_value_Join_1_0 (ld90_value_Join_1_0.vars x) []) = S.value_fold_value_Join_1_L0_vcs x by kernel_rfl) h)
theorem fn90_value_Join_1 (first : S.Value) (l : (List S.Value)) (hp : S.value_fold_value_Join_1_pre first l) : CallOk c94 90 [.agg [.int .i64 first.I.Lo, .int .i64 first.I.Hi, .int .u64 first.C.M, .int .u64 first.C.R], .list 28 false l, .fn 91] (wr_S27 (S.value_fold_value_Join_1 first l)) (wo_S27 (S.value_fold_value_Join_1 first l)) :=
  (call_ok (c := c94) (f := 90) (fn := Tryz.f90) (code := body90) (args := ([.agg [.int .i64 first.I.Lo, .int .i64 first.I.Hi, .int .u64 first.C.M, .int .u64 first.C.R], .list 28 false l, .fn 91])) (loop := loop90_value_Join_1) (md := ⟨false, false⟩) (rd := rd_S27) (wr := wr_S27) (wo := wo_S27) (r := (S.value_fold_value_Join_1 first l)) c94_ok (by kernel_rfl) (by kernel_rfl) (by kernel_rfl) (loops_all (l := [(0, lb90_value_Join_1_0)]) (by kernel_rfl) ⟨lok90_value_Join_1_0, trivial⟩) (by kernel_rfl) (by kernel_rfl) (by kernel_rfl)
    rw_S27 np_S27 no_S27 (by kernel_rfl) (Eq.mpr (show Vm.Tr.vc (Vm.Fn c94 Tryz.f90 body90 loop90_value_Join_1 ([.agg [.int .i64 first.I.Lo, .int .i64 first.I.Hi, .int .u64 first.C.M, .int .u64 first.C.R], .list 28 false l, .fn 91])) = S.value_fold_value_Join_1_pre first l by kernel_rfl) hp))

noncomputable def lb90_value_Meet_1_0 : Code := ((nth (loopsOf 0 body90) 0).getD (0, .skip)).2
noncomputable def px90_value_Meet_1_0 : List W → Option S.value_fold_value_Meet_1_L0
  | [.fn 94, .ptr 3 0, .list 28 false y1, .int .i64 y2, .int .i64 y3, .int .i64 y4, .int .i64 y5, .int .u64 y6, .int .u64 y7] => some ⟨y1, y2, y3, ⟨⟨y4, y5⟩, ⟨y6, y7⟩⟩⟩
  | _ => none
noncomputable def tx90_value_Meet_1_0 (x : S.value_fold_value_Meet_1_L0) : List W := [.fn 94, .ptr 3 0, .list 28 false x.t9, .int .i64 x.t10, .int .i64 x.t11, .int .i64 x.first.I.Lo, .int .i64 x.first.I.Hi, .int .u64 x.first.C.M, .int .u64 x.first.C.R]
noncomputable def py90_value_Meet_1_0 : Ex → List W → Option (S.value_fold_value_Meet_1_L0)
  | .exit 0, [.fn 94, .ptr 3 0, .list 28 false y1, .int .i64 y2, .int .i64 y3, .int .i64 y4, .int .i64 y5, .int .u64 y6, .int .u64 y7] => some ⟨y1, y2, y3, ⟨⟨y4, y5⟩, ⟨y6, y7⟩⟩⟩
  | _, _ => none
noncomputable def ld90_value_Meet_1_0 : LD El where
  X := S.value_fold_value_Meet_1_L0
  Y := S.value_fold_value_Meet_1_L0
  keys := [.slot 2, .slot 3, .slot 9, .slot 10, .slot 11, .cell 3 0, .cell 3 1, .cell 3 2, .cell 3 3]
  fits := [60, 0, 56, 3, 3, 2, 2, 24, 24]
  px := px90_value_Meet_1_0
  tx := tx90_value_Meet_1_0
  okeys := [.slot 2, .slot 3, .slot 9, .slot 10, .slot 11, .cell 3 0, .cell 3 1, .cell 3 2, .cell 3 3]
  ofits := [60, 0, 56, 3, 3, 2, 2, 24, 24]
  py := py90_value_Meet_1_0
  ty := fun y => tx90_value_Meet_1_0 y
  oex := fun _ => .exit 0
  junk := [.slot 8, .slot 12, .slot 13, .slot 14, .slot 15, .slot 16, .slot 17, .slot 18, .slot 19, .slot 20]
  rows := []
noncomputable def lo90_value_Meet_1_0 : S.value_fold_value_Meet_1_L0 → Tr El := fun y => .leaf (.exit 0) (zipK ld90_value_Meet_1_0.okeys (tx90_value_Meet_1_0 y) ++ junkK ld90_value_Meet_1_0.junk)
noncomputable def loop90_value_Meet_1 : Nat → Env El → Tr El
  | 0 => ld90_value_Meet_1_0.tree c94 Tryz.f90.ntmps 0 lb90_value_Meet_1_0 S.value_fold_value_Meet_1_L0_run lo90_value_Meet_1_0 S.value_fold_value_Meet_1_L0_step S.value_fold_value_Meet_1_L0_vcs
  | _ => fun _ => .fail
theorem lok90_value_Meet_1_0 : ∀ w0 S0, LoopOk c94 Tryz.f90.ntmps w0 S0 loop90_value_Meet_1 0 lb90_value_Meet_1_0 :=
  loop_ok (c := c94) (n := Tryz.f90.ntmps) c94_ok mixed ld90_value_Meet_1_0 (body := lb90_value_Meet_1_0) (key := 0) (loop := loop90_value_Meet_1) (F := S.value_fold_value_Meet_1_L0_run) (out := lo90_value_Meet_1_0) (step := S.value_fold_value_Meet_1_L0_step) (vcs := S.value_fold_value_Meet_1_L0_vcs)
    (fun _ => by kernel_rfl) (no_loops (by kernel_rfl)) rfl rfl
    (fun vs x h => by unfold ld90_value_Meet_1_0 px90_value_Meet_1_0 at h; dsimp only at h; split at h <;> first | (cases h; rfl) | cases h)
    (fun e vs y h => by unfold ld90_value_Meet_1_0 py90_value_Meet_1_0 at h; dsimp only at h; split at h <;> first | (cases h; exact ⟨rfl, rfl⟩) | cases h)
    (by kernel_rfl) (fun _ => rfl) (fun _ _ h => h) (fun x => by kernel_rfl) (fun x h => Eq.mpr (show Vm.Tr.vc (Vm.ev c94 Tryz.f90.ntmps loop90_value_Meet_1 0 lb90_value_Meet_1_0 (ld90_value_Meet_1_0.vars x) []) = S.value_fold_value_Meet_1_L0_vcs x by kernel_rfl) h)
theorem fn90_value_Meet_1 (first : S.Value) (l : (List S.Value)) (hp : S.value_fold_value_Meet_1_pre first l) : CallOk c94 90 [.agg [.int .i64 first.I.Lo, .int .i64 first.I.Hi, .int .u64 first.C.M, .int .u64 first.C.R], .list 28 false l, .fn 94] (wr_S27 (S.value_fold_value_Meet_1 first l)) (wo_S27 (S.value_fold_value_Meet_1 first l)) :=
  (call_ok (c := c94) (f := 90) (fn := Tryz.f90) (code := body90) (args := ([.agg [.int .i64 first.I.Lo, .int .i64 first.I.Hi, .int .u64 first.C.M, .int .u64 first.C.R], .list 28 false l, .fn 94])) (loop := loop90_value_Meet_1) (md := ⟨false, false⟩) (rd := rd_S27) (wr := wr_S27) (wo := wo_S27) (r := (S.value_fold_value_Meet_1 first l)) c94_ok (by kernel_rfl) (by kernel_rfl) (by kernel_rfl) (loops_all (l := [(0, lb90_value_Meet_1_0)]) (by kernel_rfl) ⟨lok90_value_Meet_1_0, trivial⟩) (by kernel_rfl) (by kernel_rfl) (by kernel_rfl)
    rw_S27 np_S27 no_S27 (by kernel_rfl) (Eq.mpr (show Vm.Tr.vc (Vm.Fn c94 Tryz.f90 body90 loop90_value_Meet_1 ([.agg [.int .i64 first.I.Lo, .int .i64 first.I.Hi, .int .u64 first.C.M, .int .u64 first.C.R], .list 28 false l, .fn 94])) = S.value_fold_value_Meet_1_pre first l by kernel_rfl) hp))

noncomputable def sem90 : List W → Option (W × List (List W) × List Prop)
  | [.agg [.int .i64 y1, .int .i64 y2, .int .u64 y3, .int .u64 y4], .list 28 false y5, .fn 91] => some (wr_S27 (S.value_fold_value_Join_1 (⟨(⟨y1, y2⟩ : S.Inter), (⟨y3, y4⟩ : S.Cong)⟩ : S.Value) y5), wo_S27 (S.value_fold_value_Join_1 (⟨(⟨y1, y2⟩ : S.Inter), (⟨y3, y4⟩ : S.Cong)⟩ : S.Value) y5), [S.value_fold_value_Join_1_pre (⟨(⟨y1, y2⟩ : S.Inter), (⟨y3, y4⟩ : S.Cong)⟩ : S.Value) y5])
  | [.agg [.int .i64 y1, .int .i64 y2, .int .u64 y3, .int .u64 y4], .list 28 false y5, .fn 94] => some (wr_S27 (S.value_fold_value_Meet_1 (⟨(⟨y1, y2⟩ : S.Inter), (⟨y3, y4⟩ : S.Cong)⟩ : S.Value) y5), wo_S27 (S.value_fold_value_Meet_1 (⟨(⟨y1, y2⟩ : S.Inter), (⟨y3, y4⟩ : S.Cong)⟩ : S.Value) y5), [S.value_fold_value_Meet_1_pre (⟨(⟨y1, y2⟩ : S.Inter), (⟨y3, y4⟩ : S.Cong)⟩ : S.Value) y5])
  | _ => none
noncomputable def c90 : Cfg El := c94.add 90 sem90
theorem c90_ok : CfgOk c90 := c94_ok.add (fun args w => Tryz.call90 args w) (fun vs r outs ps h hp => by
  unfold sem90 at h
  split at h
  · rename_i y1 y2 y3 y4 y5; cases h; exact fn90_value_Join_1 (⟨(⟨y1, y2⟩ : S.Inter), (⟨y3, y4⟩ : S.Cong)⟩ : S.Value) y5 hp
  · rename_i y1 y2 y3 y4 y5; cases h; exact fn90_value_Meet_1 (⟨(⟨y1, y2⟩ : S.Inter), (⟨y3, y4⟩ : S.Cong)⟩ : S.Value) y5 hp
  · cases h)

noncomputable def body35 : Code := (Tryz.f35.body).getD .skip
theorem fn35 (l : (List S.Value)) (hp : S.value_Join_pre l) : CallOk c90 35 [.list 28 false l] (wr_S27 (S.value_Join l)) (wo_S27 (S.value_Join l)) :=
  (call_ok (c := c90) (f := 35) (fn := Tryz.f35) (code := body35) (args := ([.list 28 false l])) (loop := noLoop) (md := ⟨false, false⟩) (rd := rd_S27) (wr := wr_S27) (wo := wo_S27) (r := (S.value_Join l)) c90_ok (by kernel_rfl) (by kernel_rfl) (by kernel_rfl) (no_loops (by kernel_rfl)) (by kernel_rfl) (by kernel_rfl) (by kernel_rfl)
    rw_S27 np_S27 no_S27 (by kernel_rfl) (Eq.mpr (show Vm.Tr.vc (Vm.Fn c90 Tryz.f35 body35 noLoop ([.list 28 false l])) = S.value_Join_pre l by kernel_rfl) hp))

noncomputable def sem35 : List W → Option (W × List (List W) × List Prop)
  | [.list 28 false y1] => some (wr_S27 (S.value_Join y1), wo_S27 (S.value_Join y1), [S.value_Join_pre y1])
  | _ => none
noncomputable def c35 : Cfg El := c90.add 35 sem35
theorem c35_ok : CfgOk c35 := c90_ok.add (fun args w => Tryz.call35 args w) (fun vs r outs ps h hp => by
  unfold sem35 at h
  split at h
  · rename_i y1; cases h; exact fn35 y1 hp
  · cases h)

noncomputable def body36 : Code := (Tryz.f36.body).getD .skip
theorem fn36 (l : (List S.Value)) (hp : S.value_Meet_pre l) : CallOk c35 36 [.list 28 false l] (wr_S27 (S.value_Meet l)) (wo_S27 (S.value_Meet l)) :=
  (call_ok (c := c35) (f := 36) (fn := Tryz.f36) (code := body36) (args := ([.list 28 false l])) (loop := noLoop) (md := ⟨false, false⟩) (rd := rd_S27) (wr := wr_S27) (wo := wo_S27) (r := (S.value_Meet l)) c35_ok (by kernel_rfl) (by kernel_rfl) (by kernel_rfl) (no_loops (by kernel_rfl)) (by kernel_rfl) (by kernel_rfl) (by kernel_rfl)
    rw_S27 np_S27 no_S27 (by kernel_rfl) (Eq.mpr (show Vm.Tr.vc (Vm.Fn c35 Tryz.f36 body36 noLoop ([.list 28 false l])) = S.value_Meet_pre l by kernel_rfl) hp))

noncomputable def sem36 : List W → Option (W × List (List W) × List Prop)
  | [.list 28 false y1] => some (wr_S27 (S.value_Meet y1), wo_S27 (S.value_Meet y1), [S.value_Meet_pre y1])
  | _ => none
noncomputable def c36 : Cfg El := c35.add 36 sem36
theorem c36_ok : CfgOk c36 := c35_ok.add (fun args w => Tryz.call36 args w) (fun vs r outs ps h hp => by
  unfold sem36 at h
  split at h
  · rename_i y1; cases h; exact fn36 y1 hp
  · cases h)

noncomputable def body32 : Code := (Tryz.f32.body).getD .skip
theorem fn32 (hp : S.law21_works_pre) : CallOk c36 32 [] (wr_b (S.law21_works)) (wo_b (S.law21_works)) :=
  (call_ok (c := c36) (f := 32) (fn := Tryz.f32) (code := body32) (args := ([])) (loop := noLoop) (md := ⟨false, false⟩) (rd := rd_b) (wr := wr_b) (wo := wo_b) (r := S.law21_works) c36_ok (by kernel_rfl) (by kernel_rfl) (by kernel_rfl) (no_loops (by kernel_rfl)) (by kernel_rfl) (by kernel_rfl) (by kernel_rfl)
    rw_b np_b no_b (by kernel_rfl) (Eq.mpr (show Vm.Tr.vc (Vm.Fn c36 Tryz.f32 body32 noLoop ([])) = S.law21_works_pre by kernel_rfl) hp))

noncomputable def sem32 : List W → Option (W × List (List W) × List Prop)
  | [] => some (wr_b (S.law21_works), wo_b (S.law21_works), [S.law21_works_pre])
  | _ => none
noncomputable def c32 : Cfg El := c36.add 32 sem32
theorem c32_ok : CfgOk c32 := c36_ok.add (fun args w => Tryz.call32 args w) (fun vs r outs ps h hp => by
  unfold sem32 at h
  split at h
  · cases h; exact fn32 hp
  · cases h)

noncomputable def body3 : Code := (Tryz.f3.body).getD .skip
noncomputable def lb3_0 : Code := ((nth (loopsOf 0 body3) 0).getD (0, .skip)).2
noncomputable def px3_0 : List W → Option S.law21_ValueTells_L0
  | [.int .i64 y1, .int .i64 y2, .bool y3, .ptr 9 0, .ptr 10 0, .ptr 11 0, .int .i64 y4, .int .i64 y5, .int .i64 y6, .int .u64 y7, .int .u64 y8, .int .i64 y9, .int .i64 y10, .int .u64 y11, .int .u64 y12, .int .i64 y13, .int .i64 y14, .int .u64 y15, .int .u64 y16] => some ⟨y1, y2, y3, y4, ⟨⟨y5, y6⟩, ⟨y7, y8⟩⟩, ⟨⟨y9, y10⟩, ⟨y11, y12⟩⟩, ⟨⟨y13, y14⟩, ⟨y15, y16⟩⟩⟩
  | _ => none
noncomputable def tx3_0 (x : S.law21_ValueTells_L0) : List W := [.int .i64 x.n, .int .i64 x.most, .bool x.t8, .ptr 9 0, .ptr 10 0, .ptr 11 0, .int .i64 x.t, .int .i64 x.v.I.Lo, .int .i64 x.v.I.Hi, .int .u64 x.v.C.M, .int .u64 x.v.C.R, .int .i64 x.r.I.Lo, .int .i64 x.r.I.Hi, .int .u64 x.r.C.M, .int .u64 x.r.C.R, .int .i64 x.made.I.Lo, .int .i64 x.made.I.Hi, .int .u64 x.made.C.M, .int .u64 x.made.C.R]
noncomputable def py3_0 : Ex → List W → Option (Bool × S.law21_ValueTells_L0)
  | .ret, [.int .i64 y1, .int .i64 y2, .bool y3, .ptr 9 0, .ptr 10 0, .ptr 11 0, .int .i64 y4, .int .i64 y5, .int .i64 y6, .int .u64 y7, .int .u64 y8, .int .i64 y9, .int .i64 y10, .int .u64 y11, .int .u64 y12, .int .i64 y13, .int .i64 y14, .int .u64 y15, .int .u64 y16] => some ⟨true, ⟨y1, y2, y3, y4, ⟨⟨y5, y6⟩, ⟨y7, y8⟩⟩, ⟨⟨y9, y10⟩, ⟨y11, y12⟩⟩, ⟨⟨y13, y14⟩, ⟨y15, y16⟩⟩⟩⟩
  | .exit 0, [.int .i64 y1, .int .i64 y2, .bool y3, .ptr 9 0, .ptr 10 0, .ptr 11 0, .int .i64 y4, .int .i64 y5, .int .i64 y6, .int .u64 y7, .int .u64 y8, .int .i64 y9, .int .i64 y10, .int .u64 y11, .int .u64 y12, .int .i64 y13, .int .i64 y14, .int .u64 y15, .int .u64 y16] => some ⟨false, ⟨y1, y2, y3, y4, ⟨⟨y5, y6⟩, ⟨y7, y8⟩⟩, ⟨⟨y9, y10⟩, ⟨y11, y12⟩⟩, ⟨⟨y13, y14⟩, ⟨y15, y16⟩⟩⟩⟩
  | _, _ => none
noncomputable def ld3_0 : LD El where
  X := S.law21_ValueTells_L0
  Y := Bool × S.law21_ValueTells_L0
  keys := [.slot 2, .slot 3, .slot 8, .slot 9, .slot 10, .slot 11, .slot 12, .cell 9 0, .cell 9 1, .cell 9 2, .cell 9 3, .cell 10 0, .cell 10 1, .cell 10 2, .cell 10 3, .cell 11 0, .cell 11 1, .cell 11 2, .cell 11 3]
  fits := [2, 3, 4, 0, 0, 0, 3, 2, 2, 24, 24, 2, 2, 24, 24, 2, 2, 24, 24]
  px := px3_0
  tx := tx3_0
  okeys := [.slot 2, .slot 3, .slot 8, .slot 9, .slot 10, .slot 11, .slot 12, .cell 9 0, .cell 9 1, .cell 9 2, .cell 9 3, .cell 10 0, .cell 10 1, .cell 10 2, .cell 10 3, .cell 11 0, .cell 11 1, .cell 11 2, .cell 11 3]
  ofits := [2, 3, 4, 0, 0, 0, 3, 2, 2, 24, 24, 2, 2, 24, 24, 2, 2, 24, 24]
  py := py3_0
  ty := fun y => bif y.1 then tx3_0 y.2 else tx3_0 y.2
  oex := fun y => bif y.1 then .ret else .exit 0
  junk := [.slot 13, .slot 14, .slot 15, .slot 16, .slot 17, .slot 18, .slot 19, .slot 20, .slot 35, .slot 36, .slot 37, .slot 38, .slot 39, .slot 40, .slot 41, .slot 42, .slot 43, .slot 44, .slot 45, .slot 46, .slot 47, .slot 48, .slot 49, .slot 50, .slot 51, .slot 52, .slot 53, .slot 54, .slot 55, .slot 56, .slot 57, .slot 58, .slot 59, .slot 60, .slot 61, .slot 62, .slot 63, .slot 64, .slot 65, .slot 66, .slot 67, .slot 68, .slot 69, .slot 70, .slot 71, .slot 72, .slot 73, .slot 74, .slot 75, .slot 76, .slot 77, .slot 78, .slot 79, .slot 80, .slot 81, .slot 82, .slot 83, .slot 84, .slot 85, .slot 86, .slot 87, .slot 88, .slot 89, .slot 90, .slot 91, .slot 92, .slot 93, .slot 94, .slot 95, .slot 96, .slot 97, .slot 98, .slot 99, .slot 100, .slot 101, .slot 102, .slot 103, .slot 104, .slot 105, .slot 106, .slot 107, .slot 108, .slot 109, .slot 110, .slot 111, .slot 112, .slot 113, .slot 114, .slot 115, .slot 116, .slot 117, .slot 118, .slot 119, .slot 120, .slot 121, .slot 122, .slot 123, .slot 124, .slot 125, .slot 126, .slot 127, .slot 128, .slot 129, .slot 130, .slot 131, .slot 132, .slot 133, .slot 134, .slot 135, .slot 136, .slot 137, .row 535]
  rows := []
noncomputable def lo3_0 : (Bool × S.law21_ValueTells_L0) → Tr El := fun y => .node y.1 (.leaf (.ret) (zipK ld3_0.okeys (tx3_0 y.2) ++ junkK ld3_0.junk)) (.leaf (.exit 0) (zipK ld3_0.okeys (tx3_0 y.2) ++ junkK ld3_0.junk))
noncomputable def lb3_2 : Code := ((nth (loopsOf 0 lb3_0) 0).getD (0, .skip)).2
noncomputable def px3_2 : List W → Option S.law21_ValueTells_L2
  | [.own 535, .int .i64 y1, .rowc 2 false none y2] => some ⟨y1, y2⟩
  | _ => none
noncomputable def tx3_2 (x : S.law21_ValueTells_L2) : List W := [.own 535, .int .i64 x.k, .rowc 2 false none x.l]
noncomputable def py3_2 : Ex → List W → Option (S.law21_ValueTells_L2)
  | .exit 2, [.own 535, .int .i64 y1, .rowc 2 false none y2] => some ⟨y1, y2⟩
  | _, _ => none
noncomputable def ld3_2 : LD El where
  X := S.law21_ValueTells_L2
  Y := S.law21_ValueTells_L2
  keys := [.slot 19, .slot 20, .row 535]
  fits := [40, 3, 0]
  px := px3_2
  tx := tx3_2
  okeys := [.slot 19, .slot 20, .row 535]
  ofits := [40, 3, 0]
  py := py3_2
  ty := fun y => tx3_2 y
  oex := fun _ => .exit 2
  junk := [.slot 129, .slot 130, .slot 131, .slot 132, .slot 133, .slot 134, .slot 135, .slot 136, .slot 137, .row 59, .slot 59]
  rows := [(19, 2)]
noncomputable def lo3_2 : S.law21_ValueTells_L2 → Tr El := fun y => .leaf (.exit 2) (zipK ld3_2.okeys (tx3_2 y) ++ junkK ld3_2.junk)
noncomputable def loop3 : Nat → Env El → Tr El
  | 0 => ld3_0.tree (c32.hint [59] []) Tryz.f3.ntmps 0 lb3_0 S.law21_ValueTells_L0_run lo3_0 S.law21_ValueTells_L0_step S.law21_ValueTells_L0_vcs
  | 2 => ld3_2.tree (c32.hint [59] []) Tryz.f3.ntmps 2 lb3_2 S.law21_ValueTells_L2_run lo3_2 S.law21_ValueTells_L2_step S.law21_ValueTells_L2_vcs
  | _ => fun _ => .fail
theorem lok3_2 : ∀ w0 S0, LoopOk (c32.hint [59] []) Tryz.f3.ntmps w0 S0 loop3 2 lb3_2 :=
  loop_ok (c := (c32.hint [59] [])) (n := Tryz.f3.ntmps) (CfgOk.hint c32_ok [59] []) mixed ld3_2 (body := lb3_2) (key := 2) (loop := loop3) (F := S.law21_ValueTells_L2_run) (out := lo3_2) (step := S.law21_ValueTells_L2_step) (vcs := S.law21_ValueTells_L2_vcs)
    (fun _ => by kernel_rfl) (no_loops (by kernel_rfl)) rfl rfl
    (fun vs x h => by unfold ld3_2 px3_2 at h; dsimp only at h; split at h <;> first | (cases h; rfl) | cases h)
    (fun e vs y h => by unfold ld3_2 py3_2 at h; dsimp only at h; split at h <;> first | (cases h; exact ⟨rfl, rfl⟩) | cases h)
    (by kernel_rfl) (fun _ => rfl) (fun _ _ h => h) (fun x => by kernel_rfl) (fun x h => Eq.mpr (show Vm.Tr.vc (Vm.ev (c32.hint [59] []) Tryz.f3.ntmps loop3 2 lb3_2 (ld3_2.vars x) []) = S.law21_ValueTells_L2_vcs x by kernel_rfl) h)
theorem lok3_0 : ∀ w0 S0, LoopOk (c32.hint [59] []) Tryz.f3.ntmps w0 S0 loop3 0 lb3_0 :=
  loop_ok (c := (c32.hint [59] [])) (n := Tryz.f3.ntmps) (CfgOk.hint c32_ok [59] []) mixed ld3_0 (body := lb3_0) (key := 0) (loop := loop3) (F := S.law21_ValueTells_L0_run) (out := lo3_0) (step := S.law21_ValueTells_L0_step) (vcs := S.law21_ValueTells_L0_vcs)
    (fun _ => by kernel_rfl) (loops_all (l := [(2, lb3_2)]) (by kernel_rfl) ⟨lok3_2, trivial⟩) rfl rfl
    (fun vs x h => by unfold ld3_0 px3_0 at h; dsimp only at h; split at h <;> first | (cases h; rfl) | cases h)
    (fun e vs y h => by unfold ld3_0 py3_0 at h; dsimp only at h; split at h <;> first | (cases h; exact ⟨rfl, rfl⟩) | cases h)
    (by kernel_rfl) (fun | (true, _) => rfl | (false, _) => rfl) (fun | (true, _), _, h => h.1 rfl | (false, _), _, h => h.2 rfl) (fun x => by kernel_rfl) (fun x h => Eq.mpr (show Vm.Tr.vc (Vm.ev (c32.hint [59] []) Tryz.f3.ntmps loop3 0 lb3_0 (ld3_0.vars x) []) = S.law21_ValueTells_L0_vcs x by kernel_rfl) h)
theorem fn3 (i : S.Inter) (c : S.Cong) (n : Int) (most : Int) (hp : S.law21_ValueTells_pre i c n most) : CallOk c32 3 [.agg [.int .i64 i.Lo, .int .i64 i.Hi], .agg [.int .u64 c.M, .int .u64 c.R], .int .i64 n, .int .i64 most] (wr_b (S.law21_ValueTells i c n most)) (wo_b (S.law21_ValueTells i c n most)) :=
  CallOk.same (c := (c32.hint [59] [])) (c' := c32) rfl rfl rfl rfl (call_ok (c := (c32.hint [59] [])) (f := 3) (fn := Tryz.f3) (code := body3) (args := ([.agg [.int .i64 i.Lo, .int .i64 i.Hi], .agg [.int .u64 c.M, .int .u64 c.R], .int .i64 n, .int .i64 most])) (loop := loop3) (md := ⟨false, false⟩) (rd := rd_b) (wr := wr_b) (wo := wo_b) (r := (S.law21_ValueTells i c n most)) (CfgOk.hint c32_ok [59] []) (by kernel_rfl) (by kernel_rfl) (by kernel_rfl) (loops_all (l := [(0, lb3_0)]) (by kernel_rfl) ⟨lok3_0, trivial⟩) (by kernel_rfl) (by kernel_rfl) (by kernel_rfl)
    rw_b np_b no_b (by kernel_rfl) (Eq.mpr (show Vm.Tr.vc (Vm.Fn (c32.hint [59] []) Tryz.f3 body3 loop3 ([.agg [.int .i64 i.Lo, .int .i64 i.Hi], .agg [.int .u64 c.M, .int .u64 c.R], .int .i64 n, .int .i64 most])) = S.law21_ValueTells_pre i c n most by kernel_rfl) hp))

noncomputable def sem3 : List W → Option (W × List (List W) × List Prop)
  | [.agg [.int .i64 y1, .int .i64 y2], .agg [.int .u64 y3, .int .u64 y4], .int .i64 y5, .int .i64 y6] => some (wr_b (S.law21_ValueTells (⟨y1, y2⟩ : S.Inter) (⟨y3, y4⟩ : S.Cong) y5 y6), wo_b (S.law21_ValueTells (⟨y1, y2⟩ : S.Inter) (⟨y3, y4⟩ : S.Cong) y5 y6), [S.law21_ValueTells_pre (⟨y1, y2⟩ : S.Inter) (⟨y3, y4⟩ : S.Cong) y5 y6])
  | _ => none
noncomputable def c3 : Cfg El := c32.add 3 sem3
theorem c3_ok : CfgOk c3 := c32_ok.add (fun args w => Tryz.call3 args w) (fun vs r outs ps h hp => by
  unfold sem3 at h
  split at h
  · rename_i y1 y2 y3 y4 y5 y6; cases h; exact fn3 (⟨y1, y2⟩ : S.Inter) (⟨y3, y4⟩ : S.Cong) y5 y6 hp
  · cases h)

noncomputable def body134 : Code := (Tryz.f134.body).getD .skip
theorem fn134 (i : S.Inter) : CallOk c3 134 [.agg [.int .i64 i.Lo, .int .i64 i.Hi]] (wr_S22 (S.ref19_Plain i)) (wo_S22 (S.ref19_Plain i)) :=
  (call_ok (c := c3) (f := 134) (fn := Tryz.f134) (code := body134) (args := ([.agg [.int .i64 i.Lo, .int .i64 i.Hi]])) (loop := noLoop) (md := ⟨false, false⟩) (rd := rd_S22) (wr := wr_S22) (wo := wo_S22) (r := (S.ref19_Plain i)) c3_ok (by kernel_rfl) (by kernel_rfl) (by kernel_rfl) (no_loops (by kernel_rfl)) (by kernel_rfl) (by kernel_rfl) (by kernel_rfl)
    rw_S22 np_S22 no_S22 (by kernel_rfl) (Tr.vc_of_noReq (by kernel_rfl)))

noncomputable def sem134 : List W → Option (W × List (List W) × List Prop)
  | [.agg [.int .i64 y1, .int .i64 y2]] => some (wr_S22 (S.ref19_Plain (⟨y1, y2⟩ : S.Inter)), wo_S22 (S.ref19_Plain (⟨y1, y2⟩ : S.Inter)), [])
  | _ => none
noncomputable def c134 : Cfg El := c3.add 134 sem134
theorem c134_ok : CfgOk c134 := c3_ok.add (fun args w => Tryz.call134 args w) (fun vs r outs ps h hp => by
  unfold sem134 at h
  split at h
  · rename_i y1 y2; cases h; exact fn134 (⟨y1, y2⟩ : S.Inter)
  · cases h)

noncomputable def body86 : Code := (Tryz.f86.body).getD .skip
theorem fn86 (a : S.Inter) (b : S.Inter) : CallOk c134 86 [.agg [.int .i64 a.Lo, .int .i64 a.Hi], .agg [.int .i64 b.Lo, .int .i64 b.Hi]] (wr_S22 (S.ref19_Join a b)) (wo_S22 (S.ref19_Join a b)) :=
  (call_ok (c := c134) (f := 86) (fn := Tryz.f86) (code := body86) (args := ([.agg [.int .i64 a.Lo, .int .i64 a.Hi], .agg [.int .i64 b.Lo, .int .i64 b.Hi]])) (loop := noLoop) (md := ⟨false, false⟩) (rd := rd_S22) (wr := wr_S22) (wo := wo_S22) (r := (S.ref19_Join a b)) c134_ok (by kernel_rfl) (by kernel_rfl) (by kernel_rfl) (no_loops (by kernel_rfl)) (by kernel_rfl) (by kernel_rfl) (by kernel_rfl)
    rw_S22 np_S22 no_S22 (by kernel_rfl) (Tr.vc_of_noReq (by kernel_rfl)))

noncomputable def sem86 : List W → Option (W × List (List W) × List Prop)
  | [.agg [.int .i64 y1, .int .i64 y2], .agg [.int .i64 y3, .int .i64 y4]] => some (wr_S22 (S.ref19_Join (⟨y1, y2⟩ : S.Inter) (⟨y3, y4⟩ : S.Inter)), wo_S22 (S.ref19_Join (⟨y1, y2⟩ : S.Inter) (⟨y3, y4⟩ : S.Inter)), [])
  | _ => none
noncomputable def c86 : Cfg El := c134.add 86 sem86
theorem c86_ok : CfgOk c86 := c134_ok.add (fun args w => Tryz.call86 args w) (fun vs r outs ps h hp => by
  unfold sem86 at h
  split at h
  · rename_i y1 y2 y3 y4; cases h; exact fn86 (⟨y1, y2⟩ : S.Inter) (⟨y3, y4⟩ : S.Inter)
  · cases h)

noncomputable def body135 : Code := (Tryz.f135.body).getD .skip
noncomputable def semr135 (n : Nat) : List W → Option (W × List (List W) × List Prop)
  | [.int .u64 y1, .int .u64 y2] => some (wr_u64 (S.ref20_Gcd_F n y1 y2), wo_u64 (S.ref20_Gcd_F n y1 y2), [S.ref20_Gcd_D n y1 y2])
  | _ => none
theorem fns135 (n : Nat) (hc : CfgOk (c86.add 135 (semr135 n))) (a : Int) (b : Int) (hp : S.ref20_Gcd_D (n + 1) a b) : CallOk (c86.add 135 (semr135 n)) 135 [.int .u64 a, .int .u64 b] (wr_u64 (S.ref20_Gcd_F (n + 1) a b)) (wo_u64 (S.ref20_Gcd_F (n + 1) a b)) :=
  (call_ok (c := (c86.add 135 (semr135 n))) (f := 135) (fn := Tryz.f135) (code := body135) (args := ([.int .u64 a, .int .u64 b])) (loop := noLoop) (md := ⟨false, false⟩) (rd := rd_u64) (wr := wr_u64) (wo := wo_u64) (r := (S.ref20_Gcd_F (n + 1) a b)) hc (by kernel_rfl) (by kernel_rfl) (by kernel_rfl) (no_loops (by kernel_rfl)) (by kernel_rfl) (by kernel_rfl) (by kernel_rfl)
    rw_u64 np_u64 no_u64 (by kernel_rfl) (Eq.mpr (show Vm.Tr.vc (Vm.Fn (c86.add 135 (semr135 n)) Tryz.f135 body135 noLoop ([.int .u64 a, .int .u64 b])) = S.ref20_Gcd_D (n + 1) a b by kernel_rfl) hp))

theorem fnr135 (n : Nat) : ∀ (a : Int) (b : Int), S.ref20_Gcd_D n a b → CallOk c86 135 [.int .u64 a, .int .u64 b] (wr_u64 (S.ref20_Gcd_F n a b)) (wo_u64 (S.ref20_Gcd_F n a b)) := by
  induction n with
  | zero => intro a b hp; exact False.elim hp
  | succ n ih =>
    intro a b hp
    have hc : CfgOk (c86.add 135 (semr135 n)) := c86_ok.add (fun args w => Tryz.call135 args w) (fun vs r outs ps h hp => by
      unfold semr135 at h
      split at h
      · cases h; exact ih _ _ hp
      · cases h)
    exact CallOk.same (c := (c86.add 135 (semr135 n))) (c' := c86) rfl rfl rfl rfl (fns135 n hc a b hp)
theorem fn135 (a : Int) (b : Int) (hp : S.ref20_Gcd_pre a b) : CallOk c86 135 [.int .u64 a, .int .u64 b] (wr_u64 (S.ref20_Gcd a b)) (wo_u64 (S.ref20_Gcd a b)) := fnr135 _ a b (Classical.epsilon_spec hp)

noncomputable def sem135 : List W → Option (W × List (List W) × List Prop)
  | [.int .u64 y1, .int .u64 y2] => some (wr_u64 (S.ref20_Gcd y1 y2), wo_u64 (S.ref20_Gcd y1 y2), [S.ref20_Gcd_pre y1 y2])
  | _ => none
noncomputable def c135 : Cfg El := c86.add 135 sem135
theorem c135_ok : CfgOk c135 := c86_ok.add (fun args w => Tryz.call135 args w) (fun vs r outs ps h hp => by
  unfold sem135 at h
  split at h
  · rename_i y1 y2; cases h; exact fn135 y1 y2 hp
  · cases h)

noncomputable def body137 : Code := (Tryz.f137.body).getD .skip
theorem fn137 (c : S.Cong) (g : Int) (hp : S.ref20_Of_pre c g) : CallOk c135 137 [.agg [.int .u64 c.M, .int .u64 c.R], .int .u64 g] (wr_u64 (S.ref20_Of c g)) (wo_u64 (S.ref20_Of c g)) :=
  (call_ok (c := c135) (f := 137) (fn := Tryz.f137) (code := body137) (args := ([.agg [.int .u64 c.M, .int .u64 c.R], .int .u64 g])) (loop := noLoop) (md := ⟨false, false⟩) (rd := rd_u64) (wr := wr_u64) (wo := wo_u64) (r := (S.ref20_Of c g)) c135_ok (by kernel_rfl) (by kernel_rfl) (by kernel_rfl) (no_loops (by kernel_rfl)) (by kernel_rfl) (by kernel_rfl) (by kernel_rfl)
    rw_u64 np_u64 no_u64 (by kernel_rfl) (Eq.mpr (show Vm.Tr.vc (Vm.Fn c135 Tryz.f137 body137 noLoop ([.agg [.int .u64 c.M, .int .u64 c.R], .int .u64 g])) = S.ref20_Of_pre c g by kernel_rfl) hp))

noncomputable def sem137 : List W → Option (W × List (List W) × List Prop)
  | [.agg [.int .u64 y1, .int .u64 y2], .int .u64 y3] => some (wr_u64 (S.ref20_Of (⟨y1, y2⟩ : S.Cong) y3), wo_u64 (S.ref20_Of (⟨y1, y2⟩ : S.Cong) y3), [S.ref20_Of_pre (⟨y1, y2⟩ : S.Cong) y3])
  | _ => none
noncomputable def c137 : Cfg El := c135.add 137 sem137
theorem c137_ok : CfgOk c137 := c135_ok.add (fun args w => Tryz.call137 args w) (fun vs r outs ps h hp => by
  unfold sem137 at h
  split at h
  · rename_i y1 y2 y3; cases h; exact fn137 (⟨y1, y2⟩ : S.Cong) y3 hp
  · cases h)

noncomputable def body136 : Code := (Tryz.f136.body).getD .skip
theorem fn136 (a : Int) (b : Int) : CallOk c137 136 [.int .u64 a, .int .u64 b] (wr_u64 (S.ref20_far a b)) (wo_u64 (S.ref20_far a b)) :=
  (call_ok (c := c137) (f := 136) (fn := Tryz.f136) (code := body136) (args := ([.int .u64 a, .int .u64 b])) (loop := noLoop) (md := ⟨false, false⟩) (rd := rd_u64) (wr := wr_u64) (wo := wo_u64) (r := (S.ref20_far a b)) c137_ok (by kernel_rfl) (by kernel_rfl) (by kernel_rfl) (no_loops (by kernel_rfl)) (by kernel_rfl) (by kernel_rfl) (by kernel_rfl)
    rw_u64 np_u64 no_u64 (by kernel_rfl) (Tr.vc_of_noReq (by kernel_rfl)))

noncomputable def sem136 : List W → Option (W × List (List W) × List Prop)
  | [.int .u64 y1, .int .u64 y2] => some (wr_u64 (S.ref20_far y1 y2), wo_u64 (S.ref20_far y1 y2), [])
  | _ => none
noncomputable def c136 : Cfg El := c137.add 136 sem136
theorem c136_ok : CfgOk c136 := c137_ok.add (fun args w => Tryz.call136 args w) (fun vs r outs ps h hp => by
  unfold sem136 at h
  split at h
  · rename_i y1 y2; cases h; exact fn136 y1 y2
  · cases h)

noncomputable def body87 : Code := (Tryz.f87.body).getD .skip
theorem fn87 (a : S.Cong) (b : S.Cong) (hp : S.ref20_Join_pre a b) : CallOk c136 87 [.agg [.int .u64 a.M, .int .u64 a.R], .agg [.int .u64 b.M, .int .u64 b.R]] (wr_S25 (S.ref20_Join a b)) (wo_S25 (S.ref20_Join a b)) :=
  (call_ok (c := c136) (f := 87) (fn := Tryz.f87) (code := body87) (args := ([.agg [.int .u64 a.M, .int .u64 a.R], .agg [.int .u64 b.M, .int .u64 b.R]])) (loop := noLoop) (md := ⟨false, false⟩) (rd := rd_S25) (wr := wr_S25) (wo := wo_S25) (r := (S.ref20_Join a b)) c136_ok (by kernel_rfl) (by kernel_rfl) (by kernel_rfl) (no_loops (by kernel_rfl)) (by kernel_rfl) (by kernel_rfl) (by kernel_rfl)
    rw_S25 np_S25 no_S25 (by kernel_rfl) (Eq.mpr (show Vm.Tr.vc (Vm.Fn c136 Tryz.f87 body87 noLoop ([.agg [.int .u64 a.M, .int .u64 a.R], .agg [.int .u64 b.M, .int .u64 b.R]])) = S.ref20_Join_pre a b by kernel_rfl) hp))

noncomputable def sem87 : List W → Option (W × List (List W) × List Prop)
  | [.agg [.int .u64 y1, .int .u64 y2], .agg [.int .u64 y3, .int .u64 y4]] => some (wr_S25 (S.ref20_Join (⟨y1, y2⟩ : S.Cong) (⟨y3, y4⟩ : S.Cong)), wo_S25 (S.ref20_Join (⟨y1, y2⟩ : S.Cong) (⟨y3, y4⟩ : S.Cong)), [S.ref20_Join_pre (⟨y1, y2⟩ : S.Cong) (⟨y3, y4⟩ : S.Cong)])
  | _ => none
noncomputable def c87 : Cfg El := c136.add 87 sem87
theorem c87_ok : CfgOk c87 := c136_ok.add (fun args w => Tryz.call87 args w) (fun vs r outs ps h hp => by
  unfold sem87 at h
  split at h
  · rename_i y1 y2 y3 y4; cases h; exact fn87 (⟨y1, y2⟩ : S.Cong) (⟨y3, y4⟩ : S.Cong) hp
  · cases h)

noncomputable def body33 : Code := (Tryz.f33.body).getD .skip
theorem fn33 (a : S.Value) (b : S.Value) (hp : S.ref21_Join_pre a b) : CallOk c87 33 [.agg [.int .i64 a.I.Lo, .int .i64 a.I.Hi, .int .u64 a.C.M, .int .u64 a.C.R], .agg [.int .i64 b.I.Lo, .int .i64 b.I.Hi, .int .u64 b.C.M, .int .u64 b.C.R]] (wr_S31 (S.ref21_Join a b)) (wo_S31 (S.ref21_Join a b)) :=
  (call_ok (c := c87) (f := 33) (fn := Tryz.f33) (code := body33) (args := ([.agg [.int .i64 a.I.Lo, .int .i64 a.I.Hi, .int .u64 a.C.M, .int .u64 a.C.R], .agg [.int .i64 b.I.Lo, .int .i64 b.I.Hi, .int .u64 b.C.M, .int .u64 b.C.R]])) (loop := noLoop) (md := ⟨false, false⟩) (rd := rd_S31) (wr := wr_S31) (wo := wo_S31) (r := (S.ref21_Join a b)) c87_ok (by kernel_rfl) (by kernel_rfl) (by kernel_rfl) (no_loops (by kernel_rfl)) (by kernel_rfl) (by kernel_rfl) (by kernel_rfl)
    rw_S31 np_S31 no_S31 (by kernel_rfl) (Eq.mpr (show Vm.Tr.vc (Vm.Fn c87 Tryz.f33 body33 noLoop ([.agg [.int .i64 a.I.Lo, .int .i64 a.I.Hi, .int .u64 a.C.M, .int .u64 a.C.R], .agg [.int .i64 b.I.Lo, .int .i64 b.I.Hi, .int .u64 b.C.M, .int .u64 b.C.R]])) = S.ref21_Join_pre a b by kernel_rfl) hp))

noncomputable def sem33 : List W → Option (W × List (List W) × List Prop)
  | [.agg [.int .i64 y1, .int .i64 y2, .int .u64 y3, .int .u64 y4], .agg [.int .i64 y5, .int .i64 y6, .int .u64 y7, .int .u64 y8]] => some (wr_S31 (S.ref21_Join (⟨(⟨y1, y2⟩ : S.Inter), (⟨y3, y4⟩ : S.Cong)⟩ : S.Value) (⟨(⟨y5, y6⟩ : S.Inter), (⟨y7, y8⟩ : S.Cong)⟩ : S.Value)), wo_S31 (S.ref21_Join (⟨(⟨y1, y2⟩ : S.Inter), (⟨y3, y4⟩ : S.Cong)⟩ : S.Value) (⟨(⟨y5, y6⟩ : S.Inter), (⟨y7, y8⟩ : S.Cong)⟩ : S.Value)), [S.ref21_Join_pre (⟨(⟨y1, y2⟩ : S.Inter), (⟨y3, y4⟩ : S.Cong)⟩ : S.Value) (⟨(⟨y5, y6⟩ : S.Inter), (⟨y7, y8⟩ : S.Cong)⟩ : S.Value)])
  | _ => none
noncomputable def c33 : Cfg El := c87.add 33 sem33
theorem c33_ok : CfgOk c33 := c87_ok.add (fun args w => Tryz.call33 args w) (fun vs r outs ps h hp => by
  unfold sem33 at h
  split at h
  · rename_i y1 y2 y3 y4 y5 y6 y7 y8; cases h; exact fn33 (⟨(⟨y1, y2⟩ : S.Inter), (⟨y3, y4⟩ : S.Cong)⟩ : S.Value) (⟨(⟨y5, y6⟩ : S.Inter), (⟨y7, y8⟩ : S.Cong)⟩ : S.Value) hp
  · cases h)

noncomputable def body138 : Code := (Tryz.f138.body).getD .skip
theorem fn138 (a : S.Cong) (b : S.Cong) (hp : S.ref20_Within_pre a b) : CallOk c33 138 [.agg [.int .u64 a.M, .int .u64 a.R], .agg [.int .u64 b.M, .int .u64 b.R]] (wr_b (S.ref20_Within a b)) (wo_b (S.ref20_Within a b)) :=
  (call_ok (c := c33) (f := 138) (fn := Tryz.f138) (code := body138) (args := ([.agg [.int .u64 a.M, .int .u64 a.R], .agg [.int .u64 b.M, .int .u64 b.R]])) (loop := noLoop) (md := ⟨false, false⟩) (rd := rd_b) (wr := wr_b) (wo := wo_b) (r := (S.ref20_Within a b)) c33_ok (by kernel_rfl) (by kernel_rfl) (by kernel_rfl) (no_loops (by kernel_rfl)) (by kernel_rfl) (by kernel_rfl) (by kernel_rfl)
    rw_b np_b no_b (by kernel_rfl) (Eq.mpr (show Vm.Tr.vc (Vm.Fn c33 Tryz.f138 body138 noLoop ([.agg [.int .u64 a.M, .int .u64 a.R], .agg [.int .u64 b.M, .int .u64 b.R]])) = S.ref20_Within_pre a b by kernel_rfl) hp))

noncomputable def sem138 : List W → Option (W × List (List W) × List Prop)
  | [.agg [.int .u64 y1, .int .u64 y2], .agg [.int .u64 y3, .int .u64 y4]] => some (wr_b (S.ref20_Within (⟨y1, y2⟩ : S.Cong) (⟨y3, y4⟩ : S.Cong)), wo_b (S.ref20_Within (⟨y1, y2⟩ : S.Cong) (⟨y3, y4⟩ : S.Cong)), [S.ref20_Within_pre (⟨y1, y2⟩ : S.Cong) (⟨y3, y4⟩ : S.Cong)])
  | _ => none
noncomputable def c138 : Cfg El := c33.add 138 sem138
theorem c138_ok : CfgOk c138 := c33_ok.add (fun args w => Tryz.call138 args w) (fun vs r outs ps h hp => by
  unfold sem138 at h
  split at h
  · rename_i y1 y2 y3 y4; cases h; exact fn138 (⟨y1, y2⟩ : S.Cong) (⟨y3, y4⟩ : S.Cong) hp
  · cases h)

noncomputable def body88 : Code := (Tryz.f88.body).getD .skip
theorem fn88 (a : S.Cong) (b : S.Cong) (hp : S.ref20_Meet_pre a b) : CallOk c138 88 [.agg [.int .u64 a.M, .int .u64 a.R], .agg [.int .u64 b.M, .int .u64 b.R]] (wr_S25_b (S.ref20_Meet a b)) (wo_S25_b (S.ref20_Meet a b)) :=
  (call_ok (c := c138) (f := 88) (fn := Tryz.f88) (code := body88) (args := ([.agg [.int .u64 a.M, .int .u64 a.R], .agg [.int .u64 b.M, .int .u64 b.R]])) (loop := noLoop) (md := ⟨false, false⟩) (rd := rd_S25_b) (wr := wr_S25_b) (wo := wo_S25_b) (r := (S.ref20_Meet a b)) c138_ok (by kernel_rfl) (by kernel_rfl) (by kernel_rfl) (no_loops (by kernel_rfl)) (by kernel_rfl) (by kernel_rfl) (by kernel_rfl)
    rw_S25_b np_S25_b no_S25_b (by kernel_rfl) (Eq.mpr (show Vm.Tr.vc (Vm.Fn c138 Tryz.f88 body88 noLoop ([.agg [.int .u64 a.M, .int .u64 a.R], .agg [.int .u64 b.M, .int .u64 b.R]])) = S.ref20_Meet_pre a b by kernel_rfl) hp))

noncomputable def sem88 : List W → Option (W × List (List W) × List Prop)
  | [.agg [.int .u64 y1, .int .u64 y2], .agg [.int .u64 y3, .int .u64 y4]] => some (wr_S25_b (S.ref20_Meet (⟨y1, y2⟩ : S.Cong) (⟨y3, y4⟩ : S.Cong)), wo_S25_b (S.ref20_Meet (⟨y1, y2⟩ : S.Cong) (⟨y3, y4⟩ : S.Cong)), [S.ref20_Meet_pre (⟨y1, y2⟩ : S.Cong) (⟨y3, y4⟩ : S.Cong)])
  | _ => none
noncomputable def c88 : Cfg El := c138.add 88 sem88
theorem c88_ok : CfgOk c88 := c138_ok.add (fun args w => Tryz.call88 args w) (fun vs r outs ps h hp => by
  unfold sem88 at h
  split at h
  · rename_i y1 y2 y3 y4; cases h; exact fn88 (⟨y1, y2⟩ : S.Cong) (⟨y3, y4⟩ : S.Cong) hp
  · cases h)

noncomputable def body89 : Code := (Tryz.f89.body).getD .skip
theorem fn89 (a : S.Inter) (b : S.Inter) : CallOk c88 89 [.agg [.int .i64 a.Lo, .int .i64 a.Hi], .agg [.int .i64 b.Lo, .int .i64 b.Hi]] (wr_S22 (S.ref19_Meet a b)) (wo_S22 (S.ref19_Meet a b)) :=
  (call_ok (c := c88) (f := 89) (fn := Tryz.f89) (code := body89) (args := ([.agg [.int .i64 a.Lo, .int .i64 a.Hi], .agg [.int .i64 b.Lo, .int .i64 b.Hi]])) (loop := noLoop) (md := ⟨false, false⟩) (rd := rd_S22) (wr := wr_S22) (wo := wo_S22) (r := (S.ref19_Meet a b)) c88_ok (by kernel_rfl) (by kernel_rfl) (by kernel_rfl) (no_loops (by kernel_rfl)) (by kernel_rfl) (by kernel_rfl) (by kernel_rfl)
    rw_S22 np_S22 no_S22 (by kernel_rfl) (Tr.vc_of_noReq (by kernel_rfl)))

noncomputable def sem89 : List W → Option (W × List (List W) × List Prop)
  | [.agg [.int .i64 y1, .int .i64 y2], .agg [.int .i64 y3, .int .i64 y4]] => some (wr_S22 (S.ref19_Meet (⟨y1, y2⟩ : S.Inter) (⟨y3, y4⟩ : S.Inter)), wo_S22 (S.ref19_Meet (⟨y1, y2⟩ : S.Inter) (⟨y3, y4⟩ : S.Inter)), [])
  | _ => none
noncomputable def c89 : Cfg El := c88.add 89 sem89
theorem c89_ok : CfgOk c89 := c88_ok.add (fun args w => Tryz.call89 args w) (fun vs r outs ps h hp => by
  unfold sem89 at h
  split at h
  · rename_i y1 y2 y3 y4; cases h; exact fn89 (⟨y1, y2⟩ : S.Inter) (⟨y3, y4⟩ : S.Inter)
  · cases h)

noncomputable def body34 : Code := (Tryz.f34.body).getD .skip
theorem fn34 (a : S.Value) (b : S.Value) (hp : S.ref21_Meet_pre a b) : CallOk c89 34 [.agg [.int .i64 a.I.Lo, .int .i64 a.I.Hi, .int .u64 a.C.M, .int .u64 a.C.R], .agg [.int .i64 b.I.Lo, .int .i64 b.I.Hi, .int .u64 b.C.M, .int .u64 b.C.R]] (wr_S31 (S.ref21_Meet a b)) (wo_S31 (S.ref21_Meet a b)) :=
  (call_ok (c := c89) (f := 34) (fn := Tryz.f34) (code := body34) (args := ([.agg [.int .i64 a.I.Lo, .int .i64 a.I.Hi, .int .u64 a.C.M, .int .u64 a.C.R], .agg [.int .i64 b.I.Lo, .int .i64 b.I.Hi, .int .u64 b.C.M, .int .u64 b.C.R]])) (loop := noLoop) (md := ⟨false, false⟩) (rd := rd_S31) (wr := wr_S31) (wo := wo_S31) (r := (S.ref21_Meet a b)) c89_ok (by kernel_rfl) (by kernel_rfl) (by kernel_rfl) (no_loops (by kernel_rfl)) (by kernel_rfl) (by kernel_rfl) (by kernel_rfl)
    rw_S31 np_S31 no_S31 (by kernel_rfl) (Eq.mpr (show Vm.Tr.vc (Vm.Fn c89 Tryz.f34 body34 noLoop ([.agg [.int .i64 a.I.Lo, .int .i64 a.I.Hi, .int .u64 a.C.M, .int .u64 a.C.R], .agg [.int .i64 b.I.Lo, .int .i64 b.I.Hi, .int .u64 b.C.M, .int .u64 b.C.R]])) = S.ref21_Meet_pre a b by kernel_rfl) hp))

noncomputable def sem34 : List W → Option (W × List (List W) × List Prop)
  | [.agg [.int .i64 y1, .int .i64 y2, .int .u64 y3, .int .u64 y4], .agg [.int .i64 y5, .int .i64 y6, .int .u64 y7, .int .u64 y8]] => some (wr_S31 (S.ref21_Meet (⟨(⟨y1, y2⟩ : S.Inter), (⟨y3, y4⟩ : S.Cong)⟩ : S.Value) (⟨(⟨y5, y6⟩ : S.Inter), (⟨y7, y8⟩ : S.Cong)⟩ : S.Value)), wo_S31 (S.ref21_Meet (⟨(⟨y1, y2⟩ : S.Inter), (⟨y3, y4⟩ : S.Cong)⟩ : S.Value) (⟨(⟨y5, y6⟩ : S.Inter), (⟨y7, y8⟩ : S.Cong)⟩ : S.Value)), [S.ref21_Meet_pre (⟨(⟨y1, y2⟩ : S.Inter), (⟨y3, y4⟩ : S.Cong)⟩ : S.Value) (⟨(⟨y5, y6⟩ : S.Inter), (⟨y7, y8⟩ : S.Cong)⟩ : S.Value)])
  | _ => none
noncomputable def c34 : Cfg El := c89.add 34 sem34
theorem c34_ok : CfgOk c34 := c89_ok.add (fun args w => Tryz.call34 args w) (fun vs r outs ps h hp => by
  unfold sem34 at h
  split at h
  · rename_i y1 y2 y3 y4 y5 y6 y7 y8; cases h; exact fn34 (⟨(⟨y1, y2⟩ : S.Inter), (⟨y3, y4⟩ : S.Cong)⟩ : S.Value) (⟨(⟨y5, y6⟩ : S.Inter), (⟨y7, y8⟩ : S.Cong)⟩ : S.Value) hp
  · cases h)

noncomputable def body37 : Code := (Tryz.f37.body).getD .skip
noncomputable def lb37_0 : Code := ((nth (loopsOf 0 body37) 0).getD (0, .skip)).2
noncomputable def px37_0 : List W → Option S.value_Of_L0
  | [.own 23, .list 2 false y1, .int .i64 y2, .int .i64 y3, .rowc 28 false none y4] => some ⟨y1, y2, y3, y4⟩
  | _ => none
noncomputable def tx37_0 (x : S.value_Of_L0) : List W := [.own 23, .list 2 false x.t6, .int .i64 x.t7, .int .i64 x.t8, .rowc 28 false none x.all]
noncomputable def py37_0 : Ex → List W → Option (S.value_Of_L0)
  | .exit 0, [.own 23, .list 2 false y1, .int .i64 y2, .int .i64 y3, .rowc 28 false none y4] => some ⟨y1, y2, y3, y4⟩
  | _, _ => none
noncomputable def ld37_0 : LD El where
  X := S.value_Of_L0
  Y := S.value_Of_L0
  keys := [.slot 3, .slot 6, .slot 7, .slot 8, .row 23]
  fits := [56, 40, 3, 3, 0]
  px := px37_0
  tx := tx37_0
  okeys := [.slot 3, .slot 6, .slot 7, .slot 8, .row 23]
  ofits := [56, 40, 3, 3, 0]
  py := py37_0
  ty := fun y => tx37_0 y
  oex := fun _ => .exit 0
  junk := [.slot 5, .slot 9, .slot 10, .slot 11, .slot 12, .slot 13, .slot 14, .slot 15, .slot 16, .slot 17]
  rows := [(3, 28)]
noncomputable def lo37_0 : S.value_Of_L0 → Tr El := fun y => .leaf (.exit 0) (zipK ld37_0.okeys (tx37_0 y) ++ junkK ld37_0.junk)
noncomputable def loop37 : Nat → Env El → Tr El
  | 0 => ld37_0.tree c34 Tryz.f37.ntmps 0 lb37_0 S.value_Of_L0_run lo37_0 S.value_Of_L0_step S.value_Of_L0_vcs
  | _ => fun _ => .fail
theorem lok37_0 : ∀ w0 S0, LoopOk c34 Tryz.f37.ntmps w0 S0 loop37 0 lb37_0 :=
  loop_ok (c := c34) (n := Tryz.f37.ntmps) c34_ok mixed ld37_0 (body := lb37_0) (key := 0) (loop := loop37) (F := S.value_Of_L0_run) (out := lo37_0) (step := S.value_Of_L0_step) (vcs := S.value_Of_L0_vcs)
    (fun _ => by kernel_rfl) (no_loops (by kernel_rfl)) rfl rfl
    (fun vs x h => by unfold ld37_0 px37_0 at h; dsimp only at h; split at h <;> first | (cases h; rfl) | cases h)
    (fun e vs y h => by unfold ld37_0 py37_0 at h; dsimp only at h; split at h <;> first | (cases h; exact ⟨rfl, rfl⟩) | cases h)
    (by kernel_rfl) (fun _ => rfl) (fun _ _ h => h) (fun x => by kernel_rfl) (fun x h => Eq.mpr (show Vm.Tr.vc (Vm.ev c34 Tryz.f37.ntmps loop37 0 lb37_0 (ld37_0.vars x) []) = S.value_Of_L0_vcs x by kernel_rfl) h)
theorem fn37 (l : (List Int)) (hp : S.value_Of_pre l) : CallOk c34 37 [.list 2 false l] (wr_S27 (S.value_Of l)) (wo_S27 (S.value_Of l)) :=
  (call_ok (c := c34) (f := 37) (fn := Tryz.f37) (code := body37) (args := ([.list 2 false l])) (loop := loop37) (md := ⟨false, false⟩) (rd := rd_S27) (wr := wr_S27) (wo := wo_S27) (r := (S.value_Of l)) c34_ok (by kernel_rfl) (by kernel_rfl) (by kernel_rfl) (loops_all (l := [(0, lb37_0)]) (by kernel_rfl) ⟨lok37_0, trivial⟩) (by kernel_rfl) (by kernel_rfl) (by kernel_rfl)
    rw_S27 np_S27 no_S27 (by kernel_rfl) (Eq.mpr (show Vm.Tr.vc (Vm.Fn c34 Tryz.f37 body37 loop37 ([.list 2 false l])) = S.value_Of_pre l by kernel_rfl) hp))

noncomputable def sem37 : List W → Option (W × List (List W) × List Prop)
  | [.list 2 false y1] => some (wr_S27 (S.value_Of y1), wo_S27 (S.value_Of y1), [S.value_Of_pre y1])
  | _ => none
noncomputable def c37 : Cfg El := c34.add 37 sem37
theorem c37_ok : CfgOk c37 := c34_ok.add (fun args w => Tryz.call37 args w) (fun vs r outs ps h hp => by
  unfold sem37 at h
  split at h
  · rename_i y1; cases h; exact fn37 y1 hp
  · cases h)

noncomputable def body97 : Code := (Tryz.f97.body).getD .skip
theorem fn97 (a : S.Inter) (b : S.Inter) (hp : S.inter_Widen_pre a b) : CallOk c37 97 [.agg [.int .i64 a.Lo, .int .i64 a.Hi], .agg [.int .i64 b.Lo, .int .i64 b.Hi]] (wr_S22 (S.inter_Widen a b)) (wo_S22 (S.inter_Widen a b)) :=
  (call_ok (c := c37) (f := 97) (fn := Tryz.f97) (code := body97) (args := ([.agg [.int .i64 a.Lo, .int .i64 a.Hi], .agg [.int .i64 b.Lo, .int .i64 b.Hi]])) (loop := noLoop) (md := ⟨false, false⟩) (rd := rd_S22) (wr := wr_S22) (wo := wo_S22) (r := (S.inter_Widen a b)) c37_ok (by kernel_rfl) (by kernel_rfl) (by kernel_rfl) (no_loops (by kernel_rfl)) (by kernel_rfl) (by kernel_rfl) (by kernel_rfl)
    rw_S22 np_S22 no_S22 (by kernel_rfl) (Eq.mpr (show Vm.Tr.vc (Vm.Fn c37 Tryz.f97 body97 noLoop ([.agg [.int .i64 a.Lo, .int .i64 a.Hi], .agg [.int .i64 b.Lo, .int .i64 b.Hi]])) = S.inter_Widen_pre a b by kernel_rfl) hp))

noncomputable def sem97 : List W → Option (W × List (List W) × List Prop)
  | [.agg [.int .i64 y1, .int .i64 y2], .agg [.int .i64 y3, .int .i64 y4]] => some (wr_S22 (S.inter_Widen (⟨y1, y2⟩ : S.Inter) (⟨y3, y4⟩ : S.Inter)), wo_S22 (S.inter_Widen (⟨y1, y2⟩ : S.Inter) (⟨y3, y4⟩ : S.Inter)), [S.inter_Widen_pre (⟨y1, y2⟩ : S.Inter) (⟨y3, y4⟩ : S.Inter)])
  | _ => none
noncomputable def c97 : Cfg El := c37.add 97 sem97
theorem c97_ok : CfgOk c97 := c37_ok.add (fun args w => Tryz.call97 args w) (fun vs r outs ps h hp => by
  unfold sem97 at h
  split at h
  · rename_i y1 y2 y3 y4; cases h; exact fn97 (⟨y1, y2⟩ : S.Inter) (⟨y3, y4⟩ : S.Inter) hp
  · cases h)

noncomputable def body38 : Code := (Tryz.f38.body).getD .skip
theorem fn38 (a : S.Value) (b : S.Value) (hp : S.value_Widen_pre a b) : CallOk c97 38 [.agg [.int .i64 a.I.Lo, .int .i64 a.I.Hi, .int .u64 a.C.M, .int .u64 a.C.R], .agg [.int .i64 b.I.Lo, .int .i64 b.I.Hi, .int .u64 b.C.M, .int .u64 b.C.R]] (wr_S27 (S.value_Widen a b)) (wo_S27 (S.value_Widen a b)) :=
  (call_ok (c := c97) (f := 38) (fn := Tryz.f38) (code := body38) (args := ([.agg [.int .i64 a.I.Lo, .int .i64 a.I.Hi, .int .u64 a.C.M, .int .u64 a.C.R], .agg [.int .i64 b.I.Lo, .int .i64 b.I.Hi, .int .u64 b.C.M, .int .u64 b.C.R]])) (loop := noLoop) (md := ⟨false, false⟩) (rd := rd_S27) (wr := wr_S27) (wo := wo_S27) (r := (S.value_Widen a b)) c97_ok (by kernel_rfl) (by kernel_rfl) (by kernel_rfl) (no_loops (by kernel_rfl)) (by kernel_rfl) (by kernel_rfl) (by kernel_rfl)
    rw_S27 np_S27 no_S27 (by kernel_rfl) (Eq.mpr (show Vm.Tr.vc (Vm.Fn c97 Tryz.f38 body38 noLoop ([.agg [.int .i64 a.I.Lo, .int .i64 a.I.Hi, .int .u64 a.C.M, .int .u64 a.C.R], .agg [.int .i64 b.I.Lo, .int .i64 b.I.Hi, .int .u64 b.C.M, .int .u64 b.C.R]])) = S.value_Widen_pre a b by kernel_rfl) hp))

noncomputable def sem38 : List W → Option (W × List (List W) × List Prop)
  | [.agg [.int .i64 y1, .int .i64 y2, .int .u64 y3, .int .u64 y4], .agg [.int .i64 y5, .int .i64 y6, .int .u64 y7, .int .u64 y8]] => some (wr_S27 (S.value_Widen (⟨(⟨y1, y2⟩ : S.Inter), (⟨y3, y4⟩ : S.Cong)⟩ : S.Value) (⟨(⟨y5, y6⟩ : S.Inter), (⟨y7, y8⟩ : S.Cong)⟩ : S.Value)), wo_S27 (S.value_Widen (⟨(⟨y1, y2⟩ : S.Inter), (⟨y3, y4⟩ : S.Cong)⟩ : S.Value) (⟨(⟨y5, y6⟩ : S.Inter), (⟨y7, y8⟩ : S.Cong)⟩ : S.Value)), [S.value_Widen_pre (⟨(⟨y1, y2⟩ : S.Inter), (⟨y3, y4⟩ : S.Cong)⟩ : S.Value) (⟨(⟨y5, y6⟩ : S.Inter), (⟨y7, y8⟩ : S.Cong)⟩ : S.Value)])
  | _ => none
noncomputable def c38 : Cfg El := c97.add 38 sem38
theorem c38_ok : CfgOk c38 := c97_ok.add (fun args w => Tryz.call38 args w) (fun vs r outs ps h hp => by
  unfold sem38 at h
  split at h
  · rename_i y1 y2 y3 y4 y5 y6 y7 y8; cases h; exact fn38 (⟨(⟨y1, y2⟩ : S.Inter), (⟨y3, y4⟩ : S.Cong)⟩ : S.Value) (⟨(⟨y5, y6⟩ : S.Inter), (⟨y7, y8⟩ : S.Cong)⟩ : S.Value) hp
  · cases h)

noncomputable def body98 : Code := (Tryz.f98.body).getD .skip
theorem fn98 (a : S.Inter) (b : S.Inter) : CallOk c38 98 [.agg [.int .i64 a.Lo, .int .i64 a.Hi], .agg [.int .i64 b.Lo, .int .i64 b.Hi]] (wr_S22 (S.ref19_Widen a b)) (wo_S22 (S.ref19_Widen a b)) :=
  (call_ok (c := c38) (f := 98) (fn := Tryz.f98) (code := body98) (args := ([.agg [.int .i64 a.Lo, .int .i64 a.Hi], .agg [.int .i64 b.Lo, .int .i64 b.Hi]])) (loop := noLoop) (md := ⟨false, false⟩) (rd := rd_S22) (wr := wr_S22) (wo := wo_S22) (r := (S.ref19_Widen a b)) c38_ok (by kernel_rfl) (by kernel_rfl) (by kernel_rfl) (no_loops (by kernel_rfl)) (by kernel_rfl) (by kernel_rfl) (by kernel_rfl)
    rw_S22 np_S22 no_S22 (by kernel_rfl) (Tr.vc_of_noReq (by kernel_rfl)))

noncomputable def sem98 : List W → Option (W × List (List W) × List Prop)
  | [.agg [.int .i64 y1, .int .i64 y2], .agg [.int .i64 y3, .int .i64 y4]] => some (wr_S22 (S.ref19_Widen (⟨y1, y2⟩ : S.Inter) (⟨y3, y4⟩ : S.Inter)), wo_S22 (S.ref19_Widen (⟨y1, y2⟩ : S.Inter) (⟨y3, y4⟩ : S.Inter)), [])
  | _ => none
noncomputable def c98 : Cfg El := c38.add 98 sem98
theorem c98_ok : CfgOk c98 := c38_ok.add (fun args w => Tryz.call98 args w) (fun vs r outs ps h hp => by
  unfold sem98 at h
  split at h
  · rename_i y1 y2 y3 y4; cases h; exact fn98 (⟨y1, y2⟩ : S.Inter) (⟨y3, y4⟩ : S.Inter)
  · cases h)

noncomputable def body39 : Code := (Tryz.f39.body).getD .skip
theorem fn39 (a : S.Value) (b : S.Value) (hp : S.ref21_Widen_pre a b) : CallOk c98 39 [.agg [.int .i64 a.I.Lo, .int .i64 a.I.Hi, .int .u64 a.C.M, .int .u64 a.C.R], .agg [.int .i64 b.I.Lo, .int .i64 b.I.Hi, .int .u64 b.C.M, .int .u64 b.C.R]] (wr_S31 (S.ref21_Widen a b)) (wo_S31 (S.ref21_Widen a b)) :=
  (call_ok (c := c98) (f := 39) (fn := Tryz.f39) (code := body39) (args := ([.agg [.int .i64 a.I.Lo, .int .i64 a.I.Hi, .int .u64 a.C.M, .int .u64 a.C.R], .agg [.int .i64 b.I.Lo, .int .i64 b.I.Hi, .int .u64 b.C.M, .int .u64 b.C.R]])) (loop := noLoop) (md := ⟨false, false⟩) (rd := rd_S31) (wr := wr_S31) (wo := wo_S31) (r := (S.ref21_Widen a b)) c98_ok (by kernel_rfl) (by kernel_rfl) (by kernel_rfl) (no_loops (by kernel_rfl)) (by kernel_rfl) (by kernel_rfl) (by kernel_rfl)
    rw_S31 np_S31 no_S31 (by kernel_rfl) (Eq.mpr (show Vm.Tr.vc (Vm.Fn c98 Tryz.f39 body39 noLoop ([.agg [.int .i64 a.I.Lo, .int .i64 a.I.Hi, .int .u64 a.C.M, .int .u64 a.C.R], .agg [.int .i64 b.I.Lo, .int .i64 b.I.Hi, .int .u64 b.C.M, .int .u64 b.C.R]])) = S.ref21_Widen_pre a b by kernel_rfl) hp))

noncomputable def sem39 : List W → Option (W × List (List W) × List Prop)
  | [.agg [.int .i64 y1, .int .i64 y2, .int .u64 y3, .int .u64 y4], .agg [.int .i64 y5, .int .i64 y6, .int .u64 y7, .int .u64 y8]] => some (wr_S31 (S.ref21_Widen (⟨(⟨y1, y2⟩ : S.Inter), (⟨y3, y4⟩ : S.Cong)⟩ : S.Value) (⟨(⟨y5, y6⟩ : S.Inter), (⟨y7, y8⟩ : S.Cong)⟩ : S.Value)), wo_S31 (S.ref21_Widen (⟨(⟨y1, y2⟩ : S.Inter), (⟨y3, y4⟩ : S.Cong)⟩ : S.Value) (⟨(⟨y5, y6⟩ : S.Inter), (⟨y7, y8⟩ : S.Cong)⟩ : S.Value)), [S.ref21_Widen_pre (⟨(⟨y1, y2⟩ : S.Inter), (⟨y3, y4⟩ : S.Cong)⟩ : S.Value) (⟨(⟨y5, y6⟩ : S.Inter), (⟨y7, y8⟩ : S.Cong)⟩ : S.Value)])
  | _ => none
noncomputable def c39 : Cfg El := c98.add 39 sem39
theorem c39_ok : CfgOk c39 := c98_ok.add (fun args w => Tryz.call39 args w) (fun vs r outs ps h hp => by
  unfold sem39 at h
  split at h
  · rename_i y1 y2 y3 y4 y5 y6 y7 y8; cases h; exact fn39 (⟨(⟨y1, y2⟩ : S.Inter), (⟨y3, y4⟩ : S.Cong)⟩ : S.Value) (⟨(⟨y5, y6⟩ : S.Inter), (⟨y7, y8⟩ : S.Cong)⟩ : S.Value) hp
  · cases h)

noncomputable def body99 : Code := (Tryz.f99.body).getD .skip
theorem fn99 (a : S.Inter) (b : S.Inter) : CallOk c39 99 [.agg [.int .i64 a.Lo, .int .i64 a.Hi], .agg [.int .i64 b.Lo, .int .i64 b.Hi]] (wr_S22 (S.inter_Narrow a b)) (wo_S22 (S.inter_Narrow a b)) :=
  (call_ok (c := c39) (f := 99) (fn := Tryz.f99) (code := body99) (args := ([.agg [.int .i64 a.Lo, .int .i64 a.Hi], .agg [.int .i64 b.Lo, .int .i64 b.Hi]])) (loop := noLoop) (md := ⟨false, false⟩) (rd := rd_S22) (wr := wr_S22) (wo := wo_S22) (r := (S.inter_Narrow a b)) c39_ok (by kernel_rfl) (by kernel_rfl) (by kernel_rfl) (no_loops (by kernel_rfl)) (by kernel_rfl) (by kernel_rfl) (by kernel_rfl)
    rw_S22 np_S22 no_S22 (by kernel_rfl) (Tr.vc_of_noReq (by kernel_rfl)))

noncomputable def sem99 : List W → Option (W × List (List W) × List Prop)
  | [.agg [.int .i64 y1, .int .i64 y2], .agg [.int .i64 y3, .int .i64 y4]] => some (wr_S22 (S.inter_Narrow (⟨y1, y2⟩ : S.Inter) (⟨y3, y4⟩ : S.Inter)), wo_S22 (S.inter_Narrow (⟨y1, y2⟩ : S.Inter) (⟨y3, y4⟩ : S.Inter)), [])
  | _ => none
noncomputable def c99 : Cfg El := c39.add 99 sem99
theorem c99_ok : CfgOk c99 := c39_ok.add (fun args w => Tryz.call99 args w) (fun vs r outs ps h hp => by
  unfold sem99 at h
  split at h
  · rename_i y1 y2 y3 y4; cases h; exact fn99 (⟨y1, y2⟩ : S.Inter) (⟨y3, y4⟩ : S.Inter)
  · cases h)

noncomputable def body40 : Code := (Tryz.f40.body).getD .skip
theorem fn40 (a : S.Value) (b : S.Value) (hp : S.value_Narrow_pre a b) : CallOk c99 40 [.agg [.int .i64 a.I.Lo, .int .i64 a.I.Hi, .int .u64 a.C.M, .int .u64 a.C.R], .agg [.int .i64 b.I.Lo, .int .i64 b.I.Hi, .int .u64 b.C.M, .int .u64 b.C.R]] (wr_S27 (S.value_Narrow a b)) (wo_S27 (S.value_Narrow a b)) :=
  (call_ok (c := c99) (f := 40) (fn := Tryz.f40) (code := body40) (args := ([.agg [.int .i64 a.I.Lo, .int .i64 a.I.Hi, .int .u64 a.C.M, .int .u64 a.C.R], .agg [.int .i64 b.I.Lo, .int .i64 b.I.Hi, .int .u64 b.C.M, .int .u64 b.C.R]])) (loop := noLoop) (md := ⟨false, false⟩) (rd := rd_S27) (wr := wr_S27) (wo := wo_S27) (r := (S.value_Narrow a b)) c99_ok (by kernel_rfl) (by kernel_rfl) (by kernel_rfl) (no_loops (by kernel_rfl)) (by kernel_rfl) (by kernel_rfl) (by kernel_rfl)
    rw_S27 np_S27 no_S27 (by kernel_rfl) (Eq.mpr (show Vm.Tr.vc (Vm.Fn c99 Tryz.f40 body40 noLoop ([.agg [.int .i64 a.I.Lo, .int .i64 a.I.Hi, .int .u64 a.C.M, .int .u64 a.C.R], .agg [.int .i64 b.I.Lo, .int .i64 b.I.Hi, .int .u64 b.C.M, .int .u64 b.C.R]])) = S.value_Narrow_pre a b by kernel_rfl) hp))

noncomputable def sem40 : List W → Option (W × List (List W) × List Prop)
  | [.agg [.int .i64 y1, .int .i64 y2, .int .u64 y3, .int .u64 y4], .agg [.int .i64 y5, .int .i64 y6, .int .u64 y7, .int .u64 y8]] => some (wr_S27 (S.value_Narrow (⟨(⟨y1, y2⟩ : S.Inter), (⟨y3, y4⟩ : S.Cong)⟩ : S.Value) (⟨(⟨y5, y6⟩ : S.Inter), (⟨y7, y8⟩ : S.Cong)⟩ : S.Value)), wo_S27 (S.value_Narrow (⟨(⟨y1, y2⟩ : S.Inter), (⟨y3, y4⟩ : S.Cong)⟩ : S.Value) (⟨(⟨y5, y6⟩ : S.Inter), (⟨y7, y8⟩ : S.Cong)⟩ : S.Value)), [S.value_Narrow_pre (⟨(⟨y1, y2⟩ : S.Inter), (⟨y3, y4⟩ : S.Cong)⟩ : S.Value) (⟨(⟨y5, y6⟩ : S.Inter), (⟨y7, y8⟩ : S.Cong)⟩ : S.Value)])
  | _ => none
noncomputable def c40 : Cfg El := c99.add 40 sem40
theorem c40_ok : CfgOk c40 := c99_ok.add (fun args w => Tryz.call40 args w) (fun vs r outs ps h hp => by
  unfold sem40 at h
  split at h
  · rename_i y1 y2 y3 y4 y5 y6 y7 y8; cases h; exact fn40 (⟨(⟨y1, y2⟩ : S.Inter), (⟨y3, y4⟩ : S.Cong)⟩ : S.Value) (⟨(⟨y5, y6⟩ : S.Inter), (⟨y7, y8⟩ : S.Cong)⟩ : S.Value) hp
  · cases h)

noncomputable def body100 : Code := (Tryz.f100.body).getD .skip
theorem fn100 (a : S.Inter) (b : S.Inter) : CallOk c40 100 [.agg [.int .i64 a.Lo, .int .i64 a.Hi], .agg [.int .i64 b.Lo, .int .i64 b.Hi]] (wr_S22 (S.ref19_Narrow a b)) (wo_S22 (S.ref19_Narrow a b)) :=
  (call_ok (c := c40) (f := 100) (fn := Tryz.f100) (code := body100) (args := ([.agg [.int .i64 a.Lo, .int .i64 a.Hi], .agg [.int .i64 b.Lo, .int .i64 b.Hi]])) (loop := noLoop) (md := ⟨false, false⟩) (rd := rd_S22) (wr := wr_S22) (wo := wo_S22) (r := (S.ref19_Narrow a b)) c40_ok (by kernel_rfl) (by kernel_rfl) (by kernel_rfl) (no_loops (by kernel_rfl)) (by kernel_rfl) (by kernel_rfl) (by kernel_rfl)
    rw_S22 np_S22 no_S22 (by kernel_rfl) (Tr.vc_of_noReq (by kernel_rfl)))

noncomputable def sem100 : List W → Option (W × List (List W) × List Prop)
  | [.agg [.int .i64 y1, .int .i64 y2], .agg [.int .i64 y3, .int .i64 y4]] => some (wr_S22 (S.ref19_Narrow (⟨y1, y2⟩ : S.Inter) (⟨y3, y4⟩ : S.Inter)), wo_S22 (S.ref19_Narrow (⟨y1, y2⟩ : S.Inter) (⟨y3, y4⟩ : S.Inter)), [])
  | _ => none
noncomputable def c100 : Cfg El := c40.add 100 sem100
theorem c100_ok : CfgOk c100 := c40_ok.add (fun args w => Tryz.call100 args w) (fun vs r outs ps h hp => by
  unfold sem100 at h
  split at h
  · rename_i y1 y2 y3 y4; cases h; exact fn100 (⟨y1, y2⟩ : S.Inter) (⟨y3, y4⟩ : S.Inter)
  · cases h)

noncomputable def body41 : Code := (Tryz.f41.body).getD .skip
theorem fn41 (a : S.Value) (b : S.Value) (hp : S.ref21_Narrow_pre a b) : CallOk c100 41 [.agg [.int .i64 a.I.Lo, .int .i64 a.I.Hi, .int .u64 a.C.M, .int .u64 a.C.R], .agg [.int .i64 b.I.Lo, .int .i64 b.I.Hi, .int .u64 b.C.M, .int .u64 b.C.R]] (wr_S31 (S.ref21_Narrow a b)) (wo_S31 (S.ref21_Narrow a b)) :=
  (call_ok (c := c100) (f := 41) (fn := Tryz.f41) (code := body41) (args := ([.agg [.int .i64 a.I.Lo, .int .i64 a.I.Hi, .int .u64 a.C.M, .int .u64 a.C.R], .agg [.int .i64 b.I.Lo, .int .i64 b.I.Hi, .int .u64 b.C.M, .int .u64 b.C.R]])) (loop := noLoop) (md := ⟨false, false⟩) (rd := rd_S31) (wr := wr_S31) (wo := wo_S31) (r := (S.ref21_Narrow a b)) c100_ok (by kernel_rfl) (by kernel_rfl) (by kernel_rfl) (no_loops (by kernel_rfl)) (by kernel_rfl) (by kernel_rfl) (by kernel_rfl)
    rw_S31 np_S31 no_S31 (by kernel_rfl) (Eq.mpr (show Vm.Tr.vc (Vm.Fn c100 Tryz.f41 body41 noLoop ([.agg [.int .i64 a.I.Lo, .int .i64 a.I.Hi, .int .u64 a.C.M, .int .u64 a.C.R], .agg [.int .i64 b.I.Lo, .int .i64 b.I.Hi, .int .u64 b.C.M, .int .u64 b.C.R]])) = S.ref21_Narrow_pre a b by kernel_rfl) hp))

noncomputable def sem41 : List W → Option (W × List (List W) × List Prop)
  | [.agg [.int .i64 y1, .int .i64 y2, .int .u64 y3, .int .u64 y4], .agg [.int .i64 y5, .int .i64 y6, .int .u64 y7, .int .u64 y8]] => some (wr_S31 (S.ref21_Narrow (⟨(⟨y1, y2⟩ : S.Inter), (⟨y3, y4⟩ : S.Cong)⟩ : S.Value) (⟨(⟨y5, y6⟩ : S.Inter), (⟨y7, y8⟩ : S.Cong)⟩ : S.Value)), wo_S31 (S.ref21_Narrow (⟨(⟨y1, y2⟩ : S.Inter), (⟨y3, y4⟩ : S.Cong)⟩ : S.Value) (⟨(⟨y5, y6⟩ : S.Inter), (⟨y7, y8⟩ : S.Cong)⟩ : S.Value)), [S.ref21_Narrow_pre (⟨(⟨y1, y2⟩ : S.Inter), (⟨y3, y4⟩ : S.Cong)⟩ : S.Value) (⟨(⟨y5, y6⟩ : S.Inter), (⟨y7, y8⟩ : S.Cong)⟩ : S.Value)])
  | _ => none
noncomputable def c41 : Cfg El := c100.add 41 sem41
theorem c41_ok : CfgOk c41 := c100_ok.add (fun args w => Tryz.call41 args w) (fun vs r outs ps h hp => by
  unfold sem41 at h
  split at h
  · rename_i y1 y2 y3 y4 y5 y6 y7 y8; cases h; exact fn41 (⟨(⟨y1, y2⟩ : S.Inter), (⟨y3, y4⟩ : S.Cong)⟩ : S.Value) (⟨(⟨y5, y6⟩ : S.Inter), (⟨y7, y8⟩ : S.Cong)⟩ : S.Value) hp
  · cases h)

noncomputable def body43 : Code := (Tryz.f43.body).getD .skip
theorem fn43 (a : S.Value) (b : S.Value) (hp : S.ref21_Within_pre a b) : CallOk c41 43 [.agg [.int .i64 a.I.Lo, .int .i64 a.I.Hi, .int .u64 a.C.M, .int .u64 a.C.R], .agg [.int .i64 b.I.Lo, .int .i64 b.I.Hi, .int .u64 b.C.M, .int .u64 b.C.R]] (wr_b (S.ref21_Within a b)) (wo_b (S.ref21_Within a b)) :=
  (call_ok (c := c41) (f := 43) (fn := Tryz.f43) (code := body43) (args := ([.agg [.int .i64 a.I.Lo, .int .i64 a.I.Hi, .int .u64 a.C.M, .int .u64 a.C.R], .agg [.int .i64 b.I.Lo, .int .i64 b.I.Hi, .int .u64 b.C.M, .int .u64 b.C.R]])) (loop := noLoop) (md := ⟨false, false⟩) (rd := rd_b) (wr := wr_b) (wo := wo_b) (r := (S.ref21_Within a b)) c41_ok (by kernel_rfl) (by kernel_rfl) (by kernel_rfl) (no_loops (by kernel_rfl)) (by kernel_rfl) (by kernel_rfl) (by kernel_rfl)
    rw_b np_b no_b (by kernel_rfl) (Eq.mpr (show Vm.Tr.vc (Vm.Fn c41 Tryz.f43 body43 noLoop ([.agg [.int .i64 a.I.Lo, .int .i64 a.I.Hi, .int .u64 a.C.M, .int .u64 a.C.R], .agg [.int .i64 b.I.Lo, .int .i64 b.I.Hi, .int .u64 b.C.M, .int .u64 b.C.R]])) = S.ref21_Within_pre a b by kernel_rfl) hp))

noncomputable def sem43 : List W → Option (W × List (List W) × List Prop)
  | [.agg [.int .i64 y1, .int .i64 y2, .int .u64 y3, .int .u64 y4], .agg [.int .i64 y5, .int .i64 y6, .int .u64 y7, .int .u64 y8]] => some (wr_b (S.ref21_Within (⟨(⟨y1, y2⟩ : S.Inter), (⟨y3, y4⟩ : S.Cong)⟩ : S.Value) (⟨(⟨y5, y6⟩ : S.Inter), (⟨y7, y8⟩ : S.Cong)⟩ : S.Value)), wo_b (S.ref21_Within (⟨(⟨y1, y2⟩ : S.Inter), (⟨y3, y4⟩ : S.Cong)⟩ : S.Value) (⟨(⟨y5, y6⟩ : S.Inter), (⟨y7, y8⟩ : S.Cong)⟩ : S.Value)), [S.ref21_Within_pre (⟨(⟨y1, y2⟩ : S.Inter), (⟨y3, y4⟩ : S.Cong)⟩ : S.Value) (⟨(⟨y5, y6⟩ : S.Inter), (⟨y7, y8⟩ : S.Cong)⟩ : S.Value)])
  | _ => none
noncomputable def c43 : Cfg El := c41.add 43 sem43
theorem c43_ok : CfgOk c43 := c41_ok.add (fun args w => Tryz.call43 args w) (fun vs r outs ps h hp => by
  unfold sem43 at h
  split at h
  · rename_i y1 y2 y3 y4 y5 y6 y7 y8; cases h; exact fn43 (⟨(⟨y1, y2⟩ : S.Inter), (⟨y3, y4⟩ : S.Cong)⟩ : S.Value) (⟨(⟨y5, y6⟩ : S.Inter), (⟨y7, y8⟩ : S.Cong)⟩ : S.Value) hp
  · cases h)

noncomputable def body44 : Code := (Tryz.f44.body).getD .skip
theorem fn44 (a : S.Value) (b : S.Value) (hp : S.value_Same_pre a b) : CallOk c43 44 [.agg [.int .i64 a.I.Lo, .int .i64 a.I.Hi, .int .u64 a.C.M, .int .u64 a.C.R], .agg [.int .i64 b.I.Lo, .int .i64 b.I.Hi, .int .u64 b.C.M, .int .u64 b.C.R]] (wr_b (S.value_Same a b)) (wo_b (S.value_Same a b)) :=
  (call_ok (c := c43) (f := 44) (fn := Tryz.f44) (code := body44) (args := ([.agg [.int .i64 a.I.Lo, .int .i64 a.I.Hi, .int .u64 a.C.M, .int .u64 a.C.R], .agg [.int .i64 b.I.Lo, .int .i64 b.I.Hi, .int .u64 b.C.M, .int .u64 b.C.R]])) (loop := noLoop) (md := ⟨false, false⟩) (rd := rd_b) (wr := wr_b) (wo := wo_b) (r := (S.value_Same a b)) c43_ok (by kernel_rfl) (by kernel_rfl) (by kernel_rfl) (no_loops (by kernel_rfl)) (by kernel_rfl) (by kernel_rfl) (by kernel_rfl)
    rw_b np_b no_b (by kernel_rfl) (Eq.mpr (show Vm.Tr.vc (Vm.Fn c43 Tryz.f44 body44 noLoop ([.agg [.int .i64 a.I.Lo, .int .i64 a.I.Hi, .int .u64 a.C.M, .int .u64 a.C.R], .agg [.int .i64 b.I.Lo, .int .i64 b.I.Hi, .int .u64 b.C.M, .int .u64 b.C.R]])) = S.value_Same_pre a b by kernel_rfl) hp))

noncomputable def sem44 : List W → Option (W × List (List W) × List Prop)
  | [.agg [.int .i64 y1, .int .i64 y2, .int .u64 y3, .int .u64 y4], .agg [.int .i64 y5, .int .i64 y6, .int .u64 y7, .int .u64 y8]] => some (wr_b (S.value_Same (⟨(⟨y1, y2⟩ : S.Inter), (⟨y3, y4⟩ : S.Cong)⟩ : S.Value) (⟨(⟨y5, y6⟩ : S.Inter), (⟨y7, y8⟩ : S.Cong)⟩ : S.Value)), wo_b (S.value_Same (⟨(⟨y1, y2⟩ : S.Inter), (⟨y3, y4⟩ : S.Cong)⟩ : S.Value) (⟨(⟨y5, y6⟩ : S.Inter), (⟨y7, y8⟩ : S.Cong)⟩ : S.Value)), [S.value_Same_pre (⟨(⟨y1, y2⟩ : S.Inter), (⟨y3, y4⟩ : S.Cong)⟩ : S.Value) (⟨(⟨y5, y6⟩ : S.Inter), (⟨y7, y8⟩ : S.Cong)⟩ : S.Value)])
  | _ => none
noncomputable def c44 : Cfg El := c43.add 44 sem44
theorem c44_ok : CfgOk c44 := c43_ok.add (fun args w => Tryz.call44 args w) (fun vs r outs ps h hp => by
  unfold sem44 at h
  split at h
  · rename_i y1 y2 y3 y4 y5 y6 y7 y8; cases h; exact fn44 (⟨(⟨y1, y2⟩ : S.Inter), (⟨y3, y4⟩ : S.Cong)⟩ : S.Value) (⟨(⟨y5, y6⟩ : S.Inter), (⟨y7, y8⟩ : S.Cong)⟩ : S.Value) hp
  · cases h)

noncomputable def body4 : Code := (Tryz.f4.body).getD .skip
noncomputable def lb4_0 : Code := ((nth (loopsOf 0 body4) 0).getD (0, .skip)).2
noncomputable def px4_0 : List W → Option S.law21_ValueJoins_L0
  | [.list 28 false y1, .ptr 9 0, .ptr 10 0, .int .i64 y2, .int .i64 y3, .int .i64 y4, .int .u64 y5, .int .u64 y6, .int .i64 y7, .int .i64 y8, .int .u64 y9, .int .u64 y10] => some ⟨y1, y2, ⟨⟨y3, y4⟩, ⟨y5, y6⟩⟩, ⟨⟨y7, y8⟩, ⟨y9, y10⟩⟩⟩
  | _ => none
noncomputable def tx4_0 (x : S.law21_ValueJoins_L0) : List W := [.list 28 false x.l, .ptr 9 0, .ptr 10 0, .int .i64 x.i, .int .i64 x.join.I.Lo, .int .i64 x.join.I.Hi, .int .u64 x.join.C.M, .int .u64 x.join.C.R, .int .i64 x.meet.I.Lo, .int .i64 x.meet.I.Hi, .int .u64 x.meet.C.M, .int .u64 x.meet.C.R]
noncomputable def py4_0 : Ex → List W → Option (S.law21_ValueJoins_L0)
  | .exit 0, [.list 28 false y1, .ptr 9 0, .ptr 10 0, .int .i64 y2, .int .i64 y3, .int .i64 y4, .int .u64 y5, .int .u64 y6, .int .i64 y7, .int .i64 y8, .int .u64 y9, .int .u64 y10] => some ⟨y1, y2, ⟨⟨y3, y4⟩, ⟨y5, y6⟩⟩, ⟨⟨y7, y8⟩, ⟨y9, y10⟩⟩⟩
  | _, _ => none
noncomputable def ld4_0 : LD El where
  X := S.law21_ValueJoins_L0
  Y := S.law21_ValueJoins_L0
  keys := [.slot 0, .slot 9, .slot 10, .slot 11, .cell 9 0, .cell 9 1, .cell 9 2, .cell 9 3, .cell 10 0, .cell 10 1, .cell 10 2, .cell 10 3]
  fits := [56, 0, 0, 3, 2, 2, 24, 24, 2, 2, 24, 24]
  px := px4_0
  tx := tx4_0
  okeys := [.slot 0, .slot 9, .slot 10, .slot 11, .cell 9 0, .cell 9 1, .cell 9 2, .cell 9 3, .cell 10 0, .cell 10 1, .cell 10 2, .cell 10 3]
  ofits := [56, 0, 0, 3, 2, 2, 24, 24, 2, 2, 24, 24]
  py := py4_0
  ty := fun y => tx4_0 y
  oex := fun _ => .exit 0
  junk := [.slot 27, .slot 28, .slot 29, .slot 30, .slot 31, .slot 32, .slot 33, .slot 34, .slot 35, .slot 36, .slot 37, .slot 38, .slot 39, .slot 40, .slot 41, .slot 42, .slot 43, .slot 44, .slot 45, .slot 46]
  rows := []
noncomputable def lo4_0 : S.law21_ValueJoins_L0 → Tr El := fun y => .leaf (.exit 0) (zipK ld4_0.okeys (tx4_0 y) ++ junkK ld4_0.junk)
noncomputable def lb4_2 : Code := ((nth (loopsOf 0 body4) 1).getD (0, .skip)).2
noncomputable def px4_2 : List W → Option S.law21_ValueJoins_L2
  | [.list 2 false y1, .ptr 12 0, .int .i64 y2, .int .i64 y3, .int .i64 y4, .int .u64 y5, .int .u64 y6] => some ⟨y1, y2, ⟨⟨y3, y4⟩, ⟨y5, y6⟩⟩⟩
  | _ => none
noncomputable def tx4_2 (x : S.law21_ValueJoins_L2) : List W := [.list 2 false x.numbers, .ptr 12 0, .int .i64 x.i, .int .i64 x.of.I.Lo, .int .i64 x.of.I.Hi, .int .u64 x.of.C.M, .int .u64 x.of.C.R]
noncomputable def py4_2 : Ex → List W → Option (S.law21_ValueJoins_L2)
  | .exit 2, [.list 2 false y1, .ptr 12 0, .int .i64 y2, .int .i64 y3, .int .i64 y4, .int .u64 y5, .int .u64 y6] => some ⟨y1, y2, ⟨⟨y3, y4⟩, ⟨y5, y6⟩⟩⟩
  | _, _ => none
noncomputable def ld4_2 : LD El where
  X := S.law21_ValueJoins_L2
  Y := S.law21_ValueJoins_L2
  keys := [.slot 3, .slot 12, .slot 13, .cell 12 0, .cell 12 1, .cell 12 2, .cell 12 3]
  fits := [40, 0, 3, 2, 2, 24, 24]
  px := px4_2
  tx := tx4_2
  okeys := [.slot 3, .slot 12, .slot 13, .cell 12 0, .cell 12 1, .cell 12 2, .cell 12 3]
  ofits := [40, 0, 3, 2, 2, 24, 24]
  py := py4_2
  ty := fun y => tx4_2 y
  oex := fun _ => .exit 2
  junk := [.slot 48, .slot 49, .slot 50, .slot 51, .slot 52, .slot 53, .slot 54, .slot 55, .slot 56, .slot 57, .slot 58, .slot 59, .slot 60]
  rows := []
noncomputable def lo4_2 : S.law21_ValueJoins_L2 → Tr El := fun y => .leaf (.exit 2) (zipK ld4_2.okeys (tx4_2 y) ++ junkK ld4_2.junk)
noncomputable def loop4 : Nat → Env El → Tr El
  | 0 => ld4_0.tree c44 Tryz.f4.ntmps 0 lb4_0 S.law21_ValueJoins_L0_run lo4_0 S.law21_ValueJoins_L0_step S.law21_ValueJoins_L0_vcs
  | 2 => ld4_2.tree c44 Tryz.f4.ntmps 2 lb4_2 S.law21_ValueJoins_L2_run lo4_2 S.law21_ValueJoins_L2_step S.law21_ValueJoins_L2_vcs
  | _ => fun _ => .fail
theorem lok4_2 : ∀ w0 S0, LoopOk c44 Tryz.f4.ntmps w0 S0 loop4 2 lb4_2 :=
  loop_ok (c := c44) (n := Tryz.f4.ntmps) c44_ok mixed ld4_2 (body := lb4_2) (key := 2) (loop := loop4) (F := S.law21_ValueJoins_L2_run) (out := lo4_2) (step := S.law21_ValueJoins_L2_step) (vcs := S.law21_ValueJoins_L2_vcs)
    (fun _ => by kernel_rfl) (no_loops (by kernel_rfl)) rfl rfl
    (fun vs x h => by unfold ld4_2 px4_2 at h; dsimp only at h; split at h <;> first | (cases h; rfl) | cases h)
    (fun e vs y h => by unfold ld4_2 py4_2 at h; dsimp only at h; split at h <;> first | (cases h; exact ⟨rfl, rfl⟩) | cases h)
    (by kernel_rfl) (fun _ => rfl) (fun _ _ h => h) (fun x => by kernel_rfl) (fun x h => Eq.mpr (show Vm.Tr.vc (Vm.ev c44 Tryz.f4.ntmps loop4 2 lb4_2 (ld4_2.vars x) []) = S.law21_ValueJoins_L2_vcs x by kernel_rfl) h)
theorem lok4_0 : ∀ w0 S0, LoopOk c44 Tryz.f4.ntmps w0 S0 loop4 0 lb4_0 :=
  loop_ok (c := c44) (n := Tryz.f4.ntmps) c44_ok mixed ld4_0 (body := lb4_0) (key := 0) (loop := loop4) (F := S.law21_ValueJoins_L0_run) (out := lo4_0) (step := S.law21_ValueJoins_L0_step) (vcs := S.law21_ValueJoins_L0_vcs)
    (fun _ => by kernel_rfl) (no_loops (by kernel_rfl)) rfl rfl
    (fun vs x h => by unfold ld4_0 px4_0 at h; dsimp only at h; split at h <;> first | (cases h; rfl) | cases h)
    (fun e vs y h => by unfold ld4_0 py4_0 at h; dsimp only at h; split at h <;> first | (cases h; exact ⟨rfl, rfl⟩) | cases h)
    (by kernel_rfl) (fun _ => rfl) (fun _ _ h => h) (fun x => by kernel_rfl) (fun x h => Eq.mpr (show Vm.Tr.vc (Vm.ev c44 Tryz.f4.ntmps loop4 0 lb4_0 (ld4_0.vars x) []) = S.law21_ValueJoins_L0_vcs x by kernel_rfl) h)
theorem fn4 (l : (List S.Value)) (a : S.Value) (b : S.Value) (numbers : (List Int)) (hp : S.law21_ValueJoins_pre l a b numbers) : CallOk c44 4 [.list 28 false l, .agg [.int .i64 a.I.Lo, .int .i64 a.I.Hi, .int .u64 a.C.M, .int .u64 a.C.R], .agg [.int .i64 b.I.Lo, .int .i64 b.I.Hi, .int .u64 b.C.M, .int .u64 b.C.R], .list 2 false numbers] (wr_b (S.law21_ValueJoins l a b numbers)) (wo_b (S.law21_ValueJoins l a b numbers)) :=
  (call_ok (c := c44) (f := 4) (fn := Tryz.f4) (code := body4) (args := ([.list 28 false l, .agg [.int .i64 a.I.Lo, .int .i64 a.I.Hi, .int .u64 a.C.M, .int .u64 a.C.R], .agg [.int .i64 b.I.Lo, .int .i64 b.I.Hi, .int .u64 b.C.M, .int .u64 b.C.R], .list 2 false numbers])) (loop := loop4) (md := ⟨false, false⟩) (rd := rd_b) (wr := wr_b) (wo := wo_b) (r := (S.law21_ValueJoins l a b numbers)) c44_ok (by kernel_rfl) (by kernel_rfl) (by kernel_rfl) (loops_all (l := [(0, lb4_0), (2, lb4_2)]) (by kernel_rfl) ⟨lok4_0, ⟨lok4_2, trivial⟩⟩) (by kernel_rfl) (by kernel_rfl) (by kernel_rfl)
    rw_b np_b no_b (by kernel_rfl) (Eq.mpr (show Vm.Tr.vc (Vm.Fn c44 Tryz.f4 body4 loop4 ([.list 28 false l, .agg [.int .i64 a.I.Lo, .int .i64 a.I.Hi, .int .u64 a.C.M, .int .u64 a.C.R], .agg [.int .i64 b.I.Lo, .int .i64 b.I.Hi, .int .u64 b.C.M, .int .u64 b.C.R], .list 2 false numbers])) = S.law21_ValueJoins_pre l a b numbers by kernel_rfl) hp))

noncomputable def sem4 : List W → Option (W × List (List W) × List Prop)
  | [.list 28 false y1, .agg [.int .i64 y2, .int .i64 y3, .int .u64 y4, .int .u64 y5], .agg [.int .i64 y6, .int .i64 y7, .int .u64 y8, .int .u64 y9], .list 2 false y10] => some (wr_b (S.law21_ValueJoins y1 (⟨(⟨y2, y3⟩ : S.Inter), (⟨y4, y5⟩ : S.Cong)⟩ : S.Value) (⟨(⟨y6, y7⟩ : S.Inter), (⟨y8, y9⟩ : S.Cong)⟩ : S.Value) y10), wo_b (S.law21_ValueJoins y1 (⟨(⟨y2, y3⟩ : S.Inter), (⟨y4, y5⟩ : S.Cong)⟩ : S.Value) (⟨(⟨y6, y7⟩ : S.Inter), (⟨y8, y9⟩ : S.Cong)⟩ : S.Value) y10), [S.law21_ValueJoins_pre y1 (⟨(⟨y2, y3⟩ : S.Inter), (⟨y4, y5⟩ : S.Cong)⟩ : S.Value) (⟨(⟨y6, y7⟩ : S.Inter), (⟨y8, y9⟩ : S.Cong)⟩ : S.Value) y10])
  | _ => none
noncomputable def c4 : Cfg El := c44.add 4 sem4
theorem c4_ok : CfgOk c4 := c44_ok.add (fun args w => Tryz.call4 args w) (fun vs r outs ps h hp => by
  unfold sem4 at h
  split at h
  · rename_i y1 y2 y3 y4 y5 y6 y7 y8 y9 y10; cases h; exact fn4 y1 (⟨(⟨y2, y3⟩ : S.Inter), (⟨y4, y5⟩ : S.Cong)⟩ : S.Value) (⟨(⟨y6, y7⟩ : S.Inter), (⟨y8, y9⟩ : S.Cong)⟩ : S.Value) y10 hp
  · cases h)

noncomputable def body46 : Code := (Tryz.f46.body).getD .skip
noncomputable def lb46_0 : Code := ((nth (loopsOf 0 body46) 0).getD (0, .skip)).2
noncomputable def px46_0 : List W → Option S.law21_ValueLattice_L0
  | [.ptr 4 0, .bool y1, .list 2 false y2, .int .i64 y3, .int .i64 y4, .int .i64 y5, .int .u64 y6, .int .u64 y7] => some ⟨y1, y2, y3, ⟨⟨y4, y5⟩, ⟨y6, y7⟩⟩⟩
  | _ => none
noncomputable def tx46_0 (x : S.law21_ValueLattice_L0) : List W := [.ptr 4 0, .bool x.t8, .list 2 false x.some, .int .i64 x.i, .int .i64 x.a.I.Lo, .int .i64 x.a.I.Hi, .int .u64 x.a.C.M, .int .u64 x.a.C.R]
noncomputable def py46_0 : Ex → List W → Option (Bool × S.law21_ValueLattice_L0)
  | .ret, [.ptr 4 0, .bool y1, .list 2 false y2, .int .i64 y3, .int .i64 y4, .int .i64 y5, .int .u64 y6, .int .u64 y7] => some ⟨true, ⟨y1, y2, y3, ⟨⟨y4, y5⟩, ⟨y6, y7⟩⟩⟩⟩
  | .exit 0, [.ptr 4 0, .bool y1, .list 2 false y2, .int .i64 y3, .int .i64 y4, .int .i64 y5, .int .u64 y6, .int .u64 y7] => some ⟨false, ⟨y1, y2, y3, ⟨⟨y4, y5⟩, ⟨y6, y7⟩⟩⟩⟩
  | _, _ => none
noncomputable def ld46_0 : LD El where
  X := S.law21_ValueLattice_L0
  Y := Bool × S.law21_ValueLattice_L0
  keys := [.slot 4, .slot 8, .slot 13, .slot 14, .cell 4 0, .cell 4 1, .cell 4 2, .cell 4 3]
  fits := [0, 4, 40, 3, 2, 2, 24, 24]
  px := px46_0
  tx := tx46_0
  okeys := [.slot 4, .slot 8, .slot 13, .slot 14, .cell 4 0, .cell 4 1, .cell 4 2, .cell 4 3]
  ofits := [0, 4, 40, 3, 2, 2, 24, 24]
  py := py46_0
  ty := fun y => bif y.1 then tx46_0 y.2 else tx46_0 y.2
  oex := fun y => bif y.1 then .ret else .exit 0
  junk := [.slot 176, .slot 177, .slot 178, .slot 179, .slot 180, .slot 181, .slot 182, .slot 183, .slot 184, .slot 185, .slot 186, .slot 187, .slot 188, .slot 189, .slot 190, .slot 191, .slot 192, .slot 193, .slot 194, .slot 195, .slot 196, .slot 197, .slot 198, .slot 199, .slot 200, .slot 201, .slot 202, .slot 203, .slot 204]
  rows := []
noncomputable def lo46_0 : (Bool × S.law21_ValueLattice_L0) → Tr El := fun y => .node y.1 (.leaf (.ret) (zipK ld46_0.okeys (tx46_0 y.2) ++ junkK ld46_0.junk)) (.leaf (.exit 0) (zipK ld46_0.okeys (tx46_0 y.2) ++ junkK ld46_0.junk))
noncomputable def lb46_2 : Code := ((nth (loopsOf 0 body46) 1).getD (0, .skip)).2
noncomputable def px46_2 : List W → Option S.law21_ValueLattice_L2
  | [.list 28 false y1, .ptr 15 0, .int .i64 y2, .int .i64 y3, .int .i64 y4, .int .u64 y5, .int .u64 y6] => some ⟨y1, y2, ⟨⟨y3, y4⟩, ⟨y5, y6⟩⟩⟩
  | _ => none
noncomputable def tx46_2 (x : S.law21_ValueLattice_L2) : List W := [.list 28 false x.l, .ptr 15 0, .int .i64 x.i, .int .i64 x.vx.I.Lo, .int .i64 x.vx.I.Hi, .int .u64 x.vx.C.M, .int .u64 x.vx.C.R]
noncomputable def py46_2 : Ex → List W → Option (S.law21_ValueLattice_L2)
  | .exit 2, [.list 28 false y1, .ptr 15 0, .int .i64 y2, .int .i64 y3, .int .i64 y4, .int .u64 y5, .int .u64 y6] => some ⟨y1, y2, ⟨⟨y3, y4⟩, ⟨y5, y6⟩⟩⟩
  | _, _ => none
noncomputable def ld46_2 : LD El where
  X := S.law21_ValueLattice_L2
  Y := S.law21_ValueLattice_L2
  keys := [.slot 3, .slot 15, .slot 16, .cell 15 0, .cell 15 1, .cell 15 2, .cell 15 3]
  fits := [56, 0, 3, 2, 2, 24, 24]
  px := px46_2
  tx := tx46_2
  okeys := [.slot 3, .slot 15, .slot 16, .cell 15 0, .cell 15 1, .cell 15 2, .cell 15 3]
  ofits := [56, 0, 3, 2, 2, 24, 24]
  py := py46_2
  ty := fun y => tx46_2 y
  oex := fun _ => .exit 2
  junk := [.slot 206, .slot 207, .slot 208, .slot 209, .slot 210, .slot 211, .slot 212, .slot 213, .slot 214, .slot 215, .slot 216, .slot 217, .slot 218, .slot 219, .slot 220, .slot 221]
  rows := []
noncomputable def lo46_2 : S.law21_ValueLattice_L2 → Tr El := fun y => .leaf (.exit 2) (zipK ld46_2.okeys (tx46_2 y) ++ junkK ld46_2.junk)
noncomputable def lb46_4 : Code := ((nth (loopsOf 0 body46) 2).getD (0, .skip)).2
noncomputable def px46_4 : List W → Option S.law21_ValueLattice_L4
  | [.list 28 false y1, .bool y2, .ptr 15 0, .int .i64 y3, .int .i64 y4, .int .i64 y5, .int .u64 y6, .int .u64 y7] => some ⟨y1, y2, y3, ⟨⟨y4, y5⟩, ⟨y6, y7⟩⟩⟩
  | _ => none
noncomputable def tx46_4 (x : S.law21_ValueLattice_L4) : List W := [.list 28 false x.l, .bool x.t8, .ptr 15 0, .int .i64 x.i, .int .i64 x.vx.I.Lo, .int .i64 x.vx.I.Hi, .int .u64 x.vx.C.M, .int .u64 x.vx.C.R]
noncomputable def py46_4 : Ex → List W → Option (Bool × S.law21_ValueLattice_L4)
  | .ret, [.list 28 false y1, .bool y2, .ptr 15 0, .int .i64 y3, .int .i64 y4, .int .i64 y5, .int .u64 y6, .int .u64 y7] => some ⟨true, ⟨y1, y2, y3, ⟨⟨y4, y5⟩, ⟨y6, y7⟩⟩⟩⟩
  | .exit 4, [.list 28 false y1, .bool y2, .ptr 15 0, .int .i64 y3, .int .i64 y4, .int .i64 y5, .int .u64 y6, .int .u64 y7] => some ⟨false, ⟨y1, y2, y3, ⟨⟨y4, y5⟩, ⟨y6, y7⟩⟩⟩⟩
  | _, _ => none
noncomputable def ld46_4 : LD El where
  X := S.law21_ValueLattice_L4
  Y := Bool × S.law21_ValueLattice_L4
  keys := [.slot 3, .slot 8, .slot 15, .slot 17, .cell 15 0, .cell 15 1, .cell 15 2, .cell 15 3]
  fits := [56, 4, 0, 3, 2, 2, 24, 24]
  px := px46_4
  tx := tx46_4
  okeys := [.slot 3, .slot 8, .slot 15, .slot 17, .cell 15 0, .cell 15 1, .cell 15 2, .cell 15 3]
  ofits := [56, 4, 0, 3, 2, 2, 24, 24]
  py := py46_4
  ty := fun y => bif y.1 then tx46_4 y.2 else tx46_4 y.2
  oex := fun y => bif y.1 then .ret else .exit 4
  junk := [.slot 222, .slot 223, .slot 224, .slot 225, .slot 226, .slot 227, .slot 228, .slot 229, .slot 230, .slot 231, .slot 232, .slot 233, .slot 234, .slot 235, .slot 236, .slot 237, .slot 238, .slot 239, .slot 240, .slot 241, .slot 242, .slot 243, .slot 244, .slot 245]
  rows := []
noncomputable def lo46_4 : (Bool × S.law21_ValueLattice_L4) → Tr El := fun y => .node y.1 (.leaf (.ret) (zipK ld46_4.okeys (tx46_4 y.2) ++ junkK ld46_4.junk)) (.leaf (.exit 4) (zipK ld46_4.okeys (tx46_4 y.2) ++ junkK ld46_4.junk))
noncomputable def loop46 : Nat → Env El → Tr El
  | 0 => ld46_0.tree c4 Tryz.f46.ntmps 0 lb46_0 S.law21_ValueLattice_L0_run lo46_0 S.law21_ValueLattice_L0_step S.law21_ValueLattice_L0_vcs
  | 2 => ld46_2.tree c4 Tryz.f46.ntmps 2 lb46_2 S.law21_ValueLattice_L2_run lo46_2 S.law21_ValueLattice_L2_step S.law21_ValueLattice_L2_vcs
  | 4 => ld46_4.tree c4 Tryz.f46.ntmps 4 lb46_4 S.law21_ValueLattice_L4_run lo46_4 S.law21_ValueLattice_L4_step S.law21_ValueLattice_L4_vcs
  | _ => fun _ => .fail
theorem lok46_4 : ∀ w0 S0, LoopOk c4 Tryz.f46.ntmps w0 S0 loop46 4 lb46_4 :=
  loop_ok (c := c4) (n := Tryz.f46.ntmps) c4_ok mixed ld46_4 (body := lb46_4) (key := 4) (loop := loop46) (F := S.law21_ValueLattice_L4_run) (out := lo46_4) (step := S.law21_ValueLattice_L4_step) (vcs := S.law21_ValueLattice_L4_vcs)
    (fun _ => by kernel_rfl) (no_loops (by kernel_rfl)) rfl rfl
    (fun vs x h => by unfold ld46_4 px46_4 at h; dsimp only at h; split at h <;> first | (cases h; rfl) | cases h)
    (fun e vs y h => by unfold ld46_4 py46_4 at h; dsimp only at h; split at h <;> first | (cases h; exact ⟨rfl, rfl⟩) | cases h)
    (by kernel_rfl) (fun | (true, _) => rfl | (false, _) => rfl) (fun | (true, _), _, h => h.1 rfl | (false, _), _, h => h.2 rfl) (fun x => by kernel_rfl) (fun x h => Eq.mpr (show Vm.Tr.vc (Vm.ev c4 Tryz.f46.ntmps loop46 4 lb46_4 (ld46_4.vars x) []) = S.law21_ValueLattice_L4_vcs x by kernel_rfl) h)
theorem lok46_2 : ∀ w0 S0, LoopOk c4 Tryz.f46.ntmps w0 S0 loop46 2 lb46_2 :=
  loop_ok (c := c4) (n := Tryz.f46.ntmps) c4_ok mixed ld46_2 (body := lb46_2) (key := 2) (loop := loop46) (F := S.law21_ValueLattice_L2_run) (out := lo46_2) (step := S.law21_ValueLattice_L2_step) (vcs := S.law21_ValueLattice_L2_vcs)
    (fun _ => by kernel_rfl) (no_loops (by kernel_rfl)) rfl rfl
    (fun vs x h => by unfold ld46_2 px46_2 at h; dsimp only at h; split at h <;> first | (cases h; rfl) | cases h)
    (fun e vs y h => by unfold ld46_2 py46_2 at h; dsimp only at h; split at h <;> first | (cases h; exact ⟨rfl, rfl⟩) | cases h)
    (by kernel_rfl) (fun _ => rfl) (fun _ _ h => h) (fun x => by kernel_rfl) (fun x h => Eq.mpr (show Vm.Tr.vc (Vm.ev c4 Tryz.f46.ntmps loop46 2 lb46_2 (ld46_2.vars x) []) = S.law21_ValueLattice_L2_vcs x by kernel_rfl) h)
theorem lok46_0 : ∀ w0 S0, LoopOk c4 Tryz.f46.ntmps w0 S0 loop46 0 lb46_0 :=
  loop_ok (c := c4) (n := Tryz.f46.ntmps) c4_ok mixed ld46_0 (body := lb46_0) (key := 0) (loop := loop46) (F := S.law21_ValueLattice_L0_run) (out := lo46_0) (step := S.law21_ValueLattice_L0_step) (vcs := S.law21_ValueLattice_L0_vcs)
    (fun _ => by kernel_rfl) (no_loops (by kernel_rfl)) rfl rfl
    (fun vs x h => by unfold ld46_0 px46_0 at h; dsimp only at h; split at h <;> first | (cases h; rfl) | cases h)
    (fun e vs y h => by unfold ld46_0 py46_0 at h; dsimp only at h; split at h <;> first | (cases h; exact ⟨rfl, rfl⟩) | cases h)
    (by kernel_rfl) (fun | (true, _) => rfl | (false, _) => rfl) (fun | (true, _), _, h => h.1 rfl | (false, _), _, h => h.2 rfl) (fun x => by kernel_rfl) (fun x h => Eq.mpr (show Vm.Tr.vc (Vm.ev c4 Tryz.f46.ntmps loop46 0 lb46_0 (ld46_0.vars x) []) = S.law21_ValueLattice_L0_vcs x by kernel_rfl) h)
theorem fn46 (a : S.Value) (b : S.Value) (n : Int) (l : (List S.Value)) (hp : S.law21_ValueLattice_pre a b n l) : CallOk c4 46 [.agg [.int .i64 a.I.Lo, .int .i64 a.I.Hi, .int .u64 a.C.M, .int .u64 a.C.R], .agg [.int .i64 b.I.Lo, .int .i64 b.I.Hi, .int .u64 b.C.M, .int .u64 b.C.R], .int .i64 n, .list 28 false l] (wr_b (S.law21_ValueLattice a b n l)) (wo_b (S.law21_ValueLattice a b n l)) :=
  (call_ok (c := c4) (f := 46) (fn := Tryz.f46) (code := body46) (args := ([.agg [.int .i64 a.I.Lo, .int .i64 a.I.Hi, .int .u64 a.C.M, .int .u64 a.C.R], .agg [.int .i64 b.I.Lo, .int .i64 b.I.Hi, .int .u64 b.C.M, .int .u64 b.C.R], .int .i64 n, .list 28 false l])) (loop := loop46) (md := ⟨false, false⟩) (rd := rd_b) (wr := wr_b) (wo := wo_b) (r := (S.law21_ValueLattice a b n l)) c4_ok (by kernel_rfl) (by kernel_rfl) (by kernel_rfl) (loops_all (l := [(0, lb46_0), (2, lb46_2), (4, lb46_4)]) (by kernel_rfl) ⟨lok46_0, ⟨lok46_2, ⟨lok46_4, trivial⟩⟩⟩) (by kernel_rfl) (by kernel_rfl) (by kernel_rfl)
    rw_b np_b no_b (by kernel_rfl) (Eq.mpr (show Vm.Tr.vc (Vm.Fn c4 Tryz.f46 body46 loop46 ([.agg [.int .i64 a.I.Lo, .int .i64 a.I.Hi, .int .u64 a.C.M, .int .u64 a.C.R], .agg [.int .i64 b.I.Lo, .int .i64 b.I.Hi, .int .u64 b.C.M, .int .u64 b.C.R], .int .i64 n, .list 28 false l])) = S.law21_ValueLattice_pre a b n l by kernel_rfl) hp))

noncomputable def sem46 : List W → Option (W × List (List W) × List Prop)
  | [.agg [.int .i64 y1, .int .i64 y2, .int .u64 y3, .int .u64 y4], .agg [.int .i64 y5, .int .i64 y6, .int .u64 y7, .int .u64 y8], .int .i64 y9, .list 28 false y10] => some (wr_b (S.law21_ValueLattice (⟨(⟨y1, y2⟩ : S.Inter), (⟨y3, y4⟩ : S.Cong)⟩ : S.Value) (⟨(⟨y5, y6⟩ : S.Inter), (⟨y7, y8⟩ : S.Cong)⟩ : S.Value) y9 y10), wo_b (S.law21_ValueLattice (⟨(⟨y1, y2⟩ : S.Inter), (⟨y3, y4⟩ : S.Cong)⟩ : S.Value) (⟨(⟨y5, y6⟩ : S.Inter), (⟨y7, y8⟩ : S.Cong)⟩ : S.Value) y9 y10), [S.law21_ValueLattice_pre (⟨(⟨y1, y2⟩ : S.Inter), (⟨y3, y4⟩ : S.Cong)⟩ : S.Value) (⟨(⟨y5, y6⟩ : S.Inter), (⟨y7, y8⟩ : S.Cong)⟩ : S.Value) y9 y10])
  | _ => none
noncomputable def c46 : Cfg El := c4.add 46 sem46
theorem c46_ok : CfgOk c46 := c4_ok.add (fun args w => Tryz.call46 args w) (fun vs r outs ps h hp => by
  unfold sem46 at h
  split at h
  · rename_i y1 y2 y3 y4 y5 y6 y7 y8 y9 y10; cases h; exact fn46 (⟨(⟨y1, y2⟩ : S.Inter), (⟨y3, y4⟩ : S.Cong)⟩ : S.Value) (⟨(⟨y5, y6⟩ : S.Inter), (⟨y7, y8⟩ : S.Cong)⟩ : S.Value) y9 y10 hp
  · cases h)
end Go.Proofs.YthplfkeecpkmhaaGreatDoor
