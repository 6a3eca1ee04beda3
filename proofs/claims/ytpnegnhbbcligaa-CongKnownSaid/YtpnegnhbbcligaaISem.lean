/-
  Printed by a program for this claim: functions of the code as plain functions, and that the code comes to them. Conditions: those that each theorem states.
-/
import Derived.Test.YtpnegnhbbcligaaIEnv
set_option linter.all false
namespace Go.Proofs.Ytpnegnhbbcligaa
open Go Go.Proofs Vm
attribute [local irreducible] Vm.Tr.vc Vm.Tr.out Vm.Fn Vm.Fn.out Vm.ev Vm.loopsOf Vm.Tr.noReq
noncomputable def rd_S23 : W → List (List W) → Option (S.Inter)
  | .agg [.int .i64 x1, .int .i64 x2], [] => some ⟨x1, x2⟩
  | _, _ => none
noncomputable def wr_S23 (x : S.Inter) : W := .agg [.int .i64 x.Lo, .int .i64 x.Hi]
noncomputable def wo_S23 (_x : S.Inter) : List (List W) := []
theorem rw_S23 (v : W) (os : List (List W)) (x : S.Inter) (h : rd_S23 v os = some x) : v = wr_S23 x ∧ os = wo_S23 x := by
  unfold rd_S23 at h
  split at h <;> first | (cases h; exact ⟨rfl, rfl⟩) | cases h
theorem np_S23 (x : S.Inter) : okv (fun _ => false) (wr_S23 x) = true := rfl
theorem no_S23 (x : S.Inter) : all (fun cs => all (ok0 fun _ => false) cs) (wo_S23 x) = true := rfl

noncomputable def body19 : Code := (Try.f19.body).getD .skip
theorem fn19 (i : S.Inter) : CallOk base 19 [.agg [.int .i64 i.Lo, .int .i64 i.Hi]] (wr_S23 (S.law19_ref i)) (wo_S23 (S.law19_ref i)) :=
  (call_ok (c := base) (f := 19) (fn := Try.f19) (code := body19) (args := ([.agg [.int .i64 i.Lo, .int .i64 i.Hi]])) (loop := noLoop) (md := ⟨false, false⟩) (rd := rd_S23) (wr := wr_S23) (wo := wo_S23) (r := (S.law19_ref i)) base_ok (by kernel_rfl) (by kernel_rfl) (by kernel_rfl) (no_loops (by kernel_rfl)) (by kernel_rfl) (by kernel_rfl) (by kernel_rfl)
    rw_S23 np_S23 no_S23 (by kernel_rfl) (Tr.vc_of_noReq (by kernel_rfl)))

noncomputable def sem19 : List W → Option (W × List (List W) × List Prop)
  | [.agg [.int .i64 y1, .int .i64 y2]] => some (wr_S23 (S.law19_ref (⟨y1, y2⟩ : S.Inter)), wo_S23 (S.law19_ref (⟨y1, y2⟩ : S.Inter)), [])
  | _ => none
noncomputable def c19 : Cfg El := base.add 19 sem19
theorem c19_ok : CfgOk c19 := base_ok.add (fun args w => Try.call19 args w) (fun vs r outs ps h hp => by
  unfold sem19 at h
  split at h
  · rename_i y1 y2; cases h; exact fn19 (⟨y1, y2⟩ : S.Inter)
  · cases h)

noncomputable def body44 : Code := (Try.f44.body).getD .skip
theorem fn44 : CallOk c19 44 [] (wr_S23 (S.inter_Empty)) (wo_S23 (S.inter_Empty)) :=
  (call_ok (c := c19) (f := 44) (fn := Try.f44) (code := body44) (args := ([])) (loop := noLoop) (md := ⟨false, false⟩) (rd := rd_S23) (wr := wr_S23) (wo := wo_S23) (r := S.inter_Empty) c19_ok (by kernel_rfl) (by kernel_rfl) (by kernel_rfl) (no_loops (by kernel_rfl)) (by kernel_rfl) (by kernel_rfl) (by kernel_rfl)
    rw_S23 np_S23 no_S23 (by kernel_rfl) (Tr.vc_of_noReq (by kernel_rfl)))

noncomputable def sem44 : List W → Option (W × List (List W) × List Prop)
  | [] => some (wr_S23 (S.inter_Empty), wo_S23 (S.inter_Empty), [])
  | _ => none
noncomputable def c44 : Cfg El := c19.add 44 sem44
theorem c44_ok : CfgOk c44 := c19_ok.add (fun args w => Try.call44 args w) (fun vs r outs ps h hp => by
  unfold sem44 at h
  split at h
  · cases h; exact fn44
  · cases h)

noncomputable def body40 : Code := (Try.f40.body).getD .skip
theorem fn40 (lo : Int) (hi : Int) : CallOk c44 40 [.int .i64 lo, .int .i64 hi] (wr_S23 (S.inter_Of lo hi)) (wo_S23 (S.inter_Of lo hi)) :=
  (call_ok (c := c44) (f := 40) (fn := Try.f40) (code := body40) (args := ([.int .i64 lo, .int .i64 hi])) (loop := noLoop) (md := ⟨false, false⟩) (rd := rd_S23) (wr := wr_S23) (wo := wo_S23) (r := (S.inter_Of lo hi)) c44_ok (by kernel_rfl) (by kernel_rfl) (by kernel_rfl) (no_loops (by kernel_rfl)) (by kernel_rfl) (by kernel_rfl) (by kernel_rfl)
    rw_S23 np_S23 no_S23 (by kernel_rfl) (Tr.vc_of_noReq (by kernel_rfl)))

noncomputable def sem40 : List W → Option (W × List (List W) × List Prop)
  | [.int .i64 y1, .int .i64 y2] => some (wr_S23 (S.inter_Of y1 y2), wo_S23 (S.inter_Of y1 y2), [])
  | _ => none
noncomputable def c40 : Cfg El := c44.add 40 sem40
theorem c40_ok : CfgOk c40 := c44_ok.add (fun args w => Try.call40 args w) (fun vs r outs ps h hp => by
  unfold sem40 at h
  split at h
  · rename_i y1 y2; cases h; exact fn40 y1 y2
  · cases h)

noncomputable def body91 : Code := (Try.f91.body).getD .skip
theorem fn91 (i : S.Inter) : CallOk c40 91 [.agg [.int .i64 i.Lo, .int .i64 i.Hi]] (wr_S23 (S.inter_Inter_plain i)) (wo_S23 (S.inter_Inter_plain i)) :=
  (call_ok (c := c40) (f := 91) (fn := Try.f91) (code := body91) (args := ([.agg [.int .i64 i.Lo, .int .i64 i.Hi]])) (loop := noLoop) (md := ⟨false, false⟩) (rd := rd_S23) (wr := wr_S23) (wo := wo_S23) (r := (S.inter_Inter_plain i)) c40_ok (by kernel_rfl) (by kernel_rfl) (by kernel_rfl) (no_loops (by kernel_rfl)) (by kernel_rfl) (by kernel_rfl) (by kernel_rfl)
    rw_S23 np_S23 no_S23 (by kernel_rfl) (Tr.vc_of_noReq (by kernel_rfl)))

noncomputable def sem91 : List W → Option (W × List (List W) × List Prop)
  | [.agg [.int .i64 y1, .int .i64 y2]] => some (wr_S23 (S.inter_Inter_plain (⟨y1, y2⟩ : S.Inter)), wo_S23 (S.inter_Inter_plain (⟨y1, y2⟩ : S.Inter)), [])
  | _ => none
noncomputable def c91 : Cfg El := c40.add 91 sem91
theorem c91_ok : CfgOk c91 := c40_ok.add (fun args w => Try.call91 args w) (fun vs r outs ps h hp => by
  unfold sem91 at h
  split at h
  · rename_i y1 y2; cases h; exact fn91 (⟨y1, y2⟩ : S.Inter)
  · cases h)

noncomputable def rd_b : W → List (List W) → Option (Bool)
  | .bool x1, [] => some x1
  | _, _ => none
noncomputable def wr_b (x : Bool) : W := .bool x
noncomputable def wo_b (_x : Bool) : List (List W) := []
theorem rw_b (v : W) (os : List (List W)) (x : Bool) (h : rd_b v os = some x) : v = wr_b x ∧ os = wo_b x := by
  unfold rd_b at h
  split at h <;> first | (cases h; exact ⟨rfl, rfl⟩) | cases h
theorem np_b (x : Bool) : okv (fun _ => false) (wr_b x) = true := rfl
theorem no_b (x : Bool) : all (fun cs => all (ok0 fun _ => false) cs) (wo_b x) = true := rfl

noncomputable def body35 : Code := (Try.f35.body).getD .skip
theorem fn35 (i : S.Inter) : CallOk c91 35 [.agg [.int .i64 i.Lo, .int .i64 i.Hi]] (wr_b (S.inter_Inter_IsEmpty i)) (wo_b (S.inter_Inter_IsEmpty i)) :=
  (call_ok (c := c91) (f := 35) (fn := Try.f35) (code := body35) (args := ([.agg [.int .i64 i.Lo, .int .i64 i.Hi]])) (loop := noLoop) (md := ⟨false, false⟩) (rd := rd_b) (wr := wr_b) (wo := wo_b) (r := (S.inter_Inter_IsEmpty i)) c91_ok (by kernel_rfl) (by kernel_rfl) (by kernel_rfl) (no_loops (by kernel_rfl)) (by kernel_rfl) (by kernel_rfl) (by kernel_rfl)
    rw_b np_b no_b (by kernel_rfl) (Tr.vc_of_noReq (by kernel_rfl)))

noncomputable def sem35 : List W → Option (W × List (List W) × List Prop)
  | [.agg [.int .i64 y1, .int .i64 y2]] => some (wr_b (S.inter_Inter_IsEmpty (⟨y1, y2⟩ : S.Inter)), wo_b (S.inter_Inter_IsEmpty (⟨y1, y2⟩ : S.Inter)), [])
  | _ => none
noncomputable def c35 : Cfg El := c91.add 35 sem35
theorem c35_ok : CfgOk c35 := c91_ok.add (fun args w => Try.call35 args w) (fun vs r outs ps h hp => by
  unfold sem35 at h
  split at h
  · rename_i y1 y2; cases h; exact fn35 (⟨y1, y2⟩ : S.Inter)
  · cases h)

noncomputable def body43 : Code := (Try.f43.body).getD .skip
theorem fn43 : CallOk c35 43 [] (wr_S23 (S.inter_Whole)) (wo_S23 (S.inter_Whole)) :=
  (call_ok (c := c35) (f := 43) (fn := Try.f43) (code := body43) (args := ([])) (loop := noLoop) (md := ⟨false, false⟩) (rd := rd_S23) (wr := wr_S23) (wo := wo_S23) (r := S.inter_Whole) c35_ok (by kernel_rfl) (by kernel_rfl) (by kernel_rfl) (no_loops (by kernel_rfl)) (by kernel_rfl) (by kernel_rfl) (by kernel_rfl)
    rw_S23 np_S23 no_S23 (by kernel_rfl) (Tr.vc_of_noReq (by kernel_rfl)))

noncomputable def sem43 : List W → Option (W × List (List W) × List Prop)
  | [] => some (wr_S23 (S.inter_Whole), wo_S23 (S.inter_Whole), [])
  | _ => none
noncomputable def c43 : Cfg El := c35.add 43 sem43
theorem c43_ok : CfgOk c43 := c35_ok.add (fun args w => Try.call43 args w) (fun vs r outs ps h hp => by
  unfold sem43 at h
  split at h
  · cases h; exact fn43
  · cases h)

noncomputable def rd_u64_b : W → List (List W) → Option (Int × Bool)
  | .tup [.int .u64 x1, .bool x2], [] => some ⟨x1, x2⟩
  | _, _ => none
noncomputable def wr_u64_b (x : Int × Bool) : W := .tup [.int .u64 x.1, .bool x.2]
noncomputable def wo_u64_b (_x : Int × Bool) : List (List W) := []
theorem rw_u64_b (v : W) (os : List (List W)) (x : Int × Bool) (h : rd_u64_b v os = some x) : v = wr_u64_b x ∧ os = wo_u64_b x := by
  unfold rd_u64_b at h
  split at h <;> first | (cases h; exact ⟨rfl, rfl⟩) | cases h
theorem np_u64_b (x : Int × Bool) : okv (fun _ => false) (wr_u64_b x) = true := rfl
theorem no_u64_b (x : Int × Bool) : all (fun cs => all (ok0 fun _ => false) cs) (wo_u64_b x) = true := rfl

noncomputable def body30 : Code := (Try.f30.body).getD .skip
theorem fn30 (i : S.Inter) : CallOk c43 30 [.agg [.int .i64 i.Lo, .int .i64 i.Hi]] (wr_u64_b (S.inter_Inter_Size i)) (wo_u64_b (S.inter_Inter_Size i)) :=
  (call_ok (c := c43) (f := 30) (fn := Try.f30) (code := body30) (args := ([.agg [.int .i64 i.Lo, .int .i64 i.Hi]])) (loop := noLoop) (md := ⟨false, false⟩) (rd := rd_u64_b) (wr := wr_u64_b) (wo := wo_u64_b) (r := (S.inter_Inter_Size i)) c43_ok (by kernel_rfl) (by kernel_rfl) (by kernel_rfl) (no_loops (by kernel_rfl)) (by kernel_rfl) (by kernel_rfl) (by kernel_rfl)
    rw_u64_b np_u64_b no_u64_b (by kernel_rfl) (Tr.vc_of_noReq (by kernel_rfl)))

noncomputable def sem30 : List W → Option (W × List (List W) × List Prop)
  | [.agg [.int .i64 y1, .int .i64 y2]] => some (wr_u64_b (S.inter_Inter_Size (⟨y1, y2⟩ : S.Inter)), wo_u64_b (S.inter_Inter_Size (⟨y1, y2⟩ : S.Inter)), [])
  | _ => none
noncomputable def c30 : Cfg El := c43.add 30 sem30
theorem c30_ok : CfgOk c30 := c43_ok.add (fun args w => Try.call30 args w) (fun vs r outs ps h hp => by
  unfold sem30 at h
  split at h
  · rename_i y1 y2; cases h; exact fn30 (⟨y1, y2⟩ : S.Inter)
  · cases h)

noncomputable def body36 : Code := (Try.f36.body).getD .skip
theorem fn36 (i : S.Inter) : CallOk c30 36 [.agg [.int .i64 i.Lo, .int .i64 i.Hi]] (wr_b (S.ref19_Empty i)) (wo_b (S.ref19_Empty i)) :=
  (call_ok (c := c30) (f := 36) (fn := Try.f36) (code := body36) (args := ([.agg [.int .i64 i.Lo, .int .i64 i.Hi]])) (loop := noLoop) (md := ⟨false, false⟩) (rd := rd_b) (wr := wr_b) (wo := wo_b) (r := (S.ref19_Empty i)) c30_ok (by kernel_rfl) (by kernel_rfl) (by kernel_rfl) (no_loops (by kernel_rfl)) (by kernel_rfl) (by kernel_rfl) (by kernel_rfl)
    rw_b np_b no_b (by kernel_rfl) (Tr.vc_of_noReq (by kernel_rfl)))

noncomputable def sem36 : List W → Option (W × List (List W) × List Prop)
  | [.agg [.int .i64 y1, .int .i64 y2]] => some (wr_b (S.ref19_Empty (⟨y1, y2⟩ : S.Inter)), wo_b (S.ref19_Empty (⟨y1, y2⟩ : S.Inter)), [])
  | _ => none
noncomputable def c36 : Cfg El := c30.add 36 sem36
theorem c36_ok : CfgOk c36 := c30_ok.add (fun args w => Try.call36 args w) (fun vs r outs ps h hp => by
  unfold sem36 at h
  split at h
  · rename_i y1 y2; cases h; exact fn36 (⟨y1, y2⟩ : S.Inter)
  · cases h)

noncomputable def rd_i64 : W → List (List W) → Option (Int)
  | .int .i64 x1, [] => some x1
  | _, _ => none
noncomputable def wr_i64 (x : Int) : W := .int .i64 x
noncomputable def wo_i64 (_x : Int) : List (List W) := []
theorem rw_i64 (v : W) (os : List (List W)) (x : Int) (h : rd_i64 v os = some x) : v = wr_i64 x ∧ os = wo_i64 x := by
  unfold rd_i64 at h
  split at h <;> first | (cases h; exact ⟨rfl, rfl⟩) | cases h
theorem np_i64 (x : Int) : okv (fun _ => false) (wr_i64 x) = true := rfl
theorem no_i64 (x : Int) : all (fun cs => all (ok0 fun _ => false) cs) (wo_i64 x) = true := rfl

noncomputable def body16 : Code := (Try.f16.body).getD .skip
theorem fn16 : CallOk c36 16 [] (wr_i64 (S.ref19_Least)) (wo_i64 (S.ref19_Least)) :=
  (call_ok (c := c36) (f := 16) (fn := Try.f16) (code := body16) (args := ([])) (loop := noLoop) (md := ⟨false, false⟩) (rd := rd_i64) (wr := wr_i64) (wo := wo_i64) (r := S.ref19_Least) c36_ok (by kernel_rfl) (by kernel_rfl) (by kernel_rfl) (no_loops (by kernel_rfl)) (by kernel_rfl) (by kernel_rfl) (by kernel_rfl)
    rw_i64 np_i64 no_i64 (by kernel_rfl) (Tr.vc_of_noReq (by kernel_rfl)))

noncomputable def sem16 : List W → Option (W × List (List W) × List Prop)
  | [] => some (wr_i64 (S.ref19_Least), wo_i64 (S.ref19_Least), [])
  | _ => none
noncomputable def c16 : Cfg El := c36.add 16 sem16
theorem c16_ok : CfgOk c16 := c36_ok.add (fun args w => Try.call16 args w) (fun vs r outs ps h hp => by
  unfold sem16 at h
  split at h
  · cases h; exact fn16
  · cases h)

noncomputable def body17 : Code := (Try.f17.body).getD .skip
theorem fn17 : CallOk c16 17 [] (wr_i64 (S.ref19_Most)) (wo_i64 (S.ref19_Most)) :=
  (call_ok (c := c16) (f := 17) (fn := Try.f17) (code := body17) (args := ([])) (loop := noLoop) (md := ⟨false, false⟩) (rd := rd_i64) (wr := wr_i64) (wo := wo_i64) (r := S.ref19_Most) c16_ok (by kernel_rfl) (by kernel_rfl) (by kernel_rfl) (no_loops (by kernel_rfl)) (by kernel_rfl) (by kernel_rfl) (by kernel_rfl)
    rw_i64 np_i64 no_i64 (by kernel_rfl) (Tr.vc_of_noReq (by kernel_rfl)))

noncomputable def sem17 : List W → Option (W × List (List W) × List Prop)
  | [] => some (wr_i64 (S.ref19_Most), wo_i64 (S.ref19_Most), [])
  | _ => none
noncomputable def c17 : Cfg El := c16.add 17 sem17
theorem c17_ok : CfgOk c17 := c16_ok.add (fun args w => Try.call17 args w) (fun vs r outs ps h hp => by
  unfold sem17 at h
  split at h
  · cases h; exact fn17
  · cases h)

noncomputable def body31 : Code := (Try.f31.body).getD .skip
theorem fn31 (i : S.Inter) : CallOk c17 31 [.agg [.int .i64 i.Lo, .int .i64 i.Hi]] (wr_u64_b (S.ref19_Size i)) (wo_u64_b (S.ref19_Size i)) :=
  (call_ok (c := c17) (f := 31) (fn := Try.f31) (code := body31) (args := ([.agg [.int .i64 i.Lo, .int .i64 i.Hi]])) (loop := noLoop) (md := ⟨false, false⟩) (rd := rd_u64_b) (wr := wr_u64_b) (wo := wo_u64_b) (r := (S.ref19_Size i)) c17_ok (by kernel_rfl) (by kernel_rfl) (by kernel_rfl) (no_loops (by kernel_rfl)) (by kernel_rfl) (by kernel_rfl) (by kernel_rfl)
    rw_u64_b np_u64_b no_u64_b (by kernel_rfl) (Tr.vc_of_noReq (by kernel_rfl)))

noncomputable def sem31 : List W → Option (W × List (List W) × List Prop)
  | [.agg [.int .i64 y1, .int .i64 y2]] => some (wr_u64_b (S.ref19_Size (⟨y1, y2⟩ : S.Inter)), wo_u64_b (S.ref19_Size (⟨y1, y2⟩ : S.Inter)), [])
  | _ => none
noncomputable def c31 : Cfg El := c17.add 31 sem31
theorem c31_ok : CfgOk c31 := c17_ok.add (fun args w => Try.call31 args w) (fun vs r outs ps h hp => by
  unfold sem31 at h
  split at h
  · rename_i y1 y2; cases h; exact fn31 (⟨y1, y2⟩ : S.Inter)
  · cases h)

noncomputable def body42 : Code := (Try.f42.body).getD .skip
theorem fn42 (n : Int) : CallOk c31 42 [.int .i64 n] (wr_S23 (S.inter_One n)) (wo_S23 (S.inter_One n)) :=
  (call_ok (c := c31) (f := 42) (fn := Try.f42) (code := body42) (args := ([.int .i64 n])) (loop := noLoop) (md := ⟨false, false⟩) (rd := rd_S23) (wr := wr_S23) (wo := wo_S23) (r := (S.inter_One n)) c31_ok (by kernel_rfl) (by kernel_rfl) (by kernel_rfl) (no_loops (by kernel_rfl)) (by kernel_rfl) (by kernel_rfl) (by kernel_rfl)
    rw_S23 np_S23 no_S23 (by kernel_rfl) (Tr.vc_of_noReq (by kernel_rfl)))

noncomputable def sem42 : List W → Option (W × List (List W) × List Prop)
  | [.int .i64 y1] => some (wr_S23 (S.inter_One y1), wo_S23 (S.inter_One y1), [])
  | _ => none
noncomputable def c42 : Cfg El := c31.add 42 sem42
theorem c42_ok : CfgOk c42 := c31_ok.add (fun args w => Try.call42 args w) (fun vs r outs ps h hp => by
  unfold sem42 at h
  split at h
  · rename_i y1; cases h; exact fn42 y1
  · cases h)

noncomputable def rd_i64_b : W → List (List W) → Option (Int × Bool)
  | .tup [.int .i64 x1, .bool x2], [] => some ⟨x1, x2⟩
  | _, _ => none
noncomputable def wr_i64_b (x : Int × Bool) : W := .tup [.int .i64 x.1, .bool x.2]
noncomputable def wo_i64_b (_x : Int × Bool) : List (List W) := []
theorem rw_i64_b (v : W) (os : List (List W)) (x : Int × Bool) (h : rd_i64_b v os = some x) : v = wr_i64_b x ∧ os = wo_i64_b x := by
  unfold rd_i64_b at h
  split at h <;> first | (cases h; exact ⟨rfl, rfl⟩) | cases h
theorem np_i64_b (x : Int × Bool) : okv (fun _ => false) (wr_i64_b x) = true := rfl
theorem no_i64_b (x : Int × Bool) : all (fun cs => all (ok0 fun _ => false) cs) (wo_i64_b x) = true := rfl

noncomputable def body32 : Code := (Try.f32.body).getD .skip
theorem fn32 (i : S.Inter) : CallOk c42 32 [.agg [.int .i64 i.Lo, .int .i64 i.Hi]] (wr_i64_b (S.inter_Inter_Single i)) (wo_i64_b (S.inter_Inter_Single i)) :=
  (call_ok (c := c42) (f := 32) (fn := Try.f32) (code := body32) (args := ([.agg [.int .i64 i.Lo, .int .i64 i.Hi]])) (loop := noLoop) (md := ⟨false, false⟩) (rd := rd_i64_b) (wr := wr_i64_b) (wo := wo_i64_b) (r := (S.inter_Inter_Single i)) c42_ok (by kernel_rfl) (by kernel_rfl) (by kernel_rfl) (no_loops (by kernel_rfl)) (by kernel_rfl) (by kernel_rfl) (by kernel_rfl)
    rw_i64_b np_i64_b no_i64_b (by kernel_rfl) (Tr.vc_of_noReq (by kernel_rfl)))

noncomputable def sem32 : List W → Option (W × List (List W) × List Prop)
  | [.agg [.int .i64 y1, .int .i64 y2]] => some (wr_i64_b (S.inter_Inter_Single (⟨y1, y2⟩ : S.Inter)), wo_i64_b (S.inter_Inter_Single (⟨y1, y2⟩ : S.Inter)), [])
  | _ => none
noncomputable def c32 : Cfg El := c42.add 32 sem32
theorem c32_ok : CfgOk c32 := c42_ok.add (fun args w => Try.call32 args w) (fun vs r outs ps h hp => by
  unfold sem32 at h
  split at h
  · rename_i y1 y2; cases h; exact fn32 (⟨y1, y2⟩ : S.Inter)
  · cases h)

noncomputable def body33 : Code := (Try.f33.body).getD .skip
theorem fn33 (i : S.Inter) (n : Int) : CallOk c32 33 [.agg [.int .i64 i.Lo, .int .i64 i.Hi], .int .i64 n] (wr_i64_b (S.inter_Inter_Near i n)) (wo_i64_b (S.inter_Inter_Near i n)) :=
  (call_ok (c := c32) (f := 33) (fn := Try.f33) (code := body33) (args := ([.agg [.int .i64 i.Lo, .int .i64 i.Hi], .int .i64 n])) (loop := noLoop) (md := ⟨false, false⟩) (rd := rd_i64_b) (wr := wr_i64_b) (wo := wo_i64_b) (r := (S.inter_Inter_Near i n)) c32_ok (by kernel_rfl) (by kernel_rfl) (by kernel_rfl) (no_loops (by kernel_rfl)) (by kernel_rfl) (by kernel_rfl) (by kernel_rfl)
    rw_i64_b np_i64_b no_i64_b (by kernel_rfl) (Tr.vc_of_noReq (by kernel_rfl)))

noncomputable def sem33 : List W → Option (W × List (List W) × List Prop)
  | [.agg [.int .i64 y1, .int .i64 y2], .int .i64 y3] => some (wr_i64_b (S.inter_Inter_Near (⟨y1, y2⟩ : S.Inter) y3), wo_i64_b (S.inter_Inter_Near (⟨y1, y2⟩ : S.Inter) y3), [])
  | _ => none
noncomputable def c33 : Cfg El := c32.add 33 sem33
theorem c33_ok : CfgOk c33 := c32_ok.add (fun args w => Try.call33 args w) (fun vs r outs ps h hp => by
  unfold sem33 at h
  split at h
  · rename_i y1 y2 y3; cases h; exact fn33 (⟨y1, y2⟩ : S.Inter) y3
  · cases h)

noncomputable def body34 : Code := (Try.f34.body).getD .skip
theorem fn34 (i : S.Inter) (n : Int) : CallOk c33 34 [.agg [.int .i64 i.Lo, .int .i64 i.Hi], .int .i64 n] (wr_i64_b (S.ref19_Near i n)) (wo_i64_b (S.ref19_Near i n)) :=
  (call_ok (c := c33) (f := 34) (fn := Try.f34) (code := body34) (args := ([.agg [.int .i64 i.Lo, .int .i64 i.Hi], .int .i64 n])) (loop := noLoop) (md := ⟨false, false⟩) (rd := rd_i64_b) (wr := wr_i64_b) (wo := wo_i64_b) (r := (S.ref19_Near i n)) c33_ok (by kernel_rfl) (by kernel_rfl) (by kernel_rfl) (no_loops (by kernel_rfl)) (by kernel_rfl) (by kernel_rfl) (by kernel_rfl)
    rw_i64_b np_i64_b no_i64_b (by kernel_rfl) (Tr.vc_of_noReq (by kernel_rfl)))

noncomputable def sem34 : List W → Option (W × List (List W) × List Prop)
  | [.agg [.int .i64 y1, .int .i64 y2], .int .i64 y3] => some (wr_i64_b (S.ref19_Near (⟨y1, y2⟩ : S.Inter) y3), wo_i64_b (S.ref19_Near (⟨y1, y2⟩ : S.Inter) y3), [])
  | _ => none
noncomputable def c34 : Cfg El := c33.add 34 sem34
theorem c34_ok : CfgOk c34 := c33_ok.add (fun args w => Try.call34 args w) (fun vs r outs ps h hp => by
  unfold sem34 at h
  split at h
  · rename_i y1 y2 y3; cases h; exact fn34 (⟨y1, y2⟩ : S.Inter) y3
  · cases h)

noncomputable def body27 : Code := (Try.f27.body).getD .skip
theorem fn27 (i : S.Inter) (n : Int) : CallOk c34 27 [.agg [.int .i64 i.Lo, .int .i64 i.Hi], .int .i64 n] (wr_b (S.inter_Inter_Has i n)) (wo_b (S.inter_Inter_Has i n)) :=
  (call_ok (c := c34) (f := 27) (fn := Try.f27) (code := body27) (args := ([.agg [.int .i64 i.Lo, .int .i64 i.Hi], .int .i64 n])) (loop := noLoop) (md := ⟨false, false⟩) (rd := rd_b) (wr := wr_b) (wo := wo_b) (r := (S.inter_Inter_Has i n)) c34_ok (by kernel_rfl) (by kernel_rfl) (by kernel_rfl) (no_loops (by kernel_rfl)) (by kernel_rfl) (by kernel_rfl) (by kernel_rfl)
    rw_b np_b no_b (by kernel_rfl) (Tr.vc_of_noReq (by kernel_rfl)))

noncomputable def sem27 : List W → Option (W × List (List W) × List Prop)
  | [.agg [.int .i64 y1, .int .i64 y2], .int .i64 y3] => some (wr_b (S.inter_Inter_Has (⟨y1, y2⟩ : S.Inter) y3), wo_b (S.inter_Inter_Has (⟨y1, y2⟩ : S.Inter) y3), [])
  | _ => none
noncomputable def c27 : Cfg El := c34.add 27 sem27
theorem c27_ok : CfgOk c27 := c34_ok.add (fun args w => Try.call27 args w) (fun vs r outs ps h hp => by
  unfold sem27 at h
  split at h
  · rename_i y1 y2 y3; cases h; exact fn27 (⟨y1, y2⟩ : S.Inter) y3
  · cases h)

noncomputable def body37 : Code := (Try.f37.body).getD .skip
theorem fn37 (i : S.Inter) (n : Int) : CallOk c27 37 [.agg [.int .i64 i.Lo, .int .i64 i.Hi], .int .i64 n] (wr_b (S.ref19_Has i n)) (wo_b (S.ref19_Has i n)) :=
  (call_ok (c := c27) (f := 37) (fn := Try.f37) (code := body37) (args := ([.agg [.int .i64 i.Lo, .int .i64 i.Hi], .int .i64 n])) (loop := noLoop) (md := ⟨false, false⟩) (rd := rd_b) (wr := wr_b) (wo := wo_b) (r := (S.ref19_Has i n)) c27_ok (by kernel_rfl) (by kernel_rfl) (by kernel_rfl) (no_loops (by kernel_rfl)) (by kernel_rfl) (by kernel_rfl) (by kernel_rfl)
    rw_b np_b no_b (by kernel_rfl) (Tr.vc_of_noReq (by kernel_rfl)))

noncomputable def sem37 : List W → Option (W × List (List W) × List Prop)
  | [.agg [.int .i64 y1, .int .i64 y2], .int .i64 y3] => some (wr_b (S.ref19_Has (⟨y1, y2⟩ : S.Inter) y3), wo_b (S.ref19_Has (⟨y1, y2⟩ : S.Inter) y3), [])
  | _ => none
noncomputable def c37 : Cfg El := c27.add 37 sem37
theorem c37_ok : CfgOk c37 := c27_ok.add (fun args w => Try.call37 args w) (fun vs r outs ps h hp => by
  unfold sem37 at h
  split at h
  · rename_i y1 y2 y3; cases h; exact fn37 (⟨y1, y2⟩ : S.Inter) y3
  · cases h)

noncomputable def body29 : Code := (Try.f29.body).getD .skip
theorem fn29 (a : S.Inter) (b : S.Inter) : CallOk c37 29 [.agg [.int .i64 a.Lo, .int .i64 a.Hi], .agg [.int .i64 b.Lo, .int .i64 b.Hi]] (wr_b (S.inter_Within a b)) (wo_b (S.inter_Within a b)) :=
  (call_ok (c := c37) (f := 29) (fn := Try.f29) (code := body29) (args := ([.agg [.int .i64 a.Lo, .int .i64 a.Hi], .agg [.int .i64 b.Lo, .int .i64 b.Hi]])) (loop := noLoop) (md := ⟨false, false⟩) (rd := rd_b) (wr := wr_b) (wo := wo_b) (r := (S.inter_Within a b)) c37_ok (by kernel_rfl) (by kernel_rfl) (by kernel_rfl) (no_loops (by kernel_rfl)) (by kernel_rfl) (by kernel_rfl) (by kernel_rfl)
    rw_b np_b no_b (by kernel_rfl) (Tr.vc_of_noReq (by kernel_rfl)))

noncomputable def sem29 : List W → Option (W × List (List W) × List Prop)
  | [.agg [.int .i64 y1, .int .i64 y2], .agg [.int .i64 y3, .int .i64 y4]] => some (wr_b (S.inter_Within (⟨y1, y2⟩ : S.Inter) (⟨y3, y4⟩ : S.Inter)), wo_b (S.inter_Within (⟨y1, y2⟩ : S.Inter) (⟨y3, y4⟩ : S.Inter)), [])
  | _ => none
noncomputable def c29 : Cfg El := c37.add 29 sem29
theorem c29_ok : CfgOk c29 := c37_ok.add (fun args w => Try.call29 args w) (fun vs r outs ps h hp => by
  unfold sem29 at h
  split at h
  · rename_i y1 y2 y3 y4; cases h; exact fn29 (⟨y1, y2⟩ : S.Inter) (⟨y3, y4⟩ : S.Inter)
  · cases h)

noncomputable def body38 : Code := (Try.f38.body).getD .skip
theorem fn38 (a : S.Inter) (b : S.Inter) : CallOk c29 38 [.agg [.int .i64 a.Lo, .int .i64 a.Hi], .agg [.int .i64 b.Lo, .int .i64 b.Hi]] (wr_b (S.ref19_Within a b)) (wo_b (S.ref19_Within a b)) :=
  (call_ok (c := c29) (f := 38) (fn := Try.f38) (code := body38) (args := ([.agg [.int .i64 a.Lo, .int .i64 a.Hi], .agg [.int .i64 b.Lo, .int .i64 b.Hi]])) (loop := noLoop) (md := ⟨false, false⟩) (rd := rd_b) (wr := wr_b) (wo := wo_b) (r := (S.ref19_Within a b)) c29_ok (by kernel_rfl) (by kernel_rfl) (by kernel_rfl) (no_loops (by kernel_rfl)) (by kernel_rfl) (by kernel_rfl) (by kernel_rfl)
    rw_b np_b no_b (by kernel_rfl) (Tr.vc_of_noReq (by kernel_rfl)))

noncomputable def sem38 : List W → Option (W × List (List W) × List Prop)
  | [.agg [.int .i64 y1, .int .i64 y2], .agg [.int .i64 y3, .int .i64 y4]] => some (wr_b (S.ref19_Within (⟨y1, y2⟩ : S.Inter) (⟨y3, y4⟩ : S.Inter)), wo_b (S.ref19_Within (⟨y1, y2⟩ : S.Inter) (⟨y3, y4⟩ : S.Inter)), [])
  | _ => none
noncomputable def c38 : Cfg El := c29.add 38 sem38
theorem c38_ok : CfgOk c38 := c29_ok.add (fun args w => Try.call38 args w) (fun vs r outs ps h hp => by
  unfold sem38 at h
  split at h
  · rename_i y1 y2 y3 y4; cases h; exact fn38 (⟨y1, y2⟩ : S.Inter) (⟨y3, y4⟩ : S.Inter)
  · cases h)

noncomputable def body28 : Code := (Try.f28.body).getD .skip
theorem fn28 (a : S.Inter) (b : S.Inter) : CallOk c38 28 [.agg [.int .i64 a.Lo, .int .i64 a.Hi], .agg [.int .i64 b.Lo, .int .i64 b.Hi]] (wr_b (S.inter_Same a b)) (wo_b (S.inter_Same a b)) :=
  (call_ok (c := c38) (f := 28) (fn := Try.f28) (code := body28) (args := ([.agg [.int .i64 a.Lo, .int .i64 a.Hi], .agg [.int .i64 b.Lo, .int .i64 b.Hi]])) (loop := noLoop) (md := ⟨false, false⟩) (rd := rd_b) (wr := wr_b) (wo := wo_b) (r := (S.inter_Same a b)) c38_ok (by kernel_rfl) (by kernel_rfl) (by kernel_rfl) (no_loops (by kernel_rfl)) (by kernel_rfl) (by kernel_rfl) (by kernel_rfl)
    rw_b np_b no_b (by kernel_rfl) (Tr.vc_of_noReq (by kernel_rfl)))

noncomputable def sem28 : List W → Option (W × List (List W) × List Prop)
  | [.agg [.int .i64 y1, .int .i64 y2], .agg [.int .i64 y3, .int .i64 y4]] => some (wr_b (S.inter_Same (⟨y1, y2⟩ : S.Inter) (⟨y3, y4⟩ : S.Inter)), wo_b (S.inter_Same (⟨y1, y2⟩ : S.Inter) (⟨y3, y4⟩ : S.Inter)), [])
  | _ => none
noncomputable def c28 : Cfg El := c38.add 28 sem28
theorem c28_ok : CfgOk c28 := c38_ok.add (fun args w => Try.call28 args w) (fun vs r outs ps h hp => by
  unfold sem28 at h
  split at h
  · rename_i y1 y2 y3 y4; cases h; exact fn28 (⟨y1, y2⟩ : S.Inter) (⟨y3, y4⟩ : S.Inter)
  · cases h)

noncomputable def body41 : Code := (Try.f41.body).getD .skip
theorem fn41 (i : S.Inter) : CallOk c28 41 [.agg [.int .i64 i.Lo, .int .i64 i.Hi]] (wr_S23 (S.ref19_Plain i)) (wo_S23 (S.ref19_Plain i)) :=
  (call_ok (c := c28) (f := 41) (fn := Try.f41) (code := body41) (args := ([.agg [.int .i64 i.Lo, .int .i64 i.Hi]])) (loop := noLoop) (md := ⟨false, false⟩) (rd := rd_S23) (wr := wr_S23) (wo := wo_S23) (r := (S.ref19_Plain i)) c28_ok (by kernel_rfl) (by kernel_rfl) (by kernel_rfl) (no_loops (by kernel_rfl)) (by kernel_rfl) (by kernel_rfl) (by kernel_rfl)
    rw_S23 np_S23 no_S23 (by kernel_rfl) (Tr.vc_of_noReq (by kernel_rfl)))

noncomputable def sem41 : List W → Option (W × List (List W) × List Prop)
  | [.agg [.int .i64 y1, .int .i64 y2]] => some (wr_S23 (S.ref19_Plain (⟨y1, y2⟩ : S.Inter)), wo_S23 (S.ref19_Plain (⟨y1, y2⟩ : S.Inter)), [])
  | _ => none
noncomputable def c41 : Cfg El := c28.add 41 sem41
theorem c41_ok : CfgOk c41 := c28_ok.add (fun args w => Try.call41 args w) (fun vs r outs ps h hp => by
  unfold sem41 at h
  split at h
  · rename_i y1 y2; cases h; exact fn41 (⟨y1, y2⟩ : S.Inter)
  · cases h)

noncomputable def body39 : Code := (Try.f39.body).getD .skip
theorem fn39 (a : S.Inter) (b : S.Inter) : CallOk c41 39 [.agg [.int .i64 a.Lo, .int .i64 a.Hi], .agg [.int .i64 b.Lo, .int .i64 b.Hi]] (wr_b (S.ref19_Same a b)) (wo_b (S.ref19_Same a b)) :=
  (call_ok (c := c41) (f := 39) (fn := Try.f39) (code := body39) (args := ([.agg [.int .i64 a.Lo, .int .i64 a.Hi], .agg [.int .i64 b.Lo, .int .i64 b.Hi]])) (loop := noLoop) (md := ⟨false, false⟩) (rd := rd_b) (wr := wr_b) (wo := wo_b) (r := (S.ref19_Same a b)) c41_ok (by kernel_rfl) (by kernel_rfl) (by kernel_rfl) (no_loops (by kernel_rfl)) (by kernel_rfl) (by kernel_rfl) (by kernel_rfl)
    rw_b np_b no_b (by kernel_rfl) (Tr.vc_of_noReq (by kernel_rfl)))

noncomputable def sem39 : List W → Option (W × List (List W) × List Prop)
  | [.agg [.int .i64 y1, .int .i64 y2], .agg [.int .i64 y3, .int .i64 y4]] => some (wr_b (S.ref19_Same (⟨y1, y2⟩ : S.Inter) (⟨y3, y4⟩ : S.Inter)), wo_b (S.ref19_Same (⟨y1, y2⟩ : S.Inter) (⟨y3, y4⟩ : S.Inter)), [])
  | _ => none
noncomputable def c39 : Cfg El := c41.add 39 sem39
theorem c39_ok : CfgOk c39 := c41_ok.add (fun args w => Try.call39 args w) (fun vs r outs ps h hp => by
  unfold sem39 at h
  split at h
  · rename_i y1 y2 y3 y4; cases h; exact fn39 (⟨y1, y2⟩ : S.Inter) (⟨y3, y4⟩ : S.Inter)
  · cases h)

noncomputable def body89 : Code := (Try.f89.body).getD .skip
theorem fn89 (a : S.Inter) (b : S.Inter) : CallOk c39 89 [.agg [.int .i64 a.Lo, .int .i64 a.Hi], .agg [.int .i64 b.Lo, .int .i64 b.Hi]] (wr_S23 (S.inter_Join_1 a b)) (wo_S23 (S.inter_Join_1 a b)) :=
  (call_ok (c := c39) (f := 89) (fn := Try.f89) (code := body89) (args := ([.agg [.int .i64 a.Lo, .int .i64 a.Hi], .agg [.int .i64 b.Lo, .int .i64 b.Hi]])) (loop := noLoop) (md := ⟨false, false⟩) (rd := rd_S23) (wr := wr_S23) (wo := wo_S23) (r := (S.inter_Join_1 a b)) c39_ok (by kernel_rfl) (by kernel_rfl) (by kernel_rfl) (no_loops (by kernel_rfl)) (by kernel_rfl) (by kernel_rfl) (by kernel_rfl)
    rw_S23 np_S23 no_S23 (by kernel_rfl) (Tr.vc_of_noReq (by kernel_rfl)))

noncomputable def sem89 : List W → Option (W × List (List W) × List Prop)
  | [.agg [.int .i64 y1, .int .i64 y2], .agg [.int .i64 y3, .int .i64 y4]] => some (wr_S23 (S.inter_Join_1 (⟨y1, y2⟩ : S.Inter) (⟨y3, y4⟩ : S.Inter)), wo_S23 (S.inter_Join_1 (⟨y1, y2⟩ : S.Inter) (⟨y3, y4⟩ : S.Inter)), [])
  | _ => none
noncomputable def c89 : Cfg El := c39.add 89 sem89
theorem c89_ok : CfgOk c89 := c39_ok.add (fun args w => Try.call89 args w) (fun vs r outs ps h hp => by
  unfold sem89 at h
  split at h
  · rename_i y1 y2 y3 y4; cases h; exact fn89 (⟨y1, y2⟩ : S.Inter) (⟨y3, y4⟩ : S.Inter)
  · cases h)

noncomputable def body90 : Code := (Try.f90.body).getD .skip
theorem fn90 (a : S.Inter) (b : S.Inter) : CallOk c89 90 [.agg [.int .i64 a.Lo, .int .i64 a.Hi], .agg [.int .i64 b.Lo, .int .i64 b.Hi]] (wr_S23 (S.inter_Meet_1 a b)) (wo_S23 (S.inter_Meet_1 a b)) :=
  (call_ok (c := c89) (f := 90) (fn := Try.f90) (code := body90) (args := ([.agg [.int .i64 a.Lo, .int .i64 a.Hi], .agg [.int .i64 b.Lo, .int .i64 b.Hi]])) (loop := noLoop) (md := ⟨false, false⟩) (rd := rd_S23) (wr := wr_S23) (wo := wo_S23) (r := (S.inter_Meet_1 a b)) c89_ok (by kernel_rfl) (by kernel_rfl) (by kernel_rfl) (no_loops (by kernel_rfl)) (by kernel_rfl) (by kernel_rfl) (by kernel_rfl)
    rw_S23 np_S23 no_S23 (by kernel_rfl) (Tr.vc_of_noReq (by kernel_rfl)))

noncomputable def sem90 : List W → Option (W × List (List W) × List Prop)
  | [.agg [.int .i64 y1, .int .i64 y2], .agg [.int .i64 y3, .int .i64 y4]] => some (wr_S23 (S.inter_Meet_1 (⟨y1, y2⟩ : S.Inter) (⟨y3, y4⟩ : S.Inter)), wo_S23 (S.inter_Meet_1 (⟨y1, y2⟩ : S.Inter) (⟨y3, y4⟩ : S.Inter)), [])
  | _ => none
noncomputable def c90 : Cfg El := c89.add 90 sem90
theorem c90_ok : CfgOk c90 := c89_ok.add (fun args w => Try.call90 args w) (fun vs r outs ps h hp => by
  unfold sem90 at h
  split at h
  · rename_i y1 y2 y3 y4; cases h; exact fn90 (⟨y1, y2⟩ : S.Inter) (⟨y3, y4⟩ : S.Inter)
  · cases h)

noncomputable def body88 : Code := (Try.f88.body).getD .skip
noncomputable def lb88_inter_Join_1_0 : Code := ((nth (loopsOf 0 body88) 0).getD (0, .skip)).2
noncomputable def px88_inter_Join_1_0 : List W → Option S.inter_fold_inter_Join_1_L0
  | [.fn 89, .ptr 3 0, .list 24 false y1, .int .i64 y2, .int .i64 y3, .int .i64 y4, .int .i64 y5] => some ⟨y1, y2, y3, ⟨y4, y5⟩⟩
  | _ => none
noncomputable def tx88_inter_Join_1_0 (x : S.inter_fold_inter_Join_1_L0) : List W := [.fn 89, .ptr 3 0, .list 24 false x.t9, .int .i64 x.t10, .int .i64 x.t11, .int .i64 x.first.Lo, .int .i64 x.first.Hi]
noncomputable def py88_inter_Join_1_0 : Ex → List W → Option (S.inter_fold_inter_Join_1_L0)
  | .exit 0, [.fn 89, .ptr 3 0, .list 24 false y1, .int .i64 y2, .int .i64 y3, .int .i64 y4, .int .i64 y5] => some ⟨y1, y2, y3, ⟨y4, y5⟩⟩
  | _, _ => none
noncomputable def ld88_inter_Join_1_0 : LD El where
  X := S.inter_fold_inter_Join_1_L0
  Y := S.inter_fold_inter_Join_1_L0
  keys := [.slot 2, .slot 3, .slot 9, .slot 10, .slot 11, .cell 3 0, .cell 3 1]
  fits := [31, 0, 22, 3, 3, 2, 2]
  px := px88_inter_Join_1_0
  tx := tx88_inter_Join_1_0
  okeys := [.slot 2, .slot 3, .slot 9, .slot 10, .slot 11, .cell 3 0, .cell 3 1]
  ofits := [31, 0, 22, 3, 3, 2, 2]
  py := py88_inter_Join_1_0
  ty := fun y => tx88_inter_Join_1_0 y
  oex := fun _ => .exit 0
  junk := [.slot 8, .slot 12, .slot 13, .slot 14, .slot 15, .slot 16, .slot 17, .slot 18, .slot 19]
  rows := []
noncomputable def lo88_inter_Join_1_0 : S.inter_fold_inter_Join_1_L0 → Tr El := fun y => .leaf (.exit 0) (zipK ld88_inter_Join_1_0.okeys (tx88_inter_Join_1_0 y) ++ junkK ld88_inter_Join_1_0.junk)
noncomputable def loop88_inter_Join_1 : Nat → Env El → Tr El
  | 0 => ld88_inter_Join_1_0.tree c90 Try.f88.ntmps 0 lb88_inter_Join_1_0 S.inter_fold_inter_Join_1_L0_run lo88_inter_Join_1_0 S.inter_fold_inter_Join_1_L0_step S.inter_fold_inter_Join_1_L0_vcs
  | _ => fun _ => .fail
theorem lok88_inter_Join_1_0 : ∀ w0 S0, LoopOk c90 Try.f88.ntmps w0 S0 loop88_inter_Join_1 0 lb88_inter_Join_1_0 :=
  loop_ok (c := c90) (n := Try.f88.ntmps) c90_ok mixed ld88_inter_Join_1_0 (body := lb88_inter_Join_1_0) (key := 0) (loop := loop88_inter_Join_1) (F := S.inter_fold_inter_Join_1_L0_run) (out := lo88_inter_Join_1_0) (step := S.inter_fold_inter_Join_1_L0_step) (vcs := S.inter_fold_inter_Join_1_L0_vcs)
    (fun _ => by kernel_rfl) (no_loops (by kernel_rfl)) rfl rfl
    (fun vs x h => by unfold ld88_inter_Join_1_0 px88_inter_Join_1_0 at h; dsimp only at h; split at h <;> first | (cases h; rfl) | cases h)
    (fun e vs y h => by unfold ld88_inter_Join_1_0 py88_inter_Join_1_0 at h; dsimp only at h; split at h <;> first | (cases h; exact ⟨rfl, rfl⟩) | cases h)
    (by kernel_rfl) (fun _ => rfl) (fun _ _ h => h) (fun x => by kernel_rfl) (fun x h => Eq.mpr (show Vm.Tr.vc (Vm.ev c90 Try.f88.ntmps loop88_inter_Join_1 0 lb88_inter_Join_1_0 (ld88_inter_Join_1_0.vars x) []) = S.inter_fold_inter_Join_1_L0_vcs x by kernel_rfl) h)
theorem fn88_inter_Join_1 (first : S.Inter) (l : (List S.Inter)) (hp : S.inter_fold_inter_Join_1_pre first l) : CallOk c90 88 [.agg [.int .i64 first.Lo, .int .i64 first.Hi], .list 24 false l, .fn 89] (wr_S23 (S.inter_fold_inter_Join_1 first l)) (wo_S23 (S.inter_fold_inter_Join_1 first l)) :=
  (call_ok (c := c90) (f := 88) (fn := Try.f88) (code := body88) (args := ([.agg [.int .i64 first.Lo, .int .i64 first.Hi], .list 24 false l, .fn 89])) (loop := loop88_inter_Join_1) (md := ⟨false, false⟩) (rd := rd_S23) (wr := wr_S23) (wo := wo_S23) (r := (S.inter_fold_inter_Join_1 first l)) c90_ok (by kernel_rfl) (by kernel_rfl) (by kernel_rfl) (loops_all (l := [(0, lb88_inter_Join_1_0)]) (by kernel_rfl) ⟨lok88_inter_Join_1_0, trivial⟩) (by kernel_rfl) (by kernel_rfl) (by kernel_rfl)
    rw_S23 np_S23 no_S23 (by kernel_rfl) (Eq.mpr (show Vm.Tr.vc (Vm.Fn c90 Try.f88 body88 loop88_inter_Join_1 ([.agg [.int .i64 first.Lo, .int .i64 first.Hi], .list 24 false l, .fn 89])) = S.inter_fold_inter_Join_1_pre first l by kernel_rfl) hp))

noncomputable def lb88_inter_Meet_1_0 : Code := ((nth (loopsOf 0 body88) 0).getD (0, .skip)).2
noncomputable def px88_inter_Meet_1_0 : List W → Option S.inter_fold_inter_Meet_1_L0
  | [.fn 90, .ptr 3 0, .list 24 false y1, .int .i64 y2, .int .i64 y3, .int .i64 y4, .int .i64 y5] => some ⟨y1, y2, y3, ⟨y4, y5⟩⟩
  | _ => none
noncomputable def tx88_inter_Meet_1_0 (x : S.inter_fold_inter_Meet_1_L0) : List W := [.fn 90, .ptr 3 0, .list 24 false x.t9, .int .i64 x.t10, .int .i64 x.t11, .int .i64 x.first.Lo, .int .i64 x.first.Hi]
noncomputable def py88_inter_Meet_1_0 : Ex → List W → Option (S.inter_fold_inter_Meet_1_L0)
  | .exit 0, [.fn 90, .ptr 3 0, .list 24 false y1, .int .i64 y2, .int .i64 y3, .int .i64 y4, .int .i64 y5] => some ⟨y1, y2, y3, ⟨y4, y5⟩⟩
  | _, _ => none
noncomputable def ld88_inter_Meet_1_0 : LD El where
  X := S.inter_fold_inter_Meet_1_L0
  Y := S.inter_fold_inter_Meet_1_L0
  keys := [.slot 2, .slot 3, .slot 9, .slot 10, .slot 11, .cell 3 0, .cell 3 1]
  fits := [31, 0, 22, 3, 3, 2, 2]
  px := px88_inter_Meet_1_0
  tx := tx88_inter_Meet_1_0
  okeys := [.slot 2, .slot 3, .slot 9, .slot 10, .slot 11, .cell 3 0, .cell 3 1]
  ofits := [31, 0, 22, 3, 3, 2, 2]
  py := py88_inter_Meet_1_0
  ty := fun y => tx88_inter_Meet_1_0 y
  oex := fun _ => .exit 0
  junk := [.slot 8, .slot 12, .slot 13, .slot 14, .slot 15, .slot 16, .slot 17, .slot 18, .slot 19]
  rows := []
noncomputable def lo88_inter_Meet_1_0 : S.inter_fold_inter_Meet_1_L0 → Tr El := fun y => .leaf (.exit 0) (zipK ld88_inter_Meet_1_0.okeys (tx88_inter_Meet_1_0 y) ++ junkK ld88_inter_Meet_1_0.junk)
noncomputable def loop88_inter_Meet_1 : Nat → Env El → Tr El
  | 0 => ld88_inter_Meet_1_0.tree c90 Try.f88.ntmps 0 lb88_inter_Meet_1_0 S.inter_fold_inter_Meet_1_L0_run lo88_inter_Meet_1_0 S.inter_fold_inter_Meet_1_L0_step S.inter_fold_inter_Meet_1_L0_vcs
  | _ => fun _ => .fail
theorem lok88_inter_Meet_1_0 : ∀ w0 S0, LoopOk c90 Try.f88.ntmps w0 S0 loop88_inter_Meet_1 0 lb88_inter_Meet_1_0 :=
  loop_ok (c := c90) (n := Try.f88.ntmps) c90_ok mixed ld88_inter_Meet_1_0 (body := lb88_inter_Meet_1_0) (key := 0) (loop := loop88_inter_Meet_1) (F := S.inter_fold_inter_Meet_1_L0_run) (out := lo88_inter_Meet_1_0) (step := S.inter_fold_inter_Meet_1_L0_step) (vcs := S.inter_fold_inter_Meet_1_L0_vcs)
    (fun _ => by kernel_rfl) (no_loops (by kernel_rfl)) rfl rfl
    (fun vs x h => by unfold ld88_inter_Meet_1_0 px88_inter_Meet_1_0 at h; dsimp only at h; split at h <;> first | (cases h; rfl) | cases h)
    (fun e vs y h => by unfold ld88_inter_Meet_1_0 py88_inter_Meet_1_0 at h; dsimp only at h; split at h <;> first | (cases h; exact ⟨rfl, rfl⟩) | cases h)
    (by kernel_rfl) (fun _ => rfl) (fun _ _ h => h) (fun x => by kernel_rfl) (fun x h => Eq.mpr (show Vm.Tr.vc (Vm.ev c90 Try.f88.ntmps loop88_inter_Meet_1 0 lb88_inter_Meet_1_0 (ld88_inter_Meet_1_0.vars x) []) = S.inter_fold_inter_Meet_1_L0_vcs x by kernel_rfl) h)
theorem fn88_inter_Meet_1 (first : S.Inter) (l : (List S.Inter)) (hp : S.inter_fold_inter_Meet_1_pre first l) : CallOk c90 88 [.agg [.int .i64 first.Lo, .int .i64 first.Hi], .list 24 false l, .fn 90] (wr_S23 (S.inter_fold_inter_Meet_1 first l)) (wo_S23 (S.inter_fold_inter_Meet_1 first l)) :=
  (call_ok (c := c90) (f := 88) (fn := Try.f88) (code := body88) (args := ([.agg [.int .i64 first.Lo, .int .i64 first.Hi], .list 24 false l, .fn 90])) (loop := loop88_inter_Meet_1) (md := ⟨false, false⟩) (rd := rd_S23) (wr := wr_S23) (wo := wo_S23) (r := (S.inter_fold_inter_Meet_1 first l)) c90_ok (by kernel_rfl) (by kernel_rfl) (by kernel_rfl) (loops_all (l := [(0, lb88_inter_Meet_1_0)]) (by kernel_rfl) ⟨lok88_inter_Meet_1_0, trivial⟩) (by kernel_rfl) (by kernel_rfl) (by kernel_rfl)
    rw_S23 np_S23 no_S23 (by kernel_rfl) (Eq.mpr (show Vm.Tr.vc (Vm.Fn c90 Try.f88 body88 loop88_inter_Meet_1 ([.agg [.int .i64 first.Lo, .int .i64 first.Hi], .list 24 false l, .fn 90])) = S.inter_fold_inter_Meet_1_pre first l by kernel_rfl) hp))

noncomputable def sem88 : List W → Option (W × List (List W) × List Prop)
  | [.agg [.int .i64 y1, .int .i64 y2], .list 24 false y3, .fn 89] => some (wr_S23 (S.inter_fold_inter_Join_1 (⟨y1, y2⟩ : S.Inter) y3), wo_S23 (S.inter_fold_inter_Join_1 (⟨y1, y2⟩ : S.Inter) y3), [S.inter_fold_inter_Join_1_pre (⟨y1, y2⟩ : S.Inter) y3])
  | [.agg [.int .i64 y1, .int .i64 y2], .list 24 false y3, .fn 90] => some (wr_S23 (S.inter_fold_inter_Meet_1 (⟨y1, y2⟩ : S.Inter) y3), wo_S23 (S.inter_fold_inter_Meet_1 (⟨y1, y2⟩ : S.Inter) y3), [S.inter_fold_inter_Meet_1_pre (⟨y1, y2⟩ : S.Inter) y3])
  | _ => none
noncomputable def c88 : Cfg El := c90.add 88 sem88
theorem c88_ok : CfgOk c88 := c90_ok.add (fun args w => Try.call88 args w) (fun vs r outs ps h hp => by
  unfold sem88 at h
  split at h
  · rename_i y1 y2 y3; cases h; exact fn88_inter_Join_1 (⟨y1, y2⟩ : S.Inter) y3 hp
  · rename_i y1 y2 y3; cases h; exact fn88_inter_Meet_1 (⟨y1, y2⟩ : S.Inter) y3 hp
  · cases h)

noncomputable def body21 : Code := (Try.f21.body).getD .skip
theorem fn21 (l : (List S.Inter)) (hp : S.inter_Join_pre l) : CallOk c88 21 [.list 24 false l] (wr_S23 (S.inter_Join l)) (wo_S23 (S.inter_Join l)) :=
  (call_ok (c := c88) (f := 21) (fn := Try.f21) (code := body21) (args := ([.list 24 false l])) (loop := noLoop) (md := ⟨false, false⟩) (rd := rd_S23) (wr := wr_S23) (wo := wo_S23) (r := (S.inter_Join l)) c88_ok (by kernel_rfl) (by kernel_rfl) (by kernel_rfl) (no_loops (by kernel_rfl)) (by kernel_rfl) (by kernel_rfl) (by kernel_rfl)
    rw_S23 np_S23 no_S23 (by kernel_rfl) (Eq.mpr (show Vm.Tr.vc (Vm.Fn c88 Try.f21 body21 noLoop ([.list 24 false l])) = S.inter_Join_pre l by kernel_rfl) hp))

noncomputable def sem21 : List W → Option (W × List (List W) × List Prop)
  | [.list 24 false y1] => some (wr_S23 (S.inter_Join y1), wo_S23 (S.inter_Join y1), [S.inter_Join_pre y1])
  | _ => none
noncomputable def c21 : Cfg El := c88.add 21 sem21
theorem c21_ok : CfgOk c21 := c88_ok.add (fun args w => Try.call21 args w) (fun vs r outs ps h hp => by
  unfold sem21 at h
  split at h
  · rename_i y1; cases h; exact fn21 y1 hp
  · cases h)

noncomputable def body22 : Code := (Try.f22.body).getD .skip
theorem fn22 (l : (List S.Inter)) (hp : S.inter_Meet_pre l) : CallOk c21 22 [.list 24 false l] (wr_S23 (S.inter_Meet l)) (wo_S23 (S.inter_Meet l)) :=
  (call_ok (c := c21) (f := 22) (fn := Try.f22) (code := body22) (args := ([.list 24 false l])) (loop := noLoop) (md := ⟨false, false⟩) (rd := rd_S23) (wr := wr_S23) (wo := wo_S23) (r := (S.inter_Meet l)) c21_ok (by kernel_rfl) (by kernel_rfl) (by kernel_rfl) (no_loops (by kernel_rfl)) (by kernel_rfl) (by kernel_rfl) (by kernel_rfl)
    rw_S23 np_S23 no_S23 (by kernel_rfl) (Eq.mpr (show Vm.Tr.vc (Vm.Fn c21 Try.f22 body22 noLoop ([.list 24 false l])) = S.inter_Meet_pre l by kernel_rfl) hp))

noncomputable def sem22 : List W → Option (W × List (List W) × List Prop)
  | [.list 24 false y1] => some (wr_S23 (S.inter_Meet y1), wo_S23 (S.inter_Meet y1), [S.inter_Meet_pre y1])
  | _ => none
noncomputable def c22 : Cfg El := c21.add 22 sem22
theorem c22_ok : CfgOk c22 := c21_ok.add (fun args w => Try.call22 args w) (fun vs r outs ps h hp => by
  unfold sem22 at h
  split at h
  · rename_i y1; cases h; exact fn22 y1 hp
  · cases h)

noncomputable def body23 : Code := (Try.f23.body).getD .skip
theorem fn23 (a : S.Inter) (b : S.Inter) (hp : S.inter_Widen_pre a b) : CallOk c22 23 [.agg [.int .i64 a.Lo, .int .i64 a.Hi], .agg [.int .i64 b.Lo, .int .i64 b.Hi]] (wr_S23 (S.inter_Widen a b)) (wo_S23 (S.inter_Widen a b)) :=
  (call_ok (c := c22) (f := 23) (fn := Try.f23) (code := body23) (args := ([.agg [.int .i64 a.Lo, .int .i64 a.Hi], .agg [.int .i64 b.Lo, .int .i64 b.Hi]])) (loop := noLoop) (md := ⟨false, false⟩) (rd := rd_S23) (wr := wr_S23) (wo := wo_S23) (r := (S.inter_Widen a b)) c22_ok (by kernel_rfl) (by kernel_rfl) (by kernel_rfl) (no_loops (by kernel_rfl)) (by kernel_rfl) (by kernel_rfl) (by kernel_rfl)
    rw_S23 np_S23 no_S23 (by kernel_rfl) (Eq.mpr (show Vm.Tr.vc (Vm.Fn c22 Try.f23 body23 noLoop ([.agg [.int .i64 a.Lo, .int .i64 a.Hi], .agg [.int .i64 b.Lo, .int .i64 b.Hi]])) = S.inter_Widen_pre a b by kernel_rfl) hp))

noncomputable def sem23 : List W → Option (W × List (List W) × List Prop)
  | [.agg [.int .i64 y1, .int .i64 y2], .agg [.int .i64 y3, .int .i64 y4]] => some (wr_S23 (S.inter_Widen (⟨y1, y2⟩ : S.Inter) (⟨y3, y4⟩ : S.Inter)), wo_S23 (S.inter_Widen (⟨y1, y2⟩ : S.Inter) (⟨y3, y4⟩ : S.Inter)), [S.inter_Widen_pre (⟨y1, y2⟩ : S.Inter) (⟨y3, y4⟩ : S.Inter)])
  | _ => none
noncomputable def c23 : Cfg El := c22.add 23 sem23
theorem c23_ok : CfgOk c23 := c22_ok.add (fun args w => Try.call23 args w) (fun vs r outs ps h hp => by
  unfold sem23 at h
  split at h
  · rename_i y1 y2 y3 y4; cases h; exact fn23 (⟨y1, y2⟩ : S.Inter) (⟨y3, y4⟩ : S.Inter) hp
  · cases h)

noncomputable def body25 : Code := (Try.f25.body).getD .skip
theorem fn25 (a : S.Inter) (b : S.Inter) : CallOk c23 25 [.agg [.int .i64 a.Lo, .int .i64 a.Hi], .agg [.int .i64 b.Lo, .int .i64 b.Hi]] (wr_S23 (S.inter_Narrow a b)) (wo_S23 (S.inter_Narrow a b)) :=
  (call_ok (c := c23) (f := 25) (fn := Try.f25) (code := body25) (args := ([.agg [.int .i64 a.Lo, .int .i64 a.Hi], .agg [.int .i64 b.Lo, .int .i64 b.Hi]])) (loop := noLoop) (md := ⟨false, false⟩) (rd := rd_S23) (wr := wr_S23) (wo := wo_S23) (r := (S.inter_Narrow a b)) c23_ok (by kernel_rfl) (by kernel_rfl) (by kernel_rfl) (no_loops (by kernel_rfl)) (by kernel_rfl) (by kernel_rfl) (by kernel_rfl)
    rw_S23 np_S23 no_S23 (by kernel_rfl) (Tr.vc_of_noReq (by kernel_rfl)))

noncomputable def sem25 : List W → Option (W × List (List W) × List Prop)
  | [.agg [.int .i64 y1, .int .i64 y2], .agg [.int .i64 y3, .int .i64 y4]] => some (wr_S23 (S.inter_Narrow (⟨y1, y2⟩ : S.Inter) (⟨y3, y4⟩ : S.Inter)), wo_S23 (S.inter_Narrow (⟨y1, y2⟩ : S.Inter) (⟨y3, y4⟩ : S.Inter)), [])
  | _ => none
noncomputable def c25 : Cfg El := c23.add 25 sem25
theorem c25_ok : CfgOk c25 := c23_ok.add (fun args w => Try.call25 args w) (fun vs r outs ps h hp => by
  unfold sem25 at h
  split at h
  · rename_i y1 y2 y3 y4; cases h; exact fn25 (⟨y1, y2⟩ : S.Inter) (⟨y3, y4⟩ : S.Inter)
  · cases h)

noncomputable def body15 : Code := (Try.f15.body).getD .skip
theorem fn15 (hp : S.law19_works_pre) : CallOk c25 15 [] (wr_b (S.law19_works)) (wo_b (S.law19_works)) :=
  (call_ok (c := c25) (f := 15) (fn := Try.f15) (code := body15) (args := ([])) (loop := noLoop) (md := ⟨false, false⟩) (rd := rd_b) (wr := wr_b) (wo := wo_b) (r := S.law19_works) c25_ok (by kernel_rfl) (by kernel_rfl) (by kernel_rfl) (no_loops (by kernel_rfl)) (by kernel_rfl) (by kernel_rfl) (by kernel_rfl)
    rw_b np_b no_b (by kernel_rfl) (Eq.mpr (show Vm.Tr.vc (Vm.Fn c25 Try.f15 body15 noLoop ([])) = S.law19_works_pre by kernel_rfl) hp))

noncomputable def sem15 : List W → Option (W × List (List W) × List Prop)
  | [] => some (wr_b (S.law19_works), wo_b (S.law19_works), [S.law19_works_pre])
  | _ => none
noncomputable def c15 : Cfg El := c25.add 15 sem15
theorem c15_ok : CfgOk c15 := c25_ok.add (fun args w => Try.call15 args w) (fun vs r outs ps h hp => by
  unfold sem15 at h
  split at h
  · cases h; exact fn15 hp
  · cases h)

noncomputable def body5 : Code := (Try.f5.body).getD .skip
theorem fn5 (a : S.Inter) (b : S.Inter) (n : Int) (hp : S.law19_InterTells_pre a b n) : CallOk c15 5 [.agg [.int .i64 a.Lo, .int .i64 a.Hi], .agg [.int .i64 b.Lo, .int .i64 b.Hi], .int .i64 n] (wr_b (S.law19_InterTells a b n)) (wo_b (S.law19_InterTells a b n)) :=
  (call_ok (c := c15) (f := 5) (fn := Try.f5) (code := body5) (args := ([.agg [.int .i64 a.Lo, .int .i64 a.Hi], .agg [.int .i64 b.Lo, .int .i64 b.Hi], .int .i64 n])) (loop := noLoop) (md := ⟨false, false⟩) (rd := rd_b) (wr := wr_b) (wo := wo_b) (r := (S.law19_InterTells a b n)) c15_ok (by kernel_rfl) (by kernel_rfl) (by kernel_rfl) (no_loops (by kernel_rfl)) (by kernel_rfl) (by kernel_rfl) (by kernel_rfl)
    rw_b np_b no_b (by kernel_rfl) (Eq.mpr (show Vm.Tr.vc (Vm.Fn c15 Try.f5 body5 noLoop ([.agg [.int .i64 a.Lo, .int .i64 a.Hi], .agg [.int .i64 b.Lo, .int .i64 b.Hi], .int .i64 n])) = S.law19_InterTells_pre a b n by kernel_rfl) hp))

noncomputable def sem5 : List W → Option (W × List (List W) × List Prop)
  | [.agg [.int .i64 y1, .int .i64 y2], .agg [.int .i64 y3, .int .i64 y4], .int .i64 y5] => some (wr_b (S.law19_InterTells (⟨y1, y2⟩ : S.Inter) (⟨y3, y4⟩ : S.Inter) y5), wo_b (S.law19_InterTells (⟨y1, y2⟩ : S.Inter) (⟨y3, y4⟩ : S.Inter) y5), [S.law19_InterTells_pre (⟨y1, y2⟩ : S.Inter) (⟨y3, y4⟩ : S.Inter) y5])
  | _ => none
noncomputable def c5 : Cfg El := c15.add 5 sem5
theorem c5_ok : CfgOk c5 := c15_ok.add (fun args w => Try.call5 args w) (fun vs r outs ps h hp => by
  unfold sem5 at h
  split at h
  · rename_i y1 y2 y3 y4 y5; cases h; exact fn5 (⟨y1, y2⟩ : S.Inter) (⟨y3, y4⟩ : S.Inter) y5 hp
  · cases h)

noncomputable def body18 : Code := (Try.f18.body).getD .skip
theorem fn18 (a : S.Inter) (b : S.Inter) : CallOk c5 18 [.agg [.int .i64 a.Lo, .int .i64 a.Hi], .agg [.int .i64 b.Lo, .int .i64 b.Hi]] (wr_S23 (S.ref19_Join a b)) (wo_S23 (S.ref19_Join a b)) :=
  (call_ok (c := c5) (f := 18) (fn := Try.f18) (code := body18) (args := ([.agg [.int .i64 a.Lo, .int .i64 a.Hi], .agg [.int .i64 b.Lo, .int .i64 b.Hi]])) (loop := noLoop) (md := ⟨false, false⟩) (rd := rd_S23) (wr := wr_S23) (wo := wo_S23) (r := (S.ref19_Join a b)) c5_ok (by kernel_rfl) (by kernel_rfl) (by kernel_rfl) (no_loops (by kernel_rfl)) (by kernel_rfl) (by kernel_rfl) (by kernel_rfl)
    rw_S23 np_S23 no_S23 (by kernel_rfl) (Tr.vc_of_noReq (by kernel_rfl)))

noncomputable def sem18 : List W → Option (W × List (List W) × List Prop)
  | [.agg [.int .i64 y1, .int .i64 y2], .agg [.int .i64 y3, .int .i64 y4]] => some (wr_S23 (S.ref19_Join (⟨y1, y2⟩ : S.Inter) (⟨y3, y4⟩ : S.Inter)), wo_S23 (S.ref19_Join (⟨y1, y2⟩ : S.Inter) (⟨y3, y4⟩ : S.Inter)), [])
  | _ => none
noncomputable def c18 : Cfg El := c5.add 18 sem18
theorem c18_ok : CfgOk c18 := c5_ok.add (fun args w => Try.call18 args w) (fun vs r outs ps h hp => by
  unfold sem18 at h
  split at h
  · rename_i y1 y2 y3 y4; cases h; exact fn18 (⟨y1, y2⟩ : S.Inter) (⟨y3, y4⟩ : S.Inter)
  · cases h)

noncomputable def body20 : Code := (Try.f20.body).getD .skip
theorem fn20 (a : S.Inter) (b : S.Inter) : CallOk c18 20 [.agg [.int .i64 a.Lo, .int .i64 a.Hi], .agg [.int .i64 b.Lo, .int .i64 b.Hi]] (wr_S23 (S.ref19_Meet a b)) (wo_S23 (S.ref19_Meet a b)) :=
  (call_ok (c := c18) (f := 20) (fn := Try.f20) (code := body20) (args := ([.agg [.int .i64 a.Lo, .int .i64 a.Hi], .agg [.int .i64 b.Lo, .int .i64 b.Hi]])) (loop := noLoop) (md := ⟨false, false⟩) (rd := rd_S23) (wr := wr_S23) (wo := wo_S23) (r := (S.ref19_Meet a b)) c18_ok (by kernel_rfl) (by kernel_rfl) (by kernel_rfl) (no_loops (by kernel_rfl)) (by kernel_rfl) (by kernel_rfl) (by kernel_rfl)
    rw_S23 np_S23 no_S23 (by kernel_rfl) (Tr.vc_of_noReq (by kernel_rfl)))

noncomputable def sem20 : List W → Option (W × List (List W) × List Prop)
  | [.agg [.int .i64 y1, .int .i64 y2], .agg [.int .i64 y3, .int .i64 y4]] => some (wr_S23 (S.ref19_Meet (⟨y1, y2⟩ : S.Inter) (⟨y3, y4⟩ : S.Inter)), wo_S23 (S.ref19_Meet (⟨y1, y2⟩ : S.Inter) (⟨y3, y4⟩ : S.Inter)), [])
  | _ => none
noncomputable def c20 : Cfg El := c18.add 20 sem20
theorem c20_ok : CfgOk c20 := c18_ok.add (fun args w => Try.call20 args w) (fun vs r outs ps h hp => by
  unfold sem20 at h
  split at h
  · rename_i y1 y2 y3 y4; cases h; exact fn20 (⟨y1, y2⟩ : S.Inter) (⟨y3, y4⟩ : S.Inter)
  · cases h)

noncomputable def body24 : Code := (Try.f24.body).getD .skip
theorem fn24 (a : S.Inter) (b : S.Inter) : CallOk c20 24 [.agg [.int .i64 a.Lo, .int .i64 a.Hi], .agg [.int .i64 b.Lo, .int .i64 b.Hi]] (wr_S23 (S.ref19_Widen a b)) (wo_S23 (S.ref19_Widen a b)) :=
  (call_ok (c := c20) (f := 24) (fn := Try.f24) (code := body24) (args := ([.agg [.int .i64 a.Lo, .int .i64 a.Hi], .agg [.int .i64 b.Lo, .int .i64 b.Hi]])) (loop := noLoop) (md := ⟨false, false⟩) (rd := rd_S23) (wr := wr_S23) (wo := wo_S23) (r := (S.ref19_Widen a b)) c20_ok (by kernel_rfl) (by kernel_rfl) (by kernel_rfl) (no_loops (by kernel_rfl)) (by kernel_rfl) (by kernel_rfl) (by kernel_rfl)
    rw_S23 np_S23 no_S23 (by kernel_rfl) (Tr.vc_of_noReq (by kernel_rfl)))

noncomputable def sem24 : List W → Option (W × List (List W) × List Prop)
  | [.agg [.int .i64 y1, .int .i64 y2], .agg [.int .i64 y3, .int .i64 y4]] => some (wr_S23 (S.ref19_Widen (⟨y1, y2⟩ : S.Inter) (⟨y3, y4⟩ : S.Inter)), wo_S23 (S.ref19_Widen (⟨y1, y2⟩ : S.Inter) (⟨y3, y4⟩ : S.Inter)), [])
  | _ => none
noncomputable def c24 : Cfg El := c20.add 24 sem24
theorem c24_ok : CfgOk c24 := c20_ok.add (fun args w => Try.call24 args w) (fun vs r outs ps h hp => by
  unfold sem24 at h
  split at h
  · rename_i y1 y2 y3 y4; cases h; exact fn24 (⟨y1, y2⟩ : S.Inter) (⟨y3, y4⟩ : S.Inter)
  · cases h)

noncomputable def body26 : Code := (Try.f26.body).getD .skip
theorem fn26 (a : S.Inter) (b : S.Inter) : CallOk c24 26 [.agg [.int .i64 a.Lo, .int .i64 a.Hi], .agg [.int .i64 b.Lo, .int .i64 b.Hi]] (wr_S23 (S.ref19_Narrow a b)) (wo_S23 (S.ref19_Narrow a b)) :=
  (call_ok (c := c24) (f := 26) (fn := Try.f26) (code := body26) (args := ([.agg [.int .i64 a.Lo, .int .i64 a.Hi], .agg [.int .i64 b.Lo, .int .i64 b.Hi]])) (loop := noLoop) (md := ⟨false, false⟩) (rd := rd_S23) (wr := wr_S23) (wo := wo_S23) (r := (S.ref19_Narrow a b)) c24_ok (by kernel_rfl) (by kernel_rfl) (by kernel_rfl) (no_loops (by kernel_rfl)) (by kernel_rfl) (by kernel_rfl) (by kernel_rfl)
    rw_S23 np_S23 no_S23 (by kernel_rfl) (Tr.vc_of_noReq (by kernel_rfl)))

noncomputable def sem26 : List W → Option (W × List (List W) × List Prop)
  | [.agg [.int .i64 y1, .int .i64 y2], .agg [.int .i64 y3, .int .i64 y4]] => some (wr_S23 (S.ref19_Narrow (⟨y1, y2⟩ : S.Inter) (⟨y3, y4⟩ : S.Inter)), wo_S23 (S.ref19_Narrow (⟨y1, y2⟩ : S.Inter) (⟨y3, y4⟩ : S.Inter)), [])
  | _ => none
noncomputable def c26 : Cfg El := c24.add 26 sem26
theorem c26_ok : CfgOk c26 := c24_ok.add (fun args w => Try.call26 args w) (fun vs r outs ps h hp => by
  unfold sem26 at h
  split at h
  · rename_i y1 y2 y3 y4; cases h; exact fn26 (⟨y1, y2⟩ : S.Inter) (⟨y3, y4⟩ : S.Inter)
  · cases h)

noncomputable def body3 : Code := (Try.f3.body).getD .skip
noncomputable def lb3_0 : Code := ((nth (loopsOf 0 body3) 0).getD (0, .skip)).2
noncomputable def px3_0 : List W → Option S.law19_InterJoins_L0
  | [.list 24 false y1, .ptr 7 0, .ptr 8 0, .int .i64 y2, .int .i64 y3, .int .i64 y4, .int .i64 y5, .int .i64 y6] => some ⟨y1, y2, ⟨y3, y4⟩, ⟨y5, y6⟩⟩
  | _ => none
noncomputable def tx3_0 (x : S.law19_InterJoins_L0) : List W := [.list 24 false x.l, .ptr 7 0, .ptr 8 0, .int .i64 x.i, .int .i64 x.join.Lo, .int .i64 x.join.Hi, .int .i64 x.meet.Lo, .int .i64 x.meet.Hi]
noncomputable def py3_0 : Ex → List W → Option (S.law19_InterJoins_L0)
  | .exit 0, [.list 24 false y1, .ptr 7 0, .ptr 8 0, .int .i64 y2, .int .i64 y3, .int .i64 y4, .int .i64 y5, .int .i64 y6] => some ⟨y1, y2, ⟨y3, y4⟩, ⟨y5, y6⟩⟩
  | _, _ => none
noncomputable def ld3_0 : LD El where
  X := S.law19_InterJoins_L0
  Y := S.law19_InterJoins_L0
  keys := [.slot 0, .slot 7, .slot 8, .slot 9, .cell 7 0, .cell 7 1, .cell 8 0, .cell 8 1]
  fits := [22, 0, 0, 3, 2, 2, 2, 2]
  px := px3_0
  tx := tx3_0
  okeys := [.slot 0, .slot 7, .slot 8, .slot 9, .cell 7 0, .cell 7 1, .cell 8 0, .cell 8 1]
  ofits := [22, 0, 0, 3, 2, 2, 2, 2]
  py := py3_0
  ty := fun y => tx3_0 y
  oex := fun _ => .exit 0
  junk := [.slot 18, .slot 19, .slot 20, .slot 21, .slot 22, .slot 23, .slot 24, .slot 25, .slot 26, .slot 27, .slot 28, .slot 29, .slot 30, .slot 31, .slot 32, .slot 33, .slot 34, .slot 35, .slot 36, .slot 37]
  rows := []
noncomputable def lo3_0 : S.law19_InterJoins_L0 → Tr El := fun y => .leaf (.exit 0) (zipK ld3_0.okeys (tx3_0 y) ++ junkK ld3_0.junk)
noncomputable def loop3 : Nat → Env El → Tr El
  | 0 => ld3_0.tree c26 Try.f3.ntmps 0 lb3_0 S.law19_InterJoins_L0_run lo3_0 S.law19_InterJoins_L0_step S.law19_InterJoins_L0_vcs
  | _ => fun _ => .fail
theorem lok3_0 : ∀ w0 S0, LoopOk c26 Try.f3.ntmps w0 S0 loop3 0 lb3_0 :=
  loop_ok (c := c26) (n := Try.f3.ntmps) c26_ok mixed ld3_0 (body := lb3_0) (key := 0) (loop := loop3) (F := S.law19_InterJoins_L0_run) (out := lo3_0) (step := S.law19_InterJoins_L0_step) (vcs := S.law19_InterJoins_L0_vcs)
    (fun _ => by kernel_rfl) (no_loops (by kernel_rfl)) rfl rfl
    (fun vs x h => by unfold ld3_0 px3_0 at h; dsimp only at h; split at h <;> first | (cases h; rfl) | cases h)
    (fun e vs y h => by unfold ld3_0 py3_0 at h; dsimp only at h; split at h <;> first | (cases h; exact ⟨rfl, rfl⟩) | cases h)
    (by kernel_rfl) (fun _ => rfl) (fun _ _ h => h) (fun x => by kernel_rfl) (fun x h => Eq.mpr (show Vm.Tr.vc (Vm.ev c26 Try.f3.ntmps loop3 0 lb3_0 (ld3_0.vars x) []) = S.law19_InterJoins_L0_vcs x by kernel_rfl) h)
theorem fn3 (l : (List S.Inter)) (a : S.Inter) (b : S.Inter) (hp : S.law19_InterJoins_pre l a b) : CallOk c26 3 [.list 24 false l, .agg [.int .i64 a.Lo, .int .i64 a.Hi], .agg [.int .i64 b.Lo, .int .i64 b.Hi]] (wr_b (S.law19_InterJoins l a b)) (wo_b (S.law19_InterJoins l a b)) :=
  (call_ok (c := c26) (f := 3) (fn := Try.f3) (code := body3) (args := ([.list 24 false l, .agg [.int .i64 a.Lo, .int .i64 a.Hi], .agg [.int .i64 b.Lo, .int .i64 b.Hi]])) (loop := loop3) (md := ⟨false, false⟩) (rd := rd_b) (wr := wr_b) (wo := wo_b) (r := (S.law19_InterJoins l a b)) c26_ok (by kernel_rfl) (by kernel_rfl) (by kernel_rfl) (loops_all (l := [(0, lb3_0)]) (by kernel_rfl) ⟨lok3_0, trivial⟩) (by kernel_rfl) (by kernel_rfl) (by kernel_rfl)
    rw_b np_b no_b (by kernel_rfl) (Eq.mpr (show Vm.Tr.vc (Vm.Fn c26 Try.f3 body3 loop3 ([.list 24 false l, .agg [.int .i64 a.Lo, .int .i64 a.Hi], .agg [.int .i64 b.Lo, .int .i64 b.Hi]])) = S.law19_InterJoins_pre l a b by kernel_rfl) hp))

noncomputable def sem3 : List W → Option (W × List (List W) × List Prop)
  | [.list 24 false y1, .agg [.int .i64 y2, .int .i64 y3], .agg [.int .i64 y4, .int .i64 y5]] => some (wr_b (S.law19_InterJoins y1 (⟨y2, y3⟩ : S.Inter) (⟨y4, y5⟩ : S.Inter)), wo_b (S.law19_InterJoins y1 (⟨y2, y3⟩ : S.Inter) (⟨y4, y5⟩ : S.Inter)), [S.law19_InterJoins_pre y1 (⟨y2, y3⟩ : S.Inter) (⟨y4, y5⟩ : S.Inter)])
  | _ => none
noncomputable def c3 : Cfg El := c26.add 3 sem3
theorem c3_ok : CfgOk c3 := c26_ok.add (fun args w => Try.call3 args w) (fun vs r outs ps h hp => by
  unfold sem3 at h
  split at h
  · rename_i y1 y2 y3 y4 y5; cases h; exact fn3 y1 (⟨y2, y3⟩ : S.Inter) (⟨y4, y5⟩ : S.Inter) hp
  · cases h)

noncomputable def body4 : Code := (Try.f4.body).getD .skip
noncomputable def lb4_0 : Code := ((nth (loopsOf 0 body4) 0).getD (0, .skip)).2
noncomputable def px4_0 : List W → Option S.law19_InterLattice_L0
  | [.list 24 false y1, .ptr 13 0, .int .i64 y2, .int .i64 y3, .int .i64 y4, .int .i64 y5] => some ⟨y1, y2, y3, ⟨y4, y5⟩⟩
  | _ => none
noncomputable def tx4_0 (x : S.law19_InterLattice_L0) : List W := [.list 24 false x.l, .ptr 13 0, .int .i64 x.turns, .int .i64 x.i, .int .i64 x.vx.Lo, .int .i64 x.vx.Hi]
noncomputable def py4_0 : Ex → List W → Option (S.law19_InterLattice_L0)
  | .exit 0, [.list 24 false y1, .ptr 13 0, .int .i64 y2, .int .i64 y3, .int .i64 y4, .int .i64 y5] => some ⟨y1, y2, y3, ⟨y4, y5⟩⟩
  | _, _ => none
noncomputable def ld4_0 : LD El where
  X := S.law19_InterLattice_L0
  Y := S.law19_InterLattice_L0
  keys := [.slot 4, .slot 13, .slot 14, .slot 15, .cell 13 0, .cell 13 1]
  fits := [22, 0, 3, 3, 2, 2]
  px := px4_0
  tx := tx4_0
  okeys := [.slot 4, .slot 13, .slot 14, .slot 15, .cell 13 0, .cell 13 1]
  ofits := [22, 0, 3, 3, 2, 2]
  py := py4_0
  ty := fun y => tx4_0 y
  oex := fun _ => .exit 0
  junk := [.slot 16, .slot 164, .slot 165, .slot 166, .slot 167, .slot 168, .slot 169, .slot 170, .slot 171, .slot 172, .slot 173, .slot 174, .slot 175, .slot 176, .slot 177, .slot 178, .slot 179, .slot 180, .slot 181, .slot 182]
  rows := []
noncomputable def lo4_0 : S.law19_InterLattice_L0 → Tr El := fun y => .leaf (.exit 0) (zipK ld4_0.okeys (tx4_0 y) ++ junkK ld4_0.junk)
noncomputable def loop4 : Nat → Env El → Tr El
  | 0 => ld4_0.tree c3 Try.f4.ntmps 0 lb4_0 S.law19_InterLattice_L0_run lo4_0 S.law19_InterLattice_L0_step S.law19_InterLattice_L0_vcs
  | _ => fun _ => .fail
theorem lok4_0 : ∀ w0 S0, LoopOk c3 Try.f4.ntmps w0 S0 loop4 0 lb4_0 :=
  loop_ok (c := c3) (n := Try.f4.ntmps) c3_ok mixed ld4_0 (body := lb4_0) (key := 0) (loop := loop4) (F := S.law19_InterLattice_L0_run) (out := lo4_0) (step := S.law19_InterLattice_L0_step) (vcs := S.law19_InterLattice_L0_vcs)
    (fun _ => by kernel_rfl) (no_loops (by kernel_rfl)) rfl rfl
    (fun vs x h => by unfold ld4_0 px4_0 at h; dsimp only at h; split at h <;> first | (cases h; rfl) | cases h)
    (fun e vs y h => by unfold ld4_0 py4_0 at h; dsimp only at h; split at h <;> first | (cases h; exact ⟨rfl, rfl⟩) | cases h)
    (by kernel_rfl) (fun _ => rfl) (fun _ _ h => h) (fun x => by kernel_rfl) (fun x h => Eq.mpr (show Vm.Tr.vc (Vm.ev c3 Try.f4.ntmps loop4 0 lb4_0 (ld4_0.vars x) []) = S.law19_InterLattice_L0_vcs x by kernel_rfl) h)
theorem fn4 (a : S.Inter) (b : S.Inter) (c : S.Inter) (n : Int) (l : (List S.Inter)) (hp : S.law19_InterLattice_pre a b c n l) : CallOk c3 4 [.agg [.int .i64 a.Lo, .int .i64 a.Hi], .agg [.int .i64 b.Lo, .int .i64 b.Hi], .agg [.int .i64 c.Lo, .int .i64 c.Hi], .int .i64 n, .list 24 false l] (wr_b (S.law19_InterLattice a b c n l)) (wo_b (S.law19_InterLattice a b c n l)) :=
  (call_ok (c := c3) (f := 4) (fn := Try.f4) (code := body4) (args := ([.agg [.int .i64 a.Lo, .int .i64 a.Hi], .agg [.int .i64 b.Lo, .int .i64 b.Hi], .agg [.int .i64 c.Lo, .int .i64 c.Hi], .int .i64 n, .list 24 false l])) (loop := loop4) (md := ⟨false, false⟩) (rd := rd_b) (wr := wr_b) (wo := wo_b) (r := (S.law19_InterLattice a b c n l)) c3_ok (by kernel_rfl) (by kernel_rfl) (by kernel_rfl) (loops_all (l := [(0, lb4_0)]) (by kernel_rfl) ⟨lok4_0, trivial⟩) (by kernel_rfl) (by kernel_rfl) (by kernel_rfl)
    rw_b np_b no_b (by kernel_rfl) (Eq.mpr (show Vm.Tr.vc (Vm.Fn c3 Try.f4 body4 loop4 ([.agg [.int .i64 a.Lo, .int .i64 a.Hi], .agg [.int .i64 b.Lo, .int .i64 b.Hi], .agg [.int .i64 c.Lo, .int .i64 c.Hi], .int .i64 n, .list 24 false l])) = S.law19_InterLattice_pre a b c n l by kernel_rfl) hp))

noncomputable def sem4 : List W → Option (W × List (List W) × List Prop)
  | [.agg [.int .i64 y1, .int .i64 y2], .agg [.int .i64 y3, .int .i64 y4], .agg [.int .i64 y5, .int .i64 y6], .int .i64 y7, .list 24 false y8] => some (wr_b (S.law19_InterLattice (⟨y1, y2⟩ : S.Inter) (⟨y3, y4⟩ : S.Inter) (⟨y5, y6⟩ : S.Inter) y7 y8), wo_b (S.law19_InterLattice (⟨y1, y2⟩ : S.Inter) (⟨y3, y4⟩ : S.Inter) (⟨y5, y6⟩ : S.Inter) y7 y8), [S.law19_InterLattice_pre (⟨y1, y2⟩ : S.Inter) (⟨y3, y4⟩ : S.Inter) (⟨y5, y6⟩ : S.Inter) y7 y8])
  | _ => none
noncomputable def c4 : Cfg El := c3.add 4 sem4
theorem c4_ok : CfgOk c4 := c3_ok.add (fun args w => Try.call4 args w) (fun vs r outs ps h hp => by
  unfold sem4 at h
  split at h
  · rename_i y1 y2 y3 y4 y5 y6 y7 y8; cases h; exact fn4 (⟨y1, y2⟩ : S.Inter) (⟨y3, y4⟩ : S.Inter) (⟨y5, y6⟩ : S.Inter) y7 y8 hp
  · cases h)

noncomputable def rd_S66 : W → List (List W) → Option (S.Cong)
  | .agg [.int .u64 x1, .int .u64 x2], [] => some ⟨x1, x2⟩
  | _, _ => none
noncomputable def wr_S66 (x : S.Cong) : W := .agg [.int .u64 x.M, .int .u64 x.R]
noncomputable def wo_S66 (_x : S.Cong) : List (List W) := []
theorem rw_S66 (v : W) (os : List (List W)) (x : S.Cong) (h : rd_S66 v os = some x) : v = wr_S66 x ∧ os = wo_S66 x := by
  unfold rd_S66 at h
  split at h <;> first | (cases h; exact ⟨rfl, rfl⟩) | cases h
theorem np_S66 (x : S.Cong) : okv (fun _ => false) (wr_S66 x) = true := rfl
theorem no_S66 (x : S.Cong) : all (fun cs => all (ok0 fun _ => false) cs) (wo_S66 x) = true := rfl

noncomputable def body56 : Code := (Try.f56.body).getD .skip
theorem fn56 : CallOk c4 56 [] (wr_S66 (S.cong_Top)) (wo_S66 (S.cong_Top)) :=
  (call_ok (c := c4) (f := 56) (fn := Try.f56) (code := body56) (args := ([])) (loop := noLoop) (md := ⟨false, false⟩) (rd := rd_S66) (wr := wr_S66) (wo := wo_S66) (r := S.cong_Top) c4_ok (by kernel_rfl) (by kernel_rfl) (by kernel_rfl) (no_loops (by kernel_rfl)) (by kernel_rfl) (by kernel_rfl) (by kernel_rfl)
    rw_S66 np_S66 no_S66 (by kernel_rfl) (Tr.vc_of_noReq (by kernel_rfl)))

noncomputable def sem56 : List W → Option (W × List (List W) × List Prop)
  | [] => some (wr_S66 (S.cong_Top), wo_S66 (S.cong_Top), [])
  | _ => none
noncomputable def c56 : Cfg El := c4.add 56 sem56
theorem c56_ok : CfgOk c56 := c4_ok.add (fun args w => Try.call56 args w) (fun vs r outs ps h hp => by
  unfold sem56 at h
  split at h
  · cases h; exact fn56
  · cases h)

noncomputable def body58 : Code := (Try.f58.body).getD .skip
theorem fn58 (n : Int) : CallOk c56 58 [.int .i64 n] (wr_S66 (S.cong_Const n)) (wo_S66 (S.cong_Const n)) :=
  (call_ok (c := c56) (f := 58) (fn := Try.f58) (code := body58) (args := ([.int .i64 n])) (loop := noLoop) (md := ⟨false, false⟩) (rd := rd_S66) (wr := wr_S66) (wo := wo_S66) (r := (S.cong_Const n)) c56_ok (by kernel_rfl) (by kernel_rfl) (by kernel_rfl) (no_loops (by kernel_rfl)) (by kernel_rfl) (by kernel_rfl) (by kernel_rfl)
    rw_S66 np_S66 no_S66 (by kernel_rfl) (Tr.vc_of_noReq (by kernel_rfl)))

noncomputable def sem58 : List W → Option (W × List (List W) × List Prop)
  | [.int .i64 y1] => some (wr_S66 (S.cong_Const y1), wo_S66 (S.cong_Const y1), [])
  | _ => none
noncomputable def c58 : Cfg El := c56.add 58 sem58
theorem c58_ok : CfgOk c58 := c56_ok.add (fun args w => Try.call58 args w) (fun vs r outs ps h hp => by
  unfold sem58 at h
  split at h
  · rename_i y1; cases h; exact fn58 y1
  · cases h)

noncomputable def body57 : Code := (Try.f57.body).getD .skip
theorem fn57 (c : S.Cong) : CallOk c58 57 [.agg [.int .u64 c.M, .int .u64 c.R]] (wr_S66 (S.law20_ref c)) (wo_S66 (S.law20_ref c)) :=
  (call_ok (c := c58) (f := 57) (fn := Try.f57) (code := body57) (args := ([.agg [.int .u64 c.M, .int .u64 c.R]])) (loop := noLoop) (md := ⟨false, false⟩) (rd := rd_S66) (wr := wr_S66) (wo := wo_S66) (r := (S.law20_ref c)) c58_ok (by kernel_rfl) (by kernel_rfl) (by kernel_rfl) (no_loops (by kernel_rfl)) (by kernel_rfl) (by kernel_rfl) (by kernel_rfl)
    rw_S66 np_S66 no_S66 (by kernel_rfl) (Tr.vc_of_noReq (by kernel_rfl)))

noncomputable def sem57 : List W → Option (W × List (List W) × List Prop)
  | [.agg [.int .u64 y1, .int .u64 y2]] => some (wr_S66 (S.law20_ref (⟨y1, y2⟩ : S.Cong)), wo_S66 (S.law20_ref (⟨y1, y2⟩ : S.Cong)), [])
  | _ => none
noncomputable def c57 : Cfg El := c58.add 57 sem57
theorem c57_ok : CfgOk c57 := c58_ok.add (fun args w => Try.call57 args w) (fun vs r outs ps h hp => by
  unfold sem57 at h
  split at h
  · rename_i y1 y2; cases h; exact fn57 (⟨y1, y2⟩ : S.Cong)
  · cases h)

noncomputable def rd_u64 : W → List (List W) → Option (Int)
  | .int .u64 x1, [] => some x1
  | _, _ => none
noncomputable def wr_u64 (x : Int) : W := .int .u64 x
noncomputable def wo_u64 (_x : Int) : List (List W) := []
theorem rw_u64 (v : W) (os : List (List W)) (x : Int) (h : rd_u64 v os = some x) : v = wr_u64 x ∧ os = wo_u64 x := by
  unfold rd_u64 at h
  split at h <;> first | (cases h; exact ⟨rfl, rfl⟩) | cases h
theorem np_u64 (x : Int) : okv (fun _ => false) (wr_u64 x) = true := rfl
theorem no_u64 (x : Int) : all (fun cs => all (ok0 fun _ => false) cs) (wo_u64 x) = true := rfl

noncomputable def body105 : Code := (Try.f105.body).getD .skip
theorem fn105 (n : Int) (m : Int) (hp : S.ref20_Rest_pre n m) : CallOk c57 105 [.int .i64 n, .int .u64 m] (wr_u64 (S.ref20_Rest n m)) (wo_u64 (S.ref20_Rest n m)) :=
  (call_ok (c := c57) (f := 105) (fn := Try.f105) (code := body105) (args := ([.int .i64 n, .int .u64 m])) (loop := noLoop) (md := ⟨false, false⟩) (rd := rd_u64) (wr := wr_u64) (wo := wo_u64) (r := (S.ref20_Rest n m)) c57_ok (by kernel_rfl) (by kernel_rfl) (by kernel_rfl) (no_loops (by kernel_rfl)) (by kernel_rfl) (by kernel_rfl) (by kernel_rfl)
    rw_u64 np_u64 no_u64 (by kernel_rfl) (Eq.mpr (show Vm.Tr.vc (Vm.Fn c57 Try.f105 body105 noLoop ([.int .i64 n, .int .u64 m])) = S.ref20_Rest_pre n m by kernel_rfl) hp))

noncomputable def sem105 : List W → Option (W × List (List W) × List Prop)
  | [.int .i64 y1, .int .u64 y2] => some (wr_u64 (S.ref20_Rest y1 y2), wo_u64 (S.ref20_Rest y1 y2), [S.ref20_Rest_pre y1 y2])
  | _ => none
noncomputable def c105 : Cfg El := c57.add 105 sem105
theorem c105_ok : CfgOk c105 := c57_ok.add (fun args w => Try.call105 args w) (fun vs r outs ps h hp => by
  unfold sem105 at h
  split at h
  · rename_i y1 y2; cases h; exact fn105 y1 y2 hp
  · cases h)

noncomputable def body59 : Code := (Try.f59.body).getD .skip
theorem fn59 (m : Int) (n : Int) (hp : S.ref20_Make_pre m n) : CallOk c105 59 [.int .u64 m, .int .i64 n] (wr_S66 (S.ref20_Make m n)) (wo_S66 (S.ref20_Make m n)) :=
  (call_ok (c := c105) (f := 59) (fn := Try.f59) (code := body59) (args := ([.int .u64 m, .int .i64 n])) (loop := noLoop) (md := ⟨false, false⟩) (rd := rd_S66) (wr := wr_S66) (wo := wo_S66) (r := (S.ref20_Make m n)) c105_ok (by kernel_rfl) (by kernel_rfl) (by kernel_rfl) (no_loops (by kernel_rfl)) (by kernel_rfl) (by kernel_rfl) (by kernel_rfl)
    rw_S66 np_S66 no_S66 (by kernel_rfl) (Eq.mpr (show Vm.Tr.vc (Vm.Fn c105 Try.f59 body59 noLoop ([.int .u64 m, .int .i64 n])) = S.ref20_Make_pre m n by kernel_rfl) hp))

noncomputable def sem59 : List W → Option (W × List (List W) × List Prop)
  | [.int .u64 y1, .int .i64 y2] => some (wr_S66 (S.ref20_Make y1 y2), wo_S66 (S.ref20_Make y1 y2), [S.ref20_Make_pre y1 y2])
  | _ => none
noncomputable def c59 : Cfg El := c105.add 59 sem59
theorem c59_ok : CfgOk c59 := c105_ok.add (fun args w => Try.call59 args w) (fun vs r outs ps h hp => by
  unfold sem59 at h
  split at h
  · rename_i y1 y2; cases h; exact fn59 y1 y2 hp
  · cases h)

noncomputable def body106 : Code := (Try.f106.body).getD .skip
theorem fn106 (n : Int) (m : Int) (hp : S.cong_rest_pre n m) : CallOk c59 106 [.int .i64 n, .int .u64 m] (wr_u64 (S.cong_rest n m)) (wo_u64 (S.cong_rest n m)) :=
  (call_ok (c := c59) (f := 106) (fn := Try.f106) (code := body106) (args := ([.int .i64 n, .int .u64 m])) (loop := noLoop) (md := ⟨false, false⟩) (rd := rd_u64) (wr := wr_u64) (wo := wo_u64) (r := (S.cong_rest n m)) c59_ok (by kernel_rfl) (by kernel_rfl) (by kernel_rfl) (no_loops (by kernel_rfl)) (by kernel_rfl) (by kernel_rfl) (by kernel_rfl)
    rw_u64 np_u64 no_u64 (by kernel_rfl) (Eq.mpr (show Vm.Tr.vc (Vm.Fn c59 Try.f106 body106 noLoop ([.int .i64 n, .int .u64 m])) = S.cong_rest_pre n m by kernel_rfl) hp))

noncomputable def sem106 : List W → Option (W × List (List W) × List Prop)
  | [.int .i64 y1, .int .u64 y2] => some (wr_u64 (S.cong_rest y1 y2), wo_u64 (S.cong_rest y1 y2), [S.cong_rest_pre y1 y2])
  | _ => none
noncomputable def c106 : Cfg El := c59.add 106 sem106
theorem c106_ok : CfgOk c106 := c59_ok.add (fun args w => Try.call106 args w) (fun vs r outs ps h hp => by
  unfold sem106 at h
  split at h
  · rename_i y1 y2; cases h; exact fn106 y1 y2 hp
  · cases h)

noncomputable def body60 : Code := (Try.f60.body).getD .skip
theorem fn60 (m : Int) (n : Int) (hp : S.cong_Make_pre m n) : CallOk c106 60 [.int .u64 m, .int .i64 n] (wr_S66 (S.cong_Make m n)) (wo_S66 (S.cong_Make m n)) :=
  (call_ok (c := c106) (f := 60) (fn := Try.f60) (code := body60) (args := ([.int .u64 m, .int .i64 n])) (loop := noLoop) (md := ⟨false, false⟩) (rd := rd_S66) (wr := wr_S66) (wo := wo_S66) (r := (S.cong_Make m n)) c106_ok (by kernel_rfl) (by kernel_rfl) (by kernel_rfl) (no_loops (by kernel_rfl)) (by kernel_rfl) (by kernel_rfl) (by kernel_rfl)
    rw_S66 np_S66 no_S66 (by kernel_rfl) (Eq.mpr (show Vm.Tr.vc (Vm.Fn c106 Try.f60 body60 noLoop ([.int .u64 m, .int .i64 n])) = S.cong_Make_pre m n by kernel_rfl) hp))

noncomputable def sem60 : List W → Option (W × List (List W) × List Prop)
  | [.int .u64 y1, .int .i64 y2] => some (wr_S66 (S.cong_Make y1 y2), wo_S66 (S.cong_Make y1 y2), [S.cong_Make_pre y1 y2])
  | _ => none
noncomputable def c60 : Cfg El := c106.add 60 sem60
theorem c60_ok : CfgOk c60 := c106_ok.add (fun args w => Try.call60 args w) (fun vs r outs ps h hp => by
  unfold sem60 at h
  split at h
  · rename_i y1 y2; cases h; exact fn60 y1 y2 hp
  · cases h)

noncomputable def body107 : Code := (Try.f107.body).getD .skip
theorem fn107 (c : S.Cong) : CallOk c60 107 [.agg [.int .u64 c.M, .int .u64 c.R]] (wr_b (S.cong_Cong_single c)) (wo_b (S.cong_Cong_single c)) :=
  (call_ok (c := c60) (f := 107) (fn := Try.f107) (code := body107) (args := ([.agg [.int .u64 c.M, .int .u64 c.R]])) (loop := noLoop) (md := ⟨false, false⟩) (rd := rd_b) (wr := wr_b) (wo := wo_b) (r := (S.cong_Cong_single c)) c60_ok (by kernel_rfl) (by kernel_rfl) (by kernel_rfl) (no_loops (by kernel_rfl)) (by kernel_rfl) (by kernel_rfl) (by kernel_rfl)
    rw_b np_b no_b (by kernel_rfl) (Tr.vc_of_noReq (by kernel_rfl)))

noncomputable def sem107 : List W → Option (W × List (List W) × List Prop)
  | [.agg [.int .u64 y1, .int .u64 y2]] => some (wr_b (S.cong_Cong_single (⟨y1, y2⟩ : S.Cong)), wo_b (S.cong_Cong_single (⟨y1, y2⟩ : S.Cong)), [])
  | _ => none
noncomputable def c107 : Cfg El := c60.add 107 sem107
theorem c107_ok : CfgOk c107 := c60_ok.add (fun args w => Try.call107 args w) (fun vs r outs ps h hp => by
  unfold sem107 at h
  split at h
  · rename_i y1 y2; cases h; exact fn107 (⟨y1, y2⟩ : S.Cong)
  · cases h)

noncomputable def body61 : Code := (Try.f61.body).getD .skip
theorem fn61 (c : S.Cong) : CallOk c107 61 [.agg [.int .u64 c.M, .int .u64 c.R]] (wr_b (S.cong_Cong_Right c)) (wo_b (S.cong_Cong_Right c)) :=
  (call_ok (c := c107) (f := 61) (fn := Try.f61) (code := body61) (args := ([.agg [.int .u64 c.M, .int .u64 c.R]])) (loop := noLoop) (md := ⟨false, false⟩) (rd := rd_b) (wr := wr_b) (wo := wo_b) (r := (S.cong_Cong_Right c)) c107_ok (by kernel_rfl) (by kernel_rfl) (by kernel_rfl) (no_loops (by kernel_rfl)) (by kernel_rfl) (by kernel_rfl) (by kernel_rfl)
    rw_b np_b no_b (by kernel_rfl) (Tr.vc_of_noReq (by kernel_rfl)))

noncomputable def sem61 : List W → Option (W × List (List W) × List Prop)
  | [.agg [.int .u64 y1, .int .u64 y2]] => some (wr_b (S.cong_Cong_Right (⟨y1, y2⟩ : S.Cong)), wo_b (S.cong_Cong_Right (⟨y1, y2⟩ : S.Cong)), [])
  | _ => none
noncomputable def c61 : Cfg El := c107.add 61 sem61
theorem c61_ok : CfgOk c61 := c107_ok.add (fun args w => Try.call61 args w) (fun vs r outs ps h hp => by
  unfold sem61 at h
  split at h
  · rename_i y1 y2; cases h; exact fn61 (⟨y1, y2⟩ : S.Cong)
  · cases h)

noncomputable def body62 : Code := (Try.f62.body).getD .skip
theorem fn62 (c : S.Cong) : CallOk c61 62 [.agg [.int .u64 c.M, .int .u64 c.R]] (wr_b (S.ref20_Right c)) (wo_b (S.ref20_Right c)) :=
  (call_ok (c := c61) (f := 62) (fn := Try.f62) (code := body62) (args := ([.agg [.int .u64 c.M, .int .u64 c.R]])) (loop := noLoop) (md := ⟨false, false⟩) (rd := rd_b) (wr := wr_b) (wo := wo_b) (r := (S.ref20_Right c)) c61_ok (by kernel_rfl) (by kernel_rfl) (by kernel_rfl) (no_loops (by kernel_rfl)) (by kernel_rfl) (by kernel_rfl) (by kernel_rfl)
    rw_b np_b no_b (by kernel_rfl) (Tr.vc_of_noReq (by kernel_rfl)))

noncomputable def sem62 : List W → Option (W × List (List W) × List Prop)
  | [.agg [.int .u64 y1, .int .u64 y2]] => some (wr_b (S.ref20_Right (⟨y1, y2⟩ : S.Cong)), wo_b (S.ref20_Right (⟨y1, y2⟩ : S.Cong)), [])
  | _ => none
noncomputable def c62 : Cfg El := c61.add 62 sem62
theorem c62_ok : CfgOk c62 := c61_ok.add (fun args w => Try.call62 args w) (fun vs r outs ps h hp => by
  unfold sem62 at h
  split at h
  · rename_i y1 y2; cases h; exact fn62 (⟨y1, y2⟩ : S.Cong)
  · cases h)

noncomputable def body110 : Code := (Try.f110.body).getD .skip
noncomputable def lb110_0 : Code := ((nth (loopsOf 0 body110) 0).getD (0, .skip)).2
noncomputable def px110_0 : List W → Option S.cong_gcd_L0
  | [.int .u64 y1, .int .u64 y2] => some ⟨y1, y2⟩
  | _ => none
noncomputable def tx110_0 (x : S.cong_gcd_L0) : List W := [.int .u64 x.a, .int .u64 x.b]
noncomputable def py110_0 : Ex → List W → Option (S.cong_gcd_L0)
  | .exit 0, [.int .u64 y1, .int .u64 y2] => some ⟨y1, y2⟩
  | _, _ => none
noncomputable def ld110_0 : LD El where
  X := S.cong_gcd_L0
  Y := S.cong_gcd_L0
  keys := [.slot 0, .slot 1]
  fits := [36, 36]
  px := px110_0
  tx := tx110_0
  okeys := [.slot 0, .slot 1]
  ofits := [36, 36]
  py := py110_0
  ty := fun y => tx110_0 y
  oex := fun _ => .exit 0
  junk := [.slot 5, .slot 6, .slot 7, .slot 8, .slot 9, .slot 10]
  rows := []
noncomputable def lo110_0 : S.cong_gcd_L0 → Tr El := fun y => .leaf (.exit 0) (zipK ld110_0.okeys (tx110_0 y) ++ junkK ld110_0.junk)
noncomputable def loop110 : Nat → Env El → Tr El
  | 0 => ld110_0.tree c62 Try.f110.ntmps 0 lb110_0 S.cong_gcd_L0_run lo110_0 S.cong_gcd_L0_step S.cong_gcd_L0_vcs
  | _ => fun _ => .fail
theorem lok110_0 : ∀ w0 S0, LoopOk c62 Try.f110.ntmps w0 S0 loop110 0 lb110_0 :=
  loop_ok (c := c62) (n := Try.f110.ntmps) c62_ok mixed ld110_0 (body := lb110_0) (key := 0) (loop := loop110) (F := S.cong_gcd_L0_run) (out := lo110_0) (step := S.cong_gcd_L0_step) (vcs := S.cong_gcd_L0_vcs)
    (fun _ => by kernel_rfl) (no_loops (by kernel_rfl)) rfl rfl
    (fun vs x h => by unfold ld110_0 px110_0 at h; dsimp only at h; split at h <;> first | (cases h; rfl) | cases h)
    (fun e vs y h => by unfold ld110_0 py110_0 at h; dsimp only at h; split at h <;> first | (cases h; exact ⟨rfl, rfl⟩) | cases h)
    (by kernel_rfl) (fun _ => rfl) (fun _ _ h => h) (fun x => by kernel_rfl) (fun x h => Eq.mpr (show Vm.Tr.vc (Vm.ev c62 Try.f110.ntmps loop110 0 lb110_0 (ld110_0.vars x) []) = S.cong_gcd_L0_vcs x by kernel_rfl) h)
theorem fn110 (a : Int) (b : Int) (hp : S.cong_gcd_pre a b) : CallOk c62 110 [.int .u64 a, .int .u64 b] (wr_u64 (S.cong_gcd a b)) (wo_u64 (S.cong_gcd a b)) :=
  (call_ok (c := c62) (f := 110) (fn := Try.f110) (code := body110) (args := ([.int .u64 a, .int .u64 b])) (loop := loop110) (md := ⟨false, false⟩) (rd := rd_u64) (wr := wr_u64) (wo := wo_u64) (r := (S.cong_gcd a b)) c62_ok (by kernel_rfl) (by kernel_rfl) (by kernel_rfl) (loops_all (l := [(0, lb110_0)]) (by kernel_rfl) ⟨lok110_0, trivial⟩) (by kernel_rfl) (by kernel_rfl) (by kernel_rfl)
    rw_u64 np_u64 no_u64 (by kernel_rfl) (Eq.mpr (show Vm.Tr.vc (Vm.Fn c62 Try.f110 body110 loop110 ([.int .u64 a, .int .u64 b])) = S.cong_gcd_pre a b by kernel_rfl) hp))

noncomputable def sem110 : List W → Option (W × List (List W) × List Prop)
  | [.int .u64 y1, .int .u64 y2] => some (wr_u64 (S.cong_gcd y1 y2), wo_u64 (S.cong_gcd y1 y2), [S.cong_gcd_pre y1 y2])
  | _ => none
noncomputable def c110 : Cfg El := c62.add 110 sem110
theorem c110_ok : CfgOk c110 := c62_ok.add (fun args w => Try.call110 args w) (fun vs r outs ps h hp => by
  unfold sem110 at h
  split at h
  · rename_i y1 y2; cases h; exact fn110 y1 y2 hp
  · cases h)

noncomputable def body112 : Code := (Try.f112.body).getD .skip
theorem fn112 (c : S.Cong) : CallOk c110 112 [.agg [.int .u64 c.M, .int .u64 c.R]] (wr_i64 (S.cong_Cong_number c)) (wo_i64 (S.cong_Cong_number c)) :=
  (call_ok (c := c110) (f := 112) (fn := Try.f112) (code := body112) (args := ([.agg [.int .u64 c.M, .int .u64 c.R]])) (loop := noLoop) (md := ⟨false, false⟩) (rd := rd_i64) (wr := wr_i64) (wo := wo_i64) (r := (S.cong_Cong_number c)) c110_ok (by kernel_rfl) (by kernel_rfl) (by kernel_rfl) (no_loops (by kernel_rfl)) (by kernel_rfl) (by kernel_rfl) (by kernel_rfl)
    rw_i64 np_i64 no_i64 (by kernel_rfl) (Tr.vc_of_noReq (by kernel_rfl)))

noncomputable def sem112 : List W → Option (W × List (List W) × List Prop)
  | [.agg [.int .u64 y1, .int .u64 y2]] => some (wr_i64 (S.cong_Cong_number (⟨y1, y2⟩ : S.Cong)), wo_i64 (S.cong_Cong_number (⟨y1, y2⟩ : S.Cong)), [])
  | _ => none
noncomputable def c112 : Cfg El := c110.add 112 sem112
theorem c112_ok : CfgOk c112 := c110_ok.add (fun args w => Try.call112 args w) (fun vs r outs ps h hp => by
  unfold sem112 at h
  split at h
  · rename_i y1 y2; cases h; exact fn112 (⟨y1, y2⟩ : S.Cong)
  · cases h)

noncomputable def body108 : Code := (Try.f108.body).getD .skip
theorem fn108 (c : S.Cong) (g : Int) (hp : S.cong_Cong_by_pre c g) : CallOk c112 108 [.agg [.int .u64 c.M, .int .u64 c.R], .int .u64 g] (wr_u64 (S.cong_Cong_by c g)) (wo_u64 (S.cong_Cong_by c g)) :=
  (call_ok (c := c112) (f := 108) (fn := Try.f108) (code := body108) (args := ([.agg [.int .u64 c.M, .int .u64 c.R], .int .u64 g])) (loop := noLoop) (md := ⟨false, false⟩) (rd := rd_u64) (wr := wr_u64) (wo := wo_u64) (r := (S.cong_Cong_by c g)) c112_ok (by kernel_rfl) (by kernel_rfl) (by kernel_rfl) (no_loops (by kernel_rfl)) (by kernel_rfl) (by kernel_rfl) (by kernel_rfl)
    rw_u64 np_u64 no_u64 (by kernel_rfl) (Eq.mpr (show Vm.Tr.vc (Vm.Fn c112 Try.f108 body108 noLoop ([.agg [.int .u64 c.M, .int .u64 c.R], .int .u64 g])) = S.cong_Cong_by_pre c g by kernel_rfl) hp))

noncomputable def sem108 : List W → Option (W × List (List W) × List Prop)
  | [.agg [.int .u64 y1, .int .u64 y2], .int .u64 y3] => some (wr_u64 (S.cong_Cong_by (⟨y1, y2⟩ : S.Cong) y3), wo_u64 (S.cong_Cong_by (⟨y1, y2⟩ : S.Cong) y3), [S.cong_Cong_by_pre (⟨y1, y2⟩ : S.Cong) y3])
  | _ => none
noncomputable def c108 : Cfg El := c112.add 108 sem108
theorem c108_ok : CfgOk c108 := c112_ok.add (fun args w => Try.call108 args w) (fun vs r outs ps h hp => by
  unfold sem108 at h
  split at h
  · rename_i y1 y2 y3; cases h; exact fn108 (⟨y1, y2⟩ : S.Cong) y3 hp
  · cases h)

noncomputable def body114 : Code := (Try.f114.body).getD .skip
theorem fn114 (a : Int) (b : Int) : CallOk c108 114 [.int .u64 a, .int .u64 b] (wr_u64 (S.cong_far a b)) (wo_u64 (S.cong_far a b)) :=
  (call_ok (c := c108) (f := 114) (fn := Try.f114) (code := body114) (args := ([.int .u64 a, .int .u64 b])) (loop := noLoop) (md := ⟨false, false⟩) (rd := rd_u64) (wr := wr_u64) (wo := wo_u64) (r := (S.cong_far a b)) c108_ok (by kernel_rfl) (by kernel_rfl) (by kernel_rfl) (no_loops (by kernel_rfl)) (by kernel_rfl) (by kernel_rfl) (by kernel_rfl)
    rw_u64 np_u64 no_u64 (by kernel_rfl) (Tr.vc_of_noReq (by kernel_rfl)))

noncomputable def sem114 : List W → Option (W × List (List W) × List Prop)
  | [.int .u64 y1, .int .u64 y2] => some (wr_u64 (S.cong_far y1 y2), wo_u64 (S.cong_far y1 y2), [])
  | _ => none
noncomputable def c114 : Cfg El := c108.add 114 sem114
theorem c114_ok : CfgOk c114 := c108_ok.add (fun args w => Try.call114 args w) (fun vs r outs ps h hp => by
  unfold sem114 at h
  split at h
  · rename_i y1 y2; cases h; exact fn114 y1 y2
  · cases h)

noncomputable def body70 : Code := (Try.f70.body).getD .skip
theorem fn70 (a : S.Cong) (b : S.Cong) (hp : S.cong_Join_pre a b) : CallOk c114 70 [.agg [.int .u64 a.M, .int .u64 a.R], .agg [.int .u64 b.M, .int .u64 b.R]] (wr_S66 (S.cong_Join a b)) (wo_S66 (S.cong_Join a b)) :=
  (call_ok (c := c114) (f := 70) (fn := Try.f70) (code := body70) (args := ([.agg [.int .u64 a.M, .int .u64 a.R], .agg [.int .u64 b.M, .int .u64 b.R]])) (loop := noLoop) (md := ⟨false, false⟩) (rd := rd_S66) (wr := wr_S66) (wo := wo_S66) (r := (S.cong_Join a b)) c114_ok (by kernel_rfl) (by kernel_rfl) (by kernel_rfl) (no_loops (by kernel_rfl)) (by kernel_rfl) (by kernel_rfl) (by kernel_rfl)
    rw_S66 np_S66 no_S66 (by kernel_rfl) (Eq.mpr (show Vm.Tr.vc (Vm.Fn c114 Try.f70 body70 noLoop ([.agg [.int .u64 a.M, .int .u64 a.R], .agg [.int .u64 b.M, .int .u64 b.R]])) = S.cong_Join_pre a b by kernel_rfl) hp))

noncomputable def sem70 : List W → Option (W × List (List W) × List Prop)
  | [.agg [.int .u64 y1, .int .u64 y2], .agg [.int .u64 y3, .int .u64 y4]] => some (wr_S66 (S.cong_Join (⟨y1, y2⟩ : S.Cong) (⟨y3, y4⟩ : S.Cong)), wo_S66 (S.cong_Join (⟨y1, y2⟩ : S.Cong) (⟨y3, y4⟩ : S.Cong)), [S.cong_Join_pre (⟨y1, y2⟩ : S.Cong) (⟨y3, y4⟩ : S.Cong)])
  | _ => none
noncomputable def c70 : Cfg El := c114.add 70 sem70
theorem c70_ok : CfgOk c70 := c114_ok.add (fun args w => Try.call70 args w) (fun vs r outs ps h hp => by
  unfold sem70 at h
  split at h
  · rename_i y1 y2 y3 y4; cases h; exact fn70 (⟨y1, y2⟩ : S.Cong) (⟨y3, y4⟩ : S.Cong) hp
  · cases h)

noncomputable def body64 : Code := (Try.f64.body).getD .skip
theorem fn64 (c : S.Cong) (n : Int) (hp : S.cong_Cong_Has_pre c n) : CallOk c70 64 [.agg [.int .u64 c.M, .int .u64 c.R], .int .i64 n] (wr_b (S.cong_Cong_Has c n)) (wo_b (S.cong_Cong_Has c n)) :=
  (call_ok (c := c70) (f := 64) (fn := Try.f64) (code := body64) (args := ([.agg [.int .u64 c.M, .int .u64 c.R], .int .i64 n])) (loop := noLoop) (md := ⟨false, false⟩) (rd := rd_b) (wr := wr_b) (wo := wo_b) (r := (S.cong_Cong_Has c n)) c70_ok (by kernel_rfl) (by kernel_rfl) (by kernel_rfl) (no_loops (by kernel_rfl)) (by kernel_rfl) (by kernel_rfl) (by kernel_rfl)
    rw_b np_b no_b (by kernel_rfl) (Eq.mpr (show Vm.Tr.vc (Vm.Fn c70 Try.f64 body64 noLoop ([.agg [.int .u64 c.M, .int .u64 c.R], .int .i64 n])) = S.cong_Cong_Has_pre c n by kernel_rfl) hp))

noncomputable def sem64 : List W → Option (W × List (List W) × List Prop)
  | [.agg [.int .u64 y1, .int .u64 y2], .int .i64 y3] => some (wr_b (S.cong_Cong_Has (⟨y1, y2⟩ : S.Cong) y3), wo_b (S.cong_Cong_Has (⟨y1, y2⟩ : S.Cong) y3), [S.cong_Cong_Has_pre (⟨y1, y2⟩ : S.Cong) y3])
  | _ => none
noncomputable def c64 : Cfg El := c70.add 64 sem64
theorem c64_ok : CfgOk c64 := c70_ok.add (fun args w => Try.call64 args w) (fun vs r outs ps h hp => by
  unfold sem64 at h
  split at h
  · rename_i y1 y2 y3; cases h; exact fn64 (⟨y1, y2⟩ : S.Cong) y3 hp
  · cases h)

noncomputable def rd_S66_b : W → List (List W) → Option (S.Cong × Bool)
  | .tup [.agg [.int .u64 x1, .int .u64 x2], .bool x3], [] => some ⟨⟨x1, x2⟩, x3⟩
  | _, _ => none
noncomputable def wr_S66_b (x : S.Cong × Bool) : W := .tup [.agg [.int .u64 x.1.M, .int .u64 x.1.R], .bool x.2]
noncomputable def wo_S66_b (_x : S.Cong × Bool) : List (List W) := []
theorem rw_S66_b (v : W) (os : List (List W)) (x : S.Cong × Bool) (h : rd_S66_b v os = some x) : v = wr_S66_b x ∧ os = wo_S66_b x := by
  unfold rd_S66_b at h
  split at h <;> first | (cases h; exact ⟨rfl, rfl⟩) | cases h
theorem np_S66_b (x : S.Cong × Bool) : okv (fun _ => false) (wr_S66_b x) = true := rfl
theorem no_S66_b (x : S.Cong × Bool) : all (fun cs => all (ok0 fun _ => false) cs) (wo_S66_b x) = true := rfl

noncomputable def body111 : Code := (Try.f111.body).getD .skip
theorem fn111 (c : S.Cong) (ok : Bool) : CallOk c64 111 [.agg [.int .u64 c.M, .int .u64 c.R], .bool ok] (wr_S66_b (S.cong_Cong_if1 c ok)) (wo_S66_b (S.cong_Cong_if1 c ok)) :=
  (call_ok (c := c64) (f := 111) (fn := Try.f111) (code := body111) (args := ([.agg [.int .u64 c.M, .int .u64 c.R], .bool ok])) (loop := noLoop) (md := ⟨false, false⟩) (rd := rd_S66_b) (wr := wr_S66_b) (wo := wo_S66_b) (r := (S.cong_Cong_if1 c ok)) c64_ok (by kernel_rfl) (by kernel_rfl) (by kernel_rfl) (no_loops (by kernel_rfl)) (by kernel_rfl) (by kernel_rfl) (by kernel_rfl)
    rw_S66_b np_S66_b no_S66_b (by kernel_rfl) (Tr.vc_of_noReq (by kernel_rfl)))

noncomputable def sem111 : List W → Option (W × List (List W) × List Prop)
  | [.agg [.int .u64 y1, .int .u64 y2], .bool y3] => some (wr_S66_b (S.cong_Cong_if1 (⟨y1, y2⟩ : S.Cong) y3), wo_S66_b (S.cong_Cong_if1 (⟨y1, y2⟩ : S.Cong) y3), [])
  | _ => none
noncomputable def c111 : Cfg El := c64.add 111 sem111
theorem c111_ok : CfgOk c111 := c64_ok.add (fun args w => Try.call111 args w) (fun vs r outs ps h hp => by
  unfold sem111 at h
  split at h
  · rename_i y1 y2 y3; cases h; exact fn111 (⟨y1, y2⟩ : S.Cong) y3
  · cases h)

noncomputable def body66 : Code := (Try.f66.body).getD .skip
theorem fn66 (a : S.Cong) (b : S.Cong) (hp : S.cong_Within_pre a b) : CallOk c111 66 [.agg [.int .u64 a.M, .int .u64 a.R], .agg [.int .u64 b.M, .int .u64 b.R]] (wr_b (S.cong_Within a b)) (wo_b (S.cong_Within a b)) :=
  (call_ok (c := c111) (f := 66) (fn := Try.f66) (code := body66) (args := ([.agg [.int .u64 a.M, .int .u64 a.R], .agg [.int .u64 b.M, .int .u64 b.R]])) (loop := noLoop) (md := ⟨false, false⟩) (rd := rd_b) (wr := wr_b) (wo := wo_b) (r := (S.cong_Within a b)) c111_ok (by kernel_rfl) (by kernel_rfl) (by kernel_rfl) (no_loops (by kernel_rfl)) (by kernel_rfl) (by kernel_rfl) (by kernel_rfl)
    rw_b np_b no_b (by kernel_rfl) (Eq.mpr (show Vm.Tr.vc (Vm.Fn c111 Try.f66 body66 noLoop ([.agg [.int .u64 a.M, .int .u64 a.R], .agg [.int .u64 b.M, .int .u64 b.R]])) = S.cong_Within_pre a b by kernel_rfl) hp))

noncomputable def sem66 : List W → Option (W × List (List W) × List Prop)
  | [.agg [.int .u64 y1, .int .u64 y2], .agg [.int .u64 y3, .int .u64 y4]] => some (wr_b (S.cong_Within (⟨y1, y2⟩ : S.Cong) (⟨y3, y4⟩ : S.Cong)), wo_b (S.cong_Within (⟨y1, y2⟩ : S.Cong) (⟨y3, y4⟩ : S.Cong)), [S.cong_Within_pre (⟨y1, y2⟩ : S.Cong) (⟨y3, y4⟩ : S.Cong)])
  | _ => none
noncomputable def c66 : Cfg El := c111.add 66 sem66
theorem c66_ok : CfgOk c66 := c111_ok.add (fun args w => Try.call66 args w) (fun vs r outs ps h hp => by
  unfold sem66 at h
  split at h
  · rename_i y1 y2 y3 y4; cases h; exact fn66 (⟨y1, y2⟩ : S.Cong) (⟨y3, y4⟩ : S.Cong) hp
  · cases h)

noncomputable def body68 : Code := (Try.f68.body).getD .skip
theorem fn68 (a : S.Cong) (b : S.Cong) (hp : S.cong_Meet_pre a b) : CallOk c66 68 [.agg [.int .u64 a.M, .int .u64 a.R], .agg [.int .u64 b.M, .int .u64 b.R]] (wr_S66_b (S.cong_Meet a b)) (wo_S66_b (S.cong_Meet a b)) :=
  (call_ok (c := c66) (f := 68) (fn := Try.f68) (code := body68) (args := ([.agg [.int .u64 a.M, .int .u64 a.R], .agg [.int .u64 b.M, .int .u64 b.R]])) (loop := noLoop) (md := ⟨false, false⟩) (rd := rd_S66_b) (wr := wr_S66_b) (wo := wo_S66_b) (r := (S.cong_Meet a b)) c66_ok (by kernel_rfl) (by kernel_rfl) (by kernel_rfl) (no_loops (by kernel_rfl)) (by kernel_rfl) (by kernel_rfl) (by kernel_rfl)
    rw_S66_b np_S66_b no_S66_b (by kernel_rfl) (Eq.mpr (show Vm.Tr.vc (Vm.Fn c66 Try.f68 body68 noLoop ([.agg [.int .u64 a.M, .int .u64 a.R], .agg [.int .u64 b.M, .int .u64 b.R]])) = S.cong_Meet_pre a b by kernel_rfl) hp))

noncomputable def sem68 : List W → Option (W × List (List W) × List Prop)
  | [.agg [.int .u64 y1, .int .u64 y2], .agg [.int .u64 y3, .int .u64 y4]] => some (wr_S66_b (S.cong_Meet (⟨y1, y2⟩ : S.Cong) (⟨y3, y4⟩ : S.Cong)), wo_S66_b (S.cong_Meet (⟨y1, y2⟩ : S.Cong) (⟨y3, y4⟩ : S.Cong)), [S.cong_Meet_pre (⟨y1, y2⟩ : S.Cong) (⟨y3, y4⟩ : S.Cong)])
  | _ => none
noncomputable def c68 : Cfg El := c66.add 68 sem68
theorem c68_ok : CfgOk c68 := c66_ok.add (fun args w => Try.call68 args w) (fun vs r outs ps h hp => by
  unfold sem68 at h
  split at h
  · rename_i y1 y2 y3 y4; cases h; exact fn68 (⟨y1, y2⟩ : S.Cong) (⟨y3, y4⟩ : S.Cong) hp
  · cases h)

noncomputable def body125 : Code := (Try.f125.body).getD .skip
theorem fn125 (c : S.Cong) (ok : Bool) : CallOk c68 125 [.agg [.int .u64 c.M, .int .u64 c.R], .bool ok] (wr_i64_b (S.cong_Cong_number0 c ok)) (wo_i64_b (S.cong_Cong_number0 c ok)) :=
  (call_ok (c := c68) (f := 125) (fn := Try.f125) (code := body125) (args := ([.agg [.int .u64 c.M, .int .u64 c.R], .bool ok])) (loop := noLoop) (md := ⟨false, false⟩) (rd := rd_i64_b) (wr := wr_i64_b) (wo := wo_i64_b) (r := (S.cong_Cong_number0 c ok)) c68_ok (by kernel_rfl) (by kernel_rfl) (by kernel_rfl) (no_loops (by kernel_rfl)) (by kernel_rfl) (by kernel_rfl) (by kernel_rfl)
    rw_i64_b np_i64_b no_i64_b (by kernel_rfl) (Tr.vc_of_noReq (by kernel_rfl)))

noncomputable def sem125 : List W → Option (W × List (List W) × List Prop)
  | [.agg [.int .u64 y1, .int .u64 y2], .bool y3] => some (wr_i64_b (S.cong_Cong_number0 (⟨y1, y2⟩ : S.Cong) y3), wo_i64_b (S.cong_Cong_number0 (⟨y1, y2⟩ : S.Cong) y3), [])
  | _ => none
noncomputable def c125 : Cfg El := c68.add 125 sem125
theorem c125_ok : CfgOk c125 := c68_ok.add (fun args w => Try.call125 args w) (fun vs r outs ps h hp => by
  unfold sem125 at h
  split at h
  · rename_i y1 y2 y3; cases h; exact fn125 (⟨y1, y2⟩ : S.Cong) y3
  · cases h)

noncomputable def sem141 : List W → Option (W × List (List W) × List Prop)
  | [.int .u64 x, .int .u64 y, .int .u64 c] => some (.tup [.int .u64 (S.math_bits_Add64 x y c).1, .int .u64 (S.math_bits_Add64 x y c).2], [], [S.math_bits_Add64_pre x y c])
  | _ => none
noncomputable def c141 : Cfg El := c125.add 141 sem141
theorem c141_ok : CfgOk c141 := c125_ok.addExt (fun vs r outs ps h hp => by
  unfold sem141 at h
  split at h
  · cases h; exact ⟨rfl, ext_add64 (c := c125) (fn := Try.f141) (by kernel_rfl) (by kernel_rfl) (by kernel_rfl) (by kernel_rfl) (by kernel_rfl) hp⟩
  · cases h)

noncomputable def body115 : Code := (Try.f115.body).getD .skip
theorem fn115 (a : Int) (b : Int) (m : Int) (hp : S.cong_plus_pre a b m) : CallOk c141 115 [.int .u64 a, .int .u64 b, .int .u64 m] (wr_u64 (S.cong_plus a b m)) (wo_u64 (S.cong_plus a b m)) :=
  (call_ok (c := c141) (f := 115) (fn := Try.f115) (code := body115) (args := ([.int .u64 a, .int .u64 b, .int .u64 m])) (loop := noLoop) (md := ⟨false, false⟩) (rd := rd_u64) (wr := wr_u64) (wo := wo_u64) (r := (S.cong_plus a b m)) c141_ok (by kernel_rfl) (by kernel_rfl) (by kernel_rfl) (no_loops (by kernel_rfl)) (by kernel_rfl) (by kernel_rfl) (by kernel_rfl)
    rw_u64 np_u64 no_u64 (by kernel_rfl) (Eq.mpr (show Vm.Tr.vc (Vm.Fn c141 Try.f115 body115 noLoop ([.int .u64 a, .int .u64 b, .int .u64 m])) = S.cong_plus_pre a b m by kernel_rfl) hp))

noncomputable def sem115 : List W → Option (W × List (List W) × List Prop)
  | [.int .u64 y1, .int .u64 y2, .int .u64 y3] => some (wr_u64 (S.cong_plus y1 y2 y3), wo_u64 (S.cong_plus y1 y2 y3), [S.cong_plus_pre y1 y2 y3])
  | _ => none
noncomputable def c115 : Cfg El := c141.add 115 sem115
theorem c115_ok : CfgOk c115 := c141_ok.add (fun args w => Try.call115 args w) (fun vs r outs ps h hp => by
  unfold sem115 at h
  split at h
  · rename_i y1 y2 y3; cases h; exact fn115 y1 y2 y3 hp
  · cases h)

noncomputable def body81 : Code := (Try.f81.body).getD .skip
theorem fn81 (c : S.Cong) (a1 : Int) (hp : S.cong_Cong_Least_pre c a1) : CallOk c115 81 [.agg [.int .u64 c.M, .int .u64 c.R], .int .i64 a1] (wr_i64_b (S.cong_Cong_Least c a1)) (wo_i64_b (S.cong_Cong_Least c a1)) :=
  (call_ok (c := c115) (f := 81) (fn := Try.f81) (code := body81) (args := ([.agg [.int .u64 c.M, .int .u64 c.R], .int .i64 a1])) (loop := noLoop) (md := ⟨false, false⟩) (rd := rd_i64_b) (wr := wr_i64_b) (wo := wo_i64_b) (r := (S.cong_Cong_Least c a1)) c115_ok (by kernel_rfl) (by kernel_rfl) (by kernel_rfl) (no_loops (by kernel_rfl)) (by kernel_rfl) (by kernel_rfl) (by kernel_rfl)
    rw_i64_b np_i64_b no_i64_b (by kernel_rfl) (Eq.mpr (show Vm.Tr.vc (Vm.Fn c115 Try.f81 body81 noLoop ([.agg [.int .u64 c.M, .int .u64 c.R], .int .i64 a1])) = S.cong_Cong_Least_pre c a1 by kernel_rfl) hp))

noncomputable def sem81 : List W → Option (W × List (List W) × List Prop)
  | [.agg [.int .u64 y1, .int .u64 y2], .int .i64 y3] => some (wr_i64_b (S.cong_Cong_Least (⟨y1, y2⟩ : S.Cong) y3), wo_i64_b (S.cong_Cong_Least (⟨y1, y2⟩ : S.Cong) y3), [S.cong_Cong_Least_pre (⟨y1, y2⟩ : S.Cong) y3])
  | _ => none
noncomputable def c81 : Cfg El := c115.add 81 sem81
theorem c81_ok : CfgOk c81 := c115_ok.add (fun args w => Try.call81 args w) (fun vs r outs ps h hp => by
  unfold sem81 at h
  split at h
  · rename_i y1 y2 y3; cases h; exact fn81 (⟨y1, y2⟩ : S.Cong) y3 hp
  · cases h)

noncomputable def body71 : Code := (Try.f71.body).getD .skip
theorem fn71 (a : S.Cong) (b : S.Cong) (hp : S.cong_Add_pre a b) : CallOk c81 71 [.agg [.int .u64 a.M, .int .u64 a.R], .agg [.int .u64 b.M, .int .u64 b.R]] (wr_S66 (S.cong_Add a b)) (wo_S66 (S.cong_Add a b)) :=
  (call_ok (c := c81) (f := 71) (fn := Try.f71) (code := body71) (args := ([.agg [.int .u64 a.M, .int .u64 a.R], .agg [.int .u64 b.M, .int .u64 b.R]])) (loop := noLoop) (md := ⟨false, false⟩) (rd := rd_S66) (wr := wr_S66) (wo := wo_S66) (r := (S.cong_Add a b)) c81_ok (by kernel_rfl) (by kernel_rfl) (by kernel_rfl) (no_loops (by kernel_rfl)) (by kernel_rfl) (by kernel_rfl) (by kernel_rfl)
    rw_S66 np_S66 no_S66 (by kernel_rfl) (Eq.mpr (show Vm.Tr.vc (Vm.Fn c81 Try.f71 body71 noLoop ([.agg [.int .u64 a.M, .int .u64 a.R], .agg [.int .u64 b.M, .int .u64 b.R]])) = S.cong_Add_pre a b by kernel_rfl) hp))

noncomputable def sem71 : List W → Option (W × List (List W) × List Prop)
  | [.agg [.int .u64 y1, .int .u64 y2], .agg [.int .u64 y3, .int .u64 y4]] => some (wr_S66 (S.cong_Add (⟨y1, y2⟩ : S.Cong) (⟨y3, y4⟩ : S.Cong)), wo_S66 (S.cong_Add (⟨y1, y2⟩ : S.Cong) (⟨y3, y4⟩ : S.Cong)), [S.cong_Add_pre (⟨y1, y2⟩ : S.Cong) (⟨y3, y4⟩ : S.Cong)])
  | _ => none
noncomputable def c71 : Cfg El := c81.add 71 sem71
theorem c71_ok : CfgOk c71 := c81_ok.add (fun args w => Try.call71 args w) (fun vs r outs ps h hp => by
  unfold sem71 at h
  split at h
  · rename_i y1 y2 y3 y4; cases h; exact fn71 (⟨y1, y2⟩ : S.Cong) (⟨y3, y4⟩ : S.Cong) hp
  · cases h)

noncomputable def rd_u64_u64 : W → List (List W) → Option (Int × Int)
  | .tup [.int .u64 x1, .int .u64 x2], [] => some ⟨x1, x2⟩
  | _, _ => none
noncomputable def wr_u64_u64 (x : Int × Int) : W := .tup [.int .u64 x.1, .int .u64 x.2]
noncomputable def wo_u64_u64 (_x : Int × Int) : List (List W) := []
theorem rw_u64_u64 (v : W) (os : List (List W)) (x : Int × Int) (h : rd_u64_u64 v os = some x) : v = wr_u64_u64 x ∧ os = wo_u64_u64 x := by
  unfold rd_u64_u64 at h
  split at h <;> first | (cases h; exact ⟨rfl, rfl⟩) | cases h
theorem np_u64_u64 (x : Int × Int) : okv (fun _ => false) (wr_u64_u64 x) = true := rfl
theorem no_u64_u64 (x : Int × Int) : all (fun cs => all (ok0 fun _ => false) cs) (wo_u64_u64 x) = true := rfl

noncomputable def body142 : Code := (Try.f142.body).getD .skip
theorem fn142 (x : Int) (y : Int) : CallOk c71 142 [.int .u64 x, .int .u64 y] (wr_u64_u64 (S.math_bits_Mul64 x y)) (wo_u64_u64 (S.math_bits_Mul64 x y)) :=
  (call_ok (c := c71) (f := 142) (fn := Try.f142) (code := body142) (args := ([.int .u64 x, .int .u64 y])) (loop := noLoop) (md := ⟨false, false⟩) (rd := rd_u64_u64) (wr := wr_u64_u64) (wo := wo_u64_u64) (r := (S.math_bits_Mul64 x y)) c71_ok (by kernel_rfl) (by kernel_rfl) (by kernel_rfl) (no_loops (by kernel_rfl)) (by kernel_rfl) (by kernel_rfl) (by kernel_rfl)
    rw_u64_u64 np_u64_u64 no_u64_u64 (by kernel_rfl) (Tr.vc_of_noReq (by kernel_rfl)))

noncomputable def sem142 : List W → Option (W × List (List W) × List Prop)
  | [.int .u64 y1, .int .u64 y2] => some (wr_u64_u64 (S.math_bits_Mul64 y1 y2), wo_u64_u64 (S.math_bits_Mul64 y1 y2), [])
  | _ => none
noncomputable def c142 : Cfg El := c71.add 142 sem142
theorem c142_ok : CfgOk c142 := c71_ok.add (fun args w => Try.call142 args w) (fun vs r outs ps h hp => by
  unfold sem142 at h
  split at h
  · rename_i y1 y2; cases h; exact fn142 y1 y2
  · cases h)

noncomputable def body117 : Code := (Try.f117.body).getD .skip
theorem fn117 (a : Int) (b : Int) : CallOk c142 117 [.int .u64 a, .int .u64 b] (wr_u64_b (S.cong_fits a b)) (wo_u64_b (S.cong_fits a b)) :=
  (call_ok (c := c142) (f := 117) (fn := Try.f117) (code := body117) (args := ([.int .u64 a, .int .u64 b])) (loop := noLoop) (md := ⟨false, false⟩) (rd := rd_u64_b) (wr := wr_u64_b) (wo := wo_u64_b) (r := (S.cong_fits a b)) c142_ok (by kernel_rfl) (by kernel_rfl) (by kernel_rfl) (no_loops (by kernel_rfl)) (by kernel_rfl) (by kernel_rfl) (by kernel_rfl)
    rw_u64_b np_u64_b no_u64_b (by kernel_rfl) (Tr.vc_of_noReq (by kernel_rfl)))

noncomputable def sem117 : List W → Option (W × List (List W) × List Prop)
  | [.int .u64 y1, .int .u64 y2] => some (wr_u64_b (S.cong_fits y1 y2), wo_u64_b (S.cong_fits y1 y2), [])
  | _ => none
noncomputable def c117 : Cfg El := c142.add 117 sem117
theorem c117_ok : CfgOk c117 := c142_ok.add (fun args w => Try.call117 args w) (fun vs r outs ps h hp => by
  unfold sem117 at h
  split at h
  · rename_i y1 y2; cases h; exact fn117 y1 y2
  · cases h)

noncomputable def body147 : Code := (Try.f147.body).getD .skip
theorem fn147 (x : Int) (hp : S.math_bits_Len64_pre x) : CallOk c117 147 [.int .u64 x] (wr_i64 (S.math_bits_Len64 x)) (wo_i64 (S.math_bits_Len64 x)) :=
  (call_ok (c := c117) (f := 147) (fn := Try.f147) (code := body147) (args := ([.int .u64 x])) (loop := noLoop) (md := ⟨false, false⟩) (rd := rd_i64) (wr := wr_i64) (wo := wo_i64) (r := (S.math_bits_Len64 x)) c117_ok (by kernel_rfl) (by kernel_rfl) (by kernel_rfl) (no_loops (by kernel_rfl)) (by kernel_rfl) (by kernel_rfl) (by kernel_rfl)
    rw_i64 np_i64 no_i64 (by kernel_rfl) (Eq.mpr (show Vm.Tr.vc (Vm.Fn c117 Try.f147 body147 noLoop ([.int .u64 x])) = S.math_bits_Len64_pre x by kernel_rfl) hp))

noncomputable def sem147 : List W → Option (W × List (List W) × List Prop)
  | [.int .u64 y1] => some (wr_i64 (S.math_bits_Len64 y1), wo_i64 (S.math_bits_Len64 y1), [S.math_bits_Len64_pre y1])
  | _ => none
noncomputable def c147 : Cfg El := c117.add 147 sem147
theorem c147_ok : CfgOk c147 := c117_ok.add (fun args w => Try.call147 args w) (fun vs r outs ps h hp => by
  unfold sem147 at h
  split at h
  · rename_i y1; cases h; exact fn147 y1 hp
  · cases h)

noncomputable def body146 : Code := (Try.f146.body).getD .skip
theorem fn146 (x : Int) (hp : S.math_bits_LeadingZeros64_pre x) : CallOk c147 146 [.int .u64 x] (wr_i64 (S.math_bits_LeadingZeros64 x)) (wo_i64 (S.math_bits_LeadingZeros64 x)) :=
  (call_ok (c := c147) (f := 146) (fn := Try.f146) (code := body146) (args := ([.int .u64 x])) (loop := noLoop) (md := ⟨false, false⟩) (rd := rd_i64) (wr := wr_i64) (wo := wo_i64) (r := (S.math_bits_LeadingZeros64 x)) c147_ok (by kernel_rfl) (by kernel_rfl) (by kernel_rfl) (no_loops (by kernel_rfl)) (by kernel_rfl) (by kernel_rfl) (by kernel_rfl)
    rw_i64 np_i64 no_i64 (by kernel_rfl) (Eq.mpr (show Vm.Tr.vc (Vm.Fn c147 Try.f146 body146 noLoop ([.int .u64 x])) = S.math_bits_LeadingZeros64_pre x by kernel_rfl) hp))

noncomputable def sem146 : List W → Option (W × List (List W) × List Prop)
  | [.int .u64 y1] => some (wr_i64 (S.math_bits_LeadingZeros64 y1), wo_i64 (S.math_bits_LeadingZeros64 y1), [S.math_bits_LeadingZeros64_pre y1])
  | _ => none
noncomputable def c146 : Cfg El := c147.add 146 sem146
theorem c146_ok : CfgOk c146 := c147_ok.add (fun args w => Try.call146 args w) (fun vs r outs ps h hp => by
  unfold sem146 at h
  split at h
  · rename_i y1; cases h; exact fn146 y1 hp
  · cases h)

noncomputable def body145 : Code := (Try.f145.body).getD .skip
noncomputable def lb145_0 : Code := ((nth (loopsOf 0 body145) 0).getD (0, .skip)).2
noncomputable def px145_0 : List W → Option S.math_bits_Div64_L0
  | [.int .u64 y1, .int .u64 y2, .int .u64 y3, .int .u64 y4, .int .u64 y5] => some ⟨y1, y2, y3, y4, y5⟩
  | _ => none
noncomputable def tx145_0 (x : S.math_bits_Div64_L0) : List W := [.int .u64 x.yn1, .int .u64 x.yn0, .int .u64 x.un1, .int .u64 x.q1, .int .u64 x.rhat]
noncomputable def py145_0 : Ex → List W → Option (S.math_bits_Div64_L0)
  | .exit 0, [.int .u64 y1, .int .u64 y2, .int .u64 y3, .int .u64 y4, .int .u64 y5] => some ⟨y1, y2, y3, y4, y5⟩
  | _, _ => none
noncomputable def ld145_0 : LD El where
  X := S.math_bits_Div64_L0
  Y := S.math_bits_Div64_L0
  keys := [.slot 9, .slot 10, .slot 13, .slot 15, .slot 16]
  fits := [36, 36, 36, 36, 36]
  px := px145_0
  tx := tx145_0
  okeys := [.slot 9, .slot 10, .slot 13, .slot 15, .slot 16]
  ofits := [36, 36, 36, 36, 36]
  py := py145_0
  ty := fun y => tx145_0 y
  oex := fun _ => .exit 0
  junk := [.slot 67, .slot 68, .slot 69, .slot 70, .slot 71, .slot 72, .slot 73, .slot 74, .slot 75, .slot 76, .slot 77, .slot 78, .slot 79, .slot 80, .slot 81, .slot 82, .slot 83, .slot 84, .slot 85]
  rows := []
noncomputable def lo145_0 : S.math_bits_Div64_L0 → Tr El := fun y => .leaf (.exit 0) (zipK ld145_0.okeys (tx145_0 y) ++ junkK ld145_0.junk)
noncomputable def lb145_2 : Code := ((nth (loopsOf 0 body145) 1).getD (0, .skip)).2
noncomputable def px145_2 : List W → Option S.math_bits_Div64_L2
  | [.int .u64 y1, .int .u64 y2, .int .u64 y3, .int .u64 y4, .int .u64 y5] => some ⟨y1, y2, y3, y4, y5⟩
  | _ => none
noncomputable def tx145_2 (x : S.math_bits_Div64_L2) : List W := [.int .u64 x.yn1, .int .u64 x.yn0, .int .u64 x.un0, .int .u64 x.rhat, .int .u64 x.q0]
noncomputable def py145_2 : Ex → List W → Option (S.math_bits_Div64_L2)
  | .exit 2, [.int .u64 y1, .int .u64 y2, .int .u64 y3, .int .u64 y4, .int .u64 y5] => some ⟨y1, y2, y3, y4, y5⟩
  | _, _ => none
noncomputable def ld145_2 : LD El where
  X := S.math_bits_Div64_L2
  Y := S.math_bits_Div64_L2
  keys := [.slot 9, .slot 10, .slot 14, .slot 16, .slot 18]
  fits := [36, 36, 36, 36, 36]
  px := px145_2
  tx := tx145_2
  okeys := [.slot 9, .slot 10, .slot 14, .slot 16, .slot 18]
  ofits := [36, 36, 36, 36, 36]
  py := py145_2
  ty := fun y => tx145_2 y
  oex := fun _ => .exit 2
  junk := [.slot 102, .slot 103, .slot 104, .slot 105, .slot 106, .slot 107, .slot 108, .slot 109, .slot 110, .slot 111, .slot 112, .slot 113, .slot 114, .slot 115, .slot 116, .slot 117, .slot 118, .slot 119, .slot 120]
  rows := []
noncomputable def lo145_2 : S.math_bits_Div64_L2 → Tr El := fun y => .leaf (.exit 2) (zipK ld145_2.okeys (tx145_2 y) ++ junkK ld145_2.junk)
noncomputable def loop145 : Nat → Env El → Tr El
  | 0 => ld145_0.tree c146 Try.f145.ntmps 0 lb145_0 S.math_bits_Div64_L0_run lo145_0 S.math_bits_Div64_L0_step S.math_bits_Div64_L0_vcs
  | 2 => ld145_2.tree c146 Try.f145.ntmps 2 lb145_2 S.math_bits_Div64_L2_run lo145_2 S.math_bits_Div64_L2_step S.math_bits_Div64_L2_vcs
  | _ => fun _ => .fail
theorem lok145_2 : ∀ w0 S0, LoopOk c146 Try.f145.ntmps w0 S0 loop145 2 lb145_2 :=
  loop_ok (c := c146) (n := Try.f145.ntmps) c146_ok mixed ld145_2 (body := lb145_2) (key := 2) (loop := loop145) (F := S.math_bits_Div64_L2_run) (out := lo145_2) (step := S.math_bits_Div64_L2_step) (vcs := S.math_bits_Div64_L2_vcs)
    (fun _ => by kernel_rfl) (no_loops (by kernel_rfl)) rfl rfl
    (fun vs x h => by unfold ld145_2 px145_2 at h; dsimp only at h; split at h <;> first | (cases h; rfl) | cases h)
    (fun e vs y h => by unfold ld145_2 py145_2 at h; dsimp only at h; split at h <;> first | (cases h; exact ⟨rfl, rfl⟩) | cases h)
    (by kernel_rfl) (fun _ => rfl) (fun _ _ h => h) (fun x => by kernel_rfl) (fun _ _ => Tr.vc_of_noReq (by kernel_rfl))
theorem lok145_0 : ∀ w0 S0, LoopOk c146 Try.f145.ntmps w0 S0 loop145 0 lb145_0 :=
  loop_ok (c := c146) (n := Try.f145.ntmps) c146_ok mixed ld145_0 (body := lb145_0) (key := 0) (loop := loop145) (F := S.math_bits_Div64_L0_run) (out := lo145_0) (step := S.math_bits_Div64_L0_step) (vcs := S.math_bits_Div64_L0_vcs)
    (fun _ => by kernel_rfl) (no_loops (by kernel_rfl)) rfl rfl
    (fun vs x h => by unfold ld145_0 px145_0 at h; dsimp only at h; split at h <;> first | (cases h; rfl) | cases h)
    (fun e vs y h => by unfold ld145_0 py145_0 at h; dsimp only at h; split at h <;> first | (cases h; exact ⟨rfl, rfl⟩) | cases h)
    (by kernel_rfl) (fun _ => rfl) (fun _ _ h => h) (fun x => by kernel_rfl) (fun _ _ => Tr.vc_of_noReq (by kernel_rfl))
theorem fn145 (hi : Int) (lo : Int) (y : Int) (hp : S.math_bits_Div64_pre hi lo y) : CallOk c146 145 [.int .u64 hi, .int .u64 lo, .int .u64 y] (wr_u64_u64 (S.math_bits_Div64 hi lo y)) (wo_u64_u64 (S.math_bits_Div64 hi lo y)) :=
  (call_ok (c := c146) (f := 145) (fn := Try.f145) (code := body145) (args := ([.int .u64 hi, .int .u64 lo, .int .u64 y])) (loop := loop145) (md := ⟨false, false⟩) (rd := rd_u64_u64) (wr := wr_u64_u64) (wo := wo_u64_u64) (r := (S.math_bits_Div64 hi lo y)) c146_ok (by kernel_rfl) (by kernel_rfl) (by kernel_rfl) (loops_all (l := [(0, lb145_0), (2, lb145_2)]) (by kernel_rfl) ⟨lok145_0, ⟨lok145_2, trivial⟩⟩) (by kernel_rfl) (by kernel_rfl) (by kernel_rfl)
    rw_u64_u64 np_u64_u64 no_u64_u64 (by kernel_rfl) (Eq.mpr (show Vm.Tr.vc (Vm.Fn c146 Try.f145 body145 loop145 ([.int .u64 hi, .int .u64 lo, .int .u64 y])) = S.math_bits_Div64_pre hi lo y by kernel_rfl) hp))

noncomputable def sem145 : List W → Option (W × List (List W) × List Prop)
  | [.int .u64 y1, .int .u64 y2, .int .u64 y3] => some (wr_u64_u64 (S.math_bits_Div64 y1 y2 y3), wo_u64_u64 (S.math_bits_Div64 y1 y2 y3), [S.math_bits_Div64_pre y1 y2 y3])
  | _ => none
noncomputable def c145 : Cfg El := c146.add 145 sem145
theorem c145_ok : CfgOk c145 := c146_ok.add (fun args w => Try.call145 args w) (fun vs r outs ps h hp => by
  unfold sem145 at h
  split at h
  · rename_i y1 y2 y3; cases h; exact fn145 y1 y2 y3 hp
  · cases h)

noncomputable def body143 : Code := (Try.f143.body).getD .skip
theorem fn143 (hi : Int) (lo : Int) (y : Int) (hp : S.math_bits_Rem64_pre hi lo y) : CallOk c145 143 [.int .u64 hi, .int .u64 lo, .int .u64 y] (wr_u64 (S.math_bits_Rem64 hi lo y)) (wo_u64 (S.math_bits_Rem64 hi lo y)) :=
  (call_ok (c := c145) (f := 143) (fn := Try.f143) (code := body143) (args := ([.int .u64 hi, .int .u64 lo, .int .u64 y])) (loop := noLoop) (md := ⟨false, false⟩) (rd := rd_u64) (wr := wr_u64) (wo := wo_u64) (r := (S.math_bits_Rem64 hi lo y)) c145_ok (by kernel_rfl) (by kernel_rfl) (by kernel_rfl) (no_loops (by kernel_rfl)) (by kernel_rfl) (by kernel_rfl) (by kernel_rfl)
    rw_u64 np_u64 no_u64 (by kernel_rfl) (Eq.mpr (show Vm.Tr.vc (Vm.Fn c145 Try.f143 body143 noLoop ([.int .u64 hi, .int .u64 lo, .int .u64 y])) = S.math_bits_Rem64_pre hi lo y by kernel_rfl) hp))

noncomputable def sem143 : List W → Option (W × List (List W) × List Prop)
  | [.int .u64 y1, .int .u64 y2, .int .u64 y3] => some (wr_u64 (S.math_bits_Rem64 y1 y2 y3), wo_u64 (S.math_bits_Rem64 y1 y2 y3), [S.math_bits_Rem64_pre y1 y2 y3])
  | _ => none
noncomputable def c143 : Cfg El := c145.add 143 sem143
theorem c143_ok : CfgOk c143 := c145_ok.add (fun args w => Try.call143 args w) (fun vs r outs ps h hp => by
  unfold sem143 at h
  split at h
  · rename_i y1 y2 y3; cases h; exact fn143 y1 y2 y3 hp
  · cases h)

noncomputable def body118 : Code := (Try.f118.body).getD .skip
theorem fn118 (a : Int) (b : Int) (m : Int) (hp : S.cong_times_pre a b m) : CallOk c143 118 [.int .u64 a, .int .u64 b, .int .u64 m] (wr_u64 (S.cong_times a b m)) (wo_u64 (S.cong_times a b m)) :=
  (call_ok (c := c143) (f := 118) (fn := Try.f118) (code := body118) (args := ([.int .u64 a, .int .u64 b, .int .u64 m])) (loop := noLoop) (md := ⟨false, false⟩) (rd := rd_u64) (wr := wr_u64) (wo := wo_u64) (r := (S.cong_times a b m)) c143_ok (by kernel_rfl) (by kernel_rfl) (by kernel_rfl) (no_loops (by kernel_rfl)) (by kernel_rfl) (by kernel_rfl) (by kernel_rfl)
    rw_u64 np_u64 no_u64 (by kernel_rfl) (Eq.mpr (show Vm.Tr.vc (Vm.Fn c143 Try.f118 body118 noLoop ([.int .u64 a, .int .u64 b, .int .u64 m])) = S.cong_times_pre a b m by kernel_rfl) hp))

noncomputable def sem118 : List W → Option (W × List (List W) × List Prop)
  | [.int .u64 y1, .int .u64 y2, .int .u64 y3] => some (wr_u64 (S.cong_times y1 y2 y3), wo_u64 (S.cong_times y1 y2 y3), [S.cong_times_pre y1 y2 y3])
  | _ => none
noncomputable def c118 : Cfg El := c143.add 118 sem118
theorem c118_ok : CfgOk c118 := c143_ok.add (fun args w => Try.call118 args w) (fun vs r outs ps h hp => by
  unfold sem118 at h
  split at h
  · rename_i y1 y2 y3; cases h; exact fn118 y1 y2 y3 hp
  · cases h)

noncomputable def body116 : Code := (Try.f116.body).getD .skip
theorem fn116 (c : S.Cong) (n : Int) (hp : S.cong_Cong_scaled_pre c n) : CallOk c118 116 [.agg [.int .u64 c.M, .int .u64 c.R], .int .i64 n] (wr_S66 (S.cong_Cong_scaled c n)) (wo_S66 (S.cong_Cong_scaled c n)) :=
  (call_ok (c := c118) (f := 116) (fn := Try.f116) (code := body116) (args := ([.agg [.int .u64 c.M, .int .u64 c.R], .int .i64 n])) (loop := noLoop) (md := ⟨false, false⟩) (rd := rd_S66) (wr := wr_S66) (wo := wo_S66) (r := (S.cong_Cong_scaled c n)) c118_ok (by kernel_rfl) (by kernel_rfl) (by kernel_rfl) (no_loops (by kernel_rfl)) (by kernel_rfl) (by kernel_rfl) (by kernel_rfl)
    rw_S66 np_S66 no_S66 (by kernel_rfl) (Eq.mpr (show Vm.Tr.vc (Vm.Fn c118 Try.f116 body116 noLoop ([.agg [.int .u64 c.M, .int .u64 c.R], .int .i64 n])) = S.cong_Cong_scaled_pre c n by kernel_rfl) hp))

noncomputable def sem116 : List W → Option (W × List (List W) × List Prop)
  | [.agg [.int .u64 y1, .int .u64 y2], .int .i64 y3] => some (wr_S66 (S.cong_Cong_scaled (⟨y1, y2⟩ : S.Cong) y3), wo_S66 (S.cong_Cong_scaled (⟨y1, y2⟩ : S.Cong) y3), [S.cong_Cong_scaled_pre (⟨y1, y2⟩ : S.Cong) y3])
  | _ => none
noncomputable def c116 : Cfg El := c118.add 116 sem116
theorem c116_ok : CfgOk c116 := c118_ok.add (fun args w => Try.call116 args w) (fun vs r outs ps h hp => by
  unfold sem116 at h
  split at h
  · rename_i y1 y2 y3; cases h; exact fn116 (⟨y1, y2⟩ : S.Cong) y3 hp
  · cases h)

noncomputable def body73 : Code := (Try.f73.body).getD .skip
theorem fn73 (a : S.Cong) (b : S.Cong) (hp : S.cong_Mul_pre a b) : CallOk c116 73 [.agg [.int .u64 a.M, .int .u64 a.R], .agg [.int .u64 b.M, .int .u64 b.R]] (wr_S66 (S.cong_Mul a b)) (wo_S66 (S.cong_Mul a b)) :=
  (call_ok (c := c116) (f := 73) (fn := Try.f73) (code := body73) (args := ([.agg [.int .u64 a.M, .int .u64 a.R], .agg [.int .u64 b.M, .int .u64 b.R]])) (loop := noLoop) (md := ⟨false, false⟩) (rd := rd_S66) (wr := wr_S66) (wo := wo_S66) (r := (S.cong_Mul a b)) c116_ok (by kernel_rfl) (by kernel_rfl) (by kernel_rfl) (no_loops (by kernel_rfl)) (by kernel_rfl) (by kernel_rfl) (by kernel_rfl)
    rw_S66 np_S66 no_S66 (by kernel_rfl) (Eq.mpr (show Vm.Tr.vc (Vm.Fn c116 Try.f73 body73 noLoop ([.agg [.int .u64 a.M, .int .u64 a.R], .agg [.int .u64 b.M, .int .u64 b.R]])) = S.cong_Mul_pre a b by kernel_rfl) hp))

noncomputable def sem73 : List W → Option (W × List (List W) × List Prop)
  | [.agg [.int .u64 y1, .int .u64 y2], .agg [.int .u64 y3, .int .u64 y4]] => some (wr_S66 (S.cong_Mul (⟨y1, y2⟩ : S.Cong) (⟨y3, y4⟩ : S.Cong)), wo_S66 (S.cong_Mul (⟨y1, y2⟩ : S.Cong) (⟨y3, y4⟩ : S.Cong)), [S.cong_Mul_pre (⟨y1, y2⟩ : S.Cong) (⟨y3, y4⟩ : S.Cong)])
  | _ => none
noncomputable def c73 : Cfg El := c116.add 73 sem73
theorem c73_ok : CfgOk c73 := c116_ok.add (fun args w => Try.call73 args w) (fun vs r outs ps h hp => by
  unfold sem73 at h
  split at h
  · rename_i y1 y2 y3 y4; cases h; exact fn73 (⟨y1, y2⟩ : S.Cong) (⟨y3, y4⟩ : S.Cong) hp
  · cases h)

noncomputable def body74 : Code := (Try.f74.body).getD .skip
theorem fn74 (c : S.Cong) (hp : S.cong_Cong_Wrapped_pre c) : CallOk c73 74 [.agg [.int .u64 c.M, .int .u64 c.R]] (wr_S66 (S.cong_Cong_Wrapped c)) (wo_S66 (S.cong_Cong_Wrapped c)) :=
  (call_ok (c := c73) (f := 74) (fn := Try.f74) (code := body74) (args := ([.agg [.int .u64 c.M, .int .u64 c.R]])) (loop := noLoop) (md := ⟨false, false⟩) (rd := rd_S66) (wr := wr_S66) (wo := wo_S66) (r := (S.cong_Cong_Wrapped c)) c73_ok (by kernel_rfl) (by kernel_rfl) (by kernel_rfl) (no_loops (by kernel_rfl)) (by kernel_rfl) (by kernel_rfl) (by kernel_rfl)
    rw_S66 np_S66 no_S66 (by kernel_rfl) (Eq.mpr (show Vm.Tr.vc (Vm.Fn c73 Try.f74 body74 noLoop ([.agg [.int .u64 c.M, .int .u64 c.R]])) = S.cong_Cong_Wrapped_pre c by kernel_rfl) hp))

noncomputable def sem74 : List W → Option (W × List (List W) × List Prop)
  | [.agg [.int .u64 y1, .int .u64 y2]] => some (wr_S66 (S.cong_Cong_Wrapped (⟨y1, y2⟩ : S.Cong)), wo_S66 (S.cong_Cong_Wrapped (⟨y1, y2⟩ : S.Cong)), [S.cong_Cong_Wrapped_pre (⟨y1, y2⟩ : S.Cong)])
  | _ => none
noncomputable def c74 : Cfg El := c73.add 74 sem74
theorem c74_ok : CfgOk c74 := c73_ok.add (fun args w => Try.call74 args w) (fun vs r outs ps h hp => by
  unfold sem74 at h
  split at h
  · rename_i y1 y2; cases h; exact fn74 (⟨y1, y2⟩ : S.Cong) hp
  · cases h)

noncomputable def body63 : Code := (Try.f63.body).getD .skip
theorem fn63 (hp : S.law20_works_pre) : CallOk c74 63 [] (wr_b (S.law20_works)) (wo_b (S.law20_works)) :=
  (call_ok (c := c74) (f := 63) (fn := Try.f63) (code := body63) (args := ([])) (loop := noLoop) (md := ⟨false, false⟩) (rd := rd_b) (wr := wr_b) (wo := wo_b) (r := S.law20_works) c74_ok (by kernel_rfl) (by kernel_rfl) (by kernel_rfl) (no_loops (by kernel_rfl)) (by kernel_rfl) (by kernel_rfl) (by kernel_rfl)
    rw_b np_b no_b (by kernel_rfl) (Eq.mpr (show Vm.Tr.vc (Vm.Fn c74 Try.f63 body63 noLoop ([])) = S.law20_works_pre by kernel_rfl) hp))

noncomputable def sem63 : List W → Option (W × List (List W) × List Prop)
  | [] => some (wr_b (S.law20_works), wo_b (S.law20_works), [S.law20_works_pre])
  | _ => none
noncomputable def c63 : Cfg El := c74.add 63 sem63
theorem c63_ok : CfgOk c63 := c74_ok.add (fun args w => Try.call63 args w) (fun vs r outs ps h hp => by
  unfold sem63 at h
  split at h
  · cases h; exact fn63 hp
  · cases h)

noncomputable def body65 : Code := (Try.f65.body).getD .skip
theorem fn65 (c : S.Cong) (n : Int) (hp : S.ref20_Has_pre c n) : CallOk c63 65 [.agg [.int .u64 c.M, .int .u64 c.R], .int .i64 n] (wr_b (S.ref20_Has c n)) (wo_b (S.ref20_Has c n)) :=
  (call_ok (c := c63) (f := 65) (fn := Try.f65) (code := body65) (args := ([.agg [.int .u64 c.M, .int .u64 c.R], .int .i64 n])) (loop := noLoop) (md := ⟨false, false⟩) (rd := rd_b) (wr := wr_b) (wo := wo_b) (r := (S.ref20_Has c n)) c63_ok (by kernel_rfl) (by kernel_rfl) (by kernel_rfl) (no_loops (by kernel_rfl)) (by kernel_rfl) (by kernel_rfl) (by kernel_rfl)
    rw_b np_b no_b (by kernel_rfl) (Eq.mpr (show Vm.Tr.vc (Vm.Fn c63 Try.f65 body65 noLoop ([.agg [.int .u64 c.M, .int .u64 c.R], .int .i64 n])) = S.ref20_Has_pre c n by kernel_rfl) hp))

noncomputable def sem65 : List W → Option (W × List (List W) × List Prop)
  | [.agg [.int .u64 y1, .int .u64 y2], .int .i64 y3] => some (wr_b (S.ref20_Has (⟨y1, y2⟩ : S.Cong) y3), wo_b (S.ref20_Has (⟨y1, y2⟩ : S.Cong) y3), [S.ref20_Has_pre (⟨y1, y2⟩ : S.Cong) y3])
  | _ => none
noncomputable def c65 : Cfg El := c63.add 65 sem65
theorem c65_ok : CfgOk c65 := c63_ok.add (fun args w => Try.call65 args w) (fun vs r outs ps h hp => by
  unfold sem65 at h
  split at h
  · rename_i y1 y2 y3; cases h; exact fn65 (⟨y1, y2⟩ : S.Cong) y3 hp
  · cases h)

noncomputable def body109 : Code := (Try.f109.body).getD .skip
theorem fn109 (c : S.Cong) (g : Int) (hp : S.ref20_Of_pre c g) : CallOk c65 109 [.agg [.int .u64 c.M, .int .u64 c.R], .int .u64 g] (wr_u64 (S.ref20_Of c g)) (wo_u64 (S.ref20_Of c g)) :=
  (call_ok (c := c65) (f := 109) (fn := Try.f109) (code := body109) (args := ([.agg [.int .u64 c.M, .int .u64 c.R], .int .u64 g])) (loop := noLoop) (md := ⟨false, false⟩) (rd := rd_u64) (wr := wr_u64) (wo := wo_u64) (r := (S.ref20_Of c g)) c65_ok (by kernel_rfl) (by kernel_rfl) (by kernel_rfl) (no_loops (by kernel_rfl)) (by kernel_rfl) (by kernel_rfl) (by kernel_rfl)
    rw_u64 np_u64 no_u64 (by kernel_rfl) (Eq.mpr (show Vm.Tr.vc (Vm.Fn c65 Try.f109 body109 noLoop ([.agg [.int .u64 c.M, .int .u64 c.R], .int .u64 g])) = S.ref20_Of_pre c g by kernel_rfl) hp))

noncomputable def sem109 : List W → Option (W × List (List W) × List Prop)
  | [.agg [.int .u64 y1, .int .u64 y2], .int .u64 y3] => some (wr_u64 (S.ref20_Of (⟨y1, y2⟩ : S.Cong) y3), wo_u64 (S.ref20_Of (⟨y1, y2⟩ : S.Cong) y3), [S.ref20_Of_pre (⟨y1, y2⟩ : S.Cong) y3])
  | _ => none
noncomputable def c109 : Cfg El := c65.add 109 sem109
theorem c109_ok : CfgOk c109 := c65_ok.add (fun args w => Try.call109 args w) (fun vs r outs ps h hp => by
  unfold sem109 at h
  split at h
  · rename_i y1 y2 y3; cases h; exact fn109 (⟨y1, y2⟩ : S.Cong) y3 hp
  · cases h)

noncomputable def body67 : Code := (Try.f67.body).getD .skip
theorem fn67 (a : S.Cong) (b : S.Cong) (hp : S.ref20_Within_pre a b) : CallOk c109 67 [.agg [.int .u64 a.M, .int .u64 a.R], .agg [.int .u64 b.M, .int .u64 b.R]] (wr_b (S.ref20_Within a b)) (wo_b (S.ref20_Within a b)) :=
  (call_ok (c := c109) (f := 67) (fn := Try.f67) (code := body67) (args := ([.agg [.int .u64 a.M, .int .u64 a.R], .agg [.int .u64 b.M, .int .u64 b.R]])) (loop := noLoop) (md := ⟨false, false⟩) (rd := rd_b) (wr := wr_b) (wo := wo_b) (r := (S.ref20_Within a b)) c109_ok (by kernel_rfl) (by kernel_rfl) (by kernel_rfl) (no_loops (by kernel_rfl)) (by kernel_rfl) (by kernel_rfl) (by kernel_rfl)
    rw_b np_b no_b (by kernel_rfl) (Eq.mpr (show Vm.Tr.vc (Vm.Fn c109 Try.f67 body67 noLoop ([.agg [.int .u64 a.M, .int .u64 a.R], .agg [.int .u64 b.M, .int .u64 b.R]])) = S.ref20_Within_pre a b by kernel_rfl) hp))

noncomputable def sem67 : List W → Option (W × List (List W) × List Prop)
  | [.agg [.int .u64 y1, .int .u64 y2], .agg [.int .u64 y3, .int .u64 y4]] => some (wr_b (S.ref20_Within (⟨y1, y2⟩ : S.Cong) (⟨y3, y4⟩ : S.Cong)), wo_b (S.ref20_Within (⟨y1, y2⟩ : S.Cong) (⟨y3, y4⟩ : S.Cong)), [S.ref20_Within_pre (⟨y1, y2⟩ : S.Cong) (⟨y3, y4⟩ : S.Cong)])
  | _ => none
noncomputable def c67 : Cfg El := c109.add 67 sem67
theorem c67_ok : CfgOk c67 := c109_ok.add (fun args w => Try.call67 args w) (fun vs r outs ps h hp => by
  unfold sem67 at h
  split at h
  · rename_i y1 y2 y3 y4; cases h; exact fn67 (⟨y1, y2⟩ : S.Cong) (⟨y3, y4⟩ : S.Cong) hp
  · cases h)

noncomputable def body10 : Code := (Try.f10.body).getD .skip
theorem fn10 (m : Int) (n : Int) (a : S.Cong) (b : S.Cong) (hp : S.law20_CongMakes_pre m n a b) : CallOk c67 10 [.int .u64 m, .int .i64 n, .agg [.int .u64 a.M, .int .u64 a.R], .agg [.int .u64 b.M, .int .u64 b.R]] (wr_b (S.law20_CongMakes m n a b)) (wo_b (S.law20_CongMakes m n a b)) :=
  (call_ok (c := c67) (f := 10) (fn := Try.f10) (code := body10) (args := ([.int .u64 m, .int .i64 n, .agg [.int .u64 a.M, .int .u64 a.R], .agg [.int .u64 b.M, .int .u64 b.R]])) (loop := noLoop) (md := ⟨false, false⟩) (rd := rd_b) (wr := wr_b) (wo := wo_b) (r := (S.law20_CongMakes m n a b)) c67_ok (by kernel_rfl) (by kernel_rfl) (by kernel_rfl) (no_loops (by kernel_rfl)) (by kernel_rfl) (by kernel_rfl) (by kernel_rfl)
    rw_b np_b no_b (by kernel_rfl) (Eq.mpr (show Vm.Tr.vc (Vm.Fn c67 Try.f10 body10 noLoop ([.int .u64 m, .int .i64 n, .agg [.int .u64 a.M, .int .u64 a.R], .agg [.int .u64 b.M, .int .u64 b.R]])) = S.law20_CongMakes_pre m n a b by kernel_rfl) hp))

noncomputable def sem10 : List W → Option (W × List (List W) × List Prop)
  | [.int .u64 y1, .int .i64 y2, .agg [.int .u64 y3, .int .u64 y4], .agg [.int .u64 y5, .int .u64 y6]] => some (wr_b (S.law20_CongMakes y1 y2 (⟨y3, y4⟩ : S.Cong) (⟨y5, y6⟩ : S.Cong)), wo_b (S.law20_CongMakes y1 y2 (⟨y3, y4⟩ : S.Cong) (⟨y5, y6⟩ : S.Cong)), [S.law20_CongMakes_pre y1 y2 (⟨y3, y4⟩ : S.Cong) (⟨y5, y6⟩ : S.Cong)])
  | _ => none
noncomputable def c10 : Cfg El := c67.add 10 sem10
theorem c10_ok : CfgOk c10 := c67_ok.add (fun args w => Try.call10 args w) (fun vs r outs ps h hp => by
  unfold sem10 at h
  split at h
  · rename_i y1 y2 y3 y4 y5 y6; cases h; exact fn10 y1 y2 (⟨y3, y4⟩ : S.Cong) (⟨y5, y6⟩ : S.Cong) hp
  · cases h)

noncomputable def body113 : Code := (Try.f113.body).getD .skip
noncomputable def semr113 (n : Nat) : List W → Option (W × List (List W) × List Prop)
  | [.int .u64 y1, .int .u64 y2] => some (wr_u64 (S.ref20_Gcd_F n y1 y2), wo_u64 (S.ref20_Gcd_F n y1 y2), [S.ref20_Gcd_D n y1 y2])
  | _ => none
theorem fns113 (n : Nat) (hc : CfgOk (c10.add 113 (semr113 n))) (a : Int) (b : Int) (hp : S.ref20_Gcd_D (n + 1) a b) : CallOk (c10.add 113 (semr113 n)) 113 [.int .u64 a, .int .u64 b] (wr_u64 (S.ref20_Gcd_F (n + 1) a b)) (wo_u64 (S.ref20_Gcd_F (n + 1) a b)) :=
  (call_ok (c := (c10.add 113 (semr113 n))) (f := 113) (fn := Try.f113) (code := body113) (args := ([.int .u64 a, .int .u64 b])) (loop := noLoop) (md := ⟨false, false⟩) (rd := rd_u64) (wr := wr_u64) (wo := wo_u64) (r := (S.ref20_Gcd_F (n + 1) a b)) hc (by kernel_rfl) (by kernel_rfl) (by kernel_rfl) (no_loops (by kernel_rfl)) (by kernel_rfl) (by kernel_rfl) (by kernel_rfl)
    rw_u64 np_u64 no_u64 (by kernel_rfl) (Eq.mpr (show Vm.Tr.vc (Vm.Fn (c10.add 113 (semr113 n)) Try.f113 body113 noLoop ([.int .u64 a, .int .u64 b])) = S.ref20_Gcd_D (n + 1) a b by kernel_rfl) hp))

theorem fnr113 (n : Nat) : ∀ (a : Int) (b : Int), S.ref20_Gcd_D n a b → CallOk c10 113 [.int .u64 a, .int .u64 b] (wr_u64 (S.ref20_Gcd_F n a b)) (wo_u64 (S.ref20_Gcd_F n a b)) := by
  induction n with
  | zero => intro a b hp; exact False.elim hp
  | succ n ih =>
    intro a b hp
    have hc : CfgOk (c10.add 113 (semr113 n)) := c10_ok.add (fun args w => Try.call113 args w) (fun vs r outs ps h hp => by
      unfold semr113 at h
      split at h
      · cases h; exact ih _ _ hp
      · cases h)
    exact CallOk.same (c := (c10.add 113 (semr113 n))) (c' := c10) rfl rfl rfl (fns113 n hc a b hp)
theorem fn113 (a : Int) (b : Int) (hp : S.ref20_Gcd_pre a b) : CallOk c10 113 [.int .u64 a, .int .u64 b] (wr_u64 (S.ref20_Gcd a b)) (wo_u64 (S.ref20_Gcd a b)) := fnr113 _ a b (Classical.epsilon_spec hp)

noncomputable def sem113 : List W → Option (W × List (List W) × List Prop)
  | [.int .u64 y1, .int .u64 y2] => some (wr_u64 (S.ref20_Gcd y1 y2), wo_u64 (S.ref20_Gcd y1 y2), [S.ref20_Gcd_pre y1 y2])
  | _ => none
noncomputable def c113 : Cfg El := c10.add 113 sem113
theorem c113_ok : CfgOk c113 := c10_ok.add (fun args w => Try.call113 args w) (fun vs r outs ps h hp => by
  unfold sem113 at h
  split at h
  · rename_i y1 y2; cases h; exact fn113 y1 y2 hp
  · cases h)

noncomputable def body69 : Code := (Try.f69.body).getD .skip
theorem fn69 (a : S.Cong) (b : S.Cong) (hp : S.ref20_Meet_pre a b) : CallOk c113 69 [.agg [.int .u64 a.M, .int .u64 a.R], .agg [.int .u64 b.M, .int .u64 b.R]] (wr_S66_b (S.ref20_Meet a b)) (wo_S66_b (S.ref20_Meet a b)) :=
  (call_ok (c := c113) (f := 69) (fn := Try.f69) (code := body69) (args := ([.agg [.int .u64 a.M, .int .u64 a.R], .agg [.int .u64 b.M, .int .u64 b.R]])) (loop := noLoop) (md := ⟨false, false⟩) (rd := rd_S66_b) (wr := wr_S66_b) (wo := wo_S66_b) (r := (S.ref20_Meet a b)) c113_ok (by kernel_rfl) (by kernel_rfl) (by kernel_rfl) (no_loops (by kernel_rfl)) (by kernel_rfl) (by kernel_rfl) (by kernel_rfl)
    rw_S66_b np_S66_b no_S66_b (by kernel_rfl) (Eq.mpr (show Vm.Tr.vc (Vm.Fn c113 Try.f69 body69 noLoop ([.agg [.int .u64 a.M, .int .u64 a.R], .agg [.int .u64 b.M, .int .u64 b.R]])) = S.ref20_Meet_pre a b by kernel_rfl) hp))

noncomputable def sem69 : List W → Option (W × List (List W) × List Prop)
  | [.agg [.int .u64 y1, .int .u64 y2], .agg [.int .u64 y3, .int .u64 y4]] => some (wr_S66_b (S.ref20_Meet (⟨y1, y2⟩ : S.Cong) (⟨y3, y4⟩ : S.Cong)), wo_S66_b (S.ref20_Meet (⟨y1, y2⟩ : S.Cong) (⟨y3, y4⟩ : S.Cong)), [S.ref20_Meet_pre (⟨y1, y2⟩ : S.Cong) (⟨y3, y4⟩ : S.Cong)])
  | _ => none
noncomputable def c69 : Cfg El := c113.add 69 sem69
theorem c69_ok : CfgOk c69 := c113_ok.add (fun args w => Try.call69 args w) (fun vs r outs ps h hp => by
  unfold sem69 at h
  split at h
  · rename_i y1 y2 y3 y4; cases h; exact fn69 (⟨y1, y2⟩ : S.Cong) (⟨y3, y4⟩ : S.Cong) hp
  · cases h)

noncomputable def body72 : Code := (Try.f72.body).getD .skip
theorem fn72 (a : S.Cong) (b : S.Cong) (hp : S.cong_Sub_pre a b) : CallOk c69 72 [.agg [.int .u64 a.M, .int .u64 a.R], .agg [.int .u64 b.M, .int .u64 b.R]] (wr_S66 (S.cong_Sub a b)) (wo_S66 (S.cong_Sub a b)) :=
  (call_ok (c := c69) (f := 72) (fn := Try.f72) (code := body72) (args := ([.agg [.int .u64 a.M, .int .u64 a.R], .agg [.int .u64 b.M, .int .u64 b.R]])) (loop := noLoop) (md := ⟨false, false⟩) (rd := rd_S66) (wr := wr_S66) (wo := wo_S66) (r := (S.cong_Sub a b)) c69_ok (by kernel_rfl) (by kernel_rfl) (by kernel_rfl) (no_loops (by kernel_rfl)) (by kernel_rfl) (by kernel_rfl) (by kernel_rfl)
    rw_S66 np_S66 no_S66 (by kernel_rfl) (Eq.mpr (show Vm.Tr.vc (Vm.Fn c69 Try.f72 body72 noLoop ([.agg [.int .u64 a.M, .int .u64 a.R], .agg [.int .u64 b.M, .int .u64 b.R]])) = S.cong_Sub_pre a b by kernel_rfl) hp))

noncomputable def sem72 : List W → Option (W × List (List W) × List Prop)
  | [.agg [.int .u64 y1, .int .u64 y2], .agg [.int .u64 y3, .int .u64 y4]] => some (wr_S66 (S.cong_Sub (⟨y1, y2⟩ : S.Cong) (⟨y3, y4⟩ : S.Cong)), wo_S66 (S.cong_Sub (⟨y1, y2⟩ : S.Cong) (⟨y3, y4⟩ : S.Cong)), [S.cong_Sub_pre (⟨y1, y2⟩ : S.Cong) (⟨y3, y4⟩ : S.Cong)])
  | _ => none
noncomputable def c72 : Cfg El := c69.add 72 sem72
theorem c72_ok : CfgOk c72 := c69_ok.add (fun args w => Try.call72 args w) (fun vs r outs ps h hp => by
  unfold sem72 at h
  split at h
  · rename_i y1 y2 y3 y4; cases h; exact fn72 (⟨y1, y2⟩ : S.Cong) (⟨y3, y4⟩ : S.Cong) hp
  · cases h)

noncomputable def body119 : Code := (Try.f119.body).getD .skip
theorem fn119 (a : Int) (b : Int) : CallOk c72 119 [.int .u64 a, .int .u64 b] (wr_u64 (S.ref20_far a b)) (wo_u64 (S.ref20_far a b)) :=
  (call_ok (c := c72) (f := 119) (fn := Try.f119) (code := body119) (args := ([.int .u64 a, .int .u64 b])) (loop := noLoop) (md := ⟨false, false⟩) (rd := rd_u64) (wr := wr_u64) (wo := wo_u64) (r := (S.ref20_far a b)) c72_ok (by kernel_rfl) (by kernel_rfl) (by kernel_rfl) (no_loops (by kernel_rfl)) (by kernel_rfl) (by kernel_rfl) (by kernel_rfl)
    rw_u64 np_u64 no_u64 (by kernel_rfl) (Tr.vc_of_noReq (by kernel_rfl)))

noncomputable def sem119 : List W → Option (W × List (List W) × List Prop)
  | [.int .u64 y1, .int .u64 y2] => some (wr_u64 (S.ref20_far y1 y2), wo_u64 (S.ref20_far y1 y2), [])
  | _ => none
noncomputable def c119 : Cfg El := c72.add 119 sem119
theorem c119_ok : CfgOk c119 := c72_ok.add (fun args w => Try.call119 args w) (fun vs r outs ps h hp => by
  unfold sem119 at h
  split at h
  · rename_i y1 y2; cases h; exact fn119 y1 y2
  · cases h)

noncomputable def body75 : Code := (Try.f75.body).getD .skip
theorem fn75 (a : S.Cong) (b : S.Cong) (hp : S.ref20_Join_pre a b) : CallOk c119 75 [.agg [.int .u64 a.M, .int .u64 a.R], .agg [.int .u64 b.M, .int .u64 b.R]] (wr_S66 (S.ref20_Join a b)) (wo_S66 (S.ref20_Join a b)) :=
  (call_ok (c := c119) (f := 75) (fn := Try.f75) (code := body75) (args := ([.agg [.int .u64 a.M, .int .u64 a.R], .agg [.int .u64 b.M, .int .u64 b.R]])) (loop := noLoop) (md := ⟨false, false⟩) (rd := rd_S66) (wr := wr_S66) (wo := wo_S66) (r := (S.ref20_Join a b)) c119_ok (by kernel_rfl) (by kernel_rfl) (by kernel_rfl) (no_loops (by kernel_rfl)) (by kernel_rfl) (by kernel_rfl) (by kernel_rfl)
    rw_S66 np_S66 no_S66 (by kernel_rfl) (Eq.mpr (show Vm.Tr.vc (Vm.Fn c119 Try.f75 body75 noLoop ([.agg [.int .u64 a.M, .int .u64 a.R], .agg [.int .u64 b.M, .int .u64 b.R]])) = S.ref20_Join_pre a b by kernel_rfl) hp))

noncomputable def sem75 : List W → Option (W × List (List W) × List Prop)
  | [.agg [.int .u64 y1, .int .u64 y2], .agg [.int .u64 y3, .int .u64 y4]] => some (wr_S66 (S.ref20_Join (⟨y1, y2⟩ : S.Cong) (⟨y3, y4⟩ : S.Cong)), wo_S66 (S.ref20_Join (⟨y1, y2⟩ : S.Cong) (⟨y3, y4⟩ : S.Cong)), [S.ref20_Join_pre (⟨y1, y2⟩ : S.Cong) (⟨y3, y4⟩ : S.Cong)])
  | _ => none
noncomputable def c75 : Cfg El := c119.add 75 sem75
theorem c75_ok : CfgOk c75 := c119_ok.add (fun args w => Try.call75 args w) (fun vs r outs ps h hp => by
  unfold sem75 at h
  split at h
  · rename_i y1 y2 y3 y4; cases h; exact fn75 (⟨y1, y2⟩ : S.Cong) (⟨y3, y4⟩ : S.Cong) hp
  · cases h)

noncomputable def body120 : Code := (Try.f120.body).getD .skip
theorem fn120 (a : Int) (b : Int) (m : Int) : CallOk c75 120 [.int .u64 a, .int .u64 b, .int .u64 m] (wr_u64 (S.ref20_plus a b m)) (wo_u64 (S.ref20_plus a b m)) :=
  (call_ok (c := c75) (f := 120) (fn := Try.f120) (code := body120) (args := ([.int .u64 a, .int .u64 b, .int .u64 m])) (loop := noLoop) (md := ⟨false, false⟩) (rd := rd_u64) (wr := wr_u64) (wo := wo_u64) (r := (S.ref20_plus a b m)) c75_ok (by kernel_rfl) (by kernel_rfl) (by kernel_rfl) (no_loops (by kernel_rfl)) (by kernel_rfl) (by kernel_rfl) (by kernel_rfl)
    rw_u64 np_u64 no_u64 (by kernel_rfl) (Tr.vc_of_noReq (by kernel_rfl)))

noncomputable def sem120 : List W → Option (W × List (List W) × List Prop)
  | [.int .u64 y1, .int .u64 y2, .int .u64 y3] => some (wr_u64 (S.ref20_plus y1 y2 y3), wo_u64 (S.ref20_plus y1 y2 y3), [])
  | _ => none
noncomputable def c120 : Cfg El := c75.add 120 sem120
theorem c120_ok : CfgOk c120 := c75_ok.add (fun args w => Try.call120 args w) (fun vs r outs ps h hp => by
  unfold sem120 at h
  split at h
  · rename_i y1 y2 y3; cases h; exact fn120 y1 y2 y3
  · cases h)

noncomputable def body76 : Code := (Try.f76.body).getD .skip
theorem fn76 (a : S.Cong) (b : S.Cong) (hp : S.ref20_Add_pre a b) : CallOk c120 76 [.agg [.int .u64 a.M, .int .u64 a.R], .agg [.int .u64 b.M, .int .u64 b.R]] (wr_S66 (S.ref20_Add a b)) (wo_S66 (S.ref20_Add a b)) :=
  (call_ok (c := c120) (f := 76) (fn := Try.f76) (code := body76) (args := ([.agg [.int .u64 a.M, .int .u64 a.R], .agg [.int .u64 b.M, .int .u64 b.R]])) (loop := noLoop) (md := ⟨false, false⟩) (rd := rd_S66) (wr := wr_S66) (wo := wo_S66) (r := (S.ref20_Add a b)) c120_ok (by kernel_rfl) (by kernel_rfl) (by kernel_rfl) (no_loops (by kernel_rfl)) (by kernel_rfl) (by kernel_rfl) (by kernel_rfl)
    rw_S66 np_S66 no_S66 (by kernel_rfl) (Eq.mpr (show Vm.Tr.vc (Vm.Fn c120 Try.f76 body76 noLoop ([.agg [.int .u64 a.M, .int .u64 a.R], .agg [.int .u64 b.M, .int .u64 b.R]])) = S.ref20_Add_pre a b by kernel_rfl) hp))

noncomputable def sem76 : List W → Option (W × List (List W) × List Prop)
  | [.agg [.int .u64 y1, .int .u64 y2], .agg [.int .u64 y3, .int .u64 y4]] => some (wr_S66 (S.ref20_Add (⟨y1, y2⟩ : S.Cong) (⟨y3, y4⟩ : S.Cong)), wo_S66 (S.ref20_Add (⟨y1, y2⟩ : S.Cong) (⟨y3, y4⟩ : S.Cong)), [S.ref20_Add_pre (⟨y1, y2⟩ : S.Cong) (⟨y3, y4⟩ : S.Cong)])
  | _ => none
noncomputable def c76 : Cfg El := c120.add 76 sem76
theorem c76_ok : CfgOk c76 := c120_ok.add (fun args w => Try.call76 args w) (fun vs r outs ps h hp => by
  unfold sem76 at h
  split at h
  · rename_i y1 y2 y3 y4; cases h; exact fn76 (⟨y1, y2⟩ : S.Cong) (⟨y3, y4⟩ : S.Cong) hp
  · cases h)

noncomputable def body121 : Code := (Try.f121.body).getD .skip
theorem fn121 (a : Int) (b : Int) (m : Int) : CallOk c76 121 [.int .u64 a, .int .u64 b, .int .u64 m] (wr_u64 (S.ref20_minus a b m)) (wo_u64 (S.ref20_minus a b m)) :=
  (call_ok (c := c76) (f := 121) (fn := Try.f121) (code := body121) (args := ([.int .u64 a, .int .u64 b, .int .u64 m])) (loop := noLoop) (md := ⟨false, false⟩) (rd := rd_u64) (wr := wr_u64) (wo := wo_u64) (r := (S.ref20_minus a b m)) c76_ok (by kernel_rfl) (by kernel_rfl) (by kernel_rfl) (no_loops (by kernel_rfl)) (by kernel_rfl) (by kernel_rfl) (by kernel_rfl)
    rw_u64 np_u64 no_u64 (by kernel_rfl) (Tr.vc_of_noReq (by kernel_rfl)))

noncomputable def sem121 : List W → Option (W × List (List W) × List Prop)
  | [.int .u64 y1, .int .u64 y2, .int .u64 y3] => some (wr_u64 (S.ref20_minus y1 y2 y3), wo_u64 (S.ref20_minus y1 y2 y3), [])
  | _ => none
noncomputable def c121 : Cfg El := c76.add 121 sem121
theorem c121_ok : CfgOk c121 := c76_ok.add (fun args w => Try.call121 args w) (fun vs r outs ps h hp => by
  unfold sem121 at h
  split at h
  · rename_i y1 y2 y3; cases h; exact fn121 y1 y2 y3
  · cases h)

noncomputable def body77 : Code := (Try.f77.body).getD .skip
theorem fn77 (a : S.Cong) (b : S.Cong) (hp : S.ref20_Sub_pre a b) : CallOk c121 77 [.agg [.int .u64 a.M, .int .u64 a.R], .agg [.int .u64 b.M, .int .u64 b.R]] (wr_S66 (S.ref20_Sub a b)) (wo_S66 (S.ref20_Sub a b)) :=
  (call_ok (c := c121) (f := 77) (fn := Try.f77) (code := body77) (args := ([.agg [.int .u64 a.M, .int .u64 a.R], .agg [.int .u64 b.M, .int .u64 b.R]])) (loop := noLoop) (md := ⟨false, false⟩) (rd := rd_S66) (wr := wr_S66) (wo := wo_S66) (r := (S.ref20_Sub a b)) c121_ok (by kernel_rfl) (by kernel_rfl) (by kernel_rfl) (no_loops (by kernel_rfl)) (by kernel_rfl) (by kernel_rfl) (by kernel_rfl)
    rw_S66 np_S66 no_S66 (by kernel_rfl) (Eq.mpr (show Vm.Tr.vc (Vm.Fn c121 Try.f77 body77 noLoop ([.agg [.int .u64 a.M, .int .u64 a.R], .agg [.int .u64 b.M, .int .u64 b.R]])) = S.ref20_Sub_pre a b by kernel_rfl) hp))

noncomputable def sem77 : List W → Option (W × List (List W) × List Prop)
  | [.agg [.int .u64 y1, .int .u64 y2], .agg [.int .u64 y3, .int .u64 y4]] => some (wr_S66 (S.ref20_Sub (⟨y1, y2⟩ : S.Cong) (⟨y3, y4⟩ : S.Cong)), wo_S66 (S.ref20_Sub (⟨y1, y2⟩ : S.Cong) (⟨y3, y4⟩ : S.Cong)), [S.ref20_Sub_pre (⟨y1, y2⟩ : S.Cong) (⟨y3, y4⟩ : S.Cong)])
  | _ => none
noncomputable def c77 : Cfg El := c121.add 77 sem77
theorem c77_ok : CfgOk c77 := c121_ok.add (fun args w => Try.call77 args w) (fun vs r outs ps h hp => by
  unfold sem77 at h
  split at h
  · rename_i y1 y2 y3 y4; cases h; exact fn77 (⟨y1, y2⟩ : S.Cong) (⟨y3, y4⟩ : S.Cong) hp
  · cases h)

noncomputable def body123 : Code := (Try.f123.body).getD .skip
theorem fn123 (a : Int) (b : Int) (hp : S.ref20_fits_pre a b) : CallOk c77 123 [.int .u64 a, .int .u64 b] (wr_u64_b (S.ref20_fits a b)) (wo_u64_b (S.ref20_fits a b)) :=
  (call_ok (c := c77) (f := 123) (fn := Try.f123) (code := body123) (args := ([.int .u64 a, .int .u64 b])) (loop := noLoop) (md := ⟨false, false⟩) (rd := rd_u64_b) (wr := wr_u64_b) (wo := wo_u64_b) (r := (S.ref20_fits a b)) c77_ok (by kernel_rfl) (by kernel_rfl) (by kernel_rfl) (no_loops (by kernel_rfl)) (by kernel_rfl) (by kernel_rfl) (by kernel_rfl)
    rw_u64_b np_u64_b no_u64_b (by kernel_rfl) (Eq.mpr (show Vm.Tr.vc (Vm.Fn c77 Try.f123 body123 noLoop ([.int .u64 a, .int .u64 b])) = S.ref20_fits_pre a b by kernel_rfl) hp))

noncomputable def sem123 : List W → Option (W × List (List W) × List Prop)
  | [.int .u64 y1, .int .u64 y2] => some (wr_u64_b (S.ref20_fits y1 y2), wo_u64_b (S.ref20_fits y1 y2), [S.ref20_fits_pre y1 y2])
  | _ => none
noncomputable def c123 : Cfg El := c77.add 123 sem123
theorem c123_ok : CfgOk c123 := c77_ok.add (fun args w => Try.call123 args w) (fun vs r outs ps h hp => by
  unfold sem123 at h
  split at h
  · rename_i y1 y2; cases h; exact fn123 y1 y2 hp
  · cases h)

noncomputable def body124 : Code := (Try.f124.body).getD .skip
noncomputable def lb124_0 : Code := ((nth (loopsOf 0 body124) 0).getD (0, .skip)).2
noncomputable def px124_0 : List W → Option S.ref20_times_L0
  | [.int .u64 y1, .int .u64 y2, .int .u64 y3, .int .u64 y4] => some ⟨y1, y2, y3, y4⟩
  | _ => none
noncomputable def tx124_0 (x : S.ref20_times_L0) : List W := [.int .u64 x.a, .int .u64 x.b, .int .u64 x.m, .int .u64 x.out]
noncomputable def py124_0 : Ex → List W → Option (S.ref20_times_L0)
  | .exit 0, [.int .u64 y1, .int .u64 y2, .int .u64 y3, .int .u64 y4] => some ⟨y1, y2, y3, y4⟩
  | _, _ => none
noncomputable def ld124_0 : LD El where
  X := S.ref20_times_L0
  Y := S.ref20_times_L0
  keys := [.slot 0, .slot 1, .slot 2, .slot 7]
  fits := [36, 36, 36, 36]
  px := px124_0
  tx := tx124_0
  okeys := [.slot 0, .slot 1, .slot 2, .slot 7]
  ofits := [36, 36, 36, 36]
  py := py124_0
  ty := fun y => tx124_0 y
  oex := fun _ => .exit 0
  junk := [.slot 8, .slot 9, .slot 10, .slot 11, .slot 12, .slot 13, .slot 14, .slot 15, .slot 16, .slot 17, .slot 18, .slot 19, .slot 20, .slot 21, .slot 22]
  rows := []
noncomputable def lo124_0 : S.ref20_times_L0 → Tr El := fun y => .leaf (.exit 0) (zipK ld124_0.okeys (tx124_0 y) ++ junkK ld124_0.junk)
noncomputable def loop124 : Nat → Env El → Tr El
  | 0 => ld124_0.tree c123 Try.f124.ntmps 0 lb124_0 S.ref20_times_L0_run lo124_0 S.ref20_times_L0_step S.ref20_times_L0_vcs
  | _ => fun _ => .fail
theorem lok124_0 : ∀ w0 S0, LoopOk c123 Try.f124.ntmps w0 S0 loop124 0 lb124_0 :=
  loop_ok (c := c123) (n := Try.f124.ntmps) c123_ok mixed ld124_0 (body := lb124_0) (key := 0) (loop := loop124) (F := S.ref20_times_L0_run) (out := lo124_0) (step := S.ref20_times_L0_step) (vcs := S.ref20_times_L0_vcs)
    (fun _ => by kernel_rfl) (no_loops (by kernel_rfl)) rfl rfl
    (fun vs x h => by unfold ld124_0 px124_0 at h; dsimp only at h; split at h <;> first | (cases h; rfl) | cases h)
    (fun e vs y h => by unfold ld124_0 py124_0 at h; dsimp only at h; split at h <;> first | (cases h; exact ⟨rfl, rfl⟩) | cases h)
    (by kernel_rfl) (fun _ => rfl) (fun _ _ h => h) (fun x => by kernel_rfl) (fun _ _ => Tr.vc_of_noReq (by kernel_rfl))
theorem fn124 (a : Int) (b : Int) (m : Int) (hp : S.ref20_times_pre a b m) : CallOk c123 124 [.int .u64 a, .int .u64 b, .int .u64 m] (wr_u64 (S.ref20_times a b m)) (wo_u64 (S.ref20_times a b m)) :=
  (call_ok (c := c123) (f := 124) (fn := Try.f124) (code := body124) (args := ([.int .u64 a, .int .u64 b, .int .u64 m])) (loop := loop124) (md := ⟨false, false⟩) (rd := rd_u64) (wr := wr_u64) (wo := wo_u64) (r := (S.ref20_times a b m)) c123_ok (by kernel_rfl) (by kernel_rfl) (by kernel_rfl) (loops_all (l := [(0, lb124_0)]) (by kernel_rfl) ⟨lok124_0, trivial⟩) (by kernel_rfl) (by kernel_rfl) (by kernel_rfl)
    rw_u64 np_u64 no_u64 (by kernel_rfl) (Eq.mpr (show Vm.Tr.vc (Vm.Fn c123 Try.f124 body124 loop124 ([.int .u64 a, .int .u64 b, .int .u64 m])) = S.ref20_times_pre a b m by kernel_rfl) hp))

noncomputable def sem124 : List W → Option (W × List (List W) × List Prop)
  | [.int .u64 y1, .int .u64 y2, .int .u64 y3] => some (wr_u64 (S.ref20_times y1 y2 y3), wo_u64 (S.ref20_times y1 y2 y3), [S.ref20_times_pre y1 y2 y3])
  | _ => none
noncomputable def c124 : Cfg El := c123.add 124 sem124
theorem c124_ok : CfgOk c124 := c123_ok.add (fun args w => Try.call124 args w) (fun vs r outs ps h hp => by
  unfold sem124 at h
  split at h
  · rename_i y1 y2 y3; cases h; exact fn124 y1 y2 y3 hp
  · cases h)

noncomputable def body122 : Code := (Try.f122.body).getD .skip
theorem fn122 (c : S.Cong) (n : Int) (hp : S.ref20_scale_pre c n) : CallOk c124 122 [.agg [.int .u64 c.M, .int .u64 c.R], .int .i64 n] (wr_S66 (S.ref20_scale c n)) (wo_S66 (S.ref20_scale c n)) :=
  (call_ok (c := c124) (f := 122) (fn := Try.f122) (code := body122) (args := ([.agg [.int .u64 c.M, .int .u64 c.R], .int .i64 n])) (loop := noLoop) (md := ⟨false, false⟩) (rd := rd_S66) (wr := wr_S66) (wo := wo_S66) (r := (S.ref20_scale c n)) c124_ok (by kernel_rfl) (by kernel_rfl) (by kernel_rfl) (no_loops (by kernel_rfl)) (by kernel_rfl) (by kernel_rfl) (by kernel_rfl)
    rw_S66 np_S66 no_S66 (by kernel_rfl) (Eq.mpr (show Vm.Tr.vc (Vm.Fn c124 Try.f122 body122 noLoop ([.agg [.int .u64 c.M, .int .u64 c.R], .int .i64 n])) = S.ref20_scale_pre c n by kernel_rfl) hp))

noncomputable def sem122 : List W → Option (W × List (List W) × List Prop)
  | [.agg [.int .u64 y1, .int .u64 y2], .int .i64 y3] => some (wr_S66 (S.ref20_scale (⟨y1, y2⟩ : S.Cong) y3), wo_S66 (S.ref20_scale (⟨y1, y2⟩ : S.Cong) y3), [S.ref20_scale_pre (⟨y1, y2⟩ : S.Cong) y3])
  | _ => none
noncomputable def c122 : Cfg El := c124.add 122 sem122
theorem c122_ok : CfgOk c122 := c124_ok.add (fun args w => Try.call122 args w) (fun vs r outs ps h hp => by
  unfold sem122 at h
  split at h
  · rename_i y1 y2 y3; cases h; exact fn122 (⟨y1, y2⟩ : S.Cong) y3 hp
  · cases h)

noncomputable def body78 : Code := (Try.f78.body).getD .skip
theorem fn78 (a : S.Cong) (b : S.Cong) (hp : S.ref20_Mul_pre a b) : CallOk c122 78 [.agg [.int .u64 a.M, .int .u64 a.R], .agg [.int .u64 b.M, .int .u64 b.R]] (wr_S66 (S.ref20_Mul a b)) (wo_S66 (S.ref20_Mul a b)) :=
  (call_ok (c := c122) (f := 78) (fn := Try.f78) (code := body78) (args := ([.agg [.int .u64 a.M, .int .u64 a.R], .agg [.int .u64 b.M, .int .u64 b.R]])) (loop := noLoop) (md := ⟨false, false⟩) (rd := rd_S66) (wr := wr_S66) (wo := wo_S66) (r := (S.ref20_Mul a b)) c122_ok (by kernel_rfl) (by kernel_rfl) (by kernel_rfl) (no_loops (by kernel_rfl)) (by kernel_rfl) (by kernel_rfl) (by kernel_rfl)
    rw_S66 np_S66 no_S66 (by kernel_rfl) (Eq.mpr (show Vm.Tr.vc (Vm.Fn c122 Try.f78 body78 noLoop ([.agg [.int .u64 a.M, .int .u64 a.R], .agg [.int .u64 b.M, .int .u64 b.R]])) = S.ref20_Mul_pre a b by kernel_rfl) hp))

noncomputable def sem78 : List W → Option (W × List (List W) × List Prop)
  | [.agg [.int .u64 y1, .int .u64 y2], .agg [.int .u64 y3, .int .u64 y4]] => some (wr_S66 (S.ref20_Mul (⟨y1, y2⟩ : S.Cong) (⟨y3, y4⟩ : S.Cong)), wo_S66 (S.ref20_Mul (⟨y1, y2⟩ : S.Cong) (⟨y3, y4⟩ : S.Cong)), [S.ref20_Mul_pre (⟨y1, y2⟩ : S.Cong) (⟨y3, y4⟩ : S.Cong)])
  | _ => none
noncomputable def c78 : Cfg El := c122.add 78 sem78
theorem c78_ok : CfgOk c78 := c122_ok.add (fun args w => Try.call78 args w) (fun vs r outs ps h hp => by
  unfold sem78 at h
  split at h
  · rename_i y1 y2 y3 y4; cases h; exact fn78 (⟨y1, y2⟩ : S.Cong) (⟨y3, y4⟩ : S.Cong) hp
  · cases h)

noncomputable def body79 : Code := (Try.f79.body).getD .skip
noncomputable def lb79_0 : Code := ((nth (loopsOf 0 body79) 0).getD (0, .skip)).2
noncomputable def px79_0 : List W → Option S.ref20_Wrapped_L0
  | [.ptr 1 0, .int .u64 y1, .int .u64 y2, .int .u64 y3] => some ⟨y1, ⟨y2, y3⟩⟩
  | _ => none
noncomputable def tx79_0 (x : S.ref20_Wrapped_L0) : List W := [.ptr 1 0, .int .u64 x.p, .int .u64 x.c.M, .int .u64 x.c.R]
noncomputable def py79_0 : Ex → List W → Option (S.ref20_Wrapped_L0)
  | .exit 0, [.ptr 1 0, .int .u64 y1, .int .u64 y2, .int .u64 y3] => some ⟨y1, ⟨y2, y3⟩⟩
  | _, _ => none
noncomputable def ld79_0 : LD El where
  X := S.ref20_Wrapped_L0
  Y := S.ref20_Wrapped_L0
  keys := [.slot 1, .slot 3, .cell 1 0, .cell 1 1]
  fits := [0, 36, 36, 36]
  px := px79_0
  tx := tx79_0
  okeys := [.slot 1, .slot 3, .cell 1 0, .cell 1 1]
  ofits := [0, 36, 36, 36]
  py := py79_0
  ty := fun y => tx79_0 y
  oex := fun _ => .exit 0
  junk := [.slot 8, .slot 9, .slot 10, .slot 11, .slot 12, .slot 13, .slot 14, .slot 15, .slot 16, .slot 17]
  rows := []
noncomputable def lo79_0 : S.ref20_Wrapped_L0 → Tr El := fun y => .leaf (.exit 0) (zipK ld79_0.okeys (tx79_0 y) ++ junkK ld79_0.junk)
noncomputable def loop79 : Nat → Env El → Tr El
  | 0 => ld79_0.tree c78 Try.f79.ntmps 0 lb79_0 S.ref20_Wrapped_L0_run lo79_0 S.ref20_Wrapped_L0_step S.ref20_Wrapped_L0_vcs
  | _ => fun _ => .fail
theorem lok79_0 : ∀ w0 S0, LoopOk c78 Try.f79.ntmps w0 S0 loop79 0 lb79_0 :=
  loop_ok (c := c78) (n := Try.f79.ntmps) c78_ok mixed ld79_0 (body := lb79_0) (key := 0) (loop := loop79) (F := S.ref20_Wrapped_L0_run) (out := lo79_0) (step := S.ref20_Wrapped_L0_step) (vcs := S.ref20_Wrapped_L0_vcs)
    (fun _ => by kernel_rfl) (no_loops (by kernel_rfl)) rfl rfl
    (fun vs x h => by unfold ld79_0 px79_0 at h; dsimp only at h; split at h <;> first | (cases h; rfl) | cases h)
    (fun e vs y h => by unfold ld79_0 py79_0 at h; dsimp only at h; split at h <;> first | (cases h; exact ⟨rfl, rfl⟩) | cases h)
    (by kernel_rfl) (fun _ => rfl) (fun _ _ h => h) (fun x => by kernel_rfl) (fun _ _ => Tr.vc_of_noReq (by kernel_rfl))
theorem fn79 (c : S.Cong) (hp : S.ref20_Wrapped_pre c) : CallOk c78 79 [.agg [.int .u64 c.M, .int .u64 c.R]] (wr_S66 (S.ref20_Wrapped c)) (wo_S66 (S.ref20_Wrapped c)) :=
  (call_ok (c := c78) (f := 79) (fn := Try.f79) (code := body79) (args := ([.agg [.int .u64 c.M, .int .u64 c.R]])) (loop := loop79) (md := ⟨false, false⟩) (rd := rd_S66) (wr := wr_S66) (wo := wo_S66) (r := (S.ref20_Wrapped c)) c78_ok (by kernel_rfl) (by kernel_rfl) (by kernel_rfl) (loops_all (l := [(0, lb79_0)]) (by kernel_rfl) ⟨lok79_0, trivial⟩) (by kernel_rfl) (by kernel_rfl) (by kernel_rfl)
    rw_S66 np_S66 no_S66 (by kernel_rfl) (Eq.mpr (show Vm.Tr.vc (Vm.Fn c78 Try.f79 body79 loop79 ([.agg [.int .u64 c.M, .int .u64 c.R]])) = S.ref20_Wrapped_pre c by kernel_rfl) hp))

noncomputable def sem79 : List W → Option (W × List (List W) × List Prop)
  | [.agg [.int .u64 y1, .int .u64 y2]] => some (wr_S66 (S.ref20_Wrapped (⟨y1, y2⟩ : S.Cong)), wo_S66 (S.ref20_Wrapped (⟨y1, y2⟩ : S.Cong)), [S.ref20_Wrapped_pre (⟨y1, y2⟩ : S.Cong)])
  | _ => none
noncomputable def c79 : Cfg El := c78.add 79 sem79
theorem c79_ok : CfgOk c79 := c78_ok.add (fun args w => Try.call79 args w) (fun vs r outs ps h hp => by
  unfold sem79 at h
  split at h
  · rename_i y1 y2; cases h; exact fn79 (⟨y1, y2⟩ : S.Cong) hp
  · cases h)

noncomputable def body11 : Code := (Try.f11.body).getD .skip
noncomputable def lb11_0 : Code := ((nth (loopsOf 0 body11) 0).getD (0, .skip)).2
noncomputable def px11_0 : List W → Option S.law20_CongOperates_L0
  | [.bool y1, .list 67 false y2, .list 69 false y3, .int .i64 y4] => some ⟨y1, y2, y3, y4⟩
  | _ => none
noncomputable def tx11_0 (x : S.law20_CongOperates_L0) : List W := [.bool x.t4, .list 67 false x.l, .list 69 false x.r, .int .i64 x.i]
noncomputable def py11_0 : Ex → List W → Option (Bool × S.law20_CongOperates_L0)
  | .ret, [.bool y1, .list 67 false y2, .list 69 false y3, .int .i64 y4] => some ⟨true, ⟨y1, y2, y3, y4⟩⟩
  | .exit 0, [.bool y1, .list 67 false y2, .list 69 false y3, .int .i64 y4] => some ⟨false, ⟨y1, y2, y3, y4⟩⟩
  | _, _ => none
noncomputable def ld11_0 : LD El where
  X := S.law20_CongOperates_L0
  Y := Bool × S.law20_CongOperates_L0
  keys := [.slot 4, .slot 11, .slot 12, .slot 13]
  fits := [4, 84, 87, 3]
  px := px11_0
  tx := tx11_0
  okeys := [.slot 4, .slot 11, .slot 12, .slot 13]
  ofits := [4, 84, 87, 3]
  py := py11_0
  ty := fun y => bif y.1 then tx11_0 y.2 else tx11_0 y.2
  oex := fun y => bif y.1 then .ret else .exit 0
  junk := [.slot 71, .slot 72, .slot 73, .slot 74, .slot 75, .slot 76, .slot 77, .slot 78, .slot 79, .slot 80, .slot 81, .slot 82, .slot 83, .slot 84, .slot 85, .slot 86, .slot 87, .slot 88, .slot 89, .slot 90, .slot 91, .slot 92, .slot 93, .slot 94]
  rows := []
noncomputable def lo11_0 : (Bool × S.law20_CongOperates_L0) → Tr El := fun y => .node y.1 (.leaf (.ret) (zipK ld11_0.okeys (tx11_0 y.2) ++ junkK ld11_0.junk)) (.leaf (.exit 0) (zipK ld11_0.okeys (tx11_0 y.2) ++ junkK ld11_0.junk))
noncomputable def loop11 : Nat → Env El → Tr El
  | 0 => ld11_0.tree c79 Try.f11.ntmps 0 lb11_0 S.law20_CongOperates_L0_run lo11_0 S.law20_CongOperates_L0_step S.law20_CongOperates_L0_vcs
  | _ => fun _ => .fail
theorem lok11_0 : ∀ w0 S0, LoopOk c79 Try.f11.ntmps w0 S0 loop11 0 lb11_0 :=
  loop_ok (c := c79) (n := Try.f11.ntmps) c79_ok mixed ld11_0 (body := lb11_0) (key := 0) (loop := loop11) (F := S.law20_CongOperates_L0_run) (out := lo11_0) (step := S.law20_CongOperates_L0_step) (vcs := S.law20_CongOperates_L0_vcs)
    (fun _ => by kernel_rfl) (no_loops (by kernel_rfl)) rfl rfl
    (fun vs x h => by unfold ld11_0 px11_0 at h; dsimp only at h; split at h <;> first | (cases h; rfl) | cases h)
    (fun e vs y h => by unfold ld11_0 py11_0 at h; dsimp only at h; split at h <;> first | (cases h; exact ⟨rfl, rfl⟩) | cases h)
    (by kernel_rfl) (fun | (true, _) => rfl | (false, _) => rfl) (fun | (true, _), _, h => h.1 rfl | (false, _), _, h => h.2 rfl) (fun x => by kernel_rfl) (fun x h => Eq.mpr (show Vm.Tr.vc (Vm.ev c79 Try.f11.ntmps loop11 0 lb11_0 (ld11_0.vars x) []) = S.law20_CongOperates_L0_vcs x by kernel_rfl) h)
theorem fn11 (a : S.Cong) (b : S.Cong) (hp : S.law20_CongOperates_pre a b) : CallOk c79 11 [.agg [.int .u64 a.M, .int .u64 a.R], .agg [.int .u64 b.M, .int .u64 b.R]] (wr_b (S.law20_CongOperates a b)) (wo_b (S.law20_CongOperates a b)) :=
  (call_ok (c := c79) (f := 11) (fn := Try.f11) (code := body11) (args := ([.agg [.int .u64 a.M, .int .u64 a.R], .agg [.int .u64 b.M, .int .u64 b.R]])) (loop := loop11) (md := ⟨false, false⟩) (rd := rd_b) (wr := wr_b) (wo := wo_b) (r := (S.law20_CongOperates a b)) c79_ok (by kernel_rfl) (by kernel_rfl) (by kernel_rfl) (loops_all (l := [(0, lb11_0)]) (by kernel_rfl) ⟨lok11_0, trivial⟩) (by kernel_rfl) (by kernel_rfl) (by kernel_rfl)
    rw_b np_b no_b (by kernel_rfl) (Eq.mpr (show Vm.Tr.vc (Vm.Fn c79 Try.f11 body11 loop11 ([.agg [.int .u64 a.M, .int .u64 a.R], .agg [.int .u64 b.M, .int .u64 b.R]])) = S.law20_CongOperates_pre a b by kernel_rfl) hp))

noncomputable def sem11 : List W → Option (W × List (List W) × List Prop)
  | [.agg [.int .u64 y1, .int .u64 y2], .agg [.int .u64 y3, .int .u64 y4]] => some (wr_b (S.law20_CongOperates (⟨y1, y2⟩ : S.Cong) (⟨y3, y4⟩ : S.Cong)), wo_b (S.law20_CongOperates (⟨y1, y2⟩ : S.Cong) (⟨y3, y4⟩ : S.Cong)), [S.law20_CongOperates_pre (⟨y1, y2⟩ : S.Cong) (⟨y3, y4⟩ : S.Cong)])
  | _ => none
noncomputable def c11 : Cfg El := c79.add 11 sem11
theorem c11_ok : CfgOk c11 := c79_ok.add (fun args w => Try.call11 args w) (fun vs r outs ps h hp => by
  unfold sem11 at h
  split at h
  · rename_i y1 y2 y3 y4; cases h; exact fn11 (⟨y1, y2⟩ : S.Cong) (⟨y3, y4⟩ : S.Cong) hp
  · cases h)

noncomputable def body84 : Code := (Try.f84.body).getD .skip
theorem fn84 (c : S.Cong) (to : Int) (hp : S.cong_Cong_Greatest_pre c to) : CallOk c11 84 [.agg [.int .u64 c.M, .int .u64 c.R], .int .i64 to] (wr_i64_b (S.cong_Cong_Greatest c to)) (wo_i64_b (S.cong_Cong_Greatest c to)) :=
  (call_ok (c := c11) (f := 84) (fn := Try.f84) (code := body84) (args := ([.agg [.int .u64 c.M, .int .u64 c.R], .int .i64 to])) (loop := noLoop) (md := ⟨false, false⟩) (rd := rd_i64_b) (wr := wr_i64_b) (wo := wo_i64_b) (r := (S.cong_Cong_Greatest c to)) c11_ok (by kernel_rfl) (by kernel_rfl) (by kernel_rfl) (no_loops (by kernel_rfl)) (by kernel_rfl) (by kernel_rfl) (by kernel_rfl)
    rw_i64_b np_i64_b no_i64_b (by kernel_rfl) (Eq.mpr (show Vm.Tr.vc (Vm.Fn c11 Try.f84 body84 noLoop ([.agg [.int .u64 c.M, .int .u64 c.R], .int .i64 to])) = S.cong_Cong_Greatest_pre c to by kernel_rfl) hp))

noncomputable def sem84 : List W → Option (W × List (List W) × List Prop)
  | [.agg [.int .u64 y1, .int .u64 y2], .int .i64 y3] => some (wr_i64_b (S.cong_Cong_Greatest (⟨y1, y2⟩ : S.Cong) y3), wo_i64_b (S.cong_Cong_Greatest (⟨y1, y2⟩ : S.Cong) y3), [S.cong_Cong_Greatest_pre (⟨y1, y2⟩ : S.Cong) y3])
  | _ => none
noncomputable def c84 : Cfg El := c11.add 84 sem84
theorem c84_ok : CfgOk c84 := c11_ok.add (fun args w => Try.call84 args w) (fun vs r outs ps h hp => by
  unfold sem84 at h
  split at h
  · rename_i y1 y2 y3; cases h; exact fn84 (⟨y1, y2⟩ : S.Cong) y3 hp
  · cases h)

noncomputable def body80 : Code := (Try.f80.body).getD .skip
theorem fn80 (c : S.Cong) (n : Int) (hp : S.law20_near_pre c n) : CallOk c84 80 [.agg [.int .u64 c.M, .int .u64 c.R], .int .i64 n] (wr_i64 (S.law20_near c n)) (wo_i64 (S.law20_near c n)) :=
  (call_ok (c := c84) (f := 80) (fn := Try.f80) (code := body80) (args := ([.agg [.int .u64 c.M, .int .u64 c.R], .int .i64 n])) (loop := noLoop) (md := ⟨false, false⟩) (rd := rd_i64) (wr := wr_i64) (wo := wo_i64) (r := (S.law20_near c n)) c84_ok (by kernel_rfl) (by kernel_rfl) (by kernel_rfl) (no_loops (by kernel_rfl)) (by kernel_rfl) (by kernel_rfl) (by kernel_rfl)
    rw_i64 np_i64 no_i64 (by kernel_rfl) (Eq.mpr (show Vm.Tr.vc (Vm.Fn c84 Try.f80 body80 noLoop ([.agg [.int .u64 c.M, .int .u64 c.R], .int .i64 n])) = S.law20_near_pre c n by kernel_rfl) hp))

noncomputable def sem80 : List W → Option (W × List (List W) × List Prop)
  | [.agg [.int .u64 y1, .int .u64 y2], .int .i64 y3] => some (wr_i64 (S.law20_near (⟨y1, y2⟩ : S.Cong) y3), wo_i64 (S.law20_near (⟨y1, y2⟩ : S.Cong) y3), [S.law20_near_pre (⟨y1, y2⟩ : S.Cong) y3])
  | _ => none
noncomputable def c80 : Cfg El := c84.add 80 sem80
theorem c80_ok : CfgOk c80 := c84_ok.add (fun args w => Try.call80 args w) (fun vs r outs ps h hp => by
  unfold sem80 at h
  split at h
  · rename_i y1 y2 y3; cases h; exact fn80 (⟨y1, y2⟩ : S.Cong) y3 hp
  · cases h)

noncomputable def rd_b_b_b : W → List (List W) → Option (Bool × Bool × Bool)
  | .tup [.bool x1, .bool x2, .bool x3], [] => some ⟨x1, x2, x3⟩
  | _, _ => none
noncomputable def wr_b_b_b (x : Bool × Bool × Bool) : W := .tup [.bool x.1, .bool x.2.1, .bool x.2.2]
noncomputable def wo_b_b_b (_x : Bool × Bool × Bool) : List (List W) := []
theorem rw_b_b_b (v : W) (os : List (List W)) (x : Bool × Bool × Bool) (h : rd_b_b_b v os = some x) : v = wr_b_b_b x ∧ os = wo_b_b_b x := by
  unfold rd_b_b_b at h
  split at h <;> first | (cases h; exact ⟨rfl, rfl⟩) | cases h
theorem np_b_b_b (x : Bool × Bool × Bool) : okv (fun _ => false) (wr_b_b_b x) = true := rfl
theorem no_b_b_b (x : Bool × Bool × Bool) : all (fun cs => all (ok0 fun _ => false) cs) (wo_b_b_b x) = true := rfl

noncomputable def body82 : Code := (Try.f82.body).getD .skip
theorem fn82 (x : Int) (y : Int) (hp : S.law20_fit_pre x y) : CallOk c80 82 [.int .i64 x, .int .i64 y] (wr_b_b_b (S.law20_fit x y)) (wo_b_b_b (S.law20_fit x y)) :=
  (call_ok (c := c80) (f := 82) (fn := Try.f82) (code := body82) (args := ([.int .i64 x, .int .i64 y])) (loop := noLoop) (md := ⟨false, false⟩) (rd := rd_b_b_b) (wr := wr_b_b_b) (wo := wo_b_b_b) (r := (S.law20_fit x y)) c80_ok (by kernel_rfl) (by kernel_rfl) (by kernel_rfl) (no_loops (by kernel_rfl)) (by kernel_rfl) (by kernel_rfl) (by kernel_rfl)
    rw_b_b_b np_b_b_b no_b_b_b (by kernel_rfl) (Eq.mpr (show Vm.Tr.vc (Vm.Fn c80 Try.f82 body82 noLoop ([.int .i64 x, .int .i64 y])) = S.law20_fit_pre x y by kernel_rfl) hp))

noncomputable def sem82 : List W → Option (W × List (List W) × List Prop)
  | [.int .i64 y1, .int .i64 y2] => some (wr_b_b_b (S.law20_fit y1 y2), wo_b_b_b (S.law20_fit y1 y2), [S.law20_fit_pre y1 y2])
  | _ => none
noncomputable def c82 : Cfg El := c80.add 82 sem82
theorem c82_ok : CfgOk c82 := c80_ok.add (fun args w => Try.call82 args w) (fun vs r outs ps h hp => by
  unfold sem82 at h
  split at h
  · rename_i y1 y2; cases h; exact fn82 y1 y2 hp
  · cases h)

noncomputable def body12 : Code := (Try.f12.body).getD .skip
theorem fn12 (a : S.Cong) (b : S.Cong) (n : Int) (m : Int) (hp : S.law20_CongSound_pre a b n m) : CallOk c82 12 [.agg [.int .u64 a.M, .int .u64 a.R], .agg [.int .u64 b.M, .int .u64 b.R], .int .i64 n, .int .i64 m] (wr_b (S.law20_CongSound a b n m)) (wo_b (S.law20_CongSound a b n m)) :=
  (call_ok (c := c82) (f := 12) (fn := Try.f12) (code := body12) (args := ([.agg [.int .u64 a.M, .int .u64 a.R], .agg [.int .u64 b.M, .int .u64 b.R], .int .i64 n, .int .i64 m])) (loop := noLoop) (md := ⟨false, false⟩) (rd := rd_b) (wr := wr_b) (wo := wo_b) (r := (S.law20_CongSound a b n m)) c82_ok (by kernel_rfl) (by kernel_rfl) (by kernel_rfl) (no_loops (by kernel_rfl)) (by kernel_rfl) (by kernel_rfl) (by kernel_rfl)
    rw_b np_b no_b (by kernel_rfl) (Eq.mpr (show Vm.Tr.vc (Vm.Fn c82 Try.f12 body12 noLoop ([.agg [.int .u64 a.M, .int .u64 a.R], .agg [.int .u64 b.M, .int .u64 b.R], .int .i64 n, .int .i64 m])) = S.law20_CongSound_pre a b n m by kernel_rfl) hp))

noncomputable def sem12 : List W → Option (W × List (List W) × List Prop)
  | [.agg [.int .u64 y1, .int .u64 y2], .agg [.int .u64 y3, .int .u64 y4], .int .i64 y5, .int .i64 y6] => some (wr_b (S.law20_CongSound (⟨y1, y2⟩ : S.Cong) (⟨y3, y4⟩ : S.Cong) y5 y6), wo_b (S.law20_CongSound (⟨y1, y2⟩ : S.Cong) (⟨y3, y4⟩ : S.Cong) y5 y6), [S.law20_CongSound_pre (⟨y1, y2⟩ : S.Cong) (⟨y3, y4⟩ : S.Cong) y5 y6])
  | _ => none
noncomputable def c12 : Cfg El := c82.add 12 sem12
theorem c12_ok : CfgOk c12 := c82_ok.add (fun args w => Try.call12 args w) (fun vs r outs ps h hp => by
  unfold sem12 at h
  split at h
  · rename_i y1 y2 y3 y4 y5 y6; cases h; exact fn12 (⟨y1, y2⟩ : S.Cong) (⟨y3, y4⟩ : S.Cong) y5 y6 hp
  · cases h)

noncomputable def body83 : Code := (Try.f83.body).getD .skip
theorem fn83 (c : S.Cong) (a1 : Int) (hp : S.ref20_Least_pre c a1) : CallOk c12 83 [.agg [.int .u64 c.M, .int .u64 c.R], .int .i64 a1] (wr_i64_b (S.ref20_Least c a1)) (wo_i64_b (S.ref20_Least c a1)) :=
  (call_ok (c := c12) (f := 83) (fn := Try.f83) (code := body83) (args := ([.agg [.int .u64 c.M, .int .u64 c.R], .int .i64 a1])) (loop := noLoop) (md := ⟨false, false⟩) (rd := rd_i64_b) (wr := wr_i64_b) (wo := wo_i64_b) (r := (S.ref20_Least c a1)) c12_ok (by kernel_rfl) (by kernel_rfl) (by kernel_rfl) (no_loops (by kernel_rfl)) (by kernel_rfl) (by kernel_rfl) (by kernel_rfl)
    rw_i64_b np_i64_b no_i64_b (by kernel_rfl) (Eq.mpr (show Vm.Tr.vc (Vm.Fn c12 Try.f83 body83 noLoop ([.agg [.int .u64 c.M, .int .u64 c.R], .int .i64 a1])) = S.ref20_Least_pre c a1 by kernel_rfl) hp))

noncomputable def sem83 : List W → Option (W × List (List W) × List Prop)
  | [.agg [.int .u64 y1, .int .u64 y2], .int .i64 y3] => some (wr_i64_b (S.ref20_Least (⟨y1, y2⟩ : S.Cong) y3), wo_i64_b (S.ref20_Least (⟨y1, y2⟩ : S.Cong) y3), [S.ref20_Least_pre (⟨y1, y2⟩ : S.Cong) y3])
  | _ => none
noncomputable def c83 : Cfg El := c12.add 83 sem83
theorem c83_ok : CfgOk c83 := c12_ok.add (fun args w => Try.call83 args w) (fun vs r outs ps h hp => by
  unfold sem83 at h
  split at h
  · rename_i y1 y2 y3; cases h; exact fn83 (⟨y1, y2⟩ : S.Cong) y3 hp
  · cases h)

noncomputable def body85 : Code := (Try.f85.body).getD .skip
theorem fn85 (c : S.Cong) (to : Int) (hp : S.ref20_Greatest_pre c to) : CallOk c83 85 [.agg [.int .u64 c.M, .int .u64 c.R], .int .i64 to] (wr_i64_b (S.ref20_Greatest c to)) (wo_i64_b (S.ref20_Greatest c to)) :=
  (call_ok (c := c83) (f := 85) (fn := Try.f85) (code := body85) (args := ([.agg [.int .u64 c.M, .int .u64 c.R], .int .i64 to])) (loop := noLoop) (md := ⟨false, false⟩) (rd := rd_i64_b) (wr := wr_i64_b) (wo := wo_i64_b) (r := (S.ref20_Greatest c to)) c83_ok (by kernel_rfl) (by kernel_rfl) (by kernel_rfl) (no_loops (by kernel_rfl)) (by kernel_rfl) (by kernel_rfl) (by kernel_rfl)
    rw_i64_b np_i64_b no_i64_b (by kernel_rfl) (Eq.mpr (show Vm.Tr.vc (Vm.Fn c83 Try.f85 body85 noLoop ([.agg [.int .u64 c.M, .int .u64 c.R], .int .i64 to])) = S.ref20_Greatest_pre c to by kernel_rfl) hp))

noncomputable def sem85 : List W → Option (W × List (List W) × List Prop)
  | [.agg [.int .u64 y1, .int .u64 y2], .int .i64 y3] => some (wr_i64_b (S.ref20_Greatest (⟨y1, y2⟩ : S.Cong) y3), wo_i64_b (S.ref20_Greatest (⟨y1, y2⟩ : S.Cong) y3), [S.ref20_Greatest_pre (⟨y1, y2⟩ : S.Cong) y3])
  | _ => none
noncomputable def c85 : Cfg El := c83.add 85 sem85
theorem c85_ok : CfgOk c85 := c83_ok.add (fun args w => Try.call85 args w) (fun vs r outs ps h hp => by
  unfold sem85 at h
  split at h
  · rename_i y1 y2 y3; cases h; exact fn85 (⟨y1, y2⟩ : S.Cong) y3 hp
  · cases h)

noncomputable def body86 : Code := (Try.f86.body).getD .skip
theorem fn86 (c : S.Cong) (lo : Int) (hi : Int) (hp : S.cong_Cong_Many_pre c lo hi) : CallOk c85 86 [.agg [.int .u64 c.M, .int .u64 c.R], .int .i64 lo, .int .i64 hi] (wr_u64_b (S.cong_Cong_Many c lo hi)) (wo_u64_b (S.cong_Cong_Many c lo hi)) :=
  (call_ok (c := c85) (f := 86) (fn := Try.f86) (code := body86) (args := ([.agg [.int .u64 c.M, .int .u64 c.R], .int .i64 lo, .int .i64 hi])) (loop := noLoop) (md := ⟨false, false⟩) (rd := rd_u64_b) (wr := wr_u64_b) (wo := wo_u64_b) (r := (S.cong_Cong_Many c lo hi)) c85_ok (by kernel_rfl) (by kernel_rfl) (by kernel_rfl) (no_loops (by kernel_rfl)) (by kernel_rfl) (by kernel_rfl) (by kernel_rfl)
    rw_u64_b np_u64_b no_u64_b (by kernel_rfl) (Eq.mpr (show Vm.Tr.vc (Vm.Fn c85 Try.f86 body86 noLoop ([.agg [.int .u64 c.M, .int .u64 c.R], .int .i64 lo, .int .i64 hi])) = S.cong_Cong_Many_pre c lo hi by kernel_rfl) hp))

noncomputable def sem86 : List W → Option (W × List (List W) × List Prop)
  | [.agg [.int .u64 y1, .int .u64 y2], .int .i64 y3, .int .i64 y4] => some (wr_u64_b (S.cong_Cong_Many (⟨y1, y2⟩ : S.Cong) y3 y4), wo_u64_b (S.cong_Cong_Many (⟨y1, y2⟩ : S.Cong) y3 y4), [S.cong_Cong_Many_pre (⟨y1, y2⟩ : S.Cong) y3 y4])
  | _ => none
noncomputable def c86 : Cfg El := c85.add 86 sem86
theorem c86_ok : CfgOk c86 := c85_ok.add (fun args w => Try.call86 args w) (fun vs r outs ps h hp => by
  unfold sem86 at h
  split at h
  · rename_i y1 y2 y3 y4; cases h; exact fn86 (⟨y1, y2⟩ : S.Cong) y3 y4 hp
  · cases h)

noncomputable def body87 : Code := (Try.f87.body).getD .skip
theorem fn87 (c : S.Cong) (lo : Int) (hi : Int) (hp : S.ref20_Many_pre c lo hi) : CallOk c86 87 [.agg [.int .u64 c.M, .int .u64 c.R], .int .i64 lo, .int .i64 hi] (wr_u64_b (S.ref20_Many c lo hi)) (wo_u64_b (S.ref20_Many c lo hi)) :=
  (call_ok (c := c86) (f := 87) (fn := Try.f87) (code := body87) (args := ([.agg [.int .u64 c.M, .int .u64 c.R], .int .i64 lo, .int .i64 hi])) (loop := noLoop) (md := ⟨false, false⟩) (rd := rd_u64_b) (wr := wr_u64_b) (wo := wo_u64_b) (r := (S.ref20_Many c lo hi)) c86_ok (by kernel_rfl) (by kernel_rfl) (by kernel_rfl) (no_loops (by kernel_rfl)) (by kernel_rfl) (by kernel_rfl) (by kernel_rfl)
    rw_u64_b np_u64_b no_u64_b (by kernel_rfl) (Eq.mpr (show Vm.Tr.vc (Vm.Fn c86 Try.f87 body87 noLoop ([.agg [.int .u64 c.M, .int .u64 c.R], .int .i64 lo, .int .i64 hi])) = S.ref20_Many_pre c lo hi by kernel_rfl) hp))

noncomputable def sem87 : List W → Option (W × List (List W) × List Prop)
  | [.agg [.int .u64 y1, .int .u64 y2], .int .i64 y3, .int .i64 y4] => some (wr_u64_b (S.ref20_Many (⟨y1, y2⟩ : S.Cong) y3 y4), wo_u64_b (S.ref20_Many (⟨y1, y2⟩ : S.Cong) y3 y4), [S.ref20_Many_pre (⟨y1, y2⟩ : S.Cong) y3 y4])
  | _ => none
noncomputable def c87 : Cfg El := c86.add 87 sem87
theorem c87_ok : CfgOk c87 := c86_ok.add (fun args w => Try.call87 args w) (fun vs r outs ps h hp => by
  unfold sem87 at h
  split at h
  · rename_i y1 y2 y3 y4; cases h; exact fn87 (⟨y1, y2⟩ : S.Cong) y3 y4 hp
  · cases h)

noncomputable def body13 : Code := (Try.f13.body).getD .skip
theorem fn13 (c : S.Cong) (lo : Int) (hi : Int) (hp : S.law20_CongCounts_pre c lo hi) : CallOk c87 13 [.agg [.int .u64 c.M, .int .u64 c.R], .int .i64 lo, .int .i64 hi] (wr_b (S.law20_CongCounts c lo hi)) (wo_b (S.law20_CongCounts c lo hi)) :=
  (call_ok (c := c87) (f := 13) (fn := Try.f13) (code := body13) (args := ([.agg [.int .u64 c.M, .int .u64 c.R], .int .i64 lo, .int .i64 hi])) (loop := noLoop) (md := ⟨false, false⟩) (rd := rd_b) (wr := wr_b) (wo := wo_b) (r := (S.law20_CongCounts c lo hi)) c87_ok (by kernel_rfl) (by kernel_rfl) (by kernel_rfl) (no_loops (by kernel_rfl)) (by kernel_rfl) (by kernel_rfl) (by kernel_rfl)
    rw_b np_b no_b (by kernel_rfl) (Eq.mpr (show Vm.Tr.vc (Vm.Fn c87 Try.f13 body13 noLoop ([.agg [.int .u64 c.M, .int .u64 c.R], .int .i64 lo, .int .i64 hi])) = S.law20_CongCounts_pre c lo hi by kernel_rfl) hp))

noncomputable def sem13 : List W → Option (W × List (List W) × List Prop)
  | [.agg [.int .u64 y1, .int .u64 y2], .int .i64 y3, .int .i64 y4] => some (wr_b (S.law20_CongCounts (⟨y1, y2⟩ : S.Cong) y3 y4), wo_b (S.law20_CongCounts (⟨y1, y2⟩ : S.Cong) y3 y4), [S.law20_CongCounts_pre (⟨y1, y2⟩ : S.Cong) y3 y4])
  | _ => none
noncomputable def c13 : Cfg El := c87.add 13 sem13
theorem c13_ok : CfgOk c13 := c87_ok.add (fun args w => Try.call13 args w) (fun vs r outs ps h hp => by
  unfold sem13 at h
  split at h
  · rename_i y1 y2 y3 y4; cases h; exact fn13 (⟨y1, y2⟩ : S.Cong) y3 y4 hp
  · cases h)
end Go.Proofs.Ytpnegnhbbcligaa
