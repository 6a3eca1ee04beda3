/-
  Printed by a program for this claim: functions of the code as plain functions, and that the code comes to them. Conditions: those that each theorem states.
-/
import Derived.Test.YtpphpbphgnlmlaaAEnv
set_option linter.all false
namespace Go.Proofs.Ytpphpbphgnlmlaa
open Go Go.Proofs Vm
attribute [local irreducible] Vm.Tr.vc Vm.Tr.out Vm.Fn Vm.Fn.out Vm.ev Vm.loopsOf Vm.Tr.noReq
noncomputable def rd_S23 : W → Option (S.Inter)
  | .agg [.int .i64 x1, .int .i64 x2] => some ⟨x1, x2⟩
  | _ => none
noncomputable def wr_S23 (x : S.Inter) : W := .agg [.int .i64 x.Lo, .int .i64 x.Hi]
theorem rw_S23 (v : W) (x : S.Inter) (h : rd_S23 v = some x) : v = wr_S23 x := by
  unfold rd_S23 at h
  split at h <;> first | (cases h; rfl) | cases h
theorem np_S23 (x : S.Inter) : noPtr (wr_S23 x) = true := rfl

noncomputable def body16 : Code := (Try.f16.body).getD .skip
theorem fn16 (i : S.Inter) : CallOk base 16 [.agg [.int .i64 i.Lo, .int .i64 i.Hi]] (wr_S23 (S.law19_ref i)) :=
  call_ok (c := base) (f := 16) (fn := Try.f16) (code := body16) (args := ([.agg [.int .i64 i.Lo, .int .i64 i.Hi]])) (loop := noLoop) (rd := rd_S23) (wr := wr_S23) (r := (S.law19_ref i)) base_ok (by kernel_rfl) (by kernel_rfl) (by kernel_rfl) (no_loops (by kernel_rfl)) (Nat.le_of_ble_eq_true (by kernel_rfl))
    rw_S23 np_S23 (by kernel_rfl) (Tr.vc_of_noReq (by kernel_rfl))

noncomputable def sem16 : List W → Option (W × List Prop)
  | [.agg [.int .i64 y1, .int .i64 y2]] => some (wr_S23 (S.law19_ref (⟨y1, y2⟩ : S.Inter)), [])
  | _ => none
noncomputable def c16 : Cfg El := base.add 16 sem16
theorem c16_ok : CfgOk c16 := base_ok.add (fun args w => Try.call16 args w) (fun vs r ps h hp => by
  unfold sem16 at h
  split at h
  · rename_i y1 y2; cases h; exact fn16 (⟨y1, y2⟩ : S.Inter)
  · cases h)

noncomputable def body41 : Code := (Try.f41.body).getD .skip
theorem fn41  : CallOk c16 41 [] (wr_S23 (S.inter_Empty)) :=
  call_ok (c := c16) (f := 41) (fn := Try.f41) (code := body41) (args := ([])) (loop := noLoop) (rd := rd_S23) (wr := wr_S23) (r := S.inter_Empty) c16_ok (by kernel_rfl) (by kernel_rfl) (by kernel_rfl) (no_loops (by kernel_rfl)) (Nat.le_of_ble_eq_true (by kernel_rfl))
    rw_S23 np_S23 (by kernel_rfl) (Tr.vc_of_noReq (by kernel_rfl))

noncomputable def sem41 : List W → Option (W × List Prop)
  | [] => some (wr_S23 (S.inter_Empty), [])
  | _ => none
noncomputable def c41 : Cfg El := c16.add 41 sem41
theorem c41_ok : CfgOk c41 := c16_ok.add (fun args w => Try.call41 args w) (fun vs r ps h hp => by
  unfold sem41 at h
  split at h
  · cases h; exact fn41
  · cases h)

noncomputable def body37 : Code := (Try.f37.body).getD .skip
theorem fn37 (lo : Int) (hi : Int) : CallOk c41 37 [.int .i64 lo, .int .i64 hi] (wr_S23 (S.inter_Of lo hi)) :=
  call_ok (c := c41) (f := 37) (fn := Try.f37) (code := body37) (args := ([.int .i64 lo, .int .i64 hi])) (loop := noLoop) (rd := rd_S23) (wr := wr_S23) (r := (S.inter_Of lo hi)) c41_ok (by kernel_rfl) (by kernel_rfl) (by kernel_rfl) (no_loops (by kernel_rfl)) (Nat.le_of_ble_eq_true (by kernel_rfl))
    rw_S23 np_S23 (by kernel_rfl) (Tr.vc_of_noReq (by kernel_rfl))

noncomputable def sem37 : List W → Option (W × List Prop)
  | [.int .i64 y1, .int .i64 y2] => some (wr_S23 (S.inter_Of y1 y2), [])
  | _ => none
noncomputable def c37 : Cfg El := c41.add 37 sem37
theorem c37_ok : CfgOk c37 := c41_ok.add (fun args w => Try.call37 args w) (fun vs r ps h hp => by
  unfold sem37 at h
  split at h
  · rename_i y1 y2; cases h; exact fn37 y1 y2
  · cases h)

noncomputable def body77 : Code := (Try.f77.body).getD .skip
theorem fn77 (i : S.Inter) : CallOk c37 77 [.agg [.int .i64 i.Lo, .int .i64 i.Hi]] (wr_S23 (S.inter_Inter_plain i)) :=
  call_ok (c := c37) (f := 77) (fn := Try.f77) (code := body77) (args := ([.agg [.int .i64 i.Lo, .int .i64 i.Hi]])) (loop := noLoop) (rd := rd_S23) (wr := wr_S23) (r := (S.inter_Inter_plain i)) c37_ok (by kernel_rfl) (by kernel_rfl) (by kernel_rfl) (no_loops (by kernel_rfl)) (Nat.le_of_ble_eq_true (by kernel_rfl))
    rw_S23 np_S23 (by kernel_rfl) (Tr.vc_of_noReq (by kernel_rfl))

noncomputable def sem77 : List W → Option (W × List Prop)
  | [.agg [.int .i64 y1, .int .i64 y2]] => some (wr_S23 (S.inter_Inter_plain (⟨y1, y2⟩ : S.Inter)), [])
  | _ => none
noncomputable def c77 : Cfg El := c37.add 77 sem77
theorem c77_ok : CfgOk c77 := c37_ok.add (fun args w => Try.call77 args w) (fun vs r ps h hp => by
  unfold sem77 at h
  split at h
  · rename_i y1 y2; cases h; exact fn77 (⟨y1, y2⟩ : S.Inter)
  · cases h)

noncomputable def rd_b : W → Option (Bool)
  | .bool x1 => some x1
  | _ => none
noncomputable def wr_b (x : Bool) : W := .bool x
theorem rw_b (v : W) (x : Bool) (h : rd_b v = some x) : v = wr_b x := by
  unfold rd_b at h
  split at h <;> first | (cases h; rfl) | cases h
theorem np_b (x : Bool) : noPtr (wr_b x) = true := rfl

noncomputable def body32 : Code := (Try.f32.body).getD .skip
theorem fn32 (i : S.Inter) : CallOk c77 32 [.agg [.int .i64 i.Lo, .int .i64 i.Hi]] (wr_b (S.inter_Inter_IsEmpty i)) :=
  call_ok (c := c77) (f := 32) (fn := Try.f32) (code := body32) (args := ([.agg [.int .i64 i.Lo, .int .i64 i.Hi]])) (loop := noLoop) (rd := rd_b) (wr := wr_b) (r := (S.inter_Inter_IsEmpty i)) c77_ok (by kernel_rfl) (by kernel_rfl) (by kernel_rfl) (no_loops (by kernel_rfl)) (Nat.le_of_ble_eq_true (by kernel_rfl))
    rw_b np_b (by kernel_rfl) (Tr.vc_of_noReq (by kernel_rfl))

noncomputable def sem32 : List W → Option (W × List Prop)
  | [.agg [.int .i64 y1, .int .i64 y2]] => some (wr_b (S.inter_Inter_IsEmpty (⟨y1, y2⟩ : S.Inter)), [])
  | _ => none
noncomputable def c32 : Cfg El := c77.add 32 sem32
theorem c32_ok : CfgOk c32 := c77_ok.add (fun args w => Try.call32 args w) (fun vs r ps h hp => by
  unfold sem32 at h
  split at h
  · rename_i y1 y2; cases h; exact fn32 (⟨y1, y2⟩ : S.Inter)
  · cases h)

noncomputable def body40 : Code := (Try.f40.body).getD .skip
theorem fn40  : CallOk c32 40 [] (wr_S23 (S.inter_Whole)) :=
  call_ok (c := c32) (f := 40) (fn := Try.f40) (code := body40) (args := ([])) (loop := noLoop) (rd := rd_S23) (wr := wr_S23) (r := S.inter_Whole) c32_ok (by kernel_rfl) (by kernel_rfl) (by kernel_rfl) (no_loops (by kernel_rfl)) (Nat.le_of_ble_eq_true (by kernel_rfl))
    rw_S23 np_S23 (by kernel_rfl) (Tr.vc_of_noReq (by kernel_rfl))

noncomputable def sem40 : List W → Option (W × List Prop)
  | [] => some (wr_S23 (S.inter_Whole), [])
  | _ => none
noncomputable def c40 : Cfg El := c32.add 40 sem40
theorem c40_ok : CfgOk c40 := c32_ok.add (fun args w => Try.call40 args w) (fun vs r ps h hp => by
  unfold sem40 at h
  split at h
  · cases h; exact fn40
  · cases h)

noncomputable def rd_u64_b : W → Option (Int × Bool)
  | .tup [.int .u64 x1, .bool x2] => some ⟨x1, x2⟩
  | _ => none
noncomputable def wr_u64_b (x : Int × Bool) : W := .tup [.int .u64 x.1, .bool x.2]
theorem rw_u64_b (v : W) (x : Int × Bool) (h : rd_u64_b v = some x) : v = wr_u64_b x := by
  unfold rd_u64_b at h
  split at h <;> first | (cases h; rfl) | cases h
theorem np_u64_b (x : Int × Bool) : noPtr (wr_u64_b x) = true := rfl

noncomputable def body27 : Code := (Try.f27.body).getD .skip
theorem fn27 (i : S.Inter) : CallOk c40 27 [.agg [.int .i64 i.Lo, .int .i64 i.Hi]] (wr_u64_b (S.inter_Inter_Size i)) :=
  call_ok (c := c40) (f := 27) (fn := Try.f27) (code := body27) (args := ([.agg [.int .i64 i.Lo, .int .i64 i.Hi]])) (loop := noLoop) (rd := rd_u64_b) (wr := wr_u64_b) (r := (S.inter_Inter_Size i)) c40_ok (by kernel_rfl) (by kernel_rfl) (by kernel_rfl) (no_loops (by kernel_rfl)) (Nat.le_of_ble_eq_true (by kernel_rfl))
    rw_u64_b np_u64_b (by kernel_rfl) (Tr.vc_of_noReq (by kernel_rfl))

noncomputable def sem27 : List W → Option (W × List Prop)
  | [.agg [.int .i64 y1, .int .i64 y2]] => some (wr_u64_b (S.inter_Inter_Size (⟨y1, y2⟩ : S.Inter)), [])
  | _ => none
noncomputable def c27 : Cfg El := c40.add 27 sem27
theorem c27_ok : CfgOk c27 := c40_ok.add (fun args w => Try.call27 args w) (fun vs r ps h hp => by
  unfold sem27 at h
  split at h
  · rename_i y1 y2; cases h; exact fn27 (⟨y1, y2⟩ : S.Inter)
  · cases h)

noncomputable def body33 : Code := (Try.f33.body).getD .skip
theorem fn33 (i : S.Inter) : CallOk c27 33 [.agg [.int .i64 i.Lo, .int .i64 i.Hi]] (wr_b (S.ref19_Empty i)) :=
  call_ok (c := c27) (f := 33) (fn := Try.f33) (code := body33) (args := ([.agg [.int .i64 i.Lo, .int .i64 i.Hi]])) (loop := noLoop) (rd := rd_b) (wr := wr_b) (r := (S.ref19_Empty i)) c27_ok (by kernel_rfl) (by kernel_rfl) (by kernel_rfl) (no_loops (by kernel_rfl)) (Nat.le_of_ble_eq_true (by kernel_rfl))
    rw_b np_b (by kernel_rfl) (Tr.vc_of_noReq (by kernel_rfl))

noncomputable def sem33 : List W → Option (W × List Prop)
  | [.agg [.int .i64 y1, .int .i64 y2]] => some (wr_b (S.ref19_Empty (⟨y1, y2⟩ : S.Inter)), [])
  | _ => none
noncomputable def c33 : Cfg El := c27.add 33 sem33
theorem c33_ok : CfgOk c33 := c27_ok.add (fun args w => Try.call33 args w) (fun vs r ps h hp => by
  unfold sem33 at h
  split at h
  · rename_i y1 y2; cases h; exact fn33 (⟨y1, y2⟩ : S.Inter)
  · cases h)

noncomputable def rd_i64 : W → Option (Int)
  | .int .i64 x1 => some x1
  | _ => none
noncomputable def wr_i64 (x : Int) : W := .int .i64 x
theorem rw_i64 (v : W) (x : Int) (h : rd_i64 v = some x) : v = wr_i64 x := by
  unfold rd_i64 at h
  split at h <;> first | (cases h; rfl) | cases h
theorem np_i64 (x : Int) : noPtr (wr_i64 x) = true := rfl

noncomputable def body13 : Code := (Try.f13.body).getD .skip
theorem fn13  : CallOk c33 13 [] (wr_i64 (S.ref19_Least)) :=
  call_ok (c := c33) (f := 13) (fn := Try.f13) (code := body13) (args := ([])) (loop := noLoop) (rd := rd_i64) (wr := wr_i64) (r := S.ref19_Least) c33_ok (by kernel_rfl) (by kernel_rfl) (by kernel_rfl) (no_loops (by kernel_rfl)) (Nat.le_of_ble_eq_true (by kernel_rfl))
    rw_i64 np_i64 (by kernel_rfl) (Tr.vc_of_noReq (by kernel_rfl))

noncomputable def sem13 : List W → Option (W × List Prop)
  | [] => some (wr_i64 (S.ref19_Least), [])
  | _ => none
noncomputable def c13 : Cfg El := c33.add 13 sem13
theorem c13_ok : CfgOk c13 := c33_ok.add (fun args w => Try.call13 args w) (fun vs r ps h hp => by
  unfold sem13 at h
  split at h
  · cases h; exact fn13
  · cases h)

noncomputable def body14 : Code := (Try.f14.body).getD .skip
theorem fn14  : CallOk c13 14 [] (wr_i64 (S.ref19_Most)) :=
  call_ok (c := c13) (f := 14) (fn := Try.f14) (code := body14) (args := ([])) (loop := noLoop) (rd := rd_i64) (wr := wr_i64) (r := S.ref19_Most) c13_ok (by kernel_rfl) (by kernel_rfl) (by kernel_rfl) (no_loops (by kernel_rfl)) (Nat.le_of_ble_eq_true (by kernel_rfl))
    rw_i64 np_i64 (by kernel_rfl) (Tr.vc_of_noReq (by kernel_rfl))

noncomputable def sem14 : List W → Option (W × List Prop)
  | [] => some (wr_i64 (S.ref19_Most), [])
  | _ => none
noncomputable def c14 : Cfg El := c13.add 14 sem14
theorem c14_ok : CfgOk c14 := c13_ok.add (fun args w => Try.call14 args w) (fun vs r ps h hp => by
  unfold sem14 at h
  split at h
  · cases h; exact fn14
  · cases h)

noncomputable def body28 : Code := (Try.f28.body).getD .skip
theorem fn28 (i : S.Inter) : CallOk c14 28 [.agg [.int .i64 i.Lo, .int .i64 i.Hi]] (wr_u64_b (S.ref19_Size i)) :=
  call_ok (c := c14) (f := 28) (fn := Try.f28) (code := body28) (args := ([.agg [.int .i64 i.Lo, .int .i64 i.Hi]])) (loop := noLoop) (rd := rd_u64_b) (wr := wr_u64_b) (r := (S.ref19_Size i)) c14_ok (by kernel_rfl) (by kernel_rfl) (by kernel_rfl) (no_loops (by kernel_rfl)) (Nat.le_of_ble_eq_true (by kernel_rfl))
    rw_u64_b np_u64_b (by kernel_rfl) (Tr.vc_of_noReq (by kernel_rfl))

noncomputable def sem28 : List W → Option (W × List Prop)
  | [.agg [.int .i64 y1, .int .i64 y2]] => some (wr_u64_b (S.ref19_Size (⟨y1, y2⟩ : S.Inter)), [])
  | _ => none
noncomputable def c28 : Cfg El := c14.add 28 sem28
theorem c28_ok : CfgOk c28 := c14_ok.add (fun args w => Try.call28 args w) (fun vs r ps h hp => by
  unfold sem28 at h
  split at h
  · rename_i y1 y2; cases h; exact fn28 (⟨y1, y2⟩ : S.Inter)
  · cases h)

noncomputable def body39 : Code := (Try.f39.body).getD .skip
theorem fn39 (n : Int) : CallOk c28 39 [.int .i64 n] (wr_S23 (S.inter_One n)) :=
  call_ok (c := c28) (f := 39) (fn := Try.f39) (code := body39) (args := ([.int .i64 n])) (loop := noLoop) (rd := rd_S23) (wr := wr_S23) (r := (S.inter_One n)) c28_ok (by kernel_rfl) (by kernel_rfl) (by kernel_rfl) (no_loops (by kernel_rfl)) (Nat.le_of_ble_eq_true (by kernel_rfl))
    rw_S23 np_S23 (by kernel_rfl) (Tr.vc_of_noReq (by kernel_rfl))

noncomputable def sem39 : List W → Option (W × List Prop)
  | [.int .i64 y1] => some (wr_S23 (S.inter_One y1), [])
  | _ => none
noncomputable def c39 : Cfg El := c28.add 39 sem39
theorem c39_ok : CfgOk c39 := c28_ok.add (fun args w => Try.call39 args w) (fun vs r ps h hp => by
  unfold sem39 at h
  split at h
  · rename_i y1; cases h; exact fn39 y1
  · cases h)

noncomputable def rd_i64_b : W → Option (Int × Bool)
  | .tup [.int .i64 x1, .bool x2] => some ⟨x1, x2⟩
  | _ => none
noncomputable def wr_i64_b (x : Int × Bool) : W := .tup [.int .i64 x.1, .bool x.2]
theorem rw_i64_b (v : W) (x : Int × Bool) (h : rd_i64_b v = some x) : v = wr_i64_b x := by
  unfold rd_i64_b at h
  split at h <;> first | (cases h; rfl) | cases h
theorem np_i64_b (x : Int × Bool) : noPtr (wr_i64_b x) = true := rfl

noncomputable def body29 : Code := (Try.f29.body).getD .skip
theorem fn29 (i : S.Inter) : CallOk c39 29 [.agg [.int .i64 i.Lo, .int .i64 i.Hi]] (wr_i64_b (S.inter_Inter_Single i)) :=
  call_ok (c := c39) (f := 29) (fn := Try.f29) (code := body29) (args := ([.agg [.int .i64 i.Lo, .int .i64 i.Hi]])) (loop := noLoop) (rd := rd_i64_b) (wr := wr_i64_b) (r := (S.inter_Inter_Single i)) c39_ok (by kernel_rfl) (by kernel_rfl) (by kernel_rfl) (no_loops (by kernel_rfl)) (Nat.le_of_ble_eq_true (by kernel_rfl))
    rw_i64_b np_i64_b (by kernel_rfl) (Tr.vc_of_noReq (by kernel_rfl))

noncomputable def sem29 : List W → Option (W × List Prop)
  | [.agg [.int .i64 y1, .int .i64 y2]] => some (wr_i64_b (S.inter_Inter_Single (⟨y1, y2⟩ : S.Inter)), [])
  | _ => none
noncomputable def c29 : Cfg El := c39.add 29 sem29
theorem c29_ok : CfgOk c29 := c39_ok.add (fun args w => Try.call29 args w) (fun vs r ps h hp => by
  unfold sem29 at h
  split at h
  · rename_i y1 y2; cases h; exact fn29 (⟨y1, y2⟩ : S.Inter)
  · cases h)

noncomputable def body30 : Code := (Try.f30.body).getD .skip
theorem fn30 (i : S.Inter) (n : Int) : CallOk c29 30 [.agg [.int .i64 i.Lo, .int .i64 i.Hi], .int .i64 n] (wr_i64_b (S.inter_Inter_Near i n)) :=
  call_ok (c := c29) (f := 30) (fn := Try.f30) (code := body30) (args := ([.agg [.int .i64 i.Lo, .int .i64 i.Hi], .int .i64 n])) (loop := noLoop) (rd := rd_i64_b) (wr := wr_i64_b) (r := (S.inter_Inter_Near i n)) c29_ok (by kernel_rfl) (by kernel_rfl) (by kernel_rfl) (no_loops (by kernel_rfl)) (Nat.le_of_ble_eq_true (by kernel_rfl))
    rw_i64_b np_i64_b (by kernel_rfl) (Tr.vc_of_noReq (by kernel_rfl))

noncomputable def sem30 : List W → Option (W × List Prop)
  | [.agg [.int .i64 y1, .int .i64 y2], .int .i64 y3] => some (wr_i64_b (S.inter_Inter_Near (⟨y1, y2⟩ : S.Inter) y3), [])
  | _ => none
noncomputable def c30 : Cfg El := c29.add 30 sem30
theorem c30_ok : CfgOk c30 := c29_ok.add (fun args w => Try.call30 args w) (fun vs r ps h hp => by
  unfold sem30 at h
  split at h
  · rename_i y1 y2 y3; cases h; exact fn30 (⟨y1, y2⟩ : S.Inter) y3
  · cases h)

noncomputable def body31 : Code := (Try.f31.body).getD .skip
theorem fn31 (i : S.Inter) (n : Int) : CallOk c30 31 [.agg [.int .i64 i.Lo, .int .i64 i.Hi], .int .i64 n] (wr_i64_b (S.ref19_Near i n)) :=
  call_ok (c := c30) (f := 31) (fn := Try.f31) (code := body31) (args := ([.agg [.int .i64 i.Lo, .int .i64 i.Hi], .int .i64 n])) (loop := noLoop) (rd := rd_i64_b) (wr := wr_i64_b) (r := (S.ref19_Near i n)) c30_ok (by kernel_rfl) (by kernel_rfl) (by kernel_rfl) (no_loops (by kernel_rfl)) (Nat.le_of_ble_eq_true (by kernel_rfl))
    rw_i64_b np_i64_b (by kernel_rfl) (Tr.vc_of_noReq (by kernel_rfl))

noncomputable def sem31 : List W → Option (W × List Prop)
  | [.agg [.int .i64 y1, .int .i64 y2], .int .i64 y3] => some (wr_i64_b (S.ref19_Near (⟨y1, y2⟩ : S.Inter) y3), [])
  | _ => none
noncomputable def c31 : Cfg El := c30.add 31 sem31
theorem c31_ok : CfgOk c31 := c30_ok.add (fun args w => Try.call31 args w) (fun vs r ps h hp => by
  unfold sem31 at h
  split at h
  · rename_i y1 y2 y3; cases h; exact fn31 (⟨y1, y2⟩ : S.Inter) y3
  · cases h)

noncomputable def body24 : Code := (Try.f24.body).getD .skip
theorem fn24 (i : S.Inter) (n : Int) : CallOk c31 24 [.agg [.int .i64 i.Lo, .int .i64 i.Hi], .int .i64 n] (wr_b (S.inter_Inter_Has i n)) :=
  call_ok (c := c31) (f := 24) (fn := Try.f24) (code := body24) (args := ([.agg [.int .i64 i.Lo, .int .i64 i.Hi], .int .i64 n])) (loop := noLoop) (rd := rd_b) (wr := wr_b) (r := (S.inter_Inter_Has i n)) c31_ok (by kernel_rfl) (by kernel_rfl) (by kernel_rfl) (no_loops (by kernel_rfl)) (Nat.le_of_ble_eq_true (by kernel_rfl))
    rw_b np_b (by kernel_rfl) (Tr.vc_of_noReq (by kernel_rfl))

noncomputable def sem24 : List W → Option (W × List Prop)
  | [.agg [.int .i64 y1, .int .i64 y2], .int .i64 y3] => some (wr_b (S.inter_Inter_Has (⟨y1, y2⟩ : S.Inter) y3), [])
  | _ => none
noncomputable def c24 : Cfg El := c31.add 24 sem24
theorem c24_ok : CfgOk c24 := c31_ok.add (fun args w => Try.call24 args w) (fun vs r ps h hp => by
  unfold sem24 at h
  split at h
  · rename_i y1 y2 y3; cases h; exact fn24 (⟨y1, y2⟩ : S.Inter) y3
  · cases h)

noncomputable def body34 : Code := (Try.f34.body).getD .skip
theorem fn34 (i : S.Inter) (n : Int) : CallOk c24 34 [.agg [.int .i64 i.Lo, .int .i64 i.Hi], .int .i64 n] (wr_b (S.ref19_Has i n)) :=
  call_ok (c := c24) (f := 34) (fn := Try.f34) (code := body34) (args := ([.agg [.int .i64 i.Lo, .int .i64 i.Hi], .int .i64 n])) (loop := noLoop) (rd := rd_b) (wr := wr_b) (r := (S.ref19_Has i n)) c24_ok (by kernel_rfl) (by kernel_rfl) (by kernel_rfl) (no_loops (by kernel_rfl)) (Nat.le_of_ble_eq_true (by kernel_rfl))
    rw_b np_b (by kernel_rfl) (Tr.vc_of_noReq (by kernel_rfl))

noncomputable def sem34 : List W → Option (W × List Prop)
  | [.agg [.int .i64 y1, .int .i64 y2], .int .i64 y3] => some (wr_b (S.ref19_Has (⟨y1, y2⟩ : S.Inter) y3), [])
  | _ => none
noncomputable def c34 : Cfg El := c24.add 34 sem34
theorem c34_ok : CfgOk c34 := c24_ok.add (fun args w => Try.call34 args w) (fun vs r ps h hp => by
  unfold sem34 at h
  split at h
  · rename_i y1 y2 y3; cases h; exact fn34 (⟨y1, y2⟩ : S.Inter) y3
  · cases h)

noncomputable def body26 : Code := (Try.f26.body).getD .skip
theorem fn26 (a : S.Inter) (b : S.Inter) : CallOk c34 26 [.agg [.int .i64 a.Lo, .int .i64 a.Hi], .agg [.int .i64 b.Lo, .int .i64 b.Hi]] (wr_b (S.inter_Within a b)) :=
  call_ok (c := c34) (f := 26) (fn := Try.f26) (code := body26) (args := ([.agg [.int .i64 a.Lo, .int .i64 a.Hi], .agg [.int .i64 b.Lo, .int .i64 b.Hi]])) (loop := noLoop) (rd := rd_b) (wr := wr_b) (r := (S.inter_Within a b)) c34_ok (by kernel_rfl) (by kernel_rfl) (by kernel_rfl) (no_loops (by kernel_rfl)) (Nat.le_of_ble_eq_true (by kernel_rfl))
    rw_b np_b (by kernel_rfl) (Tr.vc_of_noReq (by kernel_rfl))

noncomputable def sem26 : List W → Option (W × List Prop)
  | [.agg [.int .i64 y1, .int .i64 y2], .agg [.int .i64 y3, .int .i64 y4]] => some (wr_b (S.inter_Within (⟨y1, y2⟩ : S.Inter) (⟨y3, y4⟩ : S.Inter)), [])
  | _ => none
noncomputable def c26 : Cfg El := c34.add 26 sem26
theorem c26_ok : CfgOk c26 := c34_ok.add (fun args w => Try.call26 args w) (fun vs r ps h hp => by
  unfold sem26 at h
  split at h
  · rename_i y1 y2 y3 y4; cases h; exact fn26 (⟨y1, y2⟩ : S.Inter) (⟨y3, y4⟩ : S.Inter)
  · cases h)

noncomputable def body35 : Code := (Try.f35.body).getD .skip
theorem fn35 (a : S.Inter) (b : S.Inter) : CallOk c26 35 [.agg [.int .i64 a.Lo, .int .i64 a.Hi], .agg [.int .i64 b.Lo, .int .i64 b.Hi]] (wr_b (S.ref19_Within a b)) :=
  call_ok (c := c26) (f := 35) (fn := Try.f35) (code := body35) (args := ([.agg [.int .i64 a.Lo, .int .i64 a.Hi], .agg [.int .i64 b.Lo, .int .i64 b.Hi]])) (loop := noLoop) (rd := rd_b) (wr := wr_b) (r := (S.ref19_Within a b)) c26_ok (by kernel_rfl) (by kernel_rfl) (by kernel_rfl) (no_loops (by kernel_rfl)) (Nat.le_of_ble_eq_true (by kernel_rfl))
    rw_b np_b (by kernel_rfl) (Tr.vc_of_noReq (by kernel_rfl))

noncomputable def sem35 : List W → Option (W × List Prop)
  | [.agg [.int .i64 y1, .int .i64 y2], .agg [.int .i64 y3, .int .i64 y4]] => some (wr_b (S.ref19_Within (⟨y1, y2⟩ : S.Inter) (⟨y3, y4⟩ : S.Inter)), [])
  | _ => none
noncomputable def c35 : Cfg El := c26.add 35 sem35
theorem c35_ok : CfgOk c35 := c26_ok.add (fun args w => Try.call35 args w) (fun vs r ps h hp => by
  unfold sem35 at h
  split at h
  · rename_i y1 y2 y3 y4; cases h; exact fn35 (⟨y1, y2⟩ : S.Inter) (⟨y3, y4⟩ : S.Inter)
  · cases h)

noncomputable def body25 : Code := (Try.f25.body).getD .skip
theorem fn25 (a : S.Inter) (b : S.Inter) : CallOk c35 25 [.agg [.int .i64 a.Lo, .int .i64 a.Hi], .agg [.int .i64 b.Lo, .int .i64 b.Hi]] (wr_b (S.inter_Same a b)) :=
  call_ok (c := c35) (f := 25) (fn := Try.f25) (code := body25) (args := ([.agg [.int .i64 a.Lo, .int .i64 a.Hi], .agg [.int .i64 b.Lo, .int .i64 b.Hi]])) (loop := noLoop) (rd := rd_b) (wr := wr_b) (r := (S.inter_Same a b)) c35_ok (by kernel_rfl) (by kernel_rfl) (by kernel_rfl) (no_loops (by kernel_rfl)) (Nat.le_of_ble_eq_true (by kernel_rfl))
    rw_b np_b (by kernel_rfl) (Tr.vc_of_noReq (by kernel_rfl))

noncomputable def sem25 : List W → Option (W × List Prop)
  | [.agg [.int .i64 y1, .int .i64 y2], .agg [.int .i64 y3, .int .i64 y4]] => some (wr_b (S.inter_Same (⟨y1, y2⟩ : S.Inter) (⟨y3, y4⟩ : S.Inter)), [])
  | _ => none
noncomputable def c25 : Cfg El := c35.add 25 sem25
theorem c25_ok : CfgOk c25 := c35_ok.add (fun args w => Try.call25 args w) (fun vs r ps h hp => by
  unfold sem25 at h
  split at h
  · rename_i y1 y2 y3 y4; cases h; exact fn25 (⟨y1, y2⟩ : S.Inter) (⟨y3, y4⟩ : S.Inter)
  · cases h)

noncomputable def body38 : Code := (Try.f38.body).getD .skip
theorem fn38 (i : S.Inter) : CallOk c25 38 [.agg [.int .i64 i.Lo, .int .i64 i.Hi]] (wr_S23 (S.ref19_Plain i)) :=
  call_ok (c := c25) (f := 38) (fn := Try.f38) (code := body38) (args := ([.agg [.int .i64 i.Lo, .int .i64 i.Hi]])) (loop := noLoop) (rd := rd_S23) (wr := wr_S23) (r := (S.ref19_Plain i)) c25_ok (by kernel_rfl) (by kernel_rfl) (by kernel_rfl) (no_loops (by kernel_rfl)) (Nat.le_of_ble_eq_true (by kernel_rfl))
    rw_S23 np_S23 (by kernel_rfl) (Tr.vc_of_noReq (by kernel_rfl))

noncomputable def sem38 : List W → Option (W × List Prop)
  | [.agg [.int .i64 y1, .int .i64 y2]] => some (wr_S23 (S.ref19_Plain (⟨y1, y2⟩ : S.Inter)), [])
  | _ => none
noncomputable def c38 : Cfg El := c25.add 38 sem38
theorem c38_ok : CfgOk c38 := c25_ok.add (fun args w => Try.call38 args w) (fun vs r ps h hp => by
  unfold sem38 at h
  split at h
  · rename_i y1 y2; cases h; exact fn38 (⟨y1, y2⟩ : S.Inter)
  · cases h)

noncomputable def body36 : Code := (Try.f36.body).getD .skip
theorem fn36 (a : S.Inter) (b : S.Inter) : CallOk c38 36 [.agg [.int .i64 a.Lo, .int .i64 a.Hi], .agg [.int .i64 b.Lo, .int .i64 b.Hi]] (wr_b (S.ref19_Same a b)) :=
  call_ok (c := c38) (f := 36) (fn := Try.f36) (code := body36) (args := ([.agg [.int .i64 a.Lo, .int .i64 a.Hi], .agg [.int .i64 b.Lo, .int .i64 b.Hi]])) (loop := noLoop) (rd := rd_b) (wr := wr_b) (r := (S.ref19_Same a b)) c38_ok (by kernel_rfl) (by kernel_rfl) (by kernel_rfl) (no_loops (by kernel_rfl)) (Nat.le_of_ble_eq_true (by kernel_rfl))
    rw_b np_b (by kernel_rfl) (Tr.vc_of_noReq (by kernel_rfl))

noncomputable def sem36 : List W → Option (W × List Prop)
  | [.agg [.int .i64 y1, .int .i64 y2], .agg [.int .i64 y3, .int .i64 y4]] => some (wr_b (S.ref19_Same (⟨y1, y2⟩ : S.Inter) (⟨y3, y4⟩ : S.Inter)), [])
  | _ => none
noncomputable def c36 : Cfg El := c38.add 36 sem36
theorem c36_ok : CfgOk c36 := c38_ok.add (fun args w => Try.call36 args w) (fun vs r ps h hp => by
  unfold sem36 at h
  split at h
  · rename_i y1 y2 y3 y4; cases h; exact fn36 (⟨y1, y2⟩ : S.Inter) (⟨y3, y4⟩ : S.Inter)
  · cases h)

noncomputable def body75 : Code := (Try.f75.body).getD .skip
theorem fn75 (a : S.Inter) (b : S.Inter) : CallOk c36 75 [.agg [.int .i64 a.Lo, .int .i64 a.Hi], .agg [.int .i64 b.Lo, .int .i64 b.Hi]] (wr_S23 (S.inter_Join_1 a b)) :=
  call_ok (c := c36) (f := 75) (fn := Try.f75) (code := body75) (args := ([.agg [.int .i64 a.Lo, .int .i64 a.Hi], .agg [.int .i64 b.Lo, .int .i64 b.Hi]])) (loop := noLoop) (rd := rd_S23) (wr := wr_S23) (r := (S.inter_Join_1 a b)) c36_ok (by kernel_rfl) (by kernel_rfl) (by kernel_rfl) (no_loops (by kernel_rfl)) (Nat.le_of_ble_eq_true (by kernel_rfl))
    rw_S23 np_S23 (by kernel_rfl) (Tr.vc_of_noReq (by kernel_rfl))

noncomputable def sem75 : List W → Option (W × List Prop)
  | [.agg [.int .i64 y1, .int .i64 y2], .agg [.int .i64 y3, .int .i64 y4]] => some (wr_S23 (S.inter_Join_1 (⟨y1, y2⟩ : S.Inter) (⟨y3, y4⟩ : S.Inter)), [])
  | _ => none
noncomputable def c75 : Cfg El := c36.add 75 sem75
theorem c75_ok : CfgOk c75 := c36_ok.add (fun args w => Try.call75 args w) (fun vs r ps h hp => by
  unfold sem75 at h
  split at h
  · rename_i y1 y2 y3 y4; cases h; exact fn75 (⟨y1, y2⟩ : S.Inter) (⟨y3, y4⟩ : S.Inter)
  · cases h)

noncomputable def body76 : Code := (Try.f76.body).getD .skip
theorem fn76 (a : S.Inter) (b : S.Inter) : CallOk c75 76 [.agg [.int .i64 a.Lo, .int .i64 a.Hi], .agg [.int .i64 b.Lo, .int .i64 b.Hi]] (wr_S23 (S.inter_Meet_1 a b)) :=
  call_ok (c := c75) (f := 76) (fn := Try.f76) (code := body76) (args := ([.agg [.int .i64 a.Lo, .int .i64 a.Hi], .agg [.int .i64 b.Lo, .int .i64 b.Hi]])) (loop := noLoop) (rd := rd_S23) (wr := wr_S23) (r := (S.inter_Meet_1 a b)) c75_ok (by kernel_rfl) (by kernel_rfl) (by kernel_rfl) (no_loops (by kernel_rfl)) (Nat.le_of_ble_eq_true (by kernel_rfl))
    rw_S23 np_S23 (by kernel_rfl) (Tr.vc_of_noReq (by kernel_rfl))

noncomputable def sem76 : List W → Option (W × List Prop)
  | [.agg [.int .i64 y1, .int .i64 y2], .agg [.int .i64 y3, .int .i64 y4]] => some (wr_S23 (S.inter_Meet_1 (⟨y1, y2⟩ : S.Inter) (⟨y3, y4⟩ : S.Inter)), [])
  | _ => none
noncomputable def c76 : Cfg El := c75.add 76 sem76
theorem c76_ok : CfgOk c76 := c75_ok.add (fun args w => Try.call76 args w) (fun vs r ps h hp => by
  unfold sem76 at h
  split at h
  · rename_i y1 y2 y3 y4; cases h; exact fn76 (⟨y1, y2⟩ : S.Inter) (⟨y3, y4⟩ : S.Inter)
  · cases h)

noncomputable def body74 : Code := (Try.f74.body).getD .skip
noncomputable def lb74_75_0 : Code := ((nth (loopsOf 0 body74) 0).getD (0, .skip)).2
noncomputable def px74_75_0 : List W → Option S.inter_fold_75_L0
  | [.fn 75, .ptr 3 0, .list 24 false y1, .int .i64 y2, .int .i64 y3, .int .i64 y4, .int .i64 y5] => some ⟨y1, y2, y3, ⟨y4, y5⟩⟩
  | _ => none
noncomputable def tx74_75_0 (x : S.inter_fold_75_L0) : List W := [.fn 75, .ptr 3 0, .list 24 false x.t9, .int .i64 x.t10, .int .i64 x.t11, .int .i64 x.first.Lo, .int .i64 x.first.Hi]
noncomputable def py74_75_0 : Ex → List W → Option (S.inter_fold_75_L0)
  | .exit 0, [.fn 75, .ptr 3 0, .list 24 false y1, .int .i64 y2, .int .i64 y3, .int .i64 y4, .int .i64 y5] => some ⟨y1, y2, y3, ⟨y4, y5⟩⟩
  | _, _ => none
noncomputable def ld74_75_0 : LD El where
  X := S.inter_fold_75_L0
  Y := S.inter_fold_75_L0
  keys := [.slot 2, .slot 3, .slot 9, .slot 10, .slot 11, .cell 3 0, .cell 3 1]
  px := px74_75_0
  tx := tx74_75_0
  okeys := [.slot 2, .slot 3, .slot 9, .slot 10, .slot 11, .cell 3 0, .cell 3 1]
  py := py74_75_0
  ty := fun y => tx74_75_0 y
  oex := fun _ => .exit 0
  junk := [.slot 8, .slot 12, .slot 13, .slot 14, .slot 15, .slot 16, .slot 17, .slot 18, .slot 19]
noncomputable def lo74_75_0 : S.inter_fold_75_L0 → Tr El := fun y => .leaf (.exit 0) (zipK ld74_75_0.okeys (tx74_75_0 y) ++ junkK ld74_75_0.junk)
noncomputable def loop74_75 : Nat → Env El → Tr El
  | 0 => ld74_75_0.tree lb74_75_0 S.inter_fold_75_L0_run lo74_75_0 S.inter_fold_75_L0_step S.inter_fold_75_L0_vcs
  | _ => fun _ => .fail
theorem lok74_75_0 : ∀ w0 S0, LoopOk c76 Try.f74.ntmps w0 S0 loop74_75 0 lb74_75_0 :=
  loop_ok (c := c76) (n := Try.f74.ntmps) c76_ok mixed ld74_75_0 (body := lb74_75_0) (key := 0) (loop := loop74_75) (F := S.inter_fold_75_L0_run) (out := lo74_75_0) (step := S.inter_fold_75_L0_step) (vcs := S.inter_fold_75_L0_vcs)
    (fun _ => by kernel_rfl) (no_loops (by kernel_rfl))
    (fun vs x h => by unfold ld74_75_0 px74_75_0 at h; dsimp only at h; split at h <;> first | (cases h; rfl) | cases h)
    (fun e vs y h => by unfold ld74_75_0 py74_75_0 at h; dsimp only at h; split at h <;> first | (cases h; exact ⟨rfl, rfl⟩) | cases h)
    (by kernel_rfl) (fun _ _ h => h) (fun x => by kernel_rfl) (fun x h => Eq.mpr (show Vm.Tr.vc (Vm.ev c76 Try.f74.ntmps loop74_75 0 lb74_75_0 (ld74_75_0.vars x) []) = S.inter_fold_75_L0_vcs x by kernel_rfl) h)


theorem fn74_75 (first : S.Inter) (l : (List S.Inter)) (hp : S.inter_fold_75_pre first l) : CallOk c76 74 [.agg [.int .i64 first.Lo, .int .i64 first.Hi], .list 24 false l, .fn 75] (wr_S23 (S.inter_fold_75 first l)) :=
  call_ok (c := c76) (f := 74) (fn := Try.f74) (code := body74) (args := ([.agg [.int .i64 first.Lo, .int .i64 first.Hi], .list 24 false l, .fn 75])) (loop := loop74_75) (rd := rd_S23) (wr := wr_S23) (r := (S.inter_fold_75 first l)) c76_ok (by kernel_rfl) (by kernel_rfl) (by kernel_rfl) (loops_all (l := [(0, lb74_75_0)]) (by kernel_rfl) ⟨lok74_75_0, trivial⟩) (Nat.le_of_ble_eq_true (by kernel_rfl))
    rw_S23 np_S23 (by kernel_rfl) (Eq.mpr (show Vm.Tr.vc (Vm.Fn c76 Try.f74 body74 loop74_75 ([.agg [.int .i64 first.Lo, .int .i64 first.Hi], .list 24 false l, .fn 75])) = S.inter_fold_75_pre first l by kernel_rfl) hp)

noncomputable def lb74_76_0 : Code := ((nth (loopsOf 0 body74) 0).getD (0, .skip)).2
noncomputable def px74_76_0 : List W → Option S.inter_fold_76_L0
  | [.fn 76, .ptr 3 0, .list 24 false y1, .int .i64 y2, .int .i64 y3, .int .i64 y4, .int .i64 y5] => some ⟨y1, y2, y3, ⟨y4, y5⟩⟩
  | _ => none
noncomputable def tx74_76_0 (x : S.inter_fold_76_L0) : List W := [.fn 76, .ptr 3 0, .list 24 false x.t9, .int .i64 x.t10, .int .i64 x.t11, .int .i64 x.first.Lo, .int .i64 x.first.Hi]
noncomputable def py74_76_0 : Ex → List W → Option (S.inter_fold_76_L0)
  | .exit 0, [.fn 76, .ptr 3 0, .list 24 false y1, .int .i64 y2, .int .i64 y3, .int .i64 y4, .int .i64 y5] => some ⟨y1, y2, y3, ⟨y4, y5⟩⟩
  | _, _ => none
noncomputable def ld74_76_0 : LD El where
  X := S.inter_fold_76_L0
  Y := S.inter_fold_76_L0
  keys := [.slot 2, .slot 3, .slot 9, .slot 10, .slot 11, .cell 3 0, .cell 3 1]
  px := px74_76_0
  tx := tx74_76_0
  okeys := [.slot 2, .slot 3, .slot 9, .slot 10, .slot 11, .cell 3 0, .cell 3 1]
  py := py74_76_0
  ty := fun y => tx74_76_0 y
  oex := fun _ => .exit 0
  junk := [.slot 8, .slot 12, .slot 13, .slot 14, .slot 15, .slot 16, .slot 17, .slot 18, .slot 19]
noncomputable def lo74_76_0 : S.inter_fold_76_L0 → Tr El := fun y => .leaf (.exit 0) (zipK ld74_76_0.okeys (tx74_76_0 y) ++ junkK ld74_76_0.junk)
noncomputable def loop74_76 : Nat → Env El → Tr El
  | 0 => ld74_76_0.tree lb74_76_0 S.inter_fold_76_L0_run lo74_76_0 S.inter_fold_76_L0_step S.inter_fold_76_L0_vcs
  | _ => fun _ => .fail
theorem lok74_76_0 : ∀ w0 S0, LoopOk c76 Try.f74.ntmps w0 S0 loop74_76 0 lb74_76_0 :=
  loop_ok (c := c76) (n := Try.f74.ntmps) c76_ok mixed ld74_76_0 (body := lb74_76_0) (key := 0) (loop := loop74_76) (F := S.inter_fold_76_L0_run) (out := lo74_76_0) (step := S.inter_fold_76_L0_step) (vcs := S.inter_fold_76_L0_vcs)
    (fun _ => by kernel_rfl) (no_loops (by kernel_rfl))
    (fun vs x h => by unfold ld74_76_0 px74_76_0 at h; dsimp only at h; split at h <;> first | (cases h; rfl) | cases h)
    (fun e vs y h => by unfold ld74_76_0 py74_76_0 at h; dsimp only at h; split at h <;> first | (cases h; exact ⟨rfl, rfl⟩) | cases h)
    (by kernel_rfl) (fun _ _ h => h) (fun x => by kernel_rfl) (fun x h => Eq.mpr (show Vm.Tr.vc (Vm.ev c76 Try.f74.ntmps loop74_76 0 lb74_76_0 (ld74_76_0.vars x) []) = S.inter_fold_76_L0_vcs x by kernel_rfl) h)


theorem fn74_76 (first : S.Inter) (l : (List S.Inter)) (hp : S.inter_fold_76_pre first l) : CallOk c76 74 [.agg [.int .i64 first.Lo, .int .i64 first.Hi], .list 24 false l, .fn 76] (wr_S23 (S.inter_fold_76 first l)) :=
  call_ok (c := c76) (f := 74) (fn := Try.f74) (code := body74) (args := ([.agg [.int .i64 first.Lo, .int .i64 first.Hi], .list 24 false l, .fn 76])) (loop := loop74_76) (rd := rd_S23) (wr := wr_S23) (r := (S.inter_fold_76 first l)) c76_ok (by kernel_rfl) (by kernel_rfl) (by kernel_rfl) (loops_all (l := [(0, lb74_76_0)]) (by kernel_rfl) ⟨lok74_76_0, trivial⟩) (Nat.le_of_ble_eq_true (by kernel_rfl))
    rw_S23 np_S23 (by kernel_rfl) (Eq.mpr (show Vm.Tr.vc (Vm.Fn c76 Try.f74 body74 loop74_76 ([.agg [.int .i64 first.Lo, .int .i64 first.Hi], .list 24 false l, .fn 76])) = S.inter_fold_76_pre first l by kernel_rfl) hp)

noncomputable def sem74 : List W → Option (W × List Prop)
  | [.agg [.int .i64 y1, .int .i64 y2], .list 24 false y3, .fn 75] => some (wr_S23 (S.inter_fold_75 (⟨y1, y2⟩ : S.Inter) y3), [S.inter_fold_75_pre (⟨y1, y2⟩ : S.Inter) y3])
  | [.agg [.int .i64 y1, .int .i64 y2], .list 24 false y3, .fn 76] => some (wr_S23 (S.inter_fold_76 (⟨y1, y2⟩ : S.Inter) y3), [S.inter_fold_76_pre (⟨y1, y2⟩ : S.Inter) y3])
  | _ => none
noncomputable def c74 : Cfg El := c76.add 74 sem74
theorem c74_ok : CfgOk c74 := c76_ok.add (fun args w => Try.call74 args w) (fun vs r ps h hp => by
  unfold sem74 at h
  split at h
  · rename_i y1 y2 y3; cases h; exact fn74_75 (⟨y1, y2⟩ : S.Inter) y3 hp
  · rename_i y1 y2 y3; cases h; exact fn74_76 (⟨y1, y2⟩ : S.Inter) y3 hp
  · cases h)

noncomputable def body18 : Code := (Try.f18.body).getD .skip
theorem fn18 (l : (List S.Inter)) (hp : S.inter_Join_pre l) : CallOk c74 18 [.list 24 false l] (wr_S23 (S.inter_Join l)) :=
  call_ok (c := c74) (f := 18) (fn := Try.f18) (code := body18) (args := ([.list 24 false l])) (loop := noLoop) (rd := rd_S23) (wr := wr_S23) (r := (S.inter_Join l)) c74_ok (by kernel_rfl) (by kernel_rfl) (by kernel_rfl) (no_loops (by kernel_rfl)) (Nat.le_of_ble_eq_true (by kernel_rfl))
    rw_S23 np_S23 (by kernel_rfl) (Eq.mpr (show Vm.Tr.vc (Vm.Fn c74 Try.f18 body18 noLoop ([.list 24 false l])) = S.inter_Join_pre l by kernel_rfl) hp)

noncomputable def sem18 : List W → Option (W × List Prop)
  | [.list 24 false y1] => some (wr_S23 (S.inter_Join y1), [S.inter_Join_pre y1])
  | _ => none
noncomputable def c18 : Cfg El := c74.add 18 sem18
theorem c18_ok : CfgOk c18 := c74_ok.add (fun args w => Try.call18 args w) (fun vs r ps h hp => by
  unfold sem18 at h
  split at h
  · rename_i y1; cases h; exact fn18 y1 hp
  · cases h)

noncomputable def body19 : Code := (Try.f19.body).getD .skip
theorem fn19 (l : (List S.Inter)) (hp : S.inter_Meet_pre l) : CallOk c18 19 [.list 24 false l] (wr_S23 (S.inter_Meet l)) :=
  call_ok (c := c18) (f := 19) (fn := Try.f19) (code := body19) (args := ([.list 24 false l])) (loop := noLoop) (rd := rd_S23) (wr := wr_S23) (r := (S.inter_Meet l)) c18_ok (by kernel_rfl) (by kernel_rfl) (by kernel_rfl) (no_loops (by kernel_rfl)) (Nat.le_of_ble_eq_true (by kernel_rfl))
    rw_S23 np_S23 (by kernel_rfl) (Eq.mpr (show Vm.Tr.vc (Vm.Fn c18 Try.f19 body19 noLoop ([.list 24 false l])) = S.inter_Meet_pre l by kernel_rfl) hp)

noncomputable def sem19 : List W → Option (W × List Prop)
  | [.list 24 false y1] => some (wr_S23 (S.inter_Meet y1), [S.inter_Meet_pre y1])
  | _ => none
noncomputable def c19 : Cfg El := c18.add 19 sem19
theorem c19_ok : CfgOk c19 := c18_ok.add (fun args w => Try.call19 args w) (fun vs r ps h hp => by
  unfold sem19 at h
  split at h
  · rename_i y1; cases h; exact fn19 y1 hp
  · cases h)

noncomputable def body20 : Code := (Try.f20.body).getD .skip
theorem fn20 (a : S.Inter) (b : S.Inter) (hp : S.inter_Widen_pre a b) : CallOk c19 20 [.agg [.int .i64 a.Lo, .int .i64 a.Hi], .agg [.int .i64 b.Lo, .int .i64 b.Hi]] (wr_S23 (S.inter_Widen a b)) :=
  call_ok (c := c19) (f := 20) (fn := Try.f20) (code := body20) (args := ([.agg [.int .i64 a.Lo, .int .i64 a.Hi], .agg [.int .i64 b.Lo, .int .i64 b.Hi]])) (loop := noLoop) (rd := rd_S23) (wr := wr_S23) (r := (S.inter_Widen a b)) c19_ok (by kernel_rfl) (by kernel_rfl) (by kernel_rfl) (no_loops (by kernel_rfl)) (Nat.le_of_ble_eq_true (by kernel_rfl))
    rw_S23 np_S23 (by kernel_rfl) (Eq.mpr (show Vm.Tr.vc (Vm.Fn c19 Try.f20 body20 noLoop ([.agg [.int .i64 a.Lo, .int .i64 a.Hi], .agg [.int .i64 b.Lo, .int .i64 b.Hi]])) = S.inter_Widen_pre a b by kernel_rfl) hp)

noncomputable def sem20 : List W → Option (W × List Prop)
  | [.agg [.int .i64 y1, .int .i64 y2], .agg [.int .i64 y3, .int .i64 y4]] => some (wr_S23 (S.inter_Widen (⟨y1, y2⟩ : S.Inter) (⟨y3, y4⟩ : S.Inter)), [S.inter_Widen_pre (⟨y1, y2⟩ : S.Inter) (⟨y3, y4⟩ : S.Inter)])
  | _ => none
noncomputable def c20 : Cfg El := c19.add 20 sem20
theorem c20_ok : CfgOk c20 := c19_ok.add (fun args w => Try.call20 args w) (fun vs r ps h hp => by
  unfold sem20 at h
  split at h
  · rename_i y1 y2 y3 y4; cases h; exact fn20 (⟨y1, y2⟩ : S.Inter) (⟨y3, y4⟩ : S.Inter) hp
  · cases h)

noncomputable def body22 : Code := (Try.f22.body).getD .skip
theorem fn22 (a : S.Inter) (b : S.Inter) : CallOk c20 22 [.agg [.int .i64 a.Lo, .int .i64 a.Hi], .agg [.int .i64 b.Lo, .int .i64 b.Hi]] (wr_S23 (S.inter_Narrow a b)) :=
  call_ok (c := c20) (f := 22) (fn := Try.f22) (code := body22) (args := ([.agg [.int .i64 a.Lo, .int .i64 a.Hi], .agg [.int .i64 b.Lo, .int .i64 b.Hi]])) (loop := noLoop) (rd := rd_S23) (wr := wr_S23) (r := (S.inter_Narrow a b)) c20_ok (by kernel_rfl) (by kernel_rfl) (by kernel_rfl) (no_loops (by kernel_rfl)) (Nat.le_of_ble_eq_true (by kernel_rfl))
    rw_S23 np_S23 (by kernel_rfl) (Tr.vc_of_noReq (by kernel_rfl))

noncomputable def sem22 : List W → Option (W × List Prop)
  | [.agg [.int .i64 y1, .int .i64 y2], .agg [.int .i64 y3, .int .i64 y4]] => some (wr_S23 (S.inter_Narrow (⟨y1, y2⟩ : S.Inter) (⟨y3, y4⟩ : S.Inter)), [])
  | _ => none
noncomputable def c22 : Cfg El := c20.add 22 sem22
theorem c22_ok : CfgOk c22 := c20_ok.add (fun args w => Try.call22 args w) (fun vs r ps h hp => by
  unfold sem22 at h
  split at h
  · rename_i y1 y2 y3 y4; cases h; exact fn22 (⟨y1, y2⟩ : S.Inter) (⟨y3, y4⟩ : S.Inter)
  · cases h)

noncomputable def body12 : Code := (Try.f12.body).getD .skip
theorem fn12  (hp : S.law19_works_pre) : CallOk c22 12 [] (wr_b (S.law19_works)) :=
  call_ok (c := c22) (f := 12) (fn := Try.f12) (code := body12) (args := ([])) (loop := noLoop) (rd := rd_b) (wr := wr_b) (r := S.law19_works) c22_ok (by kernel_rfl) (by kernel_rfl) (by kernel_rfl) (no_loops (by kernel_rfl)) (Nat.le_of_ble_eq_true (by kernel_rfl))
    rw_b np_b (by kernel_rfl) (Eq.mpr (show Vm.Tr.vc (Vm.Fn c22 Try.f12 body12 noLoop ([])) = S.law19_works_pre by kernel_rfl) hp)

noncomputable def sem12 : List W → Option (W × List Prop)
  | [] => some (wr_b (S.law19_works), [S.law19_works_pre])
  | _ => none
noncomputable def c12 : Cfg El := c22.add 12 sem12
theorem c12_ok : CfgOk c12 := c22_ok.add (fun args w => Try.call12 args w) (fun vs r ps h hp => by
  unfold sem12 at h
  split at h
  · cases h; exact fn12 hp
  · cases h)

noncomputable def body15 : Code := (Try.f15.body).getD .skip
theorem fn15 (a : S.Inter) (b : S.Inter) : CallOk c12 15 [.agg [.int .i64 a.Lo, .int .i64 a.Hi], .agg [.int .i64 b.Lo, .int .i64 b.Hi]] (wr_S23 (S.ref19_Join a b)) :=
  call_ok (c := c12) (f := 15) (fn := Try.f15) (code := body15) (args := ([.agg [.int .i64 a.Lo, .int .i64 a.Hi], .agg [.int .i64 b.Lo, .int .i64 b.Hi]])) (loop := noLoop) (rd := rd_S23) (wr := wr_S23) (r := (S.ref19_Join a b)) c12_ok (by kernel_rfl) (by kernel_rfl) (by kernel_rfl) (no_loops (by kernel_rfl)) (Nat.le_of_ble_eq_true (by kernel_rfl))
    rw_S23 np_S23 (by kernel_rfl) (Tr.vc_of_noReq (by kernel_rfl))

noncomputable def sem15 : List W → Option (W × List Prop)
  | [.agg [.int .i64 y1, .int .i64 y2], .agg [.int .i64 y3, .int .i64 y4]] => some (wr_S23 (S.ref19_Join (⟨y1, y2⟩ : S.Inter) (⟨y3, y4⟩ : S.Inter)), [])
  | _ => none
noncomputable def c15 : Cfg El := c12.add 15 sem15
theorem c15_ok : CfgOk c15 := c12_ok.add (fun args w => Try.call15 args w) (fun vs r ps h hp => by
  unfold sem15 at h
  split at h
  · rename_i y1 y2 y3 y4; cases h; exact fn15 (⟨y1, y2⟩ : S.Inter) (⟨y3, y4⟩ : S.Inter)
  · cases h)

noncomputable def body17 : Code := (Try.f17.body).getD .skip
theorem fn17 (a : S.Inter) (b : S.Inter) : CallOk c15 17 [.agg [.int .i64 a.Lo, .int .i64 a.Hi], .agg [.int .i64 b.Lo, .int .i64 b.Hi]] (wr_S23 (S.ref19_Meet a b)) :=
  call_ok (c := c15) (f := 17) (fn := Try.f17) (code := body17) (args := ([.agg [.int .i64 a.Lo, .int .i64 a.Hi], .agg [.int .i64 b.Lo, .int .i64 b.Hi]])) (loop := noLoop) (rd := rd_S23) (wr := wr_S23) (r := (S.ref19_Meet a b)) c15_ok (by kernel_rfl) (by kernel_rfl) (by kernel_rfl) (no_loops (by kernel_rfl)) (Nat.le_of_ble_eq_true (by kernel_rfl))
    rw_S23 np_S23 (by kernel_rfl) (Tr.vc_of_noReq (by kernel_rfl))

noncomputable def sem17 : List W → Option (W × List Prop)
  | [.agg [.int .i64 y1, .int .i64 y2], .agg [.int .i64 y3, .int .i64 y4]] => some (wr_S23 (S.ref19_Meet (⟨y1, y2⟩ : S.Inter) (⟨y3, y4⟩ : S.Inter)), [])
  | _ => none
noncomputable def c17 : Cfg El := c15.add 17 sem17
theorem c17_ok : CfgOk c17 := c15_ok.add (fun args w => Try.call17 args w) (fun vs r ps h hp => by
  unfold sem17 at h
  split at h
  · rename_i y1 y2 y3 y4; cases h; exact fn17 (⟨y1, y2⟩ : S.Inter) (⟨y3, y4⟩ : S.Inter)
  · cases h)

noncomputable def body21 : Code := (Try.f21.body).getD .skip
theorem fn21 (a : S.Inter) (b : S.Inter) : CallOk c17 21 [.agg [.int .i64 a.Lo, .int .i64 a.Hi], .agg [.int .i64 b.Lo, .int .i64 b.Hi]] (wr_S23 (S.ref19_Widen a b)) :=
  call_ok (c := c17) (f := 21) (fn := Try.f21) (code := body21) (args := ([.agg [.int .i64 a.Lo, .int .i64 a.Hi], .agg [.int .i64 b.Lo, .int .i64 b.Hi]])) (loop := noLoop) (rd := rd_S23) (wr := wr_S23) (r := (S.ref19_Widen a b)) c17_ok (by kernel_rfl) (by kernel_rfl) (by kernel_rfl) (no_loops (by kernel_rfl)) (Nat.le_of_ble_eq_true (by kernel_rfl))
    rw_S23 np_S23 (by kernel_rfl) (Tr.vc_of_noReq (by kernel_rfl))

noncomputable def sem21 : List W → Option (W × List Prop)
  | [.agg [.int .i64 y1, .int .i64 y2], .agg [.int .i64 y3, .int .i64 y4]] => some (wr_S23 (S.ref19_Widen (⟨y1, y2⟩ : S.Inter) (⟨y3, y4⟩ : S.Inter)), [])
  | _ => none
noncomputable def c21 : Cfg El := c17.add 21 sem21
theorem c21_ok : CfgOk c21 := c17_ok.add (fun args w => Try.call21 args w) (fun vs r ps h hp => by
  unfold sem21 at h
  split at h
  · rename_i y1 y2 y3 y4; cases h; exact fn21 (⟨y1, y2⟩ : S.Inter) (⟨y3, y4⟩ : S.Inter)
  · cases h)

noncomputable def body23 : Code := (Try.f23.body).getD .skip
theorem fn23 (a : S.Inter) (b : S.Inter) : CallOk c21 23 [.agg [.int .i64 a.Lo, .int .i64 a.Hi], .agg [.int .i64 b.Lo, .int .i64 b.Hi]] (wr_S23 (S.ref19_Narrow a b)) :=
  call_ok (c := c21) (f := 23) (fn := Try.f23) (code := body23) (args := ([.agg [.int .i64 a.Lo, .int .i64 a.Hi], .agg [.int .i64 b.Lo, .int .i64 b.Hi]])) (loop := noLoop) (rd := rd_S23) (wr := wr_S23) (r := (S.ref19_Narrow a b)) c21_ok (by kernel_rfl) (by kernel_rfl) (by kernel_rfl) (no_loops (by kernel_rfl)) (Nat.le_of_ble_eq_true (by kernel_rfl))
    rw_S23 np_S23 (by kernel_rfl) (Tr.vc_of_noReq (by kernel_rfl))

noncomputable def sem23 : List W → Option (W × List Prop)
  | [.agg [.int .i64 y1, .int .i64 y2], .agg [.int .i64 y3, .int .i64 y4]] => some (wr_S23 (S.ref19_Narrow (⟨y1, y2⟩ : S.Inter) (⟨y3, y4⟩ : S.Inter)), [])
  | _ => none
noncomputable def c23 : Cfg El := c21.add 23 sem23
theorem c23_ok : CfgOk c23 := c21_ok.add (fun args w => Try.call23 args w) (fun vs r ps h hp => by
  unfold sem23 at h
  split at h
  · rename_i y1 y2 y3 y4; cases h; exact fn23 (⟨y1, y2⟩ : S.Inter) (⟨y3, y4⟩ : S.Inter)
  · cases h)
end Go.Proofs.Ytpphpbphgnlmlaa
