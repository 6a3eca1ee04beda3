/-
  Printed by a program for this claim: functions of the code as plain functions, and that the code comes to them. Conditions: those that each theorem states.
-/
import Derived.Test.YtcgafjhkefcdfaaGreatDoorQKSem1
set_option linter.all false
namespace Go.Proofs.YtcgafjhkefcdfaaGreatDoor
open Go Go.Proofs Vm
attribute [local irreducible] Vm.Tr.vc Vm.Tr.out Vm.Fn Vm.Fn.out Vm.ev Vm.loopsOf Vm.Tr.noReq
noncomputable def body11 : Code := (Tryz.f11.body).getD .skip
theorem fn11 (op : Int) (a : S.Value) (b : S.Value) (hp : S.ref22_Do_pre op a b) : CallOk c54 11 [.int .i64 op, .agg [.int .i64 a.I.Lo, .int .i64 a.I.Hi, .int .u64 a.C.M, .int .u64 a.C.R], .agg [.int .i64 b.I.Lo, .int .i64 b.I.Hi, .int .u64 b.C.M, .int .u64 b.C.R]] (wr_S31 (S.ref22_Do op a b)) (wo_S31 (S.ref22_Do op a b)) :=
 (call_ok (fn := Tryz.f11) (code := body11) (loop := noLoop) (md := ⟨false, false⟩) (rd := rd_S31) (wr := wr_S31) (wo := wo_S31) c54_ok (by kernel_rfl) (by kernel_rfl) (by kernel_rfl) (no_loops (by kernel_rfl)) (by kernel_rfl) (by kernel_rfl) (by kernel_rfl)
  rw_S31 np_S31 no_S31 (by kernel_rfl) (Eq.mpr (show Vm.Tr.vc (Vm.Fn c54 Tryz.f11 body11 noLoop ([.int .i64 op, .agg [.int .i64 a.I.Lo, .int .i64 a.I.Hi, .int .u64 a.C.M, .int .u64 a.C.R], .agg [.int .i64 b.I.Lo, .int .i64 b.I.Hi, .int .u64 b.C.M, .int .u64 b.C.R]])) = S.ref22_Do_pre op a b by kernel_rfl) hp))
noncomputable def sem11 : List W → Option (W × List (List W) × List Prop)
 | [.int .i64 y1, .agg [.int .i64 y2, .int .i64 y3, .int .u64 y4, .int .u64 y5], .agg [.int .i64 y6, .int .i64 y7, .int .u64 y8, .int .u64 y9]] => some (wr_S31 (S.ref22_Do y1 ⟨⟨y2, y3⟩, ⟨y4, y5⟩⟩ ⟨⟨y6, y7⟩, ⟨y8, y9⟩⟩), wo_S31 (S.ref22_Do y1 ⟨⟨y2, y3⟩, ⟨y4, y5⟩⟩ ⟨⟨y6, y7⟩, ⟨y8, y9⟩⟩), [S.ref22_Do_pre y1 ⟨⟨y2, y3⟩, ⟨y4, y5⟩⟩ ⟨⟨y6, y7⟩, ⟨y8, y9⟩⟩])
 | _ => none
noncomputable def c11 : Cfg El := c54.add 11 sem11
theorem c11_ok : CfgOk c11 := c54_ok.add (fun args w => Tryz.call11 args w) (fun vs r outs ps h hp => by
 unfold sem11 at h
 split at h
 ·rename_i y1 y2 y3 y4 y5 y6 y7 y8 y9; cases h; exact fn11 y1 ⟨⟨y2, y3⟩, ⟨y4, y5⟩⟩ ⟨⟨y6, y7⟩, ⟨y8, y9⟩⟩ hp
 ·cases h)
noncomputable def body12 : Code := (Tryz.f12.body).getD .skip
theorem fn12 (a : S.Value) (hp : S.ref22_Neg_pre a) : CallOk c11 12 [.agg [.int .i64 a.I.Lo, .int .i64 a.I.Hi, .int .u64 a.C.M, .int .u64 a.C.R]] (wr_S31 (S.ref22_Neg a)) (wo_S31 (S.ref22_Neg a)) :=
 (call_ok (fn := Tryz.f12) (code := body12) (loop := noLoop) (md := ⟨false, false⟩) (rd := rd_S31) (wr := wr_S31) (wo := wo_S31) c11_ok (by kernel_rfl) (by kernel_rfl) (by kernel_rfl) (no_loops (by kernel_rfl)) (by kernel_rfl) (by kernel_rfl) (by kernel_rfl)
  rw_S31 np_S31 no_S31 (by kernel_rfl) (Eq.mpr (show Vm.Tr.vc (Vm.Fn c11 Tryz.f12 body12 noLoop ([.agg [.int .i64 a.I.Lo, .int .i64 a.I.Hi, .int .u64 a.C.M, .int .u64 a.C.R]])) = S.ref22_Neg_pre a by kernel_rfl) hp))
noncomputable def sem12 : List W → Option (W × List (List W) × List Prop)
 | [.agg [.int .i64 y1, .int .i64 y2, .int .u64 y3, .int .u64 y4]] => some (wr_S31 (S.ref22_Neg ⟨⟨y1, y2⟩, ⟨y3, y4⟩⟩), wo_S31 (S.ref22_Neg ⟨⟨y1, y2⟩, ⟨y3, y4⟩⟩), [S.ref22_Neg_pre ⟨⟨y1, y2⟩, ⟨y3, y4⟩⟩])
 | _ => none
noncomputable def c12 : Cfg El := c11.add 12 sem12
theorem c12_ok : CfgOk c12 := c11_ok.add (fun args w => Tryz.call12 args w) (fun vs r outs ps h hp => by
 unfold sem12 at h
 split at h
 ·rename_i y1 y2 y3 y4; cases h; exact fn12 ⟨⟨y1, y2⟩, ⟨y3, y4⟩⟩ hp
 ·cases h)
noncomputable def body55 : Code := (Tryz.f55.body).getD .skip
theorem fn55 (a : (Int × Int)) (b : (Int × Int)) : CallOk c12 55 [.agg [.int .u64 a.1, .int .u64 a.2], .agg [.int .u64 b.1, .int .u64 b.2]] (wr_b (S.arith_one a b)) (wo_b (S.arith_one a b)) :=
 (call_ok (fn := Tryz.f55) (code := body55) (loop := noLoop) (md := ⟨false, false⟩) (rd := rd_b) (wr := wr_b) (wo := wo_b) c12_ok (by kernel_rfl) (by kernel_rfl) (by kernel_rfl) (no_loops (by kernel_rfl)) (by kernel_rfl) (by kernel_rfl) (by kernel_rfl)
  rw_b np_b no_b (by kernel_rfl) (Tr.vc_of_noReq (by kernel_rfl)))
noncomputable def sem55 : List W → Option (W × List (List W) × List Prop)
 | [.agg [.int .u64 y1, .int .u64 y2], .agg [.int .u64 y3, .int .u64 y4]] => some (wr_b (S.arith_one (y1, y2) (y3, y4)), wo_b (S.arith_one (y1, y2) (y3, y4)), [])
 | _ => none
noncomputable def c55 : Cfg El := c12.add 55 sem55
theorem c55_ok : CfgOk c55 := c12_ok.add (fun args w => Tryz.call55 args w) (fun vs r outs ps h hp => by
 unfold sem55 at h
 split at h
 ·rename_i y1 y2 y3 y4; cases h; exact fn55 (y1, y2) (y3, y4)
 ·cases h)
noncomputable def body13 : Code := (Tryz.f13.body).getD .skip
theorem fn13 (op : Int) (a : S.Value) (b : S.Value) (hp : S.arith_Wraps_pre op a b) : CallOk c55 13 [.int .i64 op, .agg [.int .i64 a.I.Lo, .int .i64 a.I.Hi, .int .u64 a.C.M, .int .u64 a.C.R], .agg [.int .i64 b.I.Lo, .int .i64 b.I.Hi, .int .u64 b.C.M, .int .u64 b.C.R]] (wr_b (S.arith_Wraps op a b)) (wo_b (S.arith_Wraps op a b)) :=
 (call_ok (fn := Tryz.f13) (code := body13) (loop := noLoop) (md := ⟨false, false⟩) (rd := rd_b) (wr := wr_b) (wo := wo_b) c55_ok (by kernel_rfl) (by kernel_rfl) (by kernel_rfl) (no_loops (by kernel_rfl)) (by kernel_rfl) (by kernel_rfl) (by kernel_rfl)
  rw_b np_b no_b (by kernel_rfl) (Eq.mpr (show Vm.Tr.vc (Vm.Fn c55 Tryz.f13 body13 noLoop ([.int .i64 op, .agg [.int .i64 a.I.Lo, .int .i64 a.I.Hi, .int .u64 a.C.M, .int .u64 a.C.R], .agg [.int .i64 b.I.Lo, .int .i64 b.I.Hi, .int .u64 b.C.M, .int .u64 b.C.R]])) = S.arith_Wraps_pre op a b by kernel_rfl) hp))
noncomputable def sem13 : List W → Option (W × List (List W) × List Prop)
 | [.int .i64 y1, .agg [.int .i64 y2, .int .i64 y3, .int .u64 y4, .int .u64 y5], .agg [.int .i64 y6, .int .i64 y7, .int .u64 y8, .int .u64 y9]] => some (wr_b (S.arith_Wraps y1 ⟨⟨y2, y3⟩, ⟨y4, y5⟩⟩ ⟨⟨y6, y7⟩, ⟨y8, y9⟩⟩), wo_b (S.arith_Wraps y1 ⟨⟨y2, y3⟩, ⟨y4, y5⟩⟩ ⟨⟨y6, y7⟩, ⟨y8, y9⟩⟩), [S.arith_Wraps_pre y1 ⟨⟨y2, y3⟩, ⟨y4, y5⟩⟩ ⟨⟨y6, y7⟩, ⟨y8, y9⟩⟩])
 | _ => none
noncomputable def c13 : Cfg El := c55.add 13 sem13
theorem c13_ok : CfgOk c13 := c55_ok.add (fun args w => Tryz.call13 args w) (fun vs r outs ps h hp => by
 unfold sem13 at h
 split at h
 ·rename_i y1 y2 y3 y4 y5 y6 y7 y8 y9; cases h; exact fn13 y1 ⟨⟨y2, y3⟩, ⟨y4, y5⟩⟩ ⟨⟨y6, y7⟩, ⟨y8, y9⟩⟩ hp
 ·cases h)
noncomputable def body14 : Code := (Tryz.f14.body).getD .skip
theorem fn14 (op : Int) (a : S.Value) (b : S.Value) (hp : S.ref22_Wraps_pre op a b) : CallOk c13 14 [.int .i64 op, .agg [.int .i64 a.I.Lo, .int .i64 a.I.Hi, .int .u64 a.C.M, .int .u64 a.C.R], .agg [.int .i64 b.I.Lo, .int .i64 b.I.Hi, .int .u64 b.C.M, .int .u64 b.C.R]] (wr_b (S.ref22_Wraps op a b)) (wo_b (S.ref22_Wraps op a b)) :=
 (call_ok (fn := Tryz.f14) (code := body14) (loop := noLoop) (md := ⟨false, false⟩) (rd := rd_b) (wr := wr_b) (wo := wo_b) c13_ok (by kernel_rfl) (by kernel_rfl) (by kernel_rfl) (no_loops (by kernel_rfl)) (by kernel_rfl) (by kernel_rfl) (by kernel_rfl)
  rw_b np_b no_b (by kernel_rfl) (Eq.mpr (show Vm.Tr.vc (Vm.Fn c13 Tryz.f14 body14 noLoop ([.int .i64 op, .agg [.int .i64 a.I.Lo, .int .i64 a.I.Hi, .int .u64 a.C.M, .int .u64 a.C.R], .agg [.int .i64 b.I.Lo, .int .i64 b.I.Hi, .int .u64 b.C.M, .int .u64 b.C.R]])) = S.ref22_Wraps_pre op a b by kernel_rfl) hp))
noncomputable def sem14 : List W → Option (W × List (List W) × List Prop)
 | [.int .i64 y1, .agg [.int .i64 y2, .int .i64 y3, .int .u64 y4, .int .u64 y5], .agg [.int .i64 y6, .int .i64 y7, .int .u64 y8, .int .u64 y9]] => some (wr_b (S.ref22_Wraps y1 ⟨⟨y2, y3⟩, ⟨y4, y5⟩⟩ ⟨⟨y6, y7⟩, ⟨y8, y9⟩⟩), wo_b (S.ref22_Wraps y1 ⟨⟨y2, y3⟩, ⟨y4, y5⟩⟩ ⟨⟨y6, y7⟩, ⟨y8, y9⟩⟩), [S.ref22_Wraps_pre y1 ⟨⟨y2, y3⟩, ⟨y4, y5⟩⟩ ⟨⟨y6, y7⟩, ⟨y8, y9⟩⟩])
 | _ => none
noncomputable def c14 : Cfg El := c13.add 14 sem14
theorem c14_ok : CfgOk c14 := c13_ok.add (fun args w => Tryz.call14 args w) (fun vs r outs ps h hp => by
 unfold sem14 at h
 split at h
 ·rename_i y1 y2 y3 y4 y5 y6 y7 y8 y9; cases h; exact fn14 y1 ⟨⟨y2, y3⟩, ⟨y4, y5⟩⟩ ⟨⟨y6, y7⟩, ⟨y8, y9⟩⟩ hp
 ·cases h)
noncomputable def body209 : Code := (Tryz.f209.body).getD .skip
theorem fn209 (x : Int) : CallOk c14 209 [.int .i64 x] (wr_i64 (S.internal_strconv_log10Pow2 x)) (wo_i64 (S.internal_strconv_log10Pow2 x)) :=
 (call_ok (fn := Tryz.f209) (code := body209) (loop := noLoop) (md := ⟨false, false⟩) (rd := rd_i64) (wr := wr_i64) (wo := wo_i64) c14_ok (by kernel_rfl) (by kernel_rfl) (by kernel_rfl) (no_loops (by kernel_rfl)) (by kernel_rfl) (by kernel_rfl) (by kernel_rfl)
  rw_i64 np_i64 no_i64 (by kernel_rfl) (Tr.vc_of_noReq (by kernel_rfl)))
noncomputable def sem209 : List W → Option (W × List (List W) × List Prop)
 | [.int .i64 y1] => some (wr_i64 (S.internal_strconv_log10Pow2 y1), wo_i64 (S.internal_strconv_log10Pow2 y1), [])
 | _ => none
noncomputable def c209 : Cfg El := c14.add 209 sem209
theorem c209_ok : CfgOk c209 := c14_ok.add (fun args w => Tryz.call209 args w) (fun vs r outs ps h hp => by
 unfold sem209 at h
 split at h
 ·rename_i y1; cases h; exact fn209 y1
 ·cases h)
noncomputable def body210 : Code := (Tryz.f210.body).getD .skip
theorem fn210 (b : Bool) : CallOk c209 210 [.bool b] (wr_i64 (S.internal_strconv_bool2int b)) (wo_i64 (S.internal_strconv_bool2int b)) :=
 (call_ok (fn := Tryz.f210) (code := body210) (loop := noLoop) (md := ⟨false, false⟩) (rd := rd_i64) (wr := wr_i64) (wo := wo_i64) c209_ok (by kernel_rfl) (by kernel_rfl) (by kernel_rfl) (no_loops (by kernel_rfl)) (by kernel_rfl) (by kernel_rfl) (by kernel_rfl)
  rw_i64 np_i64 no_i64 (by kernel_rfl) (Tr.vc_of_noReq (by kernel_rfl)))
noncomputable def sem210 : List W → Option (W × List (List W) × List Prop)
 | [.bool y1] => some (wr_i64 (S.internal_strconv_bool2int y1), wo_i64 (S.internal_strconv_bool2int y1), [])
 | _ => none
noncomputable def c210 : Cfg El := c209.add 210 sem210
theorem c210_ok : CfgOk c210 := c209_ok.add (fun args w => Tryz.call210 args w) (fun vs r outs ps h hp => by
 unfold sem210 at h
 split at h
 ·rename_i y1; cases h; exact fn210 y1
 ·cases h)
noncomputable def body211 : Code := (Tryz.f211.body).getD .skip
theorem fn211 (x : Int) : CallOk c210 211 [.int .i64 x] (wr_b (S.internal_strconv_isPowerOfTwo x)) (wo_b (S.internal_strconv_isPowerOfTwo x)) :=
 (call_ok (fn := Tryz.f211) (code := body211) (loop := noLoop) (md := ⟨false, false⟩) (rd := rd_b) (wr := wr_b) (wo := wo_b) c210_ok (by kernel_rfl) (by kernel_rfl) (by kernel_rfl) (no_loops (by kernel_rfl)) (by kernel_rfl) (by kernel_rfl) (by kernel_rfl)
  rw_b np_b no_b (by kernel_rfl) (Tr.vc_of_noReq (by kernel_rfl)))
noncomputable def sem211 : List W → Option (W × List (List W) × List Prop)
 | [.int .i64 y1] => some (wr_b (S.internal_strconv_isPowerOfTwo y1), wo_b (S.internal_strconv_isPowerOfTwo y1), [])
 | _ => none
noncomputable def c211 : Cfg El := c210.add 211 sem211
theorem c211_ok : CfgOk c211 := c210_ok.add (fun args w => Tryz.call211 args w) (fun vs r outs ps h hp => by
 unfold sem211 at h
 split at h
 ·rename_i y1; cases h; exact fn211 y1
 ·cases h)
noncomputable def rd_s : W → List (List W) → Option (ByteArray)
 | .str x1, [] => some x1
 | _, _ => none
noncomputable def wr_s (x : ByteArray) : W := .str x
noncomputable def wo_s (_x : ByteArray) : List (List W) := []
theorem rw_s (v : W) (os : List (List W)) (x : ByteArray) (h : rd_s v os = some x) : v = wr_s x ∧ os = wo_s x := by
 unfold rd_s at h
 split at h <;> first | (cases h; exact ⟨rfl, rfl⟩) | cases h
theorem np_s (x : ByteArray) : okv (fun _ => false) (wr_s x) = true := rfl
theorem no_s (x : ByteArray) : all (fun cs => all (ok0 fun _ => false) cs) (wo_s x) = true := rfl
theorem fn175 (i : Int) (base : Int) (hp : fmtI_pre i base) : CallOk c211 175 [.int .i64 i, .int .i64 base] (wr_s (fmtI i base)) (wo_s (fmtI i base)) :=
 fmtI_calls (c := c211) (P := P) rfl Tryz.laysM246 rfl (fun _ _ h => h.1) i base hp
noncomputable def sem175 : List W → Option (W × List (List W) × List Prop)
 | [.int .i64 y1, .int .i64 y2] => some (wr_s (fmtI y1 y2), wo_s (fmtI y1 y2), [fmtI_pre y1 y2])
 | _ => none
noncomputable def c175 : Cfg El := c211.add 175 sem175
theorem c175_ok : CfgOk c175 := c211_ok.add (fun args w => Tryz.call175 args w) (fun vs r outs ps h hp => by
 unfold sem175 at h
 split at h
 ·rename_i y1 y2; cases h; exact fn175 y1 y2 hp
 ·cases h)
noncomputable def body112 : Code := (Tryz.f112.body).getD .skip
theorem fn112 (i : Int) (base : Int) (hp : S.strconv_FormatInt_pre i base) : CallOk c175 112 [.int .i64 i, .int .i64 base] (wr_s (S.strconv_FormatInt i base)) (wo_s (S.strconv_FormatInt i base)) :=
 (call_ok (fn := Tryz.f112) (code := body112) (loop := noLoop) (md := ⟨false, false⟩) (rd := rd_s) (wr := wr_s) (wo := wo_s) c175_ok (by kernel_rfl) (by kernel_rfl) (by kernel_rfl) (no_loops (by kernel_rfl)) (by kernel_rfl) (by kernel_rfl) (by kernel_rfl)
  rw_s np_s no_s (by kernel_rfl) (Eq.mpr (show Vm.Tr.vc (Vm.Fn c175 Tryz.f112 body112 noLoop ([.int .i64 i, .int .i64 base])) = S.strconv_FormatInt_pre i base by kernel_rfl) hp))
noncomputable def sem112 : List W → Option (W × List (List W) × List Prop)
 | [.int .i64 y1, .int .i64 y2] => some (wr_s (S.strconv_FormatInt y1 y2), wo_s (S.strconv_FormatInt y1 y2), [S.strconv_FormatInt_pre y1 y2])
 | _ => none
noncomputable def c112 : Cfg El := c175.add 112 sem112
theorem c112_ok : CfgOk c112 := c175_ok.add (fun args w => Tryz.call112 args w) (fun vs r outs ps h hp => by
 unfold sem112 at h
 split at h
 ·rename_i y1 y2; cases h; exact fn112 y1 y2 hp
 ·cases h)
theorem fn176 (i : Int) (base : Int) (hp : fmtU_pre i base) : CallOk c112 176 [.int .u64 i, .int .i64 base] (wr_s (fmtU i base)) (wo_s (fmtU i base)) :=
 fmtU_calls i base hp (c := c112) rfl (fun _ _ h => h.1)
noncomputable def sem176 : List W → Option (W × List (List W) × List Prop)
 | [.int .u64 y1, .int .i64 y2] => some (wr_s (fmtU y1 y2), wo_s (fmtU y1 y2), [fmtU_pre y1 y2])
 | _ => none
noncomputable def c176 : Cfg El := c112.add 176 sem176
theorem c176_ok : CfgOk c176 := c112_ok.add (fun args w => Tryz.call176 args w) (fun vs r outs ps h hp => by
 unfold sem176 at h
 split at h
 ·rename_i y1 y2; cases h; exact fn176 y1 y2 hp
 ·cases h)
noncomputable def body113 : Code := (Tryz.f113.body).getD .skip
theorem fn113 (i : Int) (base : Int) (hp : S.strconv_FormatUint_pre i base) : CallOk c176 113 [.int .u64 i, .int .i64 base] (wr_s (S.strconv_FormatUint i base)) (wo_s (S.strconv_FormatUint i base)) :=
 (call_ok (fn := Tryz.f113) (code := body113) (loop := noLoop) (md := ⟨false, false⟩) (rd := rd_s) (wr := wr_s) (wo := wo_s) c176_ok (by kernel_rfl) (by kernel_rfl) (by kernel_rfl) (no_loops (by kernel_rfl)) (by kernel_rfl) (by kernel_rfl) (by kernel_rfl)
  rw_s np_s no_s (by kernel_rfl) (Eq.mpr (show Vm.Tr.vc (Vm.Fn c176 Tryz.f113 body113 noLoop ([.int .u64 i, .int .i64 base])) = S.strconv_FormatUint_pre i base by kernel_rfl) hp))
noncomputable def sem113 : List W → Option (W × List (List W) × List Prop)
 | [.int .u64 y1, .int .i64 y2] => some (wr_s (S.strconv_FormatUint y1 y2), wo_s (S.strconv_FormatUint y1 y2), [S.strconv_FormatUint_pre y1 y2])
 | _ => none
noncomputable def c113 : Cfg El := c176.add 113 sem113
theorem c113_ok : CfgOk c113 := c176_ok.add (fun args w => Tryz.call113 args w) (fun vs r outs ps h hp => by
 unfold sem113 at h
 split at h
 ·rename_i y1 y2; cases h; exact fn113 y1 y2 hp
 ·cases h)
noncomputable def body57 : Code := (Tryz.f57.body).getD .skip
theorem fn57 (v : S.Value) (hp : S.value_Value_Text_pre v) : CallOk c113 57 [.agg [.int .i64 v.I.Lo, .int .i64 v.I.Hi, .int .u64 v.C.M, .int .u64 v.C.R]] (wr_s (S.value_Value_Text v)) (wo_s (S.value_Value_Text v)) :=
 (call_ok (fn := Tryz.f57) (code := body57) (loop := noLoop) (md := ⟨false, false⟩) (rd := rd_s) (wr := wr_s) (wo := wo_s) c113_ok (by kernel_rfl) (by kernel_rfl) (by kernel_rfl) (no_loops (by kernel_rfl)) (by kernel_rfl) (by kernel_rfl) (by kernel_rfl)
  rw_s np_s no_s (by kernel_rfl) (Eq.mpr (show Vm.Tr.vc (Vm.Fn c113 Tryz.f57 body57 noLoop ([.agg [.int .i64 v.I.Lo, .int .i64 v.I.Hi, .int .u64 v.C.M, .int .u64 v.C.R]])) = S.value_Value_Text_pre v by kernel_rfl) hp))
noncomputable def sem57 : List W → Option (W × List (List W) × List Prop)
 | [.agg [.int .i64 y1, .int .i64 y2, .int .u64 y3, .int .u64 y4]] => some (wr_s (S.value_Value_Text ⟨⟨y1, y2⟩, ⟨y3, y4⟩⟩), wo_s (S.value_Value_Text ⟨⟨y1, y2⟩, ⟨y3, y4⟩⟩), [S.value_Value_Text_pre ⟨⟨y1, y2⟩, ⟨y3, y4⟩⟩])
 | _ => none
noncomputable def c57 : Cfg El := c113.add 57 sem57
theorem c57_ok : CfgOk c57 := c113_ok.add (fun args w => Tryz.call57 args w) (fun vs r outs ps h hp => by
 unfold sem57 at h
 split at h
 ·rename_i y1 y2 y3 y4; cases h; exact fn57 ⟨⟨y1, y2⟩, ⟨y3, y4⟩⟩ hp
 ·cases h)
noncomputable def body58 : Code := (Tryz.f58.body).getD .skip
theorem fn58 (lo : Int) (hi : Int) (hp : S.value_Range_pre lo hi) : CallOk c57 58 [.int .i64 lo, .int .i64 hi] (wr_S27 (S.value_Range lo hi)) (wo_S27 (S.value_Range lo hi)) :=
 (call_ok (fn := Tryz.f58) (code := body58) (loop := noLoop) (md := ⟨false, false⟩) (rd := rd_S27) (wr := wr_S27) (wo := wo_S27) c57_ok (by kernel_rfl) (by kernel_rfl) (by kernel_rfl) (no_loops (by kernel_rfl)) (by kernel_rfl) (by kernel_rfl) (by kernel_rfl)
  rw_S27 np_S27 no_S27 (by kernel_rfl) (Eq.mpr (show Vm.Tr.vc (Vm.Fn c57 Tryz.f58 body58 noLoop ([.int .i64 lo, .int .i64 hi])) = S.value_Range_pre lo hi by kernel_rfl) hp))
noncomputable def sem58 : List W → Option (W × List (List W) × List Prop)
 | [.int .i64 y1, .int .i64 y2] => some (wr_S27 (S.value_Range y1 y2), wo_S27 (S.value_Range y1 y2), [S.value_Range_pre y1 y2])
 | _ => none
noncomputable def c58 : Cfg El := c57.add 58 sem58
theorem c58_ok : CfgOk c58 := c57_ok.add (fun args w => Tryz.call58 args w) (fun vs r outs ps h hp => by
 unfold sem58 at h
 split at h
 ·rename_i y1 y2; cases h; exact fn58 y1 y2 hp
 ·cases h)
noncomputable def body15 : Code := (Tryz.f15.body).getD .skip
theorem fn15 (hp : S.law22_works_pre) : CallOk c58 15 [] (wr_b (S.law22_works)) (wo_b (S.law22_works)) :=
 (call_ok (fn := Tryz.f15) (code := body15) (loop := noLoop) (md := ⟨false, false⟩) (rd := rd_b) (wr := wr_b) (wo := wo_b) c58_ok (by kernel_rfl) (by kernel_rfl) (by kernel_rfl) (no_loops (by kernel_rfl)) (by kernel_rfl) (by kernel_rfl) (by kernel_rfl)
  rw_b np_b no_b (by kernel_rfl) (Eq.mpr (show Vm.Tr.vc (Vm.Fn c58 Tryz.f15 body15 noLoop ([])) = S.law22_works_pre by kernel_rfl) hp))
noncomputable def sem15 : List W → Option (W × List (List W) × List Prop)
 | [] => some (wr_b (S.law22_works), wo_b (S.law22_works), [S.law22_works_pre])
 | _ => none
noncomputable def c15 : Cfg El := c58.add 15 sem15
theorem c15_ok : CfgOk c15 := c58_ok.add (fun args w => Tryz.call15 args w) (fun vs r outs ps h hp => by
 unfold sem15 at h
 split at h
 ·cases h; exact fn15 hp
 ·cases h)
noncomputable def body3 : Code := (Tryz.f3.body).getD .skip
theorem fn3 (op : Int) (a : S.Value) (b : S.Value) (hp : S.law22_ArithDoes_pre op a b) : CallOk c15 3 [.int .i64 op, .agg [.int .i64 a.I.Lo, .int .i64 a.I.Hi, .int .u64 a.C.M, .int .u64 a.C.R], .agg [.int .i64 b.I.Lo, .int .i64 b.I.Hi, .int .u64 b.C.M, .int .u64 b.C.R]] (wr_b (S.law22_ArithDoes op a b)) (wo_b (S.law22_ArithDoes op a b)) :=
 (call_ok (fn := Tryz.f3) (code := body3) (loop := noLoop) (md := ⟨false, false⟩) (rd := rd_b) (wr := wr_b) (wo := wo_b) c15_ok (by kernel_rfl) (by kernel_rfl) (by kernel_rfl) (no_loops (by kernel_rfl)) (by kernel_rfl) (by kernel_rfl) (by kernel_rfl)
  rw_b np_b no_b (by kernel_rfl) (Eq.mpr (show Vm.Tr.vc (Vm.Fn c15 Tryz.f3 body3 noLoop ([.int .i64 op, .agg [.int .i64 a.I.Lo, .int .i64 a.I.Hi, .int .u64 a.C.M, .int .u64 a.C.R], .agg [.int .i64 b.I.Lo, .int .i64 b.I.Hi, .int .u64 b.C.M, .int .u64 b.C.R]])) = S.law22_ArithDoes_pre op a b by kernel_rfl) hp))
noncomputable def sem3 : List W → Option (W × List (List W) × List Prop)
 | [.int .i64 y1, .agg [.int .i64 y2, .int .i64 y3, .int .u64 y4, .int .u64 y5], .agg [.int .i64 y6, .int .i64 y7, .int .u64 y8, .int .u64 y9]] => some (wr_b (S.law22_ArithDoes y1 ⟨⟨y2, y3⟩, ⟨y4, y5⟩⟩ ⟨⟨y6, y7⟩, ⟨y8, y9⟩⟩), wo_b (S.law22_ArithDoes y1 ⟨⟨y2, y3⟩, ⟨y4, y5⟩⟩ ⟨⟨y6, y7⟩, ⟨y8, y9⟩⟩), [S.law22_ArithDoes_pre y1 ⟨⟨y2, y3⟩, ⟨y4, y5⟩⟩ ⟨⟨y6, y7⟩, ⟨y8, y9⟩⟩])
 | _ => none
noncomputable def c3 : Cfg El := c15.add 3 sem3
theorem c3_ok : CfgOk c3 := c15_ok.add (fun args w => Tryz.call3 args w) (fun vs r outs ps h hp => by
 unfold sem3 at h
 split at h
 ·rename_i y1 y2 y3 y4 y5 y6 y7 y8 y9; cases h; exact fn3 y1 ⟨⟨y2, y3⟩, ⟨y4, y5⟩⟩ ⟨⟨y6, y7⟩, ⟨y8, y9⟩⟩ hp
 ·cases h)
noncomputable def body179 : Code := (Tryz.f179.body).getD .skip
theorem fn179 (i : S.Inter) (n : Int) : CallOk c3 179 [.agg [.int .i64 i.Lo, .int .i64 i.Hi], .int .i64 n] (wr_b (S.inter_Inter_Has i n)) (wo_b (S.inter_Inter_Has i n)) :=
 (call_ok (fn := Tryz.f179) (code := body179) (loop := noLoop) (md := ⟨false, false⟩) (rd := rd_b) (wr := wr_b) (wo := wo_b) c3_ok (by kernel_rfl) (by kernel_rfl) (by kernel_rfl) (no_loops (by kernel_rfl)) (by kernel_rfl) (by kernel_rfl) (by kernel_rfl)
  rw_b np_b no_b (by kernel_rfl) (Tr.vc_of_noReq (by kernel_rfl)))
noncomputable def sem179 : List W → Option (W × List (List W) × List Prop)
 | [.agg [.int .i64 y1, .int .i64 y2], .int .i64 y3] => some (wr_b (S.inter_Inter_Has ⟨y1, y2⟩ y3), wo_b (S.inter_Inter_Has ⟨y1, y2⟩ y3), [])
 | _ => none
noncomputable def c179 : Cfg El := c3.add 179 sem179
theorem c179_ok : CfgOk c179 := c3_ok.add (fun args w => Tryz.call179 args w) (fun vs r outs ps h hp => by
 unfold sem179 at h
 split at h
 ·rename_i y1 y2 y3; cases h; exact fn179 ⟨y1, y2⟩ y3
 ·cases h)
noncomputable def body132 : Code := (Tryz.f132.body).getD .skip
theorem fn132 (a : S.Inter) (b : S.Inter) : CallOk c179 132 [.agg [.int .i64 a.Lo, .int .i64 a.Hi], .agg [.int .i64 b.Lo, .int .i64 b.Hi]] (wr_b (S.inter_Within a b)) (wo_b (S.inter_Within a b)) :=
 (call_ok (fn := Tryz.f132) (code := body132) (loop := noLoop) (md := ⟨false, false⟩) (rd := rd_b) (wr := wr_b) (wo := wo_b) c179_ok (by kernel_rfl) (by kernel_rfl) (by kernel_rfl) (no_loops (by kernel_rfl)) (by kernel_rfl) (by kernel_rfl) (by kernel_rfl)
  rw_b np_b no_b (by kernel_rfl) (Tr.vc_of_noReq (by kernel_rfl)))
noncomputable def sem132 : List W → Option (W × List (List W) × List Prop)
 | [.agg [.int .i64 y1, .int .i64 y2], .agg [.int .i64 y3, .int .i64 y4]] => some (wr_b (S.inter_Within ⟨y1, y2⟩ ⟨y3, y4⟩), wo_b (S.inter_Within ⟨y1, y2⟩ ⟨y3, y4⟩), [])
 | _ => none
noncomputable def c132 : Cfg El := c179.add 132 sem132
theorem c132_ok : CfgOk c132 := c179_ok.add (fun args w => Tryz.call132 args w) (fun vs r outs ps h hp => by
 unfold sem132 at h
 split at h
 ·rename_i y1 y2 y3 y4; cases h; exact fn132 ⟨y1, y2⟩ ⟨y3, y4⟩
 ·cases h)
noncomputable def body133 : Code := (Tryz.f133.body).getD .skip
theorem fn133 (a : S.Cong) (b : S.Cong) (hp : S.cong_Within_pre a b) : CallOk c132 133 [.agg [.int .u64 a.M, .int .u64 a.R], .agg [.int .u64 b.M, .int .u64 b.R]] (wr_b (S.cong_Within a b)) (wo_b (S.cong_Within a b)) :=
 (call_ok (fn := Tryz.f133) (code := body133) (loop := noLoop) (md := ⟨false, false⟩) (rd := rd_b) (wr := wr_b) (wo := wo_b) c132_ok (by kernel_rfl) (by kernel_rfl) (by kernel_rfl) (no_loops (by kernel_rfl)) (by kernel_rfl) (by kernel_rfl) (by kernel_rfl)
  rw_b np_b no_b (by kernel_rfl) (Eq.mpr (show Vm.Tr.vc (Vm.Fn c132 Tryz.f133 body133 noLoop ([.agg [.int .u64 a.M, .int .u64 a.R], .agg [.int .u64 b.M, .int .u64 b.R]])) = S.cong_Within_pre a b by kernel_rfl) hp))
noncomputable def sem133 : List W → Option (W × List (List W) × List Prop)
 | [.agg [.int .u64 y1, .int .u64 y2], .agg [.int .u64 y3, .int .u64 y4]] => some (wr_b (S.cong_Within ⟨y1, y2⟩ ⟨y3, y4⟩), wo_b (S.cong_Within ⟨y1, y2⟩ ⟨y3, y4⟩), [S.cong_Within_pre ⟨y1, y2⟩ ⟨y3, y4⟩])
 | _ => none
noncomputable def c133 : Cfg El := c132.add 133 sem133
theorem c133_ok : CfgOk c133 := c132_ok.add (fun args w => Tryz.call133 args w) (fun vs r outs ps h hp => by
 unfold sem133 at h
 split at h
 ·rename_i y1 y2 y3 y4; cases h; exact fn133 ⟨y1, y2⟩ ⟨y3, y4⟩ hp
 ·cases h)
noncomputable def body71 : Code := (Tryz.f71.body).getD .skip
theorem fn71 (a : S.Value) (b : S.Value) (hp : S.value_Within_pre a b) : CallOk c133 71 [.agg [.int .i64 a.I.Lo, .int .i64 a.I.Hi, .int .u64 a.C.M, .int .u64 a.C.R], .agg [.int .i64 b.I.Lo, .int .i64 b.I.Hi, .int .u64 b.C.M, .int .u64 b.C.R]] (wr_b (S.value_Within a b)) (wo_b (S.value_Within a b)) :=
 (call_ok (fn := Tryz.f71) (code := body71) (loop := noLoop) (md := ⟨false, false⟩) (rd := rd_b) (wr := wr_b) (wo := wo_b) c133_ok (by kernel_rfl) (by kernel_rfl) (by kernel_rfl) (no_loops (by kernel_rfl)) (by kernel_rfl) (by kernel_rfl) (by kernel_rfl)
  rw_b np_b no_b (by kernel_rfl) (Eq.mpr (show Vm.Tr.vc (Vm.Fn c133 Tryz.f71 body71 noLoop ([.agg [.int .i64 a.I.Lo, .int .i64 a.I.Hi, .int .u64 a.C.M, .int .u64 a.C.R], .agg [.int .i64 b.I.Lo, .int .i64 b.I.Hi, .int .u64 b.C.M, .int .u64 b.C.R]])) = S.value_Within_pre a b by kernel_rfl) hp))
noncomputable def sem71 : List W → Option (W × List (List W) × List Prop)
 | [.agg [.int .i64 y1, .int .i64 y2, .int .u64 y3, .int .u64 y4], .agg [.int .i64 y5, .int .i64 y6, .int .u64 y7, .int .u64 y8]] => some (wr_b (S.value_Within ⟨⟨y1, y2⟩, ⟨y3, y4⟩⟩ ⟨⟨y5, y6⟩, ⟨y7, y8⟩⟩), wo_b (S.value_Within ⟨⟨y1, y2⟩, ⟨y3, y4⟩⟩ ⟨⟨y5, y6⟩, ⟨y7, y8⟩⟩), [S.value_Within_pre ⟨⟨y1, y2⟩, ⟨y3, y4⟩⟩ ⟨⟨y5, y6⟩, ⟨y7, y8⟩⟩])
 | _ => none
noncomputable def c71 : Cfg El := c133.add 71 sem71
theorem c71_ok : CfgOk c71 := c133_ok.add (fun args w => Tryz.call71 args w) (fun vs r outs ps h hp => by
 unfold sem71 at h
 split at h
 ·rename_i y1 y2 y3 y4 y5 y6 y7 y8; cases h; exact fn71 ⟨⟨y1, y2⟩, ⟨y3, y4⟩⟩ ⟨⟨y5, y6⟩, ⟨y7, y8⟩⟩ hp
 ·cases h)
noncomputable def body23 : Code := (Tryz.f23.body).getD .skip
theorem fn23 (v : S.Value) (n : Int) (hp : S.value_Value_Has_pre v n) : CallOk c71 23 [.agg [.int .i64 v.I.Lo, .int .i64 v.I.Hi, .int .u64 v.C.M, .int .u64 v.C.R], .int .i64 n] (wr_b (S.value_Value_Has v n)) (wo_b (S.value_Value_Has v n)) :=
 (call_ok (fn := Tryz.f23) (code := body23) (loop := noLoop) (md := ⟨false, false⟩) (rd := rd_b) (wr := wr_b) (wo := wo_b) c71_ok (by kernel_rfl) (by kernel_rfl) (by kernel_rfl) (no_loops (by kernel_rfl)) (by kernel_rfl) (by kernel_rfl) (by kernel_rfl)
  rw_b np_b no_b (by kernel_rfl) (Eq.mpr (show Vm.Tr.vc (Vm.Fn c71 Tryz.f23 body23 noLoop ([.agg [.int .i64 v.I.Lo, .int .i64 v.I.Hi, .int .u64 v.C.M, .int .u64 v.C.R], .int .i64 n])) = S.value_Value_Has_pre v n by kernel_rfl) hp))
noncomputable def sem23 : List W → Option (W × List (List W) × List Prop)
 | [.agg [.int .i64 y1, .int .i64 y2, .int .u64 y3, .int .u64 y4], .int .i64 y5] => some (wr_b (S.value_Value_Has ⟨⟨y1, y2⟩, ⟨y3, y4⟩⟩ y5), wo_b (S.value_Value_Has ⟨⟨y1, y2⟩, ⟨y3, y4⟩⟩ y5), [S.value_Value_Has_pre ⟨⟨y1, y2⟩, ⟨y3, y4⟩⟩ y5])
 | _ => none
noncomputable def c23 : Cfg El := c71.add 23 sem23
theorem c23_ok : CfgOk c23 := c71_ok.add (fun args w => Tryz.call23 args w) (fun vs r outs ps h hp => by
 unfold sem23 at h
 split at h
 ·rename_i y1 y2 y3 y4 y5; cases h; exact fn23 ⟨⟨y1, y2⟩, ⟨y3, y4⟩⟩ y5 hp
 ·cases h)
noncomputable def body16 : Code := (Tryz.f16.body).getD .skip
theorem fn16 (v : S.Value) (n : Int) (hp : S.law22_near_pre v n) : CallOk c23 16 [.agg [.int .i64 v.I.Lo, .int .i64 v.I.Hi, .int .u64 v.C.M, .int .u64 v.C.R], .int .i64 n] (wr_i64_b (S.law22_near v n)) (wo_i64_b (S.law22_near v n)) :=
 (call_ok (fn := Tryz.f16) (code := body16) (loop := noLoop) (md := ⟨false, false⟩) (rd := rd_i64_b) (wr := wr_i64_b) (wo := wo_i64_b) c23_ok (by kernel_rfl) (by kernel_rfl) (by kernel_rfl) (no_loops (by kernel_rfl)) (by kernel_rfl) (by kernel_rfl) (by kernel_rfl)
  rw_i64_b np_i64_b no_i64_b (by kernel_rfl) (Eq.mpr (show Vm.Tr.vc (Vm.Fn c23 Tryz.f16 body16 noLoop ([.agg [.int .i64 v.I.Lo, .int .i64 v.I.Hi, .int .u64 v.C.M, .int .u64 v.C.R], .int .i64 n])) = S.law22_near_pre v n by kernel_rfl) hp))
noncomputable def sem16 : List W → Option (W × List (List W) × List Prop)
 | [.agg [.int .i64 y1, .int .i64 y2, .int .u64 y3, .int .u64 y4], .int .i64 y5] => some (wr_i64_b (S.law22_near ⟨⟨y1, y2⟩, ⟨y3, y4⟩⟩ y5), wo_i64_b (S.law22_near ⟨⟨y1, y2⟩, ⟨y3, y4⟩⟩ y5), [S.law22_near_pre ⟨⟨y1, y2⟩, ⟨y3, y4⟩⟩ y5])
 | _ => none
noncomputable def c16 : Cfg El := c23.add 16 sem16
theorem c16_ok : CfgOk c16 := c23_ok.add (fun args w => Tryz.call16 args w) (fun vs r outs ps h hp => by
 unfold sem16 at h
 split at h
 ·rename_i y1 y2 y3 y4 y5; cases h; exact fn16 ⟨⟨y1, y2⟩, ⟨y3, y4⟩⟩ y5 hp
 ·cases h)
noncomputable def rd_L35_o_f : W → List (List W) → Option ((List Int))
 | .olist 35 true x2, [] => some x2
 | _, _ => none
noncomputable def wr_L35_o_f (x : (List Int)) : W := .olist 35 true x
noncomputable def wo_L35_o_f (_x : (List Int)) : List (List W) := []
theorem rw_L35_o_f (v : W) (os : List (List W)) (x : (List Int)) (h : rd_L35_o_f v os = some x) : v = wr_L35_o_f x ∧ os = wo_L35_o_f x := by
 unfold rd_L35_o_f at h
 split at h <;> first | (cases h; exact ⟨rfl, rfl⟩) | cases h
theorem np_L35_o_f (x : (List Int)) : okv (fun _ => false) (wr_L35_o_f x) = true := rfl
theorem no_L35_o_f (x : (List Int)) : all (fun cs => all (ok0 fun _ => false) cs) (wo_L35_o_f x) = true := rfl
noncomputable def body19 : Code := (Tryz.f19.body).getD .skip
theorem fn19 : CallOk c16 19 [] (wr_L35_o_f (S.law22_ops)) (wo_L35_o_f (S.law22_ops)) :=
 CallOk.unhint (c := c16) (call_ok (c := (c16.hint [1] [])) (f := 19) (fn := Tryz.f19) (code := body19) (args := ([])) (loop := noLoop) (md := ⟨true, true⟩) (rd := rd_L35_o_f) (wr := wr_L35_o_f) (wo := wo_L35_o_f) (r := S.law22_ops) (CfgOk.hint c16_ok [1] []) (by kernel_rfl) (by kernel_rfl) (by kernel_rfl) (no_loops (by kernel_rfl)) (by kernel_rfl) (by kernel_rfl) (by kernel_rfl)
  rw_L35_o_f np_L35_o_f no_L35_o_f (by kernel_rfl) (Tr.vc_of_noReq (by kernel_rfl)))
noncomputable def sem19 : List W → Option (W × List (List W) × List Prop)
 | [] => some (wr_L35_o_f (S.law22_ops), wo_L35_o_f (S.law22_ops), [])
 | _ => none
noncomputable def c19 : Cfg El := c16.add 19 sem19
theorem c19_ok : CfgOk c19 := c16_ok.add (fun args w => Tryz.call19 args w) (fun vs r outs ps h hp => by
 unfold sem19 at h
 split at h
 ·cases h; exact fn19
 ·cases h)
noncomputable def body24 : Code := (Tryz.f24.body).getD .skip
noncomputable def lb24_0 : Code := ((nth (loopsOf 0 body24) 0).getD (0, .skip)).2
noncomputable def px24_0 : List W → Option S.law22_made_L0
 | [.int .i64 y1, .int .i64 y2, .bool y3, .list 2 false y4, .list 2 false y5, .int .i64 y6] => some ⟨y1, y2, y3, y4, y5, y6⟩
 | _ => none
noncomputable def tx24_0 (x : S.law22_made_L0) : List W := [.int .i64 x.op, .int .i64 x.n, .bool x.t8, .list 2 false x.l, .list 2 false x.r, .int .i64 x.i]
noncomputable def py24_0 : Ex → List W → Option (Bool × S.law22_made_L0)
 | .ret, [.int .i64 y1, .int .i64 y2, .bool y3, .list 2 false y4, .list 2 false y5, .int .i64 y6] => some ⟨true, ⟨y1, y2, y3, y4, y5, y6⟩⟩
 | .exit 0, [.int .i64 y1, .int .i64 y2, .bool y3, .list 2 false y4, .list 2 false y5, .int .i64 y6] => some ⟨false, ⟨y1, y2, y3, y4, y5, y6⟩⟩
 | _, _ => none
noncomputable def ld24_0 : LD El where
 X := S.law22_made_L0
 Y := Bool × S.law22_made_L0
 keys := [.slot 0, .slot 3, .slot 8, .slot 9, .slot 10, .slot 11]
 fits := [35, 2, 4, 58, 58, 3]
 px := px24_0
 tx := tx24_0
 okeys := [.slot 0, .slot 3, .slot 8, .slot 9, .slot 10, .slot 11]
 ofits := [35, 2, 4, 58, 58, 3]
 py := py24_0
 ty := fun y => bif y.1 then tx24_0 y.2 else tx24_0 y.2
 oex := fun y => bif y.1 then .ret else .exit 0
 junk := [.slot 12, .slot 13, .slot 28, .slot 29, .slot 30, .slot 31, .slot 32, .slot 33, .slot 34, .slot 35, .slot 36, .slot 37, .slot 38, .slot 39, .slot 40, .slot 41, .slot 42, .slot 43, .slot 44, .slot 45, .slot 46, .slot 47, .slot 48, .slot 49]
 rows := []
noncomputable def lo24_0 : (Bool × S.law22_made_L0) → Tr El := fun y => .node y.1 (.leaf (.ret) (zipK ld24_0.okeys (tx24_0 y.2) ++ junkK ld24_0.junk)) (.leaf (.exit 0) (zipK ld24_0.okeys (tx24_0 y.2) ++ junkK ld24_0.junk))
noncomputable def loop24 : Nat → Env El → Tr El
 | 0 => ld24_0.tree c19 Tryz.f24.ntmps 0 lb24_0 S.law22_made_L0_run lo24_0 S.law22_made_L0_step S.law22_made_L0_vcs
 | _ => fun _ => .fail
theorem lok24_0 : ∀ w0 S0, LoopOk c19 Tryz.f24.ntmps w0 S0 loop24 0 lb24_0 :=
 loop_ok (c := c19) (n := Tryz.f24.ntmps) c19_ok mixed ld24_0 (body := lb24_0) (key := 0) (loop := loop24) (F := S.law22_made_L0_run) (out := lo24_0) (step := S.law22_made_L0_step) (vcs := S.law22_made_L0_vcs)
  (fun _ => by kernel_rfl) (no_loops (by kernel_rfl)) rfl rfl
  (fun vs x h => by unfold ld24_0 px24_0 at h; dsimp only at h; split at h <;> first | (cases h; rfl) | cases h)
  (fun e vs y h => by unfold ld24_0 py24_0 at h; dsimp only at h; split at h <;> first | (cases h; exact ⟨rfl, rfl⟩) | cases h)
  (by kernel_rfl) (fun | (true, _) => rfl | (false, _) => rfl) (fun | (true, _), _, h => h.1 rfl | (false, _), _, h => h.2 rfl) (fun x => by kernel_rfl) (fun x h => Eq.mpr (show Vm.Tr.vc (Vm.ev c19 Tryz.f24.ntmps loop24 0 lb24_0 (ld24_0.vars x) []) = S.law22_made_L0_vcs x by kernel_rfl) h)
theorem fn24 (op : Int) (a : S.Value) (b : S.Value) (n : Int) (hp : S.law22_made_pre op a b n) : CallOk c19 24 [.int .i64 op, .agg [.int .i64 a.I.Lo, .int .i64 a.I.Hi, .int .u64 a.C.M, .int .u64 a.C.R], .agg [.int .i64 b.I.Lo, .int .i64 b.I.Hi, .int .u64 b.C.M, .int .u64 b.C.R], .int .i64 n] (wr_b (S.law22_made op a b n)) (wo_b (S.law22_made op a b n)) :=
 (call_ok (fn := Tryz.f24) (code := body24) (loop := loop24) (md := ⟨false, false⟩) (rd := rd_b) (wr := wr_b) (wo := wo_b) c19_ok (by kernel_rfl) (by kernel_rfl) (by kernel_rfl) (loops_all (l := [(0, lb24_0)]) (by kernel_rfl) ⟨lok24_0, trivial⟩) (by kernel_rfl) (by kernel_rfl) (by kernel_rfl)
  rw_b np_b no_b (by kernel_rfl) (Eq.mpr (show Vm.Tr.vc (Vm.Fn c19 Tryz.f24 body24 loop24 ([.int .i64 op, .agg [.int .i64 a.I.Lo, .int .i64 a.I.Hi, .int .u64 a.C.M, .int .u64 a.C.R], .agg [.int .i64 b.I.Lo, .int .i64 b.I.Hi, .int .u64 b.C.M, .int .u64 b.C.R], .int .i64 n])) = S.law22_made_pre op a b n by kernel_rfl) hp))
noncomputable def sem24 : List W → Option (W × List (List W) × List Prop)
 | [.int .i64 y1, .agg [.int .i64 y2, .int .i64 y3, .int .u64 y4, .int .u64 y5], .agg [.int .i64 y6, .int .i64 y7, .int .u64 y8, .int .u64 y9], .int .i64 y10] => some (wr_b (S.law22_made y1 ⟨⟨y2, y3⟩, ⟨y4, y5⟩⟩ ⟨⟨y6, y7⟩, ⟨y8, y9⟩⟩ y10), wo_b (S.law22_made y1 ⟨⟨y2, y3⟩, ⟨y4, y5⟩⟩ ⟨⟨y6, y7⟩, ⟨y8, y9⟩⟩ y10), [S.law22_made_pre y1 ⟨⟨y2, y3⟩, ⟨y4, y5⟩⟩ ⟨⟨y6, y7⟩, ⟨y8, y9⟩⟩ y10])
 | _ => none
noncomputable def c24 : Cfg El := c19.add 24 sem24
theorem c24_ok : CfgOk c24 := c19_ok.add (fun args w => Tryz.call24 args w) (fun vs r outs ps h hp => by
 unfold sem24 at h
 split at h
 ·rename_i y1 y2 y3 y4 y5 y6 y7 y8 y9 y10; cases h; exact fn24 y1 ⟨⟨y2, y3⟩, ⟨y4, y5⟩⟩ ⟨⟨y6, y7⟩, ⟨y8, y9⟩⟩ y10 hp
 ·cases h)
noncomputable def body25 : Code := (Tryz.f25.body).getD .skip
theorem fn25 (op : Int) (a : Int) : CallOk c24 25 [.int .i64 op, .int .i64 a] (wr_i64_b (S.word_One op a)) (wo_i64_b (S.word_One op a)) :=
 (call_ok (fn := Tryz.f25) (code := body25) (loop := noLoop) (md := ⟨false, false⟩) (rd := rd_i64_b) (wr := wr_i64_b) (wo := wo_i64_b) c24_ok (by kernel_rfl) (by kernel_rfl) (by kernel_rfl) (no_loops (by kernel_rfl)) (by kernel_rfl) (by kernel_rfl) (by kernel_rfl)
  rw_i64_b np_i64_b no_i64_b (by kernel_rfl) (Tr.vc_of_noReq (by kernel_rfl)))
noncomputable def sem25 : List W → Option (W × List (List W) × List Prop)
 | [.int .i64 y1, .int .i64 y2] => some (wr_i64_b (S.word_One y1 y2), wo_i64_b (S.word_One y1 y2), [])
 | _ => none
noncomputable def c25 : Cfg El := c24.add 25 sem25
theorem c25_ok : CfgOk c25 := c24_ok.add (fun args w => Tryz.call25 args w) (fun vs r outs ps h hp => by
 unfold sem25 at h
 split at h
 ·rename_i y1 y2; cases h; exact fn25 y1 y2
 ·cases h)
noncomputable def body4 : Code := (Tryz.f4.body).getD .skip
noncomputable def lb4_0 : Code := ((nth (loopsOf 0 body4) 0).getD (0, .skip)).2
noncomputable def px4_0 : List W → Option S.law22_ArithSound_L0
 | [.ptr 4 0, .ptr 5 0, .bool y1, .int .i64 y2, .int .i64 y3, .int .i64 y4, .int .i64 y5, .int .i64 y6, .int .u64 y7, .int .u64 y8, .int .i64 y9, .int .i64 y10, .int .u64 y11, .int .u64 y12] => some ⟨y1, y2, y3, y4, ⟨⟨y5, y6⟩, ⟨y7, y8⟩⟩, ⟨⟨y9, y10⟩, ⟨y11, y12⟩⟩⟩
 | _ => none
noncomputable def tx4_0 (x : S.law22_ArithSound_L0) : List W := [.ptr 4 0, .ptr 5 0, .bool x.t8, .int .i64 x.vx, .int .i64 x.y, .int .i64 x.i, .int .i64 x.a.I.Lo, .int .i64 x.a.I.Hi, .int .u64 x.a.C.M, .int .u64 x.a.C.R, .int .i64 x.b.I.Lo, .int .i64 x.b.I.Hi, .int .u64 x.b.C.M, .int .u64 x.b.C.R]
noncomputable def py4_0 : Ex → List W → Option (Bool × S.law22_ArithSound_L0)
 | .ret, [.ptr 4 0, .ptr 5 0, .bool y1, .int .i64 y2, .int .i64 y3, .int .i64 y4, .int .i64 y5, .int .i64 y6, .int .u64 y7, .int .u64 y8, .int .i64 y9, .int .i64 y10, .int .u64 y11, .int .u64 y12] => some ⟨true, ⟨y1, y2, y3, y4, ⟨⟨y5, y6⟩, ⟨y7, y8⟩⟩, ⟨⟨y9, y10⟩, ⟨y11, y12⟩⟩⟩⟩
 | .exit 0, [.ptr 4 0, .ptr 5 0, .bool y1, .int .i64 y2, .int .i64 y3, .int .i64 y4, .int .i64 y5, .int .i64 y6, .int .u64 y7, .int .u64 y8, .int .i64 y9, .int .i64 y10, .int .u64 y11, .int .u64 y12] => some ⟨false, ⟨y1, y2, y3, y4, ⟨⟨y5, y6⟩, ⟨y7, y8⟩⟩, ⟨⟨y9, y10⟩, ⟨y11, y12⟩⟩⟩⟩
 | _, _ => none
noncomputable def ld4_0 : LD El where
 X := S.law22_ArithSound_L0
 Y := Bool × S.law22_ArithSound_L0
 keys := [.slot 4, .slot 5, .slot 8, .slot 9, .slot 11, .slot 13, .cell 4 0, .cell 4 1, .cell 4 2, .cell 4 3, .cell 5 0, .cell 5 1, .cell 5 2, .cell 5 3]
 fits := [0, 0, 4, 2, 2, 3, 2, 2, 24, 24, 2, 2, 24, 24]
 px := px4_0
 tx := tx4_0
 okeys := [.slot 4, .slot 5, .slot 8, .slot 9, .slot 11, .slot 13, .cell 4 0, .cell 4 1, .cell 4 2, .cell 4 3, .cell 5 0, .cell 5 1, .cell 5 2, .cell 5 3]
 ofits := [0, 0, 4, 2, 2, 3, 2, 2, 24, 24, 2, 2, 24, 24]
 py := py4_0
 ty := fun y => bif y.1 then tx4_0 y.2 else tx4_0 y.2
 oex := fun y => bif y.1 then .ret else .exit 0
 junk := [.slot 14, .slot 15, .slot 16, .slot 17, .slot 18, .slot 19, .slot 20, .slot 21, .slot 22, .slot 60, .slot 61, .slot 62, .slot 63, .slot 64, .slot 65, .slot 66, .slot 67, .slot 68, .slot 69, .slot 70, .slot 71, .slot 72, .slot 73, .slot 74, .slot 75, .slot 76, .slot 77, .slot 78, .slot 79, .slot 80, .slot 81, .slot 82, .slot 83, .slot 84, .slot 85, .slot 86, .slot 87, .slot 88, .slot 89, .slot 90, .slot 91, .slot 92, .slot 93, .slot 94, .slot 95, .slot 96, .slot 97, .slot 98, .slot 99, .slot 100, .slot 101, .slot 102, .slot 103, .slot 104, .slot 105, .slot 106, .slot 107, .slot 108, .slot 109, .slot 110, .slot 111, .slot 112, .slot 113, .slot 114, .slot 115, .slot 116, .slot 117, .slot 118, .slot 119, .slot 120, .slot 121, .slot 122, .slot 123, .slot 124, .slot 125, .slot 126, .slot 127, .slot 128, .slot 129, .slot 130, .slot 131, .slot 132, .slot 133, .slot 134, .slot 135, .slot 136, .slot 137, .slot 138, .slot 139, .slot 140, .slot 141]
 rows := []
noncomputable def lo4_0 : (Bool × S.law22_ArithSound_L0) → Tr El := fun y => .node y.1 (.leaf (.ret) (zipK ld4_0.okeys (tx4_0 y.2) ++ junkK ld4_0.junk)) (.leaf (.exit 0) (zipK ld4_0.okeys (tx4_0 y.2) ++ junkK ld4_0.junk))
noncomputable def loop4 : Nat → Env El → Tr El
 | 0 => ld4_0.tree c25 Tryz.f4.ntmps 0 lb4_0 S.law22_ArithSound_L0_run lo4_0 S.law22_ArithSound_L0_step S.law22_ArithSound_L0_vcs
 | _ => fun _ => .fail
theorem lok4_0 : ∀ w0 S0, LoopOk c25 Tryz.f4.ntmps w0 S0 loop4 0 lb4_0 :=
 loop_ok (c := c25) (n := Tryz.f4.ntmps) c25_ok mixed ld4_0 (body := lb4_0) (key := 0) (loop := loop4) (F := S.law22_ArithSound_L0_run) (out := lo4_0) (step := S.law22_ArithSound_L0_step) (vcs := S.law22_ArithSound_L0_vcs)
  (fun _ => by kernel_rfl) (no_loops (by kernel_rfl)) rfl rfl
  (fun vs x h => by unfold ld4_0 px4_0 at h; dsimp only at h; split at h <;> first | (cases h; rfl) | cases h)
  (fun e vs y h => by unfold ld4_0 py4_0 at h; dsimp only at h; split at h <;> first | (cases h; exact ⟨rfl, rfl⟩) | cases h)
  (by kernel_rfl) (fun | (true, _) => rfl | (false, _) => rfl) (fun | (true, _), _, h => h.1 rfl | (false, _), _, h => h.2 rfl) (fun x => by kernel_rfl) (fun x h => Eq.mpr (show Vm.Tr.vc (Vm.ev c25 Tryz.f4.ntmps loop4 0 lb4_0 (ld4_0.vars x) []) = S.law22_ArithSound_L0_vcs x by kernel_rfl) h)
theorem fn4 (a : S.Value) (b : S.Value) (n : Int) (m : Int) (hp : S.law22_ArithSound_pre a b n m) : CallOk c25 4 [.agg [.int .i64 a.I.Lo, .int .i64 a.I.Hi, .int .u64 a.C.M, .int .u64 a.C.R], .agg [.int .i64 b.I.Lo, .int .i64 b.I.Hi, .int .u64 b.C.M, .int .u64 b.C.R], .int .i64 n, .int .i64 m] (wr_b (S.law22_ArithSound a b n m)) (wo_b (S.law22_ArithSound a b n m)) :=
 (call_ok (fn := Tryz.f4) (code := body4) (loop := loop4) (md := ⟨false, false⟩) (rd := rd_b) (wr := wr_b) (wo := wo_b) c25_ok (by kernel_rfl) (by kernel_rfl) (by kernel_rfl) (loops_all (l := [(0, lb4_0)]) (by kernel_rfl) ⟨lok4_0, trivial⟩) (by kernel_rfl) (by kernel_rfl) (by kernel_rfl)
  rw_b np_b no_b (by kernel_rfl) (Eq.mpr (show Vm.Tr.vc (Vm.Fn c25 Tryz.f4 body4 loop4 ([.agg [.int .i64 a.I.Lo, .int .i64 a.I.Hi, .int .u64 a.C.M, .int .u64 a.C.R], .agg [.int .i64 b.I.Lo, .int .i64 b.I.Hi, .int .u64 b.C.M, .int .u64 b.C.R], .int .i64 n, .int .i64 m])) = S.law22_ArithSound_pre a b n m by kernel_rfl) hp))
noncomputable def sem4 : List W → Option (W × List (List W) × List Prop)
 | [.agg [.int .i64 y1, .int .i64 y2, .int .u64 y3, .int .u64 y4], .agg [.int .i64 y5, .int .i64 y6, .int .u64 y7, .int .u64 y8], .int .i64 y9, .int .i64 y10] => some (wr_b (S.law22_ArithSound ⟨⟨y1, y2⟩, ⟨y3, y4⟩⟩ ⟨⟨y5, y6⟩, ⟨y7, y8⟩⟩ y9 y10), wo_b (S.law22_ArithSound ⟨⟨y1, y2⟩, ⟨y3, y4⟩⟩ ⟨⟨y5, y6⟩, ⟨y7, y8⟩⟩ y9 y10), [S.law22_ArithSound_pre ⟨⟨y1, y2⟩, ⟨y3, y4⟩⟩ ⟨⟨y5, y6⟩, ⟨y7, y8⟩⟩ y9 y10])
 | _ => none
noncomputable def c4 : Cfg El := c25.add 4 sem4
theorem c4_ok : CfgOk c4 := c25_ok.add (fun args w => Tryz.call4 args w) (fun vs r outs ps h hp => by
 unfold sem4 at h
 split at h
 ·rename_i y1 y2 y3 y4 y5 y6 y7 y8 y9 y10; cases h; exact fn4 ⟨⟨y1, y2⟩, ⟨y3, y4⟩⟩ ⟨⟨y5, y6⟩, ⟨y7, y8⟩⟩ y9 y10 hp
 ·cases h)
noncomputable def body74 : Code := (Tryz.f74.body).getD .skip
theorem fn74 (a : S.Value) (b : S.Value) (hp : S.value_Same_pre a b) : CallOk c4 74 [.agg [.int .i64 a.I.Lo, .int .i64 a.I.Hi, .int .u64 a.C.M, .int .u64 a.C.R], .agg [.int .i64 b.I.Lo, .int .i64 b.I.Hi, .int .u64 b.C.M, .int .u64 b.C.R]] (wr_b (S.value_Same a b)) (wo_b (S.value_Same a b)) :=
 (call_ok (fn := Tryz.f74) (code := body74) (loop := noLoop) (md := ⟨false, false⟩) (rd := rd_b) (wr := wr_b) (wo := wo_b) c4_ok (by kernel_rfl) (by kernel_rfl) (by kernel_rfl) (no_loops (by kernel_rfl)) (by kernel_rfl) (by kernel_rfl) (by kernel_rfl)
  rw_b np_b no_b (by kernel_rfl) (Eq.mpr (show Vm.Tr.vc (Vm.Fn c4 Tryz.f74 body74 noLoop ([.agg [.int .i64 a.I.Lo, .int .i64 a.I.Hi, .int .u64 a.C.M, .int .u64 a.C.R], .agg [.int .i64 b.I.Lo, .int .i64 b.I.Hi, .int .u64 b.C.M, .int .u64 b.C.R]])) = S.value_Same_pre a b by kernel_rfl) hp))
noncomputable def sem74 : List W → Option (W × List (List W) × List Prop)
 | [.agg [.int .i64 y1, .int .i64 y2, .int .u64 y3, .int .u64 y4], .agg [.int .i64 y5, .int .i64 y6, .int .u64 y7, .int .u64 y8]] => some (wr_b (S.value_Same ⟨⟨y1, y2⟩, ⟨y3, y4⟩⟩ ⟨⟨y5, y6⟩, ⟨y7, y8⟩⟩), wo_b (S.value_Same ⟨⟨y1, y2⟩, ⟨y3, y4⟩⟩ ⟨⟨y5, y6⟩, ⟨y7, y8⟩⟩), [S.value_Same_pre ⟨⟨y1, y2⟩, ⟨y3, y4⟩⟩ ⟨⟨y5, y6⟩, ⟨y7, y8⟩⟩])
 | _ => none
noncomputable def c74 : Cfg El := c4.add 74 sem74
theorem c74_ok : CfgOk c74 := c4_ok.add (fun args w => Tryz.call74 args w) (fun vs r outs ps h hp => by
 unfold sem74 at h
 split at h
 ·rename_i y1 y2 y3 y4 y5 y6 y7 y8; cases h; exact fn74 ⟨⟨y1, y2⟩, ⟨y3, y4⟩⟩ ⟨⟨y5, y6⟩, ⟨y7, y8⟩⟩ hp
 ·cases h)
noncomputable def body27 : Code := (Tryz.f27.body).getD .skip
noncomputable def lb27_0 : Code := ((nth (loopsOf 0 body27) 0).getD (0, .skip)).2
noncomputable def px27_0 : List W → Option S.law22_ArithLaws_L0
 | [.ptr 3 0, .ptr 4 0, .bool y1, .int .i64 y2, .int .i64 y3, .int .i64 y4, .int .u64 y5, .int .u64 y6, .int .i64 y7, .int .i64 y8, .int .u64 y9, .int .u64 y10] => some ⟨y1, y2, ⟨⟨y3, y4⟩, ⟨y5, y6⟩⟩, ⟨⟨y7, y8⟩, ⟨y9, y10⟩⟩⟩
 | _ => none
noncomputable def tx27_0 (x : S.law22_ArithLaws_L0) : List W := [.ptr 3 0, .ptr 4 0, .bool x.t6, .int .i64 x.i, .int .i64 x.a.I.Lo, .int .i64 x.a.I.Hi, .int .u64 x.a.C.M, .int .u64 x.a.C.R, .int .i64 x.b.I.Lo, .int .i64 x.b.I.Hi, .int .u64 x.b.C.M, .int .u64 x.b.C.R]
noncomputable def py27_0 : Ex → List W → Option (Bool × S.law22_ArithLaws_L0)
 | .ret, [.ptr 3 0, .ptr 4 0, .bool y1, .int .i64 y2, .int .i64 y3, .int .i64 y4, .int .u64 y5, .int .u64 y6, .int .i64 y7, .int .i64 y8, .int .u64 y9, .int .u64 y10] => some ⟨true, ⟨y1, y2, ⟨⟨y3, y4⟩, ⟨y5, y6⟩⟩, ⟨⟨y7, y8⟩, ⟨y9, y10⟩⟩⟩⟩
 | .exit 0, [.ptr 3 0, .ptr 4 0, .bool y1, .int .i64 y2, .int .i64 y3, .int .i64 y4, .int .u64 y5, .int .u64 y6, .int .i64 y7, .int .i64 y8, .int .u64 y9, .int .u64 y10] => some ⟨false, ⟨y1, y2, ⟨⟨y3, y4⟩, ⟨y5, y6⟩⟩, ⟨⟨y7, y8⟩, ⟨y9, y10⟩⟩⟩⟩
 | _, _ => none
noncomputable def ld27_0 : LD El where
 X := S.law22_ArithLaws_L0
 Y := Bool × S.law22_ArithLaws_L0
 keys := [.slot 3, .slot 4, .slot 6, .slot 8, .cell 3 0, .cell 3 1, .cell 3 2, .cell 3 3, .cell 4 0, .cell 4 1, .cell 4 2, .cell 4 3]
 fits := [0, 0, 4, 3, 2, 2, 24, 24, 2, 2, 24, 24]
 px := px27_0
 tx := tx27_0
 okeys := [.slot 3, .slot 4, .slot 6, .slot 8, .cell 3 0, .cell 3 1, .cell 3 2, .cell 3 3, .cell 4 0, .cell 4 1, .cell 4 2, .cell 4 3]
 ofits := [0, 0, 4, 3, 2, 2, 24, 24, 2, 2, 24, 24]
 py := py27_0
 ty := fun y => bif y.1 then tx27_0 y.2 else tx27_0 y.2
 oex := fun y => bif y.1 then .ret else .exit 0
 junk := [.slot 16, .slot 17, .slot 18, .slot 19, .slot 20, .slot 21, .slot 22, .slot 23, .slot 24, .slot 25, .slot 26, .slot 27, .slot 28, .slot 29, .slot 30, .slot 31, .slot 32, .slot 33, .slot 34]
 rows := []
noncomputable def lo27_0 : (Bool × S.law22_ArithLaws_L0) → Tr El := fun y => .node y.1 (.leaf (.ret) (zipK ld27_0.okeys (tx27_0 y.2) ++ junkK ld27_0.junk)) (.leaf (.exit 0) (zipK ld27_0.okeys (tx27_0 y.2) ++ junkK ld27_0.junk))
noncomputable def loop27 : Nat → Env El → Tr El
 | 0 => ld27_0.tree c74 Tryz.f27.ntmps 0 lb27_0 S.law22_ArithLaws_L0_run lo27_0 S.law22_ArithLaws_L0_step S.law22_ArithLaws_L0_vcs
 | _ => fun _ => .fail
theorem lok27_0 : ∀ w0 S0, LoopOk c74 Tryz.f27.ntmps w0 S0 loop27 0 lb27_0 :=
 loop_ok (c := c74) (n := Tryz.f27.ntmps) c74_ok mixed ld27_0 (body := lb27_0) (key := 0) (loop := loop27) (F := S.law22_ArithLaws_L0_run) (out := lo27_0) (step := S.law22_ArithLaws_L0_step) (vcs := S.law22_ArithLaws_L0_vcs)
  (fun _ => by kernel_rfl) (no_loops (by kernel_rfl)) rfl rfl
  (fun vs x h => by unfold ld27_0 px27_0 at h; dsimp only at h; split at h <;> first | (cases h; rfl) | cases h)
  (fun e vs y h => by unfold ld27_0 py27_0 at h; dsimp only at h; split at h <;> first | (cases h; exact ⟨rfl, rfl⟩) | cases h)
  (by kernel_rfl) (fun | (true, _) => rfl | (false, _) => rfl) (fun | (true, _), _, h => h.1 rfl | (false, _), _, h => h.2 rfl) (fun x => by kernel_rfl) (fun x h => Eq.mpr (show Vm.Tr.vc (Vm.ev c74 Tryz.f27.ntmps loop27 0 lb27_0 (ld27_0.vars x) []) = S.law22_ArithLaws_L0_vcs x by kernel_rfl) h)
theorem fn27 (a : S.Value) (b : S.Value) (op : Int) (hp : S.law22_ArithLaws_pre a b op) : CallOk c74 27 [.agg [.int .i64 a.I.Lo, .int .i64 a.I.Hi, .int .u64 a.C.M, .int .u64 a.C.R], .agg [.int .i64 b.I.Lo, .int .i64 b.I.Hi, .int .u64 b.C.M, .int .u64 b.C.R], .int .i64 op] (wr_b (S.law22_ArithLaws a b op)) (wo_b (S.law22_ArithLaws a b op)) :=
 (call_ok (fn := Tryz.f27) (code := body27) (loop := loop27) (md := ⟨false, false⟩) (rd := rd_b) (wr := wr_b) (wo := wo_b) c74_ok (by kernel_rfl) (by kernel_rfl) (by kernel_rfl) (loops_all (l := [(0, lb27_0)]) (by kernel_rfl) ⟨lok27_0, trivial⟩) (by kernel_rfl) (by kernel_rfl) (by kernel_rfl)
  rw_b np_b no_b (by kernel_rfl) (Eq.mpr (show Vm.Tr.vc (Vm.Fn c74 Tryz.f27 body27 loop27 ([.agg [.int .i64 a.I.Lo, .int .i64 a.I.Hi, .int .u64 a.C.M, .int .u64 a.C.R], .agg [.int .i64 b.I.Lo, .int .i64 b.I.Hi, .int .u64 b.C.M, .int .u64 b.C.R], .int .i64 op])) = S.law22_ArithLaws_pre a b op by kernel_rfl) hp))
noncomputable def sem27 : List W → Option (W × List (List W) × List Prop)
 | [.agg [.int .i64 y1, .int .i64 y2, .int .u64 y3, .int .u64 y4], .agg [.int .i64 y5, .int .i64 y6, .int .u64 y7, .int .u64 y8], .int .i64 y9] => some (wr_b (S.law22_ArithLaws ⟨⟨y1, y2⟩, ⟨y3, y4⟩⟩ ⟨⟨y5, y6⟩, ⟨y7, y8⟩⟩ y9), wo_b (S.law22_ArithLaws ⟨⟨y1, y2⟩, ⟨y3, y4⟩⟩ ⟨⟨y5, y6⟩, ⟨y7, y8⟩⟩ y9), [S.law22_ArithLaws_pre ⟨⟨y1, y2⟩, ⟨y3, y4⟩⟩ ⟨⟨y5, y6⟩, ⟨y7, y8⟩⟩ y9])
 | _ => none
noncomputable def c27 : Cfg El := c74.add 27 sem27
theorem c27_ok : CfgOk c27 := c74_ok.add (fun args w => Tryz.call27 args w) (fun vs r outs ps h hp => by
 unfold sem27 at h
 split at h
 ·rename_i y1 y2 y3 y4 y5 y6 y7 y8 y9; cases h; exact fn27 ⟨⟨y1, y2⟩, ⟨y3, y4⟩⟩ ⟨⟨y5, y6⟩, ⟨y7, y8⟩⟩ y9 hp
 ·cases h)
end Go.Proofs.YtcgafjhkefcdfaaGreatDoor
