/-
  Printed by a program for this claim: functions of the code as plain functions, and that the code comes to them. Conditions: those that each theorem states.
-/
import Derived.Test.YtcgafjhkefcdfaaGreatDoorQDSem1
set_option linter.all false
namespace Go.Proofs.YtcgafjhkefcdfaaGreatDoor
open Go Go.Proofs Vm
attribute [local irreducible] Vm.Tr.vc Vm.Tr.out Vm.Fn Vm.Fn.out Vm.ev Vm.loopsOf Vm.Tr.noReq
noncomputable def sem11 : List W → Option (W × List (List W) × List Prop)
  | [.int .i64 y1, .agg [.int .i64 y2, .int .i64 y3, .int .u64 y4, .int .u64 y5], .agg [.int .i64 y6, .int .i64 y7, .int .u64 y8, .int .u64 y9]] => some (wr_S31 (S.ref22_Do y1 (⟨(⟨y2, y3⟩ : S.Inter), (⟨y4, y5⟩ : S.Cong)⟩ : S.Value) (⟨(⟨y6, y7⟩ : S.Inter), (⟨y8, y9⟩ : S.Cong)⟩ : S.Value)), wo_S31 (S.ref22_Do y1 (⟨(⟨y2, y3⟩ : S.Inter), (⟨y4, y5⟩ : S.Cong)⟩ : S.Value) (⟨(⟨y6, y7⟩ : S.Inter), (⟨y8, y9⟩ : S.Cong)⟩ : S.Value)), [S.ref22_Do_pre y1 (⟨(⟨y2, y3⟩ : S.Inter), (⟨y4, y5⟩ : S.Cong)⟩ : S.Value) (⟨(⟨y6, y7⟩ : S.Inter), (⟨y8, y9⟩ : S.Cong)⟩ : S.Value)])
  | _ => none
noncomputable def c11 : Cfg El := c54.add 11 sem11
theorem c11_ok : CfgOk c11 := c54_ok.add (fun args w => Tryz.call11 args w) (fun vs r outs ps h hp => by
  unfold sem11 at h
  split at h
  · rename_i y1 y2 y3 y4 y5 y6 y7 y8 y9; cases h; exact fn11 y1 (⟨(⟨y2, y3⟩ : S.Inter), (⟨y4, y5⟩ : S.Cong)⟩ : S.Value) (⟨(⟨y6, y7⟩ : S.Inter), (⟨y8, y9⟩ : S.Cong)⟩ : S.Value) hp
  · cases h)
noncomputable def body12 : Code := (Tryz.f12.body).getD .skip
theorem fn12 (a : S.Value) (hp : S.ref22_Neg_pre a) : CallOk c11 12 [.agg [.int .i64 a.I.Lo, .int .i64 a.I.Hi, .int .u64 a.C.M, .int .u64 a.C.R]] (wr_S31 (S.ref22_Neg a)) (wo_S31 (S.ref22_Neg a)) :=
  (call_ok (c := c11) (f := 12) (fn := Tryz.f12) (code := body12) (args := ([.agg [.int .i64 a.I.Lo, .int .i64 a.I.Hi, .int .u64 a.C.M, .int .u64 a.C.R]])) (loop := noLoop) (md := ⟨false, false⟩) (rd := rd_S31) (wr := wr_S31) (wo := wo_S31) (r := (S.ref22_Neg a)) c11_ok (by kernel_rfl) (by kernel_rfl) (by kernel_rfl) (no_loops (by kernel_rfl)) (by kernel_rfl) (by kernel_rfl) (by kernel_rfl)
    rw_S31 np_S31 no_S31 (by kernel_rfl) (Eq.mpr (show Vm.Tr.vc (Vm.Fn c11 Tryz.f12 body12 noLoop ([.agg [.int .i64 a.I.Lo, .int .i64 a.I.Hi, .int .u64 a.C.M, .int .u64 a.C.R]])) = S.ref22_Neg_pre a by kernel_rfl) hp))
noncomputable def sem12 : List W → Option (W × List (List W) × List Prop)
  | [.agg [.int .i64 y1, .int .i64 y2, .int .u64 y3, .int .u64 y4]] => some (wr_S31 (S.ref22_Neg (⟨(⟨y1, y2⟩ : S.Inter), (⟨y3, y4⟩ : S.Cong)⟩ : S.Value)), wo_S31 (S.ref22_Neg (⟨(⟨y1, y2⟩ : S.Inter), (⟨y3, y4⟩ : S.Cong)⟩ : S.Value)), [S.ref22_Neg_pre (⟨(⟨y1, y2⟩ : S.Inter), (⟨y3, y4⟩ : S.Cong)⟩ : S.Value)])
  | _ => none
noncomputable def c12 : Cfg El := c11.add 12 sem12
theorem c12_ok : CfgOk c12 := c11_ok.add (fun args w => Tryz.call12 args w) (fun vs r outs ps h hp => by
  unfold sem12 at h
  split at h
  · rename_i y1 y2 y3 y4; cases h; exact fn12 (⟨(⟨y1, y2⟩ : S.Inter), (⟨y3, y4⟩ : S.Cong)⟩ : S.Value) hp
  · cases h)
noncomputable def body55 : Code := (Tryz.f55.body).getD .skip
theorem fn55 (a : (Int × Int)) (b : (Int × Int)) : CallOk c12 55 [.agg [.int .u64 a.1, .int .u64 a.2], .agg [.int .u64 b.1, .int .u64 b.2]] (wr_b (S.arith_one a b)) (wo_b (S.arith_one a b)) :=
  (call_ok (c := c12) (f := 55) (fn := Tryz.f55) (code := body55) (args := ([.agg [.int .u64 a.1, .int .u64 a.2], .agg [.int .u64 b.1, .int .u64 b.2]])) (loop := noLoop) (md := ⟨false, false⟩) (rd := rd_b) (wr := wr_b) (wo := wo_b) (r := (S.arith_one a b)) c12_ok (by kernel_rfl) (by kernel_rfl) (by kernel_rfl) (no_loops (by kernel_rfl)) (by kernel_rfl) (by kernel_rfl) (by kernel_rfl)
    rw_b np_b no_b (by kernel_rfl) (Tr.vc_of_noReq (by kernel_rfl)))
noncomputable def sem55 : List W → Option (W × List (List W) × List Prop)
  | [.agg [.int .u64 y1, .int .u64 y2], .agg [.int .u64 y3, .int .u64 y4]] => some (wr_b (S.arith_one (y1, y2) (y3, y4)), wo_b (S.arith_one (y1, y2) (y3, y4)), [])
  | _ => none
noncomputable def c55 : Cfg El := c12.add 55 sem55
theorem c55_ok : CfgOk c55 := c12_ok.add (fun args w => Tryz.call55 args w) (fun vs r outs ps h hp => by
  unfold sem55 at h
  split at h
  · rename_i y1 y2 y3 y4; cases h; exact fn55 (y1, y2) (y3, y4)
  · cases h)
noncomputable def body13 : Code := (Tryz.f13.body).getD .skip
theorem fn13 (op : Int) (a : S.Value) (b : S.Value) (hp : S.arith_Wraps_pre op a b) : CallOk c55 13 [.int .i64 op, .agg [.int .i64 a.I.Lo, .int .i64 a.I.Hi, .int .u64 a.C.M, .int .u64 a.C.R], .agg [.int .i64 b.I.Lo, .int .i64 b.I.Hi, .int .u64 b.C.M, .int .u64 b.C.R]] (wr_b (S.arith_Wraps op a b)) (wo_b (S.arith_Wraps op a b)) :=
  (call_ok (c := c55) (f := 13) (fn := Tryz.f13) (code := body13) (args := ([.int .i64 op, .agg [.int .i64 a.I.Lo, .int .i64 a.I.Hi, .int .u64 a.C.M, .int .u64 a.C.R], .agg [.int .i64 b.I.Lo, .int .i64 b.I.Hi, .int .u64 b.C.M, .int .u64 b.C.R]])) (loop := noLoop) (md := ⟨false, false⟩) (rd := rd_b) (wr := wr_b) (wo := wo_b) (r := (S.arith_Wraps op a b)) c55_ok (by kernel_rfl) (by kernel_rfl) (by kernel_rfl) (no_loops (by kernel_rfl)) (by kernel_rfl) (by kernel_rfl) (by kernel_rfl)
    rw_b np_b no_b (by kernel_rfl) (Eq.mpr (show Vm.Tr.vc (Vm.Fn c55 Tryz.f13 body13 noLoop ([.int .i64 op, .agg [.int .i64 a.I.Lo, .int .i64 a.I.Hi, .int .u64 a.C.M, .int .u64 a.C.R], .agg [.int .i64 b.I.Lo, .int .i64 b.I.Hi, .int .u64 b.C.M, .int .u64 b.C.R]])) = S.arith_Wraps_pre op a b by kernel_rfl) hp))
noncomputable def sem13 : List W → Option (W × List (List W) × List Prop)
  | [.int .i64 y1, .agg [.int .i64 y2, .int .i64 y3, .int .u64 y4, .int .u64 y5], .agg [.int .i64 y6, .int .i64 y7, .int .u64 y8, .int .u64 y9]] => some (wr_b (S.arith_Wraps y1 (⟨(⟨y2, y3⟩ : S.Inter), (⟨y4, y5⟩ : S.Cong)⟩ : S.Value) (⟨(⟨y6, y7⟩ : S.Inter), (⟨y8, y9⟩ : S.Cong)⟩ : S.Value)), wo_b (S.arith_Wraps y1 (⟨(⟨y2, y3⟩ : S.Inter), (⟨y4, y5⟩ : S.Cong)⟩ : S.Value) (⟨(⟨y6, y7⟩ : S.Inter), (⟨y8, y9⟩ : S.Cong)⟩ : S.Value)), [S.arith_Wraps_pre y1 (⟨(⟨y2, y3⟩ : S.Inter), (⟨y4, y5⟩ : S.Cong)⟩ : S.Value) (⟨(⟨y6, y7⟩ : S.Inter), (⟨y8, y9⟩ : S.Cong)⟩ : S.Value)])
  | _ => none
noncomputable def c13 : Cfg El := c55.add 13 sem13
theorem c13_ok : CfgOk c13 := c55_ok.add (fun args w => Tryz.call13 args w) (fun vs r outs ps h hp => by
  unfold sem13 at h
  split at h
  · rename_i y1 y2 y3 y4 y5 y6 y7 y8 y9; cases h; exact fn13 y1 (⟨(⟨y2, y3⟩ : S.Inter), (⟨y4, y5⟩ : S.Cong)⟩ : S.Value) (⟨(⟨y6, y7⟩ : S.Inter), (⟨y8, y9⟩ : S.Cong)⟩ : S.Value) hp
  · cases h)
noncomputable def body14 : Code := (Tryz.f14.body).getD .skip
theorem fn14 (op : Int) (a : S.Value) (b : S.Value) (hp : S.ref22_Wraps_pre op a b) : CallOk c13 14 [.int .i64 op, .agg [.int .i64 a.I.Lo, .int .i64 a.I.Hi, .int .u64 a.C.M, .int .u64 a.C.R], .agg [.int .i64 b.I.Lo, .int .i64 b.I.Hi, .int .u64 b.C.M, .int .u64 b.C.R]] (wr_b (S.ref22_Wraps op a b)) (wo_b (S.ref22_Wraps op a b)) :=
  (call_ok (c := c13) (f := 14) (fn := Tryz.f14) (code := body14) (args := ([.int .i64 op, .agg [.int .i64 a.I.Lo, .int .i64 a.I.Hi, .int .u64 a.C.M, .int .u64 a.C.R], .agg [.int .i64 b.I.Lo, .int .i64 b.I.Hi, .int .u64 b.C.M, .int .u64 b.C.R]])) (loop := noLoop) (md := ⟨false, false⟩) (rd := rd_b) (wr := wr_b) (wo := wo_b) (r := (S.ref22_Wraps op a b)) c13_ok (by kernel_rfl) (by kernel_rfl) (by kernel_rfl) (no_loops (by kernel_rfl)) (by kernel_rfl) (by kernel_rfl) (by kernel_rfl)
    rw_b np_b no_b (by kernel_rfl) (Eq.mpr (show Vm.Tr.vc (Vm.Fn c13 Tryz.f14 body14 noLoop ([.int .i64 op, .agg [.int .i64 a.I.Lo, .int .i64 a.I.Hi, .int .u64 a.C.M, .int .u64 a.C.R], .agg [.int .i64 b.I.Lo, .int .i64 b.I.Hi, .int .u64 b.C.M, .int .u64 b.C.R]])) = S.ref22_Wraps_pre op a b by kernel_rfl) hp))
noncomputable def sem14 : List W → Option (W × List (List W) × List Prop)
  | [.int .i64 y1, .agg [.int .i64 y2, .int .i64 y3, .int .u64 y4, .int .u64 y5], .agg [.int .i64 y6, .int .i64 y7, .int .u64 y8, .int .u64 y9]] => some (wr_b (S.ref22_Wraps y1 (⟨(⟨y2, y3⟩ : S.Inter), (⟨y4, y5⟩ : S.Cong)⟩ : S.Value) (⟨(⟨y6, y7⟩ : S.Inter), (⟨y8, y9⟩ : S.Cong)⟩ : S.Value)), wo_b (S.ref22_Wraps y1 (⟨(⟨y2, y3⟩ : S.Inter), (⟨y4, y5⟩ : S.Cong)⟩ : S.Value) (⟨(⟨y6, y7⟩ : S.Inter), (⟨y8, y9⟩ : S.Cong)⟩ : S.Value)), [S.ref22_Wraps_pre y1 (⟨(⟨y2, y3⟩ : S.Inter), (⟨y4, y5⟩ : S.Cong)⟩ : S.Value) (⟨(⟨y6, y7⟩ : S.Inter), (⟨y8, y9⟩ : S.Cong)⟩ : S.Value)])
  | _ => none
noncomputable def c14 : Cfg El := c13.add 14 sem14
theorem c14_ok : CfgOk c14 := c13_ok.add (fun args w => Tryz.call14 args w) (fun vs r outs ps h hp => by
  unfold sem14 at h
  split at h
  · rename_i y1 y2 y3 y4 y5 y6 y7 y8 y9; cases h; exact fn14 y1 (⟨(⟨y2, y3⟩ : S.Inter), (⟨y4, y5⟩ : S.Cong)⟩ : S.Value) (⟨(⟨y6, y7⟩ : S.Inter), (⟨y8, y9⟩ : S.Cong)⟩ : S.Value) hp
  · cases h)
noncomputable def body26 : Code := (Tryz.f26.body).getD .skip
theorem fn26 (m : Int) (n : Int) (hp : S.cong_Make_pre m n) : CallOk c14 26 [.int .u64 m, .int .i64 n] (wr_S25 (S.cong_Make m n)) (wo_S25 (S.cong_Make m n)) :=
  (call_ok (c := c14) (f := 26) (fn := Tryz.f26) (code := body26) (args := ([.int .u64 m, .int .i64 n])) (loop := noLoop) (md := ⟨false, false⟩) (rd := rd_S25) (wr := wr_S25) (wo := wo_S25) (r := (S.cong_Make m n)) c14_ok (by kernel_rfl) (by kernel_rfl) (by kernel_rfl) (no_loops (by kernel_rfl)) (by kernel_rfl) (by kernel_rfl) (by kernel_rfl)
    rw_S25 np_S25 no_S25 (by kernel_rfl) (Eq.mpr (show Vm.Tr.vc (Vm.Fn c14 Tryz.f26 body26 noLoop ([.int .u64 m, .int .i64 n])) = S.cong_Make_pre m n by kernel_rfl) hp))
noncomputable def sem26 : List W → Option (W × List (List W) × List Prop)
  | [.int .u64 y1, .int .i64 y2] => some (wr_S25 (S.cong_Make y1 y2), wo_S25 (S.cong_Make y1 y2), [S.cong_Make_pre y1 y2])
  | _ => none
noncomputable def c26 : Cfg El := c14.add 26 sem26
theorem c26_ok : CfgOk c26 := c14_ok.add (fun args w => Tryz.call26 args w) (fun vs r outs ps h hp => by
  unfold sem26 at h
  split at h
  · rename_i y1 y2; cases h; exact fn26 y1 y2 hp
  · cases h)
noncomputable def body209 : Code := (Tryz.f209.body).getD .skip
theorem fn209 (x : Int) : CallOk c26 209 [.int .i64 x] (wr_i64 (S.internal_strconv_log10Pow2 x)) (wo_i64 (S.internal_strconv_log10Pow2 x)) :=
  (call_ok (c := c26) (f := 209) (fn := Tryz.f209) (code := body209) (args := ([.int .i64 x])) (loop := noLoop) (md := ⟨false, false⟩) (rd := rd_i64) (wr := wr_i64) (wo := wo_i64) (r := (S.internal_strconv_log10Pow2 x)) c26_ok (by kernel_rfl) (by kernel_rfl) (by kernel_rfl) (no_loops (by kernel_rfl)) (by kernel_rfl) (by kernel_rfl) (by kernel_rfl)
    rw_i64 np_i64 no_i64 (by kernel_rfl) (Tr.vc_of_noReq (by kernel_rfl)))
noncomputable def sem209 : List W → Option (W × List (List W) × List Prop)
  | [.int .i64 y1] => some (wr_i64 (S.internal_strconv_log10Pow2 y1), wo_i64 (S.internal_strconv_log10Pow2 y1), [])
  | _ => none
noncomputable def c209 : Cfg El := c26.add 209 sem209
theorem c209_ok : CfgOk c209 := c26_ok.add (fun args w => Tryz.call209 args w) (fun vs r outs ps h hp => by
  unfold sem209 at h
  split at h
  · rename_i y1; cases h; exact fn209 y1
  · cases h)
noncomputable def body210 : Code := (Tryz.f210.body).getD .skip
theorem fn210 (b : Bool) : CallOk c209 210 [.bool b] (wr_i64 (S.internal_strconv_bool2int b)) (wo_i64 (S.internal_strconv_bool2int b)) :=
  (call_ok (c := c209) (f := 210) (fn := Tryz.f210) (code := body210) (args := ([.bool b])) (loop := noLoop) (md := ⟨false, false⟩) (rd := rd_i64) (wr := wr_i64) (wo := wo_i64) (r := (S.internal_strconv_bool2int b)) c209_ok (by kernel_rfl) (by kernel_rfl) (by kernel_rfl) (no_loops (by kernel_rfl)) (by kernel_rfl) (by kernel_rfl) (by kernel_rfl)
    rw_i64 np_i64 no_i64 (by kernel_rfl) (Tr.vc_of_noReq (by kernel_rfl)))
noncomputable def sem210 : List W → Option (W × List (List W) × List Prop)
  | [.bool y1] => some (wr_i64 (S.internal_strconv_bool2int y1), wo_i64 (S.internal_strconv_bool2int y1), [])
  | _ => none
noncomputable def c210 : Cfg El := c209.add 210 sem210
theorem c210_ok : CfgOk c210 := c209_ok.add (fun args w => Tryz.call210 args w) (fun vs r outs ps h hp => by
  unfold sem210 at h
  split at h
  · rename_i y1; cases h; exact fn210 y1
  · cases h)
noncomputable def body211 : Code := (Tryz.f211.body).getD .skip
theorem fn211 (x : Int) : CallOk c210 211 [.int .i64 x] (wr_b (S.internal_strconv_isPowerOfTwo x)) (wo_b (S.internal_strconv_isPowerOfTwo x)) :=
  (call_ok (c := c210) (f := 211) (fn := Tryz.f211) (code := body211) (args := ([.int .i64 x])) (loop := noLoop) (md := ⟨false, false⟩) (rd := rd_b) (wr := wr_b) (wo := wo_b) (r := (S.internal_strconv_isPowerOfTwo x)) c210_ok (by kernel_rfl) (by kernel_rfl) (by kernel_rfl) (no_loops (by kernel_rfl)) (by kernel_rfl) (by kernel_rfl) (by kernel_rfl)
    rw_b np_b no_b (by kernel_rfl) (Tr.vc_of_noReq (by kernel_rfl)))
noncomputable def sem211 : List W → Option (W × List (List W) × List Prop)
  | [.int .i64 y1] => some (wr_b (S.internal_strconv_isPowerOfTwo y1), wo_b (S.internal_strconv_isPowerOfTwo y1), [])
  | _ => none
noncomputable def c211 : Cfg El := c210.add 211 sem211
theorem c211_ok : CfgOk c211 := c210_ok.add (fun args w => Tryz.call211 args w) (fun vs r outs ps h hp => by
  unfold sem211 at h
  split at h
  · rename_i y1; cases h; exact fn211 y1
  · cases h)
noncomputable def rd_s : W → List (List W) → Option (ByteArray)
  | .str x1, [] => some x1
  | _, _ => none
noncomputable def wr_s (x : ByteArray) : W := .str x
noncomputable def wo_s (_x : ByteArray) : List (List W) := []
theorem rw_s (v : W) (os : List (List W)) (x : ByteArray) (h : rd_s v os = some x) : v = wr_s x ∧ os = wo_s x := by
  unfold rd_s at h
  split at h <;> first | (cases h; exact ⟨rfl, rfl⟩) | cases h
theorem np_s (x : ByteArray) : okv (fun _ => false) (wr_s x) = true := rfl
theorem no_s (x : ByteArray) : all (fun cs => all (ok0 fun _ => false) cs) (wo_s x) = true := rfl
theorem fn175 (i : Int) (base : Int) (hp : fmtI_pre i base) : CallOk c211 175 [.int .i64 i, .int .i64 base] (wr_s (fmtI i base)) (wo_s (fmtI i base)) :=
  fmtI_calls (c := c211) (P := P) rfl Tryz.laysM246 rfl (fun _ _ h => h.1) i base hp
noncomputable def sem175 : List W → Option (W × List (List W) × List Prop)
  | [.int .i64 y1, .int .i64 y2] => some (wr_s (fmtI y1 y2), wo_s (fmtI y1 y2), [fmtI_pre y1 y2])
  | _ => none
noncomputable def c175 : Cfg El := c211.add 175 sem175
theorem c175_ok : CfgOk c175 := c211_ok.add (fun args w => Tryz.call175 args w) (fun vs r outs ps h hp => by
  unfold sem175 at h
  split at h
  · rename_i y1 y2; cases h; exact fn175 y1 y2 hp
  · cases h)
noncomputable def body112 : Code := (Tryz.f112.body).getD .skip
theorem fn112 (i : Int) (base : Int) (hp : S.strconv_FormatInt_pre i base) : CallOk c175 112 [.int .i64 i, .int .i64 base] (wr_s (S.strconv_FormatInt i base)) (wo_s (S.strconv_FormatInt i base)) :=
  (call_ok (c := c175) (f := 112) (fn := Tryz.f112) (code := body112) (args := ([.int .i64 i, .int .i64 base])) (loop := noLoop) (md := ⟨false, false⟩) (rd := rd_s) (wr := wr_s) (wo := wo_s) (r := (S.strconv_FormatInt i base)) c175_ok (by kernel_rfl) (by kernel_rfl) (by kernel_rfl) (no_loops (by kernel_rfl)) (by kernel_rfl) (by kernel_rfl) (by kernel_rfl)
    rw_s np_s no_s (by kernel_rfl) (Eq.mpr (show Vm.Tr.vc (Vm.Fn c175 Tryz.f112 body112 noLoop ([.int .i64 i, .int .i64 base])) = S.strconv_FormatInt_pre i base by kernel_rfl) hp))
noncomputable def sem112 : List W → Option (W × List (List W) × List Prop)
  | [.int .i64 y1, .int .i64 y2] => some (wr_s (S.strconv_FormatInt y1 y2), wo_s (S.strconv_FormatInt y1 y2), [S.strconv_FormatInt_pre y1 y2])
  | _ => none
noncomputable def c112 : Cfg El := c175.add 112 sem112
theorem c112_ok : CfgOk c112 := c175_ok.add (fun args w => Tryz.call112 args w) (fun vs r outs ps h hp => by
  unfold sem112 at h
  split at h
  · rename_i y1 y2; cases h; exact fn112 y1 y2 hp
  · cases h)
theorem fn176 (i : Int) (base : Int) (hp : fmtU_pre i base) : CallOk c112 176 [.int .u64 i, .int .i64 base] (wr_s (fmtU i base)) (wo_s (fmtU i base)) :=
  fmtU_calls i base hp (c := c112) rfl (fun _ _ h => h.1)
noncomputable def sem176 : List W → Option (W × List (List W) × List Prop)
  | [.int .u64 y1, .int .i64 y2] => some (wr_s (fmtU y1 y2), wo_s (fmtU y1 y2), [fmtU_pre y1 y2])
  | _ => none
noncomputable def c176 : Cfg El := c112.add 176 sem176
theorem c176_ok : CfgOk c176 := c112_ok.add (fun args w => Tryz.call176 args w) (fun vs r outs ps h hp => by
  unfold sem176 at h
  split at h
  · rename_i y1 y2; cases h; exact fn176 y1 y2 hp
  · cases h)
noncomputable def body113 : Code := (Tryz.f113.body).getD .skip
theorem fn113 (i : Int) (base : Int) (hp : S.strconv_FormatUint_pre i base) : CallOk c176 113 [.int .u64 i, .int .i64 base] (wr_s (S.strconv_FormatUint i base)) (wo_s (S.strconv_FormatUint i base)) :=
  (call_ok (c := c176) (f := 113) (fn := Tryz.f113) (code := body113) (args := ([.int .u64 i, .int .i64 base])) (loop := noLoop) (md := ⟨false, false⟩) (rd := rd_s) (wr := wr_s) (wo := wo_s) (r := (S.strconv_FormatUint i base)) c176_ok (by kernel_rfl) (by kernel_rfl) (by kernel_rfl) (no_loops (by kernel_rfl)) (by kernel_rfl) (by kernel_rfl) (by kernel_rfl)
    rw_s np_s no_s (by kernel_rfl) (Eq.mpr (show Vm.Tr.vc (Vm.Fn c176 Tryz.f113 body113 noLoop ([.int .u64 i, .int .i64 base])) = S.strconv_FormatUint_pre i base by kernel_rfl) hp))
noncomputable def sem113 : List W → Option (W × List (List W) × List Prop)
  | [.int .u64 y1, .int .i64 y2] => some (wr_s (S.strconv_FormatUint y1 y2), wo_s (S.strconv_FormatUint y1 y2), [S.strconv_FormatUint_pre y1 y2])
  | _ => none
noncomputable def c113 : Cfg El := c176.add 113 sem113
theorem c113_ok : CfgOk c113 := c176_ok.add (fun args w => Tryz.call113 args w) (fun vs r outs ps h hp => by
  unfold sem113 at h
  split at h
  · rename_i y1 y2; cases h; exact fn113 y1 y2 hp
  · cases h)
noncomputable def body57 : Code := (Tryz.f57.body).getD .skip
theorem fn57 (v : S.Value) (hp : S.value_Value_Text_pre v) : CallOk c113 57 [.agg [.int .i64 v.I.Lo, .int .i64 v.I.Hi, .int .u64 v.C.M, .int .u64 v.C.R]] (wr_s (S.value_Value_Text v)) (wo_s (S.value_Value_Text v)) :=
  (call_ok (c := c113) (f := 57) (fn := Tryz.f57) (code := body57) (args := ([.agg [.int .i64 v.I.Lo, .int .i64 v.I.Hi, .int .u64 v.C.M, .int .u64 v.C.R]])) (loop := noLoop) (md := ⟨false, false⟩) (rd := rd_s) (wr := wr_s) (wo := wo_s) (r := (S.value_Value_Text v)) c113_ok (by kernel_rfl) (by kernel_rfl) (by kernel_rfl) (no_loops (by kernel_rfl)) (by kernel_rfl) (by kernel_rfl) (by kernel_rfl)
    rw_s np_s no_s (by kernel_rfl) (Eq.mpr (show Vm.Tr.vc (Vm.Fn c113 Tryz.f57 body57 noLoop ([.agg [.int .i64 v.I.Lo, .int .i64 v.I.Hi, .int .u64 v.C.M, .int .u64 v.C.R]])) = S.value_Value_Text_pre v by kernel_rfl) hp))
noncomputable def sem57 : List W → Option (W × List (List W) × List Prop)
  | [.agg [.int .i64 y1, .int .i64 y2, .int .u64 y3, .int .u64 y4]] => some (wr_s (S.value_Value_Text (⟨(⟨y1, y2⟩ : S.Inter), (⟨y3, y4⟩ : S.Cong)⟩ : S.Value)), wo_s (S.value_Value_Text (⟨(⟨y1, y2⟩ : S.Inter), (⟨y3, y4⟩ : S.Cong)⟩ : S.Value)), [S.value_Value_Text_pre (⟨(⟨y1, y2⟩ : S.Inter), (⟨y3, y4⟩ : S.Cong)⟩ : S.Value)])
  | _ => none
noncomputable def c57 : Cfg El := c113.add 57 sem57
theorem c57_ok : CfgOk c57 := c113_ok.add (fun args w => Tryz.call57 args w) (fun vs r outs ps h hp => by
  unfold sem57 at h
  split at h
  · rename_i y1 y2 y3 y4; cases h; exact fn57 (⟨(⟨y1, y2⟩ : S.Inter), (⟨y3, y4⟩ : S.Cong)⟩ : S.Value) hp
  · cases h)
noncomputable def body58 : Code := (Tryz.f58.body).getD .skip
theorem fn58 (lo : Int) (hi : Int) (hp : S.value_Range_pre lo hi) : CallOk c57 58 [.int .i64 lo, .int .i64 hi] (wr_S27 (S.value_Range lo hi)) (wo_S27 (S.value_Range lo hi)) :=
  (call_ok (c := c57) (f := 58) (fn := Tryz.f58) (code := body58) (args := ([.int .i64 lo, .int .i64 hi])) (loop := noLoop) (md := ⟨false, false⟩) (rd := rd_S27) (wr := wr_S27) (wo := wo_S27) (r := (S.value_Range lo hi)) c57_ok (by kernel_rfl) (by kernel_rfl) (by kernel_rfl) (no_loops (by kernel_rfl)) (by kernel_rfl) (by kernel_rfl) (by kernel_rfl)
    rw_S27 np_S27 no_S27 (by kernel_rfl) (Eq.mpr (show Vm.Tr.vc (Vm.Fn c57 Tryz.f58 body58 noLoop ([.int .i64 lo, .int .i64 hi])) = S.value_Range_pre lo hi by kernel_rfl) hp))
noncomputable def sem58 : List W → Option (W × List (List W) × List Prop)
  | [.int .i64 y1, .int .i64 y2] => some (wr_S27 (S.value_Range y1 y2), wo_S27 (S.value_Range y1 y2), [S.value_Range_pre y1 y2])
  | _ => none
noncomputable def c58 : Cfg El := c57.add 58 sem58
theorem c58_ok : CfgOk c58 := c57_ok.add (fun args w => Tryz.call58 args w) (fun vs r outs ps h hp => by
  unfold sem58 at h
  split at h
  · rename_i y1 y2; cases h; exact fn58 y1 y2 hp
  · cases h)
noncomputable def body15 : Code := (Tryz.f15.body).getD .skip
theorem fn15 (hp : S.law22_works_pre) : CallOk c58 15 [] (wr_b (S.law22_works)) (wo_b (S.law22_works)) :=
  (call_ok (c := c58) (f := 15) (fn := Tryz.f15) (code := body15) (args := ([])) (loop := noLoop) (md := ⟨false, false⟩) (rd := rd_b) (wr := wr_b) (wo := wo_b) (r := S.law22_works) c58_ok (by kernel_rfl) (by kernel_rfl) (by kernel_rfl) (no_loops (by kernel_rfl)) (by kernel_rfl) (by kernel_rfl) (by kernel_rfl)
    rw_b np_b no_b (by kernel_rfl) (Eq.mpr (show Vm.Tr.vc (Vm.Fn c58 Tryz.f15 body15 noLoop ([])) = S.law22_works_pre by kernel_rfl) hp))
noncomputable def sem15 : List W → Option (W × List (List W) × List Prop)
  | [] => some (wr_b (S.law22_works), wo_b (S.law22_works), [S.law22_works_pre])
  | _ => none
noncomputable def c15 : Cfg El := c58.add 15 sem15
theorem c15_ok : CfgOk c15 := c58_ok.add (fun args w => Tryz.call15 args w) (fun vs r outs ps h hp => by
  unfold sem15 at h
  split at h
  · cases h; exact fn15 hp
  · cases h)
end Go.Proofs.YtcgafjhkefcdfaaGreatDoor
