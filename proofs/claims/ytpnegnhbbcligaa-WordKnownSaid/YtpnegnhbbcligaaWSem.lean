/-
  Printed by a program for this claim: functions of the code as plain functions, and that the code comes to them. Conditions: those that each theorem states.
-/
import Derived.Test.YtpnegnhbbcligaaWEnv
set_option linter.all false
namespace Go.Proofs.Ytpnegnhbbcligaa
open Go Go.Proofs Vm
attribute [local irreducible] Vm.Tr.vc Vm.Tr.out Vm.Fn Vm.Fn.out Vm.ev Vm.loopsOf Vm.Tr.noReq
noncomputable def rd_b : W → List (List W) → Option (Bool)
  | .bool x1, [] => some x1
  | _, _ => none
noncomputable def wr_b (x : Bool) : W := .bool x
noncomputable def wo_b (_x : Bool) : List (List W) := []
theorem rw_b (v : W) (os : List (List W)) (x : Bool) (h : rd_b v os = some x) : v = wr_b x ∧ os = wo_b x := by
  unfold rd_b at h
  split at h <;> first | (cases h; exact ⟨rfl, rfl⟩) | cases h
theorem np_b (x : Bool) : okv (fun _ => false) (wr_b x) = true := rfl
theorem no_b (x : Bool) : all (fun cs => all (ok0 fun _ => false) cs) (wo_b x) = true := rfl

noncomputable def body144 : Code := (Try.f144.body).getD .skip
theorem fn144 (x : Int) : CallOk base 144 [.int .i64 x] (wr_b (S.cmp_isNaNint64 x)) (wo_b (S.cmp_isNaNint64 x)) :=
  (call_ok (c := base) (f := 144) (fn := Try.f144) (code := body144) (args := ([.int .i64 x])) (loop := noLoop) (md := ⟨false, false⟩) (rd := rd_b) (wr := wr_b) (wo := wo_b) (r := (S.cmp_isNaNint64 x)) base_ok (by kernel_rfl) (by kernel_rfl) (by kernel_rfl) (no_loops (by kernel_rfl)) (by kernel_rfl) (by kernel_rfl) (by kernel_rfl)
    rw_b np_b no_b (by kernel_rfl) (Tr.vc_of_noReq (by kernel_rfl)))

noncomputable def sem144 : List W → Option (W × List (List W) × List Prop)
  | [.int .i64 y1] => some (wr_b (S.cmp_isNaNint64 y1), wo_b (S.cmp_isNaNint64 y1), [])
  | _ => none
noncomputable def c144 : Cfg El := base.add 144 sem144
theorem c144_ok : CfgOk c144 := base_ok.add (fun args w => Try.call144 args w) (fun vs r outs ps h hp => by
  unfold sem144 at h
  split at h
  · rename_i y1; cases h; exact fn144 y1
  · cases h)

noncomputable def rd_i64 : W → List (List W) → Option (Int)
  | .int .i64 x1, [] => some x1
  | _, _ => none
noncomputable def wr_i64 (x : Int) : W := .int .i64 x
noncomputable def wo_i64 (_x : Int) : List (List W) := []
theorem rw_i64 (v : W) (os : List (List W)) (x : Int) (h : rd_i64 v os = some x) : v = wr_i64 x ∧ os = wo_i64 x := by
  unfold rd_i64 at h
  split at h <;> first | (cases h; exact ⟨rfl, rfl⟩) | cases h
theorem np_i64 (x : Int) : okv (fun _ => false) (wr_i64 x) = true := rfl
theorem no_i64 (x : Int) : all (fun cs => all (ok0 fun _ => false) cs) (wo_i64 x) = true := rfl

noncomputable def body126 : Code := (Try.f126.body).getD .skip
theorem fn126 (x : Int) (y : Int) : CallOk c144 126 [.int .i64 x, .int .i64 y] (wr_i64 (S.cmp_Compareint64 x y)) (wo_i64 (S.cmp_Compareint64 x y)) :=
  (call_ok (c := c144) (f := 126) (fn := Try.f126) (code := body126) (args := ([.int .i64 x, .int .i64 y])) (loop := noLoop) (md := ⟨false, false⟩) (rd := rd_i64) (wr := wr_i64) (wo := wo_i64) (r := (S.cmp_Compareint64 x y)) c144_ok (by kernel_rfl) (by kernel_rfl) (by kernel_rfl) (no_loops (by kernel_rfl)) (by kernel_rfl) (by kernel_rfl) (by kernel_rfl)
    rw_i64 np_i64 no_i64 (by kernel_rfl) (Tr.vc_of_noReq (by kernel_rfl)))

noncomputable def sem126 : List W → Option (W × List (List W) × List Prop)
  | [.int .i64 y1, .int .i64 y2] => some (wr_i64 (S.cmp_Compareint64 y1 y2), wo_i64 (S.cmp_Compareint64 y1 y2), [])
  | _ => none
noncomputable def c126 : Cfg El := c144.add 126 sem126
theorem c126_ok : CfgOk c126 := c144_ok.add (fun args w => Try.call126 args w) (fun vs r outs ps h hp => by
  unfold sem126 at h
  split at h
  · rename_i y1 y2; cases h; exact fn126 y1 y2
  · cases h)

noncomputable def rd_b_b : W → List (List W) → Option (Bool × Bool)
  | .tup [.bool x1, .bool x2], [] => some ⟨x1, x2⟩
  | _, _ => none
noncomputable def wr_b_b (x : Bool × Bool) : W := .tup [.bool x.1, .bool x.2]
noncomputable def wo_b_b (_x : Bool × Bool) : List (List W) := []
theorem rw_b_b (v : W) (os : List (List W)) (x : Bool × Bool) (h : rd_b_b v os = some x) : v = wr_b_b x ∧ os = wo_b_b x := by
  unfold rd_b_b at h
  split at h <;> first | (cases h; exact ⟨rfl, rfl⟩) | cases h
theorem np_b_b (x : Bool × Bool) : okv (fun _ => false) (wr_b_b x) = true := rfl
theorem no_b_b (x : Bool × Bool) : all (fun cs => all (ok0 fun _ => false) cs) (wo_b_b x) = true := rfl

noncomputable def body92 : Code := (Try.f92.body).getD .skip
theorem fn92 (op : Int) (a : Int) (b : Int) : CallOk c126 92 [.int .i64 op, .int .i64 a, .int .i64 b] (wr_b_b (S.word_compares op a b)) (wo_b_b (S.word_compares op a b)) :=
  (call_ok (c := c126) (f := 92) (fn := Try.f92) (code := body92) (args := ([.int .i64 op, .int .i64 a, .int .i64 b])) (loop := noLoop) (md := ⟨false, false⟩) (rd := rd_b_b) (wr := wr_b_b) (wo := wo_b_b) (r := (S.word_compares op a b)) c126_ok (by kernel_rfl) (by kernel_rfl) (by kernel_rfl) (no_loops (by kernel_rfl)) (by kernel_rfl) (by kernel_rfl) (by kernel_rfl)
    rw_b_b np_b_b no_b_b (by kernel_rfl) (Tr.vc_of_noReq (by kernel_rfl)))

noncomputable def sem92 : List W → Option (W × List (List W) × List Prop)
  | [.int .i64 y1, .int .i64 y2, .int .i64 y3] => some (wr_b_b (S.word_compares y1 y2 y3), wo_b_b (S.word_compares y1 y2 y3), [])
  | _ => none
noncomputable def c92 : Cfg El := c126.add 92 sem92
theorem c92_ok : CfgOk c92 := c126_ok.add (fun args w => Try.call92 args w) (fun vs r outs ps h hp => by
  unfold sem92 at h
  split at h
  · rename_i y1 y2 y3; cases h; exact fn92 y1 y2 y3
  · cases h)

noncomputable def body50 : Code := (Try.f50.body).getD .skip
theorem fn50 (x : Bool) : CallOk c92 50 [.bool x] (wr_i64 (S.word_Bit x)) (wo_i64 (S.word_Bit x)) :=
  (call_ok (c := c92) (f := 50) (fn := Try.f50) (code := body50) (args := ([.bool x])) (loop := noLoop) (md := ⟨false, false⟩) (rd := rd_i64) (wr := wr_i64) (wo := wo_i64) (r := (S.word_Bit x)) c92_ok (by kernel_rfl) (by kernel_rfl) (by kernel_rfl) (no_loops (by kernel_rfl)) (by kernel_rfl) (by kernel_rfl) (by kernel_rfl)
    rw_i64 np_i64 no_i64 (by kernel_rfl) (Tr.vc_of_noReq (by kernel_rfl)))

noncomputable def sem50 : List W → Option (W × List (List W) × List Prop)
  | [.bool y1] => some (wr_i64 (S.word_Bit y1), wo_i64 (S.word_Bit y1), [])
  | _ => none
noncomputable def c50 : Cfg El := c92.add 50 sem50
theorem c50_ok : CfgOk c50 := c92_ok.add (fun args w => Try.call50 args w) (fun vs r outs ps h hp => by
  unfold sem50 at h
  split at h
  · rename_i y1; cases h; exact fn50 y1
  · cases h)

noncomputable def body49 : Code := (Try.f49.body).getD .skip
theorem fn49 (n : Int) : CallOk c50 49 [.int .i64 n] (wr_b (S.word_Truth n)) (wo_b (S.word_Truth n)) :=
  (call_ok (c := c50) (f := 49) (fn := Try.f49) (code := body49) (args := ([.int .i64 n])) (loop := noLoop) (md := ⟨false, false⟩) (rd := rd_b) (wr := wr_b) (wo := wo_b) (r := (S.word_Truth n)) c50_ok (by kernel_rfl) (by kernel_rfl) (by kernel_rfl) (no_loops (by kernel_rfl)) (by kernel_rfl) (by kernel_rfl) (by kernel_rfl)
    rw_b np_b no_b (by kernel_rfl) (Tr.vc_of_noReq (by kernel_rfl)))

noncomputable def sem49 : List W → Option (W × List (List W) × List Prop)
  | [.int .i64 y1] => some (wr_b (S.word_Truth y1), wo_b (S.word_Truth y1), [])
  | _ => none
noncomputable def c49 : Cfg El := c50.add 49 sem49
theorem c49_ok : CfgOk c49 := c50_ok.add (fun args w => Try.call49 args w) (fun vs r outs ps h hp => by
  unfold sem49 at h
  split at h
  · rename_i y1; cases h; exact fn49 y1
  · cases h)

noncomputable def body127 : Code := (Try.f127.body).getD .skip
theorem fn127 (a : Int) (b : Int) : CallOk c49 127 [.int .i64 a, .int .i64 b] (wr_i64 (S.word_reckons_1 a b)) (wo_i64 (S.word_reckons_1 a b)) :=
  (call_ok (c := c49) (f := 127) (fn := Try.f127) (code := body127) (args := ([.int .i64 a, .int .i64 b])) (loop := noLoop) (md := ⟨false, false⟩) (rd := rd_i64) (wr := wr_i64) (wo := wo_i64) (r := (S.word_reckons_1 a b)) c49_ok (by kernel_rfl) (by kernel_rfl) (by kernel_rfl) (no_loops (by kernel_rfl)) (by kernel_rfl) (by kernel_rfl) (by kernel_rfl)
    rw_i64 np_i64 no_i64 (by kernel_rfl) (Tr.vc_of_noReq (by kernel_rfl)))

noncomputable def sem127 : List W → Option (W × List (List W) × List Prop)
  | [.int .i64 y1, .int .i64 y2] => some (wr_i64 (S.word_reckons_1 y1 y2), wo_i64 (S.word_reckons_1 y1 y2), [])
  | _ => none
noncomputable def c127 : Cfg El := c49.add 127 sem127
theorem c127_ok : CfgOk c127 := c49_ok.add (fun args w => Try.call127 args w) (fun vs r outs ps h hp => by
  unfold sem127 at h
  split at h
  · rename_i y1 y2; cases h; exact fn127 y1 y2
  · cases h)

noncomputable def body128 : Code := (Try.f128.body).getD .skip
theorem fn128 (a : Int) (b : Int) : CallOk c127 128 [.int .i64 a, .int .i64 b] (wr_i64 (S.word_reckons_2 a b)) (wo_i64 (S.word_reckons_2 a b)) :=
  (call_ok (c := c127) (f := 128) (fn := Try.f128) (code := body128) (args := ([.int .i64 a, .int .i64 b])) (loop := noLoop) (md := ⟨false, false⟩) (rd := rd_i64) (wr := wr_i64) (wo := wo_i64) (r := (S.word_reckons_2 a b)) c127_ok (by kernel_rfl) (by kernel_rfl) (by kernel_rfl) (no_loops (by kernel_rfl)) (by kernel_rfl) (by kernel_rfl) (by kernel_rfl)
    rw_i64 np_i64 no_i64 (by kernel_rfl) (Tr.vc_of_noReq (by kernel_rfl)))

noncomputable def sem128 : List W → Option (W × List (List W) × List Prop)
  | [.int .i64 y1, .int .i64 y2] => some (wr_i64 (S.word_reckons_2 y1 y2), wo_i64 (S.word_reckons_2 y1 y2), [])
  | _ => none
noncomputable def c128 : Cfg El := c127.add 128 sem128
theorem c128_ok : CfgOk c128 := c127_ok.add (fun args w => Try.call128 args w) (fun vs r outs ps h hp => by
  unfold sem128 at h
  split at h
  · rename_i y1 y2; cases h; exact fn128 y1 y2
  · cases h)

noncomputable def body129 : Code := (Try.f129.body).getD .skip
theorem fn129 (a : Int) (b : Int) : CallOk c128 129 [.int .i64 a, .int .i64 b] (wr_i64 (S.word_reckons_3 a b)) (wo_i64 (S.word_reckons_3 a b)) :=
  (call_ok (c := c128) (f := 129) (fn := Try.f129) (code := body129) (args := ([.int .i64 a, .int .i64 b])) (loop := noLoop) (md := ⟨false, false⟩) (rd := rd_i64) (wr := wr_i64) (wo := wo_i64) (r := (S.word_reckons_3 a b)) c128_ok (by kernel_rfl) (by kernel_rfl) (by kernel_rfl) (no_loops (by kernel_rfl)) (by kernel_rfl) (by kernel_rfl) (by kernel_rfl)
    rw_i64 np_i64 no_i64 (by kernel_rfl) (Tr.vc_of_noReq (by kernel_rfl)))

noncomputable def sem129 : List W → Option (W × List (List W) × List Prop)
  | [.int .i64 y1, .int .i64 y2] => some (wr_i64 (S.word_reckons_3 y1 y2), wo_i64 (S.word_reckons_3 y1 y2), [])
  | _ => none
noncomputable def c129 : Cfg El := c128.add 129 sem129
theorem c129_ok : CfgOk c129 := c128_ok.add (fun args w => Try.call129 args w) (fun vs r outs ps h hp => by
  unfold sem129 at h
  split at h
  · rename_i y1 y2; cases h; exact fn129 y1 y2
  · cases h)

noncomputable def body130 : Code := (Try.f130.body).getD .skip
theorem fn130 (a : Int) (b : Int) : CallOk c129 130 [.int .i64 a, .int .i64 b] (wr_i64 (S.word_reckons_4 a b)) (wo_i64 (S.word_reckons_4 a b)) :=
  (call_ok (c := c129) (f := 130) (fn := Try.f130) (code := body130) (args := ([.int .i64 a, .int .i64 b])) (loop := noLoop) (md := ⟨false, false⟩) (rd := rd_i64) (wr := wr_i64) (wo := wo_i64) (r := (S.word_reckons_4 a b)) c129_ok (by kernel_rfl) (by kernel_rfl) (by kernel_rfl) (no_loops (by kernel_rfl)) (by kernel_rfl) (by kernel_rfl) (by kernel_rfl)
    rw_i64 np_i64 no_i64 (by kernel_rfl) (Tr.vc_of_noReq (by kernel_rfl)))

noncomputable def sem130 : List W → Option (W × List (List W) × List Prop)
  | [.int .i64 y1, .int .i64 y2] => some (wr_i64 (S.word_reckons_4 y1 y2), wo_i64 (S.word_reckons_4 y1 y2), [])
  | _ => none
noncomputable def c130 : Cfg El := c129.add 130 sem130
theorem c130_ok : CfgOk c130 := c129_ok.add (fun args w => Try.call130 args w) (fun vs r outs ps h hp => by
  unfold sem130 at h
  split at h
  · rename_i y1 y2; cases h; exact fn130 y1 y2
  · cases h)

noncomputable def body131 : Code := (Try.f131.body).getD .skip
theorem fn131 (a : Int) (b : Int) : CallOk c130 131 [.int .i64 a, .int .i64 b] (wr_i64 (S.word_reckons_5 a b)) (wo_i64 (S.word_reckons_5 a b)) :=
  (call_ok (c := c130) (f := 131) (fn := Try.f131) (code := body131) (args := ([.int .i64 a, .int .i64 b])) (loop := noLoop) (md := ⟨false, false⟩) (rd := rd_i64) (wr := wr_i64) (wo := wo_i64) (r := (S.word_reckons_5 a b)) c130_ok (by kernel_rfl) (by kernel_rfl) (by kernel_rfl) (no_loops (by kernel_rfl)) (by kernel_rfl) (by kernel_rfl) (by kernel_rfl)
    rw_i64 np_i64 no_i64 (by kernel_rfl) (Tr.vc_of_noReq (by kernel_rfl)))

noncomputable def sem131 : List W → Option (W × List (List W) × List Prop)
  | [.int .i64 y1, .int .i64 y2] => some (wr_i64 (S.word_reckons_5 y1 y2), wo_i64 (S.word_reckons_5 y1 y2), [])
  | _ => none
noncomputable def c131 : Cfg El := c130.add 131 sem131
theorem c131_ok : CfgOk c131 := c130_ok.add (fun args w => Try.call131 args w) (fun vs r outs ps h hp => by
  unfold sem131 at h
  split at h
  · rename_i y1 y2; cases h; exact fn131 y1 y2
  · cases h)

noncomputable def rd_u64 : W → List (List W) → Option (Int)
  | .int .u64 x1, [] => some x1
  | _, _ => none
noncomputable def wr_u64 (x : Int) : W := .int .u64 x
noncomputable def wo_u64 (_x : Int) : List (List W) := []
theorem rw_u64 (v : W) (os : List (List W)) (x : Int) (h : rd_u64 v os = some x) : v = wr_u64 x ∧ os = wo_u64 x := by
  unfold rd_u64 at h
  split at h <;> first | (cases h; exact ⟨rfl, rfl⟩) | cases h
theorem np_u64 (x : Int) : okv (fun _ => false) (wr_u64 x) = true := rfl
theorem no_u64 (x : Int) : all (fun cs => all (ok0 fun _ => false) cs) (wo_u64 x) = true := rfl

noncomputable def body52 : Code := (Try.f52.body).getD .skip
theorem fn52 (b : Int) : CallOk c131 52 [.int .i64 b] (wr_u64 (S.word_Shift b)) (wo_u64 (S.word_Shift b)) :=
  (call_ok (c := c131) (f := 52) (fn := Try.f52) (code := body52) (args := ([.int .i64 b])) (loop := noLoop) (md := ⟨false, false⟩) (rd := rd_u64) (wr := wr_u64) (wo := wo_u64) (r := (S.word_Shift b)) c131_ok (by kernel_rfl) (by kernel_rfl) (by kernel_rfl) (no_loops (by kernel_rfl)) (by kernel_rfl) (by kernel_rfl) (by kernel_rfl)
    rw_u64 np_u64 no_u64 (by kernel_rfl) (Tr.vc_of_noReq (by kernel_rfl)))

noncomputable def sem52 : List W → Option (W × List (List W) × List Prop)
  | [.int .i64 y1] => some (wr_u64 (S.word_Shift y1), wo_u64 (S.word_Shift y1), [])
  | _ => none
noncomputable def c52 : Cfg El := c131.add 52 sem52
theorem c52_ok : CfgOk c52 := c131_ok.add (fun args w => Try.call52 args w) (fun vs r outs ps h hp => by
  unfold sem52 at h
  split at h
  · rename_i y1; cases h; exact fn52 y1
  · cases h)

noncomputable def body132 : Code := (Try.f132.body).getD .skip
theorem fn132 (a : Int) (b : Int) (hp : S.word_reckons_6_pre a b) : CallOk c52 132 [.int .i64 a, .int .i64 b] (wr_i64 (S.word_reckons_6 a b)) (wo_i64 (S.word_reckons_6 a b)) :=
  (call_ok (c := c52) (f := 132) (fn := Try.f132) (code := body132) (args := ([.int .i64 a, .int .i64 b])) (loop := noLoop) (md := ⟨false, false⟩) (rd := rd_i64) (wr := wr_i64) (wo := wo_i64) (r := (S.word_reckons_6 a b)) c52_ok (by kernel_rfl) (by kernel_rfl) (by kernel_rfl) (no_loops (by kernel_rfl)) (by kernel_rfl) (by kernel_rfl) (by kernel_rfl)
    rw_i64 np_i64 no_i64 (by kernel_rfl) (Eq.mpr (show Vm.Tr.vc (Vm.Fn c52 Try.f132 body132 noLoop ([.int .i64 a, .int .i64 b])) = S.word_reckons_6_pre a b by kernel_rfl) hp))

noncomputable def sem132 : List W → Option (W × List (List W) × List Prop)
  | [.int .i64 y1, .int .i64 y2] => some (wr_i64 (S.word_reckons_6 y1 y2), wo_i64 (S.word_reckons_6 y1 y2), [S.word_reckons_6_pre y1 y2])
  | _ => none
noncomputable def c132 : Cfg El := c52.add 132 sem132
theorem c132_ok : CfgOk c132 := c52_ok.add (fun args w => Try.call132 args w) (fun vs r outs ps h hp => by
  unfold sem132 at h
  split at h
  · rename_i y1 y2; cases h; exact fn132 y1 y2 hp
  · cases h)

noncomputable def body133 : Code := (Try.f133.body).getD .skip
theorem fn133 (a : Int) (b : Int) (hp : S.word_reckons_7_pre a b) : CallOk c132 133 [.int .i64 a, .int .i64 b] (wr_i64 (S.word_reckons_7 a b)) (wo_i64 (S.word_reckons_7 a b)) :=
  (call_ok (c := c132) (f := 133) (fn := Try.f133) (code := body133) (args := ([.int .i64 a, .int .i64 b])) (loop := noLoop) (md := ⟨false, false⟩) (rd := rd_i64) (wr := wr_i64) (wo := wo_i64) (r := (S.word_reckons_7 a b)) c132_ok (by kernel_rfl) (by kernel_rfl) (by kernel_rfl) (no_loops (by kernel_rfl)) (by kernel_rfl) (by kernel_rfl) (by kernel_rfl)
    rw_i64 np_i64 no_i64 (by kernel_rfl) (Eq.mpr (show Vm.Tr.vc (Vm.Fn c132 Try.f133 body133 noLoop ([.int .i64 a, .int .i64 b])) = S.word_reckons_7_pre a b by kernel_rfl) hp))

noncomputable def sem133 : List W → Option (W × List (List W) × List Prop)
  | [.int .i64 y1, .int .i64 y2] => some (wr_i64 (S.word_reckons_7 y1 y2), wo_i64 (S.word_reckons_7 y1 y2), [S.word_reckons_7_pre y1 y2])
  | _ => none
noncomputable def c133 : Cfg El := c132.add 133 sem133
theorem c133_ok : CfgOk c133 := c132_ok.add (fun args w => Try.call133 args w) (fun vs r outs ps h hp => by
  unfold sem133 at h
  split at h
  · rename_i y1 y2; cases h; exact fn133 y1 y2 hp
  · cases h)

noncomputable def body134 : Code := (Try.f134.body).getD .skip
theorem fn134 (a : Int) (b : Int) : CallOk c133 134 [.int .i64 a, .int .i64 b] (wr_i64 (S.word_reckons_8 a b)) (wo_i64 (S.word_reckons_8 a b)) :=
  (call_ok (c := c133) (f := 134) (fn := Try.f134) (code := body134) (args := ([.int .i64 a, .int .i64 b])) (loop := noLoop) (md := ⟨false, false⟩) (rd := rd_i64) (wr := wr_i64) (wo := wo_i64) (r := (S.word_reckons_8 a b)) c133_ok (by kernel_rfl) (by kernel_rfl) (by kernel_rfl) (no_loops (by kernel_rfl)) (by kernel_rfl) (by kernel_rfl) (by kernel_rfl)
    rw_i64 np_i64 no_i64 (by kernel_rfl) (Tr.vc_of_noReq (by kernel_rfl)))

noncomputable def sem134 : List W → Option (W × List (List W) × List Prop)
  | [.int .i64 y1, .int .i64 y2] => some (wr_i64 (S.word_reckons_8 y1 y2), wo_i64 (S.word_reckons_8 y1 y2), [])
  | _ => none
noncomputable def c134 : Cfg El := c133.add 134 sem134
theorem c134_ok : CfgOk c134 := c133_ok.add (fun args w => Try.call134 args w) (fun vs r outs ps h hp => by
  unfold sem134 at h
  split at h
  · rename_i y1 y2; cases h; exact fn134 y1 y2
  · cases h)

noncomputable def body135 : Code := (Try.f135.body).getD .skip
theorem fn135 (a : Int) (b : Int) : CallOk c134 135 [.int .i64 a, .int .i64 b] (wr_i64 (S.word_reckons_9 a b)) (wo_i64 (S.word_reckons_9 a b)) :=
  (call_ok (c := c134) (f := 135) (fn := Try.f135) (code := body135) (args := ([.int .i64 a, .int .i64 b])) (loop := noLoop) (md := ⟨false, false⟩) (rd := rd_i64) (wr := wr_i64) (wo := wo_i64) (r := (S.word_reckons_9 a b)) c134_ok (by kernel_rfl) (by kernel_rfl) (by kernel_rfl) (no_loops (by kernel_rfl)) (by kernel_rfl) (by kernel_rfl) (by kernel_rfl)
    rw_i64 np_i64 no_i64 (by kernel_rfl) (Tr.vc_of_noReq (by kernel_rfl)))

noncomputable def sem135 : List W → Option (W × List (List W) × List Prop)
  | [.int .i64 y1, .int .i64 y2] => some (wr_i64 (S.word_reckons_9 y1 y2), wo_i64 (S.word_reckons_9 y1 y2), [])
  | _ => none
noncomputable def c135 : Cfg El := c134.add 135 sem135
theorem c135_ok : CfgOk c135 := c134_ok.add (fun args w => Try.call135 args w) (fun vs r outs ps h hp => by
  unfold sem135 at h
  split at h
  · rename_i y1 y2; cases h; exact fn135 y1 y2
  · cases h)

noncomputable def body136 : Code := (Try.f136.body).getD .skip
theorem fn136 (a : Int) (b : Int) : CallOk c135 136 [.int .i64 a, .int .i64 b] (wr_i64 (S.word_reckons_10 a b)) (wo_i64 (S.word_reckons_10 a b)) :=
  (call_ok (c := c135) (f := 136) (fn := Try.f136) (code := body136) (args := ([.int .i64 a, .int .i64 b])) (loop := noLoop) (md := ⟨false, false⟩) (rd := rd_i64) (wr := wr_i64) (wo := wo_i64) (r := (S.word_reckons_10 a b)) c135_ok (by kernel_rfl) (by kernel_rfl) (by kernel_rfl) (no_loops (by kernel_rfl)) (by kernel_rfl) (by kernel_rfl) (by kernel_rfl)
    rw_i64 np_i64 no_i64 (by kernel_rfl) (Tr.vc_of_noReq (by kernel_rfl)))

noncomputable def sem136 : List W → Option (W × List (List W) × List Prop)
  | [.int .i64 y1, .int .i64 y2] => some (wr_i64 (S.word_reckons_10 y1 y2), wo_i64 (S.word_reckons_10 y1 y2), [])
  | _ => none
noncomputable def c136 : Cfg El := c135.add 136 sem136
theorem c136_ok : CfgOk c136 := c135_ok.add (fun args w => Try.call136 args w) (fun vs r outs ps h hp => by
  unfold sem136 at h
  split at h
  · rename_i y1 y2; cases h; exact fn136 y1 y2
  · cases h)

noncomputable def body137 : Code := (Try.f137.body).getD .skip
theorem fn137 (a : Int) (b : Int) (hp : S.word_reckons_11_pre a b) : CallOk c136 137 [.int .i64 a, .int .i64 b] (wr_i64 (S.word_reckons_11 a b)) (wo_i64 (S.word_reckons_11 a b)) :=
  (call_ok (c := c136) (f := 137) (fn := Try.f137) (code := body137) (args := ([.int .i64 a, .int .i64 b])) (loop := noLoop) (md := ⟨false, false⟩) (rd := rd_i64) (wr := wr_i64) (wo := wo_i64) (r := (S.word_reckons_11 a b)) c136_ok (by kernel_rfl) (by kernel_rfl) (by kernel_rfl) (no_loops (by kernel_rfl)) (by kernel_rfl) (by kernel_rfl) (by kernel_rfl)
    rw_i64 np_i64 no_i64 (by kernel_rfl) (Eq.mpr (show Vm.Tr.vc (Vm.Fn c136 Try.f137 body137 noLoop ([.int .i64 a, .int .i64 b])) = S.word_reckons_11_pre a b by kernel_rfl) hp))

noncomputable def sem137 : List W → Option (W × List (List W) × List Prop)
  | [.int .i64 y1, .int .i64 y2] => some (wr_i64 (S.word_reckons_11 y1 y2), wo_i64 (S.word_reckons_11 y1 y2), [S.word_reckons_11_pre y1 y2])
  | _ => none
noncomputable def c137 : Cfg El := c136.add 137 sem137
theorem c137_ok : CfgOk c137 := c136_ok.add (fun args w => Try.call137 args w) (fun vs r outs ps h hp => by
  unfold sem137 at h
  split at h
  · rename_i y1 y2; cases h; exact fn137 y1 y2 hp
  · cases h)

noncomputable def body138 : Code := (Try.f138.body).getD .skip
theorem fn138 (a : Int) (b : Int) (hp : S.word_reckons_12_pre a b) : CallOk c137 138 [.int .i64 a, .int .i64 b] (wr_i64 (S.word_reckons_12 a b)) (wo_i64 (S.word_reckons_12 a b)) :=
  (call_ok (c := c137) (f := 138) (fn := Try.f138) (code := body138) (args := ([.int .i64 a, .int .i64 b])) (loop := noLoop) (md := ⟨false, false⟩) (rd := rd_i64) (wr := wr_i64) (wo := wo_i64) (r := (S.word_reckons_12 a b)) c137_ok (by kernel_rfl) (by kernel_rfl) (by kernel_rfl) (no_loops (by kernel_rfl)) (by kernel_rfl) (by kernel_rfl) (by kernel_rfl)
    rw_i64 np_i64 no_i64 (by kernel_rfl) (Eq.mpr (show Vm.Tr.vc (Vm.Fn c137 Try.f138 body138 noLoop ([.int .i64 a, .int .i64 b])) = S.word_reckons_12_pre a b by kernel_rfl) hp))

noncomputable def sem138 : List W → Option (W × List (List W) × List Prop)
  | [.int .i64 y1, .int .i64 y2] => some (wr_i64 (S.word_reckons_12 y1 y2), wo_i64 (S.word_reckons_12 y1 y2), [S.word_reckons_12_pre y1 y2])
  | _ => none
noncomputable def c138 : Cfg El := c137.add 138 sem138
theorem c138_ok : CfgOk c138 := c137_ok.add (fun args w => Try.call138 args w) (fun vs r outs ps h hp => by
  unfold sem138 at h
  split at h
  · rename_i y1 y2; cases h; exact fn138 y1 y2 hp
  · cases h)

noncomputable def rd_M101_f : W → List (List W) → Option ((List (Int × Go.Value)))
  | .cmap .i64 true x1, [] => some x1
  | _, _ => none
noncomputable def wr_M101_f (x : (List (Int × Go.Value))) : W := .cmap .i64 true x
noncomputable def wo_M101_f (_x : (List (Int × Go.Value))) : List (List W) := []
theorem rw_M101_f (v : W) (os : List (List W)) (x : (List (Int × Go.Value))) (h : rd_M101_f v os = some x) : v = wr_M101_f x ∧ os = wo_M101_f x := by
  unfold rd_M101_f at h
  split at h <;> first | (cases h; exact ⟨rfl, rfl⟩) | cases h
theorem np_M101_f (x : (List (Int × Go.Value))) : okv (fun _ => false) (wr_M101_f x) = true := rfl
theorem no_M101_f (x : (List (Int × Go.Value))) : all (fun cs => all (ok0 fun _ => false) cs) (wo_M101_f x) = true := rfl

noncomputable def body93 : Code := (Try.f93.body).getD .skip
theorem fn93 : CallOk c138 93 [] (wr_M101_f (S.word_reckons)) (wo_M101_f (S.word_reckons)) :=
  (call_ok (c := c138) (f := 93) (fn := Try.f93) (code := body93) (args := ([])) (loop := noLoop) (md := ⟨false, true⟩) (rd := rd_M101_f) (wr := wr_M101_f) (wo := wo_M101_f) (r := S.word_reckons) c138_ok (by kernel_rfl) (by kernel_rfl) (by kernel_rfl) (no_loops (by kernel_rfl)) (by kernel_rfl) (by kernel_rfl) (by kernel_rfl)
    rw_M101_f np_M101_f no_M101_f (by kernel_rfl) (Tr.vc_of_noReq (by kernel_rfl)))

noncomputable def sem93 : List W → Option (W × List (List W) × List Prop)
  | [] => some (wr_M101_f (S.word_reckons), wo_M101_f (S.word_reckons), [])
  | _ => none
noncomputable def c93 : Cfg El := c138.add 93 sem93
theorem c93_ok : CfgOk c93 := c138_ok.add (fun args w => Try.call93 args w) (fun vs r outs ps h hp => by
  unfold sem93 at h
  split at h
  · cases h; exact fn93
  · cases h)

noncomputable def body54 : Code := (Try.f54.body).getD .skip
theorem fn54 (op : Int) : CallOk c93 54 [.int .i64 op] (wr_b (S.word_Traps op)) (wo_b (S.word_Traps op)) :=
  (call_ok (c := c93) (f := 54) (fn := Try.f54) (code := body54) (args := ([.int .i64 op])) (loop := noLoop) (md := ⟨false, false⟩) (rd := rd_b) (wr := wr_b) (wo := wo_b) (r := (S.word_Traps op)) c93_ok (by kernel_rfl) (by kernel_rfl) (by kernel_rfl) (no_loops (by kernel_rfl)) (by kernel_rfl) (by kernel_rfl) (by kernel_rfl)
    rw_b np_b no_b (by kernel_rfl) (Tr.vc_of_noReq (by kernel_rfl)))

noncomputable def sem54 : List W → Option (W × List (List W) × List Prop)
  | [.int .i64 y1] => some (wr_b (S.word_Traps y1), wo_b (S.word_Traps y1), [])
  | _ => none
noncomputable def c54 : Cfg El := c93.add 54 sem54
theorem c54_ok : CfgOk c54 := c93_ok.add (fun args w => Try.call54 args w) (fun vs r outs ps h hp => by
  unfold sem54 at h
  split at h
  · rename_i y1; cases h; exact fn54 y1
  · cases h)

noncomputable def rd_i64_b : W → List (List W) → Option (Int × Bool)
  | .tup [.int .i64 x1, .bool x2], [] => some ⟨x1, x2⟩
  | _, _ => none
noncomputable def wr_i64_b (x : Int × Bool) : W := .tup [.int .i64 x.1, .bool x.2]
noncomputable def wo_i64_b (_x : Int × Bool) : List (List W) := []
theorem rw_i64_b (v : W) (os : List (List W)) (x : Int × Bool) (h : rd_i64_b v os = some x) : v = wr_i64_b x ∧ os = wo_i64_b x := by
  unfold rd_i64_b at h
  split at h <;> first | (cases h; exact ⟨rfl, rfl⟩) | cases h
theorem np_i64_b (x : Int × Bool) : okv (fun _ => false) (wr_i64_b x) = true := rfl
theorem no_i64_b (x : Int × Bool) : all (fun cs => all (ok0 fun _ => false) cs) (wo_i64_b x) = true := rfl

noncomputable def body45 : Code := (Try.f45.body).getD .skip
theorem fn45 (op : Int) (a : Int) (b : Int) (hp : S.word_Do_pre op a b) : CallOk c54 45 [.int .i64 op, .int .i64 a, .int .i64 b] (wr_i64_b (S.word_Do op a b)) (wo_i64_b (S.word_Do op a b)) :=
  (call_ok (c := c54) (f := 45) (fn := Try.f45) (code := body45) (args := ([.int .i64 op, .int .i64 a, .int .i64 b])) (loop := noLoop) (md := ⟨false, false⟩) (rd := rd_i64_b) (wr := wr_i64_b) (wo := wo_i64_b) (r := (S.word_Do op a b)) c54_ok (by kernel_rfl) (by kernel_rfl) (by kernel_rfl) (no_loops (by kernel_rfl)) (by kernel_rfl) (by kernel_rfl) (by kernel_rfl)
    rw_i64_b np_i64_b no_i64_b (by kernel_rfl) (Eq.mpr (show Vm.Tr.vc (Vm.Fn c54 Try.f45 body45 noLoop ([.int .i64 op, .int .i64 a, .int .i64 b])) = S.word_Do_pre op a b by kernel_rfl) hp))

noncomputable def sem45 : List W → Option (W × List (List W) × List Prop)
  | [.int .i64 y1, .int .i64 y2, .int .i64 y3] => some (wr_i64_b (S.word_Do y1 y2 y3), wo_i64_b (S.word_Do y1 y2 y3), [S.word_Do_pre y1 y2 y3])
  | _ => none
noncomputable def c45 : Cfg El := c54.add 45 sem45
theorem c45_ok : CfgOk c45 := c54_ok.add (fun args w => Try.call45 args w) (fun vs r outs ps h hp => by
  unfold sem45 at h
  split at h
  · rename_i y1 y2 y3; cases h; exact fn45 y1 y2 y3 hp
  · cases h)

noncomputable def body94 : Code := (Try.f94.body).getD .skip
theorem fn94 (x : Bool) : CallOk c45 94 [.bool x] (wr_i64 (S.ref09_bit x)) (wo_i64 (S.ref09_bit x)) :=
  (call_ok (c := c45) (f := 94) (fn := Try.f94) (code := body94) (args := ([.bool x])) (loop := noLoop) (md := ⟨false, false⟩) (rd := rd_i64) (wr := wr_i64) (wo := wo_i64) (r := (S.ref09_bit x)) c45_ok (by kernel_rfl) (by kernel_rfl) (by kernel_rfl) (no_loops (by kernel_rfl)) (by kernel_rfl) (by kernel_rfl) (by kernel_rfl)
    rw_i64 np_i64 no_i64 (by kernel_rfl) (Tr.vc_of_noReq (by kernel_rfl)))

noncomputable def sem94 : List W → Option (W × List (List W) × List Prop)
  | [.bool y1] => some (wr_i64 (S.ref09_bit y1), wo_i64 (S.ref09_bit y1), [])
  | _ => none
noncomputable def c94 : Cfg El := c45.add 94 sem94
theorem c94_ok : CfgOk c94 := c45_ok.add (fun args w => Try.call94 args w) (fun vs r outs ps h hp => by
  unfold sem94 at h
  split at h
  · rename_i y1; cases h; exact fn94 y1
  · cases h)

noncomputable def rd_A106 : W → List (List W) → Option ((List Int))
  | .arr 3 false 64 x1, [] => some x1
  | _, _ => none
noncomputable def wr_A106 (x : (List Int)) : W := .arr 3 false 64 x
noncomputable def wo_A106 (_x : (List Int)) : List (List W) := []
theorem rw_A106 (v : W) (os : List (List W)) (x : (List Int)) (h : rd_A106 v os = some x) : v = wr_A106 x ∧ os = wo_A106 x := by
  unfold rd_A106 at h
  split at h <;> first | (cases h; exact ⟨rfl, rfl⟩) | cases h
theorem np_A106 (x : (List Int)) : okv (fun _ => false) (wr_A106 x) = true := rfl
theorem no_A106 (x : (List Int)) : all (fun cs => all (ok0 fun _ => false) cs) (wo_A106 x) = true := rfl

noncomputable def body103 : Code := (Try.f103.body).getD .skip
noncomputable def lb103_0 : Code := ((nth (loopsOf 0 body103) 0).getD (0, .skip)).2
noncomputable def px103_0 : List W → Option S.ref09_digits_L0
  | [.ptr 3 0, .int .u64 y1, .int .i64 y2, .rowc 3 false (some 64) y3] => some ⟨y1, y2, y3⟩
  | _ => none
noncomputable def tx103_0 (x : S.ref09_digits_L0) : List W := [.ptr 3 0, .int .u64 x.u, .int .i64 x.i, .rowc 3 false (some 64) x.out]
noncomputable def py103_0 : Ex → List W → Option (S.ref09_digits_L0)
  | .exit 0, [.ptr 3 0, .int .u64 y1, .int .i64 y2, .rowc 3 false (some 64) y3] => some ⟨y1, y2, y3⟩
  | _, _ => none
noncomputable def ld103_0 : LD El where
  X := S.ref09_digits_L0
  Y := S.ref09_digits_L0
  keys := [.slot 3, .slot 4, .slot 5, .row 3]
  fits := [0, 36, 3, 0]
  px := px103_0
  tx := tx103_0
  okeys := [.slot 3, .slot 4, .slot 5, .row 3]
  ofits := [0, 36, 3, 0]
  py := py103_0
  ty := fun y => tx103_0 y
  oex := fun _ => .exit 0
  junk := [.slot 8, .slot 9, .slot 10, .slot 11, .slot 12, .slot 13, .slot 14, .slot 15, .slot 16, .slot 17, .slot 18]
  rows := []
noncomputable def lo103_0 : S.ref09_digits_L0 → Tr El := fun y => .leaf (.exit 0) (zipK ld103_0.okeys (tx103_0 y) ++ junkK ld103_0.junk)
noncomputable def loop103 : Nat → Env El → Tr El
  | 0 => ld103_0.tree c94 Try.f103.ntmps 0 lb103_0 S.ref09_digits_L0_run lo103_0 S.ref09_digits_L0_step S.ref09_digits_L0_vcs
  | _ => fun _ => .fail
theorem lok103_0 : ∀ w0 S0, LoopOk c94 Try.f103.ntmps w0 S0 loop103 0 lb103_0 :=
  loop_ok (c := c94) (n := Try.f103.ntmps) c94_ok mixed ld103_0 (body := lb103_0) (key := 0) (loop := loop103) (F := S.ref09_digits_L0_run) (out := lo103_0) (step := S.ref09_digits_L0_step) (vcs := S.ref09_digits_L0_vcs)
    (fun _ => by kernel_rfl) (no_loops (by kernel_rfl)) rfl rfl
    (fun vs x h => by unfold ld103_0 px103_0 at h; dsimp only at h; split at h <;> first | (cases h; rfl) | cases h)
    (fun e vs y h => by unfold ld103_0 py103_0 at h; dsimp only at h; split at h <;> first | (cases h; exact ⟨rfl, rfl⟩) | cases h)
    (by kernel_rfl) (fun _ => rfl) (fun _ _ h => h) (fun x => by kernel_rfl) (fun x h => Eq.mpr (show Vm.Tr.vc (Vm.ev c94 Try.f103.ntmps loop103 0 lb103_0 (ld103_0.vars x) []) = S.ref09_digits_L0_vcs x by kernel_rfl) h)
theorem fn103 (n : Int) (hp : S.ref09_digits_pre n) : CallOk c94 103 [.int .i64 n] (wr_A106 (S.ref09_digits n)) (wo_A106 (S.ref09_digits n)) :=
  (call_ok (c := c94) (f := 103) (fn := Try.f103) (code := body103) (args := ([.int .i64 n])) (loop := loop103) (md := ⟨false, false⟩) (rd := rd_A106) (wr := wr_A106) (wo := wo_A106) (r := (S.ref09_digits n)) c94_ok (by kernel_rfl) (by kernel_rfl) (by kernel_rfl) (loops_all (l := [(0, lb103_0)]) (by kernel_rfl) ⟨lok103_0, trivial⟩) (by kernel_rfl) (by kernel_rfl) (by kernel_rfl)
    rw_A106 np_A106 no_A106 (by kernel_rfl) (Eq.mpr (show Vm.Tr.vc (Vm.Fn c94 Try.f103 body103 loop103 ([.int .i64 n])) = S.ref09_digits_pre n by kernel_rfl) hp))

noncomputable def sem103 : List W → Option (W × List (List W) × List Prop)
  | [.int .i64 y1] => some (wr_A106 (S.ref09_digits y1), wo_A106 (S.ref09_digits y1), [S.ref09_digits_pre y1])
  | _ => none
noncomputable def c103 : Cfg El := c94.add 103 sem103
theorem c103_ok : CfgOk c103 := c94_ok.add (fun args w => Try.call103 args w) (fun vs r outs ps h hp => by
  unfold sem103 at h
  split at h
  · rename_i y1; cases h; exact fn103 y1 hp
  · cases h)

noncomputable def body95 : Code := (Try.f95.body).getD .skip
noncomputable def lb95_0 : Code := ((nth (loopsOf 0 body95) 0).getD (0, .skip)).2
noncomputable def px95_0 : List W → Option S.ref09_less_L0
  | [.bool y1, .ptr 5 0, .ptr 6 0, .int .i64 y2, .rowc 3 false (some 64) y3, .rowc 3 false (some 64) y4] => some ⟨y1, y2, y3, y4⟩
  | _ => none
noncomputable def tx95_0 (x : S.ref09_less_L0) : List W := [.bool x.t4, .ptr 5 0, .ptr 6 0, .int .i64 x.i, .rowc 3 false (some 64) x.vx, .rowc 3 false (some 64) x.y]
noncomputable def py95_0 : Ex → List W → Option (Bool × S.ref09_less_L0)
  | .ret, [.bool y1, .ptr 5 0, .ptr 6 0, .int .i64 y2, .rowc 3 false (some 64) y3, .rowc 3 false (some 64) y4] => some ⟨true, ⟨y1, y2, y3, y4⟩⟩
  | .exit 0, [.bool y1, .ptr 5 0, .ptr 6 0, .int .i64 y2, .rowc 3 false (some 64) y3, .rowc 3 false (some 64) y4] => some ⟨false, ⟨y1, y2, y3, y4⟩⟩
  | _, _ => none
noncomputable def ld95_0 : LD El where
  X := S.ref09_less_L0
  Y := Bool × S.ref09_less_L0
  keys := [.slot 4, .slot 5, .slot 6, .slot 7, .row 5, .row 6]
  fits := [4, 0, 0, 3, 0, 0]
  px := px95_0
  tx := tx95_0
  okeys := [.slot 4, .slot 5, .slot 6, .slot 7, .row 5, .row 6]
  ofits := [4, 0, 0, 3, 0, 0]
  py := py95_0
  ty := fun y => bif y.1 then tx95_0 y.2 else tx95_0 y.2
  oex := fun y => bif y.1 then .ret else .exit 0
  junk := [.slot 20, .slot 21, .slot 22, .slot 23, .slot 24, .slot 25, .slot 26, .slot 27, .slot 28, .slot 29, .slot 30, .slot 31, .slot 32, .slot 33, .slot 34, .slot 35, .slot 36, .slot 37]
  rows := []
noncomputable def lo95_0 : (Bool × S.ref09_less_L0) → Tr El := fun y => .node y.1 (.leaf (.ret) (zipK ld95_0.okeys (tx95_0 y.2) ++ junkK ld95_0.junk)) (.leaf (.exit 0) (zipK ld95_0.okeys (tx95_0 y.2) ++ junkK ld95_0.junk))
noncomputable def loop95 : Nat → Env El → Tr El
  | 0 => ld95_0.tree c103 Try.f95.ntmps 0 lb95_0 S.ref09_less_L0_run lo95_0 S.ref09_less_L0_step S.ref09_less_L0_vcs
  | _ => fun _ => .fail
theorem lok95_0 : ∀ w0 S0, LoopOk c103 Try.f95.ntmps w0 S0 loop95 0 lb95_0 :=
  loop_ok (c := c103) (n := Try.f95.ntmps) c103_ok mixed ld95_0 (body := lb95_0) (key := 0) (loop := loop95) (F := S.ref09_less_L0_run) (out := lo95_0) (step := S.ref09_less_L0_step) (vcs := S.ref09_less_L0_vcs)
    (fun _ => by kernel_rfl) (no_loops (by kernel_rfl)) rfl rfl
    (fun vs x h => by unfold ld95_0 px95_0 at h; dsimp only at h; split at h <;> first | (cases h; rfl) | cases h)
    (fun e vs y h => by unfold ld95_0 py95_0 at h; dsimp only at h; split at h <;> first | (cases h; exact ⟨rfl, rfl⟩) | cases h)
    (by kernel_rfl) (fun | (true, _) => rfl | (false, _) => rfl) (fun | (true, _), _, h => h.1 rfl | (false, _), _, h => h.2 rfl) (fun x => by kernel_rfl) (fun x h => Eq.mpr (show Vm.Tr.vc (Vm.ev c103 Try.f95.ntmps loop95 0 lb95_0 (ld95_0.vars x) []) = S.ref09_less_L0_vcs x by kernel_rfl) h)
theorem fn95 (a : Int) (b : Int) (hp : S.ref09_less_pre a b) : CallOk c103 95 [.int .i64 a, .int .i64 b] (wr_b (S.ref09_less a b)) (wo_b (S.ref09_less a b)) :=
  (call_ok (c := c103) (f := 95) (fn := Try.f95) (code := body95) (args := ([.int .i64 a, .int .i64 b])) (loop := loop95) (md := ⟨false, false⟩) (rd := rd_b) (wr := wr_b) (wo := wo_b) (r := (S.ref09_less a b)) c103_ok (by kernel_rfl) (by kernel_rfl) (by kernel_rfl) (loops_all (l := [(0, lb95_0)]) (by kernel_rfl) ⟨lok95_0, trivial⟩) (by kernel_rfl) (by kernel_rfl) (by kernel_rfl)
    rw_b np_b no_b (by kernel_rfl) (Eq.mpr (show Vm.Tr.vc (Vm.Fn c103 Try.f95 body95 loop95 ([.int .i64 a, .int .i64 b])) = S.ref09_less_pre a b by kernel_rfl) hp))

noncomputable def sem95 : List W → Option (W × List (List W) × List Prop)
  | [.int .i64 y1, .int .i64 y2] => some (wr_b (S.ref09_less y1 y2), wo_b (S.ref09_less y1 y2), [S.ref09_less_pre y1 y2])
  | _ => none
noncomputable def c95 : Cfg El := c103.add 95 sem95
theorem c95_ok : CfgOk c95 := c103_ok.add (fun args w => Try.call95 args w) (fun vs r outs ps h hp => by
  unfold sem95 at h
  split at h
  · rename_i y1 y2; cases h; exact fn95 y1 y2 hp
  · cases h)

noncomputable def body139 : Code := (Try.f139.body).getD .skip
noncomputable def lb139_0 : Code := ((nth (loopsOf 0 body139) 0).getD (0, .skip)).2
noncomputable def px139_0 : List W → Option S.ref09_number_L0
  | [.ptr 1 0, .int .u64 y1, .int .i64 y2, .rowc 3 false (some 64) y3] => some ⟨y1, y2, y3⟩
  | _ => none
noncomputable def tx139_0 (x : S.ref09_number_L0) : List W := [.ptr 1 0, .int .u64 x.u, .int .i64 x.i, .rowc 3 false (some 64) x.d]
noncomputable def py139_0 : Ex → List W → Option (S.ref09_number_L0)
  | .exit 0, [.ptr 1 0, .int .u64 y1, .int .i64 y2, .rowc 3 false (some 64) y3] => some ⟨y1, y2, y3⟩
  | _, _ => none
noncomputable def ld139_0 : LD El where
  X := S.ref09_number_L0
  Y := S.ref09_number_L0
  keys := [.slot 1, .slot 3, .slot 4, .row 1]
  fits := [0, 36, 3, 0]
  px := px139_0
  tx := tx139_0
  okeys := [.slot 1, .slot 3, .slot 4, .row 1]
  ofits := [0, 36, 3, 0]
  py := py139_0
  ty := fun y => tx139_0 y
  oex := fun _ => .exit 0
  junk := [.slot 5, .slot 6, .slot 7, .slot 8, .slot 9, .slot 10, .slot 11, .slot 12, .slot 13, .slot 14, .slot 15]
  rows := []
noncomputable def lo139_0 : S.ref09_number_L0 → Tr El := fun y => .leaf (.exit 0) (zipK ld139_0.okeys (tx139_0 y) ++ junkK ld139_0.junk)
noncomputable def loop139 : Nat → Env El → Tr El
  | 0 => ld139_0.tree c95 Try.f139.ntmps 0 lb139_0 S.ref09_number_L0_run lo139_0 S.ref09_number_L0_step S.ref09_number_L0_vcs
  | _ => fun _ => .fail
theorem lok139_0 : ∀ w0 S0, LoopOk c95 Try.f139.ntmps w0 S0 loop139 0 lb139_0 :=
  loop_ok (c := c95) (n := Try.f139.ntmps) c95_ok mixed ld139_0 (body := lb139_0) (key := 0) (loop := loop139) (F := S.ref09_number_L0_run) (out := lo139_0) (step := S.ref09_number_L0_step) (vcs := S.ref09_number_L0_vcs)
    (fun _ => by kernel_rfl) (no_loops (by kernel_rfl)) rfl rfl
    (fun vs x h => by unfold ld139_0 px139_0 at h; dsimp only at h; split at h <;> first | (cases h; rfl) | cases h)
    (fun e vs y h => by unfold ld139_0 py139_0 at h; dsimp only at h; split at h <;> first | (cases h; exact ⟨rfl, rfl⟩) | cases h)
    (by kernel_rfl) (fun _ => rfl) (fun _ _ h => h) (fun x => by kernel_rfl) (fun x h => Eq.mpr (show Vm.Tr.vc (Vm.ev c95 Try.f139.ntmps loop139 0 lb139_0 (ld139_0.vars x) []) = S.ref09_number_L0_vcs x by kernel_rfl) h)
theorem fn139 (d : (List Int)) (hp : S.ref09_number_pre d) : CallOk c95 139 [.arr 3 false 64 d] (wr_i64 (S.ref09_number d)) (wo_i64 (S.ref09_number d)) :=
  (call_ok (c := c95) (f := 139) (fn := Try.f139) (code := body139) (args := ([.arr 3 false 64 d])) (loop := loop139) (md := ⟨false, false⟩) (rd := rd_i64) (wr := wr_i64) (wo := wo_i64) (r := (S.ref09_number d)) c95_ok (by kernel_rfl) (by kernel_rfl) (by kernel_rfl) (loops_all (l := [(0, lb139_0)]) (by kernel_rfl) ⟨lok139_0, trivial⟩) (by kernel_rfl) (by kernel_rfl) (by kernel_rfl)
    rw_i64 np_i64 no_i64 (by kernel_rfl) (Eq.mpr (show Vm.Tr.vc (Vm.Fn c95 Try.f139 body139 loop139 ([.arr 3 false 64 d])) = S.ref09_number_pre d by kernel_rfl) hp))

noncomputable def sem139 : List W → Option (W × List (List W) × List Prop)
  | [.arr 3 false 64 y1] => some (wr_i64 (S.ref09_number y1), wo_i64 (S.ref09_number y1), [S.ref09_number_pre y1])
  | _ => none
noncomputable def c139 : Cfg El := c95.add 139 sem139
theorem c139_ok : CfgOk c139 := c95_ok.add (fun args w => Try.call139 args w) (fun vs r outs ps h hp => by
  unfold sem139 at h
  split at h
  · rename_i y1; cases h; exact fn139 y1 hp
  · cases h)

noncomputable def body96 : Code := (Try.f96.body).getD .skip
noncomputable def lb96_0 : Code := ((nth (loopsOf 0 body96) 0).getD (0, .skip)).2
noncomputable def px96_0 : List W → Option S.ref09_each_L0
  | [.int .i64 y1, .ptr 7 0, .ptr 8 0, .ptr 9 0, .int .i64 y2, .rowc 3 false (some 64) y3, .rowc 3 false (some 64) y4, .rowc 3 false (some 64) y5] => some ⟨y1, y2, y3, y4, y5⟩
  | _ => none
noncomputable def tx96_0 (x : S.ref09_each_L0) : List W := [.int .i64 x.how, .ptr 7 0, .ptr 8 0, .ptr 9 0, .int .i64 x.i, .rowc 3 false (some 64) x.vx, .rowc 3 false (some 64) x.y, .rowc 3 false (some 64) x.out]
noncomputable def py96_0 : Ex → List W → Option (S.ref09_each_L0)
  | .exit 0, [.int .i64 y1, .ptr 7 0, .ptr 8 0, .ptr 9 0, .int .i64 y2, .rowc 3 false (some 64) y3, .rowc 3 false (some 64) y4, .rowc 3 false (some 64) y5] => some ⟨y1, y2, y3, y4, y5⟩
  | _, _ => none
noncomputable def ld96_0 : LD El where
  X := S.ref09_each_L0
  Y := S.ref09_each_L0
  keys := [.slot 2, .slot 7, .slot 8, .slot 9, .slot 10, .row 7, .row 8, .row 9]
  fits := [3, 0, 0, 0, 3, 0, 0, 0]
  px := px96_0
  tx := tx96_0
  okeys := [.slot 2, .slot 7, .slot 8, .slot 9, .slot 10, .row 7, .row 8, .row 9]
  ofits := [3, 0, 0, 0, 3, 0, 0, 0]
  py := py96_0
  ty := fun y => tx96_0 y
  oex := fun _ => .exit 0
  junk := [.slot 11, .slot 16, .slot 17, .slot 18, .slot 19, .slot 20, .slot 21, .slot 22, .slot 23, .slot 24, .slot 25, .slot 26, .slot 27, .slot 28, .slot 29, .slot 30, .slot 31, .slot 32, .slot 33, .slot 34, .slot 35, .slot 36, .slot 37, .slot 38, .slot 39, .slot 40, .slot 41, .slot 42, .slot 43, .slot 44, .slot 45, .slot 46, .slot 47, .slot 48, .slot 49, .slot 50]
  rows := []
noncomputable def lo96_0 : S.ref09_each_L0 → Tr El := fun y => .leaf (.exit 0) (zipK ld96_0.okeys (tx96_0 y) ++ junkK ld96_0.junk)
noncomputable def loop96 : Nat → Env El → Tr El
  | 0 => ld96_0.tree c139 Try.f96.ntmps 0 lb96_0 S.ref09_each_L0_run lo96_0 S.ref09_each_L0_step S.ref09_each_L0_vcs
  | _ => fun _ => .fail
theorem lok96_0 : ∀ w0 S0, LoopOk c139 Try.f96.ntmps w0 S0 loop96 0 lb96_0 :=
  loop_ok (c := c139) (n := Try.f96.ntmps) c139_ok mixed ld96_0 (body := lb96_0) (key := 0) (loop := loop96) (F := S.ref09_each_L0_run) (out := lo96_0) (step := S.ref09_each_L0_step) (vcs := S.ref09_each_L0_vcs)
    (fun _ => by kernel_rfl) (no_loops (by kernel_rfl)) rfl rfl
    (fun vs x h => by unfold ld96_0 px96_0 at h; dsimp only at h; split at h <;> first | (cases h; rfl) | cases h)
    (fun e vs y h => by unfold ld96_0 py96_0 at h; dsimp only at h; split at h <;> first | (cases h; exact ⟨rfl, rfl⟩) | cases h)
    (by kernel_rfl) (fun _ => rfl) (fun _ _ h => h) (fun x => by kernel_rfl) (fun x h => Eq.mpr (show Vm.Tr.vc (Vm.ev c139 Try.f96.ntmps loop96 0 lb96_0 (ld96_0.vars x) []) = S.ref09_each_L0_vcs x by kernel_rfl) h)
theorem fn96 (a : Int) (b : Int) (how : Int) (hp : S.ref09_each_pre a b how) : CallOk c139 96 [.int .i64 a, .int .i64 b, .int .i64 how] (wr_i64 (S.ref09_each a b how)) (wo_i64 (S.ref09_each a b how)) :=
  (call_ok (c := c139) (f := 96) (fn := Try.f96) (code := body96) (args := ([.int .i64 a, .int .i64 b, .int .i64 how])) (loop := loop96) (md := ⟨false, false⟩) (rd := rd_i64) (wr := wr_i64) (wo := wo_i64) (r := (S.ref09_each a b how)) c139_ok (by kernel_rfl) (by kernel_rfl) (by kernel_rfl) (loops_all (l := [(0, lb96_0)]) (by kernel_rfl) ⟨lok96_0, trivial⟩) (by kernel_rfl) (by kernel_rfl) (by kernel_rfl)
    rw_i64 np_i64 no_i64 (by kernel_rfl) (Eq.mpr (show Vm.Tr.vc (Vm.Fn c139 Try.f96 body96 loop96 ([.int .i64 a, .int .i64 b, .int .i64 how])) = S.ref09_each_pre a b how by kernel_rfl) hp))

noncomputable def sem96 : List W → Option (W × List (List W) × List Prop)
  | [.int .i64 y1, .int .i64 y2, .int .i64 y3] => some (wr_i64 (S.ref09_each y1 y2 y3), wo_i64 (S.ref09_each y1 y2 y3), [S.ref09_each_pre y1 y2 y3])
  | _ => none
noncomputable def c96 : Cfg El := c139.add 96 sem96
theorem c96_ok : CfgOk c96 := c139_ok.add (fun args w => Try.call96 args w) (fun vs r outs ps h hp => by
  unfold sem96 at h
  split at h
  · rename_i y1 y2 y3; cases h; exact fn96 y1 y2 y3 hp
  · cases h)

noncomputable def body53 : Code := (Try.f53.body).getD .skip
noncomputable def lb53_0 : Code := ((nth (loopsOf 0 body53) 0).getD (0, .skip)).2
noncomputable def px53_0 : List W → Option S.ref09_Shift_L0
  | [.ptr 3 0, .int .i64 y1, .int .i64 y2, .rowc 3 false (some 64) y3] => some ⟨y1, y2, y3⟩
  | _ => none
noncomputable def tx53_0 (x : S.ref09_Shift_L0) : List W := [.ptr 3 0, .int .i64 x.n, .int .i64 x.i, .rowc 3 false (some 64) x.d]
noncomputable def py53_0 : Ex → List W → Option (S.ref09_Shift_L0)
  | .exit 0, [.ptr 3 0, .int .i64 y1, .int .i64 y2, .rowc 3 false (some 64) y3] => some ⟨y1, y2, y3⟩
  | _, _ => none
noncomputable def ld53_0 : LD El where
  X := S.ref09_Shift_L0
  Y := S.ref09_Shift_L0
  keys := [.slot 3, .slot 4, .slot 5, .row 3]
  fits := [0, 3, 3, 0]
  px := px53_0
  tx := tx53_0
  okeys := [.slot 3, .slot 4, .slot 5, .row 3]
  ofits := [0, 3, 3, 0]
  py := py53_0
  ty := fun y => tx53_0 y
  oex := fun _ => .exit 0
  junk := [.slot 8, .slot 9, .slot 10, .slot 11, .slot 12, .slot 13, .slot 14, .slot 15, .slot 16, .slot 17]
  rows := []
noncomputable def lo53_0 : S.ref09_Shift_L0 → Tr El := fun y => .leaf (.exit 0) (zipK ld53_0.okeys (tx53_0 y) ++ junkK ld53_0.junk)
noncomputable def loop53 : Nat → Env El → Tr El
  | 0 => ld53_0.tree c96 Try.f53.ntmps 0 lb53_0 S.ref09_Shift_L0_run lo53_0 S.ref09_Shift_L0_step S.ref09_Shift_L0_vcs
  | _ => fun _ => .fail
theorem lok53_0 : ∀ w0 S0, LoopOk c96 Try.f53.ntmps w0 S0 loop53 0 lb53_0 :=
  loop_ok (c := c96) (n := Try.f53.ntmps) c96_ok mixed ld53_0 (body := lb53_0) (key := 0) (loop := loop53) (F := S.ref09_Shift_L0_run) (out := lo53_0) (step := S.ref09_Shift_L0_step) (vcs := S.ref09_Shift_L0_vcs)
    (fun _ => by kernel_rfl) (no_loops (by kernel_rfl)) rfl rfl
    (fun vs x h => by unfold ld53_0 px53_0 at h; dsimp only at h; split at h <;> first | (cases h; rfl) | cases h)
    (fun e vs y h => by unfold ld53_0 py53_0 at h; dsimp only at h; split at h <;> first | (cases h; exact ⟨rfl, rfl⟩) | cases h)
    (by kernel_rfl) (fun _ => rfl) (fun _ _ h => h) (fun x => by kernel_rfl) (fun x h => Eq.mpr (show Vm.Tr.vc (Vm.ev c96 Try.f53.ntmps loop53 0 lb53_0 (ld53_0.vars x) []) = S.ref09_Shift_L0_vcs x by kernel_rfl) h)
theorem fn53 (b : Int) (hp : S.ref09_Shift_pre b) : CallOk c96 53 [.int .i64 b] (wr_i64 (S.ref09_Shift b)) (wo_i64 (S.ref09_Shift b)) :=
  (call_ok (c := c96) (f := 53) (fn := Try.f53) (code := body53) (args := ([.int .i64 b])) (loop := loop53) (md := ⟨false, false⟩) (rd := rd_i64) (wr := wr_i64) (wo := wo_i64) (r := (S.ref09_Shift b)) c96_ok (by kernel_rfl) (by kernel_rfl) (by kernel_rfl) (loops_all (l := [(0, lb53_0)]) (by kernel_rfl) ⟨lok53_0, trivial⟩) (by kernel_rfl) (by kernel_rfl) (by kernel_rfl)
    rw_i64 np_i64 no_i64 (by kernel_rfl) (Eq.mpr (show Vm.Tr.vc (Vm.Fn c96 Try.f53 body53 loop53 ([.int .i64 b])) = S.ref09_Shift_pre b by kernel_rfl) hp))

noncomputable def sem53 : List W → Option (W × List (List W) × List Prop)
  | [.int .i64 y1] => some (wr_i64 (S.ref09_Shift y1), wo_i64 (S.ref09_Shift y1), [S.ref09_Shift_pre y1])
  | _ => none
noncomputable def c53 : Cfg El := c96.add 53 sem53
theorem c53_ok : CfgOk c53 := c96_ok.add (fun args w => Try.call53 args w) (fun vs r outs ps h hp => by
  unfold sem53 at h
  split at h
  · rename_i y1; cases h; exact fn53 y1 hp
  · cases h)

noncomputable def body97 : Code := (Try.f97.body).getD .skip
noncomputable def lb97_0 : Code := ((nth (loopsOf 0 body97) 0).getD (0, .skip)).2
noncomputable def px97_0 : List W → Option S.ref09_shift_L0
  | [.int .i64 y1, .ptr 5 0, .ptr 6 0, .int .i64 y2, .rowc 3 false (some 64) y3, .rowc 3 false (some 64) y4] => some ⟨y1, y2, y3, y4⟩
  | _ => none
noncomputable def tx97_0 (x : S.ref09_shift_L0) : List W := [.int .i64 x.vby, .ptr 5 0, .ptr 6 0, .int .i64 x.i, .rowc 3 false (some 64) x.vx, .rowc 3 false (some 64) x.out]
noncomputable def py97_0 : Ex → List W → Option (S.ref09_shift_L0)
  | .exit 0, [.int .i64 y1, .ptr 5 0, .ptr 6 0, .int .i64 y2, .rowc 3 false (some 64) y3, .rowc 3 false (some 64) y4] => some ⟨y1, y2, y3, y4⟩
  | _, _ => none
noncomputable def ld97_0 : LD El where
  X := S.ref09_shift_L0
  Y := S.ref09_shift_L0
  keys := [.slot 1, .slot 5, .slot 6, .slot 7, .row 5, .row 6]
  fits := [3, 0, 0, 3, 0, 0]
  px := px97_0
  tx := tx97_0
  okeys := [.slot 1, .slot 5, .slot 6, .slot 7, .row 5, .row 6]
  ofits := [3, 0, 0, 3, 0, 0]
  py := py97_0
  ty := fun y => tx97_0 y
  oex := fun _ => .exit 0
  junk := [.slot 8, .slot 11, .slot 12, .slot 13, .slot 14, .slot 15, .slot 16, .slot 17, .slot 18, .slot 19, .slot 20, .slot 21, .slot 22, .slot 23, .slot 24, .slot 25, .slot 26]
  rows := []
noncomputable def lo97_0 : S.ref09_shift_L0 → Tr El := fun y => .leaf (.exit 0) (zipK ld97_0.okeys (tx97_0 y) ++ junkK ld97_0.junk)
noncomputable def loop97 : Nat → Env El → Tr El
  | 0 => ld97_0.tree c53 Try.f97.ntmps 0 lb97_0 S.ref09_shift_L0_run lo97_0 S.ref09_shift_L0_step S.ref09_shift_L0_vcs
  | _ => fun _ => .fail
theorem lok97_0 : ∀ w0 S0, LoopOk c53 Try.f97.ntmps w0 S0 loop97 0 lb97_0 :=
  loop_ok (c := c53) (n := Try.f97.ntmps) c53_ok mixed ld97_0 (body := lb97_0) (key := 0) (loop := loop97) (F := S.ref09_shift_L0_run) (out := lo97_0) (step := S.ref09_shift_L0_step) (vcs := S.ref09_shift_L0_vcs)
    (fun _ => by kernel_rfl) (no_loops (by kernel_rfl)) rfl rfl
    (fun vs x h => by unfold ld97_0 px97_0 at h; dsimp only at h; split at h <;> first | (cases h; rfl) | cases h)
    (fun e vs y h => by unfold ld97_0 py97_0 at h; dsimp only at h; split at h <;> first | (cases h; exact ⟨rfl, rfl⟩) | cases h)
    (by kernel_rfl) (fun _ => rfl) (fun _ _ h => h) (fun x => by kernel_rfl) (fun x h => Eq.mpr (show Vm.Tr.vc (Vm.ev c53 Try.f97.ntmps loop97 0 lb97_0 (ld97_0.vars x) []) = S.ref09_shift_L0_vcs x by kernel_rfl) h)
theorem fn97 (a : Int) (a1 : Int) (hp : S.ref09_shift_pre a a1) : CallOk c53 97 [.int .i64 a, .int .i64 a1] (wr_i64 (S.ref09_shift a a1)) (wo_i64 (S.ref09_shift a a1)) :=
  (call_ok (c := c53) (f := 97) (fn := Try.f97) (code := body97) (args := ([.int .i64 a, .int .i64 a1])) (loop := loop97) (md := ⟨false, false⟩) (rd := rd_i64) (wr := wr_i64) (wo := wo_i64) (r := (S.ref09_shift a a1)) c53_ok (by kernel_rfl) (by kernel_rfl) (by kernel_rfl) (loops_all (l := [(0, lb97_0)]) (by kernel_rfl) ⟨lok97_0, trivial⟩) (by kernel_rfl) (by kernel_rfl) (by kernel_rfl)
    rw_i64 np_i64 no_i64 (by kernel_rfl) (Eq.mpr (show Vm.Tr.vc (Vm.Fn c53 Try.f97 body97 loop97 ([.int .i64 a, .int .i64 a1])) = S.ref09_shift_pre a a1 by kernel_rfl) hp))

noncomputable def sem97 : List W → Option (W × List (List W) × List Prop)
  | [.int .i64 y1, .int .i64 y2] => some (wr_i64 (S.ref09_shift y1 y2), wo_i64 (S.ref09_shift y1 y2), [S.ref09_shift_pre y1 y2])
  | _ => none
noncomputable def c97 : Cfg El := c53.add 97 sem97
theorem c97_ok : CfgOk c97 := c53_ok.add (fun args w => Try.call97 args w) (fun vs r outs ps h hp => by
  unfold sem97 at h
  split at h
  · rename_i y1 y2; cases h; exact fn97 y1 y2 hp
  · cases h)

noncomputable def body98 : Code := (Try.f98.body).getD .skip
noncomputable def lb98_0 : Code := ((nth (loopsOf 0 body98) 0).getD (0, .skip)).2
noncomputable def px98_0 : List W → Option S.ref09_add_L0
  | [.ptr 5 0, .ptr 6 0, .ptr 7 0, .int .i64 y1, .int .i64 y2, .rowc 3 false (some 64) y3, .rowc 3 false (some 64) y4, .rowc 3 false (some 64) y5] => some ⟨y1, y2, y3, y4, y5⟩
  | _ => none
noncomputable def tx98_0 (x : S.ref09_add_L0) : List W := [.ptr 5 0, .ptr 6 0, .ptr 7 0, .int .i64 x.carry, .int .i64 x.i, .rowc 3 false (some 64) x.vx, .rowc 3 false (some 64) x.y, .rowc 3 false (some 64) x.out]
noncomputable def py98_0 : Ex → List W → Option (S.ref09_add_L0)
  | .exit 0, [.ptr 5 0, .ptr 6 0, .ptr 7 0, .int .i64 y1, .int .i64 y2, .rowc 3 false (some 64) y3, .rowc 3 false (some 64) y4, .rowc 3 false (some 64) y5] => some ⟨y1, y2, y3, y4, y5⟩
  | _, _ => none
noncomputable def ld98_0 : LD El where
  X := S.ref09_add_L0
  Y := S.ref09_add_L0
  keys := [.slot 5, .slot 6, .slot 7, .slot 8, .slot 9, .row 5, .row 6, .row 7]
  fits := [0, 0, 0, 3, 3, 0, 0, 0]
  px := px98_0
  tx := tx98_0
  okeys := [.slot 5, .slot 6, .slot 7, .slot 8, .slot 9, .row 5, .row 6, .row 7]
  ofits := [0, 0, 0, 3, 3, 0, 0, 0]
  py := py98_0
  ty := fun y => tx98_0 y
  oex := fun _ => .exit 0
  junk := [.slot 10, .slot 15, .slot 16, .slot 17, .slot 18, .slot 19, .slot 20, .slot 21, .slot 22, .slot 23, .slot 24, .slot 25, .slot 26, .slot 27, .slot 28, .slot 29, .slot 30, .slot 31, .slot 32, .slot 33]
  rows := []
noncomputable def lo98_0 : S.ref09_add_L0 → Tr El := fun y => .leaf (.exit 0) (zipK ld98_0.okeys (tx98_0 y) ++ junkK ld98_0.junk)
noncomputable def loop98 : Nat → Env El → Tr El
  | 0 => ld98_0.tree c97 Try.f98.ntmps 0 lb98_0 S.ref09_add_L0_run lo98_0 S.ref09_add_L0_step S.ref09_add_L0_vcs
  | _ => fun _ => .fail
theorem lok98_0 : ∀ w0 S0, LoopOk c97 Try.f98.ntmps w0 S0 loop98 0 lb98_0 :=
  loop_ok (c := c97) (n := Try.f98.ntmps) c97_ok mixed ld98_0 (body := lb98_0) (key := 0) (loop := loop98) (F := S.ref09_add_L0_run) (out := lo98_0) (step := S.ref09_add_L0_step) (vcs := S.ref09_add_L0_vcs)
    (fun _ => by kernel_rfl) (no_loops (by kernel_rfl)) rfl rfl
    (fun vs x h => by unfold ld98_0 px98_0 at h; dsimp only at h; split at h <;> first | (cases h; rfl) | cases h)
    (fun e vs y h => by unfold ld98_0 py98_0 at h; dsimp only at h; split at h <;> first | (cases h; exact ⟨rfl, rfl⟩) | cases h)
    (by kernel_rfl) (fun _ => rfl) (fun _ _ h => h) (fun x => by kernel_rfl) (fun x h => Eq.mpr (show Vm.Tr.vc (Vm.ev c97 Try.f98.ntmps loop98 0 lb98_0 (ld98_0.vars x) []) = S.ref09_add_L0_vcs x by kernel_rfl) h)
theorem fn98 (a : Int) (b : Int) (hp : S.ref09_add_pre a b) : CallOk c97 98 [.int .i64 a, .int .i64 b] (wr_i64 (S.ref09_add a b)) (wo_i64 (S.ref09_add a b)) :=
  (call_ok (c := c97) (f := 98) (fn := Try.f98) (code := body98) (args := ([.int .i64 a, .int .i64 b])) (loop := loop98) (md := ⟨false, false⟩) (rd := rd_i64) (wr := wr_i64) (wo := wo_i64) (r := (S.ref09_add a b)) c97_ok (by kernel_rfl) (by kernel_rfl) (by kernel_rfl) (loops_all (l := [(0, lb98_0)]) (by kernel_rfl) ⟨lok98_0, trivial⟩) (by kernel_rfl) (by kernel_rfl) (by kernel_rfl)
    rw_i64 np_i64 no_i64 (by kernel_rfl) (Eq.mpr (show Vm.Tr.vc (Vm.Fn c97 Try.f98 body98 loop98 ([.int .i64 a, .int .i64 b])) = S.ref09_add_pre a b by kernel_rfl) hp))

noncomputable def sem98 : List W → Option (W × List (List W) × List Prop)
  | [.int .i64 y1, .int .i64 y2] => some (wr_i64 (S.ref09_add y1 y2), wo_i64 (S.ref09_add y1 y2), [S.ref09_add_pre y1 y2])
  | _ => none
noncomputable def c98 : Cfg El := c97.add 98 sem98
theorem c98_ok : CfgOk c98 := c97_ok.add (fun args w => Try.call98 args w) (fun vs r outs ps h hp => by
  unfold sem98 at h
  split at h
  · rename_i y1 y2; cases h; exact fn98 y1 y2 hp
  · cases h)

noncomputable def body102 : Code := (Try.f102.body).getD .skip
noncomputable def lb102_0 : Code := ((nth (loopsOf 0 body102) 0).getD (0, .skip)).2
noncomputable def px102_0 : List W → Option S.ref09_Inv_L0
  | [.ptr 3 0, .int .i64 y1, .rowc 3 false (some 64) y2] => some ⟨y1, y2⟩
  | _ => none
noncomputable def tx102_0 (x : S.ref09_Inv_L0) : List W := [.ptr 3 0, .int .i64 x.i, .rowc 3 false (some 64) x.vx]
noncomputable def py102_0 : Ex → List W → Option (S.ref09_Inv_L0)
  | .exit 0, [.ptr 3 0, .int .i64 y1, .rowc 3 false (some 64) y2] => some ⟨y1, y2⟩
  | _, _ => none
noncomputable def ld102_0 : LD El where
  X := S.ref09_Inv_L0
  Y := S.ref09_Inv_L0
  keys := [.slot 3, .slot 4, .row 3]
  fits := [0, 3, 0]
  px := px102_0
  tx := tx102_0
  okeys := [.slot 3, .slot 4, .row 3]
  ofits := [0, 3, 0]
  py := py102_0
  ty := fun y => tx102_0 y
  oex := fun _ => .exit 0
  junk := [.slot 7, .slot 8, .slot 9, .slot 10, .slot 11, .slot 12, .slot 13, .slot 14, .slot 15, .slot 16]
  rows := []
noncomputable def lo102_0 : S.ref09_Inv_L0 → Tr El := fun y => .leaf (.exit 0) (zipK ld102_0.okeys (tx102_0 y) ++ junkK ld102_0.junk)
noncomputable def loop102 : Nat → Env El → Tr El
  | 0 => ld102_0.tree c98 Try.f102.ntmps 0 lb102_0 S.ref09_Inv_L0_run lo102_0 S.ref09_Inv_L0_step S.ref09_Inv_L0_vcs
  | _ => fun _ => .fail
theorem lok102_0 : ∀ w0 S0, LoopOk c98 Try.f102.ntmps w0 S0 loop102 0 lb102_0 :=
  loop_ok (c := c98) (n := Try.f102.ntmps) c98_ok mixed ld102_0 (body := lb102_0) (key := 0) (loop := loop102) (F := S.ref09_Inv_L0_run) (out := lo102_0) (step := S.ref09_Inv_L0_step) (vcs := S.ref09_Inv_L0_vcs)
    (fun _ => by kernel_rfl) (no_loops (by kernel_rfl)) rfl rfl
    (fun vs x h => by unfold ld102_0 px102_0 at h; dsimp only at h; split at h <;> first | (cases h; rfl) | cases h)
    (fun e vs y h => by unfold ld102_0 py102_0 at h; dsimp only at h; split at h <;> first | (cases h; exact ⟨rfl, rfl⟩) | cases h)
    (by kernel_rfl) (fun _ => rfl) (fun _ _ h => h) (fun x => by kernel_rfl) (fun x h => Eq.mpr (show Vm.Tr.vc (Vm.ev c98 Try.f102.ntmps loop102 0 lb102_0 (ld102_0.vars x) []) = S.ref09_Inv_L0_vcs x by kernel_rfl) h)
theorem fn102 (a : Int) (hp : S.ref09_Inv_pre a) : CallOk c98 102 [.int .i64 a] (wr_i64 (S.ref09_Inv a)) (wo_i64 (S.ref09_Inv a)) :=
  (call_ok (c := c98) (f := 102) (fn := Try.f102) (code := body102) (args := ([.int .i64 a])) (loop := loop102) (md := ⟨false, false⟩) (rd := rd_i64) (wr := wr_i64) (wo := wo_i64) (r := (S.ref09_Inv a)) c98_ok (by kernel_rfl) (by kernel_rfl) (by kernel_rfl) (loops_all (l := [(0, lb102_0)]) (by kernel_rfl) ⟨lok102_0, trivial⟩) (by kernel_rfl) (by kernel_rfl) (by kernel_rfl)
    rw_i64 np_i64 no_i64 (by kernel_rfl) (Eq.mpr (show Vm.Tr.vc (Vm.Fn c98 Try.f102 body102 loop102 ([.int .i64 a])) = S.ref09_Inv_pre a by kernel_rfl) hp))

noncomputable def sem102 : List W → Option (W × List (List W) × List Prop)
  | [.int .i64 y1] => some (wr_i64 (S.ref09_Inv y1), wo_i64 (S.ref09_Inv y1), [S.ref09_Inv_pre y1])
  | _ => none
noncomputable def c102 : Cfg El := c98.add 102 sem102
theorem c102_ok : CfgOk c102 := c98_ok.add (fun args w => Try.call102 args w) (fun vs r outs ps h hp => by
  unfold sem102 at h
  split at h
  · rename_i y1; cases h; exact fn102 y1 hp
  · cases h)

noncomputable def body99 : Code := (Try.f99.body).getD .skip
theorem fn99 (a : Int) (hp : S.ref09_neg_pre a) : CallOk c102 99 [.int .i64 a] (wr_i64 (S.ref09_neg a)) (wo_i64 (S.ref09_neg a)) :=
  (call_ok (c := c102) (f := 99) (fn := Try.f99) (code := body99) (args := ([.int .i64 a])) (loop := noLoop) (md := ⟨false, false⟩) (rd := rd_i64) (wr := wr_i64) (wo := wo_i64) (r := (S.ref09_neg a)) c102_ok (by kernel_rfl) (by kernel_rfl) (by kernel_rfl) (no_loops (by kernel_rfl)) (by kernel_rfl) (by kernel_rfl) (by kernel_rfl)
    rw_i64 np_i64 no_i64 (by kernel_rfl) (Eq.mpr (show Vm.Tr.vc (Vm.Fn c102 Try.f99 body99 noLoop ([.int .i64 a])) = S.ref09_neg_pre a by kernel_rfl) hp))

noncomputable def sem99 : List W → Option (W × List (List W) × List Prop)
  | [.int .i64 y1] => some (wr_i64 (S.ref09_neg y1), wo_i64 (S.ref09_neg y1), [S.ref09_neg_pre y1])
  | _ => none
noncomputable def c99 : Cfg El := c102.add 99 sem99
theorem c99_ok : CfgOk c99 := c102_ok.add (fun args w => Try.call99 args w) (fun vs r outs ps h hp => by
  unfold sem99 at h
  split at h
  · rename_i y1; cases h; exact fn99 y1 hp
  · cases h)

noncomputable def body100 : Code := (Try.f100.body).getD .skip
noncomputable def lb100_0 : Code := ((nth (loopsOf 0 body100) 0).getD (0, .skip)).2
noncomputable def px100_0 : List W → Option S.ref09_mul_L0
  | [.int .i64 y1, .ptr 5 0, .int .i64 y2, .int .i64 y3, .rowc 3 false (some 64) y4] => some ⟨y1, y2, y3, y4⟩
  | _ => none
noncomputable def tx100_0 (x : S.ref09_mul_L0) : List W := [.int .i64 x.a, .ptr 5 0, .int .i64 x.sum, .int .i64 x.i, .rowc 3 false (some 64) x.y]
noncomputable def py100_0 : Ex → List W → Option (S.ref09_mul_L0)
  | .exit 0, [.int .i64 y1, .ptr 5 0, .int .i64 y2, .int .i64 y3, .rowc 3 false (some 64) y4] => some ⟨y1, y2, y3, y4⟩
  | _, _ => none
noncomputable def ld100_0 : LD El where
  X := S.ref09_mul_L0
  Y := S.ref09_mul_L0
  keys := [.slot 0, .slot 5, .slot 6, .slot 7, .row 5]
  fits := [2, 0, 2, 3, 0]
  px := px100_0
  tx := tx100_0
  okeys := [.slot 0, .slot 5, .slot 6, .slot 7, .row 5]
  ofits := [2, 0, 2, 3, 0]
  py := py100_0
  ty := fun y => tx100_0 y
  oex := fun _ => .exit 0
  junk := [.slot 10, .slot 11, .slot 12, .slot 13, .slot 14, .slot 15, .slot 16, .slot 17, .slot 18, .slot 19, .slot 20, .slot 21, .slot 22, .slot 23]
  rows := []
noncomputable def lo100_0 : S.ref09_mul_L0 → Tr El := fun y => .leaf (.exit 0) (zipK ld100_0.okeys (tx100_0 y) ++ junkK ld100_0.junk)
noncomputable def loop100 : Nat → Env El → Tr El
  | 0 => ld100_0.tree c99 Try.f100.ntmps 0 lb100_0 S.ref09_mul_L0_run lo100_0 S.ref09_mul_L0_step S.ref09_mul_L0_vcs
  | _ => fun _ => .fail
theorem lok100_0 : ∀ w0 S0, LoopOk c99 Try.f100.ntmps w0 S0 loop100 0 lb100_0 :=
  loop_ok (c := c99) (n := Try.f100.ntmps) c99_ok mixed ld100_0 (body := lb100_0) (key := 0) (loop := loop100) (F := S.ref09_mul_L0_run) (out := lo100_0) (step := S.ref09_mul_L0_step) (vcs := S.ref09_mul_L0_vcs)
    (fun _ => by kernel_rfl) (no_loops (by kernel_rfl)) rfl rfl
    (fun vs x h => by unfold ld100_0 px100_0 at h; dsimp only at h; split at h <;> first | (cases h; rfl) | cases h)
    (fun e vs y h => by unfold ld100_0 py100_0 at h; dsimp only at h; split at h <;> first | (cases h; exact ⟨rfl, rfl⟩) | cases h)
    (by kernel_rfl) (fun _ => rfl) (fun _ _ h => h) (fun x => by kernel_rfl) (fun x h => Eq.mpr (show Vm.Tr.vc (Vm.ev c99 Try.f100.ntmps loop100 0 lb100_0 (ld100_0.vars x) []) = S.ref09_mul_L0_vcs x by kernel_rfl) h)
theorem fn100 (a : Int) (b : Int) (hp : S.ref09_mul_pre a b) : CallOk c99 100 [.int .i64 a, .int .i64 b] (wr_i64 (S.ref09_mul a b)) (wo_i64 (S.ref09_mul a b)) :=
  (call_ok (c := c99) (f := 100) (fn := Try.f100) (code := body100) (args := ([.int .i64 a, .int .i64 b])) (loop := loop100) (md := ⟨false, false⟩) (rd := rd_i64) (wr := wr_i64) (wo := wo_i64) (r := (S.ref09_mul a b)) c99_ok (by kernel_rfl) (by kernel_rfl) (by kernel_rfl) (loops_all (l := [(0, lb100_0)]) (by kernel_rfl) ⟨lok100_0, trivial⟩) (by kernel_rfl) (by kernel_rfl) (by kernel_rfl)
    rw_i64 np_i64 no_i64 (by kernel_rfl) (Eq.mpr (show Vm.Tr.vc (Vm.Fn c99 Try.f100 body100 loop100 ([.int .i64 a, .int .i64 b])) = S.ref09_mul_pre a b by kernel_rfl) hp))

noncomputable def sem100 : List W → Option (W × List (List W) × List Prop)
  | [.int .i64 y1, .int .i64 y2] => some (wr_i64 (S.ref09_mul y1 y2), wo_i64 (S.ref09_mul y1 y2), [S.ref09_mul_pre y1 y2])
  | _ => none
noncomputable def c100 : Cfg El := c99.add 100 sem100
theorem c100_ok : CfgOk c100 := c99_ok.add (fun args w => Try.call100 args w) (fun vs r outs ps h hp => by
  unfold sem100 at h
  split at h
  · rename_i y1 y2; cases h; exact fn100 y1 y2 hp
  · cases h)

noncomputable def body140 : Code := (Try.f140.body).getD .skip
theorem fn140 (a : Int) (hp : S.ref09_size_pre a) : CallOk c100 140 [.int .i64 a] (wr_u64 (S.ref09_size a)) (wo_u64 (S.ref09_size a)) :=
  (call_ok (c := c100) (f := 140) (fn := Try.f140) (code := body140) (args := ([.int .i64 a])) (loop := noLoop) (md := ⟨false, false⟩) (rd := rd_u64) (wr := wr_u64) (wo := wo_u64) (r := (S.ref09_size a)) c100_ok (by kernel_rfl) (by kernel_rfl) (by kernel_rfl) (no_loops (by kernel_rfl)) (by kernel_rfl) (by kernel_rfl) (by kernel_rfl)
    rw_u64 np_u64 no_u64 (by kernel_rfl) (Eq.mpr (show Vm.Tr.vc (Vm.Fn c100 Try.f140 body140 noLoop ([.int .i64 a])) = S.ref09_size_pre a by kernel_rfl) hp))

noncomputable def sem140 : List W → Option (W × List (List W) × List Prop)
  | [.int .i64 y1] => some (wr_u64 (S.ref09_size y1), wo_u64 (S.ref09_size y1), [S.ref09_size_pre y1])
  | _ => none
noncomputable def c140 : Cfg El := c100.add 140 sem140
theorem c140_ok : CfgOk c140 := c100_ok.add (fun args w => Try.call140 args w) (fun vs r outs ps h hp => by
  unfold sem140 at h
  split at h
  · rename_i y1; cases h; exact fn140 y1 hp
  · cases h)

noncomputable def body101 : Code := (Try.f101.body).getD .skip
theorem fn101 (a : Int) (b : Int) (hp : S.ref09_quotient_pre a b) : CallOk c140 101 [.int .i64 a, .int .i64 b] (wr_i64 (S.ref09_quotient a b)) (wo_i64 (S.ref09_quotient a b)) :=
  (call_ok (c := c140) (f := 101) (fn := Try.f101) (code := body101) (args := ([.int .i64 a, .int .i64 b])) (loop := noLoop) (md := ⟨false, false⟩) (rd := rd_i64) (wr := wr_i64) (wo := wo_i64) (r := (S.ref09_quotient a b)) c140_ok (by kernel_rfl) (by kernel_rfl) (by kernel_rfl) (no_loops (by kernel_rfl)) (by kernel_rfl) (by kernel_rfl) (by kernel_rfl)
    rw_i64 np_i64 no_i64 (by kernel_rfl) (Eq.mpr (show Vm.Tr.vc (Vm.Fn c140 Try.f101 body101 noLoop ([.int .i64 a, .int .i64 b])) = S.ref09_quotient_pre a b by kernel_rfl) hp))

noncomputable def sem101 : List W → Option (W × List (List W) × List Prop)
  | [.int .i64 y1, .int .i64 y2] => some (wr_i64 (S.ref09_quotient y1 y2), wo_i64 (S.ref09_quotient y1 y2), [S.ref09_quotient_pre y1 y2])
  | _ => none
noncomputable def c101 : Cfg El := c140.add 101 sem101
theorem c101_ok : CfgOk c101 := c140_ok.add (fun args w => Try.call101 args w) (fun vs r outs ps h hp => by
  unfold sem101 at h
  split at h
  · rename_i y1 y2; cases h; exact fn101 y1 y2 hp
  · cases h)

noncomputable def body46 : Code := (Try.f46.body).getD .skip
theorem fn46 (op : Int) (a : Int) (b : Int) (hp : S.ref09_Do_pre op a b) : CallOk c101 46 [.int .i64 op, .int .i64 a, .int .i64 b] (wr_i64_b (S.ref09_Do op a b)) (wo_i64_b (S.ref09_Do op a b)) :=
  (call_ok (c := c101) (f := 46) (fn := Try.f46) (code := body46) (args := ([.int .i64 op, .int .i64 a, .int .i64 b])) (loop := noLoop) (md := ⟨false, false⟩) (rd := rd_i64_b) (wr := wr_i64_b) (wo := wo_i64_b) (r := (S.ref09_Do op a b)) c101_ok (by kernel_rfl) (by kernel_rfl) (by kernel_rfl) (no_loops (by kernel_rfl)) (by kernel_rfl) (by kernel_rfl) (by kernel_rfl)
    rw_i64_b np_i64_b no_i64_b (by kernel_rfl) (Eq.mpr (show Vm.Tr.vc (Vm.Fn c101 Try.f46 body46 noLoop ([.int .i64 op, .int .i64 a, .int .i64 b])) = S.ref09_Do_pre op a b by kernel_rfl) hp))

noncomputable def sem46 : List W → Option (W × List (List W) × List Prop)
  | [.int .i64 y1, .int .i64 y2, .int .i64 y3] => some (wr_i64_b (S.ref09_Do y1 y2 y3), wo_i64_b (S.ref09_Do y1 y2 y3), [S.ref09_Do_pre y1 y2 y3])
  | _ => none
noncomputable def c46 : Cfg El := c101.add 46 sem46
theorem c46_ok : CfgOk c46 := c101_ok.add (fun args w => Try.call46 args w) (fun vs r outs ps h hp => by
  unfold sem46 at h
  split at h
  · rename_i y1 y2 y3; cases h; exact fn46 y1 y2 y3 hp
  · cases h)

noncomputable def body47 : Code := (Try.f47.body).getD .skip
theorem fn47 (op : Int) (a : Int) : CallOk c46 47 [.int .i64 op, .int .i64 a] (wr_i64_b (S.word_One op a)) (wo_i64_b (S.word_One op a)) :=
  (call_ok (c := c46) (f := 47) (fn := Try.f47) (code := body47) (args := ([.int .i64 op, .int .i64 a])) (loop := noLoop) (md := ⟨false, false⟩) (rd := rd_i64_b) (wr := wr_i64_b) (wo := wo_i64_b) (r := (S.word_One op a)) c46_ok (by kernel_rfl) (by kernel_rfl) (by kernel_rfl) (no_loops (by kernel_rfl)) (by kernel_rfl) (by kernel_rfl) (by kernel_rfl)
    rw_i64_b np_i64_b no_i64_b (by kernel_rfl) (Tr.vc_of_noReq (by kernel_rfl)))

noncomputable def sem47 : List W → Option (W × List (List W) × List Prop)
  | [.int .i64 y1, .int .i64 y2] => some (wr_i64_b (S.word_One y1 y2), wo_i64_b (S.word_One y1 y2), [])
  | _ => none
noncomputable def c47 : Cfg El := c46.add 47 sem47
theorem c47_ok : CfgOk c47 := c46_ok.add (fun args w => Try.call47 args w) (fun vs r outs ps h hp => by
  unfold sem47 at h
  split at h
  · rename_i y1 y2; cases h; exact fn47 y1 y2
  · cases h)

noncomputable def body48 : Code := (Try.f48.body).getD .skip
theorem fn48 (op : Int) (a : Int) (hp : S.ref09_One_pre op a) : CallOk c47 48 [.int .i64 op, .int .i64 a] (wr_i64_b (S.ref09_One op a)) (wo_i64_b (S.ref09_One op a)) :=
  (call_ok (c := c47) (f := 48) (fn := Try.f48) (code := body48) (args := ([.int .i64 op, .int .i64 a])) (loop := noLoop) (md := ⟨false, false⟩) (rd := rd_i64_b) (wr := wr_i64_b) (wo := wo_i64_b) (r := (S.ref09_One op a)) c47_ok (by kernel_rfl) (by kernel_rfl) (by kernel_rfl) (no_loops (by kernel_rfl)) (by kernel_rfl) (by kernel_rfl) (by kernel_rfl)
    rw_i64_b np_i64_b no_i64_b (by kernel_rfl) (Eq.mpr (show Vm.Tr.vc (Vm.Fn c47 Try.f48 body48 noLoop ([.int .i64 op, .int .i64 a])) = S.ref09_One_pre op a by kernel_rfl) hp))

noncomputable def sem48 : List W → Option (W × List (List W) × List Prop)
  | [.int .i64 y1, .int .i64 y2] => some (wr_i64_b (S.ref09_One y1 y2), wo_i64_b (S.ref09_One y1 y2), [S.ref09_One_pre y1 y2])
  | _ => none
noncomputable def c48 : Cfg El := c47.add 48 sem48
theorem c48_ok : CfgOk c48 := c47_ok.add (fun args w => Try.call48 args w) (fun vs r outs ps h hp => by
  unfold sem48 at h
  split at h
  · rename_i y1 y2; cases h; exact fn48 y1 y2 hp
  · cases h)

noncomputable def body51 : Code := (Try.f51.body).getD .skip
theorem fn51 (a : Int) (b : Int) (hp : S.law09_less_pre a b) : CallOk c48 51 [.int .i64 a, .int .i64 b] (wr_i64 (S.law09_less a b)) (wo_i64 (S.law09_less a b)) :=
  (call_ok (c := c48) (f := 51) (fn := Try.f51) (code := body51) (args := ([.int .i64 a, .int .i64 b])) (loop := noLoop) (md := ⟨false, false⟩) (rd := rd_i64) (wr := wr_i64) (wo := wo_i64) (r := (S.law09_less a b)) c48_ok (by kernel_rfl) (by kernel_rfl) (by kernel_rfl) (no_loops (by kernel_rfl)) (by kernel_rfl) (by kernel_rfl) (by kernel_rfl)
    rw_i64 np_i64 no_i64 (by kernel_rfl) (Eq.mpr (show Vm.Tr.vc (Vm.Fn c48 Try.f51 body51 noLoop ([.int .i64 a, .int .i64 b])) = S.law09_less_pre a b by kernel_rfl) hp))

noncomputable def sem51 : List W → Option (W × List (List W) × List Prop)
  | [.int .i64 y1, .int .i64 y2] => some (wr_i64 (S.law09_less y1 y2), wo_i64 (S.law09_less y1 y2), [S.law09_less_pre y1 y2])
  | _ => none
noncomputable def c51 : Cfg El := c48.add 51 sem51
theorem c51_ok : CfgOk c51 := c48_ok.add (fun args w => Try.call51 args w) (fun vs r outs ps h hp => by
  unfold sem51 at h
  split at h
  · rename_i y1 y2; cases h; exact fn51 y1 y2 hp
  · cases h)

noncomputable def body104 : Code := (Try.f104.body).getD .skip
theorem fn104 (op : Int) (a : Int) (b : Int) (want : Int) (hp : S.law09_makes_pre op a b want) : CallOk c51 104 [.int .i64 op, .int .i64 a, .int .i64 b, .int .i64 want] (wr_b (S.law09_makes op a b want)) (wo_b (S.law09_makes op a b want)) :=
  (call_ok (c := c51) (f := 104) (fn := Try.f104) (code := body104) (args := ([.int .i64 op, .int .i64 a, .int .i64 b, .int .i64 want])) (loop := noLoop) (md := ⟨false, false⟩) (rd := rd_b) (wr := wr_b) (wo := wo_b) (r := (S.law09_makes op a b want)) c51_ok (by kernel_rfl) (by kernel_rfl) (by kernel_rfl) (no_loops (by kernel_rfl)) (by kernel_rfl) (by kernel_rfl) (by kernel_rfl)
    rw_b np_b no_b (by kernel_rfl) (Eq.mpr (show Vm.Tr.vc (Vm.Fn c51 Try.f104 body104 noLoop ([.int .i64 op, .int .i64 a, .int .i64 b, .int .i64 want])) = S.law09_makes_pre op a b want by kernel_rfl) hp))

noncomputable def sem104 : List W → Option (W × List (List W) × List Prop)
  | [.int .i64 y1, .int .i64 y2, .int .i64 y3, .int .i64 y4] => some (wr_b (S.law09_makes y1 y2 y3 y4), wo_b (S.law09_makes y1 y2 y3 y4), [S.law09_makes_pre y1 y2 y3 y4])
  | _ => none
noncomputable def c104 : Cfg El := c51.add 104 sem104
theorem c104_ok : CfgOk c104 := c51_ok.add (fun args w => Try.call104 args w) (fun vs r outs ps h hp => by
  unfold sem104 at h
  split at h
  · rename_i y1 y2 y3 y4; cases h; exact fn104 y1 y2 y3 y4 hp
  · cases h)

noncomputable def body55 : Code := (Try.f55.body).getD .skip
theorem fn55 (hp : S.law09_works_pre) : CallOk c104 55 [] (wr_b (S.law09_works)) (wo_b (S.law09_works)) :=
  (call_ok (c := c104) (f := 55) (fn := Try.f55) (code := body55) (args := ([])) (loop := noLoop) (md := ⟨false, false⟩) (rd := rd_b) (wr := wr_b) (wo := wo_b) (r := S.law09_works) c104_ok (by kernel_rfl) (by kernel_rfl) (by kernel_rfl) (no_loops (by kernel_rfl)) (by kernel_rfl) (by kernel_rfl) (by kernel_rfl)
    rw_b np_b no_b (by kernel_rfl) (Eq.mpr (show Vm.Tr.vc (Vm.Fn c104 Try.f55 body55 noLoop ([])) = S.law09_works_pre by kernel_rfl) hp))

noncomputable def sem55 : List W → Option (W × List (List W) × List Prop)
  | [] => some (wr_b (S.law09_works), wo_b (S.law09_works), [S.law09_works_pre])
  | _ => none
noncomputable def c55 : Cfg El := c104.add 55 sem55
theorem c55_ok : CfgOk c55 := c104_ok.add (fun args w => Try.call55 args w) (fun vs r outs ps h hp => by
  unfold sem55 at h
  split at h
  · cases h; exact fn55 hp
  · cases h)

noncomputable def body7 : Code := (Try.f7.body).getD .skip
theorem fn7 (op : Int) (a : Int) (b : Int) (hp : S.law09_WordDoes_pre op a b) : CallOk c55 7 [.int .i64 op, .int .i64 a, .int .i64 b] (wr_b (S.law09_WordDoes op a b)) (wo_b (S.law09_WordDoes op a b)) :=
  (call_ok (c := c55) (f := 7) (fn := Try.f7) (code := body7) (args := ([.int .i64 op, .int .i64 a, .int .i64 b])) (loop := noLoop) (md := ⟨false, false⟩) (rd := rd_b) (wr := wr_b) (wo := wo_b) (r := (S.law09_WordDoes op a b)) c55_ok (by kernel_rfl) (by kernel_rfl) (by kernel_rfl) (no_loops (by kernel_rfl)) (by kernel_rfl) (by kernel_rfl) (by kernel_rfl)
    rw_b np_b no_b (by kernel_rfl) (Eq.mpr (show Vm.Tr.vc (Vm.Fn c55 Try.f7 body7 noLoop ([.int .i64 op, .int .i64 a, .int .i64 b])) = S.law09_WordDoes_pre op a b by kernel_rfl) hp))

noncomputable def sem7 : List W → Option (W × List (List W) × List Prop)
  | [.int .i64 y1, .int .i64 y2, .int .i64 y3] => some (wr_b (S.law09_WordDoes y1 y2 y3), wo_b (S.law09_WordDoes y1 y2 y3), [S.law09_WordDoes_pre y1 y2 y3])
  | _ => none
noncomputable def c7 : Cfg El := c55.add 7 sem7
theorem c7_ok : CfgOk c7 := c55_ok.add (fun args w => Try.call7 args w) (fun vs r outs ps h hp => by
  unfold sem7 at h
  split at h
  · rename_i y1 y2 y3; cases h; exact fn7 y1 y2 y3 hp
  · cases h)

noncomputable def body8 : Code := (Try.f8.body).getD .skip
theorem fn8 (a : Int) (b : Int) (hp : S.law09_WordLaws_pre a b) : CallOk c7 8 [.int .i64 a, .int .i64 b] (wr_b (S.law09_WordLaws a b)) (wo_b (S.law09_WordLaws a b)) :=
  (call_ok (c := c7) (f := 8) (fn := Try.f8) (code := body8) (args := ([.int .i64 a, .int .i64 b])) (loop := noLoop) (md := ⟨false, false⟩) (rd := rd_b) (wr := wr_b) (wo := wo_b) (r := (S.law09_WordLaws a b)) c7_ok (by kernel_rfl) (by kernel_rfl) (by kernel_rfl) (no_loops (by kernel_rfl)) (by kernel_rfl) (by kernel_rfl) (by kernel_rfl)
    rw_b np_b no_b (by kernel_rfl) (Eq.mpr (show Vm.Tr.vc (Vm.Fn c7 Try.f8 body8 noLoop ([.int .i64 a, .int .i64 b])) = S.law09_WordLaws_pre a b by kernel_rfl) hp))

noncomputable def sem8 : List W → Option (W × List (List W) × List Prop)
  | [.int .i64 y1, .int .i64 y2] => some (wr_b (S.law09_WordLaws y1 y2), wo_b (S.law09_WordLaws y1 y2), [S.law09_WordLaws_pre y1 y2])
  | _ => none
noncomputable def c8 : Cfg El := c7.add 8 sem8
theorem c8_ok : CfgOk c8 := c7_ok.add (fun args w => Try.call8 args w) (fun vs r outs ps h hp => by
  unfold sem8 at h
  split at h
  · rename_i y1 y2; cases h; exact fn8 y1 y2 hp
  · cases h)
end Go.Proofs.Ytpnegnhbbcligaa
