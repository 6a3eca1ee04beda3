/-
  Printed by a program for this claim: functions of the code as plain functions, and that the code comes to them. Conditions: those that each theorem states.
-/
import Derived.Test.YthnlknegnlmklaaDEEnv
import Derived.Test.YthnlknegnlmklaaDEPlain
import Derived.Test.YthnlknegnlmklaaDEDigits
import Derived.Test.YthnlknegnlmklaaDEDiv
import Derived.Test.YthnlknegnlmklaaDEValue
set_option linter.all false
namespace Go.Proofs.Ythnlknegnlmklaa
open Go Go.Proofs Vm
attribute [local irreducible] Vm.Tr.vc Vm.Tr.out Vm.Fn Vm.Fn.out Vm.ev Vm.loopsOf Vm.Tr.noReq
noncomputable def rd_L39_o_f : W → List (List W) → Option ((List Int))
  | .olist 39 true x2, [] => some x2
  | _, _ => none
noncomputable def wr_L39_o_f (x : (List Int)) : W := .olist 39 true x
noncomputable def wo_L39_o_f (_x : (List Int)) : List (List W) := []
theorem rw_L39_o_f (v : W) (os : List (List W)) (x : (List Int)) (h : rd_L39_o_f v os = some x) : v = wr_L39_o_f x ∧ os = wo_L39_o_f x := by
  unfold rd_L39_o_f at h
  split at h <;> first | (cases h; exact ⟨rfl, rfl⟩) | cases h
theorem np_L39_o_f (x : (List Int)) : okv (fun _ => false) (wr_L39_o_f x) = true := rfl
theorem no_L39_o_f (x : (List Int)) : all (fun cs => all (ok0 fun _ => false) cs) (wo_L39_o_f x) = true := rfl

noncomputable def body48 : Code := (Try.f48.body).getD .skip
theorem fn48a (a : Int) (l : List Int) (hp : S.slices_Cloneuint64_uint64_pre (a :: l)) : CallOk base 48 [.list 39 false (a :: l)] (wr_L39_o_f (a :: l)) (wo_L39_o_f (a :: l)) :=
  CallOk.unhint (c := base) (call_ok (c := (base.hint [5] [])) (f := 48) (fn := Try.f48) (code := body48) (args := [.list 39 false (a :: l)]) (loop := noLoop) (md := ⟨true, true⟩) (rd := rd_L39_o_f) (wr := wr_L39_o_f) (wo := wo_L39_o_f) (r := a :: l) (CfgOk.hint base_ok [5] []) (by kernel_rfl) (by kernel_rfl) (by kernel_rfl) (no_loops (by kernel_rfl)) (by kernel_rfl) (by kernel_rfl) (by kernel_rfl)
    rw_L39_o_f np_L39_o_f no_L39_o_f (by kernel_rfl) (Eq.mpr (show Vm.Tr.vc (Vm.Fn (base.hint [5] []) Try.f48 body48 noLoop [.list 39 false (a :: l)]) = ((false = true → True) ∧ (false = false → (All [((([] : List Int).length + (a :: l).length : Nat) : Int) * 8 ≤ 140737488355328] ∧ True))) by kernel_rfl) ⟨fun h => Bool.noConfusion h, fun _ => ⟨hp, trivial⟩⟩))
theorem fn48b (p : Option Addr) (cap : Nat) : CallOk base 48 [.raw (.slice p 0 cap)] (wr_L39_o_f (bif p.isNone then [] else [])) (wo_L39_o_f (bif p.isNone then [] else [])) :=
  CallOk.unhint (c := base) (call_ok (c := (base.hint [5] [])) (f := 48) (fn := Try.f48) (code := body48) (args := [.raw (.slice p 0 cap)]) (loop := noLoop) (md := ⟨true, true⟩) (rd := rd_L39_o_f) (wr := wr_L39_o_f) (wo := wo_L39_o_f) (r := (bif p.isNone then [] else [])) (CfgOk.hint base_ok [5] []) (by kernel_rfl) (by kernel_rfl) (by kernel_rfl) (no_loops (by kernel_rfl)) (by kernel_rfl) (by kernel_rfl) (by kernel_rfl)
    rw_L39_o_f np_L39_o_f no_L39_o_f (by kernel_rfl) (Eq.mpr (show Vm.Tr.vc (Vm.Fn (base.hint [5] []) Try.f48 body48 noLoop [.raw (.slice p 0 cap)]) = ((p.isNone = true → True) ∧ (p.isNone = false → (All [((([] : List Int).length + ([] : List Int).length : Nat) : Int) * 8 ≤ 140737488355328] ∧ True))) by kernel_rfl) ⟨fun _ => trivial, fun _ => ⟨by simp [All], trivial⟩⟩))
theorem fn48 (s : List Int) (hp : S.slices_Cloneuint64_uint64_pre s) : CallOk base 48 [.list 39 false s] (wr_L39_o_f (S.slices_Cloneuint64_uint64 s)) (wo_L39_o_f (S.slices_Cloneuint64_uint64 s)) :=
  clone_calls (A := El) (c := base) (f := 48) (e := 39) (fr := true) S.slices_Cloneuint64_uint64_pre (fun a l hp => fn48a a l hp) (fun p cap => by cases p <;> exact fn48b _ cap) s hp

noncomputable def sem48 : List W → Option (W × List (List W) × List Prop)
  | [.list 39 false y1] => some (wr_L39_o_f (S.slices_Cloneuint64_uint64 y1), wo_L39_o_f (S.slices_Cloneuint64_uint64 y1), [S.slices_Cloneuint64_uint64_pre y1])
  | _ => none
noncomputable def c48 : Cfg El := base.add 48 sem48
theorem c48_ok : CfgOk c48 := base_ok.add (fun args w => Try.call48 args w) (fun vs r outs ps h hp => by
  unfold sem48 at h
  split at h
  · rename_i y1; cases h; exact fn48 y1 hp
  · cases h)

noncomputable def rd_S40_f : W → List (List W) → Option (S.Num)
  | .agg [.list 39 true x1], [] => some ⟨x1⟩
  | _, _ => none
noncomputable def wr_S40_f (x : S.Num) : W := .agg [.list 39 true x.limbs]
noncomputable def wo_S40_f (_x : S.Num) : List (List W) := []
theorem rw_S40_f (v : W) (os : List (List W)) (x : S.Num) (h : rd_S40_f v os = some x) : v = wr_S40_f x ∧ os = wo_S40_f x := by
  unfold rd_S40_f at h
  split at h <;> first | (cases h; exact ⟨rfl, rfl⟩) | cases h
theorem np_S40_f (x : S.Num) : okv (fun _ => false) (wr_S40_f x) = true := rfl
theorem no_S40_f (x : S.Num) : all (fun cs => all (ok0 fun _ => false) cs) (wo_S40_f x) = true := rfl

noncomputable def body20 : Code := (Try.f20.body).getD .skip
noncomputable def lb20_0 : Code := ((nth (loopsOf 0 body20) 0).getD (0, .skip)).2
noncomputable def px20_0 : List W → Option S.nat_Limbs_L0
  | [.list 39 false y1] => some ⟨y1⟩
  | _ => none
noncomputable def tx20_0 (x : S.nat_Limbs_L0) : List W := [.list 39 false x.l]
noncomputable def py20_0 : Ex → List W → Option (S.nat_Limbs_L0)
  | .exit 0, [.list 39 false y1] => some ⟨y1⟩
  | _, _ => none
noncomputable def ld20_0 : LD El where
  X := S.nat_Limbs_L0
  Y := S.nat_Limbs_L0
  keys := [.slot 0]
  fits := [38]
  px := px20_0
  tx := tx20_0
  okeys := [.slot 0]
  ofits := [38]
  py := py20_0
  ty := fun y => tx20_0 y
  oex := fun _ => .exit 0
  junk := [.slot 3, .slot 4, .slot 5, .slot 6, .slot 7, .slot 8, .slot 9, .slot 10, .slot 11, .slot 12, .slot 13, .slot 14, .slot 15, .slot 16, .slot 17, .slot 18, .slot 19]
  rows := []
noncomputable def lo20_0 : S.nat_Limbs_L0 → Tr El := fun y => .leaf (.exit 0) (zipK ld20_0.okeys (tx20_0 y) ++ junkK ld20_0.junk)
noncomputable def loop20 : Nat → Env El → Tr El
  | 0 => ld20_0.tree c48 Try.f20.ntmps 0 lb20_0 S.nat_Limbs_L0_run lo20_0 S.nat_Limbs_L0_step S.nat_Limbs_L0_vcs
  | _ => fun _ => .fail
theorem lok20_0 : ∀ w0 S0, LoopOk c48 Try.f20.ntmps w0 S0 loop20 0 lb20_0 :=
  loop_ok (c := c48) (n := Try.f20.ntmps) c48_ok mixed ld20_0 (body := lb20_0) (key := 0) (loop := loop20) (F := S.nat_Limbs_L0_run) (out := lo20_0) (step := S.nat_Limbs_L0_step) (vcs := S.nat_Limbs_L0_vcs)
    (fun _ => by kernel_rfl) (no_loops (by kernel_rfl)) rfl rfl
    (fun vs x h => by unfold ld20_0 px20_0 at h; dsimp only at h; split at h <;> first | (cases h; rfl) | cases h)
    (fun e vs y h => by unfold ld20_0 py20_0 at h; dsimp only at h; split at h <;> first | (cases h; exact ⟨rfl, rfl⟩) | cases h)
    (by kernel_rfl) (fun _ => rfl) (fun _ _ h => h) (fun x => by kernel_rfl) (fun x h => Eq.mpr (show Vm.Tr.vc (Vm.ev c48 Try.f20.ntmps loop20 0 lb20_0 (ld20_0.vars x) []) = S.nat_Limbs_L0_vcs x by kernel_rfl) h)
theorem fn20 (l : (List Int)) (hp : S.nat_Limbs_pre l) : CallOk c48 20 [.list 39 false l] (wr_S40_f (S.nat_Limbs l)) (wo_S40_f (S.nat_Limbs l)) :=
  (call_ok (c := c48) (f := 20) (fn := Try.f20) (code := body20) (args := ([.list 39 false l])) (loop := loop20) (md := ⟨false, true⟩) (rd := rd_S40_f) (wr := wr_S40_f) (wo := wo_S40_f) (r := (S.nat_Limbs l)) c48_ok (by kernel_rfl) (by kernel_rfl) (by kernel_rfl) (loops_all (l := [(0, lb20_0)]) (by kernel_rfl) ⟨lok20_0, trivial⟩) (by kernel_rfl) (by kernel_rfl) (by kernel_rfl)
    rw_S40_f np_S40_f no_S40_f (by kernel_rfl) (Eq.mpr (show Vm.Tr.vc (Vm.Fn c48 Try.f20 body20 loop20 ([.list 39 false l])) = S.nat_Limbs_pre l by kernel_rfl) hp))

noncomputable def sem20 : List W → Option (W × List (List W) × List Prop)
  | [.list 39 false y1] => some (wr_S40_f (S.nat_Limbs y1), wo_S40_f (S.nat_Limbs y1), [S.nat_Limbs_pre y1])
  | _ => none
noncomputable def c20 : Cfg El := c48.add 20 sem20
theorem c20_ok : CfgOk c20 := c48_ok.add (fun args w => Try.call20 args w) (fun vs r outs ps h hp => by
  unfold sem20 at h
  split at h
  · rename_i y1; cases h; exact fn20 y1 hp
  · cases h)

noncomputable def body51 : Code := (Try.f51.body).getD .skip
theorem fn51 (n : S.Num) (hp : S.nat_Nat_All_pre n) : CallOk c20 51 [.agg [.list 39 false n.limbs]] (wr_L39_o_f (S.nat_Nat_All n)) (wo_L39_o_f (S.nat_Nat_All n)) :=
  CallOk.unhint (c := c20) (call_ok (c := (c20.hint [5] [])) (f := 51) (fn := Try.f51) (code := body51) (args := ([.agg [.list 39 false n.limbs]])) (loop := noLoop) (md := ⟨true, true⟩) (rd := rd_L39_o_f) (wr := wr_L39_o_f) (wo := wo_L39_o_f) (r := (S.nat_Nat_All n)) (CfgOk.hint c20_ok [5] []) (by kernel_rfl) (by kernel_rfl) (by kernel_rfl) (no_loops (by kernel_rfl)) (by kernel_rfl) (by kernel_rfl) (by kernel_rfl)
    rw_L39_o_f np_L39_o_f no_L39_o_f (by kernel_rfl) (Eq.mpr (show Vm.Tr.vc (Vm.Fn (c20.hint [5] []) Try.f51 body51 noLoop ([.agg [.list 39 false n.limbs]])) = S.nat_Nat_All_pre n by kernel_rfl) hp))

noncomputable def sem51 : List W → Option (W × List (List W) × List Prop)
  | [.agg [.list 39 false y1]] => some (wr_L39_o_f (S.nat_Nat_All (⟨y1⟩ : S.Num)), wo_L39_o_f (S.nat_Nat_All (⟨y1⟩ : S.Num)), [S.nat_Nat_All_pre (⟨y1⟩ : S.Num)])
  | _ => none
noncomputable def c51 : Cfg El := c20.add 51 sem51
theorem c51_ok : CfgOk c51 := c20_ok.add (fun args w => Try.call51 args w) (fun vs r outs ps h hp => by
  unfold sem51 at h
  split at h
  · rename_i y1; cases h; exact fn51 (⟨y1⟩ : S.Num) hp
  · cases h)

noncomputable def rd_i64 : W → List (List W) → Option (Int)
  | .int .i64 x1, [] => some x1
  | _, _ => none
noncomputable def wr_i64 (x : Int) : W := .int .i64 x
noncomputable def wo_i64 (_x : Int) : List (List W) := []
theorem rw_i64 (v : W) (os : List (List W)) (x : Int) (h : rd_i64 v os = some x) : v = wr_i64 x ∧ os = wo_i64 x := by
  unfold rd_i64 at h
  split at h <;> first | (cases h; exact ⟨rfl, rfl⟩) | cases h
theorem np_i64 (x : Int) : okv (fun _ => false) (wr_i64 x) = true := rfl
theorem no_i64 (x : Int) : all (fun cs => all (ok0 fun _ => false) cs) (wo_i64 x) = true := rfl

noncomputable def body98 : Code := (Try.f98.body).getD .skip
theorem fn98 (x : Int) (hp : S.math_bits_Len64_pre x) : CallOk c51 98 [.int .u64 x] (wr_i64 (S.math_bits_Len64 x)) (wo_i64 (S.math_bits_Len64 x)) :=
  (call_ok (c := c51) (f := 98) (fn := Try.f98) (code := body98) (args := ([.int .u64 x])) (loop := noLoop) (md := ⟨false, false⟩) (rd := rd_i64) (wr := wr_i64) (wo := wo_i64) (r := (S.math_bits_Len64 x)) c51_ok (by kernel_rfl) (by kernel_rfl) (by kernel_rfl) (no_loops (by kernel_rfl)) (by kernel_rfl) (by kernel_rfl) (by kernel_rfl)
    rw_i64 np_i64 no_i64 (by kernel_rfl) (Eq.mpr (show Vm.Tr.vc (Vm.Fn c51 Try.f98 body98 noLoop ([.int .u64 x])) = S.math_bits_Len64_pre x by kernel_rfl) hp))

noncomputable def sem98 : List W → Option (W × List (List W) × List Prop)
  | [.int .u64 y1] => some (wr_i64 (S.math_bits_Len64 y1), wo_i64 (S.math_bits_Len64 y1), [S.math_bits_Len64_pre y1])
  | _ => none
noncomputable def c98 : Cfg El := c51.add 98 sem98
theorem c98_ok : CfgOk c98 := c51_ok.add (fun args w => Try.call98 args w) (fun vs r outs ps h hp => by
  unfold sem98 at h
  split at h
  · rename_i y1; cases h; exact fn98 y1 hp
  · cases h)

noncomputable def body86 : Code := (Try.f86.body).getD .skip
theorem fn86 (x : Int) (hp : S.math_bits_LeadingZeros64_pre x) : CallOk c98 86 [.int .u64 x] (wr_i64 (S.math_bits_LeadingZeros64 x)) (wo_i64 (S.math_bits_LeadingZeros64 x)) :=
  (call_ok (c := c98) (f := 86) (fn := Try.f86) (code := body86) (args := ([.int .u64 x])) (loop := noLoop) (md := ⟨false, false⟩) (rd := rd_i64) (wr := wr_i64) (wo := wo_i64) (r := (S.math_bits_LeadingZeros64 x)) c98_ok (by kernel_rfl) (by kernel_rfl) (by kernel_rfl) (no_loops (by kernel_rfl)) (by kernel_rfl) (by kernel_rfl) (by kernel_rfl)
    rw_i64 np_i64 no_i64 (by kernel_rfl) (Eq.mpr (show Vm.Tr.vc (Vm.Fn c98 Try.f86 body86 noLoop ([.int .u64 x])) = S.math_bits_LeadingZeros64_pre x by kernel_rfl) hp))

noncomputable def sem86 : List W → Option (W × List (List W) × List Prop)
  | [.int .u64 y1] => some (wr_i64 (S.math_bits_LeadingZeros64 y1), wo_i64 (S.math_bits_LeadingZeros64 y1), [S.math_bits_LeadingZeros64_pre y1])
  | _ => none
noncomputable def c86 : Cfg El := c98.add 86 sem86
theorem c86_ok : CfgOk c86 := c98_ok.add (fun args w => Try.call86 args w) (fun vs r outs ps h hp => by
  unfold sem86 at h
  split at h
  · rename_i y1; cases h; exact fn86 y1 hp
  · cases h)

noncomputable def rd_u64_u64 : W → List (List W) → Option (Int × Int)
  | .tup [.int .u64 x1, .int .u64 x2], [] => some ⟨x1, x2⟩
  | _, _ => none
noncomputable def wr_u64_u64 (x : Int × Int) : W := .tup [.int .u64 x.1, .int .u64 x.2]
noncomputable def wo_u64_u64 (_x : Int × Int) : List (List W) := []
theorem rw_u64_u64 (v : W) (os : List (List W)) (x : Int × Int) (h : rd_u64_u64 v os = some x) : v = wr_u64_u64 x ∧ os = wo_u64_u64 x := by
  unfold rd_u64_u64 at h
  split at h <;> first | (cases h; exact ⟨rfl, rfl⟩) | cases h
theorem np_u64_u64 (x : Int × Int) : okv (fun _ => false) (wr_u64_u64 x) = true := rfl
theorem no_u64_u64 (x : Int × Int) : all (fun cs => all (ok0 fun _ => false) cs) (wo_u64_u64 x) = true := rfl

noncomputable def body53 : Code := (Try.f53.body).getD .skip
noncomputable def lb53_0 : Code := ((nth (loopsOf 0 body53) 0).getD (0, .skip)).2
noncomputable def px53_0 : List W → Option S.math_bits_Div64_L0
  | [.int .u64 y1, .int .u64 y2, .int .u64 y3, .int .u64 y4, .int .u64 y5] => some ⟨y1, y2, y3, y4, y5⟩
  | _ => none
noncomputable def tx53_0 (x : S.math_bits_Div64_L0) : List W := [.int .u64 x.yn1, .int .u64 x.yn0, .int .u64 x.un1, .int .u64 x.q1, .int .u64 x.rhat]
noncomputable def py53_0 : Ex → List W → Option (S.math_bits_Div64_L0)
  | .exit 0, [.int .u64 y1, .int .u64 y2, .int .u64 y3, .int .u64 y4, .int .u64 y5] => some ⟨y1, y2, y3, y4, y5⟩
  | _, _ => none
noncomputable def ld53_0 : LD El where
  X := S.math_bits_Div64_L0
  Y := S.math_bits_Div64_L0
  keys := [.slot 9, .slot 10, .slot 13, .slot 15, .slot 16]
  fits := [39, 39, 39, 39, 39]
  px := px53_0
  tx := tx53_0
  okeys := [.slot 9, .slot 10, .slot 13, .slot 15, .slot 16]
  ofits := [39, 39, 39, 39, 39]
  py := py53_0
  ty := fun y => tx53_0 y
  oex := fun _ => .exit 0
  junk := [.slot 67, .slot 68, .slot 69, .slot 70, .slot 71, .slot 72, .slot 73, .slot 74, .slot 75, .slot 76, .slot 77, .slot 78, .slot 79, .slot 80, .slot 81, .slot 82, .slot 83, .slot 84, .slot 85]
  rows := []
noncomputable def lo53_0 : S.math_bits_Div64_L0 → Tr El := fun y => .leaf (.exit 0) (zipK ld53_0.okeys (tx53_0 y) ++ junkK ld53_0.junk)
noncomputable def lb53_2 : Code := ((nth (loopsOf 0 body53) 1).getD (0, .skip)).2
noncomputable def px53_2 : List W → Option S.math_bits_Div64_L2
  | [.int .u64 y1, .int .u64 y2, .int .u64 y3, .int .u64 y4, .int .u64 y5] => some ⟨y1, y2, y3, y4, y5⟩
  | _ => none
noncomputable def tx53_2 (x : S.math_bits_Div64_L2) : List W := [.int .u64 x.yn1, .int .u64 x.yn0, .int .u64 x.un0, .int .u64 x.rhat, .int .u64 x.q0]
noncomputable def py53_2 : Ex → List W → Option (S.math_bits_Div64_L2)
  | .exit 2, [.int .u64 y1, .int .u64 y2, .int .u64 y3, .int .u64 y4, .int .u64 y5] => some ⟨y1, y2, y3, y4, y5⟩
  | _, _ => none
noncomputable def ld53_2 : LD El where
  X := S.math_bits_Div64_L2
  Y := S.math_bits_Div64_L2
  keys := [.slot 9, .slot 10, .slot 14, .slot 16, .slot 18]
  fits := [39, 39, 39, 39, 39]
  px := px53_2
  tx := tx53_2
  okeys := [.slot 9, .slot 10, .slot 14, .slot 16, .slot 18]
  ofits := [39, 39, 39, 39, 39]
  py := py53_2
  ty := fun y => tx53_2 y
  oex := fun _ => .exit 2
  junk := [.slot 102, .slot 103, .slot 104, .slot 105, .slot 106, .slot 107, .slot 108, .slot 109, .slot 110, .slot 111, .slot 112, .slot 113, .slot 114, .slot 115, .slot 116, .slot 117, .slot 118, .slot 119, .slot 120]
  rows := []
noncomputable def lo53_2 : S.math_bits_Div64_L2 → Tr El := fun y => .leaf (.exit 2) (zipK ld53_2.okeys (tx53_2 y) ++ junkK ld53_2.junk)
noncomputable def loop53 : Nat → Env El → Tr El
  | 0 => ld53_0.tree c86 Try.f53.ntmps 0 lb53_0 S.math_bits_Div64_L0_run lo53_0 S.math_bits_Div64_L0_step S.math_bits_Div64_L0_vcs
  | 2 => ld53_2.tree c86 Try.f53.ntmps 2 lb53_2 S.math_bits_Div64_L2_run lo53_2 S.math_bits_Div64_L2_step S.math_bits_Div64_L2_vcs
  | _ => fun _ => .fail
theorem lok53_2 : ∀ w0 S0, LoopOk c86 Try.f53.ntmps w0 S0 loop53 2 lb53_2 :=
  loop_ok (c := c86) (n := Try.f53.ntmps) c86_ok mixed ld53_2 (body := lb53_2) (key := 2) (loop := loop53) (F := S.math_bits_Div64_L2_run) (out := lo53_2) (step := S.math_bits_Div64_L2_step) (vcs := S.math_bits_Div64_L2_vcs)
    (fun _ => by kernel_rfl) (no_loops (by kernel_rfl)) rfl rfl
    (fun vs x h => by unfold ld53_2 px53_2 at h; dsimp only at h; split at h <;> first | (cases h; rfl) | cases h)
    (fun e vs y h => by unfold ld53_2 py53_2 at h; dsimp only at h; split at h <;> first | (cases h; exact ⟨rfl, rfl⟩) | cases h)
    (by kernel_rfl) (fun _ => rfl) (fun _ _ h => h) (fun x => by kernel_rfl) (fun _ _ => Tr.vc_of_noReq (by kernel_rfl))
theorem lok53_0 : ∀ w0 S0, LoopOk c86 Try.f53.ntmps w0 S0 loop53 0 lb53_0 :=
  loop_ok (c := c86) (n := Try.f53.ntmps) c86_ok mixed ld53_0 (body := lb53_0) (key := 0) (loop := loop53) (F := S.math_bits_Div64_L0_run) (out := lo53_0) (step := S.math_bits_Div64_L0_step) (vcs := S.math_bits_Div64_L0_vcs)
    (fun _ => by kernel_rfl) (no_loops (by kernel_rfl)) rfl rfl
    (fun vs x h => by unfold ld53_0 px53_0 at h; dsimp only at h; split at h <;> first | (cases h; rfl) | cases h)
    (fun e vs y h => by unfold ld53_0 py53_0 at h; dsimp only at h; split at h <;> first | (cases h; exact ⟨rfl, rfl⟩) | cases h)
    (by kernel_rfl) (fun _ => rfl) (fun _ _ h => h) (fun x => by kernel_rfl) (fun _ _ => Tr.vc_of_noReq (by kernel_rfl))
theorem fn53 (hi : Int) (lo : Int) (y : Int) (hp : S.math_bits_Div64_pre hi lo y) : CallOk c86 53 [.int .u64 hi, .int .u64 lo, .int .u64 y] (wr_u64_u64 (S.math_bits_Div64 hi lo y)) (wo_u64_u64 (S.math_bits_Div64 hi lo y)) :=
  (call_ok (c := c86) (f := 53) (fn := Try.f53) (code := body53) (args := ([.int .u64 hi, .int .u64 lo, .int .u64 y])) (loop := loop53) (md := ⟨false, false⟩) (rd := rd_u64_u64) (wr := wr_u64_u64) (wo := wo_u64_u64) (r := (S.math_bits_Div64 hi lo y)) c86_ok (by kernel_rfl) (by kernel_rfl) (by kernel_rfl) (loops_all (l := [(0, lb53_0), (2, lb53_2)]) (by kernel_rfl) ⟨lok53_0, ⟨lok53_2, trivial⟩⟩) (by kernel_rfl) (by kernel_rfl) (by kernel_rfl)
    rw_u64_u64 np_u64_u64 no_u64_u64 (by kernel_rfl) (Eq.mpr (show Vm.Tr.vc (Vm.Fn c86 Try.f53 body53 loop53 ([.int .u64 hi, .int .u64 lo, .int .u64 y])) = S.math_bits_Div64_pre hi lo y by kernel_rfl) hp))

noncomputable def sem53 : List W → Option (W × List (List W) × List Prop)
  | [.int .u64 y1, .int .u64 y2, .int .u64 y3] => some (wr_u64_u64 (S.math_bits_Div64 y1 y2 y3), wo_u64_u64 (S.math_bits_Div64 y1 y2 y3), [S.math_bits_Div64_pre y1 y2 y3])
  | _ => none
noncomputable def c53 : Cfg El := c86.add 53 sem53
theorem c53_ok : CfgOk c53 := c86_ok.add (fun args w => Try.call53 args w) (fun vs r outs ps h hp => by
  unfold sem53 at h
  split at h
  · rename_i y1 y2 y3; cases h; exact fn53 y1 y2 y3 hp
  · cases h)

noncomputable def rd_S40_u64_i64 : W → List (List W) → Option (S.Num × Int × Int)
  | .tup [.agg [.list 39 false x1], .int .u64 x2, .int .i64 x3], [] => some ⟨⟨x1⟩, x2, x3⟩
  | _, _ => none
noncomputable def wr_S40_u64_i64 (x : S.Num × Int × Int) : W := .tup [.agg [.list 39 false x.1.limbs], .int .u64 x.2.1, .int .i64 x.2.2]
noncomputable def wo_S40_u64_i64 (_x : S.Num × Int × Int) : List (List W) := []
theorem rw_S40_u64_i64 (v : W) (os : List (List W)) (x : S.Num × Int × Int) (h : rd_S40_u64_i64 v os = some x) : v = wr_S40_u64_i64 x ∧ os = wo_S40_u64_i64 x := by
  unfold rd_S40_u64_i64 at h
  split at h <;> first | (cases h; exact ⟨rfl, rfl⟩) | cases h
theorem np_S40_u64_i64 (x : S.Num × Int × Int) : okv (fun _ => false) (wr_S40_u64_i64 x) = true := rfl
theorem no_S40_u64_i64 (x : S.Num × Int × Int) : all (fun cs => all (ok0 fun _ => false) cs) (wo_S40_u64_i64 x) = true := rfl

theorem fn24 (n : S.Num) (a1 : Int) (hp : S.deci_Div_pre n a1) : CallOk c53 24 [.agg [.list 39 false n.limbs], .int .u64 a1] (wr_S40_u64_i64 (S.deci_Div n a1)) (wo_S40_u64_i64 (S.deci_Div n a1)) :=
  div_calls (c := c53) c53_ok rfl rfl rfl (fun n hp => CallOk.same (c := c20) (c' := c53) rfl rfl rfl rfl (fn51 n hp)) (fun hi lo y hp => CallOk.same (c := c86) (c' := c53) rfl rfl rfl rfl (fn53 hi lo y hp)) (fun l hp => CallOk.same (c := c48) (c' := c53) rfl rfl rfl rfl (fn20 l hp)) n a1 hp

noncomputable def sem24 : List W → Option (W × List (List W) × List Prop)
  | [.agg [.list 39 false y1], .int .u64 y2] => some (wr_S40_u64_i64 (S.deci_Div (⟨y1⟩ : S.Num) y2), wo_S40_u64_i64 (S.deci_Div (⟨y1⟩ : S.Num) y2), [S.deci_Div_pre (⟨y1⟩ : S.Num) y2])
  | _ => none
noncomputable def c24 : Cfg El := c53.add 24 sem24
theorem c24_ok : CfgOk c24 := c53_ok.add (fun args w => Try.call24 args w) (fun vs r outs ps h hp => by
  unfold sem24 at h
  split at h
  · rename_i y1 y2; cases h; exact fn24 (⟨y1⟩ : S.Num) y2 hp
  · cases h)

noncomputable def body39 : Code := (Try.f39.body).getD .skip
theorem fn39 (n : S.Num) : CallOk c24 39 [.agg [.list 39 false n.limbs]] (wr_i64 (S.nat_Nat_Len n)) (wo_i64 (S.nat_Nat_Len n)) :=
  (call_ok (c := c24) (f := 39) (fn := Try.f39) (code := body39) (args := ([.agg [.list 39 false n.limbs]])) (loop := noLoop) (md := ⟨false, false⟩) (rd := rd_i64) (wr := wr_i64) (wo := wo_i64) (r := (S.nat_Nat_Len n)) c24_ok (by kernel_rfl) (by kernel_rfl) (by kernel_rfl) (no_loops (by kernel_rfl)) (by kernel_rfl) (by kernel_rfl) (by kernel_rfl)
    rw_i64 np_i64 no_i64 (by kernel_rfl) (Tr.vc_of_noReq (by kernel_rfl)))

noncomputable def sem39 : List W → Option (W × List (List W) × List Prop)
  | [.agg [.list 39 false y1]] => some (wr_i64 (S.nat_Nat_Len (⟨y1⟩ : S.Num)), wo_i64 (S.nat_Nat_Len (⟨y1⟩ : S.Num)), [])
  | _ => none
noncomputable def c39 : Cfg El := c24.add 39 sem39
theorem c39_ok : CfgOk c39 := c24_ok.add (fun args w => Try.call39 args w) (fun vs r outs ps h hp => by
  unfold sem39 at h
  split at h
  · rename_i y1; cases h; exact fn39 (⟨y1⟩ : S.Num)
  · cases h)

noncomputable def rd_u64 : W → List (List W) → Option (Int)
  | .int .u64 x1, [] => some x1
  | _, _ => none
noncomputable def wr_u64 (x : Int) : W := .int .u64 x
noncomputable def wo_u64 (_x : Int) : List (List W) := []
theorem rw_u64 (v : W) (os : List (List W)) (x : Int) (h : rd_u64 v os = some x) : v = wr_u64 x ∧ os = wo_u64 x := by
  unfold rd_u64 at h
  split at h <;> first | (cases h; exact ⟨rfl, rfl⟩) | cases h
theorem np_u64 (x : Int) : okv (fun _ => false) (wr_u64 x) = true := rfl
theorem no_u64 (x : Int) : all (fun cs => all (ok0 fun _ => false) cs) (wo_u64 x) = true := rfl

noncomputable def body64 : Code := (Try.f64.body).getD .skip
theorem fn64 (n : S.Num) (i : Int) (hp : S.nat_Nat_limb_pre n i) : CallOk c39 64 [.agg [.list 39 false n.limbs], .int .i64 i] (wr_u64 (S.nat_Nat_limb n i)) (wo_u64 (S.nat_Nat_limb n i)) :=
  (call_ok (c := c39) (f := 64) (fn := Try.f64) (code := body64) (args := ([.agg [.list 39 false n.limbs], .int .i64 i])) (loop := noLoop) (md := ⟨false, false⟩) (rd := rd_u64) (wr := wr_u64) (wo := wo_u64) (r := (S.nat_Nat_limb n i)) c39_ok (by kernel_rfl) (by kernel_rfl) (by kernel_rfl) (no_loops (by kernel_rfl)) (by kernel_rfl) (by kernel_rfl) (by kernel_rfl)
    rw_u64 np_u64 no_u64 (by kernel_rfl) (Eq.mpr (show Vm.Tr.vc (Vm.Fn c39 Try.f64 body64 noLoop ([.agg [.list 39 false n.limbs], .int .i64 i])) = S.nat_Nat_limb_pre n i by kernel_rfl) hp))

noncomputable def sem64 : List W → Option (W × List (List W) × List Prop)
  | [.agg [.list 39 false y1], .int .i64 y2] => some (wr_u64 (S.nat_Nat_limb (⟨y1⟩ : S.Num) y2), wo_u64 (S.nat_Nat_limb (⟨y1⟩ : S.Num) y2), [S.nat_Nat_limb_pre (⟨y1⟩ : S.Num) y2])
  | _ => none
noncomputable def c64 : Cfg El := c39.add 64 sem64
theorem c64_ok : CfgOk c64 := c39_ok.add (fun args w => Try.call64 args w) (fun vs r outs ps h hp => by
  unfold sem64 at h
  split at h
  · rename_i y1 y2; cases h; exact fn64 (⟨y1⟩ : S.Num) y2 hp
  · cases h)

noncomputable def rd_u64_b : W → List (List W) → Option (Int × Bool)
  | .tup [.int .u64 x1, .bool x2], [] => some ⟨x1, x2⟩
  | _, _ => none
noncomputable def wr_u64_b (x : Int × Bool) : W := .tup [.int .u64 x.1, .bool x.2]
noncomputable def wo_u64_b (_x : Int × Bool) : List (List W) := []
theorem rw_u64_b (v : W) (os : List (List W)) (x : Int × Bool) (h : rd_u64_b v os = some x) : v = wr_u64_b x ∧ os = wo_u64_b x := by
  unfold rd_u64_b at h
  split at h <;> first | (cases h; exact ⟨rfl, rfl⟩) | cases h
theorem np_u64_b (x : Int × Bool) : okv (fun _ => false) (wr_u64_b x) = true := rfl
theorem no_u64_b (x : Int × Bool) : all (fun cs => all (ok0 fun _ => false) cs) (wo_u64_b x) = true := rfl

noncomputable def body47 : Code := (Try.f47.body).getD .skip
theorem fn47 (n : S.Num) (hp : S.nat_Nat_Small_pre n) : CallOk c64 47 [.agg [.list 39 false n.limbs]] (wr_u64_b (S.nat_Nat_Small n)) (wo_u64_b (S.nat_Nat_Small n)) :=
  (call_ok (c := c64) (f := 47) (fn := Try.f47) (code := body47) (args := ([.agg [.list 39 false n.limbs]])) (loop := noLoop) (md := ⟨false, false⟩) (rd := rd_u64_b) (wr := wr_u64_b) (wo := wo_u64_b) (r := (S.nat_Nat_Small n)) c64_ok (by kernel_rfl) (by kernel_rfl) (by kernel_rfl) (no_loops (by kernel_rfl)) (by kernel_rfl) (by kernel_rfl) (by kernel_rfl)
    rw_u64_b np_u64_b no_u64_b (by kernel_rfl) (Eq.mpr (show Vm.Tr.vc (Vm.Fn c64 Try.f47 body47 noLoop ([.agg [.list 39 false n.limbs]])) = S.nat_Nat_Small_pre n by kernel_rfl) hp))

noncomputable def sem47 : List W → Option (W × List (List W) × List Prop)
  | [.agg [.list 39 false y1]] => some (wr_u64_b (S.nat_Nat_Small (⟨y1⟩ : S.Num)), wo_u64_b (S.nat_Nat_Small (⟨y1⟩ : S.Num)), [S.nat_Nat_Small_pre (⟨y1⟩ : S.Num)])
  | _ => none
noncomputable def c47 : Cfg El := c64.add 47 sem47
theorem c47_ok : CfgOk c47 := c64_ok.add (fun args w => Try.call47 args w) (fun vs r outs ps h hp => by
  unfold sem47 at h
  split at h
  · rename_i y1; cases h; exact fn47 (⟨y1⟩ : S.Num) hp
  · cases h)

noncomputable def rd_b : W → List (List W) → Option (Bool)
  | .bool x1, [] => some x1
  | _, _ => none
noncomputable def wr_b (x : Bool) : W := .bool x
noncomputable def wo_b (_x : Bool) : List (List W) := []
theorem rw_b (v : W) (os : List (List W)) (x : Bool) (h : rd_b v os = some x) : v = wr_b x ∧ os = wo_b x := by
  unfold rd_b at h
  split at h <;> first | (cases h; exact ⟨rfl, rfl⟩) | cases h
theorem np_b (x : Bool) : okv (fun _ => false) (wr_b x) = true := rfl
theorem no_b (x : Bool) : all (fun cs => all (ok0 fun _ => false) cs) (wo_b x) = true := rfl

theorem fn57 (s : ByteArray) (hp : S.deci_plain_pre s) : CallOk c47 57 [.str s] (wr_b (S.deci_plain s)) (wo_b (S.deci_plain s)) :=
  plain_calls (c := c47) rfl s hp

noncomputable def sem57 : List W → Option (W × List (List W) × List Prop)
  | [.str y1] => some (wr_b (S.deci_plain y1), wo_b (S.deci_plain y1), [S.deci_plain_pre y1])
  | _ => none
noncomputable def c57 : Cfg El := c47.add 57 sem57
theorem c57_ok : CfgOk c57 := c47_ok.add (fun args w => Try.call57 args w) (fun vs r outs ps h hp => by
  unfold sem57 at h
  split at h
  · rename_i y1; cases h; exact fn57 y1 hp
  · cases h)

noncomputable def body38 : Code := (Try.f38.body).getD .skip
theorem fn38 (n : Int) (hp : S.nat_Of_pre n) : CallOk c57 38 [.int .u64 n] (wr_S40_f (S.nat_Of n)) (wo_S40_f (S.nat_Of n)) :=
  (call_ok (c := c57) (f := 38) (fn := Try.f38) (code := body38) (args := ([.int .u64 n])) (loop := noLoop) (md := ⟨false, true⟩) (rd := rd_S40_f) (wr := wr_S40_f) (wo := wo_S40_f) (r := (S.nat_Of n)) c57_ok (by kernel_rfl) (by kernel_rfl) (by kernel_rfl) (no_loops (by kernel_rfl)) (by kernel_rfl) (by kernel_rfl) (by kernel_rfl)
    rw_S40_f np_S40_f no_S40_f (by kernel_rfl) (Eq.mpr (show Vm.Tr.vc (Vm.Fn c57 Try.f38 body38 noLoop ([.int .u64 n])) = S.nat_Of_pre n by kernel_rfl) hp))

noncomputable def sem38 : List W → Option (W × List (List W) × List Prop)
  | [.int .u64 y1] => some (wr_S40_f (S.nat_Of y1), wo_S40_f (S.nat_Of y1), [S.nat_Of_pre y1])
  | _ => none
noncomputable def c38 : Cfg El := c57.add 38 sem38
theorem c38_ok : CfgOk c38 := c57_ok.add (fun args w => Try.call38 args w) (fun vs r outs ps h hp => by
  unfold sem38 at h
  split at h
  · rename_i y1; cases h; exact fn38 y1 hp
  · cases h)

noncomputable def body67 : Code := (Try.f67.body).getD .skip
theorem fn67 (x : Int) (y : Int) : CallOk c38 67 [.int .u64 x, .int .u64 y] (wr_u64_u64 (S.math_bits_Mul64 x y)) (wo_u64_u64 (S.math_bits_Mul64 x y)) :=
  (call_ok (c := c38) (f := 67) (fn := Try.f67) (code := body67) (args := ([.int .u64 x, .int .u64 y])) (loop := noLoop) (md := ⟨false, false⟩) (rd := rd_u64_u64) (wr := wr_u64_u64) (wo := wo_u64_u64) (r := (S.math_bits_Mul64 x y)) c38_ok (by kernel_rfl) (by kernel_rfl) (by kernel_rfl) (no_loops (by kernel_rfl)) (by kernel_rfl) (by kernel_rfl) (by kernel_rfl)
    rw_u64_u64 np_u64_u64 no_u64_u64 (by kernel_rfl) (Tr.vc_of_noReq (by kernel_rfl)))

noncomputable def sem67 : List W → Option (W × List (List W) × List Prop)
  | [.int .u64 y1, .int .u64 y2] => some (wr_u64_u64 (S.math_bits_Mul64 y1 y2), wo_u64_u64 (S.math_bits_Mul64 y1 y2), [])
  | _ => none
noncomputable def c67 : Cfg El := c38.add 67 sem67
theorem c67_ok : CfgOk c67 := c38_ok.add (fun args w => Try.call67 args w) (fun vs r outs ps h hp => by
  unfold sem67 at h
  split at h
  · rename_i y1 y2; cases h; exact fn67 y1 y2
  · cases h)

noncomputable def sem66 : List W → Option (W × List (List W) × List Prop)
  | [.int .u64 x, .int .u64 y, .int .u64 c] => some (.tup [.int .u64 (S.math_bits_Add64 x y c).1, .int .u64 (S.math_bits_Add64 x y c).2], [], [S.math_bits_Add64_pre x y c])
  | _ => none
noncomputable def c66 : Cfg El := c67.add 66 sem66
theorem c66_ok : CfgOk c66 := c67_ok.addExt (fun vs r outs ps h hp => by
  unfold sem66 at h
  split at h
  · cases h; exact ⟨rfl, ext_add64 (c := c67) (fn := Try.f66) (by kernel_rfl) (by kernel_rfl) (by kernel_rfl) (by kernel_rfl) (by kernel_rfl) hp⟩
  · cases h)

noncomputable def body37 : Code := (Try.f37.body).getD .skip
noncomputable def lb37_0 : Code := ((nth (loopsOf 0 body37) 0).getD (0, .skip)).2
noncomputable def px37_0 : List W → Option S.nat_Mul_L0
  | [.ptr 3 0, .own 87, .list 39 false y1, .int .i64 y2, .int .i64 y3, .rowc 39 false none y4, .list 39 false y5] => some ⟨y1, y2, y3, y4, ⟨y5⟩⟩
  | _ => none
noncomputable def tx37_0 (x : S.nat_Mul_L0) : List W := [.ptr 3 0, .own 87, .list 39 false x.t21, .int .i64 x.t22, .int .i64 x.t23, .rowc 39 false none x.l, .list 39 false x.b.limbs]
noncomputable def py37_0 : Ex → List W → Option (S.nat_Mul_L0)
  | .exit 0, [.ptr 3 0, .own 87, .list 39 false y1, .int .i64 y2, .int .i64 y3, .rowc 39 false none y4, .list 39 false y5] => some ⟨y1, y2, y3, y4, ⟨y5⟩⟩
  | _, _ => none
noncomputable def ld37_0 : LD El where
  X := S.nat_Mul_L0
  Y := S.nat_Mul_L0
  keys := [.slot 3, .slot 5, .slot 21, .slot 22, .slot 23, .row 87, .cell 3 0]
  fits := [0, 38, 38, 3, 3, 0, 38]
  px := px37_0
  tx := tx37_0
  okeys := [.slot 3, .slot 5, .slot 21, .slot 22, .slot 23, .row 87, .cell 3 0]
  ofits := [0, 38, 38, 3, 3, 0, 38]
  py := py37_0
  ty := fun y => tx37_0 y
  oex := fun _ => .exit 0
  junk := [.slot 6, .slot 7, .slot 8, .slot 9, .slot 10, .slot 11, .slot 12, .slot 13, .slot 24, .slot 25, .slot 26, .slot 27, .slot 28, .slot 29, .slot 30, .slot 31, .slot 32, .slot 33, .slot 34, .slot 35, .slot 36, .slot 37, .slot 38, .slot 39, .slot 40, .slot 41, .slot 42, .slot 43, .slot 44, .slot 45, .slot 46, .slot 47, .slot 48, .slot 49, .slot 50, .slot 51, .slot 52, .slot 53, .slot 54, .slot 55, .slot 56, .slot 57, .slot 58, .slot 59, .slot 60, .slot 61, .slot 62, .slot 63, .slot 64, .slot 65, .slot 66, .slot 67, .slot 68, .slot 69, .slot 70, .slot 71, .slot 72, .slot 73, .slot 74, .slot 75, .slot 76, .slot 77, .slot 78, .slot 79, .row 19, .slot 19, .row 251]
  rows := [(5, 39)]
noncomputable def lo37_0 : S.nat_Mul_L0 → Tr El := fun y => .leaf (.exit 0) (zipK ld37_0.okeys (tx37_0 y) ++ junkK ld37_0.junk)
noncomputable def lb37_2 : Code := ((nth (loopsOf 0 lb37_0) 0).getD (0, .skip)).2
noncomputable def px37_2 : List W → Option S.nat_Mul_L2
  | [.own 251, .int .i64 y1, .int .u64 y2, .int .u64 y3, .list 39 false y4, .int .i64 y5, .int .i64 y6, .rowc 39 false none y7] => some ⟨y1, y2, y3, y4, y5, y6, y7⟩
  | _ => none
noncomputable def tx37_2 (x : S.nat_Mul_L2) : List W := [.own 251, .int .i64 x.i, .int .u64 x.vx, .int .u64 x.carry, .list 39 false x.t29, .int .i64 x.t30, .int .i64 x.t31, .rowc 39 false none x.l]
noncomputable def py37_2 : Ex → List W → Option (S.nat_Mul_L2)
  | .exit 2, [.own 251, .int .i64 y1, .int .u64 y2, .int .u64 y3, .list 39 false y4, .int .i64 y5, .int .i64 y6, .rowc 39 false none y7] => some ⟨y1, y2, y3, y4, y5, y6, y7⟩
  | _, _ => none
noncomputable def ld37_2 : LD El where
  X := S.nat_Mul_L2
  Y := S.nat_Mul_L2
  keys := [.slot 5, .slot 6, .slot 7, .slot 8, .slot 29, .slot 30, .slot 31, .row 251]
  fits := [38, 3, 39, 39, 38, 3, 3, 0]
  px := px37_2
  tx := tx37_2
  okeys := [.slot 5, .slot 6, .slot 7, .slot 8, .slot 29, .slot 30, .slot 31, .row 251]
  ofits := [38, 3, 39, 39, 38, 3, 3, 0]
  py := py37_2
  ty := fun y => tx37_2 y
  oex := fun _ => .exit 2
  junk := [.slot 9, .slot 10, .slot 11, .slot 12, .slot 13, .slot 32, .slot 33, .slot 34, .slot 35, .slot 36, .slot 37, .slot 38, .slot 39, .slot 40, .slot 41, .slot 42, .slot 43, .slot 44, .slot 45, .slot 46, .slot 47, .slot 48, .slot 49, .slot 50, .slot 51, .slot 52, .slot 53, .slot 54, .slot 55, .slot 56, .slot 57, .slot 58, .slot 59, .slot 60, .slot 61, .slot 62, .slot 63, .slot 64, .slot 65, .slot 66, .slot 67, .slot 68, .slot 69, .slot 70, .slot 71, .row 87]
  rows := [(5, 39)]
noncomputable def lo37_2 : S.nat_Mul_L2 → Tr El := fun y => .leaf (.exit 2) (zipK ld37_2.okeys (tx37_2 y) ++ junkK ld37_2.junk)
noncomputable def loop37 : Nat → Env El → Tr El
  | 0 => ld37_0.tree c66 Try.f37.ntmps 0 lb37_0 S.nat_Mul_L0_run lo37_0 S.nat_Mul_L0_step S.nat_Mul_L0_vcs
  | 2 => ld37_2.tree c66 Try.f37.ntmps 2 lb37_2 S.nat_Mul_L2_run lo37_2 S.nat_Mul_L2_step S.nat_Mul_L2_vcs
  | _ => fun _ => .fail
theorem lok37_2 : ∀ w0 S0, LoopOk c66 Try.f37.ntmps w0 S0 loop37 2 lb37_2 :=
  loop_ok (c := c66) (n := Try.f37.ntmps) c66_ok mixed ld37_2 (body := lb37_2) (key := 2) (loop := loop37) (F := S.nat_Mul_L2_run) (out := lo37_2) (step := S.nat_Mul_L2_step) (vcs := S.nat_Mul_L2_vcs)
    (fun _ => by kernel_rfl) (no_loops (by kernel_rfl)) rfl rfl
    (fun vs x h => by unfold ld37_2 px37_2 at h; dsimp only at h; split at h <;> first | (cases h; rfl) | cases h)
    (fun e vs y h => by unfold ld37_2 py37_2 at h; dsimp only at h; split at h <;> first | (cases h; exact ⟨rfl, rfl⟩) | cases h)
    (by kernel_rfl) (fun _ => rfl) (fun _ _ h => h) (fun x => by kernel_rfl) (fun x h => Eq.mpr (show Vm.Tr.vc (Vm.ev c66 Try.f37.ntmps loop37 2 lb37_2 (ld37_2.vars x) []) = S.nat_Mul_L2_vcs x by kernel_rfl) h)
theorem lok37_0 : ∀ w0 S0, LoopOk c66 Try.f37.ntmps w0 S0 loop37 0 lb37_0 :=
  loop_ok (c := c66) (n := Try.f37.ntmps) c66_ok mixed ld37_0 (body := lb37_0) (key := 0) (loop := loop37) (F := S.nat_Mul_L0_run) (out := lo37_0) (step := S.nat_Mul_L0_step) (vcs := S.nat_Mul_L0_vcs)
    (fun _ => by kernel_rfl) (loops_all (l := [(2, lb37_2)]) (by kernel_rfl) ⟨lok37_2, trivial⟩) rfl rfl
    (fun vs x h => by unfold ld37_0 px37_0 at h; dsimp only at h; split at h <;> first | (cases h; rfl) | cases h)
    (fun e vs y h => by unfold ld37_0 py37_0 at h; dsimp only at h; split at h <;> first | (cases h; exact ⟨rfl, rfl⟩) | cases h)
    (by kernel_rfl) (fun _ => rfl) (fun _ _ h => h) (fun x => by kernel_rfl) (fun x h => Eq.mpr (show Vm.Tr.vc (Vm.ev c66 Try.f37.ntmps loop37 0 lb37_0 (ld37_0.vars x) []) = S.nat_Mul_L0_vcs x by kernel_rfl) h)
theorem fn37 (a : S.Num) (b : S.Num) (hp : S.nat_Mul_pre a b) : CallOk c66 37 [.agg [.list 39 false a.limbs], .agg [.list 39 false b.limbs]] (wr_S40_f (S.nat_Mul a b)) (wo_S40_f (S.nat_Mul a b)) :=
  (call_ok (c := c66) (f := 37) (fn := Try.f37) (code := body37) (args := ([.agg [.list 39 false a.limbs], .agg [.list 39 false b.limbs]])) (loop := loop37) (md := ⟨false, true⟩) (rd := rd_S40_f) (wr := wr_S40_f) (wo := wo_S40_f) (r := (S.nat_Mul a b)) c66_ok (by kernel_rfl) (by kernel_rfl) (by kernel_rfl) (loops_all (l := [(0, lb37_0)]) (by kernel_rfl) ⟨lok37_0, trivial⟩) (by kernel_rfl) (by kernel_rfl) (by kernel_rfl)
    rw_S40_f np_S40_f no_S40_f (by kernel_rfl) (Eq.mpr (show Vm.Tr.vc (Vm.Fn c66 Try.f37 body37 loop37 ([.agg [.list 39 false a.limbs], .agg [.list 39 false b.limbs]])) = S.nat_Mul_pre a b by kernel_rfl) hp))

noncomputable def sem37 : List W → Option (W × List (List W) × List Prop)
  | [.agg [.list 39 false y1], .agg [.list 39 false y2]] => some (wr_S40_f (S.nat_Mul (⟨y1⟩ : S.Num) (⟨y2⟩ : S.Num)), wo_S40_f (S.nat_Mul (⟨y1⟩ : S.Num) (⟨y2⟩ : S.Num)), [S.nat_Mul_pre (⟨y1⟩ : S.Num) (⟨y2⟩ : S.Num)])
  | _ => none
noncomputable def c37 : Cfg El := c66.add 37 sem37
theorem c37_ok : CfgOk c37 := c66_ok.add (fun args w => Try.call37 args w) (fun vs r outs ps h hp => by
  unfold sem37 at h
  split at h
  · rename_i y1 y2; cases h; exact fn37 (⟨y1⟩ : S.Num) (⟨y2⟩ : S.Num) hp
  · cases h)

noncomputable def rd_u64_Ru64 : W → List (List W) → Option (Int × Int)
  | .int .u64 x1, [[.int .u64 x2]] => some ⟨x1, x2⟩
  | _, _ => none
noncomputable def wr_u64_Ru64 (x : Int × Int) : W := .int .u64 x.1
noncomputable def wo_u64_Ru64 (x : Int × Int) : List (List W) := [[.int .u64 x.2]]
theorem rw_u64_Ru64 (v : W) (os : List (List W)) (x : Int × Int) (h : rd_u64_Ru64 v os = some x) : v = wr_u64_Ru64 x ∧ os = wo_u64_Ru64 x := by
  unfold rd_u64_Ru64 at h
  split at h <;> first | (cases h; exact ⟨rfl, rfl⟩) | cases h
theorem np_u64_Ru64 (x : Int × Int) : okv (fun _ => false) (wr_u64_Ru64 x) = true := rfl
theorem no_u64_Ru64 (x : Int × Int) : all (fun cs => all (ok0 fun _ => false) cs) (wo_u64_Ru64 x) = true := rfl

noncomputable def body65 : Code := (Try.f65.body).getD .skip
theorem fn65 (x : Int) (y : Int) (a2 : Int) (hp : S.nat_Add_1_pre x y a2) : CallOk c37 65 [.int .u64 x, .int .u64 y, .ref [.int .u64 a2]] (wr_u64_Ru64 (S.nat_Add_1 x y a2)) (wo_u64_Ru64 (S.nat_Add_1 x y a2)) :=
  CallOk.unhint (c := c37) (call_ok (c := (c37.hint [] [2])) (f := 65) (fn := Try.f65) (code := body65) (args := ([.int .u64 x, .int .u64 y, .ref [.int .u64 a2]])) (loop := noLoop) (md := ⟨false, false⟩) (rd := rd_u64_Ru64) (wr := wr_u64_Ru64) (wo := wo_u64_Ru64) (r := (S.nat_Add_1 x y a2)) (CfgOk.hint c37_ok [] [2]) (by kernel_rfl) (by kernel_rfl) (by kernel_rfl) (no_loops (by kernel_rfl)) (by kernel_rfl) (by kernel_rfl) (by kernel_rfl)
    rw_u64_Ru64 np_u64_Ru64 no_u64_Ru64 (by kernel_rfl) (Eq.mpr (show Vm.Tr.vc (Vm.Fn (c37.hint [] [2]) Try.f65 body65 noLoop ([.int .u64 x, .int .u64 y, .ref [.int .u64 a2]])) = S.nat_Add_1_pre x y a2 by kernel_rfl) hp))

noncomputable def sem65 : List W → Option (W × List (List W) × List Prop)
  | [.int .u64 y1, .int .u64 y2, .ref [.int .u64 y3]] => some (wr_u64_Ru64 (S.nat_Add_1 y1 y2 y3), wo_u64_Ru64 (S.nat_Add_1 y1 y2 y3), [S.nat_Add_1_pre y1 y2 y3])
  | _ => none
noncomputable def c65 : Cfg El := c37.add 65 sem65
theorem c65_ok : CfgOk c65 := c37_ok.add (fun args w => Try.call65 args w) (fun vs r outs ps h hp => by
  unfold sem65 at h
  split at h
  · rename_i y1 y2 y3; cases h; exact fn65 y1 y2 y3 hp
  · cases h)

noncomputable def body36 : Code := (Try.f36.body).getD .skip
noncomputable def lb36_0 : Code := ((nth (loopsOf 0 body36) 0).getD (0, .skip)).2
noncomputable def px36_0 : List W → Option S.nat_Add_L0
  | [.ptr 2 0, .ptr 3 0, .own 40, .clo 65 [] [.ptr 6 0], .int .i64 y1, .int .i64 y2, .rowc 39 false none y3, .list 39 false y4, .list 39 false y5, .int .u64 y6] => some ⟨y1, y2, y3, ⟨y4⟩, ⟨y5⟩, y6⟩
  | _ => none
noncomputable def tx36_0 (x : S.nat_Add_L0) : List W := [.ptr 2 0, .ptr 3 0, .own 40, .clo 65 [] [.ptr 6 0], .int .i64 x.t14, .int .i64 x.t15, .rowc 39 false none x.l, .list 39 false x.a.limbs, .list 39 false x.b.limbs, .int .u64 x.carry]
noncomputable def py36_0 : Ex → List W → Option (S.nat_Add_L0)
  | .exit 0, [.ptr 2 0, .ptr 3 0, .own 40, .clo 65 [] [.ptr 6 0], .int .i64 y1, .int .i64 y2, .rowc 39 false none y3, .list 39 false y4, .list 39 false y5, .int .u64 y6] => some ⟨y1, y2, y3, ⟨y4⟩, ⟨y5⟩, y6⟩
  | _, _ => none
noncomputable def ld36_0 : LD El where
  X := S.nat_Add_L0
  Y := S.nat_Add_L0
  keys := [.slot 2, .slot 3, .slot 5, .slot 7, .slot 14, .slot 15, .row 40, .cell 2 0, .cell 3 0, .cell 6 0]
  fits := [0, 0, 38, 104, 3, 3, 0, 38, 38, 39]
  px := px36_0
  tx := tx36_0
  okeys := [.slot 2, .slot 3, .slot 5, .slot 7, .slot 14, .slot 15, .row 40, .cell 2 0, .cell 3 0, .cell 6 0]
  ofits := [0, 0, 38, 104, 3, 3, 0, 38, 38, 39]
  py := py36_0
  ty := fun y => tx36_0 y
  oex := fun _ => .exit 0
  junk := [.slot 8, .slot 16, .slot 17, .slot 18, .slot 19, .slot 20, .slot 21, .slot 22, .slot 23, .slot 24, .slot 25, .slot 26, .slot 27, .slot 28, .slot 29]
  rows := [(5, 39)]
noncomputable def lo36_0 : S.nat_Add_L0 → Tr El := fun y => .leaf (.exit 0) (zipK ld36_0.okeys (tx36_0 y) ++ junkK ld36_0.junk)
noncomputable def loop36 : Nat → Env El → Tr El
  | 0 => ld36_0.tree c65 Try.f36.ntmps 0 lb36_0 S.nat_Add_L0_run lo36_0 S.nat_Add_L0_step S.nat_Add_L0_vcs
  | _ => fun _ => .fail
theorem lok36_0 : ∀ w0 S0, LoopOk c65 Try.f36.ntmps w0 S0 loop36 0 lb36_0 :=
  loop_ok (c := c65) (n := Try.f36.ntmps) c65_ok mixed ld36_0 (body := lb36_0) (key := 0) (loop := loop36) (F := S.nat_Add_L0_run) (out := lo36_0) (step := S.nat_Add_L0_step) (vcs := S.nat_Add_L0_vcs)
    (fun _ => by kernel_rfl) (no_loops (by kernel_rfl)) rfl rfl
    (fun vs x h => by unfold ld36_0 px36_0 at h; dsimp only at h; split at h <;> first | (cases h; rfl) | cases h)
    (fun e vs y h => by unfold ld36_0 py36_0 at h; dsimp only at h; split at h <;> first | (cases h; exact ⟨rfl, rfl⟩) | cases h)
    (by kernel_rfl) (fun _ => rfl) (fun _ _ h => h) (fun x => by kernel_rfl) (fun x h => Eq.mpr (show Vm.Tr.vc (Vm.ev c65 Try.f36.ntmps loop36 0 lb36_0 (ld36_0.vars x) []) = S.nat_Add_L0_vcs x by kernel_rfl) h)
theorem fn36 (a : S.Num) (b : S.Num) (hp : S.nat_Add_pre a b) : CallOk c65 36 [.agg [.list 39 false a.limbs], .agg [.list 39 false b.limbs]] (wr_S40_f (S.nat_Add a b)) (wo_S40_f (S.nat_Add a b)) :=
  (call_ok (c := c65) (f := 36) (fn := Try.f36) (code := body36) (args := ([.agg [.list 39 false a.limbs], .agg [.list 39 false b.limbs]])) (loop := loop36) (md := ⟨false, true⟩) (rd := rd_S40_f) (wr := wr_S40_f) (wo := wo_S40_f) (r := (S.nat_Add a b)) c65_ok (by kernel_rfl) (by kernel_rfl) (by kernel_rfl) (loops_all (l := [(0, lb36_0)]) (by kernel_rfl) ⟨lok36_0, trivial⟩) (by kernel_rfl) (by kernel_rfl) (by kernel_rfl)
    rw_S40_f np_S40_f no_S40_f (by kernel_rfl) (Eq.mpr (show Vm.Tr.vc (Vm.Fn c65 Try.f36 body36 loop36 ([.agg [.list 39 false a.limbs], .agg [.list 39 false b.limbs]])) = S.nat_Add_pre a b by kernel_rfl) hp))

noncomputable def sem36 : List W → Option (W × List (List W) × List Prop)
  | [.agg [.list 39 false y1], .agg [.list 39 false y2]] => some (wr_S40_f (S.nat_Add (⟨y1⟩ : S.Num) (⟨y2⟩ : S.Num)), wo_S40_f (S.nat_Add (⟨y1⟩ : S.Num) (⟨y2⟩ : S.Num)), [S.nat_Add_pre (⟨y1⟩ : S.Num) (⟨y2⟩ : S.Num)])
  | _ => none
noncomputable def c36 : Cfg El := c65.add 36 sem36
theorem c36_ok : CfgOk c36 := c65_ok.add (fun args w => Try.call36 args w) (fun vs r outs ps h hp => by
  unfold sem36 at h
  split at h
  · rename_i y1 y2; cases h; exact fn36 (⟨y1⟩ : S.Num) (⟨y2⟩ : S.Num) hp
  · cases h)

noncomputable def rd_S40 : W → List (List W) → Option (S.Num)
  | .agg [.list 39 false x1], [] => some ⟨x1⟩
  | _, _ => none
noncomputable def wr_S40 (x : S.Num) : W := .agg [.list 39 false x.limbs]
noncomputable def wo_S40 (_x : S.Num) : List (List W) := []
theorem rw_S40 (v : W) (os : List (List W)) (x : S.Num) (h : rd_S40 v os = some x) : v = wr_S40 x ∧ os = wo_S40 x := by
  unfold rd_S40 at h
  split at h <;> first | (cases h; exact ⟨rfl, rfl⟩) | cases h
theorem np_S40 (x : S.Num) : okv (fun _ => false) (wr_S40 x) = true := rfl
theorem no_S40 (x : S.Num) : all (fun cs => all (ok0 fun _ => false) cs) (wo_S40 x) = true := rfl

theorem fn58 (s : ByteArray) (hp : S.deci_value_pre s) : CallOk c36 58 [.str s] (wr_S40 (S.deci_value s)) (wo_S40 (S.deci_value s)) :=
  value_calls (c := c36) c36_ok rfl rfl rfl (fun n hp => CallOk.same (c := c57) (c' := c36) rfl rfl rfl rfl (fn38 n hp)) (fun a b hp => CallOk.same (c := c66) (c' := c36) rfl rfl rfl rfl (fn37 a b hp)) (fun a b hp => CallOk.same (c := c65) (c' := c36) rfl rfl rfl rfl (fn36 a b hp)) s hp

noncomputable def sem58 : List W → Option (W × List (List W) × List Prop)
  | [.str y1] => some (wr_S40 (S.deci_value y1), wo_S40 (S.deci_value y1), [S.deci_value_pre y1])
  | _ => none
noncomputable def c58 : Cfg El := c36.add 58 sem58
theorem c58_ok : CfgOk c58 := c36_ok.add (fun args w => Try.call58 args w) (fun vs r outs ps h hp => by
  unfold sem58 at h
  split at h
  · rename_i y1; cases h; exact fn58 y1 hp
  · cases h)

noncomputable def body59 : Code := (Try.f59.body).getD .skip
theorem fn59 (c : Int) (n : S.Num) : CallOk c58 59 [.int .i64 c, .agg [.list 39 false n.limbs]] (wr_b (S.nat_Cap_Fits c n)) (wo_b (S.nat_Cap_Fits c n)) :=
  (call_ok (c := c58) (f := 59) (fn := Try.f59) (code := body59) (args := ([.int .i64 c, .agg [.list 39 false n.limbs]])) (loop := noLoop) (md := ⟨false, false⟩) (rd := rd_b) (wr := wr_b) (wo := wo_b) (r := (S.nat_Cap_Fits c n)) c58_ok (by kernel_rfl) (by kernel_rfl) (by kernel_rfl) (no_loops (by kernel_rfl)) (by kernel_rfl) (by kernel_rfl) (by kernel_rfl)
    rw_b np_b no_b (by kernel_rfl) (Tr.vc_of_noReq (by kernel_rfl)))

noncomputable def sem59 : List W → Option (W × List (List W) × List Prop)
  | [.int .i64 y1, .agg [.list 39 false y2]] => some (wr_b (S.nat_Cap_Fits y1 (⟨y2⟩ : S.Num)), wo_b (S.nat_Cap_Fits y1 (⟨y2⟩ : S.Num)), [])
  | _ => none
noncomputable def c59 : Cfg El := c58.add 59 sem59
theorem c59_ok : CfgOk c59 := c58_ok.add (fun args w => Try.call59 args w) (fun vs r outs ps h hp => by
  unfold sem59 at h
  split at h
  · rename_i y1 y2; cases h; exact fn59 y1 (⟨y2⟩ : S.Num)
  · cases h)

noncomputable def rd_S40_i64 : W → List (List W) → Option (S.Num × Int)
  | .tup [.agg [.list 39 false x1], .int .i64 x2], [] => some ⟨⟨x1⟩, x2⟩
  | _, _ => none
noncomputable def wr_S40_i64 (x : S.Num × Int) : W := .tup [.agg [.list 39 false x.1.limbs], .int .i64 x.2]
noncomputable def wo_S40_i64 (_x : S.Num × Int) : List (List W) := []
theorem rw_S40_i64 (v : W) (os : List (List W)) (x : S.Num × Int) (h : rd_S40_i64 v os = some x) : v = wr_S40_i64 x ∧ os = wo_S40_i64 x := by
  unfold rd_S40_i64 at h
  split at h <;> first | (cases h; exact ⟨rfl, rfl⟩) | cases h
theorem np_S40_i64 (x : S.Num × Int) : okv (fun _ => false) (wr_S40_i64 x) = true := rfl
theorem no_S40_i64 (x : S.Num × Int) : all (fun cs => all (ok0 fun _ => false) cs) (wo_S40_i64 x) = true := rfl

noncomputable def body31 : Code := (Try.f31.body).getD .skip
theorem fn31 (s : ByteArray) (c : Int) (hp : S.deci_Parse_pre s c) : CallOk c59 31 [.str s, .int .i64 c] (wr_S40_i64 (S.deci_Parse s c)) (wo_S40_i64 (S.deci_Parse s c)) :=
  (call_ok (c := c59) (f := 31) (fn := Try.f31) (code := body31) (args := ([.str s, .int .i64 c])) (loop := noLoop) (md := ⟨false, false⟩) (rd := rd_S40_i64) (wr := wr_S40_i64) (wo := wo_S40_i64) (r := (S.deci_Parse s c)) c59_ok (by kernel_rfl) (by kernel_rfl) (by kernel_rfl) (no_loops (by kernel_rfl)) (by kernel_rfl) (by kernel_rfl) (by kernel_rfl)
    rw_S40_i64 np_S40_i64 no_S40_i64 (by kernel_rfl) (Eq.mpr (show Vm.Tr.vc (Vm.Fn c59 Try.f31 body31 noLoop ([.str s, .int .i64 c])) = S.deci_Parse_pre s c by kernel_rfl) hp))

noncomputable def sem31 : List W → Option (W × List (List W) × List Prop)
  | [.str y1, .int .i64 y2] => some (wr_S40_i64 (S.deci_Parse y1 y2), wo_S40_i64 (S.deci_Parse y1 y2), [S.deci_Parse_pre y1 y2])
  | _ => none
noncomputable def c31 : Cfg El := c59.add 31 sem31
theorem c31_ok : CfgOk c31 := c59_ok.add (fun args w => Try.call31 args w) (fun vs r outs ps h hp => by
  unfold sem31 at h
  split at h
  · rename_i y1 y2; cases h; exact fn31 y1 y2 hp
  · cases h)

noncomputable def body100 : Code := (Try.f100.body).getD .skip
theorem fn100 (s : ByteArray) (a1 : ByteArray) (hp : S.internal_stringslite_HasPrefix_pre s a1) : CallOk c31 100 [.str s, .str a1] (wr_b (S.internal_stringslite_HasPrefix s a1)) (wo_b (S.internal_stringslite_HasPrefix s a1)) :=
  (call_ok (c := c31) (f := 100) (fn := Try.f100) (code := body100) (args := ([.str s, .str a1])) (loop := noLoop) (md := ⟨false, false⟩) (rd := rd_b) (wr := wr_b) (wo := wo_b) (r := (S.internal_stringslite_HasPrefix s a1)) c31_ok (by kernel_rfl) (by kernel_rfl) (by kernel_rfl) (no_loops (by kernel_rfl)) (by kernel_rfl) (by kernel_rfl) (by kernel_rfl)
    rw_b np_b no_b (by kernel_rfl) (Eq.mpr (show Vm.Tr.vc (Vm.Fn c31 Try.f100 body100 noLoop ([.str s, .str a1])) = S.internal_stringslite_HasPrefix_pre s a1 by kernel_rfl) hp))

noncomputable def sem100 : List W → Option (W × List (List W) × List Prop)
  | [.str y1, .str y2] => some (wr_b (S.internal_stringslite_HasPrefix y1 y2), wo_b (S.internal_stringslite_HasPrefix y1 y2), [S.internal_stringslite_HasPrefix_pre y1 y2])
  | _ => none
noncomputable def c100 : Cfg El := c31.add 100 sem100
theorem c100_ok : CfgOk c100 := c31_ok.add (fun args w => Try.call100 args w) (fun vs r outs ps h hp => by
  unfold sem100 at h
  split at h
  · rename_i y1 y2; cases h; exact fn100 y1 y2 hp
  · cases h)

noncomputable def rd_s_b : W → List (List W) → Option (ByteArray × Bool)
  | .tup [.str x1, .bool x2], [] => some ⟨x1, x2⟩
  | _, _ => none
noncomputable def wr_s_b (x : ByteArray × Bool) : W := .tup [.str x.1, .bool x.2]
noncomputable def wo_s_b (_x : ByteArray × Bool) : List (List W) := []
theorem rw_s_b (v : W) (os : List (List W)) (x : ByteArray × Bool) (h : rd_s_b v os = some x) : v = wr_s_b x ∧ os = wo_s_b x := by
  unfold rd_s_b at h
  split at h <;> first | (cases h; exact ⟨rfl, rfl⟩) | cases h
theorem np_s_b (x : ByteArray × Bool) : okv (fun _ => false) (wr_s_b x) = true := rfl
theorem no_s_b (x : ByteArray × Bool) : all (fun cs => all (ok0 fun _ => false) cs) (wo_s_b x) = true := rfl

noncomputable def body91 : Code := (Try.f91.body).getD .skip
theorem fn91 (s : ByteArray) (a1 : ByteArray) (hp : S.internal_stringslite_CutPrefix_pre s a1) : CallOk c100 91 [.str s, .str a1] (wr_s_b (S.internal_stringslite_CutPrefix s a1)) (wo_s_b (S.internal_stringslite_CutPrefix s a1)) :=
  (call_ok (c := c100) (f := 91) (fn := Try.f91) (code := body91) (args := ([.str s, .str a1])) (loop := noLoop) (md := ⟨false, false⟩) (rd := rd_s_b) (wr := wr_s_b) (wo := wo_s_b) (r := (S.internal_stringslite_CutPrefix s a1)) c100_ok (by kernel_rfl) (by kernel_rfl) (by kernel_rfl) (no_loops (by kernel_rfl)) (by kernel_rfl) (by kernel_rfl) (by kernel_rfl)
    rw_s_b np_s_b no_s_b (by kernel_rfl) (Eq.mpr (show Vm.Tr.vc (Vm.Fn c100 Try.f91 body91 noLoop ([.str s, .str a1])) = S.internal_stringslite_CutPrefix_pre s a1 by kernel_rfl) hp))

noncomputable def sem91 : List W → Option (W × List (List W) × List Prop)
  | [.str y1, .str y2] => some (wr_s_b (S.internal_stringslite_CutPrefix y1 y2), wo_s_b (S.internal_stringslite_CutPrefix y1 y2), [S.internal_stringslite_CutPrefix_pre y1 y2])
  | _ => none
noncomputable def c91 : Cfg El := c100.add 91 sem91
theorem c91_ok : CfgOk c91 := c100_ok.add (fun args w => Try.call91 args w) (fun vs r outs ps h hp => by
  unfold sem91 at h
  split at h
  · rename_i y1 y2; cases h; exact fn91 y1 y2 hp
  · cases h)

noncomputable def body62 : Code := (Try.f62.body).getD .skip
theorem fn62 (s : ByteArray) (a1 : ByteArray) (hp : S.strings_CutPrefix_pre s a1) : CallOk c91 62 [.str s, .str a1] (wr_s_b (S.strings_CutPrefix s a1)) (wo_s_b (S.strings_CutPrefix s a1)) :=
  (call_ok (c := c91) (f := 62) (fn := Try.f62) (code := body62) (args := ([.str s, .str a1])) (loop := noLoop) (md := ⟨false, false⟩) (rd := rd_s_b) (wr := wr_s_b) (wo := wo_s_b) (r := (S.strings_CutPrefix s a1)) c91_ok (by kernel_rfl) (by kernel_rfl) (by kernel_rfl) (no_loops (by kernel_rfl)) (by kernel_rfl) (by kernel_rfl) (by kernel_rfl)
    rw_s_b np_s_b no_s_b (by kernel_rfl) (Eq.mpr (show Vm.Tr.vc (Vm.Fn c91 Try.f62 body62 noLoop ([.str s, .str a1])) = S.strings_CutPrefix_pre s a1 by kernel_rfl) hp))

noncomputable def sem62 : List W → Option (W × List (List W) × List Prop)
  | [.str y1, .str y2] => some (wr_s_b (S.strings_CutPrefix y1 y2), wo_s_b (S.strings_CutPrefix y1 y2), [S.strings_CutPrefix_pre y1 y2])
  | _ => none
noncomputable def c62 : Cfg El := c91.add 62 sem62
theorem c62_ok : CfgOk c62 := c91_ok.add (fun args w => Try.call62 args w) (fun vs r outs ps h hp => by
  unfold sem62 at h
  split at h
  · rename_i y1 y2; cases h; exact fn62 y1 y2 hp
  · cases h)

noncomputable def rd_s : W → List (List W) → Option (ByteArray)
  | .str x1, [] => some x1
  | _, _ => none
noncomputable def wr_s (x : ByteArray) : W := .str x
noncomputable def wo_s (_x : ByteArray) : List (List W) := []
theorem rw_s (v : W) (os : List (List W)) (x : ByteArray) (h : rd_s v os = some x) : v = wr_s x ∧ os = wo_s x := by
  unfold rd_s at h
  split at h <;> first | (cases h; exact ⟨rfl, rfl⟩) | cases h
theorem np_s (x : ByteArray) : okv (fun _ => false) (wr_s x) = true := rfl
theorem no_s (x : ByteArray) : all (fun cs => all (ok0 fun _ => false) cs) (wo_s x) = true := rfl

theorem fn56 (n : Int) (many : Int) (hp : S.deci_digits_pre n many) : CallOk c62 56 [.int .u64 n, .int .i64 many] (wr_s (S.deci_digits n many)) (wo_s (S.deci_digits n many)) :=
  digits_calls (c := c62) rfl n many hp

noncomputable def sem56 : List W → Option (W × List (List W) × List Prop)
  | [.int .u64 y1, .int .i64 y2] => some (wr_s (S.deci_digits y1 y2), wo_s (S.deci_digits y1 y2), [S.deci_digits_pre y1 y2])
  | _ => none
noncomputable def c56 : Cfg El := c62.add 56 sem56
theorem c56_ok : CfgOk c56 := c62_ok.add (fun args w => Try.call56 args w) (fun vs r outs ps h hp => by
  unfold sem56 at h
  split at h
  · rename_i y1 y2; cases h; exact fn56 y1 y2 hp
  · cases h)

noncomputable def body29 : Code := (Try.f29.body).getD .skip
theorem fn29 (n : Int) (hp : S.deci_Whole_pre n) : CallOk c56 29 [.int .i64 n] (wr_s (S.deci_Whole n)) (wo_s (S.deci_Whole n)) :=
  (call_ok (c := c56) (f := 29) (fn := Try.f29) (code := body29) (args := ([.int .i64 n])) (loop := noLoop) (md := ⟨false, false⟩) (rd := rd_s) (wr := wr_s) (wo := wo_s) (r := (S.deci_Whole n)) c56_ok (by kernel_rfl) (by kernel_rfl) (by kernel_rfl) (no_loops (by kernel_rfl)) (by kernel_rfl) (by kernel_rfl) (by kernel_rfl)
    rw_s np_s no_s (by kernel_rfl) (Eq.mpr (show Vm.Tr.vc (Vm.Fn c56 Try.f29 body29 noLoop ([.int .i64 n])) = S.deci_Whole_pre n by kernel_rfl) hp))

noncomputable def sem29 : List W → Option (W × List (List W) × List Prop)
  | [.int .i64 y1] => some (wr_s (S.deci_Whole y1), wo_s (S.deci_Whole y1), [S.deci_Whole_pre y1])
  | _ => none
noncomputable def c29 : Cfg El := c56.add 29 sem29
theorem c29_ok : CfgOk c29 := c56_ok.add (fun args w => Try.call29 args w) (fun vs r outs ps h hp => by
  unfold sem29 at h
  split at h
  · rename_i y1; cases h; exact fn29 y1 hp
  · cases h)

noncomputable def rd_i64_i64 : W → List (List W) → Option (Int × Int)
  | .tup [.int .i64 x1, .int .i64 x2], [] => some ⟨x1, x2⟩
  | _, _ => none
noncomputable def wr_i64_i64 (x : Int × Int) : W := .tup [.int .i64 x.1, .int .i64 x.2]
noncomputable def wo_i64_i64 (_x : Int × Int) : List (List W) := []
theorem rw_i64_i64 (v : W) (os : List (List W)) (x : Int × Int) (h : rd_i64_i64 v os = some x) : v = wr_i64_i64 x ∧ os = wo_i64_i64 x := by
  unfold rd_i64_i64 at h
  split at h <;> first | (cases h; exact ⟨rfl, rfl⟩) | cases h
theorem np_i64_i64 (x : Int × Int) : okv (fun _ => false) (wr_i64_i64 x) = true := rfl
theorem no_i64_i64 (x : Int × Int) : all (fun cs => all (ok0 fun _ => false) cs) (wo_i64_i64 x) = true := rfl

noncomputable def body33 : Code := (Try.f33.body).getD .skip
theorem fn33 (s : ByteArray) (hp : S.deci_ParseWhole_pre s) : CallOk c29 33 [.str s] (wr_i64_i64 (S.deci_ParseWhole s)) (wo_i64_i64 (S.deci_ParseWhole s)) :=
  (call_ok (c := c29) (f := 33) (fn := Try.f33) (code := body33) (args := ([.str s])) (loop := noLoop) (md := ⟨false, false⟩) (rd := rd_i64_i64) (wr := wr_i64_i64) (wo := wo_i64_i64) (r := (S.deci_ParseWhole s)) c29_ok (by kernel_rfl) (by kernel_rfl) (by kernel_rfl) (no_loops (by kernel_rfl)) (by kernel_rfl) (by kernel_rfl) (by kernel_rfl)
    rw_i64_i64 np_i64_i64 no_i64_i64 (by kernel_rfl) (Eq.mpr (show Vm.Tr.vc (Vm.Fn c29 Try.f33 body33 noLoop ([.str s])) = S.deci_ParseWhole_pre s by kernel_rfl) hp))

noncomputable def sem33 : List W → Option (W × List (List W) × List Prop)
  | [.str y1] => some (wr_i64_i64 (S.deci_ParseWhole y1), wo_i64_i64 (S.deci_ParseWhole y1), [S.deci_ParseWhole_pre y1])
  | _ => none
noncomputable def c33 : Cfg El := c29.add 33 sem33
theorem c33_ok : CfgOk c33 := c29_ok.add (fun args w => Try.call33 args w) (fun vs r outs ps h hp => by
  unfold sem33 at h
  split at h
  · rename_i y1; cases h; exact fn33 y1 hp
  · cases h)

noncomputable def body27 : Code := (Try.f27.body).getD .skip
noncomputable def semr27 (n : Nat) : List W → Option (W × List (List W) × List Prop)
  | [.agg [.list 39 false y1]] => some (wr_s (S.deci_Text_F n (⟨y1⟩ : S.Num)), wo_s (S.deci_Text_F n (⟨y1⟩ : S.Num)), [S.deci_Text_D n (⟨y1⟩ : S.Num)])
  | _ => none
theorem fns27 (n : Nat) (hc : CfgOk (c33.add 27 (semr27 n))) (a0 : S.Num) (hp : S.deci_Text_D (n + 1) a0) : CallOk (c33.add 27 (semr27 n)) 27 [.agg [.list 39 false a0.limbs]] (wr_s (S.deci_Text_F (n + 1) a0)) (wo_s (S.deci_Text_F (n + 1) a0)) :=
  (call_ok (c := (c33.add 27 (semr27 n))) (f := 27) (fn := Try.f27) (code := body27) (args := ([.agg [.list 39 false a0.limbs]])) (loop := noLoop) (md := ⟨false, false⟩) (rd := rd_s) (wr := wr_s) (wo := wo_s) (r := (S.deci_Text_F (n + 1) a0)) hc (by kernel_rfl) (by kernel_rfl) (by kernel_rfl) (no_loops (by kernel_rfl)) (by kernel_rfl) (by kernel_rfl) (by kernel_rfl)
    rw_s np_s no_s (by kernel_rfl) (Eq.mpr (show Vm.Tr.vc (Vm.Fn (c33.add 27 (semr27 n)) Try.f27 body27 noLoop ([.agg [.list 39 false a0.limbs]])) = S.deci_Text_D (n + 1) a0 by kernel_rfl) hp))

theorem fnr27 (n : Nat) : ∀ (a0 : S.Num), S.deci_Text_D n a0 → CallOk c33 27 [.agg [.list 39 false a0.limbs]] (wr_s (S.deci_Text_F n a0)) (wo_s (S.deci_Text_F n a0)) := by
  induction n with
  | zero => intro a0 hp; exact False.elim hp
  | succ n ih =>
    intro a0 hp
    have hc : CfgOk (c33.add 27 (semr27 n)) := c33_ok.add (fun args w => Try.call27 args w) (fun vs r outs ps h hp => by
      unfold semr27 at h
      split at h
      · cases h; exact ih _ hp
      · cases h)
    exact CallOk.unadd (c := c33) (fns27 n hc a0 hp)
theorem fn27 (a0 : S.Num) (hp : S.deci_Text_pre a0) : CallOk c33 27 [.agg [.list 39 false a0.limbs]] (wr_s (S.deci_Text a0)) (wo_s (S.deci_Text a0)) := fnr27 _ a0 (Classical.epsilon_spec hp)

noncomputable def sem27 : List W → Option (W × List (List W) × List Prop)
  | [.agg [.list 39 false y1]] => some (wr_s (S.deci_Text (⟨y1⟩ : S.Num)), wo_s (S.deci_Text (⟨y1⟩ : S.Num)), [S.deci_Text_pre (⟨y1⟩ : S.Num)])
  | _ => none
noncomputable def c27 : Cfg El := c33.add 27 sem27
theorem c27_ok : CfgOk c27 := c33_ok.add (fun args w => Try.call27 args w) (fun vs r outs ps h hp => by
  unfold sem27 at h
  split at h
  · rename_i y1; cases h; exact fn27 (⟨y1⟩ : S.Num) hp
  · cases h)

noncomputable def body28 : Code := (Try.f28.body).getD .skip
theorem fn28 (n : S.Num) (hp : S.deci_Digits_pre n) : CallOk c27 28 [.agg [.list 39 false n.limbs]] (wr_i64 (S.deci_Digits n)) (wo_i64 (S.deci_Digits n)) :=
  (call_ok (c := c27) (f := 28) (fn := Try.f28) (code := body28) (args := ([.agg [.list 39 false n.limbs]])) (loop := noLoop) (md := ⟨false, false⟩) (rd := rd_i64) (wr := wr_i64) (wo := wo_i64) (r := (S.deci_Digits n)) c27_ok (by kernel_rfl) (by kernel_rfl) (by kernel_rfl) (no_loops (by kernel_rfl)) (by kernel_rfl) (by kernel_rfl) (by kernel_rfl)
    rw_i64 np_i64 no_i64 (by kernel_rfl) (Eq.mpr (show Vm.Tr.vc (Vm.Fn c27 Try.f28 body28 noLoop ([.agg [.list 39 false n.limbs]])) = S.deci_Digits_pre n by kernel_rfl) hp))

noncomputable def sem28 : List W → Option (W × List (List W) × List Prop)
  | [.agg [.list 39 false y1]] => some (wr_i64 (S.deci_Digits (⟨y1⟩ : S.Num)), wo_i64 (S.deci_Digits (⟨y1⟩ : S.Num)), [S.deci_Digits_pre (⟨y1⟩ : S.Num)])
  | _ => none
noncomputable def c28 : Cfg El := c27.add 28 sem28
theorem c28_ok : CfgOk c28 := c27_ok.add (fun args w => Try.call28 args w) (fun vs r outs ps h hp => by
  unfold sem28 at h
  split at h
  · rename_i y1; cases h; exact fn28 (⟨y1⟩ : S.Num) hp
  · cases h)

noncomputable def body19 : Code := (Try.f19.body).getD .skip
theorem fn19 (hp : S.law02_works_pre) : CallOk c28 19 [] (wr_b (S.law02_works)) (wo_b (S.law02_works)) :=
  (call_ok (c := c28) (f := 19) (fn := Try.f19) (code := body19) (args := ([])) (loop := noLoop) (md := ⟨false, false⟩) (rd := rd_b) (wr := wr_b) (wo := wo_b) (r := S.law02_works) c28_ok (by kernel_rfl) (by kernel_rfl) (by kernel_rfl) (no_loops (by kernel_rfl)) (by kernel_rfl) (by kernel_rfl) (by kernel_rfl)
    rw_b np_b no_b (by kernel_rfl) (Eq.mpr (show Vm.Tr.vc (Vm.Fn c28 Try.f19 body19 noLoop ([])) = S.law02_works_pre by kernel_rfl) hp))

noncomputable def sem19 : List W → Option (W × List (List W) × List Prop)
  | [] => some (wr_b (S.law02_works), wo_b (S.law02_works), [S.law02_works_pre])
  | _ => none
noncomputable def c19 : Cfg El := c28.add 19 sem19
theorem c19_ok : CfgOk c19 := c28_ok.add (fun args w => Try.call19 args w) (fun vs r outs ps h hp => by
  unfold sem19 at h
  split at h
  · cases h; exact fn19 hp
  · cases h)

noncomputable def body21 : Code := (Try.f21.body).getD .skip
theorem fn21 (l : (List Int)) (hp : S.law02_own_pre l) : CallOk c19 21 [.list 39 false l] (wr_L39_o_f (S.law02_own l)) (wo_L39_o_f (S.law02_own l)) :=
  (call_ok (c := c19) (f := 21) (fn := Try.f21) (code := body21) (args := ([.list 39 false l])) (loop := noLoop) (md := ⟨true, true⟩) (rd := rd_L39_o_f) (wr := wr_L39_o_f) (wo := wo_L39_o_f) (r := (S.law02_own l)) c19_ok (by kernel_rfl) (by kernel_rfl) (by kernel_rfl) (no_loops (by kernel_rfl)) (by kernel_rfl) (by kernel_rfl) (by kernel_rfl)
    rw_L39_o_f np_L39_o_f no_L39_o_f (by kernel_rfl) (Eq.mpr (show Vm.Tr.vc (Vm.Fn c19 Try.f21 body21 noLoop ([.list 39 false l])) = S.law02_own_pre l by kernel_rfl) hp))

noncomputable def sem21 : List W → Option (W × List (List W) × List Prop)
  | [.list 39 false y1] => some (wr_L39_o_f (S.law02_own y1), wo_L39_o_f (S.law02_own y1), [S.law02_own_pre y1])
  | _ => none
noncomputable def c21 : Cfg El := c19.add 21 sem21
theorem c21_ok : CfgOk c21 := c19_ok.add (fun args w => Try.call21 args w) (fun vs r outs ps h hp => by
  unfold sem21 at h
  split at h
  · rename_i y1; cases h; exact fn21 y1 hp
  · cases h)

noncomputable def rd_L5_o_f : W → List (List W) → Option ((List Int))
  | .olist 5 true x2, [] => some x2
  | _, _ => none
noncomputable def wr_L5_o_f (x : (List Int)) : W := .olist 5 true x
noncomputable def wo_L5_o_f (_x : (List Int)) : List (List W) := []
theorem rw_L5_o_f (v : W) (os : List (List W)) (x : (List Int)) (h : rd_L5_o_f v os = some x) : v = wr_L5_o_f x ∧ os = wo_L5_o_f x := by
  unfold rd_L5_o_f at h
  split at h <;> first | (cases h; exact ⟨rfl, rfl⟩) | cases h
theorem np_L5_o_f (x : (List Int)) : okv (fun _ => false) (wr_L5_o_f x) = true := rfl
theorem no_L5_o_f (x : (List Int)) : all (fun cs => all (ok0 fun _ => false) cs) (wo_L5_o_f x) = true := rfl

noncomputable def body49 : Code := (Try.f49.body).getD .skip
noncomputable def lb49_0 : Code := ((nth (loopsOf 0 body49) 0).getD (0, .skip)).2
noncomputable def px49_0 : List W → Option S.ref01_trim_L0
  | [.own 28, .rowc 5 false none y1] => some ⟨y1⟩
  | _ => none
noncomputable def tx49_0 (x : S.ref01_trim_L0) : List W := [.own 28, .rowc 5 false none x.out]
noncomputable def py49_0 : Ex → List W → Option (S.ref01_trim_L0)
  | .exit 0, [.own 28, .rowc 5 false none y1] => some ⟨y1⟩
  | _, _ => none
noncomputable def ld49_0 : LD El where
  X := S.ref01_trim_L0
  Y := S.ref01_trim_L0
  keys := [.slot 3, .row 28]
  fits := [44, 0]
  px := px49_0
  tx := tx49_0
  okeys := [.slot 3, .row 28]
  ofits := [44, 0]
  py := py49_0
  ty := fun y => tx49_0 y
  oex := fun _ => .exit 0
  junk := [.slot 7, .slot 8, .slot 9, .slot 10, .slot 11, .slot 12, .slot 13, .slot 14, .slot 15, .slot 16, .slot 17, .slot 18, .slot 19, .slot 20, .slot 21, .slot 22, .slot 23, .row 6, .slot 6]
  rows := [(3, 5)]
noncomputable def lo49_0 : S.ref01_trim_L0 → Tr El := fun y => .leaf (.exit 0) (zipK ld49_0.okeys (tx49_0 y) ++ junkK ld49_0.junk)
noncomputable def loop49 : Nat → Env El → Tr El
  | 0 => ld49_0.tree (c21.hint [23] []) Try.f49.ntmps 0 lb49_0 S.ref01_trim_L0_run lo49_0 S.ref01_trim_L0_step S.ref01_trim_L0_vcs
  | _ => fun _ => .fail
theorem lok49_0 : ∀ w0 S0, LoopOk (c21.hint [23] []) Try.f49.ntmps w0 S0 loop49 0 lb49_0 :=
  loop_ok (c := (c21.hint [23] [])) (n := Try.f49.ntmps) (CfgOk.hint c21_ok [23] []) mixed ld49_0 (body := lb49_0) (key := 0) (loop := loop49) (F := S.ref01_trim_L0_run) (out := lo49_0) (step := S.ref01_trim_L0_step) (vcs := S.ref01_trim_L0_vcs)
    (fun _ => by kernel_rfl) (no_loops (by kernel_rfl)) rfl rfl
    (fun vs x h => by unfold ld49_0 px49_0 at h; dsimp only at h; split at h <;> first | (cases h; rfl) | cases h)
    (fun e vs y h => by unfold ld49_0 py49_0 at h; dsimp only at h; split at h <;> first | (cases h; exact ⟨rfl, rfl⟩) | cases h)
    (by kernel_rfl) (fun _ => rfl) (fun _ _ h => h) (fun x => by kernel_rfl) (fun x h => Eq.mpr (show Vm.Tr.vc (Vm.ev (c21.hint [23] []) Try.f49.ntmps loop49 0 lb49_0 (ld49_0.vars x) []) = S.ref01_trim_L0_vcs x by kernel_rfl) h)
theorem fn49 (l : (List Int)) (hp : S.ref01_trim_pre l) : CallOk c21 49 [.list 5 false l] (wr_L5_o_f (S.ref01_trim l)) (wo_L5_o_f (S.ref01_trim l)) :=
  CallOk.unhint (c := c21) (call_ok (c := (c21.hint [23] [])) (f := 49) (fn := Try.f49) (code := body49) (args := ([.list 5 false l])) (loop := loop49) (md := ⟨true, true⟩) (rd := rd_L5_o_f) (wr := wr_L5_o_f) (wo := wo_L5_o_f) (r := (S.ref01_trim l)) (CfgOk.hint c21_ok [23] []) (by kernel_rfl) (by kernel_rfl) (by kernel_rfl) (loops_all (l := [(0, lb49_0)]) (by kernel_rfl) ⟨lok49_0, trivial⟩) (by kernel_rfl) (by kernel_rfl) (by kernel_rfl)
    rw_L5_o_f np_L5_o_f no_L5_o_f (by kernel_rfl) (Eq.mpr (show Vm.Tr.vc (Vm.Fn (c21.hint [23] []) Try.f49 body49 loop49 ([.list 5 false l])) = S.ref01_trim_pre l by kernel_rfl) hp))

noncomputable def sem49 : List W → Option (W × List (List W) × List Prop)
  | [.list 5 false y1] => some (wr_L5_o_f (S.ref01_trim y1), wo_L5_o_f (S.ref01_trim y1), [S.ref01_trim_pre y1])
  | _ => none
noncomputable def c49 : Cfg El := c21.add 49 sem49
theorem c49_ok : CfgOk c49 := c21_ok.add (fun args w => Try.call49 args w) (fun vs r outs ps h hp => by
  unfold sem49 at h
  split at h
  · rename_i y1; cases h; exact fn49 y1 hp
  · cases h)

noncomputable def body22 : Code := (Try.f22.body).getD .skip
noncomputable def lb22_0 : Code := ((nth (loopsOf 0 body22) 0).getD (0, .skip)).2
noncomputable def px22_0 : List W → Option S.ref01_Of_L0
  | [.list 39 false y1, .own 34, .int .i64 y2, .rowc 5 false none y3] => some ⟨y1, y2, y3⟩
  | _ => none
noncomputable def tx22_0 (x : S.ref01_Of_L0) : List W := [.list 39 false x.l, .own 34, .int .i64 x.i, .rowc 5 false none x.out]
noncomputable def py22_0 : Ex → List W → Option (S.ref01_Of_L0)
  | .exit 0, [.list 39 false y1, .own 34, .int .i64 y2, .rowc 5 false none y3] => some ⟨y1, y2, y3⟩
  | _, _ => none
noncomputable def ld22_0 : LD El where
  X := S.ref01_Of_L0
  Y := S.ref01_Of_L0
  keys := [.slot 0, .slot 3, .slot 4, .row 34]
  fits := [38, 44, 3, 0]
  px := px22_0
  tx := tx22_0
  okeys := [.slot 0, .slot 3, .slot 4, .row 34]
  ofits := [38, 44, 3, 0]
  py := py22_0
  ty := fun y => tx22_0 y
  oex := fun _ => .exit 0
  junk := [.slot 5, .slot 6, .slot 7, .slot 8, .slot 9, .slot 10, .slot 11, .slot 12, .slot 13, .slot 14, .slot 15, .slot 16, .slot 17, .slot 18, .slot 19, .slot 20, .slot 21, .slot 22, .slot 23, .slot 24, .slot 25, .slot 26, .slot 27, .slot 28, .row 96]
  rows := [(3, 5)]
noncomputable def lo22_0 : S.ref01_Of_L0 → Tr El := fun y => .leaf (.exit 0) (zipK ld22_0.okeys (tx22_0 y) ++ junkK ld22_0.junk)
noncomputable def lb22_2 : Code := ((nth (loopsOf 0 lb22_0) 0).getD (0, .skip)).2
noncomputable def px22_2 : List W → Option S.ref01_Of_L2
  | [.own 96, .int .u64 y1, .int .i64 y2, .rowc 5 false none y3] => some ⟨y1, y2, y3⟩
  | _ => none
noncomputable def tx22_2 (x : S.ref01_Of_L2) : List W := [.own 96, .int .u64 x.n, .int .i64 x.k, .rowc 5 false none x.out]
noncomputable def py22_2 : Ex → List W → Option (S.ref01_Of_L2)
  | .exit 2, [.own 96, .int .u64 y1, .int .i64 y2, .rowc 5 false none y3] => some ⟨y1, y2, y3⟩
  | _, _ => none
noncomputable def ld22_2 : LD El where
  X := S.ref01_Of_L2
  Y := S.ref01_Of_L2
  keys := [.slot 3, .slot 5, .slot 6, .row 96]
  fits := [44, 39, 3, 0]
  px := px22_2
  tx := tx22_2
  okeys := [.slot 3, .slot 5, .slot 6, .row 96]
  ofits := [44, 39, 3, 0]
  py := py22_2
  ty := fun y => tx22_2 y
  oex := fun _ => .exit 2
  junk := [.slot 17, .slot 18, .slot 19, .slot 20, .slot 21, .slot 22, .slot 23, .slot 24, .slot 25, .slot 26, .slot 27, .slot 28, .row 34]
  rows := [(3, 5)]
noncomputable def lo22_2 : S.ref01_Of_L2 → Tr El := fun y => .leaf (.exit 2) (zipK ld22_2.okeys (tx22_2 y) ++ junkK ld22_2.junk)
noncomputable def loop22 : Nat → Env El → Tr El
  | 0 => ld22_0.tree (c49.hint [30] []) Try.f22.ntmps 0 lb22_0 S.ref01_Of_L0_run lo22_0 S.ref01_Of_L0_step S.ref01_Of_L0_vcs
  | 2 => ld22_2.tree (c49.hint [30] []) Try.f22.ntmps 2 lb22_2 S.ref01_Of_L2_run lo22_2 S.ref01_Of_L2_step S.ref01_Of_L2_vcs
  | _ => fun _ => .fail
theorem lok22_2 : ∀ w0 S0, LoopOk (c49.hint [30] []) Try.f22.ntmps w0 S0 loop22 2 lb22_2 :=
  loop_ok (c := (c49.hint [30] [])) (n := Try.f22.ntmps) (CfgOk.hint c49_ok [30] []) mixed ld22_2 (body := lb22_2) (key := 2) (loop := loop22) (F := S.ref01_Of_L2_run) (out := lo22_2) (step := S.ref01_Of_L2_step) (vcs := S.ref01_Of_L2_vcs)
    (fun _ => by kernel_rfl) (no_loops (by kernel_rfl)) rfl rfl
    (fun vs x h => by unfold ld22_2 px22_2 at h; dsimp only at h; split at h <;> first | (cases h; rfl) | cases h)
    (fun e vs y h => by unfold ld22_2 py22_2 at h; dsimp only at h; split at h <;> first | (cases h; exact ⟨rfl, rfl⟩) | cases h)
    (by kernel_rfl) (fun _ => rfl) (fun _ _ h => h) (fun x => by kernel_rfl) (fun x h => Eq.mpr (show Vm.Tr.vc (Vm.ev (c49.hint [30] []) Try.f22.ntmps loop22 2 lb22_2 (ld22_2.vars x) []) = S.ref01_Of_L2_vcs x by kernel_rfl) h)
theorem lok22_0 : ∀ w0 S0, LoopOk (c49.hint [30] []) Try.f22.ntmps w0 S0 loop22 0 lb22_0 :=
  loop_ok (c := (c49.hint [30] [])) (n := Try.f22.ntmps) (CfgOk.hint c49_ok [30] []) mixed ld22_0 (body := lb22_0) (key := 0) (loop := loop22) (F := S.ref01_Of_L0_run) (out := lo22_0) (step := S.ref01_Of_L0_step) (vcs := S.ref01_Of_L0_vcs)
    (fun _ => by kernel_rfl) (loops_all (l := [(2, lb22_2)]) (by kernel_rfl) ⟨lok22_2, trivial⟩) rfl rfl
    (fun vs x h => by unfold ld22_0 px22_0 at h; dsimp only at h; split at h <;> first | (cases h; rfl) | cases h)
    (fun e vs y h => by unfold ld22_0 py22_0 at h; dsimp only at h; split at h <;> first | (cases h; exact ⟨rfl, rfl⟩) | cases h)
    (by kernel_rfl) (fun _ => rfl) (fun _ _ h => h) (fun x => by kernel_rfl) (fun x h => Eq.mpr (show Vm.Tr.vc (Vm.ev (c49.hint [30] []) Try.f22.ntmps loop22 0 lb22_0 (ld22_0.vars x) []) = S.ref01_Of_L0_vcs x by kernel_rfl) h)
theorem fn22 (l : (List Int)) (hp : S.ref01_Of_pre l) : CallOk c49 22 [.list 39 false l] (wr_L5_o_f (S.ref01_Of l)) (wo_L5_o_f (S.ref01_Of l)) :=
  CallOk.unhint (c := c49) (call_ok (c := (c49.hint [30] [])) (f := 22) (fn := Try.f22) (code := body22) (args := ([.list 39 false l])) (loop := loop22) (md := ⟨true, true⟩) (rd := rd_L5_o_f) (wr := wr_L5_o_f) (wo := wo_L5_o_f) (r := (S.ref01_Of l)) (CfgOk.hint c49_ok [30] []) (by kernel_rfl) (by kernel_rfl) (by kernel_rfl) (loops_all (l := [(0, lb22_0)]) (by kernel_rfl) ⟨lok22_0, trivial⟩) (by kernel_rfl) (by kernel_rfl) (by kernel_rfl)
    rw_L5_o_f np_L5_o_f no_L5_o_f (by kernel_rfl) (Eq.mpr (show Vm.Tr.vc (Vm.Fn (c49.hint [30] []) Try.f22 body22 loop22 ([.list 39 false l])) = S.ref01_Of_pre l by kernel_rfl) hp))

noncomputable def sem22 : List W → Option (W × List (List W) × List Prop)
  | [.list 39 false y1] => some (wr_L5_o_f (S.ref01_Of y1), wo_L5_o_f (S.ref01_Of y1), [S.ref01_Of_pre y1])
  | _ => none
noncomputable def c22 : Cfg El := c49.add 22 sem22
theorem c22_ok : CfgOk c22 := c49_ok.add (fun args w => Try.call22 args w) (fun vs r outs ps h hp => by
  unfold sem22 at h
  split at h
  · rename_i y1; cases h; exact fn22 y1 hp
  · cases h)

noncomputable def body50 : Code := (Try.f50.body).getD .skip
noncomputable def lb50_0 : Code := ((nth (loopsOf 0 body50) 0).getD (0, .skip)).2
noncomputable def px50_0 : List W → Option S.ref01_Limbs_L0
  | [.list 5 false y1, .own 40, .int .i64 y2, .rowc 39 false none y3] => some ⟨y1, y2, y3⟩
  | _ => none
noncomputable def tx50_0 (x : S.ref01_Limbs_L0) : List W := [.list 5 false x.n, .own 40, .int .i64 x.i, .rowc 39 false none x.out]
noncomputable def py50_0 : Ex → List W → Option (S.ref01_Limbs_L0)
  | .exit 0, [.list 5 false y1, .own 40, .int .i64 y2, .rowc 39 false none y3] => some ⟨y1, y2, y3⟩
  | _, _ => none
noncomputable def ld50_0 : LD El where
  X := S.ref01_Limbs_L0
  Y := S.ref01_Limbs_L0
  keys := [.slot 0, .slot 3, .slot 4, .row 40]
  fits := [44, 38, 3, 0]
  px := px50_0
  tx := tx50_0
  okeys := [.slot 0, .slot 3, .slot 4, .row 40]
  ofits := [44, 38, 3, 0]
  py := py50_0
  ty := fun y => tx50_0 y
  oex := fun _ => .exit 0
  junk := [.slot 5, .slot 6, .slot 7, .slot 8, .slot 9, .slot 10, .slot 11, .slot 12, .slot 13, .slot 14, .slot 15, .slot 16, .slot 17, .slot 18, .slot 19, .slot 20, .slot 21, .slot 22, .slot 23, .slot 24, .slot 25, .slot 26, .slot 27, .slot 28, .slot 29, .slot 30, .slot 31, .slot 32, .slot 33, .slot 34, .slot 35]
  rows := [(3, 39)]
noncomputable def lo50_0 : S.ref01_Limbs_L0 → Tr El := fun y => .leaf (.exit 0) (zipK ld50_0.okeys (tx50_0 y) ++ junkK ld50_0.junk)
noncomputable def lb50_2 : Code := ((nth (loopsOf 0 lb50_0) 0).getD (0, .skip)).2
noncomputable def px50_2 : List W → Option S.ref01_Limbs_L2
  | [.list 5 false y1, .int .i64 y2, .int .u64 y3, .int .i64 y4] => some ⟨y1, y2, y3, y4⟩
  | _ => none
noncomputable def tx50_2 (x : S.ref01_Limbs_L2) : List W := [.list 5 false x.n, .int .i64 x.i, .int .u64 x.vx, .int .i64 x.k]
noncomputable def py50_2 : Ex → List W → Option (S.ref01_Limbs_L2)
  | .exit 2, [.list 5 false y1, .int .i64 y2, .int .u64 y3, .int .i64 y4] => some ⟨y1, y2, y3, y4⟩
  | _, _ => none
noncomputable def ld50_2 : LD El where
  X := S.ref01_Limbs_L2
  Y := S.ref01_Limbs_L2
  keys := [.slot 0, .slot 4, .slot 5, .slot 6]
  fits := [44, 3, 39, 3]
  px := px50_2
  tx := tx50_2
  okeys := [.slot 0, .slot 4, .slot 5, .slot 6]
  ofits := [44, 3, 39, 3]
  py := py50_2
  ty := fun y => tx50_2 y
  oex := fun _ => .exit 2
  junk := [.slot 19, .slot 20, .slot 21, .slot 22, .slot 23, .slot 24, .slot 25, .slot 26, .slot 27, .slot 28, .slot 29, .slot 30, .slot 31]
  rows := []
noncomputable def lo50_2 : S.ref01_Limbs_L2 → Tr El := fun y => .leaf (.exit 2) (zipK ld50_2.okeys (tx50_2 y) ++ junkK ld50_2.junk)
noncomputable def loop50 : Nat → Env El → Tr El
  | 0 => ld50_0.tree c22 Try.f50.ntmps 0 lb50_0 S.ref01_Limbs_L0_run lo50_0 S.ref01_Limbs_L0_step S.ref01_Limbs_L0_vcs
  | 2 => ld50_2.tree c22 Try.f50.ntmps 2 lb50_2 S.ref01_Limbs_L2_run lo50_2 S.ref01_Limbs_L2_step S.ref01_Limbs_L2_vcs
  | _ => fun _ => .fail
theorem lok50_2 : ∀ w0 S0, LoopOk c22 Try.f50.ntmps w0 S0 loop50 2 lb50_2 :=
  loop_ok (c := c22) (n := Try.f50.ntmps) c22_ok mixed ld50_2 (body := lb50_2) (key := 2) (loop := loop50) (F := S.ref01_Limbs_L2_run) (out := lo50_2) (step := S.ref01_Limbs_L2_step) (vcs := S.ref01_Limbs_L2_vcs)
    (fun _ => by kernel_rfl) (no_loops (by kernel_rfl)) rfl rfl
    (fun vs x h => by unfold ld50_2 px50_2 at h; dsimp only at h; split at h <;> first | (cases h; rfl) | cases h)
    (fun e vs y h => by unfold ld50_2 py50_2 at h; dsimp only at h; split at h <;> first | (cases h; exact ⟨rfl, rfl⟩) | cases h)
    (by kernel_rfl) (fun _ => rfl) (fun _ _ h => h) (fun x => by kernel_rfl) (fun x h => Eq.mpr (show Vm.Tr.vc (Vm.ev c22 Try.f50.ntmps loop50 2 lb50_2 (ld50_2.vars x) []) = S.ref01_Limbs_L2_vcs x by kernel_rfl) h)
theorem lok50_0 : ∀ w0 S0, LoopOk c22 Try.f50.ntmps w0 S0 loop50 0 lb50_0 :=
  loop_ok (c := c22) (n := Try.f50.ntmps) c22_ok mixed ld50_0 (body := lb50_0) (key := 0) (loop := loop50) (F := S.ref01_Limbs_L0_run) (out := lo50_0) (step := S.ref01_Limbs_L0_step) (vcs := S.ref01_Limbs_L0_vcs)
    (fun _ => by kernel_rfl) (loops_all (l := [(2, lb50_2)]) (by kernel_rfl) ⟨lok50_2, trivial⟩) rfl rfl
    (fun vs x h => by unfold ld50_0 px50_0 at h; dsimp only at h; split at h <;> first | (cases h; rfl) | cases h)
    (fun e vs y h => by unfold ld50_0 py50_0 at h; dsimp only at h; split at h <;> first | (cases h; exact ⟨rfl, rfl⟩) | cases h)
    (by kernel_rfl) (fun _ => rfl) (fun _ _ h => h) (fun x => by kernel_rfl) (fun x h => Eq.mpr (show Vm.Tr.vc (Vm.ev c22 Try.f50.ntmps loop50 0 lb50_0 (ld50_0.vars x) []) = S.ref01_Limbs_L0_vcs x by kernel_rfl) h)
theorem fn50 (n : (List Int)) (hp : S.ref01_Limbs_pre n) : CallOk c22 50 [.list 5 false n] (wr_L39_o_f (S.ref01_Limbs n)) (wo_L39_o_f (S.ref01_Limbs n)) :=
  (call_ok (c := c22) (f := 50) (fn := Try.f50) (code := body50) (args := ([.list 5 false n])) (loop := loop50) (md := ⟨true, true⟩) (rd := rd_L39_o_f) (wr := wr_L39_o_f) (wo := wo_L39_o_f) (r := (S.ref01_Limbs n)) c22_ok (by kernel_rfl) (by kernel_rfl) (by kernel_rfl) (loops_all (l := [(0, lb50_0)]) (by kernel_rfl) ⟨lok50_0, trivial⟩) (by kernel_rfl) (by kernel_rfl) (by kernel_rfl)
    rw_L39_o_f np_L39_o_f no_L39_o_f (by kernel_rfl) (Eq.mpr (show Vm.Tr.vc (Vm.Fn c22 Try.f50 body50 loop50 ([.list 5 false n])) = S.ref01_Limbs_pre n by kernel_rfl) hp))

noncomputable def sem50 : List W → Option (W × List (List W) × List Prop)
  | [.list 5 false y1] => some (wr_L39_o_f (S.ref01_Limbs y1), wo_L39_o_f (S.ref01_Limbs y1), [S.ref01_Limbs_pre y1])
  | _ => none
noncomputable def c50 : Cfg El := c22.add 50 sem50
theorem c50_ok : CfgOk c50 := c22_ok.add (fun args w => Try.call50 args w) (fun vs r outs ps h hp => by
  unfold sem50 at h
  split at h
  · rename_i y1; cases h; exact fn50 y1 hp
  · cases h)

noncomputable def rd_L5_u64_i64_f : W → List (List W) → Option ((List Int) × Int × Int)
  | .tup [.list 5 true x1, .int .u64 x2, .int .i64 x3], [] => some ⟨x1, x2, x3⟩
  | _, _ => none
noncomputable def wr_L5_u64_i64_f (x : (List Int) × Int × Int) : W := .tup [.list 5 true x.1, .int .u64 x.2.1, .int .i64 x.2.2]
noncomputable def wo_L5_u64_i64_f (_x : (List Int) × Int × Int) : List (List W) := []
theorem rw_L5_u64_i64_f (v : W) (os : List (List W)) (x : (List Int) × Int × Int) (h : rd_L5_u64_i64_f v os = some x) : v = wr_L5_u64_i64_f x ∧ os = wo_L5_u64_i64_f x := by
  unfold rd_L5_u64_i64_f at h
  split at h <;> first | (cases h; exact ⟨rfl, rfl⟩) | cases h
theorem np_L5_u64_i64_f (x : (List Int) × Int × Int) : okv (fun _ => false) (wr_L5_u64_i64_f x) = true := rfl
theorem no_L5_u64_i64_f (x : (List Int) × Int × Int) : all (fun cs => all (ok0 fun _ => false) cs) (wo_L5_u64_i64_f x) = true := rfl

noncomputable def body23 : Code := (Try.f23.body).getD .skip
noncomputable def lb23_0 : Code := ((nth (loopsOf 0 body23) 0).getD (0, .skip)).2
noncomputable def px23_0 : List W → Option S.ref02_Div_L0
  | [.list 5 false y1, .int .u64 y2, .own 72, .int .u64 y3, .int .i64 y4, .rowc 5 false none y5] => some ⟨y1, y2, y3, y4, y5⟩
  | _ => none
noncomputable def tx23_0 (x : S.ref02_Div_L0) : List W := [.list 5 false x.n, .int .u64 x.vby, .own 72, .int .u64 x.left, .int .i64 x.i, .rowc 5 false none x.out]
noncomputable def py23_0 : Ex → List W → Option (S.ref02_Div_L0)
  | .exit 0, [.list 5 false y1, .int .u64 y2, .own 72, .int .u64 y3, .int .i64 y4, .rowc 5 false none y5] => some ⟨y1, y2, y3, y4, y5⟩
  | _, _ => none
noncomputable def ld23_0 : LD El where
  X := S.ref02_Div_L0
  Y := S.ref02_Div_L0
  keys := [.slot 0, .slot 1, .slot 7, .slot 8, .slot 9, .row 72]
  fits := [44, 39, 44, 39, 3, 0]
  px := px23_0
  tx := tx23_0
  okeys := [.slot 0, .slot 1, .slot 7, .slot 8, .slot 9, .row 72]
  ofits := [44, 39, 44, 39, 3, 0]
  py := py23_0
  ty := fun y => tx23_0 y
  oex := fun _ => .exit 0
  junk := [.slot 10, .slot 11, .slot 20, .slot 21, .slot 22, .slot 23, .slot 24, .slot 25, .slot 26, .slot 27, .slot 28, .slot 29, .slot 30, .slot 31, .slot 32, .slot 33, .slot 34, .slot 35, .slot 36, .slot 37, .slot 38, .slot 39, .slot 40, .slot 41, .slot 42, .slot 43, .slot 44, .slot 45, .slot 46, .slot 47, .slot 48, .slot 49, .slot 50, .slot 51, .slot 52, .slot 53, .slot 54, .slot 55, .slot 56, .slot 57, .slot 58, .slot 59, .slot 60, .row 16, .slot 16, .row 202]
  rows := [(7, 5)]
noncomputable def lo23_0 : S.ref02_Div_L0 → Tr El := fun y => .leaf (.exit 0) (zipK ld23_0.okeys (tx23_0 y) ++ junkK ld23_0.junk)
noncomputable def lb23_2 : Code := ((nth (loopsOf 0 lb23_0) 0).getD (0, .skip)).2
noncomputable def px23_2 : List W → Option S.ref02_Div_L2
  | [.list 5 false y1, .int .u64 y2, .own 202, .int .u64 y3, .int .i64 y4, .int .i64 y5, .rowc 5 false none y6] => some ⟨y1, y2, y3, y4, y5, y6⟩
  | _ => none
noncomputable def tx23_2 (x : S.ref02_Div_L2) : List W := [.list 5 false x.n, .int .u64 x.vby, .own 202, .int .u64 x.left, .int .i64 x.i, .int .i64 x.digit, .rowc 5 false none x.out]
noncomputable def py23_2 : Ex → List W → Option (S.ref02_Div_L2)
  | .exit 2, [.list 5 false y1, .int .u64 y2, .own 202, .int .u64 y3, .int .i64 y4, .int .i64 y5, .rowc 5 false none y6] => some ⟨y1, y2, y3, y4, y5, y6⟩
  | _, _ => none
noncomputable def ld23_2 : LD El where
  X := S.ref02_Div_L2
  Y := S.ref02_Div_L2
  keys := [.slot 0, .slot 1, .slot 7, .slot 8, .slot 9, .slot 10, .row 202]
  fits := [44, 39, 44, 39, 3, 3, 0]
  px := px23_2
  tx := tx23_2
  okeys := [.slot 0, .slot 1, .slot 7, .slot 8, .slot 9, .slot 10, .row 202]
  ofits := [44, 39, 44, 39, 3, 3, 0]
  py := py23_2
  ty := fun y => tx23_2 y
  oex := fun _ => .exit 2
  junk := [.slot 11, .slot 24, .slot 25, .slot 26, .slot 27, .slot 28, .slot 29, .slot 30, .slot 31, .slot 32, .slot 33, .slot 34, .slot 35, .slot 36, .slot 37, .slot 38, .slot 39, .slot 40, .slot 41, .slot 42, .slot 43, .slot 44, .slot 45, .slot 46, .slot 47, .slot 48, .slot 49, .slot 50, .slot 51, .slot 52, .slot 53, .slot 54, .slot 55, .slot 56, .slot 57, .slot 58, .slot 59, .slot 60, .row 72]
  rows := [(7, 5)]
noncomputable def lo23_2 : S.ref02_Div_L2 → Tr El := fun y => .leaf (.exit 2) (zipK ld23_2.okeys (tx23_2 y) ++ junkK ld23_2.junk)
noncomputable def loop23 : Nat → Env El → Tr El
  | 0 => ld23_0.tree c50 Try.f23.ntmps 0 lb23_0 S.ref02_Div_L0_run lo23_0 S.ref02_Div_L0_step S.ref02_Div_L0_vcs
  | 2 => ld23_2.tree c50 Try.f23.ntmps 2 lb23_2 S.ref02_Div_L2_run lo23_2 S.ref02_Div_L2_step S.ref02_Div_L2_vcs
  | _ => fun _ => .fail
theorem lok23_2 : ∀ w0 S0, LoopOk c50 Try.f23.ntmps w0 S0 loop23 2 lb23_2 :=
  loop_ok (c := c50) (n := Try.f23.ntmps) c50_ok mixed ld23_2 (body := lb23_2) (key := 2) (loop := loop23) (F := S.ref02_Div_L2_run) (out := lo23_2) (step := S.ref02_Div_L2_step) (vcs := S.ref02_Div_L2_vcs)
    (fun _ => by kernel_rfl) (no_loops (by kernel_rfl)) rfl rfl
    (fun vs x h => by unfold ld23_2 px23_2 at h; dsimp only at h; split at h <;> first | (cases h; rfl) | cases h)
    (fun e vs y h => by unfold ld23_2 py23_2 at h; dsimp only at h; split at h <;> first | (cases h; exact ⟨rfl, rfl⟩) | cases h)
    (by kernel_rfl) (fun _ => rfl) (fun _ _ h => h) (fun x => by kernel_rfl) (fun x h => Eq.mpr (show Vm.Tr.vc (Vm.ev c50 Try.f23.ntmps loop23 2 lb23_2 (ld23_2.vars x) []) = S.ref02_Div_L2_vcs x by kernel_rfl) h)
theorem lok23_0 : ∀ w0 S0, LoopOk c50 Try.f23.ntmps w0 S0 loop23 0 lb23_0 :=
  loop_ok (c := c50) (n := Try.f23.ntmps) c50_ok mixed ld23_0 (body := lb23_0) (key := 0) (loop := loop23) (F := S.ref02_Div_L0_run) (out := lo23_0) (step := S.ref02_Div_L0_step) (vcs := S.ref02_Div_L0_vcs)
    (fun _ => by kernel_rfl) (loops_all (l := [(2, lb23_2)]) (by kernel_rfl) ⟨lok23_2, trivial⟩) rfl rfl
    (fun vs x h => by unfold ld23_0 px23_0 at h; dsimp only at h; split at h <;> first | (cases h; rfl) | cases h)
    (fun e vs y h => by unfold ld23_0 py23_0 at h; dsimp only at h; split at h <;> first | (cases h; exact ⟨rfl, rfl⟩) | cases h)
    (by kernel_rfl) (fun _ => rfl) (fun _ _ h => h) (fun x => by kernel_rfl) (fun x h => Eq.mpr (show Vm.Tr.vc (Vm.ev c50 Try.f23.ntmps loop23 0 lb23_0 (ld23_0.vars x) []) = S.ref02_Div_L0_vcs x by kernel_rfl) h)
theorem fn23 (n : (List Int)) (a1 : Int) (hp : S.ref02_Div_pre n a1) : CallOk c50 23 [.list 5 false n, .int .u64 a1] (wr_L5_u64_i64_f (S.ref02_Div n a1)) (wo_L5_u64_i64_f (S.ref02_Div n a1)) :=
  (call_ok (c := c50) (f := 23) (fn := Try.f23) (code := body23) (args := ([.list 5 false n, .int .u64 a1])) (loop := loop23) (md := ⟨false, true⟩) (rd := rd_L5_u64_i64_f) (wr := wr_L5_u64_i64_f) (wo := wo_L5_u64_i64_f) (r := (S.ref02_Div n a1)) c50_ok (by kernel_rfl) (by kernel_rfl) (by kernel_rfl) (loops_all (l := [(0, lb23_0)]) (by kernel_rfl) ⟨lok23_0, trivial⟩) (by kernel_rfl) (by kernel_rfl) (by kernel_rfl)
    rw_L5_u64_i64_f np_L5_u64_i64_f no_L5_u64_i64_f (by kernel_rfl) (Eq.mpr (show Vm.Tr.vc (Vm.Fn c50 Try.f23 body23 loop23 ([.list 5 false n, .int .u64 a1])) = S.ref02_Div_pre n a1 by kernel_rfl) hp))

noncomputable def sem23 : List W → Option (W × List (List W) × List Prop)
  | [.list 5 false y1, .int .u64 y2] => some (wr_L5_u64_i64_f (S.ref02_Div y1 y2), wo_L5_u64_i64_f (S.ref02_Div y1 y2), [S.ref02_Div_pre y1 y2])
  | _ => none
noncomputable def c23 : Cfg El := c50.add 23 sem23
theorem c23_ok : CfgOk c23 := c50_ok.add (fun args w => Try.call23 args w) (fun vs r outs ps h hp => by
  unfold sem23 at h
  split at h
  · rename_i y1 y2; cases h; exact fn23 y1 y2 hp
  · cases h)

noncomputable def body55 : Code := (Try.f55.body).getD .skip
theorem fn55 (n : S.Num) (hp : S.docs_Nat_pre n) : CallOk c23 55 [.agg [.list 39 false n.limbs]] (wr_L5_o_f (S.docs_Nat n)) (wo_L5_o_f (S.docs_Nat n)) :=
  CallOk.unhint (c := c23) (call_ok (c := (c23.hint [5] [])) (f := 55) (fn := Try.f55) (code := body55) (args := ([.agg [.list 39 false n.limbs]])) (loop := noLoop) (md := ⟨true, true⟩) (rd := rd_L5_o_f) (wr := wr_L5_o_f) (wo := wo_L5_o_f) (r := (S.docs_Nat n)) (CfgOk.hint c23_ok [5] []) (by kernel_rfl) (by kernel_rfl) (by kernel_rfl) (no_loops (by kernel_rfl)) (by kernel_rfl) (by kernel_rfl) (by kernel_rfl)
    rw_L5_o_f np_L5_o_f no_L5_o_f (by kernel_rfl) (Eq.mpr (show Vm.Tr.vc (Vm.Fn (c23.hint [5] []) Try.f55 body55 noLoop ([.agg [.list 39 false n.limbs]])) = S.docs_Nat_pre n by kernel_rfl) hp))

noncomputable def sem55 : List W → Option (W × List (List W) × List Prop)
  | [.agg [.list 39 false y1]] => some (wr_L5_o_f (S.docs_Nat (⟨y1⟩ : S.Num)), wo_L5_o_f (S.docs_Nat (⟨y1⟩ : S.Num)), [S.docs_Nat_pre (⟨y1⟩ : S.Num)])
  | _ => none
noncomputable def c55 : Cfg El := c23.add 55 sem55
theorem c55_ok : CfgOk c55 := c23_ok.add (fun args w => Try.call55 args w) (fun vs r outs ps h hp => by
  unfold sem55 at h
  split at h
  · rename_i y1; cases h; exact fn55 (⟨y1⟩ : S.Num) hp
  · cases h)

noncomputable def body54 : Code := (Try.f54.body).getD .skip
noncomputable def lb54_0 : Code := ((nth (loopsOf 0 body54) 0).getD (0, .skip)).2
noncomputable def px54_0 : List W → Option S.ref01_Cmp_L0
  | [.list 5 false y1, .list 5 false y2, .int .i64 y3, .int .i64 y4] => some ⟨y1, y2, y3, y4⟩
  | _ => none
noncomputable def tx54_0 (x : S.ref01_Cmp_L0) : List W := [.list 5 false x.a, .list 5 false x.b, .int .i64 x.t4, .int .i64 x.i]
noncomputable def py54_0 : Ex → List W → Option (Bool × S.ref01_Cmp_L0)
  | .ret, [.list 5 false y1, .list 5 false y2, .int .i64 y3, .int .i64 y4] => some ⟨true, ⟨y1, y2, y3, y4⟩⟩
  | .exit 0, [.list 5 false y1, .list 5 false y2, .int .i64 y3, .int .i64 y4] => some ⟨false, ⟨y1, y2, y3, y4⟩⟩
  | _, _ => none
noncomputable def ld54_0 : LD El where
  X := S.ref01_Cmp_L0
  Y := Bool × S.ref01_Cmp_L0
  keys := [.slot 0, .slot 1, .slot 4, .slot 5]
  fits := [44, 44, 3, 3]
  px := px54_0
  tx := tx54_0
  okeys := [.slot 0, .slot 1, .slot 4, .slot 5]
  ofits := [44, 44, 3, 3]
  py := py54_0
  ty := fun y => bif y.1 then tx54_0 y.2 else tx54_0 y.2
  oex := fun y => bif y.1 then .ret else .exit 0
  junk := [.slot 19, .slot 20, .slot 21, .slot 22, .slot 23, .slot 24, .slot 25, .slot 26, .slot 27, .slot 28, .slot 29, .slot 30, .slot 31, .slot 32, .slot 33, .slot 34, .slot 35, .slot 36, .slot 37, .slot 38, .slot 39, .slot 40]
  rows := []
noncomputable def lo54_0 : (Bool × S.ref01_Cmp_L0) → Tr El := fun y => .node y.1 (.leaf (.ret) (zipK ld54_0.okeys (tx54_0 y.2) ++ junkK ld54_0.junk)) (.leaf (.exit 0) (zipK ld54_0.okeys (tx54_0 y.2) ++ junkK ld54_0.junk))
noncomputable def loop54 : Nat → Env El → Tr El
  | 0 => ld54_0.tree c55 Try.f54.ntmps 0 lb54_0 S.ref01_Cmp_L0_run lo54_0 S.ref01_Cmp_L0_step S.ref01_Cmp_L0_vcs
  | _ => fun _ => .fail
theorem lok54_0 : ∀ w0 S0, LoopOk c55 Try.f54.ntmps w0 S0 loop54 0 lb54_0 :=
  loop_ok (c := c55) (n := Try.f54.ntmps) c55_ok mixed ld54_0 (body := lb54_0) (key := 0) (loop := loop54) (F := S.ref01_Cmp_L0_run) (out := lo54_0) (step := S.ref01_Cmp_L0_step) (vcs := S.ref01_Cmp_L0_vcs)
    (fun _ => by kernel_rfl) (no_loops (by kernel_rfl)) rfl rfl
    (fun vs x h => by unfold ld54_0 px54_0 at h; dsimp only at h; split at h <;> first | (cases h; rfl) | cases h)
    (fun e vs y h => by unfold ld54_0 py54_0 at h; dsimp only at h; split at h <;> first | (cases h; exact ⟨rfl, rfl⟩) | cases h)
    (by kernel_rfl) (fun | (true, _) => rfl | (false, _) => rfl) (fun | (true, _), _, h => h.1 rfl | (false, _), _, h => h.2 rfl) (fun x => by kernel_rfl) (fun x h => Eq.mpr (show Vm.Tr.vc (Vm.ev c55 Try.f54.ntmps loop54 0 lb54_0 (ld54_0.vars x) []) = S.ref01_Cmp_L0_vcs x by kernel_rfl) h)
theorem fn54 (a : (List Int)) (b : (List Int)) (hp : S.ref01_Cmp_pre a b) : CallOk c55 54 [.list 5 false a, .list 5 false b] (wr_i64 (S.ref01_Cmp a b)) (wo_i64 (S.ref01_Cmp a b)) :=
  (call_ok (c := c55) (f := 54) (fn := Try.f54) (code := body54) (args := ([.list 5 false a, .list 5 false b])) (loop := loop54) (md := ⟨false, false⟩) (rd := rd_i64) (wr := wr_i64) (wo := wo_i64) (r := (S.ref01_Cmp a b)) c55_ok (by kernel_rfl) (by kernel_rfl) (by kernel_rfl) (loops_all (l := [(0, lb54_0)]) (by kernel_rfl) ⟨lok54_0, trivial⟩) (by kernel_rfl) (by kernel_rfl) (by kernel_rfl)
    rw_i64 np_i64 no_i64 (by kernel_rfl) (Eq.mpr (show Vm.Tr.vc (Vm.Fn c55 Try.f54 body54 loop54 ([.list 5 false a, .list 5 false b])) = S.ref01_Cmp_pre a b by kernel_rfl) hp))

noncomputable def sem54 : List W → Option (W × List (List W) × List Prop)
  | [.list 5 false y1, .list 5 false y2] => some (wr_i64 (S.ref01_Cmp y1 y2), wo_i64 (S.ref01_Cmp y1 y2), [S.ref01_Cmp_pre y1 y2])
  | _ => none
noncomputable def c54 : Cfg El := c55.add 54 sem54
theorem c54_ok : CfgOk c54 := c55_ok.add (fun args w => Try.call54 args w) (fun vs r outs ps h hp => by
  unfold sem54 at h
  split at h
  · rename_i y1 y2; cases h; exact fn54 y1 y2 hp
  · cases h)

noncomputable def body25 : Code := (Try.f25.body).getD .skip
theorem fn25 (n : S.Num) (r : (List Int)) (hp : S.docs_SameNat_pre n r) : CallOk c54 25 [.agg [.list 39 false n.limbs], .list 5 false r] (wr_b (S.docs_SameNat n r)) (wo_b (S.docs_SameNat n r)) :=
  (call_ok (c := c54) (f := 25) (fn := Try.f25) (code := body25) (args := ([.agg [.list 39 false n.limbs], .list 5 false r])) (loop := noLoop) (md := ⟨false, false⟩) (rd := rd_b) (wr := wr_b) (wo := wo_b) (r := (S.docs_SameNat n r)) c54_ok (by kernel_rfl) (by kernel_rfl) (by kernel_rfl) (no_loops (by kernel_rfl)) (by kernel_rfl) (by kernel_rfl) (by kernel_rfl)
    rw_b np_b no_b (by kernel_rfl) (Eq.mpr (show Vm.Tr.vc (Vm.Fn c54 Try.f25 body25 noLoop ([.agg [.list 39 false n.limbs], .list 5 false r])) = S.docs_SameNat_pre n r by kernel_rfl) hp))

noncomputable def sem25 : List W → Option (W × List (List W) × List Prop)
  | [.agg [.list 39 false y1], .list 5 false y2] => some (wr_b (S.docs_SameNat (⟨y1⟩ : S.Num) y2), wo_b (S.docs_SameNat (⟨y1⟩ : S.Num) y2), [S.docs_SameNat_pre (⟨y1⟩ : S.Num) y2])
  | _ => none
noncomputable def c25 : Cfg El := c54.add 25 sem25
theorem c25_ok : CfgOk c25 := c54_ok.add (fun args w => Try.call25 args w) (fun vs r outs ps h hp => by
  unfold sem25 at h
  split at h
  · rename_i y1 y2; cases h; exact fn25 (⟨y1⟩ : S.Num) y2 hp
  · cases h)

noncomputable def body4 : Code := (Try.f4.body).getD .skip
noncomputable def lb4_0 : Code := ((nth (loopsOf 0 body4) 0).getD (0, .skip)).2
noncomputable def px4_0 : List W → Option S.law02_DeciDivides_L0
  | [.int .u64 y1, .bool y2, .ptr 5 0, .list 5 false y3, .list 5 false y4, .int .u64 y5, .int .i64 y6, .int .i64 y7, .list 39 false y8] => some ⟨y1, y2, y3, y4, y5, y6, y7, ⟨y8⟩⟩
  | _ => none
noncomputable def tx4_0 (x : S.law02_DeciDivides_L0) : List W := [.int .u64 x.vby, .bool x.t4, .ptr 5 0, .list 5 false x.r, .list 5 false x.want, .int .u64 x.left, .int .i64 x.f, .int .i64 x.t, .list 39 false x.n.limbs]
noncomputable def py4_0 : Ex → List W → Option (Bool × S.law02_DeciDivides_L0)
  | .ret, [.int .u64 y1, .bool y2, .ptr 5 0, .list 5 false y3, .list 5 false y4, .int .u64 y5, .int .i64 y6, .int .i64 y7, .list 39 false y8] => some ⟨true, ⟨y1, y2, y3, y4, y5, y6, y7, ⟨y8⟩⟩⟩
  | .exit 0, [.int .u64 y1, .bool y2, .ptr 5 0, .list 5 false y3, .list 5 false y4, .int .u64 y5, .int .i64 y6, .int .i64 y7, .list 39 false y8] => some ⟨false, ⟨y1, y2, y3, y4, y5, y6, y7, ⟨y8⟩⟩⟩
  | _, _ => none
noncomputable def ld4_0 : LD El where
  X := S.law02_DeciDivides_L0
  Y := Bool × S.law02_DeciDivides_L0
  keys := [.slot 1, .slot 4, .slot 5, .slot 6, .slot 7, .slot 8, .slot 9, .slot 10, .cell 5 0]
  fits := [39, 4, 0, 44, 44, 39, 46, 3, 38]
  px := px4_0
  tx := tx4_0
  okeys := [.slot 1, .slot 4, .slot 5, .slot 6, .slot 7, .slot 8, .slot 9, .slot 10, .cell 5 0]
  ofits := [39, 4, 0, 44, 44, 39, 46, 3, 38]
  py := py4_0
  ty := fun y => bif y.1 then tx4_0 y.2 else tx4_0 y.2
  oex := fun y => bif y.1 then .ret else .exit 0
  junk := [.slot 11, .slot 12, .slot 13, .slot 30, .slot 31, .slot 32, .slot 33, .slot 34, .slot 35, .slot 36, .slot 37, .slot 38, .slot 39, .slot 40, .slot 41, .slot 42, .slot 43, .slot 44, .slot 45, .slot 46, .slot 47, .slot 48, .slot 49, .slot 50, .slot 51, .slot 52, .slot 53, .slot 54, .slot 55, .slot 56, .slot 57, .slot 58, .slot 59, .slot 60]
  rows := []
noncomputable def lo4_0 : (Bool × S.law02_DeciDivides_L0) → Tr El := fun y => .node y.1 (.leaf (.ret) (zipK ld4_0.okeys (tx4_0 y.2) ++ junkK ld4_0.junk)) (.leaf (.exit 0) (zipK ld4_0.okeys (tx4_0 y.2) ++ junkK ld4_0.junk))
noncomputable def loop4 : Nat → Env El → Tr El
  | 0 => ld4_0.tree c25 Try.f4.ntmps 0 lb4_0 S.law02_DeciDivides_L0_run lo4_0 S.law02_DeciDivides_L0_step S.law02_DeciDivides_L0_vcs
  | _ => fun _ => .fail
theorem lok4_0 : ∀ w0 S0, LoopOk c25 Try.f4.ntmps w0 S0 loop4 0 lb4_0 :=
  loop_ok (c := c25) (n := Try.f4.ntmps) c25_ok mixed ld4_0 (body := lb4_0) (key := 0) (loop := loop4) (F := S.law02_DeciDivides_L0_run) (out := lo4_0) (step := S.law02_DeciDivides_L0_step) (vcs := S.law02_DeciDivides_L0_vcs)
    (fun _ => by kernel_rfl) (no_loops (by kernel_rfl)) rfl rfl
    (fun vs x h => by unfold ld4_0 px4_0 at h; dsimp only at h; split at h <;> first | (cases h; rfl) | cases h)
    (fun e vs y h => by unfold ld4_0 py4_0 at h; dsimp only at h; split at h <;> first | (cases h; exact ⟨rfl, rfl⟩) | cases h)
    (by kernel_rfl) (fun | (true, _) => rfl | (false, _) => rfl) (fun | (true, _), _, h => h.1 rfl | (false, _), _, h => h.2 rfl) (fun x => by kernel_rfl) (fun x h => Eq.mpr (show Vm.Tr.vc (Vm.ev c25 Try.f4.ntmps loop4 0 lb4_0 (ld4_0.vars x) []) = S.law02_DeciDivides_L0_vcs x by kernel_rfl) h)
theorem fn4 (l : (List Int)) (a1 : Int) (hp : S.law02_DeciDivides_pre l a1) : CallOk c25 4 [.list 39 false l, .int .u64 a1] (wr_b (S.law02_DeciDivides l a1)) (wo_b (S.law02_DeciDivides l a1)) :=
  (call_ok (c := c25) (f := 4) (fn := Try.f4) (code := body4) (args := ([.list 39 false l, .int .u64 a1])) (loop := loop4) (md := ⟨false, false⟩) (rd := rd_b) (wr := wr_b) (wo := wo_b) (r := (S.law02_DeciDivides l a1)) c25_ok (by kernel_rfl) (by kernel_rfl) (by kernel_rfl) (loops_all (l := [(0, lb4_0)]) (by kernel_rfl) ⟨lok4_0, trivial⟩) (by kernel_rfl) (by kernel_rfl) (by kernel_rfl)
    rw_b np_b no_b (by kernel_rfl) (Eq.mpr (show Vm.Tr.vc (Vm.Fn c25 Try.f4 body4 loop4 ([.list 39 false l, .int .u64 a1])) = S.law02_DeciDivides_pre l a1 by kernel_rfl) hp))

noncomputable def sem4 : List W → Option (W × List (List W) × List Prop)
  | [.list 39 false y1, .int .u64 y2] => some (wr_b (S.law02_DeciDivides y1 y2), wo_b (S.law02_DeciDivides y1 y2), [S.law02_DeciDivides_pre y1 y2])
  | _ => none
noncomputable def c4 : Cfg El := c25.add 4 sem4
theorem c4_ok : CfgOk c4 := c25_ok.add (fun args w => Try.call4 args w) (fun vs r outs ps h hp => by
  unfold sem4 at h
  split at h
  · rename_i y1 y2; cases h; exact fn4 y1 y2 hp
  · cases h)

noncomputable def body26 : Code := (Try.f26.body).getD .skip
noncomputable def semr26 (n : Nat) : List W → Option (W × List (List W) × List Prop)
  | [.list 5 false y1] => some (wr_s (S.ref02_Text_F n y1), wo_s (S.ref02_Text_F n y1), [S.ref02_Text_D n y1])
  | _ => none
theorem fns26 (n : Nat) (hc : CfgOk (c4.add 26 (semr26 n))) (a0 : (List Int)) (hp : S.ref02_Text_D (n + 1) a0) : CallOk (c4.add 26 (semr26 n)) 26 [.list 5 false a0] (wr_s (S.ref02_Text_F (n + 1) a0)) (wo_s (S.ref02_Text_F (n + 1) a0)) :=
  (call_ok (c := (c4.add 26 (semr26 n))) (f := 26) (fn := Try.f26) (code := body26) (args := ([.list 5 false a0])) (loop := noLoop) (md := ⟨false, false⟩) (rd := rd_s) (wr := wr_s) (wo := wo_s) (r := (S.ref02_Text_F (n + 1) a0)) hc (by kernel_rfl) (by kernel_rfl) (by kernel_rfl) (no_loops (by kernel_rfl)) (by kernel_rfl) (by kernel_rfl) (by kernel_rfl)
    rw_s np_s no_s (by kernel_rfl) (Eq.mpr (show Vm.Tr.vc (Vm.Fn (c4.add 26 (semr26 n)) Try.f26 body26 noLoop ([.list 5 false a0])) = S.ref02_Text_D (n + 1) a0 by kernel_rfl) hp))

theorem fnr26 (n : Nat) : ∀ (a0 : (List Int)), S.ref02_Text_D n a0 → CallOk c4 26 [.list 5 false a0] (wr_s (S.ref02_Text_F n a0)) (wo_s (S.ref02_Text_F n a0)) := by
  induction n with
  | zero => intro a0 hp; exact False.elim hp
  | succ n ih =>
    intro a0 hp
    have hc : CfgOk (c4.add 26 (semr26 n)) := c4_ok.add (fun args w => Try.call26 args w) (fun vs r outs ps h hp => by
      unfold semr26 at h
      split at h
      · cases h; exact ih _ hp
      · cases h)
    exact CallOk.unadd (c := c4) (fns26 n hc a0 hp)
theorem fn26 (a0 : (List Int)) (hp : S.ref02_Text_pre a0) : CallOk c4 26 [.list 5 false a0] (wr_s (S.ref02_Text a0)) (wo_s (S.ref02_Text a0)) := fnr26 _ a0 (Classical.epsilon_spec hp)

noncomputable def sem26 : List W → Option (W × List (List W) × List Prop)
  | [.list 5 false y1] => some (wr_s (S.ref02_Text y1), wo_s (S.ref02_Text y1), [S.ref02_Text_pre y1])
  | _ => none
noncomputable def c26 : Cfg El := c4.add 26 sem26
theorem c26_ok : CfgOk c26 := c4_ok.add (fun args w => Try.call26 args w) (fun vs r outs ps h hp => by
  unfold sem26 at h
  split at h
  · rename_i y1; cases h; exact fn26 y1 hp
  · cases h)

noncomputable def body30 : Code := (Try.f30.body).getD .skip
theorem fn30 (n : Int) (hp : S.ref02_Whole_pre n) : CallOk c26 30 [.int .i64 n] (wr_s (S.ref02_Whole n)) (wo_s (S.ref02_Whole n)) :=
  (call_ok (c := c26) (f := 30) (fn := Try.f30) (code := body30) (args := ([.int .i64 n])) (loop := noLoop) (md := ⟨false, false⟩) (rd := rd_s) (wr := wr_s) (wo := wo_s) (r := (S.ref02_Whole n)) c26_ok (by kernel_rfl) (by kernel_rfl) (by kernel_rfl) (no_loops (by kernel_rfl)) (by kernel_rfl) (by kernel_rfl) (by kernel_rfl)
    rw_s np_s no_s (by kernel_rfl) (Eq.mpr (show Vm.Tr.vc (Vm.Fn c26 Try.f30 body30 noLoop ([.int .i64 n])) = S.ref02_Whole_pre n by kernel_rfl) hp))

noncomputable def sem30 : List W → Option (W × List (List W) × List Prop)
  | [.int .i64 y1] => some (wr_s (S.ref02_Whole y1), wo_s (S.ref02_Whole y1), [S.ref02_Whole_pre y1])
  | _ => none
noncomputable def c30 : Cfg El := c26.add 30 sem30
theorem c30_ok : CfgOk c30 := c26_ok.add (fun args w => Try.call30 args w) (fun vs r outs ps h hp => by
  unfold sem30 at h
  split at h
  · rename_i y1; cases h; exact fn30 y1 hp
  · cases h)

noncomputable def body5 : Code := (Try.f5.body).getD .skip
theorem fn5 (l : (List Int)) (n : Int) (hp : S.law02_DeciTexts_pre l n) : CallOk c30 5 [.list 39 false l, .int .i64 n] (wr_b (S.law02_DeciTexts l n)) (wo_b (S.law02_DeciTexts l n)) :=
  (call_ok (c := c30) (f := 5) (fn := Try.f5) (code := body5) (args := ([.list 39 false l, .int .i64 n])) (loop := noLoop) (md := ⟨false, false⟩) (rd := rd_b) (wr := wr_b) (wo := wo_b) (r := (S.law02_DeciTexts l n)) c30_ok (by kernel_rfl) (by kernel_rfl) (by kernel_rfl) (no_loops (by kernel_rfl)) (by kernel_rfl) (by kernel_rfl) (by kernel_rfl)
    rw_b np_b no_b (by kernel_rfl) (Eq.mpr (show Vm.Tr.vc (Vm.Fn c30 Try.f5 body5 noLoop ([.list 39 false l, .int .i64 n])) = S.law02_DeciTexts_pre l n by kernel_rfl) hp))

noncomputable def sem5 : List W → Option (W × List (List W) × List Prop)
  | [.list 39 false y1, .int .i64 y2] => some (wr_b (S.law02_DeciTexts y1 y2), wo_b (S.law02_DeciTexts y1 y2), [S.law02_DeciTexts_pre y1 y2])
  | _ => none
noncomputable def c5 : Cfg El := c30.add 5 sem5
theorem c5_ok : CfgOk c5 := c30_ok.add (fun args w => Try.call5 args w) (fun vs r outs ps h hp => by
  unfold sem5 at h
  split at h
  · rename_i y1 y2; cases h; exact fn5 y1 y2 hp
  · cases h)

noncomputable def body90 : Code := (Try.f90.body).getD .skip
noncomputable def lb90_0 : Code := ((nth (loopsOf 0 body90) 0).getD (0, .skip)).2
noncomputable def px90_0 : List W → Option S.ref01_Mul_L0
  | [.list 5 false y1, .list 5 false y2, .own 110, .int .i64 y3, .rowc 3 false none y4] => some ⟨y1, y2, y3, y4⟩
  | _ => none
noncomputable def tx90_0 (x : S.ref01_Mul_L0) : List W := [.list 5 false x.a, .list 5 false x.b, .own 110, .int .i64 x.i, .rowc 3 false none x.sums]
noncomputable def py90_0 : Ex → List W → Option (S.ref01_Mul_L0)
  | .exit 0, [.list 5 false y1, .list 5 false y2, .own 110, .int .i64 y3, .rowc 3 false none y4] => some ⟨y1, y2, y3, y4⟩
  | _, _ => none
noncomputable def ld90_0 : LD El where
  X := S.ref01_Mul_L0
  Y := S.ref01_Mul_L0
  keys := [.slot 0, .slot 1, .slot 5, .slot 6, .row 110]
  fits := [44, 44, 74, 3, 0]
  px := px90_0
  tx := tx90_0
  okeys := [.slot 0, .slot 1, .slot 5, .slot 6, .row 110]
  ofits := [44, 44, 74, 3, 0]
  py := py90_0
  ty := fun y => tx90_0 y
  oex := fun _ => .exit 0
  junk := [.slot 7, .slot 8, .slot 20, .slot 21, .slot 22, .slot 23, .slot 24, .slot 25, .slot 26, .slot 27, .slot 28, .slot 29, .slot 30, .slot 31, .slot 32, .slot 33, .slot 34, .slot 35, .slot 36, .slot 37, .slot 38, .slot 39, .slot 40, .slot 41, .slot 42, .slot 43, .slot 44, .slot 45, .slot 46, .slot 47, .slot 48, .slot 49, .slot 50, .slot 51, .slot 52, .slot 53, .slot 54, .slot 55, .slot 56, .slot 57, .slot 58, .slot 59, .slot 60, .slot 61, .slot 62, .slot 63, .slot 64, .slot 65, .slot 66, .slot 67, .slot 68, .slot 69, .slot 70, .slot 71, .slot 72, .row 19, .slot 19, .row 320]
  rows := [(5, 3)]
noncomputable def lo90_0 : S.ref01_Mul_L0 → Tr El := fun y => .leaf (.exit 0) (zipK ld90_0.okeys (tx90_0 y) ++ junkK ld90_0.junk)
noncomputable def lb90_2 : Code := ((nth (loopsOf 0 lb90_0) 0).getD (0, .skip)).2
noncomputable def px90_2 : List W → Option S.ref01_Mul_L2
  | [.list 5 false y1, .list 5 false y2, .own 320, .int .i64 y3, .int .i64 y4, .rowc 3 false none y5] => some ⟨y1, y2, y3, y4, y5⟩
  | _ => none
noncomputable def tx90_2 (x : S.ref01_Mul_L2) : List W := [.list 5 false x.a, .list 5 false x.b, .own 320, .int .i64 x.i, .int .i64 x.k, .rowc 3 false none x.sums]
noncomputable def py90_2 : Ex → List W → Option (S.ref01_Mul_L2)
  | .exit 2, [.list 5 false y1, .list 5 false y2, .own 320, .int .i64 y3, .int .i64 y4, .rowc 3 false none y5] => some ⟨y1, y2, y3, y4, y5⟩
  | _, _ => none
noncomputable def ld90_2 : LD El where
  X := S.ref01_Mul_L2
  Y := S.ref01_Mul_L2
  keys := [.slot 0, .slot 1, .slot 5, .slot 6, .slot 7, .row 320]
  fits := [44, 44, 74, 3, 3, 0]
  px := px90_2
  tx := tx90_2
  okeys := [.slot 0, .slot 1, .slot 5, .slot 6, .slot 7, .row 320]
  ofits := [44, 44, 74, 3, 3, 0]
  py := py90_2
  ty := fun y => tx90_2 y
  oex := fun _ => .exit 2
  junk := [.slot 8, .slot 26, .slot 27, .slot 28, .slot 29, .slot 30, .slot 31, .slot 32, .slot 33, .slot 34, .slot 35, .slot 36, .slot 37, .slot 38, .slot 39, .slot 40, .slot 41, .slot 42, .slot 43, .slot 44, .slot 45, .slot 46, .slot 47, .slot 48, .slot 49, .slot 50, .slot 51, .slot 52, .slot 53, .slot 54, .slot 55, .slot 56, .slot 57, .slot 58, .slot 59, .slot 60, .slot 61, .slot 62, .slot 63, .slot 64, .slot 65, .slot 66, .slot 67, .slot 68, .slot 69, .slot 70, .slot 71, .slot 72, .row 110]
  rows := [(5, 3)]
noncomputable def lo90_2 : S.ref01_Mul_L2 → Tr El := fun y => .leaf (.exit 2) (zipK ld90_2.okeys (tx90_2 y) ++ junkK ld90_2.junk)
noncomputable def lb90_4 : Code := ((nth (loopsOf 0 body90) 1).getD (0, .skip)).2
noncomputable def px90_4 : List W → Option S.ref01_Mul_L4
  | [.own 530, .own 534, .int .i64 y1, .int .i64 y2, .rowc 3 false none y3, .rowc 5 false none y4] => some ⟨y1, y2, y3, y4⟩
  | _ => none
noncomputable def tx90_4 (x : S.ref01_Mul_L4) : List W := [.own 530, .own 534, .int .i64 x.carry, .int .i64 x.i, .rowc 3 false none x.sums, .rowc 5 false none x.out]
noncomputable def py90_4 : Ex → List W → Option (S.ref01_Mul_L4)
  | .exit 4, [.own 530, .own 534, .int .i64 y1, .int .i64 y2, .rowc 3 false none y3, .rowc 5 false none y4] => some ⟨y1, y2, y3, y4⟩
  | _, _ => none
noncomputable def ld90_4 : LD El where
  X := S.ref01_Mul_L4
  Y := S.ref01_Mul_L4
  keys := [.slot 5, .slot 9, .slot 10, .slot 11, .row 530, .row 534]
  fits := [74, 44, 3, 3, 0, 0]
  px := px90_4
  tx := tx90_4
  okeys := [.slot 5, .slot 9, .slot 10, .slot 11, .row 530, .row 534]
  ofits := [74, 44, 3, 3, 0, 0]
  py := py90_4
  ty := fun y => tx90_4 y
  oex := fun _ => .exit 4
  junk := [.slot 12, .slot 73, .slot 74, .slot 75, .slot 76, .slot 77, .slot 78, .slot 79, .slot 80, .slot 81, .slot 82, .slot 83, .slot 84, .slot 85, .slot 86, .slot 87, .slot 88, .slot 89, .slot 90, .slot 91, .slot 92, .row 110]
  rows := [(5, 3), (9, 5)]
noncomputable def lo90_4 : S.ref01_Mul_L4 → Tr El := fun y => .leaf (.exit 4) (zipK ld90_4.okeys (tx90_4 y) ++ junkK ld90_4.junk)
noncomputable def lb90_6 : Code := ((nth (loopsOf 0 body90) 2).getD (0, .skip)).2
noncomputable def px90_6 : List W → Option S.ref01_Mul_L6
  | [.own 744, .int .i64 y1, .rowc 5 false none y2] => some ⟨y1, y2⟩
  | _ => none
noncomputable def tx90_6 (x : S.ref01_Mul_L6) : List W := [.own 744, .int .i64 x.carry, .rowc 5 false none x.out]
noncomputable def py90_6 : Ex → List W → Option (S.ref01_Mul_L6)
  | .exit 6, [.own 744, .int .i64 y1, .rowc 5 false none y2] => some ⟨y1, y2⟩
  | _, _ => none
noncomputable def ld90_6 : LD El where
  X := S.ref01_Mul_L6
  Y := S.ref01_Mul_L6
  keys := [.slot 9, .slot 10, .row 744]
  fits := [44, 3, 0]
  px := px90_6
  tx := tx90_6
  okeys := [.slot 9, .slot 10, .row 744]
  ofits := [44, 3, 0]
  py := py90_6
  ty := fun y => tx90_6 y
  oex := fun _ => .exit 6
  junk := [.slot 93, .slot 94, .slot 95, .slot 96, .slot 97, .slot 98, .slot 99, .slot 100, .slot 101, .slot 102, .row 534]
  rows := [(9, 5)]
noncomputable def lo90_6 : S.ref01_Mul_L6 → Tr El := fun y => .leaf (.exit 6) (zipK ld90_6.okeys (tx90_6 y) ++ junkK ld90_6.junk)
noncomputable def loop90 : Nat → Env El → Tr El
  | 0 => ld90_0.tree (c5.hint [104] []) Try.f90.ntmps 0 lb90_0 S.ref01_Mul_L0_run lo90_0 S.ref01_Mul_L0_step S.ref01_Mul_L0_vcs
  | 2 => ld90_2.tree (c5.hint [104] []) Try.f90.ntmps 2 lb90_2 S.ref01_Mul_L2_run lo90_2 S.ref01_Mul_L2_step S.ref01_Mul_L2_vcs
  | 4 => ld90_4.tree (c5.hint [104] []) Try.f90.ntmps 4 lb90_4 S.ref01_Mul_L4_run lo90_4 S.ref01_Mul_L4_step S.ref01_Mul_L4_vcs
  | 6 => ld90_6.tree (c5.hint [104] []) Try.f90.ntmps 6 lb90_6 S.ref01_Mul_L6_run lo90_6 S.ref01_Mul_L6_step S.ref01_Mul_L6_vcs
  | _ => fun _ => .fail
theorem lok90_6 : ∀ w0 S0, LoopOk (c5.hint [104] []) Try.f90.ntmps w0 S0 loop90 6 lb90_6 :=
  loop_ok (c := (c5.hint [104] [])) (n := Try.f90.ntmps) (CfgOk.hint c5_ok [104] []) mixed ld90_6 (body := lb90_6) (key := 6) (loop := loop90) (F := S.ref01_Mul_L6_run) (out := lo90_6) (step := S.ref01_Mul_L6_step) (vcs := S.ref01_Mul_L6_vcs)
    (fun _ => by kernel_rfl) (no_loops (by kernel_rfl)) rfl rfl
    (fun vs x h => by unfold ld90_6 px90_6 at h; dsimp only at h; split at h <;> first | (cases h; rfl) | cases h)
    (fun e vs y h => by unfold ld90_6 py90_6 at h; dsimp only at h; split at h <;> first | (cases h; exact ⟨rfl, rfl⟩) | cases h)
    (by kernel_rfl) (fun _ => rfl) (fun _ _ h => h) (fun x => by kernel_rfl) (fun x h => Eq.mpr (show Vm.Tr.vc (Vm.ev (c5.hint [104] []) Try.f90.ntmps loop90 6 lb90_6 (ld90_6.vars x) []) = S.ref01_Mul_L6_vcs x by kernel_rfl) h)
theorem lok90_4 : ∀ w0 S0, LoopOk (c5.hint [104] []) Try.f90.ntmps w0 S0 loop90 4 lb90_4 :=
  loop_ok (c := (c5.hint [104] [])) (n := Try.f90.ntmps) (CfgOk.hint c5_ok [104] []) mixed ld90_4 (body := lb90_4) (key := 4) (loop := loop90) (F := S.ref01_Mul_L4_run) (out := lo90_4) (step := S.ref01_Mul_L4_step) (vcs := S.ref01_Mul_L4_vcs)
    (fun _ => by kernel_rfl) (no_loops (by kernel_rfl)) rfl rfl
    (fun vs x h => by unfold ld90_4 px90_4 at h; dsimp only at h; split at h <;> first | (cases h; rfl) | cases h)
    (fun e vs y h => by unfold ld90_4 py90_4 at h; dsimp only at h; split at h <;> first | (cases h; exact ⟨rfl, rfl⟩) | cases h)
    (by kernel_rfl) (fun _ => rfl) (fun _ _ h => h) (fun x => by kernel_rfl) (fun x h => Eq.mpr (show Vm.Tr.vc (Vm.ev (c5.hint [104] []) Try.f90.ntmps loop90 4 lb90_4 (ld90_4.vars x) []) = S.ref01_Mul_L4_vcs x by kernel_rfl) h)
theorem lok90_2 : ∀ w0 S0, LoopOk (c5.hint [104] []) Try.f90.ntmps w0 S0 loop90 2 lb90_2 :=
  loop_ok (c := (c5.hint [104] [])) (n := Try.f90.ntmps) (CfgOk.hint c5_ok [104] []) mixed ld90_2 (body := lb90_2) (key := 2) (loop := loop90) (F := S.ref01_Mul_L2_run) (out := lo90_2) (step := S.ref01_Mul_L2_step) (vcs := S.ref01_Mul_L2_vcs)
    (fun _ => by kernel_rfl) (no_loops (by kernel_rfl)) rfl rfl
    (fun vs x h => by unfold ld90_2 px90_2 at h; dsimp only at h; split at h <;> first | (cases h; rfl) | cases h)
    (fun e vs y h => by unfold ld90_2 py90_2 at h; dsimp only at h; split at h <;> first | (cases h; exact ⟨rfl, rfl⟩) | cases h)
    (by kernel_rfl) (fun _ => rfl) (fun _ _ h => h) (fun x => by kernel_rfl) (fun x h => Eq.mpr (show Vm.Tr.vc (Vm.ev (c5.hint [104] []) Try.f90.ntmps loop90 2 lb90_2 (ld90_2.vars x) []) = S.ref01_Mul_L2_vcs x by kernel_rfl) h)
theorem lok90_0 : ∀ w0 S0, LoopOk (c5.hint [104] []) Try.f90.ntmps w0 S0 loop90 0 lb90_0 :=
  loop_ok (c := (c5.hint [104] [])) (n := Try.f90.ntmps) (CfgOk.hint c5_ok [104] []) mixed ld90_0 (body := lb90_0) (key := 0) (loop := loop90) (F := S.ref01_Mul_L0_run) (out := lo90_0) (step := S.ref01_Mul_L0_step) (vcs := S.ref01_Mul_L0_vcs)
    (fun _ => by kernel_rfl) (loops_all (l := [(2, lb90_2)]) (by kernel_rfl) ⟨lok90_2, trivial⟩) rfl rfl
    (fun vs x h => by unfold ld90_0 px90_0 at h; dsimp only at h; split at h <;> first | (cases h; rfl) | cases h)
    (fun e vs y h => by unfold ld90_0 py90_0 at h; dsimp only at h; split at h <;> first | (cases h; exact ⟨rfl, rfl⟩) | cases h)
    (by kernel_rfl) (fun _ => rfl) (fun _ _ h => h) (fun x => by kernel_rfl) (fun x h => Eq.mpr (show Vm.Tr.vc (Vm.ev (c5.hint [104] []) Try.f90.ntmps loop90 0 lb90_0 (ld90_0.vars x) []) = S.ref01_Mul_L0_vcs x by kernel_rfl) h)
theorem fn90 (a : (List Int)) (b : (List Int)) (hp : S.ref01_Mul_pre a b) : CallOk c5 90 [.list 5 false a, .list 5 false b] (wr_L5_o_f (S.ref01_Mul a b)) (wo_L5_o_f (S.ref01_Mul a b)) :=
  CallOk.unhint (c := c5) (call_ok (c := (c5.hint [104] [])) (f := 90) (fn := Try.f90) (code := body90) (args := ([.list 5 false a, .list 5 false b])) (loop := loop90) (md := ⟨true, true⟩) (rd := rd_L5_o_f) (wr := wr_L5_o_f) (wo := wo_L5_o_f) (r := (S.ref01_Mul a b)) (CfgOk.hint c5_ok [104] []) (by kernel_rfl) (by kernel_rfl) (by kernel_rfl) (loops_all (l := [(0, lb90_0), (4, lb90_4), (6, lb90_6)]) (by kernel_rfl) ⟨lok90_0, ⟨lok90_4, ⟨lok90_6, trivial⟩⟩⟩) (by kernel_rfl) (by kernel_rfl) (by kernel_rfl)
    rw_L5_o_f np_L5_o_f no_L5_o_f (by kernel_rfl) (Eq.mpr (show Vm.Tr.vc (Vm.Fn (c5.hint [104] []) Try.f90 body90 loop90 ([.list 5 false a, .list 5 false b])) = S.ref01_Mul_pre a b by kernel_rfl) hp))

noncomputable def sem90 : List W → Option (W × List (List W) × List Prop)
  | [.list 5 false y1, .list 5 false y2] => some (wr_L5_o_f (S.ref01_Mul y1 y2), wo_L5_o_f (S.ref01_Mul y1 y2), [S.ref01_Mul_pre y1 y2])
  | _ => none
noncomputable def c90 : Cfg El := c5.add 90 sem90
theorem c90_ok : CfgOk c90 := c5_ok.add (fun args w => Try.call90 args w) (fun vs r outs ps h hp => by
  unfold sem90 at h
  split at h
  · rename_i y1 y2; cases h; exact fn90 y1 y2 hp
  · cases h)

noncomputable def body99 : Code := (Try.f99.body).getD .skip
theorem fn99 (n : (List Int)) (i : Int) (hp : S.ref01_at_pre n i) : CallOk c90 99 [.list 5 false n, .int .i64 i] (wr_i64 (S.ref01_at n i)) (wo_i64 (S.ref01_at n i)) :=
  (call_ok (c := c90) (f := 99) (fn := Try.f99) (code := body99) (args := ([.list 5 false n, .int .i64 i])) (loop := noLoop) (md := ⟨false, false⟩) (rd := rd_i64) (wr := wr_i64) (wo := wo_i64) (r := (S.ref01_at n i)) c90_ok (by kernel_rfl) (by kernel_rfl) (by kernel_rfl) (no_loops (by kernel_rfl)) (by kernel_rfl) (by kernel_rfl) (by kernel_rfl)
    rw_i64 np_i64 no_i64 (by kernel_rfl) (Eq.mpr (show Vm.Tr.vc (Vm.Fn c90 Try.f99 body99 noLoop ([.list 5 false n, .int .i64 i])) = S.ref01_at_pre n i by kernel_rfl) hp))

noncomputable def sem99 : List W → Option (W × List (List W) × List Prop)
  | [.list 5 false y1, .int .i64 y2] => some (wr_i64 (S.ref01_at y1 y2), wo_i64 (S.ref01_at y1 y2), [S.ref01_at_pre y1 y2])
  | _ => none
noncomputable def c99 : Cfg El := c90.add 99 sem99
theorem c99_ok : CfgOk c99 := c90_ok.add (fun args w => Try.call99 args w) (fun vs r outs ps h hp => by
  unfold sem99 at h
  split at h
  · rename_i y1 y2; cases h; exact fn99 y1 y2 hp
  · cases h)

noncomputable def body89 : Code := (Try.f89.body).getD .skip
noncomputable def lb89_0 : Code := ((nth (loopsOf 0 body89) 0).getD (0, .skip)).2
noncomputable def px89_0 : List W → Option S.ref01_Add_L0
  | [.list 5 false y1, .list 5 false y2, .own 49, .int .i64 y3, .int .i64 y4, .rowc 5 false none y5] => some ⟨y1, y2, y3, y4, y5⟩
  | _ => none
noncomputable def tx89_0 (x : S.ref01_Add_L0) : List W := [.list 5 false x.a, .list 5 false x.b, .own 49, .int .i64 x.carry, .int .i64 x.i, .rowc 5 false none x.out]
noncomputable def py89_0 : Ex → List W → Option (S.ref01_Add_L0)
  | .exit 0, [.list 5 false y1, .list 5 false y2, .own 49, .int .i64 y3, .int .i64 y4, .rowc 5 false none y5] => some ⟨y1, y2, y3, y4, y5⟩
  | _, _ => none
noncomputable def ld89_0 : LD El where
  X := S.ref01_Add_L0
  Y := S.ref01_Add_L0
  keys := [.slot 0, .slot 1, .slot 5, .slot 6, .slot 7, .row 49]
  fits := [44, 44, 44, 3, 3, 0]
  px := px89_0
  tx := tx89_0
  okeys := [.slot 0, .slot 1, .slot 5, .slot 6, .slot 7, .row 49]
  ofits := [44, 44, 44, 3, 3, 0]
  py := py89_0
  ty := fun y => tx89_0 y
  oex := fun _ => .exit 0
  junk := [.slot 8, .slot 9, .slot 10, .slot 11, .slot 12, .slot 13, .slot 14, .slot 15, .slot 16, .slot 17, .slot 18, .slot 19, .slot 20, .slot 21, .slot 22, .slot 23, .slot 24, .slot 25, .slot 26, .slot 27, .slot 28, .slot 29, .slot 30, .slot 31, .slot 32, .slot 33, .slot 34, .slot 35, .slot 36, .slot 37, .slot 38, .slot 39, .slot 40, .slot 41]
  rows := [(5, 5)]
noncomputable def lo89_0 : S.ref01_Add_L0 → Tr El := fun y => .leaf (.exit 0) (zipK ld89_0.okeys (tx89_0 y) ++ junkK ld89_0.junk)
noncomputable def loop89 : Nat → Env El → Tr El
  | 0 => ld89_0.tree (c99.hint [43] []) Try.f89.ntmps 0 lb89_0 S.ref01_Add_L0_run lo89_0 S.ref01_Add_L0_step S.ref01_Add_L0_vcs
  | _ => fun _ => .fail
theorem lok89_0 : ∀ w0 S0, LoopOk (c99.hint [43] []) Try.f89.ntmps w0 S0 loop89 0 lb89_0 :=
  loop_ok (c := (c99.hint [43] [])) (n := Try.f89.ntmps) (CfgOk.hint c99_ok [43] []) mixed ld89_0 (body := lb89_0) (key := 0) (loop := loop89) (F := S.ref01_Add_L0_run) (out := lo89_0) (step := S.ref01_Add_L0_step) (vcs := S.ref01_Add_L0_vcs)
    (fun _ => by kernel_rfl) (no_loops (by kernel_rfl)) rfl rfl
    (fun vs x h => by unfold ld89_0 px89_0 at h; dsimp only at h; split at h <;> first | (cases h; rfl) | cases h)
    (fun e vs y h => by unfold ld89_0 py89_0 at h; dsimp only at h; split at h <;> first | (cases h; exact ⟨rfl, rfl⟩) | cases h)
    (by kernel_rfl) (fun _ => rfl) (fun _ _ h => h) (fun x => by kernel_rfl) (fun x h => Eq.mpr (show Vm.Tr.vc (Vm.ev (c99.hint [43] []) Try.f89.ntmps loop89 0 lb89_0 (ld89_0.vars x) []) = S.ref01_Add_L0_vcs x by kernel_rfl) h)
theorem fn89 (a : (List Int)) (b : (List Int)) (hp : S.ref01_Add_pre a b) : CallOk c99 89 [.list 5 false a, .list 5 false b] (wr_L5_o_f (S.ref01_Add a b)) (wo_L5_o_f (S.ref01_Add a b)) :=
  CallOk.unhint (c := c99) (call_ok (c := (c99.hint [43] [])) (f := 89) (fn := Try.f89) (code := body89) (args := ([.list 5 false a, .list 5 false b])) (loop := loop89) (md := ⟨true, true⟩) (rd := rd_L5_o_f) (wr := wr_L5_o_f) (wo := wo_L5_o_f) (r := (S.ref01_Add a b)) (CfgOk.hint c99_ok [43] []) (by kernel_rfl) (by kernel_rfl) (by kernel_rfl) (loops_all (l := [(0, lb89_0)]) (by kernel_rfl) ⟨lok89_0, trivial⟩) (by kernel_rfl) (by kernel_rfl) (by kernel_rfl)
    rw_L5_o_f np_L5_o_f no_L5_o_f (by kernel_rfl) (Eq.mpr (show Vm.Tr.vc (Vm.Fn (c99.hint [43] []) Try.f89 body89 loop89 ([.list 5 false a, .list 5 false b])) = S.ref01_Add_pre a b by kernel_rfl) hp))

noncomputable def sem89 : List W → Option (W × List (List W) × List Prop)
  | [.list 5 false y1, .list 5 false y2] => some (wr_L5_o_f (S.ref01_Add y1 y2), wo_L5_o_f (S.ref01_Add y1 y2), [S.ref01_Add_pre y1 y2])
  | _ => none
noncomputable def c89 : Cfg El := c99.add 89 sem89
theorem c89_ok : CfgOk c89 := c99_ok.add (fun args w => Try.call89 args w) (fun vs r outs ps h hp => by
  unfold sem89 at h
  split at h
  · rename_i y1 y2; cases h; exact fn89 y1 y2 hp
  · cases h)

noncomputable def rd_L5_b : W → List (List W) → Option ((List Int) × Bool)
  | .tup [.list 5 false x1, .bool x2], [] => some ⟨x1, x2⟩
  | _, _ => none
noncomputable def wr_L5_b (x : (List Int) × Bool) : W := .tup [.list 5 false x.1, .bool x.2]
noncomputable def wo_L5_b (_x : (List Int) × Bool) : List (List W) := []
theorem rw_L5_b (v : W) (os : List (List W)) (x : (List Int) × Bool) (h : rd_L5_b v os = some x) : v = wr_L5_b x ∧ os = wo_L5_b x := by
  unfold rd_L5_b at h
  split at h <;> first | (cases h; exact ⟨rfl, rfl⟩) | cases h
theorem np_L5_b (x : (List Int) × Bool) : okv (fun _ => false) (wr_L5_b x) = true := rfl
theorem no_L5_b (x : (List Int) × Bool) : all (fun cs => all (ok0 fun _ => false) cs) (wo_L5_b x) = true := rfl

noncomputable def body60 : Code := (Try.f60.body).getD .skip
noncomputable def lb60_0 : Code := ((nth (loopsOf 0 body60) 0).getD (0, .skip)).2
noncomputable def px60_0 : List W → Option S.ref02_Number_L0
  | [.str y1, .list 5 false y2, .bool y3, .list 5 false y4, .int .i64 y5] => some ⟨y1, y2, y3, y4, y5⟩
  | _ => none
noncomputable def tx60_0 (x : S.ref02_Number_L0) : List W := [.str x.s, .list 5 false x.t2, .bool x.t3, .list 5 false x.out, .int .i64 x.i]
noncomputable def py60_0 : Ex → List W → Option (Bool × S.ref02_Number_L0)
  | .ret, [.str y1, .list 5 false y2, .bool y3, .list 5 false y4, .int .i64 y5] => some ⟨true, ⟨y1, y2, y3, y4, y5⟩⟩
  | .exit 0, [.str y1, .list 5 false y2, .bool y3, .list 5 false y4, .int .i64 y5] => some ⟨false, ⟨y1, y2, y3, y4, y5⟩⟩
  | _, _ => none
noncomputable def ld60_0 : LD El where
  X := S.ref02_Number_L0
  Y := Bool × S.ref02_Number_L0
  keys := [.slot 0, .slot 2, .slot 3, .slot 4, .slot 5]
  fits := [9, 44, 4, 44, 3]
  px := px60_0
  tx := tx60_0
  okeys := [.slot 0, .slot 2, .slot 3, .slot 4, .slot 5]
  ofits := [9, 44, 4, 44, 3]
  py := py60_0
  ty := fun y => bif y.1 then tx60_0 y.2 else tx60_0 y.2
  oex := fun y => bif y.1 then .ret else .exit 0
  junk := [.slot 6, .slot 7, .slot 8, .slot 9, .slot 10, .slot 11, .slot 12, .slot 13, .slot 14, .slot 15, .slot 16, .slot 17, .slot 18, .slot 19, .slot 20, .slot 21, .slot 22, .slot 23, .slot 24, .slot 25, .slot 26, .slot 27, .slot 28, .slot 29, .slot 30, .slot 31, .slot 32]
  rows := []
noncomputable def lo60_0 : (Bool × S.ref02_Number_L0) → Tr El := fun y => .node y.1 (.leaf (.ret) (zipK ld60_0.okeys (tx60_0 y.2) ++ junkK ld60_0.junk)) (.leaf (.exit 0) (zipK ld60_0.okeys (tx60_0 y.2) ++ junkK ld60_0.junk))
noncomputable def loop60 : Nat → Env El → Tr El
  | 0 => ld60_0.tree c89 Try.f60.ntmps 0 lb60_0 S.ref02_Number_L0_run lo60_0 S.ref02_Number_L0_step S.ref02_Number_L0_vcs
  | _ => fun _ => .fail
theorem lok60_0 : ∀ w0 S0, LoopOk c89 Try.f60.ntmps w0 S0 loop60 0 lb60_0 :=
  loop_ok (c := c89) (n := Try.f60.ntmps) c89_ok mixed ld60_0 (body := lb60_0) (key := 0) (loop := loop60) (F := S.ref02_Number_L0_run) (out := lo60_0) (step := S.ref02_Number_L0_step) (vcs := S.ref02_Number_L0_vcs)
    (fun _ => by kernel_rfl) (no_loops (by kernel_rfl)) rfl rfl
    (fun vs x h => by unfold ld60_0 px60_0 at h; dsimp only at h; split at h <;> first | (cases h; rfl) | cases h)
    (fun e vs y h => by unfold ld60_0 py60_0 at h; dsimp only at h; split at h <;> first | (cases h; exact ⟨rfl, rfl⟩) | cases h)
    (by kernel_rfl) (fun | (true, _) => rfl | (false, _) => rfl) (fun | (true, _), _, h => h.1 rfl | (false, _), _, h => h.2 rfl) (fun x => by kernel_rfl) (fun x h => Eq.mpr (show Vm.Tr.vc (Vm.ev c89 Try.f60.ntmps loop60 0 lb60_0 (ld60_0.vars x) []) = S.ref02_Number_L0_vcs x by kernel_rfl) h)
theorem fn60 (s : ByteArray) (hp : S.ref02_Number_pre s) : CallOk c89 60 [.str s] (wr_L5_b (S.ref02_Number s)) (wo_L5_b (S.ref02_Number s)) :=
  (call_ok (c := c89) (f := 60) (fn := Try.f60) (code := body60) (args := ([.str s])) (loop := loop60) (md := ⟨false, false⟩) (rd := rd_L5_b) (wr := wr_L5_b) (wo := wo_L5_b) (r := (S.ref02_Number s)) c89_ok (by kernel_rfl) (by kernel_rfl) (by kernel_rfl) (loops_all (l := [(0, lb60_0)]) (by kernel_rfl) ⟨lok60_0, trivial⟩) (by kernel_rfl) (by kernel_rfl) (by kernel_rfl)
    rw_L5_b np_L5_b no_L5_b (by kernel_rfl) (Eq.mpr (show Vm.Tr.vc (Vm.Fn c89 Try.f60 body60 loop60 ([.str s])) = S.ref02_Number_pre s by kernel_rfl) hp))

noncomputable def sem60 : List W → Option (W × List (List W) × List Prop)
  | [.str y1] => some (wr_L5_b (S.ref02_Number y1), wo_L5_b (S.ref02_Number y1), [S.ref02_Number_pre y1])
  | _ => none
noncomputable def c60 : Cfg El := c89.add 60 sem60
theorem c60_ok : CfgOk c60 := c89_ok.add (fun args w => Try.call60 args w) (fun vs r outs ps h hp => by
  unfold sem60 at h
  split at h
  · rename_i y1; cases h; exact fn60 y1 hp
  · cases h)

noncomputable def body61 : Code := (Try.f61.body).getD .skip
theorem fn61 (n : (List Int)) (limbs : Int) (hp : S.ref01_Fits_pre n limbs) : CallOk c60 61 [.list 5 false n, .int .i64 limbs] (wr_b (S.ref01_Fits n limbs)) (wo_b (S.ref01_Fits n limbs)) :=
  (call_ok (c := c60) (f := 61) (fn := Try.f61) (code := body61) (args := ([.list 5 false n, .int .i64 limbs])) (loop := noLoop) (md := ⟨false, false⟩) (rd := rd_b) (wr := wr_b) (wo := wo_b) (r := (S.ref01_Fits n limbs)) c60_ok (by kernel_rfl) (by kernel_rfl) (by kernel_rfl) (no_loops (by kernel_rfl)) (by kernel_rfl) (by kernel_rfl) (by kernel_rfl)
    rw_b np_b no_b (by kernel_rfl) (Eq.mpr (show Vm.Tr.vc (Vm.Fn c60 Try.f61 body61 noLoop ([.list 5 false n, .int .i64 limbs])) = S.ref01_Fits_pre n limbs by kernel_rfl) hp))

noncomputable def sem61 : List W → Option (W × List (List W) × List Prop)
  | [.list 5 false y1, .int .i64 y2] => some (wr_b (S.ref01_Fits y1 y2), wo_b (S.ref01_Fits y1 y2), [S.ref01_Fits_pre y1 y2])
  | _ => none
noncomputable def c61 : Cfg El := c60.add 61 sem61
theorem c61_ok : CfgOk c61 := c60_ok.add (fun args w => Try.call61 args w) (fun vs r outs ps h hp => by
  unfold sem61 at h
  split at h
  · rename_i y1 y2; cases h; exact fn61 y1 y2 hp
  · cases h)

noncomputable def rd_L5_i64 : W → List (List W) → Option ((List Int) × Int)
  | .tup [.list 5 false x1, .int .i64 x2], [] => some ⟨x1, x2⟩
  | _, _ => none
noncomputable def wr_L5_i64 (x : (List Int) × Int) : W := .tup [.list 5 false x.1, .int .i64 x.2]
noncomputable def wo_L5_i64 (_x : (List Int) × Int) : List (List W) := []
theorem rw_L5_i64 (v : W) (os : List (List W)) (x : (List Int) × Int) (h : rd_L5_i64 v os = some x) : v = wr_L5_i64 x ∧ os = wo_L5_i64 x := by
  unfold rd_L5_i64 at h
  split at h <;> first | (cases h; exact ⟨rfl, rfl⟩) | cases h
theorem np_L5_i64 (x : (List Int) × Int) : okv (fun _ => false) (wr_L5_i64 x) = true := rfl
theorem no_L5_i64 (x : (List Int) × Int) : all (fun cs => all (ok0 fun _ => false) cs) (wo_L5_i64 x) = true := rfl

noncomputable def body32 : Code := (Try.f32.body).getD .skip
theorem fn32 (s : ByteArray) (limbs : Int) (hp : S.ref02_Parse_pre s limbs) : CallOk c61 32 [.str s, .int .i64 limbs] (wr_L5_i64 (S.ref02_Parse s limbs)) (wo_L5_i64 (S.ref02_Parse s limbs)) :=
  (call_ok (c := c61) (f := 32) (fn := Try.f32) (code := body32) (args := ([.str s, .int .i64 limbs])) (loop := noLoop) (md := ⟨false, false⟩) (rd := rd_L5_i64) (wr := wr_L5_i64) (wo := wo_L5_i64) (r := (S.ref02_Parse s limbs)) c61_ok (by kernel_rfl) (by kernel_rfl) (by kernel_rfl) (no_loops (by kernel_rfl)) (by kernel_rfl) (by kernel_rfl) (by kernel_rfl)
    rw_L5_i64 np_L5_i64 no_L5_i64 (by kernel_rfl) (Eq.mpr (show Vm.Tr.vc (Vm.Fn c61 Try.f32 body32 noLoop ([.str s, .int .i64 limbs])) = S.ref02_Parse_pre s limbs by kernel_rfl) hp))

noncomputable def sem32 : List W → Option (W × List (List W) × List Prop)
  | [.str y1, .int .i64 y2] => some (wr_L5_i64 (S.ref02_Parse y1 y2), wo_L5_i64 (S.ref02_Parse y1 y2), [S.ref02_Parse_pre y1 y2])
  | _ => none
noncomputable def c32 : Cfg El := c61.add 32 sem32
theorem c32_ok : CfgOk c32 := c61_ok.add (fun args w => Try.call32 args w) (fun vs r outs ps h hp => by
  unfold sem32 at h
  split at h
  · rename_i y1 y2; cases h; exact fn32 y1 y2 hp
  · cases h)

noncomputable def body34 : Code := (Try.f34.body).getD .skip
theorem fn34 (s : ByteArray) (hp : S.ref02_ParseWhole_pre s) : CallOk c32 34 [.str s] (wr_i64_i64 (S.ref02_ParseWhole s)) (wo_i64_i64 (S.ref02_ParseWhole s)) :=
  (call_ok (c := c32) (f := 34) (fn := Try.f34) (code := body34) (args := ([.str s])) (loop := noLoop) (md := ⟨false, false⟩) (rd := rd_i64_i64) (wr := wr_i64_i64) (wo := wo_i64_i64) (r := (S.ref02_ParseWhole s)) c32_ok (by kernel_rfl) (by kernel_rfl) (by kernel_rfl) (no_loops (by kernel_rfl)) (by kernel_rfl) (by kernel_rfl) (by kernel_rfl)
    rw_i64_i64 np_i64_i64 no_i64_i64 (by kernel_rfl) (Eq.mpr (show Vm.Tr.vc (Vm.Fn c32 Try.f34 body34 noLoop ([.str s])) = S.ref02_ParseWhole_pre s by kernel_rfl) hp))

noncomputable def sem34 : List W → Option (W × List (List W) × List Prop)
  | [.str y1] => some (wr_i64_i64 (S.ref02_ParseWhole y1), wo_i64_i64 (S.ref02_ParseWhole y1), [S.ref02_ParseWhole_pre y1])
  | _ => none
noncomputable def c34 : Cfg El := c32.add 34 sem34
theorem c34_ok : CfgOk c34 := c32_ok.add (fun args w => Try.call34 args w) (fun vs r outs ps h hp => by
  unfold sem34 at h
  split at h
  · rename_i y1; cases h; exact fn34 y1 hp
  · cases h)

noncomputable def body6 : Code := (Try.f6.body).getD .skip
theorem fn6 (s : ByteArray) (limbs : Int) (hp : S.law02_DeciReads_pre s limbs) : CallOk c34 6 [.str s, .int .i64 limbs] (wr_b (S.law02_DeciReads s limbs)) (wo_b (S.law02_DeciReads s limbs)) :=
  (call_ok (c := c34) (f := 6) (fn := Try.f6) (code := body6) (args := ([.str s, .int .i64 limbs])) (loop := noLoop) (md := ⟨false, false⟩) (rd := rd_b) (wr := wr_b) (wo := wo_b) (r := (S.law02_DeciReads s limbs)) c34_ok (by kernel_rfl) (by kernel_rfl) (by kernel_rfl) (no_loops (by kernel_rfl)) (by kernel_rfl) (by kernel_rfl) (by kernel_rfl)
    rw_b np_b no_b (by kernel_rfl) (Eq.mpr (show Vm.Tr.vc (Vm.Fn c34 Try.f6 body6 noLoop ([.str s, .int .i64 limbs])) = S.law02_DeciReads_pre s limbs by kernel_rfl) hp))

noncomputable def sem6 : List W → Option (W × List (List W) × List Prop)
  | [.str y1, .int .i64 y2] => some (wr_b (S.law02_DeciReads y1 y2), wo_b (S.law02_DeciReads y1 y2), [S.law02_DeciReads_pre y1 y2])
  | _ => none
noncomputable def c6 : Cfg El := c34.add 6 sem6
theorem c6_ok : CfgOk c6 := c34_ok.add (fun args w => Try.call6 args w) (fun vs r outs ps h hp => by
  unfold sem6 at h
  split at h
  · rename_i y1 y2; cases h; exact fn6 y1 y2 hp
  · cases h)

noncomputable def body92 : Code := (Try.f92.body).getD .skip
theorem fn92 (x : Int) : CallOk c6 92 [.int .u64 x] (wr_b (S.cmp_isNaNuint64 x)) (wo_b (S.cmp_isNaNuint64 x)) :=
  (call_ok (c := c6) (f := 92) (fn := Try.f92) (code := body92) (args := ([.int .u64 x])) (loop := noLoop) (md := ⟨false, false⟩) (rd := rd_b) (wr := wr_b) (wo := wo_b) (r := (S.cmp_isNaNuint64 x)) c6_ok (by kernel_rfl) (by kernel_rfl) (by kernel_rfl) (no_loops (by kernel_rfl)) (by kernel_rfl) (by kernel_rfl) (by kernel_rfl)
    rw_b np_b no_b (by kernel_rfl) (Tr.vc_of_noReq (by kernel_rfl)))

noncomputable def sem92 : List W → Option (W × List (List W) × List Prop)
  | [.int .u64 y1] => some (wr_b (S.cmp_isNaNuint64 y1), wo_b (S.cmp_isNaNuint64 y1), [])
  | _ => none
noncomputable def c92 : Cfg El := c6.add 92 sem92
theorem c92_ok : CfgOk c92 := c6_ok.add (fun args w => Try.call92 args w) (fun vs r outs ps h hp => by
  unfold sem92 at h
  split at h
  · rename_i y1; cases h; exact fn92 y1
  · cases h)

noncomputable def body63 : Code := (Try.f63.body).getD .skip
theorem fn63 (x : Int) (y : Int) : CallOk c92 63 [.int .u64 x, .int .u64 y] (wr_i64 (S.cmp_Compareuint64 x y)) (wo_i64 (S.cmp_Compareuint64 x y)) :=
  (call_ok (c := c92) (f := 63) (fn := Try.f63) (code := body63) (args := ([.int .u64 x, .int .u64 y])) (loop := noLoop) (md := ⟨false, false⟩) (rd := rd_i64) (wr := wr_i64) (wo := wo_i64) (r := (S.cmp_Compareuint64 x y)) c92_ok (by kernel_rfl) (by kernel_rfl) (by kernel_rfl) (no_loops (by kernel_rfl)) (by kernel_rfl) (by kernel_rfl) (by kernel_rfl)
    rw_i64 np_i64 no_i64 (by kernel_rfl) (Tr.vc_of_noReq (by kernel_rfl)))

noncomputable def sem63 : List W → Option (W × List (List W) × List Prop)
  | [.int .u64 y1, .int .u64 y2] => some (wr_i64 (S.cmp_Compareuint64 y1 y2), wo_i64 (S.cmp_Compareuint64 y1 y2), [])
  | _ => none
noncomputable def c63 : Cfg El := c92.add 63 sem63
theorem c63_ok : CfgOk c63 := c92_ok.add (fun args w => Try.call63 args w) (fun vs r outs ps h hp => by
  unfold sem63 at h
  split at h
  · rename_i y1 y2; cases h; exact fn63 y1 y2
  · cases h)

noncomputable def body35 : Code := (Try.f35.body).getD .skip
noncomputable def lb35_0 : Code := ((nth (loopsOf 0 body35) 0).getD (0, .skip)).2
noncomputable def px35_0 : List W → Option S.nat_Cmp_L0
  | [.ptr 2 0, .ptr 3 0, .int .i64 y1, .int .i64 y2, .list 39 false y3, .list 39 false y4] => some ⟨y1, y2, ⟨y3⟩, ⟨y4⟩⟩
  | _ => none
noncomputable def tx35_0 (x : S.nat_Cmp_L0) : List W := [.ptr 2 0, .ptr 3 0, .int .i64 x.t4, .int .i64 x.i, .list 39 false x.a.limbs, .list 39 false x.b.limbs]
noncomputable def py35_0 : Ex → List W → Option (Bool × S.nat_Cmp_L0)
  | .ret, [.ptr 2 0, .ptr 3 0, .int .i64 y1, .int .i64 y2, .list 39 false y3, .list 39 false y4] => some ⟨true, ⟨y1, y2, ⟨y3⟩, ⟨y4⟩⟩⟩
  | .exit 0, [.ptr 2 0, .ptr 3 0, .int .i64 y1, .int .i64 y2, .list 39 false y3, .list 39 false y4] => some ⟨false, ⟨y1, y2, ⟨y3⟩, ⟨y4⟩⟩⟩
  | _, _ => none
noncomputable def ld35_0 : LD El where
  X := S.nat_Cmp_L0
  Y := Bool × S.nat_Cmp_L0
  keys := [.slot 2, .slot 3, .slot 4, .slot 5, .cell 2 0, .cell 3 0]
  fits := [0, 0, 3, 3, 38, 38]
  px := px35_0
  tx := tx35_0
  okeys := [.slot 2, .slot 3, .slot 4, .slot 5, .cell 2 0, .cell 3 0]
  ofits := [0, 0, 3, 3, 38, 38]
  py := py35_0
  ty := fun y => bif y.1 then tx35_0 y.2 else tx35_0 y.2
  oex := fun y => bif y.1 then .ret else .exit 0
  junk := [.slot 6, .slot 13, .slot 14, .slot 15, .slot 16, .slot 17, .slot 18, .slot 19, .slot 20, .slot 21, .slot 22, .slot 23, .slot 24, .slot 25, .slot 26]
  rows := []
noncomputable def lo35_0 : (Bool × S.nat_Cmp_L0) → Tr El := fun y => .node y.1 (.leaf (.ret) (zipK ld35_0.okeys (tx35_0 y.2) ++ junkK ld35_0.junk)) (.leaf (.exit 0) (zipK ld35_0.okeys (tx35_0 y.2) ++ junkK ld35_0.junk))
noncomputable def loop35 : Nat → Env El → Tr El
  | 0 => ld35_0.tree c63 Try.f35.ntmps 0 lb35_0 S.nat_Cmp_L0_run lo35_0 S.nat_Cmp_L0_step S.nat_Cmp_L0_vcs
  | _ => fun _ => .fail
theorem lok35_0 : ∀ w0 S0, LoopOk c63 Try.f35.ntmps w0 S0 loop35 0 lb35_0 :=
  loop_ok (c := c63) (n := Try.f35.ntmps) c63_ok mixed ld35_0 (body := lb35_0) (key := 0) (loop := loop35) (F := S.nat_Cmp_L0_run) (out := lo35_0) (step := S.nat_Cmp_L0_step) (vcs := S.nat_Cmp_L0_vcs)
    (fun _ => by kernel_rfl) (no_loops (by kernel_rfl)) rfl rfl
    (fun vs x h => by unfold ld35_0 px35_0 at h; dsimp only at h; split at h <;> first | (cases h; rfl) | cases h)
    (fun e vs y h => by unfold ld35_0 py35_0 at h; dsimp only at h; split at h <;> first | (cases h; exact ⟨rfl, rfl⟩) | cases h)
    (by kernel_rfl) (fun | (true, _) => rfl | (false, _) => rfl) (fun | (true, _), _, h => h.1 rfl | (false, _), _, h => h.2 rfl) (fun x => by kernel_rfl) (fun x h => Eq.mpr (show Vm.Tr.vc (Vm.ev c63 Try.f35.ntmps loop35 0 lb35_0 (ld35_0.vars x) []) = S.nat_Cmp_L0_vcs x by kernel_rfl) h)
theorem fn35 (a : S.Num) (b : S.Num) (hp : S.nat_Cmp_pre a b) : CallOk c63 35 [.agg [.list 39 false a.limbs], .agg [.list 39 false b.limbs]] (wr_i64 (S.nat_Cmp a b)) (wo_i64 (S.nat_Cmp a b)) :=
  (call_ok (c := c63) (f := 35) (fn := Try.f35) (code := body35) (args := ([.agg [.list 39 false a.limbs], .agg [.list 39 false b.limbs]])) (loop := loop35) (md := ⟨false, false⟩) (rd := rd_i64) (wr := wr_i64) (wo := wo_i64) (r := (S.nat_Cmp a b)) c63_ok (by kernel_rfl) (by kernel_rfl) (by kernel_rfl) (loops_all (l := [(0, lb35_0)]) (by kernel_rfl) ⟨lok35_0, trivial⟩) (by kernel_rfl) (by kernel_rfl) (by kernel_rfl)
    rw_i64 np_i64 no_i64 (by kernel_rfl) (Eq.mpr (show Vm.Tr.vc (Vm.Fn c63 Try.f35 body35 loop35 ([.agg [.list 39 false a.limbs], .agg [.list 39 false b.limbs]])) = S.nat_Cmp_pre a b by kernel_rfl) hp))

noncomputable def sem35 : List W → Option (W × List (List W) × List Prop)
  | [.agg [.list 39 false y1], .agg [.list 39 false y2]] => some (wr_i64 (S.nat_Cmp (⟨y1⟩ : S.Num) (⟨y2⟩ : S.Num)), wo_i64 (S.nat_Cmp (⟨y1⟩ : S.Num) (⟨y2⟩ : S.Num)), [S.nat_Cmp_pre (⟨y1⟩ : S.Num) (⟨y2⟩ : S.Num)])
  | _ => none
noncomputable def c35 : Cfg El := c63.add 35 sem35
theorem c35_ok : CfgOk c35 := c63_ok.add (fun args w => Try.call35 args w) (fun vs r outs ps h hp => by
  unfold sem35 at h
  split at h
  · rename_i y1 y2; cases h; exact fn35 (⟨y1⟩ : S.Num) (⟨y2⟩ : S.Num) hp
  · cases h)

noncomputable def body7 : Code := (Try.f7.body).getD .skip
theorem fn7 (a : (List Int)) (b : (List Int)) (a2 : Int) (n : Int) (s : ByteArray) (hp : S.law02_DeciBack_pre a b a2 n s) : CallOk c35 7 [.list 39 false a, .list 39 false b, .int .u64 a2, .int .i64 n, .str s] (wr_b (S.law02_DeciBack a b a2 n s)) (wo_b (S.law02_DeciBack a b a2 n s)) :=
  (call_ok (c := c35) (f := 7) (fn := Try.f7) (code := body7) (args := ([.list 39 false a, .list 39 false b, .int .u64 a2, .int .i64 n, .str s])) (loop := noLoop) (md := ⟨false, false⟩) (rd := rd_b) (wr := wr_b) (wo := wo_b) (r := (S.law02_DeciBack a b a2 n s)) c35_ok (by kernel_rfl) (by kernel_rfl) (by kernel_rfl) (no_loops (by kernel_rfl)) (by kernel_rfl) (by kernel_rfl) (by kernel_rfl)
    rw_b np_b no_b (by kernel_rfl) (Eq.mpr (show Vm.Tr.vc (Vm.Fn c35 Try.f7 body7 noLoop ([.list 39 false a, .list 39 false b, .int .u64 a2, .int .i64 n, .str s])) = S.law02_DeciBack_pre a b a2 n s by kernel_rfl) hp))

noncomputable def sem7 : List W → Option (W × List (List W) × List Prop)
  | [.list 39 false y1, .list 39 false y2, .int .u64 y3, .int .i64 y4, .str y5] => some (wr_b (S.law02_DeciBack y1 y2 y3 y4 y5), wo_b (S.law02_DeciBack y1 y2 y3 y4 y5), [S.law02_DeciBack_pre y1 y2 y3 y4 y5])
  | _ => none
noncomputable def c7 : Cfg El := c35.add 7 sem7
theorem c7_ok : CfgOk c7 := c35_ok.add (fun args w => Try.call7 args w) (fun vs r outs ps h hp => by
  unfold sem7 at h
  split at h
  · rename_i y1 y2 y3 y4 y5; cases h; exact fn7 y1 y2 y3 y4 y5 hp
  · cases h)
end Go.Proofs.Ythnlknegnlmklaa
