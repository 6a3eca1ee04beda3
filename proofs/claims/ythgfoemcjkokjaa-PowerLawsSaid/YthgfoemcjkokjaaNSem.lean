/-
  Printed by a program for this claim: functions of the code as plain functions, and that the code comes to them. Conditions: those that each theorem states.
-/
import Derived.Test.YthgfoemcjkokjaaNEnv
set_option linter.all false
namespace Go.Proofs.Ythgfoemcjkokjaa
open Go Go.Proofs Vm
attribute [local irreducible] Vm.Tr.vc Vm.Tr.out Vm.Fn Vm.Fn.out Vm.ev Vm.loopsOf Vm.Tr.noReq
noncomputable def rd_L33_o_f : W → List (List W) → Option ((List Int))
  | .olist 33 true x2, [] => some x2
  | _, _ => none
noncomputable def wr_L33_o_f (x : (List Int)) : W := .olist 33 true x
noncomputable def wo_L33_o_f (_x : (List Int)) : List (List W) := []
theorem rw_L33_o_f (v : W) (os : List (List W)) (x : (List Int)) (h : rd_L33_o_f v os = some x) : v = wr_L33_o_f x ∧ os = wo_L33_o_f x := by
  unfold rd_L33_o_f at h
  split at h <;> first | (cases h; exact ⟨rfl, rfl⟩) | cases h
theorem np_L33_o_f (x : (List Int)) : okv (fun _ => false) (wr_L33_o_f x) = true := rfl
theorem no_L33_o_f (x : (List Int)) : all (fun cs => all (ok0 fun _ => false) cs) (wo_L33_o_f x) = true := rfl

noncomputable def body72 : Code := (Try.f72.body).getD .skip
theorem fn72a (a : Int) (l : List Int) (hp : S.slices_Cloneuint64_uint64_pre (a :: l)) : CallOk base 72 [.list 33 false (a :: l)] (wr_L33_o_f (a :: l)) (wo_L33_o_f (a :: l)) :=
  CallOk.same (c := (base.hint [5] [])) (c' := base) rfl rfl rfl rfl (call_ok (c := (base.hint [5] [])) (f := 72) (fn := Try.f72) (code := body72) (args := [.list 33 false (a :: l)]) (loop := noLoop) (md := ⟨true, true⟩) (rd := rd_L33_o_f) (wr := wr_L33_o_f) (wo := wo_L33_o_f) (r := a :: l) (CfgOk.hint base_ok [5] []) (by kernel_rfl) (by kernel_rfl) (by kernel_rfl) (no_loops (by kernel_rfl)) (by kernel_rfl) (by kernel_rfl) (by kernel_rfl)
    rw_L33_o_f np_L33_o_f no_L33_o_f (by kernel_rfl) (Eq.mpr (show Vm.Tr.vc (Vm.Fn (base.hint [5] []) Try.f72 body72 noLoop [.list 33 false (a :: l)]) = ((false = true → True) ∧ (false = false → (All [((([] : List Int).length + (a :: l).length : Nat) : Int) * 8 ≤ 140737488355328] ∧ True))) by kernel_rfl) ⟨fun h => Bool.noConfusion h, fun _ => ⟨hp, trivial⟩⟩))
theorem fn72b (p : Option Addr) (cap : Nat) : CallOk base 72 [.raw (.slice p 0 cap)] (wr_L33_o_f (bif p.isNone then [] else [])) (wo_L33_o_f (bif p.isNone then [] else [])) :=
  CallOk.same (c := (base.hint [5] [])) (c' := base) rfl rfl rfl rfl (call_ok (c := (base.hint [5] [])) (f := 72) (fn := Try.f72) (code := body72) (args := [.raw (.slice p 0 cap)]) (loop := noLoop) (md := ⟨true, true⟩) (rd := rd_L33_o_f) (wr := wr_L33_o_f) (wo := wo_L33_o_f) (r := (bif p.isNone then [] else [])) (CfgOk.hint base_ok [5] []) (by kernel_rfl) (by kernel_rfl) (by kernel_rfl) (no_loops (by kernel_rfl)) (by kernel_rfl) (by kernel_rfl) (by kernel_rfl)
    rw_L33_o_f np_L33_o_f no_L33_o_f (by kernel_rfl) (Eq.mpr (show Vm.Tr.vc (Vm.Fn (base.hint [5] []) Try.f72 body72 noLoop [.raw (.slice p 0 cap)]) = ((p.isNone = true → True) ∧ (p.isNone = false → (All [((([] : List Int).length + ([] : List Int).length : Nat) : Int) * 8 ≤ 140737488355328] ∧ True))) by kernel_rfl) ⟨fun _ => trivial, fun _ => ⟨by simp [All], trivial⟩⟩))
theorem fn72 (s : List Int) (hp : S.slices_Cloneuint64_uint64_pre s) : CallOk base 72 [.list 33 false s] (wr_L33_o_f (S.slices_Cloneuint64_uint64 s)) (wo_L33_o_f (S.slices_Cloneuint64_uint64 s)) :=
  clone_calls (A := El) (c := base) (f := 72) (e := 33) (fr := true) S.slices_Cloneuint64_uint64_pre (fun a l hp => fn72a a l hp) (fun p cap => by cases p <;> exact fn72b _ cap) s hp

noncomputable def sem72 : List W → Option (W × List (List W) × List Prop)
  | [.list 33 false y1] => some (wr_L33_o_f (S.slices_Cloneuint64_uint64 y1), wo_L33_o_f (S.slices_Cloneuint64_uint64 y1), [S.slices_Cloneuint64_uint64_pre y1])
  | _ => none
noncomputable def c72 : Cfg El := base.add 72 sem72
theorem c72_ok : CfgOk c72 := base_ok.add (fun args w => Try.call72 args w) (fun vs r outs ps h hp => by
  unfold sem72 at h
  split at h
  · rename_i y1; cases h; exact fn72 y1 hp
  · cases h)

noncomputable def rd_S24_f : W → List (List W) → Option (S.Num)
  | .agg [.list 33 true x1], [] => some ⟨x1⟩
  | _, _ => none
noncomputable def wr_S24_f (x : S.Num) : W := .agg [.list 33 true x.limbs]
noncomputable def wo_S24_f (_x : S.Num) : List (List W) := []
theorem rw_S24_f (v : W) (os : List (List W)) (x : S.Num) (h : rd_S24_f v os = some x) : v = wr_S24_f x ∧ os = wo_S24_f x := by
  unfold rd_S24_f at h
  split at h <;> first | (cases h; exact ⟨rfl, rfl⟩) | cases h
theorem np_S24_f (x : S.Num) : okv (fun _ => false) (wr_S24_f x) = true := rfl
theorem no_S24_f (x : S.Num) : all (fun cs => all (ok0 fun _ => false) cs) (wo_S24_f x) = true := rfl

noncomputable def body16 : Code := (Try.f16.body).getD .skip
noncomputable def lb16_0 : Code := ((nth (loopsOf 0 body16) 0).getD (0, .skip)).2
noncomputable def px16_0 : List W → Option S.nat_Limbs_L0
  | [.list 33 false y1] => some ⟨y1⟩
  | _ => none
noncomputable def tx16_0 (x : S.nat_Limbs_L0) : List W := [.list 33 false x.l]
noncomputable def py16_0 : Ex → List W → Option (S.nat_Limbs_L0)
  | .exit 0, [.list 33 false y1] => some ⟨y1⟩
  | _, _ => none
noncomputable def ld16_0 : LD El where
  X := S.nat_Limbs_L0
  Y := S.nat_Limbs_L0
  keys := [.slot 0]
  fits := [22]
  px := px16_0
  tx := tx16_0
  okeys := [.slot 0]
  ofits := [22]
  py := py16_0
  ty := fun y => tx16_0 y
  oex := fun _ => .exit 0
  junk := [.slot 3, .slot 4, .slot 5, .slot 6, .slot 7, .slot 8, .slot 9, .slot 10, .slot 11, .slot 12, .slot 13, .slot 14, .slot 15, .slot 16, .slot 17, .slot 18, .slot 19]
  rows := []
noncomputable def lo16_0 : S.nat_Limbs_L0 → Tr El := fun y => .leaf (.exit 0) (zipK ld16_0.okeys (tx16_0 y) ++ junkK ld16_0.junk)
noncomputable def loop16 : Nat → Env El → Tr El
  | 0 => ld16_0.tree c72 Try.f16.ntmps 0 lb16_0 S.nat_Limbs_L0_run lo16_0 S.nat_Limbs_L0_step S.nat_Limbs_L0_vcs
  | _ => fun _ => .fail
theorem lok16_0 : ∀ w0 S0, LoopOk c72 Try.f16.ntmps w0 S0 loop16 0 lb16_0 :=
  loop_ok (c := c72) (n := Try.f16.ntmps) c72_ok mixed ld16_0 (body := lb16_0) (key := 0) (loop := loop16) (F := S.nat_Limbs_L0_run) (out := lo16_0) (step := S.nat_Limbs_L0_step) (vcs := S.nat_Limbs_L0_vcs)
    (fun _ => by kernel_rfl) (no_loops (by kernel_rfl)) rfl rfl
    (fun vs x h => by unfold ld16_0 px16_0 at h; dsimp only at h; split at h <;> first | (cases h; rfl) | cases h)
    (fun e vs y h => by unfold ld16_0 py16_0 at h; dsimp only at h; split at h <;> first | (cases h; exact ⟨rfl, rfl⟩) | cases h)
    (by kernel_rfl) (fun _ => rfl) (fun _ _ h => h) (fun x => by kernel_rfl) (fun x h => Eq.mpr (show Vm.Tr.vc (Vm.ev c72 Try.f16.ntmps loop16 0 lb16_0 (ld16_0.vars x) []) = S.nat_Limbs_L0_vcs x by kernel_rfl) h)
theorem fn16 (l : (List Int)) (hp : S.nat_Limbs_pre l) : CallOk c72 16 [.list 33 false l] (wr_S24_f (S.nat_Limbs l)) (wo_S24_f (S.nat_Limbs l)) :=
  (call_ok (c := c72) (f := 16) (fn := Try.f16) (code := body16) (args := ([.list 33 false l])) (loop := loop16) (md := ⟨false, true⟩) (rd := rd_S24_f) (wr := wr_S24_f) (wo := wo_S24_f) (r := (S.nat_Limbs l)) c72_ok (by kernel_rfl) (by kernel_rfl) (by kernel_rfl) (loops_all (l := [(0, lb16_0)]) (by kernel_rfl) ⟨lok16_0, trivial⟩) (by kernel_rfl) (by kernel_rfl) (by kernel_rfl)
    rw_S24_f np_S24_f no_S24_f (by kernel_rfl) (Eq.mpr (show Vm.Tr.vc (Vm.Fn c72 Try.f16 body16 loop16 ([.list 33 false l])) = S.nat_Limbs_pre l by kernel_rfl) hp))

noncomputable def sem16 : List W → Option (W × List (List W) × List Prop)
  | [.list 33 false y1] => some (wr_S24_f (S.nat_Limbs y1), wo_S24_f (S.nat_Limbs y1), [S.nat_Limbs_pre y1])
  | _ => none
noncomputable def c16 : Cfg El := c72.add 16 sem16
theorem c16_ok : CfgOk c16 := c72_ok.add (fun args w => Try.call16 args w) (fun vs r outs ps h hp => by
  unfold sem16 at h
  split at h
  · rename_i y1; cases h; exact fn16 y1 hp
  · cases h)

noncomputable def body21 : Code := (Try.f21.body).getD .skip
theorem fn21 (n : Int) (hp : S.nat_Of_pre n) : CallOk c16 21 [.int .u64 n] (wr_S24_f (S.nat_Of n)) (wo_S24_f (S.nat_Of n)) :=
  (call_ok (c := c16) (f := 21) (fn := Try.f21) (code := body21) (args := ([.int .u64 n])) (loop := noLoop) (md := ⟨false, true⟩) (rd := rd_S24_f) (wr := wr_S24_f) (wo := wo_S24_f) (r := (S.nat_Of n)) c16_ok (by kernel_rfl) (by kernel_rfl) (by kernel_rfl) (no_loops (by kernel_rfl)) (by kernel_rfl) (by kernel_rfl) (by kernel_rfl)
    rw_S24_f np_S24_f no_S24_f (by kernel_rfl) (Eq.mpr (show Vm.Tr.vc (Vm.Fn c16 Try.f21 body21 noLoop ([.int .u64 n])) = S.nat_Of_pre n by kernel_rfl) hp))

noncomputable def sem21 : List W → Option (W × List (List W) × List Prop)
  | [.int .u64 y1] => some (wr_S24_f (S.nat_Of y1), wo_S24_f (S.nat_Of y1), [S.nat_Of_pre y1])
  | _ => none
noncomputable def c21 : Cfg El := c16.add 21 sem21
theorem c21_ok : CfgOk c21 := c16_ok.add (fun args w => Try.call21 args w) (fun vs r outs ps h hp => by
  unfold sem21 at h
  split at h
  · rename_i y1; cases h; exact fn21 y1 hp
  · cases h)

noncomputable def sem74 : List W → Option (W × List (List W) × List Prop)
  | [.int .u64 x, .int .u64 y, .int .u64 c] => some (.tup [.int .u64 (S.math_bits_Add64 x y c).1, .int .u64 (S.math_bits_Add64 x y c).2], [], [S.math_bits_Add64_pre x y c])
  | _ => none
noncomputable def c74 : Cfg El := c21.add 74 sem74
theorem c74_ok : CfgOk c74 := c21_ok.addExt (fun vs r outs ps h hp => by
  unfold sem74 at h
  split at h
  · cases h; exact ⟨rfl, ext_add64 (c := c21) (fn := Try.f74) (by kernel_rfl) (by kernel_rfl) (by kernel_rfl) (by kernel_rfl) (by kernel_rfl) hp⟩
  · cases h)

noncomputable def rd_u64_Ru64 : W → List (List W) → Option (Int × Int)
  | .int .u64 x1, [[.int .u64 x2]] => some ⟨x1, x2⟩
  | _, _ => none
noncomputable def wr_u64_Ru64 (x : Int × Int) : W := .int .u64 x.1
noncomputable def wo_u64_Ru64 (x : Int × Int) : List (List W) := [[.int .u64 x.2]]
theorem rw_u64_Ru64 (v : W) (os : List (List W)) (x : Int × Int) (h : rd_u64_Ru64 v os = some x) : v = wr_u64_Ru64 x ∧ os = wo_u64_Ru64 x := by
  unfold rd_u64_Ru64 at h
  split at h <;> first | (cases h; exact ⟨rfl, rfl⟩) | cases h
theorem np_u64_Ru64 (x : Int × Int) : okv (fun _ => false) (wr_u64_Ru64 x) = true := rfl
theorem no_u64_Ru64 (x : Int × Int) : all (fun cs => all (ok0 fun _ => false) cs) (wo_u64_Ru64 x) = true := rfl

noncomputable def body73 : Code := (Try.f73.body).getD .skip
theorem fn73 (x : Int) (y : Int) (a2 : Int) (hp : S.nat_Add_1_pre x y a2) : CallOk c74 73 [.int .u64 x, .int .u64 y, .ref [.int .u64 a2]] (wr_u64_Ru64 (S.nat_Add_1 x y a2)) (wo_u64_Ru64 (S.nat_Add_1 x y a2)) :=
  CallOk.same (c := (c74.hint [] [2])) (c' := c74) rfl rfl rfl rfl (call_ok (c := (c74.hint [] [2])) (f := 73) (fn := Try.f73) (code := body73) (args := ([.int .u64 x, .int .u64 y, .ref [.int .u64 a2]])) (loop := noLoop) (md := ⟨false, false⟩) (rd := rd_u64_Ru64) (wr := wr_u64_Ru64) (wo := wo_u64_Ru64) (r := (S.nat_Add_1 x y a2)) (CfgOk.hint c74_ok [] [2]) (by kernel_rfl) (by kernel_rfl) (by kernel_rfl) (no_loops (by kernel_rfl)) (by kernel_rfl) (by kernel_rfl) (by kernel_rfl)
    rw_u64_Ru64 np_u64_Ru64 no_u64_Ru64 (by kernel_rfl) (Eq.mpr (show Vm.Tr.vc (Vm.Fn (c74.hint [] [2]) Try.f73 body73 noLoop ([.int .u64 x, .int .u64 y, .ref [.int .u64 a2]])) = S.nat_Add_1_pre x y a2 by kernel_rfl) hp))

noncomputable def sem73 : List W → Option (W × List (List W) × List Prop)
  | [.int .u64 y1, .int .u64 y2, .ref [.int .u64 y3]] => some (wr_u64_Ru64 (S.nat_Add_1 y1 y2 y3), wo_u64_Ru64 (S.nat_Add_1 y1 y2 y3), [S.nat_Add_1_pre y1 y2 y3])
  | _ => none
noncomputable def c73 : Cfg El := c74.add 73 sem73
theorem c73_ok : CfgOk c73 := c74_ok.add (fun args w => Try.call73 args w) (fun vs r outs ps h hp => by
  unfold sem73 at h
  split at h
  · rename_i y1 y2 y3; cases h; exact fn73 y1 y2 y3 hp
  · cases h)

noncomputable def rd_i64 : W → List (List W) → Option (Int)
  | .int .i64 x1, [] => some x1
  | _, _ => none
noncomputable def wr_i64 (x : Int) : W := .int .i64 x
noncomputable def wo_i64 (_x : Int) : List (List W) := []
theorem rw_i64 (v : W) (os : List (List W)) (x : Int) (h : rd_i64 v os = some x) : v = wr_i64 x ∧ os = wo_i64 x := by
  unfold rd_i64 at h
  split at h <;> first | (cases h; exact ⟨rfl, rfl⟩) | cases h
theorem np_i64 (x : Int) : okv (fun _ => false) (wr_i64 x) = true := rfl
theorem no_i64 (x : Int) : all (fun cs => all (ok0 fun _ => false) cs) (wo_i64 x) = true := rfl

noncomputable def body22 : Code := (Try.f22.body).getD .skip
theorem fn22 (n : S.Num) : CallOk c73 22 [.agg [.list 33 false n.limbs]] (wr_i64 (S.nat_Nat_Len n)) (wo_i64 (S.nat_Nat_Len n)) :=
  (call_ok (c := c73) (f := 22) (fn := Try.f22) (code := body22) (args := ([.agg [.list 33 false n.limbs]])) (loop := noLoop) (md := ⟨false, false⟩) (rd := rd_i64) (wr := wr_i64) (wo := wo_i64) (r := (S.nat_Nat_Len n)) c73_ok (by kernel_rfl) (by kernel_rfl) (by kernel_rfl) (no_loops (by kernel_rfl)) (by kernel_rfl) (by kernel_rfl) (by kernel_rfl)
    rw_i64 np_i64 no_i64 (by kernel_rfl) (Tr.vc_of_noReq (by kernel_rfl)))

noncomputable def sem22 : List W → Option (W × List (List W) × List Prop)
  | [.agg [.list 33 false y1]] => some (wr_i64 (S.nat_Nat_Len (⟨y1⟩ : S.Num)), wo_i64 (S.nat_Nat_Len (⟨y1⟩ : S.Num)), [])
  | _ => none
noncomputable def c22 : Cfg El := c73.add 22 sem22
theorem c22_ok : CfgOk c22 := c73_ok.add (fun args w => Try.call22 args w) (fun vs r outs ps h hp => by
  unfold sem22 at h
  split at h
  · rename_i y1; cases h; exact fn22 (⟨y1⟩ : S.Num)
  · cases h)

noncomputable def rd_u64 : W → List (List W) → Option (Int)
  | .int .u64 x1, [] => some x1
  | _, _ => none
noncomputable def wr_u64 (x : Int) : W := .int .u64 x
noncomputable def wo_u64 (_x : Int) : List (List W) := []
theorem rw_u64 (v : W) (os : List (List W)) (x : Int) (h : rd_u64 v os = some x) : v = wr_u64 x ∧ os = wo_u64 x := by
  unfold rd_u64 at h
  split at h <;> first | (cases h; exact ⟨rfl, rfl⟩) | cases h
theorem np_u64 (x : Int) : okv (fun _ => false) (wr_u64 x) = true := rfl
theorem no_u64 (x : Int) : all (fun cs => all (ok0 fun _ => false) cs) (wo_u64 x) = true := rfl

noncomputable def body75 : Code := (Try.f75.body).getD .skip
theorem fn75 (n : S.Num) (i : Int) (hp : S.nat_Nat_limb_pre n i) : CallOk c22 75 [.agg [.list 33 false n.limbs], .int .i64 i] (wr_u64 (S.nat_Nat_limb n i)) (wo_u64 (S.nat_Nat_limb n i)) :=
  (call_ok (c := c22) (f := 75) (fn := Try.f75) (code := body75) (args := ([.agg [.list 33 false n.limbs], .int .i64 i])) (loop := noLoop) (md := ⟨false, false⟩) (rd := rd_u64) (wr := wr_u64) (wo := wo_u64) (r := (S.nat_Nat_limb n i)) c22_ok (by kernel_rfl) (by kernel_rfl) (by kernel_rfl) (no_loops (by kernel_rfl)) (by kernel_rfl) (by kernel_rfl) (by kernel_rfl)
    rw_u64 np_u64 no_u64 (by kernel_rfl) (Eq.mpr (show Vm.Tr.vc (Vm.Fn c22 Try.f75 body75 noLoop ([.agg [.list 33 false n.limbs], .int .i64 i])) = S.nat_Nat_limb_pre n i by kernel_rfl) hp))

noncomputable def sem75 : List W → Option (W × List (List W) × List Prop)
  | [.agg [.list 33 false y1], .int .i64 y2] => some (wr_u64 (S.nat_Nat_limb (⟨y1⟩ : S.Num) y2), wo_u64 (S.nat_Nat_limb (⟨y1⟩ : S.Num) y2), [S.nat_Nat_limb_pre (⟨y1⟩ : S.Num) y2])
  | _ => none
noncomputable def c75 : Cfg El := c22.add 75 sem75
theorem c75_ok : CfgOk c75 := c22_ok.add (fun args w => Try.call75 args w) (fun vs r outs ps h hp => by
  unfold sem75 at h
  split at h
  · rename_i y1 y2; cases h; exact fn75 (⟨y1⟩ : S.Num) y2 hp
  · cases h)

noncomputable def body17 : Code := (Try.f17.body).getD .skip
noncomputable def lb17_0 : Code := ((nth (loopsOf 0 body17) 0).getD (0, .skip)).2
noncomputable def px17_0 : List W → Option S.nat_Add_L0
  | [.ptr 2 0, .ptr 3 0, .own 40, .clo 73 [] [.ptr 6 0], .int .i64 y1, .int .i64 y2, .rowc 33 false none y3, .list 33 false y4, .list 33 false y5, .int .u64 y6] => some ⟨y1, y2, y3, ⟨y4⟩, ⟨y5⟩, y6⟩
  | _ => none
noncomputable def tx17_0 (x : S.nat_Add_L0) : List W := [.ptr 2 0, .ptr 3 0, .own 40, .clo 73 [] [.ptr 6 0], .int .i64 x.t14, .int .i64 x.t15, .rowc 33 false none x.l, .list 33 false x.a.limbs, .list 33 false x.b.limbs, .int .u64 x.carry]
noncomputable def py17_0 : Ex → List W → Option (S.nat_Add_L0)
  | .exit 0, [.ptr 2 0, .ptr 3 0, .own 40, .clo 73 [] [.ptr 6 0], .int .i64 y1, .int .i64 y2, .rowc 33 false none y3, .list 33 false y4, .list 33 false y5, .int .u64 y6] => some ⟨y1, y2, y3, ⟨y4⟩, ⟨y5⟩, y6⟩
  | _, _ => none
noncomputable def ld17_0 : LD El where
  X := S.nat_Add_L0
  Y := S.nat_Add_L0
  keys := [.slot 2, .slot 3, .slot 5, .slot 7, .slot 14, .slot 15, .row 40, .cell 2 0, .cell 3 0, .cell 6 0]
  fits := [0, 0, 22, 104, 3, 3, 0, 22, 22, 33]
  px := px17_0
  tx := tx17_0
  okeys := [.slot 2, .slot 3, .slot 5, .slot 7, .slot 14, .slot 15, .row 40, .cell 2 0, .cell 3 0, .cell 6 0]
  ofits := [0, 0, 22, 104, 3, 3, 0, 22, 22, 33]
  py := py17_0
  ty := fun y => tx17_0 y
  oex := fun _ => .exit 0
  junk := [.slot 8, .slot 16, .slot 17, .slot 18, .slot 19, .slot 20, .slot 21, .slot 22, .slot 23, .slot 24, .slot 25, .slot 26, .slot 27, .slot 28, .slot 29]
  rows := [(5, 33)]
noncomputable def lo17_0 : S.nat_Add_L0 → Tr El := fun y => .leaf (.exit 0) (zipK ld17_0.okeys (tx17_0 y) ++ junkK ld17_0.junk)
noncomputable def loop17 : Nat → Env El → Tr El
  | 0 => ld17_0.tree c75 Try.f17.ntmps 0 lb17_0 S.nat_Add_L0_run lo17_0 S.nat_Add_L0_step S.nat_Add_L0_vcs
  | _ => fun _ => .fail
theorem lok17_0 : ∀ w0 S0, LoopOk c75 Try.f17.ntmps w0 S0 loop17 0 lb17_0 :=
  loop_ok (c := c75) (n := Try.f17.ntmps) c75_ok mixed ld17_0 (body := lb17_0) (key := 0) (loop := loop17) (F := S.nat_Add_L0_run) (out := lo17_0) (step := S.nat_Add_L0_step) (vcs := S.nat_Add_L0_vcs)
    (fun _ => by kernel_rfl) (no_loops (by kernel_rfl)) rfl rfl
    (fun vs x h => by unfold ld17_0 px17_0 at h; dsimp only at h; split at h <;> first | (cases h; rfl) | cases h)
    (fun e vs y h => by unfold ld17_0 py17_0 at h; dsimp only at h; split at h <;> first | (cases h; exact ⟨rfl, rfl⟩) | cases h)
    (by kernel_rfl) (fun _ => rfl) (fun _ _ h => h) (fun x => by kernel_rfl) (fun x h => Eq.mpr (show Vm.Tr.vc (Vm.ev c75 Try.f17.ntmps loop17 0 lb17_0 (ld17_0.vars x) []) = S.nat_Add_L0_vcs x by kernel_rfl) h)
theorem fn17 (a : S.Num) (b : S.Num) (hp : S.nat_Add_pre a b) : CallOk c75 17 [.agg [.list 33 false a.limbs], .agg [.list 33 false b.limbs]] (wr_S24_f (S.nat_Add a b)) (wo_S24_f (S.nat_Add a b)) :=
  (call_ok (c := c75) (f := 17) (fn := Try.f17) (code := body17) (args := ([.agg [.list 33 false a.limbs], .agg [.list 33 false b.limbs]])) (loop := loop17) (md := ⟨false, true⟩) (rd := rd_S24_f) (wr := wr_S24_f) (wo := wo_S24_f) (r := (S.nat_Add a b)) c75_ok (by kernel_rfl) (by kernel_rfl) (by kernel_rfl) (loops_all (l := [(0, lb17_0)]) (by kernel_rfl) ⟨lok17_0, trivial⟩) (by kernel_rfl) (by kernel_rfl) (by kernel_rfl)
    rw_S24_f np_S24_f no_S24_f (by kernel_rfl) (Eq.mpr (show Vm.Tr.vc (Vm.Fn c75 Try.f17 body17 loop17 ([.agg [.list 33 false a.limbs], .agg [.list 33 false b.limbs]])) = S.nat_Add_pre a b by kernel_rfl) hp))

noncomputable def sem17 : List W → Option (W × List (List W) × List Prop)
  | [.agg [.list 33 false y1], .agg [.list 33 false y2]] => some (wr_S24_f (S.nat_Add (⟨y1⟩ : S.Num) (⟨y2⟩ : S.Num)), wo_S24_f (S.nat_Add (⟨y1⟩ : S.Num) (⟨y2⟩ : S.Num)), [S.nat_Add_pre (⟨y1⟩ : S.Num) (⟨y2⟩ : S.Num)])
  | _ => none
noncomputable def c17 : Cfg El := c75.add 17 sem17
theorem c17_ok : CfgOk c17 := c75_ok.add (fun args w => Try.call17 args w) (fun vs r outs ps h hp => by
  unfold sem17 at h
  split at h
  · rename_i y1 y2; cases h; exact fn17 (⟨y1⟩ : S.Num) (⟨y2⟩ : S.Num) hp
  · cases h)

noncomputable def body56 : Code := (Try.f56.body).getD .skip
theorem fn56 (n : S.Num) (hp : S.nat_Nat_All_pre n) : CallOk c17 56 [.agg [.list 33 false n.limbs]] (wr_L33_o_f (S.nat_Nat_All n)) (wo_L33_o_f (S.nat_Nat_All n)) :=
  CallOk.same (c := (c17.hint [5] [])) (c' := c17) rfl rfl rfl rfl (call_ok (c := (c17.hint [5] [])) (f := 56) (fn := Try.f56) (code := body56) (args := ([.agg [.list 33 false n.limbs]])) (loop := noLoop) (md := ⟨true, true⟩) (rd := rd_L33_o_f) (wr := wr_L33_o_f) (wo := wo_L33_o_f) (r := (S.nat_Nat_All n)) (CfgOk.hint c17_ok [5] []) (by kernel_rfl) (by kernel_rfl) (by kernel_rfl) (no_loops (by kernel_rfl)) (by kernel_rfl) (by kernel_rfl) (by kernel_rfl)
    rw_L33_o_f np_L33_o_f no_L33_o_f (by kernel_rfl) (Eq.mpr (show Vm.Tr.vc (Vm.Fn (c17.hint [5] []) Try.f56 body56 noLoop ([.agg [.list 33 false n.limbs]])) = S.nat_Nat_All_pre n by kernel_rfl) hp))

noncomputable def sem56 : List W → Option (W × List (List W) × List Prop)
  | [.agg [.list 33 false y1]] => some (wr_L33_o_f (S.nat_Nat_All (⟨y1⟩ : S.Num)), wo_L33_o_f (S.nat_Nat_All (⟨y1⟩ : S.Num)), [S.nat_Nat_All_pre (⟨y1⟩ : S.Num)])
  | _ => none
noncomputable def c56 : Cfg El := c17.add 56 sem56
theorem c56_ok : CfgOk c56 := c17_ok.add (fun args w => Try.call56 args w) (fun vs r outs ps h hp => by
  unfold sem56 at h
  split at h
  · rename_i y1; cases h; exact fn56 (⟨y1⟩ : S.Num) hp
  · cases h)

noncomputable def rd_u64_u64 : W → List (List W) → Option (Int × Int)
  | .tup [.int .u64 x1, .int .u64 x2], [] => some ⟨x1, x2⟩
  | _, _ => none
noncomputable def wr_u64_u64 (x : Int × Int) : W := .tup [.int .u64 x.1, .int .u64 x.2]
noncomputable def wo_u64_u64 (_x : Int × Int) : List (List W) := []
theorem rw_u64_u64 (v : W) (os : List (List W)) (x : Int × Int) (h : rd_u64_u64 v os = some x) : v = wr_u64_u64 x ∧ os = wo_u64_u64 x := by
  unfold rd_u64_u64 at h
  split at h <;> first | (cases h; exact ⟨rfl, rfl⟩) | cases h
theorem np_u64_u64 (x : Int × Int) : okv (fun _ => false) (wr_u64_u64 x) = true := rfl
theorem no_u64_u64 (x : Int × Int) : all (fun cs => all (ok0 fun _ => false) cs) (wo_u64_u64 x) = true := rfl

noncomputable def body77 : Code := (Try.f77.body).getD .skip
theorem fn77 (x : Int) (y : Int) : CallOk c56 77 [.int .u64 x, .int .u64 y] (wr_u64_u64 (S.math_bits_Mul64 x y)) (wo_u64_u64 (S.math_bits_Mul64 x y)) :=
  (call_ok (c := c56) (f := 77) (fn := Try.f77) (code := body77) (args := ([.int .u64 x, .int .u64 y])) (loop := noLoop) (md := ⟨false, false⟩) (rd := rd_u64_u64) (wr := wr_u64_u64) (wo := wo_u64_u64) (r := (S.math_bits_Mul64 x y)) c56_ok (by kernel_rfl) (by kernel_rfl) (by kernel_rfl) (no_loops (by kernel_rfl)) (by kernel_rfl) (by kernel_rfl) (by kernel_rfl)
    rw_u64_u64 np_u64_u64 no_u64_u64 (by kernel_rfl) (Tr.vc_of_noReq (by kernel_rfl)))

noncomputable def sem77 : List W → Option (W × List (List W) × List Prop)
  | [.int .u64 y1, .int .u64 y2] => some (wr_u64_u64 (S.math_bits_Mul64 y1 y2), wo_u64_u64 (S.math_bits_Mul64 y1 y2), [])
  | _ => none
noncomputable def c77 : Cfg El := c56.add 77 sem77
theorem c77_ok : CfgOk c77 := c56_ok.add (fun args w => Try.call77 args w) (fun vs r outs ps h hp => by
  unfold sem77 at h
  split at h
  · rename_i y1 y2; cases h; exact fn77 y1 y2
  · cases h)

noncomputable def body19 : Code := (Try.f19.body).getD .skip
noncomputable def lb19_0 : Code := ((nth (loopsOf 0 body19) 0).getD (0, .skip)).2
noncomputable def px19_0 : List W → Option S.nat_Mul_L0
  | [.ptr 3 0, .own 87, .list 33 false y1, .int .i64 y2, .int .i64 y3, .rowc 33 false none y4, .list 33 false y5] => some ⟨y1, y2, y3, y4, ⟨y5⟩⟩
  | _ => none
noncomputable def tx19_0 (x : S.nat_Mul_L0) : List W := [.ptr 3 0, .own 87, .list 33 false x.t21, .int .i64 x.t22, .int .i64 x.t23, .rowc 33 false none x.l, .list 33 false x.b.limbs]
noncomputable def py19_0 : Ex → List W → Option (S.nat_Mul_L0)
  | .exit 0, [.ptr 3 0, .own 87, .list 33 false y1, .int .i64 y2, .int .i64 y3, .rowc 33 false none y4, .list 33 false y5] => some ⟨y1, y2, y3, y4, ⟨y5⟩⟩
  | _, _ => none
noncomputable def ld19_0 : LD El where
  X := S.nat_Mul_L0
  Y := S.nat_Mul_L0
  keys := [.slot 3, .slot 5, .slot 21, .slot 22, .slot 23, .row 87, .cell 3 0]
  fits := [0, 22, 22, 3, 3, 0, 22]
  px := px19_0
  tx := tx19_0
  okeys := [.slot 3, .slot 5, .slot 21, .slot 22, .slot 23, .row 87, .cell 3 0]
  ofits := [0, 22, 22, 3, 3, 0, 22]
  py := py19_0
  ty := fun y => tx19_0 y
  oex := fun _ => .exit 0
  junk := [.slot 6, .slot 7, .slot 8, .slot 9, .slot 10, .slot 11, .slot 12, .slot 13, .slot 24, .slot 25, .slot 26, .slot 27, .slot 28, .slot 29, .slot 30, .slot 31, .slot 32, .slot 33, .slot 34, .slot 35, .slot 36, .slot 37, .slot 38, .slot 39, .slot 40, .slot 41, .slot 42, .slot 43, .slot 44, .slot 45, .slot 46, .slot 47, .slot 48, .slot 49, .slot 50, .slot 51, .slot 52, .slot 53, .slot 54, .slot 55, .slot 56, .slot 57, .slot 58, .slot 59, .slot 60, .slot 61, .slot 62, .slot 63, .slot 64, .slot 65, .slot 66, .slot 67, .slot 68, .slot 69, .slot 70, .slot 71, .slot 72, .slot 73, .slot 74, .slot 75, .slot 76, .slot 77, .slot 78, .slot 79, .row 19, .slot 19, .row 251]
  rows := [(5, 33)]
noncomputable def lo19_0 : S.nat_Mul_L0 → Tr El := fun y => .leaf (.exit 0) (zipK ld19_0.okeys (tx19_0 y) ++ junkK ld19_0.junk)
noncomputable def lb19_2 : Code := ((nth (loopsOf 0 lb19_0) 0).getD (0, .skip)).2
noncomputable def px19_2 : List W → Option S.nat_Mul_L2
  | [.own 251, .int .i64 y1, .int .u64 y2, .int .u64 y3, .list 33 false y4, .int .i64 y5, .int .i64 y6, .rowc 33 false none y7] => some ⟨y1, y2, y3, y4, y5, y6, y7⟩
  | _ => none
noncomputable def tx19_2 (x : S.nat_Mul_L2) : List W := [.own 251, .int .i64 x.i, .int .u64 x.vx, .int .u64 x.carry, .list 33 false x.t29, .int .i64 x.t30, .int .i64 x.t31, .rowc 33 false none x.l]
noncomputable def py19_2 : Ex → List W → Option (S.nat_Mul_L2)
  | .exit 2, [.own 251, .int .i64 y1, .int .u64 y2, .int .u64 y3, .list 33 false y4, .int .i64 y5, .int .i64 y6, .rowc 33 false none y7] => some ⟨y1, y2, y3, y4, y5, y6, y7⟩
  | _, _ => none
noncomputable def ld19_2 : LD El where
  X := S.nat_Mul_L2
  Y := S.nat_Mul_L2
  keys := [.slot 5, .slot 6, .slot 7, .slot 8, .slot 29, .slot 30, .slot 31, .row 251]
  fits := [22, 3, 33, 33, 22, 3, 3, 0]
  px := px19_2
  tx := tx19_2
  okeys := [.slot 5, .slot 6, .slot 7, .slot 8, .slot 29, .slot 30, .slot 31, .row 251]
  ofits := [22, 3, 33, 33, 22, 3, 3, 0]
  py := py19_2
  ty := fun y => tx19_2 y
  oex := fun _ => .exit 2
  junk := [.slot 9, .slot 10, .slot 11, .slot 12, .slot 13, .slot 32, .slot 33, .slot 34, .slot 35, .slot 36, .slot 37, .slot 38, .slot 39, .slot 40, .slot 41, .slot 42, .slot 43, .slot 44, .slot 45, .slot 46, .slot 47, .slot 48, .slot 49, .slot 50, .slot 51, .slot 52, .slot 53, .slot 54, .slot 55, .slot 56, .slot 57, .slot 58, .slot 59, .slot 60, .slot 61, .slot 62, .slot 63, .slot 64, .slot 65, .slot 66, .slot 67, .slot 68, .slot 69, .slot 70, .slot 71, .row 87]
  rows := [(5, 33)]
noncomputable def lo19_2 : S.nat_Mul_L2 → Tr El := fun y => .leaf (.exit 2) (zipK ld19_2.okeys (tx19_2 y) ++ junkK ld19_2.junk)
noncomputable def loop19 : Nat → Env El → Tr El
  | 0 => ld19_0.tree c77 Try.f19.ntmps 0 lb19_0 S.nat_Mul_L0_run lo19_0 S.nat_Mul_L0_step S.nat_Mul_L0_vcs
  | 2 => ld19_2.tree c77 Try.f19.ntmps 2 lb19_2 S.nat_Mul_L2_run lo19_2 S.nat_Mul_L2_step S.nat_Mul_L2_vcs
  | _ => fun _ => .fail
theorem lok19_2 : ∀ w0 S0, LoopOk c77 Try.f19.ntmps w0 S0 loop19 2 lb19_2 :=
  loop_ok (c := c77) (n := Try.f19.ntmps) c77_ok mixed ld19_2 (body := lb19_2) (key := 2) (loop := loop19) (F := S.nat_Mul_L2_run) (out := lo19_2) (step := S.nat_Mul_L2_step) (vcs := S.nat_Mul_L2_vcs)
    (fun _ => by kernel_rfl) (no_loops (by kernel_rfl)) rfl rfl
    (fun vs x h => by unfold ld19_2 px19_2 at h; dsimp only at h; split at h <;> first | (cases h; rfl) | cases h)
    (fun e vs y h => by unfold ld19_2 py19_2 at h; dsimp only at h; split at h <;> first | (cases h; exact ⟨rfl, rfl⟩) | cases h)
    (by kernel_rfl) (fun _ => rfl) (fun _ _ h => h) (fun x => by kernel_rfl) (fun x h => Eq.mpr (show Vm.Tr.vc (Vm.ev c77 Try.f19.ntmps loop19 2 lb19_2 (ld19_2.vars x) []) = S.nat_Mul_L2_vcs x by kernel_rfl) h)
theorem lok19_0 : ∀ w0 S0, LoopOk c77 Try.f19.ntmps w0 S0 loop19 0 lb19_0 :=
  loop_ok (c := c77) (n := Try.f19.ntmps) c77_ok mixed ld19_0 (body := lb19_0) (key := 0) (loop := loop19) (F := S.nat_Mul_L0_run) (out := lo19_0) (step := S.nat_Mul_L0_step) (vcs := S.nat_Mul_L0_vcs)
    (fun _ => by kernel_rfl) (loops_all (l := [(2, lb19_2)]) (by kernel_rfl) ⟨lok19_2, trivial⟩) rfl rfl
    (fun vs x h => by unfold ld19_0 px19_0 at h; dsimp only at h; split at h <;> first | (cases h; rfl) | cases h)
    (fun e vs y h => by unfold ld19_0 py19_0 at h; dsimp only at h; split at h <;> first | (cases h; exact ⟨rfl, rfl⟩) | cases h)
    (by kernel_rfl) (fun _ => rfl) (fun _ _ h => h) (fun x => by kernel_rfl) (fun x h => Eq.mpr (show Vm.Tr.vc (Vm.ev c77 Try.f19.ntmps loop19 0 lb19_0 (ld19_0.vars x) []) = S.nat_Mul_L0_vcs x by kernel_rfl) h)
theorem fn19 (a : S.Num) (b : S.Num) (hp : S.nat_Mul_pre a b) : CallOk c77 19 [.agg [.list 33 false a.limbs], .agg [.list 33 false b.limbs]] (wr_S24_f (S.nat_Mul a b)) (wo_S24_f (S.nat_Mul a b)) :=
  (call_ok (c := c77) (f := 19) (fn := Try.f19) (code := body19) (args := ([.agg [.list 33 false a.limbs], .agg [.list 33 false b.limbs]])) (loop := loop19) (md := ⟨false, true⟩) (rd := rd_S24_f) (wr := wr_S24_f) (wo := wo_S24_f) (r := (S.nat_Mul a b)) c77_ok (by kernel_rfl) (by kernel_rfl) (by kernel_rfl) (loops_all (l := [(0, lb19_0)]) (by kernel_rfl) ⟨lok19_0, trivial⟩) (by kernel_rfl) (by kernel_rfl) (by kernel_rfl)
    rw_S24_f np_S24_f no_S24_f (by kernel_rfl) (Eq.mpr (show Vm.Tr.vc (Vm.Fn c77 Try.f19 body19 loop19 ([.agg [.list 33 false a.limbs], .agg [.list 33 false b.limbs]])) = S.nat_Mul_pre a b by kernel_rfl) hp))

noncomputable def sem19 : List W → Option (W × List (List W) × List Prop)
  | [.agg [.list 33 false y1], .agg [.list 33 false y2]] => some (wr_S24_f (S.nat_Mul (⟨y1⟩ : S.Num) (⟨y2⟩ : S.Num)), wo_S24_f (S.nat_Mul (⟨y1⟩ : S.Num) (⟨y2⟩ : S.Num)), [S.nat_Mul_pre (⟨y1⟩ : S.Num) (⟨y2⟩ : S.Num)])
  | _ => none
noncomputable def c19 : Cfg El := c77.add 19 sem19
theorem c19_ok : CfgOk c19 := c77_ok.add (fun args w => Try.call19 args w) (fun vs r outs ps h hp => by
  unfold sem19 at h
  split at h
  · rename_i y1 y2; cases h; exact fn19 (⟨y1⟩ : S.Num) (⟨y2⟩ : S.Num) hp
  · cases h)

noncomputable def rd_b : W → List (List W) → Option (Bool)
  | .bool x1, [] => some x1
  | _, _ => none
noncomputable def wr_b (x : Bool) : W := .bool x
noncomputable def wo_b (_x : Bool) : List (List W) := []
theorem rw_b (v : W) (os : List (List W)) (x : Bool) (h : rd_b v os = some x) : v = wr_b x ∧ os = wo_b x := by
  unfold rd_b at h
  split at h <;> first | (cases h; exact ⟨rfl, rfl⟩) | cases h
theorem np_b (x : Bool) : okv (fun _ => false) (wr_b x) = true := rfl
theorem no_b (x : Bool) : all (fun cs => all (ok0 fun _ => false) cs) (wo_b x) = true := rfl

noncomputable def body106 : Code := (Try.f106.body).getD .skip
theorem fn106 (x : Int) : CallOk c19 106 [.int .u64 x] (wr_b (S.cmp_isNaNuint64 x)) (wo_b (S.cmp_isNaNuint64 x)) :=
  (call_ok (c := c19) (f := 106) (fn := Try.f106) (code := body106) (args := ([.int .u64 x])) (loop := noLoop) (md := ⟨false, false⟩) (rd := rd_b) (wr := wr_b) (wo := wo_b) (r := (S.cmp_isNaNuint64 x)) c19_ok (by kernel_rfl) (by kernel_rfl) (by kernel_rfl) (no_loops (by kernel_rfl)) (by kernel_rfl) (by kernel_rfl) (by kernel_rfl)
    rw_b np_b no_b (by kernel_rfl) (Tr.vc_of_noReq (by kernel_rfl)))

noncomputable def sem106 : List W → Option (W × List (List W) × List Prop)
  | [.int .u64 y1] => some (wr_b (S.cmp_isNaNuint64 y1), wo_b (S.cmp_isNaNuint64 y1), [])
  | _ => none
noncomputable def c106 : Cfg El := c19.add 106 sem106
theorem c106_ok : CfgOk c106 := c19_ok.add (fun args w => Try.call106 args w) (fun vs r outs ps h hp => by
  unfold sem106 at h
  split at h
  · rename_i y1; cases h; exact fn106 y1
  · cases h)

noncomputable def body76 : Code := (Try.f76.body).getD .skip
theorem fn76 (x : Int) (y : Int) : CallOk c106 76 [.int .u64 x, .int .u64 y] (wr_i64 (S.cmp_Compareuint64 x y)) (wo_i64 (S.cmp_Compareuint64 x y)) :=
  (call_ok (c := c106) (f := 76) (fn := Try.f76) (code := body76) (args := ([.int .u64 x, .int .u64 y])) (loop := noLoop) (md := ⟨false, false⟩) (rd := rd_i64) (wr := wr_i64) (wo := wo_i64) (r := (S.cmp_Compareuint64 x y)) c106_ok (by kernel_rfl) (by kernel_rfl) (by kernel_rfl) (no_loops (by kernel_rfl)) (by kernel_rfl) (by kernel_rfl) (by kernel_rfl)
    rw_i64 np_i64 no_i64 (by kernel_rfl) (Tr.vc_of_noReq (by kernel_rfl)))

noncomputable def sem76 : List W → Option (W × List (List W) × List Prop)
  | [.int .u64 y1, .int .u64 y2] => some (wr_i64 (S.cmp_Compareuint64 y1 y2), wo_i64 (S.cmp_Compareuint64 y1 y2), [])
  | _ => none
noncomputable def c76 : Cfg El := c106.add 76 sem76
theorem c76_ok : CfgOk c76 := c106_ok.add (fun args w => Try.call76 args w) (fun vs r outs ps h hp => by
  unfold sem76 at h
  split at h
  · rename_i y1 y2; cases h; exact fn76 y1 y2
  · cases h)

noncomputable def body18 : Code := (Try.f18.body).getD .skip
noncomputable def lb18_0 : Code := ((nth (loopsOf 0 body18) 0).getD (0, .skip)).2
noncomputable def px18_0 : List W → Option S.nat_Cmp_L0
  | [.ptr 2 0, .ptr 3 0, .int .i64 y1, .int .i64 y2, .list 33 false y3, .list 33 false y4] => some ⟨y1, y2, ⟨y3⟩, ⟨y4⟩⟩
  | _ => none
noncomputable def tx18_0 (x : S.nat_Cmp_L0) : List W := [.ptr 2 0, .ptr 3 0, .int .i64 x.t4, .int .i64 x.i, .list 33 false x.a.limbs, .list 33 false x.b.limbs]
noncomputable def py18_0 : Ex → List W → Option (Bool × S.nat_Cmp_L0)
  | .ret, [.ptr 2 0, .ptr 3 0, .int .i64 y1, .int .i64 y2, .list 33 false y3, .list 33 false y4] => some ⟨true, ⟨y1, y2, ⟨y3⟩, ⟨y4⟩⟩⟩
  | .exit 0, [.ptr 2 0, .ptr 3 0, .int .i64 y1, .int .i64 y2, .list 33 false y3, .list 33 false y4] => some ⟨false, ⟨y1, y2, ⟨y3⟩, ⟨y4⟩⟩⟩
  | _, _ => none
noncomputable def ld18_0 : LD El where
  X := S.nat_Cmp_L0
  Y := Bool × S.nat_Cmp_L0
  keys := [.slot 2, .slot 3, .slot 4, .slot 5, .cell 2 0, .cell 3 0]
  fits := [0, 0, 3, 3, 22, 22]
  px := px18_0
  tx := tx18_0
  okeys := [.slot 2, .slot 3, .slot 4, .slot 5, .cell 2 0, .cell 3 0]
  ofits := [0, 0, 3, 3, 22, 22]
  py := py18_0
  ty := fun y => bif y.1 then tx18_0 y.2 else tx18_0 y.2
  oex := fun y => bif y.1 then .ret else .exit 0
  junk := [.slot 6, .slot 13, .slot 14, .slot 15, .slot 16, .slot 17, .slot 18, .slot 19, .slot 20, .slot 21, .slot 22, .slot 23, .slot 24, .slot 25, .slot 26]
  rows := []
noncomputable def lo18_0 : (Bool × S.nat_Cmp_L0) → Tr El := fun y => .node y.1 (.leaf (.ret) (zipK ld18_0.okeys (tx18_0 y.2) ++ junkK ld18_0.junk)) (.leaf (.exit 0) (zipK ld18_0.okeys (tx18_0 y.2) ++ junkK ld18_0.junk))
noncomputable def loop18 : Nat → Env El → Tr El
  | 0 => ld18_0.tree c76 Try.f18.ntmps 0 lb18_0 S.nat_Cmp_L0_run lo18_0 S.nat_Cmp_L0_step S.nat_Cmp_L0_vcs
  | _ => fun _ => .fail
theorem lok18_0 : ∀ w0 S0, LoopOk c76 Try.f18.ntmps w0 S0 loop18 0 lb18_0 :=
  loop_ok (c := c76) (n := Try.f18.ntmps) c76_ok mixed ld18_0 (body := lb18_0) (key := 0) (loop := loop18) (F := S.nat_Cmp_L0_run) (out := lo18_0) (step := S.nat_Cmp_L0_step) (vcs := S.nat_Cmp_L0_vcs)
    (fun _ => by kernel_rfl) (no_loops (by kernel_rfl)) rfl rfl
    (fun vs x h => by unfold ld18_0 px18_0 at h; dsimp only at h; split at h <;> first | (cases h; rfl) | cases h)
    (fun e vs y h => by unfold ld18_0 py18_0 at h; dsimp only at h; split at h <;> first | (cases h; exact ⟨rfl, rfl⟩) | cases h)
    (by kernel_rfl) (fun | (true, _) => rfl | (false, _) => rfl) (fun | (true, _), _, h => h.1 rfl | (false, _), _, h => h.2 rfl) (fun x => by kernel_rfl) (fun x h => Eq.mpr (show Vm.Tr.vc (Vm.ev c76 Try.f18.ntmps loop18 0 lb18_0 (ld18_0.vars x) []) = S.nat_Cmp_L0_vcs x by kernel_rfl) h)
theorem fn18 (a : S.Num) (b : S.Num) (hp : S.nat_Cmp_pre a b) : CallOk c76 18 [.agg [.list 33 false a.limbs], .agg [.list 33 false b.limbs]] (wr_i64 (S.nat_Cmp a b)) (wo_i64 (S.nat_Cmp a b)) :=
  (call_ok (c := c76) (f := 18) (fn := Try.f18) (code := body18) (args := ([.agg [.list 33 false a.limbs], .agg [.list 33 false b.limbs]])) (loop := loop18) (md := ⟨false, false⟩) (rd := rd_i64) (wr := wr_i64) (wo := wo_i64) (r := (S.nat_Cmp a b)) c76_ok (by kernel_rfl) (by kernel_rfl) (by kernel_rfl) (loops_all (l := [(0, lb18_0)]) (by kernel_rfl) ⟨lok18_0, trivial⟩) (by kernel_rfl) (by kernel_rfl) (by kernel_rfl)
    rw_i64 np_i64 no_i64 (by kernel_rfl) (Eq.mpr (show Vm.Tr.vc (Vm.Fn c76 Try.f18 body18 loop18 ([.agg [.list 33 false a.limbs], .agg [.list 33 false b.limbs]])) = S.nat_Cmp_pre a b by kernel_rfl) hp))

noncomputable def sem18 : List W → Option (W × List (List W) × List Prop)
  | [.agg [.list 33 false y1], .agg [.list 33 false y2]] => some (wr_i64 (S.nat_Cmp (⟨y1⟩ : S.Num) (⟨y2⟩ : S.Num)), wo_i64 (S.nat_Cmp (⟨y1⟩ : S.Num) (⟨y2⟩ : S.Num)), [S.nat_Cmp_pre (⟨y1⟩ : S.Num) (⟨y2⟩ : S.Num)])
  | _ => none
noncomputable def c18 : Cfg El := c76.add 18 sem18
theorem c18_ok : CfgOk c18 := c76_ok.add (fun args w => Try.call18 args w) (fun vs r outs ps h hp => by
  unfold sem18 at h
  split at h
  · rename_i y1 y2; cases h; exact fn18 (⟨y1⟩ : S.Num) (⟨y2⟩ : S.Num) hp
  · cases h)

noncomputable def sem78 : List W → Option (W × List (List W) × List Prop)
  | [.int .u64 x, .int .u64 y, .int .u64 c] => some (.tup [.int .u64 (S.math_bits_Sub64 x y c).1, .int .u64 (S.math_bits_Sub64 x y c).2], [], [S.math_bits_Sub64_pre x y c])
  | _ => none
noncomputable def c78 : Cfg El := c18.add 78 sem78
theorem c78_ok : CfgOk c78 := c18_ok.addExt (fun vs r outs ps h hp => by
  unfold sem78 at h
  split at h
  · cases h; exact ⟨rfl, ext_sub64 (c := c18) (fn := Try.f78) (by kernel_rfl) (by kernel_rfl) (by kernel_rfl) (by kernel_rfl) (by kernel_rfl) hp⟩
  · cases h)

noncomputable def rd_S24_i64_f : W → List (List W) → Option (S.Num × Int)
  | .tup [.agg [.list 33 true x1], .int .i64 x2], [] => some ⟨⟨x1⟩, x2⟩
  | _, _ => none
noncomputable def wr_S24_i64_f (x : S.Num × Int) : W := .tup [.agg [.list 33 true x.1.limbs], .int .i64 x.2]
noncomputable def wo_S24_i64_f (_x : S.Num × Int) : List (List W) := []
theorem rw_S24_i64_f (v : W) (os : List (List W)) (x : S.Num × Int) (h : rd_S24_i64_f v os = some x) : v = wr_S24_i64_f x ∧ os = wo_S24_i64_f x := by
  unfold rd_S24_i64_f at h
  split at h <;> first | (cases h; exact ⟨rfl, rfl⟩) | cases h
theorem np_S24_i64_f (x : S.Num × Int) : okv (fun _ => false) (wr_S24_i64_f x) = true := rfl
theorem no_S24_i64_f (x : S.Num × Int) : all (fun cs => all (ok0 fun _ => false) cs) (wo_S24_i64_f x) = true := rfl

noncomputable def body20 : Code := (Try.f20.body).getD .skip
noncomputable def lb20_0 : Code := ((nth (loopsOf 0 body20) 0).getD (0, .skip)).2
noncomputable def px20_0 : List W → Option S.nat_Sub_L0
  | [.ptr 2 0, .ptr 3 0, .own 44, .int .u64 y1, .int .i64 y2, .int .i64 y3, .rowc 33 false none y4, .list 33 false y5, .list 33 false y6] => some ⟨y1, y2, y3, y4, ⟨y5⟩, ⟨y6⟩⟩
  | _ => none
noncomputable def tx20_0 (x : S.nat_Sub_L0) : List W := [.ptr 2 0, .ptr 3 0, .own 44, .int .u64 x.borrow, .int .i64 x.t16, .int .i64 x.t17, .rowc 33 false none x.l, .list 33 false x.a.limbs, .list 33 false x.b.limbs]
noncomputable def py20_0 : Ex → List W → Option (S.nat_Sub_L0)
  | .exit 0, [.ptr 2 0, .ptr 3 0, .own 44, .int .u64 y1, .int .i64 y2, .int .i64 y3, .rowc 33 false none y4, .list 33 false y5, .list 33 false y6] => some ⟨y1, y2, y3, y4, ⟨y5⟩, ⟨y6⟩⟩
  | _, _ => none
noncomputable def ld20_0 : LD El where
  X := S.nat_Sub_L0
  Y := S.nat_Sub_L0
  keys := [.slot 2, .slot 3, .slot 6, .slot 7, .slot 16, .slot 17, .row 44, .cell 2 0, .cell 3 0]
  fits := [0, 0, 22, 33, 3, 3, 0, 22, 22]
  px := px20_0
  tx := tx20_0
  okeys := [.slot 2, .slot 3, .slot 6, .slot 7, .slot 16, .slot 17, .row 44, .cell 2 0, .cell 3 0]
  ofits := [0, 0, 22, 33, 3, 3, 0, 22, 22]
  py := py20_0
  ty := fun y => tx20_0 y
  oex := fun _ => .exit 0
  junk := [.slot 8, .slot 9, .slot 18, .slot 19, .slot 20, .slot 21, .slot 22, .slot 23, .slot 24, .slot 25, .slot 26, .slot 27, .slot 28, .slot 29, .slot 30, .slot 31, .slot 32, .slot 33, .slot 34, .slot 35]
  rows := [(6, 33)]
noncomputable def lo20_0 : S.nat_Sub_L0 → Tr El := fun y => .leaf (.exit 0) (zipK ld20_0.okeys (tx20_0 y) ++ junkK ld20_0.junk)
noncomputable def loop20 : Nat → Env El → Tr El
  | 0 => ld20_0.tree c78 Try.f20.ntmps 0 lb20_0 S.nat_Sub_L0_run lo20_0 S.nat_Sub_L0_step S.nat_Sub_L0_vcs
  | _ => fun _ => .fail
theorem lok20_0 : ∀ w0 S0, LoopOk c78 Try.f20.ntmps w0 S0 loop20 0 lb20_0 :=
  loop_ok (c := c78) (n := Try.f20.ntmps) c78_ok mixed ld20_0 (body := lb20_0) (key := 0) (loop := loop20) (F := S.nat_Sub_L0_run) (out := lo20_0) (step := S.nat_Sub_L0_step) (vcs := S.nat_Sub_L0_vcs)
    (fun _ => by kernel_rfl) (no_loops (by kernel_rfl)) rfl rfl
    (fun vs x h => by unfold ld20_0 px20_0 at h; dsimp only at h; split at h <;> first | (cases h; rfl) | cases h)
    (fun e vs y h => by unfold ld20_0 py20_0 at h; dsimp only at h; split at h <;> first | (cases h; exact ⟨rfl, rfl⟩) | cases h)
    (by kernel_rfl) (fun _ => rfl) (fun _ _ h => h) (fun x => by kernel_rfl) (fun x h => Eq.mpr (show Vm.Tr.vc (Vm.ev c78 Try.f20.ntmps loop20 0 lb20_0 (ld20_0.vars x) []) = S.nat_Sub_L0_vcs x by kernel_rfl) h)
theorem fn20 (a : S.Num) (b : S.Num) (hp : S.nat_Sub_pre a b) : CallOk c78 20 [.agg [.list 33 false a.limbs], .agg [.list 33 false b.limbs]] (wr_S24_i64_f (S.nat_Sub a b)) (wo_S24_i64_f (S.nat_Sub a b)) :=
  (call_ok (c := c78) (f := 20) (fn := Try.f20) (code := body20) (args := ([.agg [.list 33 false a.limbs], .agg [.list 33 false b.limbs]])) (loop := loop20) (md := ⟨false, true⟩) (rd := rd_S24_i64_f) (wr := wr_S24_i64_f) (wo := wo_S24_i64_f) (r := (S.nat_Sub a b)) c78_ok (by kernel_rfl) (by kernel_rfl) (by kernel_rfl) (loops_all (l := [(0, lb20_0)]) (by kernel_rfl) ⟨lok20_0, trivial⟩) (by kernel_rfl) (by kernel_rfl) (by kernel_rfl)
    rw_S24_i64_f np_S24_i64_f no_S24_i64_f (by kernel_rfl) (Eq.mpr (show Vm.Tr.vc (Vm.Fn c78 Try.f20 body20 loop20 ([.agg [.list 33 false a.limbs], .agg [.list 33 false b.limbs]])) = S.nat_Sub_pre a b by kernel_rfl) hp))

noncomputable def sem20 : List W → Option (W × List (List W) × List Prop)
  | [.agg [.list 33 false y1], .agg [.list 33 false y2]] => some (wr_S24_i64_f (S.nat_Sub (⟨y1⟩ : S.Num) (⟨y2⟩ : S.Num)), wo_S24_i64_f (S.nat_Sub (⟨y1⟩ : S.Num) (⟨y2⟩ : S.Num)), [S.nat_Sub_pre (⟨y1⟩ : S.Num) (⟨y2⟩ : S.Num)])
  | _ => none
noncomputable def c20 : Cfg El := c78.add 20 sem20
theorem c20_ok : CfgOk c20 := c78_ok.add (fun args w => Try.call20 args w) (fun vs r outs ps h hp => by
  unfold sem20 at h
  split at h
  · rename_i y1 y2; cases h; exact fn20 (⟨y1⟩ : S.Num) (⟨y2⟩ : S.Num) hp
  · cases h)

noncomputable def body33 : Code := (Try.f33.body).getD .skip
theorem fn33 (c : Int) (n : S.Num) : CallOk c20 33 [.int .i64 c, .agg [.list 33 false n.limbs]] (wr_b (S.nat_Cap_Fits c n)) (wo_b (S.nat_Cap_Fits c n)) :=
  (call_ok (c := c20) (f := 33) (fn := Try.f33) (code := body33) (args := ([.int .i64 c, .agg [.list 33 false n.limbs]])) (loop := noLoop) (md := ⟨false, false⟩) (rd := rd_b) (wr := wr_b) (wo := wo_b) (r := (S.nat_Cap_Fits c n)) c20_ok (by kernel_rfl) (by kernel_rfl) (by kernel_rfl) (no_loops (by kernel_rfl)) (by kernel_rfl) (by kernel_rfl) (by kernel_rfl)
    rw_b np_b no_b (by kernel_rfl) (Tr.vc_of_noReq (by kernel_rfl)))

noncomputable def sem33 : List W → Option (W × List (List W) × List Prop)
  | [.int .i64 y1, .agg [.list 33 false y2]] => some (wr_b (S.nat_Cap_Fits y1 (⟨y2⟩ : S.Num)), wo_b (S.nat_Cap_Fits y1 (⟨y2⟩ : S.Num)), [])
  | _ => none
noncomputable def c33 : Cfg El := c20.add 33 sem33
theorem c33_ok : CfgOk c33 := c20_ok.add (fun args w => Try.call33 args w) (fun vs r outs ps h hp => by
  unfold sem33 at h
  split at h
  · rename_i y1 y2; cases h; exact fn33 y1 (⟨y2⟩ : S.Num)
  · cases h)

noncomputable def rd_S24_b : W → List (List W) → Option (S.Num × Bool)
  | .tup [.agg [.list 33 false x1], .bool x2], [] => some ⟨⟨x1⟩, x2⟩
  | _, _ => none
noncomputable def wr_S24_b (x : S.Num × Bool) : W := .tup [.agg [.list 33 false x.1.limbs], .bool x.2]
noncomputable def wo_S24_b (_x : S.Num × Bool) : List (List W) := []
theorem rw_S24_b (v : W) (os : List (List W)) (x : S.Num × Bool) (h : rd_S24_b v os = some x) : v = wr_S24_b x ∧ os = wo_S24_b x := by
  unfold rd_S24_b at h
  split at h <;> first | (cases h; exact ⟨rfl, rfl⟩) | cases h
theorem np_S24_b (x : S.Num × Bool) : okv (fun _ => false) (wr_S24_b x) = true := rfl
theorem no_S24_b (x : S.Num × Bool) : all (fun cs => all (ok0 fun _ => false) cs) (wo_S24_b x) = true := rfl

noncomputable def body81 : Code := (Try.f81.body).getD .skip
theorem fn81 (c : Int) (n : S.Num) : CallOk c33 81 [.int .i64 c, .agg [.list 33 false n.limbs]] (wr_S24_b (S.nat_Cap_fit c n)) (wo_S24_b (S.nat_Cap_fit c n)) :=
  (call_ok (c := c33) (f := 81) (fn := Try.f81) (code := body81) (args := ([.int .i64 c, .agg [.list 33 false n.limbs]])) (loop := noLoop) (md := ⟨false, false⟩) (rd := rd_S24_b) (wr := wr_S24_b) (wo := wo_S24_b) (r := (S.nat_Cap_fit c n)) c33_ok (by kernel_rfl) (by kernel_rfl) (by kernel_rfl) (no_loops (by kernel_rfl)) (by kernel_rfl) (by kernel_rfl) (by kernel_rfl)
    rw_S24_b np_S24_b no_S24_b (by kernel_rfl) (Tr.vc_of_noReq (by kernel_rfl)))

noncomputable def sem81 : List W → Option (W × List (List W) × List Prop)
  | [.int .i64 y1, .agg [.list 33 false y2]] => some (wr_S24_b (S.nat_Cap_fit y1 (⟨y2⟩ : S.Num)), wo_S24_b (S.nat_Cap_fit y1 (⟨y2⟩ : S.Num)), [])
  | _ => none
noncomputable def c81 : Cfg El := c33.add 81 sem81
theorem c81_ok : CfgOk c81 := c33_ok.add (fun args w => Try.call81 args w) (fun vs r outs ps h hp => by
  unfold sem81 at h
  split at h
  · rename_i y1 y2; cases h; exact fn81 y1 (⟨y2⟩ : S.Num)
  · cases h)

noncomputable def body29 : Code := (Try.f29.body).getD .skip
theorem fn29 (c : Int) (a : S.Num) (b : S.Num) (hp : S.nat_Cap_Add_pre c a b) : CallOk c81 29 [.int .i64 c, .agg [.list 33 false a.limbs], .agg [.list 33 false b.limbs]] (wr_S24_b (S.nat_Cap_Add c a b)) (wo_S24_b (S.nat_Cap_Add c a b)) :=
  (call_ok (c := c81) (f := 29) (fn := Try.f29) (code := body29) (args := ([.int .i64 c, .agg [.list 33 false a.limbs], .agg [.list 33 false b.limbs]])) (loop := noLoop) (md := ⟨false, false⟩) (rd := rd_S24_b) (wr := wr_S24_b) (wo := wo_S24_b) (r := (S.nat_Cap_Add c a b)) c81_ok (by kernel_rfl) (by kernel_rfl) (by kernel_rfl) (no_loops (by kernel_rfl)) (by kernel_rfl) (by kernel_rfl) (by kernel_rfl)
    rw_S24_b np_S24_b no_S24_b (by kernel_rfl) (Eq.mpr (show Vm.Tr.vc (Vm.Fn c81 Try.f29 body29 noLoop ([.int .i64 c, .agg [.list 33 false a.limbs], .agg [.list 33 false b.limbs]])) = S.nat_Cap_Add_pre c a b by kernel_rfl) hp))

noncomputable def sem29 : List W → Option (W × List (List W) × List Prop)
  | [.int .i64 y1, .agg [.list 33 false y2], .agg [.list 33 false y3]] => some (wr_S24_b (S.nat_Cap_Add y1 (⟨y2⟩ : S.Num) (⟨y3⟩ : S.Num)), wo_S24_b (S.nat_Cap_Add y1 (⟨y2⟩ : S.Num) (⟨y3⟩ : S.Num)), [S.nat_Cap_Add_pre y1 (⟨y2⟩ : S.Num) (⟨y3⟩ : S.Num)])
  | _ => none
noncomputable def c29 : Cfg El := c81.add 29 sem29
theorem c29_ok : CfgOk c29 := c81_ok.add (fun args w => Try.call29 args w) (fun vs r outs ps h hp => by
  unfold sem29 at h
  split at h
  · rename_i y1 y2 y3; cases h; exact fn29 y1 (⟨y2⟩ : S.Num) (⟨y3⟩ : S.Num) hp
  · cases h)

noncomputable def body15 : Code := (Try.f15.body).getD .skip
theorem fn15 (hp : S.law01_works_pre) : CallOk c29 15 [] (wr_b (S.law01_works)) (wo_b (S.law01_works)) :=
  (call_ok (c := c29) (f := 15) (fn := Try.f15) (code := body15) (args := ([])) (loop := noLoop) (md := ⟨false, false⟩) (rd := rd_b) (wr := wr_b) (wo := wo_b) (r := S.law01_works) c29_ok (by kernel_rfl) (by kernel_rfl) (by kernel_rfl) (no_loops (by kernel_rfl)) (by kernel_rfl) (by kernel_rfl) (by kernel_rfl)
    rw_b np_b no_b (by kernel_rfl) (Eq.mpr (show Vm.Tr.vc (Vm.Fn c29 Try.f15 body15 noLoop ([])) = S.law01_works_pre by kernel_rfl) hp))

noncomputable def sem15 : List W → Option (W × List (List W) × List Prop)
  | [] => some (wr_b (S.law01_works), wo_b (S.law01_works), [S.law01_works_pre])
  | _ => none
noncomputable def c15 : Cfg El := c29.add 15 sem15
theorem c15_ok : CfgOk c15 := c29_ok.add (fun args w => Try.call15 args w) (fun vs r outs ps h hp => by
  unfold sem15 at h
  split at h
  · cases h; exact fn15 hp
  · cases h)

noncomputable def body3 : Code := (Try.f3.body).getD .skip
theorem fn3 (a : (List Int)) (b : (List Int)) (c : (List Int)) (hp : S.law01_NatLaws_pre a b c) : CallOk c15 3 [.list 33 false a, .list 33 false b, .list 33 false c] (wr_b (S.law01_NatLaws a b c)) (wo_b (S.law01_NatLaws a b c)) :=
  (call_ok (c := c15) (f := 3) (fn := Try.f3) (code := body3) (args := ([.list 33 false a, .list 33 false b, .list 33 false c])) (loop := noLoop) (md := ⟨false, false⟩) (rd := rd_b) (wr := wr_b) (wo := wo_b) (r := (S.law01_NatLaws a b c)) c15_ok (by kernel_rfl) (by kernel_rfl) (by kernel_rfl) (no_loops (by kernel_rfl)) (by kernel_rfl) (by kernel_rfl) (by kernel_rfl)
    rw_b np_b no_b (by kernel_rfl) (Eq.mpr (show Vm.Tr.vc (Vm.Fn c15 Try.f3 body3 noLoop ([.list 33 false a, .list 33 false b, .list 33 false c])) = S.law01_NatLaws_pre a b c by kernel_rfl) hp))

noncomputable def sem3 : List W → Option (W × List (List W) × List Prop)
  | [.list 33 false y1, .list 33 false y2, .list 33 false y3] => some (wr_b (S.law01_NatLaws y1 y2 y3), wo_b (S.law01_NatLaws y1 y2 y3), [S.law01_NatLaws_pre y1 y2 y3])
  | _ => none
noncomputable def c3 : Cfg El := c15.add 3 sem3
theorem c3_ok : CfgOk c3 := c15_ok.add (fun args w => Try.call3 args w) (fun vs r outs ps h hp => by
  unfold sem3 at h
  split at h
  · rename_i y1 y2 y3; cases h; exact fn3 y1 y2 y3 hp
  · cases h)

noncomputable def rd_L5_o_f : W → List (List W) → Option ((List Int))
  | .olist 5 true x2, [] => some x2
  | _, _ => none
noncomputable def wr_L5_o_f (x : (List Int)) : W := .olist 5 true x
noncomputable def wo_L5_o_f (_x : (List Int)) : List (List W) := []
theorem rw_L5_o_f (v : W) (os : List (List W)) (x : (List Int)) (h : rd_L5_o_f v os = some x) : v = wr_L5_o_f x ∧ os = wo_L5_o_f x := by
  unfold rd_L5_o_f at h
  split at h <;> first | (cases h; exact ⟨rfl, rfl⟩) | cases h
theorem np_L5_o_f (x : (List Int)) : okv (fun _ => false) (wr_L5_o_f x) = true := rfl
theorem no_L5_o_f (x : (List Int)) : all (fun cs => all (ok0 fun _ => false) cs) (wo_L5_o_f x) = true := rfl

noncomputable def body79 : Code := (Try.f79.body).getD .skip
noncomputable def lb79_0 : Code := ((nth (loopsOf 0 body79) 0).getD (0, .skip)).2
noncomputable def px79_0 : List W → Option S.ref01_trim_L0
  | [.own 28, .rowc 5 false none y1] => some ⟨y1⟩
  | _ => none
noncomputable def tx79_0 (x : S.ref01_trim_L0) : List W := [.own 28, .rowc 5 false none x.out]
noncomputable def py79_0 : Ex → List W → Option (S.ref01_trim_L0)
  | .exit 0, [.own 28, .rowc 5 false none y1] => some ⟨y1⟩
  | _, _ => none
noncomputable def ld79_0 : LD El where
  X := S.ref01_trim_L0
  Y := S.ref01_trim_L0
  keys := [.slot 3, .row 28]
  fits := [36, 0]
  px := px79_0
  tx := tx79_0
  okeys := [.slot 3, .row 28]
  ofits := [36, 0]
  py := py79_0
  ty := fun y => tx79_0 y
  oex := fun _ => .exit 0
  junk := [.slot 7, .slot 8, .slot 9, .slot 10, .slot 11, .slot 12, .slot 13, .slot 14, .slot 15, .slot 16, .slot 17, .slot 18, .slot 19, .slot 20, .slot 21, .slot 22, .slot 23, .row 6, .slot 6]
  rows := [(3, 5)]
noncomputable def lo79_0 : S.ref01_trim_L0 → Tr El := fun y => .leaf (.exit 0) (zipK ld79_0.okeys (tx79_0 y) ++ junkK ld79_0.junk)
noncomputable def loop79 : Nat → Env El → Tr El
  | 0 => ld79_0.tree (c3.hint [23] []) Try.f79.ntmps 0 lb79_0 S.ref01_trim_L0_run lo79_0 S.ref01_trim_L0_step S.ref01_trim_L0_vcs
  | _ => fun _ => .fail
theorem lok79_0 : ∀ w0 S0, LoopOk (c3.hint [23] []) Try.f79.ntmps w0 S0 loop79 0 lb79_0 :=
  loop_ok (c := (c3.hint [23] [])) (n := Try.f79.ntmps) (CfgOk.hint c3_ok [23] []) mixed ld79_0 (body := lb79_0) (key := 0) (loop := loop79) (F := S.ref01_trim_L0_run) (out := lo79_0) (step := S.ref01_trim_L0_step) (vcs := S.ref01_trim_L0_vcs)
    (fun _ => by kernel_rfl) (no_loops (by kernel_rfl)) rfl rfl
    (fun vs x h => by unfold ld79_0 px79_0 at h; dsimp only at h; split at h <;> first | (cases h; rfl) | cases h)
    (fun e vs y h => by unfold ld79_0 py79_0 at h; dsimp only at h; split at h <;> first | (cases h; exact ⟨rfl, rfl⟩) | cases h)
    (by kernel_rfl) (fun _ => rfl) (fun _ _ h => h) (fun x => by kernel_rfl) (fun x h => Eq.mpr (show Vm.Tr.vc (Vm.ev (c3.hint [23] []) Try.f79.ntmps loop79 0 lb79_0 (ld79_0.vars x) []) = S.ref01_trim_L0_vcs x by kernel_rfl) h)
theorem fn79 (l : (List Int)) (hp : S.ref01_trim_pre l) : CallOk c3 79 [.list 5 false l] (wr_L5_o_f (S.ref01_trim l)) (wo_L5_o_f (S.ref01_trim l)) :=
  CallOk.same (c := (c3.hint [23] [])) (c' := c3) rfl rfl rfl rfl (call_ok (c := (c3.hint [23] [])) (f := 79) (fn := Try.f79) (code := body79) (args := ([.list 5 false l])) (loop := loop79) (md := ⟨true, true⟩) (rd := rd_L5_o_f) (wr := wr_L5_o_f) (wo := wo_L5_o_f) (r := (S.ref01_trim l)) (CfgOk.hint c3_ok [23] []) (by kernel_rfl) (by kernel_rfl) (by kernel_rfl) (loops_all (l := [(0, lb79_0)]) (by kernel_rfl) ⟨lok79_0, trivial⟩) (by kernel_rfl) (by kernel_rfl) (by kernel_rfl)
    rw_L5_o_f np_L5_o_f no_L5_o_f (by kernel_rfl) (Eq.mpr (show Vm.Tr.vc (Vm.Fn (c3.hint [23] []) Try.f79 body79 loop79 ([.list 5 false l])) = S.ref01_trim_pre l by kernel_rfl) hp))

noncomputable def sem79 : List W → Option (W × List (List W) × List Prop)
  | [.list 5 false y1] => some (wr_L5_o_f (S.ref01_trim y1), wo_L5_o_f (S.ref01_trim y1), [S.ref01_trim_pre y1])
  | _ => none
noncomputable def c79 : Cfg El := c3.add 79 sem79
theorem c79_ok : CfgOk c79 := c3_ok.add (fun args w => Try.call79 args w) (fun vs r outs ps h hp => by
  unfold sem79 at h
  split at h
  · rename_i y1; cases h; exact fn79 y1 hp
  · cases h)

noncomputable def body23 : Code := (Try.f23.body).getD .skip
noncomputable def lb23_0 : Code := ((nth (loopsOf 0 body23) 0).getD (0, .skip)).2
noncomputable def px23_0 : List W → Option S.ref01_Of_L0
  | [.list 33 false y1, .own 34, .int .i64 y2, .rowc 5 false none y3] => some ⟨y1, y2, y3⟩
  | _ => none
noncomputable def tx23_0 (x : S.ref01_Of_L0) : List W := [.list 33 false x.l, .own 34, .int .i64 x.i, .rowc 5 false none x.out]
noncomputable def py23_0 : Ex → List W → Option (S.ref01_Of_L0)
  | .exit 0, [.list 33 false y1, .own 34, .int .i64 y2, .rowc 5 false none y3] => some ⟨y1, y2, y3⟩
  | _, _ => none
noncomputable def ld23_0 : LD El where
  X := S.ref01_Of_L0
  Y := S.ref01_Of_L0
  keys := [.slot 0, .slot 3, .slot 4, .row 34]
  fits := [22, 36, 3, 0]
  px := px23_0
  tx := tx23_0
  okeys := [.slot 0, .slot 3, .slot 4, .row 34]
  ofits := [22, 36, 3, 0]
  py := py23_0
  ty := fun y => tx23_0 y
  oex := fun _ => .exit 0
  junk := [.slot 5, .slot 6, .slot 7, .slot 8, .slot 9, .slot 10, .slot 11, .slot 12, .slot 13, .slot 14, .slot 15, .slot 16, .slot 17, .slot 18, .slot 19, .slot 20, .slot 21, .slot 22, .slot 23, .slot 24, .slot 25, .slot 26, .slot 27, .slot 28, .row 96]
  rows := [(3, 5)]
noncomputable def lo23_0 : S.ref01_Of_L0 → Tr El := fun y => .leaf (.exit 0) (zipK ld23_0.okeys (tx23_0 y) ++ junkK ld23_0.junk)
noncomputable def lb23_2 : Code := ((nth (loopsOf 0 lb23_0) 0).getD (0, .skip)).2
noncomputable def px23_2 : List W → Option S.ref01_Of_L2
  | [.own 96, .int .u64 y1, .int .i64 y2, .rowc 5 false none y3] => some ⟨y1, y2, y3⟩
  | _ => none
noncomputable def tx23_2 (x : S.ref01_Of_L2) : List W := [.own 96, .int .u64 x.n, .int .i64 x.k, .rowc 5 false none x.out]
noncomputable def py23_2 : Ex → List W → Option (S.ref01_Of_L2)
  | .exit 2, [.own 96, .int .u64 y1, .int .i64 y2, .rowc 5 false none y3] => some ⟨y1, y2, y3⟩
  | _, _ => none
noncomputable def ld23_2 : LD El where
  X := S.ref01_Of_L2
  Y := S.ref01_Of_L2
  keys := [.slot 3, .slot 5, .slot 6, .row 96]
  fits := [36, 33, 3, 0]
  px := px23_2
  tx := tx23_2
  okeys := [.slot 3, .slot 5, .slot 6, .row 96]
  ofits := [36, 33, 3, 0]
  py := py23_2
  ty := fun y => tx23_2 y
  oex := fun _ => .exit 2
  junk := [.slot 17, .slot 18, .slot 19, .slot 20, .slot 21, .slot 22, .slot 23, .slot 24, .slot 25, .slot 26, .slot 27, .slot 28, .row 34]
  rows := [(3, 5)]
noncomputable def lo23_2 : S.ref01_Of_L2 → Tr El := fun y => .leaf (.exit 2) (zipK ld23_2.okeys (tx23_2 y) ++ junkK ld23_2.junk)
noncomputable def loop23 : Nat → Env El → Tr El
  | 0 => ld23_0.tree (c79.hint [30] []) Try.f23.ntmps 0 lb23_0 S.ref01_Of_L0_run lo23_0 S.ref01_Of_L0_step S.ref01_Of_L0_vcs
  | 2 => ld23_2.tree (c79.hint [30] []) Try.f23.ntmps 2 lb23_2 S.ref01_Of_L2_run lo23_2 S.ref01_Of_L2_step S.ref01_Of_L2_vcs
  | _ => fun _ => .fail
theorem lok23_2 : ∀ w0 S0, LoopOk (c79.hint [30] []) Try.f23.ntmps w0 S0 loop23 2 lb23_2 :=
  loop_ok (c := (c79.hint [30] [])) (n := Try.f23.ntmps) (CfgOk.hint c79_ok [30] []) mixed ld23_2 (body := lb23_2) (key := 2) (loop := loop23) (F := S.ref01_Of_L2_run) (out := lo23_2) (step := S.ref01_Of_L2_step) (vcs := S.ref01_Of_L2_vcs)
    (fun _ => by kernel_rfl) (no_loops (by kernel_rfl)) rfl rfl
    (fun vs x h => by unfold ld23_2 px23_2 at h; dsimp only at h; split at h <;> first | (cases h; rfl) | cases h)
    (fun e vs y h => by unfold ld23_2 py23_2 at h; dsimp only at h; split at h <;> first | (cases h; exact ⟨rfl, rfl⟩) | cases h)
    (by kernel_rfl) (fun _ => rfl) (fun _ _ h => h) (fun x => by kernel_rfl) (fun x h => Eq.mpr (show Vm.Tr.vc (Vm.ev (c79.hint [30] []) Try.f23.ntmps loop23 2 lb23_2 (ld23_2.vars x) []) = S.ref01_Of_L2_vcs x by kernel_rfl) h)
theorem lok23_0 : ∀ w0 S0, LoopOk (c79.hint [30] []) Try.f23.ntmps w0 S0 loop23 0 lb23_0 :=
  loop_ok (c := (c79.hint [30] [])) (n := Try.f23.ntmps) (CfgOk.hint c79_ok [30] []) mixed ld23_0 (body := lb23_0) (key := 0) (loop := loop23) (F := S.ref01_Of_L0_run) (out := lo23_0) (step := S.ref01_Of_L0_step) (vcs := S.ref01_Of_L0_vcs)
    (fun _ => by kernel_rfl) (loops_all (l := [(2, lb23_2)]) (by kernel_rfl) ⟨lok23_2, trivial⟩) rfl rfl
    (fun vs x h => by unfold ld23_0 px23_0 at h; dsimp only at h; split at h <;> first | (cases h; rfl) | cases h)
    (fun e vs y h => by unfold ld23_0 py23_0 at h; dsimp only at h; split at h <;> first | (cases h; exact ⟨rfl, rfl⟩) | cases h)
    (by kernel_rfl) (fun _ => rfl) (fun _ _ h => h) (fun x => by kernel_rfl) (fun x h => Eq.mpr (show Vm.Tr.vc (Vm.ev (c79.hint [30] []) Try.f23.ntmps loop23 0 lb23_0 (ld23_0.vars x) []) = S.ref01_Of_L0_vcs x by kernel_rfl) h)
theorem fn23 (l : (List Int)) (hp : S.ref01_Of_pre l) : CallOk c79 23 [.list 33 false l] (wr_L5_o_f (S.ref01_Of l)) (wo_L5_o_f (S.ref01_Of l)) :=
  CallOk.same (c := (c79.hint [30] [])) (c' := c79) rfl rfl rfl rfl (call_ok (c := (c79.hint [30] [])) (f := 23) (fn := Try.f23) (code := body23) (args := ([.list 33 false l])) (loop := loop23) (md := ⟨true, true⟩) (rd := rd_L5_o_f) (wr := wr_L5_o_f) (wo := wo_L5_o_f) (r := (S.ref01_Of l)) (CfgOk.hint c79_ok [30] []) (by kernel_rfl) (by kernel_rfl) (by kernel_rfl) (loops_all (l := [(0, lb23_0)]) (by kernel_rfl) ⟨lok23_0, trivial⟩) (by kernel_rfl) (by kernel_rfl) (by kernel_rfl)
    rw_L5_o_f np_L5_o_f no_L5_o_f (by kernel_rfl) (Eq.mpr (show Vm.Tr.vc (Vm.Fn (c79.hint [30] []) Try.f23 body23 loop23 ([.list 33 false l])) = S.ref01_Of_pre l by kernel_rfl) hp))

noncomputable def sem23 : List W → Option (W × List (List W) × List Prop)
  | [.list 33 false y1] => some (wr_L5_o_f (S.ref01_Of y1), wo_L5_o_f (S.ref01_Of y1), [S.ref01_Of_pre y1])
  | _ => none
noncomputable def c23 : Cfg El := c79.add 23 sem23
theorem c23_ok : CfgOk c23 := c79_ok.add (fun args w => Try.call23 args w) (fun vs r outs ps h hp => by
  unfold sem23 at h
  split at h
  · rename_i y1; cases h; exact fn23 y1 hp
  · cases h)

noncomputable def body80 : Code := (Try.f80.body).getD .skip
theorem fn80 (n : (List Int)) (i : Int) (hp : S.ref01_at_pre n i) : CallOk c23 80 [.list 5 false n, .int .i64 i] (wr_i64 (S.ref01_at n i)) (wo_i64 (S.ref01_at n i)) :=
  (call_ok (c := c23) (f := 80) (fn := Try.f80) (code := body80) (args := ([.list 5 false n, .int .i64 i])) (loop := noLoop) (md := ⟨false, false⟩) (rd := rd_i64) (wr := wr_i64) (wo := wo_i64) (r := (S.ref01_at n i)) c23_ok (by kernel_rfl) (by kernel_rfl) (by kernel_rfl) (no_loops (by kernel_rfl)) (by kernel_rfl) (by kernel_rfl) (by kernel_rfl)
    rw_i64 np_i64 no_i64 (by kernel_rfl) (Eq.mpr (show Vm.Tr.vc (Vm.Fn c23 Try.f80 body80 noLoop ([.list 5 false n, .int .i64 i])) = S.ref01_at_pre n i by kernel_rfl) hp))

noncomputable def sem80 : List W → Option (W × List (List W) × List Prop)
  | [.list 5 false y1, .int .i64 y2] => some (wr_i64 (S.ref01_at y1 y2), wo_i64 (S.ref01_at y1 y2), [S.ref01_at_pre y1 y2])
  | _ => none
noncomputable def c80 : Cfg El := c23.add 80 sem80
theorem c80_ok : CfgOk c80 := c23_ok.add (fun args w => Try.call80 args w) (fun vs r outs ps h hp => by
  unfold sem80 at h
  split at h
  · rename_i y1 y2; cases h; exact fn80 y1 y2 hp
  · cases h)

noncomputable def body24 : Code := (Try.f24.body).getD .skip
noncomputable def lb24_0 : Code := ((nth (loopsOf 0 body24) 0).getD (0, .skip)).2
noncomputable def px24_0 : List W → Option S.ref01_Add_L0
  | [.list 5 false y1, .list 5 false y2, .own 49, .int .i64 y3, .int .i64 y4, .rowc 5 false none y5] => some ⟨y1, y2, y3, y4, y5⟩
  | _ => none
noncomputable def tx24_0 (x : S.ref01_Add_L0) : List W := [.list 5 false x.a, .list 5 false x.b, .own 49, .int .i64 x.carry, .int .i64 x.i, .rowc 5 false none x.out]
noncomputable def py24_0 : Ex → List W → Option (S.ref01_Add_L0)
  | .exit 0, [.list 5 false y1, .list 5 false y2, .own 49, .int .i64 y3, .int .i64 y4, .rowc 5 false none y5] => some ⟨y1, y2, y3, y4, y5⟩
  | _, _ => none
noncomputable def ld24_0 : LD El where
  X := S.ref01_Add_L0
  Y := S.ref01_Add_L0
  keys := [.slot 0, .slot 1, .slot 5, .slot 6, .slot 7, .row 49]
  fits := [36, 36, 36, 3, 3, 0]
  px := px24_0
  tx := tx24_0
  okeys := [.slot 0, .slot 1, .slot 5, .slot 6, .slot 7, .row 49]
  ofits := [36, 36, 36, 3, 3, 0]
  py := py24_0
  ty := fun y => tx24_0 y
  oex := fun _ => .exit 0
  junk := [.slot 8, .slot 9, .slot 10, .slot 11, .slot 12, .slot 13, .slot 14, .slot 15, .slot 16, .slot 17, .slot 18, .slot 19, .slot 20, .slot 21, .slot 22, .slot 23, .slot 24, .slot 25, .slot 26, .slot 27, .slot 28, .slot 29, .slot 30, .slot 31, .slot 32, .slot 33, .slot 34, .slot 35, .slot 36, .slot 37, .slot 38, .slot 39, .slot 40, .slot 41]
  rows := [(5, 5)]
noncomputable def lo24_0 : S.ref01_Add_L0 → Tr El := fun y => .leaf (.exit 0) (zipK ld24_0.okeys (tx24_0 y) ++ junkK ld24_0.junk)
noncomputable def loop24 : Nat → Env El → Tr El
  | 0 => ld24_0.tree (c80.hint [43] []) Try.f24.ntmps 0 lb24_0 S.ref01_Add_L0_run lo24_0 S.ref01_Add_L0_step S.ref01_Add_L0_vcs
  | _ => fun _ => .fail
theorem lok24_0 : ∀ w0 S0, LoopOk (c80.hint [43] []) Try.f24.ntmps w0 S0 loop24 0 lb24_0 :=
  loop_ok (c := (c80.hint [43] [])) (n := Try.f24.ntmps) (CfgOk.hint c80_ok [43] []) mixed ld24_0 (body := lb24_0) (key := 0) (loop := loop24) (F := S.ref01_Add_L0_run) (out := lo24_0) (step := S.ref01_Add_L0_step) (vcs := S.ref01_Add_L0_vcs)
    (fun _ => by kernel_rfl) (no_loops (by kernel_rfl)) rfl rfl
    (fun vs x h => by unfold ld24_0 px24_0 at h; dsimp only at h; split at h <;> first | (cases h; rfl) | cases h)
    (fun e vs y h => by unfold ld24_0 py24_0 at h; dsimp only at h; split at h <;> first | (cases h; exact ⟨rfl, rfl⟩) | cases h)
    (by kernel_rfl) (fun _ => rfl) (fun _ _ h => h) (fun x => by kernel_rfl) (fun x h => Eq.mpr (show Vm.Tr.vc (Vm.ev (c80.hint [43] []) Try.f24.ntmps loop24 0 lb24_0 (ld24_0.vars x) []) = S.ref01_Add_L0_vcs x by kernel_rfl) h)
theorem fn24 (a : (List Int)) (b : (List Int)) (hp : S.ref01_Add_pre a b) : CallOk c80 24 [.list 5 false a, .list 5 false b] (wr_L5_o_f (S.ref01_Add a b)) (wo_L5_o_f (S.ref01_Add a b)) :=
  CallOk.same (c := (c80.hint [43] [])) (c' := c80) rfl rfl rfl rfl (call_ok (c := (c80.hint [43] [])) (f := 24) (fn := Try.f24) (code := body24) (args := ([.list 5 false a, .list 5 false b])) (loop := loop24) (md := ⟨true, true⟩) (rd := rd_L5_o_f) (wr := wr_L5_o_f) (wo := wo_L5_o_f) (r := (S.ref01_Add a b)) (CfgOk.hint c80_ok [43] []) (by kernel_rfl) (by kernel_rfl) (by kernel_rfl) (loops_all (l := [(0, lb24_0)]) (by kernel_rfl) ⟨lok24_0, trivial⟩) (by kernel_rfl) (by kernel_rfl) (by kernel_rfl)
    rw_L5_o_f np_L5_o_f no_L5_o_f (by kernel_rfl) (Eq.mpr (show Vm.Tr.vc (Vm.Fn (c80.hint [43] []) Try.f24 body24 loop24 ([.list 5 false a, .list 5 false b])) = S.ref01_Add_pre a b by kernel_rfl) hp))

noncomputable def sem24 : List W → Option (W × List (List W) × List Prop)
  | [.list 5 false y1, .list 5 false y2] => some (wr_L5_o_f (S.ref01_Add y1 y2), wo_L5_o_f (S.ref01_Add y1 y2), [S.ref01_Add_pre y1 y2])
  | _ => none
noncomputable def c24 : Cfg El := c80.add 24 sem24
theorem c24_ok : CfgOk c24 := c80_ok.add (fun args w => Try.call24 args w) (fun vs r outs ps h hp => by
  unfold sem24 at h
  split at h
  · rename_i y1 y2; cases h; exact fn24 y1 y2 hp
  · cases h)

noncomputable def body25 : Code := (Try.f25.body).getD .skip
noncomputable def lb25_0 : Code := ((nth (loopsOf 0 body25) 0).getD (0, .skip)).2
noncomputable def px25_0 : List W → Option S.ref01_Mul_L0
  | [.list 5 false y1, .list 5 false y2, .own 110, .int .i64 y3, .rowc 3 false none y4] => some ⟨y1, y2, y3, y4⟩
  | _ => none
noncomputable def tx25_0 (x : S.ref01_Mul_L0) : List W := [.list 5 false x.a, .list 5 false x.b, .own 110, .int .i64 x.i, .rowc 3 false none x.sums]
noncomputable def py25_0 : Ex → List W → Option (S.ref01_Mul_L0)
  | .exit 0, [.list 5 false y1, .list 5 false y2, .own 110, .int .i64 y3, .rowc 3 false none y4] => some ⟨y1, y2, y3, y4⟩
  | _, _ => none
noncomputable def ld25_0 : LD El where
  X := S.ref01_Mul_L0
  Y := S.ref01_Mul_L0
  keys := [.slot 0, .slot 1, .slot 5, .slot 6, .row 110]
  fits := [36, 36, 65, 3, 0]
  px := px25_0
  tx := tx25_0
  okeys := [.slot 0, .slot 1, .slot 5, .slot 6, .row 110]
  ofits := [36, 36, 65, 3, 0]
  py := py25_0
  ty := fun y => tx25_0 y
  oex := fun _ => .exit 0
  junk := [.slot 7, .slot 8, .slot 20, .slot 21, .slot 22, .slot 23, .slot 24, .slot 25, .slot 26, .slot 27, .slot 28, .slot 29, .slot 30, .slot 31, .slot 32, .slot 33, .slot 34, .slot 35, .slot 36, .slot 37, .slot 38, .slot 39, .slot 40, .slot 41, .slot 42, .slot 43, .slot 44, .slot 45, .slot 46, .slot 47, .slot 48, .slot 49, .slot 50, .slot 51, .slot 52, .slot 53, .slot 54, .slot 55, .slot 56, .slot 57, .slot 58, .slot 59, .slot 60, .slot 61, .slot 62, .slot 63, .slot 64, .slot 65, .slot 66, .slot 67, .slot 68, .slot 69, .slot 70, .slot 71, .slot 72, .row 19, .slot 19, .row 320]
  rows := [(5, 3)]
noncomputable def lo25_0 : S.ref01_Mul_L0 → Tr El := fun y => .leaf (.exit 0) (zipK ld25_0.okeys (tx25_0 y) ++ junkK ld25_0.junk)
noncomputable def lb25_2 : Code := ((nth (loopsOf 0 lb25_0) 0).getD (0, .skip)).2
noncomputable def px25_2 : List W → Option S.ref01_Mul_L2
  | [.list 5 false y1, .list 5 false y2, .own 320, .int .i64 y3, .int .i64 y4, .rowc 3 false none y5] => some ⟨y1, y2, y3, y4, y5⟩
  | _ => none
noncomputable def tx25_2 (x : S.ref01_Mul_L2) : List W := [.list 5 false x.a, .list 5 false x.b, .own 320, .int .i64 x.i, .int .i64 x.k, .rowc 3 false none x.sums]
noncomputable def py25_2 : Ex → List W → Option (S.ref01_Mul_L2)
  | .exit 2, [.list 5 false y1, .list 5 false y2, .own 320, .int .i64 y3, .int .i64 y4, .rowc 3 false none y5] => some ⟨y1, y2, y3, y4, y5⟩
  | _, _ => none
noncomputable def ld25_2 : LD El where
  X := S.ref01_Mul_L2
  Y := S.ref01_Mul_L2
  keys := [.slot 0, .slot 1, .slot 5, .slot 6, .slot 7, .row 320]
  fits := [36, 36, 65, 3, 3, 0]
  px := px25_2
  tx := tx25_2
  okeys := [.slot 0, .slot 1, .slot 5, .slot 6, .slot 7, .row 320]
  ofits := [36, 36, 65, 3, 3, 0]
  py := py25_2
  ty := fun y => tx25_2 y
  oex := fun _ => .exit 2
  junk := [.slot 8, .slot 26, .slot 27, .slot 28, .slot 29, .slot 30, .slot 31, .slot 32, .slot 33, .slot 34, .slot 35, .slot 36, .slot 37, .slot 38, .slot 39, .slot 40, .slot 41, .slot 42, .slot 43, .slot 44, .slot 45, .slot 46, .slot 47, .slot 48, .slot 49, .slot 50, .slot 51, .slot 52, .slot 53, .slot 54, .slot 55, .slot 56, .slot 57, .slot 58, .slot 59, .slot 60, .slot 61, .slot 62, .slot 63, .slot 64, .slot 65, .slot 66, .slot 67, .slot 68, .slot 69, .slot 70, .slot 71, .slot 72, .row 110]
  rows := [(5, 3)]
noncomputable def lo25_2 : S.ref01_Mul_L2 → Tr El := fun y => .leaf (.exit 2) (zipK ld25_2.okeys (tx25_2 y) ++ junkK ld25_2.junk)
noncomputable def lb25_4 : Code := ((nth (loopsOf 0 body25) 1).getD (0, .skip)).2
noncomputable def px25_4 : List W → Option S.ref01_Mul_L4
  | [.own 530, .own 534, .int .i64 y1, .int .i64 y2, .rowc 3 false none y3, .rowc 5 false none y4] => some ⟨y1, y2, y3, y4⟩
  | _ => none
noncomputable def tx25_4 (x : S.ref01_Mul_L4) : List W := [.own 530, .own 534, .int .i64 x.carry, .int .i64 x.i, .rowc 3 false none x.sums, .rowc 5 false none x.out]
noncomputable def py25_4 : Ex → List W → Option (S.ref01_Mul_L4)
  | .exit 4, [.own 530, .own 534, .int .i64 y1, .int .i64 y2, .rowc 3 false none y3, .rowc 5 false none y4] => some ⟨y1, y2, y3, y4⟩
  | _, _ => none
noncomputable def ld25_4 : LD El where
  X := S.ref01_Mul_L4
  Y := S.ref01_Mul_L4
  keys := [.slot 5, .slot 9, .slot 10, .slot 11, .row 530, .row 534]
  fits := [65, 36, 3, 3, 0, 0]
  px := px25_4
  tx := tx25_4
  okeys := [.slot 5, .slot 9, .slot 10, .slot 11, .row 530, .row 534]
  ofits := [65, 36, 3, 3, 0, 0]
  py := py25_4
  ty := fun y => tx25_4 y
  oex := fun _ => .exit 4
  junk := [.slot 12, .slot 73, .slot 74, .slot 75, .slot 76, .slot 77, .slot 78, .slot 79, .slot 80, .slot 81, .slot 82, .slot 83, .slot 84, .slot 85, .slot 86, .slot 87, .slot 88, .slot 89, .slot 90, .slot 91, .slot 92, .row 110]
  rows := [(5, 3), (9, 5)]
noncomputable def lo25_4 : S.ref01_Mul_L4 → Tr El := fun y => .leaf (.exit 4) (zipK ld25_4.okeys (tx25_4 y) ++ junkK ld25_4.junk)
noncomputable def lb25_6 : Code := ((nth (loopsOf 0 body25) 2).getD (0, .skip)).2
noncomputable def px25_6 : List W → Option S.ref01_Mul_L6
  | [.own 744, .int .i64 y1, .rowc 5 false none y2] => some ⟨y1, y2⟩
  | _ => none
noncomputable def tx25_6 (x : S.ref01_Mul_L6) : List W := [.own 744, .int .i64 x.carry, .rowc 5 false none x.out]
noncomputable def py25_6 : Ex → List W → Option (S.ref01_Mul_L6)
  | .exit 6, [.own 744, .int .i64 y1, .rowc 5 false none y2] => some ⟨y1, y2⟩
  | _, _ => none
noncomputable def ld25_6 : LD El where
  X := S.ref01_Mul_L6
  Y := S.ref01_Mul_L6
  keys := [.slot 9, .slot 10, .row 744]
  fits := [36, 3, 0]
  px := px25_6
  tx := tx25_6
  okeys := [.slot 9, .slot 10, .row 744]
  ofits := [36, 3, 0]
  py := py25_6
  ty := fun y => tx25_6 y
  oex := fun _ => .exit 6
  junk := [.slot 93, .slot 94, .slot 95, .slot 96, .slot 97, .slot 98, .slot 99, .slot 100, .slot 101, .slot 102, .row 534]
  rows := [(9, 5)]
noncomputable def lo25_6 : S.ref01_Mul_L6 → Tr El := fun y => .leaf (.exit 6) (zipK ld25_6.okeys (tx25_6 y) ++ junkK ld25_6.junk)
noncomputable def loop25 : Nat → Env El → Tr El
  | 0 => ld25_0.tree (c24.hint [104] []) Try.f25.ntmps 0 lb25_0 S.ref01_Mul_L0_run lo25_0 S.ref01_Mul_L0_step S.ref01_Mul_L0_vcs
  | 2 => ld25_2.tree (c24.hint [104] []) Try.f25.ntmps 2 lb25_2 S.ref01_Mul_L2_run lo25_2 S.ref01_Mul_L2_step S.ref01_Mul_L2_vcs
  | 4 => ld25_4.tree (c24.hint [104] []) Try.f25.ntmps 4 lb25_4 S.ref01_Mul_L4_run lo25_4 S.ref01_Mul_L4_step S.ref01_Mul_L4_vcs
  | 6 => ld25_6.tree (c24.hint [104] []) Try.f25.ntmps 6 lb25_6 S.ref01_Mul_L6_run lo25_6 S.ref01_Mul_L6_step S.ref01_Mul_L6_vcs
  | _ => fun _ => .fail
theorem lok25_6 : ∀ w0 S0, LoopOk (c24.hint [104] []) Try.f25.ntmps w0 S0 loop25 6 lb25_6 :=
  loop_ok (c := (c24.hint [104] [])) (n := Try.f25.ntmps) (CfgOk.hint c24_ok [104] []) mixed ld25_6 (body := lb25_6) (key := 6) (loop := loop25) (F := S.ref01_Mul_L6_run) (out := lo25_6) (step := S.ref01_Mul_L6_step) (vcs := S.ref01_Mul_L6_vcs)
    (fun _ => by kernel_rfl) (no_loops (by kernel_rfl)) rfl rfl
    (fun vs x h => by unfold ld25_6 px25_6 at h; dsimp only at h; split at h <;> first | (cases h; rfl) | cases h)
    (fun e vs y h => by unfold ld25_6 py25_6 at h; dsimp only at h; split at h <;> first | (cases h; exact ⟨rfl, rfl⟩) | cases h)
    (by kernel_rfl) (fun _ => rfl) (fun _ _ h => h) (fun x => by kernel_rfl) (fun x h => Eq.mpr (show Vm.Tr.vc (Vm.ev (c24.hint [104] []) Try.f25.ntmps loop25 6 lb25_6 (ld25_6.vars x) []) = S.ref01_Mul_L6_vcs x by kernel_rfl) h)
theorem lok25_4 : ∀ w0 S0, LoopOk (c24.hint [104] []) Try.f25.ntmps w0 S0 loop25 4 lb25_4 :=
  loop_ok (c := (c24.hint [104] [])) (n := Try.f25.ntmps) (CfgOk.hint c24_ok [104] []) mixed ld25_4 (body := lb25_4) (key := 4) (loop := loop25) (F := S.ref01_Mul_L4_run) (out := lo25_4) (step := S.ref01_Mul_L4_step) (vcs := S.ref01_Mul_L4_vcs)
    (fun _ => by kernel_rfl) (no_loops (by kernel_rfl)) rfl rfl
    (fun vs x h => by unfold ld25_4 px25_4 at h; dsimp only at h; split at h <;> first | (cases h; rfl) | cases h)
    (fun e vs y h => by unfold ld25_4 py25_4 at h; dsimp only at h; split at h <;> first | (cases h; exact ⟨rfl, rfl⟩) | cases h)
    (by kernel_rfl) (fun _ => rfl) (fun _ _ h => h) (fun x => by kernel_rfl) (fun x h => Eq.mpr (show Vm.Tr.vc (Vm.ev (c24.hint [104] []) Try.f25.ntmps loop25 4 lb25_4 (ld25_4.vars x) []) = S.ref01_Mul_L4_vcs x by kernel_rfl) h)
theorem lok25_2 : ∀ w0 S0, LoopOk (c24.hint [104] []) Try.f25.ntmps w0 S0 loop25 2 lb25_2 :=
  loop_ok (c := (c24.hint [104] [])) (n := Try.f25.ntmps) (CfgOk.hint c24_ok [104] []) mixed ld25_2 (body := lb25_2) (key := 2) (loop := loop25) (F := S.ref01_Mul_L2_run) (out := lo25_2) (step := S.ref01_Mul_L2_step) (vcs := S.ref01_Mul_L2_vcs)
    (fun _ => by kernel_rfl) (no_loops (by kernel_rfl)) rfl rfl
    (fun vs x h => by unfold ld25_2 px25_2 at h; dsimp only at h; split at h <;> first | (cases h; rfl) | cases h)
    (fun e vs y h => by unfold ld25_2 py25_2 at h; dsimp only at h; split at h <;> first | (cases h; exact ⟨rfl, rfl⟩) | cases h)
    (by kernel_rfl) (fun _ => rfl) (fun _ _ h => h) (fun x => by kernel_rfl) (fun x h => Eq.mpr (show Vm.Tr.vc (Vm.ev (c24.hint [104] []) Try.f25.ntmps loop25 2 lb25_2 (ld25_2.vars x) []) = S.ref01_Mul_L2_vcs x by kernel_rfl) h)
theorem lok25_0 : ∀ w0 S0, LoopOk (c24.hint [104] []) Try.f25.ntmps w0 S0 loop25 0 lb25_0 :=
  loop_ok (c := (c24.hint [104] [])) (n := Try.f25.ntmps) (CfgOk.hint c24_ok [104] []) mixed ld25_0 (body := lb25_0) (key := 0) (loop := loop25) (F := S.ref01_Mul_L0_run) (out := lo25_0) (step := S.ref01_Mul_L0_step) (vcs := S.ref01_Mul_L0_vcs)
    (fun _ => by kernel_rfl) (loops_all (l := [(2, lb25_2)]) (by kernel_rfl) ⟨lok25_2, trivial⟩) rfl rfl
    (fun vs x h => by unfold ld25_0 px25_0 at h; dsimp only at h; split at h <;> first | (cases h; rfl) | cases h)
    (fun e vs y h => by unfold ld25_0 py25_0 at h; dsimp only at h; split at h <;> first | (cases h; exact ⟨rfl, rfl⟩) | cases h)
    (by kernel_rfl) (fun _ => rfl) (fun _ _ h => h) (fun x => by kernel_rfl) (fun x h => Eq.mpr (show Vm.Tr.vc (Vm.ev (c24.hint [104] []) Try.f25.ntmps loop25 0 lb25_0 (ld25_0.vars x) []) = S.ref01_Mul_L0_vcs x by kernel_rfl) h)
theorem fn25 (a : (List Int)) (b : (List Int)) (hp : S.ref01_Mul_pre a b) : CallOk c24 25 [.list 5 false a, .list 5 false b] (wr_L5_o_f (S.ref01_Mul a b)) (wo_L5_o_f (S.ref01_Mul a b)) :=
  CallOk.same (c := (c24.hint [104] [])) (c' := c24) rfl rfl rfl rfl (call_ok (c := (c24.hint [104] [])) (f := 25) (fn := Try.f25) (code := body25) (args := ([.list 5 false a, .list 5 false b])) (loop := loop25) (md := ⟨true, true⟩) (rd := rd_L5_o_f) (wr := wr_L5_o_f) (wo := wo_L5_o_f) (r := (S.ref01_Mul a b)) (CfgOk.hint c24_ok [104] []) (by kernel_rfl) (by kernel_rfl) (by kernel_rfl) (loops_all (l := [(0, lb25_0), (4, lb25_4), (6, lb25_6)]) (by kernel_rfl) ⟨lok25_0, ⟨lok25_4, ⟨lok25_6, trivial⟩⟩⟩) (by kernel_rfl) (by kernel_rfl) (by kernel_rfl)
    rw_L5_o_f np_L5_o_f no_L5_o_f (by kernel_rfl) (Eq.mpr (show Vm.Tr.vc (Vm.Fn (c24.hint [104] []) Try.f25 body25 loop25 ([.list 5 false a, .list 5 false b])) = S.ref01_Mul_pre a b by kernel_rfl) hp))

noncomputable def sem25 : List W → Option (W × List (List W) × List Prop)
  | [.list 5 false y1, .list 5 false y2] => some (wr_L5_o_f (S.ref01_Mul y1 y2), wo_L5_o_f (S.ref01_Mul y1 y2), [S.ref01_Mul_pre y1 y2])
  | _ => none
noncomputable def c25 : Cfg El := c24.add 25 sem25
theorem c25_ok : CfgOk c25 := c24_ok.add (fun args w => Try.call25 args w) (fun vs r outs ps h hp => by
  unfold sem25 at h
  split at h
  · rename_i y1 y2; cases h; exact fn25 y1 y2 hp
  · cases h)

noncomputable def body26 : Code := (Try.f26.body).getD .skip
noncomputable def lb26_0 : Code := ((nth (loopsOf 0 body26) 0).getD (0, .skip)).2
noncomputable def px26_0 : List W → Option S.ref01_Cmp_L0
  | [.list 5 false y1, .list 5 false y2, .int .i64 y3, .int .i64 y4] => some ⟨y1, y2, y3, y4⟩
  | _ => none
noncomputable def tx26_0 (x : S.ref01_Cmp_L0) : List W := [.list 5 false x.a, .list 5 false x.b, .int .i64 x.t4, .int .i64 x.i]
noncomputable def py26_0 : Ex → List W → Option (Bool × S.ref01_Cmp_L0)
  | .ret, [.list 5 false y1, .list 5 false y2, .int .i64 y3, .int .i64 y4] => some ⟨true, ⟨y1, y2, y3, y4⟩⟩
  | .exit 0, [.list 5 false y1, .list 5 false y2, .int .i64 y3, .int .i64 y4] => some ⟨false, ⟨y1, y2, y3, y4⟩⟩
  | _, _ => none
noncomputable def ld26_0 : LD El where
  X := S.ref01_Cmp_L0
  Y := Bool × S.ref01_Cmp_L0
  keys := [.slot 0, .slot 1, .slot 4, .slot 5]
  fits := [36, 36, 3, 3]
  px := px26_0
  tx := tx26_0
  okeys := [.slot 0, .slot 1, .slot 4, .slot 5]
  ofits := [36, 36, 3, 3]
  py := py26_0
  ty := fun y => bif y.1 then tx26_0 y.2 else tx26_0 y.2
  oex := fun y => bif y.1 then .ret else .exit 0
  junk := [.slot 19, .slot 20, .slot 21, .slot 22, .slot 23, .slot 24, .slot 25, .slot 26, .slot 27, .slot 28, .slot 29, .slot 30, .slot 31, .slot 32, .slot 33, .slot 34, .slot 35, .slot 36, .slot 37, .slot 38, .slot 39, .slot 40]
  rows := []
noncomputable def lo26_0 : (Bool × S.ref01_Cmp_L0) → Tr El := fun y => .node y.1 (.leaf (.ret) (zipK ld26_0.okeys (tx26_0 y.2) ++ junkK ld26_0.junk)) (.leaf (.exit 0) (zipK ld26_0.okeys (tx26_0 y.2) ++ junkK ld26_0.junk))
noncomputable def loop26 : Nat → Env El → Tr El
  | 0 => ld26_0.tree c25 Try.f26.ntmps 0 lb26_0 S.ref01_Cmp_L0_run lo26_0 S.ref01_Cmp_L0_step S.ref01_Cmp_L0_vcs
  | _ => fun _ => .fail
theorem lok26_0 : ∀ w0 S0, LoopOk c25 Try.f26.ntmps w0 S0 loop26 0 lb26_0 :=
  loop_ok (c := c25) (n := Try.f26.ntmps) c25_ok mixed ld26_0 (body := lb26_0) (key := 0) (loop := loop26) (F := S.ref01_Cmp_L0_run) (out := lo26_0) (step := S.ref01_Cmp_L0_step) (vcs := S.ref01_Cmp_L0_vcs)
    (fun _ => by kernel_rfl) (no_loops (by kernel_rfl)) rfl rfl
    (fun vs x h => by unfold ld26_0 px26_0 at h; dsimp only at h; split at h <;> first | (cases h; rfl) | cases h)
    (fun e vs y h => by unfold ld26_0 py26_0 at h; dsimp only at h; split at h <;> first | (cases h; exact ⟨rfl, rfl⟩) | cases h)
    (by kernel_rfl) (fun | (true, _) => rfl | (false, _) => rfl) (fun | (true, _), _, h => h.1 rfl | (false, _), _, h => h.2 rfl) (fun x => by kernel_rfl) (fun x h => Eq.mpr (show Vm.Tr.vc (Vm.ev c25 Try.f26.ntmps loop26 0 lb26_0 (ld26_0.vars x) []) = S.ref01_Cmp_L0_vcs x by kernel_rfl) h)
theorem fn26 (a : (List Int)) (b : (List Int)) (hp : S.ref01_Cmp_pre a b) : CallOk c25 26 [.list 5 false a, .list 5 false b] (wr_i64 (S.ref01_Cmp a b)) (wo_i64 (S.ref01_Cmp a b)) :=
  (call_ok (c := c25) (f := 26) (fn := Try.f26) (code := body26) (args := ([.list 5 false a, .list 5 false b])) (loop := loop26) (md := ⟨false, false⟩) (rd := rd_i64) (wr := wr_i64) (wo := wo_i64) (r := (S.ref01_Cmp a b)) c25_ok (by kernel_rfl) (by kernel_rfl) (by kernel_rfl) (loops_all (l := [(0, lb26_0)]) (by kernel_rfl) ⟨lok26_0, trivial⟩) (by kernel_rfl) (by kernel_rfl) (by kernel_rfl)
    rw_i64 np_i64 no_i64 (by kernel_rfl) (Eq.mpr (show Vm.Tr.vc (Vm.Fn c25 Try.f26 body26 loop26 ([.list 5 false a, .list 5 false b])) = S.ref01_Cmp_pre a b by kernel_rfl) hp))

noncomputable def sem26 : List W → Option (W × List (List W) × List Prop)
  | [.list 5 false y1, .list 5 false y2] => some (wr_i64 (S.ref01_Cmp y1 y2), wo_i64 (S.ref01_Cmp y1 y2), [S.ref01_Cmp_pre y1 y2])
  | _ => none
noncomputable def c26 : Cfg El := c25.add 26 sem26
theorem c26_ok : CfgOk c26 := c25_ok.add (fun args w => Try.call26 args w) (fun vs r outs ps h hp => by
  unfold sem26 at h
  split at h
  · rename_i y1 y2; cases h; exact fn26 y1 y2 hp
  · cases h)

noncomputable def body28 : Code := (Try.f28.body).getD .skip
noncomputable def lb28_0 : Code := ((nth (loopsOf 0 body28) 0).getD (0, .skip)).2
noncomputable def px28_0 : List W → Option S.ref01_Sub_L0
  | [.list 5 false y1, .list 5 false y2, .own 40, .int .i64 y3, .int .i64 y4, .rowc 5 false none y5] => some ⟨y1, y2, y3, y4, y5⟩
  | _ => none
noncomputable def tx28_0 (x : S.ref01_Sub_L0) : List W := [.list 5 false x.a, .list 5 false x.b, .own 40, .int .i64 x.borrow, .int .i64 x.i, .rowc 5 false none x.out]
noncomputable def py28_0 : Ex → List W → Option (S.ref01_Sub_L0)
  | .exit 0, [.list 5 false y1, .list 5 false y2, .own 40, .int .i64 y3, .int .i64 y4, .rowc 5 false none y5] => some ⟨y1, y2, y3, y4, y5⟩
  | _, _ => none
noncomputable def ld28_0 : LD El where
  X := S.ref01_Sub_L0
  Y := S.ref01_Sub_L0
  keys := [.slot 0, .slot 1, .slot 5, .slot 6, .slot 7, .row 40]
  fits := [36, 36, 36, 3, 3, 0]
  px := px28_0
  tx := tx28_0
  okeys := [.slot 0, .slot 1, .slot 5, .slot 6, .slot 7, .row 40]
  ofits := [36, 36, 36, 3, 3, 0]
  py := py28_0
  ty := fun y => tx28_0 y
  oex := fun _ => .exit 0
  junk := [.slot 8, .slot 9, .slot 10, .slot 11, .slot 12, .slot 13, .slot 14, .slot 15, .slot 16, .slot 17, .slot 18, .slot 19, .slot 20, .slot 21, .slot 22, .slot 23, .slot 24, .slot 25, .slot 26, .slot 27, .slot 28, .slot 29, .slot 30, .slot 31, .slot 32]
  rows := [(5, 5)]
noncomputable def lo28_0 : S.ref01_Sub_L0 → Tr El := fun y => .leaf (.exit 0) (zipK ld28_0.okeys (tx28_0 y) ++ junkK ld28_0.junk)
noncomputable def loop28 : Nat → Env El → Tr El
  | 0 => ld28_0.tree (c26.hint [34] []) Try.f28.ntmps 0 lb28_0 S.ref01_Sub_L0_run lo28_0 S.ref01_Sub_L0_step S.ref01_Sub_L0_vcs
  | _ => fun _ => .fail
theorem lok28_0 : ∀ w0 S0, LoopOk (c26.hint [34] []) Try.f28.ntmps w0 S0 loop28 0 lb28_0 :=
  loop_ok (c := (c26.hint [34] [])) (n := Try.f28.ntmps) (CfgOk.hint c26_ok [34] []) mixed ld28_0 (body := lb28_0) (key := 0) (loop := loop28) (F := S.ref01_Sub_L0_run) (out := lo28_0) (step := S.ref01_Sub_L0_step) (vcs := S.ref01_Sub_L0_vcs)
    (fun _ => by kernel_rfl) (no_loops (by kernel_rfl)) rfl rfl
    (fun vs x h => by unfold ld28_0 px28_0 at h; dsimp only at h; split at h <;> first | (cases h; rfl) | cases h)
    (fun e vs y h => by unfold ld28_0 py28_0 at h; dsimp only at h; split at h <;> first | (cases h; exact ⟨rfl, rfl⟩) | cases h)
    (by kernel_rfl) (fun _ => rfl) (fun _ _ h => h) (fun x => by kernel_rfl) (fun x h => Eq.mpr (show Vm.Tr.vc (Vm.ev (c26.hint [34] []) Try.f28.ntmps loop28 0 lb28_0 (ld28_0.vars x) []) = S.ref01_Sub_L0_vcs x by kernel_rfl) h)
theorem fn28 (a : (List Int)) (b : (List Int)) (hp : S.ref01_Sub_pre a b) : CallOk c26 28 [.list 5 false a, .list 5 false b] (wr_L5_o_f (S.ref01_Sub a b)) (wo_L5_o_f (S.ref01_Sub a b)) :=
  CallOk.same (c := (c26.hint [34] [])) (c' := c26) rfl rfl rfl rfl (call_ok (c := (c26.hint [34] [])) (f := 28) (fn := Try.f28) (code := body28) (args := ([.list 5 false a, .list 5 false b])) (loop := loop28) (md := ⟨true, true⟩) (rd := rd_L5_o_f) (wr := wr_L5_o_f) (wo := wo_L5_o_f) (r := (S.ref01_Sub a b)) (CfgOk.hint c26_ok [34] []) (by kernel_rfl) (by kernel_rfl) (by kernel_rfl) (loops_all (l := [(0, lb28_0)]) (by kernel_rfl) ⟨lok28_0, trivial⟩) (by kernel_rfl) (by kernel_rfl) (by kernel_rfl)
    rw_L5_o_f np_L5_o_f no_L5_o_f (by kernel_rfl) (Eq.mpr (show Vm.Tr.vc (Vm.Fn (c26.hint [34] []) Try.f28 body28 loop28 ([.list 5 false a, .list 5 false b])) = S.ref01_Sub_pre a b by kernel_rfl) hp))

noncomputable def sem28 : List W → Option (W × List (List W) × List Prop)
  | [.list 5 false y1, .list 5 false y2] => some (wr_L5_o_f (S.ref01_Sub y1 y2), wo_L5_o_f (S.ref01_Sub y1 y2), [S.ref01_Sub_pre y1 y2])
  | _ => none
noncomputable def c28 : Cfg El := c26.add 28 sem28
theorem c28_ok : CfgOk c28 := c26_ok.add (fun args w => Try.call28 args w) (fun vs r outs ps h hp => by
  unfold sem28 at h
  split at h
  · rename_i y1 y2; cases h; exact fn28 y1 y2 hp
  · cases h)

noncomputable def body55 : Code := (Try.f55.body).getD .skip
theorem fn55 (a : (List Int)) (b : (List Int)) (hp : S.ref01_Same_pre a b) : CallOk c28 55 [.list 5 false a, .list 5 false b] (wr_b (S.ref01_Same a b)) (wo_b (S.ref01_Same a b)) :=
  (call_ok (c := c28) (f := 55) (fn := Try.f55) (code := body55) (args := ([.list 5 false a, .list 5 false b])) (loop := noLoop) (md := ⟨false, false⟩) (rd := rd_b) (wr := wr_b) (wo := wo_b) (r := (S.ref01_Same a b)) c28_ok (by kernel_rfl) (by kernel_rfl) (by kernel_rfl) (no_loops (by kernel_rfl)) (by kernel_rfl) (by kernel_rfl) (by kernel_rfl)
    rw_b np_b no_b (by kernel_rfl) (Eq.mpr (show Vm.Tr.vc (Vm.Fn c28 Try.f55 body55 noLoop ([.list 5 false a, .list 5 false b])) = S.ref01_Same_pre a b by kernel_rfl) hp))

noncomputable def sem55 : List W → Option (W × List (List W) × List Prop)
  | [.list 5 false y1, .list 5 false y2] => some (wr_b (S.ref01_Same y1 y2), wo_b (S.ref01_Same y1 y2), [S.ref01_Same_pre y1 y2])
  | _ => none
noncomputable def c55 : Cfg El := c28.add 55 sem55
theorem c55_ok : CfgOk c55 := c28_ok.add (fun args w => Try.call55 args w) (fun vs r outs ps h hp => by
  unfold sem55 at h
  split at h
  · rename_i y1 y2; cases h; exact fn55 y1 y2 hp
  · cases h)

noncomputable def body27 : Code := (Try.f27.body).getD .skip
noncomputable def lb27_0 : Code := ((nth (loopsOf 0 body27) 0).getD (0, .skip)).2
noncomputable def px27_0 : List W → Option S.law01_is_L0
  | [.list 5 false y1, .ptr 2 0, .bool y2, .int .i64 y3, .list 33 false y4] => some ⟨y1, y2, y3, ⟨y4⟩⟩
  | _ => none
noncomputable def tx27_0 (x : S.law01_is_L0) : List W := [.list 5 false x.want, .ptr 2 0, .bool x.t4, .int .i64 x.t, .list 33 false x.n.limbs]
noncomputable def py27_0 : Ex → List W → Option (Bool × S.law01_is_L0)
  | .ret, [.list 5 false y1, .ptr 2 0, .bool y2, .int .i64 y3, .list 33 false y4] => some ⟨true, ⟨y1, y2, y3, ⟨y4⟩⟩⟩
  | .exit 0, [.list 5 false y1, .ptr 2 0, .bool y2, .int .i64 y3, .list 33 false y4] => some ⟨false, ⟨y1, y2, y3, ⟨y4⟩⟩⟩
  | _, _ => none
noncomputable def ld27_0 : LD El where
  X := S.law01_is_L0
  Y := Bool × S.law01_is_L0
  keys := [.slot 1, .slot 2, .slot 4, .slot 5, .cell 2 0]
  fits := [36, 0, 4, 3, 22]
  px := px27_0
  tx := tx27_0
  okeys := [.slot 1, .slot 2, .slot 4, .slot 5, .cell 2 0]
  ofits := [36, 0, 4, 3, 22]
  py := py27_0
  ty := fun y => bif y.1 then tx27_0 y.2 else tx27_0 y.2
  oex := fun y => bif y.1 then .ret else .exit 0
  junk := [.slot 6, .slot 7, .slot 8, .slot 9, .slot 10, .slot 11, .slot 12, .slot 13, .slot 14, .slot 15, .slot 16, .slot 17, .slot 18, .slot 19, .slot 20, .slot 21, .slot 22, .slot 23, .slot 24, .slot 25, .slot 26, .slot 27, .slot 28, .slot 29, .slot 30, .slot 31, .slot 32, .slot 33, .slot 34, .slot 35, .slot 36, .slot 37, .slot 38, .slot 39, .slot 40, .slot 41, .slot 42, .slot 43, .slot 44, .slot 45, .slot 46, .slot 47, .slot 48, .row 153]
  rows := []
noncomputable def lo27_0 : (Bool × S.law01_is_L0) → Tr El := fun y => .node y.1 (.leaf (.ret) (zipK ld27_0.okeys (tx27_0 y.2) ++ junkK ld27_0.junk)) (.leaf (.exit 0) (zipK ld27_0.okeys (tx27_0 y.2) ++ junkK ld27_0.junk))
noncomputable def lb27_2 : Code := ((nth (loopsOf 0 lb27_0) 0).getD (0, .skip)).2
noncomputable def px27_2 : List W → Option S.law01_is_L2
  | [.own 153, .int .i64 y1, .rowc 33 false none y2] => some ⟨y1, y2⟩
  | _ => none
noncomputable def tx27_2 (x : S.law01_is_L2) : List W := [.own 153, .int .i64 x.i, .rowc 33 false none x.l]
noncomputable def py27_2 : Ex → List W → Option (S.law01_is_L2)
  | .exit 2, [.own 153, .int .i64 y1, .rowc 33 false none y2] => some ⟨y1, y2⟩
  | _, _ => none
noncomputable def ld27_2 : LD El where
  X := S.law01_is_L2
  Y := S.law01_is_L2
  keys := [.slot 6, .slot 7, .row 153]
  fits := [22, 3, 0]
  px := px27_2
  tx := tx27_2
  okeys := [.slot 6, .slot 7, .row 153]
  ofits := [22, 3, 0]
  py := py27_2
  ty := fun y => tx27_2 y
  oex := fun _ => .exit 2
  junk := [.slot 40, .slot 41, .slot 42, .slot 43, .slot 44, .slot 45, .slot 46, .slot 47, .slot 48, .row 13, .slot 14, .slot 13]
  rows := [(6, 33)]
noncomputable def lo27_2 : S.law01_is_L2 → Tr El := fun y => .leaf (.exit 2) (zipK ld27_2.okeys (tx27_2 y) ++ junkK ld27_2.junk)
noncomputable def loop27 : Nat → Env El → Tr El
  | 0 => ld27_0.tree (c55.hint [13] []) Try.f27.ntmps 0 lb27_0 S.law01_is_L0_run lo27_0 S.law01_is_L0_step S.law01_is_L0_vcs
  | 2 => ld27_2.tree (c55.hint [13] []) Try.f27.ntmps 2 lb27_2 S.law01_is_L2_run lo27_2 S.law01_is_L2_step S.law01_is_L2_vcs
  | _ => fun _ => .fail
theorem lok27_2 : ∀ w0 S0, LoopOk (c55.hint [13] []) Try.f27.ntmps w0 S0 loop27 2 lb27_2 :=
  loop_ok (c := (c55.hint [13] [])) (n := Try.f27.ntmps) (CfgOk.hint c55_ok [13] []) mixed ld27_2 (body := lb27_2) (key := 2) (loop := loop27) (F := S.law01_is_L2_run) (out := lo27_2) (step := S.law01_is_L2_step) (vcs := S.law01_is_L2_vcs)
    (fun _ => by kernel_rfl) (no_loops (by kernel_rfl)) rfl rfl
    (fun vs x h => by unfold ld27_2 px27_2 at h; dsimp only at h; split at h <;> first | (cases h; rfl) | cases h)
    (fun e vs y h => by unfold ld27_2 py27_2 at h; dsimp only at h; split at h <;> first | (cases h; exact ⟨rfl, rfl⟩) | cases h)
    (by kernel_rfl) (fun _ => rfl) (fun _ _ h => h) (fun x => by kernel_rfl) (fun x h => Eq.mpr (show Vm.Tr.vc (Vm.ev (c55.hint [13] []) Try.f27.ntmps loop27 2 lb27_2 (ld27_2.vars x) []) = S.law01_is_L2_vcs x by kernel_rfl) h)
theorem lok27_0 : ∀ w0 S0, LoopOk (c55.hint [13] []) Try.f27.ntmps w0 S0 loop27 0 lb27_0 :=
  loop_ok (c := (c55.hint [13] [])) (n := Try.f27.ntmps) (CfgOk.hint c55_ok [13] []) mixed ld27_0 (body := lb27_0) (key := 0) (loop := loop27) (F := S.law01_is_L0_run) (out := lo27_0) (step := S.law01_is_L0_step) (vcs := S.law01_is_L0_vcs)
    (fun _ => by kernel_rfl) (loops_all (l := [(2, lb27_2)]) (by kernel_rfl) ⟨lok27_2, trivial⟩) rfl rfl
    (fun vs x h => by unfold ld27_0 px27_0 at h; dsimp only at h; split at h <;> first | (cases h; rfl) | cases h)
    (fun e vs y h => by unfold ld27_0 py27_0 at h; dsimp only at h; split at h <;> first | (cases h; exact ⟨rfl, rfl⟩) | cases h)
    (by kernel_rfl) (fun | (true, _) => rfl | (false, _) => rfl) (fun | (true, _), _, h => h.1 rfl | (false, _), _, h => h.2 rfl) (fun x => by kernel_rfl) (fun x h => Eq.mpr (show Vm.Tr.vc (Vm.ev (c55.hint [13] []) Try.f27.ntmps loop27 0 lb27_0 (ld27_0.vars x) []) = S.law01_is_L0_vcs x by kernel_rfl) h)
theorem fn27 (n : S.Num) (want : (List Int)) (hp : S.law01_is_pre n want) : CallOk c55 27 [.agg [.list 33 false n.limbs], .list 5 false want] (wr_b (S.law01_is n want)) (wo_b (S.law01_is n want)) :=
  CallOk.same (c := (c55.hint [13] [])) (c' := c55) rfl rfl rfl rfl (call_ok (c := (c55.hint [13] [])) (f := 27) (fn := Try.f27) (code := body27) (args := ([.agg [.list 33 false n.limbs], .list 5 false want])) (loop := loop27) (md := ⟨false, false⟩) (rd := rd_b) (wr := wr_b) (wo := wo_b) (r := (S.law01_is n want)) (CfgOk.hint c55_ok [13] []) (by kernel_rfl) (by kernel_rfl) (by kernel_rfl) (loops_all (l := [(0, lb27_0)]) (by kernel_rfl) ⟨lok27_0, trivial⟩) (by kernel_rfl) (by kernel_rfl) (by kernel_rfl)
    rw_b np_b no_b (by kernel_rfl) (Eq.mpr (show Vm.Tr.vc (Vm.Fn (c55.hint [13] []) Try.f27 body27 loop27 ([.agg [.list 33 false n.limbs], .list 5 false want])) = S.law01_is_pre n want by kernel_rfl) hp))

noncomputable def sem27 : List W → Option (W × List (List W) × List Prop)
  | [.agg [.list 33 false y1], .list 5 false y2] => some (wr_b (S.law01_is (⟨y1⟩ : S.Num) y2), wo_b (S.law01_is (⟨y1⟩ : S.Num) y2), [S.law01_is_pre (⟨y1⟩ : S.Num) y2])
  | _ => none
noncomputable def c27 : Cfg El := c55.add 27 sem27
theorem c27_ok : CfgOk c27 := c55_ok.add (fun args w => Try.call27 args w) (fun vs r outs ps h hp => by
  unfold sem27 at h
  split at h
  · rename_i y1 y2; cases h; exact fn27 (⟨y1⟩ : S.Num) y2 hp
  · cases h)

noncomputable def body30 : Code := (Try.f30.body).getD .skip
theorem fn30 (c : Int) (a : S.Num) (b : S.Num) (hp : S.nat_Cap_Mul_pre c a b) : CallOk c27 30 [.int .i64 c, .agg [.list 33 false a.limbs], .agg [.list 33 false b.limbs]] (wr_S24_b (S.nat_Cap_Mul c a b)) (wo_S24_b (S.nat_Cap_Mul c a b)) :=
  (call_ok (c := c27) (f := 30) (fn := Try.f30) (code := body30) (args := ([.int .i64 c, .agg [.list 33 false a.limbs], .agg [.list 33 false b.limbs]])) (loop := noLoop) (md := ⟨false, false⟩) (rd := rd_S24_b) (wr := wr_S24_b) (wo := wo_S24_b) (r := (S.nat_Cap_Mul c a b)) c27_ok (by kernel_rfl) (by kernel_rfl) (by kernel_rfl) (no_loops (by kernel_rfl)) (by kernel_rfl) (by kernel_rfl) (by kernel_rfl)
    rw_S24_b np_S24_b no_S24_b (by kernel_rfl) (Eq.mpr (show Vm.Tr.vc (Vm.Fn c27 Try.f30 body30 noLoop ([.int .i64 c, .agg [.list 33 false a.limbs], .agg [.list 33 false b.limbs]])) = S.nat_Cap_Mul_pre c a b by kernel_rfl) hp))

noncomputable def sem30 : List W → Option (W × List (List W) × List Prop)
  | [.int .i64 y1, .agg [.list 33 false y2], .agg [.list 33 false y3]] => some (wr_S24_b (S.nat_Cap_Mul y1 (⟨y2⟩ : S.Num) (⟨y3⟩ : S.Num)), wo_S24_b (S.nat_Cap_Mul y1 (⟨y2⟩ : S.Num) (⟨y3⟩ : S.Num)), [S.nat_Cap_Mul_pre y1 (⟨y2⟩ : S.Num) (⟨y3⟩ : S.Num)])
  | _ => none
noncomputable def c30 : Cfg El := c27.add 30 sem30
theorem c30_ok : CfgOk c30 := c27_ok.add (fun args w => Try.call30 args w) (fun vs r outs ps h hp => by
  unfold sem30 at h
  split at h
  · rename_i y1 y2 y3; cases h; exact fn30 y1 (⟨y2⟩ : S.Num) (⟨y3⟩ : S.Num) hp
  · cases h)

noncomputable def body45 : Code := (Try.f45.body).getD .skip
noncomputable def lb45_0 : Code := ((nth (loopsOf 0 body45) 0).getD (0, .skip)).2
noncomputable def px45_0 : List W → Option S.ref01_Limbs_L0
  | [.list 5 false y1, .own 40, .int .i64 y2, .rowc 33 false none y3] => some ⟨y1, y2, y3⟩
  | _ => none
noncomputable def tx45_0 (x : S.ref01_Limbs_L0) : List W := [.list 5 false x.n, .own 40, .int .i64 x.i, .rowc 33 false none x.out]
noncomputable def py45_0 : Ex → List W → Option (S.ref01_Limbs_L0)
  | .exit 0, [.list 5 false y1, .own 40, .int .i64 y2, .rowc 33 false none y3] => some ⟨y1, y2, y3⟩
  | _, _ => none
noncomputable def ld45_0 : LD El where
  X := S.ref01_Limbs_L0
  Y := S.ref01_Limbs_L0
  keys := [.slot 0, .slot 3, .slot 4, .row 40]
  fits := [36, 22, 3, 0]
  px := px45_0
  tx := tx45_0
  okeys := [.slot 0, .slot 3, .slot 4, .row 40]
  ofits := [36, 22, 3, 0]
  py := py45_0
  ty := fun y => tx45_0 y
  oex := fun _ => .exit 0
  junk := [.slot 5, .slot 6, .slot 7, .slot 8, .slot 9, .slot 10, .slot 11, .slot 12, .slot 13, .slot 14, .slot 15, .slot 16, .slot 17, .slot 18, .slot 19, .slot 20, .slot 21, .slot 22, .slot 23, .slot 24, .slot 25, .slot 26, .slot 27, .slot 28, .slot 29, .slot 30, .slot 31, .slot 32, .slot 33, .slot 34, .slot 35]
  rows := [(3, 33)]
noncomputable def lo45_0 : S.ref01_Limbs_L0 → Tr El := fun y => .leaf (.exit 0) (zipK ld45_0.okeys (tx45_0 y) ++ junkK ld45_0.junk)
noncomputable def lb45_2 : Code := ((nth (loopsOf 0 lb45_0) 0).getD (0, .skip)).2
noncomputable def px45_2 : List W → Option S.ref01_Limbs_L2
  | [.list 5 false y1, .int .i64 y2, .int .u64 y3, .int .i64 y4] => some ⟨y1, y2, y3, y4⟩
  | _ => none
noncomputable def tx45_2 (x : S.ref01_Limbs_L2) : List W := [.list 5 false x.n, .int .i64 x.i, .int .u64 x.vx, .int .i64 x.k]
noncomputable def py45_2 : Ex → List W → Option (S.ref01_Limbs_L2)
  | .exit 2, [.list 5 false y1, .int .i64 y2, .int .u64 y3, .int .i64 y4] => some ⟨y1, y2, y3, y4⟩
  | _, _ => none
noncomputable def ld45_2 : LD El where
  X := S.ref01_Limbs_L2
  Y := S.ref01_Limbs_L2
  keys := [.slot 0, .slot 4, .slot 5, .slot 6]
  fits := [36, 3, 33, 3]
  px := px45_2
  tx := tx45_2
  okeys := [.slot 0, .slot 4, .slot 5, .slot 6]
  ofits := [36, 3, 33, 3]
  py := py45_2
  ty := fun y => tx45_2 y
  oex := fun _ => .exit 2
  junk := [.slot 19, .slot 20, .slot 21, .slot 22, .slot 23, .slot 24, .slot 25, .slot 26, .slot 27, .slot 28, .slot 29, .slot 30, .slot 31]
  rows := []
noncomputable def lo45_2 : S.ref01_Limbs_L2 → Tr El := fun y => .leaf (.exit 2) (zipK ld45_2.okeys (tx45_2 y) ++ junkK ld45_2.junk)
noncomputable def loop45 : Nat → Env El → Tr El
  | 0 => ld45_0.tree c30 Try.f45.ntmps 0 lb45_0 S.ref01_Limbs_L0_run lo45_0 S.ref01_Limbs_L0_step S.ref01_Limbs_L0_vcs
  | 2 => ld45_2.tree c30 Try.f45.ntmps 2 lb45_2 S.ref01_Limbs_L2_run lo45_2 S.ref01_Limbs_L2_step S.ref01_Limbs_L2_vcs
  | _ => fun _ => .fail
theorem lok45_2 : ∀ w0 S0, LoopOk c30 Try.f45.ntmps w0 S0 loop45 2 lb45_2 :=
  loop_ok (c := c30) (n := Try.f45.ntmps) c30_ok mixed ld45_2 (body := lb45_2) (key := 2) (loop := loop45) (F := S.ref01_Limbs_L2_run) (out := lo45_2) (step := S.ref01_Limbs_L2_step) (vcs := S.ref01_Limbs_L2_vcs)
    (fun _ => by kernel_rfl) (no_loops (by kernel_rfl)) rfl rfl
    (fun vs x h => by unfold ld45_2 px45_2 at h; dsimp only at h; split at h <;> first | (cases h; rfl) | cases h)
    (fun e vs y h => by unfold ld45_2 py45_2 at h; dsimp only at h; split at h <;> first | (cases h; exact ⟨rfl, rfl⟩) | cases h)
    (by kernel_rfl) (fun _ => rfl) (fun _ _ h => h) (fun x => by kernel_rfl) (fun x h => Eq.mpr (show Vm.Tr.vc (Vm.ev c30 Try.f45.ntmps loop45 2 lb45_2 (ld45_2.vars x) []) = S.ref01_Limbs_L2_vcs x by kernel_rfl) h)
theorem lok45_0 : ∀ w0 S0, LoopOk c30 Try.f45.ntmps w0 S0 loop45 0 lb45_0 :=
  loop_ok (c := c30) (n := Try.f45.ntmps) c30_ok mixed ld45_0 (body := lb45_0) (key := 0) (loop := loop45) (F := S.ref01_Limbs_L0_run) (out := lo45_0) (step := S.ref01_Limbs_L0_step) (vcs := S.ref01_Limbs_L0_vcs)
    (fun _ => by kernel_rfl) (loops_all (l := [(2, lb45_2)]) (by kernel_rfl) ⟨lok45_2, trivial⟩) rfl rfl
    (fun vs x h => by unfold ld45_0 px45_0 at h; dsimp only at h; split at h <;> first | (cases h; rfl) | cases h)
    (fun e vs y h => by unfold ld45_0 py45_0 at h; dsimp only at h; split at h <;> first | (cases h; exact ⟨rfl, rfl⟩) | cases h)
    (by kernel_rfl) (fun _ => rfl) (fun _ _ h => h) (fun x => by kernel_rfl) (fun x h => Eq.mpr (show Vm.Tr.vc (Vm.ev c30 Try.f45.ntmps loop45 0 lb45_0 (ld45_0.vars x) []) = S.ref01_Limbs_L0_vcs x by kernel_rfl) h)
theorem fn45 (n : (List Int)) (hp : S.ref01_Limbs_pre n) : CallOk c30 45 [.list 5 false n] (wr_L33_o_f (S.ref01_Limbs n)) (wo_L33_o_f (S.ref01_Limbs n)) :=
  (call_ok (c := c30) (f := 45) (fn := Try.f45) (code := body45) (args := ([.list 5 false n])) (loop := loop45) (md := ⟨true, true⟩) (rd := rd_L33_o_f) (wr := wr_L33_o_f) (wo := wo_L33_o_f) (r := (S.ref01_Limbs n)) c30_ok (by kernel_rfl) (by kernel_rfl) (by kernel_rfl) (loops_all (l := [(0, lb45_0)]) (by kernel_rfl) ⟨lok45_0, trivial⟩) (by kernel_rfl) (by kernel_rfl) (by kernel_rfl)
    rw_L33_o_f np_L33_o_f no_L33_o_f (by kernel_rfl) (Eq.mpr (show Vm.Tr.vc (Vm.Fn c30 Try.f45 body45 loop45 ([.list 5 false n])) = S.ref01_Limbs_pre n by kernel_rfl) hp))

noncomputable def sem45 : List W → Option (W × List (List W) × List Prop)
  | [.list 5 false y1] => some (wr_L33_o_f (S.ref01_Limbs y1), wo_L33_o_f (S.ref01_Limbs y1), [S.ref01_Limbs_pre y1])
  | _ => none
noncomputable def c45 : Cfg El := c30.add 45 sem45
theorem c45_ok : CfgOk c45 := c30_ok.add (fun args w => Try.call45 args w) (fun vs r outs ps h hp => by
  unfold sem45 at h
  split at h
  · rename_i y1; cases h; exact fn45 y1 hp
  · cases h)

noncomputable def body31 : Code := (Try.f31.body).getD .skip
theorem fn31 (n : (List Int)) (limbs : Int) (hp : S.ref01_Fits_pre n limbs) : CallOk c45 31 [.list 5 false n, .int .i64 limbs] (wr_b (S.ref01_Fits n limbs)) (wo_b (S.ref01_Fits n limbs)) :=
  (call_ok (c := c45) (f := 31) (fn := Try.f31) (code := body31) (args := ([.list 5 false n, .int .i64 limbs])) (loop := noLoop) (md := ⟨false, false⟩) (rd := rd_b) (wr := wr_b) (wo := wo_b) (r := (S.ref01_Fits n limbs)) c45_ok (by kernel_rfl) (by kernel_rfl) (by kernel_rfl) (no_loops (by kernel_rfl)) (by kernel_rfl) (by kernel_rfl) (by kernel_rfl)
    rw_b np_b no_b (by kernel_rfl) (Eq.mpr (show Vm.Tr.vc (Vm.Fn c45 Try.f31 body31 noLoop ([.list 5 false n, .int .i64 limbs])) = S.ref01_Fits_pre n limbs by kernel_rfl) hp))

noncomputable def sem31 : List W → Option (W × List (List W) × List Prop)
  | [.list 5 false y1, .int .i64 y2] => some (wr_b (S.ref01_Fits y1 y2), wo_b (S.ref01_Fits y1 y2), [S.ref01_Fits_pre y1 y2])
  | _ => none
noncomputable def c31 : Cfg El := c45.add 31 sem31
theorem c31_ok : CfgOk c31 := c45_ok.add (fun args w => Try.call31 args w) (fun vs r outs ps h hp => by
  unfold sem31 at h
  split at h
  · rename_i y1 y2; cases h; exact fn31 y1 y2 hp
  · cases h)

noncomputable def rd_S24 : W → List (List W) → Option (S.Num)
  | .agg [.list 33 false x1], [] => some ⟨x1⟩
  | _, _ => none
noncomputable def wr_S24 (x : S.Num) : W := .agg [.list 33 false x.limbs]
noncomputable def wo_S24 (_x : S.Num) : List (List W) := []
theorem rw_S24 (v : W) (os : List (List W)) (x : S.Num) (h : rd_S24 v os = some x) : v = wr_S24 x ∧ os = wo_S24 x := by
  unfold rd_S24 at h
  split at h <;> first | (cases h; exact ⟨rfl, rfl⟩) | cases h
theorem np_S24 (x : S.Num) : okv (fun _ => false) (wr_S24 x) = true := rfl
theorem no_S24 (x : S.Num) : all (fun cs => all (ok0 fun _ => false) cs) (wo_S24 x) = true := rfl

noncomputable def body32 : Code := (Try.f32.body).getD .skip
noncomputable def lb32_0 : Code := ((nth (loopsOf 0 body32) 0).getD (0, .skip)).2
noncomputable def px32_0 : List W → Option S.nat_Sum_L0
  | [.ptr 3 0, .list 25 false y1, .int .i64 y2, .int .i64 y3, .list 33 false y4] => some ⟨y1, y2, y3, ⟨y4⟩⟩
  | _ => none
noncomputable def tx32_0 (x : S.nat_Sum_L0) : List W := [.ptr 3 0, .list 25 false x.t6, .int .i64 x.t7, .int .i64 x.t8, .list 33 false x.sum.limbs]
noncomputable def py32_0 : Ex → List W → Option (S.nat_Sum_L0)
  | .exit 0, [.ptr 3 0, .list 25 false y1, .int .i64 y2, .int .i64 y3, .list 33 false y4] => some ⟨y1, y2, y3, ⟨y4⟩⟩
  | _, _ => none
noncomputable def ld32_0 : LD El where
  X := S.nat_Sum_L0
  Y := S.nat_Sum_L0
  keys := [.slot 3, .slot 6, .slot 7, .slot 8, .cell 3 0]
  fits := [0, 111, 3, 3, 22]
  px := px32_0
  tx := tx32_0
  okeys := [.slot 3, .slot 6, .slot 7, .slot 8, .cell 3 0]
  ofits := [0, 111, 3, 3, 22]
  py := py32_0
  ty := fun y => tx32_0 y
  oex := fun _ => .exit 0
  junk := [.slot 5, .slot 9, .slot 10, .slot 11, .slot 12, .slot 13, .slot 14, .slot 15]
  rows := []
noncomputable def lo32_0 : S.nat_Sum_L0 → Tr El := fun y => .leaf (.exit 0) (zipK ld32_0.okeys (tx32_0 y) ++ junkK ld32_0.junk)
noncomputable def loop32 : Nat → Env El → Tr El
  | 0 => ld32_0.tree c31 Try.f32.ntmps 0 lb32_0 S.nat_Sum_L0_run lo32_0 S.nat_Sum_L0_step S.nat_Sum_L0_vcs
  | _ => fun _ => .fail
theorem lok32_0 : ∀ w0 S0, LoopOk c31 Try.f32.ntmps w0 S0 loop32 0 lb32_0 :=
  loop_ok (c := c31) (n := Try.f32.ntmps) c31_ok mixed ld32_0 (body := lb32_0) (key := 0) (loop := loop32) (F := S.nat_Sum_L0_run) (out := lo32_0) (step := S.nat_Sum_L0_step) (vcs := S.nat_Sum_L0_vcs)
    (fun _ => by kernel_rfl) (no_loops (by kernel_rfl)) rfl rfl
    (fun vs x h => by unfold ld32_0 px32_0 at h; dsimp only at h; split at h <;> first | (cases h; rfl) | cases h)
    (fun e vs y h => by unfold ld32_0 py32_0 at h; dsimp only at h; split at h <;> first | (cases h; exact ⟨rfl, rfl⟩) | cases h)
    (by kernel_rfl) (fun _ => rfl) (fun _ _ h => h) (fun x => by kernel_rfl) (fun x h => Eq.mpr (show Vm.Tr.vc (Vm.ev c31 Try.f32.ntmps loop32 0 lb32_0 (ld32_0.vars x) []) = S.nat_Sum_L0_vcs x by kernel_rfl) h)
theorem fn32 (l : (List S.Num)) (hp : S.nat_Sum_pre l) : CallOk c31 32 [.list 25 false l] (wr_S24 (S.nat_Sum l)) (wo_S24 (S.nat_Sum l)) :=
  (call_ok (c := c31) (f := 32) (fn := Try.f32) (code := body32) (args := ([.list 25 false l])) (loop := loop32) (md := ⟨false, false⟩) (rd := rd_S24) (wr := wr_S24) (wo := wo_S24) (r := (S.nat_Sum l)) c31_ok (by kernel_rfl) (by kernel_rfl) (by kernel_rfl) (loops_all (l := [(0, lb32_0)]) (by kernel_rfl) ⟨lok32_0, trivial⟩) (by kernel_rfl) (by kernel_rfl) (by kernel_rfl)
    rw_S24 np_S24 no_S24 (by kernel_rfl) (Eq.mpr (show Vm.Tr.vc (Vm.Fn c31 Try.f32 body32 loop32 ([.list 25 false l])) = S.nat_Sum_pre l by kernel_rfl) hp))

noncomputable def sem32 : List W → Option (W × List (List W) × List Prop)
  | [.list 25 false y1] => some (wr_S24 (S.nat_Sum y1), wo_S24 (S.nat_Sum y1), [S.nat_Sum_pre y1])
  | _ => none
noncomputable def c32 : Cfg El := c31.add 32 sem32
theorem c32_ok : CfgOk c32 := c31_ok.add (fun args w => Try.call32 args w) (fun vs r outs ps h hp => by
  unfold sem32 at h
  split at h
  · rename_i y1; cases h; exact fn32 y1 hp
  · cases h)

noncomputable def body4 : Code := (Try.f4.body).getD .skip
theorem fn4 (a : (List Int)) (b : (List Int)) (c : Int) (hp : S.law01_NatReckons_pre a b c) : CallOk c32 4 [.list 33 false a, .list 33 false b, .int .i64 c] (wr_b (S.law01_NatReckons a b c)) (wo_b (S.law01_NatReckons a b c)) :=
  (call_ok (c := c32) (f := 4) (fn := Try.f4) (code := body4) (args := ([.list 33 false a, .list 33 false b, .int .i64 c])) (loop := noLoop) (md := ⟨false, false⟩) (rd := rd_b) (wr := wr_b) (wo := wo_b) (r := (S.law01_NatReckons a b c)) c32_ok (by kernel_rfl) (by kernel_rfl) (by kernel_rfl) (no_loops (by kernel_rfl)) (by kernel_rfl) (by kernel_rfl) (by kernel_rfl)
    rw_b np_b no_b (by kernel_rfl) (Eq.mpr (show Vm.Tr.vc (Vm.Fn c32 Try.f4 body4 noLoop ([.list 33 false a, .list 33 false b, .int .i64 c])) = S.law01_NatReckons_pre a b c by kernel_rfl) hp))

noncomputable def sem4 : List W → Option (W × List (List W) × List Prop)
  | [.list 33 false y1, .list 33 false y2, .int .i64 y3] => some (wr_b (S.law01_NatReckons y1 y2 y3), wo_b (S.law01_NatReckons y1 y2 y3), [S.law01_NatReckons_pre y1 y2 y3])
  | _ => none
noncomputable def c4 : Cfg El := c32.add 4 sem4
theorem c4_ok : CfgOk c4 := c32_ok.add (fun args w => Try.call4 args w) (fun vs r outs ps h hp => by
  unfold sem4 at h
  split at h
  · rename_i y1 y2 y3; cases h; exact fn4 y1 y2 y3 hp
  · cases h)

noncomputable def rd_u64_b : W → List (List W) → Option (Int × Bool)
  | .tup [.int .u64 x1, .bool x2], [] => some ⟨x1, x2⟩
  | _, _ => none
noncomputable def wr_u64_b (x : Int × Bool) : W := .tup [.int .u64 x.1, .bool x.2]
noncomputable def wo_u64_b (_x : Int × Bool) : List (List W) := []
theorem rw_u64_b (v : W) (os : List (List W)) (x : Int × Bool) (h : rd_u64_b v os = some x) : v = wr_u64_b x ∧ os = wo_u64_b x := by
  unfold rd_u64_b at h
  split at h <;> first | (cases h; exact ⟨rfl, rfl⟩) | cases h
theorem np_u64_b (x : Int × Bool) : okv (fun _ => false) (wr_u64_b x) = true := rfl
theorem no_u64_b (x : Int × Bool) : all (fun cs => all (ok0 fun _ => false) cs) (wo_u64_b x) = true := rfl

noncomputable def body44 : Code := (Try.f44.body).getD .skip
theorem fn44 (n : S.Num) (hp : S.nat_Nat_Small_pre n) : CallOk c4 44 [.agg [.list 33 false n.limbs]] (wr_u64_b (S.nat_Nat_Small n)) (wo_u64_b (S.nat_Nat_Small n)) :=
  (call_ok (c := c4) (f := 44) (fn := Try.f44) (code := body44) (args := ([.agg [.list 33 false n.limbs]])) (loop := noLoop) (md := ⟨false, false⟩) (rd := rd_u64_b) (wr := wr_u64_b) (wo := wo_u64_b) (r := (S.nat_Nat_Small n)) c4_ok (by kernel_rfl) (by kernel_rfl) (by kernel_rfl) (no_loops (by kernel_rfl)) (by kernel_rfl) (by kernel_rfl) (by kernel_rfl)
    rw_u64_b np_u64_b no_u64_b (by kernel_rfl) (Eq.mpr (show Vm.Tr.vc (Vm.Fn c4 Try.f44 body44 noLoop ([.agg [.list 33 false n.limbs]])) = S.nat_Nat_Small_pre n by kernel_rfl) hp))

noncomputable def sem44 : List W → Option (W × List (List W) × List Prop)
  | [.agg [.list 33 false y1]] => some (wr_u64_b (S.nat_Nat_Small (⟨y1⟩ : S.Num)), wo_u64_b (S.nat_Nat_Small (⟨y1⟩ : S.Num)), [S.nat_Nat_Small_pre (⟨y1⟩ : S.Num)])
  | _ => none
noncomputable def c44 : Cfg El := c4.add 44 sem44
theorem c44_ok : CfgOk c44 := c4_ok.add (fun args w => Try.call44 args w) (fun vs r outs ps h hp => by
  unfold sem44 at h
  split at h
  · rename_i y1; cases h; exact fn44 (⟨y1⟩ : S.Num) hp
  · cases h)

noncomputable def body46 : Code := (Try.f46.body).getD .skip
noncomputable def lb46_0 : Code := ((nth (loopsOf 0 body46) 0).getD (0, .skip)).2
noncomputable def px46_0 : List W → Option S.nat_Max_L0
  | [.ptr 3 0, .list 25 false y1, .int .i64 y2, .int .i64 y3, .list 33 false y4] => some ⟨y1, y2, y3, ⟨y4⟩⟩
  | _ => none
noncomputable def tx46_0 (x : S.nat_Max_L0) : List W := [.ptr 3 0, .list 25 false x.t6, .int .i64 x.t7, .int .i64 x.t8, .list 33 false x.best.limbs]
noncomputable def py46_0 : Ex → List W → Option (S.nat_Max_L0)
  | .exit 0, [.ptr 3 0, .list 25 false y1, .int .i64 y2, .int .i64 y3, .list 33 false y4] => some ⟨y1, y2, y3, ⟨y4⟩⟩
  | _, _ => none
noncomputable def ld46_0 : LD El where
  X := S.nat_Max_L0
  Y := S.nat_Max_L0
  keys := [.slot 3, .slot 6, .slot 7, .slot 8, .cell 3 0]
  fits := [0, 111, 3, 3, 22]
  px := px46_0
  tx := tx46_0
  okeys := [.slot 3, .slot 6, .slot 7, .slot 8, .cell 3 0]
  ofits := [0, 111, 3, 3, 22]
  py := py46_0
  ty := fun y => tx46_0 y
  oex := fun _ => .exit 0
  junk := [.slot 5, .slot 9, .slot 10, .slot 11, .slot 12, .slot 13, .slot 14, .slot 15, .slot 16, .slot 17]
  rows := []
noncomputable def lo46_0 : S.nat_Max_L0 → Tr El := fun y => .leaf (.exit 0) (zipK ld46_0.okeys (tx46_0 y) ++ junkK ld46_0.junk)
noncomputable def loop46 : Nat → Env El → Tr El
  | 0 => ld46_0.tree c44 Try.f46.ntmps 0 lb46_0 S.nat_Max_L0_run lo46_0 S.nat_Max_L0_step S.nat_Max_L0_vcs
  | _ => fun _ => .fail
theorem lok46_0 : ∀ w0 S0, LoopOk c44 Try.f46.ntmps w0 S0 loop46 0 lb46_0 :=
  loop_ok (c := c44) (n := Try.f46.ntmps) c44_ok mixed ld46_0 (body := lb46_0) (key := 0) (loop := loop46) (F := S.nat_Max_L0_run) (out := lo46_0) (step := S.nat_Max_L0_step) (vcs := S.nat_Max_L0_vcs)
    (fun _ => by kernel_rfl) (no_loops (by kernel_rfl)) rfl rfl
    (fun vs x h => by unfold ld46_0 px46_0 at h; dsimp only at h; split at h <;> first | (cases h; rfl) | cases h)
    (fun e vs y h => by unfold ld46_0 py46_0 at h; dsimp only at h; split at h <;> first | (cases h; exact ⟨rfl, rfl⟩) | cases h)
    (by kernel_rfl) (fun _ => rfl) (fun _ _ h => h) (fun x => by kernel_rfl) (fun x h => Eq.mpr (show Vm.Tr.vc (Vm.ev c44 Try.f46.ntmps loop46 0 lb46_0 (ld46_0.vars x) []) = S.nat_Max_L0_vcs x by kernel_rfl) h)
theorem fn46 (l : (List S.Num)) (hp : S.nat_Max_pre l) : CallOk c44 46 [.list 25 false l] (wr_S24_f (S.nat_Max l)) (wo_S24_f (S.nat_Max l)) :=
  (call_ok (c := c44) (f := 46) (fn := Try.f46) (code := body46) (args := ([.list 25 false l])) (loop := loop46) (md := ⟨false, true⟩) (rd := rd_S24_f) (wr := wr_S24_f) (wo := wo_S24_f) (r := (S.nat_Max l)) c44_ok (by kernel_rfl) (by kernel_rfl) (by kernel_rfl) (loops_all (l := [(0, lb46_0)]) (by kernel_rfl) ⟨lok46_0, trivial⟩) (by kernel_rfl) (by kernel_rfl) (by kernel_rfl)
    rw_S24_f np_S24_f no_S24_f (by kernel_rfl) (Eq.mpr (show Vm.Tr.vc (Vm.Fn c44 Try.f46 body46 loop46 ([.list 25 false l])) = S.nat_Max_pre l by kernel_rfl) hp))

noncomputable def sem46 : List W → Option (W × List (List W) × List Prop)
  | [.list 25 false y1] => some (wr_S24_f (S.nat_Max y1), wo_S24_f (S.nat_Max y1), [S.nat_Max_pre y1])
  | _ => none
noncomputable def c46 : Cfg El := c44.add 46 sem46
theorem c46_ok : CfgOk c46 := c44_ok.add (fun args w => Try.call46 args w) (fun vs r outs ps h hp => by
  unfold sem46 at h
  split at h
  · rename_i y1; cases h; exact fn46 y1 hp
  · cases h)

noncomputable def body6 : Code := (Try.f6.body).getD .skip
noncomputable def lb6_0 : Code := ((nth (loopsOf 0 body6) 0).getD (0, .skip)).2
noncomputable def px6_0 : List W → Option S.law01_NatMakes_L0
  | [.list 33 false y1, .bool y2, .own 163, .int .i64 y3, .rowc 33 false none y4] => some ⟨y1, y2, y3, y4⟩
  | _ => none
noncomputable def tx6_0 (x : S.law01_NatMakes_L0) : List W := [.list 33 false x.a, .bool x.t6, .own 163, .int .i64 x.i, .rowc 33 false none x.own]
noncomputable def py6_0 : Ex → List W → Option (Bool × S.law01_NatMakes_L0)
  | .ret, [.list 33 false y1, .bool y2, .own 163, .int .i64 y3, .rowc 33 false none y4] => some ⟨true, ⟨y1, y2, y3, y4⟩⟩
  | .exit 0, [.list 33 false y1, .bool y2, .own 163, .int .i64 y3, .rowc 33 false none y4] => some ⟨false, ⟨y1, y2, y3, y4⟩⟩
  | _, _ => none
noncomputable def ld6_0 : LD El where
  X := S.law01_NatMakes_L0
  Y := Bool × S.law01_NatMakes_L0
  keys := [.slot 0, .slot 6, .slot 9, .slot 12, .row 163]
  fits := [22, 4, 22, 3, 0]
  px := px6_0
  tx := tx6_0
  okeys := [.slot 0, .slot 6, .slot 9, .slot 12, .row 163]
  ofits := [22, 4, 22, 3, 0]
  py := py6_0
  ty := fun y => bif y.1 then tx6_0 y.2 else tx6_0 y.2
  oex := fun y => bif y.1 then .ret else .exit 0
  junk := [.slot 40, .slot 41, .slot 42, .slot 43, .slot 44, .slot 45, .slot 46, .slot 47, .slot 48, .slot 49, .slot 50, .slot 51, .slot 52, .slot 53, .slot 54, .slot 55, .slot 56, .slot 57, .row 35, .slot 36, .slot 35]
  rows := [(9, 33)]
noncomputable def lo6_0 : (Bool × S.law01_NatMakes_L0) → Tr El := fun y => .node y.1 (.leaf (.ret) (zipK ld6_0.okeys (tx6_0 y.2) ++ junkK ld6_0.junk)) (.leaf (.exit 0) (zipK ld6_0.okeys (tx6_0 y.2) ++ junkK ld6_0.junk))
noncomputable def loop6 : Nat → Env El → Tr El
  | 0 => ld6_0.tree c46 Try.f6.ntmps 0 lb6_0 S.law01_NatMakes_L0_run lo6_0 S.law01_NatMakes_L0_step S.law01_NatMakes_L0_vcs
  | _ => fun _ => .fail
theorem lok6_0 : ∀ w0 S0, LoopOk c46 Try.f6.ntmps w0 S0 loop6 0 lb6_0 :=
  loop_ok (c := c46) (n := Try.f6.ntmps) c46_ok mixed ld6_0 (body := lb6_0) (key := 0) (loop := loop6) (F := S.law01_NatMakes_L0_run) (out := lo6_0) (step := S.law01_NatMakes_L0_step) (vcs := S.law01_NatMakes_L0_vcs)
    (fun _ => by kernel_rfl) (no_loops (by kernel_rfl)) rfl rfl
    (fun vs x h => by unfold ld6_0 px6_0 at h; dsimp only at h; split at h <;> first | (cases h; rfl) | cases h)
    (fun e vs y h => by unfold ld6_0 py6_0 at h; dsimp only at h; split at h <;> first | (cases h; exact ⟨rfl, rfl⟩) | cases h)
    (by kernel_rfl) (fun | (true, _) => rfl | (false, _) => rfl) (fun | (true, _), _, h => h.1 rfl | (false, _), _, h => h.2 rfl) (fun x => by kernel_rfl) (fun x h => Eq.mpr (show Vm.Tr.vc (Vm.ev c46 Try.f6.ntmps loop6 0 lb6_0 (ld6_0.vars x) []) = S.law01_NatMakes_L0_vcs x by kernel_rfl) h)
theorem fn6 (a : (List Int)) (b : (List Int)) (n : Int) (hp : S.law01_NatMakes_pre a b n) : CallOk c46 6 [.list 33 false a, .list 33 false b, .int .u64 n] (wr_b (S.law01_NatMakes a b n)) (wo_b (S.law01_NatMakes a b n)) :=
  (call_ok (c := c46) (f := 6) (fn := Try.f6) (code := body6) (args := ([.list 33 false a, .list 33 false b, .int .u64 n])) (loop := loop6) (md := ⟨false, false⟩) (rd := rd_b) (wr := wr_b) (wo := wo_b) (r := (S.law01_NatMakes a b n)) c46_ok (by kernel_rfl) (by kernel_rfl) (by kernel_rfl) (loops_all (l := [(0, lb6_0)]) (by kernel_rfl) ⟨lok6_0, trivial⟩) (by kernel_rfl) (by kernel_rfl) (by kernel_rfl)
    rw_b np_b no_b (by kernel_rfl) (Eq.mpr (show Vm.Tr.vc (Vm.Fn c46 Try.f6 body6 loop6 ([.list 33 false a, .list 33 false b, .int .u64 n])) = S.law01_NatMakes_pre a b n by kernel_rfl) hp))

noncomputable def sem6 : List W → Option (W × List (List W) × List Prop)
  | [.list 33 false y1, .list 33 false y2, .int .u64 y3] => some (wr_b (S.law01_NatMakes y1 y2 y3), wo_b (S.law01_NatMakes y1 y2 y3), [S.law01_NatMakes_pre y1 y2 y3])
  | _ => none
noncomputable def c6 : Cfg El := c46.add 6 sem6
theorem c6_ok : CfgOk c6 := c46_ok.add (fun args w => Try.call6 args w) (fun vs r outs ps h hp => by
  unfold sem6 at h
  split at h
  · rename_i y1 y2 y3; cases h; exact fn6 y1 y2 y3 hp
  · cases h)

noncomputable def rd_S24_b_f : W → List (List W) → Option (S.Num × Bool)
  | .tup [.agg [.list 33 true x1], .bool x2], [] => some ⟨⟨x1⟩, x2⟩
  | _, _ => none
noncomputable def wr_S24_b_f (x : S.Num × Bool) : W := .tup [.agg [.list 33 true x.1.limbs], .bool x.2]
noncomputable def wo_S24_b_f (_x : S.Num × Bool) : List (List W) := []
theorem rw_S24_b_f (v : W) (os : List (List W)) (x : S.Num × Bool) (h : rd_S24_b_f v os = some x) : v = wr_S24_b_f x ∧ os = wo_S24_b_f x := by
  unfold rd_S24_b_f at h
  split at h <;> first | (cases h; exact ⟨rfl, rfl⟩) | cases h
theorem np_S24_b_f (x : S.Num × Bool) : okv (fun _ => false) (wr_S24_b_f x) = true := rfl
theorem no_S24_b_f (x : S.Num × Bool) : all (fun cs => all (ok0 fun _ => false) cs) (wo_S24_b_f x) = true := rfl

noncomputable def body89 : Code := (Try.f89.body).getD .skip
theorem fn89 (c : Int) (a : S.Num) (hp : S.power_fit_pre c a) : CallOk c6 89 [.int .i64 c, .agg [.list 33 false a.limbs]] (wr_S24_b_f (S.power_fit c a)) (wo_S24_b_f (S.power_fit c a)) :=
  (call_ok (c := c6) (f := 89) (fn := Try.f89) (code := body89) (args := ([.int .i64 c, .agg [.list 33 false a.limbs]])) (loop := noLoop) (md := ⟨false, true⟩) (rd := rd_S24_b_f) (wr := wr_S24_b_f) (wo := wo_S24_b_f) (r := (S.power_fit c a)) c6_ok (by kernel_rfl) (by kernel_rfl) (by kernel_rfl) (no_loops (by kernel_rfl)) (by kernel_rfl) (by kernel_rfl) (by kernel_rfl)
    rw_S24_b_f np_S24_b_f no_S24_b_f (by kernel_rfl) (Eq.mpr (show Vm.Tr.vc (Vm.Fn c6 Try.f89 body89 noLoop ([.int .i64 c, .agg [.list 33 false a.limbs]])) = S.power_fit_pre c a by kernel_rfl) hp))

noncomputable def sem89 : List W → Option (W × List (List W) × List Prop)
  | [.int .i64 y1, .agg [.list 33 false y2]] => some (wr_S24_b_f (S.power_fit y1 (⟨y2⟩ : S.Num)), wo_S24_b_f (S.power_fit y1 (⟨y2⟩ : S.Num)), [S.power_fit_pre y1 (⟨y2⟩ : S.Num)])
  | _ => none
noncomputable def c89 : Cfg El := c6.add 89 sem89
theorem c89_ok : CfgOk c89 := c6_ok.add (fun args w => Try.call89 args w) (fun vs r outs ps h hp => by
  unfold sem89 at h
  split at h
  · rename_i y1 y2; cases h; exact fn89 y1 (⟨y2⟩ : S.Num) hp
  · cases h)

noncomputable def body90 : Code := (Try.f90.body).getD .skip
theorem fn90 (a : S.Num) (hp : S.power_great_pre a) : CallOk c89 90 [.agg [.list 33 false a.limbs]] (wr_b (S.power_great a)) (wo_b (S.power_great a)) :=
  (call_ok (c := c89) (f := 90) (fn := Try.f90) (code := body90) (args := ([.agg [.list 33 false a.limbs]])) (loop := noLoop) (md := ⟨false, false⟩) (rd := rd_b) (wr := wr_b) (wo := wo_b) (r := (S.power_great a)) c89_ok (by kernel_rfl) (by kernel_rfl) (by kernel_rfl) (no_loops (by kernel_rfl)) (by kernel_rfl) (by kernel_rfl) (by kernel_rfl)
    rw_b np_b no_b (by kernel_rfl) (Eq.mpr (show Vm.Tr.vc (Vm.Fn c89 Try.f90 body90 noLoop ([.agg [.list 33 false a.limbs]])) = S.power_great_pre a by kernel_rfl) hp))

noncomputable def sem90 : List W → Option (W × List (List W) × List Prop)
  | [.agg [.list 33 false y1]] => some (wr_b (S.power_great (⟨y1⟩ : S.Num)), wo_b (S.power_great (⟨y1⟩ : S.Num)), [S.power_great_pre (⟨y1⟩ : S.Num)])
  | _ => none
noncomputable def c90 : Cfg El := c89.add 90 sem90
theorem c90_ok : CfgOk c90 := c89_ok.add (fun args w => Try.call90 args w) (fun vs r outs ps h hp => by
  unfold sem90 at h
  split at h
  · rename_i y1; cases h; exact fn90 (⟨y1⟩ : S.Num) hp
  · cases h)

noncomputable def body91 : Code := (Try.f91.body).getD .skip
theorem fn91 (c : Int) : CallOk c90 91 [.int .i64 c] (wr_u64 (S.power_most c)) (wo_u64 (S.power_most c)) :=
  (call_ok (c := c90) (f := 91) (fn := Try.f91) (code := body91) (args := ([.int .i64 c])) (loop := noLoop) (md := ⟨false, false⟩) (rd := rd_u64) (wr := wr_u64) (wo := wo_u64) (r := (S.power_most c)) c90_ok (by kernel_rfl) (by kernel_rfl) (by kernel_rfl) (no_loops (by kernel_rfl)) (by kernel_rfl) (by kernel_rfl) (by kernel_rfl)
    rw_u64 np_u64 no_u64 (by kernel_rfl) (Tr.vc_of_noReq (by kernel_rfl)))

noncomputable def sem91 : List W → Option (W × List (List W) × List Prop)
  | [.int .i64 y1] => some (wr_u64 (S.power_most y1), wo_u64 (S.power_most y1), [])
  | _ => none
noncomputable def c91 : Cfg El := c90.add 91 sem91
theorem c91_ok : CfgOk c91 := c90_ok.add (fun args w => Try.call91 args w) (fun vs r outs ps h hp => by
  unfold sem91 at h
  split at h
  · rename_i y1; cases h; exact fn91 y1
  · cases h)

noncomputable def rd_u_Ri64_RS24_Rb : W → List (List W) → Option (Int × S.Num × Bool)
  | .tup [], [[.int .i64 x1], [.list 33 false x2], [.bool x3]] => some ⟨x1, ⟨x2⟩, x3⟩
  | _, _ => none
noncomputable def wr_u_Ri64_RS24_Rb (_x : Int × S.Num × Bool) : W := .tup []
noncomputable def wo_u_Ri64_RS24_Rb (x : Int × S.Num × Bool) : List (List W) := [[.int .i64 x.1], [.list 33 false x.2.1.limbs], [.bool x.2.2]]
theorem rw_u_Ri64_RS24_Rb (v : W) (os : List (List W)) (x : Int × S.Num × Bool) (h : rd_u_Ri64_RS24_Rb v os = some x) : v = wr_u_Ri64_RS24_Rb x ∧ os = wo_u_Ri64_RS24_Rb x := by
  unfold rd_u_Ri64_RS24_Rb at h
  split at h <;> first | (cases h; exact ⟨rfl, rfl⟩) | cases h
theorem np_u_Ri64_RS24_Rb (x : Int × S.Num × Bool) : okv (fun _ => false) (wr_u_Ri64_RS24_Rb x) = true := rfl
theorem no_u_Ri64_RS24_Rb (x : Int × S.Num × Bool) : all (fun cs => all (ok0 fun _ => false) cs) (wo_u_Ri64_RS24_Rb x) = true := rfl

noncomputable def body92 : Code := (Try.f92.body).getD .skip
theorem fn92 (a0 : Int) (a1 : S.Num) (a2 : Bool) (hp : S.power_Pow_1_pre a0 a1 a2) : CallOk c91 92 [.ref [.int .i64 a0], .ref [.list 33 false a1.limbs], .ref [.bool a2]] (wr_u_Ri64_RS24_Rb (S.power_Pow_1 a0 a1 a2)) (wo_u_Ri64_RS24_Rb (S.power_Pow_1 a0 a1 a2)) :=
  CallOk.same (c := (c91.hint [] [0, 1, 2])) (c' := c91) rfl rfl rfl rfl (call_ok (c := (c91.hint [] [0, 1, 2])) (f := 92) (fn := Try.f92) (code := body92) (args := ([.ref [.int .i64 a0], .ref [.list 33 false a1.limbs], .ref [.bool a2]])) (loop := noLoop) (md := ⟨false, false⟩) (rd := rd_u_Ri64_RS24_Rb) (wr := wr_u_Ri64_RS24_Rb) (wo := wo_u_Ri64_RS24_Rb) (r := (S.power_Pow_1 a0 a1 a2)) (CfgOk.hint c91_ok [] [0, 1, 2]) (by kernel_rfl) (by kernel_rfl) (by kernel_rfl) (no_loops (by kernel_rfl)) (by kernel_rfl) (by kernel_rfl) (by kernel_rfl)
    rw_u_Ri64_RS24_Rb np_u_Ri64_RS24_Rb no_u_Ri64_RS24_Rb (by kernel_rfl) (Eq.mpr (show Vm.Tr.vc (Vm.Fn (c91.hint [] [0, 1, 2]) Try.f92 body92 noLoop ([.ref [.int .i64 a0], .ref [.list 33 false a1.limbs], .ref [.bool a2]])) = S.power_Pow_1_pre a0 a1 a2 by kernel_rfl) hp))

noncomputable def sem92 : List W → Option (W × List (List W) × List Prop)
  | [.ref [.int .i64 y1], .ref [.list 33 false y2], .ref [.bool y3]] => some (wr_u_Ri64_RS24_Rb (S.power_Pow_1 y1 (⟨y2⟩ : S.Num) y3), wo_u_Ri64_RS24_Rb (S.power_Pow_1 y1 (⟨y2⟩ : S.Num) y3), [S.power_Pow_1_pre y1 (⟨y2⟩ : S.Num) y3])
  | _ => none
noncomputable def c92 : Cfg El := c91.add 92 sem92
theorem c92_ok : CfgOk c92 := c91_ok.add (fun args w => Try.call92 args w) (fun vs r outs ps h hp => by
  unfold sem92 at h
  split at h
  · rename_i y1 y2 y3; cases h; exact fn92 y1 (⟨y2⟩ : S.Num) y3 hp
  · cases h)

noncomputable def body93 : Code := (Try.f93.body).getD .skip
theorem fn93 (x : Int) (hp : S.math_bits_Len64_pre x) : CallOk c92 93 [.int .u64 x] (wr_i64 (S.math_bits_Len64 x)) (wo_i64 (S.math_bits_Len64 x)) :=
  (call_ok (c := c92) (f := 93) (fn := Try.f93) (code := body93) (args := ([.int .u64 x])) (loop := noLoop) (md := ⟨false, false⟩) (rd := rd_i64) (wr := wr_i64) (wo := wo_i64) (r := (S.math_bits_Len64 x)) c92_ok (by kernel_rfl) (by kernel_rfl) (by kernel_rfl) (no_loops (by kernel_rfl)) (by kernel_rfl) (by kernel_rfl) (by kernel_rfl)
    rw_i64 np_i64 no_i64 (by kernel_rfl) (Eq.mpr (show Vm.Tr.vc (Vm.Fn c92 Try.f93 body93 noLoop ([.int .u64 x])) = S.math_bits_Len64_pre x by kernel_rfl) hp))

noncomputable def sem93 : List W → Option (W × List (List W) × List Prop)
  | [.int .u64 y1] => some (wr_i64 (S.math_bits_Len64 y1), wo_i64 (S.math_bits_Len64 y1), [S.math_bits_Len64_pre y1])
  | _ => none
noncomputable def c93 : Cfg El := c92.add 93 sem93
theorem c93_ok : CfgOk c93 := c92_ok.add (fun args w => Try.call93 args w) (fun vs r outs ps h hp => by
  unfold sem93 at h
  split at h
  · rename_i y1; cases h; exact fn93 y1 hp
  · cases h)

noncomputable def body49 : Code := (Try.f49.body).getD .skip
noncomputable def lb49_1 : Code := ((nth (loopsOf 0 body49) 0).getD (0, .skip)).2
noncomputable def px49_1 : List W → Option S.power_Pow_L1
  | [.int .u64 y1, .ptr 3 0, .ptr 4 0, .ptr 8 0, .ptr 9 0, .clo 92 [] [.ptr 3 0, .ptr 8 0, .ptr 9 0], .int .i64 y2, .int .i64 y3, .list 33 false y4, .list 33 false y5, .bool y6] => some ⟨y1, y2, y3, ⟨y4⟩, ⟨y5⟩, y6⟩
  | _ => none
noncomputable def tx49_1 (x : S.power_Pow_L1) : List W := [.int .u64 x.n, .ptr 3 0, .ptr 4 0, .ptr 8 0, .ptr 9 0, .clo 92 [] [.ptr 3 0, .ptr 8 0, .ptr 9 0], .int .i64 x.i, .int .i64 x.c, .list 33 false x.a.limbs, .list 33 false x.out.limbs, .bool x.ok]
noncomputable def py49_1 : Ex → List W → Option (S.power_Pow_L1)
  | .exit 1, [.int .u64 y1, .ptr 3 0, .ptr 4 0, .ptr 8 0, .ptr 9 0, .clo 92 [] [.ptr 3 0, .ptr 8 0, .ptr 9 0], .int .i64 y2, .int .i64 y3, .list 33 false y4, .list 33 false y5, .bool y6] => some ⟨y1, y2, y3, ⟨y4⟩, ⟨y5⟩, y6⟩
  | _, _ => none
noncomputable def ld49_1 : LD El where
  X := S.power_Pow_L1
  Y := S.power_Pow_L1
  keys := [.slot 2, .slot 3, .slot 4, .slot 8, .slot 9, .slot 10, .slot 11, .cell 3 0, .cell 4 0, .cell 8 0, .cell 9 0]
  fits := [33, 0, 0, 0, 0, 1, 3, 42, 22, 22, 4]
  px := px49_1
  tx := tx49_1
  okeys := [.slot 2, .slot 3, .slot 4, .slot 8, .slot 9, .slot 10, .slot 11, .cell 3 0, .cell 4 0, .cell 8 0, .cell 9 0]
  ofits := [33, 0, 0, 0, 0, 1, 3, 42, 22, 22, 4]
  py := py49_1
  ty := fun y => tx49_1 y
  oex := fun _ => .exit 1
  junk := [.slot 40, .slot 41, .slot 42, .slot 43, .slot 44, .slot 45, .slot 46, .slot 47, .slot 48, .slot 49, .slot 50, .slot 51, .slot 52, .slot 53, .slot 54, .slot 55, .slot 56, .slot 57, .slot 58, .slot 59, .slot 60, .slot 61, .slot 62]
  rows := []
noncomputable def lo49_1 : S.power_Pow_L1 → Tr El := fun y => .leaf (.exit 1) (zipK ld49_1.okeys (tx49_1 y) ++ junkK ld49_1.junk)
noncomputable def loop49 : Nat → Env El → Tr El
  | 1 => ld49_1.tree c93 Try.f49.ntmps 1 lb49_1 S.power_Pow_L1_run lo49_1 S.power_Pow_L1_step S.power_Pow_L1_vcs
  | _ => fun _ => .fail
theorem lok49_1 : ∀ w0 S0, LoopOk c93 Try.f49.ntmps w0 S0 loop49 1 lb49_1 :=
  loop_ok (c := c93) (n := Try.f49.ntmps) c93_ok mixed ld49_1 (body := lb49_1) (key := 1) (loop := loop49) (F := S.power_Pow_L1_run) (out := lo49_1) (step := S.power_Pow_L1_step) (vcs := S.power_Pow_L1_vcs)
    (fun _ => by kernel_rfl) (no_loops (by kernel_rfl)) rfl rfl
    (fun vs x h => by unfold ld49_1 px49_1 at h; dsimp only at h; split at h <;> first | (cases h; rfl) | cases h)
    (fun e vs y h => by unfold ld49_1 py49_1 at h; dsimp only at h; split at h <;> first | (cases h; exact ⟨rfl, rfl⟩) | cases h)
    (by kernel_rfl) (fun _ => rfl) (fun _ _ h => h) (fun x => by kernel_rfl) (fun x h => Eq.mpr (show Vm.Tr.vc (Vm.ev c93 Try.f49.ntmps loop49 1 lb49_1 (ld49_1.vars x) []) = S.power_Pow_L1_vcs x by kernel_rfl) h)
theorem fn49 (c : Int) (a : S.Num) (n : Int) (hp : S.power_Pow_pre c a n) : CallOk c93 49 [.int .i64 c, .agg [.list 33 false a.limbs], .int .u64 n] (wr_S24_b (S.power_Pow c a n)) (wo_S24_b (S.power_Pow c a n)) :=
  (call_ok (c := c93) (f := 49) (fn := Try.f49) (code := body49) (args := ([.int .i64 c, .agg [.list 33 false a.limbs], .int .u64 n])) (loop := loop49) (md := ⟨false, false⟩) (rd := rd_S24_b) (wr := wr_S24_b) (wo := wo_S24_b) (r := (S.power_Pow c a n)) c93_ok (by kernel_rfl) (by kernel_rfl) (by kernel_rfl) (loops_all (l := [(1, lb49_1)]) (by kernel_rfl) ⟨lok49_1, trivial⟩) (by kernel_rfl) (by kernel_rfl) (by kernel_rfl)
    rw_S24_b np_S24_b no_S24_b (by kernel_rfl) (Eq.mpr (show Vm.Tr.vc (Vm.Fn c93 Try.f49 body49 loop49 ([.int .i64 c, .agg [.list 33 false a.limbs], .int .u64 n])) = S.power_Pow_pre c a n by kernel_rfl) hp))

noncomputable def sem49 : List W → Option (W × List (List W) × List Prop)
  | [.int .i64 y1, .agg [.list 33 false y2], .int .u64 y3] => some (wr_S24_b (S.power_Pow y1 (⟨y2⟩ : S.Num) y3), wo_S24_b (S.power_Pow y1 (⟨y2⟩ : S.Num) y3), [S.power_Pow_pre y1 (⟨y2⟩ : S.Num) y3])
  | _ => none
noncomputable def c49 : Cfg El := c93.add 49 sem49
theorem c49_ok : CfgOk c49 := c93_ok.add (fun args w => Try.call49 args w) (fun vs r outs ps h hp => by
  unfold sem49 at h
  split at h
  · rename_i y1 y2 y3; cases h; exact fn49 y1 (⟨y2⟩ : S.Num) y3 hp
  · cases h)

noncomputable def body52 : Code := (Try.f52.body).getD .skip
noncomputable def lb52_1 : Code := ((nth (loopsOf 0 body52) 0).getD (0, .skip)).2
noncomputable def px52_1 : List W → Option S.power_Sum_L1
  | [.int .i64 y1, .int .u64 y2, .ptr 4 0, .ptr 8 0, .ptr 9 0, .bool y3, .int .u64 y4, .list 33 false y5, .list 33 false y6, .list 33 false y7] => some ⟨y1, y2, y3, y4, ⟨y5⟩, ⟨y6⟩, ⟨y7⟩⟩
  | _ => none
noncomputable def tx52_1 (x : S.power_Sum_L1) : List W := [.int .i64 x.c, .int .u64 x.n, .ptr 4 0, .ptr 8 0, .ptr 9 0, .bool x.ok, .int .u64 x.i, .list 33 false x.a.limbs, .list 33 false x.one.limbs, .list 33 false x.sum.limbs]
noncomputable def py52_1 : Ex → List W → Option (S.power_Sum_L1)
  | .exit 1, [.int .i64 y1, .int .u64 y2, .ptr 4 0, .ptr 8 0, .ptr 9 0, .bool y3, .int .u64 y4, .list 33 false y5, .list 33 false y6, .list 33 false y7] => some ⟨y1, y2, y3, y4, ⟨y5⟩, ⟨y6⟩, ⟨y7⟩⟩
  | _, _ => none
noncomputable def ld52_1 : LD El where
  X := S.power_Sum_L1
  Y := S.power_Sum_L1
  keys := [.slot 0, .slot 2, .slot 4, .slot 8, .slot 9, .slot 10, .slot 11, .cell 4 0, .cell 8 0, .cell 9 0]
  fits := [42, 33, 0, 0, 0, 4, 33, 22, 22, 22]
  px := px52_1
  tx := tx52_1
  okeys := [.slot 0, .slot 2, .slot 4, .slot 8, .slot 9, .slot 10, .slot 11, .cell 4 0, .cell 8 0, .cell 9 0]
  ofits := [42, 33, 0, 0, 0, 4, 33, 22, 22, 22]
  py := py52_1
  ty := fun y => tx52_1 y
  oex := fun _ => .exit 1
  junk := [.slot 50, .slot 51, .slot 52, .slot 53, .slot 54, .slot 55, .slot 56, .slot 57, .slot 58, .slot 59, .slot 60, .slot 61, .slot 62, .slot 63, .slot 64, .slot 65, .slot 66, .slot 67, .slot 68, .slot 69, .slot 70, .slot 71, .slot 72]
  rows := []
noncomputable def lo52_1 : S.power_Sum_L1 → Tr El := fun y => .leaf (.exit 1) (zipK ld52_1.okeys (tx52_1 y) ++ junkK ld52_1.junk)
noncomputable def loop52 : Nat → Env El → Tr El
  | 1 => ld52_1.tree c49 Try.f52.ntmps 1 lb52_1 S.power_Sum_L1_run lo52_1 S.power_Sum_L1_step S.power_Sum_L1_vcs
  | _ => fun _ => .fail
theorem lok52_1 : ∀ w0 S0, LoopOk c49 Try.f52.ntmps w0 S0 loop52 1 lb52_1 :=
  loop_ok (c := c49) (n := Try.f52.ntmps) c49_ok mixed ld52_1 (body := lb52_1) (key := 1) (loop := loop52) (F := S.power_Sum_L1_run) (out := lo52_1) (step := S.power_Sum_L1_step) (vcs := S.power_Sum_L1_vcs)
    (fun _ => by kernel_rfl) (no_loops (by kernel_rfl)) rfl rfl
    (fun vs x h => by unfold ld52_1 px52_1 at h; dsimp only at h; split at h <;> first | (cases h; rfl) | cases h)
    (fun e vs y h => by unfold ld52_1 py52_1 at h; dsimp only at h; split at h <;> first | (cases h; exact ⟨rfl, rfl⟩) | cases h)
    (by kernel_rfl) (fun _ => rfl) (fun _ _ h => h) (fun x => by kernel_rfl) (fun x h => Eq.mpr (show Vm.Tr.vc (Vm.ev c49 Try.f52.ntmps loop52 1 lb52_1 (ld52_1.vars x) []) = S.power_Sum_L1_vcs x by kernel_rfl) h)
theorem fn52 (c : Int) (a : S.Num) (n : Int) (hp : S.power_Sum_pre c a n) : CallOk c49 52 [.int .i64 c, .agg [.list 33 false a.limbs], .int .u64 n] (wr_S24_b (S.power_Sum c a n)) (wo_S24_b (S.power_Sum c a n)) :=
  (call_ok (c := c49) (f := 52) (fn := Try.f52) (code := body52) (args := ([.int .i64 c, .agg [.list 33 false a.limbs], .int .u64 n])) (loop := loop52) (md := ⟨false, false⟩) (rd := rd_S24_b) (wr := wr_S24_b) (wo := wo_S24_b) (r := (S.power_Sum c a n)) c49_ok (by kernel_rfl) (by kernel_rfl) (by kernel_rfl) (loops_all (l := [(1, lb52_1)]) (by kernel_rfl) ⟨lok52_1, trivial⟩) (by kernel_rfl) (by kernel_rfl) (by kernel_rfl)
    rw_S24_b np_S24_b no_S24_b (by kernel_rfl) (Eq.mpr (show Vm.Tr.vc (Vm.Fn c49 Try.f52 body52 loop52 ([.int .i64 c, .agg [.list 33 false a.limbs], .int .u64 n])) = S.power_Sum_pre c a n by kernel_rfl) hp))

noncomputable def sem52 : List W → Option (W × List (List W) × List Prop)
  | [.int .i64 y1, .agg [.list 33 false y2], .int .u64 y3] => some (wr_S24_b (S.power_Sum y1 (⟨y2⟩ : S.Num) y3), wo_S24_b (S.power_Sum y1 (⟨y2⟩ : S.Num) y3), [S.power_Sum_pre y1 (⟨y2⟩ : S.Num) y3])
  | _ => none
noncomputable def c52 : Cfg El := c49.add 52 sem52
theorem c52_ok : CfgOk c52 := c49_ok.add (fun args w => Try.call52 args w) (fun vs r outs ps h hp => by
  unfold sem52 at h
  split at h
  · rename_i y1 y2 y3; cases h; exact fn52 y1 (⟨y2⟩ : S.Num) y3 hp
  · cases h)

noncomputable def body88 : Code := (Try.f88.body).getD .skip
theorem fn88 (a : S.Num) (hp : S.power_Bits_pre a) : CallOk c52 88 [.agg [.list 33 false a.limbs]] (wr_u64 (S.power_Bits a)) (wo_u64 (S.power_Bits a)) :=
  (call_ok (c := c52) (f := 88) (fn := Try.f88) (code := body88) (args := ([.agg [.list 33 false a.limbs]])) (loop := noLoop) (md := ⟨false, false⟩) (rd := rd_u64) (wr := wr_u64) (wo := wo_u64) (r := (S.power_Bits a)) c52_ok (by kernel_rfl) (by kernel_rfl) (by kernel_rfl) (no_loops (by kernel_rfl)) (by kernel_rfl) (by kernel_rfl) (by kernel_rfl)
    rw_u64 np_u64 no_u64 (by kernel_rfl) (Eq.mpr (show Vm.Tr.vc (Vm.Fn c52 Try.f88 body88 noLoop ([.agg [.list 33 false a.limbs]])) = S.power_Bits_pre a by kernel_rfl) hp))

noncomputable def sem88 : List W → Option (W × List (List W) × List Prop)
  | [.agg [.list 33 false y1]] => some (wr_u64 (S.power_Bits (⟨y1⟩ : S.Num)), wo_u64 (S.power_Bits (⟨y1⟩ : S.Num)), [S.power_Bits_pre (⟨y1⟩ : S.Num)])
  | _ => none
noncomputable def c88 : Cfg El := c52.add 88 sem88
theorem c88_ok : CfgOk c88 := c52_ok.add (fun args w => Try.call88 args w) (fun vs r outs ps h hp => by
  unfold sem88 at h
  split at h
  · rename_i y1; cases h; exact fn88 (⟨y1⟩ : S.Num) hp
  · cases h)

noncomputable def body57 : Code := (Try.f57.body).getD .skip
theorem fn57 (a : S.Num) (hp : S.power_Log_pre a) : CallOk c88 57 [.agg [.list 33 false a.limbs]] (wr_u64 (S.power_Log a)) (wo_u64 (S.power_Log a)) :=
  (call_ok (c := c88) (f := 57) (fn := Try.f57) (code := body57) (args := ([.agg [.list 33 false a.limbs]])) (loop := noLoop) (md := ⟨false, false⟩) (rd := rd_u64) (wr := wr_u64) (wo := wo_u64) (r := (S.power_Log a)) c88_ok (by kernel_rfl) (by kernel_rfl) (by kernel_rfl) (no_loops (by kernel_rfl)) (by kernel_rfl) (by kernel_rfl) (by kernel_rfl)
    rw_u64 np_u64 no_u64 (by kernel_rfl) (Eq.mpr (show Vm.Tr.vc (Vm.Fn c88 Try.f57 body57 noLoop ([.agg [.list 33 false a.limbs]])) = S.power_Log_pre a by kernel_rfl) hp))

noncomputable def sem57 : List W → Option (W × List (List W) × List Prop)
  | [.agg [.list 33 false y1]] => some (wr_u64 (S.power_Log (⟨y1⟩ : S.Num)), wo_u64 (S.power_Log (⟨y1⟩ : S.Num)), [S.power_Log_pre (⟨y1⟩ : S.Num)])
  | _ => none
noncomputable def c57 : Cfg El := c88.add 57 sem57
theorem c57_ok : CfgOk c57 := c88_ok.add (fun args w => Try.call57 args w) (fun vs r outs ps h hp => by
  unfold sem57 at h
  split at h
  · rename_i y1; cases h; exact fn57 (⟨y1⟩ : S.Num) hp
  · cases h)

noncomputable def body47 : Code := (Try.f47.body).getD .skip
noncomputable def lb47_0 : Code := ((nth (loopsOf 0 body47) 0).getD (0, .skip)).2
noncomputable def px47_0 : List W → Option S.law03_works_L0
  | [.bool y1, .int .i64 y2] => some ⟨y1, y2⟩
  | _ => none
noncomputable def tx47_0 (x : S.law03_works_L0) : List W := [.bool x.t0, .int .i64 x.i]
noncomputable def py47_0 : Ex → List W → Option (Bool × S.law03_works_L0)
  | .ret, [.bool y1, .int .i64 y2] => some ⟨true, ⟨y1, y2⟩⟩
  | .exit 0, [.bool y1, .int .i64 y2] => some ⟨false, ⟨y1, y2⟩⟩
  | _, _ => none
noncomputable def ld47_0 : LD El where
  X := S.law03_works_L0
  Y := Bool × S.law03_works_L0
  keys := [.slot 0, .slot 11]
  fits := [4, 3]
  px := px47_0
  tx := tx47_0
  okeys := [.slot 0, .slot 11]
  ofits := [4, 3]
  py := py47_0
  ty := fun y => bif y.1 then tx47_0 y.2 else tx47_0 y.2
  oex := fun y => bif y.1 then .ret else .exit 0
  junk := [.slot 37, .slot 38, .slot 39, .slot 40, .slot 41, .slot 42, .slot 43, .slot 44, .slot 45, .slot 46, .slot 47, .slot 48, .slot 49, .slot 50, .slot 51]
  rows := []
noncomputable def lo47_0 : (Bool × S.law03_works_L0) → Tr El := fun y => .node y.1 (.leaf (.ret) (zipK ld47_0.okeys (tx47_0 y.2) ++ junkK ld47_0.junk)) (.leaf (.exit 0) (zipK ld47_0.okeys (tx47_0 y.2) ++ junkK ld47_0.junk))
noncomputable def loop47 : Nat → Env El → Tr El
  | 0 => ld47_0.tree c57 Try.f47.ntmps 0 lb47_0 S.law03_works_L0_run lo47_0 S.law03_works_L0_step S.law03_works_L0_vcs
  | _ => fun _ => .fail
theorem lok47_0 : ∀ w0 S0, LoopOk c57 Try.f47.ntmps w0 S0 loop47 0 lb47_0 :=
  loop_ok (c := c57) (n := Try.f47.ntmps) c57_ok mixed ld47_0 (body := lb47_0) (key := 0) (loop := loop47) (F := S.law03_works_L0_run) (out := lo47_0) (step := S.law03_works_L0_step) (vcs := S.law03_works_L0_vcs)
    (fun _ => by kernel_rfl) (no_loops (by kernel_rfl)) rfl rfl
    (fun vs x h => by unfold ld47_0 px47_0 at h; dsimp only at h; split at h <;> first | (cases h; rfl) | cases h)
    (fun e vs y h => by unfold ld47_0 py47_0 at h; dsimp only at h; split at h <;> first | (cases h; exact ⟨rfl, rfl⟩) | cases h)
    (by kernel_rfl) (fun | (true, _) => rfl | (false, _) => rfl) (fun | (true, _), _, h => h.1 rfl | (false, _), _, h => h.2 rfl) (fun x => by kernel_rfl) (fun x h => Eq.mpr (show Vm.Tr.vc (Vm.ev c57 Try.f47.ntmps loop47 0 lb47_0 (ld47_0.vars x) []) = S.law03_works_L0_vcs x by kernel_rfl) h)
theorem fn47 (hp : S.law03_works_pre) : CallOk c57 47 [] (wr_b (S.law03_works)) (wo_b (S.law03_works)) :=
  (call_ok (c := c57) (f := 47) (fn := Try.f47) (code := body47) (args := ([])) (loop := loop47) (md := ⟨false, false⟩) (rd := rd_b) (wr := wr_b) (wo := wo_b) (r := S.law03_works) c57_ok (by kernel_rfl) (by kernel_rfl) (by kernel_rfl) (loops_all (l := [(0, lb47_0)]) (by kernel_rfl) ⟨lok47_0, trivial⟩) (by kernel_rfl) (by kernel_rfl) (by kernel_rfl)
    rw_b np_b no_b (by kernel_rfl) (Eq.mpr (show Vm.Tr.vc (Vm.Fn c57 Try.f47 body47 loop47 ([])) = S.law03_works_pre by kernel_rfl) hp))

noncomputable def sem47 : List W → Option (W × List (List W) × List Prop)
  | [] => some (wr_b (S.law03_works), wo_b (S.law03_works), [S.law03_works_pre])
  | _ => none
noncomputable def c47 : Cfg El := c57.add 47 sem47
theorem c47_ok : CfgOk c47 := c57_ok.add (fun args w => Try.call47 args w) (fun vs r outs ps h hp => by
  unfold sem47 at h
  split at h
  · cases h; exact fn47 hp
  · cases h)

noncomputable def body48 : Code := (Try.f48.body).getD .skip
theorem fn48 (c : Int) : CallOk c47 48 [.int .i64 c] (wr_i64 (S.law03_limit c)) (wo_i64 (S.law03_limit c)) :=
  (call_ok (c := c47) (f := 48) (fn := Try.f48) (code := body48) (args := ([.int .i64 c])) (loop := noLoop) (md := ⟨false, false⟩) (rd := rd_i64) (wr := wr_i64) (wo := wo_i64) (r := (S.law03_limit c)) c47_ok (by kernel_rfl) (by kernel_rfl) (by kernel_rfl) (no_loops (by kernel_rfl)) (by kernel_rfl) (by kernel_rfl) (by kernel_rfl)
    rw_i64 np_i64 no_i64 (by kernel_rfl) (Tr.vc_of_noReq (by kernel_rfl)))

noncomputable def sem48 : List W → Option (W × List (List W) × List Prop)
  | [.int .i64 y1] => some (wr_i64 (S.law03_limit y1), wo_i64 (S.law03_limit y1), [])
  | _ => none
noncomputable def c48 : Cfg El := c47.add 48 sem48
theorem c48_ok : CfgOk c48 := c47_ok.add (fun args w => Try.call48 args w) (fun vs r outs ps h hp => by
  unfold sem48 at h
  split at h
  · rename_i y1; cases h; exact fn48 y1
  · cases h)

noncomputable def body94 : Code := (Try.f94.body).getD .skip
theorem fn94 : CallOk c48 94 [] (wr_L5_o_f (S.ref03_One)) (wo_L5_o_f (S.ref03_One)) :=
  CallOk.same (c := (c48.hint [1] [])) (c' := c48) rfl rfl rfl rfl (call_ok (c := (c48.hint [1] [])) (f := 94) (fn := Try.f94) (code := body94) (args := ([])) (loop := noLoop) (md := ⟨true, true⟩) (rd := rd_L5_o_f) (wr := wr_L5_o_f) (wo := wo_L5_o_f) (r := S.ref03_One) (CfgOk.hint c48_ok [1] []) (by kernel_rfl) (by kernel_rfl) (by kernel_rfl) (no_loops (by kernel_rfl)) (by kernel_rfl) (by kernel_rfl) (by kernel_rfl)
    rw_L5_o_f np_L5_o_f no_L5_o_f (by kernel_rfl) (Tr.vc_of_noReq (by kernel_rfl)))

noncomputable def sem94 : List W → Option (W × List (List W) × List Prop)
  | [] => some (wr_L5_o_f (S.ref03_One), wo_L5_o_f (S.ref03_One), [])
  | _ => none
noncomputable def c94 : Cfg El := c48.add 94 sem94
theorem c94_ok : CfgOk c94 := c48_ok.add (fun args w => Try.call94 args w) (fun vs r outs ps h hp => by
  unfold sem94 at h
  split at h
  · cases h; exact fn94
  · cases h)

noncomputable def body95 : Code := (Try.f95.body).getD .skip
theorem fn95 (n : (List Int)) (limbs : Int) (hp : S.ref03_over_pre n limbs) : CallOk c94 95 [.list 5 false n, .int .i64 limbs] (wr_b (S.ref03_over n limbs)) (wo_b (S.ref03_over n limbs)) :=
  (call_ok (c := c94) (f := 95) (fn := Try.f95) (code := body95) (args := ([.list 5 false n, .int .i64 limbs])) (loop := noLoop) (md := ⟨false, false⟩) (rd := rd_b) (wr := wr_b) (wo := wo_b) (r := (S.ref03_over n limbs)) c94_ok (by kernel_rfl) (by kernel_rfl) (by kernel_rfl) (no_loops (by kernel_rfl)) (by kernel_rfl) (by kernel_rfl) (by kernel_rfl)
    rw_b np_b no_b (by kernel_rfl) (Eq.mpr (show Vm.Tr.vc (Vm.Fn c94 Try.f95 body95 noLoop ([.list 5 false n, .int .i64 limbs])) = S.ref03_over_pre n limbs by kernel_rfl) hp))

noncomputable def sem95 : List W → Option (W × List (List W) × List Prop)
  | [.list 5 false y1, .int .i64 y2] => some (wr_b (S.ref03_over y1 y2), wo_b (S.ref03_over y1 y2), [S.ref03_over_pre y1 y2])
  | _ => none
noncomputable def c95 : Cfg El := c94.add 95 sem95
theorem c95_ok : CfgOk c95 := c94_ok.add (fun args w => Try.call95 args w) (fun vs r outs ps h hp => by
  unfold sem95 at h
  split at h
  · rename_i y1 y2; cases h; exact fn95 y1 y2 hp
  · cases h)

noncomputable def rd_L5_b : W → List (List W) → Option ((List Int) × Bool)
  | .tup [.list 5 false x1, .bool x2], [] => some ⟨x1, x2⟩
  | _, _ => none
noncomputable def wr_L5_b (x : (List Int) × Bool) : W := .tup [.list 5 false x.1, .bool x.2]
noncomputable def wo_L5_b (_x : (List Int) × Bool) : List (List W) := []
theorem rw_L5_b (v : W) (os : List (List W)) (x : (List Int) × Bool) (h : rd_L5_b v os = some x) : v = wr_L5_b x ∧ os = wo_L5_b x := by
  unfold rd_L5_b at h
  split at h <;> first | (cases h; exact ⟨rfl, rfl⟩) | cases h
theorem np_L5_b (x : (List Int) × Bool) : okv (fun _ => false) (wr_L5_b x) = true := rfl
theorem no_L5_b (x : (List Int) × Bool) : all (fun cs => all (ok0 fun _ => false) cs) (wo_L5_b x) = true := rfl

noncomputable def body50 : Code := (Try.f50.body).getD .skip
noncomputable def lb50_0 : Code := ((nth (loopsOf 0 body50) 0).getD (0, .skip)).2
noncomputable def px50_0 : List W → Option S.ref03_Pow_L0
  | [.int .i64 y1, .list 5 false y2, .int .u64 y3, .list 5 false y4, .bool y5, .list 5 false y6, .int .u64 y7] => some ⟨y1, y2, y3, y4, y5, y6, y7⟩
  | _ => none
noncomputable def tx50_0 (x : S.ref03_Pow_L0) : List W := [.int .i64 x.limbs, .list 5 false x.a, .int .u64 x.n, .list 5 false x.t6, .bool x.t7, .list 5 false x.out, .int .u64 x.i]
noncomputable def py50_0 : Ex → List W → Option (Bool × S.ref03_Pow_L0)
  | .ret, [.int .i64 y1, .list 5 false y2, .int .u64 y3, .list 5 false y4, .bool y5, .list 5 false y6, .int .u64 y7] => some ⟨true, ⟨y1, y2, y3, y4, y5, y6, y7⟩⟩
  | .exit 0, [.int .i64 y1, .list 5 false y2, .int .u64 y3, .list 5 false y4, .bool y5, .list 5 false y6, .int .u64 y7] => some ⟨false, ⟨y1, y2, y3, y4, y5, y6, y7⟩⟩
  | _, _ => none
noncomputable def ld50_0 : LD El where
  X := S.ref03_Pow_L0
  Y := Bool × S.ref03_Pow_L0
  keys := [.slot 0, .slot 1, .slot 2, .slot 6, .slot 7, .slot 8, .slot 9]
  fits := [3, 36, 33, 36, 4, 36, 33]
  px := px50_0
  tx := tx50_0
  okeys := [.slot 0, .slot 1, .slot 2, .slot 6, .slot 7, .slot 8, .slot 9]
  ofits := [3, 36, 33, 36, 4, 36, 33]
  py := py50_0
  ty := fun y => bif y.1 then tx50_0 y.2 else tx50_0 y.2
  oex := fun y => bif y.1 then .ret else .exit 0
  junk := [.slot 26, .slot 27, .slot 28, .slot 29, .slot 30, .slot 31, .slot 32, .slot 33, .slot 34, .slot 35, .slot 36]
  rows := []
noncomputable def lo50_0 : (Bool × S.ref03_Pow_L0) → Tr El := fun y => .node y.1 (.leaf (.ret) (zipK ld50_0.okeys (tx50_0 y.2) ++ junkK ld50_0.junk)) (.leaf (.exit 0) (zipK ld50_0.okeys (tx50_0 y.2) ++ junkK ld50_0.junk))
noncomputable def loop50 : Nat → Env El → Tr El
  | 0 => ld50_0.tree c95 Try.f50.ntmps 0 lb50_0 S.ref03_Pow_L0_run lo50_0 S.ref03_Pow_L0_step S.ref03_Pow_L0_vcs
  | _ => fun _ => .fail
theorem lok50_0 : ∀ w0 S0, LoopOk c95 Try.f50.ntmps w0 S0 loop50 0 lb50_0 :=
  loop_ok (c := c95) (n := Try.f50.ntmps) c95_ok mixed ld50_0 (body := lb50_0) (key := 0) (loop := loop50) (F := S.ref03_Pow_L0_run) (out := lo50_0) (step := S.ref03_Pow_L0_step) (vcs := S.ref03_Pow_L0_vcs)
    (fun _ => by kernel_rfl) (no_loops (by kernel_rfl)) rfl rfl
    (fun vs x h => by unfold ld50_0 px50_0 at h; dsimp only at h; split at h <;> first | (cases h; rfl) | cases h)
    (fun e vs y h => by unfold ld50_0 py50_0 at h; dsimp only at h; split at h <;> first | (cases h; exact ⟨rfl, rfl⟩) | cases h)
    (by kernel_rfl) (fun | (true, _) => rfl | (false, _) => rfl) (fun | (true, _), _, h => h.1 rfl | (false, _), _, h => h.2 rfl) (fun x => by kernel_rfl) (fun x h => Eq.mpr (show Vm.Tr.vc (Vm.ev c95 Try.f50.ntmps loop50 0 lb50_0 (ld50_0.vars x) []) = S.ref03_Pow_L0_vcs x by kernel_rfl) h)
theorem fn50 (limbs : Int) (a : (List Int)) (n : Int) (hp : S.ref03_Pow_pre limbs a n) : CallOk c95 50 [.int .i64 limbs, .list 5 false a, .int .u64 n] (wr_L5_b (S.ref03_Pow limbs a n)) (wo_L5_b (S.ref03_Pow limbs a n)) :=
  (call_ok (c := c95) (f := 50) (fn := Try.f50) (code := body50) (args := ([.int .i64 limbs, .list 5 false a, .int .u64 n])) (loop := loop50) (md := ⟨false, false⟩) (rd := rd_L5_b) (wr := wr_L5_b) (wo := wo_L5_b) (r := (S.ref03_Pow limbs a n)) c95_ok (by kernel_rfl) (by kernel_rfl) (by kernel_rfl) (loops_all (l := [(0, lb50_0)]) (by kernel_rfl) ⟨lok50_0, trivial⟩) (by kernel_rfl) (by kernel_rfl) (by kernel_rfl)
    rw_L5_b np_L5_b no_L5_b (by kernel_rfl) (Eq.mpr (show Vm.Tr.vc (Vm.Fn c95 Try.f50 body50 loop50 ([.int .i64 limbs, .list 5 false a, .int .u64 n])) = S.ref03_Pow_pre limbs a n by kernel_rfl) hp))

noncomputable def sem50 : List W → Option (W × List (List W) × List Prop)
  | [.int .i64 y1, .list 5 false y2, .int .u64 y3] => some (wr_L5_b (S.ref03_Pow y1 y2 y3), wo_L5_b (S.ref03_Pow y1 y2 y3), [S.ref03_Pow_pre y1 y2 y3])
  | _ => none
noncomputable def c50 : Cfg El := c95.add 50 sem50
theorem c50_ok : CfgOk c50 := c95_ok.add (fun args w => Try.call50 args w) (fun vs r outs ps h hp => by
  unfold sem50 at h
  split at h
  · rename_i y1 y2 y3; cases h; exact fn50 y1 y2 y3 hp
  · cases h)

noncomputable def body51 : Code := (Try.f51.body).getD .skip
theorem fn51 (n : S.Num) (ok : Bool) (want : (List Int)) (fits : Bool) (hp : S.law03_is_pre n ok want fits) : CallOk c50 51 [.agg [.list 33 false n.limbs], .bool ok, .list 5 false want, .bool fits] (wr_b (S.law03_is n ok want fits)) (wo_b (S.law03_is n ok want fits)) :=
  (call_ok (c := c50) (f := 51) (fn := Try.f51) (code := body51) (args := ([.agg [.list 33 false n.limbs], .bool ok, .list 5 false want, .bool fits])) (loop := noLoop) (md := ⟨false, false⟩) (rd := rd_b) (wr := wr_b) (wo := wo_b) (r := (S.law03_is n ok want fits)) c50_ok (by kernel_rfl) (by kernel_rfl) (by kernel_rfl) (no_loops (by kernel_rfl)) (by kernel_rfl) (by kernel_rfl) (by kernel_rfl)
    rw_b np_b no_b (by kernel_rfl) (Eq.mpr (show Vm.Tr.vc (Vm.Fn c50 Try.f51 body51 noLoop ([.agg [.list 33 false n.limbs], .bool ok, .list 5 false want, .bool fits])) = S.law03_is_pre n ok want fits by kernel_rfl) hp))

noncomputable def sem51 : List W → Option (W × List (List W) × List Prop)
  | [.agg [.list 33 false y1], .bool y2, .list 5 false y3, .bool y4] => some (wr_b (S.law03_is (⟨y1⟩ : S.Num) y2 y3 y4), wo_b (S.law03_is (⟨y1⟩ : S.Num) y2 y3 y4), [S.law03_is_pre (⟨y1⟩ : S.Num) y2 y3 y4])
  | _ => none
noncomputable def c51 : Cfg El := c50.add 51 sem51
theorem c51_ok : CfgOk c51 := c50_ok.add (fun args w => Try.call51 args w) (fun vs r outs ps h hp => by
  unfold sem51 at h
  split at h
  · rename_i y1 y2 y3 y4; cases h; exact fn51 (⟨y1⟩ : S.Num) y2 y3 y4 hp
  · cases h)

noncomputable def body96 : Code := (Try.f96.body).getD .skip
theorem fn96 (a : (List Int)) (hp : S.ref03_small_pre a) : CallOk c51 96 [.list 5 false a] (wr_b (S.ref03_small a)) (wo_b (S.ref03_small a)) :=
  (call_ok (c := c51) (f := 96) (fn := Try.f96) (code := body96) (args := ([.list 5 false a])) (loop := noLoop) (md := ⟨false, false⟩) (rd := rd_b) (wr := wr_b) (wo := wo_b) (r := (S.ref03_small a)) c51_ok (by kernel_rfl) (by kernel_rfl) (by kernel_rfl) (no_loops (by kernel_rfl)) (by kernel_rfl) (by kernel_rfl) (by kernel_rfl)
    rw_b np_b no_b (by kernel_rfl) (Eq.mpr (show Vm.Tr.vc (Vm.Fn c51 Try.f96 body96 noLoop ([.list 5 false a])) = S.ref03_small_pre a by kernel_rfl) hp))

noncomputable def sem96 : List W → Option (W × List (List W) × List Prop)
  | [.list 5 false y1] => some (wr_b (S.ref03_small y1), wo_b (S.ref03_small y1), [S.ref03_small_pre y1])
  | _ => none
noncomputable def c96 : Cfg El := c51.add 96 sem96
theorem c96_ok : CfgOk c96 := c51_ok.add (fun args w => Try.call96 args w) (fun vs r outs ps h hp => by
  unfold sem96 at h
  split at h
  · rename_i y1; cases h; exact fn96 y1 hp
  · cases h)

noncomputable def body97 : Code := (Try.f97.body).getD .skip
theorem fn97 (n : Int) (hp : S.ref03_Number_pre n) : CallOk c96 97 [.int .u64 n] (wr_L5_o_f (S.ref03_Number n)) (wo_L5_o_f (S.ref03_Number n)) :=
  CallOk.same (c := (c96.hint [5] [])) (c' := c96) rfl rfl rfl rfl (call_ok (c := (c96.hint [5] [])) (f := 97) (fn := Try.f97) (code := body97) (args := ([.int .u64 n])) (loop := noLoop) (md := ⟨true, true⟩) (rd := rd_L5_o_f) (wr := wr_L5_o_f) (wo := wo_L5_o_f) (r := (S.ref03_Number n)) (CfgOk.hint c96_ok [5] []) (by kernel_rfl) (by kernel_rfl) (by kernel_rfl) (no_loops (by kernel_rfl)) (by kernel_rfl) (by kernel_rfl) (by kernel_rfl)
    rw_L5_o_f np_L5_o_f no_L5_o_f (by kernel_rfl) (Eq.mpr (show Vm.Tr.vc (Vm.Fn (c96.hint [5] []) Try.f97 body97 noLoop ([.int .u64 n])) = S.ref03_Number_pre n by kernel_rfl) hp))

noncomputable def sem97 : List W → Option (W × List (List W) × List Prop)
  | [.int .u64 y1] => some (wr_L5_o_f (S.ref03_Number y1), wo_L5_o_f (S.ref03_Number y1), [S.ref03_Number_pre y1])
  | _ => none
noncomputable def c97 : Cfg El := c96.add 97 sem97
theorem c97_ok : CfgOk c97 := c96_ok.add (fun args w => Try.call97 args w) (fun vs r outs ps h hp => by
  unfold sem97 at h
  split at h
  · rename_i y1; cases h; exact fn97 y1 hp
  · cases h)

noncomputable def body53 : Code := (Try.f53.body).getD .skip
noncomputable def lb53_0 : Code := ((nth (loopsOf 0 body53) 0).getD (0, .skip)).2
noncomputable def px53_0 : List W → Option S.ref03_Sum_L0
  | [.int .i64 y1, .list 5 false y2, .int .u64 y3, .list 5 false y4, .bool y5, .list 5 false y6, .list 5 false y7, .int .u64 y8] => some ⟨y1, y2, y3, y4, y5, y6, y7, y8⟩
  | _ => none
noncomputable def tx53_0 (x : S.ref03_Sum_L0) : List W := [.int .i64 x.limbs, .list 5 false x.a, .int .u64 x.n, .list 5 false x.t6, .bool x.t7, .list 5 false x.sum, .list 5 false x.power, .int .u64 x.i]
noncomputable def py53_0 : Ex → List W → Option (Bool × S.ref03_Sum_L0)
  | .ret, [.int .i64 y1, .list 5 false y2, .int .u64 y3, .list 5 false y4, .bool y5, .list 5 false y6, .list 5 false y7, .int .u64 y8] => some ⟨true, ⟨y1, y2, y3, y4, y5, y6, y7, y8⟩⟩
  | .exit 0, [.int .i64 y1, .list 5 false y2, .int .u64 y3, .list 5 false y4, .bool y5, .list 5 false y6, .list 5 false y7, .int .u64 y8] => some ⟨false, ⟨y1, y2, y3, y4, y5, y6, y7, y8⟩⟩
  | _, _ => none
noncomputable def ld53_0 : LD El where
  X := S.ref03_Sum_L0
  Y := Bool × S.ref03_Sum_L0
  keys := [.slot 0, .slot 1, .slot 2, .slot 6, .slot 7, .slot 9, .slot 10, .slot 11]
  fits := [3, 36, 33, 36, 4, 36, 36, 33]
  px := px53_0
  tx := tx53_0
  okeys := [.slot 0, .slot 1, .slot 2, .slot 6, .slot 7, .slot 9, .slot 10, .slot 11]
  ofits := [3, 36, 33, 36, 4, 36, 36, 33]
  py := py53_0
  ty := fun y => bif y.1 then tx53_0 y.2 else tx53_0 y.2
  oex := fun y => bif y.1 then .ret else .exit 0
  junk := [.slot 33, .slot 34, .slot 35, .slot 36, .slot 37, .slot 38, .slot 39, .slot 40, .slot 41, .slot 42, .slot 43, .slot 44, .slot 45, .slot 46]
  rows := []
noncomputable def lo53_0 : (Bool × S.ref03_Sum_L0) → Tr El := fun y => .node y.1 (.leaf (.ret) (zipK ld53_0.okeys (tx53_0 y.2) ++ junkK ld53_0.junk)) (.leaf (.exit 0) (zipK ld53_0.okeys (tx53_0 y.2) ++ junkK ld53_0.junk))
noncomputable def loop53 : Nat → Env El → Tr El
  | 0 => ld53_0.tree c97 Try.f53.ntmps 0 lb53_0 S.ref03_Sum_L0_run lo53_0 S.ref03_Sum_L0_step S.ref03_Sum_L0_vcs
  | _ => fun _ => .fail
theorem lok53_0 : ∀ w0 S0, LoopOk c97 Try.f53.ntmps w0 S0 loop53 0 lb53_0 :=
  loop_ok (c := c97) (n := Try.f53.ntmps) c97_ok mixed ld53_0 (body := lb53_0) (key := 0) (loop := loop53) (F := S.ref03_Sum_L0_run) (out := lo53_0) (step := S.ref03_Sum_L0_step) (vcs := S.ref03_Sum_L0_vcs)
    (fun _ => by kernel_rfl) (no_loops (by kernel_rfl)) rfl rfl
    (fun vs x h => by unfold ld53_0 px53_0 at h; dsimp only at h; split at h <;> first | (cases h; rfl) | cases h)
    (fun e vs y h => by unfold ld53_0 py53_0 at h; dsimp only at h; split at h <;> first | (cases h; exact ⟨rfl, rfl⟩) | cases h)
    (by kernel_rfl) (fun | (true, _) => rfl | (false, _) => rfl) (fun | (true, _), _, h => h.1 rfl | (false, _), _, h => h.2 rfl) (fun x => by kernel_rfl) (fun x h => Eq.mpr (show Vm.Tr.vc (Vm.ev c97 Try.f53.ntmps loop53 0 lb53_0 (ld53_0.vars x) []) = S.ref03_Sum_L0_vcs x by kernel_rfl) h)
theorem fn53 (limbs : Int) (a : (List Int)) (n : Int) (hp : S.ref03_Sum_pre limbs a n) : CallOk c97 53 [.int .i64 limbs, .list 5 false a, .int .u64 n] (wr_L5_b (S.ref03_Sum limbs a n)) (wo_L5_b (S.ref03_Sum limbs a n)) :=
  (call_ok (c := c97) (f := 53) (fn := Try.f53) (code := body53) (args := ([.int .i64 limbs, .list 5 false a, .int .u64 n])) (loop := loop53) (md := ⟨false, false⟩) (rd := rd_L5_b) (wr := wr_L5_b) (wo := wo_L5_b) (r := (S.ref03_Sum limbs a n)) c97_ok (by kernel_rfl) (by kernel_rfl) (by kernel_rfl) (loops_all (l := [(0, lb53_0)]) (by kernel_rfl) ⟨lok53_0, trivial⟩) (by kernel_rfl) (by kernel_rfl) (by kernel_rfl)
    rw_L5_b np_L5_b no_L5_b (by kernel_rfl) (Eq.mpr (show Vm.Tr.vc (Vm.Fn c97 Try.f53 body53 loop53 ([.int .i64 limbs, .list 5 false a, .int .u64 n])) = S.ref03_Sum_pre limbs a n by kernel_rfl) hp))

noncomputable def sem53 : List W → Option (W × List (List W) × List Prop)
  | [.int .i64 y1, .list 5 false y2, .int .u64 y3] => some (wr_L5_b (S.ref03_Sum y1 y2 y3), wo_L5_b (S.ref03_Sum y1 y2 y3), [S.ref03_Sum_pre y1 y2 y3])
  | _ => none
noncomputable def c53 : Cfg El := c97.add 53 sem53
theorem c53_ok : CfgOk c53 := c97_ok.add (fun args w => Try.call53 args w) (fun vs r outs ps h hp => by
  unfold sem53 at h
  split at h
  · rename_i y1 y2 y3; cases h; exact fn53 y1 y2 y3 hp
  · cases h)

noncomputable def body54 : Code := (Try.f54.body).getD .skip
theorem fn54 (c : Int) (n : Int) (hp : S.power_Two_pre c n) : CallOk c53 54 [.int .i64 c, .int .u64 n] (wr_S24_b_f (S.power_Two c n)) (wo_S24_b_f (S.power_Two c n)) :=
  (call_ok (c := c53) (f := 54) (fn := Try.f54) (code := body54) (args := ([.int .i64 c, .int .u64 n])) (loop := noLoop) (md := ⟨false, true⟩) (rd := rd_S24_b_f) (wr := wr_S24_b_f) (wo := wo_S24_b_f) (r := (S.power_Two c n)) c53_ok (by kernel_rfl) (by kernel_rfl) (by kernel_rfl) (no_loops (by kernel_rfl)) (by kernel_rfl) (by kernel_rfl) (by kernel_rfl)
    rw_S24_b_f np_S24_b_f no_S24_b_f (by kernel_rfl) (Eq.mpr (show Vm.Tr.vc (Vm.Fn c53 Try.f54 body54 noLoop ([.int .i64 c, .int .u64 n])) = S.power_Two_pre c n by kernel_rfl) hp))

noncomputable def sem54 : List W → Option (W × List (List W) × List Prop)
  | [.int .i64 y1, .int .u64 y2] => some (wr_S24_b_f (S.power_Two y1 y2), wo_S24_b_f (S.power_Two y1 y2), [S.power_Two_pre y1 y2])
  | _ => none
noncomputable def c54 : Cfg El := c53.add 54 sem54
theorem c54_ok : CfgOk c54 := c53_ok.add (fun args w => Try.call54 args w) (fun vs r outs ps h hp => by
  unfold sem54 at h
  split at h
  · rename_i y1 y2; cases h; exact fn54 y1 y2 hp
  · cases h)
end Go.Proofs.Ythgfoemcjkokjaa
