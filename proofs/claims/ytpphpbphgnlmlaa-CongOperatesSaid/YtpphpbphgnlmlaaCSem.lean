/-
  Printed by a program for this claim: functions of the code as plain functions, and that the code comes to them. Conditions: those that each theorem states.
-/
import Derived.Test.YtpphpbphgnlmlaaCEnv
set_option linter.all false
namespace Go.Proofs.Ytpphpbphgnlmlaa
open Go Go.Proofs Vm
attribute [local irreducible] Vm.Tr.vc Vm.Tr.out Vm.Fn Vm.Fn.out Vm.ev Vm.loopsOf Vm.Tr.noReq
noncomputable def rd_S53 : W → Option (S.Cong)
  | .agg [.int .u64 x1, .int .u64 x2] => some ⟨x1, x2⟩
  | _ => none
noncomputable def wr_S53 (x : S.Cong) : W := .agg [.int .u64 x.M, .int .u64 x.R]
theorem rw_S53 (v : W) (x : S.Cong) (h : rd_S53 v = some x) : v = wr_S53 x := by
  unfold rd_S53 at h
  split at h <;> first | (cases h; rfl) | cases h
theorem np_S53 (x : S.Cong) : noPtr (wr_S53 x) = true := rfl

noncomputable def body42 : Code := (Try.f42.body).getD .skip
theorem fn42 : CallOk base 42 [] (wr_S53 (S.cong_Top)) :=
  call_ok (c := base) (f := 42) (fn := Try.f42) (code := body42) (args := ([])) (loop := noLoop) (rd := rd_S53) (wr := wr_S53) (r := S.cong_Top) base_ok (by kernel_rfl) (by kernel_rfl) (by kernel_rfl) (no_loops (by kernel_rfl)) (Nat.le_of_ble_eq_true (by kernel_rfl))
    rw_S53 np_S53 (by kernel_rfl) (Tr.vc_of_noReq (by kernel_rfl))

noncomputable def sem42 : List W → Option (W × List Prop)
  | [] => some (wr_S53 (S.cong_Top), [])
  | _ => none
noncomputable def c42 : Cfg El := base.add 42 sem42
theorem c42_ok : CfgOk c42 := base_ok.add (fun args w => Try.call42 args w) (fun vs r ps h hp => by
  unfold sem42 at h
  split at h
  · cases h; exact fn42
  · cases h)

noncomputable def body44 : Code := (Try.f44.body).getD .skip
theorem fn44 (n : Int) : CallOk c42 44 [.int .i64 n] (wr_S53 (S.cong_Const n)) :=
  call_ok (c := c42) (f := 44) (fn := Try.f44) (code := body44) (args := ([.int .i64 n])) (loop := noLoop) (rd := rd_S53) (wr := wr_S53) (r := (S.cong_Const n)) c42_ok (by kernel_rfl) (by kernel_rfl) (by kernel_rfl) (no_loops (by kernel_rfl)) (Nat.le_of_ble_eq_true (by kernel_rfl))
    rw_S53 np_S53 (by kernel_rfl) (Tr.vc_of_noReq (by kernel_rfl))

noncomputable def sem44 : List W → Option (W × List Prop)
  | [.int .i64 y1] => some (wr_S53 (S.cong_Const y1), [])
  | _ => none
noncomputable def c44 : Cfg El := c42.add 44 sem44
theorem c44_ok : CfgOk c44 := c42_ok.add (fun args w => Try.call44 args w) (fun vs r ps h hp => by
  unfold sem44 at h
  split at h
  · rename_i y1; cases h; exact fn44 y1
  · cases h)

noncomputable def body43 : Code := (Try.f43.body).getD .skip
theorem fn43 (c : S.Cong) : CallOk c44 43 [.agg [.int .u64 c.M, .int .u64 c.R]] (wr_S53 (S.law20_ref c)) :=
  call_ok (c := c44) (f := 43) (fn := Try.f43) (code := body43) (args := ([.agg [.int .u64 c.M, .int .u64 c.R]])) (loop := noLoop) (rd := rd_S53) (wr := wr_S53) (r := (S.law20_ref c)) c44_ok (by kernel_rfl) (by kernel_rfl) (by kernel_rfl) (no_loops (by kernel_rfl)) (Nat.le_of_ble_eq_true (by kernel_rfl))
    rw_S53 np_S53 (by kernel_rfl) (Tr.vc_of_noReq (by kernel_rfl))

noncomputable def sem43 : List W → Option (W × List Prop)
  | [.agg [.int .u64 y1, .int .u64 y2]] => some (wr_S53 (S.law20_ref (⟨y1, y2⟩ : S.Cong)), [])
  | _ => none
noncomputable def c43 : Cfg El := c44.add 43 sem43
theorem c43_ok : CfgOk c43 := c44_ok.add (fun args w => Try.call43 args w) (fun vs r ps h hp => by
  unfold sem43 at h
  split at h
  · rename_i y1 y2; cases h; exact fn43 (⟨y1, y2⟩ : S.Cong)
  · cases h)

noncomputable def rd_u64 : W → Option (Int)
  | .int .u64 x1 => some x1
  | _ => none
noncomputable def wr_u64 (x : Int) : W := .int .u64 x
theorem rw_u64 (v : W) (x : Int) (h : rd_u64 v = some x) : v = wr_u64 x := by
  unfold rd_u64 at h
  split at h <;> first | (cases h; rfl) | cases h
theorem np_u64 (x : Int) : noPtr (wr_u64 x) = true := rfl

noncomputable def body78 : Code := (Try.f78.body).getD .skip
theorem fn78 (n : Int) (m : Int) (hp : S.ref20_Rest_pre n m) : CallOk c43 78 [.int .i64 n, .int .u64 m] (wr_u64 (S.ref20_Rest n m)) :=
  call_ok (c := c43) (f := 78) (fn := Try.f78) (code := body78) (args := ([.int .i64 n, .int .u64 m])) (loop := noLoop) (rd := rd_u64) (wr := wr_u64) (r := (S.ref20_Rest n m)) c43_ok (by kernel_rfl) (by kernel_rfl) (by kernel_rfl) (no_loops (by kernel_rfl)) (Nat.le_of_ble_eq_true (by kernel_rfl))
    rw_u64 np_u64 (by kernel_rfl) (Eq.mpr (show Vm.Tr.vc (Vm.Fn c43 Try.f78 body78 noLoop ([.int .i64 n, .int .u64 m])) = S.ref20_Rest_pre n m by kernel_rfl) hp)

noncomputable def sem78 : List W → Option (W × List Prop)
  | [.int .i64 y1, .int .u64 y2] => some (wr_u64 (S.ref20_Rest y1 y2), [S.ref20_Rest_pre y1 y2])
  | _ => none
noncomputable def c78 : Cfg El := c43.add 78 sem78
theorem c78_ok : CfgOk c78 := c43_ok.add (fun args w => Try.call78 args w) (fun vs r ps h hp => by
  unfold sem78 at h
  split at h
  · rename_i y1 y2; cases h; exact fn78 y1 y2 hp
  · cases h)

noncomputable def body45 : Code := (Try.f45.body).getD .skip
theorem fn45 (m : Int) (n : Int) (hp : S.ref20_Make_pre m n) : CallOk c78 45 [.int .u64 m, .int .i64 n] (wr_S53 (S.ref20_Make m n)) :=
  call_ok (c := c78) (f := 45) (fn := Try.f45) (code := body45) (args := ([.int .u64 m, .int .i64 n])) (loop := noLoop) (rd := rd_S53) (wr := wr_S53) (r := (S.ref20_Make m n)) c78_ok (by kernel_rfl) (by kernel_rfl) (by kernel_rfl) (no_loops (by kernel_rfl)) (Nat.le_of_ble_eq_true (by kernel_rfl))
    rw_S53 np_S53 (by kernel_rfl) (Eq.mpr (show Vm.Tr.vc (Vm.Fn c78 Try.f45 body45 noLoop ([.int .u64 m, .int .i64 n])) = S.ref20_Make_pre m n by kernel_rfl) hp)

noncomputable def sem45 : List W → Option (W × List Prop)
  | [.int .u64 y1, .int .i64 y2] => some (wr_S53 (S.ref20_Make y1 y2), [S.ref20_Make_pre y1 y2])
  | _ => none
noncomputable def c45 : Cfg El := c78.add 45 sem45
theorem c45_ok : CfgOk c45 := c78_ok.add (fun args w => Try.call45 args w) (fun vs r ps h hp => by
  unfold sem45 at h
  split at h
  · rename_i y1 y2; cases h; exact fn45 y1 y2 hp
  · cases h)

noncomputable def body79 : Code := (Try.f79.body).getD .skip
theorem fn79 (n : Int) (m : Int) (hp : S.cong_rest_pre n m) : CallOk c45 79 [.int .i64 n, .int .u64 m] (wr_u64 (S.cong_rest n m)) :=
  call_ok (c := c45) (f := 79) (fn := Try.f79) (code := body79) (args := ([.int .i64 n, .int .u64 m])) (loop := noLoop) (rd := rd_u64) (wr := wr_u64) (r := (S.cong_rest n m)) c45_ok (by kernel_rfl) (by kernel_rfl) (by kernel_rfl) (no_loops (by kernel_rfl)) (Nat.le_of_ble_eq_true (by kernel_rfl))
    rw_u64 np_u64 (by kernel_rfl) (Eq.mpr (show Vm.Tr.vc (Vm.Fn c45 Try.f79 body79 noLoop ([.int .i64 n, .int .u64 m])) = S.cong_rest_pre n m by kernel_rfl) hp)

noncomputable def sem79 : List W → Option (W × List Prop)
  | [.int .i64 y1, .int .u64 y2] => some (wr_u64 (S.cong_rest y1 y2), [S.cong_rest_pre y1 y2])
  | _ => none
noncomputable def c79 : Cfg El := c45.add 79 sem79
theorem c79_ok : CfgOk c79 := c45_ok.add (fun args w => Try.call79 args w) (fun vs r ps h hp => by
  unfold sem79 at h
  split at h
  · rename_i y1 y2; cases h; exact fn79 y1 y2 hp
  · cases h)

noncomputable def body46 : Code := (Try.f46.body).getD .skip
theorem fn46 (m : Int) (n : Int) (hp : S.cong_Make_pre m n) : CallOk c79 46 [.int .u64 m, .int .i64 n] (wr_S53 (S.cong_Make m n)) :=
  call_ok (c := c79) (f := 46) (fn := Try.f46) (code := body46) (args := ([.int .u64 m, .int .i64 n])) (loop := noLoop) (rd := rd_S53) (wr := wr_S53) (r := (S.cong_Make m n)) c79_ok (by kernel_rfl) (by kernel_rfl) (by kernel_rfl) (no_loops (by kernel_rfl)) (Nat.le_of_ble_eq_true (by kernel_rfl))
    rw_S53 np_S53 (by kernel_rfl) (Eq.mpr (show Vm.Tr.vc (Vm.Fn c79 Try.f46 body46 noLoop ([.int .u64 m, .int .i64 n])) = S.cong_Make_pre m n by kernel_rfl) hp)

noncomputable def sem46 : List W → Option (W × List Prop)
  | [.int .u64 y1, .int .i64 y2] => some (wr_S53 (S.cong_Make y1 y2), [S.cong_Make_pre y1 y2])
  | _ => none
noncomputable def c46 : Cfg El := c79.add 46 sem46
theorem c46_ok : CfgOk c46 := c79_ok.add (fun args w => Try.call46 args w) (fun vs r ps h hp => by
  unfold sem46 at h
  split at h
  · rename_i y1 y2; cases h; exact fn46 y1 y2 hp
  · cases h)

noncomputable def rd_b : W → Option (Bool)
  | .bool x1 => some x1
  | _ => none
noncomputable def wr_b (x : Bool) : W := .bool x
theorem rw_b (v : W) (x : Bool) (h : rd_b v = some x) : v = wr_b x := by
  unfold rd_b at h
  split at h <;> first | (cases h; rfl) | cases h
theorem np_b (x : Bool) : noPtr (wr_b x) = true := rfl

noncomputable def body80 : Code := (Try.f80.body).getD .skip
theorem fn80 (c : S.Cong) : CallOk c46 80 [.agg [.int .u64 c.M, .int .u64 c.R]] (wr_b (S.cong_Cong_single c)) :=
  call_ok (c := c46) (f := 80) (fn := Try.f80) (code := body80) (args := ([.agg [.int .u64 c.M, .int .u64 c.R]])) (loop := noLoop) (rd := rd_b) (wr := wr_b) (r := (S.cong_Cong_single c)) c46_ok (by kernel_rfl) (by kernel_rfl) (by kernel_rfl) (no_loops (by kernel_rfl)) (Nat.le_of_ble_eq_true (by kernel_rfl))
    rw_b np_b (by kernel_rfl) (Tr.vc_of_noReq (by kernel_rfl))

noncomputable def sem80 : List W → Option (W × List Prop)
  | [.agg [.int .u64 y1, .int .u64 y2]] => some (wr_b (S.cong_Cong_single (⟨y1, y2⟩ : S.Cong)), [])
  | _ => none
noncomputable def c80 : Cfg El := c46.add 80 sem80
theorem c80_ok : CfgOk c80 := c46_ok.add (fun args w => Try.call80 args w) (fun vs r ps h hp => by
  unfold sem80 at h
  split at h
  · rename_i y1 y2; cases h; exact fn80 (⟨y1, y2⟩ : S.Cong)
  · cases h)

noncomputable def body47 : Code := (Try.f47.body).getD .skip
theorem fn47 (c : S.Cong) : CallOk c80 47 [.agg [.int .u64 c.M, .int .u64 c.R]] (wr_b (S.cong_Cong_Right c)) :=
  call_ok (c := c80) (f := 47) (fn := Try.f47) (code := body47) (args := ([.agg [.int .u64 c.M, .int .u64 c.R]])) (loop := noLoop) (rd := rd_b) (wr := wr_b) (r := (S.cong_Cong_Right c)) c80_ok (by kernel_rfl) (by kernel_rfl) (by kernel_rfl) (no_loops (by kernel_rfl)) (Nat.le_of_ble_eq_true (by kernel_rfl))
    rw_b np_b (by kernel_rfl) (Tr.vc_of_noReq (by kernel_rfl))

noncomputable def sem47 : List W → Option (W × List Prop)
  | [.agg [.int .u64 y1, .int .u64 y2]] => some (wr_b (S.cong_Cong_Right (⟨y1, y2⟩ : S.Cong)), [])
  | _ => none
noncomputable def c47 : Cfg El := c80.add 47 sem47
theorem c47_ok : CfgOk c47 := c80_ok.add (fun args w => Try.call47 args w) (fun vs r ps h hp => by
  unfold sem47 at h
  split at h
  · rename_i y1 y2; cases h; exact fn47 (⟨y1, y2⟩ : S.Cong)
  · cases h)

noncomputable def body48 : Code := (Try.f48.body).getD .skip
theorem fn48 (c : S.Cong) : CallOk c47 48 [.agg [.int .u64 c.M, .int .u64 c.R]] (wr_b (S.ref20_Right c)) :=
  call_ok (c := c47) (f := 48) (fn := Try.f48) (code := body48) (args := ([.agg [.int .u64 c.M, .int .u64 c.R]])) (loop := noLoop) (rd := rd_b) (wr := wr_b) (r := (S.ref20_Right c)) c47_ok (by kernel_rfl) (by kernel_rfl) (by kernel_rfl) (no_loops (by kernel_rfl)) (Nat.le_of_ble_eq_true (by kernel_rfl))
    rw_b np_b (by kernel_rfl) (Tr.vc_of_noReq (by kernel_rfl))

noncomputable def sem48 : List W → Option (W × List Prop)
  | [.agg [.int .u64 y1, .int .u64 y2]] => some (wr_b (S.ref20_Right (⟨y1, y2⟩ : S.Cong)), [])
  | _ => none
noncomputable def c48 : Cfg El := c47.add 48 sem48
theorem c48_ok : CfgOk c48 := c47_ok.add (fun args w => Try.call48 args w) (fun vs r ps h hp => by
  unfold sem48 at h
  split at h
  · rename_i y1 y2; cases h; exact fn48 (⟨y1, y2⟩ : S.Cong)
  · cases h)

noncomputable def body83 : Code := (Try.f83.body).getD .skip
noncomputable def lb83_0 : Code := ((nth (loopsOf 0 body83) 0).getD (0, .skip)).2
noncomputable def px83_0 : List W → Option S.cong_gcd_L0
  | [.int .u64 y1, .int .u64 y2] => some ⟨y1, y2⟩
  | _ => none
noncomputable def tx83_0 (x : S.cong_gcd_L0) : List W := [.int .u64 x.a, .int .u64 x.b]
noncomputable def py83_0 : Ex → List W → Option (S.cong_gcd_L0)
  | .exit 0, [.int .u64 y1, .int .u64 y2] => some ⟨y1, y2⟩
  | _, _ => none
noncomputable def ld83_0 : LD El where
  X := S.cong_gcd_L0
  Y := S.cong_gcd_L0
  keys := [.slot 0, .slot 1]
  px := px83_0
  tx := tx83_0
  okeys := [.slot 0, .slot 1]
  py := py83_0
  ty := fun y => tx83_0 y
  oex := fun _ => .exit 0
  junk := [.slot 5, .slot 6, .slot 7, .slot 8, .slot 9, .slot 10]
noncomputable def lo83_0 : S.cong_gcd_L0 → Tr El := fun y => .leaf (.exit 0) (zipK ld83_0.okeys (tx83_0 y) ++ junkK ld83_0.junk)
noncomputable def loop83 : Nat → Env El → Tr El
  | 0 => ld83_0.tree lb83_0 S.cong_gcd_L0_run lo83_0 S.cong_gcd_L0_step S.cong_gcd_L0_vcs
  | _ => fun _ => .fail
theorem lok83_0 : ∀ w0 S0, LoopOk c48 Try.f83.ntmps w0 S0 loop83 0 lb83_0 :=
  loop_ok (c := c48) (n := Try.f83.ntmps) c48_ok mixed ld83_0 (body := lb83_0) (key := 0) (loop := loop83) (F := S.cong_gcd_L0_run) (out := lo83_0) (step := S.cong_gcd_L0_step) (vcs := S.cong_gcd_L0_vcs)
    (fun _ => by kernel_rfl) (no_loops (by kernel_rfl))
    (fun vs x h => by unfold ld83_0 px83_0 at h; dsimp only at h; split at h <;> first | (cases h; rfl) | cases h)
    (fun e vs y h => by unfold ld83_0 py83_0 at h; dsimp only at h; split at h <;> first | (cases h; exact ⟨rfl, rfl⟩) | cases h)
    (by kernel_rfl) (fun _ _ h => h) (fun x => by kernel_rfl) (fun x h => Eq.mpr (show Vm.Tr.vc (Vm.ev c48 Try.f83.ntmps loop83 0 lb83_0 (ld83_0.vars x) []) = S.cong_gcd_L0_vcs x by kernel_rfl) h)
theorem fn83 (a : Int) (b : Int) (hp : S.cong_gcd_pre a b) : CallOk c48 83 [.int .u64 a, .int .u64 b] (wr_u64 (S.cong_gcd a b)) :=
  call_ok (c := c48) (f := 83) (fn := Try.f83) (code := body83) (args := ([.int .u64 a, .int .u64 b])) (loop := loop83) (rd := rd_u64) (wr := wr_u64) (r := (S.cong_gcd a b)) c48_ok (by kernel_rfl) (by kernel_rfl) (by kernel_rfl) (loops_all (l := [(0, lb83_0)]) (by kernel_rfl) ⟨lok83_0, trivial⟩) (Nat.le_of_ble_eq_true (by kernel_rfl))
    rw_u64 np_u64 (by kernel_rfl) (Eq.mpr (show Vm.Tr.vc (Vm.Fn c48 Try.f83 body83 loop83 ([.int .u64 a, .int .u64 b])) = S.cong_gcd_pre a b by kernel_rfl) hp)

noncomputable def sem83 : List W → Option (W × List Prop)
  | [.int .u64 y1, .int .u64 y2] => some (wr_u64 (S.cong_gcd y1 y2), [S.cong_gcd_pre y1 y2])
  | _ => none
noncomputable def c83 : Cfg El := c48.add 83 sem83
theorem c83_ok : CfgOk c83 := c48_ok.add (fun args w => Try.call83 args w) (fun vs r ps h hp => by
  unfold sem83 at h
  split at h
  · rename_i y1 y2; cases h; exact fn83 y1 y2 hp
  · cases h)

noncomputable def rd_i64 : W → Option (Int)
  | .int .i64 x1 => some x1
  | _ => none
noncomputable def wr_i64 (x : Int) : W := .int .i64 x
theorem rw_i64 (v : W) (x : Int) (h : rd_i64 v = some x) : v = wr_i64 x := by
  unfold rd_i64 at h
  split at h <;> first | (cases h; rfl) | cases h
theorem np_i64 (x : Int) : noPtr (wr_i64 x) = true := rfl

noncomputable def body85 : Code := (Try.f85.body).getD .skip
theorem fn85 (c : S.Cong) : CallOk c83 85 [.agg [.int .u64 c.M, .int .u64 c.R]] (wr_i64 (S.cong_Cong_number c)) :=
  call_ok (c := c83) (f := 85) (fn := Try.f85) (code := body85) (args := ([.agg [.int .u64 c.M, .int .u64 c.R]])) (loop := noLoop) (rd := rd_i64) (wr := wr_i64) (r := (S.cong_Cong_number c)) c83_ok (by kernel_rfl) (by kernel_rfl) (by kernel_rfl) (no_loops (by kernel_rfl)) (Nat.le_of_ble_eq_true (by kernel_rfl))
    rw_i64 np_i64 (by kernel_rfl) (Tr.vc_of_noReq (by kernel_rfl))

noncomputable def sem85 : List W → Option (W × List Prop)
  | [.agg [.int .u64 y1, .int .u64 y2]] => some (wr_i64 (S.cong_Cong_number (⟨y1, y2⟩ : S.Cong)), [])
  | _ => none
noncomputable def c85 : Cfg El := c83.add 85 sem85
theorem c85_ok : CfgOk c85 := c83_ok.add (fun args w => Try.call85 args w) (fun vs r ps h hp => by
  unfold sem85 at h
  split at h
  · rename_i y1 y2; cases h; exact fn85 (⟨y1, y2⟩ : S.Cong)
  · cases h)

noncomputable def body81 : Code := (Try.f81.body).getD .skip
theorem fn81 (c : S.Cong) (g : Int) (hp : S.cong_Cong_by_pre c g) : CallOk c85 81 [.agg [.int .u64 c.M, .int .u64 c.R], .int .u64 g] (wr_u64 (S.cong_Cong_by c g)) :=
  call_ok (c := c85) (f := 81) (fn := Try.f81) (code := body81) (args := ([.agg [.int .u64 c.M, .int .u64 c.R], .int .u64 g])) (loop := noLoop) (rd := rd_u64) (wr := wr_u64) (r := (S.cong_Cong_by c g)) c85_ok (by kernel_rfl) (by kernel_rfl) (by kernel_rfl) (no_loops (by kernel_rfl)) (Nat.le_of_ble_eq_true (by kernel_rfl))
    rw_u64 np_u64 (by kernel_rfl) (Eq.mpr (show Vm.Tr.vc (Vm.Fn c85 Try.f81 body81 noLoop ([.agg [.int .u64 c.M, .int .u64 c.R], .int .u64 g])) = S.cong_Cong_by_pre c g by kernel_rfl) hp)

noncomputable def sem81 : List W → Option (W × List Prop)
  | [.agg [.int .u64 y1, .int .u64 y2], .int .u64 y3] => some (wr_u64 (S.cong_Cong_by (⟨y1, y2⟩ : S.Cong) y3), [S.cong_Cong_by_pre (⟨y1, y2⟩ : S.Cong) y3])
  | _ => none
noncomputable def c81 : Cfg El := c85.add 81 sem81
theorem c81_ok : CfgOk c81 := c85_ok.add (fun args w => Try.call81 args w) (fun vs r ps h hp => by
  unfold sem81 at h
  split at h
  · rename_i y1 y2 y3; cases h; exact fn81 (⟨y1, y2⟩ : S.Cong) y3 hp
  · cases h)

noncomputable def body87 : Code := (Try.f87.body).getD .skip
theorem fn87 (a : Int) (b : Int) : CallOk c81 87 [.int .u64 a, .int .u64 b] (wr_u64 (S.cong_far a b)) :=
  call_ok (c := c81) (f := 87) (fn := Try.f87) (code := body87) (args := ([.int .u64 a, .int .u64 b])) (loop := noLoop) (rd := rd_u64) (wr := wr_u64) (r := (S.cong_far a b)) c81_ok (by kernel_rfl) (by kernel_rfl) (by kernel_rfl) (no_loops (by kernel_rfl)) (Nat.le_of_ble_eq_true (by kernel_rfl))
    rw_u64 np_u64 (by kernel_rfl) (Tr.vc_of_noReq (by kernel_rfl))

noncomputable def sem87 : List W → Option (W × List Prop)
  | [.int .u64 y1, .int .u64 y2] => some (wr_u64 (S.cong_far y1 y2), [])
  | _ => none
noncomputable def c87 : Cfg El := c81.add 87 sem87
theorem c87_ok : CfgOk c87 := c81_ok.add (fun args w => Try.call87 args w) (fun vs r ps h hp => by
  unfold sem87 at h
  split at h
  · rename_i y1 y2; cases h; exact fn87 y1 y2
  · cases h)

noncomputable def body56 : Code := (Try.f56.body).getD .skip
theorem fn56 (a : S.Cong) (b : S.Cong) (hp : S.cong_Join_pre a b) : CallOk c87 56 [.agg [.int .u64 a.M, .int .u64 a.R], .agg [.int .u64 b.M, .int .u64 b.R]] (wr_S53 (S.cong_Join a b)) :=
  call_ok (c := c87) (f := 56) (fn := Try.f56) (code := body56) (args := ([.agg [.int .u64 a.M, .int .u64 a.R], .agg [.int .u64 b.M, .int .u64 b.R]])) (loop := noLoop) (rd := rd_S53) (wr := wr_S53) (r := (S.cong_Join a b)) c87_ok (by kernel_rfl) (by kernel_rfl) (by kernel_rfl) (no_loops (by kernel_rfl)) (Nat.le_of_ble_eq_true (by kernel_rfl))
    rw_S53 np_S53 (by kernel_rfl) (Eq.mpr (show Vm.Tr.vc (Vm.Fn c87 Try.f56 body56 noLoop ([.agg [.int .u64 a.M, .int .u64 a.R], .agg [.int .u64 b.M, .int .u64 b.R]])) = S.cong_Join_pre a b by kernel_rfl) hp)

noncomputable def sem56 : List W → Option (W × List Prop)
  | [.agg [.int .u64 y1, .int .u64 y2], .agg [.int .u64 y3, .int .u64 y4]] => some (wr_S53 (S.cong_Join (⟨y1, y2⟩ : S.Cong) (⟨y3, y4⟩ : S.Cong)), [S.cong_Join_pre (⟨y1, y2⟩ : S.Cong) (⟨y3, y4⟩ : S.Cong)])
  | _ => none
noncomputable def c56 : Cfg El := c87.add 56 sem56
theorem c56_ok : CfgOk c56 := c87_ok.add (fun args w => Try.call56 args w) (fun vs r ps h hp => by
  unfold sem56 at h
  split at h
  · rename_i y1 y2 y3 y4; cases h; exact fn56 (⟨y1, y2⟩ : S.Cong) (⟨y3, y4⟩ : S.Cong) hp
  · cases h)

noncomputable def body50 : Code := (Try.f50.body).getD .skip
theorem fn50 (c : S.Cong) (n : Int) (hp : S.cong_Cong_Has_pre c n) : CallOk c56 50 [.agg [.int .u64 c.M, .int .u64 c.R], .int .i64 n] (wr_b (S.cong_Cong_Has c n)) :=
  call_ok (c := c56) (f := 50) (fn := Try.f50) (code := body50) (args := ([.agg [.int .u64 c.M, .int .u64 c.R], .int .i64 n])) (loop := noLoop) (rd := rd_b) (wr := wr_b) (r := (S.cong_Cong_Has c n)) c56_ok (by kernel_rfl) (by kernel_rfl) (by kernel_rfl) (no_loops (by kernel_rfl)) (Nat.le_of_ble_eq_true (by kernel_rfl))
    rw_b np_b (by kernel_rfl) (Eq.mpr (show Vm.Tr.vc (Vm.Fn c56 Try.f50 body50 noLoop ([.agg [.int .u64 c.M, .int .u64 c.R], .int .i64 n])) = S.cong_Cong_Has_pre c n by kernel_rfl) hp)

noncomputable def sem50 : List W → Option (W × List Prop)
  | [.agg [.int .u64 y1, .int .u64 y2], .int .i64 y3] => some (wr_b (S.cong_Cong_Has (⟨y1, y2⟩ : S.Cong) y3), [S.cong_Cong_Has_pre (⟨y1, y2⟩ : S.Cong) y3])
  | _ => none
noncomputable def c50 : Cfg El := c56.add 50 sem50
theorem c50_ok : CfgOk c50 := c56_ok.add (fun args w => Try.call50 args w) (fun vs r ps h hp => by
  unfold sem50 at h
  split at h
  · rename_i y1 y2 y3; cases h; exact fn50 (⟨y1, y2⟩ : S.Cong) y3 hp
  · cases h)

noncomputable def rd_S53_b : W → Option (S.Cong × Bool)
  | .tup [.agg [.int .u64 x1, .int .u64 x2], .bool x3] => some ⟨⟨x1, x2⟩, x3⟩
  | _ => none
noncomputable def wr_S53_b (x : S.Cong × Bool) : W := .tup [.agg [.int .u64 x.1.M, .int .u64 x.1.R], .bool x.2]
theorem rw_S53_b (v : W) (x : S.Cong × Bool) (h : rd_S53_b v = some x) : v = wr_S53_b x := by
  unfold rd_S53_b at h
  split at h <;> first | (cases h; rfl) | cases h
theorem np_S53_b (x : S.Cong × Bool) : noPtr (wr_S53_b x) = true := rfl

noncomputable def body84 : Code := (Try.f84.body).getD .skip
theorem fn84 (c : S.Cong) (ok : Bool) : CallOk c50 84 [.agg [.int .u64 c.M, .int .u64 c.R], .bool ok] (wr_S53_b (S.cong_Cong_if1 c ok)) :=
  call_ok (c := c50) (f := 84) (fn := Try.f84) (code := body84) (args := ([.agg [.int .u64 c.M, .int .u64 c.R], .bool ok])) (loop := noLoop) (rd := rd_S53_b) (wr := wr_S53_b) (r := (S.cong_Cong_if1 c ok)) c50_ok (by kernel_rfl) (by kernel_rfl) (by kernel_rfl) (no_loops (by kernel_rfl)) (Nat.le_of_ble_eq_true (by kernel_rfl))
    rw_S53_b np_S53_b (by kernel_rfl) (Tr.vc_of_noReq (by kernel_rfl))

noncomputable def sem84 : List W → Option (W × List Prop)
  | [.agg [.int .u64 y1, .int .u64 y2], .bool y3] => some (wr_S53_b (S.cong_Cong_if1 (⟨y1, y2⟩ : S.Cong) y3), [])
  | _ => none
noncomputable def c84 : Cfg El := c50.add 84 sem84
theorem c84_ok : CfgOk c84 := c50_ok.add (fun args w => Try.call84 args w) (fun vs r ps h hp => by
  unfold sem84 at h
  split at h
  · rename_i y1 y2 y3; cases h; exact fn84 (⟨y1, y2⟩ : S.Cong) y3
  · cases h)

noncomputable def body52 : Code := (Try.f52.body).getD .skip
theorem fn52 (a : S.Cong) (b : S.Cong) (hp : S.cong_Within_pre a b) : CallOk c84 52 [.agg [.int .u64 a.M, .int .u64 a.R], .agg [.int .u64 b.M, .int .u64 b.R]] (wr_b (S.cong_Within a b)) :=
  call_ok (c := c84) (f := 52) (fn := Try.f52) (code := body52) (args := ([.agg [.int .u64 a.M, .int .u64 a.R], .agg [.int .u64 b.M, .int .u64 b.R]])) (loop := noLoop) (rd := rd_b) (wr := wr_b) (r := (S.cong_Within a b)) c84_ok (by kernel_rfl) (by kernel_rfl) (by kernel_rfl) (no_loops (by kernel_rfl)) (Nat.le_of_ble_eq_true (by kernel_rfl))
    rw_b np_b (by kernel_rfl) (Eq.mpr (show Vm.Tr.vc (Vm.Fn c84 Try.f52 body52 noLoop ([.agg [.int .u64 a.M, .int .u64 a.R], .agg [.int .u64 b.M, .int .u64 b.R]])) = S.cong_Within_pre a b by kernel_rfl) hp)

noncomputable def sem52 : List W → Option (W × List Prop)
  | [.agg [.int .u64 y1, .int .u64 y2], .agg [.int .u64 y3, .int .u64 y4]] => some (wr_b (S.cong_Within (⟨y1, y2⟩ : S.Cong) (⟨y3, y4⟩ : S.Cong)), [S.cong_Within_pre (⟨y1, y2⟩ : S.Cong) (⟨y3, y4⟩ : S.Cong)])
  | _ => none
noncomputable def c52 : Cfg El := c84.add 52 sem52
theorem c52_ok : CfgOk c52 := c84_ok.add (fun args w => Try.call52 args w) (fun vs r ps h hp => by
  unfold sem52 at h
  split at h
  · rename_i y1 y2 y3 y4; cases h; exact fn52 (⟨y1, y2⟩ : S.Cong) (⟨y3, y4⟩ : S.Cong) hp
  · cases h)

noncomputable def body54 : Code := (Try.f54.body).getD .skip
theorem fn54 (a : S.Cong) (b : S.Cong) (hp : S.cong_Meet_pre a b) : CallOk c52 54 [.agg [.int .u64 a.M, .int .u64 a.R], .agg [.int .u64 b.M, .int .u64 b.R]] (wr_S53_b (S.cong_Meet a b)) :=
  call_ok (c := c52) (f := 54) (fn := Try.f54) (code := body54) (args := ([.agg [.int .u64 a.M, .int .u64 a.R], .agg [.int .u64 b.M, .int .u64 b.R]])) (loop := noLoop) (rd := rd_S53_b) (wr := wr_S53_b) (r := (S.cong_Meet a b)) c52_ok (by kernel_rfl) (by kernel_rfl) (by kernel_rfl) (no_loops (by kernel_rfl)) (Nat.le_of_ble_eq_true (by kernel_rfl))
    rw_S53_b np_S53_b (by kernel_rfl) (Eq.mpr (show Vm.Tr.vc (Vm.Fn c52 Try.f54 body54 noLoop ([.agg [.int .u64 a.M, .int .u64 a.R], .agg [.int .u64 b.M, .int .u64 b.R]])) = S.cong_Meet_pre a b by kernel_rfl) hp)

noncomputable def sem54 : List W → Option (W × List Prop)
  | [.agg [.int .u64 y1, .int .u64 y2], .agg [.int .u64 y3, .int .u64 y4]] => some (wr_S53_b (S.cong_Meet (⟨y1, y2⟩ : S.Cong) (⟨y3, y4⟩ : S.Cong)), [S.cong_Meet_pre (⟨y1, y2⟩ : S.Cong) (⟨y3, y4⟩ : S.Cong)])
  | _ => none
noncomputable def c54 : Cfg El := c52.add 54 sem54
theorem c54_ok : CfgOk c54 := c52_ok.add (fun args w => Try.call54 args w) (fun vs r ps h hp => by
  unfold sem54 at h
  split at h
  · rename_i y1 y2 y3 y4; cases h; exact fn54 (⟨y1, y2⟩ : S.Cong) (⟨y3, y4⟩ : S.Cong) hp
  · cases h)

noncomputable def rd_i64_b : W → Option (Int × Bool)
  | .tup [.int .i64 x1, .bool x2] => some ⟨x1, x2⟩
  | _ => none
noncomputable def wr_i64_b (x : Int × Bool) : W := .tup [.int .i64 x.1, .bool x.2]
theorem rw_i64_b (v : W) (x : Int × Bool) (h : rd_i64_b v = some x) : v = wr_i64_b x := by
  unfold rd_i64_b at h
  split at h <;> first | (cases h; rfl) | cases h
theorem np_i64_b (x : Int × Bool) : noPtr (wr_i64_b x) = true := rfl

noncomputable def body98 : Code := (Try.f98.body).getD .skip
theorem fn98 (c : S.Cong) (ok : Bool) : CallOk c54 98 [.agg [.int .u64 c.M, .int .u64 c.R], .bool ok] (wr_i64_b (S.cong_Cong_number0 c ok)) :=
  call_ok (c := c54) (f := 98) (fn := Try.f98) (code := body98) (args := ([.agg [.int .u64 c.M, .int .u64 c.R], .bool ok])) (loop := noLoop) (rd := rd_i64_b) (wr := wr_i64_b) (r := (S.cong_Cong_number0 c ok)) c54_ok (by kernel_rfl) (by kernel_rfl) (by kernel_rfl) (no_loops (by kernel_rfl)) (Nat.le_of_ble_eq_true (by kernel_rfl))
    rw_i64_b np_i64_b (by kernel_rfl) (Tr.vc_of_noReq (by kernel_rfl))

noncomputable def sem98 : List W → Option (W × List Prop)
  | [.agg [.int .u64 y1, .int .u64 y2], .bool y3] => some (wr_i64_b (S.cong_Cong_number0 (⟨y1, y2⟩ : S.Cong) y3), [])
  | _ => none
noncomputable def c98 : Cfg El := c54.add 98 sem98
theorem c98_ok : CfgOk c98 := c54_ok.add (fun args w => Try.call98 args w) (fun vs r ps h hp => by
  unfold sem98 at h
  split at h
  · rename_i y1 y2 y3; cases h; exact fn98 (⟨y1, y2⟩ : S.Cong) y3
  · cases h)

noncomputable def sem99 : List W → Option (W × List Prop)
  | [.int .u64 x, .int .u64 y, .int .u64 c] => some (.tup [.int .u64 (S.math_bits_Add64 x y c).1, .int .u64 (S.math_bits_Add64 x y c).2], [S.math_bits_Add64_pre x y c])
  | _ => none
noncomputable def c99 : Cfg El := c98.add 99 sem99
theorem c99_ok : CfgOk c99 := c98_ok.addExt (fun vs r ps h hp => by
  unfold sem99 at h
  split at h
  · cases h; exact ext_add64 (c := c98) (fn := Try.f99) (by kernel_rfl) (by kernel_rfl) (by kernel_rfl) (by kernel_rfl) (by kernel_rfl) hp
  · cases h)

noncomputable def body88 : Code := (Try.f88.body).getD .skip
theorem fn88 (a : Int) (b : Int) (m : Int) (hp : S.cong_plus_pre a b m) : CallOk c99 88 [.int .u64 a, .int .u64 b, .int .u64 m] (wr_u64 (S.cong_plus a b m)) :=
  call_ok (c := c99) (f := 88) (fn := Try.f88) (code := body88) (args := ([.int .u64 a, .int .u64 b, .int .u64 m])) (loop := noLoop) (rd := rd_u64) (wr := wr_u64) (r := (S.cong_plus a b m)) c99_ok (by kernel_rfl) (by kernel_rfl) (by kernel_rfl) (no_loops (by kernel_rfl)) (Nat.le_of_ble_eq_true (by kernel_rfl))
    rw_u64 np_u64 (by kernel_rfl) (Eq.mpr (show Vm.Tr.vc (Vm.Fn c99 Try.f88 body88 noLoop ([.int .u64 a, .int .u64 b, .int .u64 m])) = S.cong_plus_pre a b m by kernel_rfl) hp)

noncomputable def sem88 : List W → Option (W × List Prop)
  | [.int .u64 y1, .int .u64 y2, .int .u64 y3] => some (wr_u64 (S.cong_plus y1 y2 y3), [S.cong_plus_pre y1 y2 y3])
  | _ => none
noncomputable def c88 : Cfg El := c99.add 88 sem88
theorem c88_ok : CfgOk c88 := c99_ok.add (fun args w => Try.call88 args w) (fun vs r ps h hp => by
  unfold sem88 at h
  split at h
  · rename_i y1 y2 y3; cases h; exact fn88 y1 y2 y3 hp
  · cases h)

noncomputable def body67 : Code := (Try.f67.body).getD .skip
theorem fn67 (c : S.Cong) (a1 : Int) (hp : S.cong_Cong_Least_pre c a1) : CallOk c88 67 [.agg [.int .u64 c.M, .int .u64 c.R], .int .i64 a1] (wr_i64_b (S.cong_Cong_Least c a1)) :=
  call_ok (c := c88) (f := 67) (fn := Try.f67) (code := body67) (args := ([.agg [.int .u64 c.M, .int .u64 c.R], .int .i64 a1])) (loop := noLoop) (rd := rd_i64_b) (wr := wr_i64_b) (r := (S.cong_Cong_Least c a1)) c88_ok (by kernel_rfl) (by kernel_rfl) (by kernel_rfl) (no_loops (by kernel_rfl)) (Nat.le_of_ble_eq_true (by kernel_rfl))
    rw_i64_b np_i64_b (by kernel_rfl) (Eq.mpr (show Vm.Tr.vc (Vm.Fn c88 Try.f67 body67 noLoop ([.agg [.int .u64 c.M, .int .u64 c.R], .int .i64 a1])) = S.cong_Cong_Least_pre c a1 by kernel_rfl) hp)

noncomputable def sem67 : List W → Option (W × List Prop)
  | [.agg [.int .u64 y1, .int .u64 y2], .int .i64 y3] => some (wr_i64_b (S.cong_Cong_Least (⟨y1, y2⟩ : S.Cong) y3), [S.cong_Cong_Least_pre (⟨y1, y2⟩ : S.Cong) y3])
  | _ => none
noncomputable def c67 : Cfg El := c88.add 67 sem67
theorem c67_ok : CfgOk c67 := c88_ok.add (fun args w => Try.call67 args w) (fun vs r ps h hp => by
  unfold sem67 at h
  split at h
  · rename_i y1 y2 y3; cases h; exact fn67 (⟨y1, y2⟩ : S.Cong) y3 hp
  · cases h)

noncomputable def body57 : Code := (Try.f57.body).getD .skip
theorem fn57 (a : S.Cong) (b : S.Cong) (hp : S.cong_Add_pre a b) : CallOk c67 57 [.agg [.int .u64 a.M, .int .u64 a.R], .agg [.int .u64 b.M, .int .u64 b.R]] (wr_S53 (S.cong_Add a b)) :=
  call_ok (c := c67) (f := 57) (fn := Try.f57) (code := body57) (args := ([.agg [.int .u64 a.M, .int .u64 a.R], .agg [.int .u64 b.M, .int .u64 b.R]])) (loop := noLoop) (rd := rd_S53) (wr := wr_S53) (r := (S.cong_Add a b)) c67_ok (by kernel_rfl) (by kernel_rfl) (by kernel_rfl) (no_loops (by kernel_rfl)) (Nat.le_of_ble_eq_true (by kernel_rfl))
    rw_S53 np_S53 (by kernel_rfl) (Eq.mpr (show Vm.Tr.vc (Vm.Fn c67 Try.f57 body57 noLoop ([.agg [.int .u64 a.M, .int .u64 a.R], .agg [.int .u64 b.M, .int .u64 b.R]])) = S.cong_Add_pre a b by kernel_rfl) hp)

noncomputable def sem57 : List W → Option (W × List Prop)
  | [.agg [.int .u64 y1, .int .u64 y2], .agg [.int .u64 y3, .int .u64 y4]] => some (wr_S53 (S.cong_Add (⟨y1, y2⟩ : S.Cong) (⟨y3, y4⟩ : S.Cong)), [S.cong_Add_pre (⟨y1, y2⟩ : S.Cong) (⟨y3, y4⟩ : S.Cong)])
  | _ => none
noncomputable def c57 : Cfg El := c67.add 57 sem57
theorem c57_ok : CfgOk c57 := c67_ok.add (fun args w => Try.call57 args w) (fun vs r ps h hp => by
  unfold sem57 at h
  split at h
  · rename_i y1 y2 y3 y4; cases h; exact fn57 (⟨y1, y2⟩ : S.Cong) (⟨y3, y4⟩ : S.Cong) hp
  · cases h)

noncomputable def rd_u64_u64 : W → Option (Int × Int)
  | .tup [.int .u64 x1, .int .u64 x2] => some ⟨x1, x2⟩
  | _ => none
noncomputable def wr_u64_u64 (x : Int × Int) : W := .tup [.int .u64 x.1, .int .u64 x.2]
theorem rw_u64_u64 (v : W) (x : Int × Int) (h : rd_u64_u64 v = some x) : v = wr_u64_u64 x := by
  unfold rd_u64_u64 at h
  split at h <;> first | (cases h; rfl) | cases h
theorem np_u64_u64 (x : Int × Int) : noPtr (wr_u64_u64 x) = true := rfl

noncomputable def body100 : Code := (Try.f100.body).getD .skip
theorem fn100 (x : Int) (y : Int) : CallOk c57 100 [.int .u64 x, .int .u64 y] (wr_u64_u64 (S.math_bits_Mul64 x y)) :=
  call_ok (c := c57) (f := 100) (fn := Try.f100) (code := body100) (args := ([.int .u64 x, .int .u64 y])) (loop := noLoop) (rd := rd_u64_u64) (wr := wr_u64_u64) (r := (S.math_bits_Mul64 x y)) c57_ok (by kernel_rfl) (by kernel_rfl) (by kernel_rfl) (no_loops (by kernel_rfl)) (Nat.le_of_ble_eq_true (by kernel_rfl))
    rw_u64_u64 np_u64_u64 (by kernel_rfl) (Tr.vc_of_noReq (by kernel_rfl))

noncomputable def sem100 : List W → Option (W × List Prop)
  | [.int .u64 y1, .int .u64 y2] => some (wr_u64_u64 (S.math_bits_Mul64 y1 y2), [])
  | _ => none
noncomputable def c100 : Cfg El := c57.add 100 sem100
theorem c100_ok : CfgOk c100 := c57_ok.add (fun args w => Try.call100 args w) (fun vs r ps h hp => by
  unfold sem100 at h
  split at h
  · rename_i y1 y2; cases h; exact fn100 y1 y2
  · cases h)

noncomputable def rd_u64_b : W → Option (Int × Bool)
  | .tup [.int .u64 x1, .bool x2] => some ⟨x1, x2⟩
  | _ => none
noncomputable def wr_u64_b (x : Int × Bool) : W := .tup [.int .u64 x.1, .bool x.2]
theorem rw_u64_b (v : W) (x : Int × Bool) (h : rd_u64_b v = some x) : v = wr_u64_b x := by
  unfold rd_u64_b at h
  split at h <;> first | (cases h; rfl) | cases h
theorem np_u64_b (x : Int × Bool) : noPtr (wr_u64_b x) = true := rfl

noncomputable def body90 : Code := (Try.f90.body).getD .skip
theorem fn90 (a : Int) (b : Int) : CallOk c100 90 [.int .u64 a, .int .u64 b] (wr_u64_b (S.cong_fits a b)) :=
  call_ok (c := c100) (f := 90) (fn := Try.f90) (code := body90) (args := ([.int .u64 a, .int .u64 b])) (loop := noLoop) (rd := rd_u64_b) (wr := wr_u64_b) (r := (S.cong_fits a b)) c100_ok (by kernel_rfl) (by kernel_rfl) (by kernel_rfl) (no_loops (by kernel_rfl)) (Nat.le_of_ble_eq_true (by kernel_rfl))
    rw_u64_b np_u64_b (by kernel_rfl) (Tr.vc_of_noReq (by kernel_rfl))

noncomputable def sem90 : List W → Option (W × List Prop)
  | [.int .u64 y1, .int .u64 y2] => some (wr_u64_b (S.cong_fits y1 y2), [])
  | _ => none
noncomputable def c90 : Cfg El := c100.add 90 sem90
theorem c90_ok : CfgOk c90 := c100_ok.add (fun args w => Try.call90 args w) (fun vs r ps h hp => by
  unfold sem90 at h
  split at h
  · rename_i y1 y2; cases h; exact fn90 y1 y2
  · cases h)

noncomputable def body104 : Code := (Try.f104.body).getD .skip
theorem fn104 (x : Int) (hp : S.math_bits_Len64_pre x) : CallOk c90 104 [.int .u64 x] (wr_i64 (S.math_bits_Len64 x)) :=
  call_ok (c := c90) (f := 104) (fn := Try.f104) (code := body104) (args := ([.int .u64 x])) (loop := noLoop) (rd := rd_i64) (wr := wr_i64) (r := (S.math_bits_Len64 x)) c90_ok (by kernel_rfl) (by kernel_rfl) (by kernel_rfl) (no_loops (by kernel_rfl)) (Nat.le_of_ble_eq_true (by kernel_rfl))
    rw_i64 np_i64 (by kernel_rfl) (Eq.mpr (show Vm.Tr.vc (Vm.Fn c90 Try.f104 body104 noLoop ([.int .u64 x])) = S.math_bits_Len64_pre x by kernel_rfl) hp)

noncomputable def sem104 : List W → Option (W × List Prop)
  | [.int .u64 y1] => some (wr_i64 (S.math_bits_Len64 y1), [S.math_bits_Len64_pre y1])
  | _ => none
noncomputable def c104 : Cfg El := c90.add 104 sem104
theorem c104_ok : CfgOk c104 := c90_ok.add (fun args w => Try.call104 args w) (fun vs r ps h hp => by
  unfold sem104 at h
  split at h
  · rename_i y1; cases h; exact fn104 y1 hp
  · cases h)

noncomputable def body103 : Code := (Try.f103.body).getD .skip
theorem fn103 (x : Int) (hp : S.math_bits_LeadingZeros64_pre x) : CallOk c104 103 [.int .u64 x] (wr_i64 (S.math_bits_LeadingZeros64 x)) :=
  call_ok (c := c104) (f := 103) (fn := Try.f103) (code := body103) (args := ([.int .u64 x])) (loop := noLoop) (rd := rd_i64) (wr := wr_i64) (r := (S.math_bits_LeadingZeros64 x)) c104_ok (by kernel_rfl) (by kernel_rfl) (by kernel_rfl) (no_loops (by kernel_rfl)) (Nat.le_of_ble_eq_true (by kernel_rfl))
    rw_i64 np_i64 (by kernel_rfl) (Eq.mpr (show Vm.Tr.vc (Vm.Fn c104 Try.f103 body103 noLoop ([.int .u64 x])) = S.math_bits_LeadingZeros64_pre x by kernel_rfl) hp)

noncomputable def sem103 : List W → Option (W × List Prop)
  | [.int .u64 y1] => some (wr_i64 (S.math_bits_LeadingZeros64 y1), [S.math_bits_LeadingZeros64_pre y1])
  | _ => none
noncomputable def c103 : Cfg El := c104.add 103 sem103
theorem c103_ok : CfgOk c103 := c104_ok.add (fun args w => Try.call103 args w) (fun vs r ps h hp => by
  unfold sem103 at h
  split at h
  · rename_i y1; cases h; exact fn103 y1 hp
  · cases h)

noncomputable def body102 : Code := (Try.f102.body).getD .skip
noncomputable def lb102_0 : Code := ((nth (loopsOf 0 body102) 0).getD (0, .skip)).2
noncomputable def px102_0 : List W → Option S.math_bits_Div64_L0
  | [.int .u64 y1, .int .u64 y2, .int .u64 y3, .int .u64 y4, .int .u64 y5] => some ⟨y1, y2, y3, y4, y5⟩
  | _ => none
noncomputable def tx102_0 (x : S.math_bits_Div64_L0) : List W := [.int .u64 x.yn1, .int .u64 x.yn0, .int .u64 x.un1, .int .u64 x.q1, .int .u64 x.rhat]
noncomputable def py102_0 : Ex → List W → Option (S.math_bits_Div64_L0)
  | .exit 0, [.int .u64 y1, .int .u64 y2, .int .u64 y3, .int .u64 y4, .int .u64 y5] => some ⟨y1, y2, y3, y4, y5⟩
  | _, _ => none
noncomputable def ld102_0 : LD El where
  X := S.math_bits_Div64_L0
  Y := S.math_bits_Div64_L0
  keys := [.slot 9, .slot 10, .slot 13, .slot 15, .slot 16]
  px := px102_0
  tx := tx102_0
  okeys := [.slot 9, .slot 10, .slot 13, .slot 15, .slot 16]
  py := py102_0
  ty := fun y => tx102_0 y
  oex := fun _ => .exit 0
  junk := [.slot 67, .slot 68, .slot 69, .slot 70, .slot 71, .slot 72, .slot 73, .slot 74, .slot 75, .slot 76, .slot 77, .slot 78, .slot 79, .slot 80, .slot 81, .slot 82, .slot 83, .slot 84, .slot 85]
noncomputable def lo102_0 : S.math_bits_Div64_L0 → Tr El := fun y => .leaf (.exit 0) (zipK ld102_0.okeys (tx102_0 y) ++ junkK ld102_0.junk)
noncomputable def lb102_2 : Code := ((nth (loopsOf 0 body102) 1).getD (0, .skip)).2
noncomputable def px102_2 : List W → Option S.math_bits_Div64_L2
  | [.int .u64 y1, .int .u64 y2, .int .u64 y3, .int .u64 y4, .int .u64 y5] => some ⟨y1, y2, y3, y4, y5⟩
  | _ => none
noncomputable def tx102_2 (x : S.math_bits_Div64_L2) : List W := [.int .u64 x.yn1, .int .u64 x.yn0, .int .u64 x.un0, .int .u64 x.rhat, .int .u64 x.q0]
noncomputable def py102_2 : Ex → List W → Option (S.math_bits_Div64_L2)
  | .exit 2, [.int .u64 y1, .int .u64 y2, .int .u64 y3, .int .u64 y4, .int .u64 y5] => some ⟨y1, y2, y3, y4, y5⟩
  | _, _ => none
noncomputable def ld102_2 : LD El where
  X := S.math_bits_Div64_L2
  Y := S.math_bits_Div64_L2
  keys := [.slot 9, .slot 10, .slot 14, .slot 16, .slot 18]
  px := px102_2
  tx := tx102_2
  okeys := [.slot 9, .slot 10, .slot 14, .slot 16, .slot 18]
  py := py102_2
  ty := fun y => tx102_2 y
  oex := fun _ => .exit 2
  junk := [.slot 102, .slot 103, .slot 104, .slot 105, .slot 106, .slot 107, .slot 108, .slot 109, .slot 110, .slot 111, .slot 112, .slot 113, .slot 114, .slot 115, .slot 116, .slot 117, .slot 118, .slot 119, .slot 120]
noncomputable def lo102_2 : S.math_bits_Div64_L2 → Tr El := fun y => .leaf (.exit 2) (zipK ld102_2.okeys (tx102_2 y) ++ junkK ld102_2.junk)
noncomputable def loop102 : Nat → Env El → Tr El
  | 0 => ld102_0.tree lb102_0 S.math_bits_Div64_L0_run lo102_0 S.math_bits_Div64_L0_step S.math_bits_Div64_L0_vcs
  | 2 => ld102_2.tree lb102_2 S.math_bits_Div64_L2_run lo102_2 S.math_bits_Div64_L2_step S.math_bits_Div64_L2_vcs
  | _ => fun _ => .fail
theorem lok102_2 : ∀ w0 S0, LoopOk c103 Try.f102.ntmps w0 S0 loop102 2 lb102_2 :=
  loop_ok (c := c103) (n := Try.f102.ntmps) c103_ok mixed ld102_2 (body := lb102_2) (key := 2) (loop := loop102) (F := S.math_bits_Div64_L2_run) (out := lo102_2) (step := S.math_bits_Div64_L2_step) (vcs := S.math_bits_Div64_L2_vcs)
    (fun _ => by kernel_rfl) (no_loops (by kernel_rfl))
    (fun vs x h => by unfold ld102_2 px102_2 at h; dsimp only at h; split at h <;> first | (cases h; rfl) | cases h)
    (fun e vs y h => by unfold ld102_2 py102_2 at h; dsimp only at h; split at h <;> first | (cases h; exact ⟨rfl, rfl⟩) | cases h)
    (by kernel_rfl) (fun _ _ h => h) (fun x => by kernel_rfl) (fun _ _ => Tr.vc_of_noReq (by kernel_rfl))
theorem lok102_0 : ∀ w0 S0, LoopOk c103 Try.f102.ntmps w0 S0 loop102 0 lb102_0 :=
  loop_ok (c := c103) (n := Try.f102.ntmps) c103_ok mixed ld102_0 (body := lb102_0) (key := 0) (loop := loop102) (F := S.math_bits_Div64_L0_run) (out := lo102_0) (step := S.math_bits_Div64_L0_step) (vcs := S.math_bits_Div64_L0_vcs)
    (fun _ => by kernel_rfl) (no_loops (by kernel_rfl))
    (fun vs x h => by unfold ld102_0 px102_0 at h; dsimp only at h; split at h <;> first | (cases h; rfl) | cases h)
    (fun e vs y h => by unfold ld102_0 py102_0 at h; dsimp only at h; split at h <;> first | (cases h; exact ⟨rfl, rfl⟩) | cases h)
    (by kernel_rfl) (fun _ _ h => h) (fun x => by kernel_rfl) (fun _ _ => Tr.vc_of_noReq (by kernel_rfl))
theorem fn102 (hi : Int) (lo : Int) (y : Int) (hp : S.math_bits_Div64_pre hi lo y) : CallOk c103 102 [.int .u64 hi, .int .u64 lo, .int .u64 y] (wr_u64_u64 (S.math_bits_Div64 hi lo y)) :=
  call_ok (c := c103) (f := 102) (fn := Try.f102) (code := body102) (args := ([.int .u64 hi, .int .u64 lo, .int .u64 y])) (loop := loop102) (rd := rd_u64_u64) (wr := wr_u64_u64) (r := (S.math_bits_Div64 hi lo y)) c103_ok (by kernel_rfl) (by kernel_rfl) (by kernel_rfl) (loops_all (l := [(0, lb102_0), (2, lb102_2)]) (by kernel_rfl) ⟨lok102_0, ⟨lok102_2, trivial⟩⟩) (Nat.le_of_ble_eq_true (by kernel_rfl))
    rw_u64_u64 np_u64_u64 (by kernel_rfl) (Eq.mpr (show Vm.Tr.vc (Vm.Fn c103 Try.f102 body102 loop102 ([.int .u64 hi, .int .u64 lo, .int .u64 y])) = S.math_bits_Div64_pre hi lo y by kernel_rfl) hp)

noncomputable def sem102 : List W → Option (W × List Prop)
  | [.int .u64 y1, .int .u64 y2, .int .u64 y3] => some (wr_u64_u64 (S.math_bits_Div64 y1 y2 y3), [S.math_bits_Div64_pre y1 y2 y3])
  | _ => none
noncomputable def c102 : Cfg El := c103.add 102 sem102
theorem c102_ok : CfgOk c102 := c103_ok.add (fun args w => Try.call102 args w) (fun vs r ps h hp => by
  unfold sem102 at h
  split at h
  · rename_i y1 y2 y3; cases h; exact fn102 y1 y2 y3 hp
  · cases h)

noncomputable def body101 : Code := (Try.f101.body).getD .skip
theorem fn101 (hi : Int) (lo : Int) (y : Int) (hp : S.math_bits_Rem64_pre hi lo y) : CallOk c102 101 [.int .u64 hi, .int .u64 lo, .int .u64 y] (wr_u64 (S.math_bits_Rem64 hi lo y)) :=
  call_ok (c := c102) (f := 101) (fn := Try.f101) (code := body101) (args := ([.int .u64 hi, .int .u64 lo, .int .u64 y])) (loop := noLoop) (rd := rd_u64) (wr := wr_u64) (r := (S.math_bits_Rem64 hi lo y)) c102_ok (by kernel_rfl) (by kernel_rfl) (by kernel_rfl) (no_loops (by kernel_rfl)) (Nat.le_of_ble_eq_true (by kernel_rfl))
    rw_u64 np_u64 (by kernel_rfl) (Eq.mpr (show Vm.Tr.vc (Vm.Fn c102 Try.f101 body101 noLoop ([.int .u64 hi, .int .u64 lo, .int .u64 y])) = S.math_bits_Rem64_pre hi lo y by kernel_rfl) hp)

noncomputable def sem101 : List W → Option (W × List Prop)
  | [.int .u64 y1, .int .u64 y2, .int .u64 y3] => some (wr_u64 (S.math_bits_Rem64 y1 y2 y3), [S.math_bits_Rem64_pre y1 y2 y3])
  | _ => none
noncomputable def c101 : Cfg El := c102.add 101 sem101
theorem c101_ok : CfgOk c101 := c102_ok.add (fun args w => Try.call101 args w) (fun vs r ps h hp => by
  unfold sem101 at h
  split at h
  · rename_i y1 y2 y3; cases h; exact fn101 y1 y2 y3 hp
  · cases h)

noncomputable def body91 : Code := (Try.f91.body).getD .skip
theorem fn91 (a : Int) (b : Int) (m : Int) (hp : S.cong_times_pre a b m) : CallOk c101 91 [.int .u64 a, .int .u64 b, .int .u64 m] (wr_u64 (S.cong_times a b m)) :=
  call_ok (c := c101) (f := 91) (fn := Try.f91) (code := body91) (args := ([.int .u64 a, .int .u64 b, .int .u64 m])) (loop := noLoop) (rd := rd_u64) (wr := wr_u64) (r := (S.cong_times a b m)) c101_ok (by kernel_rfl) (by kernel_rfl) (by kernel_rfl) (no_loops (by kernel_rfl)) (Nat.le_of_ble_eq_true (by kernel_rfl))
    rw_u64 np_u64 (by kernel_rfl) (Eq.mpr (show Vm.Tr.vc (Vm.Fn c101 Try.f91 body91 noLoop ([.int .u64 a, .int .u64 b, .int .u64 m])) = S.cong_times_pre a b m by kernel_rfl) hp)

noncomputable def sem91 : List W → Option (W × List Prop)
  | [.int .u64 y1, .int .u64 y2, .int .u64 y3] => some (wr_u64 (S.cong_times y1 y2 y3), [S.cong_times_pre y1 y2 y3])
  | _ => none
noncomputable def c91 : Cfg El := c101.add 91 sem91
theorem c91_ok : CfgOk c91 := c101_ok.add (fun args w => Try.call91 args w) (fun vs r ps h hp => by
  unfold sem91 at h
  split at h
  · rename_i y1 y2 y3; cases h; exact fn91 y1 y2 y3 hp
  · cases h)

noncomputable def body89 : Code := (Try.f89.body).getD .skip
theorem fn89 (c : S.Cong) (n : Int) (hp : S.cong_Cong_scaled_pre c n) : CallOk c91 89 [.agg [.int .u64 c.M, .int .u64 c.R], .int .i64 n] (wr_S53 (S.cong_Cong_scaled c n)) :=
  call_ok (c := c91) (f := 89) (fn := Try.f89) (code := body89) (args := ([.agg [.int .u64 c.M, .int .u64 c.R], .int .i64 n])) (loop := noLoop) (rd := rd_S53) (wr := wr_S53) (r := (S.cong_Cong_scaled c n)) c91_ok (by kernel_rfl) (by kernel_rfl) (by kernel_rfl) (no_loops (by kernel_rfl)) (Nat.le_of_ble_eq_true (by kernel_rfl))
    rw_S53 np_S53 (by kernel_rfl) (Eq.mpr (show Vm.Tr.vc (Vm.Fn c91 Try.f89 body89 noLoop ([.agg [.int .u64 c.M, .int .u64 c.R], .int .i64 n])) = S.cong_Cong_scaled_pre c n by kernel_rfl) hp)

noncomputable def sem89 : List W → Option (W × List Prop)
  | [.agg [.int .u64 y1, .int .u64 y2], .int .i64 y3] => some (wr_S53 (S.cong_Cong_scaled (⟨y1, y2⟩ : S.Cong) y3), [S.cong_Cong_scaled_pre (⟨y1, y2⟩ : S.Cong) y3])
  | _ => none
noncomputable def c89 : Cfg El := c91.add 89 sem89
theorem c89_ok : CfgOk c89 := c91_ok.add (fun args w => Try.call89 args w) (fun vs r ps h hp => by
  unfold sem89 at h
  split at h
  · rename_i y1 y2 y3; cases h; exact fn89 (⟨y1, y2⟩ : S.Cong) y3 hp
  · cases h)

noncomputable def body59 : Code := (Try.f59.body).getD .skip
theorem fn59 (a : S.Cong) (b : S.Cong) (hp : S.cong_Mul_pre a b) : CallOk c89 59 [.agg [.int .u64 a.M, .int .u64 a.R], .agg [.int .u64 b.M, .int .u64 b.R]] (wr_S53 (S.cong_Mul a b)) :=
  call_ok (c := c89) (f := 59) (fn := Try.f59) (code := body59) (args := ([.agg [.int .u64 a.M, .int .u64 a.R], .agg [.int .u64 b.M, .int .u64 b.R]])) (loop := noLoop) (rd := rd_S53) (wr := wr_S53) (r := (S.cong_Mul a b)) c89_ok (by kernel_rfl) (by kernel_rfl) (by kernel_rfl) (no_loops (by kernel_rfl)) (Nat.le_of_ble_eq_true (by kernel_rfl))
    rw_S53 np_S53 (by kernel_rfl) (Eq.mpr (show Vm.Tr.vc (Vm.Fn c89 Try.f59 body59 noLoop ([.agg [.int .u64 a.M, .int .u64 a.R], .agg [.int .u64 b.M, .int .u64 b.R]])) = S.cong_Mul_pre a b by kernel_rfl) hp)

noncomputable def sem59 : List W → Option (W × List Prop)
  | [.agg [.int .u64 y1, .int .u64 y2], .agg [.int .u64 y3, .int .u64 y4]] => some (wr_S53 (S.cong_Mul (⟨y1, y2⟩ : S.Cong) (⟨y3, y4⟩ : S.Cong)), [S.cong_Mul_pre (⟨y1, y2⟩ : S.Cong) (⟨y3, y4⟩ : S.Cong)])
  | _ => none
noncomputable def c59 : Cfg El := c89.add 59 sem59
theorem c59_ok : CfgOk c59 := c89_ok.add (fun args w => Try.call59 args w) (fun vs r ps h hp => by
  unfold sem59 at h
  split at h
  · rename_i y1 y2 y3 y4; cases h; exact fn59 (⟨y1, y2⟩ : S.Cong) (⟨y3, y4⟩ : S.Cong) hp
  · cases h)

noncomputable def body60 : Code := (Try.f60.body).getD .skip
theorem fn60 (c : S.Cong) (hp : S.cong_Cong_Wrapped_pre c) : CallOk c59 60 [.agg [.int .u64 c.M, .int .u64 c.R]] (wr_S53 (S.cong_Cong_Wrapped c)) :=
  call_ok (c := c59) (f := 60) (fn := Try.f60) (code := body60) (args := ([.agg [.int .u64 c.M, .int .u64 c.R]])) (loop := noLoop) (rd := rd_S53) (wr := wr_S53) (r := (S.cong_Cong_Wrapped c)) c59_ok (by kernel_rfl) (by kernel_rfl) (by kernel_rfl) (no_loops (by kernel_rfl)) (Nat.le_of_ble_eq_true (by kernel_rfl))
    rw_S53 np_S53 (by kernel_rfl) (Eq.mpr (show Vm.Tr.vc (Vm.Fn c59 Try.f60 body60 noLoop ([.agg [.int .u64 c.M, .int .u64 c.R]])) = S.cong_Cong_Wrapped_pre c by kernel_rfl) hp)

noncomputable def sem60 : List W → Option (W × List Prop)
  | [.agg [.int .u64 y1, .int .u64 y2]] => some (wr_S53 (S.cong_Cong_Wrapped (⟨y1, y2⟩ : S.Cong)), [S.cong_Cong_Wrapped_pre (⟨y1, y2⟩ : S.Cong)])
  | _ => none
noncomputable def c60 : Cfg El := c59.add 60 sem60
theorem c60_ok : CfgOk c60 := c59_ok.add (fun args w => Try.call60 args w) (fun vs r ps h hp => by
  unfold sem60 at h
  split at h
  · rename_i y1 y2; cases h; exact fn60 (⟨y1, y2⟩ : S.Cong) hp
  · cases h)

noncomputable def body49 : Code := (Try.f49.body).getD .skip
theorem fn49 (hp : S.law20_works_pre) : CallOk c60 49 [] (wr_b (S.law20_works)) :=
  call_ok (c := c60) (f := 49) (fn := Try.f49) (code := body49) (args := ([])) (loop := noLoop) (rd := rd_b) (wr := wr_b) (r := S.law20_works) c60_ok (by kernel_rfl) (by kernel_rfl) (by kernel_rfl) (no_loops (by kernel_rfl)) (Nat.le_of_ble_eq_true (by kernel_rfl))
    rw_b np_b (by kernel_rfl) (Eq.mpr (show Vm.Tr.vc (Vm.Fn c60 Try.f49 body49 noLoop ([])) = S.law20_works_pre by kernel_rfl) hp)

noncomputable def sem49 : List W → Option (W × List Prop)
  | [] => some (wr_b (S.law20_works), [S.law20_works_pre])
  | _ => none
noncomputable def c49 : Cfg El := c60.add 49 sem49
theorem c49_ok : CfgOk c49 := c60_ok.add (fun args w => Try.call49 args w) (fun vs r ps h hp => by
  unfold sem49 at h
  split at h
  · cases h; exact fn49 hp
  · cases h)

noncomputable def body51 : Code := (Try.f51.body).getD .skip
theorem fn51 (c : S.Cong) (n : Int) (hp : S.ref20_Has_pre c n) : CallOk c49 51 [.agg [.int .u64 c.M, .int .u64 c.R], .int .i64 n] (wr_b (S.ref20_Has c n)) :=
  call_ok (c := c49) (f := 51) (fn := Try.f51) (code := body51) (args := ([.agg [.int .u64 c.M, .int .u64 c.R], .int .i64 n])) (loop := noLoop) (rd := rd_b) (wr := wr_b) (r := (S.ref20_Has c n)) c49_ok (by kernel_rfl) (by kernel_rfl) (by kernel_rfl) (no_loops (by kernel_rfl)) (Nat.le_of_ble_eq_true (by kernel_rfl))
    rw_b np_b (by kernel_rfl) (Eq.mpr (show Vm.Tr.vc (Vm.Fn c49 Try.f51 body51 noLoop ([.agg [.int .u64 c.M, .int .u64 c.R], .int .i64 n])) = S.ref20_Has_pre c n by kernel_rfl) hp)

noncomputable def sem51 : List W → Option (W × List Prop)
  | [.agg [.int .u64 y1, .int .u64 y2], .int .i64 y3] => some (wr_b (S.ref20_Has (⟨y1, y2⟩ : S.Cong) y3), [S.ref20_Has_pre (⟨y1, y2⟩ : S.Cong) y3])
  | _ => none
noncomputable def c51 : Cfg El := c49.add 51 sem51
theorem c51_ok : CfgOk c51 := c49_ok.add (fun args w => Try.call51 args w) (fun vs r ps h hp => by
  unfold sem51 at h
  split at h
  · rename_i y1 y2 y3; cases h; exact fn51 (⟨y1, y2⟩ : S.Cong) y3 hp
  · cases h)

noncomputable def body82 : Code := (Try.f82.body).getD .skip
theorem fn82 (c : S.Cong) (g : Int) (hp : S.ref20_Of_pre c g) : CallOk c51 82 [.agg [.int .u64 c.M, .int .u64 c.R], .int .u64 g] (wr_u64 (S.ref20_Of c g)) :=
  call_ok (c := c51) (f := 82) (fn := Try.f82) (code := body82) (args := ([.agg [.int .u64 c.M, .int .u64 c.R], .int .u64 g])) (loop := noLoop) (rd := rd_u64) (wr := wr_u64) (r := (S.ref20_Of c g)) c51_ok (by kernel_rfl) (by kernel_rfl) (by kernel_rfl) (no_loops (by kernel_rfl)) (Nat.le_of_ble_eq_true (by kernel_rfl))
    rw_u64 np_u64 (by kernel_rfl) (Eq.mpr (show Vm.Tr.vc (Vm.Fn c51 Try.f82 body82 noLoop ([.agg [.int .u64 c.M, .int .u64 c.R], .int .u64 g])) = S.ref20_Of_pre c g by kernel_rfl) hp)

noncomputable def sem82 : List W → Option (W × List Prop)
  | [.agg [.int .u64 y1, .int .u64 y2], .int .u64 y3] => some (wr_u64 (S.ref20_Of (⟨y1, y2⟩ : S.Cong) y3), [S.ref20_Of_pre (⟨y1, y2⟩ : S.Cong) y3])
  | _ => none
noncomputable def c82 : Cfg El := c51.add 82 sem82
theorem c82_ok : CfgOk c82 := c51_ok.add (fun args w => Try.call82 args w) (fun vs r ps h hp => by
  unfold sem82 at h
  split at h
  · rename_i y1 y2 y3; cases h; exact fn82 (⟨y1, y2⟩ : S.Cong) y3 hp
  · cases h)

noncomputable def body53 : Code := (Try.f53.body).getD .skip
theorem fn53 (a : S.Cong) (b : S.Cong) (hp : S.ref20_Within_pre a b) : CallOk c82 53 [.agg [.int .u64 a.M, .int .u64 a.R], .agg [.int .u64 b.M, .int .u64 b.R]] (wr_b (S.ref20_Within a b)) :=
  call_ok (c := c82) (f := 53) (fn := Try.f53) (code := body53) (args := ([.agg [.int .u64 a.M, .int .u64 a.R], .agg [.int .u64 b.M, .int .u64 b.R]])) (loop := noLoop) (rd := rd_b) (wr := wr_b) (r := (S.ref20_Within a b)) c82_ok (by kernel_rfl) (by kernel_rfl) (by kernel_rfl) (no_loops (by kernel_rfl)) (Nat.le_of_ble_eq_true (by kernel_rfl))
    rw_b np_b (by kernel_rfl) (Eq.mpr (show Vm.Tr.vc (Vm.Fn c82 Try.f53 body53 noLoop ([.agg [.int .u64 a.M, .int .u64 a.R], .agg [.int .u64 b.M, .int .u64 b.R]])) = S.ref20_Within_pre a b by kernel_rfl) hp)

noncomputable def sem53 : List W → Option (W × List Prop)
  | [.agg [.int .u64 y1, .int .u64 y2], .agg [.int .u64 y3, .int .u64 y4]] => some (wr_b (S.ref20_Within (⟨y1, y2⟩ : S.Cong) (⟨y3, y4⟩ : S.Cong)), [S.ref20_Within_pre (⟨y1, y2⟩ : S.Cong) (⟨y3, y4⟩ : S.Cong)])
  | _ => none
noncomputable def c53 : Cfg El := c82.add 53 sem53
theorem c53_ok : CfgOk c53 := c82_ok.add (fun args w => Try.call53 args w) (fun vs r ps h hp => by
  unfold sem53 at h
  split at h
  · rename_i y1 y2 y3 y4; cases h; exact fn53 (⟨y1, y2⟩ : S.Cong) (⟨y3, y4⟩ : S.Cong) hp
  · cases h)

noncomputable def body86 : Code := (Try.f86.body).getD .skip
noncomputable def semr86 (n : Nat) : List W → Option (W × List Prop)
  | [.int .u64 y1, .int .u64 y2] => some (wr_u64 (S.ref20_Gcd_F n y1 y2), [S.ref20_Gcd_D n y1 y2])
  | _ => none
theorem fns86 (n : Nat) (hc : CfgOk (c53.add 86 (semr86 n))) (a : Int) (b : Int) (hp : S.ref20_Gcd_D (n + 1) a b) : CallOk (c53.add 86 (semr86 n)) 86 [.int .u64 a, .int .u64 b] (wr_u64 (S.ref20_Gcd_F (n + 1) a b)) :=
  call_ok (c := (c53.add 86 (semr86 n))) (f := 86) (fn := Try.f86) (code := body86) (args := ([.int .u64 a, .int .u64 b])) (loop := noLoop) (rd := rd_u64) (wr := wr_u64) (r := (S.ref20_Gcd_F (n + 1) a b)) hc (by kernel_rfl) (by kernel_rfl) (by kernel_rfl) (no_loops (by kernel_rfl)) (Nat.le_of_ble_eq_true (by kernel_rfl))
    rw_u64 np_u64 (by kernel_rfl) (Eq.mpr (show Vm.Tr.vc (Vm.Fn (c53.add 86 (semr86 n)) Try.f86 body86 noLoop ([.int .u64 a, .int .u64 b])) = S.ref20_Gcd_D (n + 1) a b by kernel_rfl) hp)

theorem fnr86 (n : Nat) : ∀ (a : Int) (b : Int), S.ref20_Gcd_D n a b → CallOk c53 86 [.int .u64 a, .int .u64 b] (wr_u64 (S.ref20_Gcd_F n a b)) := by
  induction n with
  | zero => intro a b hp; exact False.elim hp
  | succ n ih =>
    intro a b hp
    have hc : CfgOk (c53.add 86 (semr86 n)) := c53_ok.add (fun args w => Try.call86 args w) (fun vs r ps h hp => by
      unfold semr86 at h
      split at h
      · cases h; exact ih _ _ hp
      · cases h)
    exact CallOk.same (c := (c53.add 86 (semr86 n))) (c' := c53) rfl rfl rfl (fns86 n hc a b hp)
theorem fn86 (a : Int) (b : Int) (hp : S.ref20_Gcd_pre a b) : CallOk c53 86 [.int .u64 a, .int .u64 b] (wr_u64 (S.ref20_Gcd a b)) := fnr86 _ a b (Classical.epsilon_spec hp)

noncomputable def sem86 : List W → Option (W × List Prop)
  | [.int .u64 y1, .int .u64 y2] => some (wr_u64 (S.ref20_Gcd y1 y2), [S.ref20_Gcd_pre y1 y2])
  | _ => none
noncomputable def c86 : Cfg El := c53.add 86 sem86
theorem c86_ok : CfgOk c86 := c53_ok.add (fun args w => Try.call86 args w) (fun vs r ps h hp => by
  unfold sem86 at h
  split at h
  · rename_i y1 y2; cases h; exact fn86 y1 y2 hp
  · cases h)

noncomputable def body55 : Code := (Try.f55.body).getD .skip
theorem fn55 (a : S.Cong) (b : S.Cong) (hp : S.ref20_Meet_pre a b) : CallOk c86 55 [.agg [.int .u64 a.M, .int .u64 a.R], .agg [.int .u64 b.M, .int .u64 b.R]] (wr_S53_b (S.ref20_Meet a b)) :=
  call_ok (c := c86) (f := 55) (fn := Try.f55) (code := body55) (args := ([.agg [.int .u64 a.M, .int .u64 a.R], .agg [.int .u64 b.M, .int .u64 b.R]])) (loop := noLoop) (rd := rd_S53_b) (wr := wr_S53_b) (r := (S.ref20_Meet a b)) c86_ok (by kernel_rfl) (by kernel_rfl) (by kernel_rfl) (no_loops (by kernel_rfl)) (Nat.le_of_ble_eq_true (by kernel_rfl))
    rw_S53_b np_S53_b (by kernel_rfl) (Eq.mpr (show Vm.Tr.vc (Vm.Fn c86 Try.f55 body55 noLoop ([.agg [.int .u64 a.M, .int .u64 a.R], .agg [.int .u64 b.M, .int .u64 b.R]])) = S.ref20_Meet_pre a b by kernel_rfl) hp)

noncomputable def sem55 : List W → Option (W × List Prop)
  | [.agg [.int .u64 y1, .int .u64 y2], .agg [.int .u64 y3, .int .u64 y4]] => some (wr_S53_b (S.ref20_Meet (⟨y1, y2⟩ : S.Cong) (⟨y3, y4⟩ : S.Cong)), [S.ref20_Meet_pre (⟨y1, y2⟩ : S.Cong) (⟨y3, y4⟩ : S.Cong)])
  | _ => none
noncomputable def c55 : Cfg El := c86.add 55 sem55
theorem c55_ok : CfgOk c55 := c86_ok.add (fun args w => Try.call55 args w) (fun vs r ps h hp => by
  unfold sem55 at h
  split at h
  · rename_i y1 y2 y3 y4; cases h; exact fn55 (⟨y1, y2⟩ : S.Cong) (⟨y3, y4⟩ : S.Cong) hp
  · cases h)

noncomputable def body58 : Code := (Try.f58.body).getD .skip
theorem fn58 (a : S.Cong) (b : S.Cong) (hp : S.cong_Sub_pre a b) : CallOk c55 58 [.agg [.int .u64 a.M, .int .u64 a.R], .agg [.int .u64 b.M, .int .u64 b.R]] (wr_S53 (S.cong_Sub a b)) :=
  call_ok (c := c55) (f := 58) (fn := Try.f58) (code := body58) (args := ([.agg [.int .u64 a.M, .int .u64 a.R], .agg [.int .u64 b.M, .int .u64 b.R]])) (loop := noLoop) (rd := rd_S53) (wr := wr_S53) (r := (S.cong_Sub a b)) c55_ok (by kernel_rfl) (by kernel_rfl) (by kernel_rfl) (no_loops (by kernel_rfl)) (Nat.le_of_ble_eq_true (by kernel_rfl))
    rw_S53 np_S53 (by kernel_rfl) (Eq.mpr (show Vm.Tr.vc (Vm.Fn c55 Try.f58 body58 noLoop ([.agg [.int .u64 a.M, .int .u64 a.R], .agg [.int .u64 b.M, .int .u64 b.R]])) = S.cong_Sub_pre a b by kernel_rfl) hp)

noncomputable def sem58 : List W → Option (W × List Prop)
  | [.agg [.int .u64 y1, .int .u64 y2], .agg [.int .u64 y3, .int .u64 y4]] => some (wr_S53 (S.cong_Sub (⟨y1, y2⟩ : S.Cong) (⟨y3, y4⟩ : S.Cong)), [S.cong_Sub_pre (⟨y1, y2⟩ : S.Cong) (⟨y3, y4⟩ : S.Cong)])
  | _ => none
noncomputable def c58 : Cfg El := c55.add 58 sem58
theorem c58_ok : CfgOk c58 := c55_ok.add (fun args w => Try.call58 args w) (fun vs r ps h hp => by
  unfold sem58 at h
  split at h
  · rename_i y1 y2 y3 y4; cases h; exact fn58 (⟨y1, y2⟩ : S.Cong) (⟨y3, y4⟩ : S.Cong) hp
  · cases h)

noncomputable def body92 : Code := (Try.f92.body).getD .skip
theorem fn92 (a : Int) (b : Int) : CallOk c58 92 [.int .u64 a, .int .u64 b] (wr_u64 (S.ref20_far a b)) :=
  call_ok (c := c58) (f := 92) (fn := Try.f92) (code := body92) (args := ([.int .u64 a, .int .u64 b])) (loop := noLoop) (rd := rd_u64) (wr := wr_u64) (r := (S.ref20_far a b)) c58_ok (by kernel_rfl) (by kernel_rfl) (by kernel_rfl) (no_loops (by kernel_rfl)) (Nat.le_of_ble_eq_true (by kernel_rfl))
    rw_u64 np_u64 (by kernel_rfl) (Tr.vc_of_noReq (by kernel_rfl))

noncomputable def sem92 : List W → Option (W × List Prop)
  | [.int .u64 y1, .int .u64 y2] => some (wr_u64 (S.ref20_far y1 y2), [])
  | _ => none
noncomputable def c92 : Cfg El := c58.add 92 sem92
theorem c92_ok : CfgOk c92 := c58_ok.add (fun args w => Try.call92 args w) (fun vs r ps h hp => by
  unfold sem92 at h
  split at h
  · rename_i y1 y2; cases h; exact fn92 y1 y2
  · cases h)

noncomputable def body61 : Code := (Try.f61.body).getD .skip
theorem fn61 (a : S.Cong) (b : S.Cong) (hp : S.ref20_Join_pre a b) : CallOk c92 61 [.agg [.int .u64 a.M, .int .u64 a.R], .agg [.int .u64 b.M, .int .u64 b.R]] (wr_S53 (S.ref20_Join a b)) :=
  call_ok (c := c92) (f := 61) (fn := Try.f61) (code := body61) (args := ([.agg [.int .u64 a.M, .int .u64 a.R], .agg [.int .u64 b.M, .int .u64 b.R]])) (loop := noLoop) (rd := rd_S53) (wr := wr_S53) (r := (S.ref20_Join a b)) c92_ok (by kernel_rfl) (by kernel_rfl) (by kernel_rfl) (no_loops (by kernel_rfl)) (Nat.le_of_ble_eq_true (by kernel_rfl))
    rw_S53 np_S53 (by kernel_rfl) (Eq.mpr (show Vm.Tr.vc (Vm.Fn c92 Try.f61 body61 noLoop ([.agg [.int .u64 a.M, .int .u64 a.R], .agg [.int .u64 b.M, .int .u64 b.R]])) = S.ref20_Join_pre a b by kernel_rfl) hp)

noncomputable def sem61 : List W → Option (W × List Prop)
  | [.agg [.int .u64 y1, .int .u64 y2], .agg [.int .u64 y3, .int .u64 y4]] => some (wr_S53 (S.ref20_Join (⟨y1, y2⟩ : S.Cong) (⟨y3, y4⟩ : S.Cong)), [S.ref20_Join_pre (⟨y1, y2⟩ : S.Cong) (⟨y3, y4⟩ : S.Cong)])
  | _ => none
noncomputable def c61 : Cfg El := c92.add 61 sem61
theorem c61_ok : CfgOk c61 := c92_ok.add (fun args w => Try.call61 args w) (fun vs r ps h hp => by
  unfold sem61 at h
  split at h
  · rename_i y1 y2 y3 y4; cases h; exact fn61 (⟨y1, y2⟩ : S.Cong) (⟨y3, y4⟩ : S.Cong) hp
  · cases h)

noncomputable def body93 : Code := (Try.f93.body).getD .skip
theorem fn93 (a : Int) (b : Int) (m : Int) : CallOk c61 93 [.int .u64 a, .int .u64 b, .int .u64 m] (wr_u64 (S.ref20_plus a b m)) :=
  call_ok (c := c61) (f := 93) (fn := Try.f93) (code := body93) (args := ([.int .u64 a, .int .u64 b, .int .u64 m])) (loop := noLoop) (rd := rd_u64) (wr := wr_u64) (r := (S.ref20_plus a b m)) c61_ok (by kernel_rfl) (by kernel_rfl) (by kernel_rfl) (no_loops (by kernel_rfl)) (Nat.le_of_ble_eq_true (by kernel_rfl))
    rw_u64 np_u64 (by kernel_rfl) (Tr.vc_of_noReq (by kernel_rfl))

noncomputable def sem93 : List W → Option (W × List Prop)
  | [.int .u64 y1, .int .u64 y2, .int .u64 y3] => some (wr_u64 (S.ref20_plus y1 y2 y3), [])
  | _ => none
noncomputable def c93 : Cfg El := c61.add 93 sem93
theorem c93_ok : CfgOk c93 := c61_ok.add (fun args w => Try.call93 args w) (fun vs r ps h hp => by
  unfold sem93 at h
  split at h
  · rename_i y1 y2 y3; cases h; exact fn93 y1 y2 y3
  · cases h)

noncomputable def body62 : Code := (Try.f62.body).getD .skip
theorem fn62 (a : S.Cong) (b : S.Cong) (hp : S.ref20_Add_pre a b) : CallOk c93 62 [.agg [.int .u64 a.M, .int .u64 a.R], .agg [.int .u64 b.M, .int .u64 b.R]] (wr_S53 (S.ref20_Add a b)) :=
  call_ok (c := c93) (f := 62) (fn := Try.f62) (code := body62) (args := ([.agg [.int .u64 a.M, .int .u64 a.R], .agg [.int .u64 b.M, .int .u64 b.R]])) (loop := noLoop) (rd := rd_S53) (wr := wr_S53) (r := (S.ref20_Add a b)) c93_ok (by kernel_rfl) (by kernel_rfl) (by kernel_rfl) (no_loops (by kernel_rfl)) (Nat.le_of_ble_eq_true (by kernel_rfl))
    rw_S53 np_S53 (by kernel_rfl) (Eq.mpr (show Vm.Tr.vc (Vm.Fn c93 Try.f62 body62 noLoop ([.agg [.int .u64 a.M, .int .u64 a.R], .agg [.int .u64 b.M, .int .u64 b.R]])) = S.ref20_Add_pre a b by kernel_rfl) hp)

noncomputable def sem62 : List W → Option (W × List Prop)
  | [.agg [.int .u64 y1, .int .u64 y2], .agg [.int .u64 y3, .int .u64 y4]] => some (wr_S53 (S.ref20_Add (⟨y1, y2⟩ : S.Cong) (⟨y3, y4⟩ : S.Cong)), [S.ref20_Add_pre (⟨y1, y2⟩ : S.Cong) (⟨y3, y4⟩ : S.Cong)])
  | _ => none
noncomputable def c62 : Cfg El := c93.add 62 sem62
theorem c62_ok : CfgOk c62 := c93_ok.add (fun args w => Try.call62 args w) (fun vs r ps h hp => by
  unfold sem62 at h
  split at h
  · rename_i y1 y2 y3 y4; cases h; exact fn62 (⟨y1, y2⟩ : S.Cong) (⟨y3, y4⟩ : S.Cong) hp
  · cases h)

noncomputable def body94 : Code := (Try.f94.body).getD .skip
theorem fn94 (a : Int) (b : Int) (m : Int) : CallOk c62 94 [.int .u64 a, .int .u64 b, .int .u64 m] (wr_u64 (S.ref20_minus a b m)) :=
  call_ok (c := c62) (f := 94) (fn := Try.f94) (code := body94) (args := ([.int .u64 a, .int .u64 b, .int .u64 m])) (loop := noLoop) (rd := rd_u64) (wr := wr_u64) (r := (S.ref20_minus a b m)) c62_ok (by kernel_rfl) (by kernel_rfl) (by kernel_rfl) (no_loops (by kernel_rfl)) (Nat.le_of_ble_eq_true (by kernel_rfl))
    rw_u64 np_u64 (by kernel_rfl) (Tr.vc_of_noReq (by kernel_rfl))

noncomputable def sem94 : List W → Option (W × List Prop)
  | [.int .u64 y1, .int .u64 y2, .int .u64 y3] => some (wr_u64 (S.ref20_minus y1 y2 y3), [])
  | _ => none
noncomputable def c94 : Cfg El := c62.add 94 sem94
theorem c94_ok : CfgOk c94 := c62_ok.add (fun args w => Try.call94 args w) (fun vs r ps h hp => by
  unfold sem94 at h
  split at h
  · rename_i y1 y2 y3; cases h; exact fn94 y1 y2 y3
  · cases h)

noncomputable def body63 : Code := (Try.f63.body).getD .skip
theorem fn63 (a : S.Cong) (b : S.Cong) (hp : S.ref20_Sub_pre a b) : CallOk c94 63 [.agg [.int .u64 a.M, .int .u64 a.R], .agg [.int .u64 b.M, .int .u64 b.R]] (wr_S53 (S.ref20_Sub a b)) :=
  call_ok (c := c94) (f := 63) (fn := Try.f63) (code := body63) (args := ([.agg [.int .u64 a.M, .int .u64 a.R], .agg [.int .u64 b.M, .int .u64 b.R]])) (loop := noLoop) (rd := rd_S53) (wr := wr_S53) (r := (S.ref20_Sub a b)) c94_ok (by kernel_rfl) (by kernel_rfl) (by kernel_rfl) (no_loops (by kernel_rfl)) (Nat.le_of_ble_eq_true (by kernel_rfl))
    rw_S53 np_S53 (by kernel_rfl) (Eq.mpr (show Vm.Tr.vc (Vm.Fn c94 Try.f63 body63 noLoop ([.agg [.int .u64 a.M, .int .u64 a.R], .agg [.int .u64 b.M, .int .u64 b.R]])) = S.ref20_Sub_pre a b by kernel_rfl) hp)

noncomputable def sem63 : List W → Option (W × List Prop)
  | [.agg [.int .u64 y1, .int .u64 y2], .agg [.int .u64 y3, .int .u64 y4]] => some (wr_S53 (S.ref20_Sub (⟨y1, y2⟩ : S.Cong) (⟨y3, y4⟩ : S.Cong)), [S.ref20_Sub_pre (⟨y1, y2⟩ : S.Cong) (⟨y3, y4⟩ : S.Cong)])
  | _ => none
noncomputable def c63 : Cfg El := c94.add 63 sem63
theorem c63_ok : CfgOk c63 := c94_ok.add (fun args w => Try.call63 args w) (fun vs r ps h hp => by
  unfold sem63 at h
  split at h
  · rename_i y1 y2 y3 y4; cases h; exact fn63 (⟨y1, y2⟩ : S.Cong) (⟨y3, y4⟩ : S.Cong) hp
  · cases h)

noncomputable def body96 : Code := (Try.f96.body).getD .skip
theorem fn96 (a : Int) (b : Int) (hp : S.ref20_fits_pre a b) : CallOk c63 96 [.int .u64 a, .int .u64 b] (wr_u64_b (S.ref20_fits a b)) :=
  call_ok (c := c63) (f := 96) (fn := Try.f96) (code := body96) (args := ([.int .u64 a, .int .u64 b])) (loop := noLoop) (rd := rd_u64_b) (wr := wr_u64_b) (r := (S.ref20_fits a b)) c63_ok (by kernel_rfl) (by kernel_rfl) (by kernel_rfl) (no_loops (by kernel_rfl)) (Nat.le_of_ble_eq_true (by kernel_rfl))
    rw_u64_b np_u64_b (by kernel_rfl) (Eq.mpr (show Vm.Tr.vc (Vm.Fn c63 Try.f96 body96 noLoop ([.int .u64 a, .int .u64 b])) = S.ref20_fits_pre a b by kernel_rfl) hp)

noncomputable def sem96 : List W → Option (W × List Prop)
  | [.int .u64 y1, .int .u64 y2] => some (wr_u64_b (S.ref20_fits y1 y2), [S.ref20_fits_pre y1 y2])
  | _ => none
noncomputable def c96 : Cfg El := c63.add 96 sem96
theorem c96_ok : CfgOk c96 := c63_ok.add (fun args w => Try.call96 args w) (fun vs r ps h hp => by
  unfold sem96 at h
  split at h
  · rename_i y1 y2; cases h; exact fn96 y1 y2 hp
  · cases h)

noncomputable def body97 : Code := (Try.f97.body).getD .skip
noncomputable def lb97_0 : Code := ((nth (loopsOf 0 body97) 0).getD (0, .skip)).2
noncomputable def px97_0 : List W → Option S.ref20_times_L0
  | [.int .u64 y1, .int .u64 y2, .int .u64 y3, .int .u64 y4] => some ⟨y1, y2, y3, y4⟩
  | _ => none
noncomputable def tx97_0 (x : S.ref20_times_L0) : List W := [.int .u64 x.a, .int .u64 x.b, .int .u64 x.m, .int .u64 x.out]
noncomputable def py97_0 : Ex → List W → Option (S.ref20_times_L0)
  | .exit 0, [.int .u64 y1, .int .u64 y2, .int .u64 y3, .int .u64 y4] => some ⟨y1, y2, y3, y4⟩
  | _, _ => none
noncomputable def ld97_0 : LD El where
  X := S.ref20_times_L0
  Y := S.ref20_times_L0
  keys := [.slot 0, .slot 1, .slot 2, .slot 7]
  px := px97_0
  tx := tx97_0
  okeys := [.slot 0, .slot 1, .slot 2, .slot 7]
  py := py97_0
  ty := fun y => tx97_0 y
  oex := fun _ => .exit 0
  junk := [.slot 8, .slot 9, .slot 10, .slot 11, .slot 12, .slot 13, .slot 14, .slot 15, .slot 16, .slot 17, .slot 18, .slot 19, .slot 20, .slot 21, .slot 22]
noncomputable def lo97_0 : S.ref20_times_L0 → Tr El := fun y => .leaf (.exit 0) (zipK ld97_0.okeys (tx97_0 y) ++ junkK ld97_0.junk)
noncomputable def loop97 : Nat → Env El → Tr El
  | 0 => ld97_0.tree lb97_0 S.ref20_times_L0_run lo97_0 S.ref20_times_L0_step S.ref20_times_L0_vcs
  | _ => fun _ => .fail
theorem lok97_0 : ∀ w0 S0, LoopOk c96 Try.f97.ntmps w0 S0 loop97 0 lb97_0 :=
  loop_ok (c := c96) (n := Try.f97.ntmps) c96_ok mixed ld97_0 (body := lb97_0) (key := 0) (loop := loop97) (F := S.ref20_times_L0_run) (out := lo97_0) (step := S.ref20_times_L0_step) (vcs := S.ref20_times_L0_vcs)
    (fun _ => by kernel_rfl) (no_loops (by kernel_rfl))
    (fun vs x h => by unfold ld97_0 px97_0 at h; dsimp only at h; split at h <;> first | (cases h; rfl) | cases h)
    (fun e vs y h => by unfold ld97_0 py97_0 at h; dsimp only at h; split at h <;> first | (cases h; exact ⟨rfl, rfl⟩) | cases h)
    (by kernel_rfl) (fun _ _ h => h) (fun x => by kernel_rfl) (fun _ _ => Tr.vc_of_noReq (by kernel_rfl))
theorem fn97 (a : Int) (b : Int) (m : Int) (hp : S.ref20_times_pre a b m) : CallOk c96 97 [.int .u64 a, .int .u64 b, .int .u64 m] (wr_u64 (S.ref20_times a b m)) :=
  call_ok (c := c96) (f := 97) (fn := Try.f97) (code := body97) (args := ([.int .u64 a, .int .u64 b, .int .u64 m])) (loop := loop97) (rd := rd_u64) (wr := wr_u64) (r := (S.ref20_times a b m)) c96_ok (by kernel_rfl) (by kernel_rfl) (by kernel_rfl) (loops_all (l := [(0, lb97_0)]) (by kernel_rfl) ⟨lok97_0, trivial⟩) (Nat.le_of_ble_eq_true (by kernel_rfl))
    rw_u64 np_u64 (by kernel_rfl) (Eq.mpr (show Vm.Tr.vc (Vm.Fn c96 Try.f97 body97 loop97 ([.int .u64 a, .int .u64 b, .int .u64 m])) = S.ref20_times_pre a b m by kernel_rfl) hp)

noncomputable def sem97 : List W → Option (W × List Prop)
  | [.int .u64 y1, .int .u64 y2, .int .u64 y3] => some (wr_u64 (S.ref20_times y1 y2 y3), [S.ref20_times_pre y1 y2 y3])
  | _ => none
noncomputable def c97 : Cfg El := c96.add 97 sem97
theorem c97_ok : CfgOk c97 := c96_ok.add (fun args w => Try.call97 args w) (fun vs r ps h hp => by
  unfold sem97 at h
  split at h
  · rename_i y1 y2 y3; cases h; exact fn97 y1 y2 y3 hp
  · cases h)

noncomputable def body95 : Code := (Try.f95.body).getD .skip
theorem fn95 (c : S.Cong) (n : Int) (hp : S.ref20_scale_pre c n) : CallOk c97 95 [.agg [.int .u64 c.M, .int .u64 c.R], .int .i64 n] (wr_S53 (S.ref20_scale c n)) :=
  call_ok (c := c97) (f := 95) (fn := Try.f95) (code := body95) (args := ([.agg [.int .u64 c.M, .int .u64 c.R], .int .i64 n])) (loop := noLoop) (rd := rd_S53) (wr := wr_S53) (r := (S.ref20_scale c n)) c97_ok (by kernel_rfl) (by kernel_rfl) (by kernel_rfl) (no_loops (by kernel_rfl)) (Nat.le_of_ble_eq_true (by kernel_rfl))
    rw_S53 np_S53 (by kernel_rfl) (Eq.mpr (show Vm.Tr.vc (Vm.Fn c97 Try.f95 body95 noLoop ([.agg [.int .u64 c.M, .int .u64 c.R], .int .i64 n])) = S.ref20_scale_pre c n by kernel_rfl) hp)

noncomputable def sem95 : List W → Option (W × List Prop)
  | [.agg [.int .u64 y1, .int .u64 y2], .int .i64 y3] => some (wr_S53 (S.ref20_scale (⟨y1, y2⟩ : S.Cong) y3), [S.ref20_scale_pre (⟨y1, y2⟩ : S.Cong) y3])
  | _ => none
noncomputable def c95 : Cfg El := c97.add 95 sem95
theorem c95_ok : CfgOk c95 := c97_ok.add (fun args w => Try.call95 args w) (fun vs r ps h hp => by
  unfold sem95 at h
  split at h
  · rename_i y1 y2 y3; cases h; exact fn95 (⟨y1, y2⟩ : S.Cong) y3 hp
  · cases h)

noncomputable def body64 : Code := (Try.f64.body).getD .skip
theorem fn64 (a : S.Cong) (b : S.Cong) (hp : S.ref20_Mul_pre a b) : CallOk c95 64 [.agg [.int .u64 a.M, .int .u64 a.R], .agg [.int .u64 b.M, .int .u64 b.R]] (wr_S53 (S.ref20_Mul a b)) :=
  call_ok (c := c95) (f := 64) (fn := Try.f64) (code := body64) (args := ([.agg [.int .u64 a.M, .int .u64 a.R], .agg [.int .u64 b.M, .int .u64 b.R]])) (loop := noLoop) (rd := rd_S53) (wr := wr_S53) (r := (S.ref20_Mul a b)) c95_ok (by kernel_rfl) (by kernel_rfl) (by kernel_rfl) (no_loops (by kernel_rfl)) (Nat.le_of_ble_eq_true (by kernel_rfl))
    rw_S53 np_S53 (by kernel_rfl) (Eq.mpr (show Vm.Tr.vc (Vm.Fn c95 Try.f64 body64 noLoop ([.agg [.int .u64 a.M, .int .u64 a.R], .agg [.int .u64 b.M, .int .u64 b.R]])) = S.ref20_Mul_pre a b by kernel_rfl) hp)

noncomputable def sem64 : List W → Option (W × List Prop)
  | [.agg [.int .u64 y1, .int .u64 y2], .agg [.int .u64 y3, .int .u64 y4]] => some (wr_S53 (S.ref20_Mul (⟨y1, y2⟩ : S.Cong) (⟨y3, y4⟩ : S.Cong)), [S.ref20_Mul_pre (⟨y1, y2⟩ : S.Cong) (⟨y3, y4⟩ : S.Cong)])
  | _ => none
noncomputable def c64 : Cfg El := c95.add 64 sem64
theorem c64_ok : CfgOk c64 := c95_ok.add (fun args w => Try.call64 args w) (fun vs r ps h hp => by
  unfold sem64 at h
  split at h
  · rename_i y1 y2 y3 y4; cases h; exact fn64 (⟨y1, y2⟩ : S.Cong) (⟨y3, y4⟩ : S.Cong) hp
  · cases h)

noncomputable def body65 : Code := (Try.f65.body).getD .skip
noncomputable def lb65_0 : Code := ((nth (loopsOf 0 body65) 0).getD (0, .skip)).2
noncomputable def px65_0 : List W → Option S.ref20_Wrapped_L0
  | [.ptr 1 0, .int .u64 y1, .int .u64 y2, .int .u64 y3] => some ⟨y1, ⟨y2, y3⟩⟩
  | _ => none
noncomputable def tx65_0 (x : S.ref20_Wrapped_L0) : List W := [.ptr 1 0, .int .u64 x.p, .int .u64 x.c.M, .int .u64 x.c.R]
noncomputable def py65_0 : Ex → List W → Option (S.ref20_Wrapped_L0)
  | .exit 0, [.ptr 1 0, .int .u64 y1, .int .u64 y2, .int .u64 y3] => some ⟨y1, ⟨y2, y3⟩⟩
  | _, _ => none
noncomputable def ld65_0 : LD El where
  X := S.ref20_Wrapped_L0
  Y := S.ref20_Wrapped_L0
  keys := [.slot 1, .slot 3, .cell 1 0, .cell 1 1]
  px := px65_0
  tx := tx65_0
  okeys := [.slot 1, .slot 3, .cell 1 0, .cell 1 1]
  py := py65_0
  ty := fun y => tx65_0 y
  oex := fun _ => .exit 0
  junk := [.slot 8, .slot 9, .slot 10, .slot 11, .slot 12, .slot 13, .slot 14, .slot 15, .slot 16, .slot 17]
noncomputable def lo65_0 : S.ref20_Wrapped_L0 → Tr El := fun y => .leaf (.exit 0) (zipK ld65_0.okeys (tx65_0 y) ++ junkK ld65_0.junk)
noncomputable def loop65 : Nat → Env El → Tr El
  | 0 => ld65_0.tree lb65_0 S.ref20_Wrapped_L0_run lo65_0 S.ref20_Wrapped_L0_step S.ref20_Wrapped_L0_vcs
  | _ => fun _ => .fail
theorem lok65_0 : ∀ w0 S0, LoopOk c64 Try.f65.ntmps w0 S0 loop65 0 lb65_0 :=
  loop_ok (c := c64) (n := Try.f65.ntmps) c64_ok mixed ld65_0 (body := lb65_0) (key := 0) (loop := loop65) (F := S.ref20_Wrapped_L0_run) (out := lo65_0) (step := S.ref20_Wrapped_L0_step) (vcs := S.ref20_Wrapped_L0_vcs)
    (fun _ => by kernel_rfl) (no_loops (by kernel_rfl))
    (fun vs x h => by unfold ld65_0 px65_0 at h; dsimp only at h; split at h <;> first | (cases h; rfl) | cases h)
    (fun e vs y h => by unfold ld65_0 py65_0 at h; dsimp only at h; split at h <;> first | (cases h; exact ⟨rfl, rfl⟩) | cases h)
    (by kernel_rfl) (fun _ _ h => h) (fun x => by kernel_rfl) (fun _ _ => Tr.vc_of_noReq (by kernel_rfl))
theorem fn65 (c : S.Cong) (hp : S.ref20_Wrapped_pre c) : CallOk c64 65 [.agg [.int .u64 c.M, .int .u64 c.R]] (wr_S53 (S.ref20_Wrapped c)) :=
  call_ok (c := c64) (f := 65) (fn := Try.f65) (code := body65) (args := ([.agg [.int .u64 c.M, .int .u64 c.R]])) (loop := loop65) (rd := rd_S53) (wr := wr_S53) (r := (S.ref20_Wrapped c)) c64_ok (by kernel_rfl) (by kernel_rfl) (by kernel_rfl) (loops_all (l := [(0, lb65_0)]) (by kernel_rfl) ⟨lok65_0, trivial⟩) (Nat.le_of_ble_eq_true (by kernel_rfl))
    rw_S53 np_S53 (by kernel_rfl) (Eq.mpr (show Vm.Tr.vc (Vm.Fn c64 Try.f65 body65 loop65 ([.agg [.int .u64 c.M, .int .u64 c.R]])) = S.ref20_Wrapped_pre c by kernel_rfl) hp)

noncomputable def sem65 : List W → Option (W × List Prop)
  | [.agg [.int .u64 y1, .int .u64 y2]] => some (wr_S53 (S.ref20_Wrapped (⟨y1, y2⟩ : S.Cong)), [S.ref20_Wrapped_pre (⟨y1, y2⟩ : S.Cong)])
  | _ => none
noncomputable def c65 : Cfg El := c64.add 65 sem65
theorem c65_ok : CfgOk c65 := c64_ok.add (fun args w => Try.call65 args w) (fun vs r ps h hp => by
  unfold sem65 at h
  split at h
  · rename_i y1 y2; cases h; exact fn65 (⟨y1, y2⟩ : S.Cong) hp
  · cases h)

noncomputable def body70 : Code := (Try.f70.body).getD .skip
theorem fn70 (c : S.Cong) (to : Int) (hp : S.cong_Cong_Greatest_pre c to) : CallOk c65 70 [.agg [.int .u64 c.M, .int .u64 c.R], .int .i64 to] (wr_i64_b (S.cong_Cong_Greatest c to)) :=
  call_ok (c := c65) (f := 70) (fn := Try.f70) (code := body70) (args := ([.agg [.int .u64 c.M, .int .u64 c.R], .int .i64 to])) (loop := noLoop) (rd := rd_i64_b) (wr := wr_i64_b) (r := (S.cong_Cong_Greatest c to)) c65_ok (by kernel_rfl) (by kernel_rfl) (by kernel_rfl) (no_loops (by kernel_rfl)) (Nat.le_of_ble_eq_true (by kernel_rfl))
    rw_i64_b np_i64_b (by kernel_rfl) (Eq.mpr (show Vm.Tr.vc (Vm.Fn c65 Try.f70 body70 noLoop ([.agg [.int .u64 c.M, .int .u64 c.R], .int .i64 to])) = S.cong_Cong_Greatest_pre c to by kernel_rfl) hp)

noncomputable def sem70 : List W → Option (W × List Prop)
  | [.agg [.int .u64 y1, .int .u64 y2], .int .i64 y3] => some (wr_i64_b (S.cong_Cong_Greatest (⟨y1, y2⟩ : S.Cong) y3), [S.cong_Cong_Greatest_pre (⟨y1, y2⟩ : S.Cong) y3])
  | _ => none
noncomputable def c70 : Cfg El := c65.add 70 sem70
theorem c70_ok : CfgOk c70 := c65_ok.add (fun args w => Try.call70 args w) (fun vs r ps h hp => by
  unfold sem70 at h
  split at h
  · rename_i y1 y2 y3; cases h; exact fn70 (⟨y1, y2⟩ : S.Cong) y3 hp
  · cases h)

noncomputable def body66 : Code := (Try.f66.body).getD .skip
theorem fn66 (c : S.Cong) (n : Int) (hp : S.law20_near_pre c n) : CallOk c70 66 [.agg [.int .u64 c.M, .int .u64 c.R], .int .i64 n] (wr_i64 (S.law20_near c n)) :=
  call_ok (c := c70) (f := 66) (fn := Try.f66) (code := body66) (args := ([.agg [.int .u64 c.M, .int .u64 c.R], .int .i64 n])) (loop := noLoop) (rd := rd_i64) (wr := wr_i64) (r := (S.law20_near c n)) c70_ok (by kernel_rfl) (by kernel_rfl) (by kernel_rfl) (no_loops (by kernel_rfl)) (Nat.le_of_ble_eq_true (by kernel_rfl))
    rw_i64 np_i64 (by kernel_rfl) (Eq.mpr (show Vm.Tr.vc (Vm.Fn c70 Try.f66 body66 noLoop ([.agg [.int .u64 c.M, .int .u64 c.R], .int .i64 n])) = S.law20_near_pre c n by kernel_rfl) hp)

noncomputable def sem66 : List W → Option (W × List Prop)
  | [.agg [.int .u64 y1, .int .u64 y2], .int .i64 y3] => some (wr_i64 (S.law20_near (⟨y1, y2⟩ : S.Cong) y3), [S.law20_near_pre (⟨y1, y2⟩ : S.Cong) y3])
  | _ => none
noncomputable def c66 : Cfg El := c70.add 66 sem66
theorem c66_ok : CfgOk c66 := c70_ok.add (fun args w => Try.call66 args w) (fun vs r ps h hp => by
  unfold sem66 at h
  split at h
  · rename_i y1 y2 y3; cases h; exact fn66 (⟨y1, y2⟩ : S.Cong) y3 hp
  · cases h)

noncomputable def rd_b_b_b : W → Option (Bool × Bool × Bool)
  | .tup [.bool x1, .bool x2, .bool x3] => some ⟨x1, x2, x3⟩
  | _ => none
noncomputable def wr_b_b_b (x : Bool × Bool × Bool) : W := .tup [.bool x.1, .bool x.2.1, .bool x.2.2]
theorem rw_b_b_b (v : W) (x : Bool × Bool × Bool) (h : rd_b_b_b v = some x) : v = wr_b_b_b x := by
  unfold rd_b_b_b at h
  split at h <;> first | (cases h; rfl) | cases h
theorem np_b_b_b (x : Bool × Bool × Bool) : noPtr (wr_b_b_b x) = true := rfl

noncomputable def body68 : Code := (Try.f68.body).getD .skip
theorem fn68 (x : Int) (y : Int) (hp : S.law20_fit_pre x y) : CallOk c66 68 [.int .i64 x, .int .i64 y] (wr_b_b_b (S.law20_fit x y)) :=
  call_ok (c := c66) (f := 68) (fn := Try.f68) (code := body68) (args := ([.int .i64 x, .int .i64 y])) (loop := noLoop) (rd := rd_b_b_b) (wr := wr_b_b_b) (r := (S.law20_fit x y)) c66_ok (by kernel_rfl) (by kernel_rfl) (by kernel_rfl) (no_loops (by kernel_rfl)) (Nat.le_of_ble_eq_true (by kernel_rfl))
    rw_b_b_b np_b_b_b (by kernel_rfl) (Eq.mpr (show Vm.Tr.vc (Vm.Fn c66 Try.f68 body68 noLoop ([.int .i64 x, .int .i64 y])) = S.law20_fit_pre x y by kernel_rfl) hp)

noncomputable def sem68 : List W → Option (W × List Prop)
  | [.int .i64 y1, .int .i64 y2] => some (wr_b_b_b (S.law20_fit y1 y2), [S.law20_fit_pre y1 y2])
  | _ => none
noncomputable def c68 : Cfg El := c66.add 68 sem68
theorem c68_ok : CfgOk c68 := c66_ok.add (fun args w => Try.call68 args w) (fun vs r ps h hp => by
  unfold sem68 at h
  split at h
  · rename_i y1 y2; cases h; exact fn68 y1 y2 hp
  · cases h)

noncomputable def body69 : Code := (Try.f69.body).getD .skip
theorem fn69 (c : S.Cong) (a1 : Int) (hp : S.ref20_Least_pre c a1) : CallOk c68 69 [.agg [.int .u64 c.M, .int .u64 c.R], .int .i64 a1] (wr_i64_b (S.ref20_Least c a1)) :=
  call_ok (c := c68) (f := 69) (fn := Try.f69) (code := body69) (args := ([.agg [.int .u64 c.M, .int .u64 c.R], .int .i64 a1])) (loop := noLoop) (rd := rd_i64_b) (wr := wr_i64_b) (r := (S.ref20_Least c a1)) c68_ok (by kernel_rfl) (by kernel_rfl) (by kernel_rfl) (no_loops (by kernel_rfl)) (Nat.le_of_ble_eq_true (by kernel_rfl))
    rw_i64_b np_i64_b (by kernel_rfl) (Eq.mpr (show Vm.Tr.vc (Vm.Fn c68 Try.f69 body69 noLoop ([.agg [.int .u64 c.M, .int .u64 c.R], .int .i64 a1])) = S.ref20_Least_pre c a1 by kernel_rfl) hp)

noncomputable def sem69 : List W → Option (W × List Prop)
  | [.agg [.int .u64 y1, .int .u64 y2], .int .i64 y3] => some (wr_i64_b (S.ref20_Least (⟨y1, y2⟩ : S.Cong) y3), [S.ref20_Least_pre (⟨y1, y2⟩ : S.Cong) y3])
  | _ => none
noncomputable def c69 : Cfg El := c68.add 69 sem69
theorem c69_ok : CfgOk c69 := c68_ok.add (fun args w => Try.call69 args w) (fun vs r ps h hp => by
  unfold sem69 at h
  split at h
  · rename_i y1 y2 y3; cases h; exact fn69 (⟨y1, y2⟩ : S.Cong) y3 hp
  · cases h)

noncomputable def body71 : Code := (Try.f71.body).getD .skip
theorem fn71 (c : S.Cong) (to : Int) (hp : S.ref20_Greatest_pre c to) : CallOk c69 71 [.agg [.int .u64 c.M, .int .u64 c.R], .int .i64 to] (wr_i64_b (S.ref20_Greatest c to)) :=
  call_ok (c := c69) (f := 71) (fn := Try.f71) (code := body71) (args := ([.agg [.int .u64 c.M, .int .u64 c.R], .int .i64 to])) (loop := noLoop) (rd := rd_i64_b) (wr := wr_i64_b) (r := (S.ref20_Greatest c to)) c69_ok (by kernel_rfl) (by kernel_rfl) (by kernel_rfl) (no_loops (by kernel_rfl)) (Nat.le_of_ble_eq_true (by kernel_rfl))
    rw_i64_b np_i64_b (by kernel_rfl) (Eq.mpr (show Vm.Tr.vc (Vm.Fn c69 Try.f71 body71 noLoop ([.agg [.int .u64 c.M, .int .u64 c.R], .int .i64 to])) = S.ref20_Greatest_pre c to by kernel_rfl) hp)

noncomputable def sem71 : List W → Option (W × List Prop)
  | [.agg [.int .u64 y1, .int .u64 y2], .int .i64 y3] => some (wr_i64_b (S.ref20_Greatest (⟨y1, y2⟩ : S.Cong) y3), [S.ref20_Greatest_pre (⟨y1, y2⟩ : S.Cong) y3])
  | _ => none
noncomputable def c71 : Cfg El := c69.add 71 sem71
theorem c71_ok : CfgOk c71 := c69_ok.add (fun args w => Try.call71 args w) (fun vs r ps h hp => by
  unfold sem71 at h
  split at h
  · rename_i y1 y2 y3; cases h; exact fn71 (⟨y1, y2⟩ : S.Cong) y3 hp
  · cases h)

noncomputable def body72 : Code := (Try.f72.body).getD .skip
theorem fn72 (c : S.Cong) (lo : Int) (hi : Int) (hp : S.cong_Cong_Many_pre c lo hi) : CallOk c71 72 [.agg [.int .u64 c.M, .int .u64 c.R], .int .i64 lo, .int .i64 hi] (wr_u64_b (S.cong_Cong_Many c lo hi)) :=
  call_ok (c := c71) (f := 72) (fn := Try.f72) (code := body72) (args := ([.agg [.int .u64 c.M, .int .u64 c.R], .int .i64 lo, .int .i64 hi])) (loop := noLoop) (rd := rd_u64_b) (wr := wr_u64_b) (r := (S.cong_Cong_Many c lo hi)) c71_ok (by kernel_rfl) (by kernel_rfl) (by kernel_rfl) (no_loops (by kernel_rfl)) (Nat.le_of_ble_eq_true (by kernel_rfl))
    rw_u64_b np_u64_b (by kernel_rfl) (Eq.mpr (show Vm.Tr.vc (Vm.Fn c71 Try.f72 body72 noLoop ([.agg [.int .u64 c.M, .int .u64 c.R], .int .i64 lo, .int .i64 hi])) = S.cong_Cong_Many_pre c lo hi by kernel_rfl) hp)

noncomputable def sem72 : List W → Option (W × List Prop)
  | [.agg [.int .u64 y1, .int .u64 y2], .int .i64 y3, .int .i64 y4] => some (wr_u64_b (S.cong_Cong_Many (⟨y1, y2⟩ : S.Cong) y3 y4), [S.cong_Cong_Many_pre (⟨y1, y2⟩ : S.Cong) y3 y4])
  | _ => none
noncomputable def c72 : Cfg El := c71.add 72 sem72
theorem c72_ok : CfgOk c72 := c71_ok.add (fun args w => Try.call72 args w) (fun vs r ps h hp => by
  unfold sem72 at h
  split at h
  · rename_i y1 y2 y3 y4; cases h; exact fn72 (⟨y1, y2⟩ : S.Cong) y3 y4 hp
  · cases h)

noncomputable def body73 : Code := (Try.f73.body).getD .skip
theorem fn73 (c : S.Cong) (lo : Int) (hi : Int) (hp : S.ref20_Many_pre c lo hi) : CallOk c72 73 [.agg [.int .u64 c.M, .int .u64 c.R], .int .i64 lo, .int .i64 hi] (wr_u64_b (S.ref20_Many c lo hi)) :=
  call_ok (c := c72) (f := 73) (fn := Try.f73) (code := body73) (args := ([.agg [.int .u64 c.M, .int .u64 c.R], .int .i64 lo, .int .i64 hi])) (loop := noLoop) (rd := rd_u64_b) (wr := wr_u64_b) (r := (S.ref20_Many c lo hi)) c72_ok (by kernel_rfl) (by kernel_rfl) (by kernel_rfl) (no_loops (by kernel_rfl)) (Nat.le_of_ble_eq_true (by kernel_rfl))
    rw_u64_b np_u64_b (by kernel_rfl) (Eq.mpr (show Vm.Tr.vc (Vm.Fn c72 Try.f73 body73 noLoop ([.agg [.int .u64 c.M, .int .u64 c.R], .int .i64 lo, .int .i64 hi])) = S.ref20_Many_pre c lo hi by kernel_rfl) hp)

noncomputable def sem73 : List W → Option (W × List Prop)
  | [.agg [.int .u64 y1, .int .u64 y2], .int .i64 y3, .int .i64 y4] => some (wr_u64_b (S.ref20_Many (⟨y1, y2⟩ : S.Cong) y3 y4), [S.ref20_Many_pre (⟨y1, y2⟩ : S.Cong) y3 y4])
  | _ => none
noncomputable def c73 : Cfg El := c72.add 73 sem73
theorem c73_ok : CfgOk c73 := c72_ok.add (fun args w => Try.call73 args w) (fun vs r ps h hp => by
  unfold sem73 at h
  split at h
  · rename_i y1 y2 y3 y4; cases h; exact fn73 (⟨y1, y2⟩ : S.Cong) y3 y4 hp
  · cases h)
end Go.Proofs.Ytpphpbphgnlmlaa
