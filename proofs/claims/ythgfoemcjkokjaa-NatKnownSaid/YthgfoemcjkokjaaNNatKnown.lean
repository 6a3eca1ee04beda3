/-
  The statement NatKnown: whatever the input, the function answers true, and the input reads as it did. Conditions: none beside the statement's own.
-/
import Derived.Test.YthgfoemcjkokjaaNSem
import Derived.Test.YthgfoemcjkokjaaNatKnownPlain
import Derived.Test.YthgfoemcjkokjaaRows
import Derived.WalkKit
import Derived.ProofKit
import Derived.OpenShut
import Derived.ShutString
import Derived.ChangeOld
import Derived.Below
namespace Go.Proofs.Ythgfoemcjkokjaa.natKnown
open Go Go.Proofs Go.Proofs.Ythgfoemcjkokjaa Go.ChangeShapes Go.WideShapes Go.ChangeAt Go.RowKit Vm
open Go.ChangeMaps (open_string shut_string)
set_option linter.all false

section
attribute [local irreducible] Vm.Tr.vc Vm.Tr.out Vm.Fn Vm.Fn.out Vm.ev Vm.loopsOf Vm.Tr.noReq
noncomputable def body7 : Code := (Try.f7.body).getD .skip
noncomputable def lb7_0 : Code := ((nth (loopsOf 0 body7) 0).getD (0, .skip)).2
noncomputable def px7_0 : List W → Option S.law01_NatKnown_L0
  | [.bool y1, .list 22 false y2, .int .i64 y3] => some ⟨y1, y2, y3⟩
  | _ => none
noncomputable def tx7_0 (x : S.law01_NatKnown_L0) : List W := [.bool x.t0, .list 22 false x.l, .int .i64 x.i]
noncomputable def py7_0 : Ex → List W → Option (Bool × S.law01_NatKnown_L0)
  | .ret, [.bool y1, .list 22 false y2, .int .i64 y3] => some ⟨true, ⟨y1, y2, y3⟩⟩
  | .exit 0, [.bool y1, .list 22 false y2, .int .i64 y3] => some ⟨false, ⟨y1, y2, y3⟩⟩
  | _, _ => none
noncomputable def ld7_0 : LD El where
  X := S.law01_NatKnown_L0
  Y := Bool × S.law01_NatKnown_L0
  keys := [.slot 0, .slot 1, .slot 2]
  fits := [4, 72, 3]
  px := px7_0
  tx := tx7_0
  okeys := [.slot 0, .slot 1, .slot 2]
  ofits := [4, 72, 3]
  py := py7_0
  ty := fun y => bif y.1 then tx7_0 y.2 else tx7_0 y.2
  oex := fun y => bif y.1 then .ret else .exit 0
  junk := [.slot 3, .slot 4, .slot 5, .slot 16, .slot 17, .slot 18, .slot 19, .slot 20, .slot 21, .slot 22, .slot 23, .slot 24, .slot 25, .slot 26, .slot 27, .slot 28, .slot 29, .slot 30, .slot 31, .slot 32, .slot 33, .slot 34, .slot 35, .slot 36, .slot 37, .slot 38, .slot 39, .slot 40, .slot 41, .slot 42, .slot 43, .slot 44, .slot 45, .slot 46, .slot 47, .slot 48, .slot 49, .slot 50, .slot 51, .slot 52, .slot 53, .slot 54, .slot 55, .slot 56, .slot 57, .slot 58, .slot 59, .slot 60, .slot 61, .slot 62, .slot 63, .slot 64, .slot 65, .slot 66, .slot 67, .slot 68, .slot 69, .slot 70, .slot 71, .slot 72, .slot 73, .slot 74, .slot 75, .slot 76, .slot 77]
  rows := []
noncomputable def lo7_0 : (Bool × S.law01_NatKnown_L0) → Tr El := fun y => .node y.1 (.leaf (.ret) (zipK ld7_0.okeys (tx7_0 y.2) ++ junkK ld7_0.junk)) (.leaf (.exit 0) (zipK ld7_0.okeys (tx7_0 y.2) ++ junkK ld7_0.junk))
noncomputable def lb7_2 : Code := ((nth (loopsOf 0 lb7_0) 0).getD (0, .skip)).2
noncomputable def px7_2 : List W → Option S.law01_NatKnown_L2
  | [.bool y1, .list 22 false y2, .int .i64 y3, .int .i64 y4] => some ⟨y1, y2, y3, y4⟩
  | _ => none
noncomputable def tx7_2 (x : S.law01_NatKnown_L2) : List W := [.bool x.t0, .list 22 false x.l, .int .i64 x.i, .int .i64 x.k]
noncomputable def py7_2 : Ex → List W → Option (Bool × S.law01_NatKnown_L2)
  | .ret, [.bool y1, .list 22 false y2, .int .i64 y3, .int .i64 y4] => some ⟨true, ⟨y1, y2, y3, y4⟩⟩
  | .exit 2, [.bool y1, .list 22 false y2, .int .i64 y3, .int .i64 y4] => some ⟨false, ⟨y1, y2, y3, y4⟩⟩
  | _, _ => none
noncomputable def ld7_2 : LD El where
  X := S.law01_NatKnown_L2
  Y := Bool × S.law01_NatKnown_L2
  keys := [.slot 0, .slot 1, .slot 2, .slot 3]
  fits := [4, 72, 3, 3]
  px := px7_2
  tx := tx7_2
  okeys := [.slot 0, .slot 1, .slot 2, .slot 3]
  ofits := [4, 72, 3, 3]
  py := py7_2
  ty := fun y => bif y.1 then tx7_2 y.2 else tx7_2 y.2
  oex := fun y => bif y.1 then .ret else .exit 2
  junk := [.slot 4, .slot 5, .slot 22, .slot 23, .slot 24, .slot 25, .slot 26, .slot 27, .slot 28, .slot 29, .slot 30, .slot 31, .slot 32, .slot 33, .slot 34, .slot 35, .slot 36, .slot 37, .slot 38, .slot 39, .slot 40, .slot 41, .slot 42, .slot 43, .slot 44, .slot 45, .slot 46, .slot 47, .slot 48, .slot 49, .slot 50, .slot 51, .slot 52, .slot 53, .slot 54, .slot 55, .slot 56, .slot 57, .slot 58, .slot 59, .slot 60, .slot 61, .slot 62, .slot 63, .slot 64, .slot 65, .slot 66, .slot 67, .slot 68, .slot 69, .slot 70, .slot 71, .slot 72, .slot 73, .slot 74, .slot 75, .slot 76, .slot 77]
  rows := []
noncomputable def lo7_2 : (Bool × S.law01_NatKnown_L2) → Tr El := fun y => .node y.1 (.leaf (.ret) (zipK ld7_2.okeys (tx7_2 y.2) ++ junkK ld7_2.junk)) (.leaf (.exit 2) (zipK ld7_2.okeys (tx7_2 y.2) ++ junkK ld7_2.junk))
noncomputable def lb7_4 : Code := ((nth (loopsOf 2 lb7_2) 0).getD (0, .skip)).2
noncomputable def px7_4 : List W → Option S.law01_NatKnown_L4
  | [.bool y1, .list 22 false y2, .int .i64 y3, .int .i64 y4, .int .i64 y5] => some ⟨y1, y2, y3, y4, y5⟩
  | _ => none
noncomputable def tx7_4 (x : S.law01_NatKnown_L4) : List W := [.bool x.t0, .list 22 false x.l, .int .i64 x.i, .int .i64 x.k, .int .i64 x.c]
noncomputable def py7_4 : Ex → List W → Option (Bool × S.law01_NatKnown_L4)
  | .ret, [.bool y1, .list 22 false y2, .int .i64 y3, .int .i64 y4, .int .i64 y5] => some ⟨true, ⟨y1, y2, y3, y4, y5⟩⟩
  | .exit 4, [.bool y1, .list 22 false y2, .int .i64 y3, .int .i64 y4, .int .i64 y5] => some ⟨false, ⟨y1, y2, y3, y4, y5⟩⟩
  | _, _ => none
noncomputable def ld7_4 : LD El where
  X := S.law01_NatKnown_L4
  Y := Bool × S.law01_NatKnown_L4
  keys := [.slot 0, .slot 1, .slot 2, .slot 3, .slot 4]
  fits := [4, 72, 3, 3, 3]
  px := px7_4
  tx := tx7_4
  okeys := [.slot 0, .slot 1, .slot 2, .slot 3, .slot 4]
  ofits := [4, 72, 3, 3, 3]
  py := py7_4
  ty := fun y => bif y.1 then tx7_4 y.2 else tx7_4 y.2
  oex := fun y => bif y.1 then .ret else .exit 4
  junk := [.slot 28, .slot 29, .slot 30, .slot 31, .slot 32, .slot 33, .slot 34, .slot 35, .slot 36, .slot 37, .slot 38, .slot 39, .slot 40, .slot 41, .slot 42]
  rows := []
noncomputable def lo7_4 : (Bool × S.law01_NatKnown_L4) → Tr El := fun y => .node y.1 (.leaf (.ret) (zipK ld7_4.okeys (tx7_4 y.2) ++ junkK ld7_4.junk)) (.leaf (.exit 4) (zipK ld7_4.okeys (tx7_4 y.2) ++ junkK ld7_4.junk))
noncomputable def lb7_6 : Code := ((nth (loopsOf 2 lb7_2) 1).getD (0, .skip)).2
noncomputable def px7_6 : List W → Option S.law01_NatKnown_L6
  | [.bool y1, .list 22 false y2, .int .i64 y3, .int .i64 y4, .int .i64 y5] => some ⟨y1, y2, y3, y4, y5⟩
  | _ => none
noncomputable def tx7_6 (x : S.law01_NatKnown_L6) : List W := [.bool x.t0, .list 22 false x.l, .int .i64 x.i, .int .i64 x.k, .int .i64 x.m]
noncomputable def py7_6 : Ex → List W → Option (Bool × S.law01_NatKnown_L6)
  | .ret, [.bool y1, .list 22 false y2, .int .i64 y3, .int .i64 y4, .int .i64 y5] => some ⟨true, ⟨y1, y2, y3, y4, y5⟩⟩
  | .exit 6, [.bool y1, .list 22 false y2, .int .i64 y3, .int .i64 y4, .int .i64 y5] => some ⟨false, ⟨y1, y2, y3, y4, y5⟩⟩
  | _, _ => none
noncomputable def ld7_6 : LD El where
  X := S.law01_NatKnown_L6
  Y := Bool × S.law01_NatKnown_L6
  keys := [.slot 0, .slot 1, .slot 2, .slot 3, .slot 5]
  fits := [4, 72, 3, 3, 3]
  px := px7_6
  tx := tx7_6
  okeys := [.slot 0, .slot 1, .slot 2, .slot 3, .slot 5]
  ofits := [4, 72, 3, 3, 3]
  py := py7_6
  ty := fun y => bif y.1 then tx7_6 y.2 else tx7_6 y.2
  oex := fun y => bif y.1 then .ret else .exit 6
  junk := [.slot 43, .slot 44, .slot 45, .slot 46, .slot 47, .slot 48, .slot 49, .slot 50, .slot 51, .slot 52, .slot 53, .slot 54, .slot 55, .slot 56, .slot 57, .slot 58, .slot 59, .slot 60, .slot 61, .slot 62]
  rows := []
noncomputable def lo7_6 : (Bool × S.law01_NatKnown_L6) → Tr El := fun y => .node y.1 (.leaf (.ret) (zipK ld7_6.okeys (tx7_6 y.2) ++ junkK ld7_6.junk)) (.leaf (.exit 6) (zipK ld7_6.okeys (tx7_6 y.2) ++ junkK ld7_6.junk))
noncomputable def loop7 : Nat → Env El → Tr El
  | 0 => ld7_0.tree c6 Try.f7.ntmps 0 lb7_0 S.law01_NatKnown_L0_run lo7_0 S.law01_NatKnown_L0_step S.law01_NatKnown_L0_vcs
  | 2 => ld7_2.tree c6 Try.f7.ntmps 2 lb7_2 S.law01_NatKnown_L2_run lo7_2 S.law01_NatKnown_L2_step S.law01_NatKnown_L2_vcs
  | 4 => ld7_4.tree c6 Try.f7.ntmps 4 lb7_4 S.law01_NatKnown_L4_run lo7_4 S.law01_NatKnown_L4_step S.law01_NatKnown_L4_vcs
  | 6 => ld7_6.tree c6 Try.f7.ntmps 6 lb7_6 S.law01_NatKnown_L6_run lo7_6 S.law01_NatKnown_L6_step S.law01_NatKnown_L6_vcs
  | _ => fun _ => .fail
theorem lok7_6 : ∀ w0 S0, LoopOk c6 Try.f7.ntmps w0 S0 loop7 6 lb7_6 :=
  loop_ok (c := c6) (n := Try.f7.ntmps) c6_ok mixed ld7_6 (body := lb7_6) (key := 6) (loop := loop7) (F := S.law01_NatKnown_L6_run) (out := lo7_6) (step := S.law01_NatKnown_L6_step) (vcs := S.law01_NatKnown_L6_vcs)
    (fun _ => by kernel_rfl) (no_loops (by kernel_rfl)) rfl rfl
    (fun vs x h => by unfold ld7_6 px7_6 at h; dsimp only at h; split at h <;> first | (cases h; rfl) | cases h)
    (fun e vs y h => by unfold ld7_6 py7_6 at h; dsimp only at h; split at h <;> first | (cases h; exact ⟨rfl, rfl⟩) | cases h)
    (by kernel_rfl) (fun | (true, _) => rfl | (false, _) => rfl) (fun | (true, _), _, h => h.1 rfl | (false, _), _, h => h.2 rfl) (fun x => by kernel_rfl) (fun x h => Eq.mpr (show Vm.Tr.vc (Vm.ev c6 Try.f7.ntmps loop7 6 lb7_6 (ld7_6.vars x) []) = S.law01_NatKnown_L6_vcs x by kernel_rfl) h)
theorem lok7_4 : ∀ w0 S0, LoopOk c6 Try.f7.ntmps w0 S0 loop7 4 lb7_4 :=
  loop_ok (c := c6) (n := Try.f7.ntmps) c6_ok mixed ld7_4 (body := lb7_4) (key := 4) (loop := loop7) (F := S.law01_NatKnown_L4_run) (out := lo7_4) (step := S.law01_NatKnown_L4_step) (vcs := S.law01_NatKnown_L4_vcs)
    (fun _ => by kernel_rfl) (no_loops (by kernel_rfl)) rfl rfl
    (fun vs x h => by unfold ld7_4 px7_4 at h; dsimp only at h; split at h <;> first | (cases h; rfl) | cases h)
    (fun e vs y h => by unfold ld7_4 py7_4 at h; dsimp only at h; split at h <;> first | (cases h; exact ⟨rfl, rfl⟩) | cases h)
    (by kernel_rfl) (fun | (true, _) => rfl | (false, _) => rfl) (fun | (true, _), _, h => h.1 rfl | (false, _), _, h => h.2 rfl) (fun x => by kernel_rfl) (fun x h => Eq.mpr (show Vm.Tr.vc (Vm.ev c6 Try.f7.ntmps loop7 4 lb7_4 (ld7_4.vars x) []) = S.law01_NatKnown_L4_vcs x by kernel_rfl) h)
theorem lok7_2 : ∀ w0 S0, LoopOk c6 Try.f7.ntmps w0 S0 loop7 2 lb7_2 :=
  loop_ok (c := c6) (n := Try.f7.ntmps) c6_ok mixed ld7_2 (body := lb7_2) (key := 2) (loop := loop7) (F := S.law01_NatKnown_L2_run) (out := lo7_2) (step := S.law01_NatKnown_L2_step) (vcs := S.law01_NatKnown_L2_vcs)
    (fun _ => by kernel_rfl) (loops_all (l := [(4, lb7_4), (6, lb7_6)]) (by kernel_rfl) ⟨lok7_4, ⟨lok7_6, trivial⟩⟩) rfl rfl
    (fun vs x h => by unfold ld7_2 px7_2 at h; dsimp only at h; split at h <;> first | (cases h; rfl) | cases h)
    (fun e vs y h => by unfold ld7_2 py7_2 at h; dsimp only at h; split at h <;> first | (cases h; exact ⟨rfl, rfl⟩) | cases h)
    (by kernel_rfl) (fun | (true, _) => rfl | (false, _) => rfl) (fun | (true, _), _, h => h.1 rfl | (false, _), _, h => h.2 rfl) (fun x => by kernel_rfl) (fun x h => Eq.mpr (show Vm.Tr.vc (Vm.ev c6 Try.f7.ntmps loop7 2 lb7_2 (ld7_2.vars x) []) = S.law01_NatKnown_L2_vcs x by kernel_rfl) h)
theorem lok7_0 : ∀ w0 S0, LoopOk c6 Try.f7.ntmps w0 S0 loop7 0 lb7_0 :=
  loop_ok (c := c6) (n := Try.f7.ntmps) c6_ok mixed ld7_0 (body := lb7_0) (key := 0) (loop := loop7) (F := S.law01_NatKnown_L0_run) (out := lo7_0) (step := S.law01_NatKnown_L0_step) (vcs := S.law01_NatKnown_L0_vcs)
    (fun _ => by kernel_rfl) (loops_all (l := [(2, lb7_2)]) (by kernel_rfl) ⟨lok7_2, trivial⟩) rfl rfl
    (fun vs x h => by unfold ld7_0 px7_0 at h; dsimp only at h; split at h <;> first | (cases h; rfl) | cases h)
    (fun e vs y h => by unfold ld7_0 py7_0 at h; dsimp only at h; split at h <;> first | (cases h; exact ⟨rfl, rfl⟩) | cases h)
    (by kernel_rfl) (fun | (true, _) => rfl | (false, _) => rfl) (fun | (true, _), _, h => h.1 rfl | (false, _), _, h => h.2 rfl) (fun x => by kernel_rfl) (fun x h => Eq.mpr (show Vm.Tr.vc (Vm.ev c6 Try.f7.ntmps loop7 0 lb7_0 (ld7_0.vars x) []) = S.law01_NatKnown_L0_vcs x by kernel_rfl) h)
theorem fn7 (hp : S.law01_NatKnown_pre) : CallOk c6 7 [] (wr_b (S.law01_NatKnown)) (wo_b (S.law01_NatKnown)) :=
  (call_ok (c := c6) (f := 7) (fn := Try.f7) (code := body7) (args := ([])) (loop := loop7) (md := ⟨false, false⟩) (rd := rd_b) (wr := wr_b) (wo := wo_b) (r := S.law01_NatKnown) c6_ok (by kernel_rfl) (by kernel_rfl) (by kernel_rfl) (loops_all (l := [(0, lb7_0)]) (by kernel_rfl) ⟨lok7_0, trivial⟩) (by kernel_rfl) (by kernel_rfl) (by kernel_rfl)
    rw_b np_b no_b (by kernel_rfl) (Eq.mpr (show Vm.Tr.vc (Vm.Fn c6 Try.f7 body7 loop7 ([])) = S.law01_NatKnown_pre by kernel_rfl) hp))
end

theorem own : ownKnob Try.prog.godebug = none := by kernel_rfl
theorem laidOut : laidOutB Try.prog = true := by kernel_rfl
set_option maxRecDepth 100000 in
theorem lifted (os : Os) (started : os.Started) (H : Type) (enc : TypeId × Value → H) :
    ReturnsInHanded {} Try.checked os 7 .any (Rows.natKnownSpec.pre6 enc Try.prog Try.f7 Rows.natKnownRow.domain false) (Rows.natKnownSpec.post enc Try.prog Try.f7 false true false false) := by
  refine returnsInHanded_of_change (C := Try.checked) own started (by kernel_rfl) Try.func7
    (ChangeSpec.witness6 (enc := enc) (C := Try.checked) false ⟨#[], #[], []⟩ 8 (by kernel_rfl) (by kernel_rfl) (by kernel_rfl) (by kernel_rfl)) ?_
  intro w base0 args ds gs before hval0 hW hcnd _
  have hval : ∀ (j : Nat) t v, Try.f7.params[j]? = some t → args[j]? = some v → Value.okWide Try.prog w .any base0 t v := hval0
  have hW' := hW
  obtain ⟨p, q, hA0, hV, rfl, hfz, hnd⟩ := hW
  have hA : DataW.TrodAll enc Try.prog w 0 (fun _ => true) true Try.f7.params.toList args.toList ds p := hA0
  rw [Try.params7] at hA hval
  obtain ⟨hargs, rfl, rfl⟩ := trodAll_nil hA
  obtain rfl : args = #[] := by cases args; simp_all
  obtain ⟨rfl, rfl⟩ := trodVars_none hV
  have hp := S.NatKnown_law  
  have hc := fn7  hp.1
  rw [hp.2] at hc
  refine (law_calls hc (P := Try.prog) rfl .nil).mono fun e w' ⟨he, bel⟩ => ?_
  subst he
  exact ⟨_, rfl, _, _, _, [], _, [], hW', trodAll_mk1 (shut_bool Try.underlying4 _), trodAll_mk0, rfl, bel.frame _, fun h => by cases h⟩

theorem over : Rows.natKnownRow.holds Try.pinned (OpenSpec.ofChange Rows.natKnownSpec) :=
  OpenClaim.holds_of_wide 7 Try.f7 rfl rfl rfl rfl rfl rfl rfl ⟨rfl, rfl, rfl, rfl, rfl⟩ rfl rfl rfl rfl rfl (by kernel_rfl) Try.func7 (by kernel_rfl)
    (of_decide_eq_true (by kernel_rfl)) (by unfold Func.isWrapper; first | (rw [if_pos (by decide +kernel)]; kernel_rfl) | (rw [if_neg (by decide +kernel)]; exact ⟨rfl, rfl⟩))
    (fun os started H enc _ => lifted os started H enc)

theorem proved : Rows.NatKnownSaid := over
#print axioms proved
end Go.Proofs.Ythgfoemcjkokjaa.natKnown
