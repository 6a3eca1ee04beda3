/-
  The statement WordKnown: whatever the input, the function answers true, and the input reads as it did. Conditions: none beside the statement's own.
-/
import Derived.Test.YtpnegnhbbcligaaWSem
import Derived.Test.YtpnegnhbbcligaaWordPlain7
import Derived.Test.YtpnegnhbbcligaaRows
import Derived.WalkKit
import Derived.ProofKit
import Derived.OpenShut
import Derived.ShutString
import Derived.ChangeOld
import Derived.Below
namespace Go.Proofs.Ytpnegnhbbcligaa.wordKnown
open Go Go.Proofs Go.Proofs.Ytpnegnhbbcligaa Go.ChangeShapes Go.WideShapes Go.ChangeAt Go.RowKit Vm
open Go.ChangeMaps (open_string shut_string)
set_option linter.all false

section
attribute [local irreducible] Vm.Tr.vc Vm.Tr.out Vm.Fn Vm.Fn.out Vm.ev Vm.loopsOf Vm.Tr.noReq
noncomputable def body9 : Code := (Try.f9.body).getD .skip
noncomputable def lb9_0 : Code := ((nth (loopsOf 0 body9) 0).getD (0, .skip)).2
noncomputable def px9_0 : List W → Option S.law09_WordKnown_L0
  | [.bool y1, .list 2 false y2, .int .i64 y3] => some ⟨y1, y2, y3⟩
  | _ => none
noncomputable def tx9_0 (x : S.law09_WordKnown_L0) : List W := [.bool x.t0, .list 2 false x.l, .int .i64 x.i]
noncomputable def py9_0 : Ex → List W → Option (Bool × S.law09_WordKnown_L0)
  | .ret, [.bool y1, .list 2 false y2, .int .i64 y3] => some ⟨true, ⟨y1, y2, y3⟩⟩
  | .exit 0, [.bool y1, .list 2 false y2, .int .i64 y3] => some ⟨false, ⟨y1, y2, y3⟩⟩
  | _, _ => none
noncomputable def ld9_0 : LD El where
  X := S.law09_WordKnown_L0
  Y := Bool × S.law09_WordKnown_L0
  keys := [.slot 0, .slot 1, .slot 2]
  fits := [4, 52, 3]
  px := px9_0
  tx := tx9_0
  okeys := [.slot 0, .slot 1, .slot 2]
  ofits := [4, 52, 3]
  py := py9_0
  ty := fun y => bif y.1 then tx9_0 y.2 else tx9_0 y.2
  oex := fun y => bif y.1 then .ret else .exit 0
  junk := [.slot 3, .slot 4, .slot 6, .slot 7, .slot 8, .slot 9, .slot 10, .slot 11, .slot 12, .slot 13, .slot 14, .slot 15, .slot 16, .slot 17, .slot 18, .slot 19, .slot 20, .slot 21, .slot 22, .slot 23, .slot 24, .slot 25, .slot 26, .slot 27, .slot 28, .slot 29, .slot 30, .slot 31, .slot 32, .slot 33, .slot 34, .slot 35, .slot 36, .slot 37, .slot 38, .slot 39, .slot 40, .slot 41, .slot 42]
  rows := []
noncomputable def lo9_0 : (Bool × S.law09_WordKnown_L0) → Tr El := fun y => .node y.1 (.leaf (.ret) (zipK ld9_0.okeys (tx9_0 y.2) ++ junkK ld9_0.junk)) (.leaf (.exit 0) (zipK ld9_0.okeys (tx9_0 y.2) ++ junkK ld9_0.junk))
noncomputable def lb9_2 : Code := ((nth (loopsOf 0 lb9_0) 0).getD (0, .skip)).2
noncomputable def px9_2 : List W → Option S.law09_WordKnown_L2
  | [.bool y1, .list 2 false y2, .int .i64 y3, .int .i64 y4] => some ⟨y1, y2, y3, y4⟩
  | _ => none
noncomputable def tx9_2 (x : S.law09_WordKnown_L2) : List W := [.bool x.t0, .list 2 false x.l, .int .i64 x.i, .int .i64 x.k]
noncomputable def py9_2 : Ex → List W → Option (Bool × S.law09_WordKnown_L2)
  | .ret, [.bool y1, .list 2 false y2, .int .i64 y3, .int .i64 y4] => some ⟨true, ⟨y1, y2, y3, y4⟩⟩
  | .exit 2, [.bool y1, .list 2 false y2, .int .i64 y3, .int .i64 y4] => some ⟨false, ⟨y1, y2, y3, y4⟩⟩
  | _, _ => none
noncomputable def ld9_2 : LD El where
  X := S.law09_WordKnown_L2
  Y := Bool × S.law09_WordKnown_L2
  keys := [.slot 0, .slot 1, .slot 2, .slot 3]
  fits := [4, 52, 3, 3]
  px := px9_2
  tx := tx9_2
  okeys := [.slot 0, .slot 1, .slot 2, .slot 3]
  ofits := [4, 52, 3, 3]
  py := py9_2
  ty := fun y => bif y.1 then tx9_2 y.2 else tx9_2 y.2
  oex := fun y => bif y.1 then .ret else .exit 2
  junk := [.slot 4, .slot 12, .slot 13, .slot 14, .slot 15, .slot 16, .slot 17, .slot 18, .slot 19, .slot 20, .slot 21, .slot 22, .slot 23, .slot 24, .slot 25, .slot 26, .slot 27, .slot 28, .slot 29, .slot 30, .slot 31, .slot 32, .slot 33, .slot 34, .slot 35, .slot 36, .slot 37, .slot 38, .slot 39, .slot 40, .slot 41, .slot 42]
  rows := []
noncomputable def lo9_2 : (Bool × S.law09_WordKnown_L2) → Tr El := fun y => .node y.1 (.leaf (.ret) (zipK ld9_2.okeys (tx9_2 y.2) ++ junkK ld9_2.junk)) (.leaf (.exit 2) (zipK ld9_2.okeys (tx9_2 y.2) ++ junkK ld9_2.junk))
noncomputable def lb9_4 : Code := ((nth (loopsOf 2 lb9_2) 0).getD (0, .skip)).2
noncomputable def px9_4 : List W → Option S.law09_WordKnown_L4
  | [.bool y1, .list 2 false y2, .int .i64 y3, .int .i64 y4, .int .i64 y5] => some ⟨y1, y2, y3, y4, y5⟩
  | _ => none
noncomputable def tx9_4 (x : S.law09_WordKnown_L4) : List W := [.bool x.t0, .list 2 false x.l, .int .i64 x.i, .int .i64 x.k, .int .i64 x.op]
noncomputable def py9_4 : Ex → List W → Option (Bool × S.law09_WordKnown_L4)
  | .ret, [.bool y1, .list 2 false y2, .int .i64 y3, .int .i64 y4, .int .i64 y5] => some ⟨true, ⟨y1, y2, y3, y4, y5⟩⟩
  | .exit 4, [.bool y1, .list 2 false y2, .int .i64 y3, .int .i64 y4, .int .i64 y5] => some ⟨false, ⟨y1, y2, y3, y4, y5⟩⟩
  | _, _ => none
noncomputable def ld9_4 : LD El where
  X := S.law09_WordKnown_L4
  Y := Bool × S.law09_WordKnown_L4
  keys := [.slot 0, .slot 1, .slot 2, .slot 3, .slot 4]
  fits := [4, 52, 3, 3, 3]
  px := px9_4
  tx := tx9_4
  okeys := [.slot 0, .slot 1, .slot 2, .slot 3, .slot 4]
  ofits := [4, 52, 3, 3, 3]
  py := py9_4
  ty := fun y => bif y.1 then tx9_4 y.2 else tx9_4 y.2
  oex := fun y => bif y.1 then .ret else .exit 4
  junk := [.slot 18, .slot 19, .slot 20, .slot 21, .slot 22, .slot 23, .slot 24, .slot 25, .slot 26, .slot 27, .slot 28, .slot 29, .slot 30, .slot 31, .slot 32]
  rows := []
noncomputable def lo9_4 : (Bool × S.law09_WordKnown_L4) → Tr El := fun y => .node y.1 (.leaf (.ret) (zipK ld9_4.okeys (tx9_4 y.2) ++ junkK ld9_4.junk)) (.leaf (.exit 4) (zipK ld9_4.okeys (tx9_4 y.2) ++ junkK ld9_4.junk))
noncomputable def loop9 : Nat → Env El → Tr El
  | 0 => ld9_0.tree c8 Try.f9.ntmps 0 lb9_0 S.law09_WordKnown_L0_run lo9_0 S.law09_WordKnown_L0_step S.law09_WordKnown_L0_vcs
  | 2 => ld9_2.tree c8 Try.f9.ntmps 2 lb9_2 S.law09_WordKnown_L2_run lo9_2 S.law09_WordKnown_L2_step S.law09_WordKnown_L2_vcs
  | 4 => ld9_4.tree c8 Try.f9.ntmps 4 lb9_4 S.law09_WordKnown_L4_run lo9_4 S.law09_WordKnown_L4_step S.law09_WordKnown_L4_vcs
  | _ => fun _ => .fail
theorem lok9_4 : ∀ w0 S0, LoopOk c8 Try.f9.ntmps w0 S0 loop9 4 lb9_4 :=
  loop_ok (c := c8) (n := Try.f9.ntmps) c8_ok mixed ld9_4 (body := lb9_4) (key := 4) (loop := loop9) (F := S.law09_WordKnown_L4_run) (out := lo9_4) (step := S.law09_WordKnown_L4_step) (vcs := S.law09_WordKnown_L4_vcs)
    (fun _ => by kernel_rfl) (no_loops (by kernel_rfl)) rfl rfl
    (fun vs x h => by unfold ld9_4 px9_4 at h; dsimp only at h; split at h <;> first | (cases h; rfl) | cases h)
    (fun e vs y h => by unfold ld9_4 py9_4 at h; dsimp only at h; split at h <;> first | (cases h; exact ⟨rfl, rfl⟩) | cases h)
    (by kernel_rfl) (fun | (true, _) => rfl | (false, _) => rfl) (fun | (true, _), _, h => h.1 rfl | (false, _), _, h => h.2 rfl) (fun x => by kernel_rfl) (fun x h => Eq.mpr (show Vm.Tr.vc (Vm.ev c8 Try.f9.ntmps loop9 4 lb9_4 (ld9_4.vars x) []) = S.law09_WordKnown_L4_vcs x by kernel_rfl) h)
theorem lok9_2 : ∀ w0 S0, LoopOk c8 Try.f9.ntmps w0 S0 loop9 2 lb9_2 :=
  loop_ok (c := c8) (n := Try.f9.ntmps) c8_ok mixed ld9_2 (body := lb9_2) (key := 2) (loop := loop9) (F := S.law09_WordKnown_L2_run) (out := lo9_2) (step := S.law09_WordKnown_L2_step) (vcs := S.law09_WordKnown_L2_vcs)
    (fun _ => by kernel_rfl) (loops_all (l := [(4, lb9_4)]) (by kernel_rfl) ⟨lok9_4, trivial⟩) rfl rfl
    (fun vs x h => by unfold ld9_2 px9_2 at h; dsimp only at h; split at h <;> first | (cases h; rfl) | cases h)
    (fun e vs y h => by unfold ld9_2 py9_2 at h; dsimp only at h; split at h <;> first | (cases h; exact ⟨rfl, rfl⟩) | cases h)
    (by kernel_rfl) (fun | (true, _) => rfl | (false, _) => rfl) (fun | (true, _), _, h => h.1 rfl | (false, _), _, h => h.2 rfl) (fun x => by kernel_rfl) (fun x h => Eq.mpr (show Vm.Tr.vc (Vm.ev c8 Try.f9.ntmps loop9 2 lb9_2 (ld9_2.vars x) []) = S.law09_WordKnown_L2_vcs x by kernel_rfl) h)
theorem lok9_0 : ∀ w0 S0, LoopOk c8 Try.f9.ntmps w0 S0 loop9 0 lb9_0 :=
  loop_ok (c := c8) (n := Try.f9.ntmps) c8_ok mixed ld9_0 (body := lb9_0) (key := 0) (loop := loop9) (F := S.law09_WordKnown_L0_run) (out := lo9_0) (step := S.law09_WordKnown_L0_step) (vcs := S.law09_WordKnown_L0_vcs)
    (fun _ => by kernel_rfl) (loops_all (l := [(2, lb9_2)]) (by kernel_rfl) ⟨lok9_2, trivial⟩) rfl rfl
    (fun vs x h => by unfold ld9_0 px9_0 at h; dsimp only at h; split at h <;> first | (cases h; rfl) | cases h)
    (fun e vs y h => by unfold ld9_0 py9_0 at h; dsimp only at h; split at h <;> first | (cases h; exact ⟨rfl, rfl⟩) | cases h)
    (by kernel_rfl) (fun | (true, _) => rfl | (false, _) => rfl) (fun | (true, _), _, h => h.1 rfl | (false, _), _, h => h.2 rfl) (fun x => by kernel_rfl) (fun x h => Eq.mpr (show Vm.Tr.vc (Vm.ev c8 Try.f9.ntmps loop9 0 lb9_0 (ld9_0.vars x) []) = S.law09_WordKnown_L0_vcs x by kernel_rfl) h)
theorem fn9 (hp : S.law09_WordKnown_pre) : CallOk c8 9 [] (wr_b (S.law09_WordKnown)) (wo_b (S.law09_WordKnown)) :=
  (call_ok (c := c8) (f := 9) (fn := Try.f9) (code := body9) (args := ([])) (loop := loop9) (md := ⟨false, false⟩) (rd := rd_b) (wr := wr_b) (wo := wo_b) (r := S.law09_WordKnown) c8_ok (by kernel_rfl) (by kernel_rfl) (by kernel_rfl) (loops_all (l := [(0, lb9_0)]) (by kernel_rfl) ⟨lok9_0, trivial⟩) (by kernel_rfl) (by kernel_rfl) (by kernel_rfl)
    rw_b np_b no_b (by kernel_rfl) (Eq.mpr (show Vm.Tr.vc (Vm.Fn c8 Try.f9 body9 loop9 ([])) = S.law09_WordKnown_pre by kernel_rfl) hp))
end

theorem own : ownKnob Try.prog.godebug = none := by kernel_rfl
theorem laidOut : laidOutB Try.prog = true := by kernel_rfl
set_option maxRecDepth 100000 in
theorem lifted (os : Os) (started : os.Started) (H : Type) (enc : TypeId × Value → H) :
    ReturnsInHanded {} Try.checked os 9 .any (Rows.wordKnownSpec.pre6 enc Try.prog Try.f9 Rows.wordKnownRow.domain false) (Rows.wordKnownSpec.post enc Try.prog Try.f9 false true false false) := by
  refine returnsInHanded_of_change (C := Try.checked) own started (by kernel_rfl) Try.func9
    (ChangeSpec.witness6 (enc := enc) (C := Try.checked) false ⟨#[], #[], []⟩ 8 (by kernel_rfl) (by kernel_rfl) (by kernel_rfl) (by kernel_rfl)) ?_
  intro w base0 args ds gs before hval0 hW hcnd _
  have hval : ∀ (j : Nat) t v, Try.f9.params[j]? = some t → args[j]? = some v → Value.okWide Try.prog w .any base0 t v := hval0
  have hW' := hW
  obtain ⟨p, q, hA0, hV, rfl, hfz, hnd⟩ := hW
  have hA : DataW.TrodAll enc Try.prog w 0 (fun _ => true) true Try.f9.params.toList args.toList ds p := hA0
  rw [Try.params9] at hA hval
  obtain ⟨hargs, rfl, rfl⟩ := trodAll_nil hA
  obtain rfl : args = #[] := by cases args; simp_all
  obtain ⟨rfl, rfl⟩ := trodVars_none hV
  have hp := S.WordKnown_law  
  have hc := fn9  hp.1
  rw [hp.2] at hc
  refine (law_calls hc (P := Try.prog) rfl trivial .nil).mono fun e w' ⟨he, bel⟩ => ?_
  subst he
  exact ⟨_, rfl, _, _, _, [], _, [], hW', trodAll_mk1 (shut_bool Try.underlying4 _), trodAll_mk0, rfl, bel.frame _, fun h => by cases h⟩

theorem over : Rows.wordKnownRow.holds Try.pinned (OpenSpec.ofChange Rows.wordKnownSpec) :=
  OpenClaim.holds_of_wide 9 Try.f9 rfl rfl rfl rfl rfl rfl rfl ⟨rfl, rfl, rfl, rfl, rfl⟩ rfl rfl rfl rfl rfl (by kernel_rfl) Try.func9 (by kernel_rfl)
    (of_decide_eq_true (by kernel_rfl)) (by unfold Func.isWrapper; first | (rw [if_pos (by decide +kernel)]; kernel_rfl) | (rw [if_neg (by decide +kernel)]; exact ⟨rfl, rfl⟩))
    (fun os started H enc _ => lifted os started H enc)

theorem proved : Rows.WordKnownSaid := over
#print axioms proved
end Go.Proofs.Ytpnegnhbbcligaa.wordKnown
