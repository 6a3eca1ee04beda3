/-
  The statement InterKnown: whatever the input, the function answers true, and the input reads as it did. Conditions: none beside the statement's own.
-/
import Derived.Test.YtpnegnhbbcligaaISem
import Derived.Test.YtpnegnhbbcligaaInterKnownPlain
import Derived.Test.YtpnegnhbbcligaaRows
import Derived.WalkKit
import Derived.ProofKit
import Derived.OpenShut
import Derived.ShutString
import Derived.ChangeOld
import Derived.Below
namespace Go.Proofs.Ytpnegnhbbcligaa.interKnown
open Go Go.Proofs Go.Proofs.Ytpnegnhbbcligaa Go.ChangeShapes Go.WideShapes Go.ChangeAt Go.RowKit Vm
open Go.ChangeMaps (open_string shut_string)
set_option linter.all false

section
attribute [local irreducible] Vm.Tr.vc Vm.Tr.out Vm.Fn Vm.Fn.out Vm.ev Vm.loopsOf Vm.Tr.noReq
noncomputable def body6 : Code := (Try.f6.body).getD .skip
noncomputable def lb6_0 : Code := ((nth (loopsOf 0 body6) 0).getD (0, .skip)).2
noncomputable def px6_0 : List W → Option S.law19_InterKnown_L0
  | [.own 129, .list 2 false y1, .int .i64 y2, .rowc 24 false none y3] => some ⟨y1, y2, y3⟩
  | _ => none
noncomputable def tx6_0 (x : S.law19_InterKnown_L0) : List W := [.own 129, .list 2 false x.ends, .int .i64 x.i, .rowc 24 false none x.l]
noncomputable def py6_0 : Ex → List W → Option (S.law19_InterKnown_L0)
  | .exit 0, [.own 129, .list 2 false y1, .int .i64 y2, .rowc 24 false none y3] => some ⟨y1, y2, y3⟩
  | _, _ => none
noncomputable def ld6_0 : LD El where
  X := S.law19_InterKnown_L0
  Y := S.law19_InterKnown_L0
  keys := [.slot 3, .slot 4, .slot 5, .row 129]
  fits := [22, 52, 3, 0]
  px := px6_0
  tx := tx6_0
  okeys := [.slot 3, .slot 4, .slot 5, .row 129]
  ofits := [22, 52, 3, 0]
  py := py6_0
  ty := fun y => tx6_0 y
  oex := fun _ => .exit 0
  junk := [.slot 6, .slot 17, .slot 18, .slot 19, .slot 20, .slot 21, .slot 22, .slot 23, .slot 24, .slot 25, .slot 26, .slot 27, .slot 28, .slot 29, .slot 30, .slot 31, .slot 32, .slot 33, .slot 34, .slot 35, .slot 36, .row 381]
  rows := [(3, 24)]
noncomputable def lo6_0 : S.law19_InterKnown_L0 → Tr El := fun y => .leaf (.exit 0) (zipK ld6_0.okeys (tx6_0 y) ++ junkK ld6_0.junk)
noncomputable def lb6_2 : Code := ((nth (loopsOf 0 lb6_0) 0).getD (0, .skip)).2
noncomputable def px6_2 : List W → Option S.law19_InterKnown_L2
  | [.own 381, .list 2 false y1, .int .i64 y2, .int .i64 y3, .rowc 24 false none y4] => some ⟨y1, y2, y3, y4⟩
  | _ => none
noncomputable def tx6_2 (x : S.law19_InterKnown_L2) : List W := [.own 381, .list 2 false x.ends, .int .i64 x.i, .int .i64 x.k, .rowc 24 false none x.l]
noncomputable def py6_2 : Ex → List W → Option (S.law19_InterKnown_L2)
  | .exit 2, [.own 381, .list 2 false y1, .int .i64 y2, .int .i64 y3, .rowc 24 false none y4] => some ⟨y1, y2, y3, y4⟩
  | _, _ => none
noncomputable def ld6_2 : LD El where
  X := S.law19_InterKnown_L2
  Y := S.law19_InterKnown_L2
  keys := [.slot 3, .slot 4, .slot 5, .slot 6, .row 381]
  fits := [22, 52, 3, 3, 0]
  px := px6_2
  tx := tx6_2
  okeys := [.slot 3, .slot 4, .slot 5, .slot 6, .row 381]
  ofits := [22, 52, 3, 3, 0]
  py := py6_2
  ty := fun y => tx6_2 y
  oex := fun _ => .exit 2
  junk := [.slot 21, .slot 22, .slot 23, .slot 24, .slot 25, .slot 26, .slot 27, .slot 28, .slot 29, .slot 30, .slot 31, .slot 32, .slot 33, .slot 34, .slot 35, .slot 36, .row 129]
  rows := [(3, 24)]
noncomputable def lo6_2 : S.law19_InterKnown_L2 → Tr El := fun y => .leaf (.exit 2) (zipK ld6_2.okeys (tx6_2 y) ++ junkK ld6_2.junk)
noncomputable def lb6_4 : Code := ((nth (loopsOf 0 body6) 1).getD (0, .skip)).2
noncomputable def px6_4 : List W → Option S.law19_InterKnown_L4
  | [.bool y1, .own 129, .list 2 false y2, .int .i64 y3, .list 24 false y4] => some ⟨y1, y2, y3, y4⟩
  | _ => none
noncomputable def tx6_4 (x : S.law19_InterKnown_L4) : List W := [.bool x.t0, .own 129, .list 2 false x.ends, .int .i64 x.i, .list 24 false x.l129]
noncomputable def py6_4 : Ex → List W → Option (Bool × S.law19_InterKnown_L4)
  | .ret, [.bool y1, .own 129, .list 2 false y2, .int .i64 y3, .list 24 false y4] => some ⟨true, ⟨y1, y2, y3, y4⟩⟩
  | .exit 4, [.bool y1, .own 129, .list 2 false y2, .int .i64 y3, .list 24 false y4] => some ⟨false, ⟨y1, y2, y3, y4⟩⟩
  | _, _ => none
noncomputable def ld6_4 : LD El where
  X := S.law19_InterKnown_L4
  Y := Bool × S.law19_InterKnown_L4
  keys := [.slot 0, .slot 3, .slot 4, .slot 7, .row 129]
  fits := [4, 22, 52, 3, 0]
  px := px6_4
  tx := tx6_4
  okeys := [.slot 0, .slot 3, .slot 4, .slot 7, .row 129]
  ofits := [4, 22, 52, 3, 0]
  py := py6_4
  ty := fun y => bif y.1 then tx6_4 y.2 else tx6_4 y.2
  oex := fun y => bif y.1 then .ret else .exit 4
  junk := [.slot 8, .slot 9, .slot 37, .slot 38, .slot 39, .slot 40, .slot 41, .slot 42, .slot 43, .slot 44, .slot 45, .slot 46, .slot 47, .slot 48, .slot 49, .slot 50, .slot 51, .slot 52, .slot 53, .slot 54, .slot 55, .slot 56, .slot 57, .slot 58, .slot 59, .slot 60, .slot 61, .slot 62, .slot 63, .slot 64, .slot 65, .slot 66, .slot 67, .slot 68, .slot 69, .slot 70, .slot 71, .slot 72, .slot 73, .slot 74, .slot 75, .slot 76, .slot 77, .slot 78, .slot 79, .slot 80, .slot 81, .slot 82, .slot 83, .slot 84, .slot 85, .slot 86, .slot 87, .slot 88, .slot 89, .slot 90, .slot 91, .slot 92, .slot 93, .slot 94, .slot 95, .slot 96, .slot 97, .slot 98, .slot 99, .slot 100, .slot 101, .slot 102, .slot 103, .slot 104, .slot 105, .slot 106, .slot 107, .slot 108, .slot 109, .slot 110, .slot 111, .slot 112, .slot 113, .slot 114, .slot 115]
  rows := [(3, 1000000)]
noncomputable def lo6_4 : (Bool × S.law19_InterKnown_L4) → Tr El := fun y => .node y.1 (.leaf (.ret) (zipK ld6_4.okeys (tx6_4 y.2) ++ junkK ld6_4.junk)) (.leaf (.exit 4) (zipK ld6_4.okeys (tx6_4 y.2) ++ junkK ld6_4.junk))
noncomputable def lb6_6 : Code := ((nth (loopsOf 4 lb6_4) 0).getD (0, .skip)).2
noncomputable def px6_6 : List W → Option S.law19_InterKnown_L6
  | [.bool y1, .own 129, .list 2 false y2, .int .i64 y3, .int .i64 y4, .list 24 false y5] => some ⟨y1, y2, y3, y4, y5⟩
  | _ => none
noncomputable def tx6_6 (x : S.law19_InterKnown_L6) : List W := [.bool x.t0, .own 129, .list 2 false x.ends, .int .i64 x.i, .int .i64 x.k, .list 24 false x.l129]
noncomputable def py6_6 : Ex → List W → Option (Bool × S.law19_InterKnown_L6)
  | .ret, [.bool y1, .own 129, .list 2 false y2, .int .i64 y3, .int .i64 y4, .list 24 false y5] => some ⟨true, ⟨y1, y2, y3, y4, y5⟩⟩
  | .exit 6, [.bool y1, .own 129, .list 2 false y2, .int .i64 y3, .int .i64 y4, .list 24 false y5] => some ⟨false, ⟨y1, y2, y3, y4, y5⟩⟩
  | _, _ => none
noncomputable def ld6_6 : LD El where
  X := S.law19_InterKnown_L6
  Y := Bool × S.law19_InterKnown_L6
  keys := [.slot 0, .slot 3, .slot 4, .slot 7, .slot 8, .row 129]
  fits := [4, 22, 52, 3, 3, 0]
  px := px6_6
  tx := tx6_6
  okeys := [.slot 0, .slot 3, .slot 4, .slot 7, .slot 8, .row 129]
  ofits := [4, 22, 52, 3, 3, 0]
  py := py6_6
  ty := fun y => bif y.1 then tx6_6 y.2 else tx6_6 y.2
  oex := fun y => bif y.1 then .ret else .exit 6
  junk := [.slot 9, .slot 43, .slot 44, .slot 45, .slot 46, .slot 47, .slot 48, .slot 49, .slot 50, .slot 51, .slot 52, .slot 53, .slot 54, .slot 55, .slot 56, .slot 57, .slot 58, .slot 59, .slot 60, .slot 61, .slot 62, .slot 63, .slot 64, .slot 65, .slot 66, .slot 67, .slot 68, .slot 69, .slot 70, .slot 71, .slot 72, .slot 73, .slot 74, .slot 75, .slot 76, .slot 77, .slot 78, .slot 79, .slot 80, .slot 81, .slot 82, .slot 83, .slot 84, .slot 85, .slot 86, .slot 87, .slot 88, .slot 89, .slot 90, .slot 91, .slot 92, .slot 93, .slot 94, .slot 95, .slot 96, .slot 97, .slot 98, .slot 99, .slot 100, .slot 101, .slot 102, .slot 103, .slot 104, .slot 105, .slot 106, .slot 107, .slot 108, .slot 109, .slot 110, .slot 111, .slot 112, .slot 113, .slot 114, .slot 115]
  rows := []
noncomputable def lo6_6 : (Bool × S.law19_InterKnown_L6) → Tr El := fun y => .node y.1 (.leaf (.ret) (zipK ld6_6.okeys (tx6_6 y.2) ++ junkK ld6_6.junk)) (.leaf (.exit 6) (zipK ld6_6.okeys (tx6_6 y.2) ++ junkK ld6_6.junk))
noncomputable def loop6 : Nat → Env El → Tr El
  | 0 => ld6_0.tree c4 Try.f6.ntmps 0 lb6_0 S.law19_InterKnown_L0_run lo6_0 S.law19_InterKnown_L0_step S.law19_InterKnown_L0_vcs
  | 2 => ld6_2.tree c4 Try.f6.ntmps 2 lb6_2 S.law19_InterKnown_L2_run lo6_2 S.law19_InterKnown_L2_step S.law19_InterKnown_L2_vcs
  | 4 => ld6_4.tree c4 Try.f6.ntmps 4 lb6_4 S.law19_InterKnown_L4_run lo6_4 S.law19_InterKnown_L4_step S.law19_InterKnown_L4_vcs
  | 6 => ld6_6.tree c4 Try.f6.ntmps 6 lb6_6 S.law19_InterKnown_L6_run lo6_6 S.law19_InterKnown_L6_step S.law19_InterKnown_L6_vcs
  | _ => fun _ => .fail
theorem lok6_6 : ∀ w0 S0, LoopOk c4 Try.f6.ntmps w0 S0 loop6 6 lb6_6 :=
  loop_ok (c := c4) (n := Try.f6.ntmps) c4_ok mixed ld6_6 (body := lb6_6) (key := 6) (loop := loop6) (F := S.law19_InterKnown_L6_run) (out := lo6_6) (step := S.law19_InterKnown_L6_step) (vcs := S.law19_InterKnown_L6_vcs)
    (fun _ => by kernel_rfl) (no_loops (by kernel_rfl)) rfl rfl
    (fun vs x h => by unfold ld6_6 px6_6 at h; dsimp only at h; split at h <;> first | (cases h; rfl) | cases h)
    (fun e vs y h => by unfold ld6_6 py6_6 at h; dsimp only at h; split at h <;> first | (cases h; exact ⟨rfl, rfl⟩) | cases h)
    (by kernel_rfl) (fun | (true, _) => rfl | (false, _) => rfl) (fun | (true, _), _, h => h.1 rfl | (false, _), _, h => h.2 rfl) (fun x => by kernel_rfl) (fun x h => Eq.mpr (show Vm.Tr.vc (Vm.ev c4 Try.f6.ntmps loop6 6 lb6_6 (ld6_6.vars x) []) = S.law19_InterKnown_L6_vcs x by kernel_rfl) h)
theorem lok6_4 : ∀ w0 S0, LoopOk c4 Try.f6.ntmps w0 S0 loop6 4 lb6_4 :=
  loop_ok (c := c4) (n := Try.f6.ntmps) c4_ok mixed ld6_4 (body := lb6_4) (key := 4) (loop := loop6) (F := S.law19_InterKnown_L4_run) (out := lo6_4) (step := S.law19_InterKnown_L4_step) (vcs := S.law19_InterKnown_L4_vcs)
    (fun _ => by kernel_rfl) (loops_all (l := [(6, lb6_6)]) (by kernel_rfl) ⟨lok6_6, trivial⟩) rfl rfl
    (fun vs x h => by unfold ld6_4 px6_4 at h; dsimp only at h; split at h <;> first | (cases h; rfl) | cases h)
    (fun e vs y h => by unfold ld6_4 py6_4 at h; dsimp only at h; split at h <;> first | (cases h; exact ⟨rfl, rfl⟩) | cases h)
    (by kernel_rfl) (fun | (true, _) => rfl | (false, _) => rfl) (fun | (true, _), _, h => h.1 rfl | (false, _), _, h => h.2 rfl) (fun x => by kernel_rfl) (fun x h => Eq.mpr (show Vm.Tr.vc (Vm.ev c4 Try.f6.ntmps loop6 4 lb6_4 (ld6_4.vars x) []) = S.law19_InterKnown_L4_vcs x by kernel_rfl) h)
theorem lok6_2 : ∀ w0 S0, LoopOk c4 Try.f6.ntmps w0 S0 loop6 2 lb6_2 :=
  loop_ok (c := c4) (n := Try.f6.ntmps) c4_ok mixed ld6_2 (body := lb6_2) (key := 2) (loop := loop6) (F := S.law19_InterKnown_L2_run) (out := lo6_2) (step := S.law19_InterKnown_L2_step) (vcs := S.law19_InterKnown_L2_vcs)
    (fun _ => by kernel_rfl) (no_loops (by kernel_rfl)) rfl rfl
    (fun vs x h => by unfold ld6_2 px6_2 at h; dsimp only at h; split at h <;> first | (cases h; rfl) | cases h)
    (fun e vs y h => by unfold ld6_2 py6_2 at h; dsimp only at h; split at h <;> first | (cases h; exact ⟨rfl, rfl⟩) | cases h)
    (by kernel_rfl) (fun _ => rfl) (fun _ _ h => h) (fun x => by kernel_rfl) (fun x h => Eq.mpr (show Vm.Tr.vc (Vm.ev c4 Try.f6.ntmps loop6 2 lb6_2 (ld6_2.vars x) []) = S.law19_InterKnown_L2_vcs x by kernel_rfl) h)
theorem lok6_0 : ∀ w0 S0, LoopOk c4 Try.f6.ntmps w0 S0 loop6 0 lb6_0 :=
  loop_ok (c := c4) (n := Try.f6.ntmps) c4_ok mixed ld6_0 (body := lb6_0) (key := 0) (loop := loop6) (F := S.law19_InterKnown_L0_run) (out := lo6_0) (step := S.law19_InterKnown_L0_step) (vcs := S.law19_InterKnown_L0_vcs)
    (fun _ => by kernel_rfl) (loops_all (l := [(2, lb6_2)]) (by kernel_rfl) ⟨lok6_2, trivial⟩) rfl rfl
    (fun vs x h => by unfold ld6_0 px6_0 at h; dsimp only at h; split at h <;> first | (cases h; rfl) | cases h)
    (fun e vs y h => by unfold ld6_0 py6_0 at h; dsimp only at h; split at h <;> first | (cases h; exact ⟨rfl, rfl⟩) | cases h)
    (by kernel_rfl) (fun _ => rfl) (fun _ _ h => h) (fun x => by kernel_rfl) (fun x h => Eq.mpr (show Vm.Tr.vc (Vm.ev c4 Try.f6.ntmps loop6 0 lb6_0 (ld6_0.vars x) []) = S.law19_InterKnown_L0_vcs x by kernel_rfl) h)
theorem fn6 (hp : S.law19_InterKnown_pre) : CallOk c4 6 [] (wr_b (S.law19_InterKnown)) (wo_b (S.law19_InterKnown)) :=
  (call_ok (c := c4) (f := 6) (fn := Try.f6) (code := body6) (args := ([])) (loop := loop6) (md := ⟨false, false⟩) (rd := rd_b) (wr := wr_b) (wo := wo_b) (r := S.law19_InterKnown) c4_ok (by kernel_rfl) (by kernel_rfl) (by kernel_rfl) (loops_all (l := [(0, lb6_0), (4, lb6_4)]) (by kernel_rfl) ⟨lok6_0, ⟨lok6_4, trivial⟩⟩) (by kernel_rfl) (by kernel_rfl) (by kernel_rfl)
    rw_b np_b no_b (by kernel_rfl) (Eq.mpr (show Vm.Tr.vc (Vm.Fn c4 Try.f6 body6 loop6 ([])) = S.law19_InterKnown_pre by kernel_rfl) hp))
end

theorem own : ownKnob Try.prog.godebug = none := by kernel_rfl
theorem laidOut : laidOutB Try.prog = true := by kernel_rfl
set_option maxRecDepth 100000 in
theorem lifted (os : Os) (started : os.Started) (H : Type) (enc : TypeId × Value → H) :
    ReturnsInHanded {} Try.checked os 6 .any (Rows.interKnownSpec.pre6 enc Try.prog Try.f6 Rows.interKnownRow.domain false) (Rows.interKnownSpec.post enc Try.prog Try.f6 false true false false) := by
  refine returnsInHanded_of_change (C := Try.checked) own started (by kernel_rfl) Try.func6
    (ChangeSpec.witness6 (enc := enc) (C := Try.checked) false ⟨#[], #[], []⟩ 8 (by kernel_rfl) (by kernel_rfl) (by kernel_rfl) (by kernel_rfl)) ?_
  intro w base0 args ds gs before hval0 hW hcnd _
  have hval : ∀ (j : Nat) t v, Try.f6.params[j]? = some t → args[j]? = some v → Value.okWide Try.prog w .any base0 t v := hval0
  have hW' := hW
  obtain ⟨p, q, hA0, hV, rfl, hfz, hnd⟩ := hW
  have hA : DataW.TrodAll enc Try.prog w 0 (fun _ => true) true Try.f6.params.toList args.toList ds p := hA0
  rw [Try.params6] at hA hval
  obtain ⟨hargs, rfl, rfl⟩ := trodAll_nil hA
  obtain rfl : args = #[] := by cases args; simp_all
  obtain ⟨rfl, rfl⟩ := trodVars_none hV
  have hp := S.known_law  
  have hc := fn6  hp.1
  rw [hp.2] at hc
  refine (law_calls hc (P := Try.prog) rfl .nil).mono fun e w' ⟨he, bel⟩ => ?_
  subst he
  exact ⟨_, rfl, _, _, _, [], _, [], hW', trodAll_mk1 (shut_bool Try.underlying4 _), trodAll_mk0, rfl, bel.frame _, fun h => by cases h⟩

theorem over : Rows.interKnownRow.holds Try.pinned (OpenSpec.ofChange Rows.interKnownSpec) :=
  OpenClaim.holds_of_wide 6 Try.f6 rfl rfl rfl rfl rfl rfl rfl ⟨rfl, rfl, rfl, rfl, rfl⟩ rfl rfl rfl rfl rfl (by kernel_rfl) Try.func6 (by kernel_rfl)
    (of_decide_eq_true (by kernel_rfl)) (by unfold Func.isWrapper; first | (rw [if_pos (by decide +kernel)]; kernel_rfl) | (rw [if_neg (by decide +kernel)]; exact ⟨rfl, rfl⟩))
    (fun os started H enc _ => lifted os started H enc)

theorem proved : Rows.InterKnownSaid := over
#print axioms proved
end Go.Proofs.Ytpnegnhbbcligaa.interKnown
