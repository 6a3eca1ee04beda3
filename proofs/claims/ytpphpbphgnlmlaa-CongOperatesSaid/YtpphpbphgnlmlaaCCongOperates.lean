/-
  The statement CongOperates: whatever the input, the function answers true, and the input reads as it did. Conditions: none beside the statement's own.
-/
import Derived.Test.YtpphpbphgnlmlaaCSem
import Derived.Test.YtpphpbphgnlmlaaCongPlain6
import Derived.Test.YtpphpbphgnlmlaaRows
import Derived.WalkKit
import Derived.ProofKit
import Derived.OpenShut
import Derived.ShutString
import Derived.ChangeOld
import Derived.Below
namespace Go.Proofs.Ytpphpbphgnlmlaa.congOperates
open Go Go.Proofs Go.Proofs.Ytpphpbphgnlmlaa Go.ChangeShapes Go.WideShapes Go.ChangeAt Go.RowKit Vm
open Go.ChangeMaps (open_string shut_string)
set_option linter.all false

section
attribute [local irreducible] Vm.Tr.vc Vm.Tr.out Vm.Fn Vm.Fn.out Vm.ev Vm.loopsOf Vm.Tr.noReq
noncomputable def body8 : Code := (Try.f8.body).getD .skip
noncomputable def lb8_0 : Code := ((nth (loopsOf 0 body8) 0).getD (0, .skip)).2
noncomputable def px8_0 : List W → Option S.law20_CongOperates_L0
  | [.bool y1, .list 54 false y2, .list 56 false y3, .int .i64 y4] => some ⟨y1, y2, y3, y4⟩
  | _ => none
noncomputable def tx8_0 (x : S.law20_CongOperates_L0) : List W := [.bool x.t4, .list 54 false x.l, .list 56 false x.r, .int .i64 x.i]
noncomputable def py8_0 : Ex → List W → Option (Bool × S.law20_CongOperates_L0)
  | .ret, [.bool y1, .list 54 false y2, .list 56 false y3, .int .i64 y4] => some ⟨true, ⟨y1, y2, y3, y4⟩⟩
  | .exit 0, [.bool y1, .list 54 false y2, .list 56 false y3, .int .i64 y4] => some ⟨false, ⟨y1, y2, y3, y4⟩⟩
  | _, _ => none
noncomputable def ld8_0 : LD El where
  X := S.law20_CongOperates_L0
  Y := Bool × S.law20_CongOperates_L0
  keys := [.slot 4, .slot 11, .slot 12, .slot 13]
  px := px8_0
  tx := tx8_0
  okeys := [.slot 4, .slot 11, .slot 12, .slot 13]
  py := py8_0
  ty := fun y => bif y.1 then tx8_0 y.2 else tx8_0 y.2
  oex := fun y => bif y.1 then .ret else .exit 0
  junk := [.slot 71, .slot 72, .slot 73, .slot 74, .slot 75, .slot 76, .slot 77, .slot 78, .slot 79, .slot 80, .slot 81, .slot 82, .slot 83, .slot 84, .slot 85, .slot 86, .slot 87, .slot 88, .slot 89, .slot 90, .slot 91, .slot 92, .slot 93, .slot 94]
noncomputable def lo8_0 : (Bool × S.law20_CongOperates_L0) → Tr El := fun y => .node y.1 (.leaf (.ret) (zipK ld8_0.okeys (tx8_0 y.2) ++ junkK ld8_0.junk)) (.leaf (.exit 0) (zipK ld8_0.okeys (tx8_0 y.2) ++ junkK ld8_0.junk))
noncomputable def loop8 : Nat → Env El → Tr El
  | 0 => ld8_0.tree lb8_0 S.law20_CongOperates_L0_run lo8_0 S.law20_CongOperates_L0_step S.law20_CongOperates_L0_vcs
  | _ => fun _ => .fail
theorem lok8_0 : ∀ w0 S0, LoopOk c65 Try.f8.ntmps w0 S0 loop8 0 lb8_0 :=
  loop_ok (c := c65) (n := Try.f8.ntmps) c65_ok mixed ld8_0 (body := lb8_0) (key := 0) (loop := loop8) (F := S.law20_CongOperates_L0_run) (out := lo8_0) (step := S.law20_CongOperates_L0_step) (vcs := S.law20_CongOperates_L0_vcs)
    (fun _ => by kernel_rfl) (no_loops (by kernel_rfl))
    (fun vs x h => by unfold ld8_0 px8_0 at h; dsimp only at h; split at h <;> first | (cases h; rfl) | cases h)
    (fun e vs y h => by unfold ld8_0 py8_0 at h; dsimp only at h; split at h <;> first | (cases h; exact ⟨rfl, rfl⟩) | cases h)
    (by kernel_rfl) (fun | (true, _), _, h => h.1 rfl | (false, _), _, h => h.2 rfl) (fun x => by kernel_rfl) (fun x h => Eq.mpr (show Vm.Tr.vc (Vm.ev c65 Try.f8.ntmps loop8 0 lb8_0 (ld8_0.vars x) []) = S.law20_CongOperates_L0_vcs x by kernel_rfl) h)
theorem fn8 (a : S.Cong) (b : S.Cong) (hp : S.law20_CongOperates_pre a b) : CallOk c65 8 [.agg [.int .u64 a.M, .int .u64 a.R], .agg [.int .u64 b.M, .int .u64 b.R]] (wr_b (S.law20_CongOperates a b)) :=
  call_ok (c := c65) (f := 8) (fn := Try.f8) (code := body8) (args := ([.agg [.int .u64 a.M, .int .u64 a.R], .agg [.int .u64 b.M, .int .u64 b.R]])) (loop := loop8) (rd := rd_b) (wr := wr_b) (r := (S.law20_CongOperates a b)) c65_ok (by kernel_rfl) (by kernel_rfl) (by kernel_rfl) (loops_all (l := [(0, lb8_0)]) (by kernel_rfl) ⟨lok8_0, trivial⟩) (Nat.le_of_ble_eq_true (by kernel_rfl))
    rw_b np_b (by kernel_rfl) (Eq.mpr (show Vm.Tr.vc (Vm.Fn c65 Try.f8 body8 loop8 ([.agg [.int .u64 a.M, .int .u64 a.R], .agg [.int .u64 b.M, .int .u64 b.R]])) = S.law20_CongOperates_pre a b by kernel_rfl) hp)
end
theorem read36 : Vm.Read base 36 Int (fun n => [.int .u64 n]) (inr .u64) := read_int (c := base) (t := 36) Try.underlying36
theorem read54 : Vm.Read base 54 S.Cong (fun a => [.int .u64 a.M, .int .u64 a.R]) S.Cong.ok := Vm.Read.map (read_struct (c := base) (t := 54) (n := 2) (l := [(0, 36), (1, 36)]) Try.underlying54 rfl (by kernel_rfl) (ReadFs.cons (c := base) (o := 0) (s := 1) (n := 1) (by kernel_rfl) read36 (ReadFs.cons (c := base) (o := 1) (s := 1) (n := 0) (by kernel_rfl) read36 ReadFs.nil))) (fun p => ⟨p.1, p.2.1⟩) (fun _ => rfl) (fun _ h => h)
theorem own : ownKnob Try.prog.godebug = none := by kernel_rfl
theorem laidOut : laidOutB Try.prog = true := by kernel_rfl
set_option maxRecDepth 100000 in
theorem lifted (os : Os) (started : os.Started) (H : Type) (enc : TypeId × Value → H) :
    ReturnsInHanded {} Try.checked os 8 .any (Rows.congOperatesSpec.pre6 enc Try.prog Try.f8 Rows.congOperatesRow.domain false) (Rows.congOperatesSpec.post enc Try.prog Try.f8 false true false false) := by
  refine returnsInHanded_of_change (C := Try.checked) own started (by kernel_rfl) Try.func8
    (ChangeSpec.witness6 (enc := enc) (C := Try.checked) false ⟨#[], #[.agg #[.int .u64 0, .int .u64 0], .agg #[.int .u64 0, .int .u64 0]], []⟩ 8 (by kernel_rfl) (by kernel_rfl) (by kernel_rfl) (by kernel_rfl)) ?_
  intro w base0 args ds gs before hval0 hW hcnd _
  have hval : ∀ (j : Nat) t v, Try.f8.params[j]? = some t → args[j]? = some v → Value.okWide Try.prog w .any base0 t v := hval0
  have hW' := hW
  obtain ⟨p, q, hA0, hV, rfl, hfz, hnd⟩ := hW
  have hA : DataW.TrodAll enc Try.prog w 0 (fun _ => true) true Try.f8.params.toList args.toList ds p := hA0
  rw [Try.params8] at hA hval
  obtain ⟨v0, vs0, d0, ds0, p0, q0, hargs, rfl, rfl, h0, r0⟩ := trodAll_cons hA
  obtain ⟨v1, vs1, d1, ds1, p1, q1, rfl, rfl, rfl, h1, r1⟩ := trodAll_cons r0
  obtain ⟨rfl, rfl, rfl⟩ := trodAll_nil r1
  obtain rfl : args = #[v0, v1] := by cases args; simp_all
  obtain ⟨rfl, rfl⟩ := trodVars_none hV
  have k0 := h0
  have lt0 : ∀ x ∈ p0, x.block < w.heap.size := by obtain ⟨m, hm⟩ := k0; exact DataW.trod_lt m _ _ _ hm
  obtain ⟨cs0, rfl, _⟩ := okWide_struct Try.underlying54 (hval 0 54 v0 rfl rfl)
  obtain ⟨a0, g0, D0⟩ := arg_agg (Vm.Read.same (c := base) (c' := c65) rfl rfl rfl read54) rfl h0
  have k1 := h1
  have lt1 : ∀ x ∈ p1, x.block < w.heap.size := by obtain ⟨m, hm⟩ := k1; exact DataW.trod_lt m _ _ _ hm
  obtain ⟨cs1, rfl, _⟩ := okWide_struct Try.underlying54 (hval 1 54 v1 rfl rfl)
  obtain ⟨a1, g1, D1⟩ := arg_agg (Vm.Read.same (c := base) (c' := c65) rfl rfl rfl read54) rfl h1
  have hp := S.CongOperates_law a0 a1 g0 g1
  have hc := fn8 a0 a1 hp.1
  rw [hp.2] at hc
  refine (law_calls hc (P := Try.prog) rfl (.cons (D0 _) (.cons (D1 _) .nil))).mono fun e w' ⟨he, bel⟩ => ?_
  subst he
  exact ⟨_, rfl, _, _, _, [], _, [], hW', trodAll_mk1 (shut_bool Try.underlying4 _), (trodAll_cons_mk (Below.trod laidOut (by kernel_rfl) (of_decide_eq_true (by kernel_rfl)) k0 bel lt0) (trodAll_cons_mk (Below.trod laidOut (by kernel_rfl) (of_decide_eq_true (by kernel_rfl)) k1 bel lt1) trodAll_mk0)), rfl, bel.frame _, fun h => by cases h⟩

theorem over : Rows.congOperatesRow.holds Try.pinned (OpenSpec.ofChange Rows.congOperatesSpec) :=
  OpenClaim.holds_of_wide 8 Try.f8 rfl rfl rfl rfl rfl rfl rfl ⟨rfl, rfl, rfl, rfl, rfl⟩ rfl rfl rfl rfl rfl (by kernel_rfl) Try.func8 (by kernel_rfl)
    (of_decide_eq_true (by kernel_rfl)) (by unfold Func.isWrapper; first | (rw [if_pos (by decide +kernel)]; kernel_rfl) | (rw [if_neg (by decide +kernel)]; exact ⟨rfl, rfl⟩))
    (fun os started H enc _ => lifted os started H enc)

theorem proved : Rows.CongOperatesSaid := over
#print axioms proved
end Go.Proofs.Ytpphpbphgnlmlaa.congOperates
