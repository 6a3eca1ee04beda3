/-
  The statement ArithSound: whatever the input, the function answers true, and the input reads as it did. Conditions: none beside the statement's own.
-/
import Derived.Test.YtcgafjhkefcdfaaGreatDoorQSSem
import Derived.Test.YtcgafjhkefcdfaaGreatDoorArithPlain4
import Derived.Test.YtcgafjhkefcdfaaGreatDoorRows
import Derived.WalkKit
import Derived.ProofKit
import Derived.OpenShut
import Derived.ShutString
import Derived.ChangeOld
import Derived.Below
import Derived.LaidMore
import Derived.Stop.Joined
import Derived.Stop.LaidErr
import Derived.SevenTiedAt
import Derived.Test.YtcgafjhkefcdfaaGreatDoorCards
import Derived.Test.YtcgafjhkefcdfaaGreatDoorTie
namespace Go.Proofs.YtcgafjhkefcdfaaGreatDoor.arithSound
open Go Go.Proofs Go.Proofs.YtcgafjhkefcdfaaGreatDoor Go.ChangeShapes Go.WideShapes Go.ChangeAt Go.RowKit Vm
open Go.ChangeMaps (open_string shut_string)
set_option linter.all false

section
attribute [local irreducible] Vm.Tr.vc Vm.Tr.out Vm.Fn Vm.Fn.out Vm.ev Vm.loopsOf Vm.Tr.noReq
noncomputable def body4 : Code := (Tryz.f4.body).getD .skip
noncomputable def lb4_0 : Code := ((nth (loopsOf 0 body4) 0).getD (0, .skip)).2
noncomputable def px4_0 : List W → Option S.law22_ArithSound_L0
  | [.ptr 4 0, .ptr 5 0, .bool y1, .int .i64 y2, .int .i64 y3, .int .i64 y4, .int .i64 y5, .int .i64 y6, .int .u64 y7, .int .u64 y8, .int .i64 y9, .int .i64 y10, .int .u64 y11, .int .u64 y12] => some ⟨y1, y2, y3, y4, ⟨⟨y5, y6⟩, ⟨y7, y8⟩⟩, ⟨⟨y9, y10⟩, ⟨y11, y12⟩⟩⟩
  | _ => none
noncomputable def tx4_0 (x : S.law22_ArithSound_L0) : List W := [.ptr 4 0, .ptr 5 0, .bool x.t8, .int .i64 x.vx, .int .i64 x.y, .int .i64 x.i, .int .i64 x.a.I.Lo, .int .i64 x.a.I.Hi, .int .u64 x.a.C.M, .int .u64 x.a.C.R, .int .i64 x.b.I.Lo, .int .i64 x.b.I.Hi, .int .u64 x.b.C.M, .int .u64 x.b.C.R]
noncomputable def py4_0 : Ex → List W → Option (Bool × S.law22_ArithSound_L0)
  | .ret, [.ptr 4 0, .ptr 5 0, .bool y1, .int .i64 y2, .int .i64 y3, .int .i64 y4, .int .i64 y5, .int .i64 y6, .int .u64 y7, .int .u64 y8, .int .i64 y9, .int .i64 y10, .int .u64 y11, .int .u64 y12] => some ⟨true, ⟨y1, y2, y3, y4, ⟨⟨y5, y6⟩, ⟨y7, y8⟩⟩, ⟨⟨y9, y10⟩, ⟨y11, y12⟩⟩⟩⟩
  | .exit 0, [.ptr 4 0, .ptr 5 0, .bool y1, .int .i64 y2, .int .i64 y3, .int .i64 y4, .int .i64 y5, .int .i64 y6, .int .u64 y7, .int .u64 y8, .int .i64 y9, .int .i64 y10, .int .u64 y11, .int .u64 y12] => some ⟨false, ⟨y1, y2, y3, y4, ⟨⟨y5, y6⟩, ⟨y7, y8⟩⟩, ⟨⟨y9, y10⟩, ⟨y11, y12⟩⟩⟩⟩
  | _, _ => none
noncomputable def ld4_0 : LD El where
  X := S.law22_ArithSound_L0
  Y := Bool × S.law22_ArithSound_L0
  keys := [.slot 4, .slot 5, .slot 8, .slot 9, .slot 11, .slot 13, .cell 4 0, .cell 4 1, .cell 4 2, .cell 4 3, .cell 5 0, .cell 5 1, .cell 5 2, .cell 5 3]
  fits := [0, 0, 4, 2, 2, 3, 2, 2, 24, 24, 2, 2, 24, 24]
  px := px4_0
  tx := tx4_0
  okeys := [.slot 4, .slot 5, .slot 8, .slot 9, .slot 11, .slot 13, .cell 4 0, .cell 4 1, .cell 4 2, .cell 4 3, .cell 5 0, .cell 5 1, .cell 5 2, .cell 5 3]
  ofits := [0, 0, 4, 2, 2, 3, 2, 2, 24, 24, 2, 2, 24, 24]
  py := py4_0
  ty := fun y => bif y.1 then tx4_0 y.2 else tx4_0 y.2
  oex := fun y => bif y.1 then .ret else .exit 0
  junk := [.slot 14, .slot 15, .slot 16, .slot 17, .slot 18, .slot 19, .slot 20, .slot 21, .slot 22, .slot 60, .slot 61, .slot 62, .slot 63, .slot 64, .slot 65, .slot 66, .slot 67, .slot 68, .slot 69, .slot 70, .slot 71, .slot 72, .slot 73, .slot 74, .slot 75, .slot 76, .slot 77, .slot 78, .slot 79, .slot 80, .slot 81, .slot 82, .slot 83, .slot 84, .slot 85, .slot 86, .slot 87, .slot 88, .slot 89, .slot 90, .slot 91, .slot 92, .slot 93, .slot 94, .slot 95, .slot 96, .slot 97, .slot 98, .slot 99, .slot 100, .slot 101, .slot 102, .slot 103, .slot 104, .slot 105, .slot 106, .slot 107, .slot 108, .slot 109, .slot 110, .slot 111, .slot 112, .slot 113, .slot 114, .slot 115, .slot 116, .slot 117, .slot 118, .slot 119, .slot 120, .slot 121, .slot 122, .slot 123, .slot 124, .slot 125, .slot 126, .slot 127, .slot 128, .slot 129, .slot 130, .slot 131, .slot 132, .slot 133, .slot 134, .slot 135, .slot 136, .slot 137, .slot 138, .slot 139, .slot 140, .slot 141]
  rows := []
noncomputable def lo4_0 : (Bool × S.law22_ArithSound_L0) → Tr El := fun y => .node y.1 (.leaf (.ret) (zipK ld4_0.okeys (tx4_0 y.2) ++ junkK ld4_0.junk)) (.leaf (.exit 0) (zipK ld4_0.okeys (tx4_0 y.2) ++ junkK ld4_0.junk))
noncomputable def loop4 : Nat → Env El → Tr El
  | 0 => ld4_0.tree c25 Tryz.f4.ntmps 0 lb4_0 S.law22_ArithSound_L0_run lo4_0 S.law22_ArithSound_L0_step S.law22_ArithSound_L0_vcs
  | _ => fun _ => .fail
theorem lok4_0 : ∀ w0 S0, LoopOk c25 Tryz.f4.ntmps w0 S0 loop4 0 lb4_0 :=
  loop_ok (c := c25) (n := Tryz.f4.ntmps) c25_ok mixed ld4_0 (body := lb4_0) (key := 0) (loop := loop4) (F := S.law22_ArithSound_L0_run) (out := lo4_0) (step := S.law22_ArithSound_L0_step) (vcs := S.law22_ArithSound_L0_vcs)
    (fun _ => by kernel_rfl) (no_loops (by kernel_rfl)) rfl rfl
    (fun vs x h => by unfold ld4_0 px4_0 at h; dsimp only at h; split at h <;> first | (cases h; rfl) | cases h)
    (fun e vs y h => by unfold ld4_0 py4_0 at h; dsimp only at h; split at h <;> first | (cases h; exact ⟨rfl, rfl⟩) | cases h)
    (by kernel_rfl) (fun | (true, _) => rfl | (false, _) => rfl) (fun | (true, _), _, h => h.1 rfl | (false, _), _, h => h.2 rfl) (fun x => by kernel_rfl) (fun x h => Eq.mpr (show Vm.Tr.vc (Vm.ev c25 Tryz.f4.ntmps loop4 0 lb4_0 (ld4_0.vars x) []) = S.law22_ArithSound_L0_vcs x by kernel_rfl) h)
theorem fn4 (a : S.Value) (b : S.Value) (n : Int) (m : Int) (hp : S.law22_ArithSound_pre a b n m) : CallOk c25 4 [.agg [.int .i64 a.I.Lo, .int .i64 a.I.Hi, .int .u64 a.C.M, .int .u64 a.C.R], .agg [.int .i64 b.I.Lo, .int .i64 b.I.Hi, .int .u64 b.C.M, .int .u64 b.C.R], .int .i64 n, .int .i64 m] (wr_b (S.law22_ArithSound a b n m)) (wo_b (S.law22_ArithSound a b n m)) :=
  (call_ok (c := c25) (f := 4) (fn := Tryz.f4) (code := body4) (args := ([.agg [.int .i64 a.I.Lo, .int .i64 a.I.Hi, .int .u64 a.C.M, .int .u64 a.C.R], .agg [.int .i64 b.I.Lo, .int .i64 b.I.Hi, .int .u64 b.C.M, .int .u64 b.C.R], .int .i64 n, .int .i64 m])) (loop := loop4) (md := ⟨false, false⟩) (rd := rd_b) (wr := wr_b) (wo := wo_b) (r := (S.law22_ArithSound a b n m)) c25_ok (by kernel_rfl) (by kernel_rfl) (by kernel_rfl) (loops_all (l := [(0, lb4_0)]) (by kernel_rfl) ⟨lok4_0, trivial⟩) (by kernel_rfl) (by kernel_rfl) (by kernel_rfl)
    rw_b np_b no_b (by kernel_rfl) (Eq.mpr (show Vm.Tr.vc (Vm.Fn c25 Tryz.f4 body4 loop4 ([.agg [.int .i64 a.I.Lo, .int .i64 a.I.Hi, .int .u64 a.C.M, .int .u64 a.C.R], .agg [.int .i64 b.I.Lo, .int .i64 b.I.Hi, .int .u64 b.C.M, .int .u64 b.C.R], .int .i64 n, .int .i64 m])) = S.law22_ArithSound_pre a b n m by kernel_rfl) hp))
end
theorem read2 : Vm.Read base 2 Int (fun n => [.int .i64 n]) (inr .i64) := read_int (c := base) (t := 2) Tryz.underlying2
theorem read23 : Vm.Read base 23 S.Inter (fun a => [.int .i64 a.Lo, .int .i64 a.Hi]) S.Inter.ok := Vm.Read.map (read_struct (c := base) (t := 23) (n := 2) (l := [(0, 2), (1, 2)]) Tryz.underlying23 rfl (by kernel_rfl) (ReadFs.cons (c := base) (o := 0) (s := 1) (n := 1) (by kernel_rfl) read2 (ReadFs.cons (c := base) (o := 1) (s := 1) (n := 0) (by kernel_rfl) read2 ReadFs.nil))) (fun p => ⟨p.1, p.2.1⟩) (fun _ => rfl) (fun _ h => h)
theorem read24 : Vm.Read base 24 Int (fun n => [.int .u64 n]) (inr .u64) := read_int (c := base) (t := 24) Tryz.underlying24
theorem read26 : Vm.Read base 26 S.Cong (fun a => [.int .u64 a.M, .int .u64 a.R]) S.Cong.ok := Vm.Read.map (read_struct (c := base) (t := 26) (n := 2) (l := [(0, 24), (1, 24)]) Tryz.underlying26 rfl (by kernel_rfl) (ReadFs.cons (c := base) (o := 0) (s := 1) (n := 1) (by kernel_rfl) read24 (ReadFs.cons (c := base) (o := 1) (s := 1) (n := 0) (by kernel_rfl) read24 ReadFs.nil))) (fun p => ⟨p.1, p.2.1⟩) (fun _ => rfl) (fun _ h => h)
theorem read28 : Vm.Read base 28 S.Value (fun a => [.int .i64 a.I.Lo, .int .i64 a.I.Hi, .int .u64 a.C.M, .int .u64 a.C.R]) S.Value.ok := Vm.Read.map (read_struct (c := base) (t := 28) (n := 4) (l := [(0, 23), (2, 26)]) Tryz.underlying28 rfl (by kernel_rfl) (ReadFs.cons (c := base) (o := 0) (s := 2) (n := 2) (by kernel_rfl) read23 (ReadFs.cons (c := base) (o := 2) (s := 2) (n := 0) (by kernel_rfl) read26 ReadFs.nil))) (fun p => ⟨p.1, p.2.1⟩) (fun _ => rfl) (fun _ h => h)
theorem own : ownKnob Tryz.prog.godebug = none := by kernel_rfl
theorem laidOut : laidOutB Tryz.prog = true := by kernel_rfl
theorem door_met (os : Os) (args : Array Value) : laidMetH Tryz.prog Rows.arithSoundRow.laid ((World.doorLaid Tryz.prog 24 os).forCall (fun _ _ => 0) ⟨#[], args, []⟩).memory :=
  laidMetH_of_parts3 (fuel := 8) (laidMet_of_run' 8 (by kernel_rfl) (by kernel_rfl)) (by kernel_rfl) (by kernel_rfl)
theorem tab_of {w : World} (h0 : laidMetH Tryz.prog Rows.arithSoundRow.laid w) : base.inv (fun b => b < w.heap.size) w := by
  have h := h0
  rw [MakeChecks.laidMetH_plain _ _ _ (by kernel_rfl)] at h
  have ht : Lib.TabIs Tryz.prog w "internal/strconv.uint64pow10" .u64 Lib.pow10Tab := Lib.tabIs_of_head (g := 0) (by kernel_rfl) (by kernel_rfl) Tryz.underlying194 Tryz.underlying24 (by kernel_rfl) (by kernel_rfl) (laidMet.tail (laidMet.tail h))
  exact ⟨ht, tab_lt (g := 0) (by kernel_rfl) ht⟩
set_option maxRecDepth 100000 in
theorem lifted (os : Os) (started : os.Started) (H : Type) (enc : TypeId × Value → H) :
    ReturnsInHanded {} Tryz.checked os 4 .any (fun w args => (Rows.arithSoundSpec.pre enc Tryz.prog Tryz.f4 [] false w args ∧ laidMetH Tryz.prog Rows.arithSoundRow.laid w) ∧ sizedMet enc Tryz.prog Tryz.f4 (OpenSpec.ofChange Rows.arithSoundSpec) false w args) (Rows.arithSoundSpec.post enc Tryz.prog Tryz.f4 false true false false) := by
  refine returnsInHanded_of_change_and (C := Tryz.checked) (X := fun w _ => laidMetH Tryz.prog Rows.arithSoundRow.laid w) (fun _ _ _ hh h => h.of_heap hh) own started (by kernel_rfl) Tryz.func4
    (ChangeSpec.witness_shaped (enc := enc) (C := Tryz.checked) (os := os) (X := fun w _ => laidMetH Tryz.prog Rows.arithSoundRow.laid w) false (World.doorLaid Tryz.prog 24 os) #[.agg #[.int .i64 0, .int .i64 0, .int .u64 0, .int .u64 0], .agg #[.int .i64 0, .int .i64 0, .int .u64 0, .int .u64 0], .int .i64 0, .int .i64 0] 8 rfl (World.shaped_of_RefB (by kernel_rfl) (by kernel_rfl)) (by kernel_rfl) (by kernel_rfl) (by kernel_rfl) (door_met os _)) ?_
  intro w base0 args ds gs before hval0 hW _ _ hL _
  have hval : ∀ (j : Nat) t v, Tryz.f4.params[j]? = some t → args[j]? = some v → Value.okWide Tryz.prog w .any base0 t v := hval0
  have hW' := hW
  obtain ⟨p, q, hA0, hV, rfl, hfz, hnd⟩ := hW
  have hA : DataW.TrodAll enc Tryz.prog w 0 (fun _ => true) true Tryz.f4.params.toList args.toList ds p := hA0
  rw [Tryz.params4] at hA hval
  obtain ⟨v0, vs0, d0, ds0, p0, q0, hargs, rfl, rfl, h0, r0⟩ := trodAll_cons hA
  obtain ⟨v1, vs1, d1, ds1, p1, q1, rfl, rfl, rfl, h1, r1⟩ := trodAll_cons r0
  obtain ⟨v2, vs2, d2, ds2, p2, q2, rfl, rfl, rfl, h2, r2⟩ := trodAll_cons r1
  obtain ⟨v3, vs3, d3, ds3, p3, q3, rfl, rfl, rfl, h3, r3⟩ := trodAll_cons r2
  obtain ⟨rfl, rfl, rfl⟩ := trodAll_nil r3
  obtain rfl : args = #[v0, v1, v2, v3] := by cases args; simp_all
  obtain ⟨rfl, rfl⟩ := trodVars_none hV
  have k0 := h0
  have lt0 : ∀ x ∈ p0, x.block < w.heap.size := by obtain ⟨m, hm⟩ := k0; exact DataW.trod_lt m _ _ _ hm
  obtain ⟨cs0, rfl, _⟩ := okWide_struct Tryz.underlying28 (hval 0 28 v0 rfl rfl)
  obtain ⟨a0, g0, D0⟩ := arg_agg (Vm.Read.same (c := base) (c' := c25) rfl rfl rfl read28) rfl h0
  have k1 := h1
  have lt1 : ∀ x ∈ p1, x.block < w.heap.size := by obtain ⟨m, hm⟩ := k1; exact DataW.trod_lt m _ _ _ hm
  obtain ⟨cs1, rfl, _⟩ := okWide_struct Tryz.underlying28 (hval 1 28 v1 rfl rfl)
  obtain ⟨a1, g1, D1⟩ := arg_agg (Vm.Read.same (c := base) (c' := c25) rfl rfl rfl read28) rfl h1
  have k2 := h2
  have lt2 : ∀ x ∈ p2, x.block < w.heap.size := by obtain ⟨m, hm⟩ := k2; exact DataW.trod_lt m _ _ _ hm
  obtain ⟨n2, rfl⟩ := okWide_int Tryz.underlying2 (hval 2 2 v2 rfl rfl)
  obtain ⟨a2, g2, D2⟩ := arg_one (Vm.Read.same (c := base) (c' := c25) rfl rfl rfl read2) rfl h2 rfl
  have k3 := h3
  have lt3 : ∀ x ∈ p3, x.block < w.heap.size := by obtain ⟨m, hm⟩ := k3; exact DataW.trod_lt m _ _ _ hm
  obtain ⟨n3, rfl⟩ := okWide_int Tryz.underlying2 (hval 3 2 v3 rfl rfl)
  obtain ⟨a3, g3, D3⟩ := arg_one (Vm.Read.same (c := base) (c' := c25) rfl rfl rfl read2) rfl h3 rfl
  have hp := SV.ArithSound_law a0 a1 a2 a3 g0 g1 g2 g3
  have hc := fn4 a0 a1 a2 a3 hp.1
  rw [hp.2] at hc
  refine (law_calls hc (P := Tryz.prog) rfl (tab_of hL) (.cons (D0 _) (.cons (D1 _) (.cons (D2 _) (.cons (D3 _) .nil))))).mono fun e w' ⟨he, bel⟩ => ?_
  subst he
  exact ⟨_, rfl, _, _, _, [], _, [], hW', trodAll_mk1 (shut_bool Tryz.underlying4 _), (trodAll_cons_mk (Below.trod laidOut (by kernel_rfl) (of_decide_eq_true (by kernel_rfl)) k0 bel lt0) (trodAll_cons_mk (Below.trod laidOut (by kernel_rfl) (of_decide_eq_true (by kernel_rfl)) k1 bel lt1) (trodAll_cons_mk (Below.trod laidOut (by kernel_rfl) (of_decide_eq_true (by kernel_rfl)) k2 bel lt2) (trodAll_cons_mk (Below.trod laidOut (by kernel_rfl) (of_decide_eq_true (by kernel_rfl)) k3 bel lt3) trodAll_mk0)))), rfl, bel.frame _, fun h => by cases h⟩

theorem over : Rows.ArithSoundSaid :=
  OpenClaim.holds_of_wide 4 Tryz.f4 rfl rfl rfl rfl rfl rfl rfl ⟨rfl, rfl, rfl, rfl, rfl⟩ rfl rfl rfl rfl rfl (by kernel_rfl) Tryz.func4 (by kernel_rfl)
    (of_decide_eq_true (by kernel_rfl)) (by unfold Func.isWrapper; first | (rw [if_pos (by decide +kernel)]; kernel_rfl) | (rw [if_neg (by decide +kernel)]; exact ⟨rfl, rfl⟩))
    (fun os started H enc _ => lifted os started H enc)

theorem proved : Rows.ArithSoundCardSaid :=
  Claim7.holds_tied_plain_at .later [] [.data, .data, .data] true (true, "f9a24e40b5cf80ee043d30d879ff0927fd064a944b0401cc8d4e604f2d7089f5") false
    over (fun _ h => by cases h) (by kernel_rfl) (fun _ h => by cases h) arithSound_row_tie rfl ⟨rfl, rfl⟩ (by kernel_rfl) rfl
    (fun f fn hf hfn => by
      obtain rfl : f = 4 := Option.some.inj ((show Tryz.prog.funcNamed "sieveholes/sieveholeslaw22.ArithSound" = some 4 by kernel_rfl).symm.trans hf) |>.symm
      obtain rfl : fn = Tryz.f4 := (Option.some.inj (Tryz.func4.symm.trans hfn)).symm
      exact ⟨by kernel_rfl, fun j t ht => by
        rw [Tryz.params4] at ht
        have hm : t ∈ [28, 28, 2, 2] := by simpa using Array.mem_of_getElem? ht
        have hall : ([28, 28, 2, 2].all fun u => !Tryz.prog.wantsStandIn u) = true := by kernel_rfl
        exact (show Tryz.prog.wantsStandIn t = false by simpa using List.all_eq_true.1 hall t hm)⟩)
    (by kernel_rfl)
#print axioms proved
end Go.Proofs.YtcgafjhkefcdfaaGreatDoor.arithSound
