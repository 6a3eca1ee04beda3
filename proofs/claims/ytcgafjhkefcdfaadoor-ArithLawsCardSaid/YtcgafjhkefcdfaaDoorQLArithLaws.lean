/-
  The statement ArithLaws: whatever the input, the function answers true, and the input reads as it did. Conditions: none beside the statement's own.
-/
import Derived.Test.YtcgafjhkefcdfaaDoorQLSem
import Derived.Test.YtcgafjhkefcdfaaDoorArithPlain5
import Derived.Test.YtcgafjhkefcdfaaDoorRows
import Derived.WalkKit
import Derived.ProofKit
import Derived.OpenShut
import Derived.ShutString
import Derived.ChangeOld
import Derived.Below
import Derived.LaidMore
import Derived.Stop.Joined
import Derived.Stop.LaidErr
import Derived.SevenTiedAt
import Derived.Test.YtcgafjhkefcdfaaDoorCards
import Derived.Test.YtcgafjhkefcdfaaDoorTie
namespace Go.Proofs.YtcgafjhkefcdfaaDoor.arithLaws
open Go Go.Proofs Go.Proofs.YtcgafjhkefcdfaaDoor Go.ChangeShapes Go.WideShapes Go.ChangeAt Go.RowKit Vm
open Go.ChangeMaps (open_string shut_string)
set_option linter.all false

section
attribute [local irreducible] Vm.Tr.vc Vm.Tr.out Vm.Fn Vm.Fn.out Vm.ev Vm.loopsOf Vm.Tr.noReq
noncomputable def body3 : Code := (Tryd.f3.body).getD .skip
noncomputable def lb3_0 : Code := ((nth (loopsOf 0 body3) 0).getD (0, .skip)).2
noncomputable def px3_0 : List W → Option S.law22_ArithLaws_L0
  | [.ptr 3 0, .ptr 4 0, .bool y1, .int .i64 y2, .int .i64 y3, .int .i64 y4, .int .u64 y5, .int .u64 y6, .int .i64 y7, .int .i64 y8, .int .u64 y9, .int .u64 y10] => some ⟨y1, y2, ⟨⟨y3, y4⟩, ⟨y5, y6⟩⟩, ⟨⟨y7, y8⟩, ⟨y9, y10⟩⟩⟩
  | _ => none
noncomputable def tx3_0 (x : S.law22_ArithLaws_L0) : List W := [.ptr 3 0, .ptr 4 0, .bool x.t6, .int .i64 x.i, .int .i64 x.a.I.Lo, .int .i64 x.a.I.Hi, .int .u64 x.a.C.M, .int .u64 x.a.C.R, .int .i64 x.b.I.Lo, .int .i64 x.b.I.Hi, .int .u64 x.b.C.M, .int .u64 x.b.C.R]
noncomputable def py3_0 : Ex → List W → Option (Bool × S.law22_ArithLaws_L0)
  | .ret, [.ptr 3 0, .ptr 4 0, .bool y1, .int .i64 y2, .int .i64 y3, .int .i64 y4, .int .u64 y5, .int .u64 y6, .int .i64 y7, .int .i64 y8, .int .u64 y9, .int .u64 y10] => some ⟨true, ⟨y1, y2, ⟨⟨y3, y4⟩, ⟨y5, y6⟩⟩, ⟨⟨y7, y8⟩, ⟨y9, y10⟩⟩⟩⟩
  | .exit 0, [.ptr 3 0, .ptr 4 0, .bool y1, .int .i64 y2, .int .i64 y3, .int .i64 y4, .int .u64 y5, .int .u64 y6, .int .i64 y7, .int .i64 y8, .int .u64 y9, .int .u64 y10] => some ⟨false, ⟨y1, y2, ⟨⟨y3, y4⟩, ⟨y5, y6⟩⟩, ⟨⟨y7, y8⟩, ⟨y9, y10⟩⟩⟩⟩
  | _, _ => none
noncomputable def ld3_0 : LD El where
  X := S.law22_ArithLaws_L0
  Y := Bool × S.law22_ArithLaws_L0
  keys := [.slot 3, .slot 4, .slot 6, .slot 8, .cell 3 0, .cell 3 1, .cell 3 2, .cell 3 3, .cell 4 0, .cell 4 1, .cell 4 2, .cell 4 3]
  fits := [0, 0, 4, 3, 2, 2, 24, 24, 2, 2, 24, 24]
  px := px3_0
  tx := tx3_0
  okeys := [.slot 3, .slot 4, .slot 6, .slot 8, .cell 3 0, .cell 3 1, .cell 3 2, .cell 3 3, .cell 4 0, .cell 4 1, .cell 4 2, .cell 4 3]
  ofits := [0, 0, 4, 3, 2, 2, 24, 24, 2, 2, 24, 24]
  py := py3_0
  ty := fun y => bif y.1 then tx3_0 y.2 else tx3_0 y.2
  oex := fun y => bif y.1 then .ret else .exit 0
  junk := [.slot 16, .slot 17, .slot 18, .slot 19, .slot 20, .slot 21, .slot 22, .slot 23, .slot 24, .slot 25, .slot 26, .slot 27, .slot 28, .slot 29, .slot 30, .slot 31, .slot 32, .slot 33, .slot 34]
  rows := []
noncomputable def lo3_0 : (Bool × S.law22_ArithLaws_L0) → Tr El := fun y => .node y.1 (.leaf (.ret) (zipK ld3_0.okeys (tx3_0 y.2) ++ junkK ld3_0.junk)) (.leaf (.exit 0) (zipK ld3_0.okeys (tx3_0 y.2) ++ junkK ld3_0.junk))
noncomputable def loop3 : Nat → Env El → Tr El
  | 0 => ld3_0.tree c14 Tryd.f3.ntmps 0 lb3_0 S.law22_ArithLaws_L0_run lo3_0 S.law22_ArithLaws_L0_step S.law22_ArithLaws_L0_vcs
  | _ => fun _ => .fail
theorem lok3_0 : ∀ w0 S0, LoopOk c14 Tryd.f3.ntmps w0 S0 loop3 0 lb3_0 :=
  loop_ok (c := c14) (n := Tryd.f3.ntmps) c14_ok mixed ld3_0 (body := lb3_0) (key := 0) (loop := loop3) (F := S.law22_ArithLaws_L0_run) (out := lo3_0) (step := S.law22_ArithLaws_L0_step) (vcs := S.law22_ArithLaws_L0_vcs)
    (fun _ => by kernel_rfl) (no_loops (by kernel_rfl)) rfl rfl
    (fun vs x h => by unfold ld3_0 px3_0 at h; dsimp only at h; split at h <;> first | (cases h; rfl) | cases h)
    (fun e vs y h => by unfold ld3_0 py3_0 at h; dsimp only at h; split at h <;> first | (cases h; exact ⟨rfl, rfl⟩) | cases h)
    (by kernel_rfl) (fun | (true, _) => rfl | (false, _) => rfl) (fun | (true, _), _, h => h.1 rfl | (false, _), _, h => h.2 rfl) (fun x => by kernel_rfl) (fun x h => Eq.mpr (show Vm.Tr.vc (Vm.ev c14 Tryd.f3.ntmps loop3 0 lb3_0 (ld3_0.vars x) []) = S.law22_ArithLaws_L0_vcs x by kernel_rfl) h)
theorem fn3 (a : S.Value) (b : S.Value) (op : Int) (hp : S.law22_ArithLaws_pre a b op) : CallOk c14 3 [.agg [.int .i64 a.I.Lo, .int .i64 a.I.Hi, .int .u64 a.C.M, .int .u64 a.C.R], .agg [.int .i64 b.I.Lo, .int .i64 b.I.Hi, .int .u64 b.C.M, .int .u64 b.C.R], .int .i64 op] (wr_b (S.law22_ArithLaws a b op)) (wo_b (S.law22_ArithLaws a b op)) :=
  (call_ok (c := c14) (f := 3) (fn := Tryd.f3) (code := body3) (args := ([.agg [.int .i64 a.I.Lo, .int .i64 a.I.Hi, .int .u64 a.C.M, .int .u64 a.C.R], .agg [.int .i64 b.I.Lo, .int .i64 b.I.Hi, .int .u64 b.C.M, .int .u64 b.C.R], .int .i64 op])) (loop := loop3) (md := ⟨false, false⟩) (rd := rd_b) (wr := wr_b) (wo := wo_b) (r := (S.law22_ArithLaws a b op)) c14_ok (by kernel_rfl) (by kernel_rfl) (by kernel_rfl) (loops_all (l := [(0, lb3_0)]) (by kernel_rfl) ⟨lok3_0, trivial⟩) (by kernel_rfl) (by kernel_rfl) (by kernel_rfl)
    rw_b np_b no_b (by kernel_rfl) (Eq.mpr (show Vm.Tr.vc (Vm.Fn c14 Tryd.f3 body3 loop3 ([.agg [.int .i64 a.I.Lo, .int .i64 a.I.Hi, .int .u64 a.C.M, .int .u64 a.C.R], .agg [.int .i64 b.I.Lo, .int .i64 b.I.Hi, .int .u64 b.C.M, .int .u64 b.C.R], .int .i64 op])) = S.law22_ArithLaws_pre a b op by kernel_rfl) hp))
end
theorem read2 : Vm.Read base 2 Int (fun n => [.int .i64 n]) (inr .i64) := read_int (c := base) (t := 2) Tryd.underlying2
theorem read23 : Vm.Read base 23 S.Inter (fun a => [.int .i64 a.Lo, .int .i64 a.Hi]) S.Inter.ok := Vm.Read.map (read_struct (c := base) (t := 23) (n := 2) (l := [(0, 2), (1, 2)]) Tryd.underlying23 rfl (by kernel_rfl) (ReadFs.cons (c := base) (o := 0) (s := 1) (n := 1) (by kernel_rfl) read2 (ReadFs.cons (c := base) (o := 1) (s := 1) (n := 0) (by kernel_rfl) read2 ReadFs.nil))) (fun p => ⟨p.1, p.2.1⟩) (fun _ => rfl) (fun _ h => h)
theorem read24 : Vm.Read base 24 Int (fun n => [.int .u64 n]) (inr .u64) := read_int (c := base) (t := 24) Tryd.underlying24
theorem read26 : Vm.Read base 26 S.Cong (fun a => [.int .u64 a.M, .int .u64 a.R]) S.Cong.ok := Vm.Read.map (read_struct (c := base) (t := 26) (n := 2) (l := [(0, 24), (1, 24)]) Tryd.underlying26 rfl (by kernel_rfl) (ReadFs.cons (c := base) (o := 0) (s := 1) (n := 1) (by kernel_rfl) read24 (ReadFs.cons (c := base) (o := 1) (s := 1) (n := 0) (by kernel_rfl) read24 ReadFs.nil))) (fun p => ⟨p.1, p.2.1⟩) (fun _ => rfl) (fun _ h => h)
theorem read28 : Vm.Read base 28 S.Value (fun a => [.int .i64 a.I.Lo, .int .i64 a.I.Hi, .int .u64 a.C.M, .int .u64 a.C.R]) S.Value.ok := Vm.Read.map (read_struct (c := base) (t := 28) (n := 4) (l := [(0, 23), (2, 26)]) Tryd.underlying28 rfl (by kernel_rfl) (ReadFs.cons (c := base) (o := 0) (s := 2) (n := 2) (by kernel_rfl) read23 (ReadFs.cons (c := base) (o := 2) (s := 2) (n := 0) (by kernel_rfl) read26 ReadFs.nil))) (fun p => ⟨p.1, p.2.1⟩) (fun _ => rfl) (fun _ h => h)
theorem read3 : Vm.Read base 3 Int (fun n => [.int .i64 n]) (inr .i64) := read_int (c := base) (t := 3) Tryd.underlying3
theorem own : ownKnob Tryd.prog.godebug = none := by kernel_rfl
theorem laidOut : laidOutB Tryd.prog = true := by kernel_rfl
theorem door_met (os : Os) (args : Array Value) : laidMetH Tryd.prog Rows.arithLawsRow.laid ((World.doorLaid Tryd.prog 24 os).forCall (fun _ _ => 0) ⟨#[], args, []⟩).memory :=
  laidMetH_of_parts3 (fuel := 8) (laidMet_of_run' 8 (by kernel_rfl) (by kernel_rfl)) (by kernel_rfl) (by kernel_rfl)
theorem tab_of {w : World} (h0 : laidMetH Tryd.prog Rows.arithLawsRow.laid w) : base.inv (fun b => b < w.heap.size) w := by
  have h := h0
  rw [MakeChecks.laidMetH_plain _ _ _ (by kernel_rfl)] at h
  have ht : Lib.TabIs Tryd.prog w "internal/strconv.uint64pow10" .u64 Lib.pow10Tab := Lib.tabIs_of_head (g := 0) (by kernel_rfl) (by kernel_rfl) Tryd.underlying101 Tryd.underlying24 (by kernel_rfl) (by kernel_rfl) (laidMet.tail (laidMet.tail h))
  exact ⟨ht, tab_lt (g := 0) (by kernel_rfl) ht⟩
set_option maxRecDepth 100000 in
theorem lifted (os : Os) (started : os.Started) (H : Type) (enc : TypeId × Value → H) :
    ReturnsInHanded {} Tryd.checked os 3 .any (fun w args => (Rows.arithLawsSpec.pre enc Tryd.prog Tryd.f3 [] false w args ∧ laidMetH Tryd.prog Rows.arithLawsRow.laid w) ∧ sizedMet enc Tryd.prog Tryd.f3 (OpenSpec.ofChange Rows.arithLawsSpec) false w args) (Rows.arithLawsSpec.post enc Tryd.prog Tryd.f3 false true false false) := by
  refine returnsInHanded_of_change_and (C := Tryd.checked) (X := fun w _ => laidMetH Tryd.prog Rows.arithLawsRow.laid w) (fun _ _ _ hh h => h.of_heap hh) own started (by kernel_rfl) Tryd.func3
    (ChangeSpec.witness_shaped (enc := enc) (C := Tryd.checked) (os := os) (X := fun w _ => laidMetH Tryd.prog Rows.arithLawsRow.laid w) false (World.doorLaid Tryd.prog 24 os) #[.agg #[.int .i64 0, .int .i64 0, .int .u64 0, .int .u64 0], .agg #[.int .i64 0, .int .i64 0, .int .u64 0, .int .u64 0], .int .i64 0] 8 rfl (World.shaped_of_RefB (by kernel_rfl) (by kernel_rfl)) (by kernel_rfl) (by kernel_rfl) (by kernel_rfl) (door_met os _)) ?_
  intro w base0 args ds gs before hval0 hW _ _ hL _
  have hval : ∀ (j : Nat) t v, Tryd.f3.params[j]? = some t → args[j]? = some v → Value.okWide Tryd.prog w .any base0 t v := hval0
  have hW' := hW
  obtain ⟨p, q, hA0, hV, rfl, hfz, hnd⟩ := hW
  have hA : DataW.TrodAll enc Tryd.prog w 0 (fun _ => true) true Tryd.f3.params.toList args.toList ds p := hA0
  rw [Tryd.params3] at hA hval
  obtain ⟨v0, vs0, d0, ds0, p0, q0, hargs, rfl, rfl, h0, r0⟩ := trodAll_cons hA
  obtain ⟨v1, vs1, d1, ds1, p1, q1, rfl, rfl, rfl, h1, r1⟩ := trodAll_cons r0
  obtain ⟨v2, vs2, d2, ds2, p2, q2, rfl, rfl, rfl, h2, r2⟩ := trodAll_cons r1
  obtain ⟨rfl, rfl, rfl⟩ := trodAll_nil r2
  obtain rfl : args = #[v0, v1, v2] := by cases args; simp_all
  obtain ⟨rfl, rfl⟩ := trodVars_none hV
  have k0 := h0
  have lt0 : ∀ x ∈ p0, x.block < w.heap.size := by obtain ⟨m, hm⟩ := k0; exact DataW.trod_lt m _ _ _ hm
  obtain ⟨cs0, rfl, _⟩ := okWide_struct Tryd.underlying28 (hval 0 28 v0 rfl rfl)
  obtain ⟨a0, g0, D0⟩ := arg_agg (Vm.Read.same (c := base) (c' := c14) rfl rfl rfl read28) rfl h0
  have k1 := h1
  have lt1 : ∀ x ∈ p1, x.block < w.heap.size := by obtain ⟨m, hm⟩ := k1; exact DataW.trod_lt m _ _ _ hm
  obtain ⟨cs1, rfl, _⟩ := okWide_struct Tryd.underlying28 (hval 1 28 v1 rfl rfl)
  obtain ⟨a1, g1, D1⟩ := arg_agg (Vm.Read.same (c := base) (c' := c14) rfl rfl rfl read28) rfl h1
  have k2 := h2
  have lt2 : ∀ x ∈ p2, x.block < w.heap.size := by obtain ⟨m, hm⟩ := k2; exact DataW.trod_lt m _ _ _ hm
  obtain ⟨n2, rfl⟩ := okWide_int Tryd.underlying3 (hval 2 3 v2 rfl rfl)
  obtain ⟨a2, g2, D2⟩ := arg_one (Vm.Read.same (c := base) (c' := c14) rfl rfl rfl read3) rfl h2 rfl
  have hp := SV.ArithLaws_law a0 a1 a2 g0 g1 g2
  have hc := fn3 a0 a1 a2 hp.1
  rw [hp.2] at hc
  refine (law_calls hc (P := Tryd.prog) rfl (tab_of hL) (.cons (D0 _) (.cons (D1 _) (.cons (D2 _) .nil)))).mono fun e w' ⟨he, bel⟩ => ?_
  subst he
  exact ⟨_, rfl, _, _, _, [], _, [], hW', trodAll_mk1 (shut_bool Tryd.underlying4 _), (trodAll_cons_mk (Below.trod laidOut (by kernel_rfl) (of_decide_eq_true (by kernel_rfl)) k0 bel lt0) (trodAll_cons_mk (Below.trod laidOut (by kernel_rfl) (of_decide_eq_true (by kernel_rfl)) k1 bel lt1) (trodAll_cons_mk (Below.trod laidOut (by kernel_rfl) (of_decide_eq_true (by kernel_rfl)) k2 bel lt2) trodAll_mk0))), rfl, bel.frame _, fun h => by cases h⟩

theorem over : Rows.ArithLawsSaid :=
  OpenClaim.holds_of_wide 3 Tryd.f3 rfl rfl rfl rfl rfl rfl rfl ⟨rfl, rfl, rfl, rfl, rfl⟩ rfl rfl rfl rfl rfl (by kernel_rfl) Tryd.func3 (by kernel_rfl)
    (of_decide_eq_true (by kernel_rfl)) (by unfold Func.isWrapper; first | (rw [if_pos (by decide +kernel)]; kernel_rfl) | (rw [if_neg (by decide +kernel)]; exact ⟨rfl, rfl⟩))
    (fun os started H enc _ => lifted os started H enc)

theorem proved : Rows.ArithLawsCardSaid :=
  Claim7.holds_tied_plain_at .later [] [.data, .data, .data] true (true, "13ce31b63df597bb1a616bf50d291ec73a2239bc4336094c99bcd0224e4bf6c0") false
    over (fun _ h => by cases h) (by kernel_rfl) (fun _ h => by cases h) arithLaws_row_tie rfl ⟨rfl, rfl⟩ (by kernel_rfl) rfl
    (fun f fn hf hfn => by
      obtain rfl : f = 3 := Option.some.inj ((show Tryd.prog.funcNamed "sieveholes/sieveholeslaw22.ArithLaws" = some 3 by kernel_rfl).symm.trans hf) |>.symm
      obtain rfl : fn = Tryd.f3 := (Option.some.inj (Tryd.func3.symm.trans hfn)).symm
      exact ⟨by kernel_rfl, fun j t ht => by
        rw [Tryd.params3] at ht
        have hm : t ∈ [28, 28, 3] := by simpa using Array.mem_of_getElem? ht
        have hall : ([28, 28, 3].all fun u => !Tryd.prog.wantsStandIn u) = true := by kernel_rfl
        exact (show Tryd.prog.wantsStandIn t = false by simpa using List.all_eq_true.1 hall t hm)⟩)
    (by kernel_rfl)
#print axioms proved
end Go.Proofs.YtcgafjhkefcdfaaDoor.arithLaws
