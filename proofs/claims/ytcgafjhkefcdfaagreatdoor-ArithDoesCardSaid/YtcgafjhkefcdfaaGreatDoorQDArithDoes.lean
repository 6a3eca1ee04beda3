/-
  The statement ArithDoes: whatever the input, the function answers true, and the input reads as it did. Conditions: none beside the statement's own.
-/
import Derived.Test.YtcgafjhkefcdfaaGreatDoorQDSem
import Derived.Test.YtcgafjhkefcdfaaGreatDoorArithDoesPlain
import Derived.Test.YtcgafjhkefcdfaaGreatDoorRows
import Derived.WalkKit
import Derived.ProofKit
import Derived.OpenShut
import Derived.ShutString
import Derived.ChangeOld
import Derived.Below
import Derived.LaidMore
import Derived.Stop.Joined
import Derived.Stop.LaidErr
import Derived.SevenTiedAt
import Derived.Test.YtcgafjhkefcdfaaGreatDoorCards
import Derived.Test.YtcgafjhkefcdfaaGreatDoorTie
namespace Go.Proofs.YtcgafjhkefcdfaaGreatDoor.arithDoes
open Go Go.Proofs Go.Proofs.YtcgafjhkefcdfaaGreatDoor Go.ChangeShapes Go.WideShapes Go.ChangeAt Go.RowKit Vm
open Go.ChangeMaps (open_string shut_string)
set_option linter.all false
section
attribute [local irreducible] Vm.Tr.vc Vm.Tr.out Vm.Fn Vm.Fn.out Vm.ev Vm.loopsOf Vm.Tr.noReq
noncomputable def body3 : Code := (Tryz.f3.body).getD .skip
theorem fn3 (op : Int) (a : S.Value) (b : S.Value) (hp : S.law22_ArithDoes_pre op a b) : CallOk c15 3 [.int .i64 op, .agg [.int .i64 a.I.Lo, .int .i64 a.I.Hi, .int .u64 a.C.M, .int .u64 a.C.R], .agg [.int .i64 b.I.Lo, .int .i64 b.I.Hi, .int .u64 b.C.M, .int .u64 b.C.R]] (wr_b (S.law22_ArithDoes op a b)) (wo_b (S.law22_ArithDoes op a b)) :=
  (call_ok (c := c15) (f := 3) (fn := Tryz.f3) (code := body3) (args := ([.int .i64 op, .agg [.int .i64 a.I.Lo, .int .i64 a.I.Hi, .int .u64 a.C.M, .int .u64 a.C.R], .agg [.int .i64 b.I.Lo, .int .i64 b.I.Hi, .int .u64 b.C.M, .int .u64 b.C.R]])) (loop := noLoop) (md := ⟨false, false⟩) (rd := rd_b) (wr := wr_b) (wo := wo_b) (r := (S.law22_ArithDoes op a b)) c15_ok (by kernel_rfl) (by kernel_rfl) (by kernel_rfl) (no_loops (by kernel_rfl)) (by kernel_rfl) (by kernel_rfl) (by kernel_rfl)
    rw_b np_b no_b (by kernel_rfl) (Eq.mpr (show Vm.Tr.vc (Vm.Fn c15 Tryz.f3 body3 noLoop ([.int .i64 op, .agg [.int .i64 a.I.Lo, .int .i64 a.I.Hi, .int .u64 a.C.M, .int .u64 a.C.R], .agg [.int .i64 b.I.Lo, .int .i64 b.I.Hi, .int .u64 b.C.M, .int .u64 b.C.R]])) = S.law22_ArithDoes_pre op a b by kernel_rfl) hp))
end
theorem read3 : Vm.Read base 3 Int (fun n => [.int .i64 n]) (inr .i64) := read_int (c := base) (t := 3) Tryz.underlying3
theorem read2 : Vm.Read base 2 Int (fun n => [.int .i64 n]) (inr .i64) := read_int (c := base) (t := 2) Tryz.underlying2
theorem read23 : Vm.Read base 23 S.Inter (fun a => [.int .i64 a.Lo, .int .i64 a.Hi]) S.Inter.ok := Vm.Read.map (read_struct (c := base) (t := 23) (n := 2) (l := [(0, 2), (1, 2)]) Tryz.underlying23 rfl (by kernel_rfl) (ReadFs.cons (c := base) (o := 0) (s := 1) (n := 1) (by kernel_rfl) read2 (ReadFs.cons (c := base) (o := 1) (s := 1) (n := 0) (by kernel_rfl) read2 ReadFs.nil))) (fun p => ⟨p.1, p.2.1⟩) (fun _ => rfl) (fun _ h => h)
theorem read24 : Vm.Read base 24 Int (fun n => [.int .u64 n]) (inr .u64) := read_int (c := base) (t := 24) Tryz.underlying24
theorem read26 : Vm.Read base 26 S.Cong (fun a => [.int .u64 a.M, .int .u64 a.R]) S.Cong.ok := Vm.Read.map (read_struct (c := base) (t := 26) (n := 2) (l := [(0, 24), (1, 24)]) Tryz.underlying26 rfl (by kernel_rfl) (ReadFs.cons (c := base) (o := 0) (s := 1) (n := 1) (by kernel_rfl) read24 (ReadFs.cons (c := base) (o := 1) (s := 1) (n := 0) (by kernel_rfl) read24 ReadFs.nil))) (fun p => ⟨p.1, p.2.1⟩) (fun _ => rfl) (fun _ h => h)
theorem read28 : Vm.Read base 28 S.Value (fun a => [.int .i64 a.I.Lo, .int .i64 a.I.Hi, .int .u64 a.C.M, .int .u64 a.C.R]) S.Value.ok := Vm.Read.map (read_struct (c := base) (t := 28) (n := 4) (l := [(0, 23), (2, 26)]) Tryz.underlying28 rfl (by kernel_rfl) (ReadFs.cons (c := base) (o := 0) (s := 2) (n := 2) (by kernel_rfl) read23 (ReadFs.cons (c := base) (o := 2) (s := 2) (n := 0) (by kernel_rfl) read26 ReadFs.nil))) (fun p => ⟨p.1, p.2.1⟩) (fun _ => rfl) (fun _ h => h)
theorem own : ownKnob Tryz.prog.godebug = none := by kernel_rfl
theorem laidOut : laidOutB Tryz.prog = true := by kernel_rfl
theorem door_met (os : Os) (args : Array Value) : laidMetH Tryz.prog Rows.arithDoesRow.laid ((World.doorLaid Tryz.prog 24 os).forCall (fun _ _ => 0) ⟨#[], args, []⟩).memory :=
  laidMetH_of_parts3 (fuel := 8) (laidMet_of_run' 8 (by kernel_rfl) (by kernel_rfl)) (by kernel_rfl) (by kernel_rfl)
theorem tab_of {w : World} (h0 : laidMetH Tryz.prog Rows.arithDoesRow.laid w) : base.inv (fun b => b < w.heap.size) w := by
  have h := h0
  rw [MakeChecks.laidMetH_plain _ _ _ (by kernel_rfl)] at h
  have ht : Lib.TabIs Tryz.prog w "internal/strconv.uint64pow10" .u64 Lib.pow10Tab := Lib.tabIs_of_head (g := 0) (by kernel_rfl) (by kernel_rfl) Tryz.underlying194 Tryz.underlying24 (by kernel_rfl) (by kernel_rfl) (laidMet.tail (laidMet.tail h))
  exact ⟨ht, tab_lt (g := 0) (by kernel_rfl) ht⟩
set_option maxRecDepth 100000 in
theorem lifted (os : Os) (started : os.Started) (H : Type) (enc : TypeId × Value → H) :
    ReturnsInHanded {} Tryz.checked os 3 .any (fun w args => (Rows.arithDoesSpec.pre enc Tryz.prog Tryz.f3 [] false w args ∧ laidMetH Tryz.prog Rows.arithDoesRow.laid w) ∧ sizedMet enc Tryz.prog Tryz.f3 (OpenSpec.ofChange Rows.arithDoesSpec) false w args) (Rows.arithDoesSpec.post enc Tryz.prog Tryz.f3 false true false false) := by
  refine returnsInHanded_of_change_and (C := Tryz.checked) (X := fun w _ => laidMetH Tryz.prog Rows.arithDoesRow.laid w) (fun _ _ _ hh h => h.of_heap hh) own started (by kernel_rfl) Tryz.func3
    (ChangeSpec.witness_shaped (enc := enc) (C := Tryz.checked) (os := os) (X := fun w _ => laidMetH Tryz.prog Rows.arithDoesRow.laid w) false (World.doorLaid Tryz.prog 24 os) #[.int .i64 0, .agg #[.int .i64 0, .int .i64 0, .int .u64 0, .int .u64 0], .agg #[.int .i64 0, .int .i64 0, .int .u64 0, .int .u64 0]] 8 rfl (World.shaped_of_RefB (by kernel_rfl) (by kernel_rfl)) (by kernel_rfl) (by kernel_rfl) (by kernel_rfl) (door_met os _)) ?_
  intro w base0 args ds gs before hval0 hW _ _ hL _
  have hval : ∀ (j : Nat) t v, Tryz.f3.params[j]? = some t → args[j]? = some v → Value.okWide Tryz.prog w .any base0 t v := hval0
  have hW' := hW
  obtain ⟨p, q, hA0, hV, rfl, hfz, hnd⟩ := hW
  have hA : DataW.TrodAll enc Tryz.prog w 0 (fun _ => true) true Tryz.f3.params.toList args.toList ds p := hA0
  rw [Tryz.params3] at hA hval
  obtain ⟨v0, vs0, d0, ds0, p0, q0, hargs, rfl, rfl, h0, r0⟩ := trodAll_cons hA
  obtain ⟨v1, vs1, d1, ds1, p1, q1, rfl, rfl, rfl, h1, r1⟩ := trodAll_cons r0
  obtain ⟨v2, vs2, d2, ds2, p2, q2, rfl, rfl, rfl, h2, r2⟩ := trodAll_cons r1
  obtain ⟨rfl, rfl, rfl⟩ := trodAll_nil r2
  obtain rfl : args = #[v0, v1, v2] := by cases args; simp_all
  obtain ⟨rfl, rfl⟩ := trodVars_none hV
  have k0 := h0
  have lt0 : ∀ x ∈ p0, x.block < w.heap.size := by obtain ⟨m, hm⟩ := k0; exact DataW.trod_lt m _ _ _ hm
  obtain ⟨n0, rfl⟩ := okWide_int Tryz.underlying3 (hval 0 3 v0 rfl rfl)
  obtain ⟨a0, g0, D0⟩ := arg_one (Vm.Read.same (c := base) (c' := c15) rfl rfl rfl read3) rfl h0 rfl
  have k1 := h1
  have lt1 : ∀ x ∈ p1, x.block < w.heap.size := by obtain ⟨m, hm⟩ := k1; exact DataW.trod_lt m _ _ _ hm
  obtain ⟨cs1, rfl, _⟩ := okWide_struct Tryz.underlying28 (hval 1 28 v1 rfl rfl)
  obtain ⟨a1, g1, D1⟩ := arg_agg (Vm.Read.same (c := base) (c' := c15) rfl rfl rfl read28) rfl h1
  have k2 := h2
  have lt2 : ∀ x ∈ p2, x.block < w.heap.size := by obtain ⟨m, hm⟩ := k2; exact DataW.trod_lt m _ _ _ hm
  obtain ⟨cs2, rfl, _⟩ := okWide_struct Tryz.underlying28 (hval 2 28 v2 rfl rfl)
  obtain ⟨a2, g2, D2⟩ := arg_agg (Vm.Read.same (c := base) (c' := c15) rfl rfl rfl read28) rfl h2
  have hp := SV.ArithDoes_law a0 a1 a2 g0 g1 g2
  have hc := fn3 a0 a1 a2 hp.1
  rw [hp.2] at hc
  refine (law_calls hc (P := Tryz.prog) rfl (tab_of hL) (.cons (D0 _) (.cons (D1 _) (.cons (D2 _) .nil)))).mono fun e w' ⟨he, bel⟩ => ?_
  subst he
  exact ⟨_, rfl, _, _, _, [], _, [], hW', trodAll_mk1 (shut_bool Tryz.underlying4 _), (trodAll_cons_mk (Below.trod laidOut (by kernel_rfl) (of_decide_eq_true (by kernel_rfl)) k0 bel lt0) (trodAll_cons_mk (Below.trod laidOut (by kernel_rfl) (of_decide_eq_true (by kernel_rfl)) k1 bel lt1) (trodAll_cons_mk (Below.trod laidOut (by kernel_rfl) (of_decide_eq_true (by kernel_rfl)) k2 bel lt2) trodAll_mk0))), rfl, bel.frame _, fun h => by cases h⟩
theorem over : Rows.ArithDoesSaid :=
  OpenClaim.holds_of_wide 3 Tryz.f3 rfl rfl rfl rfl rfl rfl rfl ⟨rfl, rfl, rfl, rfl, rfl⟩ rfl rfl rfl rfl rfl (by kernel_rfl) Tryz.func3 (by kernel_rfl)
    (of_decide_eq_true (by kernel_rfl)) (by unfold Func.isWrapper; first | (rw [if_pos (by decide +kernel)]; kernel_rfl) | (rw [if_neg (by decide +kernel)]; exact ⟨rfl, rfl⟩))
    (fun os started H enc _ => lifted os started H enc)
theorem proved : Rows.ArithDoesCardSaid :=
  Claim7.holds_tied_plain_at .later [] [.data, .data, .data] true (true, "f9a24e40b5cf80ee043d30d879ff0927fd064a944b0401cc8d4e604f2d7089f5") false
    over (fun _ h => by cases h) (by kernel_rfl) (fun _ h => by cases h) arithDoes_row_tie rfl ⟨rfl, rfl⟩ (by kernel_rfl) rfl
    (fun f fn hf hfn => by
      obtain rfl : f = 3 := Option.some.inj ((show Tryz.prog.funcNamed "sieveholes/sieveholeslaw22.ArithDoes" = some 3 by kernel_rfl).symm.trans hf) |>.symm
      obtain rfl : fn = Tryz.f3 := (Option.some.inj (Tryz.func3.symm.trans hfn)).symm
      exact ⟨by kernel_rfl, fun j t ht => by
        rw [Tryz.params3] at ht
        have hm : t ∈ [3, 28, 28] := by simpa using Array.mem_of_getElem? ht
        have hall : ([3, 28, 28].all fun u => !Tryz.prog.wantsStandIn u) = true := by kernel_rfl
        exact (show Tryz.prog.wantsStandIn t = false by simpa using List.all_eq_true.1 hall t hm)⟩)
    (by kernel_rfl)
#print axioms proved
end Go.Proofs.YtcgafjhkefcdfaaGreatDoor.arithDoes
