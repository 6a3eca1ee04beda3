/-
  The statement ValueLattice: whatever the input, the function answers true, and the input reads as it did. Conditions: none beside the statement's own.
-/
import Derived.Test.YthplfkeecpkmhaaDoorVDSem
import Derived.Test.YthplfkeecpkmhaaDoorValLaw3
import Derived.Test.YthplfkeecpkmhaaDoorRows
import Derived.WalkKit
import Derived.ProofKit
import Derived.OpenShut
import Derived.ShutString
import Derived.ChangeOld
import Derived.Below
import Derived.LaidMore
import Derived.Stop.Joined
import Derived.Stop.LaidErr
import Derived.SevenTiedAt
import Derived.Test.YthplfkeecpkmhaaDoorCards
import Derived.Test.YthplfkeecpkmhaaDoorTie
namespace Go.Proofs.YthplfkeecpkmhaaDoor.valueLattice
open Go Go.Proofs Go.Proofs.YthplfkeecpkmhaaDoor Go.ChangeShapes Go.WideShapes Go.ChangeAt Go.RowKit Vm
open Go.ChangeMaps (open_string shut_string)
set_option linter.all false

section
attribute [local irreducible] Vm.Tr.vc Vm.Tr.out Vm.Fn Vm.Fn.out Vm.ev Vm.loopsOf Vm.Tr.noReq
noncomputable def body3 : Code := (Tryd.f3.body).getD .skip
noncomputable def lb3_0 : Code := ((nth (loopsOf 0 body3) 0).getD (0, .skip)).2
noncomputable def px3_0 : List W → Option S.law21_ValueLattice_L0
  | [.ptr 4 0, .bool y1, .list 2 false y2, .int .i64 y3, .int .i64 y4, .int .i64 y5, .int .u64 y6, .int .u64 y7] => some ⟨y1, y2, y3, ⟨⟨y4, y5⟩, ⟨y6, y7⟩⟩⟩
  | _ => none
noncomputable def tx3_0 (x : S.law21_ValueLattice_L0) : List W := [.ptr 4 0, .bool x.t8, .list 2 false x.some, .int .i64 x.i, .int .i64 x.a.I.Lo, .int .i64 x.a.I.Hi, .int .u64 x.a.C.M, .int .u64 x.a.C.R]
noncomputable def py3_0 : Ex → List W → Option (Bool × S.law21_ValueLattice_L0)
  | .ret, [.ptr 4 0, .bool y1, .list 2 false y2, .int .i64 y3, .int .i64 y4, .int .i64 y5, .int .u64 y6, .int .u64 y7] => some ⟨true, ⟨y1, y2, y3, ⟨⟨y4, y5⟩, ⟨y6, y7⟩⟩⟩⟩
  | .exit 0, [.ptr 4 0, .bool y1, .list 2 false y2, .int .i64 y3, .int .i64 y4, .int .i64 y5, .int .u64 y6, .int .u64 y7] => some ⟨false, ⟨y1, y2, y3, ⟨⟨y4, y5⟩, ⟨y6, y7⟩⟩⟩⟩
  | _, _ => none
noncomputable def ld3_0 : LD El where
  X := S.law21_ValueLattice_L0
  Y := Bool × S.law21_ValueLattice_L0
  keys := [.slot 4, .slot 8, .slot 13, .slot 14, .cell 4 0, .cell 4 1, .cell 4 2, .cell 4 3]
  fits := [0, 4, 37, 3, 2, 2, 24, 24]
  px := px3_0
  tx := tx3_0
  okeys := [.slot 4, .slot 8, .slot 13, .slot 14, .cell 4 0, .cell 4 1, .cell 4 2, .cell 4 3]
  ofits := [0, 4, 37, 3, 2, 2, 24, 24]
  py := py3_0
  ty := fun y => bif y.1 then tx3_0 y.2 else tx3_0 y.2
  oex := fun y => bif y.1 then .ret else .exit 0
  junk := [.slot 176, .slot 177, .slot 178, .slot 179, .slot 180, .slot 181, .slot 182, .slot 183, .slot 184, .slot 185, .slot 186, .slot 187, .slot 188, .slot 189, .slot 190, .slot 191, .slot 192, .slot 193, .slot 194, .slot 195, .slot 196, .slot 197, .slot 198, .slot 199, .slot 200, .slot 201, .slot 202, .slot 203, .slot 204]
  rows := []
noncomputable def lo3_0 : (Bool × S.law21_ValueLattice_L0) → Tr El := fun y => .node y.1 (.leaf (.ret) (zipK ld3_0.okeys (tx3_0 y.2) ++ junkK ld3_0.junk)) (.leaf (.exit 0) (zipK ld3_0.okeys (tx3_0 y.2) ++ junkK ld3_0.junk))
noncomputable def lb3_2 : Code := ((nth (loopsOf 0 body3) 1).getD (0, .skip)).2
noncomputable def px3_2 : List W → Option S.law21_ValueLattice_L2
  | [.list 28 false y1, .ptr 15 0, .int .i64 y2, .int .i64 y3, .int .i64 y4, .int .u64 y5, .int .u64 y6] => some ⟨y1, y2, ⟨⟨y3, y4⟩, ⟨y5, y6⟩⟩⟩
  | _ => none
noncomputable def tx3_2 (x : S.law21_ValueLattice_L2) : List W := [.list 28 false x.l, .ptr 15 0, .int .i64 x.i, .int .i64 x.vx.I.Lo, .int .i64 x.vx.I.Hi, .int .u64 x.vx.C.M, .int .u64 x.vx.C.R]
noncomputable def py3_2 : Ex → List W → Option (S.law21_ValueLattice_L2)
  | .exit 2, [.list 28 false y1, .ptr 15 0, .int .i64 y2, .int .i64 y3, .int .i64 y4, .int .u64 y5, .int .u64 y6] => some ⟨y1, y2, ⟨⟨y3, y4⟩, ⟨y5, y6⟩⟩⟩
  | _, _ => none
noncomputable def ld3_2 : LD El where
  X := S.law21_ValueLattice_L2
  Y := S.law21_ValueLattice_L2
  keys := [.slot 3, .slot 15, .slot 16, .cell 15 0, .cell 15 1, .cell 15 2, .cell 15 3]
  fits := [29, 0, 3, 2, 2, 24, 24]
  px := px3_2
  tx := tx3_2
  okeys := [.slot 3, .slot 15, .slot 16, .cell 15 0, .cell 15 1, .cell 15 2, .cell 15 3]
  ofits := [29, 0, 3, 2, 2, 24, 24]
  py := py3_2
  ty := fun y => tx3_2 y
  oex := fun _ => .exit 2
  junk := [.slot 206, .slot 207, .slot 208, .slot 209, .slot 210, .slot 211, .slot 212, .slot 213, .slot 214, .slot 215, .slot 216, .slot 217, .slot 218, .slot 219, .slot 220, .slot 221]
  rows := []
noncomputable def lo3_2 : S.law21_ValueLattice_L2 → Tr El := fun y => .leaf (.exit 2) (zipK ld3_2.okeys (tx3_2 y) ++ junkK ld3_2.junk)
noncomputable def lb3_4 : Code := ((nth (loopsOf 0 body3) 2).getD (0, .skip)).2
noncomputable def px3_4 : List W → Option S.law21_ValueLattice_L4
  | [.list 28 false y1, .bool y2, .ptr 15 0, .int .i64 y3, .int .i64 y4, .int .i64 y5, .int .u64 y6, .int .u64 y7] => some ⟨y1, y2, y3, ⟨⟨y4, y5⟩, ⟨y6, y7⟩⟩⟩
  | _ => none
noncomputable def tx3_4 (x : S.law21_ValueLattice_L4) : List W := [.list 28 false x.l, .bool x.t8, .ptr 15 0, .int .i64 x.i, .int .i64 x.vx.I.Lo, .int .i64 x.vx.I.Hi, .int .u64 x.vx.C.M, .int .u64 x.vx.C.R]
noncomputable def py3_4 : Ex → List W → Option (Bool × S.law21_ValueLattice_L4)
  | .ret, [.list 28 false y1, .bool y2, .ptr 15 0, .int .i64 y3, .int .i64 y4, .int .i64 y5, .int .u64 y6, .int .u64 y7] => some ⟨true, ⟨y1, y2, y3, ⟨⟨y4, y5⟩, ⟨y6, y7⟩⟩⟩⟩
  | .exit 4, [.list 28 false y1, .bool y2, .ptr 15 0, .int .i64 y3, .int .i64 y4, .int .i64 y5, .int .u64 y6, .int .u64 y7] => some ⟨false, ⟨y1, y2, y3, ⟨⟨y4, y5⟩, ⟨y6, y7⟩⟩⟩⟩
  | _, _ => none
noncomputable def ld3_4 : LD El where
  X := S.law21_ValueLattice_L4
  Y := Bool × S.law21_ValueLattice_L4
  keys := [.slot 3, .slot 8, .slot 15, .slot 17, .cell 15 0, .cell 15 1, .cell 15 2, .cell 15 3]
  fits := [29, 4, 0, 3, 2, 2, 24, 24]
  px := px3_4
  tx := tx3_4
  okeys := [.slot 3, .slot 8, .slot 15, .slot 17, .cell 15 0, .cell 15 1, .cell 15 2, .cell 15 3]
  ofits := [29, 4, 0, 3, 2, 2, 24, 24]
  py := py3_4
  ty := fun y => bif y.1 then tx3_4 y.2 else tx3_4 y.2
  oex := fun y => bif y.1 then .ret else .exit 4
  junk := [.slot 222, .slot 223, .slot 224, .slot 225, .slot 226, .slot 227, .slot 228, .slot 229, .slot 230, .slot 231, .slot 232, .slot 233, .slot 234, .slot 235, .slot 236, .slot 237, .slot 238, .slot 239, .slot 240, .slot 241, .slot 242, .slot 243, .slot 244, .slot 245]
  rows := []
noncomputable def lo3_4 : (Bool × S.law21_ValueLattice_L4) → Tr El := fun y => .node y.1 (.leaf (.ret) (zipK ld3_4.okeys (tx3_4 y.2) ++ junkK ld3_4.junk)) (.leaf (.exit 4) (zipK ld3_4.okeys (tx3_4 y.2) ++ junkK ld3_4.junk))
noncomputable def loop3 : Nat → Env El → Tr El
  | 0 => ld3_0.tree c14 Tryd.f3.ntmps 0 lb3_0 S.law21_ValueLattice_L0_run lo3_0 S.law21_ValueLattice_L0_step S.law21_ValueLattice_L0_vcs
  | 2 => ld3_2.tree c14 Tryd.f3.ntmps 2 lb3_2 S.law21_ValueLattice_L2_run lo3_2 S.law21_ValueLattice_L2_step S.law21_ValueLattice_L2_vcs
  | 4 => ld3_4.tree c14 Tryd.f3.ntmps 4 lb3_4 S.law21_ValueLattice_L4_run lo3_4 S.law21_ValueLattice_L4_step S.law21_ValueLattice_L4_vcs
  | _ => fun _ => .fail
theorem lok3_4 : ∀ w0 S0, LoopOk c14 Tryd.f3.ntmps w0 S0 loop3 4 lb3_4 :=
  loop_ok (c := c14) (n := Tryd.f3.ntmps) c14_ok mixed ld3_4 (body := lb3_4) (key := 4) (loop := loop3) (F := S.law21_ValueLattice_L4_run) (out := lo3_4) (step := S.law21_ValueLattice_L4_step) (vcs := S.law21_ValueLattice_L4_vcs)
    (fun _ => by kernel_rfl) (no_loops (by kernel_rfl)) rfl rfl
    (fun vs x h => by unfold ld3_4 px3_4 at h; dsimp only at h; split at h <;> first | (cases h; rfl) | cases h)
    (fun e vs y h => by unfold ld3_4 py3_4 at h; dsimp only at h; split at h <;> first | (cases h; exact ⟨rfl, rfl⟩) | cases h)
    (by kernel_rfl) (fun | (true, _) => rfl | (false, _) => rfl) (fun | (true, _), _, h => h.1 rfl | (false, _), _, h => h.2 rfl) (fun x => by kernel_rfl) (fun x h => Eq.mpr (show Vm.Tr.vc (Vm.ev c14 Tryd.f3.ntmps loop3 4 lb3_4 (ld3_4.vars x) []) = S.law21_ValueLattice_L4_vcs x by kernel_rfl) h)
theorem lok3_2 : ∀ w0 S0, LoopOk c14 Tryd.f3.ntmps w0 S0 loop3 2 lb3_2 :=
  loop_ok (c := c14) (n := Tryd.f3.ntmps) c14_ok mixed ld3_2 (body := lb3_2) (key := 2) (loop := loop3) (F := S.law21_ValueLattice_L2_run) (out := lo3_2) (step := S.law21_ValueLattice_L2_step) (vcs := S.law21_ValueLattice_L2_vcs)
    (fun _ => by kernel_rfl) (no_loops (by kernel_rfl)) rfl rfl
    (fun vs x h => by unfold ld3_2 px3_2 at h; dsimp only at h; split at h <;> first | (cases h; rfl) | cases h)
    (fun e vs y h => by unfold ld3_2 py3_2 at h; dsimp only at h; split at h <;> first | (cases h; exact ⟨rfl, rfl⟩) | cases h)
    (by kernel_rfl) (fun _ => rfl) (fun _ _ h => h) (fun x => by kernel_rfl) (fun x h => Eq.mpr (show Vm.Tr.vc (Vm.ev c14 Tryd.f3.ntmps loop3 2 lb3_2 (ld3_2.vars x) []) = S.law21_ValueLattice_L2_vcs x by kernel_rfl) h)
theorem lok3_0 : ∀ w0 S0, LoopOk c14 Tryd.f3.ntmps w0 S0 loop3 0 lb3_0 :=
  loop_ok (c := c14) (n := Tryd.f3.ntmps) c14_ok mixed ld3_0 (body := lb3_0) (key := 0) (loop := loop3) (F := S.law21_ValueLattice_L0_run) (out := lo3_0) (step := S.law21_ValueLattice_L0_step) (vcs := S.law21_ValueLattice_L0_vcs)
    (fun _ => by kernel_rfl) (no_loops (by kernel_rfl)) rfl rfl
    (fun vs x h => by unfold ld3_0 px3_0 at h; dsimp only at h; split at h <;> first | (cases h; rfl) | cases h)
    (fun e vs y h => by unfold ld3_0 py3_0 at h; dsimp only at h; split at h <;> first | (cases h; exact ⟨rfl, rfl⟩) | cases h)
    (by kernel_rfl) (fun | (true, _) => rfl | (false, _) => rfl) (fun | (true, _), _, h => h.1 rfl | (false, _), _, h => h.2 rfl) (fun x => by kernel_rfl) (fun x h => Eq.mpr (show Vm.Tr.vc (Vm.ev c14 Tryd.f3.ntmps loop3 0 lb3_0 (ld3_0.vars x) []) = S.law21_ValueLattice_L0_vcs x by kernel_rfl) h)
theorem fn3 (a : S.Value) (b : S.Value) (n : Int) (l : (List S.Value)) (hp : S.law21_ValueLattice_pre a b n l) : CallOk c14 3 [.agg [.int .i64 a.I.Lo, .int .i64 a.I.Hi, .int .u64 a.C.M, .int .u64 a.C.R], .agg [.int .i64 b.I.Lo, .int .i64 b.I.Hi, .int .u64 b.C.M, .int .u64 b.C.R], .int .i64 n, .list 28 false l] (wr_b (S.law21_ValueLattice a b n l)) (wo_b (S.law21_ValueLattice a b n l)) :=
  (call_ok (c := c14) (f := 3) (fn := Tryd.f3) (code := body3) (args := ([.agg [.int .i64 a.I.Lo, .int .i64 a.I.Hi, .int .u64 a.C.M, .int .u64 a.C.R], .agg [.int .i64 b.I.Lo, .int .i64 b.I.Hi, .int .u64 b.C.M, .int .u64 b.C.R], .int .i64 n, .list 28 false l])) (loop := loop3) (md := ⟨false, false⟩) (rd := rd_b) (wr := wr_b) (wo := wo_b) (r := (S.law21_ValueLattice a b n l)) c14_ok (by kernel_rfl) (by kernel_rfl) (by kernel_rfl) (loops_all (l := [(0, lb3_0), (2, lb3_2), (4, lb3_4)]) (by kernel_rfl) ⟨lok3_0, ⟨lok3_2, ⟨lok3_4, trivial⟩⟩⟩) (by kernel_rfl) (by kernel_rfl) (by kernel_rfl)
    rw_b np_b no_b (by kernel_rfl) (Eq.mpr (show Vm.Tr.vc (Vm.Fn c14 Tryd.f3 body3 loop3 ([.agg [.int .i64 a.I.Lo, .int .i64 a.I.Hi, .int .u64 a.C.M, .int .u64 a.C.R], .agg [.int .i64 b.I.Lo, .int .i64 b.I.Hi, .int .u64 b.C.M, .int .u64 b.C.R], .int .i64 n, .list 28 false l])) = S.law21_ValueLattice_pre a b n l by kernel_rfl) hp))
end
theorem read2 : Vm.Read base 2 Int (fun n => [.int .i64 n]) (inr .i64) := read_int (c := base) (t := 2) Tryd.underlying2
theorem read23 : Vm.Read base 23 S.Inter (fun a => [.int .i64 a.Lo, .int .i64 a.Hi]) S.Inter.ok := Vm.Read.map (read_struct (c := base) (t := 23) (n := 2) (l := [(0, 2), (1, 2)]) Tryd.underlying23 rfl (by kernel_rfl) (ReadFs.cons (c := base) (o := 0) (s := 1) (n := 1) (by kernel_rfl) read2 (ReadFs.cons (c := base) (o := 1) (s := 1) (n := 0) (by kernel_rfl) read2 ReadFs.nil))) (fun p => ⟨p.1, p.2.1⟩) (fun _ => rfl) (fun _ h => h)
theorem read24 : Vm.Read base 24 Int (fun n => [.int .u64 n]) (inr .u64) := read_int (c := base) (t := 24) Tryd.underlying24
theorem read26 : Vm.Read base 26 S.Cong (fun a => [.int .u64 a.M, .int .u64 a.R]) S.Cong.ok := Vm.Read.map (read_struct (c := base) (t := 26) (n := 2) (l := [(0, 24), (1, 24)]) Tryd.underlying26 rfl (by kernel_rfl) (ReadFs.cons (c := base) (o := 0) (s := 1) (n := 1) (by kernel_rfl) read24 (ReadFs.cons (c := base) (o := 1) (s := 1) (n := 0) (by kernel_rfl) read24 ReadFs.nil))) (fun p => ⟨p.1, p.2.1⟩) (fun _ => rfl) (fun _ h => h)
theorem read28 : Vm.Read base 28 S.Value (fun a => [.int .i64 a.I.Lo, .int .i64 a.I.Hi, .int .u64 a.C.M, .int .u64 a.C.R]) S.Value.ok := Vm.Read.map (read_struct (c := base) (t := 28) (n := 4) (l := [(0, 23), (2, 26)]) Tryd.underlying28 rfl (by kernel_rfl) (ReadFs.cons (c := base) (o := 0) (s := 2) (n := 2) (by kernel_rfl) read23 (ReadFs.cons (c := base) (o := 2) (s := 2) (n := 0) (by kernel_rfl) read26 ReadFs.nil))) (fun p => ⟨p.1, p.2.1⟩) (fun _ => rfl) (fun _ h => h)
theorem read29 : Vm.Read base 29 (List S.Value) (fun l => [.list 28 false l]) (fun l => (∀ a1 ∈ l, S.Value.ok a1) ∧ l.length ≤ maxLen) := read_slice (c := base) (t := 29) (e := 28) (good := fun (a : S.Value) => S.Value.ok a) Tryd.underlying29 (by kernel_rfl) (fun h => absurd (show 4 = 0 from h) (by decide)) read28
theorem own : ownKnob Tryd.prog.godebug = none := by kernel_rfl
theorem laidOut : laidOutB Tryd.prog = true := by kernel_rfl
theorem door_met (os : Os) (args : Array Value) : laidMetH Tryd.prog Rows.valueLatticeRow.laid ((World.doorLaid Tryd.prog 24 os).forCall (fun _ _ => 0) ⟨#[], args, []⟩).memory :=
  laidMetH_of_parts3 (fuel := 8) (laidMet_of_run' 8 (by kernel_rfl) (by kernel_rfl)) (by kernel_rfl) (by kernel_rfl)
theorem tab_of {w : World} (h0 : laidMetH Tryd.prog Rows.valueLatticeRow.laid w) : base.inv (fun b => b < w.heap.size) w := by
  have h := h0
  rw [MakeChecks.laidMetH_plain _ _ _ (by kernel_rfl)] at h
  have ht : Lib.TabIs Tryd.prog w "internal/strconv.uint64pow10" .u64 Lib.pow10Tab := Lib.tabIs_of_head (g := 0) (by kernel_rfl) (by kernel_rfl) Tryd.underlying105 Tryd.underlying24 (by kernel_rfl) (by kernel_rfl) (laidMet.tail (laidMet.tail h))
  exact ⟨ht, tab_lt (g := 0) (by kernel_rfl) ht⟩
set_option maxRecDepth 100000 in
theorem lifted (os : Os) (started : os.Started) (H : Type) (enc : TypeId × Value → H) :
    ReturnsInHanded {} Tryd.checked os 3 .any (fun w args => (Rows.valueLatticeSpec.pre enc Tryd.prog Tryd.f3 [] false w args ∧ laidMetH Tryd.prog Rows.valueLatticeRow.laid w) ∧ sizedMet enc Tryd.prog Tryd.f3 (OpenSpec.ofChange Rows.valueLatticeSpec) false w args) (Rows.valueLatticeSpec.post enc Tryd.prog Tryd.f3 false true false false) := by
  refine returnsInHanded_of_change_and (C := Tryd.checked) (X := fun w _ => laidMetH Tryd.prog Rows.valueLatticeRow.laid w) (fun _ _ _ hh h => h.of_heap hh) own started (by kernel_rfl) Tryd.func3
    (ChangeSpec.witness_shaped (enc := enc) (C := Tryd.checked) (os := os) (X := fun w _ => laidMetH Tryd.prog Rows.valueLatticeRow.laid w) false (World.doorLaid Tryd.prog 24 os) #[.agg #[.int .i64 0, .int .i64 0, .int .u64 0, .int .u64 0], .agg #[.int .i64 0, .int .i64 0, .int .u64 0, .int .u64 0], .int .i64 0, .slice none 0 0] 8 rfl (World.shaped_of_RefB (by kernel_rfl) (by kernel_rfl)) (by kernel_rfl) (by kernel_rfl) (by kernel_rfl) (door_met os _)) ?_
  intro w base0 args ds gs before hval0 hW _ _ hL _
  have hval : ∀ (j : Nat) t v, Tryd.f3.params[j]? = some t → args[j]? = some v → Value.okWide Tryd.prog w .any base0 t v := hval0
  have hW' := hW
  obtain ⟨p, q, hA0, hV, rfl, hfz, hnd⟩ := hW
  have hA : DataW.TrodAll enc Tryd.prog w 0 (fun _ => true) true Tryd.f3.params.toList args.toList ds p := hA0
  rw [Tryd.params3] at hA hval
  obtain ⟨v0, vs0, d0, ds0, p0, q0, hargs, rfl, rfl, h0, r0⟩ := trodAll_cons hA
  obtain ⟨v1, vs1, d1, ds1, p1, q1, rfl, rfl, rfl, h1, r1⟩ := trodAll_cons r0
  obtain ⟨v2, vs2, d2, ds2, p2, q2, rfl, rfl, rfl, h2, r2⟩ := trodAll_cons r1
  obtain ⟨v3, vs3, d3, ds3, p3, q3, rfl, rfl, rfl, h3, r3⟩ := trodAll_cons r2
  obtain ⟨rfl, rfl, rfl⟩ := trodAll_nil r3
  obtain rfl : args = #[v0, v1, v2, v3] := by cases args; simp_all
  obtain ⟨rfl, rfl⟩ := trodVars_none hV
  have k0 := h0
  have lt0 : ∀ x ∈ p0, x.block < w.heap.size := by obtain ⟨m, hm⟩ := k0; exact DataW.trod_lt m _ _ _ hm
  obtain ⟨cs0, rfl, _⟩ := okWide_struct Tryd.underlying28 (hval 0 28 v0 rfl rfl)
  obtain ⟨a0, g0, D0⟩ := arg_agg (Vm.Read.same (c := base) (c' := c14) rfl rfl rfl read28) rfl h0
  have k1 := h1
  have lt1 : ∀ x ∈ p1, x.block < w.heap.size := by obtain ⟨m, hm⟩ := k1; exact DataW.trod_lt m _ _ _ hm
  obtain ⟨cs1, rfl, _⟩ := okWide_struct Tryd.underlying28 (hval 1 28 v1 rfl rfl)
  obtain ⟨a1, g1, D1⟩ := arg_agg (Vm.Read.same (c := base) (c' := c14) rfl rfl rfl read28) rfl h1
  have k2 := h2
  have lt2 : ∀ x ∈ p2, x.block < w.heap.size := by obtain ⟨m, hm⟩ := k2; exact DataW.trod_lt m _ _ _ hm
  obtain ⟨n2, rfl⟩ := okWide_int Tryd.underlying2 (hval 2 2 v2 rfl rfl)
  obtain ⟨a2, g2, D2⟩ := arg_one (Vm.Read.same (c := base) (c' := c14) rfl rfl rfl read2) rfl h2 rfl
  have k3 := h3
  have lt3 : ∀ x ∈ p3, x.block < w.heap.size := by obtain ⟨m, hm⟩ := k3; exact DataW.trod_lt m _ _ _ hm
  obtain ⟨pp3, ln3, cp3, rfl⟩ := okWide_slice Tryd.underlying29 (hval 3 29 v3 rfl rfl)
  obtain ⟨a3, g3, D3⟩ := arg_one (Vm.Read.same (c := base) (c' := c14) rfl rfl rfl read29) rfl h3 rfl
  have hp := SV.ValueLattice_law a0 a1 a2 a3 g0 g1 g2 g3
  have hc := fn3 a0 a1 a2 a3 hp.1
  rw [hp.2] at hc
  refine (law_calls hc (P := Tryd.prog) rfl (tab_of hL) (.cons (D0 _) (.cons (D1 _) (.cons (D2 _) (.cons (D3 _) .nil))))).mono fun e w' ⟨he, bel⟩ => ?_
  subst he
  exact ⟨_, rfl, _, _, _, [], _, [], hW', trodAll_mk1 (shut_bool Tryd.underlying4 _), (trodAll_cons_mk (Below.trod laidOut (by kernel_rfl) (of_decide_eq_true (by kernel_rfl)) k0 bel lt0) (trodAll_cons_mk (Below.trod laidOut (by kernel_rfl) (of_decide_eq_true (by kernel_rfl)) k1 bel lt1) (trodAll_cons_mk (Below.trod laidOut (by kernel_rfl) (of_decide_eq_true (by kernel_rfl)) k2 bel lt2) (trodAll_cons_mk (Below.trod laidOut (by kernel_rfl) (of_decide_eq_true (by kernel_rfl)) k3 bel lt3) trodAll_mk0)))), rfl, bel.frame _, fun h => by cases h⟩

theorem over : Rows.ValueLatticeSaid :=
  OpenClaim.holds_of_wide 3 Tryd.f3 rfl rfl rfl rfl rfl rfl rfl ⟨rfl, rfl, rfl, rfl, rfl⟩ rfl rfl rfl rfl rfl (by kernel_rfl) Tryd.func3 (by kernel_rfl)
    (of_decide_eq_true (by kernel_rfl)) (by unfold Func.isWrapper; first | (rw [if_pos (by decide +kernel)]; kernel_rfl) | (rw [if_neg (by decide +kernel)]; exact ⟨rfl, rfl⟩))
    (fun os started H enc _ => lifted os started H enc)

theorem proved : Rows.ValueLatticeCardSaid :=
  Claim7.holds_tied_plain_at .later [] [.data, .data, .data] true (true, "87017a0814b09d99e80dda41f30ba7bf61f2a532a02efbe8a95c70ccf20b6dd4") false
    over (fun _ h => by cases h) (by kernel_rfl) (fun _ h => by cases h) valueLattice_row_tie rfl ⟨rfl, rfl⟩ (by kernel_rfl) rfl
    (fun f fn hf hfn => by
      obtain rfl : f = 3 := Option.some.inj ((show Tryd.prog.funcNamed "sieveholes/sieveholeslaw21.ValueLattice" = some 3 by kernel_rfl).symm.trans hf) |>.symm
      obtain rfl : fn = Tryd.f3 := (Option.some.inj (Tryd.func3.symm.trans hfn)).symm
      exact ⟨by kernel_rfl, fun j t ht => by
        rw [Tryd.params3] at ht
        have hm : t ∈ [28, 28, 2, 29] := by simpa using Array.mem_of_getElem? ht
        have hall : ([28, 28, 2, 29].all fun u => !Tryd.prog.wantsStandIn u) = true := by kernel_rfl
        exact (show Tryd.prog.wantsStandIn t = false by simpa using List.all_eq_true.1 hall t hm)⟩)
    (by kernel_rfl)
#print axioms proved
end Go.Proofs.YthplfkeecpkmhaaDoor.valueLattice
