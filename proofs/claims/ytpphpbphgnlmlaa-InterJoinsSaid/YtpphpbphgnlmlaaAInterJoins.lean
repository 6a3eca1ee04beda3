/-
  The statement InterJoins: whatever the input, the function answers true, and the input reads as it did. Conditions: none beside the statement's own.
-/
import Derived.Test.YtpphpbphgnlmlaaASem
import Derived.Test.YtpphpbphgnlmlaaInterPlain
import Derived.Test.YtpphpbphgnlmlaaRows
import Derived.WalkKit
import Derived.ProofKit
import Derived.OpenShut
import Derived.ShutString
import Derived.ChangeOld
import Derived.Below
namespace Go.Proofs.Ytpphpbphgnlmlaa.interJoins
open Go Go.Proofs Go.Proofs.Ytpphpbphgnlmlaa Go.ChangeShapes Go.WideShapes Go.ChangeAt Go.RowKit Vm
open Go.ChangeMaps (open_string shut_string)
set_option linter.all false

section
attribute [local irreducible] Vm.Tr.vc Vm.Tr.out Vm.Fn Vm.Fn.out Vm.ev Vm.loopsOf Vm.Tr.noReq
noncomputable def body3 : Code := (Try.f3.body).getD .skip
noncomputable def lb3_0 : Code := ((nth (loopsOf 0 body3) 0).getD (0, .skip)).2
noncomputable def px3_0 : List W → Option S.law19_InterJoins_L0
  | [.list 24 false y1, .ptr 7 0, .ptr 8 0, .int .i64 y2, .int .i64 y3, .int .i64 y4, .int .i64 y5, .int .i64 y6] => some ⟨y1, y2, ⟨y3, y4⟩, ⟨y5, y6⟩⟩
  | _ => none
noncomputable def tx3_0 (x : S.law19_InterJoins_L0) : List W := [.list 24 false x.l, .ptr 7 0, .ptr 8 0, .int .i64 x.i, .int .i64 x.join.Lo, .int .i64 x.join.Hi, .int .i64 x.meet.Lo, .int .i64 x.meet.Hi]
noncomputable def py3_0 : Ex → List W → Option (S.law19_InterJoins_L0)
  | .exit 0, [.list 24 false y1, .ptr 7 0, .ptr 8 0, .int .i64 y2, .int .i64 y3, .int .i64 y4, .int .i64 y5, .int .i64 y6] => some ⟨y1, y2, ⟨y3, y4⟩, ⟨y5, y6⟩⟩
  | _, _ => none
noncomputable def ld3_0 : LD El where
  X := S.law19_InterJoins_L0
  Y := S.law19_InterJoins_L0
  keys := [.slot 0, .slot 7, .slot 8, .slot 9, .cell 7 0, .cell 7 1, .cell 8 0, .cell 8 1]
  px := px3_0
  tx := tx3_0
  okeys := [.slot 0, .slot 7, .slot 8, .slot 9, .cell 7 0, .cell 7 1, .cell 8 0, .cell 8 1]
  py := py3_0
  ty := fun y => tx3_0 y
  oex := fun _ => .exit 0
  junk := [.slot 18, .slot 19, .slot 20, .slot 21, .slot 22, .slot 23, .slot 24, .slot 25, .slot 26, .slot 27, .slot 28, .slot 29, .slot 30, .slot 31, .slot 32, .slot 33, .slot 34, .slot 35, .slot 36, .slot 37]
noncomputable def lo3_0 : S.law19_InterJoins_L0 → Tr El := fun y => .leaf (.exit 0) (zipK ld3_0.okeys (tx3_0 y) ++ junkK ld3_0.junk)
noncomputable def loop3 : Nat → Env El → Tr El
  | 0 => ld3_0.tree lb3_0 S.law19_InterJoins_L0_run lo3_0 S.law19_InterJoins_L0_step S.law19_InterJoins_L0_vcs
  | _ => fun _ => .fail
theorem lok3_0 : ∀ w0 S0, LoopOk c23 Try.f3.ntmps w0 S0 loop3 0 lb3_0 :=
  loop_ok (c := c23) (n := Try.f3.ntmps) c23_ok mixed ld3_0 (body := lb3_0) (key := 0) (loop := loop3) (F := S.law19_InterJoins_L0_run) (out := lo3_0) (step := S.law19_InterJoins_L0_step) (vcs := S.law19_InterJoins_L0_vcs)
    (fun _ => by kernel_rfl) (no_loops (by kernel_rfl))
    (fun vs x h => by unfold ld3_0 px3_0 at h; dsimp only at h; split at h <;> first | (cases h; rfl) | cases h)
    (fun e vs y h => by unfold ld3_0 py3_0 at h; dsimp only at h; split at h <;> first | (cases h; exact ⟨rfl, rfl⟩) | cases h)
    (by kernel_rfl) (fun _ _ h => h) (fun x => by kernel_rfl) (fun x h => Eq.mpr (show Vm.Tr.vc (Vm.ev c23 Try.f3.ntmps loop3 0 lb3_0 (ld3_0.vars x) []) = S.law19_InterJoins_L0_vcs x by kernel_rfl) h)


theorem fn3 (l : (List S.Inter)) (a : S.Inter) (b : S.Inter) (hp : S.law19_InterJoins_pre l a b) : CallOk c23 3 [.list 24 false l, .agg [.int .i64 a.Lo, .int .i64 a.Hi], .agg [.int .i64 b.Lo, .int .i64 b.Hi]] (wr_b (S.law19_InterJoins l a b)) :=
  call_ok (c := c23) (f := 3) (fn := Try.f3) (code := body3) (args := ([.list 24 false l, .agg [.int .i64 a.Lo, .int .i64 a.Hi], .agg [.int .i64 b.Lo, .int .i64 b.Hi]])) (loop := loop3) (rd := rd_b) (wr := wr_b) (r := (S.law19_InterJoins l a b)) c23_ok (by kernel_rfl) (by kernel_rfl) (by kernel_rfl) (loops_all (l := [(0, lb3_0)]) (by kernel_rfl) ⟨lok3_0, trivial⟩) (Nat.le_of_ble_eq_true (by kernel_rfl))
    rw_b np_b (by kernel_rfl) (Eq.mpr (show Vm.Tr.vc (Vm.Fn c23 Try.f3 body3 loop3 ([.list 24 false l, .agg [.int .i64 a.Lo, .int .i64 a.Hi], .agg [.int .i64 b.Lo, .int .i64 b.Hi]])) = S.law19_InterJoins_pre l a b by kernel_rfl) hp)
end
theorem read2 : Vm.Read base 2 Int (fun n => [.int .i64 n]) (inr .i64) := read_int (c := base) (t := 2) Try.underlying2
theorem read24 : Vm.Read base 24 S.Inter (fun a => [.int .i64 a.Lo, .int .i64 a.Hi]) S.Inter.ok := Vm.Read.map (read_struct (c := base) (t := 24) (n := 2) (l := [(0, 2), (1, 2)]) Try.underlying24 rfl (by kernel_rfl) (ReadFs.cons (c := base) (o := 0) (s := 1) (n := 1) (by kernel_rfl) read2 (ReadFs.cons (c := base) (o := 1) (s := 1) (n := 0) (by kernel_rfl) read2 ReadFs.nil))) (fun p => ⟨p.1, p.2.1⟩) (fun _ => rfl) (fun _ h => h)
theorem read22 : Vm.Read base 22 (List S.Inter) (fun l => [.list 24 false l]) (fun l => (∀ a1 ∈ l, S.Inter.ok a1) ∧ l.length ≤ maxLen) := read_slice (c := base) (t := 22) (e := 24) (good := fun (a : S.Inter) => S.Inter.ok a) Try.underlying22 (by kernel_rfl) (fun h => absurd (show 2 = 0 from h) (by decide)) read24
theorem own : ownKnob Try.prog.godebug = none := by kernel_rfl
theorem laidOut : laidOutB Try.prog = true := by kernel_rfl
set_option maxRecDepth 100000 in
theorem lifted (os : Os) (started : os.Started) (H : Type) (enc : TypeId × Value → H) :
    ReturnsInHanded {} Try.checked os 3 .any (Rows.interJoinsSpec.pre6 enc Try.prog Try.f3 Rows.interJoinsRow.domain false) (Rows.interJoinsSpec.post enc Try.prog Try.f3 false true false false) := by
  refine returnsInHanded_of_change (C := Try.checked) own started (by kernel_rfl) Try.func3
    (ChangeSpec.witness6 (enc := enc) (C := Try.checked) false ⟨#[], #[.slice none 0 0, .agg #[.int .i64 0, .int .i64 0], .agg #[.int .i64 0, .int .i64 0]], []⟩ 8 (by kernel_rfl) (by kernel_rfl) (by kernel_rfl) (by kernel_rfl)) ?_
  intro w base0 args ds gs before hval0 hW hcnd _
  have hval : ∀ (j : Nat) t v, Try.f3.params[j]? = some t → args[j]? = some v → Value.okWide Try.prog w .any base0 t v := hval0
  have hW' := hW
  obtain ⟨p, q, hA0, hV, rfl, hfz, hnd⟩ := hW
  have hA : DataW.TrodAll enc Try.prog w 0 (fun _ => true) true Try.f3.params.toList args.toList ds p := hA0
  rw [Try.params3] at hA hval
  obtain ⟨v0, vs0, d0, ds0, p0, q0, hargs, rfl, rfl, h0, r0⟩ := trodAll_cons hA
  obtain ⟨v1, vs1, d1, ds1, p1, q1, rfl, rfl, rfl, h1, r1⟩ := trodAll_cons r0
  obtain ⟨v2, vs2, d2, ds2, p2, q2, rfl, rfl, rfl, h2, r2⟩ := trodAll_cons r1
  obtain ⟨rfl, rfl, rfl⟩ := trodAll_nil r2
  obtain rfl : args = #[v0, v1, v2] := by cases args; simp_all
  obtain ⟨rfl, rfl⟩ := trodVars_none hV
  have k0 := h0
  have lt0 : ∀ x ∈ p0, x.block < w.heap.size := by obtain ⟨m, hm⟩ := k0; exact DataW.trod_lt m _ _ _ hm
  obtain ⟨pp0, ln0, cp0, rfl⟩ := okWide_slice Try.underlying22 (hval 0 22 v0 rfl rfl)
  obtain ⟨a0, g0, D0⟩ := arg_one (Vm.Read.same (c := base) (c' := c23) rfl rfl rfl read22) rfl h0 rfl
  have k1 := h1
  have lt1 : ∀ x ∈ p1, x.block < w.heap.size := by obtain ⟨m, hm⟩ := k1; exact DataW.trod_lt m _ _ _ hm
  obtain ⟨cs1, rfl, _⟩ := okWide_struct Try.underlying24 (hval 1 24 v1 rfl rfl)
  obtain ⟨a1, g1, D1⟩ := arg_agg (Vm.Read.same (c := base) (c' := c23) rfl rfl rfl read24) rfl h1
  have k2 := h2
  have lt2 : ∀ x ∈ p2, x.block < w.heap.size := by obtain ⟨m, hm⟩ := k2; exact DataW.trod_lt m _ _ _ hm
  obtain ⟨cs2, rfl, _⟩ := okWide_struct Try.underlying24 (hval 2 24 v2 rfl rfl)
  obtain ⟨a2, g2, D2⟩ := arg_agg (Vm.Read.same (c := base) (c' := c23) rfl rfl rfl read24) rfl h2
  have hp := S.joins_law a0 a1 a2 g0 g1 g2
  have hc := fn3 a0 a1 a2 hp.1
  rw [hp.2] at hc
  refine (law_calls hc (P := Try.prog) rfl (.cons (D0 _) (.cons (D1 _) (.cons (D2 _) .nil)))).mono fun e w' ⟨he, bel⟩ => ?_
  subst he
  exact ⟨_, rfl, _, _, _, [], _, [], hW', trodAll_mk1 (shut_bool Try.underlying4 _), (trodAll_cons_mk (Below.trod laidOut (by kernel_rfl) (of_decide_eq_true (by kernel_rfl)) k0 bel lt0) (trodAll_cons_mk (Below.trod laidOut (by kernel_rfl) (of_decide_eq_true (by kernel_rfl)) k1 bel lt1) (trodAll_cons_mk (Below.trod laidOut (by kernel_rfl) (of_decide_eq_true (by kernel_rfl)) k2 bel lt2) trodAll_mk0))), rfl, bel.frame _, fun h => by cases h⟩

theorem over : Rows.interJoinsRow.holds Try.pinned (OpenSpec.ofChange Rows.interJoinsSpec) :=
  OpenClaim.holds_of_wide 3 Try.f3 rfl rfl rfl rfl rfl rfl rfl ⟨rfl, rfl, rfl, rfl, rfl⟩ rfl rfl rfl rfl rfl (by kernel_rfl) Try.func3 (by kernel_rfl)
    (of_decide_eq_true (by kernel_rfl)) (by unfold Func.isWrapper; first | (rw [if_pos (by decide +kernel)]; kernel_rfl) | (rw [if_neg (by decide +kernel)]; exact ⟨rfl, rfl⟩))
    (fun os started H enc _ => lifted os started H enc)

theorem proved : Rows.InterJoinsSaid := over
#print axioms proved
end Go.Proofs.Ytpphpbphgnlmlaa.interJoins
