/-
  The statement InterLattice: whatever the input, the function answers true, and the input reads as it did. Conditions: none beside the statement's own.
-/
import Derived.Test.YtpphpbphgnlmlaaASem
import Derived.Test.YtpphpbphgnlmlaaInterPlain
import Derived.Test.YtpphpbphgnlmlaaRows
import Derived.WalkKit
import Derived.ProofKit
import Derived.OpenShut
import Derived.ShutString
import Derived.ChangeOld
import Derived.Below
namespace Go.Proofs.Ytpphpbphgnlmlaa.interLattice
open Go Go.Proofs Go.Proofs.Ytpphpbphgnlmlaa Go.ChangeShapes Go.WideShapes Go.ChangeAt Go.RowKit Vm
open Go.ChangeMaps (open_string shut_string)
set_option linter.all false

section
attribute [local irreducible] Vm.Tr.vc Vm.Tr.out Vm.Fn Vm.Fn.out Vm.ev Vm.loopsOf Vm.Tr.noReq
noncomputable def body4 : Code := (Try.f4.body).getD .skip
noncomputable def lb4_0 : Code := ((nth (loopsOf 0 body4) 0).getD (0, .skip)).2
noncomputable def px4_0 : List W → Option S.law19_InterLattice_L0
  | [.list 24 false y1, .ptr 13 0, .int .i64 y2, .int .i64 y3, .int .i64 y4, .int .i64 y5] => some ⟨y1, y2, y3, ⟨y4, y5⟩⟩
  | _ => none
noncomputable def tx4_0 (x : S.law19_InterLattice_L0) : List W := [.list 24 false x.l, .ptr 13 0, .int .i64 x.turns, .int .i64 x.i, .int .i64 x.vx.Lo, .int .i64 x.vx.Hi]
noncomputable def py4_0 : Ex → List W → Option (S.law19_InterLattice_L0)
  | .exit 0, [.list 24 false y1, .ptr 13 0, .int .i64 y2, .int .i64 y3, .int .i64 y4, .int .i64 y5] => some ⟨y1, y2, y3, ⟨y4, y5⟩⟩
  | _, _ => none
noncomputable def ld4_0 : LD El where
  X := S.law19_InterLattice_L0
  Y := S.law19_InterLattice_L0
  keys := [.slot 4, .slot 13, .slot 14, .slot 15, .cell 13 0, .cell 13 1]
  px := px4_0
  tx := tx4_0
  okeys := [.slot 4, .slot 13, .slot 14, .slot 15, .cell 13 0, .cell 13 1]
  py := py4_0
  ty := fun y => tx4_0 y
  oex := fun _ => .exit 0
  junk := [.slot 16, .slot 164, .slot 165, .slot 166, .slot 167, .slot 168, .slot 169, .slot 170, .slot 171, .slot 172, .slot 173, .slot 174, .slot 175, .slot 176, .slot 177, .slot 178, .slot 179, .slot 180, .slot 181, .slot 182]
noncomputable def lo4_0 : S.law19_InterLattice_L0 → Tr El := fun y => .leaf (.exit 0) (zipK ld4_0.okeys (tx4_0 y) ++ junkK ld4_0.junk)
noncomputable def loop4 : Nat → Env El → Tr El
  | 0 => ld4_0.tree lb4_0 S.law19_InterLattice_L0_run lo4_0 S.law19_InterLattice_L0_step S.law19_InterLattice_L0_vcs
  | _ => fun _ => .fail
theorem lok4_0 : ∀ w0 S0, LoopOk c23 Try.f4.ntmps w0 S0 loop4 0 lb4_0 :=
  loop_ok (c := c23) (n := Try.f4.ntmps) c23_ok mixed ld4_0 (body := lb4_0) (key := 0) (loop := loop4) (F := S.law19_InterLattice_L0_run) (out := lo4_0) (step := S.law19_InterLattice_L0_step) (vcs := S.law19_InterLattice_L0_vcs)
    (fun _ => by kernel_rfl) (no_loops (by kernel_rfl))
    (fun vs x h => by unfold ld4_0 px4_0 at h; dsimp only at h; split at h <;> first | (cases h; rfl) | cases h)
    (fun e vs y h => by unfold ld4_0 py4_0 at h; dsimp only at h; split at h <;> first | (cases h; exact ⟨rfl, rfl⟩) | cases h)
    (by kernel_rfl) (fun _ _ h => h) (fun x => by kernel_rfl) (fun x h => Eq.mpr (show Vm.Tr.vc (Vm.ev c23 Try.f4.ntmps loop4 0 lb4_0 (ld4_0.vars x) []) = S.law19_InterLattice_L0_vcs x by kernel_rfl) h)


theorem fn4 (a : S.Inter) (b : S.Inter) (c : S.Inter) (n : Int) (l : (List S.Inter)) (hp : S.law19_InterLattice_pre a b c n l) : CallOk c23 4 [.agg [.int .i64 a.Lo, .int .i64 a.Hi], .agg [.int .i64 b.Lo, .int .i64 b.Hi], .agg [.int .i64 c.Lo, .int .i64 c.Hi], .int .i64 n, .list 24 false l] (wr_b (S.law19_InterLattice a b c n l)) :=
  call_ok (c := c23) (f := 4) (fn := Try.f4) (code := body4) (args := ([.agg [.int .i64 a.Lo, .int .i64 a.Hi], .agg [.int .i64 b.Lo, .int .i64 b.Hi], .agg [.int .i64 c.Lo, .int .i64 c.Hi], .int .i64 n, .list 24 false l])) (loop := loop4) (rd := rd_b) (wr := wr_b) (r := (S.law19_InterLattice a b c n l)) c23_ok (by kernel_rfl) (by kernel_rfl) (by kernel_rfl) (loops_all (l := [(0, lb4_0)]) (by kernel_rfl) ⟨lok4_0, trivial⟩) (Nat.le_of_ble_eq_true (by kernel_rfl))
    rw_b np_b (by kernel_rfl) (Eq.mpr (show Vm.Tr.vc (Vm.Fn c23 Try.f4 body4 loop4 ([.agg [.int .i64 a.Lo, .int .i64 a.Hi], .agg [.int .i64 b.Lo, .int .i64 b.Hi], .agg [.int .i64 c.Lo, .int .i64 c.Hi], .int .i64 n, .list 24 false l])) = S.law19_InterLattice_pre a b c n l by kernel_rfl) hp)
end
theorem read2 : Vm.Read base 2 Int (fun n => [.int .i64 n]) (inr .i64) := read_int (c := base) (t := 2) Try.underlying2
theorem read24 : Vm.Read base 24 S.Inter (fun a => [.int .i64 a.Lo, .int .i64 a.Hi]) S.Inter.ok := Vm.Read.map (read_struct (c := base) (t := 24) (n := 2) (l := [(0, 2), (1, 2)]) Try.underlying24 rfl (by kernel_rfl) (ReadFs.cons (c := base) (o := 0) (s := 1) (n := 1) (by kernel_rfl) read2 (ReadFs.cons (c := base) (o := 1) (s := 1) (n := 0) (by kernel_rfl) read2 ReadFs.nil))) (fun p => ⟨p.1, p.2.1⟩) (fun _ => rfl) (fun _ h => h)
theorem read22 : Vm.Read base 22 (List S.Inter) (fun l => [.list 24 false l]) (fun l => (∀ a1 ∈ l, S.Inter.ok a1) ∧ l.length ≤ maxLen) := read_slice (c := base) (t := 22) (e := 24) (good := fun (a : S.Inter) => S.Inter.ok a) Try.underlying22 (by kernel_rfl) (fun h => absurd (show 2 = 0 from h) (by decide)) read24
theorem own : ownKnob Try.prog.godebug = none := by kernel_rfl
theorem laidOut : laidOutB Try.prog = true := by kernel_rfl
set_option maxRecDepth 100000 in
theorem lifted (os : Os) (started : os.Started) (H : Type) (enc : TypeId × Value → H) :
    ReturnsInHanded {} Try.checked os 4 .any (Rows.interLatticeSpec.pre6 enc Try.prog Try.f4 Rows.interLatticeRow.domain false) (Rows.interLatticeSpec.post enc Try.prog Try.f4 false true false false) := by
  refine returnsInHanded_of_change (C := Try.checked) own started (by kernel_rfl) Try.func4
    (ChangeSpec.witness6 (enc := enc) (C := Try.checked) false ⟨#[], #[.agg #[.int .i64 0, .int .i64 0], .agg #[.int .i64 0, .int .i64 0], .agg #[.int .i64 0, .int .i64 0], .int .i64 0, .slice none 0 0], []⟩ 8 (by kernel_rfl) (by kernel_rfl) (by kernel_rfl) (by kernel_rfl)) ?_
  intro w base0 args ds gs before hval0 hW hcnd _
  have hval : ∀ (j : Nat) t v, Try.f4.params[j]? = some t → args[j]? = some v → Value.okWide Try.prog w .any base0 t v := hval0
  have hW' := hW
  obtain ⟨p, q, hA0, hV, rfl, hfz, hnd⟩ := hW
  have hA : DataW.TrodAll enc Try.prog w 0 (fun _ => true) true Try.f4.params.toList args.toList ds p := hA0
  rw [Try.params4] at hA hval
  obtain ⟨v0, vs0, d0, ds0, p0, q0, hargs, rfl, rfl, h0, r0⟩ := trodAll_cons hA
  obtain ⟨v1, vs1, d1, ds1, p1, q1, rfl, rfl, rfl, h1, r1⟩ := trodAll_cons r0
  obtain ⟨v2, vs2, d2, ds2, p2, q2, rfl, rfl, rfl, h2, r2⟩ := trodAll_cons r1
  obtain ⟨v3, vs3, d3, ds3, p3, q3, rfl, rfl, rfl, h3, r3⟩ := trodAll_cons r2
  obtain ⟨v4, vs4, d4, ds4, p4, q4, rfl, rfl, rfl, h4, r4⟩ := trodAll_cons r3
  obtain ⟨rfl, rfl, rfl⟩ := trodAll_nil r4
  obtain rfl : args = #[v0, v1, v2, v3, v4] := by cases args; simp_all
  obtain ⟨rfl, rfl⟩ := trodVars_none hV
  have k0 := h0
  have lt0 : ∀ x ∈ p0, x.block < w.heap.size := by obtain ⟨m, hm⟩ := k0; exact DataW.trod_lt m _ _ _ hm
  obtain ⟨cs0, rfl, _⟩ := okWide_struct Try.underlying24 (hval 0 24 v0 rfl rfl)
  obtain ⟨a0, g0, D0⟩ := arg_agg (Vm.Read.same (c := base) (c' := c23) rfl rfl rfl read24) rfl h0
  have k1 := h1
  have lt1 : ∀ x ∈ p1, x.block < w.heap.size := by obtain ⟨m, hm⟩ := k1; exact DataW.trod_lt m _ _ _ hm
  obtain ⟨cs1, rfl, _⟩ := okWide_struct Try.underlying24 (hval 1 24 v1 rfl rfl)
  obtain ⟨a1, g1, D1⟩ := arg_agg (Vm.Read.same (c := base) (c' := c23) rfl rfl rfl read24) rfl h1
  have k2 := h2
  have lt2 : ∀ x ∈ p2, x.block < w.heap.size := by obtain ⟨m, hm⟩ := k2; exact DataW.trod_lt m _ _ _ hm
  obtain ⟨cs2, rfl, _⟩ := okWide_struct Try.underlying24 (hval 2 24 v2 rfl rfl)
  obtain ⟨a2, g2, D2⟩ := arg_agg (Vm.Read.same (c := base) (c' := c23) rfl rfl rfl read24) rfl h2
  have k3 := h3
  have lt3 : ∀ x ∈ p3, x.block < w.heap.size := by obtain ⟨m, hm⟩ := k3; exact DataW.trod_lt m _ _ _ hm
  obtain ⟨n3, rfl⟩ := okWide_int Try.underlying2 (hval 3 2 v3 rfl rfl)
  obtain ⟨a3, g3, D3⟩ := arg_one (Vm.Read.same (c := base) (c' := c23) rfl rfl rfl read2) rfl h3 rfl
  have k4 := h4
  have lt4 : ∀ x ∈ p4, x.block < w.heap.size := by obtain ⟨m, hm⟩ := k4; exact DataW.trod_lt m _ _ _ hm
  obtain ⟨pp4, ln4, cp4, rfl⟩ := okWide_slice Try.underlying22 (hval 4 22 v4 rfl rfl)
  obtain ⟨a4, g4, D4⟩ := arg_one (Vm.Read.same (c := base) (c' := c23) rfl rfl rfl read22) rfl h4 rfl
  have hp := S.lattice_law a0 a1 a2 a3 a4 g0 g1 g2 g3 g4
  have hc := fn4 a0 a1 a2 a3 a4 hp.1
  rw [hp.2] at hc
  refine (law_calls hc (P := Try.prog) rfl (.cons (D0 _) (.cons (D1 _) (.cons (D2 _) (.cons (D3 _) (.cons (D4 _) .nil)))))).mono fun e w' ⟨he, bel⟩ => ?_
  subst he
  exact ⟨_, rfl, _, _, _, [], _, [], hW', trodAll_mk1 (shut_bool Try.underlying4 _), (trodAll_cons_mk (Below.trod laidOut (by kernel_rfl) (of_decide_eq_true (by kernel_rfl)) k0 bel lt0) (trodAll_cons_mk (Below.trod laidOut (by kernel_rfl) (of_decide_eq_true (by kernel_rfl)) k1 bel lt1) (trodAll_cons_mk (Below.trod laidOut (by kernel_rfl) (of_decide_eq_true (by kernel_rfl)) k2 bel lt2) (trodAll_cons_mk (Below.trod laidOut (by kernel_rfl) (of_decide_eq_true (by kernel_rfl)) k3 bel lt3) (trodAll_cons_mk (Below.trod laidOut (by kernel_rfl) (of_decide_eq_true (by kernel_rfl)) k4 bel lt4) trodAll_mk0))))), rfl, bel.frame _, fun h => by cases h⟩

theorem over : Rows.interLatticeRow.holds Try.pinned (OpenSpec.ofChange Rows.interLatticeSpec) :=
  OpenClaim.holds_of_wide 4 Try.f4 rfl rfl rfl rfl rfl rfl rfl ⟨rfl, rfl, rfl, rfl, rfl⟩ rfl rfl rfl rfl rfl (by kernel_rfl) Try.func4 (by kernel_rfl)
    (of_decide_eq_true (by kernel_rfl)) (by unfold Func.isWrapper; first | (rw [if_pos (by decide +kernel)]; kernel_rfl) | (rw [if_neg (by decide +kernel)]; exact ⟨rfl, rfl⟩))
    (fun os started H enc _ => lifted os started H enc)

theorem proved : Rows.InterLatticeSaid := over
#print axioms proved
end Go.Proofs.Ytpphpbphgnlmlaa.interLattice
