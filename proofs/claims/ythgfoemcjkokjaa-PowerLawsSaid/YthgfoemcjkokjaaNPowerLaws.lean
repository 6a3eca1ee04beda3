/-
  The statement PowerLaws: whatever the input, the function answers true, and the input reads as it did. Conditions: none beside the statement's own.
-/
import Derived.Test.YthgfoemcjkokjaaNSem
import Derived.Test.YthgfoemcjkokjaaPowPlain6
import Derived.Test.YthgfoemcjkokjaaRows
import Derived.WalkKit
import Derived.ProofKit
import Derived.OpenShut
import Derived.ShutString
import Derived.ChangeOld
import Derived.Below
namespace Go.Proofs.Ythgfoemcjkokjaa.powerLaws
open Go Go.Proofs Go.Proofs.Ythgfoemcjkokjaa Go.ChangeShapes Go.WideShapes Go.ChangeAt Go.RowKit Vm
open Go.ChangeMaps (open_string shut_string)
set_option linter.all false

section
attribute [local irreducible] Vm.Tr.vc Vm.Tr.out Vm.Fn Vm.Fn.out Vm.ev Vm.loopsOf Vm.Tr.noReq
noncomputable def body9 : Code := (Try.f9.body).getD .skip
theorem fn9 (a : (List Int)) (m : Int) (n : Int) (hp : S.law03_PowerLaws_pre a m n) : CallOk c54 9 [.list 33 false a, .int .u8 m, .int .u8 n] (wr_b (S.law03_PowerLaws a m n)) (wo_b (S.law03_PowerLaws a m n)) :=
  (call_ok (c := c54) (f := 9) (fn := Try.f9) (code := body9) (args := ([.list 33 false a, .int .u8 m, .int .u8 n])) (loop := noLoop) (md := ⟨false, false⟩) (rd := rd_b) (wr := wr_b) (wo := wo_b) (r := (S.law03_PowerLaws a m n)) c54_ok (by kernel_rfl) (by kernel_rfl) (by kernel_rfl) (no_loops (by kernel_rfl)) (by kernel_rfl) (by kernel_rfl) (by kernel_rfl)
    rw_b np_b no_b (by kernel_rfl) (Eq.mpr (show Vm.Tr.vc (Vm.Fn c54 Try.f9 body9 noLoop ([.list 33 false a, .int .u8 m, .int .u8 n])) = S.law03_PowerLaws_pre a m n by kernel_rfl) hp))
end
theorem read33 : Vm.Read base 33 Int (fun n => [.int .u64 n]) (inr .u64) := read_int (c := base) (t := 33) Try.underlying33
theorem read22 : Vm.Read base 22 (List Int) (fun l => [.list 33 false l]) (fun l => (∀ a1 ∈ l, inr .u64 a1) ∧ l.length ≤ maxLen) := read_slice (c := base) (t := 22) (e := 33) (good := fun (a : Int) => inr .u64 a) Try.underlying22 (by kernel_rfl) (fun h => absurd (show 1 = 0 from h) (by decide)) read33
theorem read5 : Vm.Read base 5 Int (fun n => [.int .u8 n]) (inr .u8) := read_int (c := base) (t := 5) Try.underlying5
theorem own : ownKnob Try.prog.godebug = none := by kernel_rfl
theorem laidOut : laidOutB Try.prog = true := by kernel_rfl
set_option maxRecDepth 100000 in
theorem lifted (os : Os) (started : os.Started) (H : Type) (enc : TypeId × Value → H) :
    ReturnsInHanded {} Try.checked os 9 .any (Rows.powerLawsSpec.pre6 enc Try.prog Try.f9 Rows.powerLawsRow.domain false) (Rows.powerLawsSpec.post enc Try.prog Try.f9 false true false false) := by
  refine returnsInHanded_of_change (C := Try.checked) own started (by kernel_rfl) Try.func9
    (ChangeSpec.witness6 (enc := enc) (C := Try.checked) false ⟨#[], #[.slice none 0 0, .int .u8 0, .int .u8 0], []⟩ 8 (by kernel_rfl) (by kernel_rfl) (by kernel_rfl) (by kernel_rfl)) ?_
  intro w base0 args ds gs before hval0 hW hcnd _
  have hval : ∀ (j : Nat) t v, Try.f9.params[j]? = some t → args[j]? = some v → Value.okWide Try.prog w .any base0 t v := hval0
  have hW' := hW
  obtain ⟨p, q, hA0, hV, rfl, hfz, hnd⟩ := hW
  have hA : DataW.TrodAll enc Try.prog w 0 (fun _ => true) true Try.f9.params.toList args.toList ds p := hA0
  rw [Try.params9] at hA hval
  obtain ⟨v0, vs0, d0, ds0, p0, q0, hargs, rfl, rfl, h0, r0⟩ := trodAll_cons hA
  obtain ⟨v1, vs1, d1, ds1, p1, q1, rfl, rfl, rfl, h1, r1⟩ := trodAll_cons r0
  obtain ⟨v2, vs2, d2, ds2, p2, q2, rfl, rfl, rfl, h2, r2⟩ := trodAll_cons r1
  obtain ⟨rfl, rfl, rfl⟩ := trodAll_nil r2
  obtain rfl : args = #[v0, v1, v2] := by cases args; simp_all
  obtain ⟨rfl, rfl⟩ := trodVars_none hV
  have k0 := h0
  have lt0 : ∀ x ∈ p0, x.block < w.heap.size := by obtain ⟨m, hm⟩ := k0; exact DataW.trod_lt m _ _ _ hm
  obtain ⟨pp0, ln0, cp0, rfl⟩ := okWide_slice Try.underlying22 (hval 0 22 v0 rfl rfl)
  obtain ⟨a0, g0, D0⟩ := arg_one (Vm.Read.same (c := base) (c' := c54) rfl rfl rfl read22) rfl h0 rfl
  have k1 := h1
  have lt1 : ∀ x ∈ p1, x.block < w.heap.size := by obtain ⟨m, hm⟩ := k1; exact DataW.trod_lt m _ _ _ hm
  obtain ⟨n1, rfl⟩ := okWide_int Try.underlying5 (hval 1 5 v1 rfl rfl)
  obtain ⟨a1, g1, D1⟩ := arg_one (Vm.Read.same (c := base) (c' := c54) rfl rfl rfl read5) rfl h1 rfl
  have k2 := h2
  have lt2 : ∀ x ∈ p2, x.block < w.heap.size := by obtain ⟨m, hm⟩ := k2; exact DataW.trod_lt m _ _ _ hm
  obtain ⟨n2, rfl⟩ := okWide_int Try.underlying5 (hval 2 5 v2 rfl rfl)
  obtain ⟨a2, g2, D2⟩ := arg_one (Vm.Read.same (c := base) (c' := c54) rfl rfl rfl read5) rfl h2 rfl
  have hp := S.PowerLaws_law a0 a1 a2 g0 g1 g2
  have hc := fn9 a0 a1 a2 hp.1
  rw [hp.2] at hc
  refine (law_calls hc (P := Try.prog) rfl trivial (.cons (D0 _) (.cons (D1 _) (.cons (D2 _) .nil)))).mono fun e w' ⟨he, bel⟩ => ?_
  subst he
  exact ⟨_, rfl, _, _, _, [], _, [], hW', trodAll_mk1 (shut_bool Try.underlying4 _), (trodAll_cons_mk (Below.trod laidOut (by kernel_rfl) (of_decide_eq_true (by kernel_rfl)) k0 bel lt0) (trodAll_cons_mk (Below.trod laidOut (by kernel_rfl) (of_decide_eq_true (by kernel_rfl)) k1 bel lt1) (trodAll_cons_mk (Below.trod laidOut (by kernel_rfl) (of_decide_eq_true (by kernel_rfl)) k2 bel lt2) trodAll_mk0))), rfl, bel.frame _, fun h => by cases h⟩

theorem over : Rows.powerLawsRow.holds Try.pinned (OpenSpec.ofChange Rows.powerLawsSpec) :=
  OpenClaim.holds_of_wide 9 Try.f9 rfl rfl rfl rfl rfl rfl rfl ⟨rfl, rfl, rfl, rfl, rfl⟩ rfl rfl rfl rfl rfl (by kernel_rfl) Try.func9 (by kernel_rfl)
    (of_decide_eq_true (by kernel_rfl)) (by unfold Func.isWrapper; first | (rw [if_pos (by decide +kernel)]; kernel_rfl) | (rw [if_neg (by decide +kernel)]; exact ⟨rfl, rfl⟩))
    (fun os started H enc _ => lifted os started H enc)

theorem proved : Rows.PowerLawsSaid := over
#print axioms proved
end Go.Proofs.Ythgfoemcjkokjaa.powerLaws
