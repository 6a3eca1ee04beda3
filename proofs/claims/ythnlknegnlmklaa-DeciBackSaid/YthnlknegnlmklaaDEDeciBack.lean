/-
  The statement DeciBack: whatever the input, the function answers true, and the input reads as it did. Conditions: none beside the statement's own.
-/
import Derived.Test.YthnlknegnlmklaaDESem
import Derived.Test.YthnlknegnlmklaaDeciPlain7
import Derived.Test.YthnlknegnlmklaaRows
import Derived.WalkKit
import Derived.ProofKit
import Derived.OpenShut
import Derived.ShutString
import Derived.ChangeOld
import Derived.Below
namespace Go.Proofs.Ythnlknegnlmklaa.deciBack
open Go Go.Proofs Go.Proofs.Ythnlknegnlmklaa Go.ChangeShapes Go.WideShapes Go.ChangeAt Go.RowKit Vm
open Go.ChangeMaps (open_string shut_string)
set_option linter.all false

section
attribute [local irreducible] Vm.Tr.vc Vm.Tr.out Vm.Fn Vm.Fn.out Vm.ev Vm.loopsOf Vm.Tr.noReq

end
theorem read39 : Vm.Read base 39 Int (fun n => [.int .u64 n]) (inr .u64) := read_int (c := base) (t := 39) Try.underlying39
theorem read38 : Vm.Read base 38 (List Int) (fun l => [.list 39 false l]) (fun l => (∀ a1 ∈ l, inr .u64 a1) ∧ l.length ≤ maxLen) := read_slice (c := base) (t := 38) (e := 39) (good := fun (a : Int) => inr .u64 a) Try.underlying38 (by kernel_rfl) (fun h => absurd (show 1 = 0 from h) (by decide)) read39
theorem read2 : Vm.Read base 2 Int (fun n => [.int .i64 n]) (inr .i64) := read_int (c := base) (t := 2) Try.underlying2
theorem read9 : Vm.Read base 9 ByteArray (fun s => [.str s]) (fun s => s.size ≤ maxLen) := read_str (c := base) (t := 9) Try.underlying9
theorem own : ownKnob Try.prog.godebug = none := by kernel_rfl
theorem laidOut : laidOutB Try.prog = true := by kernel_rfl
set_option maxRecDepth 100000 in
theorem lifted (os : Os) (started : os.Started) (H : Type) (enc : TypeId × Value → H) :
    ReturnsInHanded {} Try.checked os 7 .any (Rows.deciBackSpec.pre6 enc Try.prog Try.f7 Rows.deciBackRow.domain false) (Rows.deciBackSpec.post enc Try.prog Try.f7 false true false false) := by
  refine returnsInHanded_of_change (C := Try.checked) own started (by kernel_rfl) Try.func7
    (ChangeSpec.witness6 (enc := enc) (C := Try.checked) false ⟨#[], #[.slice none 0 0, .slice none 0 0, .int .u64 0, .int .i64 0, .string ⟨#[]⟩], []⟩ 8 (by kernel_rfl) (by kernel_rfl) (by kernel_rfl) (by kernel_rfl)) ?_
  intro w base0 args ds gs before hval0 hW hcnd _
  have hval : ∀ (j : Nat) t v, Try.f7.params[j]? = some t → args[j]? = some v → Value.okWide Try.prog w .any base0 t v := hval0
  have hW' := hW
  obtain ⟨p, q, hA0, hV, rfl, hfz, hnd⟩ := hW
  have hA : DataW.TrodAll enc Try.prog w 0 (fun _ => true) true Try.f7.params.toList args.toList ds p := hA0
  rw [Try.params7] at hA hval
  obtain ⟨v0, vs0, d0, ds0, p0, q0, hargs, rfl, rfl, h0, r0⟩ := trodAll_cons hA
  obtain ⟨v1, vs1, d1, ds1, p1, q1, rfl, rfl, rfl, h1, r1⟩ := trodAll_cons r0
  obtain ⟨v2, vs2, d2, ds2, p2, q2, rfl, rfl, rfl, h2, r2⟩ := trodAll_cons r1
  obtain ⟨v3, vs3, d3, ds3, p3, q3, rfl, rfl, rfl, h3, r3⟩ := trodAll_cons r2
  obtain ⟨v4, vs4, d4, ds4, p4, q4, rfl, rfl, rfl, h4, r4⟩ := trodAll_cons r3
  obtain ⟨rfl, rfl, rfl⟩ := trodAll_nil r4
  obtain rfl : args = #[v0, v1, v2, v3, v4] := by cases args; simp_all
  obtain ⟨rfl, rfl⟩ := trodVars_none hV
  have k0 := h0
  have lt0 : ∀ x ∈ p0, x.block < w.heap.size := by obtain ⟨m, hm⟩ := k0; exact DataW.trod_lt m _ _ _ hm
  obtain ⟨pp0, ln0, cp0, rfl⟩ := okWide_slice Try.underlying38 (hval 0 38 v0 rfl rfl)
  obtain ⟨a0, g0, D0⟩ := arg_one (Vm.Read.same (c := base) (c' := c35) rfl rfl rfl read38) rfl h0 rfl
  have k1 := h1
  have lt1 : ∀ x ∈ p1, x.block < w.heap.size := by obtain ⟨m, hm⟩ := k1; exact DataW.trod_lt m _ _ _ hm
  obtain ⟨pp1, ln1, cp1, rfl⟩ := okWide_slice Try.underlying38 (hval 1 38 v1 rfl rfl)
  obtain ⟨a1, g1, D1⟩ := arg_one (Vm.Read.same (c := base) (c' := c35) rfl rfl rfl read38) rfl h1 rfl
  have k2 := h2
  have lt2 : ∀ x ∈ p2, x.block < w.heap.size := by obtain ⟨m, hm⟩ := k2; exact DataW.trod_lt m _ _ _ hm
  obtain ⟨n2, rfl⟩ := okWide_int Try.underlying39 (hval 2 39 v2 rfl rfl)
  obtain ⟨a2, g2, D2⟩ := arg_one (Vm.Read.same (c := base) (c' := c35) rfl rfl rfl read39) rfl h2 rfl
  have k3 := h3
  have lt3 : ∀ x ∈ p3, x.block < w.heap.size := by obtain ⟨m, hm⟩ := k3; exact DataW.trod_lt m _ _ _ hm
  obtain ⟨n3, rfl⟩ := okWide_int Try.underlying2 (hval 3 2 v3 rfl rfl)
  obtain ⟨a3, g3, D3⟩ := arg_one (Vm.Read.same (c := base) (c' := c35) rfl rfl rfl read2) rfl h3 rfl
  have k4 := h4
  have lt4 : ∀ x ∈ p4, x.block < w.heap.size := by obtain ⟨m, hm⟩ := k4; exact DataW.trod_lt m _ _ _ hm
  obtain ⟨n4, rfl⟩ := okWide_string Try.underlying9 (hval 4 9 v4 rfl rfl)
  obtain ⟨a4, g4, D4⟩ := arg_one (Vm.Read.same (c := base) (c' := c35) rfl rfl rfl read9) rfl h4 rfl
  have hp := DP.DeciBack_law a0 a1 a2 a3 a4 g0 g1 g2 g3 g4
  have hc := fn7 a0 a1 a2 a3 a4 hp.1
  rw [hp.2] at hc
  refine (law_calls hc (P := Try.prog) rfl trivial (.cons (D0 _) (.cons (D1 _) (.cons (D2 _) (.cons (D3 _) (.cons (D4 _) .nil)))))).mono fun e w' ⟨he, bel⟩ => ?_
  subst he
  exact ⟨_, rfl, _, _, _, [], _, [], hW', trodAll_mk1 (shut_bool Try.underlying4 _), (trodAll_cons_mk (Below.trod laidOut (by kernel_rfl) (of_decide_eq_true (by kernel_rfl)) k0 bel lt0) (trodAll_cons_mk (Below.trod laidOut (by kernel_rfl) (of_decide_eq_true (by kernel_rfl)) k1 bel lt1) (trodAll_cons_mk (Below.trod laidOut (by kernel_rfl) (of_decide_eq_true (by kernel_rfl)) k2 bel lt2) (trodAll_cons_mk (Below.trod laidOut (by kernel_rfl) (of_decide_eq_true (by kernel_rfl)) k3 bel lt3) (trodAll_cons_mk (Below.trod laidOut (by kernel_rfl) (of_decide_eq_true (by kernel_rfl)) k4 bel lt4) trodAll_mk0))))), rfl, bel.frame _, fun h => by cases h⟩

theorem over : Rows.deciBackRow.holds Try.pinned (OpenSpec.ofChange Rows.deciBackSpec) :=
  OpenClaim.holds_of_wide 7 Try.f7 rfl rfl rfl rfl rfl rfl rfl ⟨rfl, rfl, rfl, rfl, rfl⟩ rfl rfl rfl rfl rfl (by kernel_rfl) Try.func7 (by kernel_rfl)
    (of_decide_eq_true (by kernel_rfl)) (by unfold Func.isWrapper; first | (rw [if_pos (by decide +kernel)]; kernel_rfl) | (rw [if_neg (by decide +kernel)]; exact ⟨rfl, rfl⟩))
    (fun os started H enc _ => lifted os started H enc)

theorem proved : Rows.DeciBackSaid := over
#print axioms proved
end Go.Proofs.Ythnlknegnlmklaa.deciBack
