/-
  The statement CongCounts: whatever the input, the function answers true, and the input reads as it did. Conditions: none beside the statement's own.
-/
import Derived.Test.YtpphpbphgnlmlaaCSem
import Derived.Test.YtpphpbphgnlmlaaCongPlain
import Derived.Test.YtpphpbphgnlmlaaRows
import Derived.WalkKit
import Derived.ProofKit
import Derived.OpenShut
import Derived.ShutString
import Derived.ChangeOld
import Derived.Below
namespace Go.Proofs.Ytpphpbphgnlmlaa.congCounts
open Go Go.Proofs Go.Proofs.Ytpphpbphgnlmlaa Go.ChangeShapes Go.WideShapes Go.ChangeAt Go.RowKit Vm
open Go.ChangeMaps (open_string shut_string)
set_option linter.all false

section
attribute [local irreducible] Vm.Tr.vc Vm.Tr.out Vm.Fn Vm.Fn.out Vm.ev Vm.loopsOf Vm.Tr.noReq
noncomputable def body10 : Code := (Try.f10.body).getD .skip
theorem fn10 (c : S.Cong) (lo : Int) (hi : Int) (hp : S.law20_CongCounts_pre c lo hi) : CallOk c73 10 [.agg [.int .u64 c.M, .int .u64 c.R], .int .i64 lo, .int .i64 hi] (wr_b (S.law20_CongCounts c lo hi)) :=
  call_ok (c := c73) (f := 10) (fn := Try.f10) (code := body10) (args := ([.agg [.int .u64 c.M, .int .u64 c.R], .int .i64 lo, .int .i64 hi])) (loop := noLoop) (rd := rd_b) (wr := wr_b) (r := (S.law20_CongCounts c lo hi)) c73_ok (by kernel_rfl) (by kernel_rfl) (by kernel_rfl) (no_loops (by kernel_rfl)) (Nat.le_of_ble_eq_true (by kernel_rfl))
    rw_b np_b (by kernel_rfl) (Eq.mpr (show Vm.Tr.vc (Vm.Fn c73 Try.f10 body10 noLoop ([.agg [.int .u64 c.M, .int .u64 c.R], .int .i64 lo, .int .i64 hi])) = S.law20_CongCounts_pre c lo hi by kernel_rfl) hp)
end
theorem read36 : Vm.Read base 36 Int (fun n => [.int .u64 n]) (inr .u64) := read_int (c := base) (t := 36) Try.underlying36
theorem read54 : Vm.Read base 54 S.Cong (fun a => [.int .u64 a.M, .int .u64 a.R]) S.Cong.ok := Vm.Read.map (read_struct (c := base) (t := 54) (n := 2) (l := [(0, 36), (1, 36)]) Try.underlying54 rfl (by kernel_rfl) (ReadFs.cons (c := base) (o := 0) (s := 1) (n := 1) (by kernel_rfl) read36 (ReadFs.cons (c := base) (o := 1) (s := 1) (n := 0) (by kernel_rfl) read36 ReadFs.nil))) (fun p => ⟨p.1, p.2.1⟩) (fun _ => rfl) (fun _ h => h)
theorem read2 : Vm.Read base 2 Int (fun n => [.int .i64 n]) (inr .i64) := read_int (c := base) (t := 2) Try.underlying2
theorem own : ownKnob Try.prog.godebug = none := by kernel_rfl
theorem laidOut : laidOutB Try.prog = true := by kernel_rfl
set_option maxRecDepth 100000 in
theorem lifted (os : Os) (started : os.Started) (H : Type) (enc : TypeId × Value → H) :
    ReturnsInHanded {} Try.checked os 10 .any (Rows.congCountsSpec.pre6 enc Try.prog Try.f10 Rows.congCountsRow.domain false) (Rows.congCountsSpec.post enc Try.prog Try.f10 false true false false) := by
  refine returnsInHanded_of_change (C := Try.checked) own started (by kernel_rfl) Try.func10
    (ChangeSpec.witness6 (enc := enc) (C := Try.checked) false ⟨#[], #[.agg #[.int .u64 0, .int .u64 0], .int .i64 0, .int .i64 0], []⟩ 8 (by kernel_rfl) (by kernel_rfl) (by kernel_rfl) (by kernel_rfl)) ?_
  intro w base0 args ds gs before hval0 hW hcnd _
  have hval : ∀ (j : Nat) t v, Try.f10.params[j]? = some t → args[j]? = some v → Value.okWide Try.prog w .any base0 t v := hval0
  have hW' := hW
  obtain ⟨p, q, hA0, hV, rfl, hfz, hnd⟩ := hW
  have hA : DataW.TrodAll enc Try.prog w 0 (fun _ => true) true Try.f10.params.toList args.toList ds p := hA0
  rw [Try.params10] at hA hval
  obtain ⟨v0, vs0, d0, ds0, p0, q0, hargs, rfl, rfl, h0, r0⟩ := trodAll_cons hA
  obtain ⟨v1, vs1, d1, ds1, p1, q1, rfl, rfl, rfl, h1, r1⟩ := trodAll_cons r0
  obtain ⟨v2, vs2, d2, ds2, p2, q2, rfl, rfl, rfl, h2, r2⟩ := trodAll_cons r1
  obtain ⟨rfl, rfl, rfl⟩ := trodAll_nil r2
  obtain rfl : args = #[v0, v1, v2] := by cases args; simp_all
  obtain ⟨rfl, rfl⟩ := trodVars_none hV
  have k0 := h0
  have lt0 : ∀ x ∈ p0, x.block < w.heap.size := by obtain ⟨m, hm⟩ := k0; exact DataW.trod_lt m _ _ _ hm
  obtain ⟨cs0, rfl, _⟩ := okWide_struct Try.underlying54 (hval 0 54 v0 rfl rfl)
  obtain ⟨a0, g0, D0⟩ := arg_agg (Vm.Read.same (c := base) (c' := c73) rfl rfl rfl read54) rfl h0
  have k1 := h1
  have lt1 : ∀ x ∈ p1, x.block < w.heap.size := by obtain ⟨m, hm⟩ := k1; exact DataW.trod_lt m _ _ _ hm
  obtain ⟨n1, rfl⟩ := okWide_int Try.underlying2 (hval 1 2 v1 rfl rfl)
  obtain ⟨a1, g1, D1⟩ := arg_one (Vm.Read.same (c := base) (c' := c73) rfl rfl rfl read2) rfl h1 rfl
  have k2 := h2
  have lt2 : ∀ x ∈ p2, x.block < w.heap.size := by obtain ⟨m, hm⟩ := k2; exact DataW.trod_lt m _ _ _ hm
  obtain ⟨n2, rfl⟩ := okWide_int Try.underlying2 (hval 2 2 v2 rfl rfl)
  obtain ⟨a2, g2, D2⟩ := arg_one (Vm.Read.same (c := base) (c' := c73) rfl rfl rfl read2) rfl h2 rfl
  have hp := S.CongCounts_law a0 a1 a2 g0 g1 g2
  have hc := fn10 a0 a1 a2 hp.1
  rw [hp.2] at hc
  refine (law_calls hc (P := Try.prog) rfl (.cons (D0 _) (.cons (D1 _) (.cons (D2 _) .nil)))).mono fun e w' ⟨he, bel⟩ => ?_
  subst he
  exact ⟨_, rfl, _, _, _, [], _, [], hW', trodAll_mk1 (shut_bool Try.underlying4 _), (trodAll_cons_mk (Below.trod laidOut (by kernel_rfl) (of_decide_eq_true (by kernel_rfl)) k0 bel lt0) (trodAll_cons_mk (Below.trod laidOut (by kernel_rfl) (of_decide_eq_true (by kernel_rfl)) k1 bel lt1) (trodAll_cons_mk (Below.trod laidOut (by kernel_rfl) (of_decide_eq_true (by kernel_rfl)) k2 bel lt2) trodAll_mk0))), rfl, bel.frame _, fun h => by cases h⟩

theorem over : Rows.congCountsRow.holds Try.pinned (OpenSpec.ofChange Rows.congCountsSpec) :=
  OpenClaim.holds_of_wide 10 Try.f10 rfl rfl rfl rfl rfl rfl rfl ⟨rfl, rfl, rfl, rfl, rfl⟩ rfl rfl rfl rfl rfl (by kernel_rfl) Try.func10 (by kernel_rfl)
    (of_decide_eq_true (by kernel_rfl)) (by unfold Func.isWrapper; first | (rw [if_pos (by decide +kernel)]; kernel_rfl) | (rw [if_neg (by decide +kernel)]; exact ⟨rfl, rfl⟩))
    (fun os started H enc _ => lifted os started H enc)

theorem proved : Rows.CongCountsSaid := over
#print axioms proved
end Go.Proofs.Ytpphpbphgnlmlaa.congCounts
