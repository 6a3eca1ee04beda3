/-
  Functions that the model itself stands in for: what they answer.
-/
import Derived.Test.YtpnegnhbbcligaaVm14
import Derived.Laws.Externs
set_option linter.all false
namespace Vm
open Go
variable {A : Nat → Type}

theorem ext_add64 {c : Cfg A} {f : Nat} {fn : Func} (hf : c.P.funcs[f]? = some fn) (hname : (fn.name == "runtime.NumGoroutine") = false) (hb : fn.body.isNone = true) (hn : Extern.findNext fn = none) (he : Extern.find fn = some add64Entry)
    {x y k : Int} (h : 0 ≤ x ∧ 0 ≤ y ∧ 0 ≤ k ∧ k ≤ 1) :
    ExtOk c f [.int .u64 x, .int .u64 y, .int .u64 k] (.tup [.int .u64 ((x + y + k) % 18446744073709551616), .int .u64 ((x + y + k) / 18446744073709551616)]) := by
  intro w S σ xs hl hd
  have h0 : xs.getD 0 undef = .int .u64 x := Den.of_int (hd 0 (by simp))
  have h1 : xs.getD 1 undef = .int .u64 y := Den.of_int (hd 1 (by simp))
  have h2 : xs.getD 2 undef = .int .u64 k := Den.of_int (hd 2 (by simp))
  have hx : xs = #[.int .u64 x, .int .u64 y, .int .u64 k] := by
    obtain ⟨l⟩ := xs
    match l, hl with
    | [a, b, c], _ => simp at h0 h1 h2; simp [h0, h1, h2]
  subst hx
  refine ⟨_, by rw [run_callFunc_extern hf hname hb hn he, run_add64 x y k h.1 h.2.1 h.2.2.1 h.2.2.2]; rfl, .tup _ _ rfl fun i hi => ?_⟩
  match i, hi with
  | 0, _ => exact .int _ _
  | 1, _ => exact .int _ _

/-- Rows of such elements may be made and grown. -/
theorem app_of {P : Program} {t : TypeId} {inf : TypeInfo} {z : Value} {sz by_ : Nat} (h : P.types[t]? = some inf) (h1 : inf.size = sz) (h2 : inf.bytes = by_) (h3 : inf.zero = some z) (h4 : z.cells.size = sz) : ∃ inf z', P.info? t = some inf ∧ inf.size = sz ∧ inf.bytes = by_ ∧ inf.zero = some z' ∧ some z = some z' ∧ z'.cells.size = sz := by
  refine ⟨inf, z, ?_, h1, h2, h3, rfl, h4⟩
  have : t < P.types.size := by
    rcases Array.getElem?_eq_some_iff.1 h with ⟨h, _⟩; exact h
  show (if _ then _ else _) = _
  rw [if_pos this]; exact h
end Vm
