/-
  Functions that the model itself stands in for: what they answer.
-/
import Derived.Test.YthnlknegnlmklaaVm14
import Derived.Laws.Externs
import Derived.Shelf.Spec.BitsCarry
set_option linter.all false
namespace Vm
open Go
variable {A : Nat → Type}

theorem ext_add64 {c : Cfg A} {f : Nat} {fn : Func} (hf : c.P.funcs[f]? = some fn) (hname : (fn.name == "runtime.NumGoroutine") = false) (hb : fn.body.isNone = true) (hn : Extern.findNext fn = none) (he : Extern.find fn = some add64Entry)
    {x y k : Int} (h : 0 ≤ x ∧ 0 ≤ y ∧ 0 ≤ k ∧ k ≤ 1) :
    ExtOk c f [.int .u64 x, .int .u64 y, .int .u64 k] (.tup [.int .u64 ((x + y + k) % 18446744073709551616), .int .u64 ((x + y + k) / 18446744073709551616)]) := by
  intro w S σ xs _ hl hd
  have h0 : xs.getD 0 undef = .int .u64 x := Den.of_int (hd 0 (by simp))
  have h1 : xs.getD 1 undef = .int .u64 y := Den.of_int (hd 1 (by simp))
  have h2 : xs.getD 2 undef = .int .u64 k := Den.of_int (hd 2 (by simp))
  have hx : xs = #[.int .u64 x, .int .u64 y, .int .u64 k] := by
    obtain ⟨l⟩ := xs
    match l, hl with
    | [a, b, c], _ => simp at h0 h1 h2; simp [h0, h1, h2]
  subst hx
  refine ⟨_, by rw [run_callFunc_extern hf hname hb hn he, run_add64 x y k h.1 h.2.1 h.2.2.1 h.2.2.2]; rfl, .tup _ _ rfl fun i hi => ?_⟩
  match i, hi with
  | 0, _ => exact .int _ _
  | 1, _ => exact .int _ _

theorem ext_sub64 {c : Cfg A} {f : Nat} {fn : Func} (hf : c.P.funcs[f]? = some fn) (hname : (fn.name == "runtime.NumGoroutine") = false) (hb : fn.body.isNone = true) (hn : Extern.findNext fn = none) (he : Extern.find fn = some Go.Proofs.sub64Entry)
    {x y k : Int} (h : 0 ≤ x ∧ 0 ≤ y ∧ y ≤ 18446744073709551615 ∧ 0 ≤ k ∧ k ≤ 1) :
    ExtOk c f [.int .u64 x, .int .u64 y, .int .u64 k] (.tup [.int .u64 ((x + 18446744073709551616 - y - k) % 18446744073709551616), .int .u64 (if x < y + k then 1 else 0)]) := by
  intro w S σ xs _ hl hd
  have h0 : xs.getD 0 undef = .int .u64 x := Den.of_int (hd 0 (by simp))
  have h1 : xs.getD 1 undef = .int .u64 y := Den.of_int (hd 1 (by simp))
  have h2 : xs.getD 2 undef = .int .u64 k := Den.of_int (hd 2 (by simp))
  have hx : xs = #[.int .u64 x, .int .u64 y, .int .u64 k] := by
    obtain ⟨l⟩ := xs
    match l, hl with
    | [a, b, c], _ => simp at h0 h1 h2; simp [h0, h1, h2]
  subst hx
  clear h0 h1 h2
  obtain ⟨k1, k2, k3, k4, k5⟩ := h
  obtain ⟨x, rfl⟩ := Int.eq_ofNat_of_zero_le k1
  obtain ⟨y, rfl⟩ := Int.eq_ofNat_of_zero_le k2
  obtain ⟨k, rfl⟩ := Int.eq_ofNat_of_zero_le k4
  refine ⟨_, by rw [run_callFunc_extern hf hname hb hn he, Go.Proofs.run_sub64 x y k (by omega)]; rfl, .tup _ _ rfl fun i hi => ?_⟩
  match i, hi with
  | 0, _ =>
    have e : (((x + 18446744073709551616 - y - k) % 18446744073709551616 : Nat) : Int) = ((x : Int) + 18446744073709551616 - y - k) % 18446744073709551616 := by omega
    show Den c S σ w (.int .u64 (((x : Int) + 18446744073709551616 - y - k) % 18446744073709551616)) (.int .u64 (((x + 18446744073709551616 - y - k) % 18446744073709551616 : Nat) : Int))
    rw [e]; exact .int _ _
  | 1, _ =>
    have e : ((if x < y + k then 1 else 0 : Nat) : Int) = if (x : Int) < y + k then 1 else 0 := by split <;> split <;> omega
    show Den c S σ w (.int .u64 (if (x : Int) < y + k then 1 else 0)) (.int .u64 ((if x < y + k then 1 else 0 : Nat) : Int))
    rw [e]; exact .int _ _

/-- Rows of such elements may be made and grown. -/
theorem app_of {P : Program} {t : TypeId} {inf : TypeInfo} {z : Value} {sz by_ : Nat} (h : P.types[t]? = some inf) (h1 : inf.size = sz) (h2 : inf.bytes = by_) (h3 : inf.zero = some z) (h4 : z.cells.size = sz) : ∃ inf z', P.info? t = some inf ∧ inf.size = sz ∧ inf.bytes = by_ ∧ inf.zero = some z' ∧ some z = some z' ∧ z'.cells.size = sz := by
  refine ⟨inf, z, ?_, h1, h2, h3, rfl, h4⟩
  have : t < P.types.size := by
    rcases Array.getElem?_eq_some_iff.1 h with ⟨h, _⟩; exact h
  show (if _ then _ else _) = _
  rw [if_pos this]; exact h

/-- A function of one slice that asks whether it is nil: told of the slices that hold something, and of those that don't. -/
theorem clone_calls {c : Cfg A} {f e : Nat} {fr : Bool} (Q : List (A e) → Prop) (h1 : ∀ a l, Q (a :: l) → CallOk c f [.list e false (a :: l)] (.olist e fr (a :: l)) [])
    (h0 : ∀ p cap, CallOk c f [.raw (.slice p 0 cap)] (.olist e fr ([] : List (A e))) []) : ∀ l, Q l → CallOk c f [.list e false l] (.olist e fr l) [] := by
  intro l hq
  cases l with
  | cons a l => exact h1 a l hq
  | nil =>
    intro w S σ β xs hT hS hI hA
    have hd : Den c S σ w (.list e false ([] : List (A e))) (xs.getD 0 undef) := hA.den 0 (by simp)
    obtain ⟨p, cap, hx⟩ : ∃ p cap, xs.getD 0 undef = .slice p 0 cap := by
      generalize xs.getD 0 undef = x at hd
      cases hd with
      | list _ _ _ p cap b x => exact ⟨p, cap, rfl⟩
    have hA' : ArgsOk c S σ w β [.raw (.slice p 0 cap)] xs := ⟨hA.size, fun i hi => by
      have : i = 0 := by simpa using hi
      subst this
      show Den c S σ w (.raw (.slice p 0 cap)) (xs.getD 0 undef)
      rw [hx]; exact .raw _, fun i j cs ds hi => by
        match i, hi with
        | 0, hi => cases hi
        | i + 1, hi => simp at hi⟩
    have hB : Bc [V.raw (A := A) (.slice p 0 cap)] β = Bc [.list e false ([] : List (A e))] β := by
      funext b o
      refine propext ⟨fun ⟨i, cs, h, _⟩ => ?_, fun ⟨i, cs, h, _⟩ => ?_⟩
      · match i, h with
        | 0, h => cases h
        | i + 1, h => simp at h
      · match i, h with
        | 0, h => cases h
        | i + 1, h => simp at h
    refine ((h0 p cap) w S σ β xs hT hS hI hA').mono ?_
    rintro e' w' ⟨x, he, hb, S', k1, k2, k3, k4⟩
    exact ⟨x, he, hB ▸ hb, S', k1, k2, k3, trivial⟩
end Vm
