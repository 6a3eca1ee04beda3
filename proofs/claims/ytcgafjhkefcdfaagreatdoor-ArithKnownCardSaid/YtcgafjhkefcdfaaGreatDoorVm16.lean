/-
  Functions of the library's that read a listed table: what they answer, told to the interpreter.
-/
import Derived.Test.YtcgafjhkefcdfaaGreatDoorVm15
import Derived.Shelf.Strconv.Itoa3
set_option linter.all false
namespace Vm
open Go Go.RowKit
variable {A : Nat → Type}
def fmtI (n b : Int) : ByteArray := ⟨(Lib.itoa n).toArray⟩
def fmtI_pre (n b : Int) : Prop := b = 10 ∧ -9223372036854775808 ≤ n ∧ n ≤ 9223372036854775807
def fmtU (n b : Int) : ByteArray := ⟨(Lib.decDigits n.toNat).toArray⟩
def fmtU_pre (n b : Int) : Prop := b = 10 ∧ 0 ≤ n ∧ n < 18446744073709551616
theorem below_grow (w : World) (k : Nat) (os : Array Obj) : Below w.heap.size w (Sort.grow (w.drewN k) os) where
 os := rfl
 tape := rfl
 output := rfl
 size := by simp [Sort.size_grow, World.drewN]
 block j hj := Sort.heap_grow_old (w.drewN k) os hj
theorem tab_kept {P : Program} {w w' : World} {name : String} {k : IntKind} {zs : List Int} {g : Nat} (hg : P.globalNamed name = some g) (h : Lib.TabIs P w name k zs) (hb : w'.heap[g]? = w.heap[g]?) : Lib.TabIs P w' name k zs := by
 unfold Lib.TabIs World.var? at *
 rw [hg] at h ⊢
 simp only [Option.bind_some] at h ⊢
 rw [hb]; exact h
theorem tab_lt {P : Program} {w : World} {name : String} {k : IntKind} {zs : List Int} {g : Nat} (hg : P.globalNamed name = some g) (h : Lib.TabIs P w name k zs) : g < w.heap.size := by
 unfold Lib.TabIs World.var? at h
 rw [hg] at h
 simp only [Option.bind_some] at h
 rcases Nat.lt_or_ge g w.heap.size with h' | h'
 ·exact h'
 ·rw [Array.getElem?_eq_none h'] at h; simp at h
theorem str_calls {c : Cfg A} {f : Nat} {k1 k2 : IntKind} {n b : Int} {s : ByteArray} (P : Program) (hP : c.P = P) (h : ∀ S w, c.inv S w → Calls P f #[.int k1 n, .int k2 b] w fun e w' => e = .returned (.string s) ∧ ∃ k os, w' = Sort.grow (w.drewN k) os) :
  CallOk c f [.int k1 n, .int k2 b] (.str s) [] := by
 subst hP
 intro w S σ β xs hT hS hinv hA
 have h0 : xs.getD 0 undef = .int k1 n := Den.of_int (hA.den 0 (by simp))
 have h1 : xs.getD 1 undef = .int k2 b := Den.of_int (hA.den 1 (by simp))
 have hx : xs = #[.int k1 n, .int k2 b] := by
  have hl := hA.size
  obtain ⟨l⟩ := xs
  match l, hl with
  | [a, b], _ => simp at h0 h1; simp [h0, h1]
 subst hx
 refine (h _ w hinv).mono ?_
 rintro e w' ⟨rfl, k, os, rfl⟩
 exact ⟨_, rfl, (Bel.refl ⟨w, _⟩).below (below_grow w k os), (fun f b => f = false ∧ S false b), (fun f b h => .inl h), (fun _ h => by cases h.1), (.str _), trivial⟩
theorem fmtI_calls {c : Cfg A} {f : Nat} {P : Program} {ρ : Shelf.Ren} (hP : c.P = P) (L : Go.Proofs.LaysM.n246 P ρ) (hf : ρ.f 246 = f) (hI : ∀ S w, c.inv S w → Lib.TabIs P w "internal/strconv.uint64pow10" .u64 Lib.pow10Tab) (n b : Int) (hp : fmtI_pre n b) :
  CallOk c f [.int .i64 n, .int .i64 b] (.str (fmtI n b)) [] := by
 obtain ⟨rfl, h0, h1⟩ := hp
 subst hf
 exact str_calls P hP fun S w hS => Go.Proofs.Any.internal_strconv_FormatInt_10 L n h0 h1 w (hI S w hS)
end Vm
