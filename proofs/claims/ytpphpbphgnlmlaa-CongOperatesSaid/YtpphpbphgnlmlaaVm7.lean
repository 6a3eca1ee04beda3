/-
  What the interpreter says of one operation is so: all of them.
-/
import Derived.Test.YtpphpbphgnlmlaaVm6
set_option linter.all false
namespace Vm
open Go Go.RowKit
variable {A : Nat → Type}

section
variable {c : Cfg A} {S : Nat → Prop} {σ : Nat → Loc} {w : World}

theorem Den.of_list {t : Nat} {f : Bool} {l : List (A t)} {x : Value} (h : Den c S σ w (.list t f l) x) : ∃ (p : Option Addr) (cap : Nat) (b : Addr) (y : Nat → Nat → Value), x = .slice p l.length cap ∧ (l ≠ [] → p = some b) ∧ l.length ≤ cap ∧ (f = true → cap = l.length) ∧
    (l ≠ [] → S b.block) ∧ (c.ty t).size ≠ 0 ∧ (∀ j (hj : j < l.length), (c.C.enc t l[j]).length = (c.ty t).size) ∧ (∀ j q, j < l.length → q < (c.ty t).size → w.cell? (b.add (j * (c.ty t).size + q)) = some (y j q)) ∧
    (∀ j q (hj : j < l.length) (hq : q < (c.C.enc t l[j]).length), Den c S σ w (c.C.enc t l[j])[q] (y j q)) := by
  cases h with
  | list _ _ _ p cap b y hp hc hf hS hn he hw hd => exact ⟨p, cap, b, y, rfl, hp, hc, hf, hS, hn, he, hw, hd⟩

theorem Den.of_eptr {t : Nat} {e : A t} {off : Nat} {x : Value} (h : Den c S σ w (.eptr t e off) x) : ∃ (b : Addr) (y : Nat → Value), x = .pointer (some (b.add off)) ∧ S b.block ∧ (c.C.enc t e).length = (c.ty t).size ∧
    (∀ q, q < (c.ty t).size → w.cell? (b.add q) = some (y q)) ∧ (∀ q (hq : q < (c.C.enc t e).length), Den c S σ w (c.C.enc t e)[q] (y q)) := by
  cases h with
  | eptr _ _ _ b y hS he hw hd => exact ⟨b, y, rfl, hS, he, hw, hd⟩

theorem den_nil {t : Nat} {f : Bool} {c : Cfg A} {S : Nat → Prop} {σ : Nat → Loc} {w : World} (hn : (c.ty t).size ≠ 0) (p : Option Addr) (cap : Nat) (hf : f = true → cap = 0) : Den c S σ w (.list t f ([] : List (A t))) (.slice p 0 cap) :=
  Den.list t f [] p cap ⟨0, 0, none⟩ (fun _ _ => undef) (fun h => absurd rfl h) (Nat.zero_le _) hf (fun h => absurd rfl h) hn (fun j hj => absurd hj (Nat.not_lt_zero _)) (fun j q hj => absurd hj (Nat.not_lt_zero _)) (fun j q hj => absurd hj (Nat.not_lt_zero _))

/-- A slice of a list. -/
theorem den_sub {t : Nat} {f : Bool} {l : List (A t)} {x : Value} (h : Den c S σ w (.list t f l) x) {i j : Nat} (hij : i ≤ j) (hj : j ≤ l.length) :
    ∃ p cap, x = .slice p l.length cap ∧ l.length ≤ cap ∧ Den c S σ w (.list t false ((l.take j).drop i)) (.slice (if cap = i then p else p.map (·.add (i * (c.ty t).size))) (j - i) (cap - i)) := by
  obtain ⟨p, cap, b, y, rfl, hp, hc, hf, hS, hn, he, hw, hd⟩ := h.of_list
  refine ⟨p, cap, rfl, hc, ?_⟩
  have hlen : ((l.take j).drop i).length = j - i := by simp; omega
  by_cases h0 : j = i
  · subst h0
    have : (l.take j).drop j = [] := by apply List.eq_nil_of_length_eq_zero; simp
    rw [this, Nat.sub_self]
    exact den_nil hn _ _ (fun h => by cases h)
  · have hlt : i < l.length := by omega
    have hne : l ≠ [] := by intro e; subst e; simp at hlt
    have hcap : cap ≠ i := by omega
    rw [if_neg hcap, hp hne]
    have hget : ∀ k (hk : k < ((l.take j).drop i).length), ((l.take j).drop i)[k] = l[i + k]'(by omega) := fun k hk => by simp
    have := Den.list (c := c) (S := S) (σ := σ) (w := w) t false ((l.take j).drop i) (some (b.add (i * (c.ty t).size))) (cap - i) (b.add (i * (c.ty t).size)) (fun k q => y (i + k) q)
      (fun _ => rfl) (by omega) (fun h => by cases h) (fun _ => by rw [add_block]; exact hS hne) hn (fun k hk => by rw [hget k hk]; exact he _ _)
      (fun k q hk hq => by
        rw [add_add, ← hw (i + k) q (by omega) hq]
        congr 2
        rw [Nat.add_mul]; omega)
      (fun k q hk hq => by
        have h1 : i + k < l.length := by omega
        have h2 : q < (c.C.enc t (l[i + k]'h1)).length := by rw [hget k hk] at hq; exact hq
        have e : (c.C.enc t ((l.take j).drop i)[k])[q] = (c.C.enc t (l[i + k]'h1))[q] := by simp only [hget k hk]
        rw [e]
        exact hd (i + k) q h1 h2)
    rw [hlen] at this
    exact this

theorem run_sliceBound {P : Program} {x : Value} {n : Int} {k : IntKind} (hx : x = .int k n) {y : Nat} {code : BoundsCode} (h0 : 0 ≤ n) (h1 : n ≤ y) : (Instr.sliceBound x y code).run P w = .ok n.toNat w := by
  subst hx
  simp [Instr.sliceBound, asIntOf, h0, h1]

theorem bound_den {n : Nat} {w0 : World} {S0 : Nat → Prop} {lk : K → Option (Ent A)} {a : Act} (hR : RelAt c n w0 S0 S σ lk a w) {E : Env A} (hE : ∀ k e, look k E = some e → lk k = some e)
    {g : Chain} (hg : Holds a g) {o : Option Operand} {d i : Int} (h : bound E g o d = some i) : (o = none ∧ i = d) ∨ ∃ x k, o = some x ∧ a.eval x = .int k i := by
  unfold bound at h
  split at h
  · cases h; exact .inl ⟨rfl, rfl⟩
  · rename_i x
    split at h
    · rename_i k m hv
      cases h
      exact .inr ⟨x, k, rfl, (opv_den hR hE hg hv).of_int⟩
    · cases h

theorem run_bounds {P : Program} {isSl : Bool} {len cap : Nat} {lo hi : Option Value} {i j : Int} (hlo : (lo = none ∧ i = 0) ∨ ∃ k, lo = some (.int k i)) (hhi : (hi = none ∧ j = (len : Int)) ∨ ∃ k, hi = some (.int k j))
    (h0 : 0 ≤ i) (h1 : i ≤ j) (h2 : j ≤ (len : Int)) (hc : len ≤ cap) : (Instr.sliceBounds isSl len cap lo hi none).run P w = .ok (i.toNat, j.toNat, cap) w := by
  have ej : ((j.toNat : Nat) : Int) = j := by omega
  rcases hlo with ⟨rfl, rfl⟩ | ⟨k, rfl⟩ <;> rcases hhi with ⟨rfl, rfl⟩ | ⟨k', rfl⟩
  · simp [Instr.sliceBounds]
  · simp [Instr.sliceBounds, run_sliceBound (P := P) (w := w) rfl (show (0 : Int) ≤ j by omega) (show j ≤ (cap : Int) by omega)]
  · simp [Instr.sliceBounds, run_sliceBound (P := P) (w := w) rfl h0 h1]
  · simp [Instr.sliceBounds, run_sliceBound (P := P) (w := w) rfl (show (0 : Int) ≤ j by omega) (show j ≤ (cap : Int) by omega), run_sliceBound (P := P) (w := w) (y := j.toNat) rfl h0 (by omega)]

theorem gives_slice (hc : CfgOk c) {n : Nat} {w0 : World} {S0 : Nat → Prop} {lk : K → Option (Ent A)} {a : Act} (hR : RelAt c n w0 S0 S σ lk a w) {E : Env A} (hE : ∀ k e, look k E = some e → lk k = some e)
    {g : Chain} (hg : Holds a g) {t e : Nat} {f : Bool} {l : List (A e)} {x : Value} {lo hi : Option Operand} {i j : Int} (hx : Den c S σ w (.list e f l) x) (hel : (c.ty t).elem = some e)
    (hlo : bound E g lo 0 = some i) (hhi : bound E g hi (l.length : Int) = some j) (h0 : 0 ≤ i) (h1 : i ≤ j) (h2 : j ≤ (l.length : Int)) :
    Gives c S σ w (Instr.sliceAt t x (lo.map a.eval) (hi.map a.eval) none) (.list e false ((l.take j.toNat).drop i.toNat)) := by
  obtain ⟨p, cap, rfl, hcap, hd⟩ := den_sub hx (i := i.toNat) (j := j.toNat) (by omega) (by omega)
  have hund := (hc.ty t).elem e hel
  have hurun := run_underlying hund w
  have hn : (c.ty e).size ≠ 0 := by obtain ⟨_, _, _, _, _, _, _, _, _, hn, _⟩ := hx.of_list; exact hn
  have hsz := (hc.ty e).size hn w
  have hlo' : (lo.map a.eval = none ∧ i = 0) ∨ ∃ k, lo.map a.eval = some (.int k i) := by
    rcases bound_den hR hE hg hlo with ⟨rfl, rfl⟩ | ⟨x, k, rfl, hx⟩
    · exact .inl ⟨rfl, rfl⟩
    · exact .inr ⟨k, by simp [hx]⟩
  have hhi' : (hi.map a.eval = none ∧ j = (l.length : Int)) ∨ ∃ k, hi.map a.eval = some (.int k j) := by
    rcases bound_den hR hE hg hhi with ⟨rfl, rfl⟩ | ⟨x, k, rfl, hx⟩
    · exact .inl ⟨rfl, rfl⟩
    · exact .inr ⟨k, by simp [hx]⟩
  have hb := run_bounds (P := c.P) (w := w) (isSl := true) hlo' hhi' h0 h1 h2 hcap
  refine ⟨_, ?_, hd⟩
  simp only [Instr.sliceAt, Instr.slice, Sem.run_bind, hurun, Result.andThen_ok, hb, hsz, Sem.run_pure]

theorem gives_sub (hc : CfgOk c) {n : Nat} {w0 : World} {S0 : Nat → Prop} {lk : K → Option (Ent A)} {a : Act} (hR : RelAt c n w0 S0 S σ lk a w) {E : Env A} (hE : ∀ k e, look k E = some e → lk k = some e)
    {g : Chain} (hg : Holds a g) {t : Nat} {s : ByteArray} {x : Value} {lo hi : Option Operand} {i j : Int} (hx : Den c S σ w (.str s : V A) x) (hst : (c.ty t).str = true)
    (hlo : bound E g lo 0 = some i) (hhi : bound E g hi (s.size : Int) = some j) (h0 : 0 ≤ i) (h1 : i ≤ j) (h2 : j ≤ (s.size : Int)) :
    Gives c S σ w (Instr.sliceAt t x (lo.map a.eval) (hi.map a.eval) none) (.str (s.extract i.toNat j.toNat) : V A) := by
  have ex := hx.of_str; subst ex
  have hurun := run_underlying ((hc.ty t).str hst) w
  have hlo' : (lo.map a.eval = none ∧ i = 0) ∨ ∃ k, lo.map a.eval = some (.int k i) := by
    rcases bound_den hR hE hg hlo with ⟨rfl, rfl⟩ | ⟨x, k, rfl, hx⟩
    · exact .inl ⟨rfl, rfl⟩
    · exact .inr ⟨k, by simp [hx]⟩
  have hhi' : (hi.map a.eval = none ∧ j = (s.size : Int)) ∨ ∃ k, hi.map a.eval = some (.int k j) := by
    rcases bound_den hR hE hg hhi with ⟨rfl, rfl⟩ | ⟨x, k, rfl, hx⟩
    · exact .inl ⟨rfl, rfl⟩
    · exact .inr ⟨k, by simp [hx]⟩
  have hb := run_bounds (P := c.P) (w := w) (isSl := false) hlo' hhi' h0 h1 h2 (Nat.le_refl _)
  refine ⟨_, ?_, .str _⟩
  simp only [Instr.sliceAt, Instr.slice, Sem.run_bind, hurun, Result.andThen_ok, hb, Sem.run_pure, Option.isSome_none, Bool.false_eq_true, if_false]

theorem gives_indexAddr (hc : CfgOk c) {t e : Nat} {f : Bool} {l : List (A e)} {x y : Value} {k : IntKind} {i : Int} (hx : Den c S σ w (.list e f l) x) (hy : Den c S σ w (.int k i : V A) y) (hel : (c.ty t).elem = some e)
    (h0 : 0 ≤ i) (h1 : i < (l.length : Int)) : Gives c S σ w (Instr.indexAt t x y) (.eptr e (l.getD i.toNat (c.C.dft e)) 0) := by
  have ey := hy.of_int; subst ey
  obtain ⟨p, cap, b, z, rfl, hp, hcap, hf, hS, hn, he, hw, hd⟩ := hx.of_list
  have hlt : i.toNat < l.length := by omega
  have hne : l ≠ [] := by intro e; subst e; simp at hlt
  have hurun := run_underlying ((hc.ty t).elem e hel) w
  have hsz := (hc.ty e).size hn w
  have hget : l.getD i.toNat (c.C.dft e) = l[i.toNat] := by simp [hlt]
  rw [hget]
  refine ⟨.pointer (some (b.add (i.toNat * (c.ty e).size))), ?_, ?_⟩
  · rw [hp hne]
    simp [Instr.indexAt, asIntOf, hurun, h0, h1, hsz]
  · have := Den.eptr (c := c) (S := S) (σ := σ) (w := w) e l[i.toNat] 0 (b.add (i.toNat * (c.ty e).size)) (fun q => z i.toNat q) (by rw [add_block]; exact hS hne) (he _ hlt)
      (fun q hq => by rw [add_add]; exact hw _ q hlt hq) (fun q hq => hd _ q hlt hq)
    rw [add_add, Nat.add_zero] at this
    exact this

theorem byte_get (s : ByteArray) {n : Nat} (h : n < s.size) : s[n]? = some (s.data.toList.getD n 0) := by
  have h' : n < s.data.size := h
  simp [h', getElem?_pos, h]
  rfl

theorem gives_index (hc : CfgOk c) {t : Nat} {s : ByteArray} {x y : Value} {k : IntKind} {i : Int} (hx : Den c S σ w (.str s : V A) x) (hy : Den c S σ w (.int k i : V A) y) (hst : (c.ty t).str = true)
    (h0 : 0 ≤ i) (h1 : i < (s.size : Int)) : Gives c S σ w (Instr.index t x y) (.int .u8 ((s.data.toList.getD i.toNat 0).toNat : Int) : V A) := by
  have ey := hy.of_int; subst ey
  have ex := hx.of_str; subst ex
  have hurun := run_underlying ((hc.ty t).str hst) w
  have hg := byte_get s (show i.toNat < s.size by omega)
  refine ⟨_, ?_, .int _ _⟩
  simp only [Instr.index, asIntOf, Sem.run_bind, Sem.run_pure, Result.andThen_ok, hurun, if_pos h0, hg]

theorem argsOf_den (hc : CfgOk c) {n : Nat} {w0 : World} {S0 : Nat → Prop} {lk : K → Option (Ent A)} {a : Act} (hR : RelAt c n w0 S0 S σ lk a w) {E : Env A} (hE : ∀ k e, look k E = some e → lk k = some e)
    {g : Chain} (hg : Holds a g) : ∀ (xs : List Operand) (ts : List Nat) (vs : List (V A)), argsOf c E g xs ts = some vs → xs.length = vs.length ∧ ∀ i (hi : i < vs.length), Den c S σ w vs[i] ((xs.map a.eval).getD i undef) := by
  have fit : ∀ (t : Nat) (v : V A) (x : Value), Den c S σ w v x → Den c S σ w (fitArg c t v) x := by
    intro t v x h
    unfold fitArg
    split
    · split
      · rename_i e he
        split
        · rename_i hs
          have := h.of_raw; subst this
          exact den_nil (by intro e0; rw [e0] at hs; simp at hs) _ _ (fun _ => rfl)
        · exact h
      · exact h
    · exact h
  intro xs
  induction xs with
  | nil => intro ts vs h; simp only [argsOf, Option.some.injEq] at h; subst h; simp
  | cons x xs ih =>
    intro ts vs h
    simp only [argsOf] at h
    split at h
    · rename_i v hv
      split at h
      · rename_i vs' hvs
        cases h
        obtain ⟨h1, h2⟩ := ih _ _ hvs
        refine ⟨by simp [h1], fun i hi => ?_⟩
        cases i with
        | zero =>
          have hd := opv_den hR hE hg hv
          cases ts with
          | nil => exact hd
          | cons t ts => exact fit _ _ _ hd
        | succ i => exact h2 i (by simpa using hi)
      · cases h
    · cases h

end
end Vm
