/-
  What a seat gives the interpreter: its types, its functions one behind the other.
-/
import Derived.Test.YthnlknegnlmklaaVm12b
import Derived.Eval
import Derived.ChangeKeysEq
set_option linter.all false
namespace Vm
open Go Go.RowKit
variable {A : Nat → Type}

/-! ### One function more -/

def Cfg.add (c : Cfg A) (f : Nat) (s : List (V A) → Option (V A × List (List (V A)) × List Prop)) : Cfg A :=
  { c with call := fun g vs => match Nat.beq g f with
    | true => s vs
    | false => c.call g vs }

/-- With what is told of one function's slots. -/
def Cfg.hint (c : Cfg A) (own pins : List Nat) : Cfg A := { c with own := own, pins := pins }

section
variable {c c' : Cfg A} {S : Fz} {σ : Nat → Loc} {w : World}

theorem encF_same (hC : c'.C = c.C) (t : Nat) (f : Bool) (a : A t) : encF c' t f a = encF c t f a := by simp only [encF, hC]

theorem Den.same (hty : c'.ty = c.ty) (hC : c'.C = c.C) {v : V A} {x : Value} (h : Den c S σ w v x) : Den c' S σ w v x := by
  induction h with
  | int => exact .int _ _
  | bool => exact .bool _
  | str => exact .str _
  | fn => exact .fn _
  | raw => exact .raw _
  | junk => exact .junk _
  | ptr id off => exact .ptr id off
  | own id => exact .own id
  | sfn l => exact .sfn l
  | cmap k fr l b es ck hSb hb he => exact .cmap k fr l b es ck hSb hb he
  | optr id t i off hi => have := Den.optr (c := c') (S := S) (w := w) (σ := σ) id t i off hi; rw [hty] at this; exact this
  | agg cs xs hl h ih => exact .agg cs xs hl ih
  | tup cs xs hl h ih => exact .tup cs xs hl ih
  | clo f fs cs xs ys hl h hl' h' ih ih' => exact .clo f fs cs xs ys hl ih hl' ih'
  | list t f l p cap b x hp hcap hSb hn he hcell hd ih =>
    exact .list t f l p cap b x hp hcap hSb (by rw [hty]; exact hn) (by rw [hty, hC]; exact he) (by rw [hty]; exact hcell) (fun j q hj hq => by
      have := ih j q hj (by rw [← encF_same hC]; exact hq)
      simp only [encF_same hC]; exact this)
  | arr t f n l xs hl he hx hd ih =>
    exact .arr t f n l xs hl (by rw [hty, hC]; exact he) (by rw [hty]; exact hx) (fun j q hj hq => by
      have := ih j q hj (by rw [← encF_same hC]; exact hq)
      simp only [encF_same hC, hty]; exact this)
  | eptr t f a off b x hSb he hcell hd ih =>
    exact .eptr t f a off b x hSb (by rw [hty, hC]; exact he) (by rw [hty]; exact hcell) (fun q hq => by
      have := ih q (by rw [← encF_same hC]; exact hq)
      simp only [encF_same hC]; exact this)

theorem RowAt.same (hty : c'.ty = c.ty) (hC : c'.C = c.C) {L : Loc} {t : Nat} {f : Bool} {m : Option Nat} {l : List (A t)} (h : RowAt c S σ w L t f m l) : RowAt c' S σ w L t f m l where
  ne := by rw [hty]; exact h.ne
  len := h.len
  cap := h.cap
  fix := h.fix
  enc := by rw [hty, hC]; exact h.enc
  base := h.base
  room := by rw [hty]; exact h.room
  frz := h.frz
  cells j q hj hq := by
    obtain ⟨y, hy, hd⟩ := h.cells j q hj (by rw [← encF_same hC]; exact hq)
    refine ⟨y, by rw [hty]; exact hy, ?_⟩
    simp only [encF_same hC]; exact hd.same hty hC

theorem ResDen.same (hty : c'.ty = c.ty) (hC : c'.C = c.C) {n : Nat} {r : V A} {x : Value} (h : ResDen c n S σ w r x) : ResDen c' n S σ w r x := by
  cases r with
  | olist t f l => obtain ⟨L, h1, h2, h3⟩ := h; exact ⟨L, h1, h2.same hty hC, h3⟩
  | _ => exact Den.same hty hC h

theorem ArgDen.same (hty : c'.ty = c.ty) (hC : c'.C = c.C) {β : Nat → Nat} {i : Nat} {v : V A} {x : Value} (h : ArgDen c S σ w β i v x) : ArgDen c' S σ w β i v x := by
  cases v with
  | ref cs =>
    obtain ⟨h1, h2, h3, h4, h5⟩ := h
    exact ⟨h1, h2, fun o ho => by obtain ⟨y, hy, hd⟩ := h3 o ho; exact ⟨y, hy, hd.same hty hC⟩, h4, h5⟩
  | _ => exact Den.same hty hC h

theorem OutsDen.same (hty : c'.ty = c.ty) (hC : c'.C = c.C) {β : Nat → Nat} : ∀ {i : Nat} {vs : List (V A)} {outs : List (List (V A))}, OutsDen c S σ w β i vs outs → OutsDen c' S σ w β i vs outs := by
  intro i vs
  induction vs generalizing i with
  | nil => intro outs h; cases outs <;> exact h
  | cons v vs ih =>
    intro outs h
    cases v with
    | ref cs =>
      cases outs with
      | nil => exact h
      | cons o outs =>
        obtain ⟨h1, h2, h3⟩ := h
        exact ⟨h1, fun q hq => by obtain ⟨y, hy, hd, hj⟩ := h2 q hq; exact ⟨y, hy, hd.same hty hC, hj⟩, ih h3⟩
    | _ => cases outs <;> exact ih h

end

theorem CallOk.same {c c' : Cfg A} (hP : c'.P = c.P) (hty : c'.ty = c.ty) (hC : c'.C = c.C) (hi : c'.inv = c.inv) {f : Nat} {vs : List (V A)} {r : V A} {outs : List (List (V A))} (h : CallOk c f vs r outs) : CallOk c' f vs r outs := by
  intro w S σ β xs hT hS hI hA
  rw [hP]
  refine (h w S σ β xs hT hS (hi ▸ hI) ⟨hA.size, fun i hi => (hA.den i hi).same hty.symm hC.symm, hA.inj⟩).mono ?_
  rintro e w' ⟨x, he, hb, S', hS', hT', hx, ho⟩
  exact ⟨x, he, hb, S', hS', hT', hx.same hty hC, ho.same hty hC⟩

theorem CallOk.unhint {c : Cfg A} {own pins : List Nat} {f : Nat} {vs : List (V A)} {r : V A} {outs : List (List (V A))} (h : CallOk (c.hint own pins) f vs r outs) : CallOk c f vs r outs := CallOk.same (c := c.hint own pins) (c' := c) rfl rfl rfl rfl h
theorem CallOk.unadd {c : Cfg A} {g : Nat} {s : List (V A) → Option (V A × List (List (V A)) × List Prop)} {f : Nat} {vs : List (V A)} {r : V A} {outs : List (List (V A))} (h : CallOk (c.add g s) f vs r outs) : CallOk c f vs r outs := CallOk.same (c := c.add g s) (c' := c) rfl rfl rfl rfl h

theorem ExtOk.same {c c' : Cfg A} (hP : c'.P = c.P) (hty : c'.ty = c.ty) (hC : c'.C = c.C) {f : Nat} {vs : List (V A)} {r : V A} (h : ExtOk c f vs r) : ExtOk c' f vs r := by
  intro w S σ xs hT hl hd
  rw [hP]
  obtain ⟨x, hx, hr⟩ := h w S σ xs hT hl (fun i hi => (hd i hi).same hty.symm hC.symm)
  exact ⟨x, hx, hr.same hty hC⟩

theorem CfgOk.hint {c : Cfg A} (hc : CfgOk c) (own pins : List Nat) : CfgOk (c.hint own pins) where
  ty := hc.ty
  arr := hc.arr
  enc := hc.enc
  fresh := hc.fresh
  one := hc.one
  old := hc.old
  dec := hc.dec
  plain := hc.plain
  u8 := hc.u8
  inv := hc.inv
  call f vs r outs ps h hp := by
    rcases hc.call f vs r outs ps h hp with ⟨h1, h2⟩ | ⟨h1, h2⟩
    · exact .inl ⟨h1, CallOk.same (c := c) (c' := c.hint own pins) rfl rfl rfl rfl h2⟩
    · exact .inr ⟨h1, ExtOk.same (c := c) (c' := c.hint own pins) rfl rfl rfl h2⟩

theorem CfgOk.add' {c : Cfg A} (hc : CfgOk c) {f : Nat} {s : List (V A) → Option (V A × List (List (V A)) × List Prop)}
    (h : ∀ vs r outs ps, s vs = some (r, outs, ps) → All ps → ((∀ args w, (callFunc f args).run c.P w = .ok (.enter f args) w) ∧ CallOk c f vs r outs) ∨ (outs = [] ∧ ExtOk c f vs r)) : CfgOk (c.add f s) where
  ty := hc.ty
  arr := hc.arr
  enc := hc.enc
  fresh := hc.fresh
  one := hc.one
  old := hc.old
  dec := hc.dec
  plain := hc.plain
  u8 := hc.u8
  inv := hc.inv
  call g vs r outs ps hg hps := by
    simp only [Cfg.add] at hg
    cases hb : Nat.beq g f with
    | true =>
      have : g = f := by simpa using hb
      subst this
      rw [hb] at hg
      rcases h vs r outs ps hg hps with ⟨h1, h2⟩ | ⟨h1, h2⟩
      · exact .inl ⟨h1, CallOk.same (c := c) (c' := c.add g s) rfl rfl rfl rfl h2⟩
      · exact .inr ⟨h1, ExtOk.same (c := c) (c' := c.add g s) rfl rfl rfl h2⟩
    | false =>
      rw [hb] at hg
      rcases hc.call g vs r outs ps hg hps with ⟨h1, h2⟩ | ⟨h1, h2⟩
      · exact .inl ⟨h1, CallOk.same (c := c) (c' := c.add f s) rfl rfl rfl rfl h2⟩
      · exact .inr ⟨h1, ExtOk.same (c := c) (c' := c.add f s) rfl rfl rfl h2⟩

theorem CfgOk.add {c : Cfg A} (hc : CfgOk c) {f : Nat} {s : List (V A) → Option (V A × List (List (V A)) × List Prop)} (hcal : ∀ args w, (callFunc f args).run c.P w = .ok (.enter f args) w)
    (h : ∀ vs r outs ps, s vs = some (r, outs, ps) → All ps → CallOk c f vs r outs) : CfgOk (c.add f s) :=
  hc.add' fun vs r outs ps hs hp => .inl ⟨hcal, h vs r outs ps hs hp⟩

theorem CfgOk.addExt {c : Cfg A} (hc : CfgOk c) {f : Nat} {s : List (V A) → Option (V A × List (List (V A)) × List Prop)} (h : ∀ vs r outs ps, s vs = some (r, outs, ps) → All ps → outs = [] ∧ ExtOk c f vs r) : CfgOk (c.add f s) :=
  hc.add' fun vs r outs ps hs hp => .inr (h vs r outs ps hs hp)

theorem no_loops {c : Cfg A} {n key : Nat} {code : Code} {loop : Nat → Env A → Tr A} (h : loopsOf key code = []) : ∀ p ∈ loopsOf key code, ∀ w0 S0, LoopOk c n w0 S0 loop p.1 p.2 := by
  rw [h]; intro p hp; cases hp

def LoopsAll (Q : Nat → Code → Prop) : List (Nat × Code) → Prop
  | [] => True
  | p :: l => Q p.1 p.2 ∧ LoopsAll Q l

theorem loops_all {c : Cfg A} {n key : Nat} {code : Code} {loop : Nat → Env A → Tr A} {l : List (Nat × Code)} (h : loopsOf key code = l) (H : LoopsAll (fun k b => ∀ w0 S0, LoopOk c n w0 S0 loop k b) l) : ∀ p ∈ loopsOf key code, ∀ w0 S0, LoopOk c n w0 S0 loop p.1 p.2 := by
  rw [h]; clear h
  induction l with
  | nil => intro p hp; cases hp
  | cons q l ih =>
    intro p hp
    cases hp with
    | head => exact H.1
    | tail _ h => exact ih H.2 p h

/-- A tree that wants nothing. -/
def Tr.noReq : Tr A → Bool
  | .leaf _ _ => true
  | .node _ t e => (noReq t).and (noReq e)
  | .req _ _ => false
  | .fail => false

theorem Tr.vc_of_noReq : ∀ {t : Tr A}, t.noReq = true → t.vc
  | .leaf _ _, _ => trivial
  | .node _ _ _, h => by
    simp only [noReq, Bool.and_eq_true] at h
    exact ⟨fun _ => vc_of_noReq h.1, fun _ => vc_of_noReq h.2⟩
  | .req _ _, h => by cases h
  | .fail, h => by cases h

/-! ### Types -/

def AllTI (P : Program) : Nat → List TI → Prop
  | _, [] => True
  | i, x :: l => TIok P i x ∧ AllTI P (i + 1) l

theorem TIok.default (P : Program) (t : Nat) : TIok P t {} where
  size h := absurd rfl h
  agg _ h := by cases h
  fields h := absurd rfl h
  elem _ h := by cases h
  kind _ h := by cases h
  zero _ h := by cases h
  str h := by cases h
  isBool h := by cases h
  arr _ _ h := by cases h
  sarr _ _ h := by cases h
  app h := by cases h
  map _ _ h := by cases h
  flat _ h := by cases h

theorem tis_ok {P : Program} {l : List TI} (h : AllTI P 0 l) (t : Nat) : TIok P t ((nth l t).getD {}) := by
  have key : ∀ (l : List TI) (i j : Nat), AllTI P i l → TIok P (i + j) ((nth l j).getD {}) := by
    intro l
    induction l with
    | nil => intro i j _; exact TIok.default _ _
    | cons x l ih =>
      intro i j h
      cases j with
      | zero => exact h.1
      | succ j => rw [show i + (j + 1) = i + 1 + j by omega]; exact ih (i + 1) j h.2
  have := key l 0 t h
  rwa [Nat.zero_add] at this

/-- Arrays' sizes. -/
def arrOk (ty : Nat → TI) (i : TI) : Bool :=
  match i.arr with
  | some (e, m) => (Nat.beq i.size (m * (ty e).size)).and (((Nat.beq (ty e).size 0).not.and (Nat.beq m 0).not).and (match i.agg with | some true => true | _ => false))
  | none => true

theorem arrs_ok {l : List TI} (h : all (arrOk fun t => (nth l t).getD {}) l = true) (t e m : Nat) (ht : ((nth l t).getD {}).arr = some (e, m)) :
    ((nth l t).getD {}).size = m * ((nth l e).getD {}).size ∧ ((nth l e).getD {}).size ≠ 0 ∧ m ≠ 0 ∧ ((nth l t).getD {}).agg = some true := by
  cases hn : nth l t with
  | none => rw [hn] at ht; cases ht
  | some i =>
    have hm : i ∈ l := by rw [nth_eq] at hn; exact List.mem_of_getElem? hn
    have hi := all_mem h i hm
    rw [hn] at ht
    have ht : i.arr = some (e, m) := ht
    simp only [arrOk, ht, Bool.and_eq_true] at hi
    refine ⟨by simpa using hi.1, by intro e0; rw [e0] at hi; simp at hi, by intro e0; subst e0; simp at hi, ?_⟩
    have := hi.2.2
    show i.agg = some true
    split at this
    · assumption
    · cases this

/-! ### Comparing structs -/

theorem eqVals_append : ∀ (a b c d : List Value) (p q : Bool), a.length = c.length → eqVals a c = some p → eqVals b d = some q → eqVals (a ++ b) (c ++ d) = some (p && q)
  | [], b, [], d, p, q, _, h1, h2 => by simp only [eqVals, Option.some.injEq] at h1; subst h1; simpa using h2
  | [], _, _ :: _, _, _, _, hl, _, _ => by simp at hl
  | _ :: _, _, [], _, _, _, hl, _, _ => by simp at hl
  | x :: a, b, y :: c, d, p, q, hl, h1, h2 => by
    simp only [eqVals] at h1
    split at h1
    · rename_i p1 p2 hp1 hp2
      cases h1
      simp only [List.cons_append, eqVals, hp1, eqVals_append a b c d p2 q (by simpa using hl) hp2 h2, Bool.and_assoc]
    · cases h1

theorem eqVals_split : ∀ (n : Nat) (xs ys : List Value) (r : Bool), eqVals xs ys = some r → n ≤ xs.length → ∃ p q, eqVals (xs.take n) (ys.take n) = some p ∧ eqVals (xs.drop n) (ys.drop n) = some q ∧ r = (p && q)
  | 0, xs, ys, r, h, _ => ⟨true, r, by simp [eqVals], by simpa using h, by simp⟩
  | n + 1, [], ys, r, h, hl => by simp at hl
  | n + 1, x :: xs, [], r, h, _ => by simp [eqVals] at h
  | n + 1, x :: xs, y :: ys, r, h, hl => by
    simp only [eqVals] at h
    split at h
    · rename_i p1 p2 hp1 hp2
      cases h
      obtain ⟨p, q, h1, h2, h3⟩ := eqVals_split n xs ys p2 hp2 (by simpa using hl)
      refine ⟨p1 && p, q, ?_, h2, by rw [h3, Bool.and_assoc]⟩
      simp only [List.take_succ_cons, eqVals, hp1, h1]
    · cases h

theorem eqVals_length : ∀ (xs ys : List Value) (r : Bool), eqVals xs ys = some r → xs.length = ys.length
  | [], [], _, _ => rfl
  | [], _ :: _, _, h => by simp [eqVals] at h
  | _ :: _, [], _, h => by simp [eqVals] at h
  | x :: xs, y :: ys, r, h => by
    simp only [eqVals] at h
    split at h
    · rename_i p1 p2 hp1 hp2
      simp [eqVals_length xs ys p2 hp2]
    · cases h

theorem scsOf_split : ∀ (s1 s2 : List Sc) (xs : List Value), scsOf (s1 ++ s2) xs = true → scsOf s1 (xs.take s1.length) = true ∧ scsOf s2 (xs.drop s1.length) = true
  | [], s2, xs, h => ⟨by simp [scsOf], by simpa using h⟩
  | s :: s1, s2, [], h => by simp [scsOf] at h
  | s :: s1, s2, x :: xs, h => by
    simp only [List.cons_append, scsOf, Bool.and_eq_true] at h
    obtain ⟨h1, h2⟩ := scsOf_split s1 s2 xs h.2
    exact ⟨by simp only [List.length_cons, List.take_succ_cons, scsOf, Bool.and_eq_true]; exact ⟨h.1, h1⟩, by simpa using h2⟩

theorem scsOf_length : ∀ (s : List Sc) (xs : List Value), scsOf s xs = true → xs.length = s.length
  | [], [], _ => rfl
  | [], _ :: _, h => by simp [scsOf] at h
  | _ :: _, [], h => by simp [scsOf] at h
  | s :: ss, x :: xs, h => by
    simp only [scsOf, Bool.and_eq_true] at h
    simp [scsOf_length ss xs h.2]

/-- Values of type t, of cells of these kinds, are compared cell by cell (from depth k on). -/
def FlatT (P : Program) (k : Nat) (t : TypeId) (sh : List Sc) : Prop :=
  ((∀ w, (isAgg t).run P w = .ok true w) ∧ (∀ w, (Go.sizeOf t).run P w = .ok sh.length w) ∧
    ∀ d (xs ys : Array Value) r w, scsOf sh xs.toList = true → scsOf sh ys.toList = true → eqVals xs.toList ys.toList = some r → (Op.equalIn (d + k) t (.agg xs) (.agg ys)).run P w = .ok r w) ∨
  ((∀ w, (isAgg t).run P w = .ok false w) ∧ ∃ s, sh = [s] ∧ ∀ d x y r w, scOf s x = true → scOf s y = true → eqVal x y = some r → (Op.equalIn (d + k) t x y).run P w = .ok r w)

theorem FlatT.int {P : Program} {t : TypeId} {k : IntKind} (h : P.underlying t = some (.int k)) (ha : ∀ w, (isAgg t).run P w = .ok false w) : FlatT P 1 t [.int k] := by
  refine .inr ⟨ha, _, rfl, fun d x y r w hx hy he => ?_⟩
  cases x <;> simp only [scOf, reduceCtorEq] at hx <;> try (cases hx; done)
  cases y <;> simp only [scOf, reduceCtorEq] at hy <;> try (cases hy; done)
  have e1 := ksame_eq hx; have e2 := ksame_eq hy
  subst e1 e2
  simp only [eqVal, if_true, Option.some.injEq] at he
  subst he
  exact run_equalIn_int w d t k k _ _ h

theorem FlatT.bool {P : Program} {t : TypeId} (h : P.underlying t = some .bool) (ha : ∀ w, (isAgg t).run P w = .ok false w) : FlatT P 1 t [.bool] := by
  refine .inr ⟨ha, _, rfl, fun d x y r w hx hy he => ?_⟩
  cases x <;> simp only [scOf, reduceCtorEq] at hx <;> try (cases hx; done)
  cases y <;> simp only [scOf, reduceCtorEq] at hy <;> try (cases hy; done)
  simp only [eqVal, Option.some.injEq] at he
  subst he
  exact run_equalIn_bool' w d t _ _ h

theorem FlatT.str {P : Program} {t : TypeId} (h : P.underlying t = some .string) (ha : ∀ w, (isAgg t).run P w = .ok false w) : FlatT P 1 t [.str] := by
  refine .inr ⟨ha, _, rfl, fun d x y r w hx hy he => ?_⟩
  cases x <;> simp only [scOf, reduceCtorEq] at hx <;> try (cases hx; done)
  cases y <;> simp only [scOf, reduceCtorEq] at hy <;> try (cases hy; done)
  simp only [eqVal, Option.some.injEq] at he
  subst he
  exact run_equalIn_string w d t _ _ h

theorem FlatT.more {P : Program} {k : Nat} {t : TypeId} {sh : List Sc} (h : FlatT P k t sh) (m : Nat) : FlatT P (k + m) t sh := by
  rcases h with ⟨h1, h2, h3⟩ | ⟨h1, s, h2, h3⟩
  · exact .inl ⟨h1, h2, fun d xs ys r w => by rw [show d + (k + m) = d + m + k by omega]; exact h3 (d + m) xs ys r w⟩
  · exact .inr ⟨h1, s, h2, fun d x y r w => by rw [show d + (k + m) = d + m + k by omega]; exact h3 (d + m) x y r w⟩

/-- The fields of a struct, one behind the other, none left out. -/
inductive FlatFs (P : Program) (k : Nat) : Nat → List Field → List Sc → Prop
  | nil (off : Nat) : FlatFs P k off [] []
  | cons {off : Nat} {f : Field} {fs : List Field} {s1 s2 : List Sc} (hn : f.name ≠ "_") (ho : f.offset = off) (hf : FlatT P k f.type s1) (h : FlatFs P k (off + s1.length) fs s2) : FlatFs P k off (f :: fs) (s1 ++ s2)

theorem eqFields_flat {P : Program} {k : Nat} (d : Nat) (xs ys : Array Value) : ∀ {off : Nat} {fs : List Field} {sh : List Sc}, FlatFs P k off fs sh → ∀ r w, scsOf sh (xs.toList.drop off) = true → scsOf sh (ys.toList.drop off) = true →
    eqVals (xs.toList.drop off) (ys.toList.drop off) = some r → (Op.eqFields (d + k) xs ys fs).run P w = .ok r w := by
  intro off fs sh h
  induction h with
  | nil off =>
    intro r w h1 h2 h3
    have e1 : xs.toList.drop off = [] := by cases h : xs.toList.drop off with | nil => rfl | cons _ _ => rw [h] at h1; simp [scsOf] at h1
    have e2 : ys.toList.drop off = [] := by cases h : ys.toList.drop off with | nil => rfl | cons _ _ => rw [h] at h2; simp [scsOf] at h2
    rw [e1, e2] at h3
    simp only [eqVals, Option.some.injEq] at h3
    subst h3
    simp [Op.eqFields]
  | @cons off f fs s1 s2 hn ho hf _ ih =>
    intro r w h1 h2 h3
    obtain ⟨a1, a2⟩ := scsOf_split s1 s2 _ h1
    obtain ⟨b1, b2⟩ := scsOf_split s1 s2 _ h2
    have hlx := scsOf_length _ _ h1
    have hly := scsOf_length _ _ h2
    simp only [List.length_append, List.length_drop, Array.length_toList] at hlx hly
    obtain ⟨p, q, c1, c2, rfl⟩ := eqVals_split s1.length _ _ r h3 (by simp; omega)
    rw [List.drop_drop] at a2 b2
    rw [List.drop_drop, List.drop_drop] at c2
    have hrest := ih q w a2 b2 c2
    have hfirst : ∃ x y, (Go.part f.type xs f.offset).run P w = .ok x w ∧ (Go.part f.type ys f.offset).run P w = .ok y w ∧ (Op.equalIn (d + k) f.type x y).run P w = .ok p w := by
      rcases hf with ⟨g1, g2, g3⟩ | ⟨g1, s, rfl, g3⟩
      · have ex : ∀ zs : Array Value, (zs.extract off (off + s1.length)).toList = (zs.toList.drop off).take s1.length := fun zs => by
          rw [Array.toList_extract, List.extract_eq_take_drop]
          congr 1; omega
        refine ⟨.agg (xs.extract off (off + s1.length)), .agg (ys.extract off (off + s1.length)), by simp [Go.part, g1, g2, ho], by simp [Go.part, g1, g2, ho], g3 d _ _ p w ?_ ?_ ?_⟩
        · rw [ex]; exact a1
        · rw [ex]; exact b1
        · rw [ex, ex]; exact c1
      · have hx : off < xs.size := by simp at hlx; omega
        have hy : off < ys.size := by simp at hly; omega
        have tx : (xs.toList.drop off).take 1 = [xs[off]] := by
          rw [List.drop_eq_getElem_cons (by simpa using hx)]; simp
        have ty : (ys.toList.drop off).take 1 = [ys[off]] := by
          rw [List.drop_eq_getElem_cons (by simpa using hy)]; simp
        simp only [List.length_singleton] at a1 b1 c1
        rw [tx] at a1; rw [ty] at b1; rw [tx, ty] at c1
        simp only [scsOf, Bool.and_true] at a1 b1
        have c1' : eqVal xs[off] ys[off] = some p := by
          simp only [eqVals] at c1
          split at c1
          · rename_i p1 q1 hp1 hq1; cases hq1; simpa [hp1] using c1
          · cases c1
        exact ⟨xs[off], ys[off], by simp [Go.part, g1, ho, hx], by simp [Go.part, g1, ho, hy], g3 d _ _ p w a1 b1 c1'⟩
    obtain ⟨x, y, h4, h5, h6⟩ := hfirst
    simp only [Op.eqFields, if_pos hn, Sem.run_bind, h4, h5, h6, Result.andThen_ok, Sem.run_ite]
    cases p
    · simp
    · simp [hrest]

theorem FlatT.struct {P : Program} {k : Nat} {t : TypeId} {fs : Array Field} {sh : List Sc} (h : P.underlying t = some (.struct fs)) (hp : P.stoodInHeld t = false) (ha : ∀ w, (isAgg t).run P w = .ok true w) (hs : ∀ w, (Go.sizeOf t).run P w = .ok sh.length w)
    (hf : FlatFs P k 0 fs.toList sh) : FlatT P (k + 1) t sh := by
  refine .inl ⟨ha, hs, fun d xs ys r w h1 h2 h3 => ?_⟩
  have hfs : P.fieldsOf t = fs := by simp [Program.fieldsOf, h]
  rw [show d + (k + 1) = d + k + 1 by omega, run_equalIn_struct w (d + k) t xs ys (by rw [hfs]; exact h) hp, hfs]
  exact eqFields_flat d xs ys hf r w (by simpa using h1) (by simpa using h2) (by simpa using h3)

theorem FlatT.equal {P : Program} {t : TypeId} {sh : List Sc} {k : Nat} (h : FlatT P k t sh) (hk : k ≤ 10000) (hagg : ∀ w, (isAgg t).run P w = .ok true w) (xs ys : Array Value) (r : Bool) (w : World) (h1 : scsOf sh xs.toList = true) (h2 : scsOf sh ys.toList = true)
    (h3 : eqVals xs.toList ys.toList = some r) : (Op.equal t (.agg xs) (.agg ys)).run P w = .ok r w := by
  rcases h with ⟨_, _, g⟩ | ⟨g, _⟩
  · have := g (10000 - k) xs ys r w h1 h2 h3
    rw [show 10000 - k + k = 10000 by omega] at this
    exact this
  · have := g w; rw [hagg w] at this; cases this


theorem scsOf_rep (s : Sc) : ∀ (n : Nat) (xs : List Value), scsOf (List.replicate n s) xs = true → ∀ i (h : i < xs.length), scOf s xs[i] = true
  | 0, [], _, i, h => by simp at h
  | 0, _ :: _, h, _, _ => by simp [scsOf] at h
  | _ + 1, [], _, i, h => by simp at h
  | n + 1, x :: xs, h, i, hi => by
    simp only [List.replicate_succ, scsOf, Bool.and_eq_true] at h
    cases i with
    | zero => exact h.1
    | succ i => exact scsOf_rep s n xs h.2 i (by simpa using hi)

theorem eqVals_cons {x y : Value} {xs ys : List Value} {r : Bool} (h : eqVals (x :: xs) (y :: ys) = some r) (hne : xs ≠ []) : ∃ p q, eqVal x y = some p ∧ eqVals xs ys = some q ∧ r = (p && q) := by
  have h' : eqVals (([x] : List Value) ++ xs) (([y] : List Value) ++ ys) = some r := h
  obtain ⟨p, q, c1, c2, e⟩ := eqVals_split 1 _ _ r h' (by simp)
  refine ⟨p, q, ?_, by simpa using c2, e⟩
  simp only [List.take_succ_cons, List.take_zero, List.singleton_append] at c1
  simp only [eqVals] at c1
  split at c1
  · rename_i p1 q1 hp1 hq1; cases hq1; simpa [hp1] using c1
  · cases c1

/-- Arrays of scalars are compared cell by cell. -/
theorem FlatT.array {P : Program} {k n : Nat} {t e : TypeId} {s : Sc} (h : P.underlying t = some (.array n e)) (ha : ∀ w, (isAgg t).run P w = .ok true w) (hs : ∀ w, (Go.sizeOf t).run P w = .ok n w)
    (hse : ∀ w, (Go.sizeOf e).run P w = .ok 1 w) (hae : ∀ w, (isAgg e).run P w = .ok false w) (he : FlatT P k e [s]) : FlatT P (k + 1) t (List.replicate n s) := by
  refine .inl ⟨ha, by simpa using hs, fun d xs ys r w h1 h2 h3 => ?_⟩
  obtain ⟨i, hi⟩ : ∃ i, P.info? e = some i := by
    cases hi : P.info? e with
    | none => have := hse w; simp [Go.sizeOf, typeInfo, hi] at this
    | some i => exact ⟨i, rfl⟩
  have hc : P.cellsOf e = 1 := by
    have h1 := hse w
    rw [run_sizeOf w hi] at h1
    exact (Result.ok.inj h1).1
  rw [show d + (k + 1) = d + k + 1 by omega, run_equalIn_array w (d + k) xs ys h hi, hc]
  have hlx := scsOf_length _ _ h1
  have hly := scsOf_length _ _ h2
  rw [List.length_replicate] at hlx hly
  have g : ∀ x y r w, scOf s x = true → scOf s y = true → eqVal x y = some r → (Op.equalIn (d + k) e x y).run P w = .ok r w := by
    rcases he with ⟨g, _⟩ | ⟨_, s', hs', g⟩
    · have := g w; rw [hae w] at this; cases this
    · obtain rfl : s = s' := by simpa using hs'
      exact fun x y r w => g d x y r w
  have main : ∀ (m i : Nat), i + m = n → ∀ r, eqVals (xs.toList.drop i) (ys.toList.drop i) = some r → (Op.eqItems (d + k) e 1 xs ys (List.range' i m)).run P w = .ok r w := by
    intro m
    induction m with
    | zero =>
      intro i hin r h3
      rw [List.drop_of_length_le (by omega), List.drop_of_length_le (by omega)] at h3
      simp only [eqVals, Option.some.injEq] at h3
      subst h3
      simp [Op.eqItems]
    | succ m ih =>
      intro i hin r h3
      have hix : i < xs.toList.length := by omega
      have hiy : i < ys.toList.length := by omega
      rw [List.drop_eq_getElem_cons hix, List.drop_eq_getElem_cons hiy] at h3
      have px : (Go.part e xs (i * 1)).run P w = .ok xs.toList[i] w := by
        have : i < xs.size := by simpa using hix
        simp [Go.part, hae, this]
      have py : (Go.part e ys (i * 1)).run P w = .ok ys.toList[i] w := by
        have : i < ys.size := by simpa using hiy
        simp [Go.part, hae, this]
      have sx := scsOf_rep s n xs.toList h1 i hix
      have sy := scsOf_rep s n ys.toList h2 i hiy
      rw [List.range'_succ]
      simp only [Op.eqItems, Sem.run_bind, px, py, Result.andThen_ok]
      by_cases hm : m = 0
      · subst hm
        rw [List.drop_of_length_le (show xs.toList.length ≤ i + 1 by omega), List.drop_of_length_le (show ys.toList.length ≤ i + 1 by omega)] at h3
        have hp : eqVal xs.toList[i] ys.toList[i] = some r := by
          simp only [eqVals] at h3
          split at h3
          · rename_i p1 q1 hp1 hq1
            cases hq1
            rw [hp1]; simpa using h3
          · cases h3
        rw [g _ _ r w sx sy hp]
        cases r <;> simp [Op.eqItems]
      · obtain ⟨p, q, hp, hq, rfl⟩ := eqVals_cons h3 (by
          intro e0
          have := congrArg List.length e0
          simp only [List.length_drop, List.length_nil] at this
          omega)
        rw [g _ _ p w sx sy hp]
        have := ih (i + 1) (by omega) q hq
        cases p
        · simp
        · simp [this]
  rw [List.range_eq_range']
  exact main n 0 (by omega) r (by simpa using h3)

end Vm
