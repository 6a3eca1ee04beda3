/-
  What the interpreter says of one operation is so: the operations that make nothing and write nothing.
-/
import Derived.Test.YthnlknegnlmklaaVm2
set_option linter.all false
namespace Vm
open Go Go.RowKit
variable {A : Nat → Type}

def DenA (c : Cfg A) (S : Fz) (σ : Nat → Loc) (w : World) (cs : List (V A)) (xs : Array Value) : Prop :=
  xs.size = cs.length ∧ ∀ i (hi : i < cs.length), Den c S σ w cs[i] (xs.getD i undef)

section
variable {c : Cfg A} {S : Fz} {σ : Nat → Loc} {w : World}

theorem den_ofCell (x : Value) : Den c S σ w (ofCell x) x := by
  unfold ofCell; split <;> constructor

theorem den_ofValue (x : Value) : Den c S σ w (ofValue x) x := by
  unfold ofValue
  split
  · constructor
  · constructor
  · constructor
  · rename_i cs
    refine .agg _ _ (by simp) fun i hi => ?_
    have hi' : i < cs.size := by simpa using hi
    simp only [List.getElem_map, Array.getElem_toList]
    rw [show cs.getD i undef = cs[i] by simp [hi']]
    exact den_ofCell _
  · exact .fn _
  · constructor

theorem sub_holds {a : Act} {g' g : Chain} (h : sub g' g = true) (hg : Holds a g) : Holds a g' := by
  have hin : ∀ p g, inChain p g = true → p ∈ g := by
    intro p g
    induction g with
    | nil => simp [inChain]
    | cons q g ih =>
      simp only [inChain, Bool.or_eq_true, Bool.and_eq_true]
      rintro (⟨h1, h2⟩ | h)
      · have e1 : p.1 = q.1 := by simpa using h1
        have e2 : p.2 = q.2 := by
          obtain ⟨p1, p2⟩ := p
          obtain ⟨q1, q2⟩ := q
          cases p2 <;> cases q2 <;> simp_all [bsame]
        have : p = q := by cases p; cases q; simp_all
        simp [this]
      · exact List.mem_cons_of_mem _ (ih h)
  induction g' with
  | nil => intro p hp; cases hp
  | cons q g' ih =>
    simp only [sub, Bool.and_eq_true] at h
    intro p hp
    cases hp with
    | head => exact hg _ (hin _ _ h.1)
    | tail _ hm => exact ih h.2 p hm

theorem opv_den {n : Nat} {w0 : W1} {S0 : Nat → Prop} {lk : K → Option (Ent A)} {a : Act} (hR : RelAt c n w0 S0 S σ lk a w) {E : Env A} (hE : ∀ k e, look k E = some e → lk k = some e)
    {g : Chain} (hg : Holds a g) {x : Operand} {v : V A} (h : opv E g x = some v) : Den c S σ w v (a.eval x) := by
  cases x with
  | tmp t =>
    simp only [opv] at h
    split at h
    · rename_i g' v' hl
      split at h
      · rename_i hs
        cases h
        cases hj : v.isJunk with
        | true => cases v <;> first | exact .junk _ | cases hj
        | false => exact (hR.slot t g' v (hE _ _ hl) hj).2.1 (sub_holds hs hg)
      · cases h
    · cases h
  | const u => simp only [opv, Option.some.injEq] at h; subst h; exact den_ofValue u
  | func f => simp only [opv, Option.some.injEq] at h; subst h; exact .fn f
  | global g => simp [opv] at h

theorem Den.of_int {k : IntKind} {n : Int} {x : Value} (h : Den c S σ w (.int k n) x) : x = .int k n := by cases h; rfl
theorem Den.of_bool {b : Bool} {x : Value} (h : Den c S σ w (.bool b) x) : x = .bool b := by cases h; rfl
theorem Den.of_str {s : ByteArray} {x : Value} (h : Den c S σ w (.str s) x) : x = .string s := by cases h; rfl
theorem Den.of_fn {f : Nat} {x : Value} (h : Den c S σ w (.fn f) x) : x = .func (.func f) #[] #[] := by cases h; rfl
theorem Den.of_raw {y x : Value} (h : Den c S σ w (.raw y) x) : x = y := by cases h; rfl
theorem Den.of_agg {cs : List (V A)} {x : Value} (h : Den c S σ w (.agg cs) x) : ∃ xs, x = .agg xs ∧ DenA c S σ w cs xs := by cases h with | agg _ xs hl h => exact ⟨xs, rfl, hl, h⟩
theorem Den.of_tup {cs : List (V A)} {x : Value} (h : Den c S σ w (.tup cs) x) : ∃ xs, x = .tuple xs ∧ DenA c S σ w cs xs := by cases h with | tup _ xs hl h => exact ⟨xs, rfl, hl, h⟩
theorem Den.of_ptr {id off : Nat} {x : Value} (h : Den c S σ w (.ptr id off) x) : x = .pointer (some ⟨(σ id).blk, off, none⟩) := by cases h; rfl

theorem ksame_eq {k k' : IntKind} (h : ksame k k' = true) : k = k' := by
  cases k <;> cases k' <;> first | rfl | simp [ksame] at h

/-- Less is told of a list's memory. -/
inductive Less : V A → V A → Prop
  | refl (v : V A) : Less v v
  | list (t : Nat) (f f' : Bool) (l : List (A t)) (h : f' = true → f = true) : Less (.list t f l) (.list t f' l)
  | arr (t : Nat) (f f' : Bool) (n : Nat) (l : List (A t)) (h : f' = true → f = true) : Less (.arr t f n l) (.arr t f' n l)

theorem less_frs {f f' : Bool} (h : f' = true → f = true) (v : V A) : Less (frs f v) (frs f' v) := by
  cases v <;> simp only [frs] <;> try exact .refl _
  exact .list _ _ _ _ (fun e => by simp only [Bool.or_eq_true] at e ⊢; rcases e with e | e; exact .inl (h e); exact .inr e)

theorem Den.less (hS : ∀ b, S true b → S false b) {v : V A} {x : Value} (h : Den c S σ w v x) : ∀ {v' : V A}, Less v v' → Den c S σ w v' x := by
  have hSf : ∀ {f f' : Bool} {b}, (f' = true → f = true) → S f b → S f' b := by
    intro f f' b hf h
    cases f' with
    | true => rw [hf rfl] at h; exact h
    | false => cases f with | true => exact hS b h | false => exact h
  have nested : ∀ {t : Nat} {f f' : Bool} (h : f' = true → f = true) (a : A t) (q : Nat) (hq : q < (encF c t f' a).length) (hq2 : q < (encF c t f a).length), Less (encF c t f a)[q] (encF c t f' a)[q] := by
    intro t f f' h a q hq hq2
    simp only [encF, mapV_eq, List.getElem_map]
    exact less_frs h _
  have len : ∀ {t : Nat} {f f' : Bool} (a : A t), (encF c t f a).length = (encF c t f' a).length := fun a => by rw [encF_length, encF_length]
  induction h with
  | list t f l p cap b x hp hcap hSb hn he hcell hd ih =>
    intro v' hl
    cases hl with
    | refl => exact .list t f l p cap b x hp hcap hSb hn he hcell hd
    | list _ _ f' _ hf =>
      exact .list t f' l p cap b x hp hcap (fun hne => hSf hf (hSb hne)) hn he hcell (fun j q hj hq => ih j q hj (by rw [len l[j] (f' := f')]; exact hq) (nested hf _ _ _ _))
  | arr t f n l xs hl' he hx hd ih =>
    intro v' hl
    cases hl with
    | refl => exact .arr t f n l xs hl' he hx hd
    | arr _ _ f' _ _ hf =>
      exact .arr t f' n l xs hl' he hx (fun j q hj hq => ih j q hj (by rw [len l[j] (f' := f')]; exact hq) (nested hf _ _ _ _))
  | agg cs xs hl h ih => intro v' hl'; cases hl'; exact .agg cs xs hl h
  | tup cs xs hl h ih => intro v' hl'; cases hl'; exact .tup cs xs hl h
  | clo f fs cs xs ys hl h hl2 h' ih ih' => intro v' hl'; cases hl'; exact .clo f fs cs xs ys hl h hl2 h'
  | eptr t fr a off b x hSb he hcell hd ih => intro v' hl'; cases hl'; exact .eptr t fr a off b x hSb he hcell hd
  | optr id t i off hi => intro v' hl'; cases hl'; exact .optr id t i off hi
  | cmap k fr l b es ck hSb hb he => intro v' hl'; cases hl'; exact .cmap k fr l b es ck hSb hb he
  | _ => intro v' hl'; cases hl'; constructor

theorem den_nil {t : Nat} {f : Bool} (p : Option Addr) (cap : Nat) : Den c S σ w (.list t f ([] : List (A t))) (.slice p 0 cap) :=
  Den.list t f [] p cap ⟨0, 0, none⟩ (fun _ _ => undef) (fun h => absurd rfl h) (Nat.zero_le _) (fun h => absurd rfl h) (fun h => absurd rfl h) (fun j hj => absurd hj (Nat.not_lt_zero _)) (fun j q hj => absurd hj (Nat.not_lt_zero _)) (fun j q hj => absurd hj (Nat.not_lt_zero _))

theorem Den.mergeS (hS : ∀ b, S true b → S false b) {b : Bool} {v v' : V A} {x : Value} (h : if b then Den c S σ w v x else Den c S σ w v' x) : Den c S σ w (mergeS b v v') x := by
  unfold Vm.mergeS
  split
  · rename_i k n k' m
    cases hk : ksame k k' with
    | false => exact .junk _
    | true =>
      have := ksame_eq hk
      subst this
      cases b <;> exact h
  · cases b <;> exact h
  · cases b <;> exact h
  · cases b <;> exact h
  · rename_i t f l t' f' l'
    split
    · rename_i e _
      subst e
      cases b
      · exact Den.less hS (v := .list t f' l') (by simpa using h) (.list _ _ _ _ (by cases f <;> cases f' <;> simp))
      · exact Den.less hS (v := .list t f l) (by simpa using h) (.list _ _ _ _ (by cases f <;> cases f' <;> simp))
    · exact .junk _
  · rename_i t f l
    cases b
    · have := Den.of_raw (c := c) (S := S) (σ := σ) (w := w) (by simpa using h); subst this; exact den_nil _ _
    · simpa using h
  · rename_i t f l
    cases b
    · simpa using h
    · have := Den.of_raw (c := c) (S := S) (σ := σ) (w := w) (by simpa using h); subst this; exact den_nil _ _
  · rename_i t f n l t' f' n' l'
    split
    · rename_i e _ hn
      subst e
      have : n = n' := by simpa using hn
      subst this
      cases b
      · exact Den.less hS (v := .arr t f' n l') (by simpa using h) (.arr _ _ _ _ _ (by cases f <;> cases f' <;> simp))
      · exact Den.less hS (v := .arr t f n l) (by simpa using h) (.arr _ _ _ _ _ (by cases f <;> cases f' <;> simp))
    · exact .junk _
  · rename_i i o j p
    split
    · rename_i hb
      have : i = j ∧ o = p := by simpa using hb
      obtain ⟨rfl, rfl⟩ := this
      cases b <;> exact h
    · exact .junk _
  · rename_i f f'
    split
    · rename_i hf
      have : f = f' := by simpa using hf
      subst this
      cases b <;> exact h
    · exact .junk _
  · rename_i f
    cases b
    · have := Den.of_raw (c := c) (S := S) (σ := σ) (w := w) (by simpa using h); subst this; exact .sfn [(false, f)]
    · have := Den.of_fn (c := c) (S := S) (σ := σ) (w := w) (by simpa using h); subst this; exact .sfn [(true, f)]
  · rename_i f l
    cases b
    · have h' : Den c S σ w (.sfn l) x := by simpa using h
      cases h'
      exact .sfn ((false, f) :: l)
    · have := Den.of_fn (c := c) (S := S) (σ := σ) (w := w) (by simpa using h); subst this; exact .sfn ((true, f) :: l)
  · rename_i i j
    split
    · rename_i hb
      have : i = j := by simpa using hb
      subst this
      cases b <;> exact h
    · exact .junk _
  · rename_i t f n l t' f' n' l'
    split
    · cases b <;> cases h
    · exact .junk _
  · exact .junk _

theorem mergeL_den (hS : ∀ b, S true b → S false b) {b : Bool} : ∀ {cs ds : List (V A)} {l : List (V A)} {xs : Array Value}, mergeL b cs ds = some l → (if b then DenA c S σ w cs xs else DenA c S σ w ds xs) → DenA c S σ w l xs := by
  have key : ∀ (cs ds l : List (V A)), mergeL b cs ds = some l → cs.length = l.length ∧ ds.length = l.length ∧ ∀ i (hi : i < l.length) (h1 : i < cs.length) (h2 : i < ds.length), l[i] = mergeS b cs[i] ds[i] := by
    intro cs
    induction cs with
    | nil => intro ds l h; cases ds <;> simp [mergeL] at h; subst h; simp
    | cons x cs ih =>
      intro ds l h
      cases ds with
      | nil => simp [mergeL] at h
      | cons y ds =>
        simp only [mergeL] at h
        split at h
        · rename_i l' hl'
          cases h
          obtain ⟨h1, h2, h3⟩ := ih ds l' hl'
          refine ⟨by simp [h1], by simp [h2], fun i hi h4 h5 => ?_⟩
          cases i with
          | zero => rfl
          | succ i => simpa using h3 i (by simpa using hi) (by simpa using h4) (by simpa using h5)
        · cases h
  intro cs ds l xs h hd
  obtain ⟨h1, h2, h3⟩ := key cs ds l h
  refine ⟨by cases b <;> simp_all [DenA], fun i hi => ?_⟩
  rw [h3 i hi (by omega) (by omega)]
  refine Den.mergeS hS ?_
  cases b
  · exact hd.2 i (by omega)
  · exact hd.2 i (by omega)

theorem Den.merge (hS : ∀ b, S true b → S false b) {b : Bool} {v v' : V A} {x : Value} (h : if b then Den c S σ w v x else Den c S σ w v' x) : Den c S σ w (merge b v v') x := by
  unfold Vm.merge
  split
  · rename_i cs ds
    split
    · rename_i l hl
      cases b
      · obtain ⟨xs, rfl, hd⟩ := Den.of_agg h
        have := mergeL_den hS hl (xs := xs) hd
        exact .agg _ _ this.1 this.2
      · obtain ⟨xs, rfl, hd⟩ := Den.of_agg h
        have := mergeL_den hS hl (xs := xs) hd
        exact .agg _ _ this.1 this.2
    · exact .junk _
  · rename_i cs ds
    split
    · rename_i l hl
      cases b
      · obtain ⟨xs, rfl, hd⟩ := Den.of_tup h
        have := mergeL_den hS hl (xs := xs) hd
        exact .tup _ _ this.1 this.2
      · obtain ⟨xs, rfl, hd⟩ := Den.of_tup h
        have := mergeL_den hS hl (xs := xs) hd
        exact .tup _ _ this.1 this.2
    · exact .junk _
  · exact Den.mergeS hS h

theorem sfn_one : ∀ l : List (Bool × Nat), (sfnVal l).oneCell' = true
  | [] => rfl
  | (true, _) :: _ => rfl
  | (false, _) :: l => sfn_one l

theorem cells_den {v : V A} {cs : List (V A)} {x : Value} (h : cellsOf v = some cs) (hd : Den c S σ w v x) : DenA c S σ w cs x.cells ∧ (∀ i (hi : i < cs.length), (cs[i]).isJunk = false) ∨ ∃ ds, v = .agg ds ∧ cs = ds ∧ DenA c S σ w cs x.cells := by
  have one : ∀ (u : V A), Den c S σ w u x → x.oneCell' = true → DenA c S σ w [u] x.cells := fun u hu hx => by
    have : x.cells = #[x] := by cases x <;> simp_all [Value.cells, Value.oneCell']
    rw [this]
    exact ⟨rfl, fun i hi => by simp at hi; subst hi; exact hu⟩
  cases v with
  | agg ds =>
    simp only [cellsOf, Option.some.injEq] at h
    subst h
    obtain ⟨xs, rfl, hxs⟩ := hd.of_agg
    exact .inr ⟨ds, rfl, rfl, hxs⟩
  | tup _ => simp [cellsOf] at h
  | junk => simp [cellsOf] at h
  | rowc _ _ _ _ => simp [cellsOf] at h
  | arr _ _ _ _ => simp [cellsOf] at h
  | olist _ _ _ => simp [cellsOf] at h
  | ref _ => simp [cellsOf] at h
  | raw y =>
    simp only [cellsOf] at h
    split at h
    · rename_i hy
      cases h
      have := hd.of_raw
      subst this
      exact .inl ⟨one _ hd hy, fun i hi => by simp at hi; subst hi; rfl⟩
    · cases h
  | sfn l =>
    simp only [cellsOf, Option.some.injEq] at h
    subst h
    exact .inl ⟨one _ hd (by cases hd; exact sfn_one l), fun i hi => by simp at hi; subst hi; rfl⟩
  | _ =>
    simp only [cellsOf, Option.some.injEq] at h
    subst h
    exact .inl ⟨one _ hd (by cases hd <;> rfl), fun i hi => by simp at hi; subst hi; rfl⟩

theorem cells_den' {v : V A} {cs : List (V A)} {x : Value} (h : cellsOf v = some cs) (hd : Den c S σ w v x) : DenA c S σ w cs x.cells := by
  rcases cells_den h hd with ⟨h1, _⟩ | ⟨_, _, _, h1⟩ <;> exact h1

theorem Den.one {v : V A} {x : Value} (h : Den c S σ w v x) (h1 : one v = true) : x.oneCell' = true := by
  cases h <;> first | exact sfn_one _ | simp_all [Vm.one, Value.oneCell']

theorem allFr0_v {v : V A} (h : allFr0 v = true) : allFr v = true := by cases v <;> simp_all [allFr0, allFr]
theorem allFr1_v {v : V A} (h : allFr1 v = true) : allFr v = true := by
  cases v with
  | tup cs => simp [allFr1, allFr0] at h
  | _ => exact h

/-- What is new in all its parts hangs on nothing old. -/
theorem Den.fresh (hc : CfgOk c) {v : V A} {x : Value} (h : Den c S σ w v x) (hf : allFr v = true) : Den c (fun _ => S true) σ w v x := by
  have henc : ∀ {t : Nat} (a : A t) (q : Nat) (hq : q < (encF c t true a).length), allFr (encF c t true a)[q] = true := by
    intro t a q hq
    simp only [encF, mapV_eq, List.getElem_map]
    exact allFr0_v (all_mem (hc.fresh t a) _ (List.getElem_mem _))
  induction h with
  | list t f l p cap b x hp hcap hSb hn he hcell hd ih =>
    have : f = true := hf
    subst this
    exact .list t true l p cap b x hp hcap hSb hn he hcell (fun j q hj hq => ih j q hj hq (henc _ _ _))
  | arr t f n l xs hl he hx hd ih =>
    have : f = true := hf
    subst this
    exact .arr t true n l xs hl he hx (fun j q hj hq => ih j q hj hq (henc _ _ _))
  | agg cs xs hl h ih => exact .agg cs xs hl fun i hi => ih i hi (allFr0_v (all_mem (p := allFr0) hf _ (List.getElem_mem hi)))
  | tup cs xs hl h ih => exact .tup cs xs hl fun i hi => ih i hi (allFr1_v (all_mem (p := allFr1) hf _ (List.getElem_mem hi)))
  | clo f fs cs xs ys hl h hl2 h' ih ih' => simp [allFr, allFr0] at hf
  | cmap k fr l b es ck hSb hb he =>
    have : fr = true := hf
    subst this
    exact .cmap k true l b es ck hSb hb he
  | eptr t fr a off b x hSb he hcell hd ih => simp [allFr, allFr0] at hf
  | optr id t i off hi => simp [allFr, allFr0] at hf
  | own id => simp [allFr, allFr0] at hf
  | ptr id off => simp [allFr, allFr0] at hf
  | _ => constructor

theorem less_dim (v : V A) : Less v (dim0 v) := by
  cases v <;> simp only [dim0] <;> try exact .refl _
  · exact .list _ _ _ _ (fun h => by cases h)
  · exact .arr _ _ _ _ _ (fun h => by cases h)

/-- A cell is as new as it is told to be. -/
theorem less_frs_dim {f : Bool} {v : V A} (h : f = true → allFr0 v = true) : Less v (frs f (dim0 v)) := by
  cases v <;> simp only [dim0, frs] <;> try exact .refl _
  · exact .list _ _ _ _ (fun e => by simp only [Bool.or_false] at e; exact h e)
  · exact .arr _ _ _ _ _ (fun h => by cases h)

theorem fitCells_den : ∀ (l : List (Nat × Nat)) {cs : List (V A)} {xs : Array Value}, DenA c S σ w cs xs → DenA c S σ w (fitCells l cs) xs
  | [], _, _, h => h
  | (o, e) :: l, cs, xs, h => by
    simp only [fitCells]
    split
    · rename_i hn
      refine fitCells_den l ⟨by simpa using h.1, fun i hi => ?_⟩
      have hi' : i < cs.length := by simpa using hi
      by_cases ho : o = i
      · subst ho
        rw [nth_eq, List.getElem?_eq_getElem hi'] at hn
        have := h.2 o hi'
        rw [Option.some.inj hn] at this
        rw [List.getElem_set_self, this.of_raw]
        exact den_nil _ _
      · rw [List.getElem_set_ne ho]; exact h.2 i hi'
    · exact fitCells_den l h

theorem fit_den {t : Nat} {v : V A} {x : Value} (h : Den c S σ w v x) : Den c S σ w (fitArg c t v) x := by
  unfold fitArg
  split
  · split
    · have := h.of_raw; subst this
      exact den_nil _ _
    · exact h
  · split
    · exact h
    · obtain ⟨xs, rfl, hxs⟩ := h.of_agg
      have := fitCells_den (c.ty t).slc hxs
      exact .agg _ _ this.1 this.2
  · exact h

end
end Vm
