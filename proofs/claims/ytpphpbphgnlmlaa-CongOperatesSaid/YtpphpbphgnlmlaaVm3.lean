/-
  What the interpreter says of one operation is so: the operations that make nothing and write nothing.
-/
import Derived.Test.YtpphpbphgnlmlaaVm2
set_option linter.all false
namespace Vm
open Go Go.RowKit
variable {A : Nat → Type}

def DenA (c : Cfg A) (S : Nat → Prop) (σ : Nat → Loc) (w : World) (cs : List (V A)) (xs : Array Value) : Prop :=
  xs.size = cs.length ∧ ∀ i (hi : i < cs.length), Den c S σ w cs[i] (xs.getD i undef)

section
variable {c : Cfg A} {S : Nat → Prop} {σ : Nat → Loc} {w : World}

theorem den_ofCell (x : Value) : Den c S σ w (ofCell x) x := by
  unfold ofCell; split <;> constructor

theorem den_ofValue (x : Value) : Den c S σ w (ofValue x) x := by
  unfold ofValue
  split
  · constructor
  · constructor
  · constructor
  · rename_i cs
    refine .agg _ _ (by simp) fun i hi => ?_
    have hi' : i < cs.size := by simpa using hi
    simp only [List.getElem_map, Array.getElem_toList]
    rw [show cs.getD i undef = cs[i] by simp [hi']]
    exact den_ofCell _
  · exact .fn _
  · constructor

theorem sub_holds {a : Act} {g' g : Chain} (h : sub g' g = true) (hg : Holds a g) : Holds a g' := by
  have hin : ∀ p g, inChain p g = true → p ∈ g := by
    intro p g
    induction g with
    | nil => simp [inChain]
    | cons q g ih =>
      simp only [inChain, Bool.or_eq_true, Bool.and_eq_true]
      rintro (⟨h1, h2⟩ | h)
      · have e1 : p.1 = q.1 := by simpa using h1
        have e2 : p.2 = q.2 := by
          obtain ⟨p1, p2⟩ := p
          obtain ⟨q1, q2⟩ := q
          cases p2 <;> cases q2 <;> simp_all [bsame]
        have : p = q := by cases p; cases q; simp_all
        simp [this]
      · exact List.mem_cons_of_mem _ (ih h)
  induction g' with
  | nil => intro p hp; cases hp
  | cons q g' ih =>
    simp only [sub, Bool.and_eq_true] at h
    intro p hp
    cases hp with
    | head => exact hg _ (hin _ _ h.1)
    | tail _ hm => exact ih h.2 p hm

theorem opv_den {n : Nat} {w0 : World} {S0 : Nat → Prop} {lk : K → Option (Ent A)} {a : Act} (hR : RelAt c n w0 S0 S σ lk a w) {E : Env A} (hE : ∀ k e, look k E = some e → lk k = some e)
    {g : Chain} (hg : Holds a g) {x : Operand} {v : V A} (h : opv E g x = some v) : Den c S σ w v (a.eval x) := by
  cases x with
  | tmp t =>
    simp only [opv] at h
    split at h
    · rename_i g' v' hl
      split at h
      · rename_i hs
        cases h
        cases hj : v.isJunk with
        | true => cases v <;> first | exact .junk _ | cases hj
        | false => exact (hR.slot t g' v (hE _ _ hl) hj).2.1 (sub_holds hs hg)
      · cases h
    · cases h
  | const u => simp only [opv, Option.some.injEq] at h; subst h; exact den_ofValue u
  | func f => simp only [opv, Option.some.injEq] at h; subst h; exact .fn f
  | global g => simp [opv] at h

theorem Den.of_int {k : IntKind} {n : Int} {x : Value} (h : Den c S σ w (.int k n) x) : x = .int k n := by cases h; rfl
theorem Den.of_bool {b : Bool} {x : Value} (h : Den c S σ w (.bool b) x) : x = .bool b := by cases h; rfl
theorem Den.of_str {s : ByteArray} {x : Value} (h : Den c S σ w (.str s) x) : x = .string s := by cases h; rfl
theorem Den.of_fn {f : Nat} {x : Value} (h : Den c S σ w (.fn f) x) : x = .func (.func f) #[] #[] := by cases h; rfl
theorem Den.of_raw {y x : Value} (h : Den c S σ w (.raw y) x) : x = y := by cases h; rfl
theorem Den.of_agg {cs : List (V A)} {x : Value} (h : Den c S σ w (.agg cs) x) : ∃ xs, x = .agg xs ∧ DenA c S σ w cs xs := by cases h with | agg _ xs hl h => exact ⟨xs, rfl, hl, h⟩
theorem Den.of_tup {cs : List (V A)} {x : Value} (h : Den c S σ w (.tup cs) x) : ∃ xs, x = .tuple xs ∧ DenA c S σ w cs xs := by cases h with | tup _ xs hl h => exact ⟨xs, rfl, hl, h⟩
theorem Den.of_ptr {id off : Nat} {x : Value} (h : Den c S σ w (.ptr id off) x) : x = .pointer (some ⟨(σ id).blk, off, none⟩) := by cases h; rfl

theorem ksame_eq {k k' : IntKind} (h : ksame k k' = true) : k = k' := by
  cases k <;> cases k' <;> first | rfl | simp [ksame] at h

theorem Den.mergeS {b : Bool} {v v' : V A} {x : Value} (h : if b then Den c S σ w v x else Den c S σ w v' x) : Den c S σ w (mergeS b v v') x := by
  cases v <;> cases v' <;> simp only [Vm.mergeS] <;> try exact .junk _
  · rename_i k n k' m
    cases hk : ksame k k' with
    | false => exact .junk _
    | true =>
      have := ksame_eq hk
      subst this
      cases b <;> exact h
  · cases b <;> exact h
  · cases b <;> exact h
  · rename_i f f'
    cases hf : Nat.beq f f' with
    | false => exact .junk _
    | true =>
      have : f = f' := by simpa using hf
      subst this
      cases b <;> exact h
  · cases b <;> exact h
  · rename_i t f l t' f' l'
    cases hd : decEq t t' with
    | isFalse _ => exact .junk _
    | isTrue e =>
      subst e
      cases b
      · cases h with
        | list _ _ _ p cap b x hp hcap hf hSb hn he hcell hd => exact .list t _ _ p cap b x hp hcap (fun h => hf (by simpa using (by cases f <;> simp_all))) hSb hn he hcell hd
      · cases h with
        | list _ _ _ p cap b x hp hcap hf hSb hn he hcell hd => exact .list t _ _ p cap b x hp hcap (fun h => hf (by simpa using (by cases f <;> simp_all))) hSb hn he hcell hd
  · rename_i i o j p
    cases hb : (Nat.beq i j).and (Nat.beq o p) with
    | false => exact .junk _
    | true =>
      have : i = j ∧ o = p := by simpa using hb
      obtain ⟨rfl, rfl⟩ := this
      cases b <;> exact h
  · rename_i i j
    cases hb : Nat.beq i j with
    | false => exact .junk _
    | true =>
      have : i = j := by simpa using hb
      subst this
      cases b <;> exact h
  · rename_i t l t' l'
    cases hd : decEq t t' with
    | isFalse _ => exact .junk _
    | isTrue e =>
      subst e
      cases b <;> cases h

theorem mergeL_den {b : Bool} : ∀ {cs ds : List (V A)} {l : List (V A)} {xs : Array Value}, mergeL b cs ds = some l → (if b then DenA c S σ w cs xs else DenA c S σ w ds xs) → DenA c S σ w l xs := by
  have key : ∀ (cs ds l : List (V A)), mergeL b cs ds = some l → cs.length = l.length ∧ ds.length = l.length ∧ ∀ i (hi : i < l.length) (h1 : i < cs.length) (h2 : i < ds.length), l[i] = mergeS b cs[i] ds[i] := by
    intro cs
    induction cs with
    | nil => intro ds l h; cases ds <;> simp [mergeL] at h; subst h; simp
    | cons x cs ih =>
      intro ds l h
      cases ds with
      | nil => simp [mergeL] at h
      | cons y ds =>
        simp only [mergeL] at h
        split at h
        · rename_i l' hl'
          cases h
          obtain ⟨h1, h2, h3⟩ := ih ds l' hl'
          refine ⟨by simp [h1], by simp [h2], fun i hi h4 h5 => ?_⟩
          cases i with
          | zero => rfl
          | succ i => simpa using h3 i (by simpa using hi) (by simpa using h4) (by simpa using h5)
        · cases h
  intro cs ds l xs h hd
  obtain ⟨h1, h2, h3⟩ := key cs ds l h
  refine ⟨by cases b <;> simp_all [DenA], fun i hi => ?_⟩
  rw [h3 i hi (by omega) (by omega)]
  refine Den.mergeS ?_
  cases b
  · exact hd.2 i (by omega)
  · exact hd.2 i (by omega)

theorem Den.merge {b : Bool} {v v' : V A} {x : Value} (h : if b then Den c S σ w v x else Den c S σ w v' x) : Den c S σ w (merge b v v') x := by
  unfold Vm.merge
  split
  · rename_i cs ds
    split
    · rename_i l hl
      cases b
      · obtain ⟨xs, rfl, hd⟩ := Den.of_agg h
        have := mergeL_den hl (xs := xs) hd
        exact .agg _ _ this.1 this.2
      · obtain ⟨xs, rfl, hd⟩ := Den.of_agg h
        have := mergeL_den hl (xs := xs) hd
        exact .agg _ _ this.1 this.2
    · exact .junk _
  · rename_i cs ds
    split
    · rename_i l hl
      cases b
      · obtain ⟨xs, rfl, hd⟩ := Den.of_tup h
        have := mergeL_den hl (xs := xs) hd
        exact .tup _ _ this.1 this.2
      · obtain ⟨xs, rfl, hd⟩ := Den.of_tup h
        have := mergeL_den hl (xs := xs) hd
        exact .tup _ _ this.1 this.2
    · exact .junk _
  · exact Den.mergeS h

theorem cells_den {v : V A} {cs : List (V A)} {x : Value} (h : cellsOf v = some cs) (hd : Den c S σ w v x) : DenA c S σ w cs x.cells ∧ (∀ i (hi : i < cs.length), (cs[i]).isJunk = false) ∨ ∃ ds, v = .agg ds ∧ cs = ds ∧ DenA c S σ w cs x.cells := by
  have one : ∀ (u : V A), Den c S σ w u x → x.oneCell' = true → DenA c S σ w [u] x.cells := fun u hu hx => by
    have : x.cells = #[x] := by cases x <;> simp_all [Value.cells, Value.oneCell']
    rw [this]
    exact ⟨rfl, fun i hi => by simp at hi; subst hi; exact hu⟩
  cases v with
  | agg ds =>
    simp only [cellsOf, Option.some.injEq] at h
    subst h
    obtain ⟨xs, rfl, hxs⟩ := hd.of_agg
    exact .inr ⟨ds, rfl, rfl, hxs⟩
  | tup _ => simp [cellsOf] at h
  | junk => simp [cellsOf] at h
  | rowc _ _ => simp [cellsOf] at h
  | raw y =>
    simp only [cellsOf] at h
    split at h
    · rename_i hy
      cases h
      have := hd.of_raw
      subst this
      exact .inl ⟨one _ hd hy, fun i hi => by simp at hi; subst hi; rfl⟩
    · cases h
  | _ =>
    simp only [cellsOf, Option.some.injEq] at h
    subst h
    exact .inl ⟨one _ hd (by cases hd <;> rfl), fun i hi => by simp at hi; subst hi; rfl⟩

theorem cells_den' {v : V A} {cs : List (V A)} {x : Value} (h : cellsOf v = some cs) (hd : Den c S σ w v x) : DenA c S σ w cs x.cells := by
  rcases cells_den h hd with ⟨h1, _⟩ | ⟨_, _, _, h1⟩ <;> exact h1

theorem Den.one {v : V A} {x : Value} (h : Den c S σ w v x) (h1 : one v = true) : x.oneCell' = true := by
  cases h <;> simp_all [Vm.one, Value.oneCell']

end
end Vm
