/-
  Functions and loops: what the interpreter says of them is so.
-/
import Derived.Test.YthnlknegnlmklaaVm11
import Derived.LoopN
set_option linter.all false
namespace Vm
open Go Go.RowKit
variable {A : Nat → Type}

def argV (i : Nat) : V A → V A × List (V A)
  | .ref cs => (.ptr i 0, cs)
  | v => (v, [])

/-- A frame's slots to begin with; an argument that points to a box of the caller's names it by its own slot. -/
def argEnv : Nat → List (V A) → Env A
  | _, [] => []
  | i, v :: vs => (.slot i, [], (argV i v).1) :: (writeCells i 0 (argV i v).2 ++ argEnv (i + 1) vs)

def argOld : V A → Bool
  | .agg cs => all old0 cs
  | .ref cs => all old0 cs
  | v => old0 v

/-- The boxes that were handed on, and how many cells each has. -/
def refsOf : Nat → List (V A) → List (Nat × Nat)
  | _, [] => []
  | i, .ref cs :: vs => (i, cs.length) :: refsOf (i + 1) vs
  | i, _ :: vs => refsOf (i + 1) vs

/-- How a result is told: the caller's own from now on; of new memory alone. -/
structure Md where
  own : Bool := false
  fr : Bool := false

def dimV : V A → V A
  | .agg cs => .agg (mapV dim0 cs)
  | v => dim0 v

def frzV (E : Env A) : V A → Option (V A)
  | .agg cs => match frzL E cs with
    | some cs => some (.agg cs)
    | none => none
  | v => frzB E v

def lastV (fr : Bool) (v : V A) : Option (V A) :=
  match fr with
  | true => match allFr v with
    | true => some v
    | false => none
  | false => some (dimV v)

section
variable (c : Cfg A)

def resRaw (E : Env A) : ResultVar → Option (V A)
  | .tmp s => match look (.slot s) E with
    | some ([], v) => some v
    | _ => none
  | .cell s t' => match look (.slot s) E with
    | some ([], .ptr id off) => match (c.ty t').arr with
      | some (e, m) => match off, look (.row id) E with
        | 0, some ([], .rowc e' f (some m') l) => match (Nat.beq e e').and (Nat.beq m m') with
          | true => some (.arr e' f m' l)
          | false => none
        | _, _ => none
      | none => match readCells E id off (c.ty t').size with
        | some cs => ofCells (c.ty t') cs
        | none => none
    | _ => none

def resV (fr : Bool) (E : Env A) (t : Nat) (r : ResultVar) : Option (V A) :=
  match resRaw c E r with
  | some v => match frzV E (fitArg c t v) with
    | some u => lastV fr u
    | none => none
  | none => none

def resVs (fr : Bool) (E : Env A) : List ResultVar → List Nat → Option (List (V A))
  | [], _ => some []
  | r :: rs, ts => match resV c fr E (match ts with | t :: _ => t | [] => 0) r, resVs fr E rs ts.tail with
    | some v, some vs => some (v :: vs)
    | _, _ => none

def resultOf (md : Md) (E : Env A) (rs : List ResultVar) (ts : List Nat) : Option (V A) :=
  match md.own with
  | true => match rs, ts with
    | [r], t :: _ => match resRaw c E r with
      | some (.own id) => match look (.row id) E with
        | some ([], .rowc t f none l) => match md.fr.not.or (f.or (plainT (c.ty t))) with
          | true => some (.olist t md.fr l)
          | false => none
        | _ => none
      | some (.raw (.slice none 0 0)) => match (c.ty t).elem with
        | some e => match Nat.beq (c.ty e).size 0 with
          | false => some (.olist e md.fr [])
          | true => none
        | none => none
      | _ => none
    | _, _ => none
  | false => match resVs c md.fr E rs ts with
    | some [v] => some v
    | some vs => some (.tup vs)
    | none => none

def outsOf (fr : Bool) (E : Env A) : List (Nat × Nat) → Option (List (List (V A)))
  | [] => some []
  | (id, len) :: r => match readCells E id 0 len, outsOf fr E r with
    | some cs, some os => match fr with
      | true => match all allFr0 cs with
        | true => some (cs :: os)
        | false => none
      | false => some (mapV dim0 cs :: os)
    | _, _ => none

end

/-- A tree that comes to nothing. -/
def Tr.isFail : Tr A → Bool
  | .leaf _ _ => false
  | .node _ t e => (Tr.isFail t).and (Tr.isFail e)
  | .req _ t => Tr.isFail t
  | .fail => true

/-- What a function's tree comes to, read by 'rd'. -/
def Tr.out {α : Type} (g : Ex → Env A → Option α) : Tr A → Option α
  | .leaf e d => g e d
  | .node b t e => match Tr.isFail t, Tr.isFail e with
    | true, _ => Tr.out g e
    | false, true => Tr.out g t
    | false, false => match Tr.out g t, Tr.out g e with
      | some x, some y => some (bif b then x else y)
      | _, _ => none
  | .req _ t => Tr.out g t
  | .fail => none

def fnLeaf {α : Type} (c : Cfg A) (md : Md) (refs : List (Nat × Nat)) (rs : List ResultVar) (ts : List Nat) (rd : V A → List (List (V A)) → Option α) (e : Ex) (d : Env A) : Option α :=
  match e with
  | .exit _ => none
  | _ => match resultOf c md d rs ts, outsOf md.fr d refs with
    | some v, some os => rd v os
    | _, _ => none

def Fn (c : Cfg A) (fn : Func) (code : Code) (loop : Nat → Env A → Tr A) (args : List (V A)) : Tr A := ev c fn.ntmps loop 0 code [] (argEnv 0 args)

def Fn.out {α : Type} (c : Cfg A) (md : Md) (fn : Func) (args : List (V A)) (t : Tr A) (rd : V A → List (List (V A)) → Option α) : Option α := t.out (fnLeaf c md (refsOf 0 args) fn.results.toList fn.resultTypes.toList rd)

section
variable {c : Cfg A}

theorem mapV_plain {f : Bool} : ∀ {l : List (V A)}, all plainV l = true → mapV (frs f) l = l
  | [], _ => rfl
  | v :: l, h => by
    simp only [all, Bool.and_eq_true] at h
    have : frs f v = v := by cases v <;> first | rfl | cases h.1
    simp only [mapV, this, mapV_plain h.2]

/-- Data without memory are as good as new. -/
theorem RowAt.plain (hc : CfgOk c) {S : Fz} {σ : Nat → Loc} {w : World} {L : Loc} {t : Nat} {f : Bool} {m : Option Nat} {l : List (A t)} (h : RowAt c S σ w L t f m l) : RowAt c S σ w L t (f.or (plainT (c.ty t))) m l := by
  cases hp : plainT (c.ty t) with
  | false => rw [Bool.or_false]; exact h
  | true =>
    have he : ∀ (g : Bool) (a : A t), encF c t g a = c.C.enc t a := fun g a => mapV_plain (hc.plain t a hp)
    have hcells : ∀ j q (hj : j < l.length) (hq : q < (encF c t (f || true) l[j]).length), ∃ y, w.cell? ⟨L.blk, j * (c.ty t).size + q, none⟩ = some y ∧ Den c S σ w (encF c t (f || true) l[j])[q] y := by
      intro j q hj hq
      have e : encF c t f l[j] = encF c t (f || true) l[j] := by rw [he, he]
      obtain ⟨y, h1, h2⟩ := h.cells j q hj (by rw [e]; exact hq)
      refine ⟨y, h1, ?_⟩
      revert h2
      generalize hz : (encF c t (f || true) l[j])[q] = z
      have e2 : (encF c t f l[j])[q]'(by rw [e]; exact hq) = z := by rw [← hz]; simp only [e]
      rw [e2]; exact id
    exact { ne := h.ne, len := h.len, cap := h.cap, fix := h.fix, enc := h.enc, base := h.base, room := h.room, frz := h.frz, cells := hcells }

theorem isFail_post {K : Ex → Env A → Prop} : ∀ {t : Tr A}, t.isFail = true → t.post K
  | .leaf _ _, h => by cases h
  | .fail, _ => trivial
  | .req _ t, h => isFail_post (t := t) h
  | .node b t e, h => by
    have h' : ((Tr.isFail t) && (Tr.isFail e)) = true := h
    rw [Bool.and_eq_true] at h'
    exact ⟨fun _ => isFail_post h'.1, fun _ => isFail_post h'.2⟩

theorem out_post {α : Type} {g : Ex → Env A → Option α} : ∀ {t : Tr A} {r : α}, t.out g = some r → t.post fun e d => g e d = some r
  | .leaf e d, r, h => h
  | .fail, _, _ => trivial
  | .req _ t, r, h => out_post (t := t) h
  | .node b t e, r, h => by
    simp only [Tr.out] at h
    split at h
    · rename_i ht; exact ⟨fun _ => isFail_post ht, fun _ => out_post h⟩
    · rename_i _ he; exact ⟨fun _ => out_post h, fun _ => isFail_post he⟩
    · split at h
      · rename_i x y hx hy
        cases h
        exact ⟨fun hb => by subst hb; exact out_post hx, fun hb => by subst hb; exact out_post hy⟩
      · cases h

def V.refCells : V A → Option (List (V A))
  | .ref cs => some cs
  | _ => none

theorem look_argEnv_slot : ∀ (vs : List (V A)) (i j : Nat), look (.slot j) (argEnv i vs) = if i ≤ j then (vs[j - i]?).map (fun v => ([], (argV j v).1)) else none := by
  intro vs
  induction vs with
  | nil => intro i j; simp [argEnv, look]
  | cons v vs ih =>
    intro i j
    rw [argEnv, look_cons, look_append, look_writeCells, ih]
    simp only [K.slot.injEq, Option.none_or]
    by_cases h : j = i
    · subst h; simp
    · rw [if_neg h]
      by_cases h2 : i ≤ j
      · rw [if_pos (by omega), if_pos h2, show j - i = (j - (i + 1)) + 1 by omega, List.getElem?_cons_succ]
      · rw [if_neg (by omega), if_neg h2]

theorem look_argEnv_cell : ∀ (vs : List (V A)) (i id o : Nat), look (.cell id o) (argEnv i vs) = if i ≤ id then (vs[id - i]?).bind (fun v => ((argV id v).2[o]?).map (fun v => ([], v))) else none := by
  intro vs
  induction vs with
  | nil => intro i id o; simp [argEnv, look]
  | cons v vs ih =>
    intro i id o
    rw [argEnv, look_cons, if_neg (by simp), look_append, look_writeCells, ih]
    simp only [Nat.zero_le, true_and, Nat.zero_add, Nat.sub_zero]
    by_cases h : id = i
    · subst h
      rw [if_neg (show ¬ id + 1 ≤ id by omega), if_pos (Nat.le_refl _), Nat.sub_self, List.getElem?_cons_zero, Option.bind_some]
      by_cases ho : o < (argV id v).2.length
      · rw [if_pos ⟨rfl, ho⟩]; simp
      · rw [if_neg (by intro hh; exact ho hh.2), List.getElem?_eq_none (by omega)]; rfl
    · rw [if_neg (by intro hh; exact h hh.1), Option.none_or]
      by_cases h2 : i ≤ id
      · rw [if_pos (by omega), if_pos h2, show id - i = (id - (i + 1)) + 1 by omega, List.getElem?_cons_succ]
      · rw [if_neg (by omega), if_neg h2]

theorem look_argEnv_row : ∀ (vs : List (V A)) (i id : Nat), look (.row id) (argEnv i vs) = none := by
  intro vs
  induction vs with
  | nil => intro i id; simp [argEnv, look]
  | cons v vs ih =>
    intro i id
    rw [argEnv, look_cons, if_neg (by simp), look_append, look_writeCells]; simp only [Option.none_or]; exact ih _ _

theorem old0_free {v : V A} (h : old0 v = true) (p : Nat → Bool) : ok0 p v = true := by cases v <;> simp_all [old0, ok0, okB]

theorem argOld_free {v : V A} (h : argOld v = true) (hv : ∀ cs, v ≠ .ref cs) (d : Nat) : avoids d v = true := by
  cases v with
  | agg cs => exact all_get fun i hi => old0_free (all_mem (p := old0) h _ (List.getElem_mem hi)) _
  | ref cs => exact absurd rfl (hv cs)
  | _ => simp only [argOld] at h; exact ok0_v (old0_free h _)

theorem less_dimV {S : Fz} {σ : Nat → Loc} {w : World} (hS : ∀ b, S true b → S false b) {v : V A} {x : Value} (h : Den c S σ w v x) : Den c S σ w (dimV v) x := by
  cases v with
  | agg cs =>
    obtain ⟨xs, rfl, hxs⟩ := h.of_agg
    simp only [dimV, mapV_eq]
    refine .agg _ _ (by simp [hxs.1]) fun i hi => ?_
    simp only [List.getElem_map]
    exact Den.less hS (hxs.2 i (by simpa using hi)) (less_dim _)
  | _ => exact Den.less hS h (less_dim _)

theorem lastV_den {S : Fz} {σ : Nat → Loc} {w : World} (hS : ∀ b, S true b → S false b) {fr : Bool} {v u : V A} {x : Value} (h : lastV fr v = some u) (hd : Den c S σ w v x) : Den c S σ w u x := by
  unfold lastV at h
  split at h
  · split at h
    · cases h; exact hd
    · cases h
  · cases h; exact less_dimV hS hd

/-- Where a result is read. -/
def resSem (tmps : Array Value) : ResultVar → Sem Value
  | .tmp t => pure (tmps.getD t undef)
  | .cell a t => do loadVar t (← asAddr (tmps.getD a undef))

theorem results_eq (fn : Func) (tmps : Array Value) : results fn tmps = (do let vs ← fn.results.mapM (resSem tmps); pure (if h : vs.size = 1 then vs[0] else .tuple vs)) := rfl

theorem resRaw_den (hc : CfgOk c) {n : Nat} {w0 : W1} {S0 : Nat → Prop} {S : Fz} {σ : Nat → Loc} {lk : K → Option (Ent A)} {a : Act} {w : World} (hR : RelAt c n w0 S0 S σ lk a w) {E : Env A} (hE : ∀ k e, look k E = some e → lk k = some e)
    {r : ResultVar} {v : V A} (h : resRaw c E r = some v) : Gives c S σ w (resSem a.tmps r) v := by
  have nil : Holds a [] := fun p hp => by cases hp
  cases r with
  | tmp s =>
    simp only [resRaw] at h
    split at h
    · rename_i u hu
      cases h
      exact ⟨_, rfl, opv_den hR hE nil (x := .tmp s) (v := v) (by simp [opv, hu, sub])⟩
    · cases h
  | cell s t' =>
    simp only [resRaw] at h
    split at h
    · rename_i id off hu
      have h1 := opv_den hR hE nil (x := .tmp s) (v := .ptr id off) (by simp [opv, hu, sub])
      have h2 : a.tmps.getD s undef = .pointer (some ⟨(σ id).blk, off, none⟩) := h1.of_ptr
      split at h
      · rename_i e m ha
        split at h
        · rename_i e' f m' l hrow
          split at h
          · rename_i hb
            cases h
            simp only [Bool.and_eq_true] at hb
            have he : e = e' := by simpa using hb.1
            have hm : m = m' := by simpa using hb.2
            subst he hm
            obtain ⟨x, hx, hd⟩ := load_arr hc hR (x := .pointer (some ⟨(σ id).blk, 0, none⟩)) (.ptr id 0) (hE _ _ hrow) ha
            exact ⟨x, by simpa [resSem, asAddr, h2, Instr.loadAt, Instr.sureAddr] using hx, hd⟩
          · cases h
        · cases h
      · split at h
        · rename_i cs hcs
          obtain ⟨x, hx, hd⟩ := load_ptr hc hR hE hcs h
          exact ⟨x, by simpa [resSem, asAddr, h2] using hx, hd⟩
        · cases h
    · cases h

def ownV : V A → List Nat
  | .agg cs => ownL cs
  | v => ownB v

/-- The rows that results hold. -/
def ownRes (c : Cfg A) (E : Env A) : List ResultVar → List Nat → List Nat
  | [], _ => []
  | r :: rs, ts => (match resRaw c E r with | some v => ownV (fitArg c (match ts with | t :: _ => t | [] => 0) v) | none => []) ++ ownRes c E rs ts.tail

theorem frzV_den (hc : CfgOk c) {n : Nat} {w0 : W1} {S0 : Nat → Prop} {S S' : Fz} {σ : Nat → Loc} {lk : K → Option (Ent A)} {a : Act} {w : World} {E : Env A} {ids : List Nat} (hE : ∀ k e, look k E = some e → lk k = some e) (hSS : ∀ f b, S f b → S' f b)
    (hR : RelAt c n w0 S0 S' σ (fun k => (look k (frz E ids)).or (lk k)) a w) (hf : ∀ r ∈ ids, ∀ t f l, look (.row r) E = some ([], .rowc t f none l) → look (.row r) (frz E ids) = some ([], .list t f l))
    {v u : V A} {x : Value} (hin : ∀ r ∈ ownV v, r ∈ ids) (hd : Den c S σ w v x) (h : frzV E v = some u) : Den c S' σ w u x := by
  cases v with
  | agg cs =>
    simp only [frzV] at h
    split at h
    · rename_i cs' hcs
      cases h
      obtain ⟨xs, rfl, hxs⟩ := hd.of_agg
      obtain ⟨h1, h2⟩ := frzL_den hc hE hSS hR hf cs cs' xs.toList hin (by simp [hxs.1]) (fun i hi => by simpa using hxs.2 i hi) hcs
      exact .agg cs' xs (by rw [hxs.1, h1]) fun i hi => by simpa using h2 i hi
    · cases h
  | _ => simp only [frzV] at h; simp only [ownV] at hin; exact frzB_den hc hE hSS hR hf hin hd h

theorem resVs_den (hc : CfgOk c) {n : Nat} {w0 : W1} {S0 : Nat → Prop} {S S' : Fz} {σ : Nat → Loc} {lk : K → Option (Ent A)} {a : Act} {w : World} (hR0 : RelAt c n w0 S0 S σ lk a w) {E : Env A} {ids : List Nat} (hE : ∀ k e, look k E = some e → lk k = some e) (hSS : ∀ f b, S f b → S' f b)
    (hR : RelAt c n w0 S0 S' σ (fun k => (look k (frz E ids)).or (lk k)) a w) (hf : ∀ r ∈ ids, ∀ t f l, look (.row r) E = some ([], .rowc t f none l) → look (.row r) (frz E ids) = some ([], .list t f l)) {fr : Bool} :
    ∀ (rs : List ResultVar) (ts : List Nat) (vs : List (V A)), (∀ r ∈ ownRes c E rs ts, r ∈ ids) → resVs c fr E rs ts = some vs → ∃ xs : List Value, xs.length = vs.length ∧ rs.length = vs.length ∧
      (rs.mapM (resSem a.tmps)).run c.P w = .ok xs w ∧ ∀ i (hi : i < vs.length), Den c S' σ w vs[i] (xs.getD i undef) := by
  intro rs
  induction rs with
  | nil => intro ts vs _ h; simp only [resVs, Option.some.injEq] at h; subst h; exact ⟨[], rfl, rfl, by simp, fun i hi => by simp at hi⟩
  | cons r rs ih =>
    intro ts vs hin h
    simp only [resVs] at h
    split at h
    · rename_i v vs' hv hvs
      cases h
      unfold resV at hv
      split at hv
      · rename_i v0 hv0
        split at hv
        · rename_i u hu
          obtain ⟨x, hx, hd⟩ := resRaw_den hc hR0 hE hv0
          obtain ⟨xs, h1, h2, h3, h4⟩ := ih _ _ (fun q hq => hin q (by simp [ownRes, hq])) hvs
          have hd1 := frzV_den hc hE hSS hR hf (fun q hq => hin q (by simp [ownRes, hv0, hq])) (fit_den hd) hu
          have hd2 := lastV_den hR.sT hv hd1
          refine ⟨x :: xs, by simp [h1], by simp [h2], ?_, fun i hi => ?_⟩
          · rw [List.mapM_cons]
            simp only [Sem.run_bind, hx, Result.andThen_ok, h3, Sem.run_pure]
          · cases i with
            | zero => exact hd2
            | succ i => exact h4 i (by simpa using hi)
        · cases hv
      · cases hv
    · cases h

theorem outs_den {S : Fz} {σ : Nat → Loc} {w : World} (hS : ∀ b, S true b → S false b) {E : Env A} {β : Nat → Nat} {fr : Bool}
    (hcell : ∀ id o v, look (.cell id o) E = some ([], v) → v.isJunk = false → id ∈ c.pins → ∃ y, w.cell? ⟨β id, o, none⟩ = some y ∧ Den c S σ w v y) :
    ∀ (args : List (V A)) (i : Nat) (os : List (List (V A))), all (fun p => memN p.1 c.pins) (refsOf i args) = true → outsOf fr E (refsOf i args) = some os → OutsDen c S σ w β i args os := by
  intro args
  induction args with
  | nil => intro i os _ h; simp only [refsOf, outsOf, Option.some.injEq] at h; subst h; trivial
  | cons v args ih =>
    intro i os hp h
    cases v with
    | ref cs =>
      simp only [refsOf, outsOf] at h
      simp only [refsOf, all, Bool.and_eq_true] at hp
      have hpin := memN_iff.1 hp.1
      split at h
      · rename_i cs' os' hcs hos
        obtain ⟨h1, h2⟩ := readCells_spec _ _ _ hcs
        have key : ∀ q (hq : q < cs'.length), ∃ y, w.cell? ⟨β i, q, none⟩ = some y ∧ Den c S σ w cs'[q] y ∧ (cs'[q]).isJunk = false := fun q hq => by
          obtain ⟨h3, h4⟩ := h2 q hq
          rw [Nat.zero_add] at h3
          obtain ⟨y, hy, hd⟩ := hcell i q _ h3 h4 hpin
          exact ⟨y, hy, hd, h4⟩
        split at h
        · split at h
          · cases h
            exact ⟨h1, key, ih _ _ hp.2 hos⟩
          · cases h
        · cases h
          refine ⟨by simp [mapV_eq, h1], fun q hq => ?_, ih _ _ hp.2 hos⟩
          have hq' : q < cs'.length := by simpa [mapV_eq] using hq
          obtain ⟨y, hy, hd, hj⟩ := key q hq'
          refine ⟨y, hy, ?_, ?_⟩
          · simp only [mapV_eq, List.getElem_map]; exact Den.less hS hd (less_dim _)
          · simp only [mapV_eq, List.getElem_map]
            revert hj
            generalize cs'[q] = u
            intro hj
            cases u <;> first | rfl | exact hj
      · cases h
    | _ => exact ih _ _ hp h

/-- **What the interpreter says of a function is so.** -/
theorem call_ok (hc : CfgOk c) (hm : c.P.follows .mixedOrders = true) {f : FuncId} {fn : Func} {code : Code} (hf : c.P.funcs[f]? = some fn) (hb : fn.body = some code) {loop : Nat → Env A → Tr A} {args : List (V A)}
    (hL : ∀ p ∈ loopsOf 0 code, ∀ w0 S0, LoopOk c fn.ntmps w0 S0 loop p.1 p.2) (hn : Nat.ble args.length fn.ntmps = true) (hold : all argOld args = true) (hpin : all (fun p => memN p.1 c.pins) (refsOf 0 args) = true) {md : Md} {α : Type} {rd : V A → List (List (V A)) → Option α} {wr : α → V A} {wo : α → List (List (V A))}
    (hrw : ∀ v os x, rd v os = some x → v = wr x ∧ os = wo x) (hnp : ∀ x, okv (fun _ => false) (wr x) = true) (hno : ∀ x, all (fun cs => all (ok0 fun _ => false) cs) (wo x) = true)
    {r : α} (hout : Fn.out c md fn args (Fn c fn code loop args) rd = some r) (hvc : (Fn c fn code loop args).vc) : CallOk c f args (wr r) (wo r) := by
  intro w S σ β xs hT hS hI hA
  refine calls_of_wp hf hb ?_
  have hn : args.length ≤ fn.ntmps := by simpa using hn
  have hxs := hA.size
  have hsz : xs.size ≤ fn.ntmps := by omega
  let σ0 : Nat → Loc := fun i => ⟨β i, 0, 0, none⟩
  have hden : ∀ i (hi : i < args.length), (∀ cs, args[i] ≠ .ref cs) → Den c (oldS S) σ0 w args[i] (xs.getD i undef) := fun i hi hnr => by
    have h1 := hA.den i hi
    have h2 : argOld args[i] = true := all_mem hold _ (List.getElem_mem hi)
    have h3 : Den c S σ w args[i] (xs.getD i undef) := by
      revert h1 hnr
      generalize args[i] = u
      intro hnr h1
      cases u <;> first | exact h1 | exact absurd rfl (hnr _)
    have h4 : old0 args[i] = true ∨ ∃ cs, args[i] = .agg cs ∧ all old0 cs = true := by
      revert h2 hnr
      generalize args[i] = u
      intro hnr h2
      cases u <;> first | exact .inl h2 | exact .inr ⟨_, rfl, h2⟩ | exact absurd rfl (hnr _)
    exact (h3.old hc h4).mono hc (fun _ _ h => h) (fun _ _ _ => rfl) (fun id hid => by rw [argOld_free h2 hnr id] at hid; cases hid)
  have hcell : ∀ id cs, args[id]? = some (.ref cs) → xs.getD id undef = .pointer (some ⟨β id, 0, none⟩) ∧ (∀ o (h : o < cs.length), ∃ y, w.cell? ⟨β id, o, none⟩ = some y ∧ Den c (oldS S) σ0 w cs[o] y) ∧ (∀ o, w.frozen? ⟨β id, o, none⟩ = false) ∧ ¬ S false (β id) := fun id cs h => by
    obtain ⟨hi, he⟩ := List.getElem?_eq_some_iff.1 h
    have h1 := hA.den id hi
    have h2 : argOld args[id] = true := all_mem hold _ (List.getElem_mem hi)
    rw [he] at h1 h2
    obtain ⟨e1, _, e2, e3, e4⟩ := h1
    refine ⟨e1, fun o ho => ?_, e3, e4⟩
    obtain ⟨y, hy, hd⟩ := e2 o ho
    have ho2 : old0 cs[o] = true := all_mem (p := old0) h2 _ (List.getElem_mem ho)
    exact ⟨y, hy, (hd.old hc (.inl ho2)).mono hc (fun _ _ h => h) (fun _ _ _ => rfl) (fun id' hid => by
      have : avoids id' cs[o] = true := ok0_v (old0_free ho2 _)
      rw [this] at hid; cases hid)⟩
  let w0 : W1 := { w := w, B := Bc args β, pin := β }
  have hR : Rel c fn.ntmps w0 (S false) (fun k => look k (argEnv 0 args ++ ([] ++ []))) { tmps := xs ++ Array.replicate (fn.ntmps - xs.size) undef, defers := [] } w := by
    refine ⟨oldS S, σ0, {
      inv := hc.inv _ _ _ _ hI (fun _ h => ⟨rfl, h⟩) (fun _ _ => rfl)
      defers := rfl
      size := by simp; omega
      below := Bel.refl _
      s0 := fun b h => ⟨rfl, h⟩
      pin := fun id _ => rfl
      sT := fun b h => by cases h.1
      sNew := fun f b h => .inl h
      sLt := fun b h => hS b h.2
      slot := fun i g v hv _ => by
        simp only [List.append_nil, look_argEnv_slot, Nat.zero_le, if_true, Nat.sub_zero, Option.map_eq_some_iff, Prod.mk.injEq] at hv
        obtain ⟨v', hv', rfl, rfl⟩ := hv
        obtain ⟨hi, he⟩ := List.getElem?_eq_some_iff.1 hv'
        have hix : i < xs.size := by omega
        refine ⟨by omega, fun _ => ?_, fun hn => absurd (fun p hp => by cases hp) hn⟩
        have e : (xs ++ Array.replicate (fn.ntmps - xs.size) undef).getD i undef = xs.getD i undef := by simp [Array.getElem?_append, hix]
        rw [e]
        by_cases hrf : ∃ cs, v' = .ref cs
        · obtain ⟨cs, rfl⟩ := hrf
          rw [(hcell i cs hv').1]
          exact .ptr i 0
        · have := hden i hi (fun cs h => hrf ⟨cs, by rw [← he, h]⟩)
          rw [he] at this
          cases v' <;> first | exact this | exact absurd ⟨_, rfl⟩ hrf
      cell := fun id off g v hv _ => by
        simp only [List.append_nil, look_argEnv_cell, Nat.zero_le, if_true, Nat.sub_zero, Option.bind_eq_some_iff] at hv
        obtain ⟨v', hv', h⟩ := hv
        cases v' <;> simp only [argV, List.getElem?_nil, Option.map_none, reduceCtorEq] at h
        rename_i cs
        simp only [Option.map_eq_some_iff, Prod.mk.injEq] at h
        obtain ⟨u, hu, rfl, rfl⟩ := h
        obtain ⟨ho, hu'⟩ := List.getElem?_eq_some_iff.1 hu
        obtain ⟨e1, e2, e3, e4⟩ := hcell id cs hv'
        obtain ⟨y, hy, hd⟩ := e2 off ho
        rw [hu'] at hd
        exact ⟨⟨y, hy, hd⟩, e3, fun h => e4 h.2, .inr ⟨id, cs, hv', rfl, ho⟩⟩
      row := fun id g v hv _ => by simp [look_argEnv_row] at hv
      dist := fun b b' i j hi hj he => by
        cases b
        · cases b'
          · obtain ⟨o, g, v, hv, _⟩ := hi
            obtain ⟨o', g', v', hv', _⟩ := hj
            simp only [List.append_nil, look_argEnv_cell, Nat.zero_le, if_true, Nat.sub_zero, Option.bind_eq_some_iff] at hv hv'
            obtain ⟨u, hu, h⟩ := hv
            obtain ⟨u', hu', h'⟩ := hv'
            cases u <;> simp only [argV, List.getElem?_nil, Option.map_none, reduceCtorEq] at h
            cases u' <;> simp only [argV, List.getElem?_nil, Option.map_none, reduceCtorEq] at h'
            exact ⟨rfl, hA.inj i j _ _ hu hu' he⟩
          · obtain ⟨g', v', hv', _⟩ := hj
            simp [look_argEnv_row] at hv'
        · obtain ⟨g', v', hv', _⟩ := hi
          simp [look_argEnv_row] at hv' }⟩
  refine ev_ok hc hm (F := []) code 0 [] (argEnv 0 args) _ _ w (fun p hp => hL p hp w0 _) ?_ hR hvc ?_
  · have : ∀ (x : Code) (key : Nat), codeAvoids fn.ntmps ([] : Env A) key x = true := by
      intro x
      have h0 : ∀ o : Option Tmp, dstAvoids o ([] : Env A) = true := by intro o; cases o <;> rfl
      have hl : ∀ l : List Oper, opsAvoid ([] : Env A) l = true := by intro l; induction l with | nil => rfl | cons o l ih => simp [opsAvoid, h0, ih]
      have hk : ∀ key, keyFree fn.ntmps key ([] : Env A) = true := fun _ => rfl
      induction x <;> simp_all [codeAvoids]
    exact this code 0
  · refine Tr.post_mono (fun e d h a' w' hR' => ?_) (out_post hout)
    obtain ⟨S', σ', hr⟩ := hR'
    have hE : ∀ k e, look k d = some e → (fun k => look k (d ++ ([] ++ []))) k = some e := fun k e h => by simpa using h
    have hSn : ∀ {S1 : Fz}, RelAt c fn.ntmps w0 (S false) S1 σ' (fun k => (look k (frz d (ownRes c d fn.results.toList fn.resultTypes.toList))).or (look k (d ++ ([] ++ [])))) a' w' ∨ RelAt c fn.ntmps w0 (S false) S1 σ' (fun k => look k (d ++ ([] ++ []))) a' w' →
        ∀ f b, S1 f b → (f = false ∧ S false b) ∨ (w.heap.size ≤ b ∧ b < w'.heap.size) := fun {S1} h f b hb => by
      rcases h with h | h <;>
      · rcases h.sNew f b hb with h1 | h1
        · exact .inl h1
        · exact .inr ⟨h1, h.sLt' f b hb⟩
    have hou : ∀ {S1 : Fz} {lk1 : K → Option (Ent A)}, RelAt c fn.ntmps w0 (S false) S1 σ' lk1 a' w' → (∀ id o e, look (.cell id o) d = some e → lk1 (.cell id o) = some e) → ∀ os, outsOf md.fr d (refsOf 0 args) = some os → (all (fun cs => all (ok0 fun _ => false) cs) os = true) → OutsDen c S1 σ w' β 0 args os := fun {S1 lk1} h hlk os hos hfree => by
      have := outs_den (c := c) (σ := σ') (w := w') (S := S1) h.sT (E := d) (β := β) (fr := md.fr) (fun id o v hv hj hp => by
        obtain ⟨⟨y, hy, hd⟩, _⟩ := h.cell id o [] v (hlk _ _ _ hv) hj
        rw [h.pin id hp] at hy
        exact ⟨y, hy, hd⟩) args 0 os hpin hos
      -- of other places' names nothing hangs on
      have key : ∀ (i : Nat) (as : List (V A)) (os : List (List (V A))), all (fun cs => all (ok0 fun _ => false) cs) os = true → OutsDen c S1 σ' w' β i as os → OutsDen c S1 σ w' β i as os := by
        intro i as
        induction as generalizing i with
        | nil => intro os _ ho; cases os <;> exact ho
        | cons u as ih =>
          intro os hf ho
          cases u with
          | ref cs =>
            cases os with
            | nil => exact ho
            | cons o os =>
              simp only [all, Bool.and_eq_true] at hf
              obtain ⟨h1, h2, h3⟩ := ho
              refine ⟨h1, fun q hq => ?_, ih _ _ hf.2 h3⟩
              obtain ⟨y, hy, hd, hj⟩ := h2 q hq
              refine ⟨y, hy, hd.mono hc (fun _ _ h => h) (fun _ _ _ => rfl) (fun id hid => ?_), hj⟩
              have hk : ok0 (fun _ => false) o[q] = true := all_mem (p := ok0 fun _ => false) hf.1 _ (List.getElem_mem hq)
              have : avoids id o[q] = true := ok0_v (ok0_mono (fun _ h => by cases h) hk)
              rw [this] at hid; cases hid
          | _ => cases os <;> exact ih _ _ hf ho
      exact key 0 args os hfree this
    have fin : ∀ (v : V A) (os : List (List (V A))), resultOf c md d fn.results.toList fn.resultTypes.toList = some v → outsOf md.fr d (refsOf 0 args) = some os → rd v os = some r → a'.defers = [] ∧ ∃ x, (results fn a'.tmps).run c.P w' = .ok x w' ∧
        ∃ y, Ending.returned x = .returned y ∧ Bel ⟨w, Bc args β⟩ w' ∧ ∃ S'' : Fz, (∀ f b, S'' f b → (f = false ∧ S false b) ∨ (w.heap.size ≤ b ∧ b < w'.heap.size)) ∧ (∀ b, S'' true b → S'' false b) ∧ ResDen c w.heap.size S'' σ w' (wr r) y ∧ OutsDen c S'' σ w' β 0 args (wo r) := by
      intro v os hv hos hrd
      obtain ⟨rfl, rfl⟩ := hrw v os r hrd
      have hmain : ∀ (xs : List Value), (fn.results.toList.mapM (resSem a'.tmps)).run c.P w' = .ok xs w' → (results fn a'.tmps).run c.P w' = .ok (if h : xs.toArray.size = 1 then xs.toArray[0] else .tuple xs.toArray) w' := fun xs h => by
        rw [results_eq, Array.mapM_eq_mapM_toList]
        simp only [Sem.run_bind, Sem.run_map, h, Result.andThen_ok, Sem.run_pure]
      unfold resultOf at hv
      split at hv
      · rename_i hown
        split at hv
        · rename_i r1 t1 ts1 hrs hts
          split at hv
          · rename_i id hraw
            split at hv
            · rename_i t f l hrow
              split at hv
              · rename_i hfr
                obtain ⟨x, hx, hd⟩ := resRaw_den hc hr hE hraw
                have hrun := hmain [x] (by rw [hrs, List.mapM_cons]; simp [hx])
                have hxe : x = .slice (σ' id).base (σ' id).len (σ' id).cap := by cases hd; rfl
                have hra : RowAt c S' σ' w' (σ' id) t (f.or (plainT (c.ty t))) none l := RowAt.plain hc (hr.row id [] _ (hE _ _ hrow) rfl).1
                have hrn := (hr.row id [] _ (hE _ _ hrow) rfl).2 rfl
                refine ⟨hr.defers, _, hrun, _, rfl, hr.below, S', hSn (.inr hr), hr.sT, ?_, hou hr (fun _ _ _ h => by simpa using h) _ hos (hno r)⟩
                rw [← Option.some.inj hv]
                refine ⟨σ' id, by simpa using hxe, (RowAt.less hr.sT hra (fun h => by rw [h] at hfr; simpa using hfr)).mono hc (fun _ _ h => h) (fun _ _ _ => rfl) (fun _ => rfl), fun hcap => ⟨(hrn hcap).2, (hrn hcap).1⟩⟩
              · cases hv
            · cases hv
          · rename_i hraw
            split at hv
            · rename_i e hel
              split at hv
              · rename_i hs
                have hs0 : (c.ty e).size ≠ 0 := by intro h0; rw [h0] at hs; simp at hs
                obtain ⟨x, hx, hd⟩ := resRaw_den hc hr hE hraw
                have hrun := hmain [x] (by rw [hrs, List.mapM_cons]; simp [hx])
                have hxe := hd.of_raw
                refine ⟨hr.defers, _, hrun, _, rfl, hr.below, S', hSn (.inr hr), hr.sT, ?_, hou hr (fun _ _ _ h => by simpa using h) _ hos (hno r)⟩
                rw [← Option.some.inj hv]
                exact ⟨⟨0, 0, 0, none⟩, by simpa using hxe, ⟨hs0, rfl, Nat.zero_le _, fun m hm => (by cases hm), fun j hj => absurd hj (Nat.not_lt_zero _), fun _ h => absurd rfl h, fun k hk => (by simp at hk), fun k h => absurd rfl h, fun j q hj => absurd hj (Nat.not_lt_zero _)⟩, fun h => absurd rfl h⟩
              · cases hv
            · cases hv
          · cases hv
        · cases hv
      · obtain ⟨S1, hSS, hR1, hfz⟩ := freezeL hc hr hE (ownRes c d fn.results.toList fn.resultTypes.toList)
        have hcl : ∀ id o e, look (.cell id o) d = some e → ((look (.cell id o) (frz d (ownRes c d fn.results.toList fn.resultTypes.toList))).or (look (.cell id o) (d ++ ([] ++ [])))) = some e := fun id o e h => by
          rw [frz_look (by intro r h; cases h), Option.none_or]; simpa using h
        have hresd : ∀ {u : V A} {x : Value}, u = wr r → Den c S1 σ' w' u x → ResDen c w.heap.size S1 σ w' (wr r) x := fun {u x} hu hd => by
          subst hu
          have h2 := hnp r
          have h3 : Den c S1 σ w' (wr r) x := hd.mono hc (fun _ _ h => h) (fun _ _ _ => rfl) (fun id hid => by
            have : avoids id (wr r) = true := okv_mono (fun _ h => by cases h) h2
            rw [this] at hid; cases hid)
          revert h3
          generalize wr r = u
          intro h3
          cases u <;> first | exact h3 | cases h3
        split at hv
        · rename_i u hvs
          obtain ⟨xs, h1, h2, h3, h4⟩ := resVs_den hc hr hE hSS hR1 hfz _ _ _ (fun _ h => h) hvs
          obtain ⟨x, hx⟩ := List.length_eq_one_iff.1 h1
          subst hx
          have hrun := hmain _ h3
          exact ⟨hr.defers, x, by simpa using hrun, x, rfl, hr.below, S1, hSn (.inl hR1), hR1.sT, hresd (Option.some.inj hv) (h4 0 (by simp)), hou hR1 hcl _ hos (hno r)⟩
        · rename_i vs hne hvs
          obtain ⟨xs, h1, h2, h3, h4⟩ := resVs_den hc hr hE hSS hR1 hfz _ _ _ (fun _ h => h) hvs
          have hn1 : ¬ xs.toArray.size = 1 := by
            intro h
            have : vs.length = 1 := by simp at h; omega
            obtain ⟨u, hu⟩ := List.length_eq_one_iff.1 this
            exact hne u hu
          have hrun := hmain _ h3
          rw [dif_neg hn1] at hrun
          exact ⟨hr.defers, _, hrun, _, rfl, hr.below, S1, hSn (.inl hR1), hR1.sT, hresd (Option.some.inj hv) (.tup _ _ (by simp [h1]) (fun i hi => by simpa using h4 i hi)), hou hR1 hcl _ hos (hno r)⟩
        · cases hv
    cases e with
    | exit id => simp [fnLeaf] at h
    | normal =>
      simp only [fnLeaf] at h
      split at h
      · rename_i v os hv hos; exact fin v os hv hos h
      · cases h
    | ret =>
      simp only [fnLeaf] at h
      split at h
      · rename_i v os hv hos; exact fin v os hv hos h
      · cases h

end

end Vm
