/-
  Functions and loops: what the interpreter says of them is so.
-/
import Derived.Test.YtpphpbphgnlmlaaVm11
import Derived.LoopN
set_option linter.all false
namespace Vm
open Go Go.RowKit
variable {A : Nat → Type}

def argEnv : Nat → List (V A) → Env A
  | _, [] => []
  | i, v :: vs => (.slot i, [], v) :: argEnv (i + 1) vs

def noPtr0 : V A → Bool
  | .ptr _ _ | .own _ | .optr _ _ _ _ | .agg _ | .tup _ => false
  | _ => true

def noPtr1 : V A → Bool
  | .agg cs => all noPtr0 cs
  | .tup _ => false
  | v => noPtr0 v

def noPtr : V A → Bool
  | .agg cs => all noPtr0 cs
  | .tup cs => all noPtr1 cs
  | v => noPtr0 v

/-- A list of which it isn't told whether it is full. -/
def unfull0 : V A → V A
  | .list t _ l => .list t false l
  | v => v

def mapV (f : V A → V A) : List (V A) → List (V A)
  | [] => []
  | v :: vs => f v :: mapV f vs

def unfull : V A → V A
  | .list t _ l => .list t false l
  | .agg cs => .agg (mapV unfull0 cs)
  | v => v

section
variable (c : Cfg A)

def resV (E : Env A) (t : Nat) : ResultVar → Option (V A)
  | .tmp s => match look (.slot s) E with
    | some ([], v) => some (unfull (fitArg c t v))
    | _ => none
  | .cell s t' => match look (.slot s) E with
    | some ([], .ptr id off) => match readCells E id off (c.ty t').size with
      | some cs => match ofCells (c.ty t') cs with
        | some v => some (unfull v)
        | none => none
      | none => none
    | _ => none

def resVs (E : Env A) : List ResultVar → List Nat → Option (List (V A))
  | [], _ => some []
  | r :: rs, ts => match resV c E (match ts with | t :: _ => t | [] => 0) r, resVs E rs ts.tail with
    | some v, some vs => some (v :: vs)
    | _, _ => none

def resultOf (E : Env A) (rs : List ResultVar) (ts : List Nat) : Option (V A) :=
  match resVs c E rs ts with
  | some [v] => some v
  | some vs => some (.tup vs)
  | none => none

end

/-- A tree that comes to nothing. -/
def Tr.isFail : Tr A → Bool
  | .leaf _ _ => false
  | .node _ t e => (Tr.isFail t).and (Tr.isFail e)
  | .req _ t => Tr.isFail t
  | .fail => true

/-- What a function's tree comes to, read by 'rd'. -/
def Tr.out {α : Type} (g : Ex → Env A → Option α) : Tr A → Option α
  | .leaf e d => g e d
  | .node b t e => match Tr.isFail t, Tr.isFail e with
    | true, _ => Tr.out g e
    | false, true => Tr.out g t
    | false, false => match Tr.out g t, Tr.out g e with
      | some x, some y => some (bif b then x else y)
      | _, _ => none
  | .req _ t => Tr.out g t
  | .fail => none

def fnLeaf {α : Type} (c : Cfg A) (rs : List ResultVar) (ts : List Nat) (rd : V A → Option α) (e : Ex) (d : Env A) : Option α :=
  match e with
  | .exit _ => none
  | _ => match resultOf c d rs ts with
    | some v => rd v
    | none => none

def Fn (c : Cfg A) (fn : Func) (code : Code) (loop : Nat → Env A → Tr A) (args : List (V A)) : Tr A := ev c fn.ntmps loop 0 code [] (argEnv 0 args)

def Fn.out {α : Type} (c : Cfg A) (fn : Func) (t : Tr A) (rd : V A → Option α) : Option α := t.out (fnLeaf c fn.results.toList fn.resultTypes.toList rd)

section
variable {c : Cfg A}

theorem isFail_post {K : Ex → Env A → Prop} : ∀ {t : Tr A}, t.isFail = true → t.post K
  | .leaf _ _, h => by cases h
  | .fail, _ => trivial
  | .req _ t, h => isFail_post (t := t) h
  | .node b t e, h => by
    have h' : ((Tr.isFail t) && (Tr.isFail e)) = true := h
    rw [Bool.and_eq_true] at h'
    exact ⟨fun _ => isFail_post h'.1, fun _ => isFail_post h'.2⟩

theorem out_post {α : Type} {g : Ex → Env A → Option α} : ∀ {t : Tr A} {r : α}, t.out g = some r → t.post fun e d => g e d = some r
  | .leaf e d, r, h => h
  | .fail, _, _ => trivial
  | .req _ t, r, h => out_post (t := t) h
  | .node b t e, r, h => by
    simp only [Tr.out] at h
    split at h
    · rename_i ht; exact ⟨fun _ => isFail_post ht, fun _ => out_post h⟩
    · rename_i _ he; exact ⟨fun _ => out_post h, fun _ => isFail_post he⟩
    · split at h
      · rename_i x y hx hy
        cases h
        exact ⟨fun hb => by subst hb; exact out_post hx, fun hb => by subst hb; exact out_post hy⟩
      · cases h

theorem noPtr_avoids {v : V A} (h : noPtr v = true) (d : Nat) : avoids d v = true := by
  have h0 : ∀ {v : V A}, noPtr0 v = true → avoid0 d v = true := by intro v h; cases v <;> simp_all [noPtr0, avoid0]
  have hl : ∀ {l : List (V A)}, all noPtr0 l = true → all (avoid0 d) l = true := by
    intro l
    induction l with
    | nil => intro _; rfl
    | cons v l ih => intro h; simp only [all, Bool.and_eq_true] at h ⊢; exact ⟨h0 h.1, ih h.2⟩
  have h1 : ∀ {v : V A}, noPtr1 v = true → avoid1 d v = true := by
    intro v h
    cases v <;> simp_all [noPtr1, noPtr0, avoid1, avoid0]
  have hl1 : ∀ {l : List (V A)}, all noPtr1 l = true → all (avoid1 d) l = true := by
    intro l
    induction l with
    | nil => intro _; rfl
    | cons v l ih => intro h; simp only [all, Bool.and_eq_true] at h ⊢; exact ⟨h1 h.1, ih h.2⟩
  cases v <;> simp_all [noPtr, noPtr0, avoids, avoid0]

theorem look_argEnv : ∀ (vs : List (V A)) (i : Nat) (k : K), look k (argEnv i vs) = match k with | .slot j => if i ≤ j then (vs[j - i]?).map (fun v => ([], v)) else none | _ => none := by
  intro vs
  induction vs with
  | nil => intro i k; cases k <;> simp [argEnv, look]
  | cons v vs ih =>
    intro i k
    rw [argEnv, look_cons, ih]
    cases k with
    | slot j =>
      simp only [K.slot.injEq]
      by_cases h : j = i
      · subst h; simp
      · rw [if_neg h]
        by_cases h2 : i ≤ j
        · rw [if_pos (by omega), if_pos h2, show j - i = (j - (i + 1)) + 1 by omega, List.getElem?_cons_succ]
        · rw [if_neg (by omega), if_neg h2]
    | cell _ _ => simp
    | row _ => simp

theorem fit_den {S : Nat → Prop} {σ : Nat → Loc} {w : World} {t : Nat} {v : V A} {x : Value} (h : Den c S σ w v x) : Den c S σ w (fitArg c t v) x := by
  unfold fitArg
  split
  · split
    · rename_i e he
      split
      · rename_i hs
        have := h.of_raw; subst this
        exact den_nil (by intro e0; rw [e0] at hs; simp at hs) _ _ (fun _ => rfl)
      · exact h
    · exact h
  · exact h

theorem unfull0_den {S : Nat → Prop} {σ : Nat → Loc} {w : World} {v : V A} {x : Value} (h : Den c S σ w v x) : Den c S σ w (unfull0 v) x := by
  cases v <;> try exact h
  cases h with
  | list _ _ _ p cap b x hp hcap hf hSb hn he hcell hd => exact .list _ _ _ p cap b x hp hcap (fun h => by cases h) hSb hn he hcell hd

theorem mapV_eq (f : V A → V A) : ∀ l : List (V A), mapV f l = l.map f
  | [] => rfl
  | v :: vs => by simp [mapV, mapV_eq f vs]

theorem unfull_den {S : Nat → Prop} {σ : Nat → Loc} {w : World} {v : V A} {x : Value} (h : Den c S σ w v x) : Den c S σ w (unfull v) x := by
  cases v <;> try exact h
  · rename_i cs
    obtain ⟨xs, rfl, hxs⟩ := h.of_agg
    simp only [unfull, mapV_eq]
    refine .agg _ _ (by simp [hxs.1]) fun i hi => ?_
    simp only [List.getElem_map]
    exact unfull0_den (hxs.2 i (by simpa using hi))
  · exact unfull0_den h

/-- Where a result is read. -/
def resSem (tmps : Array Value) : ResultVar → Sem Value
  | .tmp t => pure (tmps.getD t undef)
  | .cell a t => do loadVar t (← asAddr (tmps.getD a undef))

theorem results_eq (fn : Func) (tmps : Array Value) : results fn tmps = (do let vs ← fn.results.mapM (resSem tmps); pure (if h : vs.size = 1 then vs[0] else .tuple vs)) := rfl

theorem resV_den (hc : CfgOk c) {n : Nat} {w0 : World} {S0 S : Nat → Prop} {σ : Nat → Loc} {lk : K → Option (Ent A)} {a : Act} {w : World} (hR : RelAt c n w0 S0 S σ lk a w) {E : Env A} (hE : ∀ k e, look k E = some e → lk k = some e)
    {t : Nat} {r : ResultVar} {v : V A} (h : resV c E t r = some v) :
    Gives c S σ w (resSem a.tmps r) v := by
  have nil : Holds a [] := fun p hp => by cases hp
  cases r with
  | tmp s =>
    simp only [resV] at h
    split at h
    · rename_i u hu
      cases h
      have := opv_den hR hE nil (x := .tmp s) (v := u) (by simp [opv, hu, sub])
      exact ⟨_, rfl, unfull_den (fit_den this)⟩
    · cases h
  | cell s t' =>
    simp only [resV] at h
    split at h
    · rename_i id off hu
      split at h
      · rename_i cs hcs
        split at h
        · rename_i u hu'
          cases h
          have h1 := (opv_den hR hE nil (x := .tmp s) (v := .ptr id off) (by simp [opv, hu, sub])).of_ptr
          have h2 : a.tmps.getD s undef = .pointer (some ⟨(σ id).blk, off, none⟩) := h1
          obtain ⟨x, hx, hd⟩ := load_ptr hc hR hE hcs hu'
          exact ⟨x, by simpa [resSem, asAddr, h2] using hx, unfull_den hd⟩
        · cases h
      · cases h
    · cases h

theorem resVs_den (hc : CfgOk c) {n : Nat} {w0 : World} {S0 S : Nat → Prop} {σ : Nat → Loc} {lk : K → Option (Ent A)} {a : Act} {w : World} (hR : RelAt c n w0 S0 S σ lk a w) {E : Env A} (hE : ∀ k e, look k E = some e → lk k = some e) :
    ∀ (rs : List ResultVar) (ts : List Nat) (vs : List (V A)), resVs c E rs ts = some vs → ∃ xs : List Value, xs.length = vs.length ∧ rs.length = vs.length ∧
      (rs.mapM (resSem a.tmps)).run c.P w = .ok xs w ∧ ∀ i (hi : i < vs.length), Den c S σ w vs[i] (xs.getD i undef) := by
  intro rs
  induction rs with
  | nil => intro ts vs h; simp only [resVs, Option.some.injEq] at h; subst h; exact ⟨[], rfl, rfl, by simp, fun i hi => by simp at hi⟩
  | cons r rs ih =>
    intro ts vs h
    simp only [resVs] at h
    split at h
    · rename_i v vs' hv hvs
      cases h
      obtain ⟨x, hx, hd⟩ := resV_den hc hR hE hv
      obtain ⟨xs, h1, h2, h3, h4⟩ := ih _ _ hvs
      refine ⟨x :: xs, by simp [h1], by simp [h2], ?_, fun i hi => ?_⟩
      · rw [List.mapM_cons]
        simp only [Sem.run_bind, hx, Result.andThen_ok, h3, Sem.run_pure]
      · cases i with
        | zero => exact hd
        | succ i => exact h4 i (by simpa using hi)
    · cases h

theorem results_den (hc : CfgOk c) {n : Nat} {w0 : World} {S0 S : Nat → Prop} {σ : Nat → Loc} {lk : K → Option (Ent A)} {a : Act} {w : World} (hR : RelAt c n w0 S0 S σ lk a w) {E : Env A} (hE : ∀ k e, look k E = some e → lk k = some e)
    {fn : Func} {ts : List Nat} {v : V A} (h : resultOf c E fn.results.toList ts = some v) : ∃ x, (results fn a.tmps).run c.P w = .ok x w ∧ Den c S σ w v x := by
  unfold resultOf at h
  have main : ∀ vs, resVs c E fn.results.toList ts = some vs → ∃ xs : List Value, xs.length = vs.length ∧ (results fn a.tmps).run c.P w = .ok (if h : xs.toArray.size = 1 then xs.toArray[0] else .tuple xs.toArray) w ∧ ∀ i (hi : i < vs.length), Den c S σ w vs[i] (xs.getD i undef) := by
    intro vs hvs
    obtain ⟨xs, h1, h2, h3, h4⟩ := resVs_den hc hR hE _ _ _ hvs
    refine ⟨xs, h1, ?_, h4⟩
    rw [results_eq, Array.mapM_eq_mapM_toList]
    simp only [Sem.run_bind, Sem.run_map, h3, Result.andThen_ok, Sem.run_pure]
  split at h
  · rename_i u hvs
    cases h
    obtain ⟨xs, h1, h2, h3⟩ := main _ hvs
    obtain ⟨x, hx⟩ := List.length_eq_one_iff.1 h1
    subst hx
    exact ⟨x, by simpa using h2, h3 0 (by simp)⟩
  · rename_i vs hne hvs
    cases h
    obtain ⟨xs, h1, h2, h3⟩ := main _ hvs
    have hn : ¬ xs.toArray.size = 1 := by
      intro h
      have : vs.length = 1 := by simp at h; omega
      obtain ⟨u, hu⟩ := List.length_eq_one_iff.1 this
      exact hne u hu
    rw [dif_neg hn] at h2
    exact ⟨.tuple xs.toArray, h2, .tup _ _ (by simp [h1]) (fun i hi => by simpa using h3 i hi)⟩
  · cases h

/-- **What the interpreter says of a function is so.** -/
theorem call_ok (hc : CfgOk c) (hm : c.P.follows .mixedOrders = true) {f : FuncId} {fn : Func} {code : Code} (hf : c.P.funcs[f]? = some fn) (hb : fn.body = some code) {loop : Nat → Env A → Tr A} {args : List (V A)}
    (hL : ∀ p ∈ loopsOf 0 code, ∀ w0 S0, LoopOk c fn.ntmps w0 S0 loop p.1 p.2) (hn : args.length ≤ fn.ntmps) {α : Type} {rd : V A → Option α} {wr : α → V A} (hrw : ∀ v x, rd v = some x → v = wr x) (hnp : ∀ x, noPtr (wr x) = true)
    {r : α} (hout : Fn.out c fn (Fn c fn code loop args) rd = some r) (hvc : (Fn c fn code loop args).vc) : CallOk c f args (wr r) := by
  intro w S σ xs hS hxs hden
  refine calls_of_wp hf hb ?_
  have hsz : xs.size ≤ fn.ntmps := by omega
  have hR : Rel c fn.ntmps w S (fun k => look k (argEnv 0 args ++ ([] ++ []))) { tmps := xs ++ Array.replicate (fn.ntmps - xs.size) undef, defers := [] } w := by
    refine ⟨S, σ, {
      defers := rfl
      size := by simp; omega
      below := Below.refl _ _
      s0 := fun _ h => h
      sNew := fun _ h => .inl h
      sLt := hS
      slot := fun i g v hv _ => by
        simp only [List.append_nil, look_argEnv, Nat.zero_le, if_true, Nat.sub_zero, Option.map_eq_some_iff, Prod.mk.injEq] at hv
        obtain ⟨v', hv', rfl, rfl⟩ := hv
        obtain ⟨hi, he⟩ := List.getElem?_eq_some_iff.1 hv'
        have hix : i < xs.size := by omega
        have := hden i hi
        rw [he] at this
        refine ⟨by omega, fun _ => ?_, fun hn => absurd (fun p hp => by cases hp) hn⟩
        have e : (xs ++ Array.replicate (fn.ntmps - xs.size) undef).getD i undef = xs.getD i undef := by simp [Array.getElem?_append, hix]
        rw [e]; exact this
      cell := fun id off g v hv _ => by simp [look_argEnv] at hv
      dist := fun i j hi _ _ => by obtain ⟨o, g, v, hv, _⟩ := hi; simp [look_argEnv] at hv }⟩
  refine ev_ok hc hm (F := []) code 0 [] (argEnv 0 args) _ _ w (fun p hp => hL p hp w S) ?_ hR hvc ?_
  · have : ∀ x : Code, codeAvoids ([] : Env A) x = true := by
      intro x
      have h0 : ∀ o : Option Tmp, dstAvoids o ([] : Env A) = true := by intro o; cases o <;> rfl
      have hl : ∀ l : List Oper, opsAvoid ([] : Env A) l = true := by intro l; induction l with | nil => rfl | cons o l ih => simp [opsAvoid, h0, ih]
      induction x <;> simp_all [codeAvoids]
    exact this code
  · refine Tr.post_mono (fun e d h a' w' hR' => ?_) (out_post hout)
    obtain ⟨S', σ', hr⟩ := hR'
    have fin : ∀ (v : V A), resultOf c d fn.results.toList fn.resultTypes.toList = some v → rd v = some r → a'.defers = [] ∧ ∃ x, (results fn a'.tmps).run c.P w' = .ok x w' ∧
        ∃ y, Ending.returned x = .returned y ∧ Below w.heap.size w w' ∧ ∃ S'' : Nat → Prop, (∀ b, S'' b → S b ∨ (w.heap.size ≤ b ∧ b < w'.heap.size)) ∧ Den c S'' σ w' (wr r) y := by
      intro v hv hrd
      obtain ⟨x, hx, hd⟩ := results_den hc hr (E := d) (fun k e h => by simpa using h) hv
      have := hrw v r hrd
      subst this
      exact ⟨hr.defers, x, hx, x, rfl, hr.below, S', fun b hb => by
        rcases hr.sNew b hb with h1 | h1
        · exact .inl h1
        · exact .inr ⟨h1, hr.sLt b hb⟩, hd.mono hc (fun _ h => h) (fun _ _ => rfl) (fun id hid => by rw [noPtr_avoids (hnp r) id] at hid; cases hid)⟩
    cases e with
    | exit id => simp [fnLeaf] at h
    | normal =>
      simp only [fnLeaf] at h
      split at h
      · rename_i v hv; exact fin v hv h
      · cases h
    | ret =>
      simp only [fnLeaf] at h
      split at h
      · rename_i v hv; exact fin v hv h
      · cases h

end

/-! ### Loops -/

/-- From x the rounds come to y, each with what it wants. -/
inductive Runs {X Y : Type} (step : X → X ⊕ Y) (vcs : X → Prop) : X → Y → Prop
  | done (x : X) (y : Y) (hv : vcs x) (h : step x = .inr y) : Runs step vcs x y
  | next (x x' : X) (y : Y) (hv : vcs x) (h : step x = .inl x') (r : Runs step vcs x' y) : Runs step vcs x y

theorem Runs.det {X Y : Type} {step : X → X ⊕ Y} {vcs : X → Prop} {x : X} {y y' : Y} (h : Runs step vcs x y) (h' : Runs step vcs x y') : y = y' := by
  induction h with
  | done x y hv hs =>
    cases h' with
    | done _ _ _ hs' => rw [hs] at hs'; cases hs'; rfl
    | next _ x' _ _ hs' _ => rw [hs] at hs'; cases hs'
  | next x x1 y hv hs _ ih =>
    cases h' with
    | done _ _ _ hs' => rw [hs] at hs'; cases hs'
    | next _ x' _ _ hs' r => rw [hs] at hs'; cases hs'; exact ih r

/-- What the rounds come to, if they come to anything. -/
noncomputable def theRun {X Y : Type} (d : X → Y) (step : X → X ⊕ Y) (vcs : X → Prop) (x : X) : Y := @Classical.epsilon Y ⟨d x⟩ (fun y => Runs step vcs x y)

theorem theRun_eq {X Y : Type} {d : X → Y} {step : X → X ⊕ Y} {vcs : X → Prop} {x : X} {y : Y} (h : Runs step vcs x y) : theRun d step vcs x = y :=
  (Classical.epsilon_spec (p := fun y => Runs step vcs x y) ⟨y, h⟩ : Runs step vcs x (theRun d step vcs x)).det h

theorem theRun_runs {X Y : Type} {d : X → Y} {step : X → X ⊕ Y} {vcs : X → Prop} {x : X} {y : Y} (h : Runs step vcs x y) : Runs step vcs x (theRun d step vcs x) := by
  rw [theRun_eq h]; exact h

/-- Rounds that keep to a rule and come nearer. -/
theorem Runs.of {X Y : Type} {step : X → X ⊕ Y} {vcs : X → Prop} (I : X → Prop) (μ : X → Nat) (R : Y → Prop) (h : ∀ x, I x → vcs x ∧ (match step x with | .inl x' => I x' ∧ μ x' < μ x | .inr y => R y)) :
    ∀ x, I x → ∃ y, Runs step vcs x y ∧ R y := by
  have key : ∀ n x, μ x = n → I x → ∃ y, Runs step vcs x y ∧ R y := by
    intro n
    induction n using Nat.strongRecOn with
    | _ n ih =>
      intro x hn hx
      obtain ⟨hv, hs⟩ := h x hx
      cases hst : step x with
      | inl x' =>
        rw [hst] at hs
        obtain ⟨y, hr, hy⟩ := ih (μ x') (hn ▸ hs.2) x' rfl hs.1
        exact ⟨y, .next x x' y hv hst hr, hy⟩
      | inr y =>
        rw [hst] at hs
        exact ⟨y, .done x y hv hst, hs⟩
  exact fun x hx => key _ x rfl hx

def rdK (E : Env A) (k : K) : V A :=
  match look k E with
  | some ([], v) => v
  | _ => .junk

def rdKs (E : Env A) : List K → List (V A)
  | [] => []
  | k :: ks => rdK E k :: rdKs E ks

def zipK : List K → List (V A) → Env A
  | k :: ks, v :: vs => (k, [], v) :: zipK ks vs
  | _, _ => []

def junkK : List K → Env A
  | [] => []
  | k :: ks => (k, [], .junk) :: junkK ks

def isFreshKey (W : List Nat) : K → Bool
  | .cell id _ => memN id W
  | _ => false

def keysIn (W : List Nat) (d : Env A) (E : Env A) : Bool :=
  match d with
  | [] => true
  | (k, _) :: r => ((hasKey k E).or (isFreshKey W k)).and (keysIn W r E)

/-- A loop: the keys of its state; how a state is written and read; the keys that only junk is left in; the boxes that a round lays. -/
structure LD (A : Nat → Type) where
  X : Type
  Y : Type
  keys : List K
  px : List (V A) → Option X
  tx : X → List (V A)
  okeys : List K
  py : Ex → List (V A) → Option Y
  ty : Y → List (V A)
  oex : Y → Ex
  junk : List K

def LD.vars (L : LD A) (x : L.X) : Env A := zipK L.keys (L.tx x) ++ junkK L.junk

/-- The slots that code lays anew. -/
def opsDst : List Oper → List Nat
  | [] => []
  | o :: l => match o.dst with
    | some d => d :: opsDst l
    | none => opsDst l

def dstsOf : Code → List Nat
  | .region _ ops _ => opsDst ops.toList
  | .seq x y => dstsOf x ++ dstsOf y
  | .cond _ t e => dstsOf t ++ dstsOf e
  | .block _ x => dstsOf x
  | .loop x => dstsOf x
  | .scope x => dstsOf x
  | _ => []

def LD.leaf (L : LD A) (W : List Nat) (x : L.X) (e : Ex) (d : Env A) : Option (L.X ⊕ L.Y) :=
  match e with
  | .normal => match L.px (rdKs (d ++ L.vars x) L.keys), keysIn W d (L.vars x) with
    | some x', true => some (.inl x')
    | _, _ => none
  | e => match L.py e (rdKs (d ++ L.vars x) L.okeys), keysIn W d (zipK L.okeys (rdKs (d ++ L.vars x) L.okeys) ++ junkK L.junk) with
    | some y, true => some (.inr y)
    | _, _ => none

def sameKeys : List K → List K → Bool
  | [], _ => true
  | k :: ks, l => (hasKey k (A := fun _ => Unit) (junkK l)).and (sameKeys ks l)

/-- What is said of the loop at its head. -/
def LD.tree (L : LD A) (body : Code) (F : L.X → L.Y) (out : L.Y → Tr A) (step : L.X → L.X ⊕ L.Y) (vcs : L.X → Prop) (E : Env A) : Tr A :=
  match L.px (rdKs E L.keys), codeAvoids E body with
  | some x, true => .req [Runs step vcs x (F x)] (out (F x))
  | _, _ => .fail

section
variable {c : Cfg A} {n : Nat} {w0 : World} {S0 : Nat → Prop}

theorem look_zipK_rd {E : Env A} {k : K} {g : Chain} {v : V A} : ∀ (ks : List K), look k (zipK ks (rdKs E ks)) = some (g, v) → g = [] ∧ v = rdK E k := by
  intro ks
  induction ks with
  | nil => intro h; simp [zipK, look] at h
  | cons k' ks ih =>
    intro h
    simp only [rdKs, zipK, look_cons] at h
    split at h
    · rename_i hk; subst hk; cases h; exact ⟨rfl, rfl⟩
    · exact ih h

theorem rdK_look {E : Env A} {k : K} (h : (rdK E k).isJunk = false) : look k E = some ([], rdK E k) := by
  unfold rdK at h ⊢
  split at h
  · rename_i v hv
    rw [hv]
  · cases h

theorem look_junkK {k : K} {g : Chain} {v : V A} : ∀ (ks : List K), look k (junkK ks : Env A) = some (g, v) → v.isJunk = true := by
  intro ks
  induction ks with
  | nil => intro h; simp [junkK, look] at h
  | cons k' ks ih =>
    intro h
    simp only [junkK, look_cons] at h
    split at h
    · cases h; rfl
    · exact ih h

theorem hasKey_iff {k : K} : ∀ {E : Env A}, hasKey k E = true ↔ ∃ e, look k E = some e
  | [] => by simp [hasKey, look]
  | (k', e') :: E => by
    simp only [hasKey, Bool.or_eq_true, look_cons, hasKey_iff (E := E), K.same_iff]
    by_cases h : k = k'
    · simp [h]
    · simp [h]

/-- What has been written lies among the keys, or in boxes of the round's own. -/
theorem keysIn_look {W : List Nat} {E : Env A} : ∀ {d : Env A}, keysIn W d E = true → ∀ {k : K} {e : Ent A}, look k d = some e → (∃ e', look k E = some e') ∨ isFreshKey W k = true
  | [], _, k, e, h => by simp [look] at h
  | (k', e') :: d, hk, k, e, h => by
    simp only [keysIn, Bool.and_eq_true, Bool.or_eq_true] at hk
    rw [look_cons] at h
    split at h
    · rename_i he; subst he
      rcases hk.1 with h1 | h1
      · exact .inl (hasKey_iff.1 h1)
      · exact .inr h1
    · exact keysIn_look hk.2 h

theorem codeAvoids_dst {F : Env A} : ∀ {x : Code}, codeAvoids F x = true → ∀ d ∈ dstsOf x, envAvoids d F = true := by
  have hl : ∀ l : List Oper, opsAvoid F l = true → ∀ d ∈ opsDst l, envAvoids d F = true := by
    intro l
    induction l with
    | nil => intro _ d hd; cases hd
    | cons o l ih =>
      intro h d hd
      simp only [opsAvoid, Bool.and_eq_true] at h
      simp only [opsDst] at hd
      split at hd
      · rename_i d' hd'
        cases hd with
        | head => rw [hd'] at h; exact h.1
        | tail _ hm => exact ih h.2 d hm
      · exact ih h.2 d hd
  intro x
  induction x with
  | region id ops dr => intro h d hd; exact hl _ h d hd
  | seq x y ihx ihy =>
    intro h d hd
    simp only [codeAvoids, Bool.and_eq_true] at h
    simp only [dstsOf, List.mem_append] at hd
    rcases hd with hd | hd
    · exact ihx h.1 d hd
    · exact ihy h.2 d hd
  | cond o x y ihx ihy =>
    intro h d hd
    simp only [codeAvoids, Bool.and_eq_true] at h
    simp only [dstsOf, List.mem_append] at hd
    rcases hd with hd | hd
    · exact ihx h.1 d hd
    · exact ihy h.2 d hd
  | block id x ih => intro h d hd; exact ih h d hd
  | loop x ih => intro h d hd; exact ih h d hd
  | scope x ih => intro h d hd; exact ih h d hd
  | _ => intro _ d hd; simp [dstsOf] at hd

theorem fresh_look {F : Env A} {body : Code} (h : codeAvoids F body = true) {k : K} (hk : isFreshKey (dstsOf body) k = true) : look k F = none := by
  cases hl : look k F with
  | none => rfl
  | some e =>
    exfalso
    cases k with
    | cell id off =>
      have := avoids_look (g := e.1) (v := e.2) (codeAvoids_dst h id (memN_iff.1 hk)) hl
      simp [entAvoids, K.avoids] at this
    | slot i => simp [isFreshKey] at hk
    | row i => simp [isFreshKey] at hk

theorem codeAvoids_append {E F : Env A} : ∀ {x : Code}, codeAvoids E x = true → codeAvoids F x = true → codeAvoids (E ++ F) x = true := by
  have h0 : ∀ o : Option Tmp, dstAvoids o E = true → dstAvoids o F = true → dstAvoids o (E ++ F) = true := by
    intro o
    cases o with
    | none => intro _ _; rfl
    | some d =>
      intro h1 h2
      have key : ∀ (E : Env A), envAvoids d E = true → envAvoids d (E ++ F) = true := by
        intro E
        induction E with
        | nil => intro _; exact h2
        | cons e E ih => intro h; simp only [envAvoids, List.cons_append, all, Bool.and_eq_true] at h ⊢; exact ⟨h.1, ih h.2⟩
      exact key E h1
  have hl : ∀ l : List Oper, opsAvoid E l = true → opsAvoid F l = true → opsAvoid (E ++ F) l = true := by
    intro l
    induction l with
    | nil => intro _ _; rfl
    | cons o l ih => intro h1 h2; simp only [opsAvoid, Bool.and_eq_true] at *; exact ⟨h0 _ h1.1 h2.1, ih h1.2 h2.2⟩
  intro x
  induction x with
  | region id ops dr => exact hl _
  | seq x y ihx ihy => intro h1 h2; simp only [codeAvoids, Bool.and_eq_true] at *; exact ⟨ihx h1.1 h2.1, ihy h1.2 h2.2⟩
  | cond o x y ihx ihy => intro h1 h2; simp only [codeAvoids, Bool.and_eq_true] at *; exact ⟨ihx h1.1 h2.1, ihy h1.2 h2.2⟩
  | block id x ih => exact ih
  | loop x ih => exact ih
  | scope x ih => exact ih
  | _ => intro _ _; rfl

theorem zipK_none {k : K} {vs : List (V A)} {E : Env A} : ∀ (ks : List K) (vs : List (V A)), look k (zipK ks (rdKs E ks)) = none → look k (zipK ks vs) = none := by
  intro ks
  induction ks with
  | nil => intro vs _; cases vs <;> rfl
  | cons k' ks ih =>
    intro vs h2
    cases vs with
    | nil => rfl
    | cons v vs =>
      simp only [rdKs, zipK, look_cons] at h2 ⊢
      split at h2
      · cases h2
      · rename_i hk; rw [if_neg hk]; exact ih vs h2

/-- What was read out of an environment lies in it; beside its keys nothing has been written but boxes that nobody beyond knows. -/
theorem sub_read {d v R : Env A} {ks : List K} {J : List K} {W : List Nat} {body : Code} (hW : W = dstsOf body) (hR : codeAvoids R body = true)
    (hkeys : ∀ k e, look k d = some e → (∃ e', look k (zipK ks (rdKs (d ++ v) ks) ++ (junkK J : Env A)) = some e') ∨ isFreshKey W k = true)
    (hv : ∀ k e, look k v = some e → ∃ e', look k (zipK ks (rdKs (d ++ v) ks) ++ (junkK J : Env A)) = some e') :
    Sub (fun k => look k ((zipK ks (rdKs (d ++ v) ks) ++ junkK J) ++ R)) (fun k => look k (d ++ (v ++ R))) := by
  intro k g u hk hj
  show look k (d ++ (v ++ R)) = some (g, u)
  have hk' : look k ((zipK ks (rdKs (d ++ v) ks) ++ junkK J) ++ R) = some (g, u) := hk
  rw [List.append_assoc, look_append] at hk'
  rw [← List.append_assoc, look_append]
  cases hz : look k (zipK ks (rdKs (d ++ v) ks)) with
  | some e =>
    rw [hz] at hk'; simp at hk'; subst hk'
    obtain ⟨rfl, rfl⟩ := look_zipK_rd _ hz
    rw [rdK_look hj]; rfl
  | none =>
    rw [hz, Option.none_or, look_append] at hk'
    cases hjk : look k (junkK J : Env A) with
    | some e => rw [hjk] at hk'; simp at hk'; subst hk'; have := look_junkK _ hjk; rw [this] at hj; cases hj
    | none =>
      rw [hjk, Option.none_or] at hk'
      have hno : ¬ ∃ e', look k (zipK ks (rdKs (d ++ v) ks) ++ (junkK J : Env A)) = some e' := by
        rintro ⟨e', he'⟩
        rw [look_append, hz, Option.none_or, hjk] at he'; cases he'
      have hd : look k d = none := by
        cases hd : look k d with
        | none => rfl
        | some e =>
          exfalso
          rcases hkeys k e hd with h | h
          · exact hno h
          · subst hW
            rw [fresh_look hR h] at hk'; cases hk'
      have hvn : look k v = none := by
        cases hvl : look k v with
        | none => rfl
        | some e => exact absurd (hv k e hvl) hno
      rw [look_append, hd, hvn]
      exact hk'

theorem sameKeys_mem : ∀ {ks l : List K}, sameKeys ks l = true → ∀ k ∈ ks, k ∈ l := by
  have hj : ∀ (l : List K) k, hasKey k (A := fun _ => Unit) (junkK l) = true → k ∈ l := by
    intro l
    induction l with
    | nil => intro k h; simp [junkK, hasKey] at h
    | cons k' l ih =>
      intro k h
      simp only [junkK, hasKey, Bool.or_eq_true, K.same_iff] at h
      rcases h with rfl | h
      · exact List.mem_cons_self ..
      · exact List.mem_cons_of_mem _ (ih k h)
  intro ks
  induction ks with
  | nil => intro l _ k hk; cases hk
  | cons k' ks ih =>
    intro l h k hk
    simp only [sameKeys, Bool.and_eq_true] at h
    cases hk with
    | head => exact hj _ _ h.1
    | tail _ hm => exact ih h.2 k hm

theorem look_junk_some {k : K} : ∀ {l : List K}, k ∈ l → ∃ e, look k (junkK l : Env A) = some e := by
  intro l
  induction l with
  | nil => intro h; cases h
  | cons k' l ih =>
    intro h
    simp only [junkK, look_cons]
    by_cases hk : k = k'
    · exact ⟨_, if_pos hk⟩
    · rw [if_neg hk]
      cases h with
      | head => exact absurd rfl hk
      | tail _ hm => exact ih hm

theorem look_zip_some {k : K} {E : Env A} : ∀ {l : List K}, k ∈ l → ∃ e, look k (zipK l (rdKs E l)) = some e := by
  intro l
  induction l with
  | nil => intro h; cases h
  | cons k' l ih =>
    intro h
    simp only [rdKs, zipK, look_cons]
    by_cases hk : k = k'
    · exact ⟨_, if_pos hk⟩
    · rw [if_neg hk]
      cases h with
      | head => exact absurd rfl hk
      | tail _ hm => exact ih hm

theorem zip_mem {k : K} {e : Ent A} : ∀ {l : List K} {vs : List (V A)}, look k (zipK l vs) = some e → k ∈ l := by
  intro l
  induction l with
  | nil => intro vs h; cases vs <;> simp [zipK, look] at h
  | cons k' l ih =>
    intro vs h
    cases vs with
    | nil => simp [zipK, look] at h
    | cons v vs =>
      simp only [zipK, look_cons] at h
      split at h
      · rename_i hk; subst hk; exact List.mem_cons_self ..
      · exact List.mem_cons_of_mem _ (ih h)

theorem junk_mem {k : K} {e : Ent A} : ∀ {l : List K}, look k (junkK l : Env A) = some e → k ∈ l := by
  intro l
  induction l with
  | nil => intro h; simp [junkK, look] at h
  | cons k' l ih =>
    intro h
    simp only [junkK, look_cons] at h
    split at h
    · rename_i hk; subst hk; exact List.mem_cons_self ..
    · exact List.mem_cons_of_mem _ (ih h)

/-- **What is said of a loop is so**, if a round's tree says what 'step' and 'vcs' say. -/
theorem loop_ok (hc : CfgOk c) (hm : c.P.follows .mixedOrders = true) (L : LD A) {body : Code} {key : Nat} {loop : Nat → Env A → Tr A} {F : L.X → L.Y} {out : L.Y → Tr A} {step : L.X → L.X ⊕ L.Y} {vcs : L.X → Prop}
    (hloop : ∀ E, loop key E = L.tree body F out step vcs E) (hin : ∀ p ∈ loopsOf key body, ∀ w0 S0, LoopOk c n w0 S0 loop p.1 p.2)
    (htx : ∀ vs x, L.px vs = some x → vs = L.tx x) (hty : ∀ e vs y, L.py e vs = some y → vs = L.ty y ∧ L.oex y = e) (hcover : sameKeys L.keys (L.okeys ++ L.junk) = true)
    (hout : ∀ y (K : Ex → Env A → Prop), (out y).post K → K (L.oex y) (zipK L.okeys (L.ty y) ++ junkK L.junk))
    (hstep : ∀ x, (ev c n loop key body (L.vars x) []).out (L.leaf (dstsOf body) x) = some (step x)) (hvcs : ∀ x, vcs x → (ev c n loop key body (L.vars x) []).vc) : ∀ w0 S0, LoopOk c n w0 S0 loop key body := by
  intro w0 S0 E F' Q a w hav hR hvc hpost
  rw [hloop] at hvc hpost
  unfold LD.tree at hvc hpost
  split at hvc
  · rename_i x0 hx0 hok
    simp only [hx0, hok] at hpost
    obtain ⟨hruns, _⟩ := hvc
    have hfin := hout _ _ hpost
    clear hpost
    have hruns : Runs step vcs x0 (F x0) := hruns
    generalize hy0 : F x0 = y0 at hruns hfin
    clear hy0
    have hEF : codeAvoids (E ++ F') body = true := codeAvoids_append hok hav
    have hvk : ∀ (x : L.X) (ks : List K) (E' : Env A), (∀ k ∈ L.keys, k ∈ ks ++ L.junk) → ∀ k e, look k (L.vars x) = some e → ∃ e', look k (zipK ks (rdKs E' ks) ++ (junkK L.junk : Env A)) = some e' := by
      intro x ks E' hsub k e hk
      have hmem : k ∈ ks ++ L.junk := by
        rw [LD.vars, look_append] at hk
        cases hz : look k (zipK L.keys (L.tx x)) with
        | some e2 => exact hsub k (zip_mem hz)
        | none => rw [hz, Option.none_or] at hk; exact List.mem_append_right _ (junk_mem hk)
      rw [look_append]
      rcases List.mem_append.1 hmem with h | h
      · obtain ⟨e', he'⟩ := look_zip_some (E := E') h
        exact ⟨e', by rw [he']; rfl⟩
      · obtain ⟨e', he'⟩ := look_junk_some (A := A) h
        cases hz : look k (zipK ks (rdKs E' ks)) with
        | some e2 => exact ⟨e2, rfl⟩
        | none => exact ⟨e', he'⟩
    have one : ∀ x, vcs x → ∀ a w, Rel c n w0 S0 (fun k => look k (L.vars x ++ (E ++ F'))) a w →
        body.wp c.P (fun ex a' w' => match step x with
          | .inl x' => ex = .normal ∧ Rel c n w0 S0 (fun k => look k (L.vars x' ++ (E ++ F'))) a' w'
          | .inr y => ex = (L.oex y).to ∧ ex ≠ .normal ∧ Rel c n w0 S0 (fun k => look k ((zipK L.okeys (L.ty y) ++ junkK L.junk) ++ (E ++ F'))) a' w') a w := by
      intro x hvx a w hRx
      refine ev_ok hc hm (F := E ++ F') body key (L.vars x) [] _ a w (fun p hp => hin p hp w0 S0) hEF (by simpa using hRx) (hvcs x hvx) ?_
      refine Tr.post_mono (fun e d h a' w' hR' => ?_) (out_post (hstep x))
      have exits : ∀ e : Ex, e ≠ .normal → (match L.py e (rdKs (d ++ L.vars x) L.okeys), keysIn (dstsOf body) d (zipK L.okeys (rdKs (d ++ L.vars x) L.okeys) ++ junkK L.junk) with
          | some y, true => (some (.inr y) : Option (L.X ⊕ L.Y))
          | _, _ => none) = some (step x) → (match step x with
          | .inl x' => e.to = .normal ∧ Rel c n w0 S0 (fun k => look k (L.vars x' ++ (E ++ F'))) a' w'
          | .inr y => e.to = (L.oex y).to ∧ e.to ≠ .normal ∧ Rel c n w0 S0 (fun k => look k ((zipK L.okeys (L.ty y) ++ junkK L.junk) ++ (E ++ F'))) a' w') := by
        intro e hne h
        split at h
        · rename_i y hy hki
          simp only [Option.some.injEq] at h
          rw [← h]
          obtain ⟨h1, h2⟩ := hty _ _ _ hy
          refine ⟨by rw [h2], by cases e <;> simp_all [Ex.to], ?_⟩
          rw [← h1]
          exact hR'.sub (sub_read rfl hEF (fun k e hk => keysIn_look hki hk) (hvk x L.okeys _ (sameKeys_mem hcover)))
        · cases h
      cases e with
      | normal =>
        simp only [LD.leaf] at h
        split at h
        · rename_i x' hx' hki
          simp only [Option.some.injEq] at h
          rw [← h]
          refine ⟨rfl, ?_⟩
          rw [LD.vars, ← htx _ _ hx']
          refine hR'.sub (sub_read rfl hEF (fun k e hk => ?_) (hvk x L.keys _ (fun k hk => List.mem_append_left _ hk)))
          rcases keysIn_look hki hk with ⟨e', he'⟩ | hf
          · exact .inl (hvk x L.keys _ (fun k hk => List.mem_append_left _ hk) k e' he')
          · exact .inr hf
        · cases h
      | ret => exact exits .ret (by simp) h
      | exit id => exact exits (.exit id) (by simp) h
    have rounds : ∀ x y, Runs step vcs x y → (∀ a w, Rel c n w0 S0 (fun k => look k ((zipK L.okeys (L.ty y) ++ junkK L.junk) ++ (E ++ F'))) a w → Q (L.oex y).to a w) →
        ∃ m, ∀ a w, Rel c n w0 S0 (fun k => look k (L.vars x ++ (E ++ F'))) a w → Code.rounds c.P body Q m a w := by
      intro x y hr
      induction hr with
      | done x y hv hs =>
        intro hq
        refine ⟨1, fun a w hRx => ?_⟩
        rw [rounds_succ]
        refine wp_mono (one x hv a w hRx) (fun e a' w' h => ?_)
        rw [hs] at h
        obtain ⟨h1, h2, h3⟩ := h
        have := hq a' w' h3
        rw [← h1] at this
        cases e <;> first | exact absurd rfl h2 | exact this
      | next x x' y hv hs _ ih =>
        intro hq
        obtain ⟨m, hm'⟩ := ih hq
        refine ⟨m + 1, fun a w hRx => ?_⟩
        rw [rounds_succ]
        refine wp_mono (one x hv a w hRx) (fun e a' w' h => ?_)
        rw [hs] at h
        obtain ⟨rfl, h3⟩ := h
        exact hm' a' w' h3
    obtain ⟨m, hm'⟩ := rounds x0 y0 hruns (fun a w h => hfin a w h)
    refine wp_loop_rounds m (hm' a w (hR.sub fun k g v hv hj => ?_))
    show look k (E ++ F') = some (g, v)
    have hv' : look k (L.vars x0 ++ (E ++ F')) = some (g, v) := hv
    rw [LD.vars, ← htx _ _ hx0, List.append_assoc, look_append] at hv'
    cases hz : look k (zipK L.keys (rdKs E L.keys)) with
    | some e =>
      rw [hz] at hv'; simp at hv'; subst hv'
      obtain ⟨rfl, rfl⟩ := look_zipK_rd _ hz
      rw [look_append, rdK_look hj]; rfl
    | none =>
      rw [hz, Option.none_or, look_append] at hv'
      cases hjk : look k (junkK L.junk : Env A) with
      | some e => rw [hjk] at hv'; simp at hv'; subst hv'; have := look_junkK _ hjk; rw [this] at hj; cases hj
      | none => rw [hjk, Option.none_or] at hv'; exact hv'
  · exact hvc.elim

end
end Vm
