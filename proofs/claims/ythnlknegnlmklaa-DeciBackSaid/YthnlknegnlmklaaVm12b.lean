/-
  Loops: what the interpreter says of them is so.
-/
import Derived.Test.YthnlknegnlmklaaVm12
import Derived.LoopN
set_option linter.all false
namespace Vm
open Go Go.RowKit
variable {A : Nat → Type}

/-! ### Loops -/

/-- From x the rounds come to y, each with what it wants. -/
inductive Runs {X Y : Type} (step : X → X ⊕ Y) (vcs : X → Prop) : X → Y → Prop
  | done (x : X) (y : Y) (hv : vcs x) (h : step x = .inr y) : Runs step vcs x y
  | next (x x' : X) (y : Y) (hv : vcs x) (h : step x = .inl x') (r : Runs step vcs x' y) : Runs step vcs x y

theorem Runs.det {X Y : Type} {step : X → X ⊕ Y} {vcs : X → Prop} {x : X} {y y' : Y} (h : Runs step vcs x y) (h' : Runs step vcs x y') : y = y' := by
  induction h with
  | done x y hv hs =>
    cases h' with
    | done _ _ _ hs' => rw [hs] at hs'; cases hs'; rfl
    | next _ x' _ _ hs' _ => rw [hs] at hs'; cases hs'
  | next x x1 y hv hs _ ih =>
    cases h' with
    | done _ _ _ hs' => rw [hs] at hs'; cases hs'
    | next _ x' _ _ hs' r => rw [hs] at hs'; cases hs'; exact ih r

/-- What the rounds come to, if they come to anything. -/
noncomputable def theRun {X Y : Type} (d : X → Y) (step : X → X ⊕ Y) (vcs : X → Prop) (x : X) : Y := @Classical.epsilon Y ⟨d x⟩ (fun y => Runs step vcs x y)

theorem theRun_eq {X Y : Type} {d : X → Y} {step : X → X ⊕ Y} {vcs : X → Prop} {x : X} {y : Y} (h : Runs step vcs x y) : theRun d step vcs x = y :=
  (Classical.epsilon_spec (p := fun y => Runs step vcs x y) ⟨y, h⟩ : Runs step vcs x (theRun d step vcs x)).det h

theorem theRun_runs {X Y : Type} {d : X → Y} {step : X → X ⊕ Y} {vcs : X → Prop} {x : X} {y : Y} (h : Runs step vcs x y) : Runs step vcs x (theRun d step vcs x) := by
  rw [theRun_eq h]; exact h

/-- Rounds that keep to a rule and come nearer. -/
theorem Runs.of {X Y : Type} {step : X → X ⊕ Y} {vcs : X → Prop} (I : X → Prop) (μ : X → Nat) (R : Y → Prop) (h : ∀ x, I x → vcs x ∧ (match step x with | .inl x' => I x' ∧ μ x' < μ x | .inr y => R y)) :
    ∀ x, I x → ∃ y, Runs step vcs x y ∧ R y := by
  have key : ∀ n x, μ x = n → I x → ∃ y, Runs step vcs x y ∧ R y := by
    intro n
    induction n using Nat.strongRecOn with
    | _ n ih =>
      intro x hn hx
      obtain ⟨hv, hs⟩ := h x hx
      cases hst : step x with
      | inl x' =>
        rw [hst] at hs
        obtain ⟨y, hr, hy⟩ := ih (μ x') (hn ▸ hs.2) x' rfl hs.1
        exact ⟨y, .next x x' y hv hst hr, hy⟩
      | inr y =>
        rw [hst] at hs
        exact ⟨y, .done x y hv hst, hs⟩
  exact fun x hx => key _ x rfl hx

def rdK (E : Env A) (k : K) : V A :=
  match look k E with
  | some ([], v) => v
  | _ => .junk

def rdKs (E : Env A) : List K → List (V A)
  | [] => []
  | k :: ks => rdK E k :: rdKs E ks

def zipK : List K → List (V A) → Env A
  | k :: ks, v :: vs => (k, [], v) :: zipK ks vs
  | _, _ => []

def junkK : List K → Env A
  | [] => []
  | k :: ks => (k, [], .junk) :: junkK ks

def isFreshKey (W : List Nat) : K → Bool
  | .cell id _ => memN id W
  | .row id => memN id W
  | _ => false

def keysIn (W : List Nat) (d : Env A) (E : Env A) : Bool :=
  match d with
  | [] => true
  | (k, _) :: r => ((hasKey k E).or (isFreshKey W k)).and (keysIn W r E)

/-- Of memory nothing is told. -/
def dimK : V A → V A
  | .rowc t _ n l => .rowc t false n l
  | .agg cs => .agg (mapV dim0 cs)
  | v => dim0 v

/-- Values as a loop's state has them. -/
def normK (c : Cfg A) : List Nat → List (V A) → List (V A)
  | t :: ts, v :: vs => dimK (fitArg c t v) :: normK c ts vs
  | _, _ => []

/-- A loop: the keys of its state, each with its type; how a state is written and read; the keys that only junk is left in; the slots that hold rows, each with its elements' type. -/
structure LD (A : Nat → Type) where
  X : Type
  Y : Type
  keys : List K
  fits : List Nat
  px : List (V A) → Option X
  tx : X → List (V A)
  okeys : List K
  ofits : List Nat
  py : Ex → List (V A) → Option Y
  ty : Y → List (V A)
  oex : Y → Ex
  junk : List K
  rows : List (Nat × Nat)

def LD.vars (L : LD A) (x : L.X) : Env A := zipK L.keys (L.tx x) ++ junkK L.junk

/-- The slots that code lays anew. -/
def opsDst : List Oper → List Nat
  | [] => []
  | o :: l => match o.dst with
    | some d => d :: opsDst l
    | none => opsDst l

def dstsOf : Code → List Nat
  | .region _ ops _ => opsDst ops.toList
  | .seq x y => dstsOf x ++ dstsOf y
  | .cond _ t e => dstsOf t ++ dstsOf e
  | .block _ x => dstsOf x
  | .loop x => dstsOf x
  | .scope x => dstsOf x
  | _ => []

/-- What a renaming lays ahead of 'd'. -/
def renP (c : Cfg A) (n key : Nat) (base : Env A) : List (Nat × Nat) → Env A → Env A
  | [], _ => []
  | (s, t) :: ss, d => renP c n key base ss (ren1 c n (d ++ base) (renKey n key s) s t ++ d) ++ ren1 c n (d ++ base) (renKey n key s) s t

def LD.leaf (L : LD A) (c : Cfg A) (n key : Nat) (W : List Nat) (x : L.X) (e : Ex) (d : Env A) : Option (L.X ⊕ L.Y) :=
  match e with
  | .normal => match L.px (normK c L.fits (rdKs (renAll c n key (L.vars x) L.rows d ++ L.vars x) L.keys)), keysIn W (renAll c n key (L.vars x) L.rows d) (L.vars x) with
    | some x', true => some (.inl x')
    | _, _ => none
  | e => match L.py e (normK c L.ofits (rdKs (renAll c n key (L.vars x) L.rows d ++ L.vars x) L.okeys)), keysIn W (renAll c n key (L.vars x) L.rows d) (zipK L.okeys (rdKs (renAll c n key (L.vars x) L.rows d ++ L.vars x) L.okeys) ++ junkK L.junk) with
    | some y, true => some (.inr y)
    | _, _ => none

def sameKeys : List K → List K → Bool
  | [], _ => true
  | k :: ks, l => (hasKey k (A := fun _ => Unit) (junkK l)).and (sameKeys ks l)

/-- What the keys do not speak of. -/
def hideKs (ks : List K) : Env A → Env A
  | [] => []
  | e :: E => match hasKey e.1 (A := fun _ => Unit) (junkK ks) with
    | true => hideKs ks E
    | false => e :: hideKs ks E

/-- What is said of the loop at its head. -/
def LD.tree (L : LD A) (c : Cfg A) (n key : Nat) (body : Code) (F : L.X → L.Y) (out : L.Y → Tr A) (step : L.X → L.X ⊕ L.Y) (vcs : L.X → Prop) (E : Env A) : Tr A :=
  match L.px (normK c L.fits (rdKs (renP c n key [] L.rows E ++ E) L.keys)), (codeAvoids n (hideKs (L.keys ++ L.junk) (renP c n key [] L.rows E ++ E)) key (.loop body)).and (sameKeys ((renP c n key [] L.rows E).map (·.1)) (L.okeys ++ L.junk)) with
  | some x, true => .req [Runs step vcs x (F x)] (out (F x))
  | _, _ => .fail

section
variable {c : Cfg A} {n : Nat} {w0 : W1} {S0 : Nat → Prop}

theorem look_zipK_rd {E : Env A} {k : K} {g : Chain} {v : V A} : ∀ (ks : List K), look k (zipK ks (rdKs E ks)) = some (g, v) → g = [] ∧ v = rdK E k := by
  intro ks
  induction ks with
  | nil => intro h; simp [zipK, look] at h
  | cons k' ks ih =>
    intro h
    simp only [rdKs, zipK, look_cons] at h
    split at h
    · rename_i hk; subst hk; cases h; exact ⟨rfl, rfl⟩
    · exact ih h

theorem rdK_look {E : Env A} {k : K} (h : (rdK E k).isJunk = false) : look k E = some ([], rdK E k) := by
  unfold rdK at h ⊢
  split at h
  · rename_i v hv
    rw [hv]
  · cases h

theorem look_junkK {k : K} {g : Chain} {v : V A} : ∀ (ks : List K), look k (junkK ks : Env A) = some (g, v) → v.isJunk = true := by
  intro ks
  induction ks with
  | nil => intro h; simp [junkK, look] at h
  | cons k' ks ih =>
    intro h
    simp only [junkK, look_cons] at h
    split at h
    · cases h; rfl
    · exact ih h

theorem hasKey_iff {k : K} : ∀ {E : Env A}, hasKey k E = true ↔ ∃ e, look k E = some e
  | [] => by simp [hasKey, look]
  | (k', e') :: E => by
    simp only [hasKey, Bool.or_eq_true, look_cons, hasKey_iff (E := E), K.same_iff]
    by_cases h : k = k'
    · simp [h]
    · simp [h]

/-- What has been written lies among the keys, or in boxes of the round's own. -/
theorem keysIn_look {W : List Nat} {E : Env A} : ∀ {d : Env A}, keysIn W d E = true → ∀ {k : K} {e : Ent A}, look k d = some e → (∃ e', look k E = some e') ∨ isFreshKey W k = true
  | [], _, k, e, h => by simp [look] at h
  | (k', e') :: d, hk, k, e, h => by
    simp only [keysIn, Bool.and_eq_true, Bool.or_eq_true] at hk
    rw [look_cons] at h
    split at h
    · rename_i he; subst he
      rcases hk.1 with h1 | h1
      · exact .inl (hasKey_iff.1 h1)
      · exact .inr h1
    · exact keysIn_look hk.2 h

theorem codeAvoids_dst {F : Env A} : ∀ {x : Code} {key : Nat}, codeAvoids n F key x = true → ∀ d ∈ dstsOf x, envAvoids d F = true := by
  have hl : ∀ l : List Oper, opsAvoid F l = true → ∀ d ∈ opsDst l, envAvoids d F = true := by
    intro l
    induction l with
    | nil => intro _ d hd; cases hd
    | cons o l ih =>
      intro h d hd
      simp only [opsAvoid, Bool.and_eq_true] at h
      simp only [opsDst] at hd
      split at hd
      · rename_i d' hd'
        cases hd with
        | head => rw [hd'] at h; exact h.1
        | tail _ hm => exact ih h.2 d hm
      · exact ih h.2 d hd
  intro x
  induction x with
  | region id ops dr => intro key h d hd; exact hl _ h d hd
  | seq x y ihx ihy =>
    intro key h d hd
    simp only [codeAvoids, Bool.and_eq_true] at h
    simp only [dstsOf, List.mem_append] at hd
    rcases hd with hd | hd
    · exact ihx h.1 d hd
    · exact ihy h.2 d hd
  | cond o x y ihx ihy =>
    intro key h d hd
    simp only [codeAvoids, Bool.and_eq_true] at h
    simp only [dstsOf, List.mem_append] at hd
    rcases hd with hd | hd
    · exact ihx h.2.1 d hd
    · exact ihy h.2.2 d hd
  | block id x ih => intro key h d hd; simp only [codeAvoids, Bool.and_eq_true] at h; exact ih h.2 d hd
  | loop x ih => intro key h d hd; simp only [codeAvoids, Bool.and_eq_true] at h; exact ih h.2 d hd
  | scope x ih => intro key h d hd; exact ih h d hd
  | _ => intro key _ d hd; simp [dstsOf] at hd

theorem fresh_look {F : Env A} {body : Code} {key : Nat} (h : codeAvoids n F key body = true) {k : K} (hk : isFreshKey (dstsOf body) k = true) : look k F = none := by
  cases hl : look k F with
  | none => rfl
  | some e =>
    exfalso
    cases k with
    | cell id off =>
      have := avoids_look (g := e.1) (v := e.2) (codeAvoids_dst h id (memN_iff.1 hk)) hl
      simp [entAvoids, K.avoids] at this
    | slot i => simp [isFreshKey] at hk
    | row id =>
      have := avoids_look (g := e.1) (v := e.2) (codeAvoids_dst h id (memN_iff.1 hk)) hl
      simp [entAvoids, K.avoids] at this

theorem all_append {α : Type} {p : α → Bool} : ∀ {l l' : List α}, all p l = true → all p l' = true → all p (l ++ l') = true
  | [], _, _, h => h
  | a :: l, l', h, h' => by simp only [List.cons_append, all, Bool.and_eq_true] at h ⊢; exact ⟨h.1, all_append h.2 h'⟩

theorem codeAvoids_append {E F : Env A} : ∀ {x : Code} {key : Nat}, codeAvoids n E key x = true → codeAvoids n F key x = true → codeAvoids n (E ++ F) key x = true := by
  have h0 : ∀ o : Option Tmp, dstAvoids o E = true → dstAvoids o F = true → dstAvoids o (E ++ F) = true := by
    intro o
    cases o with
    | none => intro _ _; rfl
    | some d => intro h1 h2; exact all_append h1 h2
  have hl : ∀ l : List Oper, opsAvoid E l = true → opsAvoid F l = true → opsAvoid (E ++ F) l = true := by
    intro l
    induction l with
    | nil => intro _ _; rfl
    | cons o l ih => intro h1 h2; simp only [opsAvoid, Bool.and_eq_true] at *; exact ⟨h0 _ h1.1 h2.1, ih h1.2 h2.2⟩
  intro x
  induction x with
  | region id ops dr => intro key; exact hl _
  | seq x y ihx ihy => intro key h1 h2; simp only [codeAvoids, Bool.and_eq_true] at *; exact ⟨ihx h1.1 h2.1, ihy h1.2 h2.2⟩
  | cond o x y ihx ihy => intro key h1 h2; simp only [codeAvoids, Bool.and_eq_true] at *; exact ⟨all_append h1.1 h2.1, ihx h1.2.1 h2.2.1, ihy h1.2.2 h2.2.2⟩
  | block id x ih => intro key h1 h2; simp only [codeAvoids, Bool.and_eq_true] at *; exact ⟨all_append h1.1 h2.1, ih h1.2 h2.2⟩
  | loop x ih => intro key h1 h2; simp only [codeAvoids, Bool.and_eq_true] at *; exact ⟨all_append h1.1 h2.1, ih h1.2 h2.2⟩
  | scope x ih => intro key; exact ih
  | _ => intro key _ _; rfl

theorem zipK_none {k : K} {vs : List (V A)} {E : Env A} : ∀ (ks : List K) (vs : List (V A)), look k (zipK ks (rdKs E ks)) = none → look k (zipK ks vs) = none := by
  intro ks
  induction ks with
  | nil => intro vs _; cases vs <;> rfl
  | cons k' ks ih =>
    intro vs h2
    cases vs with
    | nil => rfl
    | cons v vs =>
      simp only [rdKs, zipK, look_cons] at h2 ⊢
      split at h2
      · cases h2
      · rename_i hk; rw [if_neg hk]; exact ih vs h2

/-! Less may be told of a value. -/

/-- 'lk'' tells no more than 'lk'. -/
def Weak (c : Cfg A) (lk' lk : K → Option (Ent A)) : Prop := ∀ k g v, lk' k = some (g, v) → v.isJunk = false → ∃ v0, lk k = some (g, v0) ∧ v0.isJunk = false ∧ (v = v0 ∨ ∃ t, v = dimK (fitArg c t v0))

theorem dimK_den {S : Fz} {σ : Nat → Loc} {w : World} (hS : ∀ b, S true b → S false b) {v : V A} {x : Value} (h : Den c S σ w v x) : Den c S σ w (dimK v) x := by
  cases v with
  | rowc t f m l => cases h
  | agg cs =>
    obtain ⟨xs, rfl, hxs⟩ := h.of_agg
    simp only [dimK, mapV_eq]
    refine .agg _ _ (by simp [hxs.1]) fun i hi => ?_
    simp only [List.getElem_map]
    exact Den.less hS (hxs.2 i (by simpa using hi)) (less_dim _)
  | _ => exact Den.less hS h (less_dim _)

theorem dimK_row {S : Fz} {σ : Nat → Loc} {w : World} (hS : ∀ b, S true b → S false b) {L : Loc} {t : Nat} {v : V A} (h : RowIs c S σ w L v) : RowIs c S σ w L (dimK (fitArg c t v)) ∧ (dimK (fitArg c t v)).isRowc = v.isRowc := by
  cases v <;> first | exact h.elim | skip
  · exact ⟨Den.less hS (show Den c S σ w _ _ from h) (less_dim _), rfl⟩
  · exact ⟨RowAt.less hS (show RowAt c S σ w L _ _ _ _ from h) (fun h => by cases h), rfl⟩

theorem RelAt.weakW {S : Fz} {σ : Nat → Loc} {lk lk' : K → Option (Ent A)} {a : Act} {w : World} (hR : RelAt c n w0 S0 S σ lk a w) (hk : Weak c lk' lk) : RelAt c n w0 S0 S σ lk' a w := by
  have up : ∀ b i, live lk' σ b i → live lk σ b i := by
    intro b i h
    cases b
    · obtain ⟨o, g, v, hv, hj⟩ := h
      obtain ⟨v0, h1, h2, _⟩ := hk _ _ _ hv hj
      exact ⟨o, g, v0, h1, h2⟩
    · obtain ⟨g, v, hv, hr, hcap⟩ := h
      obtain ⟨v0, h1, h2, h3⟩ := hk _ _ _ hv (rowc_junk hr)
      rcases h3 with rfl | ⟨t, rfl⟩
      · exact ⟨g, _, h1, hr, hcap⟩
      · refine ⟨g, v0, h1, ?_, hcap⟩
        rw [← (dimK_row hR.sT (t := t) (hR.row i g v0 h1 h2).1).2]; exact hr
  exact {
    inv := hR.inv
    defers := hR.defers
    size := hR.size
    below := hR.below
    s0 := hR.s0
    pin := hR.pin
    sT := hR.sT
    sNew := hR.sNew
    sLt := hR.sLt
    slot := fun i g v hv hj => by
      obtain ⟨v0, h1, h2, h3⟩ := hk _ _ _ hv hj
      have := hR.slot i g v0 h1 h2
      rcases h3 with rfl | ⟨t, rfl⟩
      · exact this
      · exact ⟨this.1, fun hg => dimK_den hR.sT (fit_den (this.2.1 hg)), this.2.2⟩
    cell := fun id off g v hv hj => by
      obtain ⟨v0, h1, h2, h3⟩ := hk _ _ _ hv hj
      have := hR.cell id off g v0 h1 h2
      rcases h3 with rfl | ⟨t, rfl⟩
      · exact this
      · obtain ⟨⟨x, hx, hd⟩, r⟩ := this
        exact ⟨⟨x, hx, dimK_den hR.sT (fit_den hd)⟩, r⟩
    row := fun id g v hv hj => by
      obtain ⟨v0, h1, h2, h3⟩ := hk _ _ _ hv hj
      have := hR.row id g v0 h1 h2
      rcases h3 with rfl | ⟨t, rfl⟩
      · exact this
      · obtain ⟨h4, h5⟩ := dimK_row hR.sT (t := t) this.1
        exact ⟨h4, fun hr hcap => this.2 (by rw [← h5]; exact hr) hcap⟩
    dist := fun b b' i j hi hj he => hR.dist b b' i j (up b i hi) (up b' j hj) he }

theorem Rel.weakW {lk lk' : K → Option (Ent A)} {a : Act} {w : World} (h : Rel c n w0 S0 lk a w) (hk : Weak c lk' lk) : Rel c n w0 S0 lk' a w :=
  let ⟨S, σ, hr⟩ := h; ⟨S, σ, hr.weakW hk⟩

theorem isJunk_norm {t : Nat} {v : V A} (h : (dimK (fitArg c t v)).isJunk = false) : v.isJunk = false := by
  cases v <;> first | rfl | exact h

theorem look_norm {E : Env A} {k : K} {g : Chain} {v : V A} : ∀ (ks : List K) (ts : List Nat), look k (zipK ks (normK c ts (rdKs E ks))) = some (g, v) → g = [] ∧ ∃ t, v = dimK (fitArg c t (rdK E k)) := by
  intro ks
  induction ks with
  | nil => intro ts h; cases ts <;> simp [zipK, look] at h
  | cons k' ks ih =>
    intro ts h
    cases ts with
    | nil => simp [normK, zipK, look] at h
    | cons t ts =>
      simp only [rdKs, normK, zipK, look_cons] at h
      split at h
      · rename_i hk; subst hk; cases h; exact ⟨rfl, t, rfl⟩
      · exact ih ts h

/-- What was read out of an environment lies in it; beside its keys nothing has been written but boxes that nobody beyond knows. -/
theorem weak_read {d v R : Env A} {ks : List K} {ts : List Nat} {J : List K} {W : List Nat} {body : Code} {key : Nat} (hW : W = dstsOf body) (hR : codeAvoids n R key body = true)
    (hkeys : ∀ k e, look k d = some e → (∃ e', look k (zipK ks (rdKs (d ++ v) ks) ++ (junkK J : Env A)) = some e') ∨ isFreshKey W k = true)
    (hv : ∀ k e, look k v = some e → ∃ e', look k (zipK ks (rdKs (d ++ v) ks) ++ (junkK J : Env A)) = some e') (hts : ts.length = ks.length) :
    Weak c (fun k => look k ((zipK ks (normK c ts (rdKs (d ++ v) ks)) ++ junkK J) ++ R)) (fun k => look k (d ++ (v ++ R))) := by
  intro k g u hk hj
  have hk' : look k ((zipK ks (normK c ts (rdKs (d ++ v) ks)) ++ junkK J) ++ R) = some (g, u) := hk
  show ∃ v0, look k (d ++ (v ++ R)) = some (g, v0) ∧ _
  rw [List.append_assoc, look_append] at hk'
  rw [← List.append_assoc, look_append]
  -- the keys of both are the same
  have hsame : ∀ (ks : List K) (ts : List Nat) (vs : List (V A)), ts.length = ks.length → vs.length = ks.length → (look k (zipK ks (normK c ts vs)) = none ↔ look k (zipK ks vs) = none) := by
    intro ks
    induction ks with
    | nil => intro ts vs h1 h2; cases ts <;> cases vs <;> simp_all [normK, zipK, look]
    | cons k' ks ih =>
      intro ts vs h1 h2
      cases ts with
      | nil => simp at h1
      | cons t ts =>
        cases vs with
        | nil => simp at h2
        | cons v vs =>
          simp only [normK, zipK, look_cons]
          split
          · simp
          · exact ih ts vs (by simpa using h1) (by simpa using h2)
  have hrl : ∀ ks : List K, (rdKs (d ++ v) ks).length = ks.length := by
    intro ks
    induction ks with
    | nil => rfl
    | cons k ks ih => simp [rdKs, ih]
  cases hz : look k (zipK ks (normK c ts (rdKs (d ++ v) ks))) with
  | some e =>
    rw [hz] at hk'; simp at hk'; subst hk'
    obtain ⟨rfl, t, rfl⟩ := look_norm _ _ hz
    have hj' := isJunk_norm hj
    rw [rdK_look hj']
    exact ⟨_, rfl, hj', .inr ⟨t, rfl⟩⟩
  | none =>
    rw [hz, Option.none_or, look_append] at hk'
    have hz' := (hsame ks ts _ hts (hrl ks)).1 hz
    cases hjk : look k (junkK J : Env A) with
    | some e => rw [hjk] at hk'; simp at hk'; subst hk'; have := look_junkK _ hjk; rw [this] at hj; cases hj
    | none =>
      rw [hjk, Option.none_or] at hk'
      have hno : ¬ ∃ e', look k (zipK ks (rdKs (d ++ v) ks) ++ (junkK J : Env A)) = some e' := by
        rintro ⟨e', he'⟩
        rw [look_append, hz', Option.none_or, hjk] at he'; cases he'
      have hd : look k d = none := by
        cases hd : look k d with
        | none => rfl
        | some e =>
          exfalso
          rcases hkeys k e hd with h | h
          · exact hno h
          · subst hW
            rw [fresh_look hR h] at hk'; cases hk'
      have hvn : look k v = none := by
        cases hvl : look k v with
        | none => rfl
        | some e => exact absurd (hv k e hvl) hno
      rw [look_append, hd, hvn]
      exact ⟨u, by simpa using hk', hj, .inl rfl⟩

theorem renAll_eq {key : Nat} {base : Env A} : ∀ (ss : List (Nat × Nat)) (d : Env A), renAll c n key base ss d = renP c n key base ss d ++ d
  | [], _ => rfl
  | (s, t) :: ss, d => by
    simp only [renAll, renP]
    rw [renAll_eq ss, List.append_assoc]

theorem hasKey_junk {k : K} : ∀ {l : List K}, hasKey k (A := fun _ => Unit) (junkK l) = true ↔ k ∈ l
  | [] => by simp [junkK, hasKey]
  | k' :: l => by simp [junkK, hasKey, K.same_iff, hasKey_junk (l := l)]

theorem look_hideKs {ks : List K} {k : K} : ∀ {E : Env A}, look k (hideKs ks E) = if k ∈ ks then none else look k E
  | [] => by simp [hideKs, look]
  | (k', e) :: E => by
    simp only [hideKs]
    split
    · rename_i h
      have h := hasKey_junk.1 h
      rw [look_hideKs, look_cons]
      by_cases hk : k = k'
      · subst hk; simp [h]
      · simp [hk]
    · rename_i h
      have h : k' ∉ ks := fun hm => by have h : hasKey k' (A := fun _ => Unit) (junkK ks) = false := h; rw [hasKey_junk.2 hm] at h; cases h
      rw [look_cons, look_cons, look_hideKs]
      by_cases hk : k = k'
      · subst hk; simp [h]
      · simp [hk]

theorem sameKeys_mem : ∀ {ks l : List K}, sameKeys ks l = true → ∀ k ∈ ks, k ∈ l := by
  have hj : ∀ (l : List K) k, hasKey k (A := fun _ => Unit) (junkK l) = true → k ∈ l := by
    intro l
    induction l with
    | nil => intro k h; simp [junkK, hasKey] at h
    | cons k' l ih =>
      intro k h
      simp only [junkK, hasKey, Bool.or_eq_true, K.same_iff] at h
      rcases h with rfl | h
      · exact List.mem_cons_self ..
      · exact List.mem_cons_of_mem _ (ih k h)
  intro ks
  induction ks with
  | nil => intro l _ k hk; cases hk
  | cons k' ks ih =>
    intro l h k hk
    simp only [sameKeys, Bool.and_eq_true] at h
    cases hk with
    | head => exact hj _ _ h.1
    | tail _ hm => exact ih h.2 k hm

theorem look_junk_some {k : K} : ∀ {l : List K}, k ∈ l → ∃ e, look k (junkK l : Env A) = some e := by
  intro l
  induction l with
  | nil => intro h; cases h
  | cons k' l ih =>
    intro h
    simp only [junkK, look_cons]
    by_cases hk : k = k'
    · exact ⟨_, if_pos hk⟩
    · rw [if_neg hk]
      cases h with
      | head => exact absurd rfl hk
      | tail _ hm => exact ih hm

theorem look_zip_some {k : K} {E : Env A} : ∀ {l : List K}, k ∈ l → ∃ e, look k (zipK l (rdKs E l)) = some e := by
  intro l
  induction l with
  | nil => intro h; cases h
  | cons k' l ih =>
    intro h
    simp only [rdKs, zipK, look_cons]
    by_cases hk : k = k'
    · exact ⟨_, if_pos hk⟩
    · rw [if_neg hk]
      cases h with
      | head => exact absurd rfl hk
      | tail _ hm => exact ih hm

theorem zip_mem {k : K} {e : Ent A} : ∀ {l : List K} {vs : List (V A)}, look k (zipK l vs) = some e → k ∈ l := by
  intro l
  induction l with
  | nil => intro vs h; cases vs <;> simp [zipK, look] at h
  | cons k' l ih =>
    intro vs h
    cases vs with
    | nil => simp [zipK, look] at h
    | cons v vs =>
      simp only [zipK, look_cons] at h
      split at h
      · rename_i hk; subst hk; exact List.mem_cons_self ..
      · exact List.mem_cons_of_mem _ (ih h)

theorem junk_mem {k : K} {e : Ent A} : ∀ {l : List K}, look k (junkK l : Env A) = some e → k ∈ l := by
  intro l
  induction l with
  | nil => intro h; simp [junkK, look] at h
  | cons k' l ih =>
    intro h
    simp only [junkK, look_cons] at h
    split at h
    · rename_i hk; subst hk; exact List.mem_cons_self ..
    · exact List.mem_cons_of_mem _ (ih h)

theorem zip_ne {k : K} : ∀ {ks : List K} {vs : List (V A)}, k ∈ ks → vs.length = ks.length → look k (zipK ks vs) ≠ none
  | [], _, h, _ => by cases h
  | k' :: ks, [], _, h => by simp at h
  | k' :: ks, v :: vs, h, hl => by
    simp only [zipK, look_cons]
    by_cases hk : k = k'
    · rw [if_pos hk]; simp
    · rw [if_neg hk]
      exact zip_ne (by cases h with | head => exact absurd rfl hk | tail _ h => exact h) (by simpa using hl)

theorem rdKs_length {E : Env A} : ∀ ks : List K, (rdKs E ks).length = ks.length
  | [] => rfl
  | k :: ks => by simp [rdKs, rdKs_length ks]

theorem normK_length : ∀ (ts : List Nat) (vs : List (V A)), ts.length = vs.length → (normK c ts vs).length = ts.length
  | [], [], _ => rfl
  | [], _ :: _, h => by simp at h
  | _ :: _, [], h => by simp at h
  | t :: ts, v :: vs, h => by simp only [normK, List.length_cons]; rw [normK_length ts vs (by simpa using h)]

/-- **What is said of a loop is so**, if a round's tree says what 'step' and 'vcs' say. -/
theorem loop_ok (hc : CfgOk c) (hm : c.P.follows .mixedOrders = true) (L : LD A) {body : Code} {key : Nat} {loop : Nat → Env A → Tr A} {F : L.X → L.Y} {out : L.Y → Tr A} {step : L.X → L.X ⊕ L.Y} {vcs : L.X → Prop}
    (hloop : ∀ E, loop key E = L.tree c n key body F out step vcs E) (hin : ∀ p ∈ loopsOf key body, ∀ w0 S0, LoopOk c n w0 S0 loop p.1 p.2)
    (hfits : L.fits.length = L.keys.length) (hofits : L.ofits.length = L.okeys.length)
    (htx : ∀ vs x, L.px vs = some x → vs = L.tx x) (hty : ∀ e vs y, L.py e vs = some y → vs = L.ty y ∧ L.oex y = e) (hcover : sameKeys L.keys (L.okeys ++ L.junk) = true)
    (hlen : ∀ y, (L.ty y).length = L.okeys.length)
    (hout : ∀ y (K : Ex → Env A → Prop), (out y).post K → K (L.oex y) (zipK L.okeys (L.ty y) ++ junkK L.junk))
    (hstep : ∀ x, (ev c n loop key body (L.vars x) []).out (L.leaf c n key (dstsOf body) x) = some (step x)) (hvcs : ∀ x, vcs x → (ev c n loop key body (L.vars x) []).vc) : ∀ w0 S0, LoopOk c n w0 S0 loop key body := by
  intro w0 S0 E F' Q a w hav hR hvc hpost
  rw [hloop] at hvc hpost
  unfold LD.tree at hvc hpost
  split at hvc
  · rename_i x0 hx0 hok
    simp only [hx0, hok] at hpost
    simp only [Bool.and_eq_true] at hok
    obtain ⟨hok, hpkeys⟩ := hok
    obtain ⟨hruns, _⟩ := hvc
    have hfin := hout _ _ hpost
    clear hpost
    have hruns : Runs step vcs x0 (F x0) := hruns
    generalize hy0 : F x0 = y0 at hruns hfin
    clear hy0
    have hkf : keyFree n key F' = true := by simp only [codeAvoids, Bool.and_eq_true] at hav; exact hav.1
    -- the environment at the head, with its rows named anew
    generalize hPd : renP c n key [] L.rows E = Pr at hx0 hok hpkeys
    have hR1 : Rel c n w0 S0 (fun k => look k ((Pr ++ E) ++ F')) a w := by
      have := rel_renAll (base := []) (F := F') hc hkf L.rows E (by simpa using hR)
      rw [renAll_eq, hPd] at this
      simpa using this
    let R : Env A := hideKs (L.keys ++ L.junk) (Pr ++ E) ++ F'
    have hRav : codeAvoids n R key (.loop body) = true := codeAvoids_append hok hav
    have hRkf : keyFree n key R = true := by simp only [codeAvoids, Bool.and_eq_true] at hRav; exact hRav.1
    have hRb : codeAvoids n R key body = true := by simp only [codeAvoids, Bool.and_eq_true] at hRav; exact hRav.2
    have hvk : ∀ (x : L.X) (ks : List K) (E' : Env A), (∀ k ∈ L.keys, k ∈ ks ++ L.junk) → ∀ k e, look k (L.vars x) = some e → ∃ e', look k (zipK ks (rdKs E' ks) ++ (junkK L.junk : Env A)) = some e' := by
      intro x ks E' hsub k e hk
      have hmem : k ∈ ks ++ L.junk := by
        rw [LD.vars, look_append] at hk
        cases hz : look k (zipK L.keys (L.tx x)) with
        | some e2 => exact hsub k (zip_mem hz)
        | none => rw [hz, Option.none_or] at hk; exact List.mem_append_right _ (junk_mem hk)
      rw [look_append]
      rcases List.mem_append.1 hmem with h | h
      · obtain ⟨e', he'⟩ := look_zip_some (E := E') h
        exact ⟨e', by rw [he']; rfl⟩
      · obtain ⟨e', he'⟩ := look_junk_some (A := A) h
        cases hz : look k (zipK ks (rdKs E' ks)) with
        | some e2 => exact ⟨e2, rfl⟩
        | none => exact ⟨e', he'⟩
    have one : ∀ x, vcs x → ∀ a w, Rel c n w0 S0 (fun k => look k (L.vars x ++ R)) a w →
        body.wp c.P (fun ex a' w' => match step x with
          | .inl x' => ex = .normal ∧ Rel c n w0 S0 (fun k => look k (L.vars x' ++ R)) a' w'
          | .inr y => ex = (L.oex y).to ∧ ex ≠ .normal ∧ Rel c n w0 S0 (fun k => look k ((zipK L.okeys (L.ty y) ++ junkK L.junk) ++ R)) a' w') a w := by
      intro x hvx a w hRx
      refine ev_ok hc hm (F := R) body key (L.vars x) [] _ a w (fun p hp => hin p hp w0 S0) hRb (by simpa using hRx) (hvcs x hvx) ?_
      refine Tr.post_mono (fun e d h a' w' hR' => ?_) (out_post (hstep x))
      have hR' := rel_renAll (base := L.vars x) (F := R) hc hRkf L.rows d hR'
      obtain ⟨d', hd'⟩ : ∃ d', renAll c n key (L.vars x) L.rows d = d' := ⟨_, rfl⟩
      rw [hd'] at hR'
      have exits : ∀ e : Ex, e ≠ .normal → (match L.py e (normK c L.ofits (rdKs (d' ++ L.vars x) L.okeys)), keysIn (dstsOf body) d' (zipK L.okeys (rdKs (d' ++ L.vars x) L.okeys) ++ junkK L.junk) with
          | some y, true => (some (.inr y) : Option (L.X ⊕ L.Y))
          | _, _ => none) = some (step x) → (match step x with
          | .inl x' => e.to = .normal ∧ Rel c n w0 S0 (fun k => look k (L.vars x' ++ R)) a' w'
          | .inr y => e.to = (L.oex y).to ∧ e.to ≠ .normal ∧ Rel c n w0 S0 (fun k => look k ((zipK L.okeys (L.ty y) ++ junkK L.junk) ++ R)) a' w') := by
        intro e hne h
        split at h
        · rename_i y hy hki
          simp only [Option.some.injEq] at h
          rw [← h]
          obtain ⟨h1, h2⟩ := hty _ _ _ hy
          refine ⟨by rw [h2], by cases e <;> simp_all [Ex.to], ?_⟩
          rw [← h1]
          exact hR'.weakW (weak_read rfl hRb (fun k e hk => keysIn_look hki hk) (hvk x L.okeys _ (sameKeys_mem hcover)) hofits)
        · cases h
      cases e with
      | normal =>
        simp only [LD.leaf, hd'] at h
        split at h
        · rename_i x' hx' hki
          simp only [Option.some.injEq] at h
          rw [← h]
          refine ⟨rfl, ?_⟩
          rw [LD.vars, ← htx _ _ hx']
          refine hR'.weakW (weak_read rfl hRb (fun k e hk => ?_) (hvk x L.keys _ (fun k hk => List.mem_append_left _ hk)) hfits)
          rcases keysIn_look hki hk with ⟨e', he'⟩ | hf
          · exact .inl (hvk x L.keys _ (fun k hk => List.mem_append_left _ hk) k e' he')
          · exact .inr hf
        · cases h
      | ret => exact exits .ret (by simp) (by simpa only [LD.leaf, hd'] using h)
      | exit id => exact exits (.exit id) (by simp) (by simpa only [LD.leaf, hd'] using h)
    have rounds : ∀ x y, Runs step vcs x y → (∀ a w, Rel c n w0 S0 (fun k => look k ((zipK L.okeys (L.ty y) ++ junkK L.junk) ++ R)) a w → Q (L.oex y).to a w) →
        ∃ m, ∀ a w, Rel c n w0 S0 (fun k => look k (L.vars x ++ R)) a w → Code.rounds c.P body Q m a w := by
      intro x y hr
      induction hr with
      | done x y hv hs =>
        intro hq
        refine ⟨1, fun a w hRx => ?_⟩
        rw [rounds_succ]
        refine wp_mono (one x hv a w hRx) (fun e a' w' h => ?_)
        rw [hs] at h
        obtain ⟨h1, h2, h3⟩ := h
        have := hq a' w' h3
        rw [← h1] at this
        cases e <;> first | exact absurd rfl h2 | exact this
      | next x x' y hv hs _ ih =>
        intro hq
        obtain ⟨m, hm'⟩ := ih hq
        refine ⟨m + 1, fun a w hRx => ?_⟩
        rw [rounds_succ]
        refine wp_mono (one x hv a w hRx) (fun e a' w' h => ?_)
        rw [hs] at h
        obtain ⟨rfl, h3⟩ := h
        exact hm' a' w' h3
    have hback : ∀ a w, Rel c n w0 S0 (fun k => look k ((zipK L.okeys (L.ty y0) ++ junkK L.junk) ++ R)) a w → Q (L.oex y0).to a w := fun a w h => by
      refine hfin a w (h.sub fun k g v hv hj => ?_)
      have hv' : look k ((zipK L.okeys (L.ty y0) ++ junkK L.junk) ++ (E ++ F')) = some (g, v) := hv
      show look k ((zipK L.okeys (L.ty y0) ++ junkK L.junk) ++ R) = some (g, v)
      rw [look_append] at hv' ⊢
      cases hz : look k (zipK L.okeys (L.ty y0) ++ junkK L.junk) with
      | some e => rw [hz] at hv'; exact hv'
      | none =>
        rw [hz, Option.none_or] at hv'
        rw [Option.none_or]
        rw [look_append] at hz
        have hz1 : look k (zipK L.okeys (L.ty y0)) = none := by
          cases h1 : look k (zipK L.okeys (L.ty y0)) with
          | none => rfl
          | some e => rw [h1] at hz; cases hz
        have hz2 : look k (junkK L.junk : Env A) = none := by rw [hz1, Option.none_or] at hz; exact hz
        have hnj : k ∉ L.junk := fun hm => by
          obtain ⟨e, he⟩ := look_junk_some (A := A) hm
          rw [he] at hz2; cases hz2
        by_cases hko : k ∈ L.okeys
        · -- a key that is written, but with no value: nothing is said of it
          exfalso
          exact zip_ne hko (hlen y0) hz1
        · have hnk : k ∉ L.keys ++ L.junk := fun hm => by
            rcases List.mem_append.1 hm with h1 | h1
            · rcases List.mem_append.1 (sameKeys_mem hcover k h1) with h2 | h2
              · exact hko h2
              · exact hnj h2
            · exact hnj h1
          have hnp : look k Pr = none := by
            cases h1 : look k Pr with
            | none => rfl
            | some e =>
              exfalso
              have hm : k ∈ Pr.map (·.1) := List.mem_map.2 ⟨_, look_mem h1, rfl⟩
              rcases List.mem_append.1 (sameKeys_mem hpkeys k hm) with h2 | h2
              · exact hko h2
              · exact hnj h2
          show look k (hideKs (L.keys ++ L.junk) (Pr ++ E) ++ F') = some (g, v)
          rw [look_append, look_hideKs, if_neg hnk, look_append, hnp, Option.none_or]
          rw [look_append] at hv'
          exact hv'
    obtain ⟨m, hm'⟩ := rounds x0 y0 hruns hback
    refine wp_loop_rounds m (hm' a w (hR1.weakW fun k g v hv hj => ?_))
    have hv' : look k (L.vars x0 ++ R) = some (g, v) := hv
    show ∃ v0, look k ((Pr ++ E) ++ F') = some (g, v0) ∧ _
    rw [LD.vars, ← htx _ _ hx0, List.append_assoc, look_append] at hv'
    cases hz : look k (zipK L.keys (normK c L.fits (rdKs (Pr ++ E) L.keys))) with
    | some e =>
      rw [hz] at hv'; simp at hv'; subst hv'
      obtain ⟨rfl, t, rfl⟩ := look_norm _ _ hz
      have hj' := isJunk_norm hj
      exact ⟨_, by rw [look_append, rdK_look hj']; rfl, hj', .inr ⟨t, rfl⟩⟩
    | none =>
      rw [hz, Option.none_or, look_append] at hv'
      cases hjk : look k (junkK L.junk : Env A) with
      | some e => rw [hjk] at hv'; simp at hv'; subst hv'; have := look_junkK _ hjk; rw [this] at hj; cases hj
      | none =>
        rw [hjk, Option.none_or] at hv'
        have hv2 : look k (hideKs (L.keys ++ L.junk) (Pr ++ E) ++ F') = some (g, v) := hv'
        rw [look_append, look_hideKs] at hv2
        refine ⟨v, ?_, hj, .inl rfl⟩
        rw [look_append]
        by_cases hmem : k ∈ L.keys ++ L.junk
        · rw [if_pos hmem, Option.none_or] at hv2
          exfalso
          rcases List.mem_append.1 hmem with h1 | h1
          · exact zip_ne h1 (by rw [normK_length _ _ (by rw [rdKs_length]; exact hfits), hfits]) hz
          · obtain ⟨e, he⟩ := look_junk_some (A := A) h1
            rw [he] at hjk; cases hjk
        · rw [if_neg hmem] at hv2; exact hv2
  · exact hvc.elim

end
end Vm
