/-
  Code: what the interpreter says of it is so; and of a function.
-/
import Derived.Test.YthnlknegnlmklaaVm10
set_option linter.all false
namespace Vm
open Go Go.RowKit
variable {A : Nat → Type}

inductive Ex where
  | normal
  | ret
  | exit (id : Nat)

def Ex.to : Ex → Exit
  | .normal => .normal
  | .ret => .ret
  | .exit id => .exit id

inductive Tr (A : Nat → Type) where
  | leaf (e : Ex) (d : Env A)
  | node (b : Bool) (t e : Tr A)
  | req (ps : List Prop) (t : Tr A)
  | fail

namespace Tr

def rq (ps : List Prop) (t : Tr A) : Tr A :=
  match ps, t with
  | [], t => t
  | ps, .req qs t => .req (ps ++ qs) t
  | ps, t => .req ps t

def bind (f : Env A → Tr A) : Tr A → Tr A
  | .leaf .normal d => f d
  | .leaf e d => .leaf e d
  | .node b t e => .node b (bind f t) (bind f e)
  | .req ps t => rq ps (bind f t)
  | .fail => .fail

def ext (d : Env A) : Tr A → Tr A
  | .leaf e δ => .leaf e (δ ++ d)
  | .node b t e => .node b (ext d t) (ext d e)
  | .req ps t => .req ps (ext d t)
  | .fail => .fail

def unblock (id : Nat) : Tr A → Tr A
  | .leaf (.exit id') d => match Nat.beq id' id with
    | true => .leaf .normal d
    | false => .leaf (.exit id') d
  | .leaf e d => .leaf e d
  | .node b t e => .node b (unblock id t) (unblock id e)
  | .req ps t => .req ps (unblock id t)
  | .fail => .fail

end Tr

def mergeK (b : Bool) (base d1 d2 : Env A) : Env A → Env A
  | [] => []
  | (k, _) :: r => match look k (d1 ++ base), look k (d2 ++ base) with
    | some ([], v), some ([], w) => (k, [], merge b v w) :: mergeK b base d1 d2 r
    | _, _ => (k, [], .junk) :: mergeK b base d1 d2 r

def mergeD (b : Bool) (base d1 d2 : Env A) : Env A := mergeK b base d1 d2 (d1 ++ d2)

/-- The name of slot s's row where ways meet. -/
def renKey (n key s : Nat) : Nat := n * (key + 1) + s

/-- Is an id none of those names? -/
def idFree (n key i : Nat) : Bool := (Nat.blt i (n * (key + 1))).or (Nat.ble (n * (key + 2)) i)

def K.okp (p : Nat → Bool) : K → Bool
  | .slot _ => true
  | .cell i _ => p i
  | .row i => p i

def entFree (n key : Nat) (e : K × Ent A) : Bool := (e.1.okp (idFree n key)).and (okv (idFree n key) e.2.2)

def keyFree (n key : Nat) (F : Env A) : Bool := all (entFree n key) F

/-- Whatever names an id is forgotten. -/
def scrub (id : Nat) : Env A → Env A
  | [] => []
  | (k, g, v) :: E => match (K.avoids id k).and (avoids id v) with
    | true => scrub id E
    | false => (k, [], .junk) :: scrub id E

/-- Whatever else holds the row r holds it by its new name. -/
def alias (r id : Nat) (E : Env A) : Env A → Env A
  | [] => []
  | (.slot s, _) :: l => match look (.slot s) E with
    | some ([], .own r') => match Nat.beq r r' with
      | true => (.slot s, [], .own id) :: alias r id E l
      | false => alias r id E l
    | _ => alias r id E l
  | _ :: l => alias r id E l

/-- The row that slot s holds takes the name id; or (t = 1000000) nobody writes to it from now on. -/
def ren1 (c : Cfg A) (n : Nat) (E : Env A) (id s t : Nat) : Env A :=
  match Nat.beq t 1000000 with
  | true => match look (.slot s) E with
    | some ([], .own r) => match look (.row r) E with
      | some ([], .rowc t' f none l) => [(.row r, [], .list t' f l)]
      | _ => []
    | _ => []
  | false => match (Nat.blt s n).and (memN id c.pins).not, look (.slot s) E with
  | true, some ([], .own r) => match Nat.beq r id, look (.row r) E with
    | false, some ([], .rowc t' f none l) => (.slot s, [], .own id) :: (.row id, [], .rowc t' f none l) :: (.row r, [], .junk) :: (alias r id E E ++ scrub id E)
    | _, _ => []
  | true, some ([], .raw (.slice none 0 0)) => match Nat.beq (c.ty t).size 0 with
    | false => (.slot s, [], .own id) :: (.row id, [], .rowc t true none []) :: scrub id E
    | true => []
  | _, _ => []

/-- d over base, with rows named anew. -/
def renAll (c : Cfg A) (n key : Nat) (base : Env A) : List (Nat × Nat) → Env A → Env A
  | [], d => d
  | (s, t) :: ss, d => renAll c n key base ss (ren1 c n (d ++ base) (renKey n key s) s t ++ d)

/-- The slots that hold different rows. -/
def clash (base d1 d2 : Env A) : Env A → List (Nat × Nat)
  | [] => []
  | (.slot s, _) :: r => match look (.slot s) (d1 ++ base), look (.slot s) (d2 ++ base) with
    | some ([], .own r1), some ([], .own r2) => match Nat.beq r1 r2 with
      | true => clash base d1 d2 r
      | false => (s, 0) :: clash base d1 d2 r
    | some ([], .own r1), some ([], .raw (.slice none 0 0)) => match look (.row r1) (d1 ++ base) with
      | some (_, .rowc t _ _ _) => (s, t) :: clash base d1 d2 r
      | _ => clash base d1 d2 r
    | some ([], .raw (.slice none 0 0)), some ([], .own r2) => match look (.row r2) (d2 ++ base) with
      | some (_, .rowc t _ _ _) => (s, t) :: clash base d1 d2 r
      | _ => clash base d1 d2 r
    | _, _ => clash base d1 d2 r
  | _ :: r => clash base d1 d2 r

def joinD (c : Cfg A) (n key : Nat) (b : Bool) (base d1 d2 : Env A) : Env A :=
  match clash base d1 d2 (d1 ++ d2) with
  | [] => mergeD b base d1 d2
  | ss => mergeD b base (renAll c n key base ss d1) (renAll c n key base ss d2)

def Tr.join (c : Cfg A) (n key : Nat) (base : Env A) (b : Bool) (t e : Tr A) : Tr A :=
  match t, e with
  | .leaf .normal d1, .leaf .normal d2 => .leaf .normal (joinD c n key b base d1 d2)
  | .req p (.leaf .normal d1), .leaf .normal d2 => .req [b = true → All p] (.leaf .normal (joinD c n key b base d1 d2))
  | .leaf .normal d1, .req q (.leaf .normal d2) => .req [b = false → All q] (.leaf .normal (joinD c n key b base d1 d2))
  | .req p (.leaf .normal d1), .req q (.leaf .normal d2) => .req [b = true → All p, b = false → All q] (.leaf .normal (joinD c n key b base d1 d2))
  | t, e => .node b t e

def Tr.collapse (c : Cfg A) (n key : Nat) (base : Env A) : Tr A → Tr A
  | .node b t e => Tr.join c n key base b (collapse c n key base t) (collapse c n key base e)
  | .req ps t => rq ps (collapse c n key base t)
  | t => t

def ev (c : Cfg A) (n : Nat) (loop : Nat → Env A → Tr A) : Nat → Code → Env A → Env A → Tr A
  | _, .skip, _, d => .leaf .normal d
  | _, .label _, _, d => .leaf .normal d
  | _, .region _ ops false, base, d => match evSeq c n base ops.toList none ops.toList d with
    | some (d', ps) => .rq ps (.leaf .normal (clear d'))
    | none => .fail
  | _, .region _ ops true, base, d => match evDraw c n (d ++ base) ops.toList (clAll ops.toList []) ops.toList [] with
    | some (full, ps) => .rq ps (.leaf .normal (clear (flat full) ++ d))
    | none => .fail
  | key, .seq x y, base, d => (ev c n loop key x base d).bind fun d' => ev c n loop key y base d'
  | key, .cond x t e, base, d => match opv (d ++ base) [] x with
    | some (.bool b) => (Tr.join c n key (d ++ base) b (ev c n loop key t (d ++ base) []) (ev c n loop key e (d ++ base) [])).ext d
    | _ => .fail
  | _, .block id x, base, d => (((ev c n loop id x (d ++ base) []).unblock id).collapse c n id (d ++ base)).ext d
  | key, .loop _, base, d => (loop key (d ++ base)).ext d
  | _, .exit id, _, d => .leaf (.exit id) d
  | _, .ret, _, d => .leaf .ret d
  | key, .scope x, base, d => ev c n loop key x base d
  | _, _, _, _ => .fail

def opsAvoid (F : Env A) : List Oper → Bool
  | [] => true
  | o :: l => (dstAvoids o.dst F).and (opsAvoid F l)

/-- Nothing of 'F' speaks of a slot, a box or a row that the code lays anew. -/
def codeAvoids (n : Nat) (F : Env A) : Nat → Code → Bool
  | _, .region _ ops _ => opsAvoid F ops.toList
  | key, .seq x y => (codeAvoids n F key x).and (codeAvoids n F key y)
  | key, .cond _ t e => (keyFree n key F).and ((codeAvoids n F key t).and (codeAvoids n F key e))
  | _, .block id x => (keyFree n id F).and (codeAvoids n F id x)
  | key, .loop x => (keyFree n key F).and (codeAvoids n F key x)
  | key, .scope x => codeAvoids n F key x
  | _, _ => true

theorem opsAvoid_mem {F : Env A} : ∀ {l : List Oper}, opsAvoid F l = true → ∀ o ∈ l, dstAvoids o.dst F = true
  | [], _, o, ho => by cases ho
  | o' :: l, h, o, ho => by
    simp only [opsAvoid, Bool.and_eq_true] at h
    cases ho with
    | head => exact h.1
    | tail _ hm => exact opsAvoid_mem h.2 o hm

def loopsOf : Nat → Code → List (Nat × Code)
  | key, .seq x y => loopsOf key x ++ loopsOf key y
  | key, .cond _ t e => loopsOf key t ++ loopsOf key e
  | _, .block id x => loopsOf id x
  | key, .loop x => [(key, x)]
  | key, .scope x => loopsOf key x
  | _, _ => []

namespace Tr

def vc : Tr A → Prop
  | .leaf _ _ => True
  | .node b t e => (b = true → t.vc) ∧ (b = false → e.vc)
  | .req ps t => All ps ∧ t.vc
  | .fail => False

def post (K : Ex → Env A → Prop) : Tr A → Prop
  | .leaf e d => K e d
  | .node b t e => (b = true → t.post K) ∧ (b = false → e.post K)
  | .req _ t => t.post K
  | .fail => True

theorem rq_vc {ps : List Prop} {t : Tr A} : (rq ps t).vc → All ps ∧ t.vc := by
  intro h
  unfold rq at h
  split at h
  · exact ⟨trivial, h⟩
  · obtain ⟨h1, h2⟩ := h
    exact ⟨(all_app h1).1, (all_app h1).2, h2⟩
  · exact h

theorem rq_post {K : Ex → Env A → Prop} {ps : List Prop} {t : Tr A} : (rq ps t).post K ↔ t.post K := by
  unfold rq
  split <;> simp [post]

theorem bind_vc {f : Env A → Tr A} : ∀ {t : Tr A}, (t.bind f).vc → t.vc ∧ t.post fun e d => match e with | .normal => (f d).vc | _ => True
  | .leaf e d, h => by
    refine ⟨trivial, ?_⟩
    cases e <;> simp only [post, bind] at * <;> first | exact h | trivial
  | .node b t e, h => by
    simp only [bind, vc] at h
    exact ⟨⟨fun hb => (bind_vc (h.1 hb)).1, fun hb => (bind_vc (h.2 hb)).1⟩, fun hb => (bind_vc (h.1 hb)).2, fun hb => (bind_vc (h.2 hb)).2⟩
  | .req ps t, h => by
    obtain ⟨h1, h2⟩ := rq_vc h
    exact ⟨⟨h1, (bind_vc h2).1⟩, (bind_vc h2).2⟩
  | .fail, h => h.elim

theorem bind_post {f : Env A → Tr A} {K : Ex → Env A → Prop} : ∀ {t : Tr A}, (t.bind f).post K → t.post fun e d => match e with | .normal => (f d).post K | e => K e d
  | .leaf e d, h => by cases e <;> exact h
  | .node b t e, h => ⟨fun hb => bind_post (h.1 hb), fun hb => bind_post (h.2 hb)⟩
  | .req ps t, h => bind_post (t := t) (rq_post.1 h)
  | .fail, _ => trivial

theorem post_and {K K' : Ex → Env A → Prop} : ∀ {t : Tr A}, t.post K → t.post K' → t.post fun e d => K e d ∧ K' e d
  | .leaf _ _, h, h' => ⟨h, h'⟩
  | .node _ _ _, h, h' => ⟨fun hb => post_and (h.1 hb) (h'.1 hb), fun hb => post_and (h.2 hb) (h'.2 hb)⟩
  | .req _ t, h, h' => post_and (t := t) h h'
  | .fail, _, _ => trivial

theorem post_mono {K K' : Ex → Env A → Prop} (hK : ∀ e d, K e d → K' e d) : ∀ {t : Tr A}, t.post K → t.post K'
  | .leaf _ _, h => hK _ _ h
  | .node _ _ _, h => ⟨fun hb => post_mono hK (h.1 hb), fun hb => post_mono hK (h.2 hb)⟩
  | .req _ t, h => post_mono (t := t) hK h
  | .fail, _ => trivial

theorem ext_vc {d : Env A} : ∀ {t : Tr A}, (t.ext d).vc → t.vc
  | .leaf _ _, _ => trivial
  | .node _ _ _, h => ⟨fun hb => ext_vc (h.1 hb), fun hb => ext_vc (h.2 hb)⟩
  | .req _ _, h => ⟨h.1, ext_vc h.2⟩
  | .fail, h => h.elim

theorem ext_post {d : Env A} {K : Ex → Env A → Prop} : ∀ {t : Tr A}, (t.ext d).post K → t.post fun e δ => K e (δ ++ d)
  | .leaf _ _, h => h
  | .node _ _ _, h => ⟨fun hb => ext_post (h.1 hb), fun hb => ext_post (h.2 hb)⟩
  | .req _ t, h => ext_post (t := t) h
  | .fail, _ => trivial

theorem unblock_vc {id : Nat} : ∀ {t : Tr A}, (t.unblock id).vc → t.vc
  | .leaf _ _, _ => trivial
  | .node _ _ _, h => ⟨fun hb => unblock_vc (h.1 hb), fun hb => unblock_vc (h.2 hb)⟩
  | .req _ _, h => ⟨h.1, unblock_vc h.2⟩
  | .fail, h => h.elim

theorem unblock_post {id : Nat} {K : Ex → Env A → Prop} : ∀ {t : Tr A}, (t.unblock id).post K → t.post fun e d => K (match e with | .exit id' => if id' = id then .normal else .exit id' | e => e) d
  | .leaf e d, h => by
    cases e with
    | exit id' =>
      simp only [unblock] at h
      by_cases he : id' = id
      · subst he; simp at h; simpa [post] using h
      · have : Nat.beq id' id = false := by
          cases hb : Nat.beq id' id with
          | false => rfl
          | true => exact absurd (by simpa using hb) he
        rw [this] at h
        simpa [post, he] using h
    | _ => exact h
  | .node _ _ _, h => ⟨fun hb => unblock_post (h.1 hb), fun hb => unblock_post (h.2 hb)⟩
  | .req _ t, h => unblock_post (t := t) h
  | .fail, _ => trivial

end Tr

section
variable {c : Cfg A} {n key : Nat} {w0 : W1} {S0 : Nat → Prop} {base F : Env A}

theorem mergeS_junk {b : Bool} {v v' : V A} (h : (mergeS b v v').isJunk = false) : v.isJunk = false ∧ v'.isJunk = false := by
  cases v <;> cases v' <;> simp_all [mergeS, V.isJunk]

theorem merge_junk {b : Bool} {v v' : V A} (h : (merge b v v').isJunk = false) : v.isJunk = false ∧ v'.isJunk = false := by
  unfold merge at h
  split at h
  · exact ⟨rfl, rfl⟩
  · exact ⟨rfl, rfl⟩
  · exact mergeS_junk h

theorem look_mergeK {b : Bool} {d1 d2 : Env A} {k : K} : ∀ (l : Env A), look k (mergeK b base d1 d2 l) = (look k l).map fun _ => match look k (d1 ++ base), look k (d2 ++ base) with
    | some ([], v), some ([], w) => ([], merge b v w)
    | _, _ => ([], .junk) := by
  intro l
  induction l with
  | nil => rfl
  | cons p l ih =>
    obtain ⟨k', e'⟩ := p
    simp only [mergeK, look_cons]
    by_cases hk : k = k'
    · subst hk
      split
      · rename_i v w h1 h2
        rw [look_cons, if_pos rfl, if_pos rfl]
        simp only [h1, h2, Option.map_some]
      · rename_i hne
        rw [look_cons, if_pos rfl, if_pos rfl]
        simp only [Option.map_some]
    · split
      · rw [look_cons, if_neg hk, if_neg hk]; exact ih
      · rw [look_cons, if_neg hk, if_neg hk]; exact ih

theorem sameLen_eq {a b : Option Nat} (h : sameLen a b = true) : a = b := by
  cases a <;> cases b <;> simp_all [sameLen]

theorem RowAt.less {S : Fz} {σ : Nat → Loc} {w : World} (hS : ∀ b, S true b → S false b) {L : Loc} {t : Nat} {f f' : Bool} {m : Option Nat} {l : List (A t)} (h : RowAt c S σ w L t f m l) (hf : f' = true → f = true) : RowAt c S σ w L t f' m l where
  ne := h.ne
  len := h.len
  cap := h.cap
  fix := h.fix
  enc := h.enc
  base := h.base
  room := h.room
  frz := h.frz
  cells j q hj hq := by
    obtain ⟨y, hy, hd⟩ := h.cells j q hj (by rw [encF_length] at hq ⊢; exact hq)
    refine ⟨y, hy, Den.less hS hd ?_⟩
    simp only [encF, mapV_eq, List.getElem_map]
    exact less_frs hf _

theorem merge_l {b : Bool} {v : V A} {t : Nat} {f : Bool} {l : List (A t)} (hj : (Vm.merge b (.list t f l) v).isJunk = false) : ∃ t' f' l', Vm.merge b (.list t f l : V A) v = .list t' f' l' := by
  cases v with
  | list t' f' l' =>
    simp only [Vm.merge, Vm.mergeS] at hj ⊢
    cases hd : decEq t t' with
    | isTrue e => exact ⟨_, _, _, rfl⟩
    | isFalse e => rw [hd] at hj; exact absurd hj (by simp [V.isJunk])
  | raw x =>
    simp only [Vm.merge, Vm.mergeS] at hj ⊢
    split at hj
    all_goals first | exact ⟨_, _, _, rfl⟩ | (exfalso; simp_all [V.isJunk]; done) | skip
    all_goals first | (rename_i h1 h2; cases h1; cases h2; exact ⟨_, _, _, rfl⟩) | simp_all [V.isJunk]
  | _ => exact absurd hj (by simp [Vm.merge, Vm.mergeS, V.isJunk])

theorem merge_r {b : Bool} {v : V A} {t : Nat} {f : Bool} {l : List (A t)} (hj : (Vm.merge b v (.list t f l)).isJunk = false) : ∃ t' f' l', Vm.merge b v (.list t f l : V A) = .list t' f' l' := by
  cases v with
  | list t' f' l' =>
    simp only [Vm.merge, Vm.mergeS] at hj ⊢
    cases hd : decEq t' t with
    | isTrue e => exact ⟨_, _, _, rfl⟩
    | isFalse e => rw [hd] at hj; exact absurd hj (by simp [V.isJunk])
  | raw x =>
    simp only [Vm.merge, Vm.mergeS] at hj ⊢
    split at hj
    all_goals first | exact ⟨_, _, _, rfl⟩ | (exfalso; simp_all [V.isJunk]; done) | skip
    all_goals first | (rename_i h1 h2; cases h1; cases h2; exact ⟨_, _, _, rfl⟩) | simp_all [V.isJunk]
  | _ => exact absurd hj (by simp [Vm.merge, Vm.mergeS, V.isJunk])

theorem merge_row {b : Bool} {v v' : V A} (hj : (Vm.merge b v v').isJunk = false) {t : Nat} {f : Bool} {m : Option Nat} {l : List (A t)} (h : (if b then v else v') = .rowc t f m l) : ∃ f', (f' = true → f = true) ∧ Vm.merge b v v' = .rowc t f' m l := by
  cases b with
  | false =>
    simp only [Bool.false_eq_true, if_false] at h
    subst h
    cases v with
    | rowc t' f' m' l' =>
      simp only [Vm.merge, Vm.mergeS] at hj ⊢
      cases hd : decEq t' t with
      | isTrue e =>
        subst e
        cases hs : sameLen m' m with
        | true => have := sameLen_eq hs; subst this; exact ⟨f' && f, by cases f' <;> simp, rfl⟩
        | false => rw [hd, hs] at hj; exact absurd hj (by simp [V.isJunk])
      | isFalse e => rw [hd] at hj; exact absurd hj (by simp [V.isJunk])
    | _ => exact absurd hj (by simp [Vm.merge, Vm.mergeS, V.isJunk])
  | true =>
    simp only [if_true] at h
    subst h
    cases v' with
    | rowc t' f' m' l' =>
      simp only [Vm.merge, Vm.mergeS] at hj ⊢
      cases hd : decEq t t' with
      | isTrue e =>
        subst e
        cases hs : sameLen m m' with
        | true => exact ⟨f && f', by cases f <;> simp, rfl⟩
        | false => rw [hd, hs] at hj; exact absurd hj (by simp [V.isJunk])
      | isFalse e => rw [hd] at hj; exact absurd hj (by simp [V.isJunk])
    | _ => exact absurd hj (by simp [Vm.merge, Vm.mergeS, V.isJunk])

/-- Of two entries of a row. -/
theorem RowIs.merge {S : Fz} {σ : Nat → Loc} {w : World} (hS : ∀ b, S true b → S false b) {L : Loc} {b : Bool} {v v' : V A} (hj : (Vm.merge b v v').isJunk = false) (h : RowIs c S σ w L (if b then v else v')) :
    RowIs c S σ w L (Vm.merge b v v') ∧ (Vm.merge b v v').isRowc = (if b then v else v').isRowc := by
  have hv : ∀ {u : V A}, RowIs c S σ w L u → (∃ t f m l, u = .rowc t f m l) ∨ ∃ t f l, u = .list t f l := fun {u} h => by
    cases u <;> first | exact h.elim | exact .inl ⟨_, _, _, _, rfl⟩ | exact .inr ⟨_, _, _, rfl⟩
  rcases hv h with ⟨t, f, m, l, he⟩ | ⟨t, f, l, he⟩
  · obtain ⟨f', hf, hm⟩ := merge_row hj he
    rw [he] at h ⊢
    rw [hm]
    exact ⟨RowAt.less hS (show RowAt c S σ w L t f m l from h) hf, rfl⟩
  · rw [he] at h ⊢
    have hd : Den c S σ w (.list t f l) (.slice L.base L.len L.cap) := h
    have hm : Den c S σ w (Vm.merge b v v') (.slice L.base L.len L.cap) := Den.merge hS (by
      cases b
      · simp only [Bool.false_eq_true, if_false] at he ⊢; rw [he]; exact hd
      · simp only [if_true] at he ⊢; rw [he]; exact hd)
    have hk : ∃ t f l, Vm.merge b v v' = .list t f l := by
      cases b with
      | false => simp only [Bool.false_eq_true, if_false] at he; subst he; exact merge_r hj
      | true => simp only [if_true] at he; subst he; exact merge_l hj
    obtain ⟨t', f', l', hk⟩ := hk
    rw [hk] at hm ⊢
    exact ⟨hm, rfl⟩

/-- Two ways meet again. -/
theorem rel_merge {b : Bool} {d1 d2 : Env A} {a : Act} {w : World} (h : Rel c n w0 S0 (fun k => look k ((if b then d1 else d2) ++ (base ++ F))) a w) : Rel c n w0 S0 (fun k => look k (mergeD b base d1 d2 ++ (base ++ F))) a w := by
  obtain ⟨S, σ, hR⟩ := h
  have key : ∀ k g v, look k (mergeD b base d1 d2 ++ (base ++ F)) = some (g, v) → v.isJunk = false →
      ∃ g3 v3, look k ((if b then d1 else d2) ++ (base ++ F)) = some (g3, v3) ∧ v3.isJunk = false ∧ ((g3, v3) = (g, v) ∨ (g3 = [] ∧ g = [] ∧ ∃ v1 v2, v = merge b v1 v2 ∧ v3 = if b then v1 else v2)) := by
    intro k g v he hj
    rw [look_append, mergeD, look_mergeK] at he
    cases hl : look k (d1 ++ d2) with
    | none =>
      rw [hl, Option.map_none, Option.none_or] at he
      rw [look_append] at hl
      have h1 : look k d1 = none := by cases h : look k d1 <;> simp [h] at hl ⊢
      have h2 : look k d2 = none := by rw [h1, Option.none_or] at hl; exact hl
      refine ⟨g, v, ?_, hj, .inl rfl⟩
      rw [look_append]
      cases b <;> simp [h1, h2, he]
    | some e0 =>
      rw [hl] at he
      simp only [Option.map_some, Option.some_or, Option.some.injEq] at he
      split at he
      · rename_i v1 v2 h1 h2
        cases he
        have up : ∀ {d : Env A} {e}, look k (d ++ base) = some e → look k (d ++ (base ++ F)) = some e := by
          intro d e h
          rw [← List.append_assoc, look_append, h]; rfl
        cases b
        · exact ⟨[], v2, by simpa using up h2, (merge_junk hj).2, .inr ⟨rfl, rfl, v1, v2, rfl, rfl⟩⟩
        · exact ⟨[], v1, by simpa using up h1, (merge_junk hj).1, .inr ⟨rfl, rfl, v1, v2, rfl, rfl⟩⟩
      · cases he; cases hj
  have hden : ∀ {v1 v2 : V A} {x}, Den c S σ w (if b then v1 else v2) x → Den c S σ w (merge b v1 v2) x := fun {v1 v2 x} h => Den.merge hR.sT (by cases b <;> exact h)
  have up : ∀ b' i, live (fun k => look k (mergeD b base d1 d2 ++ (base ++ F))) σ b' i → live (fun k => look k ((if b then d1 else d2) ++ (base ++ F))) σ b' i := by
    intro b' i h
    cases b'
    · obtain ⟨o, g, v, hv, hj⟩ := h
      obtain ⟨g3, v3, h1, h2, _⟩ := key _ _ _ hv hj
      exact ⟨o, g3, v3, h1, h2⟩
    · obtain ⟨g, v, hv, hj, hcap⟩ := h
      obtain ⟨g3, v3, h1, h2, h3⟩ := key _ _ _ hv (rowc_junk hj)
      rcases h3 with h3 | ⟨rfl, rfl, v1, v2, rfl, rfl⟩
      · cases h3; exact ⟨_, _, h1, hj, hcap⟩
      · refine ⟨_, _, h1, ?_, hcap⟩
        rw [← (RowIs.merge hR.sT (rowc_junk hj) (hR.row i _ _ h1 h2).1).2]; exact hj
  exact ⟨S, σ, {
    inv := hR.inv
    defers := hR.defers
    size := hR.size
    below := hR.below
    s0 := hR.s0
    pin := hR.pin
    sT := hR.sT
    sNew := hR.sNew
    sLt := hR.sLt
    slot := fun i g v hv hj => by
      obtain ⟨g3, v3, h1, h2, h3⟩ := key _ _ _ hv hj
      have := hR.slot i g3 v3 h1 h2
      rcases h3 with h3 | ⟨rfl, rfl, v1, v2, rfl, rfl⟩
      · cases h3; exact this
      · exact ⟨this.1, fun hg => hden (this.2.1 hg), this.2.2⟩
    cell := fun id off g v hv hj => by
      obtain ⟨g3, v3, h1, h2, h3⟩ := key _ _ _ hv hj
      have := hR.cell id off g3 v3 h1 h2
      rcases h3 with h3 | ⟨rfl, rfl, v1, v2, rfl, rfl⟩
      · cases h3; exact this
      · obtain ⟨⟨x, hx, hd⟩, r⟩ := this
        exact ⟨⟨x, hx, hden hd⟩, r⟩
    row := fun id g v hv hj => by
      obtain ⟨g3, v3, h1, h2, h3⟩ := key _ _ _ hv hj
      have := hR.row id g3 v3 h1 h2
      rcases h3 with h3 | ⟨rfl, rfl, v1, v2, rfl, rfl⟩
      · cases h3; exact this
      · obtain ⟨h4, h5⟩ := RowIs.merge hR.sT hj this.1
        exact ⟨h4, fun hr hcap => this.2 (by rw [← h5]; exact hr) hcap⟩
    dist := fun b1 b2 i j hi hj he => hR.dist b1 b2 i j (up b1 i hi) (up b2 j hj) he }⟩

/-! ### Rows that are named anew -/

theorem scrub_look {id : Nat} {k : K} : ∀ {E : Env A}, (∃ e, look k (scrub id E) = some e ∧ e.2.isJunk = true) ∨ look k (scrub id E) = none
  | [] => .inr rfl
  | (k', g, v) :: E => by
    simp only [scrub]
    split
    · exact scrub_look
    · rw [look_cons]
      by_cases h : k = k'
      · rw [if_pos h]; exact .inl ⟨_, rfl, rfl⟩
      · rw [if_neg h]; exact scrub_look

theorem scrub_none {id : Nat} {k : K} {e : Ent A} : ∀ {E : Env A}, look k (scrub id E) = none → look k E = some e → (K.avoids id k).and (avoids id e.2) = true
  | [], _, h => by simp [look] at h
  | (k', g, v) :: E, h, h' => by
    simp only [scrub] at h
    rw [look_cons] at h'
    split at h
    · rename_i hav
      split at h'
      · rename_i hk; cases h'; subst hk; exact hav
      · exact scrub_none h h'
    · rw [look_cons] at h
      split at h
      · cases h
      · rename_i hk
        rw [if_neg hk] at h'
        exact scrub_none h h'

theorem free_avoids {n key s : Nat} (hs : s < n) {v : V A} (h : okv (idFree n key) v = true) : avoids (renKey n key s) v = true := by
  refine okv_mono (fun i hi => ?_) h
  simp only [neq, Bool.not_eq_true']
  cases hb : Nat.beq i (renKey n key s) with
  | false => rfl
  | true =>
    have he : i = n * (key + 1) + s := by simpa [renKey] using hb
    simp only [idFree, Bool.or_eq_true] at hi
    rcases hi with h1 | h1
    · have : i < n * (key + 1) := by simpa using h1
      omega
    · have h2 : n * (key + 2) ≤ i := by simpa using h1
      have h3 : n * (key + 2) = n * (key + 1) + n := by rw [show key + 2 = key + 1 + 1 by omega, Nat.mul_succ]
      omega

theorem free_key {n key s : Nat} (hs : s < n) {k : K} (h : k.okp (idFree n key) = true) : K.avoids (renKey n key s) k = true := by
  have : ∀ i, idFree n key i = true → (Nat.beq i (renKey n key s)).not = true := fun i hi => by
    have := free_avoids (A := fun _ => Unit) (n := n) (key := key) hs (v := .own i) (by simpa [okv, ok0, okB] using hi)
    simpa [avoids, okv, ok0, okB, neq] using this
  cases k with
  | slot _ => rfl
  | cell i o => exact this i h
  | row i => exact this i h

theorem alias_look {r id : Nat} {E : Env A} {k : K} {e : Ent A} : ∀ {l : Env A}, look k (alias r id E l) = some e → ∃ s, k = .slot s ∧ e = ([], .own id) ∧ look (.slot s) E = some ([], .own r)
  | [], h => by simp [alias, look] at h
  | (.slot s, x) :: l, h => by
    simp only [alias] at h
    split at h
    · rename_i r' hl
      split at h
      · rename_i hb
        have : r = r' := by simpa using hb
        subst this
        rw [look_cons] at h
        split at h
        · rename_i hk
          cases h
          exact ⟨s, hk, rfl, hl⟩
        · exact alias_look h
      · exact alias_look h
    · exact alias_look h
  | (.cell _ _, x) :: l, h => alias_look (l := l) (by simpa [alias] using h)
  | (.row _, x) :: l, h => alias_look (l := l) (by simpa [alias] using h)

def aliasE (id : Nat) (E : Env A) : Option Nat → Env A
  | some r => alias r id E E
  | none => []

/-- A row takes another name. -/
theorem rel_ren1 (hc : CfgOk c) {d : Env A} {s t : Nat} {a : Act} {w : World} (hF : keyFree n key F = true) (h : Rel c n w0 S0 (fun k => look k (d ++ (base ++ F))) a w) :
    Rel c n w0 S0 (fun k => look k (ren1 c n (d ++ base) (renKey n key s) s t ++ (d ++ (base ++ F)))) a w := by
  obtain ⟨S, σ, hR⟩ := h
  have full : ∀ k e, look k (d ++ base) = some e → look k (d ++ (base ++ F)) = some e := fun k e h => by
    rw [← List.append_assoc, look_append, h]; rfl
  -- one row laid under the name, the slot holds it
  have go : ∀ (L : Loc) (t' : Nat) (f : Bool) (l : List (A t')) (r : Option Nat), s < n → renKey n key s ∉ c.pins → look (.slot s) (d ++ base) = some ([], (match r with | some r => V.own r | none => .raw (.slice none 0 0))) →
      (∀ r', r = some r' → r' ≠ renKey n key s ∧ look (.row r') (d ++ base) = some ([], .rowc t' f none l) ∧ L = σ r') → (r = none → L.cap = 0) →
      RowAt c S σ w L t' f none l → a.tmps.getD s undef = .slice L.base L.len L.cap →
      Rel c n w0 S0 (fun k => look k (((.slot s, [], .own (renKey n key s)) :: (.row (renKey n key s), [], .rowc t' f none l) :: (killE r ++ (aliasE (renKey n key s) (d ++ base) r ++ scrub (renKey n key s) (d ++ base)))) ++ (d ++ (base ++ F)))) a w := by
    intro L t' f l r hs hpin hslot hr hr0 hrow hval
    let id := renKey n key s
    have hal : ∀ {k : K} {e : Ent A}, look k (aliasE id (d ++ base) r) = some e → ∃ s' r', r = some r' ∧ k = .slot s' ∧ e = ([], .own id) ∧ look (.slot s') (d ++ base) = some ([], .own r') := fun {k e} h => by
      cases r with
      | none => simp [aliasE, look] at h
      | some r' =>
        obtain ⟨s', h1, h2, h3⟩ := alias_look (l := d ++ base) h
        exact ⟨s', r', rfl, h1, h2, h3⟩
    let lk' : K → Option (Ent A) := fun k => if k = .slot s then none else if r.map K.row = some k then none else match look k (scrub id (d ++ base)) with | some _ => none | none => look k (d ++ (base ++ F))
    have hsub : Sub lk' (fun k => look k (d ++ (base ++ F))) := fun k g v h _ => by
      simp only [lk'] at h
      split at h
      · cases h
      · split at h
        · cases h
        · split at h
          · cases h
          · exact h
    have hlr : ∀ r', r = some r' → ∀ (hcap : L.cap ≠ 0), live (fun k => look k (d ++ (base ++ F))) σ true r' := fun r' hr' hcap => by
      obtain ⟨_, h2, h3⟩ := hr r' hr'
      exact ⟨_, _, full _ _ h2, rfl, by rw [← h3]; exact hcap⟩
    have hR2 := hR.rowStep hc (lk' := lk') hsub (X := fun _ => False) (bel_none w) (fun b h => h.elim) (fun b i _ h => h.elim) (d := id) (L := L) (.inr hpin) (.inr fun k g v h hj => ?_) hrow (fun hcap => ?_)
    · refine ⟨S, (fun i => if i = id then L else σ i), ?_⟩
      have hput : RelAt c n w0 S0 S (fun i => if i = id then L else σ i) (fun k => if k = .slot s then some ([], .own id) else if k = .row id then some ([], .rowc t' f none l) else (look k (aliasE id (d ++ base) r)).or (lk' k)) a w := {
        inv := hR2.inv
        defers := hR2.defers
        size := hR2.size
        below := hR2.below
        s0 := hR2.s0
        pin := hR2.pin
        sT := hR2.sT
        sNew := hR2.sNew
        sLt := hR2.sLt
        slot := fun i g v hv hj => by
          by_cases hi : K.slot i = K.slot s
          · cases hi
            simp only [if_true, Option.some.injEq, Prod.mk.injEq] at hv
            obtain ⟨rfl, rfl⟩ := hv
            refine ⟨hs, fun _ => ?_, fun hn => absurd (fun p hp => by cases hp) hn⟩
            rw [hval]
            have := Den.own (c := c) (S := S) (σ := fun i => if i = id then L else σ i) (w := w) id
            simpa using this
          · simp only [hi, if_false] at hv
            cases hla : look (.slot i) (aliasE id (d ++ base) r) with
            | none =>
              rw [hla] at hv
              exact hR2.slot i g v (by simpa using hv) hj
            | some e =>
              rw [hla] at hv
              obtain ⟨s', r', hrr, h1, h2, h3⟩ := hal hla
              cases h1
              subst h2
              simp at hv
              obtain ⟨rfl, rfl⟩ := hv
              have hsl := hR.slot i [] _ (full _ _ h3) rfl
              refine ⟨hsl.1, fun _ => ?_, fun hn => absurd (fun p hp => by cases hp) hn⟩
              have h4 := hsl.2.1 (fun p hp => by cases hp)
              have h5 : a.tmps.getD i undef = .slice L.base L.len L.cap := by
                rw [(hr r' hrr).2.2]
                generalize a.tmps.getD i undef = u at h4
                cases h4; rfl
              rw [h5]
              have := Den.own (c := c) (S := S) (σ := fun i => if i = id then L else σ i) (w := w) id
              simpa using this
        cell := fun i o g v hv hj => by
          simp only [reduceCtorEq, if_false] at hv
          cases hla : look (.cell i o) (aliasE id (d ++ base) r) with
          | none => rw [hla] at hv; exact hR2.cell i o g v (by simpa using hv) hj
          | some e => obtain ⟨s', r', _, h1, _⟩ := hal hla; cases h1
        row := fun i g v hv hj => by
          simp only [reduceCtorEq, if_false] at hv
          cases hla : look (.row i) (aliasE id (d ++ base) r) with
          | none => rw [hla] at hv; exact hR2.row i g v (by simpa using hv) hj
          | some e => obtain ⟨s', r', _, h1, _⟩ := hal hla; cases h1
        dist := fun b b' i j hi hj he => by
          have up : ∀ b i, live (fun k => if k = .slot s then some ([], .own id) else if k = .row id then some ([], .rowc t' f none l) else (look k (aliasE id (d ++ base) r)).or (lk' k)) (fun i => if i = id then L else σ i) b i → live (fun k => if k = .row id then some ([], .rowc t' f none l) else lk' k) (fun i => if i = id then L else σ i) b i := by
            intro b i h
            have noc : ∀ o, look (.cell i o) (aliasE id (d ++ base) r) = none := fun o => by
              cases hla : look (.cell i o) (aliasE id (d ++ base) r) with
              | none => rfl
              | some e => obtain ⟨s', r', _, h1, _⟩ := hal hla; cases h1
            have nor : look (.row i) (aliasE id (d ++ base) r) = none := by
              cases hla : look (.row i) (aliasE id (d ++ base) r) with
              | none => rfl
              | some e => obtain ⟨s', r', _, h1, _⟩ := hal hla; cases h1
            cases b
            · obtain ⟨o, g, v, h1, h2⟩ := h
              exact ⟨o, g, v, by simpa [noc] using h1, h2⟩
            · obtain ⟨g, v, h1, h2, h3⟩ := h
              exact ⟨g, v, by simpa [nor] using h1, h2, h3⟩
          exact hR2.dist b b' i j (up b i hi) (up b' j hj) he }
      refine hput.sub (fun k g v hk hj => ?_)
      have hk : look k (((.slot s, [], .own id) :: (.row id, [], .rowc t' f none l) :: (killE r ++ (aliasE id (d ++ base) r ++ scrub id (d ++ base)))) ++ (d ++ (base ++ F))) = some (g, v) := hk
      rw [List.cons_append, look_cons] at hk
      by_cases h1 : k = .slot s
      · simpa [h1] using hk
      · rw [if_neg h1, List.cons_append, look_cons] at hk
        by_cases h2 : k = .row id
        · simp only [h2, if_true] at hk ⊢; simpa using hk
        · rw [if_neg h2, List.append_assoc, look_append] at hk
          simp only [h1, h2, if_false, lk']
          by_cases h3 : r.map K.row = some k
          · exfalso
            cases r with
            | none => cases h3
            | some r' =>
              cases h3
              simp [killE, look_cons, look] at hk
              rw [hk.2.symm] at hj; cases hj
          · rw [if_neg h3]
            have h4 : look k (killE r : Env A) = none := by
              cases r with
              | none => rfl
              | some r' =>
                have : k ≠ .row r' := fun h => h3 (by rw [h]; rfl)
                simp [killE, look_cons, look, this]
            rw [h4, Option.none_or, List.append_assoc, look_append] at hk
            cases hla : look k (aliasE id (d ++ base) r) with
            | some e => rw [hla] at hk; simpa using hk
            | none =>
            rw [hla, Option.none_or, look_append] at hk
            rw [Option.none_or]
            rcases scrub_look (id := id) (k := k) (E := d ++ base) with ⟨e, h5, h6⟩ | h5
            · rw [h5] at hk
              simp at hk
              subst hk
              rw [hj] at h6; cases h6
            · rw [h5, Option.none_or] at hk
              rw [h5]; exact hk
    · simp only [lk'] at h
      split at h
      · cases h
      · split at h
        · cases h
        · split at h
          · cases h
          · rename_i hsn
            have h' := h
            rw [← List.append_assoc, look_append] at h'
            cases hl : look k (d ++ base) with
            | some e =>
              rw [hl] at h'
              simp at h'
              subst h'
              have := scrub_none hsn hl
              simp only [Bool.and_eq_true] at this
              exact ⟨this.2, this.1⟩
            | none =>
              rw [hl, Option.none_or] at h'
              have := all_mem hF _ (look_mem h')
              simp only [entFree, Bool.and_eq_true] at this
              exact ⟨free_avoids hs this.2, free_key hs this.1⟩
    · cases r with
      | none => exact absurd (hr0 rfl) hcap
      | some r' =>
        obtain ⟨h1, h2, h3⟩ := hr r' rfl
        have h4 := (hR.row r' [] _ (full _ _ h2) rfl).2 rfl (by rw [← h3]; exact hcap)
        rw [h3]
        refine ⟨h4.1, h4.2, fun b i hl he => ?_⟩
        obtain ⟨rfl, rfl⟩ := hR.dist b true i r' (hsub.live hl) (hlr r' rfl hcap) he
        obtain ⟨g, v, h5, _⟩ := hl
        simp [lk'] at h5
  unfold ren1
  split
  · split
    · split
      · rename_i t' f l hrow
        have hR' := hR.freeze hc (full _ _ hrow)
        refine ⟨_, σ, hR'.sub (fun k g v hk hj => ?_)⟩
        rw [List.cons_append, List.nil_append, look_cons] at hk
        simpa using hk
      · exact ⟨S, σ, hR⟩
    · exact ⟨S, σ, hR⟩
  split
  · rename_i r hs hslot
    simp only [Bool.and_eq_true, Bool.not_eq_true'] at hs
    have hpin : renKey n key s ∉ c.pins := fun h => by rw [memN_iff.2 h] at hs; cases hs.2
    have hs : s < n := by simpa using hs.1
    split
    · rename_i t' f l hne hrow
      have hne : r ≠ renKey n key s := by intro e; rw [e] at hne; simp at hne
      have hra : RowAt c S σ w (σ r) t' f none l := (hR.row r [] _ (full _ _ hrow) rfl).1
      have hval : a.tmps.getD s undef = .slice (σ r).base (σ r).len (σ r).cap := by
        have := (hR.slot s [] _ (full _ _ hslot) rfl).2.1 (fun p hp => by cases hp)
        generalize a.tmps.getD s undef = u at this
        cases this; rfl
      exact go (σ r) t' f l (some r) hs hpin hslot (fun r' hr' => by cases hr'; exact ⟨hne, hrow, rfl⟩) (fun h => by cases h) hra hval
    · exact ⟨S, σ, hR⟩
  · rename_i hs hslot
    simp only [Bool.and_eq_true, Bool.not_eq_true'] at hs
    have hpin : renKey n key s ∉ c.pins := fun h => by rw [memN_iff.2 h] at hs; cases hs.2
    have hs : s < n := by simpa using hs.1
    split
    · rename_i hsz
      have hne : (c.ty t).size ≠ 0 := by intro e; rw [e] at hsz; simp at hsz
      have hval : a.tmps.getD s undef = .slice none 0 0 := ((hR.slot s [] _ (full _ _ hslot) rfl).2.1 (fun p hp => by cases hp)).of_raw
      exact go ⟨0, 0, 0, none⟩ t true [] none hs hpin hslot (fun r' hr' => by cases hr') (fun _ => rfl)
        ⟨hne, rfl, Nat.zero_le _, fun m hm => (by cases hm), fun j hj => absurd hj (Nat.not_lt_zero _), fun _ h => absurd rfl h, fun k hk => (by simp at hk), fun k h => absurd rfl h, fun j q hj => absurd hj (Nat.not_lt_zero _)⟩ hval
    · exact ⟨S, σ, hR⟩
  · exact ⟨S, σ, hR⟩

theorem rel_renAll (hc : CfgOk c) {a : Act} {w : World} (hF : keyFree n key F = true) : ∀ (ss : List (Nat × Nat)) (d : Env A), Rel c n w0 S0 (fun k => look k (d ++ (base ++ F))) a w → Rel c n w0 S0 (fun k => look k (renAll c n key base ss d ++ (base ++ F))) a w
  | [], _, h => h
  | (s, t) :: ss, d, h => by
    simp only [renAll]
    refine rel_renAll hc hF ss _ ?_
    have := rel_ren1 hc (s := s) (t := t) hF h
    simpa [List.append_assoc] using this

theorem rel_join (hc : CfgOk c) {b : Bool} {d1 d2 : Env A} {a : Act} {w : World} (hF : keyFree n key F = true) (h : Rel c n w0 S0 (fun k => look k ((if b then d1 else d2) ++ (base ++ F))) a w) : Rel c n w0 S0 (fun k => look k (joinD c n key b base d1 d2 ++ (base ++ F))) a w := by
  unfold joinD
  split
  · exact rel_merge h
  · refine rel_merge ?_
    cases b
    · exact rel_renAll hc hF _ _ h
    · exact rel_renAll hc hF _ _ h

theorem clear_look {k : K} : ∀ {E : Env A}, look k (clear E) = (look k E).map fun e => match e.1 with | [] => ([], e.2) | _ => ([], .junk)
  | [] => rfl
  | (k', g, v) :: E => by
    cases g with
    | nil =>
      simp only [clear, look_cons]
      split
      · rfl
      · exact clear_look
    | cons q g =>
      simp only [clear, look_cons]
      split
      · rfl
      · exact clear_look

theorem rel_clear {d : Env A} {a : Act} {w : World} (h : Rel c n w0 S0 (fun k => look k (d ++ base)) a w) : Rel c n w0 S0 (fun k => look k (clear d ++ base)) a w := by
  refine h.sub fun k g v hv hj => ?_
  rw [look_append, clear_look] at hv
  show look k (d ++ base) = some (g, v)
  rw [look_append]
  cases hl : look k d with
  | none => rw [hl] at hv; simpa using hv
  | some e' =>
    obtain ⟨g', v'⟩ := e'
    rw [hl] at hv
    cases g' with
    | nil => simpa using hv
    | cons q g' =>
      simp only [Option.map_some, Option.some_or, Option.some.injEq, Prod.mk.injEq] at hv
      obtain ⟨_, rfl⟩ := hv
      cases hj

theorem join_ok (hc : CfgOk c) (hF : keyFree n key F = true) {b : Bool} {t e : Tr A} {Q : Exit → Act → World → Prop} (hv : (Tr.join c n key base b t e).vc)
    (hp : (Tr.join c n key base b t e).post fun e d => ∀ a w, Rel c n w0 S0 (fun k => look k (d ++ (base ++ F))) a w → Q e.to a w) :
    (b = true → t.vc ∧ t.post fun e d => ∀ a w, Rel c n w0 S0 (fun k => look k (d ++ (base ++ F))) a w → Q e.to a w) ∧
    (b = false → e.vc ∧ e.post fun e d => ∀ a w, Rel c n w0 S0 (fun k => look k (d ++ (base ++ F))) a w → Q e.to a w) := by
  have m1 : ∀ {d1 d2 : Env A}, (∀ a w, Rel c n w0 S0 (fun k => look k (joinD c n key b base d1 d2 ++ (base ++ F))) a w → Q .normal a w) → b = true → ∀ a w, Rel c n w0 S0 (fun k => look k (d1 ++ (base ++ F))) a w → Q .normal a w := by
    intro d1 d2 h hb a w hR
    subst hb
    exact h a w (rel_join hc hF (by simpa using hR))
  have m2 : ∀ {d1 d2 : Env A}, (∀ a w, Rel c n w0 S0 (fun k => look k (joinD c n key b base d1 d2 ++ (base ++ F))) a w → Q .normal a w) → b = false → ∀ a w, Rel c n w0 S0 (fun k => look k (d2 ++ (base ++ F))) a w → Q .normal a w := by
    intro d1 d2 h hb a w hR
    subst hb
    exact h a w (rel_join hc hF (by simpa using hR))
  unfold Tr.join at hv hp
  split at hv
  · exact ⟨fun hb => ⟨trivial, m1 hp hb⟩, fun hb => ⟨trivial, m2 hp hb⟩⟩
  · exact ⟨fun hb => ⟨⟨hv.1 hb, trivial⟩, m1 hp hb⟩, fun hb => ⟨trivial, m2 hp hb⟩⟩
  · exact ⟨fun hb => ⟨trivial, m1 hp hb⟩, fun hb => ⟨⟨hv.1 hb, trivial⟩, m2 hp hb⟩⟩
  · exact ⟨fun hb => ⟨⟨hv.1.1 hb, trivial⟩, m1 hp hb⟩, fun hb => ⟨⟨hv.1.2 hb, trivial⟩, m2 hp hb⟩⟩
  · simp only [Tr.post] at hp
    exact ⟨fun hb => ⟨hv.1 hb, hp.1 hb⟩, fun hb => ⟨hv.2 hb, hp.2 hb⟩⟩

theorem collapse_ok (hc : CfgOk c) (hF : keyFree n key F = true) {Q : Exit → Act → World → Prop} : ∀ {t : Tr A}, (t.collapse c n key base).vc → (t.collapse c n key base).post (fun e d => ∀ a w, Rel c n w0 S0 (fun k => look k (d ++ (base ++ F))) a w → Q e.to a w) →
    t.vc ∧ t.post fun e d => ∀ a w, Rel c n w0 S0 (fun k => look k (d ++ (base ++ F))) a w → Q e.to a w
  | .leaf _ _, h, h' => ⟨h, h'⟩
  | .fail, h, _ => h.elim
  | .req ps t, h, h' => by
    obtain ⟨h1, h2⟩ := Tr.rq_vc h
    have := collapse_ok hc hF (t := t) h2 (Tr.rq_post.1 h')
    exact ⟨⟨h1, this.1⟩, this.2⟩
  | .node b t e, h, h' => by
    obtain ⟨h1, h2⟩ := join_ok hc hF h h'
    exact ⟨⟨fun hb => (collapse_ok hc hF (h1 hb).1 (h1 hb).2).1, fun hb => (collapse_ok hc hF (h2 hb).1 (h2 hb).2).1⟩, fun hb => (collapse_ok hc hF (h1 hb).1 (h1 hb).2).2, fun hb => (collapse_ok hc hF (h2 hb).1 (h2 hb).2).2⟩

/-- What is said of a loop is so. -/
def LoopOk (c : Cfg A) (n : Nat) (w0 : W1) (S0 : Nat → Prop) (loop : Nat → Env A → Tr A) (key : Nat) (body : Code) : Prop :=
  ∀ (E F : Env A) (Q : Exit → Act → World → Prop) (a : Act) (w : World), codeAvoids n F key (.loop body) = true → Rel c n w0 S0 (fun k => look k (E ++ F)) a w → (loop key E).vc →
    (loop key E).post (fun e d => ∀ a w, Rel c n w0 S0 (fun k => look k (d ++ (E ++ F))) a w → Q e.to a w) → (Code.loop body).wp c.P Q a w

theorem ev_ok (hc : CfgOk c) (hm : c.P.follows .mixedOrders = true) {loop : Nat → Env A → Tr A} : ∀ (x : Code) (key : Nat) (base d : Env A) (Q : Exit → Act → World → Prop) (a : Act) (w : World),
    (∀ p ∈ loopsOf key x, LoopOk c n w0 S0 loop p.1 p.2) → codeAvoids n F key x = true → Rel c n w0 S0 (fun k => look k (d ++ (base ++ F))) a w → (ev c n loop key x base d).vc →
    ((ev c n loop key x base d).post fun e d' => ∀ a w, Rel c n w0 S0 (fun k => look k (d' ++ (base ++ F))) a w → Q e.to a w) → x.wp c.P Q a w := by
  intro x
  induction x with
  | skip => intro key base d Q a w _ hF hR _ hp; exact wp_skip (hp a w hR)
  | label l => intro key base d Q a w _ hF hR _ hp; exact wp_label (hp a w hR)
  | exit id => intro key base d Q a w _ hF hR _ hp; exact wp_exit (hp a w hR)
  | ret => intro key base d Q a w _ hF hR _ hp; exact wp_ret (hp a w hR)
  | goto l => intro key base d Q a w _ hF hR hv; exact hv.elim
  | refuse y => intro key base d Q a w _ hF hR hv; exact hv.elim
  | rangeFunc f ps x y => intro key base d Q a w _ hF hR hv; exact hv.elim
  | region id ops draw =>
    intro key base d Q a w _ hF hR hv hp
    cases draw with
    | false =>
      simp only [ev] at hv hp
      cases hs : evSeq c n base ops.toList none ops.toList d with
      | some r =>
        obtain ⟨d', ps⟩ := r
        rw [hs] at hv hp
        simp only at hv hp
        obtain ⟨h1, _⟩ := Tr.rq_vc hv
        have h2 := Tr.rq_post.1 hp
        refine wp_region ?_
        have := seq_ok hc (Q := Q) (ops := ops) ops.toList none 0 d d' ps a w (fun j => by simp) (opsAvoid_mem hF) hs h1 hR (fun a' w' hR' => h2 a' w' (rel_clear hR'))
        rw [List.range_eq_range']
        simpa using this
      | none => rw [hs] at hv; exact hv.elim
    | true =>
      simp only [ev] at hv hp
      cases hs : evDraw c n (d ++ base) ops.toList (clAll ops.toList []) ops.toList [] with
      | some r =>
        obtain ⟨full, ps⟩ := r
        rw [hs] at hv hp
        simp only at hv hp
        obtain ⟨h1, _⟩ := Tr.rq_vc hv
        have h2 := Tr.rq_post.1 hp
        obtain ⟨hg, hlen⟩ := evDraw_good (ops := ops) ops.toList [] full ps (fun j => by simp) trivial hs h1
        have hlen' : full.length = ops.size := by simpa using hlen
        refine wp_region_any hm (draw_ok (w0 := w0) (S0 := S0) (F := F) hc (opsAvoid_mem hF) hg hlen' (fun a' w' hR' => ?_) _ _ a _ (by simp) (by
          have := List.length_filter_le (fun i => !((Array.replicate ops.size false).getD i false)) (List.range ops.size)
          simpa using this) ?_ ?_)
        · have := rel_clear hR'
          exact h2 a' w' (by simpa [List.append_assoc] using this)
        · intro pre r acc he hp' i hi
          by_cases hlt : acc.length < ops.size <;> simp [hlt] at hp'
        · have e : gatherP (fun i => (Array.replicate ops.size false).getD i false) full = [] := by
            have : ∀ l : List (Rc A), gatherP (fun i => (Array.replicate ops.size false).getD i false) l = [] := by
              intro l
              induction l with
              | nil => rfl
              | cons r l ih =>
                have hf : (Array.replicate ops.size false).getD l.length false = false := by
                  by_cases hlt : l.length < ops.size <;> simp [hlt]
                simp only [gatherP, hf]
                exact ih
            exact this full
          rw [e]
          obtain ⟨S, σ, hr⟩ := hR
          rw [List.nil_append, List.append_assoc]
          have := hr.grow hc (w' := { w with drawn := w.drawn + 1 }) (S' := S) ⟨rfl, rfl, rfl, Nat.le_refl _, fun _ _ => rfl⟩ (fun _ _ h => h) hr.sT (fun _ _ h => .inl h)
          exact ⟨S, σ, this⟩
      | none => rw [hs] at hv; exact hv.elim
  | seq x y ihx ihy =>
    intro key base d Q a w hl hF hR hv hp
    simp only [ev] at hv hp
    obtain ⟨v1, v2⟩ := Tr.bind_vc hv
    have p1 := Tr.bind_post hp
    simp only [codeAvoids, Bool.and_eq_true] at hF
    refine wp_seq (ihx key base d _ a w (fun p hp => hl p (by simp [loopsOf, hp])) hF.1 hR v1 ?_)
    refine Tr.post_mono (fun e d' h => ?_) (Tr.post_and v2 p1)
    cases e with
    | normal => exact fun a' w' hR' => ihy key base d' Q a' w' (fun p hp => hl p (by simp [loopsOf, hp])) hF.2 hR' h.1 h.2
    | ret => exact fun a' w' hR' => h.2 a' w' hR'
    | exit id => exact fun a' w' hR' => h.2 a' w' hR'
  | cond x t e iht ihe =>
    intro key base d Q a w hl hF hR hv hp
    simp only [ev] at hv hp
    split at hv
    · rename_i b hb
      simp only [hb] at hp
      have v1 := Tr.ext_vc hv
      have p1 := Tr.ext_post hp
      have p2 : (Tr.join c n key (d ++ base) b (ev c n loop key t (d ++ base) []) (ev c n loop key e (d ++ base) [])).post fun e δ => ∀ a w, Rel c n w0 S0 (fun k => look k (δ ++ ((d ++ base) ++ F))) a w → Q e.to a w := by
        refine Tr.post_mono (fun e δ h a' w' hR' => h a' w' ?_) p1
        simpa [List.append_assoc] using hR'
      simp only [codeAvoids, Bool.and_eq_true] at hF
      obtain ⟨j1, j2⟩ := join_ok hc hF.1 v1 p2
      have hRn : Rel c n w0 S0 (fun k => look k ([] ++ ((d ++ base) ++ F))) a w := by simpa [List.append_assoc] using hR
      obtain ⟨S, σ, hr⟩ := hR
      have hbd := (opv_den hr (E := d ++ base) (fun k e h => by rw [← List.append_assoc, look_append, h]; rfl) (g := []) (fun p hp => by cases hp) hb).of_bool
      refine wp_cond_split hbd (fun h => ?_) (fun h => ?_)
      · exact iht key (d ++ base) [] Q a w (fun p hp => hl p (by simp [loopsOf, hp])) hF.2.1 hRn (j1 h).1 (j1 h).2
      · exact ihe key (d ++ base) [] Q a w (fun p hp => hl p (by simp [loopsOf, hp])) hF.2.2 hRn (j2 h).1 (j2 h).2
    · exact hv.elim
  | block id x ih =>
    intro key base d Q a w hl hF hR hv hp
    simp only [ev] at hv hp
    have v1 := Tr.ext_vc hv
    have p1 := Tr.ext_post hp
    have p2 : (((ev c n loop id x (d ++ base) []).unblock id).collapse c n id (d ++ base)).post fun e δ => ∀ a w, Rel c n w0 S0 (fun k => look k (δ ++ ((d ++ base) ++ F))) a w → Q e.to a w := by
      refine Tr.post_mono (fun e δ h a' w' hR' => h a' w' ?_) p1
      simpa [List.append_assoc] using hR'
    simp only [codeAvoids, Bool.and_eq_true] at hF
    obtain ⟨v3, p3⟩ := collapse_ok hc hF.1 v1 p2
    have v4 := Tr.unblock_vc v3
    have p4 := Tr.unblock_post p3
    refine wp_block (ih id (d ++ base) [] _ a w (fun p hp => hl p (by simpa [loopsOf] using hp)) hF.2 (by simpa [List.append_assoc] using hR) v4 ?_)
    refine Tr.post_mono (fun e δ h a' w' hR' => ?_) p4
    have := h a' w' hR'
    cases e with
    | normal => exact this
    | ret => exact this
    | exit id' =>
      by_cases he : id' = id
      · subst he; simpa [Ex.to, Exit.inBlock] using this
      · simpa [Ex.to, Exit.inBlock, he] using this
  | loop x _ =>
    intro key base d Q a w hl hF hR hv hp
    simp only [ev] at hv hp
    have v1 := Tr.ext_vc hv
    have p1 := Tr.ext_post hp
    refine hl (key, x) (by simp [loopsOf]) (d ++ base) F Q a w hF (by simpa [List.append_assoc] using hR) v1 (Tr.post_mono (fun e δ h a' w' hR' => h a' w' ?_) p1)
    simpa [List.append_assoc] using hR'
  | scope x ih =>
    intro key base d Q a w hl hF hR hv hp
    simp only [ev] at hv hp
    refine wp_scope_straight (ih key base d _ a w (fun p hp => hl p (by simpa [loopsOf] using hp)) hF hR hv ?_)
    refine Tr.post_mono (fun e δ h a' w' hR' => ?_) hp
    have := h a' w' hR'
    cases e <;> exact this

end
end Vm
