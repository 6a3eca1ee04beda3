/-
  Code: what the interpreter says of it is so; and of a function.
-/
import Derived.Test.YtpphpbphgnlmlaaVm10
set_option linter.all false
namespace Vm
open Go Go.RowKit
variable {A : Nat → Type}

inductive Ex where
  | normal
  | ret
  | exit (id : Nat)

def Ex.to : Ex → Exit
  | .normal => .normal
  | .ret => .ret
  | .exit id => .exit id

inductive Tr (A : Nat → Type) where
  | leaf (e : Ex) (d : Env A)
  | node (b : Bool) (t e : Tr A)
  | req (ps : List Prop) (t : Tr A)
  | fail

namespace Tr

def rq (ps : List Prop) (t : Tr A) : Tr A :=
  match ps, t with
  | [], t => t
  | ps, .req qs t => .req (ps ++ qs) t
  | ps, t => .req ps t

def bind (f : Env A → Tr A) : Tr A → Tr A
  | .leaf .normal d => f d
  | .leaf e d => .leaf e d
  | .node b t e => .node b (bind f t) (bind f e)
  | .req ps t => rq ps (bind f t)
  | .fail => .fail

def ext (d : Env A) : Tr A → Tr A
  | .leaf e δ => .leaf e (δ ++ d)
  | .node b t e => .node b (ext d t) (ext d e)
  | .req ps t => .req ps (ext d t)
  | .fail => .fail

def unblock (id : Nat) : Tr A → Tr A
  | .leaf (.exit id') d => match Nat.beq id' id with
    | true => .leaf .normal d
    | false => .leaf (.exit id') d
  | .leaf e d => .leaf e d
  | .node b t e => .node b (unblock id t) (unblock id e)
  | .req ps t => .req ps (unblock id t)
  | .fail => .fail

end Tr

def mergeK (b : Bool) (base d1 d2 : Env A) : Env A → Env A
  | [] => []
  | (k, _) :: r => match look k (d1 ++ base), look k (d2 ++ base) with
    | some ([], v), some ([], w) => (k, [], merge b v w) :: mergeK b base d1 d2 r
    | _, _ => (k, [], .junk) :: mergeK b base d1 d2 r

def mergeD (b : Bool) (base d1 d2 : Env A) : Env A := mergeK b base d1 d2 (d1 ++ d2)

def Tr.join (base : Env A) (b : Bool) (t e : Tr A) : Tr A :=
  match t, e with
  | .leaf .normal d1, .leaf .normal d2 => .leaf .normal (mergeD b base d1 d2)
  | .req p (.leaf .normal d1), .leaf .normal d2 => .req [b = true → All p] (.leaf .normal (mergeD b base d1 d2))
  | .leaf .normal d1, .req q (.leaf .normal d2) => .req [b = false → All q] (.leaf .normal (mergeD b base d1 d2))
  | .req p (.leaf .normal d1), .req q (.leaf .normal d2) => .req [b = true → All p, b = false → All q] (.leaf .normal (mergeD b base d1 d2))
  | t, e => .node b t e

def Tr.collapse (base : Env A) : Tr A → Tr A
  | .node b t e => Tr.join base b (collapse base t) (collapse base e)
  | .req ps t => rq ps (collapse base t)
  | t => t

def ev (c : Cfg A) (n : Nat) (loop : Nat → Env A → Tr A) : Nat → Code → Env A → Env A → Tr A
  | _, .skip, _, d => .leaf .normal d
  | _, .label _, _, d => .leaf .normal d
  | _, .region _ ops false, base, d => match evSeq c n base ops.toList ops.toList d with
    | some (d', ps) => .rq ps (.leaf .normal (clear d'))
    | none => .fail
  | _, .region _ ops true, base, d => match evDraw c n (d ++ base) ops.toList (clAll ops.toList []) ops.toList [] with
    | some (full, ps) => .rq ps (.leaf .normal (clear (flat full) ++ d))
    | none => .fail
  | key, .seq x y, base, d => (ev c n loop key x base d).bind fun d' => ev c n loop key y base d'
  | key, .cond x t e, base, d => match opv (d ++ base) [] x with
    | some (.bool b) => (Tr.join (d ++ base) b (ev c n loop key t (d ++ base) []) (ev c n loop key e (d ++ base) [])).ext d
    | _ => .fail
  | _, .block id x, base, d => (((ev c n loop id x (d ++ base) []).unblock id).collapse (d ++ base)).ext d
  | key, .loop _, base, d => (loop key (d ++ base)).ext d
  | _, .exit id, _, d => .leaf (.exit id) d
  | _, .ret, _, d => .leaf .ret d
  | key, .scope x, base, d => ev c n loop key x base d
  | _, _, _, _ => .fail

def opsAvoid (F : Env A) : List Oper → Bool
  | [] => true
  | o :: l => (dstAvoids o.dst F).and (opsAvoid F l)

/-- Nothing of 'F' speaks of a slot or a box that the code lays anew. -/
def codeAvoids (F : Env A) : Code → Bool
  | .region _ ops _ => opsAvoid F ops.toList
  | .seq x y => (codeAvoids F x).and (codeAvoids F y)
  | .cond _ t e => (codeAvoids F t).and (codeAvoids F e)
  | .block _ x => codeAvoids F x
  | .loop x => codeAvoids F x
  | .scope x => codeAvoids F x
  | _ => true

theorem opsAvoid_mem {F : Env A} : ∀ {l : List Oper}, opsAvoid F l = true → ∀ o ∈ l, dstAvoids o.dst F = true
  | [], _, o, ho => by cases ho
  | o' :: l, h, o, ho => by
    simp only [opsAvoid, Bool.and_eq_true] at h
    cases ho with
    | head => exact h.1
    | tail _ hm => exact opsAvoid_mem h.2 o hm

def loopsOf : Nat → Code → List (Nat × Code)
  | key, .seq x y => loopsOf key x ++ loopsOf key y
  | key, .cond _ t e => loopsOf key t ++ loopsOf key e
  | _, .block id x => loopsOf id x
  | key, .loop x => [(key, x)]
  | key, .scope x => loopsOf key x
  | _, _ => []

namespace Tr

def vc : Tr A → Prop
  | .leaf _ _ => True
  | .node b t e => (b = true → t.vc) ∧ (b = false → e.vc)
  | .req ps t => All ps ∧ t.vc
  | .fail => False

def post (K : Ex → Env A → Prop) : Tr A → Prop
  | .leaf e d => K e d
  | .node b t e => (b = true → t.post K) ∧ (b = false → e.post K)
  | .req _ t => t.post K
  | .fail => True

theorem rq_vc {ps : List Prop} {t : Tr A} : (rq ps t).vc → All ps ∧ t.vc := by
  intro h
  unfold rq at h
  split at h
  · exact ⟨trivial, h⟩
  · obtain ⟨h1, h2⟩ := h
    exact ⟨(all_app h1).1, (all_app h1).2, h2⟩
  · exact h

theorem rq_post {K : Ex → Env A → Prop} {ps : List Prop} {t : Tr A} : (rq ps t).post K ↔ t.post K := by
  unfold rq
  split <;> simp [post]

theorem bind_vc {f : Env A → Tr A} : ∀ {t : Tr A}, (t.bind f).vc → t.vc ∧ t.post fun e d => match e with | .normal => (f d).vc | _ => True
  | .leaf e d, h => by
    refine ⟨trivial, ?_⟩
    cases e <;> simp only [post, bind] at * <;> first | exact h | trivial
  | .node b t e, h => by
    simp only [bind, vc] at h
    exact ⟨⟨fun hb => (bind_vc (h.1 hb)).1, fun hb => (bind_vc (h.2 hb)).1⟩, fun hb => (bind_vc (h.1 hb)).2, fun hb => (bind_vc (h.2 hb)).2⟩
  | .req ps t, h => by
    obtain ⟨h1, h2⟩ := rq_vc h
    exact ⟨⟨h1, (bind_vc h2).1⟩, (bind_vc h2).2⟩
  | .fail, h => h.elim

theorem bind_post {f : Env A → Tr A} {K : Ex → Env A → Prop} : ∀ {t : Tr A}, (t.bind f).post K → t.post fun e d => match e with | .normal => (f d).post K | e => K e d
  | .leaf e d, h => by cases e <;> exact h
  | .node b t e, h => ⟨fun hb => bind_post (h.1 hb), fun hb => bind_post (h.2 hb)⟩
  | .req ps t, h => bind_post (t := t) (rq_post.1 h)
  | .fail, _ => trivial

theorem post_and {K K' : Ex → Env A → Prop} : ∀ {t : Tr A}, t.post K → t.post K' → t.post fun e d => K e d ∧ K' e d
  | .leaf _ _, h, h' => ⟨h, h'⟩
  | .node _ _ _, h, h' => ⟨fun hb => post_and (h.1 hb) (h'.1 hb), fun hb => post_and (h.2 hb) (h'.2 hb)⟩
  | .req _ t, h, h' => post_and (t := t) h h'
  | .fail, _, _ => trivial

theorem post_mono {K K' : Ex → Env A → Prop} (hK : ∀ e d, K e d → K' e d) : ∀ {t : Tr A}, t.post K → t.post K'
  | .leaf _ _, h => hK _ _ h
  | .node _ _ _, h => ⟨fun hb => post_mono hK (h.1 hb), fun hb => post_mono hK (h.2 hb)⟩
  | .req _ t, h => post_mono (t := t) hK h
  | .fail, _ => trivial

theorem ext_vc {d : Env A} : ∀ {t : Tr A}, (t.ext d).vc → t.vc
  | .leaf _ _, _ => trivial
  | .node _ _ _, h => ⟨fun hb => ext_vc (h.1 hb), fun hb => ext_vc (h.2 hb)⟩
  | .req _ _, h => ⟨h.1, ext_vc h.2⟩
  | .fail, h => h.elim

theorem ext_post {d : Env A} {K : Ex → Env A → Prop} : ∀ {t : Tr A}, (t.ext d).post K → t.post fun e δ => K e (δ ++ d)
  | .leaf _ _, h => h
  | .node _ _ _, h => ⟨fun hb => ext_post (h.1 hb), fun hb => ext_post (h.2 hb)⟩
  | .req _ t, h => ext_post (t := t) h
  | .fail, _ => trivial

theorem unblock_vc {id : Nat} : ∀ {t : Tr A}, (t.unblock id).vc → t.vc
  | .leaf _ _, _ => trivial
  | .node _ _ _, h => ⟨fun hb => unblock_vc (h.1 hb), fun hb => unblock_vc (h.2 hb)⟩
  | .req _ _, h => ⟨h.1, unblock_vc h.2⟩
  | .fail, h => h.elim

theorem unblock_post {id : Nat} {K : Ex → Env A → Prop} : ∀ {t : Tr A}, (t.unblock id).post K → t.post fun e d => K (match e with | .exit id' => if id' = id then .normal else .exit id' | e => e) d
  | .leaf e d, h => by
    cases e with
    | exit id' =>
      simp only [unblock] at h
      by_cases he : id' = id
      · subst he; simp at h; simpa [post] using h
      · have : Nat.beq id' id = false := by
          cases hb : Nat.beq id' id with
          | false => rfl
          | true => exact absurd (by simpa using hb) he
        rw [this] at h
        simpa [post, he] using h
    | _ => exact h
  | .node _ _ _, h => ⟨fun hb => unblock_post (h.1 hb), fun hb => unblock_post (h.2 hb)⟩
  | .req _ t, h => unblock_post (t := t) h
  | .fail, _ => trivial

end Tr

section
variable {c : Cfg A} {n : Nat} {w0 : World} {S0 : Nat → Prop} {base F : Env A}

theorem mergeS_junk {b : Bool} {v v' : V A} (h : (mergeS b v v').isJunk = false) : v.isJunk = false ∧ v'.isJunk = false := by
  cases v <;> cases v' <;> simp_all [mergeS, V.isJunk]

theorem merge_junk {b : Bool} {v v' : V A} (h : (merge b v v').isJunk = false) : v.isJunk = false ∧ v'.isJunk = false := by
  unfold merge at h
  split at h
  · exact ⟨rfl, rfl⟩
  · exact ⟨rfl, rfl⟩
  · exact mergeS_junk h

theorem look_mergeK {b : Bool} {d1 d2 : Env A} {k : K} : ∀ (l : Env A), look k (mergeK b base d1 d2 l) = (look k l).map fun _ => match look k (d1 ++ base), look k (d2 ++ base) with
    | some ([], v), some ([], w) => ([], merge b v w)
    | _, _ => ([], .junk) := by
  intro l
  induction l with
  | nil => rfl
  | cons p l ih =>
    obtain ⟨k', e'⟩ := p
    simp only [mergeK, look_cons]
    by_cases hk : k = k'
    · subst hk
      split
      · rename_i v w h1 h2
        rw [look_cons, if_pos rfl, if_pos rfl]
        simp only [h1, h2, Option.map_some]
      · rename_i hne
        rw [look_cons, if_pos rfl, if_pos rfl]
        simp only [Option.map_some]
    · split
      · rw [look_cons, if_neg hk, if_neg hk]; exact ih
      · rw [look_cons, if_neg hk, if_neg hk]; exact ih

/-- Two ways meet again. -/
theorem rel_merge {b : Bool} {d1 d2 : Env A} {a : Act} {w : World} (h : Rel c n w0 S0 (fun k => look k ((if b then d1 else d2) ++ (base ++ F))) a w) : Rel c n w0 S0 (fun k => look k (mergeD b base d1 d2 ++ (base ++ F))) a w := by
  obtain ⟨S, σ, hR⟩ := h
  have key : ∀ k g v, look k (mergeD b base d1 d2 ++ (base ++ F)) = some (g, v) → v.isJunk = false →
      ∃ g3 v3, look k ((if b then d1 else d2) ++ (base ++ F)) = some (g3, v3) ∧ v3.isJunk = false ∧ ((g3, v3) = (g, v) ∨ (g3 = [] ∧ g = [] ∧ ∀ x, Den c S σ w v3 x → Den c S σ w v x)) := by
    intro k g v he hj
    rw [look_append, mergeD, look_mergeK] at he
    cases hl : look k (d1 ++ d2) with
    | none =>
      rw [hl, Option.map_none, Option.none_or] at he
      rw [look_append] at hl
      have h1 : look k d1 = none := by cases h : look k d1 <;> simp [h] at hl ⊢
      have h2 : look k d2 = none := by rw [h1, Option.none_or] at hl; exact hl
      refine ⟨g, v, ?_, hj, .inl rfl⟩
      rw [look_append]
      cases b <;> simp [h1, h2, he]
    | some e0 =>
      rw [hl] at he
      simp only [Option.map_some, Option.some_or, Option.some.injEq] at he
      split at he
      · rename_i v1 v2 h1 h2
        cases he
        have up : ∀ {d : Env A} {e}, look k (d ++ base) = some e → look k (d ++ (base ++ F)) = some e := by
          intro d e h
          rw [← List.append_assoc, look_append, h]; rfl
        cases b
        · exact ⟨[], v2, by simpa using up h2, (merge_junk hj).2, .inr ⟨rfl, rfl, fun x hx => Den.merge (by simpa using hx)⟩⟩
        · exact ⟨[], v1, by simpa using up h1, (merge_junk hj).1, .inr ⟨rfl, rfl, fun x hx => Den.merge (by simpa using hx)⟩⟩
      · cases he; cases hj
  refine ⟨S, σ, {
    defers := hR.defers
    size := hR.size
    below := hR.below
    s0 := hR.s0
    sNew := hR.sNew
    sLt := hR.sLt
    slot := fun i g v hv hj => by
      obtain ⟨g3, v3, h1, h2, h3⟩ := key _ _ _ hv hj
      have := hR.slot i g3 v3 h1 h2
      rcases h3 with h3 | ⟨rfl, rfl, h3⟩
      · cases h3; exact this
      · exact ⟨this.1, fun hg => h3 _ (this.2.1 hg), this.2.2⟩
    cell := fun id off g v hv hj => by
      obtain ⟨g3, v3, h1, h2, h3⟩ := key _ _ _ hv hj
      have := hR.cell id off g3 v3 h1 h2
      rcases h3 with h3 | ⟨rfl, rfl, h3⟩
      · cases h3; exact this
      · obtain ⟨⟨x, hx, hd⟩, r⟩ := this
        exact ⟨⟨x, hx, h3 x hd⟩, r⟩
    dist := fun i j hi hj he => by
      have up : ∀ i, live (fun k => look k (mergeD b base d1 d2 ++ (base ++ F))) i → live (fun k => look k ((if b then d1 else d2) ++ (base ++ F))) i := by
        rintro i ⟨o, g, v, hv, hj⟩
        obtain ⟨g3, v3, h1, h2, _⟩ := key _ _ _ hv hj
        exact ⟨o, g3, v3, h1, h2⟩
      exact hR.dist i j (up i hi) (up j hj) he }⟩

theorem clear_look {k : K} : ∀ {E : Env A}, look k (clear E) = (look k E).map fun e => match e.1 with | [] => ([], e.2) | _ => ([], .junk)
  | [] => rfl
  | (k', g, v) :: E => by
    cases g with
    | nil =>
      simp only [clear, look_cons]
      split
      · rfl
      · exact clear_look
    | cons q g =>
      simp only [clear, look_cons]
      split
      · rfl
      · exact clear_look

theorem rel_clear {d : Env A} {a : Act} {w : World} (h : Rel c n w0 S0 (fun k => look k (d ++ base)) a w) : Rel c n w0 S0 (fun k => look k (clear d ++ base)) a w := by
  refine h.sub fun k g v hv hj => ?_
  rw [look_append, clear_look] at hv
  show look k (d ++ base) = some (g, v)
  rw [look_append]
  cases hl : look k d with
  | none => rw [hl] at hv; simpa using hv
  | some e' =>
    obtain ⟨g', v'⟩ := e'
    rw [hl] at hv
    cases g' with
    | nil => simpa using hv
    | cons q g' =>
      simp only [Option.map_some, Option.some_or, Option.some.injEq, Prod.mk.injEq] at hv
      obtain ⟨_, rfl⟩ := hv
      cases hj

theorem join_ok {b : Bool} {t e : Tr A} {Q : Exit → Act → World → Prop} (hv : (Tr.join base b t e).vc)
    (hp : (Tr.join base b t e).post fun e d => ∀ a w, Rel c n w0 S0 (fun k => look k (d ++ (base ++ F))) a w → Q e.to a w) :
    (b = true → t.vc ∧ t.post fun e d => ∀ a w, Rel c n w0 S0 (fun k => look k (d ++ (base ++ F))) a w → Q e.to a w) ∧
    (b = false → e.vc ∧ e.post fun e d => ∀ a w, Rel c n w0 S0 (fun k => look k (d ++ (base ++ F))) a w → Q e.to a w) := by
  have m1 : ∀ {d1 d2 : Env A}, (∀ a w, Rel c n w0 S0 (fun k => look k (mergeD b base d1 d2 ++ (base ++ F))) a w → Q .normal a w) → b = true → ∀ a w, Rel c n w0 S0 (fun k => look k (d1 ++ (base ++ F))) a w → Q .normal a w := by
    intro d1 d2 h hb a w hR
    subst hb
    exact h a w (rel_merge (by simpa using hR))
  have m2 : ∀ {d1 d2 : Env A}, (∀ a w, Rel c n w0 S0 (fun k => look k (mergeD b base d1 d2 ++ (base ++ F))) a w → Q .normal a w) → b = false → ∀ a w, Rel c n w0 S0 (fun k => look k (d2 ++ (base ++ F))) a w → Q .normal a w := by
    intro d1 d2 h hb a w hR
    subst hb
    exact h a w (rel_merge (by simpa using hR))
  unfold Tr.join at hv hp
  split at hv
  · exact ⟨fun hb => ⟨trivial, m1 hp hb⟩, fun hb => ⟨trivial, m2 hp hb⟩⟩
  · exact ⟨fun hb => ⟨⟨hv.1 hb, trivial⟩, m1 hp hb⟩, fun hb => ⟨trivial, m2 hp hb⟩⟩
  · exact ⟨fun hb => ⟨trivial, m1 hp hb⟩, fun hb => ⟨⟨hv.1 hb, trivial⟩, m2 hp hb⟩⟩
  · exact ⟨fun hb => ⟨⟨hv.1.1 hb, trivial⟩, m1 hp hb⟩, fun hb => ⟨⟨hv.1.2 hb, trivial⟩, m2 hp hb⟩⟩
  · simp only [Tr.post] at hp
    exact ⟨fun hb => ⟨hv.1 hb, hp.1 hb⟩, fun hb => ⟨hv.2 hb, hp.2 hb⟩⟩

theorem collapse_ok {Q : Exit → Act → World → Prop} : ∀ {t : Tr A}, (t.collapse base).vc → (t.collapse base).post (fun e d => ∀ a w, Rel c n w0 S0 (fun k => look k (d ++ (base ++ F))) a w → Q e.to a w) →
    t.vc ∧ t.post fun e d => ∀ a w, Rel c n w0 S0 (fun k => look k (d ++ (base ++ F))) a w → Q e.to a w
  | .leaf _ _, h, h' => ⟨h, h'⟩
  | .fail, h, _ => h.elim
  | .req ps t, h, h' => by
    obtain ⟨h1, h2⟩ := Tr.rq_vc h
    have := collapse_ok (t := t) h2 (Tr.rq_post.1 h')
    exact ⟨⟨h1, this.1⟩, this.2⟩
  | .node b t e, h, h' => by
    obtain ⟨h1, h2⟩ := join_ok h h'
    exact ⟨⟨fun hb => (collapse_ok (h1 hb).1 (h1 hb).2).1, fun hb => (collapse_ok (h2 hb).1 (h2 hb).2).1⟩, fun hb => (collapse_ok (h1 hb).1 (h1 hb).2).2, fun hb => (collapse_ok (h2 hb).1 (h2 hb).2).2⟩

/-- What is said of a loop is so. -/
def LoopOk (c : Cfg A) (n : Nat) (w0 : World) (S0 : Nat → Prop) (loop : Nat → Env A → Tr A) (key : Nat) (body : Code) : Prop :=
  ∀ (E F : Env A) (Q : Exit → Act → World → Prop) (a : Act) (w : World), codeAvoids F body = true → Rel c n w0 S0 (fun k => look k (E ++ F)) a w → (loop key E).vc →
    (loop key E).post (fun e d => ∀ a w, Rel c n w0 S0 (fun k => look k (d ++ (E ++ F))) a w → Q e.to a w) → (Code.loop body).wp c.P Q a w

theorem ev_ok (hc : CfgOk c) (hm : c.P.follows .mixedOrders = true) {loop : Nat → Env A → Tr A} : ∀ (x : Code) (key : Nat) (base d : Env A) (Q : Exit → Act → World → Prop) (a : Act) (w : World),
    (∀ p ∈ loopsOf key x, LoopOk c n w0 S0 loop p.1 p.2) → codeAvoids F x = true → Rel c n w0 S0 (fun k => look k (d ++ (base ++ F))) a w → (ev c n loop key x base d).vc →
    ((ev c n loop key x base d).post fun e d' => ∀ a w, Rel c n w0 S0 (fun k => look k (d' ++ (base ++ F))) a w → Q e.to a w) → x.wp c.P Q a w := by
  intro x
  induction x with
  | skip => intro key base d Q a w _ hF hR _ hp; exact wp_skip (hp a w hR)
  | label l => intro key base d Q a w _ hF hR _ hp; exact wp_label (hp a w hR)
  | exit id => intro key base d Q a w _ hF hR _ hp; exact wp_exit (hp a w hR)
  | ret => intro key base d Q a w _ hF hR _ hp; exact wp_ret (hp a w hR)
  | goto l => intro key base d Q a w _ hF hR hv; exact hv.elim
  | refuse y => intro key base d Q a w _ hF hR hv; exact hv.elim
  | rangeFunc f ps x y => intro key base d Q a w _ hF hR hv; exact hv.elim
  | region id ops draw =>
    intro key base d Q a w _ hF hR hv hp
    cases draw with
    | false =>
      simp only [ev] at hv hp
      cases hs : evSeq c n base ops.toList ops.toList d with
      | some r =>
        obtain ⟨d', ps⟩ := r
        rw [hs] at hv hp
        simp only at hv hp
        obtain ⟨h1, _⟩ := Tr.rq_vc hv
        have h2 := Tr.rq_post.1 hp
        refine wp_region ?_
        have := seq_ok hc (Q := Q) (ops := ops) ops.toList 0 d d' ps a w (fun j => by simp) (opsAvoid_mem hF) hs h1 hR (fun a' w' hR' => h2 a' w' (rel_clear hR'))
        rw [List.range_eq_range']
        simpa using this
      | none => rw [hs] at hv; exact hv.elim
    | true =>
      simp only [ev] at hv hp
      cases hs : evDraw c n (d ++ base) ops.toList (clAll ops.toList []) ops.toList [] with
      | some r =>
        obtain ⟨full, ps⟩ := r
        rw [hs] at hv hp
        simp only at hv hp
        obtain ⟨h1, _⟩ := Tr.rq_vc hv
        have h2 := Tr.rq_post.1 hp
        obtain ⟨hg, hlen⟩ := evDraw_good (ops := ops) ops.toList [] full ps (fun j => by simp) trivial hs h1
        have hlen' : full.length = ops.size := by simpa using hlen
        refine wp_region_any hm (draw_ok (w0 := w0) (S0 := S0) (F := F) hc (opsAvoid_mem hF) hg hlen' (fun a' w' hR' => ?_) _ _ a _ (by simp) (by
          have := List.length_filter_le (fun i => !((Array.replicate ops.size false).getD i false)) (List.range ops.size)
          simpa using this) ?_ ?_)
        · have := rel_clear hR'
          exact h2 a' w' (by simpa [List.append_assoc] using this)
        · intro pre r acc he hp' i hi
          by_cases hlt : acc.length < ops.size <;> simp [hlt] at hp'
        · have e : gatherP (fun i => (Array.replicate ops.size false).getD i false) full = [] := by
            have : ∀ l : List (Rc A), gatherP (fun i => (Array.replicate ops.size false).getD i false) l = [] := by
              intro l
              induction l with
              | nil => rfl
              | cons r l ih =>
                have hf : (Array.replicate ops.size false).getD l.length false = false := by
                  by_cases hlt : l.length < ops.size <;> simp [hlt]
                simp only [gatherP, hf]
                exact ih
            exact this full
          rw [e]
          obtain ⟨S, σ, hr⟩ := hR
          rw [List.nil_append, List.append_assoc]
          have := hr.grow hc (w' := { w with drawn := w.drawn + 1 }) (S' := S) ⟨rfl, rfl, rfl, Nat.le_refl _, fun _ _ => rfl⟩ (fun _ h => h) (fun _ h => .inl h)
          exact ⟨S, σ, this⟩
      | none => rw [hs] at hv; exact hv.elim
  | seq x y ihx ihy =>
    intro key base d Q a w hl hF hR hv hp
    simp only [ev] at hv hp
    obtain ⟨v1, v2⟩ := Tr.bind_vc hv
    have p1 := Tr.bind_post hp
    simp only [codeAvoids, Bool.and_eq_true] at hF
    refine wp_seq (ihx key base d _ a w (fun p hp => hl p (by simp [loopsOf, hp])) hF.1 hR v1 ?_)
    refine Tr.post_mono (fun e d' h => ?_) (Tr.post_and v2 p1)
    cases e with
    | normal => exact fun a' w' hR' => ihy key base d' Q a' w' (fun p hp => hl p (by simp [loopsOf, hp])) hF.2 hR' h.1 h.2
    | ret => exact fun a' w' hR' => h.2 a' w' hR'
    | exit id => exact fun a' w' hR' => h.2 a' w' hR'
  | cond x t e iht ihe =>
    intro key base d Q a w hl hF hR hv hp
    simp only [ev] at hv hp
    split at hv
    · rename_i b hb
      simp only [hb] at hp
      have v1 := Tr.ext_vc hv
      have p1 := Tr.ext_post hp
      have p2 : (Tr.join (d ++ base) b (ev c n loop key t (d ++ base) []) (ev c n loop key e (d ++ base) [])).post fun e δ => ∀ a w, Rel c n w0 S0 (fun k => look k (δ ++ ((d ++ base) ++ F))) a w → Q e.to a w := by
        refine Tr.post_mono (fun e δ h a' w' hR' => h a' w' ?_) p1
        simpa [List.append_assoc] using hR'
      obtain ⟨j1, j2⟩ := join_ok v1 p2
      simp only [codeAvoids, Bool.and_eq_true] at hF
      have hRn : Rel c n w0 S0 (fun k => look k ([] ++ ((d ++ base) ++ F))) a w := by simpa [List.append_assoc] using hR
      obtain ⟨S, σ, hr⟩ := hR
      have hbd := (opv_den hr (E := d ++ base) (fun k e h => by rw [← List.append_assoc, look_append, h]; rfl) (g := []) (fun p hp => by cases hp) hb).of_bool
      refine wp_cond_split hbd (fun h => ?_) (fun h => ?_)
      · exact iht key (d ++ base) [] Q a w (fun p hp => hl p (by simp [loopsOf, hp])) hF.1 hRn (j1 h).1 (j1 h).2
      · exact ihe key (d ++ base) [] Q a w (fun p hp => hl p (by simp [loopsOf, hp])) hF.2 hRn (j2 h).1 (j2 h).2
    · exact hv.elim
  | block id x ih =>
    intro key base d Q a w hl hF hR hv hp
    simp only [ev] at hv hp
    have v1 := Tr.ext_vc hv
    have p1 := Tr.ext_post hp
    have p2 : (((ev c n loop id x (d ++ base) []).unblock id).collapse (d ++ base)).post fun e δ => ∀ a w, Rel c n w0 S0 (fun k => look k (δ ++ ((d ++ base) ++ F))) a w → Q e.to a w := by
      refine Tr.post_mono (fun e δ h a' w' hR' => h a' w' ?_) p1
      simpa [List.append_assoc] using hR'
    obtain ⟨v3, p3⟩ := collapse_ok v1 p2
    have v4 := Tr.unblock_vc v3
    have p4 := Tr.unblock_post p3
    refine wp_block (ih id (d ++ base) [] _ a w (fun p hp => hl p (by simpa [loopsOf] using hp)) hF (by simpa [List.append_assoc] using hR) v4 ?_)
    refine Tr.post_mono (fun e δ h a' w' hR' => ?_) p4
    have := h a' w' hR'
    cases e with
    | normal => exact this
    | ret => exact this
    | exit id' =>
      by_cases he : id' = id
      · subst he; simpa [Ex.to, Exit.inBlock] using this
      · simpa [Ex.to, Exit.inBlock, he] using this
  | loop x _ =>
    intro key base d Q a w hl hF hR hv hp
    simp only [ev] at hv hp
    have v1 := Tr.ext_vc hv
    have p1 := Tr.ext_post hp
    refine hl (key, x) (by simp [loopsOf]) (d ++ base) F Q a w hF (by simpa [List.append_assoc] using hR) v1 (Tr.post_mono (fun e δ h a' w' hR' => h a' w' ?_) p1)
    simpa [List.append_assoc] using hR'
  | scope x ih =>
    intro key base d Q a w hl hF hR hv hp
    simp only [ev] at hv hp
    refine wp_scope_straight (ih key base d _ a w (fun p hp => hl p (by simpa [loopsOf] using hp)) hF hR hv ?_)
    refine Tr.post_mono (fun e δ h a' w' hR' => ?_) hp
    have := h a' w' hR'
    cases e <;> exact this

end
end Vm
