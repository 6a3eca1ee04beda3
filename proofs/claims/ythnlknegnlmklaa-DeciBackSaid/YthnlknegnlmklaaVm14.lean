/-
  What a call is handed by a statement's frame are data that the interpreter knows; and a function that answers true to whatever it is handed.
-/
import Derived.Test.YthnlknegnlmklaaVm13
import Derived.Deep.Slices
import Derived.ChangeOld
import Derived.Carry
import Derived.OpenShut
import Derived.ShutString
set_option linter.all false
namespace Vm
open Go Go.RowKit Go.ChangeShapes Go.WideShapes
variable {A : Nat → Type}

/-- A number is one of its kind's. -/
def inr (k : IntKind) (n : Int) : Prop := k.min ≤ n ∧ n ≤ k.max

theorem inr_of_wf {k : IntKind} {n : Int} (h : (Lit.int k n).wf = true) : inr k n := by
  have : k.min ≤ n ∧ n ≤ k.max := by simpa [Lit.wf] using h
  exact this

theorem cell_lt {w : World} {a : Addr} {v : Value} (h : w.cell? a = some v) : a.block < w.heap.size := by
  by_cases hb : a.block < w.heap.size
  · exact hb
  · exfalso
    have : w.heap[a.block]? = none := by simp; omega
    simp [World.cell?, this] at h

/-- The memory that was there to begin with. -/
def oldW (w : World) : Fz := fun f b => f = false ∧ b < w.heap.size

theorem frs_false (v : V A) : frs false v = v := by cases v <;> rfl

theorem encF_false (c : Cfg A) (t : Nat) (a : A t) : encF c t false a = c.C.enc t a := by
  have : ∀ l : List (V A), mapV (frs false) l = l := by
    intro l
    induction l with
    | nil => rfl
    | cons v l ih => simp [mapV, frs_false, ih]
  exact this _

/-- Cells of the type t, if they can be read, are a T's. -/
structure Read (c : Cfg A) (t : Nat) (T : Type) (f : T → List (V A)) (good : T → Prop) : Prop where
  get : ∀ {H : Type} (en : TypeId × Value → H) (w : World) (spare : Nat → Bool) (held : Bool) (fuel : Nat) (cs : List Value) (x : DataW H × List MemPlace),
    DataW.trod en c.P w 0 spare held fuel t cs = some x → ∃ a : T, good a ∧ cs.length = (f a).length ∧
      ∀ σ i (hi : i < (f a).length), Den c (oldW w) σ w (f a)[i] (cs.getD i undef)

theorem Read.map {c : Cfg A} {t : Nat} {T T' : Type} {f : T → List (V A)} {f' : T' → List (V A)} {good : T → Prop} {good' : T' → Prop} (h : Read c t T f good) (φ : T → T') (hf : ∀ a, f' (φ a) = f a) (hg : ∀ a, good a → good' (φ a)) :
    Read c t T' f' good' := by
  refine ⟨fun {H} en w spare held fuel cs x hx => ?_⟩
  obtain ⟨a, h1, h2, h3⟩ := h.get en w spare held fuel cs x hx
  refine ⟨φ a, hg a h1, by rw [hf]; exact h2, fun σ i hi => ?_⟩
  have := h3 σ i (by rw [hf] at hi; exact hi)
  simpa only [hf] using this

theorem Read.same {c c' : Cfg A} (hP : c'.P = c.P) (hty : c'.ty = c.ty) (hC : c'.C = c.C) {t : Nat} {T : Type} {f : T → List (V A)} {good : T → Prop} (h : Read c t T f good) : Read c' t T f good := by
  refine ⟨fun {H} en w spare held fuel cs x hx => ?_⟩
  rw [hP] at hx
  obtain ⟨a, h1, h2, h3⟩ := h.get en w spare held fuel cs x hx
  exact ⟨a, h1, h2, fun σ i hi => (h3 σ i hi).same hty hC⟩

theorem read_int {c : Cfg A} {t : Nat} {k : IntKind} (ht : c.P.underlying t = some (.int k)) : Read c t Int (fun n => [.int k n]) (inr k) := by
  refine ⟨fun {H} en w spare held fuel cs x hx => ?_⟩
  obtain ⟨n, rfl, _, hw⟩ := DataW.trod_int ht hx
  refine ⟨n, inr_of_wf hw, rfl, fun σ i hi => ?_⟩
  have : i = 0 := by simp at hi; omega
  subst this
  exact .int k n

theorem read_bool {c : Cfg A} {t : Nat} (ht : c.P.underlying t = some .bool) : Read c t Bool (fun b => [.bool b]) (fun _ => True) := by
  refine ⟨fun {H} en w spare held fuel cs x hx => ?_⟩
  obtain ⟨b, rfl, _⟩ := DataW.trod_bool ht hx
  refine ⟨b, trivial, rfl, fun σ i hi => ?_⟩
  have : i = 0 := by simp at hi; omega
  subst this
  exact .bool b

theorem read_str {c : Cfg A} {t : Nat} (ht : c.P.underlying t = some .string) : Read c t ByteArray (fun s => [.str s]) (fun s => s.size ≤ maxLen) := by
  refine ⟨fun {H} en w spare held fuel cs x hx => ?_⟩
  obtain ⟨s, rfl, _, hs⟩ := DataW.trod_string ht hx
  refine ⟨s, hs, rfl, fun σ i hi => ?_⟩
  have : i = 0 := by simp at hi; omega
  subst this
  exact .str s

theorem read_slice {c : Cfg A} {t e : Nat} {good : A e → Prop} (ht : c.P.underlying t = some (.slice e)) (hs : c.P.cellsOf e = (c.ty e).size) (h0 : (c.ty e).size ≠ 0) (h : Read c e (A e) (c.C.enc e) good) :
    Read c t (List (A e)) (fun l => [.list e false l]) (fun l => (∀ a ∈ l, good a) ∧ l.length ≤ maxLen) := by
  refine ⟨fun {H} en w spare held fuel cs x hx => ?_⟩
  rcases Deep.open_slice ht hx with ⟨rfl, _⟩ | ⟨a, len, cap, m, n, D, Pl, rfl, hb, hl, hm, hmm, _, hel⟩
  · refine ⟨[], ⟨fun a ha => absurd ha (by simp), Nat.zero_le _⟩, rfl, fun σ i hi => ?_⟩
    have : i = 0 := by simp at hi; omega
    subst this
    exact den_nil _ _
  · have hlm : len ≤ m := by rw [hmm]; split <;> omega
    have hall : ∀ i, i < len → ∃ p : A e × List Value, good p.1 ∧ w.cells? 0 (a.add (i * c.P.cellsOf e)) (c.P.cellsOf e) = some p.2 ∧ p.2.length = (c.C.enc e p.1).length ∧
        ∀ σ q (hq : q < (c.C.enc e p.1).length), Den c (oldW w) σ w (c.C.enc e p.1)[q] (p.2.getD q undef) := by
      intro i hi
      obtain ⟨cs', h1, h2⟩ := hel i (by omega)
      obtain ⟨b, g1, g2, g3⟩ := h.get en w spare held n cs' _ h2
      exact ⟨(b, cs'), g1, h1, g2, g3⟩
    haveI : Inhabited (A e × List Value) := ⟨(c.C.dft e, [])⟩
    obtain ⟨F, hF⟩ := Deep.choose_lt (p := fun i (p : A e × List Value) => good p.1 ∧ w.cells? 0 (a.add (i * c.P.cellsOf e)) (c.P.cellsOf e) = some p.2 ∧ p.2.length = (c.C.enc e p.1).length ∧
        ∀ σ q (hq : q < (c.C.enc e p.1).length), Den c (oldW w) σ w (c.C.enc e p.1)[q] (p.2.getD q undef)) hall
    have hcell : ∀ i, i < len → ∀ q, q < (c.ty e).size → w.cell? (a.add (i * (c.ty e).size + q)) = some ((F i).2.getD q undef) := by
      intro i hi q hq
      obtain ⟨_, h1, _, _⟩ := hF i hi
      obtain ⟨_, hlen, hc⟩ := World.cells?_some h1
      rw [hs] at hc hlen
      have := hc q hq
      rw [Deep.add_add] at this
      rw [this, List.getD_eq_getElem?_getD, List.getElem?_eq_getElem (by omega)]
      rfl
    refine ⟨(List.range len).map fun i => (F i).1, ⟨fun b hb => ?_, by simp; omega⟩, rfl, fun σ i hi => ?_⟩
    · obtain ⟨i, hi, rfl⟩ := List.mem_map.1 hb
      exact (hF i (List.mem_range.1 hi)).1
    · have : i = 0 := by simp at hi; omega
      subst this
      have hll : ((List.range len).map fun i => (F i).1).length = len := by simp
      have := Den.list (c := c) (S := oldW w) (σ := σ) (w := w) e false ((List.range len).map fun i => (F i).1) (some a) cap a (fun j q => (F j).2.getD q undef)
        (fun _ => rfl) (by rw [hll]; exact hl) (fun hne => ?_) (fun _ => h0) (fun j hj => ?_) (fun j q hj hq => hcell j (by rwa [hll] at hj) q hq) (fun j q hj hq => ?_)
      · rw [hll] at this; exact this
      · have h1 : 0 < len := by
          rcases Nat.eq_zero_or_pos len with h | h
          · subst h; exact absurd rfl hne
          · exact h
        have := cell_lt (hcell 0 h1 0 (by omega))
        rw [add_block] at this
        exact ⟨rfl, this⟩
      · rw [hll] at hj
        obtain ⟨_, h1, h2, _⟩ := hF j hj
        obtain ⟨_, hlen, _⟩ := World.cells?_some h1
        simp only [List.getElem_map, List.getElem_range]
        rw [← h2, hlen, hs]
      · rw [hll] at hj
        simp only [encF_false, List.getElem_map, List.getElem_range] at hq ⊢
        exact (hF j hj).2.2.2 σ q hq

/-- Fields from the offset o on. -/
structure ReadFs (c : Cfg A) (o : Nat) (fs : List (Nat × Nat)) (n : Nat) (T : Type) (f : T → List (V A)) (good : T → Prop) : Prop where
  get : ∀ {H : Type} (en : TypeId × Value → H) (w : World) (spare : Nat → Bool) (held : Bool) (fuel : Nat) (cs : List Value), o + n ≤ cs.length →
    (∀ p ∈ fs, ∃ x, DataW.trod en c.P w 0 spare held fuel p.2 ((cs.drop p.1).take (c.P.cellsOf p.2)) = some x) → ∃ a : T, good a ∧ (f a).length = n ∧
      ∀ σ i (hi : i < (f a).length), Den c (oldW w) σ w (f a)[i] (cs.getD (o + i) undef)

theorem ReadFs.nil {c : Cfg A} {o : Nat} : ReadFs c o [] 0 Unit (fun _ => []) (fun _ => True) :=
  ⟨fun _ _ _ _ _ _ _ _ => ⟨(), trivial, rfl, fun _ i hi => absurd hi (Nat.not_lt_zero _)⟩⟩

theorem ReadFs.cons {c : Cfg A} {o t s : Nat} {fs : List (Nat × Nat)} {n : Nat} {T1 T2 : Type} {f1 : T1 → List (V A)} {f2 : T2 → List (V A)} {g1 : T1 → Prop} {g2 : T2 → Prop} (hs : c.P.cellsOf t = s) (h1 : Read c t T1 f1 g1) (h2 : ReadFs c (o + s) fs n T2 f2 g2) :
    ReadFs c o ((o, t) :: fs) (s + n) (T1 × T2) (fun a => f1 a.1 ++ f2 a.2) (fun a => g1 a.1 ∧ g2 a.2) := by
  refine ⟨fun {H} en w spare held fuel cs hl hall => ?_⟩
  obtain ⟨x, hx⟩ := hall (o, t) (List.mem_cons_self ..)
  obtain ⟨a, ga, la, da⟩ := h1.get en w spare held fuel _ x hx
  obtain ⟨b, gb, lb, db⟩ := h2.get en w spare held fuel cs (by omega) (fun p hp => hall p (List.mem_cons_of_mem _ hp))
  have la' : (f1 a).length = s := by rw [← la, hs]; simp; omega
  refine ⟨(a, b), ⟨ga, gb⟩, by simp [la', lb], fun σ i hi => ?_⟩
  simp only [List.getElem_append]
  split
  · rename_i hi1
    have := da σ i hi1
    have e : ((cs.drop o).take (c.P.cellsOf t)).getD i undef = cs.getD (o + i) undef := by
      simp only [List.getD_eq_getElem?_getD, List.getElem?_take, List.getElem?_drop]
      rw [if_pos (by omega)]
    rwa [e] at this
  · rename_i hi1
    have := db σ (i - (f1 a).length) (by simp at hi; omega)
    have e : o + s + (i - (f1 a).length) = o + i := by omega
    rwa [e] at this

theorem read_struct {c : Cfg A} {t n : Nat} {fs : Array Field} {l : List (Nat × Nat)} {T : Type} {f : T → List (V A)} {good : T → Prop} (ht : c.P.underlying t = some (.struct fs)) (hl : fs.toList.map (fun f => (f.offset, f.type)) = l)
    (hn : c.P.cellsOf t = n) (h : ReadFs c 0 l n T f good) : Read c t T f good := by
  refine ⟨fun {H} en w spare held fuel cs x hx => ?_⟩
  obtain ⟨xs, m, rfl, _, hlen, hxl, hel⟩ := DataW.trod_struct ht hx
  obtain ⟨a, ga, la, da⟩ := h.get en w spare held m cs (by omega) (by
    intro p hp
    rw [← hl] at hp
    obtain ⟨fd, hfd, rfl⟩ := List.mem_map.1 hp
    obtain ⟨i, hi, rfl⟩ := List.mem_iff_getElem.1 hfd
    have hi' : i < fs.size := by simpa using hi
    have := hel i fs[i] (by simp)
    rw [List.getElem?_eq_getElem (by omega)] at this
    exact ⟨_, this⟩)
  exact ⟨a, ga, by omega, fun σ i hi => by simpa using da σ i hi⟩

/-- Values one by one. -/
inductive DenL (c : Cfg A) (S : Fz) (σ : Nat → Loc) (w : World) : List (V A) → List Value → Prop
  | nil : DenL c S σ w [] []
  | cons {v : V A} {x : Value} {vs : List (V A)} {xs : List Value} (h : Den c S σ w v x) (hs : DenL c S σ w vs xs) : DenL c S σ w (v :: vs) (x :: xs)

theorem DenL.get {c : Cfg A} {S : Fz} {σ : Nat → Loc} {w : World} {vs : List (V A)} {xs : List Value} (h : DenL c S σ w vs xs) : xs.length = vs.length ∧ ∀ i (hi : i < vs.length), Den c S σ w vs[i] (xs.getD i undef) := by
  induction h with
  | nil => exact ⟨rfl, fun i hi => absurd hi (Nat.not_lt_zero _)⟩
  | cons h hs ih =>
    refine ⟨by simp [ih.1], fun i hi => ?_⟩
    cases i with
    | zero => exact h
    | succ i => exact ih.2 i (by simpa using hi)

theorem arg_one {c : Cfg A} {t : Nat} {T : Type} {g : T → V A} {good : T → Prop} (h : Read c t T (fun a => [g a]) good) {H : Type} {en : TypeId × Value → H} {P : Program} (hP : P = c.P) {w : World} {spare : Nat → Bool} {held : Bool} {v : Value} {d : DataW H} {ps : List MemPlace}
    (hd : DataW.Trod en P w 0 spare held t v d ps) (hv : v.cells = #[v]) : ∃ a, good a ∧ ∀ σ, Den c (oldW w) σ w (g a) v := by
  subst hP
  obtain ⟨fuel, hf⟩ := hd
  rw [hv] at hf
  obtain ⟨a, ga, _, da⟩ := h.get en w spare held fuel _ _ hf
  exact ⟨a, ga, fun σ => da σ 0 (by simp)⟩

theorem arg_agg {c : Cfg A} {t : Nat} {T : Type} {f : T → List (V A)} {good : T → Prop} (h : Read c t T f good) {H : Type} {en : TypeId × Value → H} {P : Program} (hP : P = c.P) {w : World} {spare : Nat → Bool} {held : Bool} {xs : Array Value} {d : DataW H} {ps : List MemPlace}
    (hd : DataW.Trod en P w 0 spare held t (.agg xs) d ps) : ∃ a, good a ∧ ∀ σ, Den c (oldW w) σ w (.agg (f a)) (.agg xs) := by
  subst hP
  obtain ⟨fuel, hf⟩ := hd
  obtain ⟨a, ga, la, da⟩ := h.get en w spare held fuel _ _ hf
  have hl : xs.size = (f a).length := by simpa [Value.cells] using la
  refine ⟨a, ga, fun σ => .agg _ _ hl fun i hi => ?_⟩
  simpa [Value.cells] using da σ i hi

/-- A function that answers true. -/
theorem law_calls {c : Cfg A} {f : Nat} {vs : List (V A)} (h : CallOk c f vs (.bool true) []) {P : Program} (hP : P = c.P) {w : World} (hI : c.inv (fun b => b < w.heap.size) w) {xs : Array Value} (hd : DenL c (oldW w) (fun _ => ⟨0, 0, 0, none⟩) w vs xs.toList) :
    Calls P f xs w fun e w' => e = .returned (.bool true) ∧ Below w.heap.size w w' := by
  subst hP
  have hnr : ∀ (i : Nat) (cs : List (V A)), vs[i]? ≠ some (.ref cs) := fun i cs hi => by
    obtain ⟨hlt, he⟩ := List.getElem?_eq_some_iff.1 hi
    have := hd.get.2 i hlt
    rw [he] at this
    cases this
  refine (h w (oldW w) (fun _ => ⟨0, 0, 0, none⟩) (fun _ => 0) xs (fun _ h => by cases h.1) (fun _ h => h.2) ((funext fun b => propext ⟨fun h => ⟨rfl, h⟩, fun h => h.2⟩ : (fun b => b < w.heap.size) = oldW w false) ▸ hI) ⟨by simpa using hd.get.1, fun i hi => ?_, fun i j cs ds hi => absurd hi (hnr i cs)⟩).mono ?_
  · have := hd.get.2 i hi
    have hn := hnr i
    rw [List.getElem?_eq_getElem hi] at hn
    rw [show xs.toList.getD i undef = xs.getD i undef by simp] at this
    revert this hn
    generalize vs[i] = u
    intro this hn
    cases u <;> first | exact this | exact absurd rfl (hn _)
  · rintro e w' ⟨x, rfl, hb, S', _, _, hx, _⟩
    have hx : Den c S' _ w' (.bool true) x := hx
    cases hx
    refine ⟨rfl, hb.toBelow fun b o => ?_⟩
    rintro ⟨i, cs, hi, _⟩
    exact hnr i cs hi

/-- Rounds that are counted. -/
theorem Runs.count {X Y : Type} {step : X → X ⊕ Y} {vcs : X → Prop} (n : Nat) (x : Nat → X) (y : Y) (h : ∀ i, i < n → vcs (x i) ∧ step (x i) = .inl (x (i + 1))) (hl : vcs (x n) ∧ step (x n) = .inr y) : Runs step vcs (x 0) y := by
  induction n generalizing x with
  | zero => exact .done _ _ hl.1 hl.2
  | succ n ih =>
    obtain ⟨h1, h2⟩ := h 0 (Nat.succ_pos n)
    exact .next _ _ _ h1 h2 (ih (fun i => x (i + 1)) (fun i hi => h (i + 1) (by omega)) hl)

theorem foldl_take {α β : Type} (f : β → α → β) (d : α) (b : β) (l : List α) {i : Nat} (hi : i < l.length) : (l.take (i + 1)).foldl f b = f ((l.take i).foldl f b) (l.getD i d) := by
  rw [List.take_add_one, List.foldl_append, List.getElem?_eq_getElem hi, List.getD_eq_getElem?_getD, List.getElem?_eq_getElem hi]
  rfl

end Vm
