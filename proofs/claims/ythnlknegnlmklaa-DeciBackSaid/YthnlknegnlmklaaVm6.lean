/-
  What the interpreter says of one operation is so: structs and rows that are laid out, slices, indexes.
-/
import Derived.Test.YthnlknegnlmklaaVm5b
set_option linter.all false
namespace Vm
open Go Go.RowKit
variable {A : Nat → Type}

section
variable {c : Cfg A} {S : Fz} {σ : Nat → Loc} {w : World}

theorem DenA.set {cs : List (V A)} {xs : Array Value} (h : DenA c S σ w cs xs) (i : Nat) {v : V A} {x : Value} (hv : Den c S σ w v x) : DenA c S σ w (cs.set i v) (xs.setIfInBounds i x) := by
  refine ⟨by simp [h.1], fun j hj => ?_⟩
  simp only [List.length_set] at hj
  have hj' : j < xs.size := by rw [h.1]; exact hj
  by_cases e : i = j
  · subst e
    rw [List.getElem_set_self, Array.getD_eq_getD_getElem?, Array.getElem?_setIfInBounds_self_of_lt hj']
    exact hv
  · rw [List.getElem_set_ne e, Array.getD_eq_getD_getElem?, Array.getElem?_setIfInBounds_ne e, ← Array.getD_eq_getD_getElem?]
    exact h.2 j hj

theorem setRange_den : ∀ (vc : List (V A)) (ys : List Value) (off k : Nat) (cs : List (V A)) (xs : Array Value), DenA c S σ w cs xs → ys.length = vc.length → (∀ i (hi : i < vc.length), Den c S σ w vc[i] (ys.getD i undef)) →
    DenA c S σ w (setRange cs (off + k) vc) ((ys.zipIdx k).foldl (fun (xs : Array Value) (p : Value × Nat) => xs.setIfInBounds (off + p.2) p.1) xs) := by
  intro vc
  induction vc with
  | nil =>
    intro ys off k cs xs h hl _
    have : ys = [] := by simpa using hl
    subst this
    simpa [setRange] using h
  | cons v vc ih =>
    intro ys off k cs xs h hl hd
    cases ys with
    | nil => simp at hl
    | cons y ys =>
      simp only [setRange, List.zipIdx_cons, List.foldl_cons]
      exact ih ys off (k + 1) _ _ (h.set _ (hd 0 (Nat.zero_lt_succ _))) (by simpa using hl) (fun i hi => hd (i + 1) (Nat.succ_lt_succ hi))

/-- Parts, and what they are. -/
def DenP (c : Cfg A) (S : Fz) (σ : Nat → Loc) (w : World) : List (Nat × V A) → List (Nat × Value) → Prop
  | [], [] => True
  | (i, v) :: vs, (j, x) :: xs => i = j ∧ Den c S σ w v x ∧ DenP c S σ w vs xs
  | _, _ => False

theorem partsOf_den {n : Nat} {w0 : W1} {S0 : Nat → Prop} {lk : K → Option (Ent A)} {a : Act} (hR : RelAt c n w0 S0 S σ lk a w) {E : Env A} (hE : ∀ k e, look k E = some e → lk k = some e)
    {g : Chain} (hg : Holds a g) : ∀ (ps : List (Nat × Operand)) (vs : List (Nat × V A)), partsOf E g ps = some vs → DenP c S σ w vs (ps.map fun (i, x) => (i, a.eval x)) := by
  intro ps
  induction ps with
  | nil => intro vs h; simp only [partsOf, Option.some.injEq] at h; subst h; trivial
  | cons p ps ih =>
    obtain ⟨i, x⟩ := p
    intro vs h
    simp only [partsOf] at h
    split at h
    · rename_i v hv
      split at h
      · rename_i vs' hvs
        cases h
        exact ⟨rfl, opv_den hR hE hg hv, ih vs' hvs⟩
      · cases h
    · cases h

theorem fill_den {pe pm : Nat → Option (Nat × Nat)} (hp : ∀ i p, pe i = some p → pm i = some p) : ∀ (vs : List (Nat × V A)) (ys : List (Nat × Value)) (cs out : List (V A)) (xs : Array Value),
    DenP c S σ w vs ys → DenA c S σ w cs xs → fillParts pe cs vs = some out → ∃ zs, Instr.fill pm xs ys = some zs ∧ DenA c S σ w out zs := by
  intro vs
  induction vs with
  | nil =>
    intro ys cs out xs hP hA h
    cases ys with
    | nil => simp only [fillParts, Option.some.injEq] at h; subst h; exact ⟨xs, rfl, hA⟩
    | cons _ _ => exact hP.elim
  | cons p vs ih =>
    obtain ⟨i, v⟩ := p
    intro ys cs out xs hP hA h
    cases ys with
    | nil => exact hP.elim
    | cons q ys =>
      obtain ⟨j, x⟩ := q
      obtain ⟨rfl, hd, hP'⟩ := hP
      simp only [fillParts] at h
      split at h
      · cases h
      · rename_i off size hpe
        split at h
        · cases h
        · rename_i vc hvc
          split at h
          · rename_i hb
            simp only [Bool.and_eq_true] at hb
            have h1 : vc.length = size := by simpa using hb.1
            have h2 : off + vc.length ≤ cs.length := by simpa using hb.2
            have hdc := cells_den' hvc hd
            have hstep := setRange_den (c := c) (S := S) (σ := σ) (w := w) vc x.cells.toList off 0 cs xs hA (by simp [hdc.1]) (fun i hi => by simpa using hdc.2 i hi)
            obtain ⟨zs, hz, hdz⟩ := ih ys _ out _ hP' hstep h
            refine ⟨zs, ?_, hdz⟩
            simp only [Instr.fill, hp i _ hpe]
            have hno : ¬ (x.cells.size ≠ size ∨ off + x.cells.size > xs.size) := by rw [hdc.1, hA.1]; omega
            rw [if_neg (by simpa using hno)]
            rw [← hz, ← Array.foldl_toList, Array.toList_zipIdx]
          · cases h

theorem run_mapM_fields {P : Program} {w : World} {α β : Type} (g : α → Sem β) (h : α → β) : ∀ l : List α, (∀ f ∈ l, (g f).run P w = .ok (h f) w) → (l.mapM g).run P w = .ok (l.map h) w := by
  intro l
  induction l with
  | nil => intro _; simp
  | cons f l ih =>
    intro hl
    simp [List.mapM_cons, hl f (by simp), ih (fun f hf => hl f (by simp [hf]))]

theorem zeroCells_den {ti : TI} {z : List (V A)} {zv : Value} (hz : ti.zero = some zv) (h : zeroCells ti = some z) : DenA c S σ w z zv.cells := by
  unfold zeroCells at h
  rw [hz] at h
  split at h
  · rename_i cs h1
    cases h1
    cases h
    refine ⟨by simp [Value.cells], fun i hi => ?_⟩
    have hi' : i < cs.size := by simpa using hi
    simp only [List.getElem_map, Array.getElem_toList, Value.cells]
    rw [show cs.getD i undef = cs[i] by simp [hi']]
    exact den_ofCell _
  · rename_i y hne h1
    cases h1
    cases h
    have : zv.cells = #[zv] := by cases zv <;> first | rfl | exact absurd rfl (hne _)
    rw [this]
    exact ⟨rfl, fun i hi => by simp at hi; subst hi; exact den_ofCell _⟩
  · rename_i h1; cases h1

theorem zeroCells_some {ti : TI} {z : List (V A)} (h : zeroCells ti = some z) : ∃ zv, ti.zero = some zv := by
  unfold zeroCells at h
  split at h
  · exact ⟨_, ‹_›⟩
  · exact ⟨_, ‹_›⟩
  · cases h

theorem gives_build (hc : CfgOk c) {t : TypeId} {vs : List (Nat × V A)} {ys : Array (Nat × Value)} {z cs : List (V A)} (hz : zeroCells (c.ty t) = some z)
    (hf : all (fun f => (Nat.beq (c.ty f.2).size 0).not) (c.ty t).fields = true) (hne : (c.ty t).fields ≠ [])
    (hP : DenP c S σ w vs ys.toList) (h : fillParts (fun i => match nth (c.ty t).fields i with
        | some (off, ft) => match Nat.beq (c.ty ft).size 0 with
          | false => some (off, (c.ty ft).size)
          | true => none
        | none => none) z vs = some cs) : Gives c S σ w (Instr.build t ys) (.agg (fitCells (c.ty t).slc cs)) := by
  obtain ⟨zv, hzv⟩ := zeroCells_some hz
  have hzr := (hc.ty t).zero zv hzv w
  obtain ⟨fs, hfs, hmap⟩ := (hc.ty t).fields hne
  have hpl : (fs.mapM fun f => (Prod.mk f.offset <$> Go.sizeOf f.type : Sem (Nat × Nat))).run c.P w = .ok (fs.map fun f => (f.offset, (c.ty f.type).size)) w := by
    rw [Array.mapM_eq_mapM_toList]
    have := run_mapM_fields (P := c.P) (w := w) (fun f : Field => (Prod.mk f.offset <$> Go.sizeOf f.type : Sem (Nat × Nat))) (fun f => (f.offset, (c.ty f.type).size)) fs.toList (fun f hfm => by
      have hm : (f.offset, f.type) ∈ (c.ty t).fields := by rw [← hmap]; exact List.mem_map.2 ⟨f, hfm, rfl⟩
      have hs := all_mem hf _ hm
      have := (hc.ty f.type).size (by intro e; simp [e] at hs) w
      simp [this])
    rw [Sem.run_map, this, Result.andThen_ok]
    congr 1
    apply Array.ext'
    simp
  have hp : ∀ i p, (match nth (c.ty t).fields i with
        | some (off, ft) => match Nat.beq (c.ty ft).size 0 with
          | false => some (off, (c.ty ft).size)
          | true => none
        | none => none) = some p → (fs.map fun f => (f.offset, (c.ty f.type).size))[i]? = some p := by
    intro i p hi
    rw [nth_eq, ← hmap] at hi
    simp only [List.getElem?_map, Array.getElem?_toList] at hi
    simp only [Array.getElem?_map]
    cases hfi : fs[i]? with
    | none => simp [hfi] at hi
    | some f =>
      simp only [hfi, Option.map_some] at hi ⊢
      split at hi
      · exact hi
      · cases hi
  obtain ⟨zs, hzs, hdz⟩ := fill_den hp vs ys.toList z cs zv.cells hP (zeroCells_den hzv hz) h
  have hdf := fitCells_den (c.ty t).slc hdz
  refine ⟨.agg zs, ?_, .agg _ _ hdf.1 hdf.2⟩
  have hund := run_underlying hfs w
  have hzs' : Instr.fill (fun i => (fs.map fun f => (f.offset, (c.ty f.type).size))[i]?) zv.cells ys.toList = some zs := hzs
  simp only [Instr.build, Sem.run_bind, hzr, hund, Result.andThen_ok, bind_pure_comp, hpl, hzs', Sem.run_pure]

theorem tile_den {z : List (V A)} {zs : Array Value} (hz : DenA c S σ w z zs) (hpos : z.length ≠ 0) (m : Nat) : DenA c S σ w (tile z m) ((Array.range m).map (zs[· % zs.size]!)) := by
  refine ⟨by simp [tile], fun i hi => ?_⟩
  have him : i < m := by simpa [tile] using hi
  have hlt : i % z.length < z.length := Nat.mod_lt _ (by omega)
  have hlt' : i % z.length < zs.size := by rw [hz.1]; exact hlt
  have e1 : (tile z m)[i] = z[i % z.length] := by
    simp [tile, nth_eq, hlt]
  have e2 : ((Array.range m).map (zs[· % zs.size]!)).getD i undef = zs.getD (i % z.length) undef := by
    simp [him, hz.1, hlt]
  rw [e1, e2]
  exact hz.2 _ hlt

theorem fitCells_length : ∀ (l : List (Nat × Nat)) (cs : List (V A)), (fitCells l cs).length = cs.length
  | [], cs => rfl
  | (o, e) :: l, cs => by
    simp only [fitCells]
    split
    · rw [fitCells_length l]; simp
    · exact fitCells_length l cs

theorem all_get {α : Type} {p : α → Bool} : ∀ {l : List α}, (∀ i (hi : i < l.length), p l[i] = true) → all p l = true
  | [], _ => rfl
  | a :: l, h => by
    simp only [all, Bool.and_eq_true]
    exact ⟨h 0 (by simp), all_get fun i hi => h (i + 1) (by simpa using hi)⟩

theorem fitCells_fr : ∀ (l : List (Nat × Nat)) {cs : List (V A)}, all allFr0 cs = true → all allFr0 (fitCells l cs) = true
  | [], _, h => h
  | (o, e) :: l, cs, h => by
    simp only [fitCells]
    split
    · refine fitCells_fr l (all_get fun i hi => ?_)
      have hi' : i < cs.length := by simpa using hi
      by_cases ho : o = i
      · subst ho; rw [List.getElem_set_self]; rfl
      · rw [List.getElem_set_ne ho]; exact all_mem h _ (List.getElem_mem _)
    · exact fitCells_fr l h

/-- The cells of an element, as its datum tells them. -/
theorem elem_den (hS : ∀ b, S true b → S false b) {t : Nat} {cs : List (V A)} {xs : Array Value} {f : Bool} {b : A t} (hd : DenA c S σ w cs xs) (he : c.C.enc t b = prep c t cs) (hf : f = true → all allFr0 cs = true) :
    (c.C.enc t b).length = cs.length ∧ ∀ q (hq : q < (encF c t f b).length), Den c S σ w (encF c t f b)[q] (xs.getD q undef) := by
  have hl : (c.C.enc t b).length = cs.length := by rw [he]; simp [prep, mapV_eq, fitCells_length]
  refine ⟨hl, fun q hq => ?_⟩
  have hq' : q < (fitCells (c.ty t).slc cs).length := by rw [fitCells_length, ← hl, ← encF_length c t f]; exact hq
  have e : (encF c t f b)[q] = frs f (dim0 (fitCells (c.ty t).slc cs)[q]) := by
    simp only [encF, mapV_eq, List.getElem_map]
    congr 1
    have : (c.C.enc t b)[q]? = (prep c t cs)[q]? := by rw [he]
    rw [List.getElem?_eq_getElem (by rw [encF_length] at hq; exact hq), List.getElem?_eq_getElem (by simpa [prep, mapV_eq] using hq')] at this
    have := Option.some.inj this
    rw [this]
    simp [prep, mapV_eq]
  rw [e]
  have := (fitCells_den (c.ty t).slc hd).2 q hq'
  exact Den.less hS this (less_frs_dim (fun h => all_mem (fitCells_fr _ (hf h)) _ (List.getElem_mem _)))

theorem decAll_spec (hc : CfgOk c) {t : Nat} {n : Nat} : ∀ (k : Nat) (cs : List (V A)) (l : List (A t)), decAll c t (prepAll c t (chunks n k cs)) = some l → l.length = k ∧ ∀ j (hj : j < l.length), c.C.enc t l[j] = prep c t ((cs.drop (j * n)).take n) := by
  intro k
  induction k with
  | zero => intro cs l h; simp only [chunks, prepAll, decAll, Option.some.injEq] at h; subst h; simp
  | succ k ih =>
    intro cs l h
    simp only [chunks, prepAll, decAll] at h
    split at h
    · rename_i a l' ha hl
      cases h
      obtain ⟨h1, h2⟩ := ih _ _ hl
      refine ⟨by simp [h1], fun j hj => ?_⟩
      cases j with
      | zero => simpa using hc.dec t _ a ha
      | succ j =>
        have := h2 j (by simpa using hj)
        rw [List.drop_drop] at this
        simp only [List.getElem_cons_succ]
        rw [this]
        congr 3
        rw [Nat.succ_mul]; omega
    · cases h

theorem DenA.sub {cs : List (V A)} {xs : Array Value} (h : DenA c S σ w cs xs) (o n : Nat) (hle : o + n ≤ cs.length) : DenA c S σ w ((cs.drop o).take n) ((List.range n).map fun i => xs.getD (o + i) undef).toArray := by
  refine ⟨by simp; omega, fun i hi => ?_⟩
  simp only [List.length_take, List.length_drop] at hi
  have hi' : i < n := by omega
  have := h.2 (o + i) (by omega)
  simp only [List.getElem_take, List.getElem_drop]
  have e : (((List.range n).map fun i => xs.getD (o + i) undef).toArray).getD i undef = xs.getD (o + i) undef := by simp [hi']
  rw [e]; exact this

theorem all_sub {p : V A → Bool} {cs : List (V A)} (h : all p cs = true) (o n : Nat) : all p ((cs.drop o).take n) = true :=
  all_get fun i hi => all_mem h _ (List.mem_of_mem_drop (List.mem_of_mem_take (List.getElem_mem hi)))

/-- Cells, chunk by chunk, are the elements of a row. -/
theorem cells_row (hc : CfgOk c) (hS : ∀ b, S true b → S false b) {t : Nat} {m : Nat} {cs : List (V A)} {xs : Array Value} {l : List (A t)} {f : Bool} (hd : DenA c S σ w cs xs) (hl : decAll c t (prepAll c t (chunks (c.ty t).size m cs)) = some l)
    (hlen : cs.length = m * (c.ty t).size) (hf : f = true → all allFr0 cs = true) :
    l.length = m ∧ (∀ j (hj : j < l.length), (c.C.enc t l[j]).length = (c.ty t).size) ∧
      ∀ j q (hj : j < l.length) (hq : q < (encF c t f l[j]).length), Den c S σ w (encF c t f l[j])[q] (xs.getD (j * (c.ty t).size + q) undef) := by
  obtain ⟨h1, h2⟩ := decAll_spec hc m cs l hl
  have hin : ∀ j, j < l.length → j * (c.ty t).size + (c.ty t).size ≤ cs.length := fun j hj => by
    have : (j + 1) * (c.ty t).size ≤ m * (c.ty t).size := Nat.mul_le_mul_right _ (by omega)
    rw [Nat.succ_mul] at this; omega
  have key := fun j (hj : j < l.length) => elem_den (f := f) hS (hd.sub (j * (c.ty t).size) (c.ty t).size (hin j hj)) (h2 j hj) (fun h => all_sub (hf h) _ _)
  have hen : ∀ j (hj : j < l.length), (c.C.enc t l[j]).length = (c.ty t).size := fun j hj => by
    rw [(key j hj).1, List.length_take, List.length_drop]
    have := hin j hj; omega
  refine ⟨h1, hen, fun j q hj hq => ?_⟩
  have := (key j hj).2 q hq
  have hq' : q < (c.ty t).size := by rw [encF_length, hen j hj] at hq; exact hq
  have e : (((List.range (c.ty t).size).map fun i => xs.getD (j * (c.ty t).size + i) undef).toArray).getD q undef = xs.getD (j * (c.ty t).size + q) undef := by simp [hq']
  rwa [e] at this

/-- A new block of such cells is a row. -/
theorem rowAt_alloc (hc : CfgOk c) {n : Nat} {w0 : W1} {S0 : Nat → Prop} {lk : K → Option (Ent A)} {a : Act} (hR : RelAt c n w0 S0 S σ lk a w) {t ty : Nat} {m : Nat} {fx : Option Nat} {xs : Array Value} {l : List (A t)} {f : Bool} (hs : (c.ty t).size ≠ 0) (hfx : ∀ k, fx = some k → m = k)
    (hl : l.length = m) (hx : xs.size = m * (c.ty t).size) (hen : ∀ j (hj : j < l.length), (c.C.enc t l[j]).length = (c.ty t).size)
    (hd : ∀ j q (hj : j < l.length) (hq : q < (encF c t f l[j]).length), Den c S σ w (encF c t f l[j])[q] (xs.getD (j * (c.ty t).size + q) undef)) :
    RowAt c S σ (w.alloc (.cells xs ty)) ⟨w.heap.size, m, m, some ⟨w.heap.size, 0, none⟩⟩ t f fx l where
  ne := hs
  len := hl.symm
  cap := by simp [hl]
  fix k hk := by rw [hl]; exact hfx k hk
  enc := hen
  base _ _ := rfl
  room k hk := by
    have : k < xs.size := by rw [hx]; exact hk
    rw [World.cell?_alloc_new]; simp [this]
  frz k _ := by simp
  cells j q hj hq := by
    have hq' : q < (c.ty t).size := by rw [encF_length, hen j hj] at hq; exact hq
    have h1 : j * (c.ty t).size + q < xs.size := by
      rw [hx]
      have : (j + 1) * (c.ty t).size ≤ m * (c.ty t).size := Nat.mul_le_mul_right _ (by omega)
      rw [Nat.succ_mul] at this; omega
    refine ⟨_, by rw [World.cell?_alloc_new]; exact Array.getElem?_eq_getElem h1, ?_⟩
    have := hd j q hj hq
    rw [show xs.getD (j * (c.ty t).size + q) undef = xs[j * (c.ty t).size + q] by simp [h1]] at this
    refine this.mono hc (fun _ _ h => h) (fun f b hb => Below.heap_alloc _ _ _ (hR.sLt' f b hb)) (fun id hid => ?_)
    rfl

theorem setRange_length : ∀ (vc : List (V A)) (off : Nat) (cs : List (V A)), (setRange cs off vc).length = cs.length := by
  intro vc
  induction vc with
  | nil => intro off cs; rfl
  | cons u vc ih => intro off cs; rw [setRange, ih]; simp

theorem fillParts_length {pe : Nat → Option (Nat × Nat)} : ∀ (vs : List (Nat × V A)) (cs out : List (V A)), fillParts pe cs vs = some out → out.length = cs.length := by
  intro vs
  induction vs with
  | nil => intro cs out h; simp only [fillParts, Option.some.injEq] at h; subst h; rfl
  | cons p vs ih =>
    obtain ⟨i, v⟩ := p
    intro cs out h
    simp only [fillParts] at h
    split at h
    · cases h
    · split at h
      · cases h
      · split at h
        · rw [ih _ _ h, setRange_length]
        · cases h

/-- The cells that a slice's text lays out. -/
theorem run_buildSlice (hc : CfgOk c) {t e len : Nat} {vs : List (Nat × V A)} {ys : Array (Nat × Value)} {z cs : List (V A)}
    (hel : (c.ty t).elem = some e) (hz : zeroCells (c.ty e) = some z) (hs : Nat.beq (c.ty e).size 0 = false) (hb : (Nat.beq z.length (c.ty e).size).and (Nat.ble (len * (c.ty e).size) 16777216) = true)
    (hP : DenP c S σ w vs ys.toList) (h : fillParts (fun i => some (i * (c.ty e).size, (c.ty e).size)) (tile z (len * (c.ty e).size)) vs = some cs) :
    cs.length = len * (c.ty e).size ∧ ∃ zs, DenA c S σ w cs zs ∧ (Instr.buildSlice t len ys).run c.P w = .ok (.slice (some ⟨w.heap.size, 0, none⟩) len len) (w.alloc (.cells zs e)) := by
  obtain ⟨zv, hzv⟩ := zeroCells_some hz
  have hzr := (hc.ty e).zero zv hzv w
  have hs0 : (c.ty e).size ≠ 0 := by intro h0; rw [h0] at hs; simp at hs
  have hsz := (hc.ty e).size hs0 w
  simp only [Bool.and_eq_true] at hb
  have hzl : z.length = (c.ty e).size := by simpa using hb.1
  have hle : len * (c.ty e).size ≤ 16777216 := by simpa using hb.2
  have hdz := zeroCells_den (c := c) (S := S) (σ := σ) (w := w) hzv hz
  have hund := run_underlying ((hc.ty t).elem e hel) w
  have htile : DenA c S σ w (tile z (len * (c.ty e).size)) ((Array.range (len * (c.ty e).size)).map fun i => (if len * (c.ty e).size = 0 then #[] else zv.cells)[i % (if len * (c.ty e).size = 0 then #[] else zv.cells).size]!) := by
    by_cases h0 : len * (c.ty e).size = 0
    · rw [h0]; refine ⟨by simp [tile], fun i hi => by simp [tile] at hi⟩
    · simp only [h0, if_false]
      exact tile_den hdz (by omega) _
  obtain ⟨zs, hzs, hds⟩ := fill_den (pm := fun i => some (i * (c.ty e).size, (c.ty e).size)) (fun _ _ h => h) vs ys.toList _ cs _ hP htile h
  refine ⟨by rw [fillParts_length _ _ _ h]; simp [tile], zs, hds, ?_⟩
  have hlim : ¬ len * (c.ty e).size > 2 ^ 24 := by omega
  simp only [Instr.buildSlice, Sem.run_bind, hund, Result.andThen_ok, hsz, if_neg hlim, Sem.run_ite, Sem.run_pure]
  by_cases h0 : len * (c.ty e).size = 0
  · simp only [h0, if_true] at hzs ⊢
    rw [hzs]; simp [newRow]
  · simp only [h0, if_false, hzr, Result.andThen_ok, Sem.run_bind, Sem.run_pure] at hzs ⊢
    rw [hzs]; simp [newRow]

/-- A build of an array. -/
theorem run_buildArr (hc : CfgOk c) {t e m : Nat} {vs : List (Nat × V A)} {ys : Array (Nat × Value)} {z cs : List (V A)}
    (hun : c.P.underlying t = some (.array m e)) (hz : zeroCells (c.ty t) = some z) (hs0 : (c.ty e).size ≠ 0)
    (hP : DenP c S σ w vs ys.toList) (h : fillParts (fun i => some (i * (c.ty e).size, (c.ty e).size)) z vs = some cs) :
    ∃ zs, DenA c S σ w cs zs ∧ (Instr.build t ys).run c.P w = .ok (.agg zs) w := by
  obtain ⟨zv, hzv⟩ := zeroCells_some hz
  have hzr := (hc.ty t).zero zv hzv w
  have hsz := (hc.ty e).size hs0 w
  have hund := run_underlying hun w
  obtain ⟨zs, hzs, hds⟩ := fill_den (pm := fun i => some (i * (c.ty e).size, (c.ty e).size)) (fun _ _ h => h) vs ys.toList _ cs _ hP (zeroCells_den hzv hz) h
  refine ⟨zs, hds, ?_⟩
  simp only [Instr.build, Sem.run_bind, hzr, hund, Result.andThen_ok, hsz, hzs, Sem.run_pure]

end
end Vm
