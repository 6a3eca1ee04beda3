/-
  What the interpreter says of one operation is so: rows that are made, grown, cut, read and written to.
-/
import Derived.Test.YthnlknegnlmklaaVm6b
set_option linter.all false
namespace Vm
open Go Go.RowKit
variable {A : Nat → Type}

section
variable {c : Cfg A} {n : Nat} {w0 : W1} {S0 : Nat → Prop} {S : Fz} {σ : Nat → Loc} {lk : K → Option (Ent A)} {a : Act} {w : World}

/-- Cells that lie in a block are a row's. -/
theorem rowAt_cells (hc : CfgOk c) {w' : World} {L : Loc} {t : Nat} {f : Bool} {l : List (A t)} {xs : List Value} (hne : (c.ty t).size ≠ 0) (hlen : L.len = l.length) (hcap : l.length ≤ L.cap) (hbase : L.cap ≠ 0 → L.base = some ⟨L.blk, 0, none⟩)
    (hroom : ∀ k, k < L.cap * (c.ty t).size → (w'.cell? ⟨L.blk, k, none⟩).isSome = true) (hfz : ∀ k, L.cap ≠ 0 → w'.frozen? ⟨L.blk, k, none⟩ = false) (hcs : CellsAt c S σ w t f l xs) (hw : ∀ j v, xs[j]? = some v → w'.cell? ⟨L.blk, j, none⟩ = some v)
    (hS : ∀ f b, S f b → w'.heap[b]? = w.heap[b]?) : RowAt c S σ w' L t f none l where
  ne := hne
  len := hlen
  cap := hcap
  fix m hm := by cases hm
  enc := hcs.2.1
  base _ h := hbase h
  room := hroom
  frz := hfz
  cells j q hj hq := by
    have hq' : q < (c.ty t).size := by rw [encF_length, hcs.2.1 j hj] at hq; exact hq
    have hb : j * (c.ty t).size + q < xs.length := by
      rw [hcs.1]
      have h1 : (j + 1) * (c.ty t).size ≤ l.length * (c.ty t).size := Nat.mul_le_mul_right _ (by omega)
      rw [Nat.succ_mul] at h1; omega
    refine ⟨xs[j * (c.ty t).size + q], hw _ _ (List.getElem?_eq_getElem hb), ?_⟩
    have := hcs.2.2 j q hj hq
    rw [show xs.getD (j * (c.ty t).size + q) undef = xs[j * (c.ty t).size + q] by simp [hb]] at this
    refine this.mono hc (fun _ _ h => h) hS (fun id hid => ?_)
    rfl

theorem appX_spec {E : Env A} (hE : ∀ k e, look k E = some e → lk k = some e) {e : Nat} {v : V A} {x : Value} {fx : Bool} {lx : List (A e)} {ent : Env A} (h : appX E e v = some (fx, lx, ent)) (hd : Den c S σ w v x) :
    (∃ r, v = .own r ∧ lk (.row r) = some ([], .rowc e fx none lx) ∧ ent = killE (some r) ∧ x = .slice (σ r).base (σ r).len (σ r).cap) ∨ (x = .slice none 0 0 ∧ lx = [] ∧ ent = killE none) := by
  unfold appX at h
  split at h
  · rename_i r
    split at h
    · rename_i t f l hrow
      split at h
      · rename_i he _
        subst he
        cases h
        cases hd
        exact .inl ⟨r, rfl, hE _ _ hrow, rfl, rfl⟩
      · cases h
    · cases h
  · cases h
    exact .inr ⟨hd.of_raw, rfl, rfl⟩
  · cases h

theorem appY_spec (hc : CfgOk c) (hR : RelAt c n w0 S0 S σ lk a w) {E : Env A} (hE : ∀ k e, look k E = some e → lk k = some e) {e : Nat} {v : V A} {x : Value} {fy : Bool} {ly : List (A e)} (h : appY E e v = some (fy, ly)) (hd : Den c S σ w v x) :
    ∃ p cap news, x = .slice p ly.length cap ∧ CellsAt c S σ w e fy ly news ∧ (∀ b, p = some b → ∀ j v, news[j]? = some v → w.cell? (b.add j) = some v) ∧ (p = none → ly = []) := by
  have of : ∀ {f : Bool} {l : List (A e)} {x : Value}, Den c S σ w (.list e f l) x → ∃ p cap news, x = .slice p l.length cap ∧ CellsAt c S σ w e f l news ∧ (∀ b, p = some b → ∀ j v, news[j]? = some v → w.cell? (b.add j) = some v) ∧ (p = none → l = []) := by
    intro f l x h
    obtain ⟨p, cap, xs, h1, _, h2, h3, h4, _⟩ := cells_of_list h
    exact ⟨p, cap, xs, h1, h2, h3, h4⟩
  unfold appY at h
  split at h
  · rename_i r
    cases hd
    split at h
    · rename_i t f l hrow
      split at h
      · rename_i he _
        subst he
        cases h
        have h1 : RowAt c S σ w (σ r) t _ none _ := (hR.row r [] _ (hE _ _ hrow) rfl).1
        obtain ⟨xs, h2, h3, h4, _⟩ := cells_of_row h1
        exact ⟨_, _, xs, by rw [h1.len], h2, h3, h4⟩
      · cases h
    · rename_i t f l hrow
      split at h
      · rename_i he _
        subst he
        cases h
        exact of (show Den c S σ w (.list t _ _) _ from (hR.row r [] _ (hE _ _ hrow) rfl).1)
      · cases h
    · cases h
  · rename_i t f l
    split at h
    · rename_i he _
      subst he
      cases h
      exact of hd
    · cases h
  · cases h
    rw [hd.of_raw]
    exact ⟨_, _, [], rfl, ⟨by simp, fun j hj => absurd hj (Nat.not_lt_zero _), fun j q hj => absurd hj (Nat.not_lt_zero _)⟩, fun _ _ j v hv => by simp at hv, fun _ => rfl⟩
  · cases h

theorem bel_none (w : World) : Bel ⟨w, fun b _ => (fun _ : Nat => False) b⟩ w := Bel.refl _

theorem did_append (hc : CfgOk c) (hR : RelAt c n w0 S0 S σ lk a w) {E : Env A} (hE : ∀ k e, look k E = some e → lk k = some e) {d t e ty : Nat} {vx vy : V A} {x y : Value} {fx fy : Bool} {lx ly : List (A e)} {ent : Env A}
    (hpin : d ∉ c.pins) (hfr : ∀ k g v, lk k = some (g, v) → entAvoids d (k, g, v) = true) (hel : (c.ty t).elem = some e) (happ : (c.ty e).app = true) (hs0 : (c.ty e).size ≠ 0) (hb0 : (c.ty e).bytes ≠ 0)
    (hx : Den c S σ w vx x) (hy : Den c S σ w vy y) (h1 : appX E e vx = some (fx, lx, ent)) (h2 : appY E e vy = some (fy, ly)) (hreq : ((lx.length + ly.length : Nat) : Int) * (c.ty e).bytes ≤ 140737488355328) :
    ∃ v' w', (Builtin.append_ #[t, t] ty #[x, y]).run c.P w = .ok v' w' ∧ Did c n w0 S0 lk (some d) ((.row d, [], .rowc e (fx.and fy) none (lx ++ ly)) :: ent) (.own d) a v' w' := by
  obtain ⟨inf, z, hi, hsz, hby, hz, hz', hzs⟩ := (hc.ty e).app happ
  have ht := (hc.ty t).elem e hel
  obtain ⟨yp, ycap, news, rfl, hyc, hyw, hyn⟩ := appY_spec hc hR hE h2 hy
  have hbytes : (lx.length + ly.length) * inf.bytes ≤ 140737488355328 := by
    rw [hby]
    have : (((lx.length + ly.length) * (c.ty e).bytes : Nat) : Int) ≤ 140737488355328 := by rw [Int.natCast_mul]; exact hreq
    omega
  have hnl : yp = none → news = [] := fun h => by
    have := hyc.1
    rw [hyn h] at this
    simpa using this
  have hfy : (Builtin.firstCells inf.size ly.length (.slice yp ly.length ycap)).run c.P w = .ok news.toArray w := run_first (by rw [hsz]; exact hyc.1) hyw hnl
  have hfy' : (Builtin.firstCells inf.size ly.length (.slice yp ly.length ycap)).run c.P w.drew = .ok news.toArray w.drew := run_first (by rw [hsz]; exact hyc.1) hyw hnl
  have lx' : (fx && fy) = true → fx = true := by cases fx <;> simp
  have ly' : (fx && fy) = true → fy = true := by cases fx <;> cases fy <;> simp
  have hSmono : ∀ {o : Obj} (f : Bool) (b : Nat), S f b → (w.drew.alloc o).heap[b]? = w.heap[b]? := fun f b hb => Below.heap_alloc w.drew _ _ (hR.sLt' f b hb)
  -- where it grows
  have grow : ∀ (olds : List Value) (cap : Nat), CellsAt c S σ w e fx lx olds → cap < lx.length + ly.length →
      RowAt c S σ (w.drew.alloc (.cells (olds.toArray ++ news.toArray ++ Builtin.zeroCells z.cells (grownCap w (lx.length + ly.length) cap e - (lx.length + ly.length))) e)) ⟨w.heap.size, lx.length + ly.length, grownCap w (lx.length + ly.length) cap e, some ⟨w.heap.size, 0, none⟩⟩ e (fx.and fy) none (lx ++ ly) := by
    intro olds cap ho hlt
    have hge := grownCap_ge w (lx.length + ly.length) cap e
    have hcs := (ho.less hR.sT lx').append (hyc.less hR.sT ly')
    have hol : (olds ++ news).length = (lx.length + ly.length) * (c.ty e).size := by rw [hcs.1, List.length_append]
    refine rowAt_cells hc hs0 (by simp) (by simpa using hge) (fun _ => rfl) (fun k hk => ?_) (fun k _ => ?_) hcs (fun j v hv => ?_) hSmono
    · have : (w.drew.alloc (.cells (olds.toArray ++ news.toArray ++ Builtin.zeroCells z.cells (grownCap w (lx.length + ly.length) cap e - (lx.length + ly.length))) e)).cell? ⟨w.drew.heap.size, k, none⟩ = (olds.toArray ++ news.toArray ++ Builtin.zeroCells z.cells (grownCap w (lx.length + ly.length) cap e - (lx.length + ly.length)))[k]? := World.cell?_alloc_new ..
      have hlt2 : k < (olds.toArray ++ news.toArray ++ Builtin.zeroCells z.cells (grownCap w (lx.length + ly.length) cap e - (lx.length + ly.length))).size := by
        simp only [Array.size_append, List.size_toArray, size_zeroCells, hzs]
        have : olds.length + news.length = (lx.length + ly.length) * (c.ty e).size := by rw [← hol, List.length_append]
        rw [this, ← Nat.add_mul]
        have : lx.length + ly.length + (grownCap w (lx.length + ly.length) cap e - (lx.length + ly.length)) = grownCap w (lx.length + ly.length) cap e := by omega
        rw [this]; exact hk
      show (World.cell? _ ⟨w.drew.heap.size, k, none⟩).isSome = true
      rw [this, Array.getElem?_eq_getElem hlt2]; rfl
    · exact World.frozen?_alloc_new w.drew _ _ _
    · show World.cell? _ ⟨w.drew.heap.size, j, none⟩ = some v
      rw [World.cell?_alloc_new]
      obtain ⟨hj, rfl⟩ := List.getElem?_eq_some_iff.1 hv
      have e1 : olds.toArray ++ news.toArray = (olds ++ news).toArray := by simp
      rw [e1, Array.getElem?_append_left (by simpa using hj)]
      simp [hj]
  have hbelow : ∀ o : Obj, Bel ⟨w, fun b _ => (fun _ : Nat => False) b⟩ (w.drew.alloc o) := fun o => Bel.of ⟨rfl, rfl, rfl, by simp, fun k hk => Below.heap_alloc w.drew _ _ hk⟩
  rcases appX_spec hE h1 hx with ⟨r, rfl, hrow, rfl, rfl⟩ | ⟨rfl, rfl, rfl⟩
  · have hra : RowAt c S σ w (σ r) e fx none lx := (hR.row r [] _ hrow rfl).1
    have hrn := (hR.row r [] _ hrow rfl).2 rfl
    obtain ⟨olds, hoc, how, hon, hbase⟩ := cells_of_row hra
    rw [hra.len]
    have hk : ∀ r', some r = some r' → ∃ g u, lk (.row r') = some (g, u) ∧ u.isRowc = true := fun r' hr' => by cases hr'; exact ⟨_, _, hrow, rfl⟩
    have hox : (Builtin.firstCells inf.size lx.length (.slice (σ r).base lx.length (σ r).cap)).run c.P w.drew = .ok olds.toArray w.drew := run_first (by rw [hsz]; exact hoc.1) how (fun h => by
      have := hoc.1; rw [hon h] at this; simpa using this)
    obtain ⟨hA, hB⟩ := run_app (P := c.P) (w := w) t ty e inf z ht hi hz (σ r).base lx.length (σ r).cap yp ly.length ycap olds news hox hfy hfy' (by rw [hby]; exact hb0) hbytes
    by_cases hroom : lx.length + ly.length ≤ (σ r).cap
    · by_cases hcap : (σ r).cap = 0
      · have hl0 : lx = [] := List.eq_nil_of_length_eq_zero (by omega)
        have hm0 : ly = [] := List.eq_nil_of_length_eq_zero (by omega)
        have hn0 : news = [] := by have := hyc.1; rw [hm0] at this; simpa using this
        refine ⟨_, w, hA hroom w ?_, ?_⟩
        · subst hn0
          cases (σ r).base <;> simp [storeCells]
        · subst hl0 hm0
          refine did_new hc hR hpin hfr (kill := some r) (X := fun _ => False) (L := ⟨(σ r).blk, 0, (σ r).cap, (σ r).base⟩) (bel_none w) hk (fun b h => h.elim) ?_ (fun h => absurd hcap h) (.inl ⟨rfl, rfl⟩)
          exact ⟨hs0, rfl, Nat.zero_le _, fun m hm => (by cases hm), fun j hj => absurd hj (Nat.not_lt_zero _), fun _ h => absurd hcap h, fun k hk => (by rw [hcap] at hk; simp at hk), fun k h => absurd hcap h, fun j q hj => absurd hj (Nat.not_lt_zero _)⟩
      · have hb := hbase hcap
        have hcell : ∀ j, j < news.length → (w.cell? ⟨(σ r).blk, lx.length * inf.size + (0 + j), none⟩).isSome = true := fun j hj => by
          refine hra.room _ ?_
          rw [hyc.1] at hj
          have : (lx.length + ly.length) * (c.ty e).size ≤ (σ r).cap * (c.ty e).size := Nat.mul_le_mul_right _ hroom
          rw [Nat.add_mul] at this
          rw [hsz]; omega
        have hst := run_storeCells (P := c.P) (a := ⟨(σ r).blk, lx.length * inf.size, none⟩) news 0 w (hyc.one hc) (fun j hj => by rw [add_plain]; exact hcell j hj) (fun j => by rw [add_plain]; exact hra.frz _ hcap)
        refine ⟨_, setCells ⟨(σ r).blk, lx.length * inf.size, none⟩ 0 news w, hA hroom _ ?_, ?_⟩
        · rw [hb]
          simp only
          rw [add_plain, Nat.zero_add]
          exact hst
        · have hblock : ∀ b, b ≠ (σ r).blk → (setCells ⟨(σ r).blk, lx.length * inf.size, none⟩ 0 news w).heap[b]? = w.heap[b]? := fun b hb => setCells_block hb _ _ _
          have hSb : ∀ f b, S f b → (setCells ⟨(σ r).blk, lx.length * inf.size, none⟩ 0 news w).heap[b]? = w.heap[b]? := fun f b h => hblock b (fun he => (hrn hcap).1 (by subst he; cases f; exact h; exact hR.sT _ h))
          have hcs := (hoc.less hR.sT lx').append (hyc.less hR.sT ly')
          refine did_new hc hR hpin hfr (kill := some r) (X := fun b => b = (σ r).blk) (L := ⟨(σ r).blk, lx.length + ly.length, (σ r).cap, (σ r).base⟩) ?_ hk (fun b h => ⟨r, rfl, hcap, h⟩) ?_ (fun _ => .inr ⟨r, rfl, hcap, rfl⟩) (.inl ⟨rfl, rfl⟩)
          · have := setCells_bel news w hcell
            exact ⟨this.os, this.tape, this.output, this.size, fun k hk hn => hblock k (fun he => hn 0 he), fun k o hk hn => World.cell?_of_block (w := w) (hblock k hn), this.frozen⟩
          · refine rowAt_cells hc hs0 (by simp) (by simpa using hroom) (fun _ => hb) (fun k hk => ?_) (fun k _ => ?_) hcs (fun j v hv => ?_) hSb
            · rw [setCells_cell _ _ _ _ _ hcell]
              split
              · rename_i hin
                rw [List.getElem?_eq_getElem (by omega)]; rfl
              · exact hra.room k hk
            · rw [setCells_frozen]; exact hra.frz k hcap
            · rw [setCells_cell _ _ _ _ _ hcell]
              obtain ⟨hj, rfl⟩ := List.getElem?_eq_some_iff.1 hv
              have hol : olds.length = lx.length * inf.size := by rw [hsz]; exact hoc.1
              simp only [List.length_append] at hj
              by_cases hlt : j < olds.length
              · rw [if_neg (by omega)]
                rw [List.getElem_append_left hlt]
                have := how _ hb j _ (List.getElem?_eq_getElem hlt)
                rw [add_plain, Nat.zero_add] at this
                exact this
              · rw [if_pos (by omega), List.getElem_append_right (by omega), List.getElem?_eq_getElem (by omega)]
                congr 2
                omega
    · refine ⟨_, _, hB (by omega), ?_⟩
      exact did_new hc hR hpin hfr (kill := some r) (X := fun _ => False) (hbelow _) hk (fun b h => h.elim) (grow olds (σ r).cap hoc (by omega)) (fun _ => .inl (Nat.le_refl _)) (.inl ⟨rfl, rfl⟩)
  · have hoc : CellsAt c S σ w e fx ([] : List (A e)) [] := ⟨by simp, fun j hj => absurd hj (Nat.not_lt_zero _), fun j q hj => absurd hj (Nat.not_lt_zero _)⟩
    have hox : (Builtin.firstCells inf.size ([] : List (A e)).length (.slice none ([] : List (A e)).length 0)).run c.P w.drew = .ok ([] : List Value).toArray w.drew := by simp [Builtin.firstCells]
    obtain ⟨hA, hB⟩ := run_app (P := c.P) (w := w) t ty e inf z ht hi hz none ([] : List (A e)).length 0 yp ly.length ycap [] news hox hfy hfy' (by rw [hby]; exact hb0) hbytes
    by_cases hroom : ([] : List (A e)).length + ly.length ≤ 0
    · have hm0 : ly = [] := List.eq_nil_of_length_eq_zero (by simpa using hroom)
      refine ⟨_, w, hA hroom w rfl, ?_⟩
      subst hm0
      refine did_new hc hR hpin hfr (kill := none) (X := fun _ => False) (L := ⟨0, 0, 0, none⟩) (bel_none w) (fun r h => by cases h) (fun b h => h.elim) ?_ (fun h => absurd rfl h) (.inl ⟨rfl, rfl⟩)
      exact ⟨hs0, rfl, Nat.zero_le _, fun m hm => (by cases hm), fun j hj => absurd hj (Nat.not_lt_zero _), fun _ h => absurd rfl h, fun k hk => (by simp at hk), fun k h => absurd rfl h, fun j q hj => absurd hj (Nat.not_lt_zero _)⟩
    · refine ⟨_, _, hB (by omega), ?_⟩
      exact did_new hc hR hpin hfr (kill := none) (X := fun _ => False) (hbelow _) (fun r h => by cases h) (fun b h => h.elim) (grow [] 0 hoc (by omega)) (fun _ => .inl (Nat.le_refl _)) (.inl ⟨rfl, rfl⟩)

theorem did_makeSlice (hc : CfgOk c) (hR : RelAt c n w0 S0 S σ lk a w) {d t e : Nat} {k k' : IntKind} {l m : Int} {z : List (V A)} {b : A e}
    (hpin : d ∉ c.pins) (hfr : ∀ k g v, lk k = some (g, v) → entAvoids d (k, g, v) = true) (hel : (c.ty t).elem = some e) (happ : (c.ty e).app = true) (hs0 : (c.ty e).size ≠ 0) (hb0 : (c.ty e).bytes ≠ 0)
    (hz : zeroCells (c.ty e) = some z) (hzl : z.length = (c.ty e).size) (hdec : c.C.dec e (prep c e z) = some b) (h0 : 0 ≤ l) (hlm : l = m) (hreq : l * (c.ty e).bytes ≤ 140737488355328) :
    ∃ v' w', (Instr.makeSlice t (.int k l) (.int k' m)).run c.P w = .ok v' w' ∧ Did c n w0 S0 lk (some d) [(.row d, [], .rowc e true none (List.replicate l.toNat b))] (.own d) a v' w' := by
  subst hlm
  obtain ⟨inf, zv, hi, hsz, hby, hzv, hz', hzs⟩ := (hc.ty e).app happ
  have ht := (hc.ty t).elem e hel
  have hb1 : 1 ≤ ((c.ty e).bytes : Int) := by omega
  have hl48 : l ≤ 140737488355328 := Int.le_trans (by
    have := Int.mul_le_mul_of_nonneg_left hb1 h0
    omega) hreq
  have hrun := run_make (P := c.P) w t e inf zv ht hi hzv k k' l l h0 (Int.le_refl _) (by rw [hby, Int.mul_comm]; omega) (by omega)
  refine ⟨_, _, hrun, ?_⟩
  have hzd := zeroCells_den (c := c) (S := S) (σ := σ) (w := w) hz' hz
  have hall : all allFr0 z = true := by
    unfold zeroCells at hz
    have hcell : ∀ x : Value, allFr0 (ofCell x : V A) = true := by intro x; unfold ofCell; split <;> rfl
    split at hz
    · cases hz
      refine all_get fun i hi => ?_
      simp only [List.getElem_map]; exact hcell _
    · cases hz; simp [all, hcell]
    · cases hz
  have hel2 := elem_den (f := true) hR.sT hzd (hc.dec e _ _ hdec) (fun _ => hall)
  have hbl : (c.C.enc e b).length = (c.ty e).size := by rw [hel2.1, hzl]
  have hrep : ∀ j (hj : j < (List.replicate l.toNat b).length), (List.replicate l.toNat b)[j] = b := fun j hj => by simp
  have hxs : (madeCells zv.cells (l.toNat * inf.size)).size = l.toNat * (c.ty e).size := by rw [size_madeCells, hsz]
  have hget : ∀ j q, j < l.toNat → q < (c.ty e).size → (madeCells zv.cells (l.toNat * inf.size)).getD (j * (c.ty e).size + q) undef = zv.cells.getD q undef := by
    intro j q hj hq
    have hlt : j * (c.ty e).size + q < l.toNat * inf.size := by
      rw [hsz]
      have : (j + 1) * (c.ty e).size ≤ l.toNat * (c.ty e).size := Nat.mul_le_mul_right _ (by omega)
      rw [Nat.succ_mul] at this; omega
    have hmod : (j * (c.ty e).size + q) % zv.cells.size = q := by
      rw [hzs, Nat.mul_comm, Nat.mul_add_mod, Nat.mod_eq_of_lt hq]
    have hq2 : q < zv.cells.size := by rw [hzs]; exact hq
    simp [madeCells, hlt, hmod, hq2]
  have hrow := rowAt_alloc (ty := e) hc hR (t := e) (m := l.toNat) (fx := none) (xs := madeCells zv.cells (l.toNat * inf.size)) (l := List.replicate l.toNat b) (f := true) hs0 (fun k hk => by cases hk) (by simp) hxs
    (fun j hj => by rw [hrep]; exact hbl) (fun j q hj hq => by
      have hj' : j < l.toNat := by simpa using hj
      have hq1 : q < (encF c e true b).length := by rw [hrep] at hq; exact hq
      rw [hget j q hj' (by rw [encF_length, hbl] at hq1; exact hq1)]
      have := hel2.2 q hq1
      have e2 : (encF c e true (List.replicate l.toNat b)[j])[q] = (encF c e true b)[q] := by simp only [hrep]
      rw [e2]; exact this)
  exact did_new hc hR hpin hfr (kill := none) (X := fun _ => False) (Bel.of ((Below.refl _ _).alloc (Nat.le_refl _) _)) (fun r h => by cases h) (fun b h => h.elim) hrow (fun _ => .inl (Nat.le_refl _)) (.inl ⟨rfl, rfl⟩)

end
end Vm
