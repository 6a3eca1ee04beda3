/-
  What the interpreter says of one operation is so: stores; boxes and rows that are laid anew.
-/
import Derived.Test.YthnlknegnlmklaaVm5
import Derived.Laws.MakeOwn
import Derived.ArgAppend
set_option linter.all false
namespace Vm
open Go Go.RowKit
variable {A : Nat → Type}

section
variable {c : Cfg A} {n : Nat} {w0 : W1} {S0 : Nat → Prop} {S : Fz} {σ : Nat → Loc} {lk : K → Option (Ent A)} {a : Act} {w : World}

theorem setCells_same {a : Addr} : ∀ (vs : List Value) (i : Nat) (w : World), (setCells a i vs w).os = w.os ∧ (setCells a i vs w).tape = w.tape ∧ (setCells a i vs w).output = w.output
  | [], _, _ => ⟨rfl, rfl, rfl⟩
  | v :: vs, i, w => by rw [setCells]; exact setCells_same vs (i + 1) _

theorem setCells_bel {k o : Nat} (vs : List Value) (w : World) (h : ∀ j, j < vs.length → (w.cell? ⟨k, o + (0 + j), none⟩).isSome = true) : Bel ⟨w, fun b p => b = k ∧ o ≤ p ∧ p < o + vs.length⟩ (setCells ⟨k, o, none⟩ 0 vs w) where
  os := (setCells_same _ _ _).1
  tape := (setCells_same _ _ _).2.1
  output := (setCells_same _ _ _).2.2
  size := by rw [setCells_size]; exact Nat.le_refl _
  block b _ hn := by
    by_cases hb : b = k
    · subst hb
      cases vs with
      | nil => rfl
      | cons v vs => exact absurd ⟨rfl, Nat.le_refl _, by simp⟩ (hn o)
    · exact setCells_block hb _ _ _
  cell b p _ hn := by
    by_cases hb : b = k
    · subst hb
      rw [setCells_cell _ _ _ _ _ h, if_neg (by intro hh; exact hn ⟨rfl, by omega, by omega⟩)]
    · exact World.cell?_of_block (w := w) (setCells_block hb _ _ _)
  frozen b p _ := setCells_frozen _ _ _

theorem did_store (hc : CfgOk c) (hR : RelAt c n w0 S0 S σ lk a w) {id off : Nat} {cs : List (V A)} {xs : Array Value} (hd : DenA c S σ w cs xs) (hne : cs ≠ [])
    (hold : ∀ i, i < cs.length → ∃ v, lk (.cell id (off + i)) = some ([], v) ∧ v.isJunk = false) {dst : Option Nat} {x : Value} :
    Did c n w0 S0 lk dst (writeCells id off cs) .junk a x (setCells ⟨(σ id).blk, off, none⟩ 0 xs.toList w) := by
  have hlive : live lk σ false id := by
    obtain ⟨v, hv, hj⟩ := hold 0 (List.length_pos_iff.2 hne)
    exact ⟨_, _, _, hv, hj⟩
  obtain ⟨v0, hv0, hj0⟩ := hold 0 (List.length_pos_iff.2 hne)
  obtain ⟨_, hfz, hns, _⟩ := hR.cell id (off + 0) [] v0 hv0 hj0
  have hcell : ∀ j, j < xs.toList.length → (w.cell? ⟨(σ id).blk, off + (0 + j), none⟩).isSome = true := fun j hj => by
    obtain ⟨v, hv, hj'⟩ := hold j (by simpa [hd.1] using hj)
    obtain ⟨⟨x, hx, _⟩, _⟩ := hR.cell id (off + j) [] v hv hj'
    simp [hx]
  have hblock : ∀ b, b ≠ (σ id).blk → (setCells ⟨(σ id).blk, off, none⟩ 0 xs.toList w).heap[b]? = w.heap[b]? := fun b hb => setCells_block hb _ _ _
  have hSb : ∀ f b, S f b → (setCells ⟨(σ id).blk, off, none⟩ 0 xs.toList w).heap[b]? = w.heap[b]? := fun f b hb => hblock b (fun e => hns (by subst e; cases f; exact hb; exact hR.sT _ hb))
  have hden : ∀ {v x}, Den c S σ w v x → Den c S σ (setCells ⟨(σ id).blk, off, none⟩ 0 xs.toList w) v x := fun h =>
    h.mono hc (fun _ _ h => h) hSb (fun _ _ => rfl)
  have up : ∀ b i, live (fun k => (look k (writeCells id off cs)).or (lk k)) σ b i → live lk σ b i := by
    intro b i h
    cases b
    · obtain ⟨o, g, v, hv, hj⟩ := h
      simp only [look_writeCells] at hv
      by_cases hin : i = id ∧ off ≤ o ∧ o < off + cs.length
      · rw [hin.1]; exact hlive
      · rw [if_neg hin, Option.none_or] at hv; exact ⟨o, g, v, hv, hj⟩
    · obtain ⟨g, v, hv, h2, h3⟩ := h
      simp only [look_writeCells, Option.none_or] at hv
      exact ⟨g, v, hv, h2, h3⟩
  have hR2 : RelAt c n w0 S0 S σ (fun k => (look k (writeCells id off cs)).or (lk k)) a (setCells ⟨(σ id).blk, off, none⟩ 0 xs.toList w) := {
    inv := hc.inv _ _ _ _ hR.inv (fun _ h => h) (hSb false)
    defers := hR.defers
    size := hR.size
    below := hR.below.trans (setCells_bel _ _ hcell) (fun b o h => by
      obtain ⟨rfl, h1, h2⟩ := h
      have hxl : xs.toList.length = cs.length := by simp [hd.1]
      have hlt : o - off < cs.length := by omega
      obtain ⟨v, hv, hj'⟩ := hold (o - off) hlt
      have := (hR.cell id (off + (o - off)) [] v hv hj').2.2.2
      rwa [show off + (o - off) = o by omega] at this)
    s0 := hR.s0
    pin := hR.pin
    sT := hR.sT
    sNew := hR.sNew
    sLt := fun b hb => by rw [setCells_size]; exact hR.sLt b hb
    slot := fun i g v hv hj => by
      simp only [look_writeCells, Option.none_or] at hv
      exact ⟨(hR.slot i g v hv hj).1, fun hg => hden ((hR.slot i g v hv hj).2.1 hg), (hR.slot i g v hv hj).2.2⟩
    cell := fun id' o g v hv hj => by
      simp only [look_writeCells] at hv
      by_cases hin : id' = id ∧ off ≤ o ∧ o < off + cs.length
      · obtain ⟨rfl, h1, h2⟩ := hin
        rw [if_pos ⟨rfl, h1, h2⟩] at hv
        have hlt : o - off < cs.length := by omega
        rw [List.getElem?_eq_getElem hlt] at hv
        simp only [Option.map_some, Option.some_or, Option.some.injEq, Prod.mk.injEq] at hv
        obtain ⟨rfl, rfl⟩ := hv
        obtain ⟨v1, hv1, hj1⟩ := hold (o - off) hlt
        have hlo := (hR.cell id' (off + (o - off)) [] v1 hv1 hj1).2.2.2
        rw [show off + (o - off) = o by omega] at hlo
        refine ⟨⟨xs.getD (o - off) undef, ?_, hden (hd.2 _ hlt)⟩, fun o' => ?_, hns, hlo⟩
        · rw [setCells_cell _ _ _ _ _ hcell, if_pos (by simp [hd.1]; omega)]
          simp only [Nat.add_zero]
          have : o - off < xs.size := by rw [hd.1]; exact hlt
          simp [this]
        · rw [setCells_frozen]; exact hfz o'
      · rw [if_neg hin, Option.none_or] at hv
        obtain ⟨⟨y, hy, hdy⟩, hfz', hns', hlo'⟩ := hR.cell id' o g v hv hj
        refine ⟨⟨y, ?_, hden hdy⟩, fun o' => by rw [setCells_frozen]; exact hfz' o', hns', hlo'⟩
        by_cases he : (σ id').blk = (σ id).blk
        · have hid := (hR.dist false false id' id ⟨o, g, v, hv, hj⟩ hlive he).2
          subst hid
          rw [setCells_cell _ _ _ _ _ hcell, if_neg (by simp [hd.1]; omega)]
          exact hy
        · rw [← hy]
          exact World.cell?_of_block (w := w) (hblock _ he)
    row := fun id' g v hv hj => by
      simp only [look_writeCells, Option.none_or] at hv
      obtain ⟨h1, h2⟩ := hR.row id' g v hv hj
      refine ⟨h1.mono hc (fun _ _ h => h) hSb (fun hr hcap => hblock _ (fun he => ?_)), h2⟩
      have := (hR.dist true false id' id ⟨g, v, hv, hr, hcap⟩ hlive he).1
      cases this
    dist := fun b b' i j hi hj he => hR.dist b b' i j (up b i hi) (up b' j hj) he }
  exact ⟨S, σ, hR2.weaken (fun k e he => by split at he <;> simp_all), .junk _⟩

theorem did_alloc (hc : CfgOk c) (hR : RelAt c n w0 S0 S σ lk a w) {d : Nat} {cs : List (V A)} {xs : Array Value} (hd : DenA c S σ w cs xs) (t : TypeId)
    (hcs : all (fun v => avoids d v) cs = true) (hpin : d ∉ c.pins)
    (hfr : ∀ k g v, lk k = some (g, v) → entAvoids d (k, g, v) = true) :
    Did c n w0 S0 lk (some d) (writeCells d 0 cs) (.ptr d 0) a (.pointer (some ⟨w.heap.size, 0, none⟩)) (w.alloc (.cells xs t)) := by
  let σ' : Nat → Loc := fun i => if i = d then ⟨w.heap.size, 0, 0, none⟩ else σ i
  have hσ : ∀ v : V A, avoids d v = true → ∀ id, avoids id v = false → σ' id = σ id := fun v hv id hid => by
    have : id ≠ d := by intro e; subst e; rw [hv] at hid; cases hid
    simp [σ', this]
  have hblk : ∀ b, b < w.heap.size → (w.alloc (.cells xs t)).heap[b]? = w.heap[b]? := fun b hb => Below.heap_alloc _ _ _ hb
  have hden : ∀ {v x}, Den c S σ w v x → avoids d v = true → Den c S σ' (w.alloc (.cells xs t)) v x := fun h hv =>
    h.mono hc (fun _ _ h => h) (fun f b hb => hblk b (hR.sLt' f b hb)) (hσ _ hv)
  have hfr2 : ∀ k g v, lk k = some (g, v) → k ≠ .slot d → avoids d v = true := fun k g v hk hne => by
    have := hfr k g v hk
    simp only [entAvoids, Bool.and_eq_true, Bool.or_eq_true] at this
    rcases this.2 with h | h
    · cases k <;> simp at h; subst h; exact absurd rfl hne
    · exact h
  have hfr3 : ∀ id o e, lk (.cell id o) = some e → id ≠ d := fun id o e hk => by
    obtain ⟨g, v⟩ := e
    have := hfr _ g v hk
    simp only [entAvoids, Bool.and_eq_true, K.avoids] at this
    intro h; subst h; simp at this
  have hfr4 : ∀ id e, lk (.row id) = some e → id ≠ d := fun id e hk => by
    obtain ⟨g, v⟩ := e
    have := hfr _ g v hk
    simp only [entAvoids, Bool.and_eq_true, K.avoids] at this
    intro h; subst h; simp at this
  have up : ∀ b i, live (fun k => if some k = Option.map K.slot (some d) then none else (look k (writeCells d 0 cs)).or (lk k)) σ' b i → (b = false ∧ i = d) ∨ (i ≠ d ∧ live lk σ b i) := by
    intro b i h
    cases b
    · obtain ⟨o, g, v, hv, hj⟩ := h
      simp only [Option.map_some, Option.some.injEq, reduceCtorEq, if_false, look_writeCells] at hv
      by_cases hin : i = d ∧ 0 ≤ o ∧ o < 0 + cs.length
      · exact .inl ⟨rfl, hin.1⟩
      · rw [if_neg hin, Option.none_or] at hv; exact .inr ⟨hfr3 _ _ _ hv, o, g, v, hv, hj⟩
    · obtain ⟨g, v, hv, h2, h3⟩ := h
      simp only [Option.map_some, Option.some.injEq, reduceCtorEq, if_false, look_writeCells, Option.none_or] at hv
      have hne := hfr4 _ _ hv
      exact .inr ⟨hne, g, v, hv, h2, by simpa [σ', hne] using h3⟩
  refine ⟨S, σ', {
    inv := hc.inv _ _ _ _ hR.inv (fun _ h => h) (fun b h => hblk b (hR.sLt b h))
    defers := hR.defers
    size := hR.size
    below := hR.below.below ((Below.refl _ _).alloc (Nat.le_refl _) _)
    s0 := hR.s0
    pin := fun id hid => by
      have hne : id ≠ d := fun e => hpin (e ▸ hid)
      have hs : σ' id = σ id := by simp [σ', hne]
      rw [hs]; exact hR.pin id hid
    sT := hR.sT
    sNew := hR.sNew
    sLt := fun b hb => by have := hR.sLt b hb; simp; omega
    slot := fun i g v hv hj => by
      simp only [Option.map_some, Option.some.injEq] at hv
      split at hv
      · cases hv
      · rename_i hne
        simp only [look_writeCells, Option.none_or] at hv
        exact ⟨(hR.slot i g v hv hj).1, fun hg => hden ((hR.slot i g v hv hj).2.1 hg) (hfr2 _ _ _ hv hne), (hR.slot i g v hv hj).2.2⟩
    cell := fun id o g v hv hj => by
      simp only [Option.map_some, Option.some.injEq, reduceCtorEq, if_false, look_writeCells] at hv
      by_cases hin : id = d ∧ 0 ≤ o ∧ o < 0 + cs.length
      · obtain ⟨rfl, _, h2⟩ := hin
        rw [if_pos ⟨rfl, Nat.zero_le _, h2⟩] at hv
        have hlt : o < cs.length := by omega
        simp only [Nat.sub_zero, List.getElem?_eq_getElem hlt, Option.map_some, Option.some_or, Option.some.injEq, Prod.mk.injEq] at hv
        obtain ⟨rfl, rfl⟩ := hv
        have hs : (σ' id).blk = w.heap.size := by simp [σ']
        have hlt' : o < xs.size := by rw [hd.1]; exact hlt
        refine ⟨⟨xs.getD o undef, ?_, hden (hd.2 _ hlt) (all_mem hcs _ (List.getElem_mem hlt))⟩, fun o' => ?_, ?_, .inl ?_⟩
        · rw [hs, World.cell?_alloc_new]; simp [hlt']
        · rw [hs]; simp
        · rw [hs]; intro h; have := hR.sLt _ h; omega
        · rw [hs]; exact hR.below.size
      · rw [if_neg hin, Option.none_or] at hv
        have hne := hfr3 _ _ _ hv
        have hs : σ' id = σ id := by simp [σ', hne]
        obtain ⟨⟨y, hy, hdy⟩, hfz', hns', hlo'⟩ := hR.cell id o g v hv hj
        have hlt := hR.lt (b := false) ⟨o, g, v, hv, hj⟩
        rw [hs]
        refine ⟨⟨y, ?_, hden hdy (hfr2 _ _ _ hv (by simp))⟩, fun o' => ?_, hns', hlo'⟩
        · rw [← hy]; exact World.cell?_of_block (w := w) (hblk _ hlt)
        · rw [← hfz' o']; exact World.frozen?_of_block (w := w) (hblk _ hlt)
    row := fun id g v hv hj => by
      simp only [Option.map_some, Option.some.injEq, reduceCtorEq, if_false, look_writeCells, Option.none_or] at hv
      have hne := hfr4 _ _ hv
      have hs : σ' id = σ id := by simp [σ', hne]
      obtain ⟨h1, h2⟩ := hR.row id g v hv hj
      rw [hs]
      exact ⟨h1.mono hc (fun _ _ h => h) (fun f b hb => hblk b (hR.sLt' f b hb)) (fun hr hcap => hblk _ (hR.lt (b := true) ⟨g, v, hv, hr, hcap⟩)), h2⟩
    dist := fun b b' i j hi hj he => by
      rcases up b i hi with ⟨rfl, rfl⟩ | ⟨hi1, hi2⟩ <;> rcases up b' j hj with ⟨rfl, rfl⟩ | ⟨hj1, hj2⟩
      · exact ⟨rfl, rfl⟩
      · have := hR.lt hj2; simp [σ', hj1] at he; omega
      · have := hR.lt hi2; simp [σ', hi1] at he; omega
      · simp [σ', hi1, hj1] at he; exact hR.dist b b' i j hi2 hj2 he }, ?_⟩
  have : (⟨w.heap.size, 0, none⟩ : Addr) = ⟨(σ' d).blk, 0, none⟩ := by simp [σ']
  rw [this]
  exact .ptr d 0

/-- The entry of a row that is forgotten. -/
def killE : Option Nat → Env A
  | some r => [(.row r, [], .junk)]
  | none => []

/-- A row is laid; another one may be forgotten, whose block it may be. -/
theorem did_new (hc : CfgOk c) (hR : RelAt c n w0 S0 S σ lk a w) {d : Nat} (hpin : d ∉ c.pins) (hfr : ∀ k g v, lk k = some (g, v) → entAvoids d (k, g, v) = true) {kill : Option Nat} {X : Nat → Prop} {w' : World}
    {L : Loc} {t : Nat} {f : Bool} {m : Option Nat} {l : List (A t)} {v : V A} {x : Value} (hb : Bel ⟨w, fun b _ => X b⟩ w')
    (hk : ∀ r, kill = some r → ∃ g u, lk (.row r) = some (g, u) ∧ u.isRowc = true)
    (hX : ∀ b, X b → ∃ r, kill = some r ∧ (σ r).cap ≠ 0 ∧ b = (σ r).blk)
    (hrow : RowAt c S σ w' L t f m l) (hL : L.cap ≠ 0 → w.heap.size ≤ L.blk ∨ ∃ r, kill = some r ∧ (σ r).cap ≠ 0 ∧ L.blk = (σ r).blk)
    (hv : (v = .own d ∧ x = .slice L.base L.len L.cap) ∨ (v = .ptr d 0 ∧ x = .pointer (some ⟨L.blk, 0, none⟩))) :
    Did c n w0 S0 lk (some d) ((.row d, [], .rowc t f m l) :: killE kill) v a x w' := by
  have hkl : ∀ r, kill = some r → (σ r).cap ≠ 0 → live lk σ true r := fun r hr hcap => by
    obtain ⟨g, u, h1, h2⟩ := hk r hr
    exact ⟨g, u, h1, h2, hcap⟩
  have hkr : ∀ r, kill = some r → (σ r).cap ≠ 0 → ¬ S false (σ r).blk ∧ w0.heap.size ≤ (σ r).blk := fun r hr hcap => by
    obtain ⟨g, u, h1, h2⟩ := hk r hr
    exact (hR.row r g u h1 (rowc_junk h2)).2 h2 hcap
  let lk' : K → Option (Ent A) := fun k => if k = .slot d then none else if kill.map K.row = some k then none else lk k
  have hsub : Sub lk' lk := fun k g v h _ => by
    simp only [lk'] at h
    split at h
    · cases h
    · split at h
      · cases h
      · exact h
  have hlive : ∀ b id, live lk' σ b id → live lk σ b id ∧ ∀ r, kill = some r → (σ r).cap ≠ 0 → (σ id).blk ≠ (σ r).blk := fun b id h => by
    refine ⟨hsub.live h, fun r hr hcap he => ?_⟩
    obtain ⟨rfl, rfl⟩ := hR.dist b true id r (hsub.live h) (hkl r hr hcap) he
    obtain ⟨g, u, h1, _⟩ := h
    simp [lk', hr] at h1
  have hR2 := hR.rowStep hc (lk' := lk') hsub hb (fun b hb => by obtain ⟨r, h1, h2, rfl⟩ := hX b hb; exact hkr r h1 h2)
    (fun b id h hx => by obtain ⟨r, h1, h2, h3⟩ := hX _ hx; exact (hlive b id h).2 r h1 h2 h3) (d := d) (L := L) (.inr hpin) (.inr fun k g v h hj => ?_) hrow (fun hcap => ?_)
  · refine ⟨S, _, hR2.sub (fun k g u h hj => ?_), ?_⟩
    · simp only [Option.map_some, Option.some.injEq] at h
      split at h
      · cases h
      · rename_i hne
        simp only [look_cons] at h
        by_cases hkd : k = .row d
        · simpa [hkd] using h
        · simp only [hkd, if_false] at h ⊢
          simp only [lk', hne, if_false]
          cases kill with
          | none => simpa [killE, look] using h
          | some r =>
            simp only [killE, look_cons, look] at h
            by_cases hkr : k = .row r
            · simp [hkr] at h
              obtain ⟨_, rfl⟩ := h
              cases hj
            · have : ¬ (K.row r = k) := fun e => hkr e.symm
              simpa [hkr, this] using h
    · have e : (fun i => if i = d then L else σ i) d = L := by simp
      rcases hv with ⟨rfl, rfl⟩ | ⟨rfl, rfl⟩
      · have := Den.own (c := c) (S := S) (σ := fun i => if i = d then L else σ i) (w := w') d
        simpa using this
      · have := Den.ptr (c := c) (S := S) (σ := fun i => if i = d then L else σ i) (w := w') d 0
        simpa using this
  · have h1 : lk k = some (g, v) := hsub k g v h hj
    have := hfr k g v h1
    simp only [entAvoids, Bool.and_eq_true, Bool.or_eq_true] at this
    refine ⟨?_, this.1.1⟩
    rcases this.2 with h2 | h2
    · cases k <;> simp at h2
      subst h2
      simp [lk'] at h
    · exact h2
  · rcases hL hcap with h1 | ⟨r, h1, h2, h3⟩
    · refine ⟨fun hs => ?_, Nat.le_trans hR.below.size h1, fun b id h he => ?_⟩
      · have := hR.sLt _ hs; omega
      · have := hR.lt (hlive b id h).1; omega
    · rw [h3]
      obtain ⟨h4, h5⟩ := hkr r h1 h2
      exact ⟨h4, h5, fun b id h => (hlive b id h).2 r h1 h2⟩

/-- What lies in a row turns. -/
theorem did_set (hc : CfgOk c) (hR : RelAt c n w0 S0 S σ lk a w) {r : Nat} {g : Chain} {t : Nat} {f f' : Bool} {m : Option Nat} {l l' : List (A t)} (hr : lk (.row r) = some (g, .rowc t f m l)) {w' : World}
    (hb : (σ r).cap ≠ 0 → Bel ⟨w, fun b _ => b = (σ r).blk⟩ w') (hb0 : (σ r).cap = 0 → w' = w) (hrow : RowAt c S σ w' (σ r) t f' m l') {dst : Option Nat} {x : Value} :
    Did c n w0 S0 lk dst [(.row r, [], .rowc t f' m l')] .junk a x w' := by
  obtain ⟨_, h2⟩ := hR.row r g _ hr rfl
  have h2 := h2 rfl
  let lk' : K → Option (Ent A) := fun k => if k = .row r then none else lk k
  have hsub : Sub lk' lk := fun k g v h _ => by
    simp only [lk'] at h
    split at h
    · cases h
    · exact h
  have hlive : ∀ b id, live lk' σ b id → (σ r).cap ≠ 0 → (σ id).blk ≠ (σ r).blk := fun b id h hcap he => by
    obtain ⟨rfl, rfl⟩ := hR.dist b true id r (hsub.live h) ⟨g, _, hr, rfl, hcap⟩ he
    obtain ⟨g, u, h1, _⟩ := h
    simp [lk'] at h1
  have hbel : Bel ⟨w, fun b _ => (σ r).cap ≠ 0 ∧ b = (σ r).blk⟩ w' := by
    by_cases hcap : (σ r).cap = 0
    · rw [hb0 hcap]; exact Bel.refl _
    · have := hb hcap
      exact ⟨this.os, this.tape, this.output, this.size, fun k hk hn => this.block k hk (fun o h => hn o ⟨hcap, h⟩), fun k o hk hn => this.cell k o hk (fun h => hn ⟨hcap, h⟩), this.frozen⟩
  have hR2 := hR.rowStep hc (lk' := lk') hsub hbel (fun b hb => by obtain ⟨h1, rfl⟩ := hb; exact h2 h1) (fun b id h hx => hlive b id h hx.1 hx.2) (d := r) (L := σ r) (.inl rfl) (.inl rfl) hrow (fun hcap => ⟨(h2 hcap).1, (h2 hcap).2, fun b id h => hlive b id h hcap⟩)
  have e : (fun i => if i = r then σ r else σ i) = σ := by funext i; by_cases h : i = r <;> simp [h]
  rw [e] at hR2
  refine ⟨S, σ, hR2.sub (fun k g u h hj => ?_), .junk _⟩
  split at h
  · cases h
  · rename_i hne
    rw [look_cons] at h
    by_cases hk : k = .row r
    · simpa [hk] using h
    · simpa [hk, lk', look] using h

end
end Vm
