/-
  What the interpreter says of one operation is so: rows that are frozen, made, grown, read and written to.
-/
import Derived.Test.YthnlknegnlmklaaVm6
set_option linter.all false
namespace Vm
open Go Go.RowKit
variable {A : Nat → Type}

section
variable {P : Program} {w : World}

theorem run_app (t ty e : TypeId) (inf : TypeInfo) (z : Value) (ht : P.underlying t = some (.slice e)) (hi : P.info? e = some inf) (hz : inf.zero = some z)
    (bx : Option Addr) (n cap : Nat) (yb : Option Addr) (m cy : Nat) (olds news : List Value)
    (hx : (Builtin.firstCells inf.size n (.slice bx n cap)).run P w.drew = .ok olds.toArray w.drew)
    (hy : (Builtin.firstCells inf.size m (.slice yb m cy)).run P w = .ok news.toArray w) (hy' : (Builtin.firstCells inf.size m (.slice yb m cy)).run P w.drew = .ok news.toArray w.drew)
    (hb0 : inf.bytes ≠ 0) (hbytes : (n + m) * inf.bytes ≤ 140737488355328) :
    (n + m ≤ cap → ∀ w', (match bx with | some b => (storeCells (b.add (n * inf.size)) news 0).run P w = .ok () w' | none => w' = w) → (Builtin.append_ #[t, t] ty #[.slice bx n cap, .slice yb m cy]).run P w = .ok (.slice bx (n + m) cap) w') ∧
    (cap < n + m → (Builtin.append_ #[t, t] ty #[.slice bx n cap, .slice yb m cy]).run P w = .ok (.slice (some ⟨w.heap.size, 0, none⟩) (n + m) (grownCap w (n + m) cap e))
        (w.drew.alloc (.cells (olds.toArray ++ news.toArray ++ Builtin.zeroCells z.cells (grownCap w (n + m) cap e - (n + m))) e))) := by
  have hsm : n + m ≤ 140737488355328 := Nat.le_trans (Nat.le_mul_of_pos_right _ (Nat.pos_of_ne_zero hb0)) hbytes
  constructor
  · intro hroom w' hw'
    cases bx with
    | none =>
      simp only at hw'
      subst hw'
      simp [Builtin.append_, run_underlying ht, Go.sizeOf, typeInfo, hi, Builtin.lenOf, hroom, hy]
    | some b =>
      simp only at hw'
      simp [Builtin.append_, run_underlying ht, Go.sizeOf, typeInfo, hi, Builtin.lenOf, hroom, hy, hw']
  · intro hg
    have hn : ¬ (n + m ≤ cap) := by omega
    have h63' : ¬ (9223372036854775807 < ((n : Int) + (m : Int))) := by omega
    have h48 := growslice_fits hg hbytes
    have h48' : ¬ (281474976710656 < Builtin.nextslicecap (n + m) cap * inf.bytes) := by omega
    simp [Builtin.append_, run_underlying ht, Go.sizeOf, typeInfo, zeroValue, hi, hz, Builtin.lenOf, hn, h63', h48', Question.forced, hx, hy', newRow, grownCap]
    congr 2
    apply Array.ext'
    simp

end

section
variable {c : Cfg A} {n : Nat} {w0 : W1} {S0 : Nat → Prop} {S : Fz} {σ : Nat → Loc} {lk : K → Option (Ent A)} {a : Act} {w : World}

/-- The cells of a list, one behind the other. -/
def CellsAt (c : Cfg A) (S : Fz) (σ : Nat → Loc) (w : World) (t : Nat) (f : Bool) (l : List (A t)) (xs : List Value) : Prop :=
  xs.length = l.length * (c.ty t).size ∧ (∀ j (hj : j < l.length), (c.C.enc t l[j]).length = (c.ty t).size) ∧
    ∀ j q (hj : j < l.length) (hq : q < (encF c t f l[j]).length), Den c S σ w (encF c t f l[j])[q] (xs.getD (j * (c.ty t).size + q) undef)

/-- Those of a slice that is read. -/
theorem cells_read {t : Nat} {f : Bool} {l : List (A t)} {b : Addr} (hen : ∀ j (hj : j < l.length), (c.C.enc t l[j]).length = (c.ty t).size)
    (hw : ∀ j q, j < l.length → q < (c.ty t).size → ∃ y, w.cell? (b.add (j * (c.ty t).size + q)) = some y ∧ ∀ (hj : j < l.length) (hq : q < (encF c t f l[j]).length), Den c S σ w (encF c t f l[j])[q] y) :
    ∃ xs, CellsAt c S σ w t f l xs ∧ ∀ j v, xs[j]? = some v → w.cell? (b.add j) = some v := by
  refine ⟨(List.range (l.length * (c.ty t).size)).map fun k => (w.cell? (b.add k)).getD undef, ⟨by simp, hen, fun j q hj hq => ?_⟩, fun j v hv => ?_⟩
  · have hq' : q < (c.ty t).size := by rw [encF_length, hen j hj] at hq; exact hq
    obtain ⟨y, hy, hd⟩ := hw j q hj hq'
    have h1 : j * (c.ty t).size + q < l.length * (c.ty t).size := by
      have : (j + 1) * (c.ty t).size ≤ l.length * (c.ty t).size := Nat.mul_le_mul_right _ (by omega)
      rw [Nat.succ_mul] at this; omega
    have e : ((List.range (l.length * (c.ty t).size)).map fun k => (w.cell? (b.add k)).getD undef).getD (j * (c.ty t).size + q) undef = y := by
      simp [h1, hy]
    rw [e]; exact hd hj hq
  · obtain ⟨hj, rfl⟩ := List.getElem?_eq_some_iff.1 hv
    simp only [List.length_map, List.length_range] at hj
    simp only [List.getElem_map, List.getElem_range]
    have hs : 0 < (c.ty t).size := by
      rcases Nat.eq_zero_or_pos (c.ty t).size with h | h
      · rw [h] at hj; simp at hj
      · exact h
    have h1 : j / (c.ty t).size < l.length := Nat.div_lt_of_lt_mul (by rw [Nat.mul_comm]; exact hj)
    obtain ⟨y, hy, _⟩ := hw (j / (c.ty t).size) (j % (c.ty t).size) h1 (Nat.mod_lt _ hs)
    rw [Nat.div_add_mod'] at hy
    rw [hy]; rfl

theorem cells_of_list {t : Nat} {f : Bool} {l : List (A t)} {x : Value} (h : Den c S σ w (.list t f l) x) :
    ∃ p cap xs, x = .slice p l.length cap ∧ l.length ≤ cap ∧ CellsAt c S σ w t f l xs ∧ (∀ b, p = some b → ∀ j v, xs[j]? = some v → w.cell? (b.add j) = some v) ∧ (p = none → l = []) ∧ (l ≠ [] → ∀ b, p = some b → S f b.block) := by
  cases h with
  | list _ _ _ p cap b y hp hc hS hn he hw hd =>
    by_cases hl : l = []
    · subst hl
      exact ⟨p, cap, [], rfl, hc, ⟨by simp, fun j hj => absurd hj (Nat.not_lt_zero _), fun j q hj => absurd hj (Nat.not_lt_zero _)⟩, fun _ _ j v hv => by simp at hv, fun _ => rfl, fun h => absurd rfl h⟩
    · obtain ⟨xs, h1, h2⟩ := cells_read (c := c) (S := S) (σ := σ) (w := w) (f := f) (b := b) he (fun j q hj hq => ⟨_, hw j q hj hq, fun hj' hq' => hd j q hj' hq'⟩)
      have hpb := hp hl
      exact ⟨p, cap, xs, rfl, hc, h1, fun b' hb' => by rw [hpb] at hb'; cases hb'; exact h2, fun h => (by rw [hpb] at h; cases h), fun _ b' hb' => by rw [hpb] at hb'; cases hb'; exact hS hl⟩

theorem cells_of_row {L : Loc} {t : Nat} {f : Bool} {l : List (A t)} (h : RowAt c S σ w L t f none l) :
    ∃ xs, CellsAt c S σ w t f l xs ∧ (∀ b, L.base = some b → ∀ j v, xs[j]? = some v → w.cell? (b.add j) = some v) ∧ (L.base = none → l = []) ∧ (L.cap ≠ 0 → L.base = some ⟨L.blk, 0, none⟩) := by
  have hb := h.base rfl
  by_cases hl : l = []
  · subst hl
    exact ⟨[], ⟨by simp, fun j hj => absurd hj (Nat.not_lt_zero _), fun j q hj => absurd hj (Nat.not_lt_zero _)⟩, fun _ _ j v hv => by simp at hv, fun _ => rfl, hb⟩
  · have hcap : L.cap ≠ 0 := by have := List.length_pos_iff.2 hl; have := h.cap; omega
    have hbase := hb hcap
    obtain ⟨xs, h1, h2⟩ := cells_read (c := c) (S := S) (σ := σ) (w := w) (f := f) (b := ⟨L.blk, 0, none⟩) h.enc (fun j q hj hq => by
      obtain ⟨y, hy, hd⟩ := h.cells j q hj (by rw [encF_length, h.enc j hj]; exact hq)
      exact ⟨y, by rw [add_plain, Nat.zero_add]; exact hy, fun _ _ => hd⟩)
    exact ⟨xs, h1, fun b hb' => by rw [hbase] at hb'; cases hb'; exact h2, fun h => (by rw [hbase] at h; cases h), hb⟩

theorem run_first {P : Program} {w : World} {size len cap : Nat} {p : Option Addr} {xs : List Value} (hl : xs.length = len * size) (h : ∀ b, p = some b → ∀ j v, xs[j]? = some v → w.cell? (b.add j) = some v) (hn : p = none → xs = []) :
    (Builtin.firstCells size len (.slice p len cap)).run P w = .ok xs.toArray w := by
  cases p with
  | none => rw [hn rfl]; simp [Builtin.firstCells]
  | some b => exact run_firstCells_some (P := P) w size len b len cap xs hl (h b rfl)

theorem encF_get (c : Cfg A) (t : Nat) (f : Bool) (b : A t) {q : Nat} (hq : q < (encF c t f b).length) : ∃ v ∈ c.C.enc t b, (encF c t f b)[q] = frs f v := by
  rw [encF_length] at hq
  exact ⟨_, List.getElem_mem hq, by simp only [encF, mapV_eq, List.getElem_map]⟩

theorem CellsAt.one (hc : CfgOk c) {t : Nat} {f : Bool} {l : List (A t)} {xs : List Value} (h : CellsAt c S σ w t f l xs) : ∀ u ∈ xs, u.oneCell' = true := by
  intro u hu
  obtain ⟨k, hk, rfl⟩ := List.mem_iff_getElem.1 hu
  have hs : 0 < (c.ty t).size := by
    rcases Nat.eq_zero_or_pos (c.ty t).size with h0 | h0
    · rw [h.1, h0] at hk; simp at hk
    · exact h0
  have hj : k / (c.ty t).size < l.length := Nat.div_lt_of_lt_mul (by rw [Nat.mul_comm, ← h.1]; exact hk)
  have hq : k % (c.ty t).size < (encF c t f l[k / (c.ty t).size]).length := by rw [encF_length, h.2.1 _ hj]; exact Nat.mod_lt _ hs
  have := h.2.2 _ _ hj hq
  rw [Nat.div_add_mod'] at this
  rw [show xs.getD k undef = xs[k] by simp [hk]] at this
  refine this.one ?_
  obtain ⟨v, hv, he⟩ := encF_get c t f _ hq
  rw [he]
  have h1 : Vm.one v = true := all_mem (hc.one t _) _ hv
  cases v <;> simp_all [frs, Vm.one]

theorem CellsAt.less (hS : ∀ b, S true b → S false b) {t : Nat} {f f' : Bool} {l : List (A t)} {xs : List Value} (h : CellsAt c S σ w t f l xs) (hf : f' = true → f = true) : CellsAt c S σ w t f' l xs :=
  ⟨h.1, h.2.1, fun j q hj hq => by
    have := h.2.2 j q hj (by rw [encF_length] at hq ⊢; exact hq)
    refine Den.less hS this ?_
    simp only [encF, mapV_eq, List.getElem_map]
    exact less_frs hf _⟩

theorem CellsAt.append {t : Nat} {f : Bool} {l l' : List (A t)} {xs ys : List Value} (h : CellsAt c S σ w t f l xs) (h' : CellsAt c S σ w t f l' ys) : CellsAt c S σ w t f (l ++ l') (xs ++ ys) := by
  refine ⟨by rw [List.length_append, List.length_append, h.1, h'.1, Nat.add_mul], fun j hj => ?_, fun j q hj hq => ?_⟩
  · simp only [List.getElem_append]
    split
    · exact h.2.1 _ _
    · exact h'.2.1 _ _
  · by_cases hlt : j < l.length
    · have e : (l ++ l')[j] = l[j] := List.getElem_append_left hlt
      have hq1 : q < (encF c t f l[j]).length := by rw [e] at hq; exact hq
      have := h.2.2 j q hlt hq1
      have hb : j * (c.ty t).size + q < xs.length := by
        rw [h.1]
        have h1 : (j + 1) * (c.ty t).size ≤ l.length * (c.ty t).size := Nat.mul_le_mul_right _ (by omega)
        rw [Nat.succ_mul] at h1
        rw [encF_length, h.2.1 j hlt] at hq1
        omega
      rw [List.getD_eq_getElem?_getD, List.getElem?_append_left hb, ← List.getD_eq_getElem?_getD]
      simp only [e]; exact this
    · have hj' : j - l.length < l'.length := by simp at hj; omega
      have e : (l ++ l')[j] = l'[j - l.length] := List.getElem_append_right (by omega)
      have hq1 : q < (encF c t f l'[j - l.length]).length := by rw [e] at hq; exact hq
      have := h'.2.2 (j - l.length) q hj' hq1
      have hidx : j * (c.ty t).size + q = xs.length + ((j - l.length) * (c.ty t).size + q) := by
        rw [h.1, Nat.sub_mul]
        have : l.length * (c.ty t).size ≤ j * (c.ty t).size := Nat.mul_le_mul_right _ (by omega)
        omega
      rw [hidx, List.getD_eq_getElem?_getD, List.getElem?_append_right (by omega), Nat.add_sub_cancel_left, ← List.getD_eq_getElem?_getD]
      simp only [e]; exact this

theorem CellsAt.mono (hc : CfgOk c) {S' : Fz} {w' : World} {t : Nat} {f : Bool} {l : List (A t)} {xs : List Value} (h : CellsAt c S σ w t f l xs) (hS : ∀ f b, S f b → S' f b) (hw : ∀ f b, S f b → w'.heap[b]? = w.heap[b]?) {σ' : Nat → Loc} : CellsAt c S' σ' w' t f l xs :=
  ⟨h.1, h.2.1, fun j q hj hq => (h.2.2 j q hj hq).mono hc hS hw (fun id hid => by
    have : avoids id (encF c t f l[j])[q] = true := ok0_v (encF_ok hc t f _ _ hq)
    rw [this] at hid; cases hid)⟩

/-- Rows are frozen, one after the other. -/
theorem freezeL (hc : CfgOk c) (hR : RelAt c n w0 S0 S σ lk a w) {E : Env A} (hE : ∀ k e, look k E = some e → lk k = some e) : ∀ ids : List Nat,
    ∃ S' : Fz, (∀ f b, S f b → S' f b) ∧ RelAt c n w0 S0 S' σ (fun k => (look k (frz E ids)).or (lk k)) a w ∧
      ∀ r ∈ ids, ∀ t f l, look (.row r) E = some ([], .rowc t f none l) → look (.row r) (frz E ids) = some ([], .list t f l) := by
  intro ids
  induction ids with
  | nil => exact ⟨S, fun _ _ h => h, hR.weaken (fun k e h => by simpa [frz, look] using h), fun r hr => by cases hr⟩
  | cons r ids ih =>
    obtain ⟨S1, h1, hR1, h2⟩ := ih
    simp only [frz]
    split
    · rename_i t f l hrow
      have hlk := hE _ _ hrow
      by_cases hin : look (.row r) (frz E ids) = some ([], .list t f l)
      · refine ⟨S1, h1, hR1.weaken (fun k e h => ?_), fun r' hr' t' f' l' hrow' => ?_⟩
        · rw [look_cons] at h
          by_cases hk : k = .row r
          · subst hk; simp at h; subst h; rw [hin]; rfl
          · simpa [hk] using h
        · rw [look_cons]
          by_cases hrr : r' = r
          · subst hrr; rw [hrow] at hrow'; cases hrow'; simp
          · have : K.row r' ≠ K.row r := by intro h; cases h; exact hrr rfl
            rw [if_neg this]
            exact h2 r' (by cases hr' with | head => exact absurd rfl hrr | tail _ h => exact h) t' f' l' hrow'
      · have hnone : look (.row r) (frz E ids) = none := by
          have key : ∀ ids : List Nat, look (.row r) (frz E ids) = none ∨ look (.row r) (frz E ids) = some ([], .list t f l) := by
            intro ids
            induction ids with
            | nil => exact .inl rfl
            | cons s ids ih =>
              simp only [frz]
              split
              · rename_i t1 f1 l1 hs
                rw [look_cons]
                by_cases e : K.row r = K.row s
                · cases e; rw [hrow] at hs; cases hs; exact .inr (by simp)
                · rw [if_neg e]; exact ih
              · exact ih
          rcases key ids with h | h
          · exact h
          · exact absurd h hin
        have hR2 := hR1.freeze hc (r := r) (g := []) (t := t) (f := f) (l := l) (by simp only [hnone, Option.none_or]; exact hlk)
        refine ⟨_, fun f b h => .inl (h1 f b h), hR2.weaken (fun k e h => ?_), fun r' hr' t' f' l' hrow' => ?_⟩
        · rw [look_cons] at h
          by_cases hk : k = .row r
          · simpa [hk] using h
          · simpa [hk] using h
        · rw [look_cons]
          by_cases hrr : r' = r
          · subst hrr; rw [hrow] at hrow'; cases hrow'; simp
          · have : K.row r' ≠ K.row r := by intro h; cases h; exact hrr rfl
            rw [if_neg this]
            exact h2 r' (by cases hr' with | head => exact absurd rfl hrr | tail _ h => exact h) t' f' l' hrow'
    · rename_i hno
      refine ⟨S1, h1, hR1, fun r' hr' t' f' l' hrow' => ?_⟩
      cases hr' with
      | head => exact absurd hrow' (hno _ _ _)
      | tail _ h => exact h2 r' h t' f' l' hrow'

/-- A row that is frozen, as a list. -/
theorem frozen_den {S' : Fz} {E : Env A} {ids : List Nat} (hE : ∀ k e, look k E = some e → lk k = some e)
    (hR : RelAt c n w0 S0 S' σ (fun k => (look k (frz E ids)).or (lk k)) a w) (hf : ∀ r ∈ ids, ∀ t f l, look (.row r) E = some ([], .rowc t f none l) → look (.row r) (frz E ids) = some ([], .list t f l)) {r : Nat} (hr : r ∈ ids) {t : Nat} {f : Bool} {l : List (A t)}
    (h : look (.row r) E = some ([], .rowc t f none l) ∨ look (.row r) E = some ([], .list t f l)) : Den c S' σ w (.list t f l) (.slice (σ r).base (σ r).len (σ r).cap) := by
  rcases h with h | h
  · exact (hR.row r [] (.list t f l) (by simp only [hf r hr t f l h]; rfl) rfl).1
  · have : look (.row r) (frz E ids) = none := by
      have key : ∀ ids : List Nat, look (.row r) (frz E ids) = none := by
        intro ids
        induction ids with
        | nil => rfl
        | cons s ids ih =>
          simp only [frz]
          split
          · rename_i t1 f1 l1 hs
            rw [look_cons]
            by_cases e : K.row r = K.row s
            · cases e; rw [h] at hs; cases hs
            · rw [if_neg e]; exact ih
          · exact ih
      exact key ids
    exact (hR.row r [] (.list t f l) (by simp only [this, Option.none_or]; exact hE _ _ h) rfl).1

theorem frzB_den (hc : CfgOk c) {S' : Fz} {E : Env A} {ids : List Nat} (hE : ∀ k e, look k E = some e → lk k = some e) (hSS : ∀ f b, S f b → S' f b)
    (hR : RelAt c n w0 S0 S' σ (fun k => (look k (frz E ids)).or (lk k)) a w) (hf : ∀ r ∈ ids, ∀ t f l, look (.row r) E = some ([], .rowc t f none l) → look (.row r) (frz E ids) = some ([], .list t f l))
    {v u : V A} {x : Value} (hin : ∀ r ∈ ownB v, r ∈ ids) (hd : Den c S σ w v x) (h : frzB E v = some u) : Den c S' σ w u x := by
  have up : ∀ {v : V A} {x}, Den c S σ w v x → Den c S' σ w v x := fun h => h.mono hc hSS (fun _ _ _ => rfl) (fun _ _ => rfl)
  cases v with
  | own r =>
    cases hd
    simp only [frzB] at h
    split at h
    · rename_i t f l hrow; cases h; exact frozen_den hE hR hf (hin r (by simp [ownB])) (.inl hrow)
    · rename_i t f l hrow; cases h; exact frozen_den hE hR hf (hin r (by simp [ownB])) (.inr hrow)
    · cases h
  | _ => simp only [frzB, Option.some.injEq] at h; subst h; exact up hd

theorem frzL_den (hc : CfgOk c) {S' : Fz} {E : Env A} {ids : List Nat} (hE : ∀ k e, look k E = some e → lk k = some e) (hSS : ∀ f b, S f b → S' f b)
    (hR : RelAt c n w0 S0 S' σ (fun k => (look k (frz E ids)).or (lk k)) a w) (hf : ∀ r ∈ ids, ∀ t f l, look (.row r) E = some ([], .rowc t f none l) → look (.row r) (frz E ids) = some ([], .list t f l)) :
    ∀ (cs cs' : List (V A)) (xs : List Value), (∀ r ∈ ownL cs, r ∈ ids) → xs.length = cs.length → (∀ i (hi : i < cs.length), Den c S σ w cs[i] (xs.getD i undef)) → frzL E cs = some cs' →
      cs'.length = cs.length ∧ ∀ i (hi : i < cs'.length), Den c S' σ w cs'[i] (xs.getD i undef) := by
  intro cs
  induction cs with
  | nil => intro cs' xs _ _ _ h; simp only [frzL, Option.some.injEq] at h; subst h; exact ⟨rfl, fun i hi => absurd hi (Nat.not_lt_zero _)⟩
  | cons v cs ih =>
    intro cs' xs hin hl hd h
    cases xs with
    | nil => simp at hl
    | cons x xs =>
      simp only [frzL] at h
      split at h
      · rename_i u us hu hus
        cases h
        obtain ⟨h1, h2⟩ := ih us xs (fun r hr => hin r (by simp [ownL, hr])) (by simpa using hl) (fun i hi => hd (i + 1) (Nat.succ_lt_succ hi)) hus
        refine ⟨by simp [h1], fun i hi => ?_⟩
        cases i with
        | zero => exact frzB_den hc hE hSS hR hf (fun r hr => hin r (by have hr : r ∈ ownB v := hr; simp [ownL, hr])) (hd 0 (Nat.zero_lt_succ _)) hu
        | succ i => exact h2 i (by simpa using hi)
      · cases h

end
end Vm
