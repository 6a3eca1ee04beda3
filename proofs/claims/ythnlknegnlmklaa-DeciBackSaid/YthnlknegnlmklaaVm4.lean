/-
  What the interpreter says of one operation is so: the operations that make nothing and write nothing, one by one.
-/
import Derived.Test.YthnlknegnlmklaaVm3
import Derived.Laws.Cover3
set_option linter.all false
namespace Vm
open Go Go.RowKit
variable {A : Nat → Type}

section
variable {c : Cfg A} {S : Fz} {σ : Nat → Loc} {w : World} {a : Act}

/-- An operation comes to a value, and leaves the world alone. -/
def Gives (c : Cfg A) (S : Fz) (σ : Nat → Loc) (w : World) (s : Sem Value) (v : V A) : Prop := ∃ x, s.run c.P w = .ok x w ∧ Den c S σ w v x

theorem gives_bin {op : BinOp} {t : TypeId} {ox oy : Operand} {vx vy v : V A} {x y : Value} {ps : List Prop} (hx : Den c S σ w vx x) (hy : Den c S σ w vy y)
    (k k' : IntKind) (p q : Int) (hvx : vx = .int k p) (hvy : vy = .int k' q) (hop : isShift op = false) (hk : ksame k k' = true)
    (h : binInt op k p q (sureOpd op oy) = some (v, ps)) (hps : All ps) (hsure : sureOpd op oy = true → q ≠ 0) : Gives c S σ w (do eqGuard op t ox oy x y; binOp op t x y) v := by
  subst hvx hvy
  have := ksame_eq hk; subst this
  have ex := hx.of_int; have ey := hy.of_int; subst ex ey
  have hg : eqGuard op t ox oy (.int k p) (.int k q) = pure () := eqGuard_at_int ..
  have hne : (match sureOpd op oy with | true => [] | false => [q ≠ 0]) = ps → q ≠ 0 := fun e => by
    subst e
    cases hs : sureOpd op oy with
    | true => exact hsure hs
    | false => rw [hs] at hps; exact hps
  cases op <;> simp only [binInt, Option.some.injEq, Prod.mk.injEq, reduceCtorEq] at h <;> (try (simp [isShift] at hop; done)) <;> obtain ⟨rfl, h2⟩ := h
  case quo => exact ⟨.int k (k.wrap (p.tdiv q)), by rw [hg]; simp [binOp, Op.intDiv, hne h2], .int _ _⟩
  case rem => exact ⟨.int k (p.tmod q), by rw [hg]; simp [binOp, Op.intDiv, hne h2], .int _ _⟩
  all_goals
    refine ⟨_, ?_, by constructor⟩
    rw [hg]
    simp [binOp, Op.intArith, Op.intCmp, intBits_and, intBits_or, intBits_xor, intBits_andNot]

theorem gives_shift {op : BinOp} {t : TypeId} {ox oy : Operand} {vx vy v : V A} {x y : Value} {ps : List Prop} (hx : Den c S σ w vx x) (hy : Den c S σ w vy y)
    (k k' : IntKind) (p q : Int) (hvx : vx = .int k p) (hvy : vy = .int k' q)
    (h : shift op k p q (sureOpd op oy) = some (v, ps)) (hps : All ps) (hsure : sureOpd op oy = true → isShift op = true → 0 ≤ q) : Gives c S σ w (do eqGuard op t ox oy x y; binOp op t x y) v := by
  subst hvx hvy
  have ex := hx.of_int; have ey := hy.of_int; subst ex ey
  have hg : eqGuard op t ox oy (.int k p) (.int k' q) = pure () := eqGuard_at_int ..
  have hne : isShift op = true → (match sureOpd op oy with | true => [] | false => [0 ≤ q]) = ps → 0 ≤ q := fun hop e => by
    subst e
    cases hs : sureOpd op oy with
    | true => exact hsure hs hop
    | false => rw [hs] at hps; exact hps
  cases op <;> simp only [shift, Option.some.injEq, Prod.mk.injEq, reduceCtorEq] at h <;> obtain ⟨rfl, h2⟩ := h
  all_goals
    have h0 := hne rfl h2
    refine ⟨_, ?_, by constructor⟩
    rw [hg]
    simp [binOp, Op.shift, Int.not_lt.2 h0]

theorem sure_quo {op : BinOp} {o : Operand} {k : IntKind} {q : Int} (h : sureOpd op o = true) (he : Den c S σ w (.int k q : V A) (a.eval o)) : (isShift op = false → q ≠ 0) ∧ (isShift op = true → 0 ≤ q) := by
  cases o with
  | const u =>
    have := he.of_int
    simp only [Act.eval] at this
    subst this
    cases q with
    | ofNat m =>
      cases m with
      | zero =>
        simp only [sureOpd] at h
        exact ⟨fun h' => (by rw [h] at h'; cases h'), fun _ => Int.le_refl _⟩
      | succ m => exact ⟨fun _ => (by intro e; cases e), fun _ => Int.natCast_nonneg _⟩
    | negSucc m =>
      simp only [sureOpd, Bool.not_eq_true'] at h
      exact ⟨fun _ => (by intro e; cases e), fun h' => (by rw [h] at h'; cases h')⟩
  | _ => simp [sureOpd] at h

theorem gives_str {op : BinOp} {t : TypeId} {ox oy : Operand} {vx vy v : V A} {x y : Value} {ps : List Prop} (hx : Den c S σ w vx x) (hy : Den c S σ w vy y)
    (p q : ByteArray) (hvx : vx = .str p) (hvy : vy = .str q) (h : binStr op p q = some (v, ps)) (hps : All ps) : Gives c S σ w (do eqGuard op t ox oy x y; binOp op t x y) v := by
  subst hvx hvy
  have ex := hx.of_str; have ey := hy.of_str; subst ex ey
  have hg : eqGuard op t ox oy (.string p) (.string q) = pure () := eqGuard_at_string ..
  cases op <;> simp only [binStr, Option.some.injEq, Prod.mk.injEq, reduceCtorEq] at h <;> obtain ⟨rfl, h2⟩ := h
  case add =>
    subst h2
    have h3 : ¬ ((p.size + q.size : Nat) : Int) > IntKind.i64.max := Int.not_lt.2 hps
    refine ⟨.string (p ++ q), ?_, .str _⟩
    rw [hg]
    simp only [binOp, Op.stringOp, if_neg h3]
    rfl
  all_goals
    refine ⟨_, ?_, by constructor⟩
    rw [hg]
    simp [binOp, Op.stringOp]

theorem eqS_den {v v' : V A} {x y : Value} {r : Bool} (h : eqS v v' = some r) (hx : Den c S σ w v x) (hy : Den c S σ w v' y) : eqVal x y = some r := by
  cases v <;> cases v' <;> simp only [eqS, reduceCtorEq] at h
  · split at h
    · rename_i hk
      have := ksame_eq hk; subst this
      have ex := hx.of_int; have ey := hy.of_int; subst ex ey
      simpa [eqVal] using h
    · cases h
  · have ex := hx.of_bool; have ey := hy.of_bool; subst ex ey; exact h
  · have ex := hx.of_str; have ey := hy.of_str; subst ex ey; exact h

theorem eqL_den : ∀ (cs ds : List (V A)) (xs ys : List Value) (r : Bool), eqL cs ds = some r → xs.length = cs.length → ys.length = ds.length →
    (∀ i (hi : i < cs.length), Den c S σ w cs[i] (xs.getD i undef)) → (∀ i (hi : i < ds.length), Den c S σ w ds[i] (ys.getD i undef)) → eqVals xs ys = some r := by
  intro cs
  induction cs with
  | nil =>
    intro ds xs ys r h hx hy _ _
    cases ds <;> simp only [eqL, reduceCtorEq] at h
    cases h
    have e1 : xs = [] := by simpa using hx
    have e2 : ys = [] := by simpa using hy
    subst e1 e2; rfl
  | cons v cs ih =>
    intro ds xs ys r h hx hy h1 h2
    cases ds with
    | nil => cases cs <;> simp [eqL] at h
    | cons v' ds =>
      cases xs with
      | nil => simp at hx
      | cons x xs =>
        cases ys with
        | nil => simp at hy
        | cons y ys =>
          have hxd : Den c S σ w v x := h1 0 (Nat.zero_lt_succ _)
          have hyd : Den c S σ w v' y := h2 0 (Nat.zero_lt_succ _)
          have r1 : ∀ i (hi : i < cs.length), Den c S σ w cs[i] (xs.getD i undef) := fun i hi => h1 (i + 1) (Nat.succ_lt_succ hi)
          have r2 : ∀ i (hi : i < ds.length), Den c S σ w ds[i] (ys.getD i undef) := fun i hi => h2 (i + 1) (Nat.succ_lt_succ hi)
          simp only [eqVals]
          cases cs with
          | nil =>
            cases ds with
            | nil =>
              simp only [eqL] at h
              have e1 : xs = [] := by simpa using hx
              have e2 : ys = [] := by simpa using hy
              subst e1 e2
              simp [eqS_den h hxd hyd, eqVals]
            | cons _ _ => simp only [eqL] at h; split at h <;> simp_all [eqL]
          | cons v2 cs =>
            have h' : (match eqS v v', eqL (v2 :: cs) ds with | some p, some q => some (p && q) | _, _ => none) = some r := by
              cases ds <;> exact h
            split at h'
            · rename_i p q hp hq
              cases h'
              rw [eqS_den hp hxd hyd, ih ds xs ys q hq (by simpa using hx) (by simpa using hy) r1 r2]
            · cases h'

theorem scVs_den : ∀ (sh : List Sc) (cs : List (V A)) (xs : List Value), scVs sh cs = true → xs.length = cs.length → (∀ i (hi : i < cs.length), Den c S σ w cs[i] (xs.getD i undef)) → scsOf sh xs = true := by
  intro sh
  induction sh with
  | nil =>
    intro cs xs h hl _
    cases cs with
    | nil => have : xs = [] := by simpa using hl
             subst this; rfl
    | cons _ _ => simp [scVs] at h
  | cons s sh ih =>
    intro cs xs h hl hd
    cases cs with
    | nil => simp [scVs] at h
    | cons v cs =>
      cases xs with
      | nil => simp at hl
      | cons x xs =>
        simp only [scVs, scsOf, Bool.and_eq_true] at h ⊢
        have hx : Den c S σ w v x := hd 0 (Nat.zero_lt_succ _)
        refine ⟨?_, ih cs xs h.2 (by simpa using hl) (fun i hi => hd (i + 1) (Nat.succ_lt_succ hi))⟩
        cases s <;> cases v <;> simp only [scV, reduceCtorEq] at h
        · rw [hx.of_int]; exact h.1
        all_goals first | (cases hx; rfl) | (simp at h)

theorem gives_agg (hc : CfgOk c) {op : BinOp} {t : TypeId} {ox oy : Operand} {cs ds : List (V A)} {v : V A} {x y : Value} {r : Bool} (hx : Den c S σ w (.agg cs) x) (hy : Den c S σ w (.agg ds) y)
    {sh : List Sc} (hf : (c.ty t).flat = some sh) (hs1 : scVs sh cs = true) (hs2 : scVs sh ds = true) (hr : eqL cs ds = some r) (h : op = .eql ∧ v = .bool r ∨ op = .neq ∧ v = .bool (!r)) : Gives c S σ w (do eqGuard op t ox oy x y; binOp op t x y) v := by
  obtain ⟨xs, rfl, hxs⟩ := hx.of_agg
  obtain ⟨ys, rfl, hys⟩ := hy.of_agg
  obtain ⟨hg, he⟩ := (hc.ty t).flat sh hf
  have hr' := eqL_den cs ds xs.toList ys.toList r hr (by simp [hxs.1]) (by simp [hys.1]) (fun i hi => by simpa using hxs.2 i hi) (fun i hi => by simpa using hys.2 i hi)
  have heq := he xs ys r w (scVs_den sh cs xs.toList hs1 (by simp [hxs.1]) (fun i hi => by simpa using hxs.2 i hi)) (scVs_den sh ds ys.toList hs2 (by simp [hys.1]) (fun i hi => by simpa using hys.2 i hi)) hr'
  have hgd : (eqGuard op t ox oy (.agg xs) (.agg ys)).run c.P w = .ok () w := run_eqGuard_agg w op t ox oy xs ys hg
  rcases h with ⟨rfl, rfl⟩ | ⟨rfl, rfl⟩
  · exact ⟨.bool r, by simp [hgd, binOp, heq], .bool _⟩
  · exact ⟨.bool (!r), by simp [hgd, binOp, heq], .bool _⟩

theorem gives_beq {op : BinOp} {t : TypeId} {ox oy : Operand} {p q : Bool} {v : V A} {x y : Value} (hx : Den c S σ w (.bool p) x) (hy : Den c S σ w (.bool q) y)
    (ht : c.P.underlying t = some .bool) (h : op = .eql ∧ v = .bool (p == q) ∨ op = .neq ∧ v = .bool (!(p == q))) : Gives c S σ w (do eqGuard op t ox oy x y; binOp op t x y) v := by
  have ex := hx.of_bool; have ey := hy.of_bool; subst ex ey
  have hg : eqGuard op t ox oy (.bool p) (.bool q) = pure () := eqGuard_at_bool ..
  rcases h with ⟨rfl, rfl⟩ | ⟨rfl, rfl⟩
  · exact ⟨.bool (p == q), by rw [hg]; simp [run_eql_bool _ _ _ _ ht], .bool _⟩
  · exact ⟨.bool (!(p == q)), by rw [hg]; simp [run_neq_bool _ _ _ _ ht], .bool _⟩

/-- Slices against nil. -/
theorem gives_nil {op : BinOp} {t e : TypeId} {ox oy : Operand} {v : V A} {x y : Value} {p : Option Addr} {m k : Nat} (ht : c.P.underlying t = some (.slice e)) (hx : x = .slice p m k) (hy : y = .slice none 0 0)
    (h : op = .eql ∧ v = .bool p.isNone ∨ op = .neq ∧ v = .bool (!p.isNone)) : Gives c S σ w (do eqGuard op t ox oy x y; binOp op t x y) v := by
  subst hx hy
  have heq := run_equal_slice_nil (P := c.P) w t e p m k ht
  rcases h with ⟨rfl, rfl⟩ | ⟨rfl, rfl⟩
  · have hg : eqGuard .eql t ox oy (.slice p m k) (.slice none 0 0) = pure () := rfl
    exact ⟨.bool p.isNone, by rw [hg]; simp [binOp, heq], .bool _⟩
  · have hg : eqGuard .neq t ox oy (.slice p m k) (.slice none 0 0) = pure () := rfl
    exact ⟨.bool (!p.isNone), by rw [hg]; simp [binOp, heq], .bool _⟩
theorem Den.of_cons {t : Nat} {f : Bool} {b : A t} {l : List (A t)} {x : Value} (h : Den c S σ w (.list t f (b :: l)) x) : ∃ p m k, x = .slice (some p) m k := by
  cases h with
  | list _ _ _ p cap b y hp hc hS hn he hw hd =>
    have := hp (by simp)
    subst this
    exact ⟨_, _, _, rfl⟩

/-- A part of a value's cells. -/
theorem part_den (hc : CfgOk c) {t off : Nat} {cs : List (V A)} {xs : Array Value} {v : V A} (h : Vm.part (c.ty t) cs off = some v) (hd : DenA c S σ w cs xs) : ∃ x, (Go.part t xs off).run c.P w = .ok x w ∧ Den c S σ w v x := by
  unfold Vm.part at h
  split at h
  · rename_i ha
    have hagg := (hc.ty t).agg _ ha w
    split at h
    · rename_i hz hle
      cases h
      have hsz := (hc.ty t).size (by intro e; rw [e] at hz; simp at hz) w
      have hle' : off + (c.ty t).size ≤ cs.length := by simpa using hle
      refine ⟨.agg (xs.extract off (off + (c.ty t).size)), by simp [Go.part, hagg, hsz], .agg _ _ (by simp [hd.1]; omega) fun i hi => ?_⟩
      simp only [List.length_take, List.length_drop] at hi
      have h1 : off + i < cs.length := by omega
      have := hd.2 (off + i) h1
      simp only [List.getElem_take, List.getElem_drop]
      have e : (xs.extract off (off + (c.ty t).size)).getD i undef = xs.getD (off + i) undef := by
        have h2 : off + i < xs.size := by rw [hd.1]; exact h1
        have h3 : i < (xs.extract off (off + (c.ty t).size)).size := by rw [Array.size_extract]; omega
        rw [Array.getD_eq_getD_getElem?, Array.getD_eq_getD_getElem?, Array.getElem?_eq_getElem h3, Array.getElem?_eq_getElem h2, Array.getElem_extract]
      rw [e]; exact this
    · cases h
  · rename_i ha
    have hagg := (hc.ty t).agg _ ha w
    rw [nth_eq] at h
    obtain ⟨hlt, hv⟩ := List.getElem?_eq_some_iff.1 h
    have hd' := hd.2 off hlt
    rw [hv] at hd'
    have hlt' : off < xs.size := by rw [hd.1]; exact hlt
    refine ⟨xs.getD off undef, ?_, hd'⟩
    simp [Go.part, hagg, hlt']
  · cases h

theorem gives_unop {op : UnOp} {vx v : V A} {x : Value} (hx : Den c S σ w vx x)
    (h : (match op, some vx with
      | .not, some (.bool b) => some (.bool (!b), ([] : Env A), ([] : List Prop))
      | .neg, some (.int k n) => some (.int k (k.wrap (0 - n)), [], [])
      | .xor, some (.int k n) => some (.int k (bits .xor k (if k.signed then -1 else k.max) n), [], [])
      | _, _ => none) = some (v, [], [])) : Gives c S σ w (Op.unary op x) v := by
  cases op <;> cases vx <;> simp only [reduceCtorEq, Option.some.injEq, Prod.mk.injEq, and_true] at h <;> subst h
  · have ex := hx.of_int; subst ex
    exact ⟨_, by simp [Op.unary, Op.intArith], .int _ _⟩
  · have ex := hx.of_int; subst ex
    exact ⟨_, by simp [Op.unary, intBits_xor], .int _ _⟩
  · have ex := hx.of_bool; subst ex
    exact ⟨_, by simp [Op.unary], .bool _⟩

theorem minmax_run (big : Bool) : ∀ (vs : List (V A)) (xs : List Value) (k : IntKind) (x : Int) (v : V A), minmax big k x vs = some v → xs.length = vs.length →
    (∀ i (hi : i < vs.length), Den c S σ w vs[i] (xs.getD i undef)) → ∃ z, (xs.foldlM (fun p q => if big then Builtin.max2 p q else Builtin.min2 p q) (.int k x)).run c.P w = .ok z w ∧ Den c S σ w v z := by
  intro vs
  induction vs with
  | nil =>
    intro xs k x v h hx _
    have e1 : xs = [] := by simpa using hx
    subst e1
    simp only [minmax, Option.some.injEq] at h
    subst h
    exact ⟨.int k x, by simp, .int _ _⟩
  | cons u vs ih =>
    intro xs k x v h hx hd
    cases xs with
    | nil => simp at hx
    | cons y xs =>
      have hy : Den c S σ w u y := hd 0 (Nat.zero_lt_succ _)
      cases u <;> simp only [minmax, reduceCtorEq] at h
      rename_i k' m
      have ey := hy.of_int; subst ey
      cases big
      · obtain ⟨z, hz, hdz⟩ := ih xs k _ v h (by simpa using hx) (fun i hi => hd (i + 1) (Nat.succ_lt_succ hi))
        exact ⟨z, by simpa [Builtin.min2] using hz, hdz⟩
      · obtain ⟨z, hz, hdz⟩ := ih xs k _ v h (by simpa using hx) (fun i hi => hd (i + 1) (Nat.succ_lt_succ hi))
        exact ⟨z, by simpa [Builtin.max2] using hz, hdz⟩

end
end Vm
