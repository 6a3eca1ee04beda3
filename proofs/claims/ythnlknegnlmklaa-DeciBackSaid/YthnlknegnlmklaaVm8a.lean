/-
  What the interpreter says of one operation is so: look-ups in maps, bytes as a string, and calls of functions that tests choose.
-/
import Derived.Test.YthnlknegnlmklaaVm7d
import Derived.Laws.BytesString
set_option linter.all false
namespace Vm
open Go Go.RowKit
variable {A : Nat → Type}

section
variable {c : Cfg A} {n : Nat} {w0 : W1} {S0 : Nat → Prop} {S : Fz} {σ : Nat → Loc} {lk : K → Option (Ent A)} {a : Act} {w : World}

/-! ### Maps -/

/-- What a map has at n. -/
def findV (n : Int) (z : Value) : List (Int × Value) → Value
  | [] => z
  | p :: l => match n == p.1 with
    | true => p.2
    | false => findV n z l

theorem selV_den (hS : ∀ b, S true b → S false b) (n : Int) {z : V A} {zv : Value} (hz : Den c S σ w z zv) : ∀ l : List (Int × Value), Den c S σ w (selV n z l) (findV n zv l)
  | [] => hz
  | p :: l => by
    refine Den.merge hS ?_
    simp only [findV]
    cases h : n == p.1 with
    | true => exact den_ofValue p.2
    | false => exact selV_den hS n hz l

theorem findNow_run (k : IntKind) (n : Int) : ∀ (es : List MapEntry) (l : List (Int × Value)) (i : Nat), es.map (fun e => (e.key, e.val)) = l.map (fun p => (Value.int k p.1, p.2)) →
    ∃ r, Instr.findNow (.int k) (.int k n) es i = some r ∧ ((hasN n l = true ∧ ∃ j, r = some (j, findV n undef l)) ∨ (hasN n l = false ∧ r = none))
  | [], [], i, _ => ⟨none, rfl, .inr ⟨rfl, rfl⟩⟩
  | [], _ :: _, _, h => by cases h
  | _ :: _, [], _, h => by cases h
  | e :: es, p :: l, i, h => by
    simp only [List.map_cons, List.cons.injEq, Prod.mk.injEq] at h
    obtain ⟨⟨h1, h2⟩, h3⟩ := h
    obtain ⟨r, hr, hh⟩ := findNow_run k n es l (i + 1) h3
    cases hb : n == p.1 with
    | true => exact ⟨some (i, e.val), by simp [Instr.findNow, h1, Instr.sameNow, hb], .inl ⟨by simp [hasN, hb], i, by simp [findV, hb, h2]⟩⟩
    | false => exact ⟨r, by simp [Instr.findNow, h1, Instr.sameNow, hb, hr], by simpa [hasN, findV, hb] using hh⟩

theorem findV_has {n : Int} {z z' : Value} : ∀ {l : List (Int × Value)}, hasN n l = true → findV n z l = findV n z' l
  | [], h => by cases h
  | p :: l, h => by
    simp only [findV]
    cases hb : n == p.1 with
    | true => rfl
    | false => simp [hasN, hb] at h; exact findV_has h
theorem findV_not {n : Int} {z : Value} : ∀ {l : List (Int × Value)}, hasN n l = false → findV n z l = z
  | [], _ => rfl
  | p :: l, h => by
    simp only [hasN, Bool.or_eq_false_iff] at h
    simp only [findV, h.1]
    exact findV_not h.2

theorem checkKey_int {P : Program} {kt : TypeId} {k : IntKind} (h : P.underlying kt = some (.int k)) (e : Bool) (n : Int) (w : World) : (Instr.checkKey e 10000 kt (.int k n)).run P w = .ok () w := by
  have key : ∀ m, (Instr.checkKey e (m + 1) kt (.int k n)).run P w = .ok () w := fun m => by
    simp [Instr.checkKey, run_underlying h]
  exact key 9999

theorem gives_lookup (hc : CfgOk c) (hS : ∀ b, S true b → S false b) {t e : Nat} {k : IntKind} (hm : (c.ty t).map = some (k, e)) {f : Bool} {l : List (Int × Value)} {x : Value} (hx : Den c S σ w (.cmap k f l : V A) x) {n : Int} {z : V A} (hz : zeroV (c.ty e) = some z) :
    Gives c S σ w (Instr.lookup t x (.int k n) true) (.tup [selV n z l, .bool (hasN n l)]) := by
  obtain ⟨kt, h1, h2⟩ := (hc.ty t).map k e hm
  unfold zeroV at hz
  split at hz
  · rename_i zv hzv
    cases hz
    have hzr := (hc.ty e).zero zv hzv w
    cases hx with
    | cmap _ _ _ b es ck hSb hb he =>
      obtain ⟨r, hr, hh⟩ := findNow_run k n es.toList l 0 he
      have hd := selV_den hS n (den_ofValue zv (c := c) (S := S) (σ := σ) (w := w)) l
      refine ⟨.tuple #[findV n zv l, .bool (hasN n l)], ?_, .tup _ _ rfl fun i hi => ?_⟩
      · have hg : (getObj b).run c.P w = .ok (.map es ck) w := by simp [getObj, Sem.run, hb]
        rcases hh with ⟨h3, j, rfl⟩ | ⟨h3, rfl⟩
        · rw [h3, findV_has (z := zv) (z' := undef) h3]
          simp [Instr.lookup, run_underlying h1, hg, checkKey_int h2, Instr.findKey, run_underlying h2, hr]
        · rw [h3, findV_not h3]
          simp [Instr.lookup, run_underlying h1, hg, checkKey_int h2, Instr.findKey, run_underlying h2, hr, hzr]
      · match i, hi with
        | 0, _ => exact hd
        | 1, _ => exact .bool _
  · cases hz

/-! ### Bytes as a string -/

theorem strOf_eq (hc : CfgOk c) {e : Nat} (hk : (c.ty e).kind = some .u8) : ∀ (l : List (A e)) (r : ByteArray), (∀ x ∈ l, c.C.enc e x ≠ []) →
    ∃ ns : List Int, ns.length = l.length ∧ (∀ j (hj : j < l.length) (hj' : j < ns.length), c.C.enc e l[j] = [.int .u8 ns[j]]) ∧
      l.foldl (pushB c e) r = ns.foldl (fun r n => r.push (UInt8.ofNat n.toNat)) r
  | [], r, _ => ⟨[], rfl, fun j hj => absurd hj (Nat.not_lt_zero _), rfl⟩
  | x :: l, r, h => by
    obtain ⟨m, hm⟩ : ∃ m, c.C.enc e x = [.int .u8 m] := by
      rcases hc.u8 e x hk with h0 | h0
      · exact absurd h0 (h x (List.mem_cons_self ..))
      · exact h0
    obtain ⟨ns, h1, h2, h3⟩ := strOf_eq hc hk l (r.push (UInt8.ofNat m.toNat)) (fun y hy => h y (List.mem_cons_of_mem _ hy))
    refine ⟨m :: ns, by simp [h1], fun j hj hj' => ?_, ?_⟩
    · cases j with
      | zero => exact hm
      | succ j => exact h2 j (by simpa using hj) (by simpa using hj')
    · have : pushB c e r x = r.push (UInt8.ofNat m.toNat) := by simp only [pushB, hm]
      simp only [List.foldl_cons, this]; exact h3

theorem run_loadCells {P : Program} {w : World} (b : Addr) (x : Nat → Value) (m : Nat) (h : ∀ j, j < m → w.cell? (b.add j) = some (x j)) :
    (loadCells b m).run P w = .ok ((List.range m).map x).toArray w := by
  unfold loadCells
  have := run_loadCellsFrom (P := P) (w := w) b x m 0 #[] (fun j hj => by simpa using h j hj)
  simpa using this

theorem gives_toStr (hc : CfgOk c) {s t e : Nat} (hs : (c.ty s).elem = some e) (he : (c.ty e).kind = some .u8) (ht : (c.ty t).str = true) (h1 : (c.ty e).size = 1) {f : Bool} {l : List (A e)} {x : Value} (hx : Den c S σ w (.list e f l) x) :
    Gives c S σ w (convert s t x) (.str (strOf c e l)) := by
  cases hx with
  | list _ _ _ p cap b y hp hcap hSb hn hen hw hd =>
    have hne : ∀ x ∈ l, c.C.enc e x ≠ [] := fun x hx h => by
      obtain ⟨j, hj, rfl⟩ := List.getElem_of_mem hx
      have := hen j hj
      rw [h, h1] at this; cases this
    obtain ⟨ns, n1, n2, n3⟩ := strOf_eq hc he l ByteArray.empty hne
    refine ⟨_, ?_, .str _⟩
    rw [run_convert_bytes_string w s t e p l.length cap ((hc.ty s).elem _ hs) ((hc.ty e).kind _ he) ((hc.ty t).str ht)]
    unfold strOf
    rw [n3]
    cases hl : l with
    | nil =>
      have : ns = [] := by rw [hl] at n1; simpa using n1
      subst this
      cases p with
      | none => simp [Conv.bytesToString]
      | some b' =>
        rw [run_bytesToString w b' _ cap [] (by simpa using run_loadCells (P := c.P) (w := w) b' (fun _ => undef) 0 (fun j hj => absurd hj (Nat.not_lt_zero _)))]
    | cons x0 l0 =>
      have hln : l ≠ [] := by rw [hl]; simp
      rw [hp hln, ← hl]
      refine run_bytesToString w b l.length cap ns ?_
      rw [run_loadCells b (fun j => y j 0) l.length (fun j hj => by simpa [h1] using hw j 0 hj (by omega))]
      congr 2
      apply List.ext_getElem (by simp [n1])
      intro j hj1 hj2
      simp only [List.getElem_map, List.getElem_range]
      have hj : j < l.length := by simpa using hj1
      have hj' : j < ns.length := by omega
      have hq : 0 < (encF c e f l[j]).length := by rw [encF_length, hen j hj, h1]; decide
      have hdd := hd j 0 hj hq
      have : (encF c e f l[j])[0] = .int .u8 ns[j] := by
        have h2 : encF c e f l[j] = [.int .u8 ns[j]] := by simp [encF, n2 j hj hj', mapV, frs]
        simp [h2]
      rw [this] at hdd
      exact hdd.of_int

/-! ### Functions that tests choose -/

theorem merge_olist {b : Bool} {v v' : V A} (t : Nat) (f : Bool) (l : List (A t)) : Vm.merge b v v' ≠ .olist t f l := by
  have hS : ∀ (u u' : V A), mergeS b u u' ≠ .olist t f l := by
    intro u u' h
    unfold mergeS at h
    split at h <;> first | cases h | (split at h <;> cases h)
  unfold Vm.merge
  split
  · split <;> intro h <;> cases h
  · split <;> intro h <;> cases h
  · exact hS _ _

theorem merge_olist_l {b : Bool} {v' : V A} (t : Nat) (f : Bool) (l : List (A t)) : Vm.merge b (.olist t f l) v' = .junk := by
  cases v' <;> rfl
theorem merge_olist_r {b : Bool} {v : V A} (t : Nat) (f : Bool) (l : List (A t)) : Vm.merge b v (.olist t f l) = .junk := by
  cases v <;> first | rfl | skip

theorem ResDen.merge {n : Nat} {S' : Fz} {σ' : Nat → Loc} {w' : World} (hS : ∀ b, S' true b → S' false b) {b : Bool} {r r' : V A} {x : Value} (h : if b then ResDen c n S' σ' w' r x else ResDen c n S' σ' w' r' x) : ResDen c n S' σ' w' (Vm.merge b r r') x := by
  have key : ∀ v : V A, (∀ t f l, v ≠ .olist t f l) → (ResDen c n S' σ' w' v x ↔ Den c S' σ' w' v x) := by
    intro v hv
    cases v <;> first | exact Iff.rfl | exact absurd rfl (hv _ _ _)
  rw [key _ (fun t f l => merge_olist t f l)]
  by_cases h1 : ∃ t f l, r = .olist t f l
  · obtain ⟨t, f, l, rfl⟩ := h1; rw [merge_olist_l]; exact .junk _
  by_cases h2 : ∃ t f l, r' = .olist t f l
  · obtain ⟨t, f, l, rfl⟩ := h2; rw [merge_olist_r]; exact .junk _
  refine Den.merge hS ?_
  cases b
  · exact (key r' (fun t f l e => h2 ⟨t, f, l, e⟩)).1 h
  · exact (key r (fun t f l e => h1 ⟨t, f, l, e⟩)).1 h

def Any (c : Cfg A) (f : Nat) (us : List (V A)) (r : V A) : Prop := ((∀ args w, (callFunc f args).run c.P w = .ok (.enter f args) w) ∧ CallOk c f us r []) ∨ ExtOk c f us r

theorem Any.merge {f : Nat} {us : List (V A)} {b : Bool} {r r' : V A} (h : Any c f us (bif b then r else r')) : Any c f us (Vm.merge b r r') := by
  rcases h with ⟨h1, h2⟩ | h
  · refine .inl ⟨h1, fun w S σ β xs hT hS hI hA => (h2 w S σ β xs hT hS hI hA).mono ?_⟩
    rintro e w' ⟨x, he, hb, S', k1, k2, k3, k4⟩
    exact ⟨x, he, hb, S', k1, k2, ResDen.merge k2 (by cases b <;> simpa using k3), k4⟩
  · refine .inr fun w S σ xs hT hl hd => ?_
    obtain ⟨x, hx, hr⟩ := h w S σ xs hT hl hd
    exact ⟨x, hx, Den.merge hT (by cases b <;> simpa using hr)⟩

theorem callS_ok (hc : CfgOk c) {us : List (V A)} : ∀ {l : List (Bool × Nat)} {r : V A} {p : Prop}, callS c us l = some (r, p) → p → ∃ f, sfnVal l = .func (.func f) #[] #[] ∧ Any c f us r
  | [], _, _, h, _ => by simp [callS] at h
  | [q], r, p, h, hp => by
    simp only [callS] at h
    split at h
    · rename_i r' ps hcall
      cases h
      refine ⟨q.2, by simp [sfnVal, hp.1], ?_⟩
      rcases hc.call _ _ _ _ _ hcall hp.2 with h1 | h1
      · exact .inl h1
      · exact .inr h1.2
    · cases h
  | q :: q' :: l, r, p, h, hp => by
    simp only [callS] at h
    split at h
    · rename_i r1 ps r2 p2 hcall hrest
      cases h
      cases hq : q.1 with
      | true =>
        refine ⟨q.2, by simp [sfnVal, hq], Any.merge ?_⟩
        rcases hc.call _ _ _ _ _ hcall (hp.1 hq) with h1 | h1
        · exact .inl h1
        · exact .inr h1.2
      | false =>
        obtain ⟨f, hf, ha⟩ := callS_ok hc hrest (hp.2 hq)
        exact ⟨f, by simpa [sfnVal, hq] using hf, Any.merge ha⟩
    · cases h

end
end Vm
