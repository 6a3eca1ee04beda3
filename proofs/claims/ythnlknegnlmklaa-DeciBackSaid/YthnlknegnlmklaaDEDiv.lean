/-
  deci.Div: limbs, divided from the greatest on, in place: a loop over slices.Backward.
-/
import Derived.Test.YthnlknegnlmklaaDEEnv
import Derived.RangeFuncNested
import Derived.RangeFuncBound
import Derived.RangeFuncCalls
import Derived.RangeFuncLeaves
import Derived.RangeFuncBox
import Derived.Shelf.Abstract
import Derived.Shelf.RegionOpen
import Derived.WalkKit
import Derived.OwnWalkIn
import Derived.TacticsInMore
import Derived.LoopNIn
import Derived.LoopIn
import Derived.Maps.AppendAt
import Derived.Test.YthnlknegnlmklaaVm10
set_option linter.all false
namespace Go.Proofs.Ythnlknegnlmklaa
open Go Go.Proofs Go.RowKit Go.Shelf

attribute [local go_sem] Oper.semAt_some

set_option maxRecDepth 100000 in
/-- The function that slices.Backward gives: the last index first. J i: i of them are left. -/
theorem backward_in (k : Nat) (hk : 1 ≤ k) (l Bs : Nat) (p : Option Addr) (n cap : Nat) (g : Nat) (xs : Nat → Int) (J : Nat → World → Prop) (hn : n ≤ 9223372036854775807) (hp : n ≠ 0 → p = some ⟨g, 0, none⟩)
    (hJ : ∀ i W, J i W → W.cell? ⟨Bs, 0, none⟩ = some (.slice p n cap) ∧ ∀ j, j < i → W.cell? ⟨g, j, none⟩ = some (.int .u64 (xs j)))
    (hY : ∀ i W1, i < n → J (i + 1) W1 → YieldAt Fence.wide (k - 1) Try.prog l #[.int .i64 (i : Int), .int .u64 (xs i)] W1 fun e W' => e = .returned (.bool true) ∧ J i W') (W : World) (h0 : J n W) :
    CallsIn Fence.wide k Try.prog 85 #[.func (.yield l) #[] #[], .pointer (some ⟨Bs, 0, none⟩)] W fun e W' => (∃ v, e = .returned v) ∧ J 0 W' := by
  obtain ⟨c0, -⟩ := hJ _ _ h0
  refine callsIn_of_wp Try.func85 rfl trivial ?_ rfl
  simp only [Try.ntmps85, List.size_toArray, List.length_cons, List.length_nil, Nat.reduceAdd, Nat.reduceSub, Array.replicate_succ, Array.replicate_zero, List.push_toArray, List.append_toArray, List.nil_append, List.cons_append]
  gi_wp2
  gi_loopw [3] (fun q wr => ∃ i : Nat, i ≤ n ∧ q = .int .i64 ((i : Int) - 1) ∧ J i wr) (fun q _ => match q with | .int _ m => (m + 1).toNat | _ => 0)
  case atStart => exact ⟨n, Nat.le_refl _, by simp, h0⟩
  case round =>
    obtain ⟨i, hi, rfl, hJi⟩ := hrel
    obtain ⟨c1, cr⟩ := hJ _ _ hJi
    match i, hi, hJi, cr with
    | 0, hi, hJi, cr =>
      gi_wp2
      go_end0
      exact ⟨⟨_, rfl⟩, hJi⟩
    | m + 1, hi, hJi, cr =>
      obtain rfl := hp (by omega)
      have c2 := cr m (by omega)
      rw [show ((m + 1 : Nat) : Int) - 1 = (m : Int) by omega]
      obtain ⟨fn, tmps, assign, body, hy, hR⟩ := hY m wr (by omega) hJi
      gi_wp2
      refine hR.mono ?_
      rintro e W4 ⟨rfl, hJ4⟩
      gi_wp2
      exact ⟨⟨m, by omega, rfl, hJ4⟩, by simp⟩

/-- Blocks that a round leaves as they are: the record of the loop, and the one of its deferred calls. -/
def Two (B : Nat) (W W' : World) : Prop := ∀ k, B ≤ k → k < B + 2 → W'.heap[k]? = W.heap[k]?

/-- A range over what slices.Backward gives: every round goes on. I i: i of them are left. -/
theorem wpIn_backward {n : Nat} {g : Operand} {ps : Array Tmp} {assign body : Code} {Q : Exit → Act → World → Prop} {a : Act} {w : World} (h1 : 2 ≤ n) (Bs : Nat) (hg : a.eval g = .func (.func 85) #[] #[.pointer (some ⟨Bs, 0, none⟩)]) (hps : ps.size = 2)
    (p : Option Addr) (len cap gb : Nat) (xs : Nat → Int) (hlen : len ≤ 9223372036854775807) (hp : len ≠ 0 → p = some ⟨gb, 0, none⟩)
    (I : Nat → World → Prop) (hI : ∀ i W W', I i W → Below w.heap.size W W' → I i W')
    (hJ : ∀ i W, I i W → W.cell? ⟨Bs, 0, none⟩ = some (.slice p len cap) ∧ ∀ j, j < i → W.cell? ⟨gb, j, none⟩ = some (.int .u64 (xs j)))
    (h0 : I len w) (a₁ : Nat → Act)
    (hassign : ∀ (l i : Nat) (W : World) (K : Act → World → Prop), K (a₁ i) W →
      assign.wpIn (Fence.wide.inRound l) (n - 1 - 1) Try.prog (Exit.then K (fun _ _ _ => False)) { tmps := (ps.zip #[.int .i64 (i : Int), .int .u64 (xs i)]).foldl (fun t (p, v) => t.setIfInBounds p v) a.tmps, defers := [] } W)
    (hbody : ∀ (l i : Nat) (W : World), i < len → w.heap.size + 2 ≤ W.heap.size → I (i + 1) W → body.wpIn (Fence.wide.inRound l) (n - 1 - 1) Try.prog (fun e _ W' => e = .normal ∧ Two w.heap.size W W' ∧ I i W') (a₁ i) W)
    (hdone : ∀ W, w.heap.size + 2 ≤ W.heap.size → I 0 W → W.heap[w.heap.size]? = some (.deferred (some [])) → Q .normal { a with defers := { target := .collected w.heap.size, args := #[] } :: a.defers } W) :
    (Code.rangeFunc g ps assign body).wpIn Fence.wide n Try.prog Q a w := by
  refine wpIn_rangeFunc ?_
  intro fn hfn
  obtain ⟨rec, hrec⟩ : ∃ rec : LoopState → Loop, rec = fun st => { state := st, pending := none, fn, tmps := a.tmps, params := ps, assign, body, defers := w.heap.size } := ⟨_, rfl⟩
  have hput : ∀ (W : World) (o : Obj), Below w.heap.size W (W.putObj (w.heap.size + 1) o) := fun W o => ⟨rfl, rfl, rfl, by simp, fun k hk => World.putObj_heap_other (by omega)⟩
  refine ⟨w.heap.size + 1, [{ target := .collected w.heap.size, args := #[] }], (w.alloc (.deferred (some []))).alloc (.loop (rec .ready)), { target := .fn (.func 85) #[.pointer (some ⟨Bs, 0, none⟩)], args := #[.func (.yield (w.heap.size + 1)) #[] #[]] }, ((w.alloc (.deferred (some []))).alloc (.loop (rec .ready))), 85,
    #[.func (.yield (w.heap.size + 1)) #[] #[], .pointer (some ⟨Bs, 0, none⟩)], ((w.alloc (.deferred (some []))).alloc (.loop (rec .ready))), ?_, ?_, fun _ _ => trivial, ?_, fun _ => by omega, ?_⟩
  · rw [hrec]; exact run_enterLoop_outer _ _ _ _ _
  · simp only [resolve, hg]
    simp [go_sem]
  · simp [invoke, go_sem]
  · have hb0 : Below w.heap.size w ((w.alloc (.deferred (some []))).alloc (.loop (rec .ready))) := ((Below.refl _ w).alloc (Nat.le_refl _) _).alloc (by simp) _
    have hL : ((w.alloc (.deferred (some []))).alloc (.loop (rec .ready))).heap[w.heap.size + 1]? = some (.loop (rec .ready)) := by
      have h := World.alloc_heap_new (w.alloc (.deferred (some []))) (.loop (rec .ready)); rwa [World.size_alloc] at h
    have hD : ((w.alloc (.deferred (some []))).alloc (.loop (rec .ready))).heap[w.heap.size]? = some (.deferred (some [])) := (Below.heap_alloc _ _ _ (by simp)).trans (World.alloc_heap_new w _)
    refine (backward_in (n - 1) (by omega) (w.heap.size + 1) Bs p len cap gb xs
      (fun i W => I i W ∧ W.heap[w.heap.size + 1]? = some (.loop (rec .ready)) ∧ W.heap[w.heap.size]? = some (.deferred (some []))) hlen hp (fun i W h => hJ i W h.1) ?_ _ ⟨hI _ _ _ h0 hb0, hL, hD⟩).mono ?_
    · rintro i W hi ⟨hIi, hl, hd⟩
      have hlt : w.heap.size + 1 < W.heap.size := (Array.getElem?_eq_some_iff.1 hl).1
      have hy := run_yield (P := Try.prog) (args := #[.int .i64 (i : Int), .int .u64 (xs i)]) hl (by rw [hrec]; exact hps.symm)
      rw [hrec] at hy
      refine ⟨fn, _, assign, body, hy, roundIn_of_wpIn hfn (hassign _ i W _ ⟨_, run_beginRound hl (by rw [hrec]), ?_⟩)⟩
      refine wpIn_mono (hbody _ i _ hi (by simp; omega) (hI _ _ _ hIi (hput W _))) ?_
      rintro e a3 W3 ⟨rfl, htwo, hI3⟩
      have hl3 : W3.heap[w.heap.size + 1]? = some (.loop { rec .ready with state := .busy }) := (htwo _ (by omega) (by omega)).trans (World.putObj_heap_same hlt)
      have hd3 : W3.heap[w.heap.size]? = some (.deferred (some [])) := (htwo _ (by omega) (by omega)).trans ((World.putObj_heap_other (by omega)).trans hd)
      have hr := run_endRound (P := Try.prog) none hl3
      refine ⟨_, _, hr, rfl, hI _ _ _ hI3 (hput W3 _), ?_, (World.putObj_heap_other (by omega)).trans hd3⟩
      rw [World.putObj_heap_same (Array.getElem?_eq_some_iff.1 hl3).1, hrec]
      rfl
    · rintro e W2 ⟨⟨v, rfl⟩, hI0, hl, hd⟩
      have hlt : w.heap.size + 1 < W2.heap.size := (Array.getElem?_eq_some_iff.1 hl).1
      refine ⟨none, _, by have := run_endLoop (P := Try.prog) hl (by rw [hrec]; simp); rw [hrec] at this; exact this, ?_⟩
      exact hdone _ (by simp; omega) (hI _ _ _ hI0 (hput W2 _)) ((World.putObj_heap_other (by omega)).trans hd)

open Vm

/-- A call whose arguments point to no boxes. -/
theorem call_plain {c : Cfg El} (hP : c.P = P) {f : Nat} {vs : List W} {r : W} (h : CallOk c f vs r []) (hno : ∀ (i : Nat) (cs : List (V El)), vs[i]? ≠ some (V.ref cs)) {w : World} {Z : Fz} {σ : Nat → Vm.Loc} {xs : Array Value}
    (hT : ∀ b, Z true b → Z false b) (hS : ∀ b, Z false b → b < w.heap.size) (hI : c.inv (Z false) w) (hl : xs.size = vs.length) (hA : ∀ i (hi : i < vs.length), Den c Z σ w vs[i] (xs.getD i undef)) :
    Calls Try.prog f xs w fun e W' => ∃ x, e = .returned x ∧ Below w.heap.size w W' ∧ ∃ Z' : Fz, (∀ f b, Z' f b → (f = false ∧ Z false b) ∨ (w.heap.size ≤ b ∧ b < W'.heap.size)) ∧ (∀ b, Z' true b → Z' false b) ∧ ResDen c w.heap.size Z' σ W' r x := by
  have hA' : ArgsOk c Z σ w (fun _ => 0) vs xs := by
    refine ⟨hl, fun i hi => ?_, fun i j cs ds hi => absurd hi (hno i cs)⟩
    have := hA i hi
    have hn := hno i
    rw [List.getElem?_eq_getElem hi] at hn
    revert this hn
    generalize vs[i] = v
    intro this hn
    cases v <;> first | exact this | exact absurd rfl (hn _)
  have h1 := h w Z σ (fun _ => 0) xs hT hS hI hA'
  rw [hP] at h1
  refine Calls.mono h1 ?_
  rintro e W' ⟨x, rfl, hb, Z', h2, h3, hr, _⟩
  refine ⟨x, rfl, hb.toBelow fun b o => ?_, Z', h2, h3, hr⟩
  rintro ⟨i, cs, hi, _⟩
  exact hno i cs hi

theorem enc39 {c : Cfg El} (hC : c.C = base.C) (a : El 39) : c.C.enc 39 a = [.int .u64 (show Int from a)] := by rw [hC]; rfl
theorem encF39 {c : Cfg El} (hC : c.C = base.C) (f : Bool) (a : El 39) : encF c 39 f a = [.int .u64 (show Int from a)] := by cases f <;> simp [encF, enc39 hC a, mapV, frs]
theorem enc0 {c : Cfg El} (hC : c.C = base.C) (f : Bool) (a : El 39) (q : Nat) (hq : q < (encF c 39 f a).length) : (encF c 39 f a)[q] = .int .u64 (show Int from a) := by
  have e := encF39 hC f a
  have hq' : q = 0 := by rw [e] at hq; simpa using hq
  subst hq'
  exact (List.getElem_of_eq e hq).trans rfl
theorem enc1 {c : Cfg El} (hC : c.C = base.C) (f : Bool) (a : El 39) : 0 < (encF c 39 f a).length := by rw [encF39 hC]; exact Nat.zero_lt_one
theorem getD_at (l : List Int) (j : Nat) (hj : j < l.length) : l.getD j 0 = l[j] := by simp [List.getD, hj]
theorem size39 {c : Cfg El} (hty : c.ty = base.ty) : (c.ty 39).size = 1 := by rw [hty]; kernel_rfl

theorem tup2_of {c : Cfg El} {n : Nat} {Z : Fz} {σ : Nat → Vm.Loc} {W : World} {a b : Int} {x : Value} (h : ResDen c n Z σ W (.tup [.int .u64 a, .int .u64 b]) x) : x = .tuple #[.int .u64 a, .int .u64 b] := by
  have h : Den c Z σ W (.tup [.int .u64 a, .int .u64 b]) x := h
  cases h with
  | tup _ xs hl h' =>
    have h0 : xs.getD 0 undef = .int .u64 a := Den.of_int (h' 0 (by simp))
    have h1 : xs.getD 1 undef = .int .u64 b := Den.of_int (h' 1 (by simp))
    obtain ⟨l⟩ := xs
    match l, hl with
    | [y, z], _ => simp at h0 h1; simp [h0, h1]

theorem agg1_of {c : Cfg El} {n : Nat} {Z : Fz} {σ : Nat → Vm.Loc} {W : World} {l : List (El 39)} {x : Value} (h : ResDen c n Z σ W (.agg [.list 39 true l]) x) : ∃ p n cap, x = .agg #[.slice p n cap] ∧ Den c Z σ W (.list 39 true l) (.slice p n cap) := by
  have h : Den c Z σ W (.agg [.list 39 true l]) x := h
  cases h with
  | agg _ xs hl h' =>
    have h0 : Den c Z σ W (.list 39 true l) (xs.getD 0 undef) := h' 0 (by simp)
    obtain ⟨k⟩ := xs
    match k, hl with
    | [y], _ =>
      simp at h0
      obtain ⟨p, cap, b, y', rfl, -⟩ := h0.of_list
      exact ⟨p, l.length, cap, rfl, h0⟩

/-- What lies where a slice of limbs points to. -/
structure Limbs (W : World) (p : Option Addr) (cap g : Nat) (l : List Int) : Prop where
  ptr : l.length ≠ 0 → p = some ⟨g, 0, none⟩
  cap : l.length ≤ cap
  cell : ∀ j (hj : j < l.length), W.cell? ⟨g, j, none⟩ = some (.int .u64 l[j])

/-- A list of limbs of one's own. -/
theorem limbs_own {c : Cfg El} (hty : c.ty = base.ty) (hC : c.C = base.C) {n : Nat} {Z : Fz} {σ : Nat → Vm.Loc} {W : World} {l : List Int} {x : Value} (h : ResDen c n Z σ W (.olist 39 true (l : List (El 39))) x) :
    ∃ p cap g, x = .slice p l.length cap ∧ Limbs W p cap g l ∧ (l.length ≠ 0 → n ≤ g ∧ g < W.heap.size ∧ ∀ j, W.frozen? ⟨g, j, none⟩ = false) := by
  obtain ⟨L, rfl, h, hL⟩ := h
  have hcap : List.length (α := Int) l ≤ L.cap := h.cap
  have hlen : L.len = List.length (α := Int) l := h.len
  refine ⟨L.base, L.cap, L.blk, by rw [hlen], ⟨fun h0 => h.base rfl (fun e => h0 (by omega)), hcap, fun j hj => ?_⟩, fun h0 => ?_⟩
  · obtain ⟨y, hy, hd⟩ := h.cells j 0 hj (enc1 hC true _)
    rw [size39 hty] at hy
    have hd' : Den c Z σ W (.int .u64 (l[j] : Int)) y := Eq.mp (congrArg (fun u => Den c Z σ W u y) (enc0 hC true _ 0 (enc1 hC true _))) hd
    rw [Den.of_int hd'] at hy
    simpa using hy
  · have hc0 : L.cap ≠ 0 := fun e => h0 (by omega)
    refine ⟨(hL hc0).1, ?_, fun j => h.frz j hc0⟩
    have hr := h.room 0 (by rw [size39 hty]; omega)
    rcases Nat.lt_or_ge L.blk W.heap.size with h' | h'
    · exact h'
    · have : W.heap[L.blk]? = none := Array.getElem?_eq_none h'
      simp [World.cell?, this] at hr

theorem limbs_den {c : Cfg El} (hty : c.ty = base.ty) (hC : c.C = base.C) {Z : Fz} {σ : Nat → Vm.Loc} {W : World} {l : List Int} {p : Option Addr} {cap g : Nat} (h : Limbs W p cap g l) (hZ : l.length ≠ 0 → Z false g) :
    Den c Z σ W (.list 39 false (l : List (El 39))) (.slice p l.length cap) := by
  have hne : ∀ {l : List (El 39)}, l ≠ [] → List.length l ≠ 0 := fun h h' => h (List.length_eq_zero_iff.1 h')
  refine Den.list 39 false (l : List (El 39)) p cap ⟨g, 0, none⟩ (fun j q => .int .u64 (l.getD j 0)) (fun h' => h.ptr (hne h')) h.cap (fun h' => hZ (hne h')) (fun _ => by rw [size39 hty]; decide) (fun j hj => by rw [enc39 hC, size39 hty]; rfl) (fun j q hj hq => ?_) (fun j q hj hq => ?_)
  · rw [size39 hty] at hq ⊢
    obtain rfl : q = 0 := by omega
    have := h.cell j hj
    rw [getD_at l j hj]
    simp only [Nat.mul_one, Nat.add_zero, Addr.add_lit, Nat.zero_add]
    exact this
  · refine Eq.mpr (congrArg (fun u => Den c Z σ W u _) (enc0 hC false _ q hq)) ?_
    show Den c Z σ W (.int .u64 (l[j] : Int)) (.int .u64 (l.getD j 0))
    rw [getD_at l j hj]
    exact .int _ _

/-! ### A region that draws its order, met by what holds at each of its points -/

theorem ready_iff {md : Region.Mode} {ops : Array Oper} {L : Array Bool} {i : Nat} : i ∈ Region.ready md ops L ↔ i < ops.size ∧ L.getD i true = false ∧ ∃ o, ops[i]? = some o ∧ (o.after.toList.all fun e => !Region.binds md e || L.getD e.on false) = true := by
  unfold Region.ready
  rw [List.mem_filter, List.mem_range]
  refine and_congr_right fun hi => ?_
  rw [Bool.and_eq_true, Bool.not_eq_true', Array.getElem?_eq_getElem hi]
  simp [Array.all_toList]

theorem ready_at {md : Region.Mode} {ops : Array Oper} {L : Array Bool} {i : Nat} {o : Oper} (ho : ops[i]? = some o) (h : i ∈ Region.ready md ops L) : L.getD i true = false ∧ (o.after.toList.all fun e => !Region.binds md e || L.getD e.on false) = true := by
  rw [ready_iff] at h
  obtain ⟨-, h1, o', ho', h2⟩ := h
  rw [ho] at ho'
  cases ho'
  exact ⟨h1, h2⟩

theorem any_inv {F : Fence} {n : Nat} {P : Program} {md : Region.Mode} {ops : Array Oper} {Q : Exit → Act → World → Prop} (I : Array Bool → Act → World → Prop)
    (hstep : ∀ L a w i (K : Act → World → Prop), L.size = ops.size → I L a w → i ∈ Region.ready md ops L → (∀ a' w', I (L.setIfInBounds i true) a' w' → K a' w') → wpOpIn F n P ops Q i K a w)
    (hdone : ∀ L a w, L.size = ops.size → I L a w → Region.ready md ops L = [] → Q .normal a w) :
    ∀ (fuel : Nat) (L : Array Bool) (a : Act) (w : World), L.size = ops.size → ((List.range ops.size).filter fun i => !(L.getD i false)).length ≤ fuel → I L a w → wpAnyIn F n P md ops Q fuel L a w := by
  intro fuel
  induction fuel with
  | zero =>
    intro L a w hsz hc hI
    have hr : Region.ready md ops L = [] := by
      rw [List.eq_nil_iff_forall_not_mem]
      intro i hi
      rw [ready_iff] at hi
      obtain ⟨hi, hl, -⟩ := hi
      have hlt : i < L.size := by omega
      have : i ∈ (List.range ops.size).filter fun i => !(L.getD i false) := by
        rw [List.mem_filter, List.mem_range]
        refine ⟨hi, ?_⟩
        simp [hlt] at hl ⊢; exact hl
      have := List.length_pos_of_mem this
      omega
    exact ⟨hr, hdone L a w hsz hI hr⟩
  | succ fuel ih =>
    intro L a w hsz hc hI
    refine ⟨fun hr => hdone L a w hsz hI hr, fun i hi => ?_⟩
    refine hstep L a w i _ hsz hI hi (fun a' w' hI' => ih _ a' w' (by simp [hsz]) ?_ hI')
    rw [ready_iff] at hi
    obtain ⟨hi, hl, -⟩ := hi
    have hlt : i < L.size := by omega
    have hpi : L.getD i false = false := by simp [hlt] at hl ⊢; exact hl
    have e : ((List.range ops.size).filter fun j => !((L.setIfInBounds i true).getD j false)) = (List.range ops.size).filter fun j => !(L.getD j false || j == i) := by
      refine List.filter_congr fun j hj => ?_
      have hj' : j < L.size := by rw [hsz]; simpa using hj
      by_cases hij : i = j
      · subst hij; simp [hj']
      · have : (j == i) = false := by simpa using fun h => hij h.symm
        simp [hj', this, Array.getElem_setIfInBounds, hij]
    rw [e]
    have := (Vm.count_less (p := fun j => L.getD j false) (j := i) (List.range ops.size)).2 (by simpa using hi) hpi
    omega

theorem wpOpIn_at {F : Fence} {n : Nat} {P : Program} {ops : Array Oper} {Q : Exit → Act → World → Prop} {i : Nat} {K : Act → World → Prop} {a : Act} {w : World} {o : Oper} (ho : ops[i]? = some o)
    (h : if Region.wanted o (yielded ops a.tmps) then o.wpIn F n P a w K Q else (∀ f, o.about P w a.eval = some f → F.fn f) ∧ K (a.put o.dst undef) w) : wpOpIn F n P ops Q i K a w := by
  unfold wpOpIn
  rw [ho]
  exact h

/-- Where i limbs are left. -/
structure DivI (w0 : World) (N M g cap : Nat) (p : Option Addr) (d : Int) (xs : List Int) (i : Nat) (W : World) : Prop where
  by_ : Boxed W (N + 1) 39 (.int .u64 d)
  q : Boxed W (N + 2) 41 (.slice none 0 0)
  r : Boxed W (N + 3) 39 (.int .u64 (S.deci_Divq d (xs.drop i)).2)
  l : Boxed W M 38 (.slice p xs.length cap)
  b : Boxed W (M + 1) 38 (.slice p xs.length cap)
  row : Limbs W p cap g (xs.take i ++ (S.deci_Divq d (xs.drop i)).1)
  frz : xs.length ≠ 0 → ∀ j, W.frozen? ⟨g, j, none⟩ = false
  below : Below N w0 W
  size : M + 2 ≤ W.heap.size

theorem boxed_below {W W' : World} {B n : Nat} {t : TypeId} {v : Value} (h : Boxed W B t v) (hb : Below n W W') (hB : B < n) : Boxed W' B t v := (hb.block B hB).trans h

theorem divq_length (d : Int) : ∀ l, (S.deci_Divq d l).1.length = l.length
  | [] => rfl
  | x :: l => by simp [S.deci_Divq, divq_length d l]

theorem mix_length (d : Int) (xs : List Int) (i : Nat) (hi : i ≤ xs.length) : (xs.take i ++ (S.deci_Divq d (xs.drop i)).1).length = xs.length := by
  rw [List.length_append, divq_length, List.length_take, List.length_drop]; omega

theorem DivI.stable {w0 : World} {N M g cap : Nat} {p : Option Addr} {d : Int} {xs : List Int} {i : Nat} {W W' : World} (h : DivI w0 N M g cap p d xs i W) (hb : Below (M + 2) W W') (hi : i ≤ xs.length) (hN : N + 4 ≤ M) (hg : xs.length ≠ 0 → g < M) : DivI w0 N M g cap p d xs i W' where
  by_ := boxed_below h.by_ hb (by omega)
  q := boxed_below h.q hb (by omega)
  r := boxed_below h.r hb (by omega)
  l := boxed_below h.l hb (by omega)
  b := boxed_below h.b hb (by omega)
  row := ⟨h.row.ptr, h.row.cap, fun j hj => (World.cell?_of_block (hb.block g (by have := hg (by rw [mix_length d xs i hi] at hj; omega); omega))).trans (h.row.cell j hj)⟩
  frz h0 j := (World.frozen?_of_block (hb.block g (by have := hg h0; omega))).trans (h.frz h0 j)
  below := h.below.trans (hb.mono (by omega))
  size := Nat.le_trans h.size hb.size

/-- Within a round: what has been stored. -/
structure DivW (w0 : World) (N M g cap : Nat) (p : Option Addr) (d : Int) (xs : List Int) (i : Nat) (qv rv : Int) (b13 b14 : Bool) (W w : World) : Prop where
  by_ : Boxed w (N + 1) 39 (.int .u64 d)
  q : Boxed w (N + 2) 41 (.slice none 0 0)
  r : Boxed w (N + 3) 39 (.int .u64 (bif b14 then rv else (S.deci_Divq d (xs.drop (i + 1))).2))
  l : Boxed w M 38 (.slice p xs.length cap)
  b : Boxed w (M + 1) 38 (.slice p xs.length cap)
  row : ∀ j, j < xs.length → w.cell? ⟨g, j, none⟩ = some (.int .u64 (if j = i then (bif b13 then qv else xs.getD i 0) else (xs.take (i + 1) ++ (S.deci_Divq d (xs.drop (i + 1))).1).getD j 0))
  frz : ∀ j, w.frozen? ⟨g, j, none⟩ = false
  below : Below N w0 w
  size : W.heap.size ≤ w.heap.size
  two : Two (M + 2) W w

section
variable {w0 : World} {N M g cap : Nat} {p : Option Addr} {d : Int} {xs : List Int} {i : Nat} {qv rv : Int} {b13 b14 : Bool} {W w w' : World}

theorem mix_at (d : Int) (xs : List Int) (i : Nat) (hi : i < xs.length) : (xs.take (i + 1) ++ (S.deci_Divq d (xs.drop (i + 1))).1).getD i 0 = xs.getD i 0 := by
  have h1 := mix_length d xs (i + 1) (by omega)
  rw [getD_at _ _ (by omega), List.getElem_append_left (by rw [List.length_take]; omega), List.getElem_take, getD_at _ _ hi]

theorem DivW.start (h : DivI w0 N M g cap p d xs (i + 1) W) (hi : i < xs.length) : DivW w0 N M g cap p d xs i qv rv false false W W.drew where
  by_ := h.by_
  q := h.q
  r := h.r
  l := h.l
  b := h.b
  row j hj := by
    have h1 := mix_length d xs (i + 1) (by omega)
    have h2 := h.row.cell j (by omega)
    have e : (if j = i then (bif false then qv else xs.getD i 0) else (xs.take (i + 1) ++ (S.deci_Divq d (xs.drop (i + 1))).1).getD j 0) = (xs.take (i + 1) ++ (S.deci_Divq d (xs.drop (i + 1))).1)[j]'(by omega) := by
      split
      · rename_i hji; subst hji; rw [← getD_at, mix_at d xs j hi]; rfl
      · exact getD_at _ _ _
    rw [e]
    exact h2
  frz j := h.frz (by omega) j
  below := ⟨h.below.os, h.below.tape, h.below.output, h.below.size, h.below.block⟩
  size := Nat.le_refl _
  two _ _ _ := rfl

theorem DivW.call (h : DivW w0 N M g cap p d xs i qv rv b13 b14 W w) (hb : Below w.heap.size w w') (hMW : M + 2 ≤ W.heap.size) (hN : N + 4 ≤ M) (hg : g < M) (hW2 : M + 4 ≤ W.heap.size) : DivW w0 N M g cap p d xs i qv rv b13 b14 W w' where
  by_ := boxed_below h.by_ hb (by have := h.size; omega)
  q := boxed_below h.q hb (by have := h.size; omega)
  r := boxed_below h.r hb (by have := h.size; omega)
  l := boxed_below h.l hb (by have := h.size; omega)
  b := boxed_below h.b hb (by have := h.size; omega)
  row j hj := (World.cell?_of_block (hb.block g (by have := h.size; omega))).trans (h.row j hj)
  frz j := (World.frozen?_of_block (hb.block g (by have := h.size; omega))).trans (h.frz j)
  below := h.below.trans (hb.mono (by have := h.size; omega))
  size := Nat.le_trans h.size hb.size
  two k hk hk2 := (hb.block k (by have := h.size; omega)).trans (h.two k hk hk2)

theorem DivW.store13 (h : DivW w0 N M g cap p d xs i qv rv b13 b14 W w) (hi : i < xs.length) (hN : N + 4 ≤ g) (hg : g < M) : DivW w0 N M g cap p d xs i qv rv true b14 W (w.setCell ⟨g, i, none⟩ (.int .u64 qv)) where
  by_ := (Below.heap_setCell _ _ _ _ (by simp; omega)).trans h.by_
  q := (Below.heap_setCell _ _ _ _ (by simp; omega)).trans h.q
  r := (Below.heap_setCell _ _ _ _ (by simp; omega)).trans h.r
  l := (Below.heap_setCell _ _ _ _ (by simp; omega)).trans h.l
  b := (Below.heap_setCell _ _ _ _ (by simp; omega)).trans h.b
  row j hj := by
    by_cases hji : j = i
    · subst hji
      rw [if_pos rfl]
      exact World.cell?_setCell_same' _ _ _ (by rw [h.row j hj]; rfl)
    · rw [if_neg hji, World.cell?_setCell_other _ _ _ _ (by intro e; cases e; exact hji rfl)]
      have := h.row j hj
      rw [if_neg hji] at this
      exact this
  frz j := by rw [World.frozen?_setCell]; exact h.frz j
  below := h.below.setCell (p := ⟨g, i, none⟩) (by simp; omega) _
  size := by simpa using h.size
  two k hk hk2 := (Below.heap_setCell _ _ _ _ (by simp; omega)).trans (h.two k hk hk2)

theorem DivW.store14 (h : DivW w0 N M g cap p d xs i qv rv b13 b14 W w) (hN : N + 4 ≤ g) (hg : g < M) : DivW w0 N M g cap p d xs i qv rv b13 true W (w.setCell ⟨N + 3, 0, none⟩ (.int .u64 rv)) where
  by_ := (Below.heap_setCell _ _ _ _ (by simp)).trans h.by_
  q := (Below.heap_setCell _ _ _ _ (by simp)).trans h.q
  r := h.r.set _
  l := (Below.heap_setCell _ _ _ _ (by simp; omega)).trans h.l
  b := (Below.heap_setCell _ _ _ _ (by simp; omega)).trans h.b
  row j hj := (World.cell?_of_block (Below.heap_setCell _ _ _ _ (by simp; omega))).trans (h.row j hj)
  frz j := by rw [World.frozen?_setCell]; exact h.frz j
  below := h.below.setCell (p := ⟨N + 3, 0, none⟩) (by simp) _
  size := by simpa using h.size
  two k hk hk2 := (Below.heap_setCell _ _ _ _ (by simp; omega)).trans (h.two k hk hk2)

theorem DivW.done (h : DivW w0 N M g cap p d xs i qv rv true true W w) (h0 : DivI w0 N M g cap p d xs (i + 1) W) (hi : i < xs.length) (hq : S.deci_Divq d (xs.drop i) = (qv :: (S.deci_Divq d (xs.drop (i + 1))).1, rv)) : DivI w0 N M g cap p d xs i w where
  by_ := h.by_
  q := h.q
  r := by rw [hq]; exact h.r
  l := h.l
  b := h.b
  row := by
    refine ⟨fun _ => h0.row.ptr (by rw [mix_length d xs (i + 1) (by omega)]; omega), ?_, fun j hj => ?_⟩
    · have := h0.row.cap; rw [mix_length d xs (i + 1) (by omega)] at this; rw [mix_length d xs i (by omega)]; exact this
    · have hj' := hj
      rw [mix_length d xs i (by omega)] at hj'
      rw [h.row j hj']
      congr 2
      rw [← getD_at _ j hj, hq]
      have hl1 := mix_length d xs (i + 1) (by omega)
      by_cases hji : j = i
      · subst hji
        rw [if_pos rfl]
        simp [List.getD, List.getElem?_append_right, List.length_take, Nat.min_eq_left (Nat.le_of_lt hi)]
      · rw [if_neg hji]
        simp only [List.getD]
        congr 1
        rcases Nat.lt_or_ge j i with h1 | h1
        · rw [List.getElem?_append_left (by rw [List.length_take]; omega), List.getElem?_append_left (by rw [List.length_take]; omega), List.getElem?_take, List.getElem?_take, if_pos h1, if_pos (by omega)]
        · rw [List.getElem?_append_right (by rw [List.length_take]; omega), List.getElem?_append_right (by rw [List.length_take]; omega), List.length_take, List.length_take, Nat.min_eq_left (by omega), Nat.min_eq_left (by omega)]
          obtain ⟨k, rfl⟩ : ∃ k, j = i + 1 + k := ⟨j - (i + 1), by omega⟩
          rw [show i + 1 + k - i = k + 1 by omega, show i + 1 + k - (i + 1) = k by omega, List.getElem?_cons_succ]
  frz _ j := h.frz j
  below := h.below
  size := Nat.le_trans h0.size h.size
end

theorem divq_range (d : Int) (hd : 0 < d) (hd2 : d ≤ 18446744073709551615) : ∀ l : List Int, (∀ x ∈ l, 0 ≤ x ∧ x ≤ 18446744073709551615) → 0 ≤ (S.deci_Divq d l).2 ∧ (S.deci_Divq d l).2 < d
  | [], _ => ⟨Int.le_refl _, hd⟩
  | x :: l, h => ⟨Int.emod_nonneg _ (by omega), Int.emod_lt_of_pos _ hd⟩

theorem results_div {w : World} {B C : Nat} {p : Option Addr} {n cap : Nat} {r e : Int} {tmps : Array Value} (hp : tmps.getD 4 undef = .pointer (some ⟨B, 0, none⟩)) (hq : tmps.getD 5 undef = .pointer (some ⟨C, 0, none⟩)) (h6 : tmps.getD 6 undef = .int .i64 e)
    (hb : Boxed w B 41 (.slice p n cap)) (hc : Boxed w C 39 (.int .u64 r)) : (results Try.f24 tmps).run Try.prog w = .ok (.tuple #[.agg #[.slice p n cap], .int .u64 r, .int .i64 e]) w := by
  have hp' : tmps[4]?.getD undef = .pointer (some ⟨B, 0, none⟩) := by simpa using hp
  have hq' : tmps[5]?.getD undef = .pointer (some ⟨C, 0, none⟩) := by simpa using hq
  have h6' : tmps[6]?.getD undef = .int .i64 e := by simpa using h6
  have cb := hb.cell
  have cc := hc.cell
  have hr : Try.f24.results = #[.cell 4 41, .cell 5 39, .tmp 6] := rfl
  simp [results, hr, hp', hq', h6', asAddr, go_sem, cb, cc]

/-- Behind the rounds. -/
structure DivT (c : Cfg El) (σ : Nat → Vm.Loc) (Z : Fz) (w0 : World) (N M D g cap : Nat) (p : Option Addr) (xs ql : List Int) (r : Int) (p2 : Option Addr) (n2 cap2 : Nat) (b1 b3 : Bool) (W w : World) : Prop where
  q : Boxed w (N + 2) 41 (bif b3 then .slice p2 n2 cap2 else .slice none 0 0)
  r : Boxed w (N + 3) 39 (.int .u64 r)
  l : Boxed w M 38 (.slice p xs.length cap)
  d : w.heap[D]? = some (.deferred (some []))
  below : Below N w0 w
  no : b1 = false → w = W.drew
  yes : b1 = true → ∃ Z' : Fz, (∀ f b, Z' f b → (f = false ∧ (Z false b ∨ (xs.length ≠ 0 ∧ b = g))) ∨ (D + 2 ≤ b ∧ b < w.heap.size)) ∧ (∀ b, Z' true b → Z' false b) ∧ Den c Z' σ w (.list 39 true (ql : List (El 39))) (.slice p2 n2 cap2)

section
variable {c : Cfg El} {σ : Nat → Vm.Loc} {Z : Fz} {w0 : World} {N M D g cap : Nat} {p : Option Addr} {xs ql : List Int} {r : Int} {p2 : Option Addr} {n2 cap2 : Nat} {b1 b3 : Bool} {W w w' : World}

theorem DivT.set (hc : CfgOk c) (h : DivT c σ Z w0 N M D g cap p xs ql r p2 n2 cap2 true b3 W w) (k : Nat) (v : Value) (hk : N ≤ k) (hkg : k < g ∨ xs.length = 0) (hS : ∀ b, Z false b → b < N) (hkD : k < D) : ∃ Z' : Fz, (∀ f b, Z' f b → (f = false ∧ (Z false b ∨ (xs.length ≠ 0 ∧ b = g))) ∨ (D + 2 ≤ b ∧ b < (w.setCell ⟨k, 0, none⟩ v).heap.size)) ∧ (∀ b, Z' true b → Z' false b) ∧ Den c Z' σ (w.setCell ⟨k, 0, none⟩ v) (.list 39 true (ql : List (El 39))) (.slice p2 n2 cap2) := by
  obtain ⟨Z', h1, h2, h3⟩ := h.yes rfl
  refine ⟨Z', fun f b hb => (h1 f b hb).imp id (fun h => ⟨h.1, by simpa using h.2⟩), h2, h3.mono hc (fun _ _ h => h) (fun f b hb => Below.heap_setCell _ _ _ _ ?_) (fun _ _ => rfl)⟩
  rcases h1 f b hb with ⟨-, h | ⟨h, rfl⟩⟩ | ⟨h, -⟩
  · have := hS b h; simp; omega
  · simp; omega
  · simp; omega

theorem DivT.store3 (hc : CfgOk c) (h : DivT c σ Z w0 N M D g cap p xs ql r p2 n2 cap2 true b3 W w) (hg : xs.length ≠ 0 → N + 4 ≤ g) (hS : ∀ b, Z false b → b < N) (hM : N + 4 ≤ M) (hD : M < D) : DivT c σ Z w0 N M D g cap p xs ql r p2 n2 cap2 true true W (w.setCell ⟨N + 2, 0, none⟩ (.slice p2 n2 cap2)) where
  q := h.q.set _
  r := (Below.heap_setCell _ _ _ _ (by simp)).trans h.r
  l := (Below.heap_setCell _ _ _ _ (by simp; omega)).trans h.l
  d := (Below.heap_setCell _ _ _ _ (by simp; omega)).trans h.d
  below := h.below.setCell (p := ⟨N + 2, 0, none⟩) (by simp) _
  no h := by cases h
  yes _ := h.set hc _ _ (by omega) (by by_cases h : xs.length = 0; exact .inr h; exact .inl (by have := hg h; omega)) hS (by omega)

theorem DivT.store4 (hc : CfgOk c) (h : DivT c σ Z w0 N M D g cap p xs ql r p2 n2 cap2 true b3 W w) (hg : xs.length ≠ 0 → N + 4 ≤ g) (hS : ∀ b, Z false b → b < N) (hM : N + 4 ≤ M) (hD : M < D) : DivT c σ Z w0 N M D g cap p xs ql r p2 n2 cap2 true b3 W (w.setCell ⟨N + 3, 0, none⟩ (.int .u64 r)) where
  q := (Below.heap_setCell _ _ _ _ (by simp)).trans h.q
  r := h.r.set _
  l := (Below.heap_setCell _ _ _ _ (by simp; omega)).trans h.l
  d := (Below.heap_setCell _ _ _ _ (by simp; omega)).trans h.d
  below := h.below.setCell (p := ⟨N + 3, 0, none⟩) (by simp) _
  no h := by cases h
  yes _ := h.set hc _ _ (by omega) (by by_cases h : xs.length = 0; exact .inr h; exact .inl (by have := hg h; omega)) hS (by omega)
end

set_option maxRecDepth 100000 in
theorem back_in (k : Nat) (p : Option Addr) (n cap : Nat) (w : World) :
    CallsIn Fence.wide k Try.prog 52 #[.slice p n cap] w fun e w' => e = .returned (.func (.func 85) #[] #[.pointer (some ⟨w.heap.size, 0, none⟩)]) ∧ w' = w.alloc (.cells #[.slice p n cap] 38) := by
  refine callsIn_of_wp Try.func52 rfl trivial ?_ rfl
  simp only [Try.ntmps52, List.size_toArray, List.length_cons, List.length_nil, Nat.reduceAdd, Nat.reduceSub, Array.replicate_succ, Array.replicate_zero, List.push_toArray, List.append_toArray, List.nil_append, List.cons_append]
  gi_wp2
  go_ret
  exact ⟨rfl, rfl⟩

set_option maxRecDepth 100000 in
set_option maxHeartbeats 2000000 in
theorem div_in {c : Cfg El} (hc : CfgOk c) (hP : c.P = P) (hty : c.ty = base.ty) (hC : c.C = base.C) {w0 : World} {Z : Fz} {σ : Nat → Vm.Loc} (hT : ∀ b, Z true b → Z false b) (hS : ∀ b, Z false b → b < w0.heap.size) (hI : c.inv (Z false) w0)
    (n : S.Num) (xs : List Int) (d : Int) (hd : 0 < d) (hd2 : d ≤ 18446744073709551615) (p0 : Option Addr) (n0 cap0 : Nat) (hx0 : Den c Z σ w0 (.list 39 false n.limbs) (.slice p0 n0 cap0))
    (h51 : CallOk c 51 [.agg [.list 39 false n.limbs]] (.olist 39 true xs) []) (hxs : ∀ x ∈ xs, 0 ≤ x ∧ x ≤ 18446744073709551615) (hlen : xs.length ≤ 9223372036854775807)
    (h53 : ∀ hi lo : Int, 0 ≤ hi → hi < d → 0 ≤ lo → lo ≤ 18446744073709551615 → CallOk c 53 [.int .u64 hi, .int .u64 lo, .int .u64 d] (.tup [.int .u64 ((hi * 18446744073709551616 + lo) / d), .int .u64 ((hi * 18446744073709551616 + lo) % d)]) [])
    (h20 : CallOk c 20 [.list 39 false (S.deci_Divq d xs).1] (.agg [.list 39 true (S.nat_Limbs (S.deci_Divq d xs).1).limbs]) []) :
    CallsIn Fence.wide 3 Try.prog 24 #[.agg #[.slice p0 n0 cap0], .int .u64 d] w0 fun e W' => ∃ x, e = .returned x ∧ Below w0.heap.size w0 W' ∧ ∃ Z' : Fz, (∀ f b, Z' f b → (f = false ∧ Z false b) ∨ (w0.heap.size ≤ b ∧ b < W'.heap.size)) ∧ (∀ b, Z' true b → Z' false b) ∧
      ResDen c w0.heap.size Z' σ W' (.tup [.agg [.list 39 false (S.nat_Limbs (S.deci_Divq d xs).1).limbs], .int .u64 (S.deci_Divq d xs).2, .int .i64 0]) x := by
  refine callsIn_of_wp_marks Try.func24 rfl trivial ?_ rfl
  simp only [Try.ntmps24, List.size_toArray, List.length_cons, List.length_nil, Nat.reduceAdd, Nat.reduceSub, Array.replicate_succ, Array.replicate_zero, List.push_toArray, List.append_toArray, List.nil_append, List.cons_append]
  gi_wp2
  obtain ⟨A, hA⟩ : ∃ A, (((w0.alloc (.cells #[.slice p0 n0 cap0] 41)).alloc (.cells #[.int .u64 d] 39)).alloc (.cells #[.slice none 0 0] 41)).alloc (.cells #[.int .u64 0] 39) = A := ⟨_, rfl⟩
  have sA : A.heap.size = w0.heap.size + 4 := by rw [← hA]; simp
  have bA : Below w0.heap.size w0 A := by rw [← hA]; exact ((((Below.refl _ w0).alloc (Nat.le_refl _) _).alloc (by simp) _).alloc (by simp; omega) _).alloc (by simp; omega) _
  have A1 : Boxed A (w0.heap.size + 1) 39 (.int .u64 d) := by
    have := ((Boxed.new (w0.alloc (.cells #[.slice p0 n0 cap0] 41)) 39 (.int .u64 d)).alloc (.cells #[.slice none 0 0] 41)).alloc (.cells #[.int .u64 0] 39)
    rw [← hA]; rw [World.size_alloc] at this; exact this
  have A2 : Boxed A (w0.heap.size + 2) 41 (.slice none 0 0) := by
    have := (Boxed.new ((w0.alloc (.cells #[.slice p0 n0 cap0] 41)).alloc (.cells #[.int .u64 d] 39)) 41 (.slice none 0 0)).alloc (.cells #[.int .u64 0] 39)
    rw [← hA]; rw [World.size_alloc, World.size_alloc] at this; exact this
  have A3 : Boxed A (w0.heap.size + 3) 39 (.int .u64 0) := by
    have := Boxed.new (((w0.alloc (.cells #[.slice p0 n0 cap0] 41)).alloc (.cells #[.int .u64 d] 39)).alloc (.cells #[.slice none 0 0] 41)) 39 (.int .u64 0)
    rw [← hA]; rw [World.size_alloc, World.size_alloc, World.size_alloc] at this; exact this
  rw [hA]
  refine ⟨trivial, (callsIn_wide.2 (call_plain hP h51 (fun i cs hi => by match i, hi with | 0, hi => cases hi | i + 1, hi => simp at hi) hT (fun b hb => by have := hS b hb; omega) (hc.inv _ _ _ _ hI (fun _ h => h) (fun b hb => bA.block b (hS b hb))) (by simp) (σ := σ) (fun i hi => ?_))).mono ?_⟩
  · match i, hi with
    | 0, _ => exact (Den.agg _ #[.slice p0 n0 cap0] rfl (fun i hi => by match i, hi with | 0, _ => exact hx0)).mono hc (fun _ _ h => h) (fun f b hb => bA.block b (by cases f; exact hS b hb; exact hS b (hT b hb))) (fun _ _ => rfl)
  rintro e W1 ⟨x1, rfl, hB1, Z1, -, -, hr1⟩
  obtain ⟨p, cap, g, rfl, hL1, hg⟩ := limbs_own hty hC hr1
  gi_wp2
  refine ⟨trivial, (back_in 2 p xs.length cap _).mono ?_⟩
  rintro e W2 ⟨rfl, rfl⟩
  rw [World.size_alloc]
  gi_wp2
  obtain ⟨B, hBw⟩ : ∃ B, (W1.alloc (.cells #[.slice p xs.length cap] 38)).alloc (.cells #[.slice p xs.length cap] 38) = B := ⟨_, rfl⟩
  have sB : B.heap.size = W1.heap.size + 2 := by rw [← hBw]; simp
  have hW1 : w0.heap.size + 4 ≤ W1.heap.size := by have := hB1.size; omega
  have bB1 : Below W1.heap.size W1 B := by rw [← hBw]; exact ((Below.refl _ _).alloc (Nat.le_refl _) _).alloc (by simp) _
  have bAB : Below A.heap.size A B := hB1.trans (bB1.mono (by omega))
  have hI0 : DivI w0 w0.heap.size W1.heap.size g cap p d xs xs.length B := by
    refine ⟨boxed_below A1 bAB (by omega), boxed_below A2 bAB (by omega), ?_, ?_, ?_, ?_, ?_, bA.trans (bAB.mono (by omega)), by omega⟩
    · rw [List.drop_length]; exact boxed_below A3 bAB (by omega)
    · rw [← hBw]; exact (Boxed.new _ _ _).alloc _
    · rw [← hBw]; have := Boxed.new (W1.alloc (.cells #[.slice p xs.length cap] 38)) 38 (.slice p xs.length cap); rw [World.size_alloc] at this; exact this
    · rw [List.drop_length, List.take_length]
      show Limbs B p cap g (xs ++ [])
      rw [List.append_nil]
      exact ⟨hL1.ptr, hL1.cap, fun j hj => (World.cell?_of_block (bB1.block g (hg (by omega)).2.1)).trans (hL1.cell j hj)⟩
    · intro h0 j
      exact (World.frozen?_of_block (bB1.block g (hg h0).2.1)).trans ((hg h0).2.2 j)
  rw [hBw]
  refine wpIn_backward (by omega) (W1.heap.size + 1) rfl rfl p xs.length cap g (fun i => xs.getD i 0) hlen hL1.ptr (fun i W => i ≤ xs.length ∧ DivI w0 w0.heap.size W1.heap.size g cap p d xs i W)
    (fun i W W' h hb => ⟨h.1, h.2.stable (by rw [← sB]; exact hb) h.1 hW1 (fun h0 => (hg h0).2.1)⟩) (fun i W h => ⟨h.2.b.cell, fun j hj => ?_⟩) ⟨Nat.le_refl _, hI0⟩
    (fun i => { tmps := #[.agg #[.slice p0 n0 cap0], .int .u64 d, .pointer (some ⟨w0.heap.size, 0, none⟩), .pointer (some ⟨w0.heap.size + 1, 0, none⟩), .pointer (some ⟨w0.heap.size + 1 + 1, 0, none⟩), .pointer (some ⟨w0.heap.size + 1 + 1 + 1, 0, none⟩), .int .i64 0, .pointer (some ⟨W1.heap.size, 0, none⟩), .int .i64 (i : Int), .int .u64 d, .bool false, undef, .agg #[.slice p0 n0 cap0], .slice p xs.length cap, .slice p xs.length cap, .func (.func 85) #[] #[.pointer (some ⟨W1.heap.size + 1, 0, none⟩)], .int .i64 (i : Int), .int .u64 (xs.getD i 0), undef, undef, undef, undef, undef, undef, undef, undef, undef, undef, undef, undef, undef, undef, undef, undef], defers := [] }) ?assign ?body ?done
  · have := h.2.row.cell j (by rw [mix_length d xs i h.1]; omega)
    rw [List.getElem_append_left (by rw [List.length_take]; omega), List.getElem_take] at this
    rw [this, getD_at xs j (by omega)]
  case assign =>
    intro l i W K hK
    gi_wp2
    exact hK
  case body =>
    rintro l i W hi hsz ⟨hi1, h⟩
    have hg' := hg (by omega)
    have hNg : w0.heap.size + 4 ≤ g := by omega
    obtain rfl := h.row.ptr (by rw [mix_length d xs _ hi1]; omega)
    obtain ⟨r0, hr0⟩ : ∃ r0, (S.deci_Divq d (xs.drop (i + 1))).2 = r0 := ⟨_, rfl⟩
    obtain ⟨xi, hxi⟩ : ∃ xi, xs.getD i 0 = xi := ⟨_, rfl⟩
    obtain ⟨qv, hqv⟩ : ∃ qv, (r0 * 18446744073709551616 + xi) / d = qv := ⟨_, rfl⟩
    obtain ⟨rv, hrv⟩ : ∃ rv, (r0 * 18446744073709551616 + xi) % d = rv := ⟨_, rfl⟩
    have hstart := DivW.start (qv := qv) (rv := rv) h hi
    rw [hxi]
    gi_wp2
    refine wpIn_region_any (by kernel_rfl) ?_
    refine any_inv (fun L a w => ∃ b0 b1 b2 b3 b4 b5 b6 b7 b8 b9 b10 b11 b12 b13 b14 : Bool, L = #[b0, b1, b2, b3, b4, b5, b6, b7, b8, b9, b10, b11, b12, b13, b14] ∧ a = { tmps := #[.agg #[.slice p0 n0 cap0], .int .u64 d, .pointer (some ⟨w0.heap.size, 0, none⟩), .pointer (some ⟨w0.heap.size + 1, 0, none⟩), .pointer (some ⟨w0.heap.size + 1 + 1, 0, none⟩), .pointer (some ⟨w0.heap.size + 1 + 1 + 1, 0, none⟩), .int .i64 0, .pointer (some ⟨W1.heap.size, 0, none⟩), .int .i64 (i : Int), .int .u64 d, .bool false, undef, .agg #[.slice p0 n0 cap0], .slice (some ⟨g, 0, none⟩) xs.length cap, .slice (some ⟨g, 0, none⟩) xs.length cap, .func (.func 85) #[] #[.pointer (some ⟨W1.heap.size + 1, 0, none⟩)], .int .i64 (i : Int), .int .u64 xi, (bif b9 then .tuple #[.int .u64 qv, .int .u64 rv] else undef), (bif b0 then .slice (some ⟨g, 0, none⟩) xs.length cap else undef), (bif b1 then .int .i64 (i : Int) else undef), (bif b2 then .int .u64 r0 else undef), (bif b3 then .slice (some ⟨g, 0, none⟩) xs.length cap else undef), (bif b4 then .int .i64 (i : Int) else undef), (bif b5 then .pointer (some ⟨g, i, none⟩) else undef), (bif b6 then .int .u64 xi else undef), (bif b7 then .int .u64 d else undef), (bif b8 then .tuple #[.int .u64 qv, .int .u64 rv] else undef), (bif b10 then .int .u64 qv else undef), (bif b11 then .int .u64 rv else undef), (bif b12 then .pointer (some ⟨g, i, none⟩) else undef), undef, undef, undef], defers := [] } ∧ (b13 = true → b6 = true) ∧ (b14 = true → b2 = true) ∧ DivW w0 w0.heap.size W1.heap.size g cap (some ⟨g, 0, none⟩) d xs i qv rv b13 b14 W w) ?_ ?_ _ _ _ _ rfl (by decide) ⟨false, false, false, false, false, false, false, false, false, false, false, false, false, false, false, rfl, rfl, (fun h => by cases h), (fun h => by cases h), hstart⟩
    · rintro L a w k K - ⟨b0, b1, b2, b3, b4, b5, b6, b7, b8, b9, b10, b11, b12, b13, b14, rfl, rfl, hm1, hm2, hw⟩ hk hK
      have hkl : k < 15 := (ready_iff.1 hk).1
      have cl := hw.l.cell
      have cb := hw.by_.cell
      match k, hkl, hk with
      | 0, _, hk =>
        have hr := ready_at rfl hk
        clear hk
        simp [Region.binds, -Array.all_toList] at hr
        have e0 : b0 = false := by first | exact hr | exact hr.1 | exact hr.2 | exact hr.2.1 | exact hr.2.2 | exact hr.2.2.1 | exact hr.2.2.2 | exact hr.2.2.2.1 | exact hr.2.2.2.2 | exact hr.2.2.2.2.1 | exact hr.2.2.2.2.2 | exact hr.2.2.2.2.2.1 | exact hr.2.2.2.2.2.2 | exact hr.2.2.2.2.2.2.1 | exact hr.2.2.2.2.2.2.2 | exact hr.2.2.2.2.2.2.2.1 | exact hr.2.2.2.2.2.2.2.2 | exact hr.2.2.2.2.2.2.2.2.1 | exact hr.2.2.2.2.2.2.2.2.2 | exact hr.2.2.2.2.2.2.2.2.2.1 | exact hr.2.2.2.2.2.2.2.2.2.2 | exact hr.2.2.2.2.2.2.2.2.2.2.1 | exact hr.2.2.2.2.2.2.2.2.2.2.2 | exact hr.2.2.2.2.2.2.2.2.2.2.2.1 | exact hr.2.2.2.2.2.2.2.2.2.2.2.2 | exact hr.2.2.2.2.2.2.2.2.2.2.2.2.1 | exact hr.2.2.2.2.2.2.2.2.2.2.2.2.2 | exact hr.2.2.2.2.2.2.2.2.2.2.2.2.2.1 | exact hr.2.2.2.2.2.2.2.2.2.2.2.2.2.2 | exact hr.2.2.2.2.2.2.2.2.2.2.2.2.2.2.1 | exact hr.2.2.2.2.2.2.2.2.2.2.2.2.2.2.2 | exact hr.2.2.2.2.2.2.2.2.2.2.2.2.2.2.2.1 | exact hr.2.2.2.2.2.2.2.2.2.2.2.2.2.2.2.2 | exact hr.2.2.2.2.2.2.2.2.2.2.2.2.2.2.2.2.1 | exact hr.2.2.2.2.2.2.2.2.2.2.2.2.2.2.2.2.2 | exact hr.2.2.2.2.2.2.2.2.2.2.2.2.2.2.2.2.2.1 | exact hr.2.2.2.2.2.2.2.2.2.2.2.2.2.2.2.2.2.2 | exact hr.2.2.2.2.2.2.2.2.2.2.2.2.2.2.2.2.2.2.1 | exact hr.2.2.2.2.2.2.2.2.2.2.2.2.2.2.2.2.2.2.2 | exact hr.2.2.2.2.2.2.2.2.2.2.2.2.2.2.2.2.2.2.2.1 | exact hr.2.2.2.2.2.2.2.2.2.2.2.2.2.2.2.2.2.2.2.2
        clear hr
        subst e0
        refine wpOpIn_at rfl ?_
        go_simp
        exact hK _ _ ⟨true, b1, b2, b3, b4, b5, b6, b7, b8, b9, b10, b11, b12, b13, b14, rfl, rfl, hm1, hm2, hw⟩
      | 1, _, hk =>
        have hr := ready_at rfl hk
        clear hk
        simp [Region.binds, -Array.all_toList] at hr
        have e1 : b1 = false := by first | exact hr | exact hr.1 | exact hr.2 | exact hr.2.1 | exact hr.2.2 | exact hr.2.2.1 | exact hr.2.2.2 | exact hr.2.2.2.1 | exact hr.2.2.2.2 | exact hr.2.2.2.2.1 | exact hr.2.2.2.2.2 | exact hr.2.2.2.2.2.1 | exact hr.2.2.2.2.2.2 | exact hr.2.2.2.2.2.2.1 | exact hr.2.2.2.2.2.2.2 | exact hr.2.2.2.2.2.2.2.1 | exact hr.2.2.2.2.2.2.2.2 | exact hr.2.2.2.2.2.2.2.2.1 | exact hr.2.2.2.2.2.2.2.2.2 | exact hr.2.2.2.2.2.2.2.2.2.1 | exact hr.2.2.2.2.2.2.2.2.2.2 | exact hr.2.2.2.2.2.2.2.2.2.2.1 | exact hr.2.2.2.2.2.2.2.2.2.2.2 | exact hr.2.2.2.2.2.2.2.2.2.2.2.1 | exact hr.2.2.2.2.2.2.2.2.2.2.2.2 | exact hr.2.2.2.2.2.2.2.2.2.2.2.2.1 | exact hr.2.2.2.2.2.2.2.2.2.2.2.2.2 | exact hr.2.2.2.2.2.2.2.2.2.2.2.2.2.1 | exact hr.2.2.2.2.2.2.2.2.2.2.2.2.2.2 | exact hr.2.2.2.2.2.2.2.2.2.2.2.2.2.2.1 | exact hr.2.2.2.2.2.2.2.2.2.2.2.2.2.2.2 | exact hr.2.2.2.2.2.2.2.2.2.2.2.2.2.2.2.1 | exact hr.2.2.2.2.2.2.2.2.2.2.2.2.2.2.2.2 | exact hr.2.2.2.2.2.2.2.2.2.2.2.2.2.2.2.2.1 | exact hr.2.2.2.2.2.2.2.2.2.2.2.2.2.2.2.2.2 | exact hr.2.2.2.2.2.2.2.2.2.2.2.2.2.2.2.2.2.1 | exact hr.2.2.2.2.2.2.2.2.2.2.2.2.2.2.2.2.2.2 | exact hr.2.2.2.2.2.2.2.2.2.2.2.2.2.2.2.2.2.2.1 | exact hr.2.2.2.2.2.2.2.2.2.2.2.2.2.2.2.2.2.2.2 | exact hr.2.2.2.2.2.2.2.2.2.2.2.2.2.2.2.2.2.2.2.1 | exact hr.2.2.2.2.2.2.2.2.2.2.2.2.2.2.2.2.2.2.2.2
        clear hr
        subst e1
        refine wpOpIn_at rfl ?_
        go_simp
        exact hK _ _ ⟨b0, true, b2, b3, b4, b5, b6, b7, b8, b9, b10, b11, b12, b13, b14, rfl, rfl, hm1, hm2, hw⟩
      | 2, _, hk =>
        have hr := ready_at rfl hk
        clear hk
        simp [Region.binds, -Array.all_toList] at hr
        have e2 : b2 = false := by first | exact hr | exact hr.1 | exact hr.2 | exact hr.2.1 | exact hr.2.2 | exact hr.2.2.1 | exact hr.2.2.2 | exact hr.2.2.2.1 | exact hr.2.2.2.2 | exact hr.2.2.2.2.1 | exact hr.2.2.2.2.2 | exact hr.2.2.2.2.2.1 | exact hr.2.2.2.2.2.2 | exact hr.2.2.2.2.2.2.1 | exact hr.2.2.2.2.2.2.2 | exact hr.2.2.2.2.2.2.2.1 | exact hr.2.2.2.2.2.2.2.2 | exact hr.2.2.2.2.2.2.2.2.1 | exact hr.2.2.2.2.2.2.2.2.2 | exact hr.2.2.2.2.2.2.2.2.2.1 | exact hr.2.2.2.2.2.2.2.2.2.2 | exact hr.2.2.2.2.2.2.2.2.2.2.1 | exact hr.2.2.2.2.2.2.2.2.2.2.2 | exact hr.2.2.2.2.2.2.2.2.2.2.2.1 | exact hr.2.2.2.2.2.2.2.2.2.2.2.2 | exact hr.2.2.2.2.2.2.2.2.2.2.2.2.1 | exact hr.2.2.2.2.2.2.2.2.2.2.2.2.2 | exact hr.2.2.2.2.2.2.2.2.2.2.2.2.2.1 | exact hr.2.2.2.2.2.2.2.2.2.2.2.2.2.2 | exact hr.2.2.2.2.2.2.2.2.2.2.2.2.2.2.1 | exact hr.2.2.2.2.2.2.2.2.2.2.2.2.2.2.2 | exact hr.2.2.2.2.2.2.2.2.2.2.2.2.2.2.2.1 | exact hr.2.2.2.2.2.2.2.2.2.2.2.2.2.2.2.2 | exact hr.2.2.2.2.2.2.2.2.2.2.2.2.2.2.2.2.1 | exact hr.2.2.2.2.2.2.2.2.2.2.2.2.2.2.2.2.2 | exact hr.2.2.2.2.2.2.2.2.2.2.2.2.2.2.2.2.2.1 | exact hr.2.2.2.2.2.2.2.2.2.2.2.2.2.2.2.2.2.2 | exact hr.2.2.2.2.2.2.2.2.2.2.2.2.2.2.2.2.2.2.1 | exact hr.2.2.2.2.2.2.2.2.2.2.2.2.2.2.2.2.2.2.2 | exact hr.2.2.2.2.2.2.2.2.2.2.2.2.2.2.2.2.2.2.2.1 | exact hr.2.2.2.2.2.2.2.2.2.2.2.2.2.2.2.2.2.2.2.2
        clear hr
        subst e2
        obtain rfl : b14 = false := by cases b14 with | false => rfl | true => exact absurd (hm2 rfl) (by decide)
        have cr := hw.r.cell
        rw [show (bif false then rv else (S.deci_Divq d (xs.drop (i + 1))).2) = r0 from hr0] at cr
        refine wpOpIn_at rfl ?_
        go_simp
        exact hK _ _ ⟨b0, b1, true, b3, b4, b5, b6, b7, b8, b9, b10, b11, b12, b13, false, rfl, rfl, hm1, (fun h => by cases h), hw⟩
      | 3, _, hk =>
        have hr := ready_at rfl hk
        clear hk
        simp [Region.binds, -Array.all_toList] at hr
        have e3 : b3 = false := by first | exact hr | exact hr.1 | exact hr.2 | exact hr.2.1 | exact hr.2.2 | exact hr.2.2.1 | exact hr.2.2.2 | exact hr.2.2.2.1 | exact hr.2.2.2.2 | exact hr.2.2.2.2.1 | exact hr.2.2.2.2.2 | exact hr.2.2.2.2.2.1 | exact hr.2.2.2.2.2.2 | exact hr.2.2.2.2.2.2.1 | exact hr.2.2.2.2.2.2.2 | exact hr.2.2.2.2.2.2.2.1 | exact hr.2.2.2.2.2.2.2.2 | exact hr.2.2.2.2.2.2.2.2.1 | exact hr.2.2.2.2.2.2.2.2.2 | exact hr.2.2.2.2.2.2.2.2.2.1 | exact hr.2.2.2.2.2.2.2.2.2.2 | exact hr.2.2.2.2.2.2.2.2.2.2.1 | exact hr.2.2.2.2.2.2.2.2.2.2.2 | exact hr.2.2.2.2.2.2.2.2.2.2.2.1 | exact hr.2.2.2.2.2.2.2.2.2.2.2.2 | exact hr.2.2.2.2.2.2.2.2.2.2.2.2.1 | exact hr.2.2.2.2.2.2.2.2.2.2.2.2.2 | exact hr.2.2.2.2.2.2.2.2.2.2.2.2.2.1 | exact hr.2.2.2.2.2.2.2.2.2.2.2.2.2.2 | exact hr.2.2.2.2.2.2.2.2.2.2.2.2.2.2.1 | exact hr.2.2.2.2.2.2.2.2.2.2.2.2.2.2.2 | exact hr.2.2.2.2.2.2.2.2.2.2.2.2.2.2.2.1 | exact hr.2.2.2.2.2.2.2.2.2.2.2.2.2.2.2.2 | exact hr.2.2.2.2.2.2.2.2.2.2.2.2.2.2.2.2.1 | exact hr.2.2.2.2.2.2.2.2.2.2.2.2.2.2.2.2.2 | exact hr.2.2.2.2.2.2.2.2.2.2.2.2.2.2.2.2.2.1 | exact hr.2.2.2.2.2.2.2.2.2.2.2.2.2.2.2.2.2.2 | exact hr.2.2.2.2.2.2.2.2.2.2.2.2.2.2.2.2.2.2.1 | exact hr.2.2.2.2.2.2.2.2.2.2.2.2.2.2.2.2.2.2.2 | exact hr.2.2.2.2.2.2.2.2.2.2.2.2.2.2.2.2.2.2.2.1 | exact hr.2.2.2.2.2.2.2.2.2.2.2.2.2.2.2.2.2.2.2.2
        clear hr
        subst e3
        refine wpOpIn_at rfl ?_
        go_simp
        exact hK _ _ ⟨b0, b1, b2, true, b4, b5, b6, b7, b8, b9, b10, b11, b12, b13, b14, rfl, rfl, hm1, hm2, hw⟩
      | 4, _, hk =>
        have hr := ready_at rfl hk
        clear hk
        simp [Region.binds, -Array.all_toList] at hr
        have e4 : b4 = false := by first | exact hr | exact hr.1 | exact hr.2 | exact hr.2.1 | exact hr.2.2 | exact hr.2.2.1 | exact hr.2.2.2 | exact hr.2.2.2.1 | exact hr.2.2.2.2 | exact hr.2.2.2.2.1 | exact hr.2.2.2.2.2 | exact hr.2.2.2.2.2.1 | exact hr.2.2.2.2.2.2 | exact hr.2.2.2.2.2.2.1 | exact hr.2.2.2.2.2.2.2 | exact hr.2.2.2.2.2.2.2.1 | exact hr.2.2.2.2.2.2.2.2 | exact hr.2.2.2.2.2.2.2.2.1 | exact hr.2.2.2.2.2.2.2.2.2 | exact hr.2.2.2.2.2.2.2.2.2.1 | exact hr.2.2.2.2.2.2.2.2.2.2 | exact hr.2.2.2.2.2.2.2.2.2.2.1 | exact hr.2.2.2.2.2.2.2.2.2.2.2 | exact hr.2.2.2.2.2.2.2.2.2.2.2.1 | exact hr.2.2.2.2.2.2.2.2.2.2.2.2 | exact hr.2.2.2.2.2.2.2.2.2.2.2.2.1 | exact hr.2.2.2.2.2.2.2.2.2.2.2.2.2 | exact hr.2.2.2.2.2.2.2.2.2.2.2.2.2.1 | exact hr.2.2.2.2.2.2.2.2.2.2.2.2.2.2 | exact hr.2.2.2.2.2.2.2.2.2.2.2.2.2.2.1 | exact hr.2.2.2.2.2.2.2.2.2.2.2.2.2.2.2 | exact hr.2.2.2.2.2.2.2.2.2.2.2.2.2.2.2.1 | exact hr.2.2.2.2.2.2.2.2.2.2.2.2.2.2.2.2 | exact hr.2.2.2.2.2.2.2.2.2.2.2.2.2.2.2.2.1 | exact hr.2.2.2.2.2.2.2.2.2.2.2.2.2.2.2.2.2 | exact hr.2.2.2.2.2.2.2.2.2.2.2.2.2.2.2.2.2.1 | exact hr.2.2.2.2.2.2.2.2.2.2.2.2.2.2.2.2.2.2 | exact hr.2.2.2.2.2.2.2.2.2.2.2.2.2.2.2.2.2.2.1 | exact hr.2.2.2.2.2.2.2.2.2.2.2.2.2.2.2.2.2.2.2 | exact hr.2.2.2.2.2.2.2.2.2.2.2.2.2.2.2.2.2.2.2.1 | exact hr.2.2.2.2.2.2.2.2.2.2.2.2.2.2.2.2.2.2.2.2
        clear hr
        subst e4
        refine wpOpIn_at rfl ?_
        go_simp
        exact hK _ _ ⟨b0, b1, b2, b3, true, b5, b6, b7, b8, b9, b10, b11, b12, b13, b14, rfl, rfl, hm1, hm2, hw⟩
      | 5, _, hk =>
        have hr := ready_at rfl hk
        clear hk
        simp [Region.binds, -Array.all_toList] at hr
        have e5 : b5 = false := by first | exact hr | exact hr.1 | exact hr.2 | exact hr.2.1 | exact hr.2.2 | exact hr.2.2.1 | exact hr.2.2.2 | exact hr.2.2.2.1 | exact hr.2.2.2.2 | exact hr.2.2.2.2.1 | exact hr.2.2.2.2.2 | exact hr.2.2.2.2.2.1 | exact hr.2.2.2.2.2.2 | exact hr.2.2.2.2.2.2.1 | exact hr.2.2.2.2.2.2.2 | exact hr.2.2.2.2.2.2.2.1 | exact hr.2.2.2.2.2.2.2.2 | exact hr.2.2.2.2.2.2.2.2.1 | exact hr.2.2.2.2.2.2.2.2.2 | exact hr.2.2.2.2.2.2.2.2.2.1 | exact hr.2.2.2.2.2.2.2.2.2.2 | exact hr.2.2.2.2.2.2.2.2.2.2.1 | exact hr.2.2.2.2.2.2.2.2.2.2.2 | exact hr.2.2.2.2.2.2.2.2.2.2.2.1 | exact hr.2.2.2.2.2.2.2.2.2.2.2.2 | exact hr.2.2.2.2.2.2.2.2.2.2.2.2.1 | exact hr.2.2.2.2.2.2.2.2.2.2.2.2.2 | exact hr.2.2.2.2.2.2.2.2.2.2.2.2.2.1 | exact hr.2.2.2.2.2.2.2.2.2.2.2.2.2.2 | exact hr.2.2.2.2.2.2.2.2.2.2.2.2.2.2.1 | exact hr.2.2.2.2.2.2.2.2.2.2.2.2.2.2.2 | exact hr.2.2.2.2.2.2.2.2.2.2.2.2.2.2.2.1 | exact hr.2.2.2.2.2.2.2.2.2.2.2.2.2.2.2.2 | exact hr.2.2.2.2.2.2.2.2.2.2.2.2.2.2.2.2.1 | exact hr.2.2.2.2.2.2.2.2.2.2.2.2.2.2.2.2.2 | exact hr.2.2.2.2.2.2.2.2.2.2.2.2.2.2.2.2.2.1 | exact hr.2.2.2.2.2.2.2.2.2.2.2.2.2.2.2.2.2.2 | exact hr.2.2.2.2.2.2.2.2.2.2.2.2.2.2.2.2.2.2.1 | exact hr.2.2.2.2.2.2.2.2.2.2.2.2.2.2.2.2.2.2.2 | exact hr.2.2.2.2.2.2.2.2.2.2.2.2.2.2.2.2.2.2.2.1 | exact hr.2.2.2.2.2.2.2.2.2.2.2.2.2.2.2.2.2.2.2.2
        have e3 : b3 = true := by first | exact hr | exact hr.1 | exact hr.2 | exact hr.2.1 | exact hr.2.2 | exact hr.2.2.1 | exact hr.2.2.2 | exact hr.2.2.2.1 | exact hr.2.2.2.2 | exact hr.2.2.2.2.1 | exact hr.2.2.2.2.2 | exact hr.2.2.2.2.2.1 | exact hr.2.2.2.2.2.2 | exact hr.2.2.2.2.2.2.1 | exact hr.2.2.2.2.2.2.2 | exact hr.2.2.2.2.2.2.2.1 | exact hr.2.2.2.2.2.2.2.2 | exact hr.2.2.2.2.2.2.2.2.1 | exact hr.2.2.2.2.2.2.2.2.2 | exact hr.2.2.2.2.2.2.2.2.2.1 | exact hr.2.2.2.2.2.2.2.2.2.2 | exact hr.2.2.2.2.2.2.2.2.2.2.1 | exact hr.2.2.2.2.2.2.2.2.2.2.2 | exact hr.2.2.2.2.2.2.2.2.2.2.2.1 | exact hr.2.2.2.2.2.2.2.2.2.2.2.2 | exact hr.2.2.2.2.2.2.2.2.2.2.2.2.1 | exact hr.2.2.2.2.2.2.2.2.2.2.2.2.2 | exact hr.2.2.2.2.2.2.2.2.2.2.2.2.2.1 | exact hr.2.2.2.2.2.2.2.2.2.2.2.2.2.2 | exact hr.2.2.2.2.2.2.2.2.2.2.2.2.2.2.1 | exact hr.2.2.2.2.2.2.2.2.2.2.2.2.2.2.2 | exact hr.2.2.2.2.2.2.2.2.2.2.2.2.2.2.2.1 | exact hr.2.2.2.2.2.2.2.2.2.2.2.2.2.2.2.2 | exact hr.2.2.2.2.2.2.2.2.2.2.2.2.2.2.2.2.1 | exact hr.2.2.2.2.2.2.2.2.2.2.2.2.2.2.2.2.2 | exact hr.2.2.2.2.2.2.2.2.2.2.2.2.2.2.2.2.2.1 | exact hr.2.2.2.2.2.2.2.2.2.2.2.2.2.2.2.2.2.2 | exact hr.2.2.2.2.2.2.2.2.2.2.2.2.2.2.2.2.2.2.1 | exact hr.2.2.2.2.2.2.2.2.2.2.2.2.2.2.2.2.2.2.2 | exact hr.2.2.2.2.2.2.2.2.2.2.2.2.2.2.2.2.2.2.2.1 | exact hr.2.2.2.2.2.2.2.2.2.2.2.2.2.2.2.2.2.2.2.2
        have e4 : b4 = true := by first | exact hr | exact hr.1 | exact hr.2 | exact hr.2.1 | exact hr.2.2 | exact hr.2.2.1 | exact hr.2.2.2 | exact hr.2.2.2.1 | exact hr.2.2.2.2 | exact hr.2.2.2.2.1 | exact hr.2.2.2.2.2 | exact hr.2.2.2.2.2.1 | exact hr.2.2.2.2.2.2 | exact hr.2.2.2.2.2.2.1 | exact hr.2.2.2.2.2.2.2 | exact hr.2.2.2.2.2.2.2.1 | exact hr.2.2.2.2.2.2.2.2 | exact hr.2.2.2.2.2.2.2.2.1 | exact hr.2.2.2.2.2.2.2.2.2 | exact hr.2.2.2.2.2.2.2.2.2.1 | exact hr.2.2.2.2.2.2.2.2.2.2 | exact hr.2.2.2.2.2.2.2.2.2.2.1 | exact hr.2.2.2.2.2.2.2.2.2.2.2 | exact hr.2.2.2.2.2.2.2.2.2.2.2.1 | exact hr.2.2.2.2.2.2.2.2.2.2.2.2 | exact hr.2.2.2.2.2.2.2.2.2.2.2.2.1 | exact hr.2.2.2.2.2.2.2.2.2.2.2.2.2 | exact hr.2.2.2.2.2.2.2.2.2.2.2.2.2.1 | exact hr.2.2.2.2.2.2.2.2.2.2.2.2.2.2 | exact hr.2.2.2.2.2.2.2.2.2.2.2.2.2.2.1 | exact hr.2.2.2.2.2.2.2.2.2.2.2.2.2.2.2 | exact hr.2.2.2.2.2.2.2.2.2.2.2.2.2.2.2.1 | exact hr.2.2.2.2.2.2.2.2.2.2.2.2.2.2.2.2 | exact hr.2.2.2.2.2.2.2.2.2.2.2.2.2.2.2.2.1 | exact hr.2.2.2.2.2.2.2.2.2.2.2.2.2.2.2.2.2 | exact hr.2.2.2.2.2.2.2.2.2.2.2.2.2.2.2.2.2.1 | exact hr.2.2.2.2.2.2.2.2.2.2.2.2.2.2.2.2.2.2 | exact hr.2.2.2.2.2.2.2.2.2.2.2.2.2.2.2.2.2.2.1 | exact hr.2.2.2.2.2.2.2.2.2.2.2.2.2.2.2.2.2.2.2 | exact hr.2.2.2.2.2.2.2.2.2.2.2.2.2.2.2.2.2.2.2.1 | exact hr.2.2.2.2.2.2.2.2.2.2.2.2.2.2.2.2.2.2.2.2
        clear hr
        subst e5 e3 e4
        refine wpOpIn_at rfl ?_
        go_simp
        exact hK _ _ ⟨b0, b1, b2, true, true, true, b6, b7, b8, b9, b10, b11, b12, b13, b14, rfl, rfl, hm1, hm2, hw⟩
      | 6, _, hk =>
        have hr := ready_at rfl hk
        clear hk
        simp [Region.binds, -Array.all_toList] at hr
        have e6 : b6 = false := by first | exact hr | exact hr.1 | exact hr.2 | exact hr.2.1 | exact hr.2.2 | exact hr.2.2.1 | exact hr.2.2.2 | exact hr.2.2.2.1 | exact hr.2.2.2.2 | exact hr.2.2.2.2.1 | exact hr.2.2.2.2.2 | exact hr.2.2.2.2.2.1 | exact hr.2.2.2.2.2.2 | exact hr.2.2.2.2.2.2.1 | exact hr.2.2.2.2.2.2.2 | exact hr.2.2.2.2.2.2.2.1 | exact hr.2.2.2.2.2.2.2.2 | exact hr.2.2.2.2.2.2.2.2.1 | exact hr.2.2.2.2.2.2.2.2.2 | exact hr.2.2.2.2.2.2.2.2.2.1 | exact hr.2.2.2.2.2.2.2.2.2.2 | exact hr.2.2.2.2.2.2.2.2.2.2.1 | exact hr.2.2.2.2.2.2.2.2.2.2.2 | exact hr.2.2.2.2.2.2.2.2.2.2.2.1 | exact hr.2.2.2.2.2.2.2.2.2.2.2.2 | exact hr.2.2.2.2.2.2.2.2.2.2.2.2.1 | exact hr.2.2.2.2.2.2.2.2.2.2.2.2.2 | exact hr.2.2.2.2.2.2.2.2.2.2.2.2.2.1 | exact hr.2.2.2.2.2.2.2.2.2.2.2.2.2.2 | exact hr.2.2.2.2.2.2.2.2.2.2.2.2.2.2.1 | exact hr.2.2.2.2.2.2.2.2.2.2.2.2.2.2.2 | exact hr.2.2.2.2.2.2.2.2.2.2.2.2.2.2.2.1 | exact hr.2.2.2.2.2.2.2.2.2.2.2.2.2.2.2.2 | exact hr.2.2.2.2.2.2.2.2.2.2.2.2.2.2.2.2.1 | exact hr.2.2.2.2.2.2.2.2.2.2.2.2.2.2.2.2.2 | exact hr.2.2.2.2.2.2.2.2.2.2.2.2.2.2.2.2.2.1 | exact hr.2.2.2.2.2.2.2.2.2.2.2.2.2.2.2.2.2.2 | exact hr.2.2.2.2.2.2.2.2.2.2.2.2.2.2.2.2.2.2.1 | exact hr.2.2.2.2.2.2.2.2.2.2.2.2.2.2.2.2.2.2.2 | exact hr.2.2.2.2.2.2.2.2.2.2.2.2.2.2.2.2.2.2.2.1 | exact hr.2.2.2.2.2.2.2.2.2.2.2.2.2.2.2.2.2.2.2.2
        have e5 : b5 = true := by first | exact hr | exact hr.1 | exact hr.2 | exact hr.2.1 | exact hr.2.2 | exact hr.2.2.1 | exact hr.2.2.2 | exact hr.2.2.2.1 | exact hr.2.2.2.2 | exact hr.2.2.2.2.1 | exact hr.2.2.2.2.2 | exact hr.2.2.2.2.2.1 | exact hr.2.2.2.2.2.2 | exact hr.2.2.2.2.2.2.1 | exact hr.2.2.2.2.2.2.2 | exact hr.2.2.2.2.2.2.2.1 | exact hr.2.2.2.2.2.2.2.2 | exact hr.2.2.2.2.2.2.2.2.1 | exact hr.2.2.2.2.2.2.2.2.2 | exact hr.2.2.2.2.2.2.2.2.2.1 | exact hr.2.2.2.2.2.2.2.2.2.2 | exact hr.2.2.2.2.2.2.2.2.2.2.1 | exact hr.2.2.2.2.2.2.2.2.2.2.2 | exact hr.2.2.2.2.2.2.2.2.2.2.2.1 | exact hr.2.2.2.2.2.2.2.2.2.2.2.2 | exact hr.2.2.2.2.2.2.2.2.2.2.2.2.1 | exact hr.2.2.2.2.2.2.2.2.2.2.2.2.2 | exact hr.2.2.2.2.2.2.2.2.2.2.2.2.2.1 | exact hr.2.2.2.2.2.2.2.2.2.2.2.2.2.2 | exact hr.2.2.2.2.2.2.2.2.2.2.2.2.2.2.1 | exact hr.2.2.2.2.2.2.2.2.2.2.2.2.2.2.2 | exact hr.2.2.2.2.2.2.2.2.2.2.2.2.2.2.2.1 | exact hr.2.2.2.2.2.2.2.2.2.2.2.2.2.2.2.2 | exact hr.2.2.2.2.2.2.2.2.2.2.2.2.2.2.2.2.1 | exact hr.2.2.2.2.2.2.2.2.2.2.2.2.2.2.2.2.2 | exact hr.2.2.2.2.2.2.2.2.2.2.2.2.2.2.2.2.2.1 | exact hr.2.2.2.2.2.2.2.2.2.2.2.2.2.2.2.2.2.2 | exact hr.2.2.2.2.2.2.2.2.2.2.2.2.2.2.2.2.2.2.1 | exact hr.2.2.2.2.2.2.2.2.2.2.2.2.2.2.2.2.2.2.2 | exact hr.2.2.2.2.2.2.2.2.2.2.2.2.2.2.2.2.2.2.2.1 | exact hr.2.2.2.2.2.2.2.2.2.2.2.2.2.2.2.2.2.2.2.2
        clear hr
        subst e6 e5
        obtain rfl : b13 = false := by cases b13 with | false => rfl | true => exact absurd (hm1 rfl) (by decide)
        have cx := hw.row i hi
        rw [if_pos rfl, show (bif false then qv else xs.getD i 0) = xi from hxi] at cx
        refine wpOpIn_at rfl ?_
        go_simp
        exact hK _ _ ⟨b0, b1, b2, b3, b4, true, true, b7, b8, b9, b10, b11, b12, false, b14, rfl, rfl, (fun h => by cases h), hm2, hw⟩
      | 7, _, hk =>
        have hr := ready_at rfl hk
        clear hk
        simp [Region.binds, -Array.all_toList] at hr
        have e7 : b7 = false := by first | exact hr | exact hr.1 | exact hr.2 | exact hr.2.1 | exact hr.2.2 | exact hr.2.2.1 | exact hr.2.2.2 | exact hr.2.2.2.1 | exact hr.2.2.2.2 | exact hr.2.2.2.2.1 | exact hr.2.2.2.2.2 | exact hr.2.2.2.2.2.1 | exact hr.2.2.2.2.2.2 | exact hr.2.2.2.2.2.2.1 | exact hr.2.2.2.2.2.2.2 | exact hr.2.2.2.2.2.2.2.1 | exact hr.2.2.2.2.2.2.2.2 | exact hr.2.2.2.2.2.2.2.2.1 | exact hr.2.2.2.2.2.2.2.2.2 | exact hr.2.2.2.2.2.2.2.2.2.1 | exact hr.2.2.2.2.2.2.2.2.2.2 | exact hr.2.2.2.2.2.2.2.2.2.2.1 | exact hr.2.2.2.2.2.2.2.2.2.2.2 | exact hr.2.2.2.2.2.2.2.2.2.2.2.1 | exact hr.2.2.2.2.2.2.2.2.2.2.2.2 | exact hr.2.2.2.2.2.2.2.2.2.2.2.2.1 | exact hr.2.2.2.2.2.2.2.2.2.2.2.2.2 | exact hr.2.2.2.2.2.2.2.2.2.2.2.2.2.1 | exact hr.2.2.2.2.2.2.2.2.2.2.2.2.2.2 | exact hr.2.2.2.2.2.2.2.2.2.2.2.2.2.2.1 | exact hr.2.2.2.2.2.2.2.2.2.2.2.2.2.2.2 | exact hr.2.2.2.2.2.2.2.2.2.2.2.2.2.2.2.1 | exact hr.2.2.2.2.2.2.2.2.2.2.2.2.2.2.2.2 | exact hr.2.2.2.2.2.2.2.2.2.2.2.2.2.2.2.2.1 | exact hr.2.2.2.2.2.2.2.2.2.2.2.2.2.2.2.2.2 | exact hr.2.2.2.2.2.2.2.2.2.2.2.2.2.2.2.2.2.1 | exact hr.2.2.2.2.2.2.2.2.2.2.2.2.2.2.2.2.2.2 | exact hr.2.2.2.2.2.2.2.2.2.2.2.2.2.2.2.2.2.2.1 | exact hr.2.2.2.2.2.2.2.2.2.2.2.2.2.2.2.2.2.2.2 | exact hr.2.2.2.2.2.2.2.2.2.2.2.2.2.2.2.2.2.2.2.1 | exact hr.2.2.2.2.2.2.2.2.2.2.2.2.2.2.2.2.2.2.2.2
        clear hr
        subst e7
        refine wpOpIn_at rfl ?_
        go_simp
        exact hK _ _ ⟨b0, b1, b2, b3, b4, b5, b6, true, b8, b9, b10, b11, b12, b13, b14, rfl, rfl, hm1, hm2, hw⟩
      | 8, _, hk =>
        have hr := ready_at rfl hk
        clear hk
        simp [Region.binds, -Array.all_toList] at hr
        have e8 : b8 = false := by first | exact hr | exact hr.1 | exact hr.2 | exact hr.2.1 | exact hr.2.2 | exact hr.2.2.1 | exact hr.2.2.2 | exact hr.2.2.2.1 | exact hr.2.2.2.2 | exact hr.2.2.2.2.1 | exact hr.2.2.2.2.2 | exact hr.2.2.2.2.2.1 | exact hr.2.2.2.2.2.2 | exact hr.2.2.2.2.2.2.1 | exact hr.2.2.2.2.2.2.2 | exact hr.2.2.2.2.2.2.2.1 | exact hr.2.2.2.2.2.2.2.2 | exact hr.2.2.2.2.2.2.2.2.1 | exact hr.2.2.2.2.2.2.2.2.2 | exact hr.2.2.2.2.2.2.2.2.2.1 | exact hr.2.2.2.2.2.2.2.2.2.2 | exact hr.2.2.2.2.2.2.2.2.2.2.1 | exact hr.2.2.2.2.2.2.2.2.2.2.2 | exact hr.2.2.2.2.2.2.2.2.2.2.2.1 | exact hr.2.2.2.2.2.2.2.2.2.2.2.2 | exact hr.2.2.2.2.2.2.2.2.2.2.2.2.1 | exact hr.2.2.2.2.2.2.2.2.2.2.2.2.2 | exact hr.2.2.2.2.2.2.2.2.2.2.2.2.2.1 | exact hr.2.2.2.2.2.2.2.2.2.2.2.2.2.2 | exact hr.2.2.2.2.2.2.2.2.2.2.2.2.2.2.1 | exact hr.2.2.2.2.2.2.2.2.2.2.2.2.2.2.2 | exact hr.2.2.2.2.2.2.2.2.2.2.2.2.2.2.2.1 | exact hr.2.2.2.2.2.2.2.2.2.2.2.2.2.2.2.2 | exact hr.2.2.2.2.2.2.2.2.2.2.2.2.2.2.2.2.1 | exact hr.2.2.2.2.2.2.2.2.2.2.2.2.2.2.2.2.2 | exact hr.2.2.2.2.2.2.2.2.2.2.2.2.2.2.2.2.2.1 | exact hr.2.2.2.2.2.2.2.2.2.2.2.2.2.2.2.2.2.2 | exact hr.2.2.2.2.2.2.2.2.2.2.2.2.2.2.2.2.2.2.1 | exact hr.2.2.2.2.2.2.2.2.2.2.2.2.2.2.2.2.2.2.2 | exact hr.2.2.2.2.2.2.2.2.2.2.2.2.2.2.2.2.2.2.2.1 | exact hr.2.2.2.2.2.2.2.2.2.2.2.2.2.2.2.2.2.2.2.2
        have e2 : b2 = true := by first | exact hr | exact hr.1 | exact hr.2 | exact hr.2.1 | exact hr.2.2 | exact hr.2.2.1 | exact hr.2.2.2 | exact hr.2.2.2.1 | exact hr.2.2.2.2 | exact hr.2.2.2.2.1 | exact hr.2.2.2.2.2 | exact hr.2.2.2.2.2.1 | exact hr.2.2.2.2.2.2 | exact hr.2.2.2.2.2.2.1 | exact hr.2.2.2.2.2.2.2 | exact hr.2.2.2.2.2.2.2.1 | exact hr.2.2.2.2.2.2.2.2 | exact hr.2.2.2.2.2.2.2.2.1 | exact hr.2.2.2.2.2.2.2.2.2 | exact hr.2.2.2.2.2.2.2.2.2.1 | exact hr.2.2.2.2.2.2.2.2.2.2 | exact hr.2.2.2.2.2.2.2.2.2.2.1 | exact hr.2.2.2.2.2.2.2.2.2.2.2 | exact hr.2.2.2.2.2.2.2.2.2.2.2.1 | exact hr.2.2.2.2.2.2.2.2.2.2.2.2 | exact hr.2.2.2.2.2.2.2.2.2.2.2.2.1 | exact hr.2.2.2.2.2.2.2.2.2.2.2.2.2 | exact hr.2.2.2.2.2.2.2.2.2.2.2.2.2.1 | exact hr.2.2.2.2.2.2.2.2.2.2.2.2.2.2 | exact hr.2.2.2.2.2.2.2.2.2.2.2.2.2.2.1 | exact hr.2.2.2.2.2.2.2.2.2.2.2.2.2.2.2 | exact hr.2.2.2.2.2.2.2.2.2.2.2.2.2.2.2.1 | exact hr.2.2.2.2.2.2.2.2.2.2.2.2.2.2.2.2 | exact hr.2.2.2.2.2.2.2.2.2.2.2.2.2.2.2.2.1 | exact hr.2.2.2.2.2.2.2.2.2.2.2.2.2.2.2.2.2 | exact hr.2.2.2.2.2.2.2.2.2.2.2.2.2.2.2.2.2.1 | exact hr.2.2.2.2.2.2.2.2.2.2.2.2.2.2.2.2.2.2 | exact hr.2.2.2.2.2.2.2.2.2.2.2.2.2.2.2.2.2.2.1 | exact hr.2.2.2.2.2.2.2.2.2.2.2.2.2.2.2.2.2.2.2 | exact hr.2.2.2.2.2.2.2.2.2.2.2.2.2.2.2.2.2.2.2.1 | exact hr.2.2.2.2.2.2.2.2.2.2.2.2.2.2.2.2.2.2.2.2
        have e6 : b6 = true := by first | exact hr | exact hr.1 | exact hr.2 | exact hr.2.1 | exact hr.2.2 | exact hr.2.2.1 | exact hr.2.2.2 | exact hr.2.2.2.1 | exact hr.2.2.2.2 | exact hr.2.2.2.2.1 | exact hr.2.2.2.2.2 | exact hr.2.2.2.2.2.1 | exact hr.2.2.2.2.2.2 | exact hr.2.2.2.2.2.2.1 | exact hr.2.2.2.2.2.2.2 | exact hr.2.2.2.2.2.2.2.1 | exact hr.2.2.2.2.2.2.2.2 | exact hr.2.2.2.2.2.2.2.2.1 | exact hr.2.2.2.2.2.2.2.2.2 | exact hr.2.2.2.2.2.2.2.2.2.1 | exact hr.2.2.2.2.2.2.2.2.2.2 | exact hr.2.2.2.2.2.2.2.2.2.2.1 | exact hr.2.2.2.2.2.2.2.2.2.2.2 | exact hr.2.2.2.2.2.2.2.2.2.2.2.1 | exact hr.2.2.2.2.2.2.2.2.2.2.2.2 | exact hr.2.2.2.2.2.2.2.2.2.2.2.2.1 | exact hr.2.2.2.2.2.2.2.2.2.2.2.2.2 | exact hr.2.2.2.2.2.2.2.2.2.2.2.2.2.1 | exact hr.2.2.2.2.2.2.2.2.2.2.2.2.2.2 | exact hr.2.2.2.2.2.2.2.2.2.2.2.2.2.2.1 | exact hr.2.2.2.2.2.2.2.2.2.2.2.2.2.2.2 | exact hr.2.2.2.2.2.2.2.2.2.2.2.2.2.2.2.1 | exact hr.2.2.2.2.2.2.2.2.2.2.2.2.2.2.2.2 | exact hr.2.2.2.2.2.2.2.2.2.2.2.2.2.2.2.2.1 | exact hr.2.2.2.2.2.2.2.2.2.2.2.2.2.2.2.2.2 | exact hr.2.2.2.2.2.2.2.2.2.2.2.2.2.2.2.2.2.1 | exact hr.2.2.2.2.2.2.2.2.2.2.2.2.2.2.2.2.2.2 | exact hr.2.2.2.2.2.2.2.2.2.2.2.2.2.2.2.2.2.2.1 | exact hr.2.2.2.2.2.2.2.2.2.2.2.2.2.2.2.2.2.2.2 | exact hr.2.2.2.2.2.2.2.2.2.2.2.2.2.2.2.2.2.2.2.1 | exact hr.2.2.2.2.2.2.2.2.2.2.2.2.2.2.2.2.2.2.2.2
        have e7 : b7 = true := by first | exact hr | exact hr.1 | exact hr.2 | exact hr.2.1 | exact hr.2.2 | exact hr.2.2.1 | exact hr.2.2.2 | exact hr.2.2.2.1 | exact hr.2.2.2.2 | exact hr.2.2.2.2.1 | exact hr.2.2.2.2.2 | exact hr.2.2.2.2.2.1 | exact hr.2.2.2.2.2.2 | exact hr.2.2.2.2.2.2.1 | exact hr.2.2.2.2.2.2.2 | exact hr.2.2.2.2.2.2.2.1 | exact hr.2.2.2.2.2.2.2.2 | exact hr.2.2.2.2.2.2.2.2.1 | exact hr.2.2.2.2.2.2.2.2.2 | exact hr.2.2.2.2.2.2.2.2.2.1 | exact hr.2.2.2.2.2.2.2.2.2.2 | exact hr.2.2.2.2.2.2.2.2.2.2.1 | exact hr.2.2.2.2.2.2.2.2.2.2.2 | exact hr.2.2.2.2.2.2.2.2.2.2.2.1 | exact hr.2.2.2.2.2.2.2.2.2.2.2.2 | exact hr.2.2.2.2.2.2.2.2.2.2.2.2.1 | exact hr.2.2.2.2.2.2.2.2.2.2.2.2.2 | exact hr.2.2.2.2.2.2.2.2.2.2.2.2.2.1 | exact hr.2.2.2.2.2.2.2.2.2.2.2.2.2.2 | exact hr.2.2.2.2.2.2.2.2.2.2.2.2.2.2.1 | exact hr.2.2.2.2.2.2.2.2.2.2.2.2.2.2.2 | exact hr.2.2.2.2.2.2.2.2.2.2.2.2.2.2.2.1 | exact hr.2.2.2.2.2.2.2.2.2.2.2.2.2.2.2.2 | exact hr.2.2.2.2.2.2.2.2.2.2.2.2.2.2.2.2.1 | exact hr.2.2.2.2.2.2.2.2.2.2.2.2.2.2.2.2.2 | exact hr.2.2.2.2.2.2.2.2.2.2.2.2.2.2.2.2.2.1 | exact hr.2.2.2.2.2.2.2.2.2.2.2.2.2.2.2.2.2.2 | exact hr.2.2.2.2.2.2.2.2.2.2.2.2.2.2.2.2.2.2.1 | exact hr.2.2.2.2.2.2.2.2.2.2.2.2.2.2.2.2.2.2.2 | exact hr.2.2.2.2.2.2.2.2.2.2.2.2.2.2.2.2.2.2.2.1 | exact hr.2.2.2.2.2.2.2.2.2.2.2.2.2.2.2.2.2.2.2.2
        clear hr
        subst e8 e2 e6 e7
        refine wpOpIn_at rfl ?_
        go_simp
        have hr2 := divq_range d hd hd2 (xs.drop (i + 1)) (fun x hx => hxs x (List.mem_of_mem_drop hx))
        rw [hr0] at hr2
        have hx2 := hxs xi (by rw [← hxi, getD_at xs i hi]; exact List.getElem_mem _)
        refine ⟨trivial, CallsIn.inRound l ((callsIn_wide.2 (call_plain hP (h53 r0 xi hr2.1 hr2.2 hx2.1 hx2.2) (fun i cs hi => by match i, hi with | 0, hi => cases hi | 1, hi => cases hi | 2, hi => cases hi | i + 3, hi => simp at hi) hT (fun b hb => by have := hS b hb; have := hw.below.size; omega) (hc.inv _ _ _ _ hI (fun _ h => h) (fun b hb => hw.below.block b (hS b hb))) (by simp) (σ := σ) (fun i hi => by match i, hi with | 0, _ => exact .int _ _ | 1, _ => exact .int _ _ | 2, _ => exact .int _ _))).mono ?_)⟩
        rintro e w' ⟨x, rfl, hB, Z', -, -, hx⟩
        obtain rfl : x = .tuple #[.int .u64 qv, .int .u64 rv] := by
          rw [hqv, hrv] at hx
          exact tup2_of hx
        exact hK _ _ ⟨b0, b1, true, b3, b4, b5, true, true, true, b9, b10, b11, b12, b13, b14, rfl, rfl, (fun _ => rfl), (fun _ => rfl), hw.call hB (by omega) hW1 (by omega) (by omega)⟩
      | 9, _, hk =>
        have hr := ready_at rfl hk
        clear hk
        simp [Region.binds, -Array.all_toList] at hr
        have e9 : b9 = false := by first | exact hr | exact hr.1 | exact hr.2 | exact hr.2.1 | exact hr.2.2 | exact hr.2.2.1 | exact hr.2.2.2 | exact hr.2.2.2.1 | exact hr.2.2.2.2 | exact hr.2.2.2.2.1 | exact hr.2.2.2.2.2 | exact hr.2.2.2.2.2.1 | exact hr.2.2.2.2.2.2 | exact hr.2.2.2.2.2.2.1 | exact hr.2.2.2.2.2.2.2 | exact hr.2.2.2.2.2.2.2.1 | exact hr.2.2.2.2.2.2.2.2 | exact hr.2.2.2.2.2.2.2.2.1 | exact hr.2.2.2.2.2.2.2.2.2 | exact hr.2.2.2.2.2.2.2.2.2.1 | exact hr.2.2.2.2.2.2.2.2.2.2 | exact hr.2.2.2.2.2.2.2.2.2.2.1 | exact hr.2.2.2.2.2.2.2.2.2.2.2 | exact hr.2.2.2.2.2.2.2.2.2.2.2.1 | exact hr.2.2.2.2.2.2.2.2.2.2.2.2 | exact hr.2.2.2.2.2.2.2.2.2.2.2.2.1 | exact hr.2.2.2.2.2.2.2.2.2.2.2.2.2 | exact hr.2.2.2.2.2.2.2.2.2.2.2.2.2.1 | exact hr.2.2.2.2.2.2.2.2.2.2.2.2.2.2 | exact hr.2.2.2.2.2.2.2.2.2.2.2.2.2.2.1 | exact hr.2.2.2.2.2.2.2.2.2.2.2.2.2.2.2 | exact hr.2.2.2.2.2.2.2.2.2.2.2.2.2.2.2.1 | exact hr.2.2.2.2.2.2.2.2.2.2.2.2.2.2.2.2 | exact hr.2.2.2.2.2.2.2.2.2.2.2.2.2.2.2.2.1 | exact hr.2.2.2.2.2.2.2.2.2.2.2.2.2.2.2.2.2 | exact hr.2.2.2.2.2.2.2.2.2.2.2.2.2.2.2.2.2.1 | exact hr.2.2.2.2.2.2.2.2.2.2.2.2.2.2.2.2.2.2 | exact hr.2.2.2.2.2.2.2.2.2.2.2.2.2.2.2.2.2.2.1 | exact hr.2.2.2.2.2.2.2.2.2.2.2.2.2.2.2.2.2.2.2 | exact hr.2.2.2.2.2.2.2.2.2.2.2.2.2.2.2.2.2.2.2.1 | exact hr.2.2.2.2.2.2.2.2.2.2.2.2.2.2.2.2.2.2.2.2
        have e8 : b8 = true := by first | exact hr | exact hr.1 | exact hr.2 | exact hr.2.1 | exact hr.2.2 | exact hr.2.2.1 | exact hr.2.2.2 | exact hr.2.2.2.1 | exact hr.2.2.2.2 | exact hr.2.2.2.2.1 | exact hr.2.2.2.2.2 | exact hr.2.2.2.2.2.1 | exact hr.2.2.2.2.2.2 | exact hr.2.2.2.2.2.2.1 | exact hr.2.2.2.2.2.2.2 | exact hr.2.2.2.2.2.2.2.1 | exact hr.2.2.2.2.2.2.2.2 | exact hr.2.2.2.2.2.2.2.2.1 | exact hr.2.2.2.2.2.2.2.2.2 | exact hr.2.2.2.2.2.2.2.2.2.1 | exact hr.2.2.2.2.2.2.2.2.2.2 | exact hr.2.2.2.2.2.2.2.2.2.2.1 | exact hr.2.2.2.2.2.2.2.2.2.2.2 | exact hr.2.2.2.2.2.2.2.2.2.2.2.1 | exact hr.2.2.2.2.2.2.2.2.2.2.2.2 | exact hr.2.2.2.2.2.2.2.2.2.2.2.2.1 | exact hr.2.2.2.2.2.2.2.2.2.2.2.2.2 | exact hr.2.2.2.2.2.2.2.2.2.2.2.2.2.1 | exact hr.2.2.2.2.2.2.2.2.2.2.2.2.2.2 | exact hr.2.2.2.2.2.2.2.2.2.2.2.2.2.2.1 | exact hr.2.2.2.2.2.2.2.2.2.2.2.2.2.2.2 | exact hr.2.2.2.2.2.2.2.2.2.2.2.2.2.2.2.1 | exact hr.2.2.2.2.2.2.2.2.2.2.2.2.2.2.2.2 | exact hr.2.2.2.2.2.2.2.2.2.2.2.2.2.2.2.2.1 | exact hr.2.2.2.2.2.2.2.2.2.2.2.2.2.2.2.2.2 | exact hr.2.2.2.2.2.2.2.2.2.2.2.2.2.2.2.2.2.1 | exact hr.2.2.2.2.2.2.2.2.2.2.2.2.2.2.2.2.2.2 | exact hr.2.2.2.2.2.2.2.2.2.2.2.2.2.2.2.2.2.2.1 | exact hr.2.2.2.2.2.2.2.2.2.2.2.2.2.2.2.2.2.2.2 | exact hr.2.2.2.2.2.2.2.2.2.2.2.2.2.2.2.2.2.2.2.1 | exact hr.2.2.2.2.2.2.2.2.2.2.2.2.2.2.2.2.2.2.2.2
        clear hr
        subst e9 e8
        refine wpOpIn_at rfl ?_
        go_simp
        exact hK _ _ ⟨b0, b1, b2, b3, b4, b5, b6, b7, true, true, b10, b11, b12, b13, b14, rfl, rfl, hm1, hm2, hw⟩
      | 10, _, hk =>
        have hr := ready_at rfl hk
        clear hk
        simp [Region.binds, -Array.all_toList] at hr
        have e10 : b10 = false := by first | exact hr | exact hr.1 | exact hr.2 | exact hr.2.1 | exact hr.2.2 | exact hr.2.2.1 | exact hr.2.2.2 | exact hr.2.2.2.1 | exact hr.2.2.2.2 | exact hr.2.2.2.2.1 | exact hr.2.2.2.2.2 | exact hr.2.2.2.2.2.1 | exact hr.2.2.2.2.2.2 | exact hr.2.2.2.2.2.2.1 | exact hr.2.2.2.2.2.2.2 | exact hr.2.2.2.2.2.2.2.1 | exact hr.2.2.2.2.2.2.2.2 | exact hr.2.2.2.2.2.2.2.2.1 | exact hr.2.2.2.2.2.2.2.2.2 | exact hr.2.2.2.2.2.2.2.2.2.1 | exact hr.2.2.2.2.2.2.2.2.2.2 | exact hr.2.2.2.2.2.2.2.2.2.2.1 | exact hr.2.2.2.2.2.2.2.2.2.2.2 | exact hr.2.2.2.2.2.2.2.2.2.2.2.1 | exact hr.2.2.2.2.2.2.2.2.2.2.2.2 | exact hr.2.2.2.2.2.2.2.2.2.2.2.2.1 | exact hr.2.2.2.2.2.2.2.2.2.2.2.2.2 | exact hr.2.2.2.2.2.2.2.2.2.2.2.2.2.1 | exact hr.2.2.2.2.2.2.2.2.2.2.2.2.2.2 | exact hr.2.2.2.2.2.2.2.2.2.2.2.2.2.2.1 | exact hr.2.2.2.2.2.2.2.2.2.2.2.2.2.2.2 | exact hr.2.2.2.2.2.2.2.2.2.2.2.2.2.2.2.1 | exact hr.2.2.2.2.2.2.2.2.2.2.2.2.2.2.2.2 | exact hr.2.2.2.2.2.2.2.2.2.2.2.2.2.2.2.2.1 | exact hr.2.2.2.2.2.2.2.2.2.2.2.2.2.2.2.2.2 | exact hr.2.2.2.2.2.2.2.2.2.2.2.2.2.2.2.2.2.1 | exact hr.2.2.2.2.2.2.2.2.2.2.2.2.2.2.2.2.2.2 | exact hr.2.2.2.2.2.2.2.2.2.2.2.2.2.2.2.2.2.2.1 | exact hr.2.2.2.2.2.2.2.2.2.2.2.2.2.2.2.2.2.2.2 | exact hr.2.2.2.2.2.2.2.2.2.2.2.2.2.2.2.2.2.2.2.1 | exact hr.2.2.2.2.2.2.2.2.2.2.2.2.2.2.2.2.2.2.2.2
        have e9 : b9 = true := by first | exact hr | exact hr.1 | exact hr.2 | exact hr.2.1 | exact hr.2.2 | exact hr.2.2.1 | exact hr.2.2.2 | exact hr.2.2.2.1 | exact hr.2.2.2.2 | exact hr.2.2.2.2.1 | exact hr.2.2.2.2.2 | exact hr.2.2.2.2.2.1 | exact hr.2.2.2.2.2.2 | exact hr.2.2.2.2.2.2.1 | exact hr.2.2.2.2.2.2.2 | exact hr.2.2.2.2.2.2.2.1 | exact hr.2.2.2.2.2.2.2.2 | exact hr.2.2.2.2.2.2.2.2.1 | exact hr.2.2.2.2.2.2.2.2.2 | exact hr.2.2.2.2.2.2.2.2.2.1 | exact hr.2.2.2.2.2.2.2.2.2.2 | exact hr.2.2.2.2.2.2.2.2.2.2.1 | exact hr.2.2.2.2.2.2.2.2.2.2.2 | exact hr.2.2.2.2.2.2.2.2.2.2.2.1 | exact hr.2.2.2.2.2.2.2.2.2.2.2.2 | exact hr.2.2.2.2.2.2.2.2.2.2.2.2.1 | exact hr.2.2.2.2.2.2.2.2.2.2.2.2.2 | exact hr.2.2.2.2.2.2.2.2.2.2.2.2.2.1 | exact hr.2.2.2.2.2.2.2.2.2.2.2.2.2.2 | exact hr.2.2.2.2.2.2.2.2.2.2.2.2.2.2.1 | exact hr.2.2.2.2.2.2.2.2.2.2.2.2.2.2.2 | exact hr.2.2.2.2.2.2.2.2.2.2.2.2.2.2.2.1 | exact hr.2.2.2.2.2.2.2.2.2.2.2.2.2.2.2.2 | exact hr.2.2.2.2.2.2.2.2.2.2.2.2.2.2.2.2.1 | exact hr.2.2.2.2.2.2.2.2.2.2.2.2.2.2.2.2.2 | exact hr.2.2.2.2.2.2.2.2.2.2.2.2.2.2.2.2.2.1 | exact hr.2.2.2.2.2.2.2.2.2.2.2.2.2.2.2.2.2.2 | exact hr.2.2.2.2.2.2.2.2.2.2.2.2.2.2.2.2.2.2.1 | exact hr.2.2.2.2.2.2.2.2.2.2.2.2.2.2.2.2.2.2.2 | exact hr.2.2.2.2.2.2.2.2.2.2.2.2.2.2.2.2.2.2.2.1 | exact hr.2.2.2.2.2.2.2.2.2.2.2.2.2.2.2.2.2.2.2.2
        clear hr
        subst e10 e9
        refine wpOpIn_at rfl ?_
        go_simp
        exact hK _ _ ⟨b0, b1, b2, b3, b4, b5, b6, b7, b8, true, true, b11, b12, b13, b14, rfl, rfl, hm1, hm2, hw⟩
      | 11, _, hk =>
        have hr := ready_at rfl hk
        clear hk
        simp [Region.binds, -Array.all_toList] at hr
        have e11 : b11 = false := by first | exact hr | exact hr.1 | exact hr.2 | exact hr.2.1 | exact hr.2.2 | exact hr.2.2.1 | exact hr.2.2.2 | exact hr.2.2.2.1 | exact hr.2.2.2.2 | exact hr.2.2.2.2.1 | exact hr.2.2.2.2.2 | exact hr.2.2.2.2.2.1 | exact hr.2.2.2.2.2.2 | exact hr.2.2.2.2.2.2.1 | exact hr.2.2.2.2.2.2.2 | exact hr.2.2.2.2.2.2.2.1 | exact hr.2.2.2.2.2.2.2.2 | exact hr.2.2.2.2.2.2.2.2.1 | exact hr.2.2.2.2.2.2.2.2.2 | exact hr.2.2.2.2.2.2.2.2.2.1 | exact hr.2.2.2.2.2.2.2.2.2.2 | exact hr.2.2.2.2.2.2.2.2.2.2.1 | exact hr.2.2.2.2.2.2.2.2.2.2.2 | exact hr.2.2.2.2.2.2.2.2.2.2.2.1 | exact hr.2.2.2.2.2.2.2.2.2.2.2.2 | exact hr.2.2.2.2.2.2.2.2.2.2.2.2.1 | exact hr.2.2.2.2.2.2.2.2.2.2.2.2.2 | exact hr.2.2.2.2.2.2.2.2.2.2.2.2.2.1 | exact hr.2.2.2.2.2.2.2.2.2.2.2.2.2.2 | exact hr.2.2.2.2.2.2.2.2.2.2.2.2.2.2.1 | exact hr.2.2.2.2.2.2.2.2.2.2.2.2.2.2.2 | exact hr.2.2.2.2.2.2.2.2.2.2.2.2.2.2.2.1 | exact hr.2.2.2.2.2.2.2.2.2.2.2.2.2.2.2.2 | exact hr.2.2.2.2.2.2.2.2.2.2.2.2.2.2.2.2.1 | exact hr.2.2.2.2.2.2.2.2.2.2.2.2.2.2.2.2.2 | exact hr.2.2.2.2.2.2.2.2.2.2.2.2.2.2.2.2.2.1 | exact hr.2.2.2.2.2.2.2.2.2.2.2.2.2.2.2.2.2.2 | exact hr.2.2.2.2.2.2.2.2.2.2.2.2.2.2.2.2.2.2.1 | exact hr.2.2.2.2.2.2.2.2.2.2.2.2.2.2.2.2.2.2.2 | exact hr.2.2.2.2.2.2.2.2.2.2.2.2.2.2.2.2.2.2.2.1 | exact hr.2.2.2.2.2.2.2.2.2.2.2.2.2.2.2.2.2.2.2.2
        have e9 : b9 = true := by first | exact hr | exact hr.1 | exact hr.2 | exact hr.2.1 | exact hr.2.2 | exact hr.2.2.1 | exact hr.2.2.2 | exact hr.2.2.2.1 | exact hr.2.2.2.2 | exact hr.2.2.2.2.1 | exact hr.2.2.2.2.2 | exact hr.2.2.2.2.2.1 | exact hr.2.2.2.2.2.2 | exact hr.2.2.2.2.2.2.1 | exact hr.2.2.2.2.2.2.2 | exact hr.2.2.2.2.2.2.2.1 | exact hr.2.2.2.2.2.2.2.2 | exact hr.2.2.2.2.2.2.2.2.1 | exact hr.2.2.2.2.2.2.2.2.2 | exact hr.2.2.2.2.2.2.2.2.2.1 | exact hr.2.2.2.2.2.2.2.2.2.2 | exact hr.2.2.2.2.2.2.2.2.2.2.1 | exact hr.2.2.2.2.2.2.2.2.2.2.2 | exact hr.2.2.2.2.2.2.2.2.2.2.2.1 | exact hr.2.2.2.2.2.2.2.2.2.2.2.2 | exact hr.2.2.2.2.2.2.2.2.2.2.2.2.1 | exact hr.2.2.2.2.2.2.2.2.2.2.2.2.2 | exact hr.2.2.2.2.2.2.2.2.2.2.2.2.2.1 | exact hr.2.2.2.2.2.2.2.2.2.2.2.2.2.2 | exact hr.2.2.2.2.2.2.2.2.2.2.2.2.2.2.1 | exact hr.2.2.2.2.2.2.2.2.2.2.2.2.2.2.2 | exact hr.2.2.2.2.2.2.2.2.2.2.2.2.2.2.2.1 | exact hr.2.2.2.2.2.2.2.2.2.2.2.2.2.2.2.2 | exact hr.2.2.2.2.2.2.2.2.2.2.2.2.2.2.2.2.1 | exact hr.2.2.2.2.2.2.2.2.2.2.2.2.2.2.2.2.2 | exact hr.2.2.2.2.2.2.2.2.2.2.2.2.2.2.2.2.2.1 | exact hr.2.2.2.2.2.2.2.2.2.2.2.2.2.2.2.2.2.2 | exact hr.2.2.2.2.2.2.2.2.2.2.2.2.2.2.2.2.2.2.1 | exact hr.2.2.2.2.2.2.2.2.2.2.2.2.2.2.2.2.2.2.2 | exact hr.2.2.2.2.2.2.2.2.2.2.2.2.2.2.2.2.2.2.2.1 | exact hr.2.2.2.2.2.2.2.2.2.2.2.2.2.2.2.2.2.2.2.2
        clear hr
        subst e11 e9
        refine wpOpIn_at rfl ?_
        go_simp
        exact hK _ _ ⟨b0, b1, b2, b3, b4, b5, b6, b7, b8, true, b10, true, b12, b13, b14, rfl, rfl, hm1, hm2, hw⟩
      | 12, _, hk =>
        have hr := ready_at rfl hk
        clear hk
        simp [Region.binds, -Array.all_toList] at hr
        have e12 : b12 = false := by first | exact hr | exact hr.1 | exact hr.2 | exact hr.2.1 | exact hr.2.2 | exact hr.2.2.1 | exact hr.2.2.2 | exact hr.2.2.2.1 | exact hr.2.2.2.2 | exact hr.2.2.2.2.1 | exact hr.2.2.2.2.2 | exact hr.2.2.2.2.2.1 | exact hr.2.2.2.2.2.2 | exact hr.2.2.2.2.2.2.1 | exact hr.2.2.2.2.2.2.2 | exact hr.2.2.2.2.2.2.2.1 | exact hr.2.2.2.2.2.2.2.2 | exact hr.2.2.2.2.2.2.2.2.1 | exact hr.2.2.2.2.2.2.2.2.2 | exact hr.2.2.2.2.2.2.2.2.2.1 | exact hr.2.2.2.2.2.2.2.2.2.2 | exact hr.2.2.2.2.2.2.2.2.2.2.1 | exact hr.2.2.2.2.2.2.2.2.2.2.2 | exact hr.2.2.2.2.2.2.2.2.2.2.2.1 | exact hr.2.2.2.2.2.2.2.2.2.2.2.2 | exact hr.2.2.2.2.2.2.2.2.2.2.2.2.1 | exact hr.2.2.2.2.2.2.2.2.2.2.2.2.2 | exact hr.2.2.2.2.2.2.2.2.2.2.2.2.2.1 | exact hr.2.2.2.2.2.2.2.2.2.2.2.2.2.2 | exact hr.2.2.2.2.2.2.2.2.2.2.2.2.2.2.1 | exact hr.2.2.2.2.2.2.2.2.2.2.2.2.2.2.2 | exact hr.2.2.2.2.2.2.2.2.2.2.2.2.2.2.2.1 | exact hr.2.2.2.2.2.2.2.2.2.2.2.2.2.2.2.2 | exact hr.2.2.2.2.2.2.2.2.2.2.2.2.2.2.2.2.1 | exact hr.2.2.2.2.2.2.2.2.2.2.2.2.2.2.2.2.2 | exact hr.2.2.2.2.2.2.2.2.2.2.2.2.2.2.2.2.2.1 | exact hr.2.2.2.2.2.2.2.2.2.2.2.2.2.2.2.2.2.2 | exact hr.2.2.2.2.2.2.2.2.2.2.2.2.2.2.2.2.2.2.1 | exact hr.2.2.2.2.2.2.2.2.2.2.2.2.2.2.2.2.2.2.2 | exact hr.2.2.2.2.2.2.2.2.2.2.2.2.2.2.2.2.2.2.2.1 | exact hr.2.2.2.2.2.2.2.2.2.2.2.2.2.2.2.2.2.2.2.2
        have e0 : b0 = true := by first | exact hr | exact hr.1 | exact hr.2 | exact hr.2.1 | exact hr.2.2 | exact hr.2.2.1 | exact hr.2.2.2 | exact hr.2.2.2.1 | exact hr.2.2.2.2 | exact hr.2.2.2.2.1 | exact hr.2.2.2.2.2 | exact hr.2.2.2.2.2.1 | exact hr.2.2.2.2.2.2 | exact hr.2.2.2.2.2.2.1 | exact hr.2.2.2.2.2.2.2 | exact hr.2.2.2.2.2.2.2.1 | exact hr.2.2.2.2.2.2.2.2 | exact hr.2.2.2.2.2.2.2.2.1 | exact hr.2.2.2.2.2.2.2.2.2 | exact hr.2.2.2.2.2.2.2.2.2.1 | exact hr.2.2.2.2.2.2.2.2.2.2 | exact hr.2.2.2.2.2.2.2.2.2.2.1 | exact hr.2.2.2.2.2.2.2.2.2.2.2 | exact hr.2.2.2.2.2.2.2.2.2.2.2.1 | exact hr.2.2.2.2.2.2.2.2.2.2.2.2 | exact hr.2.2.2.2.2.2.2.2.2.2.2.2.1 | exact hr.2.2.2.2.2.2.2.2.2.2.2.2.2 | exact hr.2.2.2.2.2.2.2.2.2.2.2.2.2.1 | exact hr.2.2.2.2.2.2.2.2.2.2.2.2.2.2 | exact hr.2.2.2.2.2.2.2.2.2.2.2.2.2.2.1 | exact hr.2.2.2.2.2.2.2.2.2.2.2.2.2.2.2 | exact hr.2.2.2.2.2.2.2.2.2.2.2.2.2.2.2.1 | exact hr.2.2.2.2.2.2.2.2.2.2.2.2.2.2.2.2 | exact hr.2.2.2.2.2.2.2.2.2.2.2.2.2.2.2.2.1 | exact hr.2.2.2.2.2.2.2.2.2.2.2.2.2.2.2.2.2 | exact hr.2.2.2.2.2.2.2.2.2.2.2.2.2.2.2.2.2.1 | exact hr.2.2.2.2.2.2.2.2.2.2.2.2.2.2.2.2.2.2 | exact hr.2.2.2.2.2.2.2.2.2.2.2.2.2.2.2.2.2.2.1 | exact hr.2.2.2.2.2.2.2.2.2.2.2.2.2.2.2.2.2.2.2 | exact hr.2.2.2.2.2.2.2.2.2.2.2.2.2.2.2.2.2.2.2.1 | exact hr.2.2.2.2.2.2.2.2.2.2.2.2.2.2.2.2.2.2.2.2
        have e1 : b1 = true := by first | exact hr | exact hr.1 | exact hr.2 | exact hr.2.1 | exact hr.2.2 | exact hr.2.2.1 | exact hr.2.2.2 | exact hr.2.2.2.1 | exact hr.2.2.2.2 | exact hr.2.2.2.2.1 | exact hr.2.2.2.2.2 | exact hr.2.2.2.2.2.1 | exact hr.2.2.2.2.2.2 | exact hr.2.2.2.2.2.2.1 | exact hr.2.2.2.2.2.2.2 | exact hr.2.2.2.2.2.2.2.1 | exact hr.2.2.2.2.2.2.2.2 | exact hr.2.2.2.2.2.2.2.2.1 | exact hr.2.2.2.2.2.2.2.2.2 | exact hr.2.2.2.2.2.2.2.2.2.1 | exact hr.2.2.2.2.2.2.2.2.2.2 | exact hr.2.2.2.2.2.2.2.2.2.2.1 | exact hr.2.2.2.2.2.2.2.2.2.2.2 | exact hr.2.2.2.2.2.2.2.2.2.2.2.1 | exact hr.2.2.2.2.2.2.2.2.2.2.2.2 | exact hr.2.2.2.2.2.2.2.2.2.2.2.2.1 | exact hr.2.2.2.2.2.2.2.2.2.2.2.2.2 | exact hr.2.2.2.2.2.2.2.2.2.2.2.2.2.1 | exact hr.2.2.2.2.2.2.2.2.2.2.2.2.2.2 | exact hr.2.2.2.2.2.2.2.2.2.2.2.2.2.2.1 | exact hr.2.2.2.2.2.2.2.2.2.2.2.2.2.2.2 | exact hr.2.2.2.2.2.2.2.2.2.2.2.2.2.2.2.1 | exact hr.2.2.2.2.2.2.2.2.2.2.2.2.2.2.2.2 | exact hr.2.2.2.2.2.2.2.2.2.2.2.2.2.2.2.2.1 | exact hr.2.2.2.2.2.2.2.2.2.2.2.2.2.2.2.2.2 | exact hr.2.2.2.2.2.2.2.2.2.2.2.2.2.2.2.2.2.1 | exact hr.2.2.2.2.2.2.2.2.2.2.2.2.2.2.2.2.2.2 | exact hr.2.2.2.2.2.2.2.2.2.2.2.2.2.2.2.2.2.2.1 | exact hr.2.2.2.2.2.2.2.2.2.2.2.2.2.2.2.2.2.2.2 | exact hr.2.2.2.2.2.2.2.2.2.2.2.2.2.2.2.2.2.2.2.1 | exact hr.2.2.2.2.2.2.2.2.2.2.2.2.2.2.2.2.2.2.2.2
        have e2 : b2 = true := by first | exact hr | exact hr.1 | exact hr.2 | exact hr.2.1 | exact hr.2.2 | exact hr.2.2.1 | exact hr.2.2.2 | exact hr.2.2.2.1 | exact hr.2.2.2.2 | exact hr.2.2.2.2.1 | exact hr.2.2.2.2.2 | exact hr.2.2.2.2.2.1 | exact hr.2.2.2.2.2.2 | exact hr.2.2.2.2.2.2.1 | exact hr.2.2.2.2.2.2.2 | exact hr.2.2.2.2.2.2.2.1 | exact hr.2.2.2.2.2.2.2.2 | exact hr.2.2.2.2.2.2.2.2.1 | exact hr.2.2.2.2.2.2.2.2.2 | exact hr.2.2.2.2.2.2.2.2.2.1 | exact hr.2.2.2.2.2.2.2.2.2.2 | exact hr.2.2.2.2.2.2.2.2.2.2.1 | exact hr.2.2.2.2.2.2.2.2.2.2.2 | exact hr.2.2.2.2.2.2.2.2.2.2.2.1 | exact hr.2.2.2.2.2.2.2.2.2.2.2.2 | exact hr.2.2.2.2.2.2.2.2.2.2.2.2.1 | exact hr.2.2.2.2.2.2.2.2.2.2.2.2.2 | exact hr.2.2.2.2.2.2.2.2.2.2.2.2.2.1 | exact hr.2.2.2.2.2.2.2.2.2.2.2.2.2.2 | exact hr.2.2.2.2.2.2.2.2.2.2.2.2.2.2.1 | exact hr.2.2.2.2.2.2.2.2.2.2.2.2.2.2.2 | exact hr.2.2.2.2.2.2.2.2.2.2.2.2.2.2.2.1 | exact hr.2.2.2.2.2.2.2.2.2.2.2.2.2.2.2.2 | exact hr.2.2.2.2.2.2.2.2.2.2.2.2.2.2.2.2.1 | exact hr.2.2.2.2.2.2.2.2.2.2.2.2.2.2.2.2.2 | exact hr.2.2.2.2.2.2.2.2.2.2.2.2.2.2.2.2.2.1 | exact hr.2.2.2.2.2.2.2.2.2.2.2.2.2.2.2.2.2.2 | exact hr.2.2.2.2.2.2.2.2.2.2.2.2.2.2.2.2.2.2.1 | exact hr.2.2.2.2.2.2.2.2.2.2.2.2.2.2.2.2.2.2.2 | exact hr.2.2.2.2.2.2.2.2.2.2.2.2.2.2.2.2.2.2.2.1 | exact hr.2.2.2.2.2.2.2.2.2.2.2.2.2.2.2.2.2.2.2.2
        have e3 : b3 = true := by first | exact hr | exact hr.1 | exact hr.2 | exact hr.2.1 | exact hr.2.2 | exact hr.2.2.1 | exact hr.2.2.2 | exact hr.2.2.2.1 | exact hr.2.2.2.2 | exact hr.2.2.2.2.1 | exact hr.2.2.2.2.2 | exact hr.2.2.2.2.2.1 | exact hr.2.2.2.2.2.2 | exact hr.2.2.2.2.2.2.1 | exact hr.2.2.2.2.2.2.2 | exact hr.2.2.2.2.2.2.2.1 | exact hr.2.2.2.2.2.2.2.2 | exact hr.2.2.2.2.2.2.2.2.1 | exact hr.2.2.2.2.2.2.2.2.2 | exact hr.2.2.2.2.2.2.2.2.2.1 | exact hr.2.2.2.2.2.2.2.2.2.2 | exact hr.2.2.2.2.2.2.2.2.2.2.1 | exact hr.2.2.2.2.2.2.2.2.2.2.2 | exact hr.2.2.2.2.2.2.2.2.2.2.2.1 | exact hr.2.2.2.2.2.2.2.2.2.2.2.2 | exact hr.2.2.2.2.2.2.2.2.2.2.2.2.1 | exact hr.2.2.2.2.2.2.2.2.2.2.2.2.2 | exact hr.2.2.2.2.2.2.2.2.2.2.2.2.2.1 | exact hr.2.2.2.2.2.2.2.2.2.2.2.2.2.2 | exact hr.2.2.2.2.2.2.2.2.2.2.2.2.2.2.1 | exact hr.2.2.2.2.2.2.2.2.2.2.2.2.2.2.2 | exact hr.2.2.2.2.2.2.2.2.2.2.2.2.2.2.2.1 | exact hr.2.2.2.2.2.2.2.2.2.2.2.2.2.2.2.2 | exact hr.2.2.2.2.2.2.2.2.2.2.2.2.2.2.2.2.1 | exact hr.2.2.2.2.2.2.2.2.2.2.2.2.2.2.2.2.2 | exact hr.2.2.2.2.2.2.2.2.2.2.2.2.2.2.2.2.2.1 | exact hr.2.2.2.2.2.2.2.2.2.2.2.2.2.2.2.2.2.2 | exact hr.2.2.2.2.2.2.2.2.2.2.2.2.2.2.2.2.2.2.1 | exact hr.2.2.2.2.2.2.2.2.2.2.2.2.2.2.2.2.2.2.2 | exact hr.2.2.2.2.2.2.2.2.2.2.2.2.2.2.2.2.2.2.2.1 | exact hr.2.2.2.2.2.2.2.2.2.2.2.2.2.2.2.2.2.2.2.2
        have e4 : b4 = true := by first | exact hr | exact hr.1 | exact hr.2 | exact hr.2.1 | exact hr.2.2 | exact hr.2.2.1 | exact hr.2.2.2 | exact hr.2.2.2.1 | exact hr.2.2.2.2 | exact hr.2.2.2.2.1 | exact hr.2.2.2.2.2 | exact hr.2.2.2.2.2.1 | exact hr.2.2.2.2.2.2 | exact hr.2.2.2.2.2.2.1 | exact hr.2.2.2.2.2.2.2 | exact hr.2.2.2.2.2.2.2.1 | exact hr.2.2.2.2.2.2.2.2 | exact hr.2.2.2.2.2.2.2.2.1 | exact hr.2.2.2.2.2.2.2.2.2 | exact hr.2.2.2.2.2.2.2.2.2.1 | exact hr.2.2.2.2.2.2.2.2.2.2 | exact hr.2.2.2.2.2.2.2.2.2.2.1 | exact hr.2.2.2.2.2.2.2.2.2.2.2 | exact hr.2.2.2.2.2.2.2.2.2.2.2.1 | exact hr.2.2.2.2.2.2.2.2.2.2.2.2 | exact hr.2.2.2.2.2.2.2.2.2.2.2.2.1 | exact hr.2.2.2.2.2.2.2.2.2.2.2.2.2 | exact hr.2.2.2.2.2.2.2.2.2.2.2.2.2.1 | exact hr.2.2.2.2.2.2.2.2.2.2.2.2.2.2 | exact hr.2.2.2.2.2.2.2.2.2.2.2.2.2.2.1 | exact hr.2.2.2.2.2.2.2.2.2.2.2.2.2.2.2 | exact hr.2.2.2.2.2.2.2.2.2.2.2.2.2.2.2.1 | exact hr.2.2.2.2.2.2.2.2.2.2.2.2.2.2.2.2 | exact hr.2.2.2.2.2.2.2.2.2.2.2.2.2.2.2.2.1 | exact hr.2.2.2.2.2.2.2.2.2.2.2.2.2.2.2.2.2 | exact hr.2.2.2.2.2.2.2.2.2.2.2.2.2.2.2.2.2.1 | exact hr.2.2.2.2.2.2.2.2.2.2.2.2.2.2.2.2.2.2 | exact hr.2.2.2.2.2.2.2.2.2.2.2.2.2.2.2.2.2.2.1 | exact hr.2.2.2.2.2.2.2.2.2.2.2.2.2.2.2.2.2.2.2 | exact hr.2.2.2.2.2.2.2.2.2.2.2.2.2.2.2.2.2.2.2.1 | exact hr.2.2.2.2.2.2.2.2.2.2.2.2.2.2.2.2.2.2.2.2
        have e5 : b5 = true := by first | exact hr | exact hr.1 | exact hr.2 | exact hr.2.1 | exact hr.2.2 | exact hr.2.2.1 | exact hr.2.2.2 | exact hr.2.2.2.1 | exact hr.2.2.2.2 | exact hr.2.2.2.2.1 | exact hr.2.2.2.2.2 | exact hr.2.2.2.2.2.1 | exact hr.2.2.2.2.2.2 | exact hr.2.2.2.2.2.2.1 | exact hr.2.2.2.2.2.2.2 | exact hr.2.2.2.2.2.2.2.1 | exact hr.2.2.2.2.2.2.2.2 | exact hr.2.2.2.2.2.2.2.2.1 | exact hr.2.2.2.2.2.2.2.2.2 | exact hr.2.2.2.2.2.2.2.2.2.1 | exact hr.2.2.2.2.2.2.2.2.2.2 | exact hr.2.2.2.2.2.2.2.2.2.2.1 | exact hr.2.2.2.2.2.2.2.2.2.2.2 | exact hr.2.2.2.2.2.2.2.2.2.2.2.1 | exact hr.2.2.2.2.2.2.2.2.2.2.2.2 | exact hr.2.2.2.2.2.2.2.2.2.2.2.2.1 | exact hr.2.2.2.2.2.2.2.2.2.2.2.2.2 | exact hr.2.2.2.2.2.2.2.2.2.2.2.2.2.1 | exact hr.2.2.2.2.2.2.2.2.2.2.2.2.2.2 | exact hr.2.2.2.2.2.2.2.2.2.2.2.2.2.2.1 | exact hr.2.2.2.2.2.2.2.2.2.2.2.2.2.2.2 | exact hr.2.2.2.2.2.2.2.2.2.2.2.2.2.2.2.1 | exact hr.2.2.2.2.2.2.2.2.2.2.2.2.2.2.2.2 | exact hr.2.2.2.2.2.2.2.2.2.2.2.2.2.2.2.2.1 | exact hr.2.2.2.2.2.2.2.2.2.2.2.2.2.2.2.2.2 | exact hr.2.2.2.2.2.2.2.2.2.2.2.2.2.2.2.2.2.1 | exact hr.2.2.2.2.2.2.2.2.2.2.2.2.2.2.2.2.2.2 | exact hr.2.2.2.2.2.2.2.2.2.2.2.2.2.2.2.2.2.2.1 | exact hr.2.2.2.2.2.2.2.2.2.2.2.2.2.2.2.2.2.2.2 | exact hr.2.2.2.2.2.2.2.2.2.2.2.2.2.2.2.2.2.2.2.1 | exact hr.2.2.2.2.2.2.2.2.2.2.2.2.2.2.2.2.2.2.2.2
        have e6 : b6 = true := by first | exact hr | exact hr.1 | exact hr.2 | exact hr.2.1 | exact hr.2.2 | exact hr.2.2.1 | exact hr.2.2.2 | exact hr.2.2.2.1 | exact hr.2.2.2.2 | exact hr.2.2.2.2.1 | exact hr.2.2.2.2.2 | exact hr.2.2.2.2.2.1 | exact hr.2.2.2.2.2.2 | exact hr.2.2.2.2.2.2.1 | exact hr.2.2.2.2.2.2.2 | exact hr.2.2.2.2.2.2.2.1 | exact hr.2.2.2.2.2.2.2.2 | exact hr.2.2.2.2.2.2.2.2.1 | exact hr.2.2.2.2.2.2.2.2.2 | exact hr.2.2.2.2.2.2.2.2.2.1 | exact hr.2.2.2.2.2.2.2.2.2.2 | exact hr.2.2.2.2.2.2.2.2.2.2.1 | exact hr.2.2.2.2.2.2.2.2.2.2.2 | exact hr.2.2.2.2.2.2.2.2.2.2.2.1 | exact hr.2.2.2.2.2.2.2.2.2.2.2.2 | exact hr.2.2.2.2.2.2.2.2.2.2.2.2.1 | exact hr.2.2.2.2.2.2.2.2.2.2.2.2.2 | exact hr.2.2.2.2.2.2.2.2.2.2.2.2.2.1 | exact hr.2.2.2.2.2.2.2.2.2.2.2.2.2.2 | exact hr.2.2.2.2.2.2.2.2.2.2.2.2.2.2.1 | exact hr.2.2.2.2.2.2.2.2.2.2.2.2.2.2.2 | exact hr.2.2.2.2.2.2.2.2.2.2.2.2.2.2.2.1 | exact hr.2.2.2.2.2.2.2.2.2.2.2.2.2.2.2.2 | exact hr.2.2.2.2.2.2.2.2.2.2.2.2.2.2.2.2.1 | exact hr.2.2.2.2.2.2.2.2.2.2.2.2.2.2.2.2.2 | exact hr.2.2.2.2.2.2.2.2.2.2.2.2.2.2.2.2.2.1 | exact hr.2.2.2.2.2.2.2.2.2.2.2.2.2.2.2.2.2.2 | exact hr.2.2.2.2.2.2.2.2.2.2.2.2.2.2.2.2.2.2.1 | exact hr.2.2.2.2.2.2.2.2.2.2.2.2.2.2.2.2.2.2.2 | exact hr.2.2.2.2.2.2.2.2.2.2.2.2.2.2.2.2.2.2.2.1 | exact hr.2.2.2.2.2.2.2.2.2.2.2.2.2.2.2.2.2.2.2.2
        have e7 : b7 = true := by first | exact hr | exact hr.1 | exact hr.2 | exact hr.2.1 | exact hr.2.2 | exact hr.2.2.1 | exact hr.2.2.2 | exact hr.2.2.2.1 | exact hr.2.2.2.2 | exact hr.2.2.2.2.1 | exact hr.2.2.2.2.2 | exact hr.2.2.2.2.2.1 | exact hr.2.2.2.2.2.2 | exact hr.2.2.2.2.2.2.1 | exact hr.2.2.2.2.2.2.2 | exact hr.2.2.2.2.2.2.2.1 | exact hr.2.2.2.2.2.2.2.2 | exact hr.2.2.2.2.2.2.2.2.1 | exact hr.2.2.2.2.2.2.2.2.2 | exact hr.2.2.2.2.2.2.2.2.2.1 | exact hr.2.2.2.2.2.2.2.2.2.2 | exact hr.2.2.2.2.2.2.2.2.2.2.1 | exact hr.2.2.2.2.2.2.2.2.2.2.2 | exact hr.2.2.2.2.2.2.2.2.2.2.2.1 | exact hr.2.2.2.2.2.2.2.2.2.2.2.2 | exact hr.2.2.2.2.2.2.2.2.2.2.2.2.1 | exact hr.2.2.2.2.2.2.2.2.2.2.2.2.2 | exact hr.2.2.2.2.2.2.2.2.2.2.2.2.2.1 | exact hr.2.2.2.2.2.2.2.2.2.2.2.2.2.2 | exact hr.2.2.2.2.2.2.2.2.2.2.2.2.2.2.1 | exact hr.2.2.2.2.2.2.2.2.2.2.2.2.2.2.2 | exact hr.2.2.2.2.2.2.2.2.2.2.2.2.2.2.2.1 | exact hr.2.2.2.2.2.2.2.2.2.2.2.2.2.2.2.2 | exact hr.2.2.2.2.2.2.2.2.2.2.2.2.2.2.2.2.1 | exact hr.2.2.2.2.2.2.2.2.2.2.2.2.2.2.2.2.2 | exact hr.2.2.2.2.2.2.2.2.2.2.2.2.2.2.2.2.2.1 | exact hr.2.2.2.2.2.2.2.2.2.2.2.2.2.2.2.2.2.2 | exact hr.2.2.2.2.2.2.2.2.2.2.2.2.2.2.2.2.2.2.1 | exact hr.2.2.2.2.2.2.2.2.2.2.2.2.2.2.2.2.2.2.2 | exact hr.2.2.2.2.2.2.2.2.2.2.2.2.2.2.2.2.2.2.2.1 | exact hr.2.2.2.2.2.2.2.2.2.2.2.2.2.2.2.2.2.2.2.2
        have e8 : b8 = true := by first | exact hr | exact hr.1 | exact hr.2 | exact hr.2.1 | exact hr.2.2 | exact hr.2.2.1 | exact hr.2.2.2 | exact hr.2.2.2.1 | exact hr.2.2.2.2 | exact hr.2.2.2.2.1 | exact hr.2.2.2.2.2 | exact hr.2.2.2.2.2.1 | exact hr.2.2.2.2.2.2 | exact hr.2.2.2.2.2.2.1 | exact hr.2.2.2.2.2.2.2 | exact hr.2.2.2.2.2.2.2.1 | exact hr.2.2.2.2.2.2.2.2 | exact hr.2.2.2.2.2.2.2.2.1 | exact hr.2.2.2.2.2.2.2.2.2 | exact hr.2.2.2.2.2.2.2.2.2.1 | exact hr.2.2.2.2.2.2.2.2.2.2 | exact hr.2.2.2.2.2.2.2.2.2.2.1 | exact hr.2.2.2.2.2.2.2.2.2.2.2 | exact hr.2.2.2.2.2.2.2.2.2.2.2.1 | exact hr.2.2.2.2.2.2.2.2.2.2.2.2 | exact hr.2.2.2.2.2.2.2.2.2.2.2.2.1 | exact hr.2.2.2.2.2.2.2.2.2.2.2.2.2 | exact hr.2.2.2.2.2.2.2.2.2.2.2.2.2.1 | exact hr.2.2.2.2.2.2.2.2.2.2.2.2.2.2 | exact hr.2.2.2.2.2.2.2.2.2.2.2.2.2.2.1 | exact hr.2.2.2.2.2.2.2.2.2.2.2.2.2.2.2 | exact hr.2.2.2.2.2.2.2.2.2.2.2.2.2.2.2.1 | exact hr.2.2.2.2.2.2.2.2.2.2.2.2.2.2.2.2 | exact hr.2.2.2.2.2.2.2.2.2.2.2.2.2.2.2.2.1 | exact hr.2.2.2.2.2.2.2.2.2.2.2.2.2.2.2.2.2 | exact hr.2.2.2.2.2.2.2.2.2.2.2.2.2.2.2.2.2.1 | exact hr.2.2.2.2.2.2.2.2.2.2.2.2.2.2.2.2.2.2 | exact hr.2.2.2.2.2.2.2.2.2.2.2.2.2.2.2.2.2.2.1 | exact hr.2.2.2.2.2.2.2.2.2.2.2.2.2.2.2.2.2.2.2 | exact hr.2.2.2.2.2.2.2.2.2.2.2.2.2.2.2.2.2.2.2.1 | exact hr.2.2.2.2.2.2.2.2.2.2.2.2.2.2.2.2.2.2.2.2
        have e9 : b9 = true := by first | exact hr | exact hr.1 | exact hr.2 | exact hr.2.1 | exact hr.2.2 | exact hr.2.2.1 | exact hr.2.2.2 | exact hr.2.2.2.1 | exact hr.2.2.2.2 | exact hr.2.2.2.2.1 | exact hr.2.2.2.2.2 | exact hr.2.2.2.2.2.1 | exact hr.2.2.2.2.2.2 | exact hr.2.2.2.2.2.2.1 | exact hr.2.2.2.2.2.2.2 | exact hr.2.2.2.2.2.2.2.1 | exact hr.2.2.2.2.2.2.2.2 | exact hr.2.2.2.2.2.2.2.2.1 | exact hr.2.2.2.2.2.2.2.2.2 | exact hr.2.2.2.2.2.2.2.2.2.1 | exact hr.2.2.2.2.2.2.2.2.2.2 | exact hr.2.2.2.2.2.2.2.2.2.2.1 | exact hr.2.2.2.2.2.2.2.2.2.2.2 | exact hr.2.2.2.2.2.2.2.2.2.2.2.1 | exact hr.2.2.2.2.2.2.2.2.2.2.2.2 | exact hr.2.2.2.2.2.2.2.2.2.2.2.2.1 | exact hr.2.2.2.2.2.2.2.2.2.2.2.2.2 | exact hr.2.2.2.2.2.2.2.2.2.2.2.2.2.1 | exact hr.2.2.2.2.2.2.2.2.2.2.2.2.2.2 | exact hr.2.2.2.2.2.2.2.2.2.2.2.2.2.2.1 | exact hr.2.2.2.2.2.2.2.2.2.2.2.2.2.2.2 | exact hr.2.2.2.2.2.2.2.2.2.2.2.2.2.2.2.1 | exact hr.2.2.2.2.2.2.2.2.2.2.2.2.2.2.2.2 | exact hr.2.2.2.2.2.2.2.2.2.2.2.2.2.2.2.2.1 | exact hr.2.2.2.2.2.2.2.2.2.2.2.2.2.2.2.2.2 | exact hr.2.2.2.2.2.2.2.2.2.2.2.2.2.2.2.2.2.1 | exact hr.2.2.2.2.2.2.2.2.2.2.2.2.2.2.2.2.2.2 | exact hr.2.2.2.2.2.2.2.2.2.2.2.2.2.2.2.2.2.2.1 | exact hr.2.2.2.2.2.2.2.2.2.2.2.2.2.2.2.2.2.2.2 | exact hr.2.2.2.2.2.2.2.2.2.2.2.2.2.2.2.2.2.2.2.1 | exact hr.2.2.2.2.2.2.2.2.2.2.2.2.2.2.2.2.2.2.2.2
        have e10 : b10 = true := by first | exact hr | exact hr.1 | exact hr.2 | exact hr.2.1 | exact hr.2.2 | exact hr.2.2.1 | exact hr.2.2.2 | exact hr.2.2.2.1 | exact hr.2.2.2.2 | exact hr.2.2.2.2.1 | exact hr.2.2.2.2.2 | exact hr.2.2.2.2.2.1 | exact hr.2.2.2.2.2.2 | exact hr.2.2.2.2.2.2.1 | exact hr.2.2.2.2.2.2.2 | exact hr.2.2.2.2.2.2.2.1 | exact hr.2.2.2.2.2.2.2.2 | exact hr.2.2.2.2.2.2.2.2.1 | exact hr.2.2.2.2.2.2.2.2.2 | exact hr.2.2.2.2.2.2.2.2.2.1 | exact hr.2.2.2.2.2.2.2.2.2.2 | exact hr.2.2.2.2.2.2.2.2.2.2.1 | exact hr.2.2.2.2.2.2.2.2.2.2.2 | exact hr.2.2.2.2.2.2.2.2.2.2.2.1 | exact hr.2.2.2.2.2.2.2.2.2.2.2.2 | exact hr.2.2.2.2.2.2.2.2.2.2.2.2.1 | exact hr.2.2.2.2.2.2.2.2.2.2.2.2.2 | exact hr.2.2.2.2.2.2.2.2.2.2.2.2.2.1 | exact hr.2.2.2.2.2.2.2.2.2.2.2.2.2.2 | exact hr.2.2.2.2.2.2.2.2.2.2.2.2.2.2.1 | exact hr.2.2.2.2.2.2.2.2.2.2.2.2.2.2.2 | exact hr.2.2.2.2.2.2.2.2.2.2.2.2.2.2.2.1 | exact hr.2.2.2.2.2.2.2.2.2.2.2.2.2.2.2.2 | exact hr.2.2.2.2.2.2.2.2.2.2.2.2.2.2.2.2.1 | exact hr.2.2.2.2.2.2.2.2.2.2.2.2.2.2.2.2.2 | exact hr.2.2.2.2.2.2.2.2.2.2.2.2.2.2.2.2.2.1 | exact hr.2.2.2.2.2.2.2.2.2.2.2.2.2.2.2.2.2.2 | exact hr.2.2.2.2.2.2.2.2.2.2.2.2.2.2.2.2.2.2.1 | exact hr.2.2.2.2.2.2.2.2.2.2.2.2.2.2.2.2.2.2.2 | exact hr.2.2.2.2.2.2.2.2.2.2.2.2.2.2.2.2.2.2.2.1 | exact hr.2.2.2.2.2.2.2.2.2.2.2.2.2.2.2.2.2.2.2.2
        clear hr
        subst e12 e0 e1 e2 e3 e4 e5 e6 e7 e8 e9 e10
        refine wpOpIn_at rfl ?_
        go_simp
        exact hK _ _ ⟨true, true, true, true, true, true, true, true, true, true, true, b11, true, b13, b14, rfl, rfl, (fun _ => rfl), (fun _ => rfl), hw⟩
      | 13, _, hk =>
        have hr := ready_at rfl hk
        clear hk
        simp [Region.binds, -Array.all_toList] at hr
        have e13 : b13 = false := by first | exact hr | exact hr.1 | exact hr.2 | exact hr.2.1 | exact hr.2.2 | exact hr.2.2.1 | exact hr.2.2.2 | exact hr.2.2.2.1 | exact hr.2.2.2.2 | exact hr.2.2.2.2.1 | exact hr.2.2.2.2.2 | exact hr.2.2.2.2.2.1 | exact hr.2.2.2.2.2.2 | exact hr.2.2.2.2.2.2.1 | exact hr.2.2.2.2.2.2.2 | exact hr.2.2.2.2.2.2.2.1 | exact hr.2.2.2.2.2.2.2.2 | exact hr.2.2.2.2.2.2.2.2.1 | exact hr.2.2.2.2.2.2.2.2.2 | exact hr.2.2.2.2.2.2.2.2.2.1 | exact hr.2.2.2.2.2.2.2.2.2.2 | exact hr.2.2.2.2.2.2.2.2.2.2.1 | exact hr.2.2.2.2.2.2.2.2.2.2.2 | exact hr.2.2.2.2.2.2.2.2.2.2.2.1 | exact hr.2.2.2.2.2.2.2.2.2.2.2.2 | exact hr.2.2.2.2.2.2.2.2.2.2.2.2.1 | exact hr.2.2.2.2.2.2.2.2.2.2.2.2.2 | exact hr.2.2.2.2.2.2.2.2.2.2.2.2.2.1 | exact hr.2.2.2.2.2.2.2.2.2.2.2.2.2.2 | exact hr.2.2.2.2.2.2.2.2.2.2.2.2.2.2.1 | exact hr.2.2.2.2.2.2.2.2.2.2.2.2.2.2.2 | exact hr.2.2.2.2.2.2.2.2.2.2.2.2.2.2.2.1 | exact hr.2.2.2.2.2.2.2.2.2.2.2.2.2.2.2.2 | exact hr.2.2.2.2.2.2.2.2.2.2.2.2.2.2.2.2.1 | exact hr.2.2.2.2.2.2.2.2.2.2.2.2.2.2.2.2.2 | exact hr.2.2.2.2.2.2.2.2.2.2.2.2.2.2.2.2.2.1 | exact hr.2.2.2.2.2.2.2.2.2.2.2.2.2.2.2.2.2.2 | exact hr.2.2.2.2.2.2.2.2.2.2.2.2.2.2.2.2.2.2.1 | exact hr.2.2.2.2.2.2.2.2.2.2.2.2.2.2.2.2.2.2.2 | exact hr.2.2.2.2.2.2.2.2.2.2.2.2.2.2.2.2.2.2.2.1 | exact hr.2.2.2.2.2.2.2.2.2.2.2.2.2.2.2.2.2.2.2.2
        have e12 : b12 = true := by first | exact hr | exact hr.1 | exact hr.2 | exact hr.2.1 | exact hr.2.2 | exact hr.2.2.1 | exact hr.2.2.2 | exact hr.2.2.2.1 | exact hr.2.2.2.2 | exact hr.2.2.2.2.1 | exact hr.2.2.2.2.2 | exact hr.2.2.2.2.2.1 | exact hr.2.2.2.2.2.2 | exact hr.2.2.2.2.2.2.1 | exact hr.2.2.2.2.2.2.2 | exact hr.2.2.2.2.2.2.2.1 | exact hr.2.2.2.2.2.2.2.2 | exact hr.2.2.2.2.2.2.2.2.1 | exact hr.2.2.2.2.2.2.2.2.2 | exact hr.2.2.2.2.2.2.2.2.2.1 | exact hr.2.2.2.2.2.2.2.2.2.2 | exact hr.2.2.2.2.2.2.2.2.2.2.1 | exact hr.2.2.2.2.2.2.2.2.2.2.2 | exact hr.2.2.2.2.2.2.2.2.2.2.2.1 | exact hr.2.2.2.2.2.2.2.2.2.2.2.2 | exact hr.2.2.2.2.2.2.2.2.2.2.2.2.1 | exact hr.2.2.2.2.2.2.2.2.2.2.2.2.2 | exact hr.2.2.2.2.2.2.2.2.2.2.2.2.2.1 | exact hr.2.2.2.2.2.2.2.2.2.2.2.2.2.2 | exact hr.2.2.2.2.2.2.2.2.2.2.2.2.2.2.1 | exact hr.2.2.2.2.2.2.2.2.2.2.2.2.2.2.2 | exact hr.2.2.2.2.2.2.2.2.2.2.2.2.2.2.2.1 | exact hr.2.2.2.2.2.2.2.2.2.2.2.2.2.2.2.2 | exact hr.2.2.2.2.2.2.2.2.2.2.2.2.2.2.2.2.1 | exact hr.2.2.2.2.2.2.2.2.2.2.2.2.2.2.2.2.2 | exact hr.2.2.2.2.2.2.2.2.2.2.2.2.2.2.2.2.2.1 | exact hr.2.2.2.2.2.2.2.2.2.2.2.2.2.2.2.2.2.2 | exact hr.2.2.2.2.2.2.2.2.2.2.2.2.2.2.2.2.2.2.1 | exact hr.2.2.2.2.2.2.2.2.2.2.2.2.2.2.2.2.2.2.2 | exact hr.2.2.2.2.2.2.2.2.2.2.2.2.2.2.2.2.2.2.2.1 | exact hr.2.2.2.2.2.2.2.2.2.2.2.2.2.2.2.2.2.2.2.2
        have e0 : b0 = true := by first | exact hr | exact hr.1 | exact hr.2 | exact hr.2.1 | exact hr.2.2 | exact hr.2.2.1 | exact hr.2.2.2 | exact hr.2.2.2.1 | exact hr.2.2.2.2 | exact hr.2.2.2.2.1 | exact hr.2.2.2.2.2 | exact hr.2.2.2.2.2.1 | exact hr.2.2.2.2.2.2 | exact hr.2.2.2.2.2.2.1 | exact hr.2.2.2.2.2.2.2 | exact hr.2.2.2.2.2.2.2.1 | exact hr.2.2.2.2.2.2.2.2 | exact hr.2.2.2.2.2.2.2.2.1 | exact hr.2.2.2.2.2.2.2.2.2 | exact hr.2.2.2.2.2.2.2.2.2.1 | exact hr.2.2.2.2.2.2.2.2.2.2 | exact hr.2.2.2.2.2.2.2.2.2.2.1 | exact hr.2.2.2.2.2.2.2.2.2.2.2 | exact hr.2.2.2.2.2.2.2.2.2.2.2.1 | exact hr.2.2.2.2.2.2.2.2.2.2.2.2 | exact hr.2.2.2.2.2.2.2.2.2.2.2.2.1 | exact hr.2.2.2.2.2.2.2.2.2.2.2.2.2 | exact hr.2.2.2.2.2.2.2.2.2.2.2.2.2.1 | exact hr.2.2.2.2.2.2.2.2.2.2.2.2.2.2 | exact hr.2.2.2.2.2.2.2.2.2.2.2.2.2.2.1 | exact hr.2.2.2.2.2.2.2.2.2.2.2.2.2.2.2 | exact hr.2.2.2.2.2.2.2.2.2.2.2.2.2.2.2.1 | exact hr.2.2.2.2.2.2.2.2.2.2.2.2.2.2.2.2 | exact hr.2.2.2.2.2.2.2.2.2.2.2.2.2.2.2.2.1 | exact hr.2.2.2.2.2.2.2.2.2.2.2.2.2.2.2.2.2 | exact hr.2.2.2.2.2.2.2.2.2.2.2.2.2.2.2.2.2.1 | exact hr.2.2.2.2.2.2.2.2.2.2.2.2.2.2.2.2.2.2 | exact hr.2.2.2.2.2.2.2.2.2.2.2.2.2.2.2.2.2.2.1 | exact hr.2.2.2.2.2.2.2.2.2.2.2.2.2.2.2.2.2.2.2 | exact hr.2.2.2.2.2.2.2.2.2.2.2.2.2.2.2.2.2.2.2.1 | exact hr.2.2.2.2.2.2.2.2.2.2.2.2.2.2.2.2.2.2.2.2
        have e1 : b1 = true := by first | exact hr | exact hr.1 | exact hr.2 | exact hr.2.1 | exact hr.2.2 | exact hr.2.2.1 | exact hr.2.2.2 | exact hr.2.2.2.1 | exact hr.2.2.2.2 | exact hr.2.2.2.2.1 | exact hr.2.2.2.2.2 | exact hr.2.2.2.2.2.1 | exact hr.2.2.2.2.2.2 | exact hr.2.2.2.2.2.2.1 | exact hr.2.2.2.2.2.2.2 | exact hr.2.2.2.2.2.2.2.1 | exact hr.2.2.2.2.2.2.2.2 | exact hr.2.2.2.2.2.2.2.2.1 | exact hr.2.2.2.2.2.2.2.2.2 | exact hr.2.2.2.2.2.2.2.2.2.1 | exact hr.2.2.2.2.2.2.2.2.2.2 | exact hr.2.2.2.2.2.2.2.2.2.2.1 | exact hr.2.2.2.2.2.2.2.2.2.2.2 | exact hr.2.2.2.2.2.2.2.2.2.2.2.1 | exact hr.2.2.2.2.2.2.2.2.2.2.2.2 | exact hr.2.2.2.2.2.2.2.2.2.2.2.2.1 | exact hr.2.2.2.2.2.2.2.2.2.2.2.2.2 | exact hr.2.2.2.2.2.2.2.2.2.2.2.2.2.1 | exact hr.2.2.2.2.2.2.2.2.2.2.2.2.2.2 | exact hr.2.2.2.2.2.2.2.2.2.2.2.2.2.2.1 | exact hr.2.2.2.2.2.2.2.2.2.2.2.2.2.2.2 | exact hr.2.2.2.2.2.2.2.2.2.2.2.2.2.2.2.1 | exact hr.2.2.2.2.2.2.2.2.2.2.2.2.2.2.2.2 | exact hr.2.2.2.2.2.2.2.2.2.2.2.2.2.2.2.2.1 | exact hr.2.2.2.2.2.2.2.2.2.2.2.2.2.2.2.2.2 | exact hr.2.2.2.2.2.2.2.2.2.2.2.2.2.2.2.2.2.1 | exact hr.2.2.2.2.2.2.2.2.2.2.2.2.2.2.2.2.2.2 | exact hr.2.2.2.2.2.2.2.2.2.2.2.2.2.2.2.2.2.2.1 | exact hr.2.2.2.2.2.2.2.2.2.2.2.2.2.2.2.2.2.2.2 | exact hr.2.2.2.2.2.2.2.2.2.2.2.2.2.2.2.2.2.2.2.1 | exact hr.2.2.2.2.2.2.2.2.2.2.2.2.2.2.2.2.2.2.2.2
        have e2 : b2 = true := by first | exact hr | exact hr.1 | exact hr.2 | exact hr.2.1 | exact hr.2.2 | exact hr.2.2.1 | exact hr.2.2.2 | exact hr.2.2.2.1 | exact hr.2.2.2.2 | exact hr.2.2.2.2.1 | exact hr.2.2.2.2.2 | exact hr.2.2.2.2.2.1 | exact hr.2.2.2.2.2.2 | exact hr.2.2.2.2.2.2.1 | exact hr.2.2.2.2.2.2.2 | exact hr.2.2.2.2.2.2.2.1 | exact hr.2.2.2.2.2.2.2.2 | exact hr.2.2.2.2.2.2.2.2.1 | exact hr.2.2.2.2.2.2.2.2.2 | exact hr.2.2.2.2.2.2.2.2.2.1 | exact hr.2.2.2.2.2.2.2.2.2.2 | exact hr.2.2.2.2.2.2.2.2.2.2.1 | exact hr.2.2.2.2.2.2.2.2.2.2.2 | exact hr.2.2.2.2.2.2.2.2.2.2.2.1 | exact hr.2.2.2.2.2.2.2.2.2.2.2.2 | exact hr.2.2.2.2.2.2.2.2.2.2.2.2.1 | exact hr.2.2.2.2.2.2.2.2.2.2.2.2.2 | exact hr.2.2.2.2.2.2.2.2.2.2.2.2.2.1 | exact hr.2.2.2.2.2.2.2.2.2.2.2.2.2.2 | exact hr.2.2.2.2.2.2.2.2.2.2.2.2.2.2.1 | exact hr.2.2.2.2.2.2.2.2.2.2.2.2.2.2.2 | exact hr.2.2.2.2.2.2.2.2.2.2.2.2.2.2.2.1 | exact hr.2.2.2.2.2.2.2.2.2.2.2.2.2.2.2.2 | exact hr.2.2.2.2.2.2.2.2.2.2.2.2.2.2.2.2.1 | exact hr.2.2.2.2.2.2.2.2.2.2.2.2.2.2.2.2.2 | exact hr.2.2.2.2.2.2.2.2.2.2.2.2.2.2.2.2.2.1 | exact hr.2.2.2.2.2.2.2.2.2.2.2.2.2.2.2.2.2.2 | exact hr.2.2.2.2.2.2.2.2.2.2.2.2.2.2.2.2.2.2.1 | exact hr.2.2.2.2.2.2.2.2.2.2.2.2.2.2.2.2.2.2.2 | exact hr.2.2.2.2.2.2.2.2.2.2.2.2.2.2.2.2.2.2.2.1 | exact hr.2.2.2.2.2.2.2.2.2.2.2.2.2.2.2.2.2.2.2.2
        have e3 : b3 = true := by first | exact hr | exact hr.1 | exact hr.2 | exact hr.2.1 | exact hr.2.2 | exact hr.2.2.1 | exact hr.2.2.2 | exact hr.2.2.2.1 | exact hr.2.2.2.2 | exact hr.2.2.2.2.1 | exact hr.2.2.2.2.2 | exact hr.2.2.2.2.2.1 | exact hr.2.2.2.2.2.2 | exact hr.2.2.2.2.2.2.1 | exact hr.2.2.2.2.2.2.2 | exact hr.2.2.2.2.2.2.2.1 | exact hr.2.2.2.2.2.2.2.2 | exact hr.2.2.2.2.2.2.2.2.1 | exact hr.2.2.2.2.2.2.2.2.2 | exact hr.2.2.2.2.2.2.2.2.2.1 | exact hr.2.2.2.2.2.2.2.2.2.2 | exact hr.2.2.2.2.2.2.2.2.2.2.1 | exact hr.2.2.2.2.2.2.2.2.2.2.2 | exact hr.2.2.2.2.2.2.2.2.2.2.2.1 | exact hr.2.2.2.2.2.2.2.2.2.2.2.2 | exact hr.2.2.2.2.2.2.2.2.2.2.2.2.1 | exact hr.2.2.2.2.2.2.2.2.2.2.2.2.2 | exact hr.2.2.2.2.2.2.2.2.2.2.2.2.2.1 | exact hr.2.2.2.2.2.2.2.2.2.2.2.2.2.2 | exact hr.2.2.2.2.2.2.2.2.2.2.2.2.2.2.1 | exact hr.2.2.2.2.2.2.2.2.2.2.2.2.2.2.2 | exact hr.2.2.2.2.2.2.2.2.2.2.2.2.2.2.2.1 | exact hr.2.2.2.2.2.2.2.2.2.2.2.2.2.2.2.2 | exact hr.2.2.2.2.2.2.2.2.2.2.2.2.2.2.2.2.1 | exact hr.2.2.2.2.2.2.2.2.2.2.2.2.2.2.2.2.2 | exact hr.2.2.2.2.2.2.2.2.2.2.2.2.2.2.2.2.2.1 | exact hr.2.2.2.2.2.2.2.2.2.2.2.2.2.2.2.2.2.2 | exact hr.2.2.2.2.2.2.2.2.2.2.2.2.2.2.2.2.2.2.1 | exact hr.2.2.2.2.2.2.2.2.2.2.2.2.2.2.2.2.2.2.2 | exact hr.2.2.2.2.2.2.2.2.2.2.2.2.2.2.2.2.2.2.2.1 | exact hr.2.2.2.2.2.2.2.2.2.2.2.2.2.2.2.2.2.2.2.2
        have e4 : b4 = true := by first | exact hr | exact hr.1 | exact hr.2 | exact hr.2.1 | exact hr.2.2 | exact hr.2.2.1 | exact hr.2.2.2 | exact hr.2.2.2.1 | exact hr.2.2.2.2 | exact hr.2.2.2.2.1 | exact hr.2.2.2.2.2 | exact hr.2.2.2.2.2.1 | exact hr.2.2.2.2.2.2 | exact hr.2.2.2.2.2.2.1 | exact hr.2.2.2.2.2.2.2 | exact hr.2.2.2.2.2.2.2.1 | exact hr.2.2.2.2.2.2.2.2 | exact hr.2.2.2.2.2.2.2.2.1 | exact hr.2.2.2.2.2.2.2.2.2 | exact hr.2.2.2.2.2.2.2.2.2.1 | exact hr.2.2.2.2.2.2.2.2.2.2 | exact hr.2.2.2.2.2.2.2.2.2.2.1 | exact hr.2.2.2.2.2.2.2.2.2.2.2 | exact hr.2.2.2.2.2.2.2.2.2.2.2.1 | exact hr.2.2.2.2.2.2.2.2.2.2.2.2 | exact hr.2.2.2.2.2.2.2.2.2.2.2.2.1 | exact hr.2.2.2.2.2.2.2.2.2.2.2.2.2 | exact hr.2.2.2.2.2.2.2.2.2.2.2.2.2.1 | exact hr.2.2.2.2.2.2.2.2.2.2.2.2.2.2 | exact hr.2.2.2.2.2.2.2.2.2.2.2.2.2.2.1 | exact hr.2.2.2.2.2.2.2.2.2.2.2.2.2.2.2 | exact hr.2.2.2.2.2.2.2.2.2.2.2.2.2.2.2.1 | exact hr.2.2.2.2.2.2.2.2.2.2.2.2.2.2.2.2 | exact hr.2.2.2.2.2.2.2.2.2.2.2.2.2.2.2.2.1 | exact hr.2.2.2.2.2.2.2.2.2.2.2.2.2.2.2.2.2 | exact hr.2.2.2.2.2.2.2.2.2.2.2.2.2.2.2.2.2.1 | exact hr.2.2.2.2.2.2.2.2.2.2.2.2.2.2.2.2.2.2 | exact hr.2.2.2.2.2.2.2.2.2.2.2.2.2.2.2.2.2.2.1 | exact hr.2.2.2.2.2.2.2.2.2.2.2.2.2.2.2.2.2.2.2 | exact hr.2.2.2.2.2.2.2.2.2.2.2.2.2.2.2.2.2.2.2.1 | exact hr.2.2.2.2.2.2.2.2.2.2.2.2.2.2.2.2.2.2.2.2
        have e5 : b5 = true := by first | exact hr | exact hr.1 | exact hr.2 | exact hr.2.1 | exact hr.2.2 | exact hr.2.2.1 | exact hr.2.2.2 | exact hr.2.2.2.1 | exact hr.2.2.2.2 | exact hr.2.2.2.2.1 | exact hr.2.2.2.2.2 | exact hr.2.2.2.2.2.1 | exact hr.2.2.2.2.2.2 | exact hr.2.2.2.2.2.2.1 | exact hr.2.2.2.2.2.2.2 | exact hr.2.2.2.2.2.2.2.1 | exact hr.2.2.2.2.2.2.2.2 | exact hr.2.2.2.2.2.2.2.2.1 | exact hr.2.2.2.2.2.2.2.2.2 | exact hr.2.2.2.2.2.2.2.2.2.1 | exact hr.2.2.2.2.2.2.2.2.2.2 | exact hr.2.2.2.2.2.2.2.2.2.2.1 | exact hr.2.2.2.2.2.2.2.2.2.2.2 | exact hr.2.2.2.2.2.2.2.2.2.2.2.1 | exact hr.2.2.2.2.2.2.2.2.2.2.2.2 | exact hr.2.2.2.2.2.2.2.2.2.2.2.2.1 | exact hr.2.2.2.2.2.2.2.2.2.2.2.2.2 | exact hr.2.2.2.2.2.2.2.2.2.2.2.2.2.1 | exact hr.2.2.2.2.2.2.2.2.2.2.2.2.2.2 | exact hr.2.2.2.2.2.2.2.2.2.2.2.2.2.2.1 | exact hr.2.2.2.2.2.2.2.2.2.2.2.2.2.2.2 | exact hr.2.2.2.2.2.2.2.2.2.2.2.2.2.2.2.1 | exact hr.2.2.2.2.2.2.2.2.2.2.2.2.2.2.2.2 | exact hr.2.2.2.2.2.2.2.2.2.2.2.2.2.2.2.2.1 | exact hr.2.2.2.2.2.2.2.2.2.2.2.2.2.2.2.2.2 | exact hr.2.2.2.2.2.2.2.2.2.2.2.2.2.2.2.2.2.1 | exact hr.2.2.2.2.2.2.2.2.2.2.2.2.2.2.2.2.2.2 | exact hr.2.2.2.2.2.2.2.2.2.2.2.2.2.2.2.2.2.2.1 | exact hr.2.2.2.2.2.2.2.2.2.2.2.2.2.2.2.2.2.2.2 | exact hr.2.2.2.2.2.2.2.2.2.2.2.2.2.2.2.2.2.2.2.1 | exact hr.2.2.2.2.2.2.2.2.2.2.2.2.2.2.2.2.2.2.2.2
        have e6 : b6 = true := by first | exact hr | exact hr.1 | exact hr.2 | exact hr.2.1 | exact hr.2.2 | exact hr.2.2.1 | exact hr.2.2.2 | exact hr.2.2.2.1 | exact hr.2.2.2.2 | exact hr.2.2.2.2.1 | exact hr.2.2.2.2.2 | exact hr.2.2.2.2.2.1 | exact hr.2.2.2.2.2.2 | exact hr.2.2.2.2.2.2.1 | exact hr.2.2.2.2.2.2.2 | exact hr.2.2.2.2.2.2.2.1 | exact hr.2.2.2.2.2.2.2.2 | exact hr.2.2.2.2.2.2.2.2.1 | exact hr.2.2.2.2.2.2.2.2.2 | exact hr.2.2.2.2.2.2.2.2.2.1 | exact hr.2.2.2.2.2.2.2.2.2.2 | exact hr.2.2.2.2.2.2.2.2.2.2.1 | exact hr.2.2.2.2.2.2.2.2.2.2.2 | exact hr.2.2.2.2.2.2.2.2.2.2.2.1 | exact hr.2.2.2.2.2.2.2.2.2.2.2.2 | exact hr.2.2.2.2.2.2.2.2.2.2.2.2.1 | exact hr.2.2.2.2.2.2.2.2.2.2.2.2.2 | exact hr.2.2.2.2.2.2.2.2.2.2.2.2.2.1 | exact hr.2.2.2.2.2.2.2.2.2.2.2.2.2.2 | exact hr.2.2.2.2.2.2.2.2.2.2.2.2.2.2.1 | exact hr.2.2.2.2.2.2.2.2.2.2.2.2.2.2.2 | exact hr.2.2.2.2.2.2.2.2.2.2.2.2.2.2.2.1 | exact hr.2.2.2.2.2.2.2.2.2.2.2.2.2.2.2.2 | exact hr.2.2.2.2.2.2.2.2.2.2.2.2.2.2.2.2.1 | exact hr.2.2.2.2.2.2.2.2.2.2.2.2.2.2.2.2.2 | exact hr.2.2.2.2.2.2.2.2.2.2.2.2.2.2.2.2.2.1 | exact hr.2.2.2.2.2.2.2.2.2.2.2.2.2.2.2.2.2.2 | exact hr.2.2.2.2.2.2.2.2.2.2.2.2.2.2.2.2.2.2.1 | exact hr.2.2.2.2.2.2.2.2.2.2.2.2.2.2.2.2.2.2.2 | exact hr.2.2.2.2.2.2.2.2.2.2.2.2.2.2.2.2.2.2.2.1 | exact hr.2.2.2.2.2.2.2.2.2.2.2.2.2.2.2.2.2.2.2.2
        have e7 : b7 = true := by first | exact hr | exact hr.1 | exact hr.2 | exact hr.2.1 | exact hr.2.2 | exact hr.2.2.1 | exact hr.2.2.2 | exact hr.2.2.2.1 | exact hr.2.2.2.2 | exact hr.2.2.2.2.1 | exact hr.2.2.2.2.2 | exact hr.2.2.2.2.2.1 | exact hr.2.2.2.2.2.2 | exact hr.2.2.2.2.2.2.1 | exact hr.2.2.2.2.2.2.2 | exact hr.2.2.2.2.2.2.2.1 | exact hr.2.2.2.2.2.2.2.2 | exact hr.2.2.2.2.2.2.2.2.1 | exact hr.2.2.2.2.2.2.2.2.2 | exact hr.2.2.2.2.2.2.2.2.2.1 | exact hr.2.2.2.2.2.2.2.2.2.2 | exact hr.2.2.2.2.2.2.2.2.2.2.1 | exact hr.2.2.2.2.2.2.2.2.2.2.2 | exact hr.2.2.2.2.2.2.2.2.2.2.2.1 | exact hr.2.2.2.2.2.2.2.2.2.2.2.2 | exact hr.2.2.2.2.2.2.2.2.2.2.2.2.1 | exact hr.2.2.2.2.2.2.2.2.2.2.2.2.2 | exact hr.2.2.2.2.2.2.2.2.2.2.2.2.2.1 | exact hr.2.2.2.2.2.2.2.2.2.2.2.2.2.2 | exact hr.2.2.2.2.2.2.2.2.2.2.2.2.2.2.1 | exact hr.2.2.2.2.2.2.2.2.2.2.2.2.2.2.2 | exact hr.2.2.2.2.2.2.2.2.2.2.2.2.2.2.2.1 | exact hr.2.2.2.2.2.2.2.2.2.2.2.2.2.2.2.2 | exact hr.2.2.2.2.2.2.2.2.2.2.2.2.2.2.2.2.1 | exact hr.2.2.2.2.2.2.2.2.2.2.2.2.2.2.2.2.2 | exact hr.2.2.2.2.2.2.2.2.2.2.2.2.2.2.2.2.2.1 | exact hr.2.2.2.2.2.2.2.2.2.2.2.2.2.2.2.2.2.2 | exact hr.2.2.2.2.2.2.2.2.2.2.2.2.2.2.2.2.2.2.1 | exact hr.2.2.2.2.2.2.2.2.2.2.2.2.2.2.2.2.2.2.2 | exact hr.2.2.2.2.2.2.2.2.2.2.2.2.2.2.2.2.2.2.2.1 | exact hr.2.2.2.2.2.2.2.2.2.2.2.2.2.2.2.2.2.2.2.2
        have e8 : b8 = true := by first | exact hr | exact hr.1 | exact hr.2 | exact hr.2.1 | exact hr.2.2 | exact hr.2.2.1 | exact hr.2.2.2 | exact hr.2.2.2.1 | exact hr.2.2.2.2 | exact hr.2.2.2.2.1 | exact hr.2.2.2.2.2 | exact hr.2.2.2.2.2.1 | exact hr.2.2.2.2.2.2 | exact hr.2.2.2.2.2.2.1 | exact hr.2.2.2.2.2.2.2 | exact hr.2.2.2.2.2.2.2.1 | exact hr.2.2.2.2.2.2.2.2 | exact hr.2.2.2.2.2.2.2.2.1 | exact hr.2.2.2.2.2.2.2.2.2 | exact hr.2.2.2.2.2.2.2.2.2.1 | exact hr.2.2.2.2.2.2.2.2.2.2 | exact hr.2.2.2.2.2.2.2.2.2.2.1 | exact hr.2.2.2.2.2.2.2.2.2.2.2 | exact hr.2.2.2.2.2.2.2.2.2.2.2.1 | exact hr.2.2.2.2.2.2.2.2.2.2.2.2 | exact hr.2.2.2.2.2.2.2.2.2.2.2.2.1 | exact hr.2.2.2.2.2.2.2.2.2.2.2.2.2 | exact hr.2.2.2.2.2.2.2.2.2.2.2.2.2.1 | exact hr.2.2.2.2.2.2.2.2.2.2.2.2.2.2 | exact hr.2.2.2.2.2.2.2.2.2.2.2.2.2.2.1 | exact hr.2.2.2.2.2.2.2.2.2.2.2.2.2.2.2 | exact hr.2.2.2.2.2.2.2.2.2.2.2.2.2.2.2.1 | exact hr.2.2.2.2.2.2.2.2.2.2.2.2.2.2.2.2 | exact hr.2.2.2.2.2.2.2.2.2.2.2.2.2.2.2.2.1 | exact hr.2.2.2.2.2.2.2.2.2.2.2.2.2.2.2.2.2 | exact hr.2.2.2.2.2.2.2.2.2.2.2.2.2.2.2.2.2.1 | exact hr.2.2.2.2.2.2.2.2.2.2.2.2.2.2.2.2.2.2 | exact hr.2.2.2.2.2.2.2.2.2.2.2.2.2.2.2.2.2.2.1 | exact hr.2.2.2.2.2.2.2.2.2.2.2.2.2.2.2.2.2.2.2 | exact hr.2.2.2.2.2.2.2.2.2.2.2.2.2.2.2.2.2.2.2.1 | exact hr.2.2.2.2.2.2.2.2.2.2.2.2.2.2.2.2.2.2.2.2
        have e9 : b9 = true := by first | exact hr | exact hr.1 | exact hr.2 | exact hr.2.1 | exact hr.2.2 | exact hr.2.2.1 | exact hr.2.2.2 | exact hr.2.2.2.1 | exact hr.2.2.2.2 | exact hr.2.2.2.2.1 | exact hr.2.2.2.2.2 | exact hr.2.2.2.2.2.1 | exact hr.2.2.2.2.2.2 | exact hr.2.2.2.2.2.2.1 | exact hr.2.2.2.2.2.2.2 | exact hr.2.2.2.2.2.2.2.1 | exact hr.2.2.2.2.2.2.2.2 | exact hr.2.2.2.2.2.2.2.2.1 | exact hr.2.2.2.2.2.2.2.2.2 | exact hr.2.2.2.2.2.2.2.2.2.1 | exact hr.2.2.2.2.2.2.2.2.2.2 | exact hr.2.2.2.2.2.2.2.2.2.2.1 | exact hr.2.2.2.2.2.2.2.2.2.2.2 | exact hr.2.2.2.2.2.2.2.2.2.2.2.1 | exact hr.2.2.2.2.2.2.2.2.2.2.2.2 | exact hr.2.2.2.2.2.2.2.2.2.2.2.2.1 | exact hr.2.2.2.2.2.2.2.2.2.2.2.2.2 | exact hr.2.2.2.2.2.2.2.2.2.2.2.2.2.1 | exact hr.2.2.2.2.2.2.2.2.2.2.2.2.2.2 | exact hr.2.2.2.2.2.2.2.2.2.2.2.2.2.2.1 | exact hr.2.2.2.2.2.2.2.2.2.2.2.2.2.2.2 | exact hr.2.2.2.2.2.2.2.2.2.2.2.2.2.2.2.1 | exact hr.2.2.2.2.2.2.2.2.2.2.2.2.2.2.2.2 | exact hr.2.2.2.2.2.2.2.2.2.2.2.2.2.2.2.2.1 | exact hr.2.2.2.2.2.2.2.2.2.2.2.2.2.2.2.2.2 | exact hr.2.2.2.2.2.2.2.2.2.2.2.2.2.2.2.2.2.1 | exact hr.2.2.2.2.2.2.2.2.2.2.2.2.2.2.2.2.2.2 | exact hr.2.2.2.2.2.2.2.2.2.2.2.2.2.2.2.2.2.2.1 | exact hr.2.2.2.2.2.2.2.2.2.2.2.2.2.2.2.2.2.2.2 | exact hr.2.2.2.2.2.2.2.2.2.2.2.2.2.2.2.2.2.2.2.1 | exact hr.2.2.2.2.2.2.2.2.2.2.2.2.2.2.2.2.2.2.2.2
        have e10 : b10 = true := by first | exact hr | exact hr.1 | exact hr.2 | exact hr.2.1 | exact hr.2.2 | exact hr.2.2.1 | exact hr.2.2.2 | exact hr.2.2.2.1 | exact hr.2.2.2.2 | exact hr.2.2.2.2.1 | exact hr.2.2.2.2.2 | exact hr.2.2.2.2.2.1 | exact hr.2.2.2.2.2.2 | exact hr.2.2.2.2.2.2.1 | exact hr.2.2.2.2.2.2.2 | exact hr.2.2.2.2.2.2.2.1 | exact hr.2.2.2.2.2.2.2.2 | exact hr.2.2.2.2.2.2.2.2.1 | exact hr.2.2.2.2.2.2.2.2.2 | exact hr.2.2.2.2.2.2.2.2.2.1 | exact hr.2.2.2.2.2.2.2.2.2.2 | exact hr.2.2.2.2.2.2.2.2.2.2.1 | exact hr.2.2.2.2.2.2.2.2.2.2.2 | exact hr.2.2.2.2.2.2.2.2.2.2.2.1 | exact hr.2.2.2.2.2.2.2.2.2.2.2.2 | exact hr.2.2.2.2.2.2.2.2.2.2.2.2.1 | exact hr.2.2.2.2.2.2.2.2.2.2.2.2.2 | exact hr.2.2.2.2.2.2.2.2.2.2.2.2.2.1 | exact hr.2.2.2.2.2.2.2.2.2.2.2.2.2.2 | exact hr.2.2.2.2.2.2.2.2.2.2.2.2.2.2.1 | exact hr.2.2.2.2.2.2.2.2.2.2.2.2.2.2.2 | exact hr.2.2.2.2.2.2.2.2.2.2.2.2.2.2.2.1 | exact hr.2.2.2.2.2.2.2.2.2.2.2.2.2.2.2.2 | exact hr.2.2.2.2.2.2.2.2.2.2.2.2.2.2.2.2.1 | exact hr.2.2.2.2.2.2.2.2.2.2.2.2.2.2.2.2.2 | exact hr.2.2.2.2.2.2.2.2.2.2.2.2.2.2.2.2.2.1 | exact hr.2.2.2.2.2.2.2.2.2.2.2.2.2.2.2.2.2.2 | exact hr.2.2.2.2.2.2.2.2.2.2.2.2.2.2.2.2.2.2.1 | exact hr.2.2.2.2.2.2.2.2.2.2.2.2.2.2.2.2.2.2.2 | exact hr.2.2.2.2.2.2.2.2.2.2.2.2.2.2.2.2.2.2.2.1 | exact hr.2.2.2.2.2.2.2.2.2.2.2.2.2.2.2.2.2.2.2.2
        clear hr
        subst e13 e12 e0 e1 e2 e3 e4 e5 e6 e7 e8 e9 e10
        have cx := hw.row i hi
        have fx := hw.frz i
        refine wpOpIn_at rfl ?_
        go_simp
        exact hK _ _ ⟨true, true, true, true, true, true, true, true, true, true, true, b11, true, true, b14, rfl, rfl, (fun _ => rfl), (fun _ => rfl), hw.store13 hi hNg (by omega)⟩
      | 14, _, hk =>
        have hr := ready_at rfl hk
        clear hk
        simp [Region.binds, -Array.all_toList] at hr
        have e14 : b14 = false := by first | exact hr | exact hr.1 | exact hr.2 | exact hr.2.1 | exact hr.2.2 | exact hr.2.2.1 | exact hr.2.2.2 | exact hr.2.2.2.1 | exact hr.2.2.2.2 | exact hr.2.2.2.2.1 | exact hr.2.2.2.2.2 | exact hr.2.2.2.2.2.1 | exact hr.2.2.2.2.2.2 | exact hr.2.2.2.2.2.2.1 | exact hr.2.2.2.2.2.2.2 | exact hr.2.2.2.2.2.2.2.1 | exact hr.2.2.2.2.2.2.2.2 | exact hr.2.2.2.2.2.2.2.2.1 | exact hr.2.2.2.2.2.2.2.2.2 | exact hr.2.2.2.2.2.2.2.2.2.1 | exact hr.2.2.2.2.2.2.2.2.2.2 | exact hr.2.2.2.2.2.2.2.2.2.2.1 | exact hr.2.2.2.2.2.2.2.2.2.2.2 | exact hr.2.2.2.2.2.2.2.2.2.2.2.1 | exact hr.2.2.2.2.2.2.2.2.2.2.2.2 | exact hr.2.2.2.2.2.2.2.2.2.2.2.2.1 | exact hr.2.2.2.2.2.2.2.2.2.2.2.2.2 | exact hr.2.2.2.2.2.2.2.2.2.2.2.2.2.1 | exact hr.2.2.2.2.2.2.2.2.2.2.2.2.2.2 | exact hr.2.2.2.2.2.2.2.2.2.2.2.2.2.2.1 | exact hr.2.2.2.2.2.2.2.2.2.2.2.2.2.2.2 | exact hr.2.2.2.2.2.2.2.2.2.2.2.2.2.2.2.1 | exact hr.2.2.2.2.2.2.2.2.2.2.2.2.2.2.2.2 | exact hr.2.2.2.2.2.2.2.2.2.2.2.2.2.2.2.2.1 | exact hr.2.2.2.2.2.2.2.2.2.2.2.2.2.2.2.2.2 | exact hr.2.2.2.2.2.2.2.2.2.2.2.2.2.2.2.2.2.1 | exact hr.2.2.2.2.2.2.2.2.2.2.2.2.2.2.2.2.2.2 | exact hr.2.2.2.2.2.2.2.2.2.2.2.2.2.2.2.2.2.2.1 | exact hr.2.2.2.2.2.2.2.2.2.2.2.2.2.2.2.2.2.2.2 | exact hr.2.2.2.2.2.2.2.2.2.2.2.2.2.2.2.2.2.2.2.1 | exact hr.2.2.2.2.2.2.2.2.2.2.2.2.2.2.2.2.2.2.2.2
        have e0 : b0 = true := by first | exact hr | exact hr.1 | exact hr.2 | exact hr.2.1 | exact hr.2.2 | exact hr.2.2.1 | exact hr.2.2.2 | exact hr.2.2.2.1 | exact hr.2.2.2.2 | exact hr.2.2.2.2.1 | exact hr.2.2.2.2.2 | exact hr.2.2.2.2.2.1 | exact hr.2.2.2.2.2.2 | exact hr.2.2.2.2.2.2.1 | exact hr.2.2.2.2.2.2.2 | exact hr.2.2.2.2.2.2.2.1 | exact hr.2.2.2.2.2.2.2.2 | exact hr.2.2.2.2.2.2.2.2.1 | exact hr.2.2.2.2.2.2.2.2.2 | exact hr.2.2.2.2.2.2.2.2.2.1 | exact hr.2.2.2.2.2.2.2.2.2.2 | exact hr.2.2.2.2.2.2.2.2.2.2.1 | exact hr.2.2.2.2.2.2.2.2.2.2.2 | exact hr.2.2.2.2.2.2.2.2.2.2.2.1 | exact hr.2.2.2.2.2.2.2.2.2.2.2.2 | exact hr.2.2.2.2.2.2.2.2.2.2.2.2.1 | exact hr.2.2.2.2.2.2.2.2.2.2.2.2.2 | exact hr.2.2.2.2.2.2.2.2.2.2.2.2.2.1 | exact hr.2.2.2.2.2.2.2.2.2.2.2.2.2.2 | exact hr.2.2.2.2.2.2.2.2.2.2.2.2.2.2.1 | exact hr.2.2.2.2.2.2.2.2.2.2.2.2.2.2.2 | exact hr.2.2.2.2.2.2.2.2.2.2.2.2.2.2.2.1 | exact hr.2.2.2.2.2.2.2.2.2.2.2.2.2.2.2.2 | exact hr.2.2.2.2.2.2.2.2.2.2.2.2.2.2.2.2.1 | exact hr.2.2.2.2.2.2.2.2.2.2.2.2.2.2.2.2.2 | exact hr.2.2.2.2.2.2.2.2.2.2.2.2.2.2.2.2.2.1 | exact hr.2.2.2.2.2.2.2.2.2.2.2.2.2.2.2.2.2.2 | exact hr.2.2.2.2.2.2.2.2.2.2.2.2.2.2.2.2.2.2.1 | exact hr.2.2.2.2.2.2.2.2.2.2.2.2.2.2.2.2.2.2.2 | exact hr.2.2.2.2.2.2.2.2.2.2.2.2.2.2.2.2.2.2.2.1 | exact hr.2.2.2.2.2.2.2.2.2.2.2.2.2.2.2.2.2.2.2.2
        have e1 : b1 = true := by first | exact hr | exact hr.1 | exact hr.2 | exact hr.2.1 | exact hr.2.2 | exact hr.2.2.1 | exact hr.2.2.2 | exact hr.2.2.2.1 | exact hr.2.2.2.2 | exact hr.2.2.2.2.1 | exact hr.2.2.2.2.2 | exact hr.2.2.2.2.2.1 | exact hr.2.2.2.2.2.2 | exact hr.2.2.2.2.2.2.1 | exact hr.2.2.2.2.2.2.2 | exact hr.2.2.2.2.2.2.2.1 | exact hr.2.2.2.2.2.2.2.2 | exact hr.2.2.2.2.2.2.2.2.1 | exact hr.2.2.2.2.2.2.2.2.2 | exact hr.2.2.2.2.2.2.2.2.2.1 | exact hr.2.2.2.2.2.2.2.2.2.2 | exact hr.2.2.2.2.2.2.2.2.2.2.1 | exact hr.2.2.2.2.2.2.2.2.2.2.2 | exact hr.2.2.2.2.2.2.2.2.2.2.2.1 | exact hr.2.2.2.2.2.2.2.2.2.2.2.2 | exact hr.2.2.2.2.2.2.2.2.2.2.2.2.1 | exact hr.2.2.2.2.2.2.2.2.2.2.2.2.2 | exact hr.2.2.2.2.2.2.2.2.2.2.2.2.2.1 | exact hr.2.2.2.2.2.2.2.2.2.2.2.2.2.2 | exact hr.2.2.2.2.2.2.2.2.2.2.2.2.2.2.1 | exact hr.2.2.2.2.2.2.2.2.2.2.2.2.2.2.2 | exact hr.2.2.2.2.2.2.2.2.2.2.2.2.2.2.2.1 | exact hr.2.2.2.2.2.2.2.2.2.2.2.2.2.2.2.2 | exact hr.2.2.2.2.2.2.2.2.2.2.2.2.2.2.2.2.1 | exact hr.2.2.2.2.2.2.2.2.2.2.2.2.2.2.2.2.2 | exact hr.2.2.2.2.2.2.2.2.2.2.2.2.2.2.2.2.2.1 | exact hr.2.2.2.2.2.2.2.2.2.2.2.2.2.2.2.2.2.2 | exact hr.2.2.2.2.2.2.2.2.2.2.2.2.2.2.2.2.2.2.1 | exact hr.2.2.2.2.2.2.2.2.2.2.2.2.2.2.2.2.2.2.2 | exact hr.2.2.2.2.2.2.2.2.2.2.2.2.2.2.2.2.2.2.2.1 | exact hr.2.2.2.2.2.2.2.2.2.2.2.2.2.2.2.2.2.2.2.2
        have e2 : b2 = true := by first | exact hr | exact hr.1 | exact hr.2 | exact hr.2.1 | exact hr.2.2 | exact hr.2.2.1 | exact hr.2.2.2 | exact hr.2.2.2.1 | exact hr.2.2.2.2 | exact hr.2.2.2.2.1 | exact hr.2.2.2.2.2 | exact hr.2.2.2.2.2.1 | exact hr.2.2.2.2.2.2 | exact hr.2.2.2.2.2.2.1 | exact hr.2.2.2.2.2.2.2 | exact hr.2.2.2.2.2.2.2.1 | exact hr.2.2.2.2.2.2.2.2 | exact hr.2.2.2.2.2.2.2.2.1 | exact hr.2.2.2.2.2.2.2.2.2 | exact hr.2.2.2.2.2.2.2.2.2.1 | exact hr.2.2.2.2.2.2.2.2.2.2 | exact hr.2.2.2.2.2.2.2.2.2.2.1 | exact hr.2.2.2.2.2.2.2.2.2.2.2 | exact hr.2.2.2.2.2.2.2.2.2.2.2.1 | exact hr.2.2.2.2.2.2.2.2.2.2.2.2 | exact hr.2.2.2.2.2.2.2.2.2.2.2.2.1 | exact hr.2.2.2.2.2.2.2.2.2.2.2.2.2 | exact hr.2.2.2.2.2.2.2.2.2.2.2.2.2.1 | exact hr.2.2.2.2.2.2.2.2.2.2.2.2.2.2 | exact hr.2.2.2.2.2.2.2.2.2.2.2.2.2.2.1 | exact hr.2.2.2.2.2.2.2.2.2.2.2.2.2.2.2 | exact hr.2.2.2.2.2.2.2.2.2.2.2.2.2.2.2.1 | exact hr.2.2.2.2.2.2.2.2.2.2.2.2.2.2.2.2 | exact hr.2.2.2.2.2.2.2.2.2.2.2.2.2.2.2.2.1 | exact hr.2.2.2.2.2.2.2.2.2.2.2.2.2.2.2.2.2 | exact hr.2.2.2.2.2.2.2.2.2.2.2.2.2.2.2.2.2.1 | exact hr.2.2.2.2.2.2.2.2.2.2.2.2.2.2.2.2.2.2 | exact hr.2.2.2.2.2.2.2.2.2.2.2.2.2.2.2.2.2.2.1 | exact hr.2.2.2.2.2.2.2.2.2.2.2.2.2.2.2.2.2.2.2 | exact hr.2.2.2.2.2.2.2.2.2.2.2.2.2.2.2.2.2.2.2.1 | exact hr.2.2.2.2.2.2.2.2.2.2.2.2.2.2.2.2.2.2.2.2
        have e3 : b3 = true := by first | exact hr | exact hr.1 | exact hr.2 | exact hr.2.1 | exact hr.2.2 | exact hr.2.2.1 | exact hr.2.2.2 | exact hr.2.2.2.1 | exact hr.2.2.2.2 | exact hr.2.2.2.2.1 | exact hr.2.2.2.2.2 | exact hr.2.2.2.2.2.1 | exact hr.2.2.2.2.2.2 | exact hr.2.2.2.2.2.2.1 | exact hr.2.2.2.2.2.2.2 | exact hr.2.2.2.2.2.2.2.1 | exact hr.2.2.2.2.2.2.2.2 | exact hr.2.2.2.2.2.2.2.2.1 | exact hr.2.2.2.2.2.2.2.2.2 | exact hr.2.2.2.2.2.2.2.2.2.1 | exact hr.2.2.2.2.2.2.2.2.2.2 | exact hr.2.2.2.2.2.2.2.2.2.2.1 | exact hr.2.2.2.2.2.2.2.2.2.2.2 | exact hr.2.2.2.2.2.2.2.2.2.2.2.1 | exact hr.2.2.2.2.2.2.2.2.2.2.2.2 | exact hr.2.2.2.2.2.2.2.2.2.2.2.2.1 | exact hr.2.2.2.2.2.2.2.2.2.2.2.2.2 | exact hr.2.2.2.2.2.2.2.2.2.2.2.2.2.1 | exact hr.2.2.2.2.2.2.2.2.2.2.2.2.2.2 | exact hr.2.2.2.2.2.2.2.2.2.2.2.2.2.2.1 | exact hr.2.2.2.2.2.2.2.2.2.2.2.2.2.2.2 | exact hr.2.2.2.2.2.2.2.2.2.2.2.2.2.2.2.1 | exact hr.2.2.2.2.2.2.2.2.2.2.2.2.2.2.2.2 | exact hr.2.2.2.2.2.2.2.2.2.2.2.2.2.2.2.2.1 | exact hr.2.2.2.2.2.2.2.2.2.2.2.2.2.2.2.2.2 | exact hr.2.2.2.2.2.2.2.2.2.2.2.2.2.2.2.2.2.1 | exact hr.2.2.2.2.2.2.2.2.2.2.2.2.2.2.2.2.2.2 | exact hr.2.2.2.2.2.2.2.2.2.2.2.2.2.2.2.2.2.2.1 | exact hr.2.2.2.2.2.2.2.2.2.2.2.2.2.2.2.2.2.2.2 | exact hr.2.2.2.2.2.2.2.2.2.2.2.2.2.2.2.2.2.2.2.1 | exact hr.2.2.2.2.2.2.2.2.2.2.2.2.2.2.2.2.2.2.2.2
        have e4 : b4 = true := by first | exact hr | exact hr.1 | exact hr.2 | exact hr.2.1 | exact hr.2.2 | exact hr.2.2.1 | exact hr.2.2.2 | exact hr.2.2.2.1 | exact hr.2.2.2.2 | exact hr.2.2.2.2.1 | exact hr.2.2.2.2.2 | exact hr.2.2.2.2.2.1 | exact hr.2.2.2.2.2.2 | exact hr.2.2.2.2.2.2.1 | exact hr.2.2.2.2.2.2.2 | exact hr.2.2.2.2.2.2.2.1 | exact hr.2.2.2.2.2.2.2.2 | exact hr.2.2.2.2.2.2.2.2.1 | exact hr.2.2.2.2.2.2.2.2.2 | exact hr.2.2.2.2.2.2.2.2.2.1 | exact hr.2.2.2.2.2.2.2.2.2.2 | exact hr.2.2.2.2.2.2.2.2.2.2.1 | exact hr.2.2.2.2.2.2.2.2.2.2.2 | exact hr.2.2.2.2.2.2.2.2.2.2.2.1 | exact hr.2.2.2.2.2.2.2.2.2.2.2.2 | exact hr.2.2.2.2.2.2.2.2.2.2.2.2.1 | exact hr.2.2.2.2.2.2.2.2.2.2.2.2.2 | exact hr.2.2.2.2.2.2.2.2.2.2.2.2.2.1 | exact hr.2.2.2.2.2.2.2.2.2.2.2.2.2.2 | exact hr.2.2.2.2.2.2.2.2.2.2.2.2.2.2.1 | exact hr.2.2.2.2.2.2.2.2.2.2.2.2.2.2.2 | exact hr.2.2.2.2.2.2.2.2.2.2.2.2.2.2.2.1 | exact hr.2.2.2.2.2.2.2.2.2.2.2.2.2.2.2.2 | exact hr.2.2.2.2.2.2.2.2.2.2.2.2.2.2.2.2.1 | exact hr.2.2.2.2.2.2.2.2.2.2.2.2.2.2.2.2.2 | exact hr.2.2.2.2.2.2.2.2.2.2.2.2.2.2.2.2.2.1 | exact hr.2.2.2.2.2.2.2.2.2.2.2.2.2.2.2.2.2.2 | exact hr.2.2.2.2.2.2.2.2.2.2.2.2.2.2.2.2.2.2.1 | exact hr.2.2.2.2.2.2.2.2.2.2.2.2.2.2.2.2.2.2.2 | exact hr.2.2.2.2.2.2.2.2.2.2.2.2.2.2.2.2.2.2.2.1 | exact hr.2.2.2.2.2.2.2.2.2.2.2.2.2.2.2.2.2.2.2.2
        have e5 : b5 = true := by first | exact hr | exact hr.1 | exact hr.2 | exact hr.2.1 | exact hr.2.2 | exact hr.2.2.1 | exact hr.2.2.2 | exact hr.2.2.2.1 | exact hr.2.2.2.2 | exact hr.2.2.2.2.1 | exact hr.2.2.2.2.2 | exact hr.2.2.2.2.2.1 | exact hr.2.2.2.2.2.2 | exact hr.2.2.2.2.2.2.1 | exact hr.2.2.2.2.2.2.2 | exact hr.2.2.2.2.2.2.2.1 | exact hr.2.2.2.2.2.2.2.2 | exact hr.2.2.2.2.2.2.2.2.1 | exact hr.2.2.2.2.2.2.2.2.2 | exact hr.2.2.2.2.2.2.2.2.2.1 | exact hr.2.2.2.2.2.2.2.2.2.2 | exact hr.2.2.2.2.2.2.2.2.2.2.1 | exact hr.2.2.2.2.2.2.2.2.2.2.2 | exact hr.2.2.2.2.2.2.2.2.2.2.2.1 | exact hr.2.2.2.2.2.2.2.2.2.2.2.2 | exact hr.2.2.2.2.2.2.2.2.2.2.2.2.1 | exact hr.2.2.2.2.2.2.2.2.2.2.2.2.2 | exact hr.2.2.2.2.2.2.2.2.2.2.2.2.2.1 | exact hr.2.2.2.2.2.2.2.2.2.2.2.2.2.2 | exact hr.2.2.2.2.2.2.2.2.2.2.2.2.2.2.1 | exact hr.2.2.2.2.2.2.2.2.2.2.2.2.2.2.2 | exact hr.2.2.2.2.2.2.2.2.2.2.2.2.2.2.2.1 | exact hr.2.2.2.2.2.2.2.2.2.2.2.2.2.2.2.2 | exact hr.2.2.2.2.2.2.2.2.2.2.2.2.2.2.2.2.1 | exact hr.2.2.2.2.2.2.2.2.2.2.2.2.2.2.2.2.2 | exact hr.2.2.2.2.2.2.2.2.2.2.2.2.2.2.2.2.2.1 | exact hr.2.2.2.2.2.2.2.2.2.2.2.2.2.2.2.2.2.2 | exact hr.2.2.2.2.2.2.2.2.2.2.2.2.2.2.2.2.2.2.1 | exact hr.2.2.2.2.2.2.2.2.2.2.2.2.2.2.2.2.2.2.2 | exact hr.2.2.2.2.2.2.2.2.2.2.2.2.2.2.2.2.2.2.2.1 | exact hr.2.2.2.2.2.2.2.2.2.2.2.2.2.2.2.2.2.2.2.2
        have e6 : b6 = true := by first | exact hr | exact hr.1 | exact hr.2 | exact hr.2.1 | exact hr.2.2 | exact hr.2.2.1 | exact hr.2.2.2 | exact hr.2.2.2.1 | exact hr.2.2.2.2 | exact hr.2.2.2.2.1 | exact hr.2.2.2.2.2 | exact hr.2.2.2.2.2.1 | exact hr.2.2.2.2.2.2 | exact hr.2.2.2.2.2.2.1 | exact hr.2.2.2.2.2.2.2 | exact hr.2.2.2.2.2.2.2.1 | exact hr.2.2.2.2.2.2.2.2 | exact hr.2.2.2.2.2.2.2.2.1 | exact hr.2.2.2.2.2.2.2.2.2 | exact hr.2.2.2.2.2.2.2.2.2.1 | exact hr.2.2.2.2.2.2.2.2.2.2 | exact hr.2.2.2.2.2.2.2.2.2.2.1 | exact hr.2.2.2.2.2.2.2.2.2.2.2 | exact hr.2.2.2.2.2.2.2.2.2.2.2.1 | exact hr.2.2.2.2.2.2.2.2.2.2.2.2 | exact hr.2.2.2.2.2.2.2.2.2.2.2.2.1 | exact hr.2.2.2.2.2.2.2.2.2.2.2.2.2 | exact hr.2.2.2.2.2.2.2.2.2.2.2.2.2.1 | exact hr.2.2.2.2.2.2.2.2.2.2.2.2.2.2 | exact hr.2.2.2.2.2.2.2.2.2.2.2.2.2.2.1 | exact hr.2.2.2.2.2.2.2.2.2.2.2.2.2.2.2 | exact hr.2.2.2.2.2.2.2.2.2.2.2.2.2.2.2.1 | exact hr.2.2.2.2.2.2.2.2.2.2.2.2.2.2.2.2 | exact hr.2.2.2.2.2.2.2.2.2.2.2.2.2.2.2.2.1 | exact hr.2.2.2.2.2.2.2.2.2.2.2.2.2.2.2.2.2 | exact hr.2.2.2.2.2.2.2.2.2.2.2.2.2.2.2.2.2.1 | exact hr.2.2.2.2.2.2.2.2.2.2.2.2.2.2.2.2.2.2 | exact hr.2.2.2.2.2.2.2.2.2.2.2.2.2.2.2.2.2.2.1 | exact hr.2.2.2.2.2.2.2.2.2.2.2.2.2.2.2.2.2.2.2 | exact hr.2.2.2.2.2.2.2.2.2.2.2.2.2.2.2.2.2.2.2.1 | exact hr.2.2.2.2.2.2.2.2.2.2.2.2.2.2.2.2.2.2.2.2
        have e7 : b7 = true := by first | exact hr | exact hr.1 | exact hr.2 | exact hr.2.1 | exact hr.2.2 | exact hr.2.2.1 | exact hr.2.2.2 | exact hr.2.2.2.1 | exact hr.2.2.2.2 | exact hr.2.2.2.2.1 | exact hr.2.2.2.2.2 | exact hr.2.2.2.2.2.1 | exact hr.2.2.2.2.2.2 | exact hr.2.2.2.2.2.2.1 | exact hr.2.2.2.2.2.2.2 | exact hr.2.2.2.2.2.2.2.1 | exact hr.2.2.2.2.2.2.2.2 | exact hr.2.2.2.2.2.2.2.2.1 | exact hr.2.2.2.2.2.2.2.2.2 | exact hr.2.2.2.2.2.2.2.2.2.1 | exact hr.2.2.2.2.2.2.2.2.2.2 | exact hr.2.2.2.2.2.2.2.2.2.2.1 | exact hr.2.2.2.2.2.2.2.2.2.2.2 | exact hr.2.2.2.2.2.2.2.2.2.2.2.1 | exact hr.2.2.2.2.2.2.2.2.2.2.2.2 | exact hr.2.2.2.2.2.2.2.2.2.2.2.2.1 | exact hr.2.2.2.2.2.2.2.2.2.2.2.2.2 | exact hr.2.2.2.2.2.2.2.2.2.2.2.2.2.1 | exact hr.2.2.2.2.2.2.2.2.2.2.2.2.2.2 | exact hr.2.2.2.2.2.2.2.2.2.2.2.2.2.2.1 | exact hr.2.2.2.2.2.2.2.2.2.2.2.2.2.2.2 | exact hr.2.2.2.2.2.2.2.2.2.2.2.2.2.2.2.1 | exact hr.2.2.2.2.2.2.2.2.2.2.2.2.2.2.2.2 | exact hr.2.2.2.2.2.2.2.2.2.2.2.2.2.2.2.2.1 | exact hr.2.2.2.2.2.2.2.2.2.2.2.2.2.2.2.2.2 | exact hr.2.2.2.2.2.2.2.2.2.2.2.2.2.2.2.2.2.1 | exact hr.2.2.2.2.2.2.2.2.2.2.2.2.2.2.2.2.2.2 | exact hr.2.2.2.2.2.2.2.2.2.2.2.2.2.2.2.2.2.2.1 | exact hr.2.2.2.2.2.2.2.2.2.2.2.2.2.2.2.2.2.2.2 | exact hr.2.2.2.2.2.2.2.2.2.2.2.2.2.2.2.2.2.2.2.1 | exact hr.2.2.2.2.2.2.2.2.2.2.2.2.2.2.2.2.2.2.2.2
        have e8 : b8 = true := by first | exact hr | exact hr.1 | exact hr.2 | exact hr.2.1 | exact hr.2.2 | exact hr.2.2.1 | exact hr.2.2.2 | exact hr.2.2.2.1 | exact hr.2.2.2.2 | exact hr.2.2.2.2.1 | exact hr.2.2.2.2.2 | exact hr.2.2.2.2.2.1 | exact hr.2.2.2.2.2.2 | exact hr.2.2.2.2.2.2.1 | exact hr.2.2.2.2.2.2.2 | exact hr.2.2.2.2.2.2.2.1 | exact hr.2.2.2.2.2.2.2.2 | exact hr.2.2.2.2.2.2.2.2.1 | exact hr.2.2.2.2.2.2.2.2.2 | exact hr.2.2.2.2.2.2.2.2.2.1 | exact hr.2.2.2.2.2.2.2.2.2.2 | exact hr.2.2.2.2.2.2.2.2.2.2.1 | exact hr.2.2.2.2.2.2.2.2.2.2.2 | exact hr.2.2.2.2.2.2.2.2.2.2.2.1 | exact hr.2.2.2.2.2.2.2.2.2.2.2.2 | exact hr.2.2.2.2.2.2.2.2.2.2.2.2.1 | exact hr.2.2.2.2.2.2.2.2.2.2.2.2.2 | exact hr.2.2.2.2.2.2.2.2.2.2.2.2.2.1 | exact hr.2.2.2.2.2.2.2.2.2.2.2.2.2.2 | exact hr.2.2.2.2.2.2.2.2.2.2.2.2.2.2.1 | exact hr.2.2.2.2.2.2.2.2.2.2.2.2.2.2.2 | exact hr.2.2.2.2.2.2.2.2.2.2.2.2.2.2.2.1 | exact hr.2.2.2.2.2.2.2.2.2.2.2.2.2.2.2.2 | exact hr.2.2.2.2.2.2.2.2.2.2.2.2.2.2.2.2.1 | exact hr.2.2.2.2.2.2.2.2.2.2.2.2.2.2.2.2.2 | exact hr.2.2.2.2.2.2.2.2.2.2.2.2.2.2.2.2.2.1 | exact hr.2.2.2.2.2.2.2.2.2.2.2.2.2.2.2.2.2.2 | exact hr.2.2.2.2.2.2.2.2.2.2.2.2.2.2.2.2.2.2.1 | exact hr.2.2.2.2.2.2.2.2.2.2.2.2.2.2.2.2.2.2.2 | exact hr.2.2.2.2.2.2.2.2.2.2.2.2.2.2.2.2.2.2.2.1 | exact hr.2.2.2.2.2.2.2.2.2.2.2.2.2.2.2.2.2.2.2.2
        have e9 : b9 = true := by first | exact hr | exact hr.1 | exact hr.2 | exact hr.2.1 | exact hr.2.2 | exact hr.2.2.1 | exact hr.2.2.2 | exact hr.2.2.2.1 | exact hr.2.2.2.2 | exact hr.2.2.2.2.1 | exact hr.2.2.2.2.2 | exact hr.2.2.2.2.2.1 | exact hr.2.2.2.2.2.2 | exact hr.2.2.2.2.2.2.1 | exact hr.2.2.2.2.2.2.2 | exact hr.2.2.2.2.2.2.2.1 | exact hr.2.2.2.2.2.2.2.2 | exact hr.2.2.2.2.2.2.2.2.1 | exact hr.2.2.2.2.2.2.2.2.2 | exact hr.2.2.2.2.2.2.2.2.2.1 | exact hr.2.2.2.2.2.2.2.2.2.2 | exact hr.2.2.2.2.2.2.2.2.2.2.1 | exact hr.2.2.2.2.2.2.2.2.2.2.2 | exact hr.2.2.2.2.2.2.2.2.2.2.2.1 | exact hr.2.2.2.2.2.2.2.2.2.2.2.2 | exact hr.2.2.2.2.2.2.2.2.2.2.2.2.1 | exact hr.2.2.2.2.2.2.2.2.2.2.2.2.2 | exact hr.2.2.2.2.2.2.2.2.2.2.2.2.2.1 | exact hr.2.2.2.2.2.2.2.2.2.2.2.2.2.2 | exact hr.2.2.2.2.2.2.2.2.2.2.2.2.2.2.1 | exact hr.2.2.2.2.2.2.2.2.2.2.2.2.2.2.2 | exact hr.2.2.2.2.2.2.2.2.2.2.2.2.2.2.2.1 | exact hr.2.2.2.2.2.2.2.2.2.2.2.2.2.2.2.2 | exact hr.2.2.2.2.2.2.2.2.2.2.2.2.2.2.2.2.1 | exact hr.2.2.2.2.2.2.2.2.2.2.2.2.2.2.2.2.2 | exact hr.2.2.2.2.2.2.2.2.2.2.2.2.2.2.2.2.2.1 | exact hr.2.2.2.2.2.2.2.2.2.2.2.2.2.2.2.2.2.2 | exact hr.2.2.2.2.2.2.2.2.2.2.2.2.2.2.2.2.2.2.1 | exact hr.2.2.2.2.2.2.2.2.2.2.2.2.2.2.2.2.2.2.2 | exact hr.2.2.2.2.2.2.2.2.2.2.2.2.2.2.2.2.2.2.2.1 | exact hr.2.2.2.2.2.2.2.2.2.2.2.2.2.2.2.2.2.2.2.2
        have e10 : b10 = true := by first | exact hr | exact hr.1 | exact hr.2 | exact hr.2.1 | exact hr.2.2 | exact hr.2.2.1 | exact hr.2.2.2 | exact hr.2.2.2.1 | exact hr.2.2.2.2 | exact hr.2.2.2.2.1 | exact hr.2.2.2.2.2 | exact hr.2.2.2.2.2.1 | exact hr.2.2.2.2.2.2 | exact hr.2.2.2.2.2.2.1 | exact hr.2.2.2.2.2.2.2 | exact hr.2.2.2.2.2.2.2.1 | exact hr.2.2.2.2.2.2.2.2 | exact hr.2.2.2.2.2.2.2.2.1 | exact hr.2.2.2.2.2.2.2.2.2 | exact hr.2.2.2.2.2.2.2.2.2.1 | exact hr.2.2.2.2.2.2.2.2.2.2 | exact hr.2.2.2.2.2.2.2.2.2.2.1 | exact hr.2.2.2.2.2.2.2.2.2.2.2 | exact hr.2.2.2.2.2.2.2.2.2.2.2.1 | exact hr.2.2.2.2.2.2.2.2.2.2.2.2 | exact hr.2.2.2.2.2.2.2.2.2.2.2.2.1 | exact hr.2.2.2.2.2.2.2.2.2.2.2.2.2 | exact hr.2.2.2.2.2.2.2.2.2.2.2.2.2.1 | exact hr.2.2.2.2.2.2.2.2.2.2.2.2.2.2 | exact hr.2.2.2.2.2.2.2.2.2.2.2.2.2.2.1 | exact hr.2.2.2.2.2.2.2.2.2.2.2.2.2.2.2 | exact hr.2.2.2.2.2.2.2.2.2.2.2.2.2.2.2.1 | exact hr.2.2.2.2.2.2.2.2.2.2.2.2.2.2.2.2 | exact hr.2.2.2.2.2.2.2.2.2.2.2.2.2.2.2.2.1 | exact hr.2.2.2.2.2.2.2.2.2.2.2.2.2.2.2.2.2 | exact hr.2.2.2.2.2.2.2.2.2.2.2.2.2.2.2.2.2.1 | exact hr.2.2.2.2.2.2.2.2.2.2.2.2.2.2.2.2.2.2 | exact hr.2.2.2.2.2.2.2.2.2.2.2.2.2.2.2.2.2.2.1 | exact hr.2.2.2.2.2.2.2.2.2.2.2.2.2.2.2.2.2.2.2 | exact hr.2.2.2.2.2.2.2.2.2.2.2.2.2.2.2.2.2.2.2.1 | exact hr.2.2.2.2.2.2.2.2.2.2.2.2.2.2.2.2.2.2.2.2
        have e11 : b11 = true := by first | exact hr | exact hr.1 | exact hr.2 | exact hr.2.1 | exact hr.2.2 | exact hr.2.2.1 | exact hr.2.2.2 | exact hr.2.2.2.1 | exact hr.2.2.2.2 | exact hr.2.2.2.2.1 | exact hr.2.2.2.2.2 | exact hr.2.2.2.2.2.1 | exact hr.2.2.2.2.2.2 | exact hr.2.2.2.2.2.2.1 | exact hr.2.2.2.2.2.2.2 | exact hr.2.2.2.2.2.2.2.1 | exact hr.2.2.2.2.2.2.2.2 | exact hr.2.2.2.2.2.2.2.2.1 | exact hr.2.2.2.2.2.2.2.2.2 | exact hr.2.2.2.2.2.2.2.2.2.1 | exact hr.2.2.2.2.2.2.2.2.2.2 | exact hr.2.2.2.2.2.2.2.2.2.2.1 | exact hr.2.2.2.2.2.2.2.2.2.2.2 | exact hr.2.2.2.2.2.2.2.2.2.2.2.1 | exact hr.2.2.2.2.2.2.2.2.2.2.2.2 | exact hr.2.2.2.2.2.2.2.2.2.2.2.2.1 | exact hr.2.2.2.2.2.2.2.2.2.2.2.2.2 | exact hr.2.2.2.2.2.2.2.2.2.2.2.2.2.1 | exact hr.2.2.2.2.2.2.2.2.2.2.2.2.2.2 | exact hr.2.2.2.2.2.2.2.2.2.2.2.2.2.2.1 | exact hr.2.2.2.2.2.2.2.2.2.2.2.2.2.2.2 | exact hr.2.2.2.2.2.2.2.2.2.2.2.2.2.2.2.1 | exact hr.2.2.2.2.2.2.2.2.2.2.2.2.2.2.2.2 | exact hr.2.2.2.2.2.2.2.2.2.2.2.2.2.2.2.2.1 | exact hr.2.2.2.2.2.2.2.2.2.2.2.2.2.2.2.2.2 | exact hr.2.2.2.2.2.2.2.2.2.2.2.2.2.2.2.2.2.1 | exact hr.2.2.2.2.2.2.2.2.2.2.2.2.2.2.2.2.2.2 | exact hr.2.2.2.2.2.2.2.2.2.2.2.2.2.2.2.2.2.2.1 | exact hr.2.2.2.2.2.2.2.2.2.2.2.2.2.2.2.2.2.2.2 | exact hr.2.2.2.2.2.2.2.2.2.2.2.2.2.2.2.2.2.2.2.1 | exact hr.2.2.2.2.2.2.2.2.2.2.2.2.2.2.2.2.2.2.2.2
        have e12 : b12 = true := by first | exact hr | exact hr.1 | exact hr.2 | exact hr.2.1 | exact hr.2.2 | exact hr.2.2.1 | exact hr.2.2.2 | exact hr.2.2.2.1 | exact hr.2.2.2.2 | exact hr.2.2.2.2.1 | exact hr.2.2.2.2.2 | exact hr.2.2.2.2.2.1 | exact hr.2.2.2.2.2.2 | exact hr.2.2.2.2.2.2.1 | exact hr.2.2.2.2.2.2.2 | exact hr.2.2.2.2.2.2.2.1 | exact hr.2.2.2.2.2.2.2.2 | exact hr.2.2.2.2.2.2.2.2.1 | exact hr.2.2.2.2.2.2.2.2.2 | exact hr.2.2.2.2.2.2.2.2.2.1 | exact hr.2.2.2.2.2.2.2.2.2.2 | exact hr.2.2.2.2.2.2.2.2.2.2.1 | exact hr.2.2.2.2.2.2.2.2.2.2.2 | exact hr.2.2.2.2.2.2.2.2.2.2.2.1 | exact hr.2.2.2.2.2.2.2.2.2.2.2.2 | exact hr.2.2.2.2.2.2.2.2.2.2.2.2.1 | exact hr.2.2.2.2.2.2.2.2.2.2.2.2.2 | exact hr.2.2.2.2.2.2.2.2.2.2.2.2.2.1 | exact hr.2.2.2.2.2.2.2.2.2.2.2.2.2.2 | exact hr.2.2.2.2.2.2.2.2.2.2.2.2.2.2.1 | exact hr.2.2.2.2.2.2.2.2.2.2.2.2.2.2.2 | exact hr.2.2.2.2.2.2.2.2.2.2.2.2.2.2.2.1 | exact hr.2.2.2.2.2.2.2.2.2.2.2.2.2.2.2.2 | exact hr.2.2.2.2.2.2.2.2.2.2.2.2.2.2.2.2.1 | exact hr.2.2.2.2.2.2.2.2.2.2.2.2.2.2.2.2.2 | exact hr.2.2.2.2.2.2.2.2.2.2.2.2.2.2.2.2.2.1 | exact hr.2.2.2.2.2.2.2.2.2.2.2.2.2.2.2.2.2.2 | exact hr.2.2.2.2.2.2.2.2.2.2.2.2.2.2.2.2.2.2.1 | exact hr.2.2.2.2.2.2.2.2.2.2.2.2.2.2.2.2.2.2.2 | exact hr.2.2.2.2.2.2.2.2.2.2.2.2.2.2.2.2.2.2.2.1 | exact hr.2.2.2.2.2.2.2.2.2.2.2.2.2.2.2.2.2.2.2.2
        have e13 : b13 = true := by first | exact hr | exact hr.1 | exact hr.2 | exact hr.2.1 | exact hr.2.2 | exact hr.2.2.1 | exact hr.2.2.2 | exact hr.2.2.2.1 | exact hr.2.2.2.2 | exact hr.2.2.2.2.1 | exact hr.2.2.2.2.2 | exact hr.2.2.2.2.2.1 | exact hr.2.2.2.2.2.2 | exact hr.2.2.2.2.2.2.1 | exact hr.2.2.2.2.2.2.2 | exact hr.2.2.2.2.2.2.2.1 | exact hr.2.2.2.2.2.2.2.2 | exact hr.2.2.2.2.2.2.2.2.1 | exact hr.2.2.2.2.2.2.2.2.2 | exact hr.2.2.2.2.2.2.2.2.2.1 | exact hr.2.2.2.2.2.2.2.2.2.2 | exact hr.2.2.2.2.2.2.2.2.2.2.1 | exact hr.2.2.2.2.2.2.2.2.2.2.2 | exact hr.2.2.2.2.2.2.2.2.2.2.2.1 | exact hr.2.2.2.2.2.2.2.2.2.2.2.2 | exact hr.2.2.2.2.2.2.2.2.2.2.2.2.1 | exact hr.2.2.2.2.2.2.2.2.2.2.2.2.2 | exact hr.2.2.2.2.2.2.2.2.2.2.2.2.2.1 | exact hr.2.2.2.2.2.2.2.2.2.2.2.2.2.2 | exact hr.2.2.2.2.2.2.2.2.2.2.2.2.2.2.1 | exact hr.2.2.2.2.2.2.2.2.2.2.2.2.2.2.2 | exact hr.2.2.2.2.2.2.2.2.2.2.2.2.2.2.2.1 | exact hr.2.2.2.2.2.2.2.2.2.2.2.2.2.2.2.2 | exact hr.2.2.2.2.2.2.2.2.2.2.2.2.2.2.2.2.1 | exact hr.2.2.2.2.2.2.2.2.2.2.2.2.2.2.2.2.2 | exact hr.2.2.2.2.2.2.2.2.2.2.2.2.2.2.2.2.2.1 | exact hr.2.2.2.2.2.2.2.2.2.2.2.2.2.2.2.2.2.2 | exact hr.2.2.2.2.2.2.2.2.2.2.2.2.2.2.2.2.2.2.1 | exact hr.2.2.2.2.2.2.2.2.2.2.2.2.2.2.2.2.2.2.2 | exact hr.2.2.2.2.2.2.2.2.2.2.2.2.2.2.2.2.2.2.2.1 | exact hr.2.2.2.2.2.2.2.2.2.2.2.2.2.2.2.2.2.2.2.2
        clear hr
        subst e14 e0 e1 e2 e3 e4 e5 e6 e7 e8 e9 e10 e11 e12 e13
        have cr := hw.r.cell
        have fr := hw.r.frozen
        refine wpOpIn_at rfl ?_
        go_simp
        exact hK _ _ ⟨true, true, true, true, true, true, true, true, true, true, true, true, true, true, true, rfl, rfl, (fun _ => rfl), (fun _ => rfl), hw.store14 hNg (by omega)⟩
    · rintro L a w - ⟨b0, b1, b2, b3, b4, b5, b6, b7, b8, b9, b10, b11, b12, b13, b14, rfl, rfl, -, -, hw⟩ hr
      obtain rfl : b0 = true := by cases b0 with | true => rfl | false => exact absurd (hr ▸ (ready_iff.2 ⟨by decide, rfl, _, rfl, by simp [Region.binds, -Array.all_toList]⟩ : 0 ∈ Region.ready .any _ _)) (by simp)
      obtain rfl : b1 = true := by cases b1 with | true => rfl | false => exact absurd (hr ▸ (ready_iff.2 ⟨by decide, rfl, _, rfl, by simp [Region.binds, -Array.all_toList]⟩ : 1 ∈ Region.ready .any _ _)) (by simp)
      obtain rfl : b2 = true := by cases b2 with | true => rfl | false => exact absurd (hr ▸ (ready_iff.2 ⟨by decide, rfl, _, rfl, by simp [Region.binds, -Array.all_toList]⟩ : 2 ∈ Region.ready .any _ _)) (by simp)
      obtain rfl : b3 = true := by cases b3 with | true => rfl | false => exact absurd (hr ▸ (ready_iff.2 ⟨by decide, rfl, _, rfl, by simp [Region.binds, -Array.all_toList]⟩ : 3 ∈ Region.ready .any _ _)) (by simp)
      obtain rfl : b4 = true := by cases b4 with | true => rfl | false => exact absurd (hr ▸ (ready_iff.2 ⟨by decide, rfl, _, rfl, by simp [Region.binds, -Array.all_toList]⟩ : 4 ∈ Region.ready .any _ _)) (by simp)
      obtain rfl : b5 = true := by cases b5 with | true => rfl | false => exact absurd (hr ▸ (ready_iff.2 ⟨by decide, rfl, _, rfl, by simp [Region.binds, -Array.all_toList]⟩ : 5 ∈ Region.ready .any _ _)) (by simp)
      obtain rfl : b6 = true := by cases b6 with | true => rfl | false => exact absurd (hr ▸ (ready_iff.2 ⟨by decide, rfl, _, rfl, by simp [Region.binds, -Array.all_toList]⟩ : 6 ∈ Region.ready .any _ _)) (by simp)
      obtain rfl : b7 = true := by cases b7 with | true => rfl | false => exact absurd (hr ▸ (ready_iff.2 ⟨by decide, rfl, _, rfl, by simp [Region.binds, -Array.all_toList]⟩ : 7 ∈ Region.ready .any _ _)) (by simp)
      obtain rfl : b8 = true := by cases b8 with | true => rfl | false => exact absurd (hr ▸ (ready_iff.2 ⟨by decide, rfl, _, rfl, by simp [Region.binds, -Array.all_toList]⟩ : 8 ∈ Region.ready .any _ _)) (by simp)
      obtain rfl : b9 = true := by cases b9 with | true => rfl | false => exact absurd (hr ▸ (ready_iff.2 ⟨by decide, rfl, _, rfl, by simp [Region.binds, -Array.all_toList]⟩ : 9 ∈ Region.ready .any _ _)) (by simp)
      obtain rfl : b10 = true := by cases b10 with | true => rfl | false => exact absurd (hr ▸ (ready_iff.2 ⟨by decide, rfl, _, rfl, by simp [Region.binds, -Array.all_toList]⟩ : 10 ∈ Region.ready .any _ _)) (by simp)
      obtain rfl : b11 = true := by cases b11 with | true => rfl | false => exact absurd (hr ▸ (ready_iff.2 ⟨by decide, rfl, _, rfl, by simp [Region.binds, -Array.all_toList]⟩ : 11 ∈ Region.ready .any _ _)) (by simp)
      obtain rfl : b12 = true := by cases b12 with | true => rfl | false => exact absurd (hr ▸ (ready_iff.2 ⟨by decide, rfl, _, rfl, by simp [Region.binds, -Array.all_toList]⟩ : 12 ∈ Region.ready .any _ _)) (by simp)
      obtain rfl : b13 = true := by cases b13 with | true => rfl | false => exact absurd (hr ▸ (ready_iff.2 ⟨by decide, rfl, _, rfl, by simp [Region.binds, -Array.all_toList]⟩ : 13 ∈ Region.ready .any _ _)) (by simp)
      obtain rfl : b14 = true := by cases b14 with | true => rfl | false => exact absurd (hr ▸ (ready_iff.2 ⟨by decide, rfl, _, rfl, by simp [Region.binds, -Array.all_toList]⟩ : 14 ∈ Region.ready .any _ _)) (by simp)
      have hfin := hw.done h hi ?_
      · refine ⟨rfl, ?_, by omega, hfin⟩
        rw [sB]; exact hw.two
      · have e : xs.drop i = xi :: xs.drop (i + 1) := by rw [← hxi, getD_at xs i hi]; exact List.drop_eq_getElem_cons hi
        rw [e]
        simp only [S.deci_Divq, hr0, hqv, hrv]
  case done =>
    rintro W hsz ⟨-, h⟩ hD
    rw [sB] at hD hsz ⊢
    have hdr : S.deci_Divq d (xs.drop 0) = S.deci_Divq d xs := by rw [List.drop_zero]
    have hrow := h.row
    rw [List.take_zero, List.nil_append, hdr] at hrow
    have hrr := h.r
    rw [hdr] at hrr
    have hql := divq_length d xs
    gi_wp2
    refine wpIn_region_any (by kernel_rfl) ?_
    refine any_inv (fun L a w => ∃ (b0 b1 b2 b3 b4 b5 : Bool) (p2 : Option Addr) (n2 cap2 : Nat), L = #[b0, b1, b2, b3, b4, b5] ∧ a = { tmps := #[.agg #[.slice p0 n0 cap0], .int .u64 d, .pointer (some ⟨w0.heap.size, 0, none⟩), .pointer (some ⟨w0.heap.size + 1, 0, none⟩), .pointer (some ⟨w0.heap.size + 1 + 1, 0, none⟩), .pointer (some ⟨w0.heap.size + 1 + 1 + 1, 0, none⟩), .int .i64 0, .pointer (some ⟨W1.heap.size, 0, none⟩), undef, .int .u64 d, .bool false, undef, .agg #[.slice p0 n0 cap0], .slice p xs.length cap, .slice p xs.length cap, .func (.func 85) #[] #[.pointer (some ⟨W1.heap.size + 1, 0, none⟩)], undef, undef, undef, undef, undef, undef, undef, undef, undef, undef, undef, undef, undef, undef, undef, (bif b0 then .slice p xs.length cap else undef), (bif b1 then .agg #[.slice p2 n2 cap2] else undef), (bif b2 then .int .u64 (S.deci_Divq d xs).2 else undef)], defers := [{ target := .collected (W1.heap.size + 2), args := #[] }] } ∧ (b1 = false → b3 = false) ∧ (b1 = false → b4 = false) ∧ DivT c σ Z w0 w0.heap.size W1.heap.size (W1.heap.size + 2) g cap p xs (S.nat_Limbs (S.deci_Divq d xs).1).limbs (S.deci_Divq d xs).2 p2 n2 cap2 b1 b3 W w) ?_ ?_ _ _ _ _ rfl (by decide) ⟨false, false, false, false, false, false, none, 0, 0, rfl, rfl, fun _ => rfl, fun _ => rfl, ⟨h.q, hrr, h.l, hD, ⟨h.below.os, h.below.tape, h.below.output, h.below.size, h.below.block⟩, fun _ => rfl, fun h => by cases h⟩⟩
    · rintro L a w k K - ⟨b0, b1, b2, b3, b4, b5, p2, n2, cap2, rfl, rfl, hm3, hm4, hw⟩ hk hK
      have hkl : k < 6 := (ready_iff.1 hk).1
      have cl := hw.l.cell
      have cr := hw.r.cell
      have fr := hw.r.frozen
      have fq := hw.q.frozen
      have cq := hw.q.cell
      match k, hkl, hk with
      | 0, _, hk =>
        have hr := ready_at rfl hk
        clear hk
        simp [Region.binds, -Array.all_toList] at hr
        have e0 : b0 = false := by first | exact hr | exact hr.1 | exact hr.2 | exact hr.2.1 | exact hr.2.2 | exact hr.2.2.1 | exact hr.2.2.2 | exact hr.2.2.2.1 | exact hr.2.2.2.2 | exact hr.2.2.2.2.1 | exact hr.2.2.2.2.2 | exact hr.2.2.2.2.2.1 | exact hr.2.2.2.2.2.2 | exact hr.2.2.2.2.2.2.1 | exact hr.2.2.2.2.2.2.2 | exact hr.2.2.2.2.2.2.2.1 | exact hr.2.2.2.2.2.2.2.2 | exact hr.2.2.2.2.2.2.2.2.1 | exact hr.2.2.2.2.2.2.2.2.2 | exact hr.2.2.2.2.2.2.2.2.2.1 | exact hr.2.2.2.2.2.2.2.2.2.2 | exact hr.2.2.2.2.2.2.2.2.2.2.1 | exact hr.2.2.2.2.2.2.2.2.2.2.2 | exact hr.2.2.2.2.2.2.2.2.2.2.2.1 | exact hr.2.2.2.2.2.2.2.2.2.2.2.2
        clear hr
        subst e0
        refine wpOpIn_at rfl ?_
        go_simp
        exact hK _ _ ⟨true, b1, b2, b3, b4, b5, p2, n2, cap2, rfl, rfl, hm3, hm4, hw⟩
      | 1, _, hk =>
        have hr := ready_at rfl hk
        clear hk
        simp [Region.binds, -Array.all_toList] at hr
        have e1 : b1 = false := by first | exact hr | exact hr.1 | exact hr.2 | exact hr.2.1 | exact hr.2.2 | exact hr.2.2.1 | exact hr.2.2.2 | exact hr.2.2.2.1 | exact hr.2.2.2.2 | exact hr.2.2.2.2.1 | exact hr.2.2.2.2.2 | exact hr.2.2.2.2.2.1 | exact hr.2.2.2.2.2.2 | exact hr.2.2.2.2.2.2.1 | exact hr.2.2.2.2.2.2.2 | exact hr.2.2.2.2.2.2.2.1 | exact hr.2.2.2.2.2.2.2.2 | exact hr.2.2.2.2.2.2.2.2.1 | exact hr.2.2.2.2.2.2.2.2.2 | exact hr.2.2.2.2.2.2.2.2.2.1 | exact hr.2.2.2.2.2.2.2.2.2.2 | exact hr.2.2.2.2.2.2.2.2.2.2.1 | exact hr.2.2.2.2.2.2.2.2.2.2.2 | exact hr.2.2.2.2.2.2.2.2.2.2.2.1 | exact hr.2.2.2.2.2.2.2.2.2.2.2.2
        have e0 : b0 = true := by first | exact hr | exact hr.1 | exact hr.2 | exact hr.2.1 | exact hr.2.2 | exact hr.2.2.1 | exact hr.2.2.2 | exact hr.2.2.2.1 | exact hr.2.2.2.2 | exact hr.2.2.2.2.1 | exact hr.2.2.2.2.2 | exact hr.2.2.2.2.2.1 | exact hr.2.2.2.2.2.2 | exact hr.2.2.2.2.2.2.1 | exact hr.2.2.2.2.2.2.2 | exact hr.2.2.2.2.2.2.2.1 | exact hr.2.2.2.2.2.2.2.2 | exact hr.2.2.2.2.2.2.2.2.1 | exact hr.2.2.2.2.2.2.2.2.2 | exact hr.2.2.2.2.2.2.2.2.2.1 | exact hr.2.2.2.2.2.2.2.2.2.2 | exact hr.2.2.2.2.2.2.2.2.2.2.1 | exact hr.2.2.2.2.2.2.2.2.2.2.2 | exact hr.2.2.2.2.2.2.2.2.2.2.2.1 | exact hr.2.2.2.2.2.2.2.2.2.2.2.2
        clear hr
        subst e1 e0
        obtain rfl := hm3 rfl
        obtain rfl := hw.no rfl
        refine wpOpIn_at rfl ?_
        go_simp
        refine ⟨trivial, (callsIn_wide.2 (call_plain (w := W.drew) (xs := #[.slice p xs.length cap]) (Z := fun f b => f = false ∧ (Z false b ∨ (xs.length ≠ 0 ∧ b = g))) hP h20 (fun i cs hi => by match i, hi with | 0, hi => cases hi | i + 1, hi => simp at hi) (fun _ h => by cases h.1) ?_ (hc.inv _ _ _ _ hI (fun b hb => ⟨rfl, .inl hb⟩) (fun b hb => h.below.block b (hS b hb))) (by simp) (σ := σ) (fun i hi => ?_))).mono ?_⟩
        · rintro b ⟨-, hb | ⟨h0, rfl⟩⟩
          · have := hS b hb; have := h.below.size; show b < W.heap.size; omega
          · have := (hg h0).2.1; show b < W.heap.size; omega
        · match i, hi with
          | 0, _ =>
            have := limbs_den (σ := σ) (Z := fun f b => f = false ∧ (Z false b ∨ (xs.length ≠ 0 ∧ b = g))) hty hC hrow (fun h0 => ⟨rfl, .inr ⟨by rw [hql] at h0; exact h0, rfl⟩⟩)
            rw [hql] at this
            exact this.mono hc (fun _ _ h => h) (fun _ _ _ => rfl) (fun _ _ => rfl)
        rintro e w' ⟨x, rfl, hB, Z', hz1, hz2, hx⟩
        obtain ⟨p3, n3, cap3, rfl, hx3⟩ := agg1_of hx
        exact hK _ _ ⟨true, true, b2, false, b4, b5, p3, n3, cap3, rfl, rfl, (fun h => by cases h), (fun h => by cases h), ⟨boxed_below hw.q hB (by show _ < W.heap.size; omega), boxed_below hw.r hB (by show _ < W.heap.size; omega), boxed_below hw.l hB (by show _ < W.heap.size; omega), (hB.block _ (by show _ < W.heap.size; omega)).trans hw.d, hw.below.trans (hB.mono (by show _ ≤ W.heap.size; omega)), (fun h => by cases h), fun _ => ⟨Z', fun f b hb => (hz1 f b hb).imp (fun h => ⟨h.1, h.2.2⟩) (fun h => ⟨Nat.le_trans (by show _ ≤ W.heap.size; omega) h.1, h.2⟩), hz2, hx3⟩⟩⟩
      | 2, _, hk =>
        have hr := ready_at rfl hk
        clear hk
        simp [Region.binds, -Array.all_toList] at hr
        have e2 : b2 = false := by first | exact hr | exact hr.1 | exact hr.2 | exact hr.2.1 | exact hr.2.2 | exact hr.2.2.1 | exact hr.2.2.2 | exact hr.2.2.2.1 | exact hr.2.2.2.2 | exact hr.2.2.2.2.1 | exact hr.2.2.2.2.2 | exact hr.2.2.2.2.2.1 | exact hr.2.2.2.2.2.2 | exact hr.2.2.2.2.2.2.1 | exact hr.2.2.2.2.2.2.2 | exact hr.2.2.2.2.2.2.2.1 | exact hr.2.2.2.2.2.2.2.2 | exact hr.2.2.2.2.2.2.2.2.1 | exact hr.2.2.2.2.2.2.2.2.2 | exact hr.2.2.2.2.2.2.2.2.2.1 | exact hr.2.2.2.2.2.2.2.2.2.2 | exact hr.2.2.2.2.2.2.2.2.2.2.1 | exact hr.2.2.2.2.2.2.2.2.2.2.2 | exact hr.2.2.2.2.2.2.2.2.2.2.2.1 | exact hr.2.2.2.2.2.2.2.2.2.2.2.2
        clear hr
        subst e2
        refine wpOpIn_at rfl ?_
        go_simp
        exact hK _ _ ⟨b0, b1, true, b3, b4, b5, p2, n2, cap2, rfl, rfl, hm3, hm4, hw⟩
      | 3, _, hk =>
        have hr := ready_at rfl hk
        clear hk
        simp [Region.binds, -Array.all_toList] at hr
        have e3 : b3 = false := by first | exact hr | exact hr.1 | exact hr.2 | exact hr.2.1 | exact hr.2.2 | exact hr.2.2.1 | exact hr.2.2.2 | exact hr.2.2.2.1 | exact hr.2.2.2.2 | exact hr.2.2.2.2.1 | exact hr.2.2.2.2.2 | exact hr.2.2.2.2.2.1 | exact hr.2.2.2.2.2.2 | exact hr.2.2.2.2.2.2.1 | exact hr.2.2.2.2.2.2.2 | exact hr.2.2.2.2.2.2.2.1 | exact hr.2.2.2.2.2.2.2.2 | exact hr.2.2.2.2.2.2.2.2.1 | exact hr.2.2.2.2.2.2.2.2.2 | exact hr.2.2.2.2.2.2.2.2.2.1 | exact hr.2.2.2.2.2.2.2.2.2.2 | exact hr.2.2.2.2.2.2.2.2.2.2.1 | exact hr.2.2.2.2.2.2.2.2.2.2.2 | exact hr.2.2.2.2.2.2.2.2.2.2.2.1 | exact hr.2.2.2.2.2.2.2.2.2.2.2.2
        have e0 : b0 = true := by first | exact hr | exact hr.1 | exact hr.2 | exact hr.2.1 | exact hr.2.2 | exact hr.2.2.1 | exact hr.2.2.2 | exact hr.2.2.2.1 | exact hr.2.2.2.2 | exact hr.2.2.2.2.1 | exact hr.2.2.2.2.2 | exact hr.2.2.2.2.2.1 | exact hr.2.2.2.2.2.2 | exact hr.2.2.2.2.2.2.1 | exact hr.2.2.2.2.2.2.2 | exact hr.2.2.2.2.2.2.2.1 | exact hr.2.2.2.2.2.2.2.2 | exact hr.2.2.2.2.2.2.2.2.1 | exact hr.2.2.2.2.2.2.2.2.2 | exact hr.2.2.2.2.2.2.2.2.2.1 | exact hr.2.2.2.2.2.2.2.2.2.2 | exact hr.2.2.2.2.2.2.2.2.2.2.1 | exact hr.2.2.2.2.2.2.2.2.2.2.2 | exact hr.2.2.2.2.2.2.2.2.2.2.2.1 | exact hr.2.2.2.2.2.2.2.2.2.2.2.2
        have e1 : b1 = true := by first | exact hr | exact hr.1 | exact hr.2 | exact hr.2.1 | exact hr.2.2 | exact hr.2.2.1 | exact hr.2.2.2 | exact hr.2.2.2.1 | exact hr.2.2.2.2 | exact hr.2.2.2.2.1 | exact hr.2.2.2.2.2 | exact hr.2.2.2.2.2.1 | exact hr.2.2.2.2.2.2 | exact hr.2.2.2.2.2.2.1 | exact hr.2.2.2.2.2.2.2 | exact hr.2.2.2.2.2.2.2.1 | exact hr.2.2.2.2.2.2.2.2 | exact hr.2.2.2.2.2.2.2.2.1 | exact hr.2.2.2.2.2.2.2.2.2 | exact hr.2.2.2.2.2.2.2.2.2.1 | exact hr.2.2.2.2.2.2.2.2.2.2 | exact hr.2.2.2.2.2.2.2.2.2.2.1 | exact hr.2.2.2.2.2.2.2.2.2.2.2 | exact hr.2.2.2.2.2.2.2.2.2.2.2.1 | exact hr.2.2.2.2.2.2.2.2.2.2.2.2
        clear hr
        subst e3 e0 e1
        refine wpOpIn_at rfl ?_
        go_simp
        exact hK _ _ ⟨true, true, b2, true, b4, b5, p2, n2, cap2, rfl, rfl, (fun h => by cases h), (fun h => by cases h), hw.store3 hc (fun h0 => by have := (hg h0).1; omega) hS hW1 (by omega)⟩
      | 4, _, hk =>
        have hr := ready_at rfl hk
        clear hk
        simp [Region.binds, -Array.all_toList] at hr
        have e4 : b4 = false := by first | exact hr | exact hr.1 | exact hr.2 | exact hr.2.1 | exact hr.2.2 | exact hr.2.2.1 | exact hr.2.2.2 | exact hr.2.2.2.1 | exact hr.2.2.2.2 | exact hr.2.2.2.2.1 | exact hr.2.2.2.2.2 | exact hr.2.2.2.2.2.1 | exact hr.2.2.2.2.2.2 | exact hr.2.2.2.2.2.2.1 | exact hr.2.2.2.2.2.2.2 | exact hr.2.2.2.2.2.2.2.1 | exact hr.2.2.2.2.2.2.2.2 | exact hr.2.2.2.2.2.2.2.2.1 | exact hr.2.2.2.2.2.2.2.2.2 | exact hr.2.2.2.2.2.2.2.2.2.1 | exact hr.2.2.2.2.2.2.2.2.2.2 | exact hr.2.2.2.2.2.2.2.2.2.2.1 | exact hr.2.2.2.2.2.2.2.2.2.2.2 | exact hr.2.2.2.2.2.2.2.2.2.2.2.1 | exact hr.2.2.2.2.2.2.2.2.2.2.2.2
        have e0 : b0 = true := by first | exact hr | exact hr.1 | exact hr.2 | exact hr.2.1 | exact hr.2.2 | exact hr.2.2.1 | exact hr.2.2.2 | exact hr.2.2.2.1 | exact hr.2.2.2.2 | exact hr.2.2.2.2.1 | exact hr.2.2.2.2.2 | exact hr.2.2.2.2.2.1 | exact hr.2.2.2.2.2.2 | exact hr.2.2.2.2.2.2.1 | exact hr.2.2.2.2.2.2.2 | exact hr.2.2.2.2.2.2.2.1 | exact hr.2.2.2.2.2.2.2.2 | exact hr.2.2.2.2.2.2.2.2.1 | exact hr.2.2.2.2.2.2.2.2.2 | exact hr.2.2.2.2.2.2.2.2.2.1 | exact hr.2.2.2.2.2.2.2.2.2.2 | exact hr.2.2.2.2.2.2.2.2.2.2.1 | exact hr.2.2.2.2.2.2.2.2.2.2.2 | exact hr.2.2.2.2.2.2.2.2.2.2.2.1 | exact hr.2.2.2.2.2.2.2.2.2.2.2.2
        have e1 : b1 = true := by first | exact hr | exact hr.1 | exact hr.2 | exact hr.2.1 | exact hr.2.2 | exact hr.2.2.1 | exact hr.2.2.2 | exact hr.2.2.2.1 | exact hr.2.2.2.2 | exact hr.2.2.2.2.1 | exact hr.2.2.2.2.2 | exact hr.2.2.2.2.2.1 | exact hr.2.2.2.2.2.2 | exact hr.2.2.2.2.2.2.1 | exact hr.2.2.2.2.2.2.2 | exact hr.2.2.2.2.2.2.2.1 | exact hr.2.2.2.2.2.2.2.2 | exact hr.2.2.2.2.2.2.2.2.1 | exact hr.2.2.2.2.2.2.2.2.2 | exact hr.2.2.2.2.2.2.2.2.2.1 | exact hr.2.2.2.2.2.2.2.2.2.2 | exact hr.2.2.2.2.2.2.2.2.2.2.1 | exact hr.2.2.2.2.2.2.2.2.2.2.2 | exact hr.2.2.2.2.2.2.2.2.2.2.2.1 | exact hr.2.2.2.2.2.2.2.2.2.2.2.2
        have e2 : b2 = true := by first | exact hr | exact hr.1 | exact hr.2 | exact hr.2.1 | exact hr.2.2 | exact hr.2.2.1 | exact hr.2.2.2 | exact hr.2.2.2.1 | exact hr.2.2.2.2 | exact hr.2.2.2.2.1 | exact hr.2.2.2.2.2 | exact hr.2.2.2.2.2.1 | exact hr.2.2.2.2.2.2 | exact hr.2.2.2.2.2.2.1 | exact hr.2.2.2.2.2.2.2 | exact hr.2.2.2.2.2.2.2.1 | exact hr.2.2.2.2.2.2.2.2 | exact hr.2.2.2.2.2.2.2.2.1 | exact hr.2.2.2.2.2.2.2.2.2 | exact hr.2.2.2.2.2.2.2.2.2.1 | exact hr.2.2.2.2.2.2.2.2.2.2 | exact hr.2.2.2.2.2.2.2.2.2.2.1 | exact hr.2.2.2.2.2.2.2.2.2.2.2 | exact hr.2.2.2.2.2.2.2.2.2.2.2.1 | exact hr.2.2.2.2.2.2.2.2.2.2.2.2
        have e3 : b3 = true := by first | exact hr | exact hr.1 | exact hr.2 | exact hr.2.1 | exact hr.2.2 | exact hr.2.2.1 | exact hr.2.2.2 | exact hr.2.2.2.1 | exact hr.2.2.2.2 | exact hr.2.2.2.2.1 | exact hr.2.2.2.2.2 | exact hr.2.2.2.2.2.1 | exact hr.2.2.2.2.2.2 | exact hr.2.2.2.2.2.2.1 | exact hr.2.2.2.2.2.2.2 | exact hr.2.2.2.2.2.2.2.1 | exact hr.2.2.2.2.2.2.2.2 | exact hr.2.2.2.2.2.2.2.2.1 | exact hr.2.2.2.2.2.2.2.2.2 | exact hr.2.2.2.2.2.2.2.2.2.1 | exact hr.2.2.2.2.2.2.2.2.2.2 | exact hr.2.2.2.2.2.2.2.2.2.2.1 | exact hr.2.2.2.2.2.2.2.2.2.2.2 | exact hr.2.2.2.2.2.2.2.2.2.2.2.1 | exact hr.2.2.2.2.2.2.2.2.2.2.2.2
        clear hr
        subst e4 e0 e1 e2 e3
        refine wpOpIn_at rfl ?_
        go_simp
        exact hK _ _ ⟨true, true, true, true, true, b5, p2, n2, cap2, rfl, rfl, (fun h => by cases h), (fun h => by cases h), hw.store4 hc (fun h0 => by have := (hg h0).1; omega) hS hW1 (by omega)⟩
      | 5, _, hk =>
        have hr := ready_at rfl hk
        clear hk
        simp [Region.binds, -Array.all_toList] at hr
        have e5 : b5 = false := by first | exact hr | exact hr.1 | exact hr.2 | exact hr.2.1 | exact hr.2.2 | exact hr.2.2.1 | exact hr.2.2.2 | exact hr.2.2.2.1 | exact hr.2.2.2.2 | exact hr.2.2.2.2.1 | exact hr.2.2.2.2.2 | exact hr.2.2.2.2.2.1 | exact hr.2.2.2.2.2.2 | exact hr.2.2.2.2.2.2.1 | exact hr.2.2.2.2.2.2.2 | exact hr.2.2.2.2.2.2.2.1 | exact hr.2.2.2.2.2.2.2.2 | exact hr.2.2.2.2.2.2.2.2.1 | exact hr.2.2.2.2.2.2.2.2.2 | exact hr.2.2.2.2.2.2.2.2.2.1 | exact hr.2.2.2.2.2.2.2.2.2.2 | exact hr.2.2.2.2.2.2.2.2.2.2.1 | exact hr.2.2.2.2.2.2.2.2.2.2.2 | exact hr.2.2.2.2.2.2.2.2.2.2.2.1 | exact hr.2.2.2.2.2.2.2.2.2.2.2.2
        have e0 : b0 = true := by first | exact hr | exact hr.1 | exact hr.2 | exact hr.2.1 | exact hr.2.2 | exact hr.2.2.1 | exact hr.2.2.2 | exact hr.2.2.2.1 | exact hr.2.2.2.2 | exact hr.2.2.2.2.1 | exact hr.2.2.2.2.2 | exact hr.2.2.2.2.2.1 | exact hr.2.2.2.2.2.2 | exact hr.2.2.2.2.2.2.1 | exact hr.2.2.2.2.2.2.2 | exact hr.2.2.2.2.2.2.2.1 | exact hr.2.2.2.2.2.2.2.2 | exact hr.2.2.2.2.2.2.2.2.1 | exact hr.2.2.2.2.2.2.2.2.2 | exact hr.2.2.2.2.2.2.2.2.2.1 | exact hr.2.2.2.2.2.2.2.2.2.2 | exact hr.2.2.2.2.2.2.2.2.2.2.1 | exact hr.2.2.2.2.2.2.2.2.2.2.2 | exact hr.2.2.2.2.2.2.2.2.2.2.2.1 | exact hr.2.2.2.2.2.2.2.2.2.2.2.2
        have e1 : b1 = true := by first | exact hr | exact hr.1 | exact hr.2 | exact hr.2.1 | exact hr.2.2 | exact hr.2.2.1 | exact hr.2.2.2 | exact hr.2.2.2.1 | exact hr.2.2.2.2 | exact hr.2.2.2.2.1 | exact hr.2.2.2.2.2 | exact hr.2.2.2.2.2.1 | exact hr.2.2.2.2.2.2 | exact hr.2.2.2.2.2.2.1 | exact hr.2.2.2.2.2.2.2 | exact hr.2.2.2.2.2.2.2.1 | exact hr.2.2.2.2.2.2.2.2 | exact hr.2.2.2.2.2.2.2.2.1 | exact hr.2.2.2.2.2.2.2.2.2 | exact hr.2.2.2.2.2.2.2.2.2.1 | exact hr.2.2.2.2.2.2.2.2.2.2 | exact hr.2.2.2.2.2.2.2.2.2.2.1 | exact hr.2.2.2.2.2.2.2.2.2.2.2 | exact hr.2.2.2.2.2.2.2.2.2.2.2.1 | exact hr.2.2.2.2.2.2.2.2.2.2.2.2
        have e2 : b2 = true := by first | exact hr | exact hr.1 | exact hr.2 | exact hr.2.1 | exact hr.2.2 | exact hr.2.2.1 | exact hr.2.2.2 | exact hr.2.2.2.1 | exact hr.2.2.2.2 | exact hr.2.2.2.2.1 | exact hr.2.2.2.2.2 | exact hr.2.2.2.2.2.1 | exact hr.2.2.2.2.2.2 | exact hr.2.2.2.2.2.2.1 | exact hr.2.2.2.2.2.2.2 | exact hr.2.2.2.2.2.2.2.1 | exact hr.2.2.2.2.2.2.2.2 | exact hr.2.2.2.2.2.2.2.2.1 | exact hr.2.2.2.2.2.2.2.2.2 | exact hr.2.2.2.2.2.2.2.2.2.1 | exact hr.2.2.2.2.2.2.2.2.2.2 | exact hr.2.2.2.2.2.2.2.2.2.2.1 | exact hr.2.2.2.2.2.2.2.2.2.2.2 | exact hr.2.2.2.2.2.2.2.2.2.2.2.1 | exact hr.2.2.2.2.2.2.2.2.2.2.2.2
        have e3 : b3 = true := by first | exact hr | exact hr.1 | exact hr.2 | exact hr.2.1 | exact hr.2.2 | exact hr.2.2.1 | exact hr.2.2.2 | exact hr.2.2.2.1 | exact hr.2.2.2.2 | exact hr.2.2.2.2.1 | exact hr.2.2.2.2.2 | exact hr.2.2.2.2.2.1 | exact hr.2.2.2.2.2.2 | exact hr.2.2.2.2.2.2.1 | exact hr.2.2.2.2.2.2.2 | exact hr.2.2.2.2.2.2.2.1 | exact hr.2.2.2.2.2.2.2.2 | exact hr.2.2.2.2.2.2.2.2.1 | exact hr.2.2.2.2.2.2.2.2.2 | exact hr.2.2.2.2.2.2.2.2.2.1 | exact hr.2.2.2.2.2.2.2.2.2.2 | exact hr.2.2.2.2.2.2.2.2.2.2.1 | exact hr.2.2.2.2.2.2.2.2.2.2.2 | exact hr.2.2.2.2.2.2.2.2.2.2.2.1 | exact hr.2.2.2.2.2.2.2.2.2.2.2.2
        have e4 : b4 = true := by first | exact hr | exact hr.1 | exact hr.2 | exact hr.2.1 | exact hr.2.2 | exact hr.2.2.1 | exact hr.2.2.2 | exact hr.2.2.2.1 | exact hr.2.2.2.2 | exact hr.2.2.2.2.1 | exact hr.2.2.2.2.2 | exact hr.2.2.2.2.2.1 | exact hr.2.2.2.2.2.2 | exact hr.2.2.2.2.2.2.1 | exact hr.2.2.2.2.2.2.2 | exact hr.2.2.2.2.2.2.2.1 | exact hr.2.2.2.2.2.2.2.2 | exact hr.2.2.2.2.2.2.2.2.1 | exact hr.2.2.2.2.2.2.2.2.2 | exact hr.2.2.2.2.2.2.2.2.2.1 | exact hr.2.2.2.2.2.2.2.2.2.2 | exact hr.2.2.2.2.2.2.2.2.2.2.1 | exact hr.2.2.2.2.2.2.2.2.2.2.2 | exact hr.2.2.2.2.2.2.2.2.2.2.2.1 | exact hr.2.2.2.2.2.2.2.2.2.2.2.2
        clear hr
        subst e5 e0 e1 e2 e3 e4
        refine wpOpIn_at rfl ?_
        go_simp
        exact hK _ _ ⟨true, true, true, true, true, true, p2, n2, cap2, rfl, rfl, (fun h => by cases h), (fun h => by cases h), hw⟩
    · rintro L a w - ⟨b0, b1, b2, b3, b4, b5, p2, n2, cap2, rfl, rfl, -, -, hw⟩ hr
      obtain rfl : b0 = true := by cases b0 with | true => rfl | false => exact absurd (hr ▸ (ready_iff.2 ⟨by decide, rfl, _, rfl, by simp [Region.binds, -Array.all_toList]⟩ : 0 ∈ Region.ready .any _ _)) (by simp)
      obtain rfl : b1 = true := by cases b1 with | true => rfl | false => exact absurd (hr ▸ (ready_iff.2 ⟨by decide, rfl, _, rfl, by simp [Region.binds, -Array.all_toList]⟩ : 1 ∈ Region.ready .any _ _)) (by simp)
      obtain rfl : b2 = true := by cases b2 with | true => rfl | false => exact absurd (hr ▸ (ready_iff.2 ⟨by decide, rfl, _, rfl, by simp [Region.binds, -Array.all_toList]⟩ : 2 ∈ Region.ready .any _ _)) (by simp)
      obtain rfl : b3 = true := by cases b3 with | true => rfl | false => exact absurd (hr ▸ (ready_iff.2 ⟨by decide, rfl, _, rfl, by simp [Region.binds, -Array.all_toList]⟩ : 3 ∈ Region.ready .any _ _)) (by simp)
      obtain rfl : b4 = true := by cases b4 with | true => rfl | false => exact absurd (hr ▸ (ready_iff.2 ⟨by decide, rfl, _, rfl, by simp [Region.binds, -Array.all_toList]⟩ : 4 ∈ Region.ready .any _ _)) (by simp)
      obtain rfl : b5 = true := by cases b5 with | true => rfl | false => exact absurd (hr ▸ (ready_iff.2 ⟨by decide, rfl, _, rfl, by simp [Region.binds, -Array.all_toList]⟩ : 5 ∈ Region.ready .any _ _)) (by simp)
      have hd := hw.d
      gi_wp2
      refine ⟨by simp, .inl ⟨_, _, rfl, run_takeDeferred hd, ?_⟩⟩
      obtain ⟨Z', h1, h2, h3⟩ := hw.yes rfl
      have hq3 : Boxed (w.putObj (W1.heap.size + 2) (.deferred none)) (w0.heap.size + 2) 41 (.slice p2 n2 cap2) := hw.q.kept (grownBy_putObj' _ _ _) (by simp; omega)
      have hr3 : Boxed (w.putObj (W1.heap.size + 2) (.deferred none)) (w0.heap.size + 3) 39 (.int .u64 (S.deci_Divq d xs).2) := hw.r.kept (grownBy_putObj' _ _ _) (by simp; omega)
      have h4 := h3.mono (σ' := σ) (w' := w.putObj (W1.heap.size + 2) (.deferred none)) hc (fun _ _ h => h) (fun f b hb => World.putObj_heap_other (by
        rcases h1 f b hb with ⟨-, hz | ⟨hz, rfl⟩⟩ | ⟨hz, -⟩
        · have := hS b hz; omega
        · have := (hg hz).2.1; omega
        · omega)) (fun _ _ => rfl)
      refine ⟨_, results_div rfl rfl rfl hq3 hr3, _, rfl, hw.below.trans ⟨rfl, rfl, rfl, by simp, fun k hk => World.putObj_heap_other (by omega)⟩, Z', fun f b hb => ?_, h2, ?_⟩
      · rcases h1 f b hb with ⟨rfl, hz | ⟨hz, rfl⟩⟩ | ⟨hz, hz'⟩
        · exact .inl ⟨rfl, hz⟩
        · right; have := hg hz; have := (Array.getElem?_eq_some_iff.1 hd).1; simp; omega
        · right; simp; omega
      · show Den c Z' σ _ (.tup [.agg [.list 39 false _], .int .u64 _, .int .i64 0]) _
        refine .tup _ _ rfl fun i hi => ?_
        match i, hi with
        | 0, _ =>
          refine .agg _ _ rfl fun i hi => ?_
          match i, hi with
          | 0, _ => exact h4.less h2 (.list _ _ _ _ (fun _ => rfl))
        | 1, _ => exact .int _ _
        | 2, _ => exact .int _ _

/-- By 0: an error's number. -/
theorem div_zero (n0 cap0 : Nat) (p0 : Option Addr) (w0 : World) :
    Calls Try.prog 24 #[.agg #[.slice p0 n0 cap0], .int .u64 0] w0 fun e W' => e = .returned (.tuple #[.agg #[.slice none 0 0], .int .u64 0, .int .i64 2]) ∧ Below w0.heap.size w0 W' := by
  go_enter Try.func24, Try.ntmps24
  go_wp2
  have hq : Boxed ((((w0.alloc (.cells #[.slice p0 n0 cap0] 41)).alloc (.cells #[.int .u64 0] 39)).alloc (.cells #[.slice none 0 0] 41)).alloc (.cells #[.int .u64 0] 39)) (w0.heap.size + 1 + 1) 41 (.slice none 0 0) := by
    have := (Boxed.new ((w0.alloc (.cells #[.slice p0 n0 cap0] 41)).alloc (.cells #[.int .u64 0] 39)) 41 (.slice none 0 0)).alloc (.cells #[.int .u64 0] 39)
    rw [World.size_alloc, World.size_alloc] at this; exact this
  have hr : Boxed ((((w0.alloc (.cells #[.slice p0 n0 cap0] 41)).alloc (.cells #[.int .u64 0] 39)).alloc (.cells #[.slice none 0 0] 41)).alloc (.cells #[.int .u64 0] 39)) (w0.heap.size + 1 + 1 + 1) 39 (.int .u64 0) := by
    have := Boxed.new (((w0.alloc (.cells #[.slice p0 n0 cap0] 41)).alloc (.cells #[.int .u64 0] 39)).alloc (.cells #[.slice none 0 0] 41)) 39 (.int .u64 0)
    rw [World.size_alloc, World.size_alloc, World.size_alloc] at this; exact this
  refine bodyPost_ret (results_div rfl rfl rfl hq hr) rfl ⟨rfl, ?_⟩
  exact ((((Below.refl _ w0).alloc (Nat.le_refl _) _).alloc (by simp) _).alloc (by simp; omega) _).alloc (by simp; omega) _

theorem div_calls {c : Cfg El} (hc : CfgOk c) (hP : c.P = P) (hty : c.ty = base.ty) (hC : c.C = base.C)
    (h51 : ∀ n, S.nat_Nat_All_pre n → CallOk c 51 [.agg [.list 39 false n.limbs]] (.olist 39 true (S.nat_Nat_All n)) [])
    (h53 : ∀ hi lo y, S.math_bits_Div64_pre hi lo y → CallOk c 53 [.int .u64 hi, .int .u64 lo, .int .u64 y] (.tup [.int .u64 (S.math_bits_Div64 hi lo y).1, .int .u64 (S.math_bits_Div64 hi lo y).2]) [])
    (h20 : ∀ l, S.nat_Limbs_pre l → CallOk c 20 [.list 39 false l] (.agg [.list 39 true (S.nat_Limbs l).limbs]) [])
    (n : S.Num) (d : Int) (hp : S.deci_Div_pre n d) : CallOk c 24 [.agg [.list 39 false n.limbs], .int .u64 d] (.tup [.agg [.list 39 false (S.deci_Div n d).1.limbs], .int .u64 (S.deci_Div n d).2.1, .int .i64 (S.deci_Div n d).2.2]) [] := by
  obtain ⟨h0, h1, h2, h3, h4, h5, h6⟩ := hp
  intro w Z σ β xs hT hS hI hA
  obtain ⟨p0, n0, cap0, rfl, hx0⟩ : ∃ p0 n0 cap0, xs = #[.agg #[.slice p0 n0 cap0], .int .u64 d] ∧ Den c Z σ w (.list 39 false (n.limbs : List (El 39))) (.slice p0 n0 cap0) := by
    have e0 : Den c Z σ w (.agg [.list 39 false n.limbs]) (xs.getD 0 undef) := hA.den 0 (by simp)
    have e1 : xs.getD 1 undef = .int .u64 d := Den.of_int (hA.den 1 (by simp))
    have hl := hA.size
    obtain ⟨l⟩ := xs
    match l, hl with
    | [a, b], _ =>
      simp at e0 e1
      subst e1
      cases e0 with
      | agg _ ys hl2 h' =>
        have h0 : Den c Z σ w (.list 39 false n.limbs) (ys.getD 0 undef) := h' 0 (by simp)
        obtain ⟨k⟩ := ys
        match k, hl2 with
        | [y], _ =>
          simp at h0
          obtain ⟨p, cap, b, y', rfl, -⟩ := h0.of_list
          exact ⟨p, _, cap, rfl, h0⟩
  rw [hP]
  by_cases hd : d = 0
  · subst hd
    refine (div_zero n0 cap0 p0 w).mono ?_
    rintro e W' ⟨rfl, hB⟩
    refine ⟨_, rfl, (Bel.refl ⟨w, _⟩).below hB, (fun f b => f = false ∧ Z false b), (fun f b h => .inl h), (fun _ h => by cases h.1), ?_, trivial⟩
    show Den c _ σ _ (.tup [.agg [.list 39 false _], .int .u64 _, .int .i64 _]) _
    refine .tup _ _ rfl fun i hi => ?_
    match i, hi with
    | 0, _ =>
      refine .agg _ _ rfl fun i hi => ?_
      match i, hi with
      | 0, _ => exact limbs_den (l := []) (g := 0) hty hC ⟨fun h => absurd rfl h, Nat.le_refl _, fun j hj => absurd hj (Nat.not_lt_zero _)⟩ (fun h => absurd rfl h)
    | 1, _ => exact .int _ _
    | 2, _ => exact .int _ _
  · have hb : (d == 0) = false := by simpa using hd
    have e : S.deci_Div n d = (S.nat_Limbs (S.deci_Divq d (S.nat_Nat_All n)).1, (S.deci_Divq d (S.nat_Nat_All n)).2, 0) := by unfold S.deci_Div; rw [hb]; rfl
    rw [e]
    have key := callsIn_wide.1 (div_in hc hP hty hC hT hS hI n (S.nat_Nat_All n) d (by omega) h1 p0 n0 cap0 hx0 (h51 n h2) h3 h5 (fun hi lo a1 a2 a3 a4 => by
      obtain ⟨g1, g2⟩ := h6 hi lo a1 a2 a3 a4
      have := h53 hi lo d g1
      rw [g2] at this
      exact this) (h20 _ (h4 hd)))
    refine key.mono ?_
    rintro e W' ⟨x, rfl, hB, Z', z1, z2, hr⟩
    exact ⟨x, rfl, (Bel.refl ⟨w, _⟩).below hB, Z', z1, z2, hr, trivial⟩
end Go.Proofs.Ythnlknegnlmklaa
