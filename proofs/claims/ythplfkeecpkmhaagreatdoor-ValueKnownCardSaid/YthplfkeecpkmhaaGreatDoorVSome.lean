/-
  (value.Value).Some, a loop over a function's values: what it answers.
-/
import Derived.Test.YthplfkeecpkmhaaGreatDoorVEnv
import Derived.RangeFuncNested
import Derived.RangeFuncBound
import Derived.RangeFuncCalls
import Derived.RangeFuncLeaves
import Derived.RangeFuncBox
import Derived.Shelf.Abstract
import Derived.Shelf.RegionOpen
import Derived.WalkKit
import Derived.OwnWalkIn
import Derived.TacticsInMore
import Derived.LoopNIn
import Derived.LoopIn
import Derived.Maps.AppendAt
set_option linter.all false
namespace Go.Proofs.YthplfkeecpkmhaaGreatDoor
open Go Go.Proofs Go.RowKit Go.Shelf

attribute [local go_sem] Oper.semAt_some

/-- The blocks of values lie as they lay. -/
structure Keeps (W W' : World) : Prop where
  size : W.heap.size ≤ W'.heap.size
  same : ∀ (k : Nat) (cs : Array Value) (fz : Nat × Nat), W.heap[k]? = some (.cells cs 28 fz) → W'.heap[k]? = some (.cells cs 28 fz)

theorem Keeps.refl (W : World) : Keeps W W := ⟨Nat.le_refl _, fun _ _ _ h => h⟩
theorem Keeps.trans {X Y Z : World} (h : Keeps X Y) (k : Keeps Y Z) : Keeps X Z := ⟨Nat.le_trans h.size k.size, fun i cs fz hi => k.same i cs fz (h.same i cs fz hi)⟩
theorem Keeps.put (W : World) (l : Nat) (o o' : Obj) (h : W.heap[l]? = some o) (ho : o.isCells = false) : Keeps W (W.putObj l o') :=
  ⟨by simp, fun k cs fz hk => by
    by_cases e : k = l
    · subst e; rw [h] at hk; cases hk; cases ho
    · exact (World.putObj_heap_other e).trans hk⟩
theorem Keeps.grown {W W' : World} {row : Option Nat} (hg : W.grownBy W' row) (hrow : ∀ j cs fz, row = some j → W.heap[j]? ≠ some (.cells cs 28 fz)) : Keeps W W' :=
  ⟨hg.size, fun k cs fz hk => (hg.block k (Array.getElem?_eq_some_iff.1 hk).1 fun e => hrow k cs fz e.symm hk).trans hk⟩

def cells4 (v : S.Value) : Array Value := #[.int .i64 v.I.Lo, .int .i64 v.I.Hi, .int .u64 v.C.M, .int .u64 v.C.R]

def valOf : Value → Int
  | .int _ n => n
  | _ => 0

/-- What the closure yields. -/
def seqOf (v : S.Value) (k : Nat) : List Int := (List.range k).map fun (j : Nat) => v.I.Lo + (j : Int) * v.C.M

theorem seqOf_succ (v : S.Value) (k : Nat) : seqOf v (k + 1) = seqOf v k ++ [v.I.Lo + (k : Int) * v.C.M] := by simp [seqOf, List.range_succ]
theorem seqOf_add (v : S.Value) (a b : Nat) : seqOf v (a + b) = seqOf v a ++ (List.range b).map fun (i : Nat) => v.I.Lo + ((a + i : Nat) : Int) * v.C.M := by
  simp only [seqOf, List.range_add, List.map_append, List.map_map]
  rfl
theorem seqOf_length (v : S.Value) (k : Nat) : (seqOf v k).length = k := by simp [seqOf]

theorem grownBy_of {w w' : World} (h : Below w.heap.size w w') : w.grownBy w' none := ⟨h.os, h.tape, h.output, h.size, fun k hk _ => h.block k hk⟩

section
variable {v r : S.Value} {w : World}
  (hred : ∀ W, Below w.heap.size w W → Calls Tryz.prog 69 #[.agg (cells4 v)] W fun e W' => e = .returned (.agg (cells4 r)) ∧ Below W.heap.size W W')
  (hbot : ∀ W, Below w.heap.size w W → Calls Tryz.prog 17 #[.agg (cells4 r)] W fun e W' => e = .returned (.bool (S.value_Value_IsBottom r)) ∧ Below W.heap.size W W')
  (k : Nat) (hk : S.value_Value_IsBottom r = false → r.I.Lo + (k : Int) * r.C.M = r.I.Hi ∧ -9223372036854775808 ≤ r.I.Lo ∧ r.I.Hi ≤ 9223372036854775807 ∧ 0 ≤ r.C.M ∧ r.C.M < 18446744073709551616 ∧ (r.C.M = 0 → k = 0))
include hred hbot hk

set_option maxRecDepth 100000 in
set_option maxHeartbeats 1000000 in
theorem numbers1_in (n : Nat) (hn : 1 ≤ n) (l Bn : Nat) (J Jx : List Int → World → Prop) (W : World) (hW : Below w.heap.size w W) (hJ : AbidesFrom W.heap.size J)
    (hY : ∀ pre x W1, J pre W1 → pre.length < k + 1 → YieldAt Fence.wide (n - 1) Tryz.prog l #[.int .i64 x] W1 fun e W' =>
      (e = .returned (.bool true) ∧ J (pre ++ [x]) W' ∧ Keeps W1 W') ∨ (e = .returned (.bool false) ∧ Jx (pre ++ [x]) W'))
    (hBn : W.heap[Bn]? = some (.cells (cells4 v) 28 (0, 0))) (h0 : J [] W) :
    CallsIn Fence.wide n Tryz.prog 125 #[.func (.yield l) #[] #[], .pointer (some ⟨Bn, 0, none⟩)] W fun e W' => (∃ v, e = .returned v) ∧
      ((∃ ys, (ys = bif S.value_Value_IsBottom r then [] else seqOf r (k + 1)) ∧ J ys W') ∨ (∃ pre, (S.value_Value_IsBottom r = false ∧ pre <+: seqOf r (k + 1)) ∧ Jx pre W')) := by
  have c0 : W.cell? ⟨Bn, 0, none⟩ = some (.int .i64 v.I.Lo) := by simp [World.cell?, hBn, cells4]
  have c1 : W.cell? ⟨Bn, 1, none⟩ = some (.int .i64 v.I.Hi) := by simp [World.cell?, hBn, cells4]
  have c2 : W.cell? ⟨Bn, 2, none⟩ = some (.int .u64 v.C.M) := by simp [World.cell?, hBn, cells4]
  have c3 : W.cell? ⟨Bn, 3, none⟩ = some (.int .u64 v.C.R) := by simp [World.cell?, hBn, cells4]
  refine callsIn_of_wp Tryz.func125 rfl trivial ?_ rfl
  simp only [Tryz.ntmps125, List.size_toArray, List.length_cons, List.length_nil, Nat.reduceAdd, Nat.reduceSub, Array.replicate_succ, Array.replicate_zero, List.push_toArray, List.append_toArray, List.nil_append, List.cons_append]
  gi_wp2
  refine ⟨trivial, (callsIn_wide.2 (hred _ hW)).mono ?_⟩
  rintro e W2 ⟨rfl, hB2⟩
  simp only [cells4]
  gi_wp2
  refine ⟨trivial, (callsIn_wide.2 (hbot _ ?_)).mono ?_⟩
  · exact (hW.trans (hB2.mono hW.size)).alloc (Nat.le_trans hW.size hB2.size) _
  rintro e W3 ⟨rfl, hB3⟩
  have hJ2 : J [] W2 := hJ _ _ _ none h0 (grownBy_of hB2) (fun _ e => by cases e)
  have hJ3 : J [] W3 := hJ _ _ _ none (hJ _ _ _ none hJ2 (World.grownBy_alloc W2 (.cells (cells4 r) 28) none) (fun _ e => by cases e)) (grownBy_of hB3) (fun _ e => by cases e)
  have hT : W3.heap[W2.heap.size]? = some (.cells (cells4 r) 28 (0, 0)) := (hB3.block _ (by simp)).trans (World.alloc_heap_new W2 _)
  have hsz : W.heap.size ≤ W2.heap.size := hB2.size
  have t0 : W3.cell? ⟨W2.heap.size, 0, none⟩ = some (.int .i64 r.I.Lo) := by simp [World.cell?, hT, cells4]
  cases hb : S.value_Value_IsBottom r
  · obtain ⟨q1, q2, q3, q4, q5, q6⟩ := hk hb
    gi_wp2
    gi_loopw [4] (fun p wr => ∃ j : Nat, j ≤ k ∧ p = .int .i64 (r.I.Lo + (j : Int) * r.C.M) ∧ J (seqOf r j) wr ∧ wr.heap[W2.heap.size]? = some (.cells (cells4 r) 28 (0, 0)))
      (fun p wr => (r.I.Hi - valOf p).toNat)
    case atStart => exact ⟨0, Nat.zero_le _, by simp, hJ3, hT⟩
    case round =>
      obtain ⟨j, hj, rfl, hJj, hTj⟩ := hrel
      have u1 : wr.cell? ⟨W2.heap.size, 1, none⟩ = some (.int .i64 r.I.Hi) := by simp [World.cell?, hTj, cells4]
      obtain ⟨fn, tmps, assign, body, hy, hR⟩ := hY (seqOf r j) (r.I.Lo + (j : Int) * r.C.M) wr hJj (by rw [seqOf_length]; omega)
      gi_wp2
      refine hR.mono ?_
      rintro e W4 (⟨rfl, hJ4, hk4⟩ | ⟨rfl, hJx4⟩)
      · have hT4 : W4.heap[W2.heap.size]? = some (.cells (cells4 r) 28 (0, 0)) := hk4.same _ _ _ hTj
        have u1 : W4.cell? ⟨W2.heap.size, 1, none⟩ = some (.int .i64 r.I.Hi) := by simp [World.cell?, hT4, cells4]
        have u2 : W4.cell? ⟨W2.heap.size, 2, none⟩ = some (.int .u64 r.C.M) := by simp [World.cell?, hT4, cells4]
        rw [← seqOf_succ] at hJ4
        gi_wp2
        · have hlt : r.I.Lo + (j : Int) * r.C.M < r.I.Hi := by assumption
          have hjk : j < k := by
            rcases Nat.lt_or_ge j k with h | h
            · exact h
            · obtain rfl : j = k := by omega
              omega
          obtain ⟨d, rfl⟩ : ∃ d : Nat, k = j + 1 + d := ⟨k - (j + 1), by omega⟩
          have e1 : ((j + 1 + d : Nat) : Int) * r.C.M = (j : Int) * r.C.M + r.C.M + (d : Int) * r.C.M := by
            push_cast; rw [Int.add_mul, Int.add_mul, Int.one_mul]
          have hd : 0 ≤ (d : Int) * r.C.M := Int.mul_nonneg (Int.natCast_nonneg d) q4
          have hj0 : 0 ≤ (j : Int) * r.C.M := Int.mul_nonneg (Int.natCast_nonneg j) q4
          have hM : r.C.M ≠ 0 := fun h => by have := q6 h; omega
          have e2 : ((j + 1 : Nat) : Int) * r.C.M = (j : Int) * r.C.M + r.C.M := by push_cast; rw [Int.add_mul, Int.one_mul]
          have e3 : wrap64 (r.I.Lo + (j : Int) * r.C.M + wrap64 r.C.M) = r.I.Lo + ((j + 1 : Nat) : Int) * r.C.M := by
            rw [e2]; unfold wrap64
            generalize (j : Int) * r.C.M = x at *
            generalize (d : Int) * r.C.M = y at *
            omega
          rw [e3]
          refine ⟨⟨j + 1, by omega, rfl, hJ4, hT4⟩, ?_⟩
          simp only [valOf]
          rw [e2]
          generalize (j : Int) * r.C.M = x at *
          omega
        · have hle : r.I.Hi ≤ r.I.Lo + (j : Int) * r.C.M := by assumption
          have hjk : j = k := by
            rcases Nat.lt_or_ge j k with h | h
            · obtain ⟨d, rfl⟩ : ∃ d : Nat, k = j + 1 + d := ⟨k - (j + 1), by omega⟩
              have e1 : ((j + 1 + d : Nat) : Int) * r.C.M = (j : Int) * r.C.M + r.C.M + (d : Int) * r.C.M := by
                push_cast; rw [Int.add_mul, Int.add_mul, Int.one_mul]
              have hd : 0 ≤ (d : Int) * r.C.M := Int.mul_nonneg (Int.natCast_nonneg d) q4
              have hM : r.C.M ≠ 0 := fun h => by have := q6 h; omega
              omega
            · omega
          subst hjk
          go_end0
          exact ⟨⟨_, rfl⟩, .inl ⟨_, by simp [hb], hJ4⟩⟩
      · gi_wp2
        go_end0
        refine ⟨⟨_, rfl⟩, .inr ⟨_, ⟨hb, ?_⟩, hJx4⟩⟩
        rw [← seqOf_succ]
        obtain ⟨d, rfl⟩ : ∃ d : Nat, k = j + d := ⟨k - j, by omega⟩
        rw [show j + d + 1 = (j + 1) + d by omega, seqOf_add r (j + 1) d]
        exact List.prefix_append _ _
  · gi_wp2
    refine bodyPost_ret (results_none rfl _ _ _) rfl ?_
    exact ⟨⟨_, rfl⟩, .inl ⟨[], by simp [hb], hJ3⟩⟩

theorem numbers_stops (n : Nat) (hn : 1 ≤ n) (Bn : Nat) (hBn : w.heap[Bn]? = some (.cells (cells4 v) 28 (0, 0))) :
    SeqStopsK Fence.wide n Tryz.prog 125 #[.pointer (some ⟨Bn, 0, none⟩)] (fun x : Int => #[Value.int .i64 x]) Keeps (fun ys => ys = bif S.value_Value_IsBottom r then [] else seqOf r (k + 1)) (fun pre => S.value_Value_IsBottom r = false ∧ pre <+: seqOf r (k + 1)) (k + 1) w := fun l J Jx W hW hJ _ hY h0 =>
  numbers1_in hred hbot k hk n hn l Bn J Jx W hW hJ hY ((hW.block Bn (Array.getElem?_eq_some_iff.1 hBn).1).trans hBn) h0
end

set_option maxRecDepth 100000 in
set_option maxHeartbeats 1000000 in
theorem numbers_in (n : Nat) (v : S.Value) (w : World) :
    CallsIn Fence.wide n Tryz.prog 72 #[.agg (cells4 v)] w fun e w' => e = .returned (.func (.func 125) #[] #[.pointer (some ⟨w.heap.size, 0, none⟩)]) ∧ w' = w.alloc (.cells (cells4 v) 28) := by
  refine callsIn_of_wp Tryz.func72 rfl trivial ?_ rfl
  simp only [Tryz.ntmps72, List.size_toArray, List.length_cons, List.length_nil, Nat.reduceAdd, Nat.reduceSub, Array.replicate_succ, Array.replicate_zero, List.push_toArray, List.append_toArray, List.nil_append, List.cons_append, cells4]
  gi_wp2
  go_ret
  exact ⟨rfl, rfl⟩

theorem infoI : (Tryz.prog.info? 2).map (fun i => (i.zero, i.size, i.bytes)) = some (some (.int .i64 0), 1, 8) := by kernel_rfl

theorem row_slice {W : World} {B e : Nat} {s : Value} {n : Nat} {xs : List Value} (h : W.ownsRow B e 1 s n xs) : ∃ p cap, s = .slice p n cap := by
  rcases h.2 with ⟨rfl, h0⟩ | ⟨g, cap, cur, rfl, _⟩
  · exact ⟨none, 0, by rw [h0]⟩
  · exact ⟨_, _, rfl⟩

theorem results_box {w : World} {B : Nat} {s : Value} {tmps : Array Value} (hp : tmps.getD 4 undef = .pointer (some ⟨B, 0, none⟩)) (hb : Boxed w B 40 s) : (results Tryz.f16 tmps).run Tryz.prog w = .ok s w := by
  have hp' : tmps[4]?.getD undef = .pointer (some ⟨B, 0, none⟩) := by simpa using hp
  have hc := hb.cell
  have hr : Tryz.f16.results = #[.cell 4 40] := rfl
  simp [results, hr, hp', asAddr, go_sem, hc]

set_option maxRecDepth 100000 in
set_option maxHeartbeats 2000000 in
theorem some_in {v r : S.Value} {w0 : World}
    (hred : ∀ W, Below w0.heap.size w0 W → Calls Tryz.prog 69 #[.agg (cells4 v)] W fun e W' => e = .returned (.agg (cells4 r)) ∧ Below W.heap.size W W')
    (hbot : ∀ W, Below w0.heap.size w0 W → Calls Tryz.prog 17 #[.agg (cells4 r)] W fun e W' => e = .returned (.bool (S.value_Value_IsBottom r)) ∧ Below W.heap.size W W')
    (k : Nat) (hk : S.value_Value_IsBottom r = false → r.I.Lo + (k : Int) * r.C.M = r.I.Hi ∧ -9223372036854775808 ≤ r.I.Lo ∧ r.I.Hi ≤ 9223372036854775807 ∧ 0 ≤ r.C.M ∧ r.C.M < 18446744073709551616 ∧ (r.C.M = 0 → k = 0))
    (most : Int) (hm : most ≤ 1000000) :
    CallsIn Fence.wide 3 Tryz.prog 16 #[.agg (cells4 v), .int .i64 most] w0 fun e W' => ∃ x, e = .returned x ∧
      W'.ownsRow w0.heap.size 2 1 x (bif S.value_Value_IsBottom r then [] else seqOf r (min most.toNat (k + 1))).length ((bif S.value_Value_IsBottom r then [] else seqOf r (min most.toNat (k + 1))).map (Value.int .i64)) ∧ Below w0.heap.size w0 W' := by
  obtain ⟨i0, hi, hz0, hz1, hz2⟩ := info_parts infoI
  refine callsIn_of_wp_marks Tryz.func16 rfl trivial ?_ rfl
  simp only [Tryz.ntmps16, List.size_toArray, List.length_cons, List.length_nil, Nat.reduceAdd, Nat.reduceSub, Array.replicate_succ, Array.replicate_zero, List.push_toArray, List.append_toArray, List.nil_append, List.cons_append, cells4]
  gi_wp2
  refine ⟨trivial, (numbers_in 2 v _).mono ?_⟩
  rintro e w' ⟨rfl, rfl⟩
  simp only [cells4]
  gi_wp2
  obtain ⟨A, hA⟩ : ∃ A, ((w0.alloc (.cells #[.int .i64 v.I.Lo, .int .i64 v.I.Hi, .int .u64 v.C.M, .int .u64 v.C.R] 28)).alloc (.cells #[.int .i64 most] 3)).alloc (.cells #[.slice none 0 0] 40) = A := ⟨_, rfl⟩
  have sA : A.heap.size = w0.heap.size + 3 := by rw [← hA]; simp
  have bA : Below w0.heap.size w0 A := by rw [← hA]; exact (((Below.refl _ w0).alloc (Nat.le_refl _) _).alloc (by simp) _).alloc (by simp; omega) _
  have oA : Boxed A (w0.heap.size + 1 + 1) 40 (.slice none 0 0) := by
    have := Boxed.new ((w0.alloc (.cells #[.int .i64 v.I.Lo, .int .i64 v.I.Hi, .int .u64 v.C.M, .int .u64 v.C.R] 28)).alloc (.cells #[.int .i64 most] 3)) 40 (.slice none 0 0)
    rw [← hA]; rw [World.size_alloc, World.size_alloc] at this; exact this
  have mA : Boxed A (w0.heap.size + 1) 3 (.int .i64 most) := by
    have := (Boxed.new (w0.alloc (.cells #[.int .i64 v.I.Lo, .int .i64 v.I.Hi, .int .u64 v.C.M, .int .u64 v.C.R] 28)) 3 (.int .i64 most)).alloc (.cells #[.slice none 0 0] 40)
    rw [← hA]; rw [World.size_alloc] at this; exact this
  rw [hA, sA]
  have hB0 : Below w0.heap.size w0 (A.alloc (.cells (cells4 v) 28)) := bA.alloc (by omega) _
  have nA : (A.alloc (.cells (cells4 v) 28)).heap[w0.heap.size + 3]? = some (.cells (cells4 v) 28 (0, 0)) := by rw [← sA]; exact World.alloc_heap_new A _
  refine wpIn_rangeFunc_ownG rfl (by omega) (gf := 125) (lb := #[.pointer (some ⟨w0.heap.size + 3, 0, none⟩)]) rfl trivial (enters_of Tryz.func125 (by kernel_rfl) rfl)
    (numbers_stops (v := v) (r := r) (w := A.alloc (.cells (cells4 v) 28)) (fun W h => hred W (hB0.trans (h.mono (by simp; omega)))) (fun W h => hbot W (hB0.trans (h.mono (by simp; omega)))) k hk 2 (by omega) (w0.heap.size + 3) nA)
    (fun h k => h.trans k) (fun W l o o' _ h1 h2 _ => Keeps.put W l o o' h1 h2) (Below.refl _ _) (fun _ => rfl)
    (fun pre W => ((∃ s, Boxed W (w0.heap.size + 1 + 1) 40 s ∧ W.ownsRow w0.heap.size 2 1 s pre.length (pre.map (Value.int .i64)) ∧ pre.length ≤ most.toNat) ∧ Boxed W (w0.heap.size + 1) 3 (.int .i64 most)) ∧ Below w0.heap.size w0 W)
    (fun c pre W => (∃ s, Boxed W (w0.heap.size + 1 + 1) 40 s ∧ W.ownsRow w0.heap.size 2 1 s pre.dropLast.length (pre.dropLast.map (Value.int .i64)) ∧ c = .exit 0 ∧ pre ≠ [] ∧ pre.dropLast.length = most.toNat) ∧ Below w0.heap.size w0 W)
    (OwnFrom.and (OwnFrom.and (Own.from (holdsRow_own w0.heap.size (w0.heap.size + 1 + 1) 40 2 1 (fun pre : List Int => pre.length) (fun pre => pre.map (Value.int .i64)) (fun pre _ => pre.length ≤ most.toNat)) _) (Own.from (boxed_own (w0.heap.size + 1) 3 fun _ => .int .i64 most) _)) (ownFrom_below (Nat.le_refl _) (by simp; omega)))
    (fun c => OwnFrom.and (Own.from (holdsRow_own w0.heap.size (w0.heap.size + 1 + 1) 40 2 1 (fun pre : List Int => pre.dropLast.length) (fun pre => pre.dropLast.map (Value.int .i64)) (fun pre _ => c = .exit 0 ∧ pre ≠ [] ∧ pre.dropLast.length = most.toNat)) _) (ownFrom_below (Nat.le_refl _) (by simp; omega)))
    ⟨⟨⟨_, oA.alloc _, World.ownsRow_nil _ _ _ _, by simp⟩, mA.alloc _⟩, hB0⟩
    (fun x => { tmps := #[.agg #[.int .i64 v.I.Lo, .int .i64 v.I.Hi, .int .u64 v.C.M, .int .u64 v.C.R], .int .i64 most, .pointer (some ⟨w0.heap.size, 0, none⟩), .pointer (some ⟨w0.heap.size + 1, 0, none⟩), .pointer (some ⟨w0.heap.size + 1 + 1, 0, none⟩), .int .i64 x, .agg #[.int .i64 v.I.Lo, .int .i64 v.I.Hi, .int .u64 v.C.M, .int .u64 v.C.R], .func (.func 125) #[] #[.pointer (some ⟨w0.heap.size + 3, 0, none⟩)], .int .i64 x, undef, undef, undef, undef, undef, undef, undef, undef, undef], defers := [] }) ?assign ?body ?done ?stop
  case assign =>
    intro l x W K hK
    gi_wp2
    exact hK
  case body =>
    rintro l pre x W ⟨⟨⟨s, hs, hrow, hlen⟩, hM⟩, hB⟩ hlt
    obtain ⟨p, cap, rfl⟩ := row_slice hrow
    have hc := hs.cell
    have hcm := hM.cell
    gi_wp2_with (gi_at_builtin; refine wpListIn_append_own _ rfl _ _ 40 rfl w0.heap.size 2 i0 (.int .i64 0) 1 8 Tryz.underlying40 hi hz0 hz1 hz2 rfl (by decide) _ _ _ rfl (hrow.alloc _) ⟨W.heap.size, 0, none⟩ 1 1 [.int .i64 x] rfl rfl (cell_one_new _ _ _) (by simp [Value.oneCell']) (by unfold maxLen; omega) (by omega) (by have := hB.size; simp; omega) ?_; intro v' w1 hown' hgrow _; obtain ⟨g', cap', rfl⟩ := ownsRow_succ hown'; obtain ⟨hv1, hv2, hr2, hk2, hb2⟩ := hs.appended (by decide) hrow hB.size (by omega) hown' hgrow; have hc1 := hv1.cell; have hf1 := hv1.frozen)
    · have hle : most ≤ (pre.length : Int) := by assumption
      exact ⟨KeepsFrom.refl _ _, ⟨_, hs, by simpa using hrow, rfl, by simp, by simp; omega⟩, hB⟩
    · have hlt' : (pre.length : Int) < most := by assumption
      refine ⟨hk2.from _, ?_, ⟨⟨⟨_, hv2, by simpa using hr2, by simp; omega⟩, ?_⟩, hB.trans hb2⟩⟩
      · refine ((Keeps.grown (World.grownBy_alloc W _ none) (fun j cs fz e => by cases e)).trans (Keeps.grown hgrow fun j cs fz e h => ?_)).trans (Keeps.grown (grownBy_setCell' w1 _ _) fun j cs fz e h => ?_)
        · have e' : (Value.slice p pre.length cap).ownBlock = some j := e
          clear e
          rcases (hrow.alloc (.cells #[.int .i64 x] 2)).2 with ⟨h0, _⟩ | ⟨g, cap0, cur, h0, _, hgb, _⟩
          · rw [h0] at e'; simp [Value.ownBlock] at e'
          · rw [h0] at e'
            obtain rfl : g = j := by simpa [Value.ownBlock] using e'
            rw [hgb] at h; cases h
        · cases e
          rw [show w1.heap[w0.heap.size + 1 + 1]? = _ from hv1] at h; cases h
      · exact (((hM.alloc _).kept hgrow (hM.not_row (by decide) hrow)).other (by omega) _)
  case done =>
    rintro D ys W hD rfl ⟨⟨⟨s, hs, hrow, hlen⟩, hM⟩, hB⟩ hK
    obtain ⟨p, cap, rfl⟩ := row_slice hrow
    have hc := hs.cell
    have hf := hs.frozen
    gi_wp2
    have hs2 := hs.set (.slice p (bif S.value_Value_IsBottom r then [] else seqOf r (k + 1)).length cap)
    have hr2 := hrow.kept (grownBy_setCell' W (w0.heap.size + 1 + 1) (.slice p (bif S.value_Value_IsBottom r then [] else seqOf r (k + 1)).length cap)) (.inr (hs.not_row (by decide) hrow).symm)
    have hK2 := (KeepsOthers.setCell W ⟨w0.heap.size + 1 + 1, 0, none⟩ (.slice p (bif S.value_Value_IsBottom r then [] else seqOf r (k + 1)).length cap)).same D _ hK rfl
    have hB2 := hB.setCell (p := ⟨w0.heap.size + 1 + 1, 0, none⟩) (by simp; omega) (.slice p (bif S.value_Value_IsBottom r then [] else seqOf r (k + 1)).length cap)
    have hs3 := hs2.kept (grownBy_putObj' _ D (.deferred none)) (fun e => by cases e; rw [show _ = _ from hs2] at hK2; cases hK2)
    have e1 : (bif S.value_Value_IsBottom r then [] else seqOf r (min most.toNat (k + 1))) = bif S.value_Value_IsBottom r then [] else seqOf r (k + 1) := by
      cases hb : S.value_Value_IsBottom r with
      | true => rfl
      | false =>
        rw [hb] at hlen
        simp only [cond_false, seqOf_length] at hlen ⊢
        rw [Nat.min_eq_right hlen]
    rw [e1]
    refine ⟨by simp, .inl ⟨_, _, rfl, run_takeDeferred hK2, ?_⟩⟩
    exact ⟨_, results_box rfl hs3, _, rfl, ownsRow_putObj hr2 _ hK2 rfl, hB2.trans (belowK_b (w := w0) (Nat.le_refl _) _ D _ _ (by simp at hD; omega) hK2 rfl rfl)⟩
  case stop =>
    rintro D c pre W hD ⟨hb, hSp⟩ ⟨⟨s, hs, hrow, rfl, hne, hlen⟩, hB⟩ hK
    obtain ⟨p, cap, rfl⟩ := row_slice hrow
    have hc := hs.cell
    have hf := hs.frozen
    gi_wp2
    have hs2 := hs.set (.slice p pre.dropLast.length cap)
    have hr2 := hrow.kept (grownBy_setCell' W (w0.heap.size + 1 + 1) (.slice p pre.dropLast.length cap)) (.inr (hs.not_row (by decide) hrow).symm)
    have hK2 := (KeepsOthers.setCell W ⟨w0.heap.size + 1 + 1, 0, none⟩ (.slice p pre.dropLast.length cap)).same D _ hK rfl
    have hB2 := hB.setCell (p := ⟨w0.heap.size + 1 + 1, 0, none⟩) (by simp; omega) (.slice p pre.dropLast.length cap)
    have hs3 := hs2.kept (grownBy_putObj' _ D (.deferred none)) (fun e => by cases e; rw [show _ = _ from hs2] at hK2; cases hK2)
    have e1 : (bif S.value_Value_IsBottom r then [] else seqOf r (min most.toNat (k + 1))) = pre.dropLast := by
      have h1 : pre.dropLast.length + 1 = pre.length := by
        have := List.length_dropLast (xs := pre)
        have : 0 < pre.length := List.length_pos_iff.2 hne
        omega
      have h2 := hSp.length_le
      rw [seqOf_length] at h2
      have h3 : pre.dropLast = (seqOf r (k + 1)).take most.toNat := by
        have h4 : pre.dropLast <+: seqOf r (k + 1) := (List.dropLast_prefix pre).trans hSp
        rw [← hlen]
        exact (List.prefix_iff_eq_take.1 h4)
      rw [hb, h3, Nat.min_eq_left (by omega)]
      obtain ⟨d, hd⟩ : ∃ d, k + 1 = most.toNat + d := ⟨k + 1 - most.toNat, by omega⟩
      rw [hd, seqOf_add, List.take_append_of_le_length (by rw [seqOf_length]; exact Nat.le_refl _), List.take_of_length_le (by rw [seqOf_length]; exact Nat.le_refl _)]
      rfl
    rw [e1]
    rw [hlen] at hs2 hr2 hK2 hB2 hs3
    refine ⟨by simp, .inl ⟨_, _, rfl, run_takeDeferred hK2, ?_⟩⟩
    rw [hlen]
    exact ⟨_, results_box rfl hs3, _, rfl, ownsRow_putObj hr2 _ hK2 rfl, hB2.trans (belowK_b (w := w0) (Nat.le_refl _) _ D _ _ (by simp at hD; omega) hK2 rfl rfl)⟩

open Vm

theorem agg_call {c : Cfg El} (hc : CfgOk c) (hP : c.P = P) {f : Nat} {v : S.Value} {r : W} (h : CallOk c f [.agg [.int .i64 v.I.Lo, .int .i64 v.I.Hi, .int .u64 v.C.M, .int .u64 v.C.R]] r []) {w0 : World} {Z : Fz} {σ : Nat → Vm.Loc}
    (hT : ∀ b, Z true b → Z false b) (hS : ∀ b, Z false b → b < w0.heap.size) (hI : c.inv (Z false) w0) (W : World) (hB : Below w0.heap.size w0 W) :
    Calls Tryz.prog f #[.agg (cells4 v)] W fun e W' => ∃ x, e = .returned x ∧ Below W.heap.size W W' ∧ ∃ Z', ResDen c W.heap.size Z' σ W' r x := by
  have hA : ArgsOk c Z σ W (fun _ => 0) [.agg [.int .i64 v.I.Lo, .int .i64 v.I.Hi, .int .u64 v.C.M, .int .u64 v.C.R]] #[.agg (cells4 v)] := by
    refine ⟨rfl, fun i hi => ?_, fun i j cs ds hi => ?_⟩
    · match i, hi with
      | 0, _ =>
        refine .agg _ _ rfl fun i hi => ?_
        match i, hi with
        | 0, _ => exact .int _ _
        | 1, _ => exact .int _ _
        | 2, _ => exact .int _ _
        | 3, _ => exact .int _ _
    · match i, hi with
      | 0, hi => cases hi
      | i + 1, hi => simp at hi
  have h1 := h W Z σ (fun _ => 0) #[.agg (cells4 v)] hT (fun b hb => Nat.lt_of_lt_of_le (hS b hb) hB.size) (hc.inv _ _ _ _ hI (fun _ h => h) (fun b hb => hB.block b (hS b hb))) hA
  rw [hP] at h1
  refine Calls.mono h1 ?_
  rintro e W' ⟨x, rfl, hb, Z', _, _, hr, _⟩
  refine ⟨x, rfl, hb.toBelow fun b o => ?_, Z', hr⟩
  rintro ⟨i, cs, hi, _⟩
  match i, hi with
  | 0, hi => cases hi
  | i + 1, hi => simp at hi

theorem den_cells4 {c : Cfg El} {Z : Fz} {σ : Nat → Vm.Loc} {w : World} {r : S.Value} {x : Value} (h : Den c Z σ w (.agg [.int .i64 r.I.Lo, .int .i64 r.I.Hi, .int .u64 r.C.M, .int .u64 r.C.R]) x) : x = .agg (cells4 r) := by
  cases h with
  | agg _ xs hl h =>
    have h0 : xs.getD 0 undef = .int .i64 r.I.Lo := Den.of_int (h 0 (by simp))
    have h1 : xs.getD 1 undef = .int .i64 r.I.Hi := Den.of_int (h 1 (by simp))
    have h2 : xs.getD 2 undef = .int .u64 r.C.M := Den.of_int (h 2 (by simp))
    have h3 : xs.getD 3 undef = .int .u64 r.C.R := Den.of_int (h 3 (by simp))
    obtain ⟨l⟩ := xs
    match l, hl with
    | [a, b, c, d], _ => simp at h0 h1 h2 h3; simp [h0, h1, h2, h3, cells4]

theorem row_res {c : Cfg El} (hty : c.ty = base.ty) (hC : c.C = base.C) {Z : Fz} {σ : Nat → Vm.Loc} {n : Nat} {w : World} {x : Value} {l : List Int} (h : w.ownsRow n 2 1 x l.length (l.map (Value.int .i64))) (hS : ∀ b, Z false b → b < n) :
    ResDen c n Z σ w (.olist 2 true (l : List (El 2))) x := by
  have sz : (c.ty 2).size = 1 := by rw [hty]; kernel_rfl
  have en : ∀ a : El 2, c.C.enc 2 a = [.int .i64 (show Int from a)] := fun a => by rw [hC]; rfl
  have eF : ∀ a : El 2, encF c 2 true a = [.int .i64 (show Int from a)] := fun a => by simp [encF, en a, mapV, frs]
  rcases h.2 with ⟨rfl, h0⟩ | ⟨g, cap, cur, rfl, hb, hg, hle, hcap, hcs, htake⟩
  · have : l = [] := List.length_eq_zero_iff.1 h0
    subst this
    refine ⟨⟨0, 0, 0, none⟩, rfl, ⟨by rw [sz]; decide, rfl, Nat.le_refl _, (fun m h => by cases h), fun j hj => absurd hj (Nat.not_lt_zero _), fun _ h => absurd rfl h, fun k hk => ?_, fun k h => absurd rfl h, fun j q hj => absurd hj (Nat.not_lt_zero _)⟩, fun h => absurd rfl h⟩
    simp at hk
  · have hcur : ∀ j (hj : j < l.length), cur[j]? = some (.int .i64 l[j]) := fun j hj => by
      have := congrArg (fun t => t[j]?) htake
      simp only [Nat.mul_one, List.getElem?_take, if_pos hj, List.getElem?_map, List.getElem?_eq_getElem hj, Option.map_some] at this
      simpa using this
    refine ⟨⟨g, l.length, cap, some ⟨g, 0, none⟩⟩, rfl, ⟨by rw [sz]; decide, rfl, hle, (fun m h => by cases h), fun j hj => by rw [en, sz]; rfl, fun _ _ => rfl, fun k hk => ?_, fun k h => ?_, fun j q hj hq => ?_⟩, fun h => ⟨hb, fun h' => absurd (hS _ h') (Nat.not_lt.2 hb)⟩⟩
    · simp only [sz, Nat.mul_one] at hk
      have : k < cur.size := by rw [hcs]; omega
      simp [World.cell?, hg, this]
    · simp [World.frozen?, hg]
    · have hq' : q = 0 := by rw [eF] at hq; simpa using hq
      subst hq'
      refine ⟨.int .i64 (show Int from l[j]), ?_, ?_⟩
      · simp only [sz, Nat.mul_one, Nat.add_zero]
        simp [World.cell?, hg, hcur j hj]
      · have e := List.getElem_of_eq (eF l[j]) hq
        exact Eq.mpr (congrArg (fun u => Den c Z σ w u _) e) (.int _ _)

theorem some_calls {c : Cfg El} (hc : CfgOk c) (hP : c.P = P) (hty : c.ty = base.ty) (hC : c.C = base.C)
    (hred : ∀ v, S.value_Value_reduced_pre v → CallOk c 69 [.agg [.int .i64 v.I.Lo, .int .i64 v.I.Hi, .int .u64 v.C.M, .int .u64 v.C.R]] (.agg [.int .i64 (S.value_Value_reduced v).I.Lo, .int .i64 (S.value_Value_reduced v).I.Hi, .int .u64 (S.value_Value_reduced v).C.M, .int .u64 (S.value_Value_reduced v).C.R]) [])
    (hbot : ∀ v, S.value_Value_IsBottom_pre v → CallOk c 17 [.agg [.int .i64 v.I.Lo, .int .i64 v.I.Hi, .int .u64 v.C.M, .int .u64 v.C.R]] (.bool (S.value_Value_IsBottom v)) []) (v : S.Value) (most : Int) (hp : S.value_Value_Some_pre v most) :
    CallOk c 16 [.agg [.int .i64 v.I.Lo, .int .i64 v.I.Hi, .int .u64 v.C.M, .int .u64 v.C.R], .int .i64 most] (.olist 2 true (S.value_Value_Some v most)) [] := by
  obtain ⟨p1, p2, hm, p3⟩ := hp
  intro w Z σ β xs hT hS hI hA
  have h0 : xs.getD 0 undef = .agg (cells4 v) := den_cells4 (hA.den 0 (by simp))
  have h1 : xs.getD 1 undef = .int .i64 most := Den.of_int (hA.den 1 (by simp))
  have hx : xs = #[.agg (cells4 v), .int .i64 most] := by
    have hl := hA.size
    obtain ⟨l⟩ := xs
    match l, hl with
    | [a, b], _ => simp at h0 h1; simp [h0, h1]
  subst hx
  clear h0 h1
  obtain ⟨k, hk⟩ : ∃ k : Nat, S.value_Value_IsBottom (S.value_Value_reduced v) = false → (S.value_Value_reduced v).I.Lo + (k : Int) * (S.value_Value_reduced v).C.M = (S.value_Value_reduced v).I.Hi ∧ -9223372036854775808 ≤ (S.value_Value_reduced v).I.Lo ∧ (S.value_Value_reduced v).I.Hi ≤ 9223372036854775807 ∧ 0 ≤ (S.value_Value_reduced v).C.M ∧ (S.value_Value_reduced v).C.M < 18446744073709551616 ∧ ((S.value_Value_reduced v).C.M = 0 → k = 0) := by
    cases hb : S.value_Value_IsBottom (S.value_Value_reduced v) with
    | true => exact ⟨0, fun h => by cases h⟩
    | false => obtain ⟨k, hk⟩ := p3 hb; exact ⟨k, fun _ => hk⟩
  have key := callsIn_wide.1 (some_in (v := v) (r := S.value_Value_reduced v) (w0 := w)
    (fun W hW => (agg_call hc hP (hred v p1) hT hS hI (σ := σ) W hW).mono (by rintro e W' ⟨x, rfl, hb, Z', hd⟩; exact ⟨congrArg _ (den_cells4 hd), hb⟩))
    (fun W hW => (agg_call hc hP (hbot _ p2) hT hS hI (σ := σ) W hW).mono (by rintro e W' ⟨x, rfl, hb, Z', hd⟩; exact ⟨congrArg _ (by cases hd; rfl), hb⟩)) k hk most hm)
  rw [hP]
  refine key.mono ?_
  rintro e W' ⟨x, rfl, hr, hb⟩
  have e1 : (bif S.value_Value_IsBottom (S.value_Value_reduced v) then [] else seqOf (S.value_Value_reduced v) (min most.toNat (k + 1))) = S.value_Value_Some v most := by
    unfold S.value_Value_Some
    cases hb : S.value_Value_IsBottom (S.value_Value_reduced v) with
    | true => simp only [hb]; rfl
    | false =>
      obtain ⟨q1, _, _, q4, _, q6⟩ := hk hb
      have e2 : ((S.value_Value_reduced v).I.Hi - (S.value_Value_reduced v).I.Lo) / (S.value_Value_reduced v).C.M = k := by
        rw [← q1, show (S.value_Value_reduced v).I.Lo + (k : Int) * (S.value_Value_reduced v).C.M - (S.value_Value_reduced v).I.Lo = (k : Int) * (S.value_Value_reduced v).C.M by omega]
        by_cases hM : (S.value_Value_reduced v).C.M = 0
        · rw [hM, q6 hM]; rfl
        · exact Int.mul_ediv_cancel _ hM
      simp only [hb, cond_false, seqOf, e2]
      rw [show ((k : Int) + 1).toNat = k + 1 by omega]
  rw [e1] at hr
  refine ⟨x, rfl, (Bel.refl ⟨w, _⟩).below hb, (fun f b => f = false ∧ Z false b), (fun f b h => .inl h), (fun _ h => by cases h.1), row_res hty hC hr (fun b h => hS b h.2), trivial⟩
end Go.Proofs.YthplfkeecpkmhaaGreatDoor
