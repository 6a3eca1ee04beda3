/-
  deci.digits: digits are deferred, least first, and appended in the other order.
-/
import Derived.Test.YthnlknegnlmklaaDEEnv
import Derived.Tactics
import Derived.Tactics2
import Derived.StillTactics
import Derived.Defers
import Derived.RangeFuncBox
import Derived.Laws.AppendOwn
import Derived.Laws.Strings
import Derived.Laws.Small
import Derived.Laws.BytesString
import Derived.LoopTactic
import Derived.WalkKit
import Derived.Maps.AppendAt
import Derived.OwnWalk
import Derived.OwnWalkIn
import Derived.Laws.IdiomStrings
set_option linter.all false
namespace Go.Proofs.Ythnlknegnlmklaa
open Go Go.Proofs Go.RowKit

/-- All as it was, but one block, and what lies from a number on. -/
structure Apart (n B : Nat) (W W' : World) : Prop where
  os : W'.os = W.os
  tape : W'.tape = W.tape
  output : W'.output = W.output
  size : W.heap.size ≤ W'.heap.size
  block : ∀ k, k < n → k ≠ B → W'.heap[k]? = W.heap[k]?

theorem Apart.refl (n B : Nat) (W : World) : Apart n B W W := ⟨rfl, rfl, rfl, Nat.le_refl _, fun _ _ _ => rfl⟩
theorem Apart.trans {n B : Nat} {a b c : World} (h : Apart n B a b) (k : Apart n B b c) : Apart n B a c :=
  ⟨k.os.trans h.os, k.tape.trans h.tape, k.output.trans h.output, Nat.le_trans h.size k.size, fun i hi hb => (k.block i hi hb).trans (h.block i hi hb)⟩

abbrev bv (c : UInt8) : Value := .int .u8 (c.toNat : Int)

theorem infoB : (Try.prog.info? 5).map (fun i => (i.zero, i.size, i.bytes)) = some (some (.int .u8 0), 1, 1) := by kernel_rfl

set_option maxRecDepth 100000 in
theorem add_d (pb pc n0 : Nat) (l : List UInt8) (c : UInt8) (v : Value) (u : FrameMode) (W : World)
    (hv : Boxed W pb 44 v) (hr : W.ownsRow n0 5 1 v l.length (l.map bv)) (hc : Boxed W pc 5 (bv c)) (h0 : n0 ≤ W.heap.size) (hlen : l.length ≤ 1000000) :
    CallsD Try.prog 88 #[.pointer (some ⟨pb, 0, none⟩), .pointer (some ⟨pc, 0, none⟩)] u W fun e u' W' => u' = u ∧ (e = .returned (.tuple #[]) ∧
      ∃ v', Boxed W' pb 44 v' ∧ W'.ownsRow n0 5 1 v' (l ++ [c]).length ((l ++ [c]).map bv) ∧ Apart n0 pb W W') := by
  obtain ⟨i0, hi, hz0, hz1, hz2⟩ := info_parts infoB
  have b0 := hv.cell
  have c0 := hc.cell
  go_enter_d Try.func88, Try.ntmps88
  go_wp2_with (first
    | (at_builtin
       refine wpList_append_own _ rfl _ _ 44 rfl n0 5 i0 (.int .u8 0) 1 1 Try.underlying44 hi hz0 hz1 hz2 rfl (by decide) _ _ _ rfl (hr.alloc _) ⟨W.heap.size, 0, none⟩ 1 1 [bv c] rfl rfl (cell_one_new _ _ _) (by simp [Value.oneCell']) (by unfold maxLen; omega) (by omega) (by simp; omega) ?_
       intro v' w1 hown' hgrow hnil
       have hgrow' : (W.alloc (.cells #[bv c] 5)).grownBy w1 v.ownBlock := hgrow
       have hv1 : Boxed w1 pb 44 v := (hv.alloc _).kept hgrow' (hv.not_row (by decide) hr)
       have hf1 := hv1.frozen
       have hc1 := hv1.cell
       clear hgrow hnil
       obtain ⟨g, cap, rfl⟩ := ownsRow_succ hown'))
  go_end0
  have hb' : Boxed (w1.setCell ⟨pb, 0, none⟩ (.slice (some ⟨g, 0, none⟩) (l.length + 1) cap)) pb 44 _ := hv1.set _
  refine ⟨rfl, _, hb', ?_, ?_⟩
  · rw [List.map_append, List.length_append]
    exact hown'.kept (grownBy_setCell' w1 pb _) (.inr (hv1.not_row (by decide) hown').symm)
  · have g2 := grownBy_setCell' w1 pb (.slice (some ⟨g, 0, none⟩) (l.length + 1) cap)
    refine ⟨g2.os.trans hgrow'.os, g2.tape.trans hgrow'.tape, g2.output.trans hgrow'.output, ?_, ?_⟩
    · have := hgrow'.size; have := g2.size; simp at *; omega
    · intro k hk hkb
      have hlt : k < W.heap.size := by omega
      have h1 : (W.alloc (.cells #[bv c] 5)).heap[k]? = W.heap[k]? := heap_alloc_old W _ hlt
      refine (g2.block k (by have := hgrow'.size; simp at this; omega) (by simpa using hkb)).trans ((hgrow'.block k (by simp; omega) ?_).trans h1)
      rcases hr.2 with ⟨rfl, _⟩ | ⟨g', cap', cur, rfl, hb, _, _⟩
      · simp [Value.ownBlock]
      · simp [Value.ownBlock]; omega

/-- A digit's deferred call. -/
def dfr (pb k : Nat) : Deferred := { target := .fn (.func 88) #[.pointer (some ⟨pb, 0, none⟩), .pointer (some ⟨k, 0, none⟩)], args := #[] }

theorem leaves_digits (pb n0 : Nat) (tmps : Array Value) (R : Ending → World → Prop) : ∀ (ds : List (Nat × UInt8)) (l : List UInt8) (v : Value) (W : World),
    Boxed W pb 44 v → W.ownsRow n0 5 1 v l.length (l.map bv) → (∀ d ∈ ds, Boxed W d.1 5 (bv d.2) ∧ d.1 < n0) → n0 ≤ W.heap.size → l.length + ds.length ≤ 1000000 →
    (∀ v' W', Boxed W' pb 44 v' → W'.ownsRow n0 5 1 v' (l ++ ds.map (·.2)).length ((l ++ ds.map (·.2)).map bv) → Apart n0 pb W W' → R (.returned (.tuple #[])) W') →
    Leaves Try.prog Try.f87 tmps R (ds.map fun d => dfr pb d.1) .returning W
  | [], l, v, W, hv, hr, hd, h0, hl, hR => by
    simp only [List.map_nil, Leaves]
    refine ⟨.tuple #[], ?_, hR v W hv (by simpa using hr) (Apart.refl _ _ _)⟩
    exact results_none rfl _ _ _
  | (k, c) :: ds, l, v, W, hv, hr, hd, h0, hl, hR => by
    refine leaves_cons (f := 88) (args := #[.pointer (some ⟨pb, 0, none⟩), .pointer (some ⟨k, 0, none⟩)]) (by simp) (by simp [go_sem]) ?_
    refine (add_d pb k n0 l c v .returning W hv hr (hd (k, c) (by simp)).1 h0 (by simp at hl; omega)).mono ?_
    rintro e u' W1 ⟨rfl, rfl, v1, hv1, hr1, ha1⟩
    refine leaves_digits pb n0 tmps R ds (l ++ [c]) v1 W1 hv1 hr1 ?_ (Nat.le_trans h0 ha1.size) (by simp at hl ⊢; omega) ?_
    · intro d hm
      obtain ⟨hb, hlt⟩ := hd d (by simp [hm])
      refine ⟨(ha1.block d.1 hlt fun e => ?_).trans hb, hlt⟩
      have h := hb; rw [e] at h
      have h2 := (show W.heap[pb]? = _ from hv).symm.trans h
      simp at h2
    · intro v' W' hv' hr' ha'
      exact hR v' W' hv' (by simpa [List.append_assoc] using hr') (ha1.trans ha')

theorem digitsl_end : ∀ f, S.deci_digitsl f 0 0 = []
  | 0 => rfl
  | _ + 1 => rfl

def intOf : Value → Int
  | .int _ n => n
  | _ => 0

theorem digits_fuel {many i nk : Nat} (h : i < many ∨ 0 < nk) (hi : i ≤ 20 + many) (hnk : nk < 10 ^ (20 + many - i)) : i < 20 + many := by
  rcases Nat.lt_or_ge i (20 + many) with h' | h'
  · exact h'
  · rw [show 20 + many - i = 0 by omega] at hnk
    simp at hnk
    omega

theorem digits_round {pm pn pb n many i nk B : Nat} {W w : World} {ds : List (Nat × UInt8)} (h : i < many ∨ 0 < nk)
    (hm : Boxed w pm 3 (.int .i64 many)) (hn : Boxed w pn 39 (.int .u64 nk)) (hb : Boxed w pb 44 (.slice none 0 0)) (hds : ∀ d ∈ ds, Boxed w d.1 5 (bv d.2)) (hB1 : Below B W w)
    (hdl : S.deci_digitsl (20 + many) n many = S.deci_digitsl (20 + many - i) nk (many - i) ++ ds.map (·.2)) (hi : i ≤ 20 + many) (hnk : nk < 10 ^ (20 + many - i)) (hnk64 : nk ≤ 18446744073709551615) (hlen : ds.length = i)
    (hp : pm < pb ∧ pn < pb ∧ pm ≠ pn) (hB : B ≤ pm ∧ B ≤ pn) {X : World} (hX : X = (w.alloc (.cells #[Value.int .u8 (48 + (nk : Int) % 10)] 5)).setCell ⟨pn, 0, none⟩ (.int .u64 ((nk : Int) / 10))) :
    Boxed X pm 3 (.int .i64 many) ∧ Boxed X pn 39 (.int .u64 (nk / 10 : Nat)) ∧ Boxed X pb 44 (.slice none 0 0) ∧ (∀ d ∈ (w.heap.size, UInt8.ofNat (48 + nk % 10)) :: ds, Boxed X d.1 5 (bv d.2)) ∧ Below B W X ∧
      S.deci_digitsl (20 + many) n many = S.deci_digitsl (20 + many - (i + 1)) (nk / 10) (many - (i + 1)) ++ ((w.heap.size, UInt8.ofNat (48 + nk % 10)) :: ds).map (·.2) ∧ i + 1 ≤ 20 + many ∧ nk / 10 < 10 ^ (20 + many - (i + 1)) ∧ nk / 10 ≤ 18446744073709551615 ∧
      ((w.heap.size, UInt8.ofNat (48 + nk % 10)) :: ds).length = i + 1 := by
  have hf := digits_fuel h hi hnk
  have g2 := grownBy_setCell' (w.alloc (.cells #[Value.int .u8 (48 + (nk : Int) % 10)] 5)) pn (.int .u64 ((nk : Int) / 10))
  rw [← hX] at g2
  have hnl := hn.lt
  have hBl := hB1.size
  refine ⟨(hm.alloc _).kept g2 (by simp; omega), ?_, (hb.alloc _).kept g2 (by simp; omega), ?_, ?_, ?_, by omega, ?_, by omega, by simp [hlen]⟩
  · have := (hn.alloc (.cells #[Value.int .u8 (48 + (nk : Int) % 10)] 5)).set (.int .u64 ((nk : Int) / 10))
    rw [← hX] at this
    exact this
  · intro d hd
    rcases List.mem_cons.1 hd with rfl | hd
    · have h1 := Boxed.new w 5 (.int .u8 (48 + (nk : Int) % 10))
      have e : bv (UInt8.ofNat (48 + nk % 10)) = .int .u8 (48 + (nk : Int) % 10) := by
        have : (UInt8.ofNat (48 + nk % 10)).toNat = 48 + nk % 10 := by simp; omega
        simp only [bv, this]
        push_cast
        rfl
      rw [e]
      exact h1.kept g2 (by simp; omega)
    · have h1 := hds d hd
      refine (h1.alloc _).kept g2 ?_
      intro e
      have e : d.1 = pn := by simpa using e
      rw [e] at h1
      have h2 := (show w.heap[pn]? = _ from h1).symm.trans hn
      simp at h2
  · subst hX
    exact (hB1.alloc (by omega) _).setCell (p := ⟨pn, 0, none⟩) hB.2 _
  · rw [hdl]
    obtain ⟨f, e⟩ : ∃ f, 20 + many - i = f + 1 := ⟨20 + many - i - 1, by omega⟩
    rw [e, show 20 + many - (i + 1) = f by omega, show many - (i + 1) = many - i - 1 by omega]
    show (if nk = 0 ∧ many - i = 0 then [] else _) ++ _ = _
    rw [if_neg (by omega)]
    simp
  · obtain ⟨f, e⟩ : ∃ f, 20 + many - i = f + 1 := ⟨20 + many - i - 1, by omega⟩
    rw [e, Nat.pow_succ] at hnk
    rw [show 20 + many - (i + 1) = f by omega]
    exact Nat.div_lt_of_lt_mul (by rw [Nat.mul_comm]; exact hnk)

theorem digits_end {pb B : Nat} {W w : World} {ds : List (Nat × UInt8)} {tmps : Array Value} {l : List UInt8} (hlen : ds.length ≤ 1000000)
    (hb : Boxed w pb 44 (.slice none 0 0)) (hds : ∀ d ∈ ds, Boxed w d.1 5 (bv d.2)) (hB1 : Below B W w) (hl : l = ds.map (·.2)) (hB : B ≤ pb) :
    bodyPostD Try.prog Try.f87 (fun e W' => e = .returned (.tuple #[]) ∧ ∃ v' n0, Boxed W' pb 44 v' ∧ W'.ownsRow n0 5 1 v' l.length (l.map bv) ∧ Below B W W') .normal { tmps := tmps, defers := ds.map fun d => dfr pb d.1 } w := by
  refine leaves_digits pb w.heap.size tmps _ ds [] (.slice none 0 0) w hb (World.ownsRow_nil w w.heap.size 5 1) (fun d hd => ⟨hds d hd, (hds d hd).lt⟩) (Nat.le_refl _) (by simpa using hlen) ?_
  intro v' W' hv' hr' ha'
  rw [List.nil_append, ← hl] at hr'
  have hbl := hb.lt
  refine ⟨rfl, v', _, hv', hr', hB1.trans ⟨ha'.os, ha'.tape, ha'.output, ha'.size, fun k hk => ha'.block k (by omega) (by omega)⟩⟩

set_option maxRecDepth 100000 in
theorem digits1 (pm pn pb n many : Nat) (W : World) (hm : Boxed W pm 3 (.int .i64 many)) (hn : Boxed W pn 39 (.int .u64 n)) (hb : Boxed W pb 44 (.slice none 0 0))
    (hn64 : n ≤ 18446744073709551615) (hmany : many ≤ 1000) (hp : pm < pb ∧ pn < pb ∧ pm ≠ pn) (B : Nat) (hB : B ≤ pm ∧ B ≤ pn) :
    Calls Try.prog 87 #[.pointer (some ⟨pm, 0, none⟩), .pointer (some ⟨pn, 0, none⟩), .pointer (some ⟨pb, 0, none⟩)] W fun e W' => e = .returned (.tuple #[]) ∧
      ∃ v' n0, Boxed W' pb 44 v' ∧ W'.ownsRow n0 5 1 v' (S.deci_digitsl (20 + many) n many).length ((S.deci_digitsl (20 + many) n many).map bv) ∧ Below B W W' := by
  have hmf : ∀ (fn : Fn) (first cap : Array Value) (w : World), (Instr.makeFunc fn first cap).run Try.prog w = .ok (.func fn first cap) w := fun _ _ _ _ => rfl
  go_enter_defers Try.func87, Try.ntmps87
  go_wp2
  refine wp_loop (fun a w => ∃ (i nk : Nat) (ds : List (Nat × UInt8)) (u4 u5 u6 u7 u8 u9 u10 u11 u12 u13 u14 u15 u16 u17 u18 u19 u20 : Value), a = { tmps := #[.pointer (some ⟨pm, 0, none⟩), .pointer (some ⟨pn, 0, none⟩), .pointer (some ⟨pb, 0, none⟩), .int .i64 i, u4, u5, u6, u7, u8, u9, u10, u11, u12, u13, u14, u15, u16, u17, u18, u19, u20], defers := ds.map fun d => dfr pb d.1 } ∧
      Boxed w pm 3 (.int .i64 many) ∧ Boxed w pn 39 (.int .u64 nk) ∧ Boxed w pb 44 (.slice none 0 0) ∧ (∀ d ∈ ds, Boxed w d.1 5 (bv d.2)) ∧ Below B W w ∧
      S.deci_digitsl (20 + many) n many = S.deci_digitsl (20 + many - i) nk (many - i) ++ ds.map (·.2) ∧ i ≤ 20 + many ∧ nk < 10 ^ (20 + many - i) ∧ nk ≤ 18446744073709551615 ∧ ds.length = i)
    (fun a _ => 20 + many - (intOf (a.tmps.getD 3 undef)).toNat) ?_ ?_
  · refine ⟨0, n, [], _, _, _, _, _, _, _, _, _, _, _, _, _, _, _, _, _, rfl, hm, hn, hb, by simp, Below.refl _ _, by simp, by omega, ?_, hn64, rfl⟩
    have : 10 ^ 20 ≤ 10 ^ (20 + many - 0) := Nat.pow_le_pow_right (by omega) (by omega)
    omega
  · rintro a w ⟨i, nk, ds, u4, u5, u6, u7, u8, u9, u10, u11, u12, u13, u14, u15, u16, u17, u18, u19, u20, rfl, hm, hn, hb, hds, hB1, hdl, hi, hnk, hnk64, hlen⟩
    have c1 := hm.cell
    have c2 := hn.cell
    have f2 := hn.frozen
    have c3 := (hn.alloc (.cells #[Value.int .u8 (48 + (nk : Int) % 10)] 5)).cell
    have f3 := (hn.alloc (.cells #[Value.int .u8 (48 + (nk : Int) % 10)] 5)).frozen
    go_wp2
    all_goals first
      | (refine digits_end ?_ hb hds hB1 ?_ ?_
         · omega
         · rw [hdl, show nk = 0 by omega, show many - i = 0 by omega, digitsl_end, List.nil_append]
         · omega)
      | (refine ⟨⟨i + 1, nk / 10, (w.heap.size, UInt8.ofNat (48 + nk % 10)) :: ds, _, _, _, _, _, _, _, _, _, _, _, _, _, _, _, _, _, rfl, ?_⟩, ?_⟩
         · exact digits_round (by omega) hm hn hb hds hB1 hdl hi hnk hnk64 hlen hp hB rfl
         · show 20 + many - ((i : Int) + 1).toNat < 20 + many - (i : Int).toNat
           have := digits_fuel (many := many) (i := i) (by omega) hi hnk
           omega)

theorem convert_own {W : World} {v : Value} {n0 : Nat} {l : List UInt8} (h : W.ownsRow n0 5 1 v l.length (l.map bv)) : (convert 44 9 v).run Try.prog W = .ok (.string ⟨l.toArray⟩) W := by
  have hh := h
  rcases hh.2 with ⟨rfl, h0⟩ | ⟨g, cap, cur, rfl, _⟩
  · obtain rfl := List.eq_nil_of_length_eq_zero h0
    rw [run_convert_bytes_string W 44 9 5 none 0 0 Try.underlying44 Try.underlying5 Try.underlying9]
    rfl
  · exact run_convert_bytes_back W 44 9 5 ⟨g, 0, none⟩ cap l Try.underlying44 Try.underlying5 Try.underlying9 fun j hj => h.cells (g := g) rfl j _ (by simp [hj])

set_option maxRecDepth 100000 in
theorem digits_walk (n many : Nat) (hn64 : n ≤ 18446744073709551615) (hmany : many ≤ 1000) (w : World) :
    Calls Try.prog 56 #[.int .u64 n, .int .i64 many] w fun e w' => e = .returned (.string ⟨(S.deci_digitsl (20 + many) n many).toArray⟩) ∧ Below w.heap.size w w' := by
  have hmf : ∀ (fn : Fn) (first cap : Array Value) (w : World), (Instr.makeFunc fn first cap).run Try.prog w = .ok (.func fn first cap) w := fun _ _ _ _ => rfl
  have hb0 : Boxed (((w.alloc (.cells #[.int .u64 n] 39)).alloc (.cells #[.int .i64 many] 3)).alloc (.cells #[.slice none 0 0] 44)) w.heap.size 39 (.int .u64 n) := ((Boxed.new w _ _).alloc _).alloc _
  have hb1 : Boxed (((w.alloc (.cells #[.int .u64 n] 39)).alloc (.cells #[.int .i64 many] 3)).alloc (.cells #[.slice none 0 0] 44)) (w.heap.size + 1) 3 (.int .i64 many) := by
    have h := (Boxed.new (w.alloc (.cells #[.int .u64 n] 39)) 3 (.int .i64 many)).alloc (.cells #[.slice none 0 0] 44)
    have e : (w.alloc (.cells #[.int .u64 (n : Int)] 39)).heap.size = w.heap.size + 1 := by simp
    rwa [e] at h
  have hb2 : Boxed (((w.alloc (.cells #[.int .u64 n] 39)).alloc (.cells #[.int .i64 many] 3)).alloc (.cells #[.slice none 0 0] 44)) (w.heap.size + 1 + 1) 44 (.slice none 0 0) := by
    have h := Boxed.new ((w.alloc (.cells #[.int .u64 n] 39)).alloc (.cells #[.int .i64 many] 3)) 44 (.slice none 0 0)
    have e : ((w.alloc (.cells #[.int .u64 (n : Int)] 39)).alloc (.cells #[.int .i64 (many : Int)] 3)).heap.size = w.heap.size + 1 + 1 := by simp
    rwa [e] at h
  go_enter Try.func56, Try.ntmps56
  go_wp2_with (first
    | (go_at_call 87
       go_loud (refine (digits1 (w.heap.size + 1) w.heap.size (w.heap.size + 1 + 1) n many _ hb1 hb0 hb2 hn64 hmany (by omega) w.heap.size (by omega)).mono ?_)
       rintro e w' ⟨rfl, v', n0, hb, hr, hB⟩
       have cb := hb.cell
       have hcv := convert_own hr))
  go_ret
  exact ⟨rfl, ((((Below.refl w.heap.size w).alloc (by simp) _).alloc (by simp) _).alloc (by simp; omega) _).trans hB⟩

open Vm

theorem digits_calls {c : Cfg El} (hP : c.P = P) (n many : Int) (hp : S.deci_digits_pre n many) : CallOk c 56 [.int .u64 n, .int .i64 many] (.str (S.deci_digits n many)) [] := by
  obtain ⟨h0, h1, h2, h3⟩ := hp
  obtain ⟨n, rfl⟩ := Int.eq_ofNat_of_zero_le h0
  obtain ⟨many, rfl⟩ := Int.eq_ofNat_of_zero_le h2
  intro w Z σ β xs hT hS hI hA
  have e0 : ∀ x, Den c Z σ w (.int .u64 n) x → x = .int .u64 n := fun x h => by cases h; rfl
  have e1 : ∀ x, Den c Z σ w (.int .i64 many) x → x = .int .i64 many := fun x h => by cases h; rfl
  have e0 := e0 _ (hA.den 0 (by simp))
  have e1 := e1 _ (hA.den 1 (by simp))
  have hx : xs = #[.int .u64 n, .int .i64 many] := by
    have hl := hA.size
    obtain ⟨l⟩ := xs
    match l, hl with
    | [a, b], _ => simp at e0 e1; simp [e0, e1]
  subst hx
  rw [hP]
  refine (digits_walk n many (by omega) (by omega) w).mono ?_
  rintro e W' ⟨rfl, hB⟩
  exact ⟨_, rfl, (Bel.refl ⟨w, _⟩).below hB, (fun f b => f = false ∧ Z false b), (fun f b h => .inl h), (fun _ h => by cases h.1), .str _, trivial⟩
end Go.Proofs.Ythnlknegnlmklaa
