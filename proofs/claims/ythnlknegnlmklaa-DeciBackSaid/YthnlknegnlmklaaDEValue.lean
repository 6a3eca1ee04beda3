/-
  deci.value: a text's digits, eighteen at a time.
-/
import Derived.Test.YthnlknegnlmklaaDEDiv
import Derived.Laws.RangeString
import Derived.Laws.RangeAny
import Derived.Laws.Strings
import Derived.Laws.Strings2
import Derived.Laws.Small
set_option linter.all false
namespace Go.Proofs.Ythnlknegnlmklaa
open Go Go.Proofs Go.RowKit Go.Shelf Vm

attribute [local go_sem] Oper.semAt_some

/-- A list of limbs, told of in other words. -/
theorem list_mono {c : Cfg El} (hty : c.ty = base.ty) (hC : c.C = base.C) {Z Z' : Fz} {σ σ' : Nat → Vm.Loc} {W W' : World} {f : Bool} {l : List Int} {x : Value} (h : Den c Z σ W (.list 39 f (l : List (El 39))) x)
    (hZ : ∀ b, Z f b → Z' false b ∧ W'.heap[b]? = W.heap[b]?) : Den c Z' σ' W' (.list 39 false (l : List (El 39))) x := by
  cases h with
  | list _ _ _ p cap b y hp hc hS hn he hw hd =>
    have hblk : ∀ k, (b.add k).block = b.block := fun k => by unfold Addr.add; split <;> rfl
    refine .list _ _ _ p cap b y hp hc (fun h => (hZ _ (hS h)).1) hn he (fun j q hj hq => ?_) (fun j q hj hq => ?_)
    · have hne : (l : List (El 39)) ≠ [] := fun e => by rw [e] at hj; exact absurd hj (Nat.not_lt_zero _)
      rw [← hw j q hj hq]
      exact World.cell?_of_block (by rw [hblk]; exact (hZ _ (hS hne)).2)
    · have hq0 : q = 0 := by
        have := enc0 hC false (show El 39 from l[j]) q hq
        have e := encF39 hC false (show El 39 from l[j])
        have hq' : q < (encF c 39 false (show El 39 from l[j])).length := hq
        rw [e] at hq'
        simpa using hq'
      subst hq0
      have h1 := hd j 0 hj (enc1 hC f _)
      have h2 : Den c Z σ W (.int .u64 (show Int from l[j])) (y j 0) := Eq.mp (congrArg (fun u => Den c Z σ W u _) (enc0 hC f _ 0 (enc1 hC f _))) h1
      refine Eq.mpr (congrArg (fun u => Den c Z' σ' W' u _) (enc0 hC false _ 0 hq)) ?_
      rw [Den.of_int h2]
      exact .int _ _

theorem text_ne (s : ByteArray) : decide (s.size ≠ 0) = !s.toList.isEmpty := by
  rw [ByteArray.toList_eq]
  obtain ⟨⟨l⟩⟩ := s
  show decide (l.length ≠ 0) = !l.isEmpty
  cases l
  · rfl
  · simp

theorem digit_range {s : ByteArray} (h : ∀ c ∈ s.data.toList, 48 ≤ c.toNat ∧ c.toNat ≤ 57) (j : Nat) (hj : j < s.size) : 48 ≤ (s[j]'hj).toNat ∧ (s[j]'hj).toNat ≤ 57 := by
  refine h _ ?_
  have : s[j]'hj = s.data.toList[j]'(by simpa using hj) := by simp [ByteArray.getElem_eq_getElem_data]
  rw [this]
  exact List.getElem_mem _

theorem results_num {w : World} {B : Nat} {p : Option Addr} {n cap : Nat} {tmps : Array Value} (hp : tmps.getD 2 undef = .pointer (some ⟨B, 0, none⟩)) (hb : Boxed w B 41 (.slice p n cap)) : (results Try.f58 tmps).run Try.prog w = .ok (.agg #[.slice p n cap]) w := by
  have hp' : tmps[2]?.getD undef = .pointer (some ⟨B, 0, none⟩) := by simpa using hp
  have cb := hb.cell
  have hr : Try.f58.results = #[.cell 2 41] := rfl
  simp [results, hr, hp', asAddr, go_sem, cb]

theorem mem_extract {s : ByteArray} {a b : Nat} {c : UInt8} (h : c ∈ (s.extract a b).data.toList) : c ∈ s.data.toList := by
  rw [ByteArray.data_extract, Array.toList_extract] at h
  exact List.mem_of_mem_drop (List.mem_of_mem_take h)

/-- What is known of lists of limbs, and what the box holds. -/
structure VT (c : Cfg El) (σ : Nat → Vm.Loc) (Z : Fz) (w0 : World) (N : Nat) (K : List (List Int × Value)) (w : World) (bx : Value) : Prop where
  box : Boxed w N 41 bx
  below : Below N w0 w
  den : ∃ S : Nat → Prop, (∀ b, Z false b → S b) ∧ (∀ b, S b → Z false b ∨ (N < b ∧ b < w.heap.size)) ∧ ∀ q ∈ K, Den c (fun f b => f = false ∧ S b) σ w (.list 39 false (q.1 : List (El 39))) q.2

theorem agg1_den {c : Cfg El} {Z : Fz} {σ : Nat → Vm.Loc} {w : World} {l : List Int} {x : Value} (h : Den c Z σ w (.list 39 false (l : List (El 39))) x) : Den c Z σ w (.agg [.list 39 false (l : List (El 39))]) (.agg #[x]) :=
  .agg _ _ rfl fun i hi => by match i, hi with | 0, _ => exact h

theorem hno1 {a : W} (h : ∀ cs, a ≠ .ref cs := by intro cs h; cases h) : ∀ (i : Nat) (cs : List (V El)), [a][i]? ≠ some (V.ref cs) := fun i cs hi => by
  match i, hi with
  | 0, hi => exact h cs (by simpa using hi)
  | i + 1, hi => simp at hi
theorem hno2 {a b : W} (h : ∀ cs, a ≠ .ref cs := by intro cs h; cases h) (h' : ∀ cs, b ≠ .ref cs := by intro cs h; cases h) : ∀ (i : Nat) (cs : List (V El)), [a, b][i]? ≠ some (V.ref cs) := fun i cs hi => by
  match i, hi with
  | 0, hi => exact h cs (by simpa using hi)
  | 1, hi => exact h' cs (by simpa using hi)
  | i + 2, hi => simp at hi

theorem VT.call {c : Cfg El} {σ : Nat → Vm.Loc} {Z : Fz} {w0 : World} {K : List (List Int × Value)} {w : World} {bx : Value} (h : VT c σ Z w0 w0.heap.size K w bx) (hc : CfgOk c) (hP : c.P = P) (hty : c.ty = base.ty) (hC : c.C = base.C)
    (hT : ∀ b, Z true b → Z false b) (hS : ∀ b, Z false b → b < w0.heap.size) (hI : c.inv (Z false) w0) {f : Nat} {vs : List W} {xs : Array Value} {ql : List Int} (hf : CallOk c f vs (.agg [.list 39 true (ql : List (El 39))]) [])
    (hno : ∀ (i : Nat) (cs : List (V El)), vs[i]? ≠ some (V.ref cs)) (hl : xs.size = vs.length) (hA : ∀ Zz : Fz, (∀ q ∈ K, Den c Zz σ w (.list 39 false (q.1 : List (El 39))) q.2) → ∀ i (hi : i < vs.length), Den c Zz σ w vs[i] (xs.getD i undef)) :
    Calls Try.prog f xs w fun e w' => ∃ p m cap, e = .returned (.agg #[.slice p m cap]) ∧ VT c σ Z w0 w0.heap.size ((ql, .slice p m cap) :: K) w' bx := by
  obtain ⟨S, s1, s2, s3⟩ := h.den
  have hN := h.box.lt
  refine (call_plain (Z := fun f b => f = false ∧ S b) hP hf hno (fun _ h => by cases h.1) (fun b hb => ?_) (hc.inv _ _ _ _ hI (fun b hb => ⟨rfl, s1 b hb⟩) (fun b hb => h.below.block b (hS b hb))) hl (hA _ s3)).mono ?_
  · rcases s2 b hb.2 with hz | hz
    · have := hS b hz; omega
    · exact hz.2
  rintro e w' ⟨x, rfl, hB, Z', z1, z2, hx⟩
  obtain ⟨p, m, cap, rfl, hx'⟩ := agg1_of hx
  refine ⟨p, m, cap, rfl, boxed_below h.box hB hN, h.below.trans (hB.mono (by omega)), fun b => S b ∨ (w.heap.size ≤ b ∧ b < w'.heap.size), fun b hb => .inl (s1 b hb), fun b hb => ?_, fun q hq => ?_⟩
  · rcases hb with hb | hb
    · rcases s2 b hb with hz | hz
      · exact .inl hz
      · exact .inr ⟨hz.1, Nat.lt_of_lt_of_le hz.2 hB.size⟩
    · exact .inr ⟨by omega, hb.2⟩
  · rcases List.mem_cons.1 hq with rfl | hq
    · refine list_mono hty hC hx' fun b hb => ⟨⟨rfl, ?_⟩, rfl⟩
      rcases z1 _ _ hb with hz | hz
      · exact .inl hz.2.2
      · exact .inr hz
    · refine list_mono hty hC (s3 q hq) fun b hb => ⟨⟨rfl, .inl hb.2⟩, hB.block b ?_⟩
      rcases s2 b hb.2 with hz | hz
      · have := hS b hz; omega
      · exact hz.2

theorem VT.store {c : Cfg El} {σ : Nat → Vm.Loc} {Z : Fz} {w0 : World} {K : List (List Int × Value)} {w : World} {bx : Value} (h : VT c σ Z w0 w0.heap.size K w bx) (hty : c.ty = base.ty) (hC : c.C = base.C) (hS : ∀ b, Z false b → b < w0.heap.size) (v : Value) : VT c σ Z w0 w0.heap.size K (w.setCell ⟨w0.heap.size, 0, none⟩ v) v := by
  obtain ⟨S, s1, s2, s3⟩ := h.den
  refine ⟨h.box.set _, h.below.setCell (p := ⟨w0.heap.size, 0, none⟩) (by simp) _, S, s1, fun b hb => (s2 b hb).imp id (fun h => by simpa using h), fun q hq => list_mono hty hC (s3 q hq) fun b hb => ⟨hb, Below.heap_setCell _ _ _ _ ?_⟩⟩
  rcases s2 b hb.2 with hz | hz
  · have := hS b hz; simp; omega
  · simp; omega

theorem value_step {t : ByteArray} {n : S.Num} {f k : Nat} {r : S.Num} (hf : t.size ≤ f) (ht : ¬t.size = 0) (hg : S.deci_valueg f t n) (hv : S.deci_valuef f t n = r) (hk : min t.size 18 = k) :
    ∃ f', f = f' + 1 ∧ S.nat_Of_pre (10 ^ k) ∧ S.nat_Of_pre (S.deci_valuex (t.extract 0 k)) ∧ S.nat_Mul_pre n (S.nat_Of (10 ^ k)) ∧ S.nat_Add_pre (S.nat_Mul n (S.nat_Of (10 ^ k))) (S.nat_Of (S.deci_valuex (t.extract 0 k))) ∧
      S.deci_valueg f' (t.extract k t.size) (S.nat_Add (S.nat_Mul n (S.nat_Of (10 ^ k))) (S.nat_Of (S.deci_valuex (t.extract 0 k)))) ∧
      S.deci_valuef f' (t.extract k t.size) (S.nat_Add (S.nat_Mul n (S.nat_Of (10 ^ k))) (S.nat_Of (S.deci_valuex (t.extract 0 k)))) = r := by
  obtain ⟨f', rfl⟩ : ∃ f', f = f' + 1 := ⟨f - 1, by omega⟩
  subst hk
  simp only [S.deci_valuef, if_neg ht] at hv
  rcases hg with hg | ⟨h1, h2, h3, h4, h5⟩
  · exact absurd hg ht
  · exact ⟨f', rfl, h1, h2, h3, h4, h5, hv⟩

def xat (l : List UInt8) : Int := l.foldl (fun x c => x * 10 + ((c.toNat : Int) - 48)) 0

theorem xat_snoc (l : List UInt8) (c : UInt8) : xat (l ++ [c]) = xat l * 10 + ((c.toNat : Int) - 48) := by simp [xat]

theorem xat_succ (s : ByteArray) (pos : Nat) (hp : pos < s.size) {b : Nat} (hb : (s[pos]'hp).toNat = b) : xat (s.data.toList.take (pos + 1)) = xat (s.data.toList.take pos) * 10 + ((b : Int) - 48) := by
  have hl : pos < s.data.toList.length := by simpa using hp
  rw [List.take_succ_eq_append_getElem hl, xat_snoc]
  have : s.data.toList[pos]'hl = s[pos]'hp := by simp [ByteArray.getElem_eq_getElem_data]
  rw [this, hb]

theorem xat_le (s : ByteArray) (h : ∀ c ∈ s.data.toList, 48 ≤ c.toNat ∧ c.toNat ≤ 57) : ∀ pos, pos ≤ s.size → 0 ≤ xat (s.data.toList.take pos) ∧ xat (s.data.toList.take pos) < ((10 ^ pos : Nat) : Int)
  | 0, _ => by simp [xat]
  | pos + 1, hle => by
    obtain ⟨h1, h2⟩ := xat_le s h pos (by omega)
    have hd := digit_range h pos (by omega)
    rw [xat_succ s pos (by omega) rfl, Nat.pow_succ]
    push_cast at h2 ⊢
    omega

set_option maxRecDepth 100000 in
set_option maxHeartbeats 2000000 in
theorem value_in {c : Cfg El} (hc : CfgOk c) (hP : c.P = P) (hty : c.ty = base.ty) (hC : c.C = base.C) {w0 : World} {Z : Fz} {σ : Nat → Vm.Loc} (hT : ∀ b, Z true b → Z false b) (hS : ∀ b, Z false b → b < w0.heap.size) (hI : c.inv (Z false) w0)
    (h38 : ∀ n, S.nat_Of_pre n → CallOk c 38 [.int .u64 n] (.agg [.list 39 true (S.nat_Of n).limbs]) [])
    (h37 : ∀ a b, S.nat_Mul_pre a b → CallOk c 37 [.agg [.list 39 false a.limbs], .agg [.list 39 false b.limbs]] (.agg [.list 39 true (S.nat_Mul a b).limbs]) [])
    (h36 : ∀ a b, S.nat_Add_pre a b → CallOk c 36 [.agg [.list 39 false a.limbs], .agg [.list 39 false b.limbs]] (.agg [.list 39 true (S.nat_Add a b).limbs]) [])
    (s : ByteArray) (hdig : ∀ c ∈ s.data.toList, 48 ≤ c.toNat ∧ c.toNat ≤ 57) (hg : S.deci_valueg s.size s ⟨[]⟩) :
    CallsIn Fence.wide 3 Try.prog 58 #[.string s] w0 fun e W' => ∃ x, e = .returned x ∧ Below w0.heap.size w0 W' ∧ ∃ Z' : Fz, (∀ f b, Z' f b → (f = false ∧ Z false b) ∨ (w0.heap.size ≤ b ∧ b < W'.heap.size)) ∧ (∀ b, Z' true b → Z' false b) ∧
      ResDen c w0.heap.size Z' σ W' (.agg [.list 39 false (S.deci_value s).limbs]) x := by
  refine callsIn_of_wp Try.func58 rfl trivial ?_ rfl
  simp only [Try.ntmps58, List.size_toArray, List.length_cons, List.length_nil, Nat.reduceAdd, Nat.reduceSub, Array.replicate_succ, Array.replicate_zero, List.push_toArray, List.append_toArray, List.nil_append, List.cons_append]
  gi_wp2
  gi_loopw [0] (fun q wr => ∃ (t : ByteArray) (n : S.Num) (f : Nat) (p : Option Addr) (m cap : Nat) (S' : Nat → Prop), q = .string t ∧ t.size ≤ f ∧ (∀ c ∈ t.data.toList, 48 ≤ c.toNat ∧ c.toNat ≤ 57) ∧ S.deci_valueg f t n ∧ S.deci_valuef f t n = S.deci_value s ∧
      Boxed wr w0.heap.size 41 (.slice p m cap) ∧ Below w0.heap.size w0 wr ∧ (∀ b, Z false b → S' b) ∧ (∀ b, S' b → Z false b ∨ (w0.heap.size < b ∧ b < wr.heap.size)) ∧ Den c (fun f b => f = false ∧ S' b) σ wr (.list 39 false (n.limbs : List (El 39))) (.slice p m cap))
    (fun q _ => match q with | .string t => t.size | _ => 0)
  case atStart => 
    refine ⟨s, ⟨[]⟩, s.size, none, 0, 0, Z false, rfl, Nat.le_refl _, hdig, hg, rfl, Boxed.new _ _ _, (Below.refl _ w0).alloc (Nat.le_refl _) _, fun _ h => h, fun _ h => .inl h, ?_⟩
    exact limbs_den (l := []) (g := 0) hty hC ⟨fun h => absurd rfl h, Nat.le_refl _, fun j hj => absurd hj (Nat.not_lt_zero _)⟩ (fun h => absurd rfl h)
  case round =>
    obtain ⟨t, n, f, p, m, cap, S', rfl, hf, hd, hgg, hv, hb, hB, hS1, hS2, hn⟩ := hrel
    have cb := hb.cell
    have fb := hb.frozen
    by_cases ht0 : t.size = 0
    · have hem : t.toList.isEmpty = true := by have := text_ne t; rw [ht0] at this; simpa using this
      gi_wp2
      have hb2 := hb.set (.slice p m cap)
      refine bodyPost_ret (results_num rfl hb2) rfl ⟨_, rfl, hB.setCell (p := ⟨w0.heap.size, 0, none⟩) (by simp) _, fun f b => f = false ∧ S' b, fun f b h => ?_, fun b h => by (cases h.1), ?_⟩
      · rcases hS2 b h.2 with hz | hz
        · exact .inl ⟨h.1, hz⟩
        · exact .inr (by simp; omega)
      · have e : n = S.deci_value s := by
          rw [← hv]
          cases f with
          | zero => rfl
          | succ f => simp only [S.deci_valuef, ht0, if_true]
        rw [← e]
        show Den c _ σ _ (.agg [.list 39 false _]) _
        refine .agg _ _ rfl fun i hi => ?_
        match i, hi with
        | 0, _ => exact list_mono hty hC hn fun b h => ⟨h, Below.heap_setCell _ _ _ _ (by rcases hS2 b h.2 with hz | hz; have := hS b hz; simp; omega; simp; omega)⟩
    have hem : t.toList.isEmpty = false := by have := text_ne t; simp [ht0] at this; simpa using this
    by_cases h18 : t.size ≤ 18
    · gi_wp2
      gi_loopw [4, 5] (fun qx qb wi => ∃ pos : Nat, wi = wr.iter (t) pos ∧ pos ≤ (t).size ∧ qx = .int .u64 (xat ((t).data.toList.take pos)) ∧ qb = .int .u64 (10 ^ pos : Nat)) (fun _ _ w' => (t).size - w'.iterPos wr.heap.size)
      case atStart => exact ⟨0, rfl, Nat.zero_le _, by simp [xat], rfl⟩
      case round =>
        obtain ⟨pos, rfl, hle, rfl, rfl⟩ := hrel
        have hsz1 : (t).size = t.size := rfl
        by_cases hp : pos < (t).size
        · obtain ⟨b, hbb⟩ : ∃ b, ((t)[pos]'hp).toNat = b := ⟨_, rfl⟩
          have hdb := digit_range (s := t) hd pos hp
          rw [hbb] at hdb
          have hnx : ∀ ty, (Instr.next (.pointer (some ⟨wr.heap.size, 0, none⟩)) true ty).run Try.prog (wr.iter (t) pos) = .ok (.tuple #[.bool true, .int .i64 (pos : Int), .int .i32 (b : Int)]) (wr.iter (t) (pos + 1)) := fun ty => by rw [← hbb]; exact run_next_ascii wr (t) pos ty hp (by rw [hbb]; omega)
          have hx1 := xat_le (t) hd pos hle
          have hx2 := xat_succ (t) pos hp hbb
          have hp10 : 10 ^ pos ≤ 10 ^ 17 := Nat.pow_le_pow_right (by omega) (by omega)
          obtain ⟨X, hX⟩ : ∃ X, xat ((t).data.toList.take pos) = X := ⟨_, rfl⟩
          obtain ⟨Y, hY⟩ : ∃ Y : Nat, 10 ^ pos = Y := ⟨_, rfl⟩
          rw [hX] at hx1 hx2 ⊢
          rw [hY] at hx1 hp10 ⊢
          gi_wp2
          exact ⟨⟨pos + 1, rfl, by omega, by rw [hx2], by rw [Nat.pow_succ, hY]; push_cast; rfl⟩, by simp; omega⟩
        · obtain rfl : pos = t.size := by omega
          have hnx : ∀ ty, (Instr.next (.pointer (some ⟨wr.heap.size, 0, none⟩)) true ty).run Try.prog (wr.iter (t) (t.size)) = _ := fun ty => run_next_end wr (t) (t.size) ty hp
          have hx1 := xat_le (t) hd (t.size) (by omega)
          have hp10 : 10 ^ (t.size) ≤ 10 ^ 18 := Nat.pow_le_pow_right (by omega) (by omega)
          have hmin : min t.size 18 = t.size := by omega
          obtain ⟨X, hX⟩ : ∃ X, xat ((t).data.toList.take (t.size)) = X := ⟨_, rfl⟩
          obtain ⟨Y, hY⟩ : ∃ Y : Nat, 10 ^ (t.size) = Y := ⟨_, rfl⟩
          rw [hX] at hx1 ⊢
          rw [hY] at hx1 hp10 ⊢
          have hXY : S.deci_valuex (t.extract 0 (t.size)) = X ∧ (10 : Int) ^ (t.size) = (Y : Int) := ⟨by rw [← hX, ByteArray.extract_zero_size]; show xat _ = _; rw [List.take_of_length_le (by simp)], by rw [← hY]; exact (Int.natCast_pow 10 _).symm⟩
          gi_wp2
          have hgs := value_step (t := t) (n := n) hf ht0 hgg hv (by rw [hmin])
          rw [hXY.1, hXY.2] at hgs
          have hext : t.extract t.size t.size = ByteArray.empty := by simp
          rw [hext] at hgs
          obtain ⟨f', hf', o1, o2, o3, o4, o5, o6⟩ := hgs
          refine wpIn_region_any (by kernel_rfl) ?_
          refine any_inv (fun L a w => ∃ (b0 b1 b2 b3 b4 b5 b6 b7 b8 b9 b10 b11 : Bool) (p2 : Option Addr) (m2 cap2 : Nat) (p3 : Option Addr) (m3 cap3 : Nat) (p5 : Option Addr) (m5 cap5 : Nat) (p6 : Option Addr) (m6 cap6 : Nat) (K : List (List Int × Value)), L = #[b0, b1, b2, b3, b4, b5, b6, b7, b8, b9, b10, b11] ∧ a = { tmps := #[(bif b11 then .string (ByteArray.empty) else .string t), undef, .pointer (some ⟨w0.heap.size, 0, none⟩), .int .i64 ((t.size : Int)), .int .u64 X, .int .u64 (Y : Int), undef, u7, .string t, .bool true, .string t, .int .i64 (t.size : Int), .int .i64 ((t.size : Int)), .string t, .int .i64 ((t.size : Int)), .string (t), .pointer (some ⟨wr.heap.size, 0, none⟩), .tuple #[.bool false], .bool false, u19, u20, u21, u22, u23, u24, u25, u26, u27, (bif b0 then .agg #[.slice p m cap] else u28), (bif b1 then .int .u64 (Y : Int) else u29), (bif b2 then .agg #[.slice p2 m2 cap2] else u30), (bif b3 then .agg #[.slice p3 m3 cap3] else u31), (bif b4 then .int .u64 X else u32), (bif b5 then .agg #[.slice p5 m5 cap5] else u33), (bif b6 then .agg #[.slice p6 m6 cap6] else u34), (bif b7 then .string t else u35), (bif b8 then .int .i64 ((t.size : Int)) else u36), (bif b9 then .string (ByteArray.empty) else u37), undef], defers := [] } ∧ (b10 = true → b0 = true) ∧ (b10 = true → b6 = true) ∧ (b11 = true → b7 = true) ∧ VT c σ Z w0 w0.heap.size K w (bif b10 then .slice p6 m6 cap6 else .slice p m cap) ∧
              (n.limbs, .slice p m cap) ∈ K ∧ (b2 = true → ((S.nat_Of (Y : Int)).limbs, .slice p2 m2 cap2) ∈ K) ∧ (b3 = true → ((S.nat_Mul n (S.nat_Of (Y : Int))).limbs, .slice p3 m3 cap3) ∈ K) ∧ (b5 = true → ((S.nat_Of X).limbs, .slice p5 m5 cap5) ∈ K) ∧ (b6 = true → ((S.nat_Add (S.nat_Mul n (S.nat_Of (Y : Int))) (S.nat_Of X)).limbs, .slice p6 m6 cap6) ∈ K)) ?_ ?_ _ _ _ _ rfl (by decide) ⟨false, false, false, false, false, false, false, false, false, false, false, false, none, 0, 0, none, 0, 0, none, 0, 0, none, 0, 0, [(n.limbs, .slice p m cap)], rfl, rfl, (fun h => by cases h), (fun h => by cases h), (fun h => by cases h), ?_, by simp, (fun h => by cases h), (fun h => by cases h), (fun h => by cases h), (fun h => by cases h)⟩
          · rintro L a w k K - ⟨b0, b1, b2, b3, b4, b5, b6, b7, b8, b9, b10, b11, p2, m2, cap2, p3, m3, cap3, p5, m5, cap5, p6, m6, cap6, KL, rfl, rfl, hm, hm6, hm7, hw, g0, g2, g3, g5, g6⟩ hk hK
            have hkl : k < 12 := (ready_iff.1 hk).1
            have cw := hw.box.cell
            have fw := hw.box.frozen
            match k, hkl, hk with
            | 0, _, hk =>
              have hr := ready_at rfl hk
              clear hk
              simp [Region.binds, -Array.all_toList] at hr
              have e10 : b10 = false := by cases b10 with | false => rfl | true => exact absurd (hm rfl) (by simp [hr])
              have e0 : b0 = false := by first | exact hr | exact hr.1 | exact hr.2 | exact hr.2.1 | exact hr.2.2 | exact hr.2.2.1 | exact hr.2.2.2 | exact hr.2.2.2.1 | exact hr.2.2.2.2 | exact hr.2.2.2.2.1 | exact hr.2.2.2.2.2 | exact hr.2.2.2.2.2.1 | exact hr.2.2.2.2.2.2 | exact hr.2.2.2.2.2.2.1 | exact hr.2.2.2.2.2.2.2 | exact hr.2.2.2.2.2.2.2.1 | exact hr.2.2.2.2.2.2.2.2 | exact hr.2.2.2.2.2.2.2.2.1 | exact hr.2.2.2.2.2.2.2.2.2 | exact hr.2.2.2.2.2.2.2.2.2.1 | exact hr.2.2.2.2.2.2.2.2.2.2 | exact hr.2.2.2.2.2.2.2.2.2.2.1 | exact hr.2.2.2.2.2.2.2.2.2.2.2 | exact hr.2.2.2.2.2.2.2.2.2.2.2.1 | exact hr.2.2.2.2.2.2.2.2.2.2.2.2 | exact hr.2.2.2.2.2.2.2.2.2.2.2.2.1 | exact hr.2.2.2.2.2.2.2.2.2.2.2.2.2 | exact hr.2.2.2.2.2.2.2.2.2.2.2.2.2.1 | exact hr.2.2.2.2.2.2.2.2.2.2.2.2.2.2 | exact hr.2.2.2.2.2.2.2.2.2.2.2.2.2.2.1 | exact hr.2.2.2.2.2.2.2.2.2.2.2.2.2.2.2 | exact hr.2.2.2.2.2.2.2.2.2.2.2.2.2.2.2.1 | exact hr.2.2.2.2.2.2.2.2.2.2.2.2.2.2.2.2
              clear hr
              subst e0 e10
              refine wpOpIn_at rfl ?_
              go_simp
              exact hK _ _ ⟨true, b1, b2, b3, b4, b5, b6, b7, b8, b9, false, b11, p2, m2, cap2, p3, m3, cap3, p5, m5, cap5, p6, m6, cap6, KL, rfl, rfl, (fun h => by cases h), (fun h => by cases h), hm7, hw, g0, g2, g3, g5, g6⟩
            | 1, _, hk =>
              have hr := ready_at rfl hk
              clear hk
              simp [Region.binds, -Array.all_toList] at hr
              have e1 : b1 = false := by first | exact hr | exact hr.1 | exact hr.2 | exact hr.2.1 | exact hr.2.2 | exact hr.2.2.1 | exact hr.2.2.2 | exact hr.2.2.2.1 | exact hr.2.2.2.2 | exact hr.2.2.2.2.1 | exact hr.2.2.2.2.2 | exact hr.2.2.2.2.2.1 | exact hr.2.2.2.2.2.2 | exact hr.2.2.2.2.2.2.1 | exact hr.2.2.2.2.2.2.2 | exact hr.2.2.2.2.2.2.2.1 | exact hr.2.2.2.2.2.2.2.2 | exact hr.2.2.2.2.2.2.2.2.1 | exact hr.2.2.2.2.2.2.2.2.2 | exact hr.2.2.2.2.2.2.2.2.2.1 | exact hr.2.2.2.2.2.2.2.2.2.2 | exact hr.2.2.2.2.2.2.2.2.2.2.1 | exact hr.2.2.2.2.2.2.2.2.2.2.2 | exact hr.2.2.2.2.2.2.2.2.2.2.2.1 | exact hr.2.2.2.2.2.2.2.2.2.2.2.2 | exact hr.2.2.2.2.2.2.2.2.2.2.2.2.1 | exact hr.2.2.2.2.2.2.2.2.2.2.2.2.2 | exact hr.2.2.2.2.2.2.2.2.2.2.2.2.2.1 | exact hr.2.2.2.2.2.2.2.2.2.2.2.2.2.2 | exact hr.2.2.2.2.2.2.2.2.2.2.2.2.2.2.1 | exact hr.2.2.2.2.2.2.2.2.2.2.2.2.2.2.2 | exact hr.2.2.2.2.2.2.2.2.2.2.2.2.2.2.2.1 | exact hr.2.2.2.2.2.2.2.2.2.2.2.2.2.2.2.2
              clear hr
              subst e1
              refine wpOpIn_at rfl ?_
              go_simp
              exact hK _ _ ⟨b0, true, b2, b3, b4, b5, b6, b7, b8, b9, b10, b11, p2, m2, cap2, p3, m3, cap3, p5, m5, cap5, p6, m6, cap6, KL, rfl, rfl, hm, hm6, hm7, hw, g0, g2, g3, g5, g6⟩
            | 2, _, hk =>
              have hr := ready_at rfl hk
              clear hk
              simp [Region.binds, -Array.all_toList] at hr
              have e2 : b2 = false := by first | exact hr | exact hr.1 | exact hr.2 | exact hr.2.1 | exact hr.2.2 | exact hr.2.2.1 | exact hr.2.2.2 | exact hr.2.2.2.1 | exact hr.2.2.2.2 | exact hr.2.2.2.2.1 | exact hr.2.2.2.2.2 | exact hr.2.2.2.2.2.1 | exact hr.2.2.2.2.2.2 | exact hr.2.2.2.2.2.2.1 | exact hr.2.2.2.2.2.2.2 | exact hr.2.2.2.2.2.2.2.1 | exact hr.2.2.2.2.2.2.2.2 | exact hr.2.2.2.2.2.2.2.2.1 | exact hr.2.2.2.2.2.2.2.2.2 | exact hr.2.2.2.2.2.2.2.2.2.1 | exact hr.2.2.2.2.2.2.2.2.2.2 | exact hr.2.2.2.2.2.2.2.2.2.2.1 | exact hr.2.2.2.2.2.2.2.2.2.2.2 | exact hr.2.2.2.2.2.2.2.2.2.2.2.1 | exact hr.2.2.2.2.2.2.2.2.2.2.2.2 | exact hr.2.2.2.2.2.2.2.2.2.2.2.2.1 | exact hr.2.2.2.2.2.2.2.2.2.2.2.2.2 | exact hr.2.2.2.2.2.2.2.2.2.2.2.2.2.1 | exact hr.2.2.2.2.2.2.2.2.2.2.2.2.2.2 | exact hr.2.2.2.2.2.2.2.2.2.2.2.2.2.2.1 | exact hr.2.2.2.2.2.2.2.2.2.2.2.2.2.2.2 | exact hr.2.2.2.2.2.2.2.2.2.2.2.2.2.2.2.1 | exact hr.2.2.2.2.2.2.2.2.2.2.2.2.2.2.2.2
              have e1 : b1 = true := by first | exact hr | exact hr.1 | exact hr.2 | exact hr.2.1 | exact hr.2.2 | exact hr.2.2.1 | exact hr.2.2.2 | exact hr.2.2.2.1 | exact hr.2.2.2.2 | exact hr.2.2.2.2.1 | exact hr.2.2.2.2.2 | exact hr.2.2.2.2.2.1 | exact hr.2.2.2.2.2.2 | exact hr.2.2.2.2.2.2.1 | exact hr.2.2.2.2.2.2.2 | exact hr.2.2.2.2.2.2.2.1 | exact hr.2.2.2.2.2.2.2.2 | exact hr.2.2.2.2.2.2.2.2.1 | exact hr.2.2.2.2.2.2.2.2.2 | exact hr.2.2.2.2.2.2.2.2.2.1 | exact hr.2.2.2.2.2.2.2.2.2.2 | exact hr.2.2.2.2.2.2.2.2.2.2.1 | exact hr.2.2.2.2.2.2.2.2.2.2.2 | exact hr.2.2.2.2.2.2.2.2.2.2.2.1 | exact hr.2.2.2.2.2.2.2.2.2.2.2.2 | exact hr.2.2.2.2.2.2.2.2.2.2.2.2.1 | exact hr.2.2.2.2.2.2.2.2.2.2.2.2.2 | exact hr.2.2.2.2.2.2.2.2.2.2.2.2.2.1 | exact hr.2.2.2.2.2.2.2.2.2.2.2.2.2.2 | exact hr.2.2.2.2.2.2.2.2.2.2.2.2.2.2.1 | exact hr.2.2.2.2.2.2.2.2.2.2.2.2.2.2.2 | exact hr.2.2.2.2.2.2.2.2.2.2.2.2.2.2.2.1 | exact hr.2.2.2.2.2.2.2.2.2.2.2.2.2.2.2.2
              clear hr
              subst e2 e1
              refine wpOpIn_at rfl ?_
              go_simp
              refine ⟨trivial, (callsIn_wide.2 (hw.call hc hP hty hC hT hS hI (xs := #[.int .u64 (Y : Int)]) (h38 _ o1) hno1 rfl (fun Zz hk i hi => by match i, hi with | 0, _ => exact .int _ _))).mono ?_⟩
              rintro e w' ⟨p', m', cap', rfl, hw'⟩
              exact hK _ _ ⟨b0, true, true, b3, b4, b5, b6, b7, b8, b9, b10, b11, p', m', cap', p3, m3, cap3, p5, m5, cap5, p6, m6, cap6, _, rfl, rfl, hm, hm6, hm7, hw', List.mem_cons_of_mem _ g0, (fun _ => List.mem_cons_self ..), (fun h => List.mem_cons_of_mem _ (g3 h)), (fun h => List.mem_cons_of_mem _ (g5 h)), (fun h => List.mem_cons_of_mem _ (g6 h))⟩
            | 3, _, hk =>
              have hr := ready_at rfl hk
              clear hk
              simp [Region.binds, -Array.all_toList] at hr
              have e3 : b3 = false := by first | exact hr | exact hr.1 | exact hr.2 | exact hr.2.1 | exact hr.2.2 | exact hr.2.2.1 | exact hr.2.2.2 | exact hr.2.2.2.1 | exact hr.2.2.2.2 | exact hr.2.2.2.2.1 | exact hr.2.2.2.2.2 | exact hr.2.2.2.2.2.1 | exact hr.2.2.2.2.2.2 | exact hr.2.2.2.2.2.2.1 | exact hr.2.2.2.2.2.2.2 | exact hr.2.2.2.2.2.2.2.1 | exact hr.2.2.2.2.2.2.2.2 | exact hr.2.2.2.2.2.2.2.2.1 | exact hr.2.2.2.2.2.2.2.2.2 | exact hr.2.2.2.2.2.2.2.2.2.1 | exact hr.2.2.2.2.2.2.2.2.2.2 | exact hr.2.2.2.2.2.2.2.2.2.2.1 | exact hr.2.2.2.2.2.2.2.2.2.2.2 | exact hr.2.2.2.2.2.2.2.2.2.2.2.1 | exact hr.2.2.2.2.2.2.2.2.2.2.2.2 | exact hr.2.2.2.2.2.2.2.2.2.2.2.2.1 | exact hr.2.2.2.2.2.2.2.2.2.2.2.2.2 | exact hr.2.2.2.2.2.2.2.2.2.2.2.2.2.1 | exact hr.2.2.2.2.2.2.2.2.2.2.2.2.2.2 | exact hr.2.2.2.2.2.2.2.2.2.2.2.2.2.2.1 | exact hr.2.2.2.2.2.2.2.2.2.2.2.2.2.2.2 | exact hr.2.2.2.2.2.2.2.2.2.2.2.2.2.2.2.1 | exact hr.2.2.2.2.2.2.2.2.2.2.2.2.2.2.2.2
              have e0 : b0 = true := by first | exact hr | exact hr.1 | exact hr.2 | exact hr.2.1 | exact hr.2.2 | exact hr.2.2.1 | exact hr.2.2.2 | exact hr.2.2.2.1 | exact hr.2.2.2.2 | exact hr.2.2.2.2.1 | exact hr.2.2.2.2.2 | exact hr.2.2.2.2.2.1 | exact hr.2.2.2.2.2.2 | exact hr.2.2.2.2.2.2.1 | exact hr.2.2.2.2.2.2.2 | exact hr.2.2.2.2.2.2.2.1 | exact hr.2.2.2.2.2.2.2.2 | exact hr.2.2.2.2.2.2.2.2.1 | exact hr.2.2.2.2.2.2.2.2.2 | exact hr.2.2.2.2.2.2.2.2.2.1 | exact hr.2.2.2.2.2.2.2.2.2.2 | exact hr.2.2.2.2.2.2.2.2.2.2.1 | exact hr.2.2.2.2.2.2.2.2.2.2.2 | exact hr.2.2.2.2.2.2.2.2.2.2.2.1 | exact hr.2.2.2.2.2.2.2.2.2.2.2.2 | exact hr.2.2.2.2.2.2.2.2.2.2.2.2.1 | exact hr.2.2.2.2.2.2.2.2.2.2.2.2.2 | exact hr.2.2.2.2.2.2.2.2.2.2.2.2.2.1 | exact hr.2.2.2.2.2.2.2.2.2.2.2.2.2.2 | exact hr.2.2.2.2.2.2.2.2.2.2.2.2.2.2.1 | exact hr.2.2.2.2.2.2.2.2.2.2.2.2.2.2.2 | exact hr.2.2.2.2.2.2.2.2.2.2.2.2.2.2.2.1 | exact hr.2.2.2.2.2.2.2.2.2.2.2.2.2.2.2.2
              have e2 : b2 = true := by first | exact hr | exact hr.1 | exact hr.2 | exact hr.2.1 | exact hr.2.2 | exact hr.2.2.1 | exact hr.2.2.2 | exact hr.2.2.2.1 | exact hr.2.2.2.2 | exact hr.2.2.2.2.1 | exact hr.2.2.2.2.2 | exact hr.2.2.2.2.2.1 | exact hr.2.2.2.2.2.2 | exact hr.2.2.2.2.2.2.1 | exact hr.2.2.2.2.2.2.2 | exact hr.2.2.2.2.2.2.2.1 | exact hr.2.2.2.2.2.2.2.2 | exact hr.2.2.2.2.2.2.2.2.1 | exact hr.2.2.2.2.2.2.2.2.2 | exact hr.2.2.2.2.2.2.2.2.2.1 | exact hr.2.2.2.2.2.2.2.2.2.2 | exact hr.2.2.2.2.2.2.2.2.2.2.1 | exact hr.2.2.2.2.2.2.2.2.2.2.2 | exact hr.2.2.2.2.2.2.2.2.2.2.2.1 | exact hr.2.2.2.2.2.2.2.2.2.2.2.2 | exact hr.2.2.2.2.2.2.2.2.2.2.2.2.1 | exact hr.2.2.2.2.2.2.2.2.2.2.2.2.2 | exact hr.2.2.2.2.2.2.2.2.2.2.2.2.2.1 | exact hr.2.2.2.2.2.2.2.2.2.2.2.2.2.2 | exact hr.2.2.2.2.2.2.2.2.2.2.2.2.2.2.1 | exact hr.2.2.2.2.2.2.2.2.2.2.2.2.2.2.2 | exact hr.2.2.2.2.2.2.2.2.2.2.2.2.2.2.2.1 | exact hr.2.2.2.2.2.2.2.2.2.2.2.2.2.2.2.2
              clear hr
              subst e3 e0 e2
              refine wpOpIn_at rfl ?_
              go_simp
              refine ⟨trivial, (callsIn_wide.2 (hw.call hc hP hty hC hT hS hI (xs := #[.agg #[.slice p m cap], .agg #[.slice p2 m2 cap2]]) (h37 _ _ o3) hno2 rfl (fun Zz hk i hi => by match i, hi with | 0, _ => exact agg1_den (hk _ g0) | 1, _ => exact agg1_den (hk _ (g2 rfl))))).mono ?_⟩
              rintro e w' ⟨p', m', cap', rfl, hw'⟩
              exact hK _ _ ⟨true, b1, true, true, b4, b5, b6, b7, b8, b9, b10, b11, p2, m2, cap2, p', m', cap', p5, m5, cap5, p6, m6, cap6, _, rfl, rfl, (fun _ => rfl), hm6, hm7, hw', List.mem_cons_of_mem _ g0, (fun h => List.mem_cons_of_mem _ (g2 h)), (fun _ => List.mem_cons_self ..), (fun h => List.mem_cons_of_mem _ (g5 h)), (fun h => List.mem_cons_of_mem _ (g6 h))⟩
            | 4, _, hk =>
              have hr := ready_at rfl hk
              clear hk
              simp [Region.binds, -Array.all_toList] at hr
              have e4 : b4 = false := by first | exact hr | exact hr.1 | exact hr.2 | exact hr.2.1 | exact hr.2.2 | exact hr.2.2.1 | exact hr.2.2.2 | exact hr.2.2.2.1 | exact hr.2.2.2.2 | exact hr.2.2.2.2.1 | exact hr.2.2.2.2.2 | exact hr.2.2.2.2.2.1 | exact hr.2.2.2.2.2.2 | exact hr.2.2.2.2.2.2.1 | exact hr.2.2.2.2.2.2.2 | exact hr.2.2.2.2.2.2.2.1 | exact hr.2.2.2.2.2.2.2.2 | exact hr.2.2.2.2.2.2.2.2.1 | exact hr.2.2.2.2.2.2.2.2.2 | exact hr.2.2.2.2.2.2.2.2.2.1 | exact hr.2.2.2.2.2.2.2.2.2.2 | exact hr.2.2.2.2.2.2.2.2.2.2.1 | exact hr.2.2.2.2.2.2.2.2.2.2.2 | exact hr.2.2.2.2.2.2.2.2.2.2.2.1 | exact hr.2.2.2.2.2.2.2.2.2.2.2.2 | exact hr.2.2.2.2.2.2.2.2.2.2.2.2.1 | exact hr.2.2.2.2.2.2.2.2.2.2.2.2.2 | exact hr.2.2.2.2.2.2.2.2.2.2.2.2.2.1 | exact hr.2.2.2.2.2.2.2.2.2.2.2.2.2.2 | exact hr.2.2.2.2.2.2.2.2.2.2.2.2.2.2.1 | exact hr.2.2.2.2.2.2.2.2.2.2.2.2.2.2.2 | exact hr.2.2.2.2.2.2.2.2.2.2.2.2.2.2.2.1 | exact hr.2.2.2.2.2.2.2.2.2.2.2.2.2.2.2.2
              clear hr
              subst e4
              refine wpOpIn_at rfl ?_
              go_simp
              exact hK _ _ ⟨b0, b1, b2, b3, true, b5, b6, b7, b8, b9, b10, b11, p2, m2, cap2, p3, m3, cap3, p5, m5, cap5, p6, m6, cap6, KL, rfl, rfl, hm, hm6, hm7, hw, g0, g2, g3, g5, g6⟩
            | 5, _, hk =>
              have hr := ready_at rfl hk
              clear hk
              simp [Region.binds, -Array.all_toList] at hr
              have e5 : b5 = false := by first | exact hr | exact hr.1 | exact hr.2 | exact hr.2.1 | exact hr.2.2 | exact hr.2.2.1 | exact hr.2.2.2 | exact hr.2.2.2.1 | exact hr.2.2.2.2 | exact hr.2.2.2.2.1 | exact hr.2.2.2.2.2 | exact hr.2.2.2.2.2.1 | exact hr.2.2.2.2.2.2 | exact hr.2.2.2.2.2.2.1 | exact hr.2.2.2.2.2.2.2 | exact hr.2.2.2.2.2.2.2.1 | exact hr.2.2.2.2.2.2.2.2 | exact hr.2.2.2.2.2.2.2.2.1 | exact hr.2.2.2.2.2.2.2.2.2 | exact hr.2.2.2.2.2.2.2.2.2.1 | exact hr.2.2.2.2.2.2.2.2.2.2 | exact hr.2.2.2.2.2.2.2.2.2.2.1 | exact hr.2.2.2.2.2.2.2.2.2.2.2 | exact hr.2.2.2.2.2.2.2.2.2.2.2.1 | exact hr.2.2.2.2.2.2.2.2.2.2.2.2 | exact hr.2.2.2.2.2.2.2.2.2.2.2.2.1 | exact hr.2.2.2.2.2.2.2.2.2.2.2.2.2 | exact hr.2.2.2.2.2.2.2.2.2.2.2.2.2.1 | exact hr.2.2.2.2.2.2.2.2.2.2.2.2.2.2 | exact hr.2.2.2.2.2.2.2.2.2.2.2.2.2.2.1 | exact hr.2.2.2.2.2.2.2.2.2.2.2.2.2.2.2 | exact hr.2.2.2.2.2.2.2.2.2.2.2.2.2.2.2.1 | exact hr.2.2.2.2.2.2.2.2.2.2.2.2.2.2.2.2
              have e3 : b3 = true := by first | exact hr | exact hr.1 | exact hr.2 | exact hr.2.1 | exact hr.2.2 | exact hr.2.2.1 | exact hr.2.2.2 | exact hr.2.2.2.1 | exact hr.2.2.2.2 | exact hr.2.2.2.2.1 | exact hr.2.2.2.2.2 | exact hr.2.2.2.2.2.1 | exact hr.2.2.2.2.2.2 | exact hr.2.2.2.2.2.2.1 | exact hr.2.2.2.2.2.2.2 | exact hr.2.2.2.2.2.2.2.1 | exact hr.2.2.2.2.2.2.2.2 | exact hr.2.2.2.2.2.2.2.2.1 | exact hr.2.2.2.2.2.2.2.2.2 | exact hr.2.2.2.2.2.2.2.2.2.1 | exact hr.2.2.2.2.2.2.2.2.2.2 | exact hr.2.2.2.2.2.2.2.2.2.2.1 | exact hr.2.2.2.2.2.2.2.2.2.2.2 | exact hr.2.2.2.2.2.2.2.2.2.2.2.1 | exact hr.2.2.2.2.2.2.2.2.2.2.2.2 | exact hr.2.2.2.2.2.2.2.2.2.2.2.2.1 | exact hr.2.2.2.2.2.2.2.2.2.2.2.2.2 | exact hr.2.2.2.2.2.2.2.2.2.2.2.2.2.1 | exact hr.2.2.2.2.2.2.2.2.2.2.2.2.2.2 | exact hr.2.2.2.2.2.2.2.2.2.2.2.2.2.2.1 | exact hr.2.2.2.2.2.2.2.2.2.2.2.2.2.2.2 | exact hr.2.2.2.2.2.2.2.2.2.2.2.2.2.2.2.1 | exact hr.2.2.2.2.2.2.2.2.2.2.2.2.2.2.2.2
              have e4 : b4 = true := by first | exact hr | exact hr.1 | exact hr.2 | exact hr.2.1 | exact hr.2.2 | exact hr.2.2.1 | exact hr.2.2.2 | exact hr.2.2.2.1 | exact hr.2.2.2.2 | exact hr.2.2.2.2.1 | exact hr.2.2.2.2.2 | exact hr.2.2.2.2.2.1 | exact hr.2.2.2.2.2.2 | exact hr.2.2.2.2.2.2.1 | exact hr.2.2.2.2.2.2.2 | exact hr.2.2.2.2.2.2.2.1 | exact hr.2.2.2.2.2.2.2.2 | exact hr.2.2.2.2.2.2.2.2.1 | exact hr.2.2.2.2.2.2.2.2.2 | exact hr.2.2.2.2.2.2.2.2.2.1 | exact hr.2.2.2.2.2.2.2.2.2.2 | exact hr.2.2.2.2.2.2.2.2.2.2.1 | exact hr.2.2.2.2.2.2.2.2.2.2.2 | exact hr.2.2.2.2.2.2.2.2.2.2.2.1 | exact hr.2.2.2.2.2.2.2.2.2.2.2.2 | exact hr.2.2.2.2.2.2.2.2.2.2.2.2.1 | exact hr.2.2.2.2.2.2.2.2.2.2.2.2.2 | exact hr.2.2.2.2.2.2.2.2.2.2.2.2.2.1 | exact hr.2.2.2.2.2.2.2.2.2.2.2.2.2.2 | exact hr.2.2.2.2.2.2.2.2.2.2.2.2.2.2.1 | exact hr.2.2.2.2.2.2.2.2.2.2.2.2.2.2.2 | exact hr.2.2.2.2.2.2.2.2.2.2.2.2.2.2.2.1 | exact hr.2.2.2.2.2.2.2.2.2.2.2.2.2.2.2.2
              clear hr
              subst e5 e3 e4
              refine wpOpIn_at rfl ?_
              go_simp
              refine ⟨trivial, (callsIn_wide.2 (hw.call hc hP hty hC hT hS hI (xs := #[.int .u64 X]) (h38 _ o2) hno1 rfl (fun Zz hk i hi => by match i, hi with | 0, _ => exact .int _ _))).mono ?_⟩
              rintro e w' ⟨p', m', cap', rfl, hw'⟩
              exact hK _ _ ⟨b0, b1, b2, true, true, true, b6, b7, b8, b9, b10, b11, p2, m2, cap2, p3, m3, cap3, p', m', cap', p6, m6, cap6, _, rfl, rfl, hm, hm6, hm7, hw', List.mem_cons_of_mem _ g0, (fun h => List.mem_cons_of_mem _ (g2 h)), (fun h => List.mem_cons_of_mem _ (g3 h)), (fun _ => List.mem_cons_self ..), (fun h => List.mem_cons_of_mem _ (g6 h))⟩
            | 6, _, hk =>
              have hr := ready_at rfl hk
              clear hk
              simp [Region.binds, -Array.all_toList] at hr
              have e10 : b10 = false := by cases b10 with | false => rfl | true => exact absurd (hm6 rfl) (by simp [hr])
              have e6 : b6 = false := by first | exact hr | exact hr.1 | exact hr.2 | exact hr.2.1 | exact hr.2.2 | exact hr.2.2.1 | exact hr.2.2.2 | exact hr.2.2.2.1 | exact hr.2.2.2.2 | exact hr.2.2.2.2.1 | exact hr.2.2.2.2.2 | exact hr.2.2.2.2.2.1 | exact hr.2.2.2.2.2.2 | exact hr.2.2.2.2.2.2.1 | exact hr.2.2.2.2.2.2.2 | exact hr.2.2.2.2.2.2.2.1 | exact hr.2.2.2.2.2.2.2.2 | exact hr.2.2.2.2.2.2.2.2.1 | exact hr.2.2.2.2.2.2.2.2.2 | exact hr.2.2.2.2.2.2.2.2.2.1 | exact hr.2.2.2.2.2.2.2.2.2.2 | exact hr.2.2.2.2.2.2.2.2.2.2.1 | exact hr.2.2.2.2.2.2.2.2.2.2.2 | exact hr.2.2.2.2.2.2.2.2.2.2.2.1 | exact hr.2.2.2.2.2.2.2.2.2.2.2.2 | exact hr.2.2.2.2.2.2.2.2.2.2.2.2.1 | exact hr.2.2.2.2.2.2.2.2.2.2.2.2.2 | exact hr.2.2.2.2.2.2.2.2.2.2.2.2.2.1 | exact hr.2.2.2.2.2.2.2.2.2.2.2.2.2.2 | exact hr.2.2.2.2.2.2.2.2.2.2.2.2.2.2.1 | exact hr.2.2.2.2.2.2.2.2.2.2.2.2.2.2.2 | exact hr.2.2.2.2.2.2.2.2.2.2.2.2.2.2.2.1 | exact hr.2.2.2.2.2.2.2.2.2.2.2.2.2.2.2.2
              have e3 : b3 = true := by first | exact hr | exact hr.1 | exact hr.2 | exact hr.2.1 | exact hr.2.2 | exact hr.2.2.1 | exact hr.2.2.2 | exact hr.2.2.2.1 | exact hr.2.2.2.2 | exact hr.2.2.2.2.1 | exact hr.2.2.2.2.2 | exact hr.2.2.2.2.2.1 | exact hr.2.2.2.2.2.2 | exact hr.2.2.2.2.2.2.1 | exact hr.2.2.2.2.2.2.2 | exact hr.2.2.2.2.2.2.2.1 | exact hr.2.2.2.2.2.2.2.2 | exact hr.2.2.2.2.2.2.2.2.1 | exact hr.2.2.2.2.2.2.2.2.2 | exact hr.2.2.2.2.2.2.2.2.2.1 | exact hr.2.2.2.2.2.2.2.2.2.2 | exact hr.2.2.2.2.2.2.2.2.2.2.1 | exact hr.2.2.2.2.2.2.2.2.2.2.2 | exact hr.2.2.2.2.2.2.2.2.2.2.2.1 | exact hr.2.2.2.2.2.2.2.2.2.2.2.2 | exact hr.2.2.2.2.2.2.2.2.2.2.2.2.1 | exact hr.2.2.2.2.2.2.2.2.2.2.2.2.2 | exact hr.2.2.2.2.2.2.2.2.2.2.2.2.2.1 | exact hr.2.2.2.2.2.2.2.2.2.2.2.2.2.2 | exact hr.2.2.2.2.2.2.2.2.2.2.2.2.2.2.1 | exact hr.2.2.2.2.2.2.2.2.2.2.2.2.2.2.2 | exact hr.2.2.2.2.2.2.2.2.2.2.2.2.2.2.2.1 | exact hr.2.2.2.2.2.2.2.2.2.2.2.2.2.2.2.2
              have e5 : b5 = true := by first | exact hr | exact hr.1 | exact hr.2 | exact hr.2.1 | exact hr.2.2 | exact hr.2.2.1 | exact hr.2.2.2 | exact hr.2.2.2.1 | exact hr.2.2.2.2 | exact hr.2.2.2.2.1 | exact hr.2.2.2.2.2 | exact hr.2.2.2.2.2.1 | exact hr.2.2.2.2.2.2 | exact hr.2.2.2.2.2.2.1 | exact hr.2.2.2.2.2.2.2 | exact hr.2.2.2.2.2.2.2.1 | exact hr.2.2.2.2.2.2.2.2 | exact hr.2.2.2.2.2.2.2.2.1 | exact hr.2.2.2.2.2.2.2.2.2 | exact hr.2.2.2.2.2.2.2.2.2.1 | exact hr.2.2.2.2.2.2.2.2.2.2 | exact hr.2.2.2.2.2.2.2.2.2.2.1 | exact hr.2.2.2.2.2.2.2.2.2.2.2 | exact hr.2.2.2.2.2.2.2.2.2.2.2.1 | exact hr.2.2.2.2.2.2.2.2.2.2.2.2 | exact hr.2.2.2.2.2.2.2.2.2.2.2.2.1 | exact hr.2.2.2.2.2.2.2.2.2.2.2.2.2 | exact hr.2.2.2.2.2.2.2.2.2.2.2.2.2.1 | exact hr.2.2.2.2.2.2.2.2.2.2.2.2.2.2 | exact hr.2.2.2.2.2.2.2.2.2.2.2.2.2.2.1 | exact hr.2.2.2.2.2.2.2.2.2.2.2.2.2.2.2 | exact hr.2.2.2.2.2.2.2.2.2.2.2.2.2.2.2.1 | exact hr.2.2.2.2.2.2.2.2.2.2.2.2.2.2.2.2
              clear hr
              subst e6 e3 e5 e10
              refine wpOpIn_at rfl ?_
              go_simp
              refine ⟨trivial, (callsIn_wide.2 (hw.call hc hP hty hC hT hS hI (xs := #[.agg #[.slice p3 m3 cap3], .agg #[.slice p5 m5 cap5]]) (h36 _ _ o4) hno2 rfl (fun Zz hk i hi => by match i, hi with | 0, _ => exact agg1_den (hk _ (g3 rfl)) | 1, _ => exact agg1_den (hk _ (g5 rfl))))).mono ?_⟩
              rintro e w' ⟨p', m', cap', rfl, hw'⟩
              exact hK _ _ ⟨b0, b1, b2, true, b4, true, true, b7, b8, b9, false, b11, p2, m2, cap2, p3, m3, cap3, p5, m5, cap5, p', m', cap', _, rfl, rfl, (fun h => by cases h), (fun h => by cases h), hm7, hw', List.mem_cons_of_mem _ g0, (fun h => List.mem_cons_of_mem _ (g2 h)), (fun h => List.mem_cons_of_mem _ (g3 h)), (fun h => List.mem_cons_of_mem _ (g5 h)), (fun _ => List.mem_cons_self ..)⟩
            | 7, _, hk =>
              have hr := ready_at rfl hk
              clear hk
              simp [Region.binds, -Array.all_toList] at hr
              have e11 : b11 = false := by cases b11 with | false => rfl | true => exact absurd (hm7 rfl) (by simp [hr])
              have e7 : b7 = false := by first | exact hr | exact hr.1 | exact hr.2 | exact hr.2.1 | exact hr.2.2 | exact hr.2.2.1 | exact hr.2.2.2 | exact hr.2.2.2.1 | exact hr.2.2.2.2 | exact hr.2.2.2.2.1 | exact hr.2.2.2.2.2 | exact hr.2.2.2.2.2.1 | exact hr.2.2.2.2.2.2 | exact hr.2.2.2.2.2.2.1 | exact hr.2.2.2.2.2.2.2 | exact hr.2.2.2.2.2.2.2.1 | exact hr.2.2.2.2.2.2.2.2 | exact hr.2.2.2.2.2.2.2.2.1 | exact hr.2.2.2.2.2.2.2.2.2 | exact hr.2.2.2.2.2.2.2.2.2.1 | exact hr.2.2.2.2.2.2.2.2.2.2 | exact hr.2.2.2.2.2.2.2.2.2.2.1 | exact hr.2.2.2.2.2.2.2.2.2.2.2 | exact hr.2.2.2.2.2.2.2.2.2.2.2.1 | exact hr.2.2.2.2.2.2.2.2.2.2.2.2 | exact hr.2.2.2.2.2.2.2.2.2.2.2.2.1 | exact hr.2.2.2.2.2.2.2.2.2.2.2.2.2 | exact hr.2.2.2.2.2.2.2.2.2.2.2.2.2.1 | exact hr.2.2.2.2.2.2.2.2.2.2.2.2.2.2 | exact hr.2.2.2.2.2.2.2.2.2.2.2.2.2.2.1 | exact hr.2.2.2.2.2.2.2.2.2.2.2.2.2.2.2 | exact hr.2.2.2.2.2.2.2.2.2.2.2.2.2.2.2.1 | exact hr.2.2.2.2.2.2.2.2.2.2.2.2.2.2.2.2
              clear hr
              subst e7 e11
              refine wpOpIn_at rfl ?_
              go_simp
              exact hK _ _ ⟨b0, b1, b2, b3, b4, b5, b6, true, b8, b9, b10, false, p2, m2, cap2, p3, m3, cap3, p5, m5, cap5, p6, m6, cap6, KL, rfl, rfl, hm, hm6, (fun h => by cases h), hw, g0, g2, g3, g5, g6⟩
            | 8, _, hk =>
              have hr := ready_at rfl hk
              clear hk
              simp [Region.binds, -Array.all_toList] at hr
              have e8 : b8 = false := by first | exact hr | exact hr.1 | exact hr.2 | exact hr.2.1 | exact hr.2.2 | exact hr.2.2.1 | exact hr.2.2.2 | exact hr.2.2.2.1 | exact hr.2.2.2.2 | exact hr.2.2.2.2.1 | exact hr.2.2.2.2.2 | exact hr.2.2.2.2.2.1 | exact hr.2.2.2.2.2.2 | exact hr.2.2.2.2.2.2.1 | exact hr.2.2.2.2.2.2.2 | exact hr.2.2.2.2.2.2.2.1 | exact hr.2.2.2.2.2.2.2.2 | exact hr.2.2.2.2.2.2.2.2.1 | exact hr.2.2.2.2.2.2.2.2.2 | exact hr.2.2.2.2.2.2.2.2.2.1 | exact hr.2.2.2.2.2.2.2.2.2.2 | exact hr.2.2.2.2.2.2.2.2.2.2.1 | exact hr.2.2.2.2.2.2.2.2.2.2.2 | exact hr.2.2.2.2.2.2.2.2.2.2.2.1 | exact hr.2.2.2.2.2.2.2.2.2.2.2.2 | exact hr.2.2.2.2.2.2.2.2.2.2.2.2.1 | exact hr.2.2.2.2.2.2.2.2.2.2.2.2.2 | exact hr.2.2.2.2.2.2.2.2.2.2.2.2.2.1 | exact hr.2.2.2.2.2.2.2.2.2.2.2.2.2.2 | exact hr.2.2.2.2.2.2.2.2.2.2.2.2.2.2.1 | exact hr.2.2.2.2.2.2.2.2.2.2.2.2.2.2.2 | exact hr.2.2.2.2.2.2.2.2.2.2.2.2.2.2.2.1 | exact hr.2.2.2.2.2.2.2.2.2.2.2.2.2.2.2.2
              clear hr
              subst e8
              refine wpOpIn_at rfl ?_
              go_simp
              exact hK _ _ ⟨b0, b1, b2, b3, b4, b5, b6, b7, true, b9, b10, b11, p2, m2, cap2, p3, m3, cap3, p5, m5, cap5, p6, m6, cap6, KL, rfl, rfl, hm, hm6, hm7, hw, g0, g2, g3, g5, g6⟩
            | 9, _, hk =>
              have hr := ready_at rfl hk
              clear hk
              simp [Region.binds, -Array.all_toList] at hr
              have e9 : b9 = false := by first | exact hr | exact hr.1 | exact hr.2 | exact hr.2.1 | exact hr.2.2 | exact hr.2.2.1 | exact hr.2.2.2 | exact hr.2.2.2.1 | exact hr.2.2.2.2 | exact hr.2.2.2.2.1 | exact hr.2.2.2.2.2 | exact hr.2.2.2.2.2.1 | exact hr.2.2.2.2.2.2 | exact hr.2.2.2.2.2.2.1 | exact hr.2.2.2.2.2.2.2 | exact hr.2.2.2.2.2.2.2.1 | exact hr.2.2.2.2.2.2.2.2 | exact hr.2.2.2.2.2.2.2.2.1 | exact hr.2.2.2.2.2.2.2.2.2 | exact hr.2.2.2.2.2.2.2.2.2.1 | exact hr.2.2.2.2.2.2.2.2.2.2 | exact hr.2.2.2.2.2.2.2.2.2.2.1 | exact hr.2.2.2.2.2.2.2.2.2.2.2 | exact hr.2.2.2.2.2.2.2.2.2.2.2.1 | exact hr.2.2.2.2.2.2.2.2.2.2.2.2 | exact hr.2.2.2.2.2.2.2.2.2.2.2.2.1 | exact hr.2.2.2.2.2.2.2.2.2.2.2.2.2 | exact hr.2.2.2.2.2.2.2.2.2.2.2.2.2.1 | exact hr.2.2.2.2.2.2.2.2.2.2.2.2.2.2 | exact hr.2.2.2.2.2.2.2.2.2.2.2.2.2.2.1 | exact hr.2.2.2.2.2.2.2.2.2.2.2.2.2.2.2 | exact hr.2.2.2.2.2.2.2.2.2.2.2.2.2.2.2.1 | exact hr.2.2.2.2.2.2.2.2.2.2.2.2.2.2.2.2
              have e7 : b7 = true := by first | exact hr | exact hr.1 | exact hr.2 | exact hr.2.1 | exact hr.2.2 | exact hr.2.2.1 | exact hr.2.2.2 | exact hr.2.2.2.1 | exact hr.2.2.2.2 | exact hr.2.2.2.2.1 | exact hr.2.2.2.2.2 | exact hr.2.2.2.2.2.1 | exact hr.2.2.2.2.2.2 | exact hr.2.2.2.2.2.2.1 | exact hr.2.2.2.2.2.2.2 | exact hr.2.2.2.2.2.2.2.1 | exact hr.2.2.2.2.2.2.2.2 | exact hr.2.2.2.2.2.2.2.2.1 | exact hr.2.2.2.2.2.2.2.2.2 | exact hr.2.2.2.2.2.2.2.2.2.1 | exact hr.2.2.2.2.2.2.2.2.2.2 | exact hr.2.2.2.2.2.2.2.2.2.2.1 | exact hr.2.2.2.2.2.2.2.2.2.2.2 | exact hr.2.2.2.2.2.2.2.2.2.2.2.1 | exact hr.2.2.2.2.2.2.2.2.2.2.2.2 | exact hr.2.2.2.2.2.2.2.2.2.2.2.2.1 | exact hr.2.2.2.2.2.2.2.2.2.2.2.2.2 | exact hr.2.2.2.2.2.2.2.2.2.2.2.2.2.1 | exact hr.2.2.2.2.2.2.2.2.2.2.2.2.2.2 | exact hr.2.2.2.2.2.2.2.2.2.2.2.2.2.2.1 | exact hr.2.2.2.2.2.2.2.2.2.2.2.2.2.2.2 | exact hr.2.2.2.2.2.2.2.2.2.2.2.2.2.2.2.1 | exact hr.2.2.2.2.2.2.2.2.2.2.2.2.2.2.2.2
              have e8 : b8 = true := by first | exact hr | exact hr.1 | exact hr.2 | exact hr.2.1 | exact hr.2.2 | exact hr.2.2.1 | exact hr.2.2.2 | exact hr.2.2.2.1 | exact hr.2.2.2.2 | exact hr.2.2.2.2.1 | exact hr.2.2.2.2.2 | exact hr.2.2.2.2.2.1 | exact hr.2.2.2.2.2.2 | exact hr.2.2.2.2.2.2.1 | exact hr.2.2.2.2.2.2.2 | exact hr.2.2.2.2.2.2.2.1 | exact hr.2.2.2.2.2.2.2.2 | exact hr.2.2.2.2.2.2.2.2.1 | exact hr.2.2.2.2.2.2.2.2.2 | exact hr.2.2.2.2.2.2.2.2.2.1 | exact hr.2.2.2.2.2.2.2.2.2.2 | exact hr.2.2.2.2.2.2.2.2.2.2.1 | exact hr.2.2.2.2.2.2.2.2.2.2.2 | exact hr.2.2.2.2.2.2.2.2.2.2.2.1 | exact hr.2.2.2.2.2.2.2.2.2.2.2.2 | exact hr.2.2.2.2.2.2.2.2.2.2.2.2.1 | exact hr.2.2.2.2.2.2.2.2.2.2.2.2.2 | exact hr.2.2.2.2.2.2.2.2.2.2.2.2.2.1 | exact hr.2.2.2.2.2.2.2.2.2.2.2.2.2.2 | exact hr.2.2.2.2.2.2.2.2.2.2.2.2.2.2.1 | exact hr.2.2.2.2.2.2.2.2.2.2.2.2.2.2.2 | exact hr.2.2.2.2.2.2.2.2.2.2.2.2.2.2.2.1 | exact hr.2.2.2.2.2.2.2.2.2.2.2.2.2.2.2.2
              clear hr
              subst e9 e7 e8
              refine wpOpIn_at rfl ?_
              go_simp
              exact hK _ _ ⟨b0, b1, b2, b3, b4, b5, b6, true, true, true, b10, b11, p2, m2, cap2, p3, m3, cap3, p5, m5, cap5, p6, m6, cap6, KL, rfl, rfl, hm, hm6, (fun _ => rfl), hw, g0, g2, g3, g5, g6⟩
            | 10, _, hk =>
              have hr := ready_at rfl hk
              clear hk
              simp [Region.binds, -Array.all_toList] at hr
              have e10 : b10 = false := by first | exact hr | exact hr.1 | exact hr.2 | exact hr.2.1 | exact hr.2.2 | exact hr.2.2.1 | exact hr.2.2.2 | exact hr.2.2.2.1 | exact hr.2.2.2.2 | exact hr.2.2.2.2.1 | exact hr.2.2.2.2.2 | exact hr.2.2.2.2.2.1 | exact hr.2.2.2.2.2.2 | exact hr.2.2.2.2.2.2.1 | exact hr.2.2.2.2.2.2.2 | exact hr.2.2.2.2.2.2.2.1 | exact hr.2.2.2.2.2.2.2.2 | exact hr.2.2.2.2.2.2.2.2.1 | exact hr.2.2.2.2.2.2.2.2.2 | exact hr.2.2.2.2.2.2.2.2.2.1 | exact hr.2.2.2.2.2.2.2.2.2.2 | exact hr.2.2.2.2.2.2.2.2.2.2.1 | exact hr.2.2.2.2.2.2.2.2.2.2.2 | exact hr.2.2.2.2.2.2.2.2.2.2.2.1 | exact hr.2.2.2.2.2.2.2.2.2.2.2.2 | exact hr.2.2.2.2.2.2.2.2.2.2.2.2.1 | exact hr.2.2.2.2.2.2.2.2.2.2.2.2.2 | exact hr.2.2.2.2.2.2.2.2.2.2.2.2.2.1 | exact hr.2.2.2.2.2.2.2.2.2.2.2.2.2.2 | exact hr.2.2.2.2.2.2.2.2.2.2.2.2.2.2.1 | exact hr.2.2.2.2.2.2.2.2.2.2.2.2.2.2.2 | exact hr.2.2.2.2.2.2.2.2.2.2.2.2.2.2.2.1 | exact hr.2.2.2.2.2.2.2.2.2.2.2.2.2.2.2.2
              have e0 : b0 = true := by first | exact hr | exact hr.1 | exact hr.2 | exact hr.2.1 | exact hr.2.2 | exact hr.2.2.1 | exact hr.2.2.2 | exact hr.2.2.2.1 | exact hr.2.2.2.2 | exact hr.2.2.2.2.1 | exact hr.2.2.2.2.2 | exact hr.2.2.2.2.2.1 | exact hr.2.2.2.2.2.2 | exact hr.2.2.2.2.2.2.1 | exact hr.2.2.2.2.2.2.2 | exact hr.2.2.2.2.2.2.2.1 | exact hr.2.2.2.2.2.2.2.2 | exact hr.2.2.2.2.2.2.2.2.1 | exact hr.2.2.2.2.2.2.2.2.2 | exact hr.2.2.2.2.2.2.2.2.2.1 | exact hr.2.2.2.2.2.2.2.2.2.2 | exact hr.2.2.2.2.2.2.2.2.2.2.1 | exact hr.2.2.2.2.2.2.2.2.2.2.2 | exact hr.2.2.2.2.2.2.2.2.2.2.2.1 | exact hr.2.2.2.2.2.2.2.2.2.2.2.2 | exact hr.2.2.2.2.2.2.2.2.2.2.2.2.1 | exact hr.2.2.2.2.2.2.2.2.2.2.2.2.2 | exact hr.2.2.2.2.2.2.2.2.2.2.2.2.2.1 | exact hr.2.2.2.2.2.2.2.2.2.2.2.2.2.2 | exact hr.2.2.2.2.2.2.2.2.2.2.2.2.2.2.1 | exact hr.2.2.2.2.2.2.2.2.2.2.2.2.2.2.2 | exact hr.2.2.2.2.2.2.2.2.2.2.2.2.2.2.2.1 | exact hr.2.2.2.2.2.2.2.2.2.2.2.2.2.2.2.2
              have e1 : b1 = true := by first | exact hr | exact hr.1 | exact hr.2 | exact hr.2.1 | exact hr.2.2 | exact hr.2.2.1 | exact hr.2.2.2 | exact hr.2.2.2.1 | exact hr.2.2.2.2 | exact hr.2.2.2.2.1 | exact hr.2.2.2.2.2 | exact hr.2.2.2.2.2.1 | exact hr.2.2.2.2.2.2 | exact hr.2.2.2.2.2.2.1 | exact hr.2.2.2.2.2.2.2 | exact hr.2.2.2.2.2.2.2.1 | exact hr.2.2.2.2.2.2.2.2 | exact hr.2.2.2.2.2.2.2.2.1 | exact hr.2.2.2.2.2.2.2.2.2 | exact hr.2.2.2.2.2.2.2.2.2.1 | exact hr.2.2.2.2.2.2.2.2.2.2 | exact hr.2.2.2.2.2.2.2.2.2.2.1 | exact hr.2.2.2.2.2.2.2.2.2.2.2 | exact hr.2.2.2.2.2.2.2.2.2.2.2.1 | exact hr.2.2.2.2.2.2.2.2.2.2.2.2 | exact hr.2.2.2.2.2.2.2.2.2.2.2.2.1 | exact hr.2.2.2.2.2.2.2.2.2.2.2.2.2 | exact hr.2.2.2.2.2.2.2.2.2.2.2.2.2.1 | exact hr.2.2.2.2.2.2.2.2.2.2.2.2.2.2 | exact hr.2.2.2.2.2.2.2.2.2.2.2.2.2.2.1 | exact hr.2.2.2.2.2.2.2.2.2.2.2.2.2.2.2 | exact hr.2.2.2.2.2.2.2.2.2.2.2.2.2.2.2.1 | exact hr.2.2.2.2.2.2.2.2.2.2.2.2.2.2.2.2
              have e2 : b2 = true := by first | exact hr | exact hr.1 | exact hr.2 | exact hr.2.1 | exact hr.2.2 | exact hr.2.2.1 | exact hr.2.2.2 | exact hr.2.2.2.1 | exact hr.2.2.2.2 | exact hr.2.2.2.2.1 | exact hr.2.2.2.2.2 | exact hr.2.2.2.2.2.1 | exact hr.2.2.2.2.2.2 | exact hr.2.2.2.2.2.2.1 | exact hr.2.2.2.2.2.2.2 | exact hr.2.2.2.2.2.2.2.1 | exact hr.2.2.2.2.2.2.2.2 | exact hr.2.2.2.2.2.2.2.2.1 | exact hr.2.2.2.2.2.2.2.2.2 | exact hr.2.2.2.2.2.2.2.2.2.1 | exact hr.2.2.2.2.2.2.2.2.2.2 | exact hr.2.2.2.2.2.2.2.2.2.2.1 | exact hr.2.2.2.2.2.2.2.2.2.2.2 | exact hr.2.2.2.2.2.2.2.2.2.2.2.1 | exact hr.2.2.2.2.2.2.2.2.2.2.2.2 | exact hr.2.2.2.2.2.2.2.2.2.2.2.2.1 | exact hr.2.2.2.2.2.2.2.2.2.2.2.2.2 | exact hr.2.2.2.2.2.2.2.2.2.2.2.2.2.1 | exact hr.2.2.2.2.2.2.2.2.2.2.2.2.2.2 | exact hr.2.2.2.2.2.2.2.2.2.2.2.2.2.2.1 | exact hr.2.2.2.2.2.2.2.2.2.2.2.2.2.2.2 | exact hr.2.2.2.2.2.2.2.2.2.2.2.2.2.2.2.1 | exact hr.2.2.2.2.2.2.2.2.2.2.2.2.2.2.2.2
              have e3 : b3 = true := by first | exact hr | exact hr.1 | exact hr.2 | exact hr.2.1 | exact hr.2.2 | exact hr.2.2.1 | exact hr.2.2.2 | exact hr.2.2.2.1 | exact hr.2.2.2.2 | exact hr.2.2.2.2.1 | exact hr.2.2.2.2.2 | exact hr.2.2.2.2.2.1 | exact hr.2.2.2.2.2.2 | exact hr.2.2.2.2.2.2.1 | exact hr.2.2.2.2.2.2.2 | exact hr.2.2.2.2.2.2.2.1 | exact hr.2.2.2.2.2.2.2.2 | exact hr.2.2.2.2.2.2.2.2.1 | exact hr.2.2.2.2.2.2.2.2.2 | exact hr.2.2.2.2.2.2.2.2.2.1 | exact hr.2.2.2.2.2.2.2.2.2.2 | exact hr.2.2.2.2.2.2.2.2.2.2.1 | exact hr.2.2.2.2.2.2.2.2.2.2.2 | exact hr.2.2.2.2.2.2.2.2.2.2.2.1 | exact hr.2.2.2.2.2.2.2.2.2.2.2.2 | exact hr.2.2.2.2.2.2.2.2.2.2.2.2.1 | exact hr.2.2.2.2.2.2.2.2.2.2.2.2.2 | exact hr.2.2.2.2.2.2.2.2.2.2.2.2.2.1 | exact hr.2.2.2.2.2.2.2.2.2.2.2.2.2.2 | exact hr.2.2.2.2.2.2.2.2.2.2.2.2.2.2.1 | exact hr.2.2.2.2.2.2.2.2.2.2.2.2.2.2.2 | exact hr.2.2.2.2.2.2.2.2.2.2.2.2.2.2.2.1 | exact hr.2.2.2.2.2.2.2.2.2.2.2.2.2.2.2.2
              have e4 : b4 = true := by first | exact hr | exact hr.1 | exact hr.2 | exact hr.2.1 | exact hr.2.2 | exact hr.2.2.1 | exact hr.2.2.2 | exact hr.2.2.2.1 | exact hr.2.2.2.2 | exact hr.2.2.2.2.1 | exact hr.2.2.2.2.2 | exact hr.2.2.2.2.2.1 | exact hr.2.2.2.2.2.2 | exact hr.2.2.2.2.2.2.1 | exact hr.2.2.2.2.2.2.2 | exact hr.2.2.2.2.2.2.2.1 | exact hr.2.2.2.2.2.2.2.2 | exact hr.2.2.2.2.2.2.2.2.1 | exact hr.2.2.2.2.2.2.2.2.2 | exact hr.2.2.2.2.2.2.2.2.2.1 | exact hr.2.2.2.2.2.2.2.2.2.2 | exact hr.2.2.2.2.2.2.2.2.2.2.1 | exact hr.2.2.2.2.2.2.2.2.2.2.2 | exact hr.2.2.2.2.2.2.2.2.2.2.2.1 | exact hr.2.2.2.2.2.2.2.2.2.2.2.2 | exact hr.2.2.2.2.2.2.2.2.2.2.2.2.1 | exact hr.2.2.2.2.2.2.2.2.2.2.2.2.2 | exact hr.2.2.2.2.2.2.2.2.2.2.2.2.2.1 | exact hr.2.2.2.2.2.2.2.2.2.2.2.2.2.2 | exact hr.2.2.2.2.2.2.2.2.2.2.2.2.2.2.1 | exact hr.2.2.2.2.2.2.2.2.2.2.2.2.2.2.2 | exact hr.2.2.2.2.2.2.2.2.2.2.2.2.2.2.2.1 | exact hr.2.2.2.2.2.2.2.2.2.2.2.2.2.2.2.2
              have e5 : b5 = true := by first | exact hr | exact hr.1 | exact hr.2 | exact hr.2.1 | exact hr.2.2 | exact hr.2.2.1 | exact hr.2.2.2 | exact hr.2.2.2.1 | exact hr.2.2.2.2 | exact hr.2.2.2.2.1 | exact hr.2.2.2.2.2 | exact hr.2.2.2.2.2.1 | exact hr.2.2.2.2.2.2 | exact hr.2.2.2.2.2.2.1 | exact hr.2.2.2.2.2.2.2 | exact hr.2.2.2.2.2.2.2.1 | exact hr.2.2.2.2.2.2.2.2 | exact hr.2.2.2.2.2.2.2.2.1 | exact hr.2.2.2.2.2.2.2.2.2 | exact hr.2.2.2.2.2.2.2.2.2.1 | exact hr.2.2.2.2.2.2.2.2.2.2 | exact hr.2.2.2.2.2.2.2.2.2.2.1 | exact hr.2.2.2.2.2.2.2.2.2.2.2 | exact hr.2.2.2.2.2.2.2.2.2.2.2.1 | exact hr.2.2.2.2.2.2.2.2.2.2.2.2 | exact hr.2.2.2.2.2.2.2.2.2.2.2.2.1 | exact hr.2.2.2.2.2.2.2.2.2.2.2.2.2 | exact hr.2.2.2.2.2.2.2.2.2.2.2.2.2.1 | exact hr.2.2.2.2.2.2.2.2.2.2.2.2.2.2 | exact hr.2.2.2.2.2.2.2.2.2.2.2.2.2.2.1 | exact hr.2.2.2.2.2.2.2.2.2.2.2.2.2.2.2 | exact hr.2.2.2.2.2.2.2.2.2.2.2.2.2.2.2.1 | exact hr.2.2.2.2.2.2.2.2.2.2.2.2.2.2.2.2
              have e6 : b6 = true := by first | exact hr | exact hr.1 | exact hr.2 | exact hr.2.1 | exact hr.2.2 | exact hr.2.2.1 | exact hr.2.2.2 | exact hr.2.2.2.1 | exact hr.2.2.2.2 | exact hr.2.2.2.2.1 | exact hr.2.2.2.2.2 | exact hr.2.2.2.2.2.1 | exact hr.2.2.2.2.2.2 | exact hr.2.2.2.2.2.2.1 | exact hr.2.2.2.2.2.2.2 | exact hr.2.2.2.2.2.2.2.1 | exact hr.2.2.2.2.2.2.2.2 | exact hr.2.2.2.2.2.2.2.2.1 | exact hr.2.2.2.2.2.2.2.2.2 | exact hr.2.2.2.2.2.2.2.2.2.1 | exact hr.2.2.2.2.2.2.2.2.2.2 | exact hr.2.2.2.2.2.2.2.2.2.2.1 | exact hr.2.2.2.2.2.2.2.2.2.2.2 | exact hr.2.2.2.2.2.2.2.2.2.2.2.1 | exact hr.2.2.2.2.2.2.2.2.2.2.2.2 | exact hr.2.2.2.2.2.2.2.2.2.2.2.2.1 | exact hr.2.2.2.2.2.2.2.2.2.2.2.2.2 | exact hr.2.2.2.2.2.2.2.2.2.2.2.2.2.1 | exact hr.2.2.2.2.2.2.2.2.2.2.2.2.2.2 | exact hr.2.2.2.2.2.2.2.2.2.2.2.2.2.2.1 | exact hr.2.2.2.2.2.2.2.2.2.2.2.2.2.2.2 | exact hr.2.2.2.2.2.2.2.2.2.2.2.2.2.2.2.1 | exact hr.2.2.2.2.2.2.2.2.2.2.2.2.2.2.2.2
              clear hr
              subst e10 e0 e1 e2 e3 e4 e5 e6
              refine wpOpIn_at rfl ?_
              go_simp
              exact hK _ _ ⟨true, true, true, true, true, true, true, b7, b8, b9, true, b11, p2, m2, cap2, p3, m3, cap3, p5, m5, cap5, p6, m6, cap6, KL, rfl, rfl, (fun _ => rfl), (fun _ => rfl), hm7, hw.store hty hC hS _, g0, g2, g3, g5, g6⟩
            | 11, _, hk =>
              have hr := ready_at rfl hk
              clear hk
              simp [Region.binds, -Array.all_toList] at hr
              have e11 : b11 = false := by first | exact hr | exact hr.1 | exact hr.2 | exact hr.2.1 | exact hr.2.2 | exact hr.2.2.1 | exact hr.2.2.2 | exact hr.2.2.2.1 | exact hr.2.2.2.2 | exact hr.2.2.2.2.1 | exact hr.2.2.2.2.2 | exact hr.2.2.2.2.2.1 | exact hr.2.2.2.2.2.2 | exact hr.2.2.2.2.2.2.1 | exact hr.2.2.2.2.2.2.2 | exact hr.2.2.2.2.2.2.2.1 | exact hr.2.2.2.2.2.2.2.2 | exact hr.2.2.2.2.2.2.2.2.1 | exact hr.2.2.2.2.2.2.2.2.2 | exact hr.2.2.2.2.2.2.2.2.2.1 | exact hr.2.2.2.2.2.2.2.2.2.2 | exact hr.2.2.2.2.2.2.2.2.2.2.1 | exact hr.2.2.2.2.2.2.2.2.2.2.2 | exact hr.2.2.2.2.2.2.2.2.2.2.2.1 | exact hr.2.2.2.2.2.2.2.2.2.2.2.2 | exact hr.2.2.2.2.2.2.2.2.2.2.2.2.1 | exact hr.2.2.2.2.2.2.2.2.2.2.2.2.2 | exact hr.2.2.2.2.2.2.2.2.2.2.2.2.2.1 | exact hr.2.2.2.2.2.2.2.2.2.2.2.2.2.2 | exact hr.2.2.2.2.2.2.2.2.2.2.2.2.2.2.1 | exact hr.2.2.2.2.2.2.2.2.2.2.2.2.2.2.2 | exact hr.2.2.2.2.2.2.2.2.2.2.2.2.2.2.2.1 | exact hr.2.2.2.2.2.2.2.2.2.2.2.2.2.2.2.2
              have e0 : b0 = true := by first | exact hr | exact hr.1 | exact hr.2 | exact hr.2.1 | exact hr.2.2 | exact hr.2.2.1 | exact hr.2.2.2 | exact hr.2.2.2.1 | exact hr.2.2.2.2 | exact hr.2.2.2.2.1 | exact hr.2.2.2.2.2 | exact hr.2.2.2.2.2.1 | exact hr.2.2.2.2.2.2 | exact hr.2.2.2.2.2.2.1 | exact hr.2.2.2.2.2.2.2 | exact hr.2.2.2.2.2.2.2.1 | exact hr.2.2.2.2.2.2.2.2 | exact hr.2.2.2.2.2.2.2.2.1 | exact hr.2.2.2.2.2.2.2.2.2 | exact hr.2.2.2.2.2.2.2.2.2.1 | exact hr.2.2.2.2.2.2.2.2.2.2 | exact hr.2.2.2.2.2.2.2.2.2.2.1 | exact hr.2.2.2.2.2.2.2.2.2.2.2 | exact hr.2.2.2.2.2.2.2.2.2.2.2.1 | exact hr.2.2.2.2.2.2.2.2.2.2.2.2 | exact hr.2.2.2.2.2.2.2.2.2.2.2.2.1 | exact hr.2.2.2.2.2.2.2.2.2.2.2.2.2 | exact hr.2.2.2.2.2.2.2.2.2.2.2.2.2.1 | exact hr.2.2.2.2.2.2.2.2.2.2.2.2.2.2 | exact hr.2.2.2.2.2.2.2.2.2.2.2.2.2.2.1 | exact hr.2.2.2.2.2.2.2.2.2.2.2.2.2.2.2 | exact hr.2.2.2.2.2.2.2.2.2.2.2.2.2.2.2.1 | exact hr.2.2.2.2.2.2.2.2.2.2.2.2.2.2.2.2
              have e1 : b1 = true := by first | exact hr | exact hr.1 | exact hr.2 | exact hr.2.1 | exact hr.2.2 | exact hr.2.2.1 | exact hr.2.2.2 | exact hr.2.2.2.1 | exact hr.2.2.2.2 | exact hr.2.2.2.2.1 | exact hr.2.2.2.2.2 | exact hr.2.2.2.2.2.1 | exact hr.2.2.2.2.2.2 | exact hr.2.2.2.2.2.2.1 | exact hr.2.2.2.2.2.2.2 | exact hr.2.2.2.2.2.2.2.1 | exact hr.2.2.2.2.2.2.2.2 | exact hr.2.2.2.2.2.2.2.2.1 | exact hr.2.2.2.2.2.2.2.2.2 | exact hr.2.2.2.2.2.2.2.2.2.1 | exact hr.2.2.2.2.2.2.2.2.2.2 | exact hr.2.2.2.2.2.2.2.2.2.2.1 | exact hr.2.2.2.2.2.2.2.2.2.2.2 | exact hr.2.2.2.2.2.2.2.2.2.2.2.1 | exact hr.2.2.2.2.2.2.2.2.2.2.2.2 | exact hr.2.2.2.2.2.2.2.2.2.2.2.2.1 | exact hr.2.2.2.2.2.2.2.2.2.2.2.2.2 | exact hr.2.2.2.2.2.2.2.2.2.2.2.2.2.1 | exact hr.2.2.2.2.2.2.2.2.2.2.2.2.2.2 | exact hr.2.2.2.2.2.2.2.2.2.2.2.2.2.2.1 | exact hr.2.2.2.2.2.2.2.2.2.2.2.2.2.2.2 | exact hr.2.2.2.2.2.2.2.2.2.2.2.2.2.2.2.1 | exact hr.2.2.2.2.2.2.2.2.2.2.2.2.2.2.2.2
              have e2 : b2 = true := by first | exact hr | exact hr.1 | exact hr.2 | exact hr.2.1 | exact hr.2.2 | exact hr.2.2.1 | exact hr.2.2.2 | exact hr.2.2.2.1 | exact hr.2.2.2.2 | exact hr.2.2.2.2.1 | exact hr.2.2.2.2.2 | exact hr.2.2.2.2.2.1 | exact hr.2.2.2.2.2.2 | exact hr.2.2.2.2.2.2.1 | exact hr.2.2.2.2.2.2.2 | exact hr.2.2.2.2.2.2.2.1 | exact hr.2.2.2.2.2.2.2.2 | exact hr.2.2.2.2.2.2.2.2.1 | exact hr.2.2.2.2.2.2.2.2.2 | exact hr.2.2.2.2.2.2.2.2.2.1 | exact hr.2.2.2.2.2.2.2.2.2.2 | exact hr.2.2.2.2.2.2.2.2.2.2.1 | exact hr.2.2.2.2.2.2.2.2.2.2.2 | exact hr.2.2.2.2.2.2.2.2.2.2.2.1 | exact hr.2.2.2.2.2.2.2.2.2.2.2.2 | exact hr.2.2.2.2.2.2.2.2.2.2.2.2.1 | exact hr.2.2.2.2.2.2.2.2.2.2.2.2.2 | exact hr.2.2.2.2.2.2.2.2.2.2.2.2.2.1 | exact hr.2.2.2.2.2.2.2.2.2.2.2.2.2.2 | exact hr.2.2.2.2.2.2.2.2.2.2.2.2.2.2.1 | exact hr.2.2.2.2.2.2.2.2.2.2.2.2.2.2.2 | exact hr.2.2.2.2.2.2.2.2.2.2.2.2.2.2.2.1 | exact hr.2.2.2.2.2.2.2.2.2.2.2.2.2.2.2.2
              have e3 : b3 = true := by first | exact hr | exact hr.1 | exact hr.2 | exact hr.2.1 | exact hr.2.2 | exact hr.2.2.1 | exact hr.2.2.2 | exact hr.2.2.2.1 | exact hr.2.2.2.2 | exact hr.2.2.2.2.1 | exact hr.2.2.2.2.2 | exact hr.2.2.2.2.2.1 | exact hr.2.2.2.2.2.2 | exact hr.2.2.2.2.2.2.1 | exact hr.2.2.2.2.2.2.2 | exact hr.2.2.2.2.2.2.2.1 | exact hr.2.2.2.2.2.2.2.2 | exact hr.2.2.2.2.2.2.2.2.1 | exact hr.2.2.2.2.2.2.2.2.2 | exact hr.2.2.2.2.2.2.2.2.2.1 | exact hr.2.2.2.2.2.2.2.2.2.2 | exact hr.2.2.2.2.2.2.2.2.2.2.1 | exact hr.2.2.2.2.2.2.2.2.2.2.2 | exact hr.2.2.2.2.2.2.2.2.2.2.2.1 | exact hr.2.2.2.2.2.2.2.2.2.2.2.2 | exact hr.2.2.2.2.2.2.2.2.2.2.2.2.1 | exact hr.2.2.2.2.2.2.2.2.2.2.2.2.2 | exact hr.2.2.2.2.2.2.2.2.2.2.2.2.2.1 | exact hr.2.2.2.2.2.2.2.2.2.2.2.2.2.2 | exact hr.2.2.2.2.2.2.2.2.2.2.2.2.2.2.1 | exact hr.2.2.2.2.2.2.2.2.2.2.2.2.2.2.2 | exact hr.2.2.2.2.2.2.2.2.2.2.2.2.2.2.2.1 | exact hr.2.2.2.2.2.2.2.2.2.2.2.2.2.2.2.2
              have e4 : b4 = true := by first | exact hr | exact hr.1 | exact hr.2 | exact hr.2.1 | exact hr.2.2 | exact hr.2.2.1 | exact hr.2.2.2 | exact hr.2.2.2.1 | exact hr.2.2.2.2 | exact hr.2.2.2.2.1 | exact hr.2.2.2.2.2 | exact hr.2.2.2.2.2.1 | exact hr.2.2.2.2.2.2 | exact hr.2.2.2.2.2.2.1 | exact hr.2.2.2.2.2.2.2 | exact hr.2.2.2.2.2.2.2.1 | exact hr.2.2.2.2.2.2.2.2 | exact hr.2.2.2.2.2.2.2.2.1 | exact hr.2.2.2.2.2.2.2.2.2 | exact hr.2.2.2.2.2.2.2.2.2.1 | exact hr.2.2.2.2.2.2.2.2.2.2 | exact hr.2.2.2.2.2.2.2.2.2.2.1 | exact hr.2.2.2.2.2.2.2.2.2.2.2 | exact hr.2.2.2.2.2.2.2.2.2.2.2.1 | exact hr.2.2.2.2.2.2.2.2.2.2.2.2 | exact hr.2.2.2.2.2.2.2.2.2.2.2.2.1 | exact hr.2.2.2.2.2.2.2.2.2.2.2.2.2 | exact hr.2.2.2.2.2.2.2.2.2.2.2.2.2.1 | exact hr.2.2.2.2.2.2.2.2.2.2.2.2.2.2 | exact hr.2.2.2.2.2.2.2.2.2.2.2.2.2.2.1 | exact hr.2.2.2.2.2.2.2.2.2.2.2.2.2.2.2 | exact hr.2.2.2.2.2.2.2.2.2.2.2.2.2.2.2.1 | exact hr.2.2.2.2.2.2.2.2.2.2.2.2.2.2.2.2
              have e5 : b5 = true := by first | exact hr | exact hr.1 | exact hr.2 | exact hr.2.1 | exact hr.2.2 | exact hr.2.2.1 | exact hr.2.2.2 | exact hr.2.2.2.1 | exact hr.2.2.2.2 | exact hr.2.2.2.2.1 | exact hr.2.2.2.2.2 | exact hr.2.2.2.2.2.1 | exact hr.2.2.2.2.2.2 | exact hr.2.2.2.2.2.2.1 | exact hr.2.2.2.2.2.2.2 | exact hr.2.2.2.2.2.2.2.1 | exact hr.2.2.2.2.2.2.2.2 | exact hr.2.2.2.2.2.2.2.2.1 | exact hr.2.2.2.2.2.2.2.2.2 | exact hr.2.2.2.2.2.2.2.2.2.1 | exact hr.2.2.2.2.2.2.2.2.2.2 | exact hr.2.2.2.2.2.2.2.2.2.2.1 | exact hr.2.2.2.2.2.2.2.2.2.2.2 | exact hr.2.2.2.2.2.2.2.2.2.2.2.1 | exact hr.2.2.2.2.2.2.2.2.2.2.2.2 | exact hr.2.2.2.2.2.2.2.2.2.2.2.2.1 | exact hr.2.2.2.2.2.2.2.2.2.2.2.2.2 | exact hr.2.2.2.2.2.2.2.2.2.2.2.2.2.1 | exact hr.2.2.2.2.2.2.2.2.2.2.2.2.2.2 | exact hr.2.2.2.2.2.2.2.2.2.2.2.2.2.2.1 | exact hr.2.2.2.2.2.2.2.2.2.2.2.2.2.2.2 | exact hr.2.2.2.2.2.2.2.2.2.2.2.2.2.2.2.1 | exact hr.2.2.2.2.2.2.2.2.2.2.2.2.2.2.2.2
              have e6 : b6 = true := by first | exact hr | exact hr.1 | exact hr.2 | exact hr.2.1 | exact hr.2.2 | exact hr.2.2.1 | exact hr.2.2.2 | exact hr.2.2.2.1 | exact hr.2.2.2.2 | exact hr.2.2.2.2.1 | exact hr.2.2.2.2.2 | exact hr.2.2.2.2.2.1 | exact hr.2.2.2.2.2.2 | exact hr.2.2.2.2.2.2.1 | exact hr.2.2.2.2.2.2.2 | exact hr.2.2.2.2.2.2.2.1 | exact hr.2.2.2.2.2.2.2.2 | exact hr.2.2.2.2.2.2.2.2.1 | exact hr.2.2.2.2.2.2.2.2.2 | exact hr.2.2.2.2.2.2.2.2.2.1 | exact hr.2.2.2.2.2.2.2.2.2.2 | exact hr.2.2.2.2.2.2.2.2.2.2.1 | exact hr.2.2.2.2.2.2.2.2.2.2.2 | exact hr.2.2.2.2.2.2.2.2.2.2.2.1 | exact hr.2.2.2.2.2.2.2.2.2.2.2.2 | exact hr.2.2.2.2.2.2.2.2.2.2.2.2.1 | exact hr.2.2.2.2.2.2.2.2.2.2.2.2.2 | exact hr.2.2.2.2.2.2.2.2.2.2.2.2.2.1 | exact hr.2.2.2.2.2.2.2.2.2.2.2.2.2.2 | exact hr.2.2.2.2.2.2.2.2.2.2.2.2.2.2.1 | exact hr.2.2.2.2.2.2.2.2.2.2.2.2.2.2.2 | exact hr.2.2.2.2.2.2.2.2.2.2.2.2.2.2.2.1 | exact hr.2.2.2.2.2.2.2.2.2.2.2.2.2.2.2.2
              have e7 : b7 = true := by first | exact hr | exact hr.1 | exact hr.2 | exact hr.2.1 | exact hr.2.2 | exact hr.2.2.1 | exact hr.2.2.2 | exact hr.2.2.2.1 | exact hr.2.2.2.2 | exact hr.2.2.2.2.1 | exact hr.2.2.2.2.2 | exact hr.2.2.2.2.2.1 | exact hr.2.2.2.2.2.2 | exact hr.2.2.2.2.2.2.1 | exact hr.2.2.2.2.2.2.2 | exact hr.2.2.2.2.2.2.2.1 | exact hr.2.2.2.2.2.2.2.2 | exact hr.2.2.2.2.2.2.2.2.1 | exact hr.2.2.2.2.2.2.2.2.2 | exact hr.2.2.2.2.2.2.2.2.2.1 | exact hr.2.2.2.2.2.2.2.2.2.2 | exact hr.2.2.2.2.2.2.2.2.2.2.1 | exact hr.2.2.2.2.2.2.2.2.2.2.2 | exact hr.2.2.2.2.2.2.2.2.2.2.2.1 | exact hr.2.2.2.2.2.2.2.2.2.2.2.2 | exact hr.2.2.2.2.2.2.2.2.2.2.2.2.1 | exact hr.2.2.2.2.2.2.2.2.2.2.2.2.2 | exact hr.2.2.2.2.2.2.2.2.2.2.2.2.2.1 | exact hr.2.2.2.2.2.2.2.2.2.2.2.2.2.2 | exact hr.2.2.2.2.2.2.2.2.2.2.2.2.2.2.1 | exact hr.2.2.2.2.2.2.2.2.2.2.2.2.2.2.2 | exact hr.2.2.2.2.2.2.2.2.2.2.2.2.2.2.2.1 | exact hr.2.2.2.2.2.2.2.2.2.2.2.2.2.2.2.2
              have e8 : b8 = true := by first | exact hr | exact hr.1 | exact hr.2 | exact hr.2.1 | exact hr.2.2 | exact hr.2.2.1 | exact hr.2.2.2 | exact hr.2.2.2.1 | exact hr.2.2.2.2 | exact hr.2.2.2.2.1 | exact hr.2.2.2.2.2 | exact hr.2.2.2.2.2.1 | exact hr.2.2.2.2.2.2 | exact hr.2.2.2.2.2.2.1 | exact hr.2.2.2.2.2.2.2 | exact hr.2.2.2.2.2.2.2.1 | exact hr.2.2.2.2.2.2.2.2 | exact hr.2.2.2.2.2.2.2.2.1 | exact hr.2.2.2.2.2.2.2.2.2 | exact hr.2.2.2.2.2.2.2.2.2.1 | exact hr.2.2.2.2.2.2.2.2.2.2 | exact hr.2.2.2.2.2.2.2.2.2.2.1 | exact hr.2.2.2.2.2.2.2.2.2.2.2 | exact hr.2.2.2.2.2.2.2.2.2.2.2.1 | exact hr.2.2.2.2.2.2.2.2.2.2.2.2 | exact hr.2.2.2.2.2.2.2.2.2.2.2.2.1 | exact hr.2.2.2.2.2.2.2.2.2.2.2.2.2 | exact hr.2.2.2.2.2.2.2.2.2.2.2.2.2.1 | exact hr.2.2.2.2.2.2.2.2.2.2.2.2.2.2 | exact hr.2.2.2.2.2.2.2.2.2.2.2.2.2.2.1 | exact hr.2.2.2.2.2.2.2.2.2.2.2.2.2.2.2 | exact hr.2.2.2.2.2.2.2.2.2.2.2.2.2.2.2.1 | exact hr.2.2.2.2.2.2.2.2.2.2.2.2.2.2.2.2
              have e9 : b9 = true := by first | exact hr | exact hr.1 | exact hr.2 | exact hr.2.1 | exact hr.2.2 | exact hr.2.2.1 | exact hr.2.2.2 | exact hr.2.2.2.1 | exact hr.2.2.2.2 | exact hr.2.2.2.2.1 | exact hr.2.2.2.2.2 | exact hr.2.2.2.2.2.1 | exact hr.2.2.2.2.2.2 | exact hr.2.2.2.2.2.2.1 | exact hr.2.2.2.2.2.2.2 | exact hr.2.2.2.2.2.2.2.1 | exact hr.2.2.2.2.2.2.2.2 | exact hr.2.2.2.2.2.2.2.2.1 | exact hr.2.2.2.2.2.2.2.2.2 | exact hr.2.2.2.2.2.2.2.2.2.1 | exact hr.2.2.2.2.2.2.2.2.2.2 | exact hr.2.2.2.2.2.2.2.2.2.2.1 | exact hr.2.2.2.2.2.2.2.2.2.2.2 | exact hr.2.2.2.2.2.2.2.2.2.2.2.1 | exact hr.2.2.2.2.2.2.2.2.2.2.2.2 | exact hr.2.2.2.2.2.2.2.2.2.2.2.2.1 | exact hr.2.2.2.2.2.2.2.2.2.2.2.2.2 | exact hr.2.2.2.2.2.2.2.2.2.2.2.2.2.1 | exact hr.2.2.2.2.2.2.2.2.2.2.2.2.2.2 | exact hr.2.2.2.2.2.2.2.2.2.2.2.2.2.2.1 | exact hr.2.2.2.2.2.2.2.2.2.2.2.2.2.2.2 | exact hr.2.2.2.2.2.2.2.2.2.2.2.2.2.2.2.1 | exact hr.2.2.2.2.2.2.2.2.2.2.2.2.2.2.2.2
              have e10 : b10 = true := by first | exact hr | exact hr.1 | exact hr.2 | exact hr.2.1 | exact hr.2.2 | exact hr.2.2.1 | exact hr.2.2.2 | exact hr.2.2.2.1 | exact hr.2.2.2.2 | exact hr.2.2.2.2.1 | exact hr.2.2.2.2.2 | exact hr.2.2.2.2.2.1 | exact hr.2.2.2.2.2.2 | exact hr.2.2.2.2.2.2.1 | exact hr.2.2.2.2.2.2.2 | exact hr.2.2.2.2.2.2.2.1 | exact hr.2.2.2.2.2.2.2.2 | exact hr.2.2.2.2.2.2.2.2.1 | exact hr.2.2.2.2.2.2.2.2.2 | exact hr.2.2.2.2.2.2.2.2.2.1 | exact hr.2.2.2.2.2.2.2.2.2.2 | exact hr.2.2.2.2.2.2.2.2.2.2.1 | exact hr.2.2.2.2.2.2.2.2.2.2.2 | exact hr.2.2.2.2.2.2.2.2.2.2.2.1 | exact hr.2.2.2.2.2.2.2.2.2.2.2.2 | exact hr.2.2.2.2.2.2.2.2.2.2.2.2.1 | exact hr.2.2.2.2.2.2.2.2.2.2.2.2.2 | exact hr.2.2.2.2.2.2.2.2.2.2.2.2.2.1 | exact hr.2.2.2.2.2.2.2.2.2.2.2.2.2.2 | exact hr.2.2.2.2.2.2.2.2.2.2.2.2.2.2.1 | exact hr.2.2.2.2.2.2.2.2.2.2.2.2.2.2.2 | exact hr.2.2.2.2.2.2.2.2.2.2.2.2.2.2.2.1 | exact hr.2.2.2.2.2.2.2.2.2.2.2.2.2.2.2.2
              clear hr
              subst e11 e0 e1 e2 e3 e4 e5 e6 e7 e8 e9 e10
              refine wpOpIn_at rfl ?_
              go_simp
              exact hK _ _ ⟨true, true, true, true, true, true, true, true, true, true, true, true, p2, m2, cap2, p3, m3, cap3, p5, m5, cap5, p6, m6, cap6, KL, rfl, rfl, (fun _ => rfl), (fun _ => rfl), (fun _ => rfl), hw, g0, g2, g3, g5, g6⟩
          · rintro L a w - ⟨b0, b1, b2, b3, b4, b5, b6, b7, b8, b9, b10, b11, p2, m2, cap2, p3, m3, cap3, p5, m5, cap5, p6, m6, cap6, KL, rfl, rfl, -, -, -, hw, g0, g2, g3, g5, g6⟩ hr
            obtain rfl : b0 = true := by cases b0 with | true => rfl | false => exact absurd (hr ▸ (ready_iff.2 ⟨by decide, rfl, _, rfl, by simp [Region.binds, -Array.all_toList]⟩ : 0 ∈ Region.ready .any _ _)) (by simp)
            obtain rfl : b1 = true := by cases b1 with | true => rfl | false => exact absurd (hr ▸ (ready_iff.2 ⟨by decide, rfl, _, rfl, by simp [Region.binds, -Array.all_toList]⟩ : 1 ∈ Region.ready .any _ _)) (by simp)
            obtain rfl : b2 = true := by cases b2 with | true => rfl | false => exact absurd (hr ▸ (ready_iff.2 ⟨by decide, rfl, _, rfl, by simp [Region.binds, -Array.all_toList]⟩ : 2 ∈ Region.ready .any _ _)) (by simp)
            obtain rfl : b3 = true := by cases b3 with | true => rfl | false => exact absurd (hr ▸ (ready_iff.2 ⟨by decide, rfl, _, rfl, by simp [Region.binds, -Array.all_toList]⟩ : 3 ∈ Region.ready .any _ _)) (by simp)
            obtain rfl : b4 = true := by cases b4 with | true => rfl | false => exact absurd (hr ▸ (ready_iff.2 ⟨by decide, rfl, _, rfl, by simp [Region.binds, -Array.all_toList]⟩ : 4 ∈ Region.ready .any _ _)) (by simp)
            obtain rfl : b5 = true := by cases b5 with | true => rfl | false => exact absurd (hr ▸ (ready_iff.2 ⟨by decide, rfl, _, rfl, by simp [Region.binds, -Array.all_toList]⟩ : 5 ∈ Region.ready .any _ _)) (by simp)
            obtain rfl : b6 = true := by cases b6 with | true => rfl | false => exact absurd (hr ▸ (ready_iff.2 ⟨by decide, rfl, _, rfl, by simp [Region.binds, -Array.all_toList]⟩ : 6 ∈ Region.ready .any _ _)) (by simp)
            obtain rfl : b7 = true := by cases b7 with | true => rfl | false => exact absurd (hr ▸ (ready_iff.2 ⟨by decide, rfl, _, rfl, by simp [Region.binds, -Array.all_toList]⟩ : 7 ∈ Region.ready .any _ _)) (by simp)
            obtain rfl : b8 = true := by cases b8 with | true => rfl | false => exact absurd (hr ▸ (ready_iff.2 ⟨by decide, rfl, _, rfl, by simp [Region.binds, -Array.all_toList]⟩ : 8 ∈ Region.ready .any _ _)) (by simp)
            obtain rfl : b9 = true := by cases b9 with | true => rfl | false => exact absurd (hr ▸ (ready_iff.2 ⟨by decide, rfl, _, rfl, by simp [Region.binds, -Array.all_toList]⟩ : 9 ∈ Region.ready .any _ _)) (by simp)
            obtain rfl : b10 = true := by cases b10 with | true => rfl | false => exact absurd (hr ▸ (ready_iff.2 ⟨by decide, rfl, _, rfl, by simp [Region.binds, -Array.all_toList]⟩ : 10 ∈ Region.ready .any _ _)) (by simp)
            obtain rfl : b11 = true := by cases b11 with | true => rfl | false => exact absurd (hr ▸ (ready_iff.2 ⟨by decide, rfl, _, rfl, by simp [Region.binds, -Array.all_toList]⟩ : 11 ∈ Region.ready .any _ _)) (by simp)
            obtain ⟨S2, s1, s2, s3⟩ := hw.den
            gi_wp2
            refine ⟨⟨ByteArray.empty, _, f', p6, m6, cap6, S2, rfl, Nat.zero_le _, (fun c hc => by simp at hc), o5, o6, hw.box, hw.below, s1, s2, s3 _ (g6 rfl)⟩, ?_⟩
            show ByteArray.size (ByteArray.empty) < t.size
            show 0 < t.size; omega
          · have h0 : Below wr.heap.size wr (wr.iter (t) (t.size)) := (Below.refl _ wr).alloc (Nat.le_refl _) _
            have hbi : Below wr.heap.size wr { wr.iter (t) (t.size) with drawn := (wr.iter (t) (t.size)).drawn + 1 } := ⟨h0.os, h0.tape, h0.output, h0.size, h0.block⟩
            refine ⟨boxed_below hb hbi hb.lt, hB.trans (hbi.mono hB.size), S', hS1, fun b h => (hS2 b h).imp id (fun h => ⟨h.1, Nat.lt_of_lt_of_le h.2 hbi.size⟩), fun q hq => ?_⟩
            obtain rfl := List.mem_singleton.1 hq
            refine list_mono hty hC hn fun b h => ⟨h, hbi.block b ?_⟩
            rcases hS2 b h.2 with hz | hz
            · have := hS b hz; have := hB.size; omega
            · exact hz.2
    · gi_wp2
      gi_loopw [4, 5] (fun qx qb wi => ∃ pos : Nat, wi = wr.iter (t.extract 0 18) pos ∧ pos ≤ (t.extract 0 18).size ∧ qx = .int .u64 (xat ((t.extract 0 18).data.toList.take pos)) ∧ qb = .int .u64 (10 ^ pos : Nat)) (fun _ _ w' => (t.extract 0 18).size - w'.iterPos wr.heap.size)
      case atStart => exact ⟨0, rfl, Nat.zero_le _, by simp [xat], rfl⟩
      case round =>
        obtain ⟨pos, rfl, hle, rfl, rfl⟩ := hrel
        have hsz1 : (t.extract 0 18).size = 18 := by rw [ByteArray.size_extract]; omega
        by_cases hp : pos < (t.extract 0 18).size
        · obtain ⟨b, hbb⟩ : ∃ b, ((t.extract 0 18)[pos]'hp).toNat = b := ⟨_, rfl⟩
          have hdb := digit_range (s := t.extract 0 18) (fun c hc => hd c (mem_extract hc)) pos hp
          rw [hbb] at hdb
          have hnx : ∀ ty, (Instr.next (.pointer (some ⟨wr.heap.size, 0, none⟩)) true ty).run Try.prog (wr.iter (t.extract 0 18) pos) = .ok (.tuple #[.bool true, .int .i64 (pos : Int), .int .i32 (b : Int)]) (wr.iter (t.extract 0 18) (pos + 1)) := fun ty => by rw [← hbb]; exact run_next_ascii wr (t.extract 0 18) pos ty hp (by rw [hbb]; omega)
          have hx1 := xat_le (t.extract 0 18) (fun c hc => hd c (mem_extract hc)) pos hle
          have hx2 := xat_succ (t.extract 0 18) pos hp hbb
          have hp10 : 10 ^ pos ≤ 10 ^ 17 := Nat.pow_le_pow_right (by omega) (by omega)
          obtain ⟨X, hX⟩ : ∃ X, xat ((t.extract 0 18).data.toList.take pos) = X := ⟨_, rfl⟩
          obtain ⟨Y, hY⟩ : ∃ Y : Nat, 10 ^ pos = Y := ⟨_, rfl⟩
          rw [hX] at hx1 hx2 ⊢
          rw [hY] at hx1 hp10 ⊢
          gi_wp2
          exact ⟨⟨pos + 1, rfl, by omega, by rw [hx2], by rw [Nat.pow_succ, hY]; push_cast; rfl⟩, by simp; omega⟩
        · obtain rfl : pos = 18 := by omega
          have hnx : ∀ ty, (Instr.next (.pointer (some ⟨wr.heap.size, 0, none⟩)) true ty).run Try.prog (wr.iter (t.extract 0 18) (18)) = _ := fun ty => run_next_end wr (t.extract 0 18) (18) ty hp
          have hx1 := xat_le (t.extract 0 18) (fun c hc => hd c (mem_extract hc)) (18) (by omega)
          have hp10 : 10 ^ (18) ≤ 10 ^ 18 := Nat.pow_le_pow_right (by omega) (by omega)
          have hmin : min t.size 18 = 18 := by omega
          obtain ⟨X, hX⟩ : ∃ X, xat ((t.extract 0 18).data.toList.take (18)) = X := ⟨_, rfl⟩
          obtain ⟨Y, hY⟩ : ∃ Y : Nat, 10 ^ (18) = Y := ⟨_, rfl⟩
          rw [hX] at hx1 ⊢
          rw [hY] at hx1 hp10 ⊢
          have hXY : S.deci_valuex (t.extract 0 (18)) = X ∧ (10 : Int) ^ (18) = (Y : Int) := ⟨by rw [← hX]; show xat _ = _; rw [List.take_of_length_le (by rw [Array.length_toList, show (t.extract 0 18).data.size = 18 from hsz1]; exact Nat.le_refl _)], by rw [← hY]; exact (Int.natCast_pow 10 _).symm⟩
          gi_wp2
          have hgs := value_step (t := t) (n := n) hf ht0 hgg hv (by rw [hmin])
          rw [hXY.1, hXY.2] at hgs
          obtain ⟨f', hf', o1, o2, o3, o4, o5, o6⟩ := hgs
          refine wpIn_region_any (by kernel_rfl) ?_
          refine any_inv (fun L a w => ∃ (b0 b1 b2 b3 b4 b5 b6 b7 b8 b9 b10 b11 : Bool) (p2 : Option Addr) (m2 cap2 : Nat) (p3 : Option Addr) (m3 cap3 : Nat) (p5 : Option Addr) (m5 cap5 : Nat) (p6 : Option Addr) (m6 cap6 : Nat) (K : List (List Int × Value)), L = #[b0, b1, b2, b3, b4, b5, b6, b7, b8, b9, b10, b11] ∧ a = { tmps := #[(bif b11 then .string (t.extract 18 t.size) else .string t), undef, .pointer (some ⟨w0.heap.size, 0, none⟩), .int .i64 (18), .int .u64 X, .int .u64 (Y : Int), undef, u7, .string t, .bool true, .string t, .int .i64 (t.size : Int), .int .i64 (18), .string t, .int .i64 (18), .string (t.extract 0 18), .pointer (some ⟨wr.heap.size, 0, none⟩), .tuple #[.bool false], .bool false, u19, u20, u21, u22, u23, u24, u25, u26, u27, (bif b0 then .agg #[.slice p m cap] else u28), (bif b1 then .int .u64 (Y : Int) else u29), (bif b2 then .agg #[.slice p2 m2 cap2] else u30), (bif b3 then .agg #[.slice p3 m3 cap3] else u31), (bif b4 then .int .u64 X else u32), (bif b5 then .agg #[.slice p5 m5 cap5] else u33), (bif b6 then .agg #[.slice p6 m6 cap6] else u34), (bif b7 then .string t else u35), (bif b8 then .int .i64 (18) else u36), (bif b9 then .string (t.extract 18 t.size) else u37), undef], defers := [] } ∧ (b10 = true → b0 = true) ∧ (b10 = true → b6 = true) ∧ (b11 = true → b7 = true) ∧ VT c σ Z w0 w0.heap.size K w (bif b10 then .slice p6 m6 cap6 else .slice p m cap) ∧
              (n.limbs, .slice p m cap) ∈ K ∧ (b2 = true → ((S.nat_Of (Y : Int)).limbs, .slice p2 m2 cap2) ∈ K) ∧ (b3 = true → ((S.nat_Mul n (S.nat_Of (Y : Int))).limbs, .slice p3 m3 cap3) ∈ K) ∧ (b5 = true → ((S.nat_Of X).limbs, .slice p5 m5 cap5) ∈ K) ∧ (b6 = true → ((S.nat_Add (S.nat_Mul n (S.nat_Of (Y : Int))) (S.nat_Of X)).limbs, .slice p6 m6 cap6) ∈ K)) ?_ ?_ _ _ _ _ rfl (by decide) ⟨false, false, false, false, false, false, false, false, false, false, false, false, none, 0, 0, none, 0, 0, none, 0, 0, none, 0, 0, [(n.limbs, .slice p m cap)], rfl, rfl, (fun h => by cases h), (fun h => by cases h), (fun h => by cases h), ?_, by simp, (fun h => by cases h), (fun h => by cases h), (fun h => by cases h), (fun h => by cases h)⟩
          · rintro L a w k K - ⟨b0, b1, b2, b3, b4, b5, b6, b7, b8, b9, b10, b11, p2, m2, cap2, p3, m3, cap3, p5, m5, cap5, p6, m6, cap6, KL, rfl, rfl, hm, hm6, hm7, hw, g0, g2, g3, g5, g6⟩ hk hK
            have hkl : k < 12 := (ready_iff.1 hk).1
            have cw := hw.box.cell
            have fw := hw.box.frozen
            have h18a : 18 ≤ t.size := by omega
            have h18b : (18 : Int) ≤ (t.size : Int) := by omega
            match k, hkl, hk with
            | 0, _, hk =>
              have hr := ready_at rfl hk
              clear hk
              simp [Region.binds, -Array.all_toList] at hr
              have e10 : b10 = false := by cases b10 with | false => rfl | true => exact absurd (hm rfl) (by simp [hr])
              have e0 : b0 = false := by first | exact hr | exact hr.1 | exact hr.2 | exact hr.2.1 | exact hr.2.2 | exact hr.2.2.1 | exact hr.2.2.2 | exact hr.2.2.2.1 | exact hr.2.2.2.2 | exact hr.2.2.2.2.1 | exact hr.2.2.2.2.2 | exact hr.2.2.2.2.2.1 | exact hr.2.2.2.2.2.2 | exact hr.2.2.2.2.2.2.1 | exact hr.2.2.2.2.2.2.2 | exact hr.2.2.2.2.2.2.2.1 | exact hr.2.2.2.2.2.2.2.2 | exact hr.2.2.2.2.2.2.2.2.1 | exact hr.2.2.2.2.2.2.2.2.2 | exact hr.2.2.2.2.2.2.2.2.2.1 | exact hr.2.2.2.2.2.2.2.2.2.2 | exact hr.2.2.2.2.2.2.2.2.2.2.1 | exact hr.2.2.2.2.2.2.2.2.2.2.2 | exact hr.2.2.2.2.2.2.2.2.2.2.2.1 | exact hr.2.2.2.2.2.2.2.2.2.2.2.2 | exact hr.2.2.2.2.2.2.2.2.2.2.2.2.1 | exact hr.2.2.2.2.2.2.2.2.2.2.2.2.2 | exact hr.2.2.2.2.2.2.2.2.2.2.2.2.2.1 | exact hr.2.2.2.2.2.2.2.2.2.2.2.2.2.2 | exact hr.2.2.2.2.2.2.2.2.2.2.2.2.2.2.1 | exact hr.2.2.2.2.2.2.2.2.2.2.2.2.2.2.2 | exact hr.2.2.2.2.2.2.2.2.2.2.2.2.2.2.2.1 | exact hr.2.2.2.2.2.2.2.2.2.2.2.2.2.2.2.2
              clear hr
              subst e0 e10
              refine wpOpIn_at rfl ?_
              go_simp
              exact hK _ _ ⟨true, b1, b2, b3, b4, b5, b6, b7, b8, b9, false, b11, p2, m2, cap2, p3, m3, cap3, p5, m5, cap5, p6, m6, cap6, KL, rfl, rfl, (fun h => by cases h), (fun h => by cases h), hm7, hw, g0, g2, g3, g5, g6⟩
            | 1, _, hk =>
              have hr := ready_at rfl hk
              clear hk
              simp [Region.binds, -Array.all_toList] at hr
              have e1 : b1 = false := by first | exact hr | exact hr.1 | exact hr.2 | exact hr.2.1 | exact hr.2.2 | exact hr.2.2.1 | exact hr.2.2.2 | exact hr.2.2.2.1 | exact hr.2.2.2.2 | exact hr.2.2.2.2.1 | exact hr.2.2.2.2.2 | exact hr.2.2.2.2.2.1 | exact hr.2.2.2.2.2.2 | exact hr.2.2.2.2.2.2.1 | exact hr.2.2.2.2.2.2.2 | exact hr.2.2.2.2.2.2.2.1 | exact hr.2.2.2.2.2.2.2.2 | exact hr.2.2.2.2.2.2.2.2.1 | exact hr.2.2.2.2.2.2.2.2.2 | exact hr.2.2.2.2.2.2.2.2.2.1 | exact hr.2.2.2.2.2.2.2.2.2.2 | exact hr.2.2.2.2.2.2.2.2.2.2.1 | exact hr.2.2.2.2.2.2.2.2.2.2.2 | exact hr.2.2.2.2.2.2.2.2.2.2.2.1 | exact hr.2.2.2.2.2.2.2.2.2.2.2.2 | exact hr.2.2.2.2.2.2.2.2.2.2.2.2.1 | exact hr.2.2.2.2.2.2.2.2.2.2.2.2.2 | exact hr.2.2.2.2.2.2.2.2.2.2.2.2.2.1 | exact hr.2.2.2.2.2.2.2.2.2.2.2.2.2.2 | exact hr.2.2.2.2.2.2.2.2.2.2.2.2.2.2.1 | exact hr.2.2.2.2.2.2.2.2.2.2.2.2.2.2.2 | exact hr.2.2.2.2.2.2.2.2.2.2.2.2.2.2.2.1 | exact hr.2.2.2.2.2.2.2.2.2.2.2.2.2.2.2.2
              clear hr
              subst e1
              refine wpOpIn_at rfl ?_
              go_simp
              exact hK _ _ ⟨b0, true, b2, b3, b4, b5, b6, b7, b8, b9, b10, b11, p2, m2, cap2, p3, m3, cap3, p5, m5, cap5, p6, m6, cap6, KL, rfl, rfl, hm, hm6, hm7, hw, g0, g2, g3, g5, g6⟩
            | 2, _, hk =>
              have hr := ready_at rfl hk
              clear hk
              simp [Region.binds, -Array.all_toList] at hr
              have e2 : b2 = false := by first | exact hr | exact hr.1 | exact hr.2 | exact hr.2.1 | exact hr.2.2 | exact hr.2.2.1 | exact hr.2.2.2 | exact hr.2.2.2.1 | exact hr.2.2.2.2 | exact hr.2.2.2.2.1 | exact hr.2.2.2.2.2 | exact hr.2.2.2.2.2.1 | exact hr.2.2.2.2.2.2 | exact hr.2.2.2.2.2.2.1 | exact hr.2.2.2.2.2.2.2 | exact hr.2.2.2.2.2.2.2.1 | exact hr.2.2.2.2.2.2.2.2 | exact hr.2.2.2.2.2.2.2.2.1 | exact hr.2.2.2.2.2.2.2.2.2 | exact hr.2.2.2.2.2.2.2.2.2.1 | exact hr.2.2.2.2.2.2.2.2.2.2 | exact hr.2.2.2.2.2.2.2.2.2.2.1 | exact hr.2.2.2.2.2.2.2.2.2.2.2 | exact hr.2.2.2.2.2.2.2.2.2.2.2.1 | exact hr.2.2.2.2.2.2.2.2.2.2.2.2 | exact hr.2.2.2.2.2.2.2.2.2.2.2.2.1 | exact hr.2.2.2.2.2.2.2.2.2.2.2.2.2 | exact hr.2.2.2.2.2.2.2.2.2.2.2.2.2.1 | exact hr.2.2.2.2.2.2.2.2.2.2.2.2.2.2 | exact hr.2.2.2.2.2.2.2.2.2.2.2.2.2.2.1 | exact hr.2.2.2.2.2.2.2.2.2.2.2.2.2.2.2 | exact hr.2.2.2.2.2.2.2.2.2.2.2.2.2.2.2.1 | exact hr.2.2.2.2.2.2.2.2.2.2.2.2.2.2.2.2
              have e1 : b1 = true := by first | exact hr | exact hr.1 | exact hr.2 | exact hr.2.1 | exact hr.2.2 | exact hr.2.2.1 | exact hr.2.2.2 | exact hr.2.2.2.1 | exact hr.2.2.2.2 | exact hr.2.2.2.2.1 | exact hr.2.2.2.2.2 | exact hr.2.2.2.2.2.1 | exact hr.2.2.2.2.2.2 | exact hr.2.2.2.2.2.2.1 | exact hr.2.2.2.2.2.2.2 | exact hr.2.2.2.2.2.2.2.1 | exact hr.2.2.2.2.2.2.2.2 | exact hr.2.2.2.2.2.2.2.2.1 | exact hr.2.2.2.2.2.2.2.2.2 | exact hr.2.2.2.2.2.2.2.2.2.1 | exact hr.2.2.2.2.2.2.2.2.2.2 | exact hr.2.2.2.2.2.2.2.2.2.2.1 | exact hr.2.2.2.2.2.2.2.2.2.2.2 | exact hr.2.2.2.2.2.2.2.2.2.2.2.1 | exact hr.2.2.2.2.2.2.2.2.2.2.2.2 | exact hr.2.2.2.2.2.2.2.2.2.2.2.2.1 | exact hr.2.2.2.2.2.2.2.2.2.2.2.2.2 | exact hr.2.2.2.2.2.2.2.2.2.2.2.2.2.1 | exact hr.2.2.2.2.2.2.2.2.2.2.2.2.2.2 | exact hr.2.2.2.2.2.2.2.2.2.2.2.2.2.2.1 | exact hr.2.2.2.2.2.2.2.2.2.2.2.2.2.2.2 | exact hr.2.2.2.2.2.2.2.2.2.2.2.2.2.2.2.1 | exact hr.2.2.2.2.2.2.2.2.2.2.2.2.2.2.2.2
              clear hr
              subst e2 e1
              refine wpOpIn_at rfl ?_
              go_simp
              refine ⟨trivial, (callsIn_wide.2 (hw.call hc hP hty hC hT hS hI (xs := #[.int .u64 (Y : Int)]) (h38 _ o1) hno1 rfl (fun Zz hk i hi => by match i, hi with | 0, _ => exact .int _ _))).mono ?_⟩
              rintro e w' ⟨p', m', cap', rfl, hw'⟩
              exact hK _ _ ⟨b0, true, true, b3, b4, b5, b6, b7, b8, b9, b10, b11, p', m', cap', p3, m3, cap3, p5, m5, cap5, p6, m6, cap6, _, rfl, rfl, hm, hm6, hm7, hw', List.mem_cons_of_mem _ g0, (fun _ => List.mem_cons_self ..), (fun h => List.mem_cons_of_mem _ (g3 h)), (fun h => List.mem_cons_of_mem _ (g5 h)), (fun h => List.mem_cons_of_mem _ (g6 h))⟩
            | 3, _, hk =>
              have hr := ready_at rfl hk
              clear hk
              simp [Region.binds, -Array.all_toList] at hr
              have e3 : b3 = false := by first | exact hr | exact hr.1 | exact hr.2 | exact hr.2.1 | exact hr.2.2 | exact hr.2.2.1 | exact hr.2.2.2 | exact hr.2.2.2.1 | exact hr.2.2.2.2 | exact hr.2.2.2.2.1 | exact hr.2.2.2.2.2 | exact hr.2.2.2.2.2.1 | exact hr.2.2.2.2.2.2 | exact hr.2.2.2.2.2.2.1 | exact hr.2.2.2.2.2.2.2 | exact hr.2.2.2.2.2.2.2.1 | exact hr.2.2.2.2.2.2.2.2 | exact hr.2.2.2.2.2.2.2.2.1 | exact hr.2.2.2.2.2.2.2.2.2 | exact hr.2.2.2.2.2.2.2.2.2.1 | exact hr.2.2.2.2.2.2.2.2.2.2 | exact hr.2.2.2.2.2.2.2.2.2.2.1 | exact hr.2.2.2.2.2.2.2.2.2.2.2 | exact hr.2.2.2.2.2.2.2.2.2.2.2.1 | exact hr.2.2.2.2.2.2.2.2.2.2.2.2 | exact hr.2.2.2.2.2.2.2.2.2.2.2.2.1 | exact hr.2.2.2.2.2.2.2.2.2.2.2.2.2 | exact hr.2.2.2.2.2.2.2.2.2.2.2.2.2.1 | exact hr.2.2.2.2.2.2.2.2.2.2.2.2.2.2 | exact hr.2.2.2.2.2.2.2.2.2.2.2.2.2.2.1 | exact hr.2.2.2.2.2.2.2.2.2.2.2.2.2.2.2 | exact hr.2.2.2.2.2.2.2.2.2.2.2.2.2.2.2.1 | exact hr.2.2.2.2.2.2.2.2.2.2.2.2.2.2.2.2
              have e0 : b0 = true := by first | exact hr | exact hr.1 | exact hr.2 | exact hr.2.1 | exact hr.2.2 | exact hr.2.2.1 | exact hr.2.2.2 | exact hr.2.2.2.1 | exact hr.2.2.2.2 | exact hr.2.2.2.2.1 | exact hr.2.2.2.2.2 | exact hr.2.2.2.2.2.1 | exact hr.2.2.2.2.2.2 | exact hr.2.2.2.2.2.2.1 | exact hr.2.2.2.2.2.2.2 | exact hr.2.2.2.2.2.2.2.1 | exact hr.2.2.2.2.2.2.2.2 | exact hr.2.2.2.2.2.2.2.2.1 | exact hr.2.2.2.2.2.2.2.2.2 | exact hr.2.2.2.2.2.2.2.2.2.1 | exact hr.2.2.2.2.2.2.2.2.2.2 | exact hr.2.2.2.2.2.2.2.2.2.2.1 | exact hr.2.2.2.2.2.2.2.2.2.2.2 | exact hr.2.2.2.2.2.2.2.2.2.2.2.1 | exact hr.2.2.2.2.2.2.2.2.2.2.2.2 | exact hr.2.2.2.2.2.2.2.2.2.2.2.2.1 | exact hr.2.2.2.2.2.2.2.2.2.2.2.2.2 | exact hr.2.2.2.2.2.2.2.2.2.2.2.2.2.1 | exact hr.2.2.2.2.2.2.2.2.2.2.2.2.2.2 | exact hr.2.2.2.2.2.2.2.2.2.2.2.2.2.2.1 | exact hr.2.2.2.2.2.2.2.2.2.2.2.2.2.2.2 | exact hr.2.2.2.2.2.2.2.2.2.2.2.2.2.2.2.1 | exact hr.2.2.2.2.2.2.2.2.2.2.2.2.2.2.2.2
              have e2 : b2 = true := by first | exact hr | exact hr.1 | exact hr.2 | exact hr.2.1 | exact hr.2.2 | exact hr.2.2.1 | exact hr.2.2.2 | exact hr.2.2.2.1 | exact hr.2.2.2.2 | exact hr.2.2.2.2.1 | exact hr.2.2.2.2.2 | exact hr.2.2.2.2.2.1 | exact hr.2.2.2.2.2.2 | exact hr.2.2.2.2.2.2.1 | exact hr.2.2.2.2.2.2.2 | exact hr.2.2.2.2.2.2.2.1 | exact hr.2.2.2.2.2.2.2.2 | exact hr.2.2.2.2.2.2.2.2.1 | exact hr.2.2.2.2.2.2.2.2.2 | exact hr.2.2.2.2.2.2.2.2.2.1 | exact hr.2.2.2.2.2.2.2.2.2.2 | exact hr.2.2.2.2.2.2.2.2.2.2.1 | exact hr.2.2.2.2.2.2.2.2.2.2.2 | exact hr.2.2.2.2.2.2.2.2.2.2.2.1 | exact hr.2.2.2.2.2.2.2.2.2.2.2.2 | exact hr.2.2.2.2.2.2.2.2.2.2.2.2.1 | exact hr.2.2.2.2.2.2.2.2.2.2.2.2.2 | exact hr.2.2.2.2.2.2.2.2.2.2.2.2.2.1 | exact hr.2.2.2.2.2.2.2.2.2.2.2.2.2.2 | exact hr.2.2.2.2.2.2.2.2.2.2.2.2.2.2.1 | exact hr.2.2.2.2.2.2.2.2.2.2.2.2.2.2.2 | exact hr.2.2.2.2.2.2.2.2.2.2.2.2.2.2.2.1 | exact hr.2.2.2.2.2.2.2.2.2.2.2.2.2.2.2.2
              clear hr
              subst e3 e0 e2
              refine wpOpIn_at rfl ?_
              go_simp
              refine ⟨trivial, (callsIn_wide.2 (hw.call hc hP hty hC hT hS hI (xs := #[.agg #[.slice p m cap], .agg #[.slice p2 m2 cap2]]) (h37 _ _ o3) hno2 rfl (fun Zz hk i hi => by match i, hi with | 0, _ => exact agg1_den (hk _ g0) | 1, _ => exact agg1_den (hk _ (g2 rfl))))).mono ?_⟩
              rintro e w' ⟨p', m', cap', rfl, hw'⟩
              exact hK _ _ ⟨true, b1, true, true, b4, b5, b6, b7, b8, b9, b10, b11, p2, m2, cap2, p', m', cap', p5, m5, cap5, p6, m6, cap6, _, rfl, rfl, (fun _ => rfl), hm6, hm7, hw', List.mem_cons_of_mem _ g0, (fun h => List.mem_cons_of_mem _ (g2 h)), (fun _ => List.mem_cons_self ..), (fun h => List.mem_cons_of_mem _ (g5 h)), (fun h => List.mem_cons_of_mem _ (g6 h))⟩
            | 4, _, hk =>
              have hr := ready_at rfl hk
              clear hk
              simp [Region.binds, -Array.all_toList] at hr
              have e4 : b4 = false := by first | exact hr | exact hr.1 | exact hr.2 | exact hr.2.1 | exact hr.2.2 | exact hr.2.2.1 | exact hr.2.2.2 | exact hr.2.2.2.1 | exact hr.2.2.2.2 | exact hr.2.2.2.2.1 | exact hr.2.2.2.2.2 | exact hr.2.2.2.2.2.1 | exact hr.2.2.2.2.2.2 | exact hr.2.2.2.2.2.2.1 | exact hr.2.2.2.2.2.2.2 | exact hr.2.2.2.2.2.2.2.1 | exact hr.2.2.2.2.2.2.2.2 | exact hr.2.2.2.2.2.2.2.2.1 | exact hr.2.2.2.2.2.2.2.2.2 | exact hr.2.2.2.2.2.2.2.2.2.1 | exact hr.2.2.2.2.2.2.2.2.2.2 | exact hr.2.2.2.2.2.2.2.2.2.2.1 | exact hr.2.2.2.2.2.2.2.2.2.2.2 | exact hr.2.2.2.2.2.2.2.2.2.2.2.1 | exact hr.2.2.2.2.2.2.2.2.2.2.2.2 | exact hr.2.2.2.2.2.2.2.2.2.2.2.2.1 | exact hr.2.2.2.2.2.2.2.2.2.2.2.2.2 | exact hr.2.2.2.2.2.2.2.2.2.2.2.2.2.1 | exact hr.2.2.2.2.2.2.2.2.2.2.2.2.2.2 | exact hr.2.2.2.2.2.2.2.2.2.2.2.2.2.2.1 | exact hr.2.2.2.2.2.2.2.2.2.2.2.2.2.2.2 | exact hr.2.2.2.2.2.2.2.2.2.2.2.2.2.2.2.1 | exact hr.2.2.2.2.2.2.2.2.2.2.2.2.2.2.2.2
              clear hr
              subst e4
              refine wpOpIn_at rfl ?_
              go_simp
              exact hK _ _ ⟨b0, b1, b2, b3, true, b5, b6, b7, b8, b9, b10, b11, p2, m2, cap2, p3, m3, cap3, p5, m5, cap5, p6, m6, cap6, KL, rfl, rfl, hm, hm6, hm7, hw, g0, g2, g3, g5, g6⟩
            | 5, _, hk =>
              have hr := ready_at rfl hk
              clear hk
              simp [Region.binds, -Array.all_toList] at hr
              have e5 : b5 = false := by first | exact hr | exact hr.1 | exact hr.2 | exact hr.2.1 | exact hr.2.2 | exact hr.2.2.1 | exact hr.2.2.2 | exact hr.2.2.2.1 | exact hr.2.2.2.2 | exact hr.2.2.2.2.1 | exact hr.2.2.2.2.2 | exact hr.2.2.2.2.2.1 | exact hr.2.2.2.2.2.2 | exact hr.2.2.2.2.2.2.1 | exact hr.2.2.2.2.2.2.2 | exact hr.2.2.2.2.2.2.2.1 | exact hr.2.2.2.2.2.2.2.2 | exact hr.2.2.2.2.2.2.2.2.1 | exact hr.2.2.2.2.2.2.2.2.2 | exact hr.2.2.2.2.2.2.2.2.2.1 | exact hr.2.2.2.2.2.2.2.2.2.2 | exact hr.2.2.2.2.2.2.2.2.2.2.1 | exact hr.2.2.2.2.2.2.2.2.2.2.2 | exact hr.2.2.2.2.2.2.2.2.2.2.2.1 | exact hr.2.2.2.2.2.2.2.2.2.2.2.2 | exact hr.2.2.2.2.2.2.2.2.2.2.2.2.1 | exact hr.2.2.2.2.2.2.2.2.2.2.2.2.2 | exact hr.2.2.2.2.2.2.2.2.2.2.2.2.2.1 | exact hr.2.2.2.2.2.2.2.2.2.2.2.2.2.2 | exact hr.2.2.2.2.2.2.2.2.2.2.2.2.2.2.1 | exact hr.2.2.2.2.2.2.2.2.2.2.2.2.2.2.2 | exact hr.2.2.2.2.2.2.2.2.2.2.2.2.2.2.2.1 | exact hr.2.2.2.2.2.2.2.2.2.2.2.2.2.2.2.2
              have e3 : b3 = true := by first | exact hr | exact hr.1 | exact hr.2 | exact hr.2.1 | exact hr.2.2 | exact hr.2.2.1 | exact hr.2.2.2 | exact hr.2.2.2.1 | exact hr.2.2.2.2 | exact hr.2.2.2.2.1 | exact hr.2.2.2.2.2 | exact hr.2.2.2.2.2.1 | exact hr.2.2.2.2.2.2 | exact hr.2.2.2.2.2.2.1 | exact hr.2.2.2.2.2.2.2 | exact hr.2.2.2.2.2.2.2.1 | exact hr.2.2.2.2.2.2.2.2 | exact hr.2.2.2.2.2.2.2.2.1 | exact hr.2.2.2.2.2.2.2.2.2 | exact hr.2.2.2.2.2.2.2.2.2.1 | exact hr.2.2.2.2.2.2.2.2.2.2 | exact hr.2.2.2.2.2.2.2.2.2.2.1 | exact hr.2.2.2.2.2.2.2.2.2.2.2 | exact hr.2.2.2.2.2.2.2.2.2.2.2.1 | exact hr.2.2.2.2.2.2.2.2.2.2.2.2 | exact hr.2.2.2.2.2.2.2.2.2.2.2.2.1 | exact hr.2.2.2.2.2.2.2.2.2.2.2.2.2 | exact hr.2.2.2.2.2.2.2.2.2.2.2.2.2.1 | exact hr.2.2.2.2.2.2.2.2.2.2.2.2.2.2 | exact hr.2.2.2.2.2.2.2.2.2.2.2.2.2.2.1 | exact hr.2.2.2.2.2.2.2.2.2.2.2.2.2.2.2 | exact hr.2.2.2.2.2.2.2.2.2.2.2.2.2.2.2.1 | exact hr.2.2.2.2.2.2.2.2.2.2.2.2.2.2.2.2
              have e4 : b4 = true := by first | exact hr | exact hr.1 | exact hr.2 | exact hr.2.1 | exact hr.2.2 | exact hr.2.2.1 | exact hr.2.2.2 | exact hr.2.2.2.1 | exact hr.2.2.2.2 | exact hr.2.2.2.2.1 | exact hr.2.2.2.2.2 | exact hr.2.2.2.2.2.1 | exact hr.2.2.2.2.2.2 | exact hr.2.2.2.2.2.2.1 | exact hr.2.2.2.2.2.2.2 | exact hr.2.2.2.2.2.2.2.1 | exact hr.2.2.2.2.2.2.2.2 | exact hr.2.2.2.2.2.2.2.2.1 | exact hr.2.2.2.2.2.2.2.2.2 | exact hr.2.2.2.2.2.2.2.2.2.1 | exact hr.2.2.2.2.2.2.2.2.2.2 | exact hr.2.2.2.2.2.2.2.2.2.2.1 | exact hr.2.2.2.2.2.2.2.2.2.2.2 | exact hr.2.2.2.2.2.2.2.2.2.2.2.1 | exact hr.2.2.2.2.2.2.2.2.2.2.2.2 | exact hr.2.2.2.2.2.2.2.2.2.2.2.2.1 | exact hr.2.2.2.2.2.2.2.2.2.2.2.2.2 | exact hr.2.2.2.2.2.2.2.2.2.2.2.2.2.1 | exact hr.2.2.2.2.2.2.2.2.2.2.2.2.2.2 | exact hr.2.2.2.2.2.2.2.2.2.2.2.2.2.2.1 | exact hr.2.2.2.2.2.2.2.2.2.2.2.2.2.2.2 | exact hr.2.2.2.2.2.2.2.2.2.2.2.2.2.2.2.1 | exact hr.2.2.2.2.2.2.2.2.2.2.2.2.2.2.2.2
              clear hr
              subst e5 e3 e4
              refine wpOpIn_at rfl ?_
              go_simp
              refine ⟨trivial, (callsIn_wide.2 (hw.call hc hP hty hC hT hS hI (xs := #[.int .u64 X]) (h38 _ o2) hno1 rfl (fun Zz hk i hi => by match i, hi with | 0, _ => exact .int _ _))).mono ?_⟩
              rintro e w' ⟨p', m', cap', rfl, hw'⟩
              exact hK _ _ ⟨b0, b1, b2, true, true, true, b6, b7, b8, b9, b10, b11, p2, m2, cap2, p3, m3, cap3, p', m', cap', p6, m6, cap6, _, rfl, rfl, hm, hm6, hm7, hw', List.mem_cons_of_mem _ g0, (fun h => List.mem_cons_of_mem _ (g2 h)), (fun h => List.mem_cons_of_mem _ (g3 h)), (fun _ => List.mem_cons_self ..), (fun h => List.mem_cons_of_mem _ (g6 h))⟩
            | 6, _, hk =>
              have hr := ready_at rfl hk
              clear hk
              simp [Region.binds, -Array.all_toList] at hr
              have e10 : b10 = false := by cases b10 with | false => rfl | true => exact absurd (hm6 rfl) (by simp [hr])
              have e6 : b6 = false := by first | exact hr | exact hr.1 | exact hr.2 | exact hr.2.1 | exact hr.2.2 | exact hr.2.2.1 | exact hr.2.2.2 | exact hr.2.2.2.1 | exact hr.2.2.2.2 | exact hr.2.2.2.2.1 | exact hr.2.2.2.2.2 | exact hr.2.2.2.2.2.1 | exact hr.2.2.2.2.2.2 | exact hr.2.2.2.2.2.2.1 | exact hr.2.2.2.2.2.2.2 | exact hr.2.2.2.2.2.2.2.1 | exact hr.2.2.2.2.2.2.2.2 | exact hr.2.2.2.2.2.2.2.2.1 | exact hr.2.2.2.2.2.2.2.2.2 | exact hr.2.2.2.2.2.2.2.2.2.1 | exact hr.2.2.2.2.2.2.2.2.2.2 | exact hr.2.2.2.2.2.2.2.2.2.2.1 | exact hr.2.2.2.2.2.2.2.2.2.2.2 | exact hr.2.2.2.2.2.2.2.2.2.2.2.1 | exact hr.2.2.2.2.2.2.2.2.2.2.2.2 | exact hr.2.2.2.2.2.2.2.2.2.2.2.2.1 | exact hr.2.2.2.2.2.2.2.2.2.2.2.2.2 | exact hr.2.2.2.2.2.2.2.2.2.2.2.2.2.1 | exact hr.2.2.2.2.2.2.2.2.2.2.2.2.2.2 | exact hr.2.2.2.2.2.2.2.2.2.2.2.2.2.2.1 | exact hr.2.2.2.2.2.2.2.2.2.2.2.2.2.2.2 | exact hr.2.2.2.2.2.2.2.2.2.2.2.2.2.2.2.1 | exact hr.2.2.2.2.2.2.2.2.2.2.2.2.2.2.2.2
              have e3 : b3 = true := by first | exact hr | exact hr.1 | exact hr.2 | exact hr.2.1 | exact hr.2.2 | exact hr.2.2.1 | exact hr.2.2.2 | exact hr.2.2.2.1 | exact hr.2.2.2.2 | exact hr.2.2.2.2.1 | exact hr.2.2.2.2.2 | exact hr.2.2.2.2.2.1 | exact hr.2.2.2.2.2.2 | exact hr.2.2.2.2.2.2.1 | exact hr.2.2.2.2.2.2.2 | exact hr.2.2.2.2.2.2.2.1 | exact hr.2.2.2.2.2.2.2.2 | exact hr.2.2.2.2.2.2.2.2.1 | exact hr.2.2.2.2.2.2.2.2.2 | exact hr.2.2.2.2.2.2.2.2.2.1 | exact hr.2.2.2.2.2.2.2.2.2.2 | exact hr.2.2.2.2.2.2.2.2.2.2.1 | exact hr.2.2.2.2.2.2.2.2.2.2.2 | exact hr.2.2.2.2.2.2.2.2.2.2.2.1 | exact hr.2.2.2.2.2.2.2.2.2.2.2.2 | exact hr.2.2.2.2.2.2.2.2.2.2.2.2.1 | exact hr.2.2.2.2.2.2.2.2.2.2.2.2.2 | exact hr.2.2.2.2.2.2.2.2.2.2.2.2.2.1 | exact hr.2.2.2.2.2.2.2.2.2.2.2.2.2.2 | exact hr.2.2.2.2.2.2.2.2.2.2.2.2.2.2.1 | exact hr.2.2.2.2.2.2.2.2.2.2.2.2.2.2.2 | exact hr.2.2.2.2.2.2.2.2.2.2.2.2.2.2.2.1 | exact hr.2.2.2.2.2.2.2.2.2.2.2.2.2.2.2.2
              have e5 : b5 = true := by first | exact hr | exact hr.1 | exact hr.2 | exact hr.2.1 | exact hr.2.2 | exact hr.2.2.1 | exact hr.2.2.2 | exact hr.2.2.2.1 | exact hr.2.2.2.2 | exact hr.2.2.2.2.1 | exact hr.2.2.2.2.2 | exact hr.2.2.2.2.2.1 | exact hr.2.2.2.2.2.2 | exact hr.2.2.2.2.2.2.1 | exact hr.2.2.2.2.2.2.2 | exact hr.2.2.2.2.2.2.2.1 | exact hr.2.2.2.2.2.2.2.2 | exact hr.2.2.2.2.2.2.2.2.1 | exact hr.2.2.2.2.2.2.2.2.2 | exact hr.2.2.2.2.2.2.2.2.2.1 | exact hr.2.2.2.2.2.2.2.2.2.2 | exact hr.2.2.2.2.2.2.2.2.2.2.1 | exact hr.2.2.2.2.2.2.2.2.2.2.2 | exact hr.2.2.2.2.2.2.2.2.2.2.2.1 | exact hr.2.2.2.2.2.2.2.2.2.2.2.2 | exact hr.2.2.2.2.2.2.2.2.2.2.2.2.1 | exact hr.2.2.2.2.2.2.2.2.2.2.2.2.2 | exact hr.2.2.2.2.2.2.2.2.2.2.2.2.2.1 | exact hr.2.2.2.2.2.2.2.2.2.2.2.2.2.2 | exact hr.2.2.2.2.2.2.2.2.2.2.2.2.2.2.1 | exact hr.2.2.2.2.2.2.2.2.2.2.2.2.2.2.2 | exact hr.2.2.2.2.2.2.2.2.2.2.2.2.2.2.2.1 | exact hr.2.2.2.2.2.2.2.2.2.2.2.2.2.2.2.2
              clear hr
              subst e6 e3 e5 e10
              refine wpOpIn_at rfl ?_
              go_simp
              refine ⟨trivial, (callsIn_wide.2 (hw.call hc hP hty hC hT hS hI (xs := #[.agg #[.slice p3 m3 cap3], .agg #[.slice p5 m5 cap5]]) (h36 _ _ o4) hno2 rfl (fun Zz hk i hi => by match i, hi with | 0, _ => exact agg1_den (hk _ (g3 rfl)) | 1, _ => exact agg1_den (hk _ (g5 rfl))))).mono ?_⟩
              rintro e w' ⟨p', m', cap', rfl, hw'⟩
              exact hK _ _ ⟨b0, b1, b2, true, b4, true, true, b7, b8, b9, false, b11, p2, m2, cap2, p3, m3, cap3, p5, m5, cap5, p', m', cap', _, rfl, rfl, (fun h => by cases h), (fun h => by cases h), hm7, hw', List.mem_cons_of_mem _ g0, (fun h => List.mem_cons_of_mem _ (g2 h)), (fun h => List.mem_cons_of_mem _ (g3 h)), (fun h => List.mem_cons_of_mem _ (g5 h)), (fun _ => List.mem_cons_self ..)⟩
            | 7, _, hk =>
              have hr := ready_at rfl hk
              clear hk
              simp [Region.binds, -Array.all_toList] at hr
              have e11 : b11 = false := by cases b11 with | false => rfl | true => exact absurd (hm7 rfl) (by simp [hr])
              have e7 : b7 = false := by first | exact hr | exact hr.1 | exact hr.2 | exact hr.2.1 | exact hr.2.2 | exact hr.2.2.1 | exact hr.2.2.2 | exact hr.2.2.2.1 | exact hr.2.2.2.2 | exact hr.2.2.2.2.1 | exact hr.2.2.2.2.2 | exact hr.2.2.2.2.2.1 | exact hr.2.2.2.2.2.2 | exact hr.2.2.2.2.2.2.1 | exact hr.2.2.2.2.2.2.2 | exact hr.2.2.2.2.2.2.2.1 | exact hr.2.2.2.2.2.2.2.2 | exact hr.2.2.2.2.2.2.2.2.1 | exact hr.2.2.2.2.2.2.2.2.2 | exact hr.2.2.2.2.2.2.2.2.2.1 | exact hr.2.2.2.2.2.2.2.2.2.2 | exact hr.2.2.2.2.2.2.2.2.2.2.1 | exact hr.2.2.2.2.2.2.2.2.2.2.2 | exact hr.2.2.2.2.2.2.2.2.2.2.2.1 | exact hr.2.2.2.2.2.2.2.2.2.2.2.2 | exact hr.2.2.2.2.2.2.2.2.2.2.2.2.1 | exact hr.2.2.2.2.2.2.2.2.2.2.2.2.2 | exact hr.2.2.2.2.2.2.2.2.2.2.2.2.2.1 | exact hr.2.2.2.2.2.2.2.2.2.2.2.2.2.2 | exact hr.2.2.2.2.2.2.2.2.2.2.2.2.2.2.1 | exact hr.2.2.2.2.2.2.2.2.2.2.2.2.2.2.2 | exact hr.2.2.2.2.2.2.2.2.2.2.2.2.2.2.2.1 | exact hr.2.2.2.2.2.2.2.2.2.2.2.2.2.2.2.2
              clear hr
              subst e7 e11
              refine wpOpIn_at rfl ?_
              go_simp
              exact hK _ _ ⟨b0, b1, b2, b3, b4, b5, b6, true, b8, b9, b10, false, p2, m2, cap2, p3, m3, cap3, p5, m5, cap5, p6, m6, cap6, KL, rfl, rfl, hm, hm6, (fun h => by cases h), hw, g0, g2, g3, g5, g6⟩
            | 8, _, hk =>
              have hr := ready_at rfl hk
              clear hk
              simp [Region.binds, -Array.all_toList] at hr
              have e8 : b8 = false := by first | exact hr | exact hr.1 | exact hr.2 | exact hr.2.1 | exact hr.2.2 | exact hr.2.2.1 | exact hr.2.2.2 | exact hr.2.2.2.1 | exact hr.2.2.2.2 | exact hr.2.2.2.2.1 | exact hr.2.2.2.2.2 | exact hr.2.2.2.2.2.1 | exact hr.2.2.2.2.2.2 | exact hr.2.2.2.2.2.2.1 | exact hr.2.2.2.2.2.2.2 | exact hr.2.2.2.2.2.2.2.1 | exact hr.2.2.2.2.2.2.2.2 | exact hr.2.2.2.2.2.2.2.2.1 | exact hr.2.2.2.2.2.2.2.2.2 | exact hr.2.2.2.2.2.2.2.2.2.1 | exact hr.2.2.2.2.2.2.2.2.2.2 | exact hr.2.2.2.2.2.2.2.2.2.2.1 | exact hr.2.2.2.2.2.2.2.2.2.2.2 | exact hr.2.2.2.2.2.2.2.2.2.2.2.1 | exact hr.2.2.2.2.2.2.2.2.2.2.2.2 | exact hr.2.2.2.2.2.2.2.2.2.2.2.2.1 | exact hr.2.2.2.2.2.2.2.2.2.2.2.2.2 | exact hr.2.2.2.2.2.2.2.2.2.2.2.2.2.1 | exact hr.2.2.2.2.2.2.2.2.2.2.2.2.2.2 | exact hr.2.2.2.2.2.2.2.2.2.2.2.2.2.2.1 | exact hr.2.2.2.2.2.2.2.2.2.2.2.2.2.2.2 | exact hr.2.2.2.2.2.2.2.2.2.2.2.2.2.2.2.1 | exact hr.2.2.2.2.2.2.2.2.2.2.2.2.2.2.2.2
              clear hr
              subst e8
              refine wpOpIn_at rfl ?_
              go_simp
              exact hK _ _ ⟨b0, b1, b2, b3, b4, b5, b6, b7, true, b9, b10, b11, p2, m2, cap2, p3, m3, cap3, p5, m5, cap5, p6, m6, cap6, KL, rfl, rfl, hm, hm6, hm7, hw, g0, g2, g3, g5, g6⟩
            | 9, _, hk =>
              have hr := ready_at rfl hk
              clear hk
              simp [Region.binds, -Array.all_toList] at hr
              have e9 : b9 = false := by first | exact hr | exact hr.1 | exact hr.2 | exact hr.2.1 | exact hr.2.2 | exact hr.2.2.1 | exact hr.2.2.2 | exact hr.2.2.2.1 | exact hr.2.2.2.2 | exact hr.2.2.2.2.1 | exact hr.2.2.2.2.2 | exact hr.2.2.2.2.2.1 | exact hr.2.2.2.2.2.2 | exact hr.2.2.2.2.2.2.1 | exact hr.2.2.2.2.2.2.2 | exact hr.2.2.2.2.2.2.2.1 | exact hr.2.2.2.2.2.2.2.2 | exact hr.2.2.2.2.2.2.2.2.1 | exact hr.2.2.2.2.2.2.2.2.2 | exact hr.2.2.2.2.2.2.2.2.2.1 | exact hr.2.2.2.2.2.2.2.2.2.2 | exact hr.2.2.2.2.2.2.2.2.2.2.1 | exact hr.2.2.2.2.2.2.2.2.2.2.2 | exact hr.2.2.2.2.2.2.2.2.2.2.2.1 | exact hr.2.2.2.2.2.2.2.2.2.2.2.2 | exact hr.2.2.2.2.2.2.2.2.2.2.2.2.1 | exact hr.2.2.2.2.2.2.2.2.2.2.2.2.2 | exact hr.2.2.2.2.2.2.2.2.2.2.2.2.2.1 | exact hr.2.2.2.2.2.2.2.2.2.2.2.2.2.2 | exact hr.2.2.2.2.2.2.2.2.2.2.2.2.2.2.1 | exact hr.2.2.2.2.2.2.2.2.2.2.2.2.2.2.2 | exact hr.2.2.2.2.2.2.2.2.2.2.2.2.2.2.2.1 | exact hr.2.2.2.2.2.2.2.2.2.2.2.2.2.2.2.2
              have e7 : b7 = true := by first | exact hr | exact hr.1 | exact hr.2 | exact hr.2.1 | exact hr.2.2 | exact hr.2.2.1 | exact hr.2.2.2 | exact hr.2.2.2.1 | exact hr.2.2.2.2 | exact hr.2.2.2.2.1 | exact hr.2.2.2.2.2 | exact hr.2.2.2.2.2.1 | exact hr.2.2.2.2.2.2 | exact hr.2.2.2.2.2.2.1 | exact hr.2.2.2.2.2.2.2 | exact hr.2.2.2.2.2.2.2.1 | exact hr.2.2.2.2.2.2.2.2 | exact hr.2.2.2.2.2.2.2.2.1 | exact hr.2.2.2.2.2.2.2.2.2 | exact hr.2.2.2.2.2.2.2.2.2.1 | exact hr.2.2.2.2.2.2.2.2.2.2 | exact hr.2.2.2.2.2.2.2.2.2.2.1 | exact hr.2.2.2.2.2.2.2.2.2.2.2 | exact hr.2.2.2.2.2.2.2.2.2.2.2.1 | exact hr.2.2.2.2.2.2.2.2.2.2.2.2 | exact hr.2.2.2.2.2.2.2.2.2.2.2.2.1 | exact hr.2.2.2.2.2.2.2.2.2.2.2.2.2 | exact hr.2.2.2.2.2.2.2.2.2.2.2.2.2.1 | exact hr.2.2.2.2.2.2.2.2.2.2.2.2.2.2 | exact hr.2.2.2.2.2.2.2.2.2.2.2.2.2.2.1 | exact hr.2.2.2.2.2.2.2.2.2.2.2.2.2.2.2 | exact hr.2.2.2.2.2.2.2.2.2.2.2.2.2.2.2.1 | exact hr.2.2.2.2.2.2.2.2.2.2.2.2.2.2.2.2
              have e8 : b8 = true := by first | exact hr | exact hr.1 | exact hr.2 | exact hr.2.1 | exact hr.2.2 | exact hr.2.2.1 | exact hr.2.2.2 | exact hr.2.2.2.1 | exact hr.2.2.2.2 | exact hr.2.2.2.2.1 | exact hr.2.2.2.2.2 | exact hr.2.2.2.2.2.1 | exact hr.2.2.2.2.2.2 | exact hr.2.2.2.2.2.2.1 | exact hr.2.2.2.2.2.2.2 | exact hr.2.2.2.2.2.2.2.1 | exact hr.2.2.2.2.2.2.2.2 | exact hr.2.2.2.2.2.2.2.2.1 | exact hr.2.2.2.2.2.2.2.2.2 | exact hr.2.2.2.2.2.2.2.2.2.1 | exact hr.2.2.2.2.2.2.2.2.2.2 | exact hr.2.2.2.2.2.2.2.2.2.2.1 | exact hr.2.2.2.2.2.2.2.2.2.2.2 | exact hr.2.2.2.2.2.2.2.2.2.2.2.1 | exact hr.2.2.2.2.2.2.2.2.2.2.2.2 | exact hr.2.2.2.2.2.2.2.2.2.2.2.2.1 | exact hr.2.2.2.2.2.2.2.2.2.2.2.2.2 | exact hr.2.2.2.2.2.2.2.2.2.2.2.2.2.1 | exact hr.2.2.2.2.2.2.2.2.2.2.2.2.2.2 | exact hr.2.2.2.2.2.2.2.2.2.2.2.2.2.2.1 | exact hr.2.2.2.2.2.2.2.2.2.2.2.2.2.2.2 | exact hr.2.2.2.2.2.2.2.2.2.2.2.2.2.2.2.1 | exact hr.2.2.2.2.2.2.2.2.2.2.2.2.2.2.2.2
              clear hr
              subst e9 e7 e8
              refine wpOpIn_at rfl ?_
              go_simp
              exact hK _ _ ⟨b0, b1, b2, b3, b4, b5, b6, true, true, true, b10, b11, p2, m2, cap2, p3, m3, cap3, p5, m5, cap5, p6, m6, cap6, KL, rfl, rfl, hm, hm6, (fun _ => rfl), hw, g0, g2, g3, g5, g6⟩
            | 10, _, hk =>
              have hr := ready_at rfl hk
              clear hk
              simp [Region.binds, -Array.all_toList] at hr
              have e10 : b10 = false := by first | exact hr | exact hr.1 | exact hr.2 | exact hr.2.1 | exact hr.2.2 | exact hr.2.2.1 | exact hr.2.2.2 | exact hr.2.2.2.1 | exact hr.2.2.2.2 | exact hr.2.2.2.2.1 | exact hr.2.2.2.2.2 | exact hr.2.2.2.2.2.1 | exact hr.2.2.2.2.2.2 | exact hr.2.2.2.2.2.2.1 | exact hr.2.2.2.2.2.2.2 | exact hr.2.2.2.2.2.2.2.1 | exact hr.2.2.2.2.2.2.2.2 | exact hr.2.2.2.2.2.2.2.2.1 | exact hr.2.2.2.2.2.2.2.2.2 | exact hr.2.2.2.2.2.2.2.2.2.1 | exact hr.2.2.2.2.2.2.2.2.2.2 | exact hr.2.2.2.2.2.2.2.2.2.2.1 | exact hr.2.2.2.2.2.2.2.2.2.2.2 | exact hr.2.2.2.2.2.2.2.2.2.2.2.1 | exact hr.2.2.2.2.2.2.2.2.2.2.2.2 | exact hr.2.2.2.2.2.2.2.2.2.2.2.2.1 | exact hr.2.2.2.2.2.2.2.2.2.2.2.2.2 | exact hr.2.2.2.2.2.2.2.2.2.2.2.2.2.1 | exact hr.2.2.2.2.2.2.2.2.2.2.2.2.2.2 | exact hr.2.2.2.2.2.2.2.2.2.2.2.2.2.2.1 | exact hr.2.2.2.2.2.2.2.2.2.2.2.2.2.2.2 | exact hr.2.2.2.2.2.2.2.2.2.2.2.2.2.2.2.1 | exact hr.2.2.2.2.2.2.2.2.2.2.2.2.2.2.2.2
              have e0 : b0 = true := by first | exact hr | exact hr.1 | exact hr.2 | exact hr.2.1 | exact hr.2.2 | exact hr.2.2.1 | exact hr.2.2.2 | exact hr.2.2.2.1 | exact hr.2.2.2.2 | exact hr.2.2.2.2.1 | exact hr.2.2.2.2.2 | exact hr.2.2.2.2.2.1 | exact hr.2.2.2.2.2.2 | exact hr.2.2.2.2.2.2.1 | exact hr.2.2.2.2.2.2.2 | exact hr.2.2.2.2.2.2.2.1 | exact hr.2.2.2.2.2.2.2.2 | exact hr.2.2.2.2.2.2.2.2.1 | exact hr.2.2.2.2.2.2.2.2.2 | exact hr.2.2.2.2.2.2.2.2.2.1 | exact hr.2.2.2.2.2.2.2.2.2.2 | exact hr.2.2.2.2.2.2.2.2.2.2.1 | exact hr.2.2.2.2.2.2.2.2.2.2.2 | exact hr.2.2.2.2.2.2.2.2.2.2.2.1 | exact hr.2.2.2.2.2.2.2.2.2.2.2.2 | exact hr.2.2.2.2.2.2.2.2.2.2.2.2.1 | exact hr.2.2.2.2.2.2.2.2.2.2.2.2.2 | exact hr.2.2.2.2.2.2.2.2.2.2.2.2.2.1 | exact hr.2.2.2.2.2.2.2.2.2.2.2.2.2.2 | exact hr.2.2.2.2.2.2.2.2.2.2.2.2.2.2.1 | exact hr.2.2.2.2.2.2.2.2.2.2.2.2.2.2.2 | exact hr.2.2.2.2.2.2.2.2.2.2.2.2.2.2.2.1 | exact hr.2.2.2.2.2.2.2.2.2.2.2.2.2.2.2.2
              have e1 : b1 = true := by first | exact hr | exact hr.1 | exact hr.2 | exact hr.2.1 | exact hr.2.2 | exact hr.2.2.1 | exact hr.2.2.2 | exact hr.2.2.2.1 | exact hr.2.2.2.2 | exact hr.2.2.2.2.1 | exact hr.2.2.2.2.2 | exact hr.2.2.2.2.2.1 | exact hr.2.2.2.2.2.2 | exact hr.2.2.2.2.2.2.1 | exact hr.2.2.2.2.2.2.2 | exact hr.2.2.2.2.2.2.2.1 | exact hr.2.2.2.2.2.2.2.2 | exact hr.2.2.2.2.2.2.2.2.1 | exact hr.2.2.2.2.2.2.2.2.2 | exact hr.2.2.2.2.2.2.2.2.2.1 | exact hr.2.2.2.2.2.2.2.2.2.2 | exact hr.2.2.2.2.2.2.2.2.2.2.1 | exact hr.2.2.2.2.2.2.2.2.2.2.2 | exact hr.2.2.2.2.2.2.2.2.2.2.2.1 | exact hr.2.2.2.2.2.2.2.2.2.2.2.2 | exact hr.2.2.2.2.2.2.2.2.2.2.2.2.1 | exact hr.2.2.2.2.2.2.2.2.2.2.2.2.2 | exact hr.2.2.2.2.2.2.2.2.2.2.2.2.2.1 | exact hr.2.2.2.2.2.2.2.2.2.2.2.2.2.2 | exact hr.2.2.2.2.2.2.2.2.2.2.2.2.2.2.1 | exact hr.2.2.2.2.2.2.2.2.2.2.2.2.2.2.2 | exact hr.2.2.2.2.2.2.2.2.2.2.2.2.2.2.2.1 | exact hr.2.2.2.2.2.2.2.2.2.2.2.2.2.2.2.2
              have e2 : b2 = true := by first | exact hr | exact hr.1 | exact hr.2 | exact hr.2.1 | exact hr.2.2 | exact hr.2.2.1 | exact hr.2.2.2 | exact hr.2.2.2.1 | exact hr.2.2.2.2 | exact hr.2.2.2.2.1 | exact hr.2.2.2.2.2 | exact hr.2.2.2.2.2.1 | exact hr.2.2.2.2.2.2 | exact hr.2.2.2.2.2.2.1 | exact hr.2.2.2.2.2.2.2 | exact hr.2.2.2.2.2.2.2.1 | exact hr.2.2.2.2.2.2.2.2 | exact hr.2.2.2.2.2.2.2.2.1 | exact hr.2.2.2.2.2.2.2.2.2 | exact hr.2.2.2.2.2.2.2.2.2.1 | exact hr.2.2.2.2.2.2.2.2.2.2 | exact hr.2.2.2.2.2.2.2.2.2.2.1 | exact hr.2.2.2.2.2.2.2.2.2.2.2 | exact hr.2.2.2.2.2.2.2.2.2.2.2.1 | exact hr.2.2.2.2.2.2.2.2.2.2.2.2 | exact hr.2.2.2.2.2.2.2.2.2.2.2.2.1 | exact hr.2.2.2.2.2.2.2.2.2.2.2.2.2 | exact hr.2.2.2.2.2.2.2.2.2.2.2.2.2.1 | exact hr.2.2.2.2.2.2.2.2.2.2.2.2.2.2 | exact hr.2.2.2.2.2.2.2.2.2.2.2.2.2.2.1 | exact hr.2.2.2.2.2.2.2.2.2.2.2.2.2.2.2 | exact hr.2.2.2.2.2.2.2.2.2.2.2.2.2.2.2.1 | exact hr.2.2.2.2.2.2.2.2.2.2.2.2.2.2.2.2
              have e3 : b3 = true := by first | exact hr | exact hr.1 | exact hr.2 | exact hr.2.1 | exact hr.2.2 | exact hr.2.2.1 | exact hr.2.2.2 | exact hr.2.2.2.1 | exact hr.2.2.2.2 | exact hr.2.2.2.2.1 | exact hr.2.2.2.2.2 | exact hr.2.2.2.2.2.1 | exact hr.2.2.2.2.2.2 | exact hr.2.2.2.2.2.2.1 | exact hr.2.2.2.2.2.2.2 | exact hr.2.2.2.2.2.2.2.1 | exact hr.2.2.2.2.2.2.2.2 | exact hr.2.2.2.2.2.2.2.2.1 | exact hr.2.2.2.2.2.2.2.2.2 | exact hr.2.2.2.2.2.2.2.2.2.1 | exact hr.2.2.2.2.2.2.2.2.2.2 | exact hr.2.2.2.2.2.2.2.2.2.2.1 | exact hr.2.2.2.2.2.2.2.2.2.2.2 | exact hr.2.2.2.2.2.2.2.2.2.2.2.1 | exact hr.2.2.2.2.2.2.2.2.2.2.2.2 | exact hr.2.2.2.2.2.2.2.2.2.2.2.2.1 | exact hr.2.2.2.2.2.2.2.2.2.2.2.2.2 | exact hr.2.2.2.2.2.2.2.2.2.2.2.2.2.1 | exact hr.2.2.2.2.2.2.2.2.2.2.2.2.2.2 | exact hr.2.2.2.2.2.2.2.2.2.2.2.2.2.2.1 | exact hr.2.2.2.2.2.2.2.2.2.2.2.2.2.2.2 | exact hr.2.2.2.2.2.2.2.2.2.2.2.2.2.2.2.1 | exact hr.2.2.2.2.2.2.2.2.2.2.2.2.2.2.2.2
              have e4 : b4 = true := by first | exact hr | exact hr.1 | exact hr.2 | exact hr.2.1 | exact hr.2.2 | exact hr.2.2.1 | exact hr.2.2.2 | exact hr.2.2.2.1 | exact hr.2.2.2.2 | exact hr.2.2.2.2.1 | exact hr.2.2.2.2.2 | exact hr.2.2.2.2.2.1 | exact hr.2.2.2.2.2.2 | exact hr.2.2.2.2.2.2.1 | exact hr.2.2.2.2.2.2.2 | exact hr.2.2.2.2.2.2.2.1 | exact hr.2.2.2.2.2.2.2.2 | exact hr.2.2.2.2.2.2.2.2.1 | exact hr.2.2.2.2.2.2.2.2.2 | exact hr.2.2.2.2.2.2.2.2.2.1 | exact hr.2.2.2.2.2.2.2.2.2.2 | exact hr.2.2.2.2.2.2.2.2.2.2.1 | exact hr.2.2.2.2.2.2.2.2.2.2.2 | exact hr.2.2.2.2.2.2.2.2.2.2.2.1 | exact hr.2.2.2.2.2.2.2.2.2.2.2.2 | exact hr.2.2.2.2.2.2.2.2.2.2.2.2.1 | exact hr.2.2.2.2.2.2.2.2.2.2.2.2.2 | exact hr.2.2.2.2.2.2.2.2.2.2.2.2.2.1 | exact hr.2.2.2.2.2.2.2.2.2.2.2.2.2.2 | exact hr.2.2.2.2.2.2.2.2.2.2.2.2.2.2.1 | exact hr.2.2.2.2.2.2.2.2.2.2.2.2.2.2.2 | exact hr.2.2.2.2.2.2.2.2.2.2.2.2.2.2.2.1 | exact hr.2.2.2.2.2.2.2.2.2.2.2.2.2.2.2.2
              have e5 : b5 = true := by first | exact hr | exact hr.1 | exact hr.2 | exact hr.2.1 | exact hr.2.2 | exact hr.2.2.1 | exact hr.2.2.2 | exact hr.2.2.2.1 | exact hr.2.2.2.2 | exact hr.2.2.2.2.1 | exact hr.2.2.2.2.2 | exact hr.2.2.2.2.2.1 | exact hr.2.2.2.2.2.2 | exact hr.2.2.2.2.2.2.1 | exact hr.2.2.2.2.2.2.2 | exact hr.2.2.2.2.2.2.2.1 | exact hr.2.2.2.2.2.2.2.2 | exact hr.2.2.2.2.2.2.2.2.1 | exact hr.2.2.2.2.2.2.2.2.2 | exact hr.2.2.2.2.2.2.2.2.2.1 | exact hr.2.2.2.2.2.2.2.2.2.2 | exact hr.2.2.2.2.2.2.2.2.2.2.1 | exact hr.2.2.2.2.2.2.2.2.2.2.2 | exact hr.2.2.2.2.2.2.2.2.2.2.2.1 | exact hr.2.2.2.2.2.2.2.2.2.2.2.2 | exact hr.2.2.2.2.2.2.2.2.2.2.2.2.1 | exact hr.2.2.2.2.2.2.2.2.2.2.2.2.2 | exact hr.2.2.2.2.2.2.2.2.2.2.2.2.2.1 | exact hr.2.2.2.2.2.2.2.2.2.2.2.2.2.2 | exact hr.2.2.2.2.2.2.2.2.2.2.2.2.2.2.1 | exact hr.2.2.2.2.2.2.2.2.2.2.2.2.2.2.2 | exact hr.2.2.2.2.2.2.2.2.2.2.2.2.2.2.2.1 | exact hr.2.2.2.2.2.2.2.2.2.2.2.2.2.2.2.2
              have e6 : b6 = true := by first | exact hr | exact hr.1 | exact hr.2 | exact hr.2.1 | exact hr.2.2 | exact hr.2.2.1 | exact hr.2.2.2 | exact hr.2.2.2.1 | exact hr.2.2.2.2 | exact hr.2.2.2.2.1 | exact hr.2.2.2.2.2 | exact hr.2.2.2.2.2.1 | exact hr.2.2.2.2.2.2 | exact hr.2.2.2.2.2.2.1 | exact hr.2.2.2.2.2.2.2 | exact hr.2.2.2.2.2.2.2.1 | exact hr.2.2.2.2.2.2.2.2 | exact hr.2.2.2.2.2.2.2.2.1 | exact hr.2.2.2.2.2.2.2.2.2 | exact hr.2.2.2.2.2.2.2.2.2.1 | exact hr.2.2.2.2.2.2.2.2.2.2 | exact hr.2.2.2.2.2.2.2.2.2.2.1 | exact hr.2.2.2.2.2.2.2.2.2.2.2 | exact hr.2.2.2.2.2.2.2.2.2.2.2.1 | exact hr.2.2.2.2.2.2.2.2.2.2.2.2 | exact hr.2.2.2.2.2.2.2.2.2.2.2.2.1 | exact hr.2.2.2.2.2.2.2.2.2.2.2.2.2 | exact hr.2.2.2.2.2.2.2.2.2.2.2.2.2.1 | exact hr.2.2.2.2.2.2.2.2.2.2.2.2.2.2 | exact hr.2.2.2.2.2.2.2.2.2.2.2.2.2.2.1 | exact hr.2.2.2.2.2.2.2.2.2.2.2.2.2.2.2 | exact hr.2.2.2.2.2.2.2.2.2.2.2.2.2.2.2.1 | exact hr.2.2.2.2.2.2.2.2.2.2.2.2.2.2.2.2
              clear hr
              subst e10 e0 e1 e2 e3 e4 e5 e6
              refine wpOpIn_at rfl ?_
              go_simp
              exact hK _ _ ⟨true, true, true, true, true, true, true, b7, b8, b9, true, b11, p2, m2, cap2, p3, m3, cap3, p5, m5, cap5, p6, m6, cap6, KL, rfl, rfl, (fun _ => rfl), (fun _ => rfl), hm7, hw.store hty hC hS _, g0, g2, g3, g5, g6⟩
            | 11, _, hk =>
              have hr := ready_at rfl hk
              clear hk
              simp [Region.binds, -Array.all_toList] at hr
              have e11 : b11 = false := by first | exact hr | exact hr.1 | exact hr.2 | exact hr.2.1 | exact hr.2.2 | exact hr.2.2.1 | exact hr.2.2.2 | exact hr.2.2.2.1 | exact hr.2.2.2.2 | exact hr.2.2.2.2.1 | exact hr.2.2.2.2.2 | exact hr.2.2.2.2.2.1 | exact hr.2.2.2.2.2.2 | exact hr.2.2.2.2.2.2.1 | exact hr.2.2.2.2.2.2.2 | exact hr.2.2.2.2.2.2.2.1 | exact hr.2.2.2.2.2.2.2.2 | exact hr.2.2.2.2.2.2.2.2.1 | exact hr.2.2.2.2.2.2.2.2.2 | exact hr.2.2.2.2.2.2.2.2.2.1 | exact hr.2.2.2.2.2.2.2.2.2.2 | exact hr.2.2.2.2.2.2.2.2.2.2.1 | exact hr.2.2.2.2.2.2.2.2.2.2.2 | exact hr.2.2.2.2.2.2.2.2.2.2.2.1 | exact hr.2.2.2.2.2.2.2.2.2.2.2.2 | exact hr.2.2.2.2.2.2.2.2.2.2.2.2.1 | exact hr.2.2.2.2.2.2.2.2.2.2.2.2.2 | exact hr.2.2.2.2.2.2.2.2.2.2.2.2.2.1 | exact hr.2.2.2.2.2.2.2.2.2.2.2.2.2.2 | exact hr.2.2.2.2.2.2.2.2.2.2.2.2.2.2.1 | exact hr.2.2.2.2.2.2.2.2.2.2.2.2.2.2.2 | exact hr.2.2.2.2.2.2.2.2.2.2.2.2.2.2.2.1 | exact hr.2.2.2.2.2.2.2.2.2.2.2.2.2.2.2.2
              have e0 : b0 = true := by first | exact hr | exact hr.1 | exact hr.2 | exact hr.2.1 | exact hr.2.2 | exact hr.2.2.1 | exact hr.2.2.2 | exact hr.2.2.2.1 | exact hr.2.2.2.2 | exact hr.2.2.2.2.1 | exact hr.2.2.2.2.2 | exact hr.2.2.2.2.2.1 | exact hr.2.2.2.2.2.2 | exact hr.2.2.2.2.2.2.1 | exact hr.2.2.2.2.2.2.2 | exact hr.2.2.2.2.2.2.2.1 | exact hr.2.2.2.2.2.2.2.2 | exact hr.2.2.2.2.2.2.2.2.1 | exact hr.2.2.2.2.2.2.2.2.2 | exact hr.2.2.2.2.2.2.2.2.2.1 | exact hr.2.2.2.2.2.2.2.2.2.2 | exact hr.2.2.2.2.2.2.2.2.2.2.1 | exact hr.2.2.2.2.2.2.2.2.2.2.2 | exact hr.2.2.2.2.2.2.2.2.2.2.2.1 | exact hr.2.2.2.2.2.2.2.2.2.2.2.2 | exact hr.2.2.2.2.2.2.2.2.2.2.2.2.1 | exact hr.2.2.2.2.2.2.2.2.2.2.2.2.2 | exact hr.2.2.2.2.2.2.2.2.2.2.2.2.2.1 | exact hr.2.2.2.2.2.2.2.2.2.2.2.2.2.2 | exact hr.2.2.2.2.2.2.2.2.2.2.2.2.2.2.1 | exact hr.2.2.2.2.2.2.2.2.2.2.2.2.2.2.2 | exact hr.2.2.2.2.2.2.2.2.2.2.2.2.2.2.2.1 | exact hr.2.2.2.2.2.2.2.2.2.2.2.2.2.2.2.2
              have e1 : b1 = true := by first | exact hr | exact hr.1 | exact hr.2 | exact hr.2.1 | exact hr.2.2 | exact hr.2.2.1 | exact hr.2.2.2 | exact hr.2.2.2.1 | exact hr.2.2.2.2 | exact hr.2.2.2.2.1 | exact hr.2.2.2.2.2 | exact hr.2.2.2.2.2.1 | exact hr.2.2.2.2.2.2 | exact hr.2.2.2.2.2.2.1 | exact hr.2.2.2.2.2.2.2 | exact hr.2.2.2.2.2.2.2.1 | exact hr.2.2.2.2.2.2.2.2 | exact hr.2.2.2.2.2.2.2.2.1 | exact hr.2.2.2.2.2.2.2.2.2 | exact hr.2.2.2.2.2.2.2.2.2.1 | exact hr.2.2.2.2.2.2.2.2.2.2 | exact hr.2.2.2.2.2.2.2.2.2.2.1 | exact hr.2.2.2.2.2.2.2.2.2.2.2 | exact hr.2.2.2.2.2.2.2.2.2.2.2.1 | exact hr.2.2.2.2.2.2.2.2.2.2.2.2 | exact hr.2.2.2.2.2.2.2.2.2.2.2.2.1 | exact hr.2.2.2.2.2.2.2.2.2.2.2.2.2 | exact hr.2.2.2.2.2.2.2.2.2.2.2.2.2.1 | exact hr.2.2.2.2.2.2.2.2.2.2.2.2.2.2 | exact hr.2.2.2.2.2.2.2.2.2.2.2.2.2.2.1 | exact hr.2.2.2.2.2.2.2.2.2.2.2.2.2.2.2 | exact hr.2.2.2.2.2.2.2.2.2.2.2.2.2.2.2.1 | exact hr.2.2.2.2.2.2.2.2.2.2.2.2.2.2.2.2
              have e2 : b2 = true := by first | exact hr | exact hr.1 | exact hr.2 | exact hr.2.1 | exact hr.2.2 | exact hr.2.2.1 | exact hr.2.2.2 | exact hr.2.2.2.1 | exact hr.2.2.2.2 | exact hr.2.2.2.2.1 | exact hr.2.2.2.2.2 | exact hr.2.2.2.2.2.1 | exact hr.2.2.2.2.2.2 | exact hr.2.2.2.2.2.2.1 | exact hr.2.2.2.2.2.2.2 | exact hr.2.2.2.2.2.2.2.1 | exact hr.2.2.2.2.2.2.2.2 | exact hr.2.2.2.2.2.2.2.2.1 | exact hr.2.2.2.2.2.2.2.2.2 | exact hr.2.2.2.2.2.2.2.2.2.1 | exact hr.2.2.2.2.2.2.2.2.2.2 | exact hr.2.2.2.2.2.2.2.2.2.2.1 | exact hr.2.2.2.2.2.2.2.2.2.2.2 | exact hr.2.2.2.2.2.2.2.2.2.2.2.1 | exact hr.2.2.2.2.2.2.2.2.2.2.2.2 | exact hr.2.2.2.2.2.2.2.2.2.2.2.2.1 | exact hr.2.2.2.2.2.2.2.2.2.2.2.2.2 | exact hr.2.2.2.2.2.2.2.2.2.2.2.2.2.1 | exact hr.2.2.2.2.2.2.2.2.2.2.2.2.2.2 | exact hr.2.2.2.2.2.2.2.2.2.2.2.2.2.2.1 | exact hr.2.2.2.2.2.2.2.2.2.2.2.2.2.2.2 | exact hr.2.2.2.2.2.2.2.2.2.2.2.2.2.2.2.1 | exact hr.2.2.2.2.2.2.2.2.2.2.2.2.2.2.2.2
              have e3 : b3 = true := by first | exact hr | exact hr.1 | exact hr.2 | exact hr.2.1 | exact hr.2.2 | exact hr.2.2.1 | exact hr.2.2.2 | exact hr.2.2.2.1 | exact hr.2.2.2.2 | exact hr.2.2.2.2.1 | exact hr.2.2.2.2.2 | exact hr.2.2.2.2.2.1 | exact hr.2.2.2.2.2.2 | exact hr.2.2.2.2.2.2.1 | exact hr.2.2.2.2.2.2.2 | exact hr.2.2.2.2.2.2.2.1 | exact hr.2.2.2.2.2.2.2.2 | exact hr.2.2.2.2.2.2.2.2.1 | exact hr.2.2.2.2.2.2.2.2.2 | exact hr.2.2.2.2.2.2.2.2.2.1 | exact hr.2.2.2.2.2.2.2.2.2.2 | exact hr.2.2.2.2.2.2.2.2.2.2.1 | exact hr.2.2.2.2.2.2.2.2.2.2.2 | exact hr.2.2.2.2.2.2.2.2.2.2.2.1 | exact hr.2.2.2.2.2.2.2.2.2.2.2.2 | exact hr.2.2.2.2.2.2.2.2.2.2.2.2.1 | exact hr.2.2.2.2.2.2.2.2.2.2.2.2.2 | exact hr.2.2.2.2.2.2.2.2.2.2.2.2.2.1 | exact hr.2.2.2.2.2.2.2.2.2.2.2.2.2.2 | exact hr.2.2.2.2.2.2.2.2.2.2.2.2.2.2.1 | exact hr.2.2.2.2.2.2.2.2.2.2.2.2.2.2.2 | exact hr.2.2.2.2.2.2.2.2.2.2.2.2.2.2.2.1 | exact hr.2.2.2.2.2.2.2.2.2.2.2.2.2.2.2.2
              have e4 : b4 = true := by first | exact hr | exact hr.1 | exact hr.2 | exact hr.2.1 | exact hr.2.2 | exact hr.2.2.1 | exact hr.2.2.2 | exact hr.2.2.2.1 | exact hr.2.2.2.2 | exact hr.2.2.2.2.1 | exact hr.2.2.2.2.2 | exact hr.2.2.2.2.2.1 | exact hr.2.2.2.2.2.2 | exact hr.2.2.2.2.2.2.1 | exact hr.2.2.2.2.2.2.2 | exact hr.2.2.2.2.2.2.2.1 | exact hr.2.2.2.2.2.2.2.2 | exact hr.2.2.2.2.2.2.2.2.1 | exact hr.2.2.2.2.2.2.2.2.2 | exact hr.2.2.2.2.2.2.2.2.2.1 | exact hr.2.2.2.2.2.2.2.2.2.2 | exact hr.2.2.2.2.2.2.2.2.2.2.1 | exact hr.2.2.2.2.2.2.2.2.2.2.2 | exact hr.2.2.2.2.2.2.2.2.2.2.2.1 | exact hr.2.2.2.2.2.2.2.2.2.2.2.2 | exact hr.2.2.2.2.2.2.2.2.2.2.2.2.1 | exact hr.2.2.2.2.2.2.2.2.2.2.2.2.2 | exact hr.2.2.2.2.2.2.2.2.2.2.2.2.2.1 | exact hr.2.2.2.2.2.2.2.2.2.2.2.2.2.2 | exact hr.2.2.2.2.2.2.2.2.2.2.2.2.2.2.1 | exact hr.2.2.2.2.2.2.2.2.2.2.2.2.2.2.2 | exact hr.2.2.2.2.2.2.2.2.2.2.2.2.2.2.2.1 | exact hr.2.2.2.2.2.2.2.2.2.2.2.2.2.2.2.2
              have e5 : b5 = true := by first | exact hr | exact hr.1 | exact hr.2 | exact hr.2.1 | exact hr.2.2 | exact hr.2.2.1 | exact hr.2.2.2 | exact hr.2.2.2.1 | exact hr.2.2.2.2 | exact hr.2.2.2.2.1 | exact hr.2.2.2.2.2 | exact hr.2.2.2.2.2.1 | exact hr.2.2.2.2.2.2 | exact hr.2.2.2.2.2.2.1 | exact hr.2.2.2.2.2.2.2 | exact hr.2.2.2.2.2.2.2.1 | exact hr.2.2.2.2.2.2.2.2 | exact hr.2.2.2.2.2.2.2.2.1 | exact hr.2.2.2.2.2.2.2.2.2 | exact hr.2.2.2.2.2.2.2.2.2.1 | exact hr.2.2.2.2.2.2.2.2.2.2 | exact hr.2.2.2.2.2.2.2.2.2.2.1 | exact hr.2.2.2.2.2.2.2.2.2.2.2 | exact hr.2.2.2.2.2.2.2.2.2.2.2.1 | exact hr.2.2.2.2.2.2.2.2.2.2.2.2 | exact hr.2.2.2.2.2.2.2.2.2.2.2.2.1 | exact hr.2.2.2.2.2.2.2.2.2.2.2.2.2 | exact hr.2.2.2.2.2.2.2.2.2.2.2.2.2.1 | exact hr.2.2.2.2.2.2.2.2.2.2.2.2.2.2 | exact hr.2.2.2.2.2.2.2.2.2.2.2.2.2.2.1 | exact hr.2.2.2.2.2.2.2.2.2.2.2.2.2.2.2 | exact hr.2.2.2.2.2.2.2.2.2.2.2.2.2.2.2.1 | exact hr.2.2.2.2.2.2.2.2.2.2.2.2.2.2.2.2
              have e6 : b6 = true := by first | exact hr | exact hr.1 | exact hr.2 | exact hr.2.1 | exact hr.2.2 | exact hr.2.2.1 | exact hr.2.2.2 | exact hr.2.2.2.1 | exact hr.2.2.2.2 | exact hr.2.2.2.2.1 | exact hr.2.2.2.2.2 | exact hr.2.2.2.2.2.1 | exact hr.2.2.2.2.2.2 | exact hr.2.2.2.2.2.2.1 | exact hr.2.2.2.2.2.2.2 | exact hr.2.2.2.2.2.2.2.1 | exact hr.2.2.2.2.2.2.2.2 | exact hr.2.2.2.2.2.2.2.2.1 | exact hr.2.2.2.2.2.2.2.2.2 | exact hr.2.2.2.2.2.2.2.2.2.1 | exact hr.2.2.2.2.2.2.2.2.2.2 | exact hr.2.2.2.2.2.2.2.2.2.2.1 | exact hr.2.2.2.2.2.2.2.2.2.2.2 | exact hr.2.2.2.2.2.2.2.2.2.2.2.1 | exact hr.2.2.2.2.2.2.2.2.2.2.2.2 | exact hr.2.2.2.2.2.2.2.2.2.2.2.2.1 | exact hr.2.2.2.2.2.2.2.2.2.2.2.2.2 | exact hr.2.2.2.2.2.2.2.2.2.2.2.2.2.1 | exact hr.2.2.2.2.2.2.2.2.2.2.2.2.2.2 | exact hr.2.2.2.2.2.2.2.2.2.2.2.2.2.2.1 | exact hr.2.2.2.2.2.2.2.2.2.2.2.2.2.2.2 | exact hr.2.2.2.2.2.2.2.2.2.2.2.2.2.2.2.1 | exact hr.2.2.2.2.2.2.2.2.2.2.2.2.2.2.2.2
              have e7 : b7 = true := by first | exact hr | exact hr.1 | exact hr.2 | exact hr.2.1 | exact hr.2.2 | exact hr.2.2.1 | exact hr.2.2.2 | exact hr.2.2.2.1 | exact hr.2.2.2.2 | exact hr.2.2.2.2.1 | exact hr.2.2.2.2.2 | exact hr.2.2.2.2.2.1 | exact hr.2.2.2.2.2.2 | exact hr.2.2.2.2.2.2.1 | exact hr.2.2.2.2.2.2.2 | exact hr.2.2.2.2.2.2.2.1 | exact hr.2.2.2.2.2.2.2.2 | exact hr.2.2.2.2.2.2.2.2.1 | exact hr.2.2.2.2.2.2.2.2.2 | exact hr.2.2.2.2.2.2.2.2.2.1 | exact hr.2.2.2.2.2.2.2.2.2.2 | exact hr.2.2.2.2.2.2.2.2.2.2.1 | exact hr.2.2.2.2.2.2.2.2.2.2.2 | exact hr.2.2.2.2.2.2.2.2.2.2.2.1 | exact hr.2.2.2.2.2.2.2.2.2.2.2.2 | exact hr.2.2.2.2.2.2.2.2.2.2.2.2.1 | exact hr.2.2.2.2.2.2.2.2.2.2.2.2.2 | exact hr.2.2.2.2.2.2.2.2.2.2.2.2.2.1 | exact hr.2.2.2.2.2.2.2.2.2.2.2.2.2.2 | exact hr.2.2.2.2.2.2.2.2.2.2.2.2.2.2.1 | exact hr.2.2.2.2.2.2.2.2.2.2.2.2.2.2.2 | exact hr.2.2.2.2.2.2.2.2.2.2.2.2.2.2.2.1 | exact hr.2.2.2.2.2.2.2.2.2.2.2.2.2.2.2.2
              have e8 : b8 = true := by first | exact hr | exact hr.1 | exact hr.2 | exact hr.2.1 | exact hr.2.2 | exact hr.2.2.1 | exact hr.2.2.2 | exact hr.2.2.2.1 | exact hr.2.2.2.2 | exact hr.2.2.2.2.1 | exact hr.2.2.2.2.2 | exact hr.2.2.2.2.2.1 | exact hr.2.2.2.2.2.2 | exact hr.2.2.2.2.2.2.1 | exact hr.2.2.2.2.2.2.2 | exact hr.2.2.2.2.2.2.2.1 | exact hr.2.2.2.2.2.2.2.2 | exact hr.2.2.2.2.2.2.2.2.1 | exact hr.2.2.2.2.2.2.2.2.2 | exact hr.2.2.2.2.2.2.2.2.2.1 | exact hr.2.2.2.2.2.2.2.2.2.2 | exact hr.2.2.2.2.2.2.2.2.2.2.1 | exact hr.2.2.2.2.2.2.2.2.2.2.2 | exact hr.2.2.2.2.2.2.2.2.2.2.2.1 | exact hr.2.2.2.2.2.2.2.2.2.2.2.2 | exact hr.2.2.2.2.2.2.2.2.2.2.2.2.1 | exact hr.2.2.2.2.2.2.2.2.2.2.2.2.2 | exact hr.2.2.2.2.2.2.2.2.2.2.2.2.2.1 | exact hr.2.2.2.2.2.2.2.2.2.2.2.2.2.2 | exact hr.2.2.2.2.2.2.2.2.2.2.2.2.2.2.1 | exact hr.2.2.2.2.2.2.2.2.2.2.2.2.2.2.2 | exact hr.2.2.2.2.2.2.2.2.2.2.2.2.2.2.2.1 | exact hr.2.2.2.2.2.2.2.2.2.2.2.2.2.2.2.2
              have e9 : b9 = true := by first | exact hr | exact hr.1 | exact hr.2 | exact hr.2.1 | exact hr.2.2 | exact hr.2.2.1 | exact hr.2.2.2 | exact hr.2.2.2.1 | exact hr.2.2.2.2 | exact hr.2.2.2.2.1 | exact hr.2.2.2.2.2 | exact hr.2.2.2.2.2.1 | exact hr.2.2.2.2.2.2 | exact hr.2.2.2.2.2.2.1 | exact hr.2.2.2.2.2.2.2 | exact hr.2.2.2.2.2.2.2.1 | exact hr.2.2.2.2.2.2.2.2 | exact hr.2.2.2.2.2.2.2.2.1 | exact hr.2.2.2.2.2.2.2.2.2 | exact hr.2.2.2.2.2.2.2.2.2.1 | exact hr.2.2.2.2.2.2.2.2.2.2 | exact hr.2.2.2.2.2.2.2.2.2.2.1 | exact hr.2.2.2.2.2.2.2.2.2.2.2 | exact hr.2.2.2.2.2.2.2.2.2.2.2.1 | exact hr.2.2.2.2.2.2.2.2.2.2.2.2 | exact hr.2.2.2.2.2.2.2.2.2.2.2.2.1 | exact hr.2.2.2.2.2.2.2.2.2.2.2.2.2 | exact hr.2.2.2.2.2.2.2.2.2.2.2.2.2.1 | exact hr.2.2.2.2.2.2.2.2.2.2.2.2.2.2 | exact hr.2.2.2.2.2.2.2.2.2.2.2.2.2.2.1 | exact hr.2.2.2.2.2.2.2.2.2.2.2.2.2.2.2 | exact hr.2.2.2.2.2.2.2.2.2.2.2.2.2.2.2.1 | exact hr.2.2.2.2.2.2.2.2.2.2.2.2.2.2.2.2
              have e10 : b10 = true := by first | exact hr | exact hr.1 | exact hr.2 | exact hr.2.1 | exact hr.2.2 | exact hr.2.2.1 | exact hr.2.2.2 | exact hr.2.2.2.1 | exact hr.2.2.2.2 | exact hr.2.2.2.2.1 | exact hr.2.2.2.2.2 | exact hr.2.2.2.2.2.1 | exact hr.2.2.2.2.2.2 | exact hr.2.2.2.2.2.2.1 | exact hr.2.2.2.2.2.2.2 | exact hr.2.2.2.2.2.2.2.1 | exact hr.2.2.2.2.2.2.2.2 | exact hr.2.2.2.2.2.2.2.2.1 | exact hr.2.2.2.2.2.2.2.2.2 | exact hr.2.2.2.2.2.2.2.2.2.1 | exact hr.2.2.2.2.2.2.2.2.2.2 | exact hr.2.2.2.2.2.2.2.2.2.2.1 | exact hr.2.2.2.2.2.2.2.2.2.2.2 | exact hr.2.2.2.2.2.2.2.2.2.2.2.1 | exact hr.2.2.2.2.2.2.2.2.2.2.2.2 | exact hr.2.2.2.2.2.2.2.2.2.2.2.2.1 | exact hr.2.2.2.2.2.2.2.2.2.2.2.2.2 | exact hr.2.2.2.2.2.2.2.2.2.2.2.2.2.1 | exact hr.2.2.2.2.2.2.2.2.2.2.2.2.2.2 | exact hr.2.2.2.2.2.2.2.2.2.2.2.2.2.2.1 | exact hr.2.2.2.2.2.2.2.2.2.2.2.2.2.2.2 | exact hr.2.2.2.2.2.2.2.2.2.2.2.2.2.2.2.1 | exact hr.2.2.2.2.2.2.2.2.2.2.2.2.2.2.2.2
              clear hr
              subst e11 e0 e1 e2 e3 e4 e5 e6 e7 e8 e9 e10
              refine wpOpIn_at rfl ?_
              go_simp
              exact hK _ _ ⟨true, true, true, true, true, true, true, true, true, true, true, true, p2, m2, cap2, p3, m3, cap3, p5, m5, cap5, p6, m6, cap6, KL, rfl, rfl, (fun _ => rfl), (fun _ => rfl), (fun _ => rfl), hw, g0, g2, g3, g5, g6⟩
          · rintro L a w - ⟨b0, b1, b2, b3, b4, b5, b6, b7, b8, b9, b10, b11, p2, m2, cap2, p3, m3, cap3, p5, m5, cap5, p6, m6, cap6, KL, rfl, rfl, -, -, -, hw, g0, g2, g3, g5, g6⟩ hr
            obtain rfl : b0 = true := by cases b0 with | true => rfl | false => exact absurd (hr ▸ (ready_iff.2 ⟨by decide, rfl, _, rfl, by simp [Region.binds, -Array.all_toList]⟩ : 0 ∈ Region.ready .any _ _)) (by simp)
            obtain rfl : b1 = true := by cases b1 with | true => rfl | false => exact absurd (hr ▸ (ready_iff.2 ⟨by decide, rfl, _, rfl, by simp [Region.binds, -Array.all_toList]⟩ : 1 ∈ Region.ready .any _ _)) (by simp)
            obtain rfl : b2 = true := by cases b2 with | true => rfl | false => exact absurd (hr ▸ (ready_iff.2 ⟨by decide, rfl, _, rfl, by simp [Region.binds, -Array.all_toList]⟩ : 2 ∈ Region.ready .any _ _)) (by simp)
            obtain rfl : b3 = true := by cases b3 with | true => rfl | false => exact absurd (hr ▸ (ready_iff.2 ⟨by decide, rfl, _, rfl, by simp [Region.binds, -Array.all_toList]⟩ : 3 ∈ Region.ready .any _ _)) (by simp)
            obtain rfl : b4 = true := by cases b4 with | true => rfl | false => exact absurd (hr ▸ (ready_iff.2 ⟨by decide, rfl, _, rfl, by simp [Region.binds, -Array.all_toList]⟩ : 4 ∈ Region.ready .any _ _)) (by simp)
            obtain rfl : b5 = true := by cases b5 with | true => rfl | false => exact absurd (hr ▸ (ready_iff.2 ⟨by decide, rfl, _, rfl, by simp [Region.binds, -Array.all_toList]⟩ : 5 ∈ Region.ready .any _ _)) (by simp)
            obtain rfl : b6 = true := by cases b6 with | true => rfl | false => exact absurd (hr ▸ (ready_iff.2 ⟨by decide, rfl, _, rfl, by simp [Region.binds, -Array.all_toList]⟩ : 6 ∈ Region.ready .any _ _)) (by simp)
            obtain rfl : b7 = true := by cases b7 with | true => rfl | false => exact absurd (hr ▸ (ready_iff.2 ⟨by decide, rfl, _, rfl, by simp [Region.binds, -Array.all_toList]⟩ : 7 ∈ Region.ready .any _ _)) (by simp)
            obtain rfl : b8 = true := by cases b8 with | true => rfl | false => exact absurd (hr ▸ (ready_iff.2 ⟨by decide, rfl, _, rfl, by simp [Region.binds, -Array.all_toList]⟩ : 8 ∈ Region.ready .any _ _)) (by simp)
            obtain rfl : b9 = true := by cases b9 with | true => rfl | false => exact absurd (hr ▸ (ready_iff.2 ⟨by decide, rfl, _, rfl, by simp [Region.binds, -Array.all_toList]⟩ : 9 ∈ Region.ready .any _ _)) (by simp)
            obtain rfl : b10 = true := by cases b10 with | true => rfl | false => exact absurd (hr ▸ (ready_iff.2 ⟨by decide, rfl, _, rfl, by simp [Region.binds, -Array.all_toList]⟩ : 10 ∈ Region.ready .any _ _)) (by simp)
            obtain rfl : b11 = true := by cases b11 with | true => rfl | false => exact absurd (hr ▸ (ready_iff.2 ⟨by decide, rfl, _, rfl, by simp [Region.binds, -Array.all_toList]⟩ : 11 ∈ Region.ready .any _ _)) (by simp)
            obtain ⟨S2, s1, s2, s3⟩ := hw.den
            gi_wp2
            refine ⟨⟨t.extract 18 t.size, _, f', p6, m6, cap6, S2, rfl, by rw [ByteArray.size_extract]; omega, (fun c hc => hd c (mem_extract hc)), o5, o6, hw.box, hw.below, s1, s2, s3 _ (g6 rfl)⟩, ?_⟩
            show ByteArray.size (t.extract 18 t.size) < t.size
            rw [ByteArray.size_extract]; omega
          · have h0 : Below wr.heap.size wr (wr.iter (t.extract 0 18) (18)) := (Below.refl _ wr).alloc (Nat.le_refl _) _
            have hbi : Below wr.heap.size wr { wr.iter (t.extract 0 18) (18) with drawn := (wr.iter (t.extract 0 18) (18)).drawn + 1 } := ⟨h0.os, h0.tape, h0.output, h0.size, h0.block⟩
            refine ⟨boxed_below hb hbi hb.lt, hB.trans (hbi.mono hB.size), S', hS1, fun b h => (hS2 b h).imp id (fun h => ⟨h.1, Nat.lt_of_lt_of_le h.2 hbi.size⟩), fun q hq => ?_⟩
            obtain rfl := List.mem_singleton.1 hq
            refine list_mono hty hC hn fun b h => ⟨h, hbi.block b ?_⟩
            rcases hS2 b h.2 with hz | hz
            · have := hS b hz; have := hB.size; omega
            · exact hz.2

theorem value_calls {c : Cfg El} (hc : CfgOk c) (hP : c.P = P) (hty : c.ty = base.ty) (hC : c.C = base.C)
    (h38 : ∀ n, S.nat_Of_pre n → CallOk c 38 [.int .u64 n] (.agg [.list 39 true (S.nat_Of n).limbs]) [])
    (h37 : ∀ a b, S.nat_Mul_pre a b → CallOk c 37 [.agg [.list 39 false a.limbs], .agg [.list 39 false b.limbs]] (.agg [.list 39 true (S.nat_Mul a b).limbs]) [])
    (h36 : ∀ a b, S.nat_Add_pre a b → CallOk c 36 [.agg [.list 39 false a.limbs], .agg [.list 39 false b.limbs]] (.agg [.list 39 true (S.nat_Add a b).limbs]) [])
    (s : ByteArray) (hp : S.deci_value_pre s) : CallOk c 58 [.str s] (.agg [.list 39 false (S.deci_value s).limbs]) [] := by
  obtain ⟨h1, h2⟩ := hp
  intro w Z σ β xs hT hS hI hA
  have h0 : xs.getD 0 undef = .string s := Den.of_str (hA.den 0 (by simp))
  have hx : xs = #[.string s] := by
    have hl := hA.size
    obtain ⟨l⟩ := xs
    match l, hl with
    | [a], _ => simp at h0; simp [h0]
  subst hx
  rw [hP]
  refine (callsIn_wide.1 (value_in hc hP hty hC hT hS hI (σ := σ) h38 h37 h36 s h1 h2)).mono ?_
  rintro e W' ⟨x, rfl, hB, Z', z1, z2, hr⟩
  exact ⟨x, rfl, (Bel.refl ⟨w, _⟩).below hB, Z', z1, z2, hr, trivial⟩
end Go.Proofs.Ythnlknegnlmklaa
