/-
  What the interpreter says of one operation is so: the theorem.
-/
import Derived.Test.YtpphpbphgnlmlaaVm7
set_option linter.all false
namespace Vm
open Go Go.RowKit
variable {A : Nat → Type}

section
variable {c : Cfg A} {n : Nat} {w0 : World} {S0 S : Nat → Prop} {σ : Nat → Loc} {lk : K → Option (Ent A)} {a : Act} {w : World}

theorem wp_did {o : Oper} {s : Sem Value} (he : execOp a.eval o = (do pure (.value (← s)))) {v : V A} {ent : Env A} {x : Value} {w' : World} (hrun : s.run c.P w = .ok x w')
    (hd : Did c n w0 S0 lk o.dst ent v a x w') {K : Act → World → Prop} {Q : Exit → Act → World → Prop} (hK : ∀ x w', Did c n w0 S0 lk o.dst ent v a x w' → K (a.put o.dst x) w') : o.wp c.P a w K Q := by
  unfold Oper.wp
  rw [he]
  simp only [Sem.run_bind, hrun, Result.andThen_ok, Sem.run_pure, Oper.upon]
  exact hK x w' hd

theorem wp_gives (hR : RelAt c n w0 S0 S σ lk a w) {o : Oper} {s : Sem Value} (he : execOp a.eval o = (do pure (.value (← s)))) {v : V A} (hg : Gives c S σ w s v)
    {K : Act → World → Prop} {Q : Exit → Act → World → Prop} (hK : ∀ x w', Did c n w0 S0 lk o.dst [] v a x w' → K (a.put o.dst x) w') : o.wp c.P a w K Q := by
  obtain ⟨x, hx, hd⟩ := hg
  exact wp_did he hx (did_same hR hd) hK

set_option maxHeartbeats 4000000 in
theorem ex_ok (hc : CfgOk c) (hR : RelAt c n w0 S0 S σ lk a w) {E : Env A} (hE : ∀ k e, look k E = some e → lk k = some e) {g : Chain} (hg : Holds a g) (o : Oper) {v : V A} {ent : Env A} {ps : List Prop}
    (h : ex c E g o.dst o.op = some (v, ent, ps)) (hps : All ps) (hfr : ∀ d, o.dst = some d → ∀ k g v, lk k = some (g, v) → entAvoids d (k, g, v) = true)
    {K : Act → World → Prop} {Q : Exit → Act → World → Prop} (hK : ∀ x w', Did c n w0 S0 lk o.dst ent v a x w' → K (a.put o.dst x) w') : o.wp c.P a w K Q := by
  obtain ⟨dst, op, ty, pos, after, guard⟩ := o
  simp only at h hfr hK
  have op_den : ∀ {x : Operand} {v : V A}, opv E g x = some v → Den c S σ w v (a.eval x) := fun h => opv_den hR hE hg h
  cases op with
  | move x | assign x =>
    simp only [ex, val] at h
    split at h
    · rename_i u hu
      cases h
      unfold Oper.wp
      simp only [execOp, Sem.run_pure, Oper.upon]
      exact hK _ _ (did_same hR (op_den hu))
    · cases h
  | pick x y z =>
    cases x with
    | tmp t =>
      simp only [ex, val] at h
      split at h
      · rename_i b hb
        split at h
        · rename_i u u' hu hu'
          cases h
          have hbd := (op_den hb).of_bool
          have hslot : a.tmps.getD t undef = .bool b := hbd
          unfold Oper.wp
          simp only [execOp, hbd, asBool, Sem.run_bind, Sem.run_pure, Result.andThen_ok, Oper.upon]
          refine hK _ _ (did_same hR (Den.merge ?_))
          cases b
          · simpa using opv_den hR hE (g := (t, false) :: g) (fun p hp => by
              cases hp with
              | head => exact hslot
              | tail _ hm => exact hg p hm) hu'
          · simpa using opv_den hR hE (g := (t, true) :: g) (fun p hp => by
              cases hp with
              | head => exact hslot
              | tail _ hm => exact hg p hm) hu
        · cases h
      · cases h
    | _ => simp [ex] at h
  | alloc t =>
    simp only [ex] at h
    split at h
    · rename_i d cs hz
      split at h
      · rename_i hav
        cases h
        obtain ⟨zv, hzv⟩ := zeroCells_some hz
        have hzr := (hc.ty t).zero zv hzv w
        refine wp_did (s := Instr.alloc t true (.tuple #[])) rfl (x := .pointer (some ⟨w.heap.size, 0, none⟩)) (w' := w.alloc (.cells zv.cells t)) ?_ (did_alloc hc hR (zeroCells_den hzv hz) t hav (hfr d rfl)) hK
        simp [Instr.alloc, hzr, newVar, newRow]
      · cases h
    · cases h
  | box t x =>
    simp only [ex] at h
    split at h
    · rename_i d u hu
      split at h
      · rename_i cs hcs
        split at h
        · rename_i hav
          cases h
          refine wp_did (s := Instr.box t (a.eval x)) rfl (x := .pointer (some ⟨w.heap.size, 0, none⟩)) (w' := w.alloc (.cells (a.eval x).cells t)) ?_ (did_alloc hc hR (cells_den' hcs (op_den hu)) t hav (hfr d rfl)) hK
          simp [Instr.box, newVar, newRow]
        · cases h
      · cases h
    · cases h
  | build t parts =>
    simp only [ex, val] at h
    split at h
    · rename_i z vs hz hf hvs
      split at h
      · rename_i cs hcs
        cases h
        simp only [Bool.and_eq_true] at hf
        refine wp_gives hR (s := Instr.build t (parts.map fun (i, x) => (i, a.eval x))) rfl (gives_build hc hz hf.2 (by intro e; rw [e] at hf; simp at hf) ?_ hcs) hK
        have := partsOf_den hR hE hg parts.toList vs hvs
        simpa using this
      · cases h
    · cases h
  | buildSlice t len parts =>
    simp only [ex, val] at h
    split at h
    · rename_i e vs hel hvs
      split at h
      · rename_i z hz hs
        split at h
        · rename_i hb
          split at h
          · rename_i cs hcs
            split at h
            · rename_i l hl
              cases h
              have hP := partsOf_den hR hE hg parts.toList vs hvs
              obtain ⟨x, w', hrun, hd⟩ := did_buildSlice hc hR (dst := dst) hel hz hs hb (ys := parts.map fun (i, x) => (i, a.eval x)) (by simpa using hP) hcs hl
              exact wp_did (s := Instr.buildSlice t len (parts.map fun (i, x) => (i, a.eval x))) rfl hrun hd hK
            · cases h
          · cases h
        · cases h
      · cases h
    · cases h
  | load t x =>
    simp only [ex, val] at h
    split at h
    · rename_i id off hx
      split at h
      · rename_i cs hcs
        split at h
        · rename_i u hu
          cases h
          refine wp_gives hR (s := Instr.loadAt t (a.eval x)) rfl ?_ hK
          rw [(op_den hx).of_ptr]
          have := load_ptr hc hR hE hcs hu
          simpa [Instr.loadAt, Instr.sureAddr, Gives] using this
        · cases h
      · cases h
    · rename_i e el off hx
      split at h
      · rename_i u hu
        cases h
        obtain ⟨b, y, hxe, _, he, hw, hd⟩ := (op_den hx).of_eptr
        refine wp_gives hR (s := Instr.loadAt t (a.eval x)) rfl ?_ hK
        rw [hxe]
        have := load_eptr hc he hw hd hu
        simpa [Instr.loadAt, Instr.sureAddr, Gives] using this
      · cases h
    · cases h
  | store t x y =>
    simp only [ex] at h
    split at h
    · rename_i id off u hx hy
      split at h
      · rename_i old cs hs hold hcs
        split at h
        · rename_i hb
          cases h
          simp only [Bool.and_eq_true] at hb
          have hlen : cs.length = (c.ty t).size := by simpa using hb.1
          have hs0 : (c.ty t).size ≠ 0 := by intro e; rw [e] at hs; simp at hs
          have hdc := cells_den' hcs (op_den hy)
          obtain ⟨h1, h2⟩ := readCells_spec _ _ _ hold
          have hold' : ∀ i, i < cs.length → ∃ v, lk (.cell id (off + i)) = some ([], v) ∧ v.isJunk = false := fun i hi => by
            obtain ⟨h3, h4⟩ := h2 i (by omega)
            exact ⟨_, hE _ _ h3, h4⟩
          have hcell : ∀ j, j < (a.eval y).cells.toList.length → (w.cell? ((⟨(σ id).blk, off, none⟩ : Addr).add (0 + j))).isSome = true := fun j hj => by
            obtain ⟨v, hv, hj'⟩ := hold' j (by simpa [hdc.1] using hj)
            obtain ⟨⟨x, hx, _⟩, _⟩ := hR.cell id (off + j) [] v hv hj'
            rw [add_plain, Nat.zero_add]
            simp [hx]
          have hfz : ∀ j, w.frozen? ((⟨(σ id).blk, off, none⟩ : Addr).add j) = false := fun j => by
            obtain ⟨v, hv, hj'⟩ := hold' 0 (by omega)
            obtain ⟨_, hfz, _⟩ := hR.cell id (off + 0) [] v hv hj'
            rw [add_plain]; exact hfz _
          have hone : ∀ v ∈ (a.eval y).cells.toList, v.oneCell' = true := fun u hu => by
            obtain ⟨i, hi, rfl⟩ := List.getElem_of_mem hu
            have hi' : i < cs.length := by simpa [hdc.1] using hi
            have := hdc.2 i hi'
            have hii : i < (a.eval y).cells.size := by rw [hdc.1]; exact hi'
            rw [show (a.eval y).cells.getD i undef = (a.eval y).cells[i] by simp [hii]] at this
            rw [Array.getElem_toList]
            exact this.one (all_mem hb.2 _ (List.getElem_mem hi'))
          have hst := run_storeCells (P := c.P) (a := ⟨(σ id).blk, off, none⟩) (a.eval y).cells.toList 0 w hone hcell hfz
          have hd := did_store hc hR (dst := dst) (x := undef) hdc (by intro e; rw [e] at hlen; exact hs0 hlen.symm) hold'
          unfold Oper.wp
          have hrun : (execOp a.eval ⟨dst, .store t x y, ty, pos, after, guard⟩).run c.P w = .ok .skip (setCells ⟨(σ id).blk, off, none⟩ 0 (a.eval y).cells.toList w) := by
            simp only [execOp, Instr.storeAt, (op_den hx).of_ptr, Instr.sureAddr, storeVar, Sem.run_bind, Sem.run_pure, Result.andThen_ok, (hc.ty t).size hs0 w]
            rw [if_neg (by rw [hdc.1, hlen]; simp)]
            rw [hst]
            rfl
          rw [hrun]
          simp only [Oper.upon]
          exact hK _ _ hd
        · cases h
      · cases h
    · cases h
  | nilCheck x =>
    simp only [ex, val] at h
    split at h
    · rename_i id off hx
      cases h
      have hd := op_den hx
      unfold Oper.wp
      simp only [execOp, hd.of_ptr, Sem.run_pure, Oper.upon]
      exact hK _ _ (did_same hR (by rw [← hd.of_ptr]; exact hd))
    · rename_i e el off hx
      cases h
      have hd := op_den hx
      obtain ⟨b, y, hxe, _⟩ := hd.of_eptr
      unfold Oper.wp
      simp only [execOp, hxe, Sem.run_pure, Oper.upon]
      exact hK _ _ (did_same hR (by rw [← hxe]; exact hd))
    · rename_i f hx
      cases h
      have hd := op_den hx
      unfold Oper.wp
      simp only [execOp, hd.of_fn, Sem.run_pure, Oper.upon]
      exact hK _ _ (did_same hR (by rw [← hd.of_fn]; exact hd))
    · cases h
  | binOp op t x y yt =>
    simp only [ex, val] at h
    have he : execOp a.eval ⟨dst, .binOp op t x y yt, ty, pos, after, guard⟩ = (do pure (.value (← (do eqGuard op t x y (a.eval x) (a.eval y); binOp op t (a.eval x) (a.eval y))))) := rfl
    split at h
    · rename_i k p k' q hx hy
      split at h
      · split at h
        · rename_i u ps' hsh
          cases h
          exact wp_gives hR he (gives_shift (op_den hx) (op_den hy) k k' p q rfl rfl hsh hps (fun hs hop => (sure_quo (k := k') hs (op_den hy)).2 hop)) hK
        · cases h
      · rename_i hop
        split at h
        · rename_i hk
          split at h
          · rename_i u ps' hb
            cases h
            exact wp_gives hR he (gives_bin (op_den hx) (op_den hy) k k' p q rfl rfl hop hk hb hps (fun hs => (sure_quo (k := k') hs (op_den hy)).1 hop)) hK
          · cases h
        · cases h
    · rename_i p q hx hy
      split at h
      · rename_i hb
        split at h
        · cases h; exact wp_gives hR he (gives_beq (op_den hx) (op_den hy) ((hc.ty t).isBool hb) (.inl ⟨rfl, rfl⟩)) hK
        · cases h; exact wp_gives hR he (gives_beq (op_den hx) (op_den hy) ((hc.ty t).isBool hb) (.inr ⟨rfl, rfl⟩)) hK
        · cases h
      · cases h
    · rename_i p q hx hy
      split at h
      · rename_i u ps' hb
        cases h
        exact wp_gives hR he (gives_str (op_den hx) (op_den hy) p q rfl rfl hb hps) hK
      · cases h
    · rename_i cs ds hx hy
      split at h
      · rename_i sh r hf hr
        split at h
        · rename_i hsh
          simp only [Bool.and_eq_true] at hsh
          split at h
          · cases h; exact wp_gives hR he (gives_agg hc (op_den hx) (op_den hy) hf hsh.1 hsh.2 hr (.inl ⟨rfl, rfl⟩)) hK
          · cases h; exact wp_gives hR he (gives_agg hc (op_den hx) (op_den hy) hf hsh.1 hsh.2 hr (.inr ⟨rfl, rfl⟩)) hK
          · cases h
        · cases h
      · cases h
    · cases h
  | unOp op t x =>
    simp only [ex, val] at h
    cases hx : opv E g x with
    | none => rw [hx] at h; cases op <;> simp at h
    | some u =>
      rw [hx] at h
      have : ent = [] ∧ ps = [] := by
        cases op <;> cases u <;> simp at h <;> obtain ⟨_, rfl, rfl⟩ := h <;> exact ⟨rfl, rfl⟩
      obtain ⟨rfl, rfl⟩ := this
      exact wp_gives hR (s := Op.unary op (a.eval x)) rfl (gives_unop (op_den hx) h) hK
  | convert s t x =>
    simp only [ex, val] at h
    split at h
    · rename_i k0 k k1 m hs ht hx
      cases h
      refine wp_gives hR (s := convert s t (a.eval x)) rfl ⟨.int k (k.wrap m), ?_, .int _ _⟩ hK
      rw [(op_den hx).of_int]
      simp [convert, run_underlying ((hc.ty s).kind _ hs), run_underlying ((hc.ty t).kind _ ht), Conv.intToInt]
    · cases h
  | slice t x lo hi mx =>
    cases mx with
    | some _ => simp [ex] at h
    | none =>
      simp only [ex] at h
      split at h
      · rename_i e f l hx
        split at h
        · rename_i e' hel
          split at h
          · rename_i i j hee hlo hhi
            cases h
            have : e = e' := by simpa using hee
            subst this
            obtain ⟨h0, h1, h2⟩ := hps
            exact wp_gives hR (s := Instr.sliceAt t (a.eval x) (lo.map a.eval) (hi.map a.eval) none) rfl (gives_slice hc hR hE hg (op_den hx) hel hlo hhi h0 h1 h2) hK
          · cases h
        · cases h
      · rename_i s hx
        split at h
        · rename_i i j hst hlo hhi
          cases h
          obtain ⟨h0, h1, h2⟩ := hps
          exact wp_gives hR (s := Instr.sliceAt t (a.eval x) (lo.map a.eval) (hi.map a.eval) none) rfl (gives_sub hc hR hE hg (op_den hx) hst hlo hhi h0 h1 h2) hK
        · cases h
      · cases h
  | fieldAddr t x f =>
    simp only [ex, val] at h
    split at h
    · rename_i id off o ft hx hfld
      split at h
      · cases h
      · rename_i m hm
        cases h
        refine wp_gives hR (s := Instr.fieldAt t (a.eval x) f) rfl ?_ hK
        have hne : (c.ty t).fields ≠ [] := by intro e; rw [e] at hfld; simp [nth] at hfld
        obtain ⟨fs, hfs, hmap⟩ := (hc.ty t).fields hne
        rw [nth_eq, ← hmap] at hfld
        simp only [List.getElem?_map, Array.getElem?_toList, Option.map_eq_some_iff] at hfld
        obtain ⟨fl, hfl, hpr⟩ := hfld
        cases hpr
        refine ⟨.pointer (some ⟨(σ id).blk, off + fl.offset, none⟩), ?_, .ptr _ _⟩
        rw [(op_den hx).of_ptr]
        have hsz := (hc.ty fl.type).size (by omega) w
        have hsz0 : (c.ty fl.type).size ≠ 0 := by omega
        simp [Instr.fieldAt, run_underlying hfs, hfl, Instr.sureAddr, fieldPlace, hsz, hsz0, add_plain]
    · rename_i e el off o ft hx hfld
      split at h
      · cases h
      · rename_i m hm
        cases h
        refine wp_gives hR (s := Instr.fieldAt t (a.eval x) f) rfl ?_ hK
        have hne : (c.ty t).fields ≠ [] := by intro e; rw [e] at hfld; simp [nth] at hfld
        obtain ⟨fs, hfs, hmap⟩ := (hc.ty t).fields hne
        rw [nth_eq, ← hmap] at hfld
        simp only [List.getElem?_map, Array.getElem?_toList, Option.map_eq_some_iff] at hfld
        obtain ⟨fl, hfl, hpr⟩ := hfld
        cases hpr
        obtain ⟨b, y, hxe, hSb, he, hw, hd⟩ := (op_den hx).of_eptr
        refine ⟨.pointer (some (b.add (off + fl.offset))), ?_, .eptr e el _ b y hSb he hw hd⟩
        rw [hxe]
        have hsz := (hc.ty fl.type).size (by omega) w
        have hsz0 : (c.ty fl.type).size ≠ 0 := by omega
        simp [Instr.fieldAt, run_underlying hfs, hfl, Instr.sureAddr, fieldPlace, hsz, hsz0, add_add]
    · cases h
  | field t x f =>
    simp only [ex, val] at h
    split at h
    · rename_i cs o ft hx hfld
      split at h
      · rename_i u hu
        cases h
        refine wp_gives hR (s := Instr.field t (a.eval x) f) rfl ?_ hK
        have hne : (c.ty t).fields ≠ [] := by intro e; rw [e] at hfld; simp [nth] at hfld
        obtain ⟨fs, hfs, hmap⟩ := (hc.ty t).fields hne
        rw [nth_eq, ← hmap] at hfld
        simp only [List.getElem?_map, Array.getElem?_toList, Option.map_eq_some_iff] at hfld
        obtain ⟨fl, hfl, hpr⟩ := hfld
        cases hpr
        obtain ⟨xs, hxs, hda⟩ := (op_den hx).of_agg
        obtain ⟨y, hy, hd⟩ := part_den hc hu hda
        refine ⟨y, ?_, hd⟩
        rw [hxs]
        simp [Instr.field, run_underlying hfs, hfl, asAgg, hy]
      · cases h
    · cases h
  | indexAddr t x i =>
    simp only [ex] at h
    split at h
    · rename_i e f l k m hx hi
      split at h
      · rename_i e' hel
        split at h
        · rename_i hee
          cases h
          have : e = e' := by simpa using hee
          subst this
          exact wp_gives hR (s := Instr.indexAt t (a.eval x) (a.eval i)) rfl (gives_indexAddr hc (op_den hx) (op_den hi) hel hps.1 hps.2) hK
        · cases h
      · cases h
    · cases h
  | index t x i =>
    simp only [ex] at h
    split at h
    · rename_i s k m hx hi hst
      cases h
      exact wp_gives hR (s := Instr.index t (a.eval x) (a.eval i)) rfl (gives_index hc (op_den hx) (op_den hi) hst hps.1 hps.2) hK
    · cases h
  | extract x i =>
    simp only [ex, val] at h
    split at h
    · rename_i vs hx
      split at h
      · rename_i u hu
        cases h
        obtain ⟨xs, hxs, hda⟩ := (op_den hx).of_tup
        rw [nth_eq] at hu
        obtain ⟨hlt, hv⟩ := List.getElem?_eq_some_iff.1 hu
        have hd := hda.2 i hlt
        rw [hv] at hd
        refine wp_gives hR (s := Instr.extract (a.eval x) i) rfl ⟨xs.getD i undef, ?_, hd⟩ hK
        have hlt' : i < xs.size := by rw [hda.1]; exact hlt
        rw [hxs]
        simp [Instr.extract, hlt']
      · cases h
    · cases h
  | call cl =>
    obtain ⟨callee, args, argTypes⟩ := cl
    cases callee with
    | invoke r m => simp [ex] at h
    | value f =>
      simp only [ex] at h
      split at h
      · rename_i f' vs hf hvs
        split at h
        · rename_i r ps' hcall
          cases h
          have hfv := (op_den hf).of_fn
          obtain ⟨hl, hd⟩ := argsOf_den hc hR hE hg _ _ _ hvs
          have hexec : ∀ r, (callFunc f' (args.map a.eval)).run c.P w = r → (execOp a.eval ⟨dst, .call { callee := .value f, args, argTypes }, ty, pos, after, guard⟩).run c.P w = r := by
            intro r hr
            simp only [execOp, resolve, hfv, Deferred.ofValue, invoke, Sem.run_bind, Sem.run_pure, Result.andThen_ok]
            simpa using hr
          rcases hc.call f' vs _ _ hcall hps with ⟨hcal, hok⟩ | hext
          · have hrun := hexec _ (hcal (args.map a.eval) w)
            unfold Oper.wp
            rw [hrun]
            simp only [Oper.upon]
            refine (hok w S σ (args.map a.eval) hR.sLt (by simpa using hl) (fun i hi => by simpa using hd i hi)).mono ?_
            rintro e w' ⟨x, rfl, hb, S', hS', hden⟩
            exact hK x w' (did_grow hc hR hb hS' hden)
          · obtain ⟨x, hx, hden⟩ := hext w S σ (args.map a.eval) (by simpa using hl) (fun i hi => by simpa using hd i hi)
            have hrun := hexec _ hx
            unfold Oper.wp
            rw [hrun]
            simp only [Oper.upon]
            exact hK _ _ (did_same hR hden)
        · cases h
      · cases h
    | builtin b =>
      cases b with
      | len =>
        simp only [ex, val] at h
        have hex : ∀ t vs, argTypes.toList = [t] → argsOf c E g args.toList [] = some vs → vs.length = 1 → ∃ x, args = #[x] ∧ argTypes = #[t] ∧ ∀ v, vs = [v] → Den c S σ w v (a.eval x) := fun t vs ht hvs h1 => by
          obtain ⟨hl, hd⟩ := argsOf_den hc hR hE hg _ _ _ hvs
          have hs : args.toList.length = 1 := by omega
          obtain ⟨x, hx⟩ := List.length_eq_one_iff.1 hs
          refine ⟨x, by apply Array.ext'; simpa using hx, by apply Array.ext'; simpa using ht, fun v hv => ?_⟩
          subst hv
          have := hd 0 (by simp)
          rw [hx] at this
          exact this
        split at h
        · rename_i e f l t hvs ht
          split at h
          · rename_i e' hel
            cases h
            obtain ⟨x, rfl, rfl, hd⟩ := hex t _ ht hvs rfl
            obtain ⟨p, cap, b, y, hxe, _⟩ := (hd _ rfl).of_list
            refine wp_gives hR (s := Builtin.len_ #[t] ty #[a.eval x]) ?_ ⟨.int .i64 (l.length : Int), ?_, .int _ _⟩ hK
            · simp [execOp, resolve, invoke, builtin]
            · rw [hxe]; simp [Builtin.len_, run_underlying ((hc.ty t).elem _ hel), goInt]
          · cases h
        · rename_i s t hvs ht
          split at h
          · rename_i hst
            cases h
            obtain ⟨x, rfl, rfl, hd⟩ := hex t _ ht hvs rfl
            have hxe := (hd _ rfl).of_str
            refine wp_gives hR (s := Builtin.len_ #[t] ty #[a.eval x]) ?_ ⟨.int .i64 (s.size : Int), ?_, .int _ _⟩ hK
            · simp [execOp, resolve, invoke, builtin]
            · rw [hxe]; simp [Builtin.len_, run_underlying ((hc.ty t).str hst), goInt]
          · cases h
        · rename_i t hvs ht
          split at h
          · rename_i e' hel
            cases h
            obtain ⟨x, rfl, rfl, hd⟩ := hex t _ ht hvs rfl
            have hxe := (hd _ rfl).of_raw
            refine wp_gives hR (s := Builtin.len_ #[t] ty #[a.eval x]) ?_ ⟨.int .i64 0, ?_, .int _ _⟩ hK
            · simp [execOp, resolve, invoke, builtin]
            · rw [hxe]; simp [Builtin.len_, run_underlying ((hc.ty t).elem _ hel), goInt]
          · cases h
        · cases h
      | min =>
        simp only [ex, val] at h
        split at h
        · rename_i k m vs hvs
          split at h
          · rename_i u hu
            cases h
            obtain ⟨hl, hd⟩ := argsOf_den hc hR hE hg _ _ _ hvs
            cases hargs : args.toList with
            | nil => rw [hargs] at hl; simp at hl
            | cons x xs =>
              rw [hargs] at hl hd
              obtain ⟨z, hz, hdz⟩ := minmax_run (c := c) (S := S) (σ := σ) (w := w) false vs (xs.map a.eval) k m _ hu (by simpa using hl) (fun i hi => hd (i + 1) (Nat.succ_lt_succ hi))
              have h0 : a.eval x = .int k m := Den.of_int (hd 0 (Nat.zero_lt_succ _))
              refine wp_gives hR (s := Builtin.min_ argTypes ty (args.map a.eval)) ?_ ⟨z, ?_, hdz⟩ hK
              · simp [execOp, resolve, invoke, builtin]
              · simp only [Builtin.min_, Array.toList_map, hargs, List.map_cons, h0]
                exact hz
          · cases h
        · cases h
      | max =>
        simp only [ex, val] at h
        split at h
        · rename_i k m vs hvs
          split at h
          · rename_i u hu
            cases h
            obtain ⟨hl, hd⟩ := argsOf_den hc hR hE hg _ _ _ hvs
            cases hargs : args.toList with
            | nil => rw [hargs] at hl; simp at hl
            | cons x xs =>
              rw [hargs] at hl hd
              obtain ⟨z, hz, hdz⟩ := minmax_run (c := c) (S := S) (σ := σ) (w := w) true vs (xs.map a.eval) k m _ hu (by simpa using hl) (fun i hi => hd (i + 1) (Nat.succ_lt_succ hi))
              have h0 : a.eval x = .int k m := Den.of_int (hd 0 (Nat.zero_lt_succ _))
              refine wp_gives hR (s := Builtin.max_ argTypes ty (args.map a.eval)) ?_ ⟨z, ?_, hdz⟩ hK
              · simp [execOp, resolve, invoke, builtin]
              · simp only [Builtin.max_, Array.toList_map, hargs, List.map_cons, h0]
                exact hz
          · cases h
        · cases h
      | _ => simp [ex] at h
  | _ => simp [ex] at h

end
end Vm
