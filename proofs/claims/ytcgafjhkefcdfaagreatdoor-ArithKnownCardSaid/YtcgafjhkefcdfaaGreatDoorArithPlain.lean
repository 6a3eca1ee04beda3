/-
  What sums, differences and products make of values: what numbers they have, and what laws hold.
-/
import Derived.Test.YtcgafjhkefcdfaaGreatDoorQKVal
import Derived.Test.YtcgafjhkefcdfaaGreatDoorArithMath
set_option linter.all false
open Go Vm
namespace SV
open S SC AM
theorem bot_rv : RV bot := .inl rfl
theorem one_rv {n : Int} (h : I64 n) : RV (one n) := .inr (one_NB h)
theorem i0 : I64 0 := by unfold I64; decide
theorem i1 : I64 1 := by unfold I64; decide
theorem imax : I64 9223372036854775807 := by unfold I64; decide
theorem imin : I64 (-9223372036854775808) := by unfold I64; decide
theorem one_ne {n : Int} (h : I64 n) : one n ≠ bot := (one_NB h).ne
theorem top_rv : RV top := .inr top_NB
theorem nb_of {v : S.Value} (h : RV v) (hn : v ≠ bot) : NB v := h.resolve_left hn
theorem has_lo {v : S.Value} (h : NB v) : Le (one v.I.Lo) v := (le_one (.inr h) h.lo).2 ⟨Int.le_refl _, h.le, h.hl⟩
theorem has_hi {v : S.Value} (h : NB v) : Le (one v.I.Hi) v := (le_one (.inr h) h.hi).2 ⟨h.le, Int.le_refl _, h.hh⟩
theorem wrap_i64' (z : Int) : I64 (IntKind.i64.wrap z) := by rw [IntKind.wrap_i64]; unfold I64; omega
theorem wrap_of {z : Int} (h : I64 z) : IntKind.i64.wrap z = z := by unfold I64 at h; rw [IntKind.wrap_i64]; omega
theorem G_comm (a b : Int) : G a b = G b a := by unfold G; rw [Nat.gcd_comm]
theorem G_zero' (a : Int) (h : 0 ≤ a) : G 0 a = a := by rw [G_comm]; exact G_zero a h
theorem same_of {a b : S.Cong} (h : a.M = b.M) {z : Int} (h1 : has a z = true) (h2 : has b z = true) : a = b := by
  refine S.Cong.ext h ?_
  rcases (has_iff a z).1 h1 with ⟨p, q⟩ | ⟨p, q⟩
  · rcases (has_iff b z).1 h2 with ⟨r, s⟩ | ⟨r, s⟩
    · rw [← q, ← s]
    · exact absurd (h ▸ p) r
  · rcases (has_iff b z).1 h2 with ⟨r, s⟩ | ⟨r, s⟩
    · exact absurd (h.trans r) p
    · rw [← q, ← s, h]
theorem CR_M {a : S.Cong} (h : CR a) : (0 ≤ a.M ∧ a.M ≤ 18446744073709551615) ∧ (0 ≤ a.R ∧ a.R ≤ 18446744073709551615) := (ok_iff a).1 h.1
theorem Add_M {a b : S.Cong} (ha : CR a) (hb : CR b) : (S.cong_Add a b).M = G a.M b.M := by
  simp only [cong_Add, gcd_eq _ _ (CR_M ha).1.1 (CR_M hb).1.1]
  cases h : (G a.M b.M == 0) with
  | true => have : G a.M b.M = 0 := by simpa using h
            rw [cond_true, this]
  | false => rfl
theorem Sub_M {a b : S.Cong} (ha : CR a) (hb : CR b) : (S.cong_Sub a b).M = G a.M b.M := by
  simp only [cong_Sub, gcd_eq _ _ (CR_M ha).1.1 (CR_M hb).1.1]
  cases h : (G a.M b.M == 0) with
  | true => have : G a.M b.M = 0 := by simpa using h
            rw [cond_true, this]
  | false => rfl
theorem Add_CR {a b : S.Cong} (ha : CR a) (hb : CR b) : CR (S.cong_Add a b) := ⟨Add_ok a b ha.1 hb.1, by rw [← Right_eq]; exact (Add_both a b ha.1 hb.1).2.2⟩
theorem Sub_CR {a b : S.Cong} (ha : CR a) (hb : CR b) : CR (S.cong_Sub a b) := ⟨Sub_ok a b ha.1 hb.1, by rw [← Right_eq]; exact (Sub_both a b ha.1 hb.1).2.2.2⟩
theorem Mul_CR {a b : S.Cong} (ha : CR a) (hb : CR b) : CR (S.cong_Mul a b) :=
  ⟨(Mul_has a b ha.1 hb.1 _ _ (wit_i64 ha) (wit_i64 hb) (wit_has ha) (wit_has hb)).1, by rw [← Right_eq]; exact (Mul_both a b ha.1 hb.1).2.2.2⟩
theorem Wr_CR {c : S.Cong} (h : CR c) : CR (S.cong_Cong_Wrapped c) := ⟨(Wrapped_has c h.1 _ (wit_has h) h.2).1, by rw [← Right_eq]; exact (Wrapped_both c h.1).2.2.2 h.2⟩
noncomputable def cg (op : Int) (a b : S.Cong) : S.Cong := if op = 13 then S.cong_Add a b else if op = 14 then S.cong_Sub a b else S.cong_Mul a b
theorem cg_CR (op : Int) {a b : S.Cong} (ha : CR a) (hb : CR b) : CR (cg op a b) := by
  unfold cg; split
  · exact Add_CR ha hb
  · split
    · exact Sub_CR ha hb
    · exact Mul_CR ha hb
theorem cg_has (op : Int) {a b : S.Cong} (ha : CR a) (hb : CR b) {x y : Int} (hx : I64 x) (hy : I64 y) (h1 : has a x = true) (h2 : has b y = true) : has (cg op a b) (E op x y) = true := by
  unfold cg E; split
  · exact Add_has a b ha.1 hb.1 x y hx hy h1 h2
  · split
    · exact Sub_has a b ha.1 hb.1 x y hx hy h1 h2
    · exact (Mul_has a b ha.1 hb.1 x y hx hy h1 h2).2
theorem Add_comm' {a b : S.Cong} (ha : CR a) (hb : CR b) : S.cong_Add a b = S.cong_Add b a := by
  have h1 := cg_has 13 ha hb (wit_i64 ha) (wit_i64 hb) (wit_has ha) (wit_has hb)
  have h2 := cg_has 13 hb ha (wit_i64 hb) (wit_i64 ha) (wit_has hb) (wit_has ha)
  refine same_of (by rw [Add_M ha hb, Add_M hb ha, G_comm]) h1 ?_
  have e : E 13 (wit a) (wit b) = E 13 (wit b) (wit a) := by unfold E; rw [if_pos rfl, if_pos rfl, Int.add_comm]
  rw [e]; exact h2
theorem const_M (n : Int) : (S.cong_Const n).M = 0 := rfl
theorem Add_zero {a : S.Cong} (ha : CR a) : S.cong_Add a (S.cong_Const 0) = a := by
  have h1 := cg_has 13 ha (const_CR (n := 0)) (wit_i64 ha) i0 (wit_has ha) const_has
  refine same_of (by rw [Add_M ha const_CR, const_M, G_zero _ (CR_M ha).1.1]) h1 ?_
  have e : E 13 (wit a) 0 = wit a := by unfold E; rw [if_pos rfl, Int.add_zero]
  rw [e]; exact wit_has ha
theorem Sub_zero {a : S.Cong} (ha : CR a) : S.cong_Sub a (S.cong_Const 0) = a := by
  have h1 := cg_has 14 ha (const_CR (n := 0)) (wit_i64 ha) i0 (wit_has ha) const_has
  refine same_of (by rw [Sub_M ha const_CR, const_M, G_zero _ (CR_M ha).1.1]) h1 ?_
  have e : E 14 (wit a) 0 = wit a := by unfold E; rw [if_neg (by decide), if_pos rfl, Int.sub_zero]
  rw [e]; exact wit_has ha
theorem Add_Sub {a b : S.Cong} (ha : CR a) (hb : CR b) {x y : Int} (hx : I64 x) (hy : I64 y) (hn : I64 (-y)) (h1 : has a x = true) (h2 : has b y = true) :
    S.cong_Add a (S.cong_Sub (S.cong_Const 0) b) = S.cong_Sub a b := by
  have hs := Sub_CR (const_CR (n := 0)) hb
  have k1 := cg_has 14 (const_CR (n := 0)) hb i0 hy const_has h2
  have e1 : E 14 0 y = -y := by unfold E; rw [if_neg (by decide), if_pos rfl, Int.zero_sub]
  rw [e1] at k1
  have k2 := cg_has 13 ha hs hx hn h1 k1
  have k3 := cg_has 14 ha hb hx hy h1 h2
  refine same_of (by rw [Add_M ha hs, Sub_M ha hb, Sub_M const_CR hb, const_M, G_zero' _ (CR_M hb).1.1]) k2 ?_
  have e2 : E 13 x (-y) = E 14 x y := by unfold E; rw [if_pos rfl, if_neg (by decide), if_pos rfl]; omega
  rw [e2]; exact k3
theorem Sub_const {n : Int} (h : I64 n) (hn : I64 (-n)) : S.cong_Sub (S.cong_Const 0) (S.cong_Const n) = S.cong_Const (-n) := by
  have k1 := cg_has 14 (const_CR (n := 0)) (const_CR (n := n)) i0 h const_has const_has
  refine same_of (by rw [Sub_M const_CR const_CR, const_M, const_M, const_M]; exact G_zero 0 (Int.le_refl 0)) k1 ?_
  have e1 : E 14 0 n = -n := by unfold E; rw [if_neg (by decide), if_pos rfl, Int.zero_sub]
  rw [e1]; exact const_has
theorem Make_ends {lo hi : Int} (hl : I64 lo) (hh : I64 hi) (hle : lo ≤ hi) {c : S.Cong} (hc : CR c) (h1 : has c lo = true) (h2 : has c hi = true) :
    S.value_Make ⟨lo, hi⟩ c = if lo = hi then one lo else ⟨⟨lo, hi⟩, c⟩ :=
  (Make_red ⟨hl, hh⟩ hc).unique (.yes lo hi hl hh hle ⟨Int.le_refl _, hle, h1⟩ ⟨hle, Int.le_refl _, h2⟩ fun n _ hn => ⟨hn.1, hn.2.1⟩)
def known (op : Int) : Prop := op = 13 ∨ op = 14 ∨ op = 15
instance (op : Int) : Decidable (known op) := by unfold known; infer_instance
def lo4 (op : Int) (a b : S.Value) : Int := blo op a.I.Lo a.I.Hi b.I.Lo b.I.Hi
def hi4 (op : Int) (a b : S.Value) : Int := bhi op a.I.Lo a.I.Hi b.I.Lo b.I.Hi
noncomputable def dar (op : Int) (a b : S.Value) : S.Value :=
  if a = bot ∨ b = bot then bot
  else if ¬ known op then top
  else if a.I.Lo = a.I.Hi ∧ b.I.Lo = b.I.Hi then one (IntKind.i64.wrap (E op a.I.Lo b.I.Lo))
  else if rnd (lo4 op a b) ≠ rnd (hi4 op a b) then S.value_Make S.inter_Whole (S.cong_Cong_Wrapped (cg op a.C b.C))
  else if rnd (lo4 op a b) ≠ 0 then S.value_Make ⟨IntKind.i64.wrap (lo4 op a b), IntKind.i64.wrap (hi4 op a b)⟩ (S.cong_Cong_Wrapped (cg op a.C b.C))
  else S.value_Make ⟨IntKind.i64.wrap (lo4 op a b), IntKind.i64.wrap (hi4 op a b)⟩ (cg op a.C b.C)
def wrs (op : Int) (a b : S.Value) : Prop := a ≠ bot ∧ b ≠ bot ∧ known op ∧ (rnd (lo4 op a b) ≠ 0 ∨ rnd (hi4 op a b) ≠ 0)
theorem whole_ir : IR S.inter_Whole := ⟨imin, imax⟩
theorem wr_ir (x y : Int) : IR ⟨IntKind.i64.wrap x, IntKind.i64.wrap y⟩ := ⟨wrap_i64' x, wrap_i64' y⟩
theorem dar_rv (op : Int) {a b : S.Value} (ha : RV a) (hb : RV b) : RV (dar op a b) := by
  have hc := cg_CR op ha.cr hb.cr
  unfold dar
  split
  · exact bot_rv
  · split
    · exact top_rv
    · split
      · exact one_rv (wrap_i64' _)
      · split
        · exact Make_rv whole_ir (Wr_CR hc)
        · split
          · exact Make_rv (wr_ir _ _) (Wr_CR hc)
          · exact Make_rv (wr_ir _ _) hc
theorem dar_has {op : Int} (ho : known op) {a b : S.Value} (ha : NB a) (hb : NB b) {x y : Int} (hx : I64 x) (hy : I64 y) (h1 : Le (one x) a) (h2 : Le (one y) b) :
    Le (one (IntKind.i64.wrap (E op x y))) (dar op a b) := by
  obtain ⟨a1, a2, a3⟩ := (le_one (.inr ha) hx).1 h1
  obtain ⟨b1, b2, b3⟩ := (le_one (.inr hb) hy).1 h2
  obtain ⟨c1, c2⟩ := corners op a.I.Lo a.I.Hi b.I.Lo b.I.Hi x y a1 a2 b1 b2
  have hc := cg_CR op ha.c hb.c
  have hz := cg_has op ha.c hb.c hx hy a3 b3
  have hwz := (Wrapped_has _ hc.1 _ hz hc.2).2.1
  have hI := wrap_i64' (E op x y)
  have r1 := rnd_mono c1
  have r2 := rnd_mono c2
  have w1 := wrap_rnd (lo4 op a b); have w2 := wrap_rnd (hi4 op a b); have w3 := wrap_rnd (E op x y)
  unfold dar
  rw [if_neg (not_or.2 ⟨ha.ne, hb.ne⟩), if_neg (not_not_intro ho)]
  by_cases hs : a.I.Lo = a.I.Hi ∧ b.I.Lo = b.I.Hi
  · rw [if_pos hs, show x = a.I.Lo by omega, show y = b.I.Lo by omega]; exact Le.refl (one_rv (wrap_i64' _))
  · rw [if_neg hs]
    by_cases e1 : rnd (lo4 op a b) ≠ rnd (hi4 op a b)
    · rw [if_pos e1]
      exact le_made (Make_red whole_ir (Wr_CR hc)) (Wr_CR hc) (one_NB hI) hI.1 hI.2 ((const_le hI (Wr_CR hc)).2 hwz)
    · rw [if_neg e1]
      have e1 := Decidable.not_not.1 e1
      have r3 : rnd (E op x y) = rnd (lo4 op a b) := by unfold lo4 hi4 at *; omega
      have k1 : IntKind.i64.wrap (lo4 op a b) ≤ IntKind.i64.wrap (E op x y) := by rw [w1, w3, r3]; unfold lo4; omega
      have k2 : IntKind.i64.wrap (E op x y) ≤ IntKind.i64.wrap (hi4 op a b) := by rw [w2, w3, r3, e1]; unfold hi4; omega
      by_cases e2 : rnd (lo4 op a b) ≠ 0
      · rw [if_pos e2]
        exact le_made (Make_red (wr_ir _ _) (Wr_CR hc)) (Wr_CR hc) (one_NB hI) k1 k2 ((const_le hI (Wr_CR hc)).2 hwz)
      · rw [if_neg e2]
        have e2 := Decidable.not_not.1 e2
        refine le_made (Make_red (wr_ir _ _) hc) hc (one_NB hI) k1 k2 ((const_le hI hc).2 ?_)
        rw [w3, r3, e2, Int.mul_zero, Int.sub_zero]; exact hz
theorem dar_ends {op : Int} (ho : known op) {a b : S.Value} (ha : NB a) (hb : NB b) (hw : rnd (lo4 op a b) = 0 ∧ rnd (hi4 op a b) = 0) :
    I64 (lo4 op a b) ∧ I64 (hi4 op a b) ∧ dar op a b = if lo4 op a b = hi4 op a b then one (lo4 op a b) else ⟨⟨lo4 op a b, hi4 op a b⟩, cg op a.C b.C⟩ := by
  have hc := cg_CR op ha.c hb.c
  have i1 : I64 (lo4 op a b) := (rnd0 _).1 hw.1
  have i2 : I64 (hi4 op a b) := (rnd0 _).1 hw.2
  have hle : lo4 op a b ≤ hi4 op a b := b_le _ _ _ _ _
  have q : ∀ z, (z = E op a.I.Lo b.I.Lo ∨ z = E op a.I.Lo b.I.Hi ∨ z = E op a.I.Hi b.I.Lo ∨ z = E op a.I.Hi b.I.Hi) → has (cg op a.C b.C) z = true := by
    rintro z (rfl | rfl | rfl | rfl)
    · exact cg_has op ha.c hb.c ha.lo hb.lo ha.hl hb.hl
    · exact cg_has op ha.c hb.c ha.lo hb.hi ha.hl hb.hh
    · exact cg_has op ha.c hb.c ha.hi hb.lo ha.hh hb.hl
    · exact cg_has op ha.c hb.c ha.hi hb.hi ha.hh hb.hh
  refine ⟨i1, i2, ?_⟩
  unfold dar
  rw [if_neg (not_or.2 ⟨ha.ne, hb.ne⟩), if_neg (not_not_intro ho)]
  by_cases hs : a.I.Lo = a.I.Hi ∧ b.I.Lo = b.I.Hi
  · have e1 : lo4 op a b = E op a.I.Lo b.I.Lo := by unfold lo4 blo; rw [← hs.1, ← hs.2]; omega
    have e2 : hi4 op a b = E op a.I.Lo b.I.Lo := by unfold hi4 bhi; rw [← hs.1, ← hs.2]; omega
    rw [if_pos hs, if_pos (e1.trans e2.symm), ← e1, wrap_of i1]
  · rw [if_neg hs, if_neg (not_not_intro (hw.1.trans hw.2.symm)), if_neg (not_not_intro hw.1), wrap_of i1, wrap_of i2]
    exact Make_ends i1 i2 hle hc (q _ (blo_is _ _ _ _ _)) (q _ (bhi_is _ _ _ _ _))
theorem dar_one {op : Int} (ho : known op) {x y : Int} (hx : I64 x) (hy : I64 y) : dar op (one x) (one y) = one (IntKind.i64.wrap (E op x y)) := by
  unfold dar
  rw [if_neg (not_or.2 ⟨one_ne hx, one_ne hy⟩), if_neg (not_not_intro ho)]
  exact if_pos ⟨rfl, rfl⟩
theorem dar_bot_l (op : Int) (b : S.Value) : dar op bot b = bot := if_pos (.inl rfl)
theorem dar_bot_r (op : Int) (a : S.Value) : dar op a bot = bot := if_pos (.inr rfl)
theorem dar_zero {op : Int} (ho : op = 13 ∨ op = 14) {a : S.Value} (ha : RV a) : dar op a (one 0) = a := by
  by_cases hb : a = bot
  · rw [hb]; exact dar_bot_l _ _
  · have na := nb_of ha hb
    have e : ∀ x : Int, E op x 0 = x := fun x => by
      unfold E
      rcases ho with rfl | rfl
      · rw [if_pos rfl, Int.add_zero]
      · rw [if_neg (by decide), if_pos rfl, Int.sub_zero]
    have hle := na.le
    have e1 : lo4 op a (one 0) = a.I.Lo := by unfold lo4 blo; show min (min (E op a.I.Lo 0) (E op a.I.Lo 0)) (min (E op a.I.Hi 0) (E op a.I.Hi 0)) = _; rw [e, e]; omega
    have e2 : hi4 op a (one 0) = a.I.Hi := by unfold hi4 bhi; show max (max (E op a.I.Lo 0) (E op a.I.Lo 0)) (max (E op a.I.Hi 0) (E op a.I.Hi 0)) = _; rw [e, e]; omega
    have ec : cg op a.C (one 0).C = a.C := by
      unfold cg
      rcases ho with rfl | rfl
      · rw [if_pos rfl]; exact Add_zero na.c
      · rw [if_neg (by decide), if_pos rfl]; exact Sub_zero na.c
    obtain ⟨_, _, h⟩ := dar_ends (op := op) (by unfold known; omega) na (one_NB i0) (by rw [e1, e2]; exact ⟨(rnd0 _).2 na.lo, (rnd0 _).2 na.hi⟩)
    rw [h, e1, e2, ec]
    by_cases hs : a.I.Lo = a.I.Hi
    · rw [if_pos hs]; exact S.Value.ext (S.Inter.ext rfl hs) (na.one hs).symm
    · rw [if_neg hs]
theorem dar_neg {a b : S.Value} (ha : RV a) (hb : RV b) (h1 : ¬ wrs 14 (one 0) b) : dar 13 a (dar 14 (one 0) b) = dar 14 a b := by
  by_cases e : b = bot
  · rw [e, dar_bot_r, dar_bot_r, dar_bot_r]
  by_cases f : a = bot
  · rw [f, dar_bot_l, dar_bot_l]
  have na := nb_of ha f
  have nb := nb_of hb e
  have k14 : known 14 := .inr (.inl rfl)
  have k13 : known 13 := .inl rfl
  have hw : rnd (lo4 14 (one 0) b) = 0 ∧ rnd (hi4 14 (one 0) b) = 0 := by
    constructor
    · exact Decidable.byContradiction fun h => h1 ⟨one_ne i0, e, k14, .inl h⟩
    · exact Decidable.byContradiction fun h => h1 ⟨one_ne i0, e, k14, .inr h⟩
  have hE : ∀ x y : Int, E 14 x y = x - y := fun x y => by unfold E; rw [if_neg (by decide), if_pos rfl]
  have hE' : ∀ x y : Int, E 13 x y = x + y := fun x y => by unfold E; rw [if_pos rfl]
  have hle := nb.le
  have e1 : lo4 14 (one 0) b = -b.I.Hi := by unfold lo4 blo; show min (min (E 14 0 b.I.Lo) (E 14 0 b.I.Hi)) (min (E 14 0 b.I.Lo) (E 14 0 b.I.Hi)) = _; rw [hE, hE]; omega
  have e2 : hi4 14 (one 0) b = -b.I.Lo := by unfold hi4 bhi; show max (max (E 14 0 b.I.Lo) (E 14 0 b.I.Hi)) (max (E 14 0 b.I.Lo) (E 14 0 b.I.Hi)) = _; rw [hE, hE]; omega
  obtain ⟨i1, i2, h⟩ := dar_ends k14 (one_NB i0) nb hw
  rw [e1] at i1; rw [e2] at i2
  have hN : (dar 14 (one 0) b).I.Lo = -b.I.Hi ∧ (dar 14 (one 0) b).I.Hi = -b.I.Lo ∧ (dar 14 (one 0) b).C = S.cong_Sub (S.cong_Const 0) b.C := by
    rw [h, e1, e2]
    by_cases hs : -b.I.Hi = -b.I.Lo
    · rw [if_pos hs]
      refine ⟨rfl, hs, ?_⟩
      rw [nb.one (by omega)]
      have := Sub_const nb.lo i2
      rw [this, ← hs]; rfl
    · rw [if_neg hs]; exact ⟨rfl, rfl, rfl⟩
  have rN := dar_rv 14 (one_rv i0) hb
  have nN := nb_of rN (fun e => by
    have h1 := hN.1; have h2 := hN.2.1
    rw [e] at h1 h2
    have : (1 : Int) = -b.I.Hi := h1
    have : (0 : Int) = -b.I.Lo := h2
    omega)
  generalize dar 14 (one 0) b = n at *
  obtain ⟨n1, n2, n3⟩ := hN
  have f1 : lo4 13 a n = lo4 14 a b := by unfold lo4 blo; rw [n1, n2]; simp only [hE, hE']; omega
  have f2 : hi4 13 a n = hi4 14 a b := by unfold hi4 bhi; rw [n1, n2]; simp only [hE, hE']; omega
  have f3 : cg 13 a.C n.C = cg 14 a.C b.C := by
    rw [n3]
    show S.cong_Add a.C _ = S.cong_Sub a.C b.C
    exact Add_Sub na.c nb.c na.lo nb.lo i2 na.hl nb.hl
  unfold dar
  rw [if_neg (not_or.2 ⟨f, nN.ne⟩), if_neg (not_or.2 ⟨f, e⟩), if_neg (not_not_intro k13), if_neg (not_not_intro k14), f1, f2, f3]
  by_cases hs : a.I.Lo = a.I.Hi ∧ b.I.Lo = b.I.Hi
  · rw [if_pos hs, if_pos (show a.I.Lo = a.I.Hi ∧ n.I.Lo = n.I.Hi from ⟨hs.1, by omega⟩), hE, hE', n1, show a.I.Lo + -b.I.Hi = a.I.Lo - b.I.Lo by omega]
  · rw [if_neg hs, if_neg (show ¬ (a.I.Lo = a.I.Hi ∧ n.I.Lo = n.I.Hi) from fun h => hs ⟨h.1, by omega⟩)]
end SV
