/-
  Congruences in order: one within another, joins as least upper bounds.
-/
import Derived.Test.YthplfkeecpkmhaaGreatDoorVCong
import Derived.Test.YthplfkeecpkmhaaGreatDoorVInter
set_option linter.all false
open Go Vm
namespace SV
open S SC

/-- A congruence as it should be. -/
def CR (c : S.Cong) : Prop := S.Cong.ok c ∧ S.ref20_Right c = true

/-- A number of it. -/
def wit (c : S.Cong) : Int := if c.M = 0 then IntKind.i64.wrap c.R else if c.R ≤ 9223372036854775807 then c.R else c.R - c.M

theorem wit_i64 {c : S.Cong} (h : CR c) : I64 (wit c) := by
  obtain ⟨h1, h2⟩ := h
  rw [ok_iff] at h1; rw [Right_iff] at h2
  unfold wit I64
  by_cases hM : c.M = 0
  · rw [if_pos hM, IntKind.wrap_i64]; omega
  · rw [if_neg hM]
    split <;> omega

theorem wit_has {c : S.Cong} (h : CR c) : has c (wit c) = true := by
  obtain ⟨h1, h2⟩ := h
  rw [ok_iff] at h1; rw [Right_iff] at h2
  rw [has_iff]
  unfold wit
  by_cases hM : c.M = 0
  · left; rw [if_pos hM, IntKind.wrap_i64, IntKind.wrap_u64]; omega
  · right
    rw [if_neg hM]
    refine ⟨hM, ?_⟩
    split
    · exact Int.emod_eq_of_lt (by omega) (by omega)
    · rw [Int.sub_emod_right]; exact Int.emod_eq_of_lt (by omega) (by omega)

theorem le_iff {a b : S.Cong} (ha : CR a) (hb : CR b) : S.cong_Within a b = true ↔ (b.M = 0 ∧ a = b) ∨ (b.M ≠ 0 ∧ b.M ∣ a.M ∧ wit a % b.M = b.R) := by
  rw [Within_iff a b ha.1 hb.1]
  have h : b.M ∣ a.M → B a b.M = wit a % b.M := fun hd => B_has a (wit a) b.M (wit_i64 ha) (wit_has ha) hd
  constructor
  · rintro (h1 | ⟨h1, h2, h3⟩)
    · exact .inl h1
    · have hd := Int.dvd_of_emod_eq_zero h2
      exact .inr ⟨h1, hd, by rw [← h hd]; exact h3⟩
  · rintro (h1 | ⟨h1, h2, h3⟩)
    · exact .inl h1
    · exact .inr ⟨h1, Int.emod_eq_zero_of_dvd h2, by rw [h h2]; exact h3⟩

theorem has_val {c : S.Cong} {n : Int} (hM : c.M ≠ 0) (h : has c n = true) : n % c.M = c.R := by
  rcases (has_iff c n).1 h with ⟨h, _⟩ | ⟨_, h⟩
  · exact absurd h hM
  · exact h

theorem has_con' {c : S.Cong} {n : Int} (hn : I64 n) (hM : c.M = 0) (h : has c n = true) : n = wit c := by
  rcases (has_iff c n).1 h with ⟨_, h⟩ | ⟨h, _⟩
  · unfold wit; rw [if_pos hM]; exact (num_of _ _ hn h).symm
  · exact absurd hM h

/-- Whatever number stands for it. -/
theorem le_num {a b : S.Cong} (ha : CR a) (hb : CR b) {n : Int} (hn : I64 n) (h : has a n = true) : S.cong_Within a b = true ↔ (b.M = 0 ∧ a = b) ∨ (b.M ≠ 0 ∧ b.M ∣ a.M ∧ n % b.M = b.R) := by
  rw [le_iff ha hb]
  have key : b.M ∣ a.M → wit a % b.M = n % b.M := fun hd => by
    rw [← B_has a (wit a) b.M (wit_i64 ha) (wit_has ha) hd, ← B_has a n b.M hn h hd]
  constructor
  · rintro (h1 | ⟨h1, h2, h3⟩)
    · exact .inl h1
    · exact .inr ⟨h1, h2, by rw [← key h2]; exact h3⟩
  · rintro (h1 | ⟨h1, h2, h3⟩)
    · exact .inl h1
    · exact .inr ⟨h1, h2, by rw [key h2]; exact h3⟩

theorem le_refl {a : S.Cong} (ha : CR a) : S.cong_Within a a = true := Within_self a ha.1 ha.2

theorem le_has {a b : S.Cong} (ha : CR a) (hb : CR b) (h : S.cong_Within a b = true) {n : Int} (hn : I64 n) (hh : has a n = true) : has b n = true := by
  rcases (le_num ha hb hn hh).1 h with ⟨_, e⟩ | ⟨h1, _, h3⟩
  · rw [← e]; exact hh
  · rw [has_iff]; exact .inr ⟨h1, h3⟩

theorem le_trans {a b c : S.Cong} (ha : CR a) (hb : CR b) (hc : CR c) (h1 : S.cong_Within a b = true) (h2 : S.cong_Within b c = true) : S.cong_Within a c = true := by
  have hw := wit_has ha; have hi := wit_i64 ha
  have hwb := le_has ha hb h1 hi hw
  rcases (le_num ha hb hi hw).1 h1 with ⟨_, e⟩ | ⟨b1, b2, b3⟩
  · rw [e]; exact h2
  · rcases (le_num hb hc hi hwb).1 h2 with ⟨_, e⟩ | ⟨c1, c2, c3⟩
    · rw [← e]; exact h1
    · exact (le_num ha hc hi hw).2 (.inr ⟨c1, Int.dvd_trans c2 b2, c3⟩)

theorem CR_ranges {a : S.Cong} (ha : CR a) : 0 ≤ a.M ∧ 0 ≤ a.R ∧ (a.M = 0 ∨ a.R < a.M) ∧ a.M ≤ 18446744073709551615 ∧ a.R ≤ 18446744073709551615 := by
  obtain ⟨h1, h2⟩ := ha
  rw [ok_iff] at h1; rw [Right_iff] at h2
  omega

theorem le_antisymm {a b : S.Cong} (ha : CR a) (hb : CR b) (h1 : S.cong_Within a b = true) (h2 : S.cong_Within b a = true) : a = b := by
  have hw := wit_has ha; have hi := wit_i64 ha
  have hwb := le_has ha hb h1 hi hw
  rcases (le_num ha hb hi hw).1 h1 with ⟨_, e⟩ | ⟨b1, b2, b3⟩
  · exact e
  · rcases (le_num hb ha hi hwb).1 h2 with ⟨_, e⟩ | ⟨c1, c2, c3⟩
    · exact e.symm
    · have ra := CR_ranges ha; have rb := CR_ranges hb
      have hM : a.M = b.M := by
        have e1 := Int.le_of_dvd (by omega) b2
        have e2 := Int.le_of_dvd (by omega) c2
        omega
      refine S.Cong.ext hM ?_
      rw [← c3, ← b3, hM]

theorem dvd_G {k a b : Int} (ha : 0 ≤ a) (hb : 0 ≤ b) (h1 : k ∣ a) (h2 : k ∣ b) : k ∣ G a b := by
  obtain ⟨x, rfl⟩ := Int.eq_ofNat_of_zero_le ha
  obtain ⟨y, rfl⟩ := Int.eq_ofNat_of_zero_le hb
  simp only [G, Int.toNat_natCast]
  rw [← Int.natAbs_dvd] at h1 h2 ⊢
  exact Int.natCast_dvd_natCast.2 (Nat.dvd_gcd (Int.natCast_dvd_natCast.1 h1) (Int.natCast_dvd_natCast.1 h2))

theorem dvd_far {x y m : Int} (hx : 0 ≤ x ∧ x ≤ 18446744073709551615) (hy : 0 ≤ y ∧ y ≤ 18446744073709551615) (h : m ∣ x - y) : m ∣ S.cong_far x y := by
  simp only [cong_far]
  by_cases h0 : x < y
  · rw [if_pos h0, if_neg (show ¬ y < x by omega), IntWalk.u64_in _ (by omega)]
    have := Int.dvd_neg.2 h
    rwa [show -(x - y) = y - x by omega] at this
  · rw [if_neg (show ¬ y > x by omega)]
    by_cases h2 : y < x
    · rw [if_pos h2, IntWalk.u64_in _ (by omega)]; exact h
    · rw [if_neg h2, IntWalk.u64_in _ (by omega)]; exact ⟨0, by omega⟩

theorem join_CR {a b : S.Cong} (ha : CR a) (hb : CR b) : CR (S.cong_Join a b) := by
  refine ⟨(Join_has a b ha.1 hb.1 ha.2 hb.2 _ _ (wit_i64 ha) (wit_i64 hb) (wit_has ha) (wit_has hb)).1, ?_⟩
  rw [← Right_eq]; exact (Join_both a b ha.1 hb.1 ha.2).2.2

theorem join_l {a b : S.Cong} (ha : CR a) (hb : CR b) : S.cong_Within a (S.cong_Join a b) = true := (Join_has a b ha.1 hb.1 ha.2 hb.2 _ _ (wit_i64 ha) (wit_i64 hb) (wit_has ha) (wit_has hb)).2.2.2.1
theorem join_r {a b : S.Cong} (ha : CR a) (hb : CR b) : S.cong_Within b (S.cong_Join a b) = true := (Join_has a b ha.1 hb.1 ha.2 hb.2 _ _ (wit_i64 ha) (wit_i64 hb) (wit_has ha) (wit_has hb)).2.2.2.2

theorem join_least {a b c : S.Cong} (ha : CR a) (hb : CR b) (hc : CR c) (h1 : S.cong_Within a c = true) (h2 : S.cong_Within b c = true) : S.cong_Within (S.cong_Join a b) c = true := by
  by_cases hab : a = b
  · subst hab
    have e : S.cong_Join a a = a := by simp [cong_Join]
    rw [e]; exact h1
  have ra := CR_ranges ha; have rb := CR_ranges hb; have rc := CR_ranges hc
  have hwa := wit_has ha; have hia := wit_i64 ha; have hwb := wit_has hb; have hib := wit_i64 hb
  have hJ := join_CR ha hb
  rcases (le_iff ha hc).1 h1 with ⟨c1, e1⟩ | ⟨c1, c2, c3⟩
  · rcases (le_iff hb hc).1 h2 with ⟨_, e2⟩ | ⟨c1', _⟩
    · exact absurd (e1.trans e2.symm) hab
    · exact absurd c1 c1'
  · rcases (le_iff hb hc).1 h2 with ⟨c1', _⟩ | ⟨_, d2, d3⟩
    · exact absurd c1' c1
    have hxj := (Join_has a b ha.1 hb.1 ha.2 hb.2 _ _ hia hib hwa hwb).2.1
    refine (le_num hJ hc hia hxj).2 (.inr ⟨c1, ?_, c3⟩)
    obtain ⟨j0, j1⟩ := Join_val a b ha.1 hb.1 hab
    have hdif : c.M ∣ wit a - wit b := by
      have := Int.emod_emod_of_dvd
      have e : (wit a - wit b) % c.M = 0 := by rw [Int.sub_emod, c3, d3, Int.sub_self, Int.zero_emod]
      exact Int.dvd_of_emod_eq_zero e
    by_cases hg : G a.M b.M = 0
    · obtain ⟨ea, eb⟩ := (G_pos a.M b.M ra.1 rb.1).2.2.2.1 hg
      have ea' : IntKind.i64.wrap a.R = wit a := by unfold wit; rw [if_pos ea]
      have eb' : IntKind.i64.wrap b.R = wit b := by unfold wit; rw [if_pos eb]
      rw [j0 hg, ea', eb']
      have hm : IntKind.u64.wrap (IntKind.u64.wrap (max (wit a) (wit b)) - IntKind.u64.wrap (min (wit a) (wit b))) = max (wit a) (wit b) - min (wit a) (wit b) := by
        unfold I64 at hia hib
        rw [IntKind.wrap_u64, IntKind.wrap_u64, IntKind.wrap_u64]; omega
      rw [hm]
      have hk : (mk (max (wit a) (wit b) - min (wit a) (wit b)) (wit a)).M = max (wit a) (wit b) - min (wit a) (wit b) := by
        unfold mk; split
        · rename_i h; exact h.symm
        · rfl
      rw [hk]
      rcases Int.le_total (wit a) (wit b) with h | h
      · rw [Int.max_eq_right h, Int.min_eq_left h]
        have := Int.dvd_neg.2 hdif
        rwa [show -(wit a - wit b) = wit b - wit a by omega] at this
      · rw [Int.max_eq_left h, Int.min_eq_right h]; exact hdif
    · rw [j1 hg]
      have g0 := G_pos a.M b.M ra.1 rb.1
      have hg1 : 0 < G a.M b.M := by omega
      have qa := B_range a _ hg1; have qb := B_range b _ hg1
      obtain ⟨_, f2, f3⟩ := far_eq (B a (G a.M b.M)) (B b (G a.M b.M)) (by omega) (by omega)
      have hcg : c.M ∣ G a.M b.M := dvd_G ra.1 rb.1 c2 d2
      obtain ⟨d1, d1'⟩ := G_dvd a.M b.M ra.1 rb.1
      have x1 := B_has a (wit a) _ hia hwa d1
      have x2 := B_has b (wit b) _ hib hwb d1'
      refine dvd_G g0.1 f2 hcg (dvd_far (by omega) (by omega) ?_)
      have e : (B a (G a.M b.M) - B b (G a.M b.M)) % c.M = 0 := by
        rw [Int.sub_emod, x1, x2, Int.emod_emod_of_dvd _ hcg, Int.emod_emod_of_dvd _ hcg, c3, d3, Int.sub_self, Int.zero_emod]
      exact Int.dvd_of_emod_eq_zero e

theorem join_of_le {a b : S.Cong} (ha : CR a) (hb : CR b) (h : S.cong_Within a b = true) : S.cong_Join a b = b :=
  le_antisymm (join_CR ha hb) hb (join_least ha hb hb h (le_refl hb)) (join_r ha hb)
theorem join_comm {a b : S.Cong} (ha : CR a) (hb : CR b) : S.cong_Join a b = S.cong_Join b a :=
  le_antisymm (join_CR ha hb) (join_CR hb ha) (join_least ha hb (join_CR hb ha) (join_r hb ha) (join_l hb ha)) (join_least hb ha (join_CR ha hb) (join_r ha hb) (join_l ha hb))

theorem meet_CR {a b : S.Cong} (ha : CR a) (hb : CR b) (h : (S.cong_Meet a b).2 = true) : ((S.cong_Meet a b).1 = a ∨ (S.cong_Meet a b).1 = b) ∧ CR (S.cong_Meet a b).1 := by
  have := Meet_is a b ha.1 hb.1 ha.2 hb.2 h
  refine ⟨this, ?_⟩
  rcases this with e | e <;> rw [e] <;> assumption

/-- A constant. -/
theorem const_CR {n : Int} : CR (S.cong_Const n) := by
  refine ⟨?_, ?_⟩
  · rw [ok_iff]; simp only [cong_Const]; refine ⟨by decide, ?_⟩
    rw [IntKind.wrap_u64]; omega
  · rw [Right_iff]; exact .inl rfl
theorem const_has {n : Int} : has (S.cong_Const n) n = true := by
  rw [has_iff]; exact .inl ⟨rfl, rfl⟩
theorem const_le {n : Int} (hn : I64 n) {c : S.Cong} (hc : CR c) : S.cong_Within (S.cong_Const n) c = true ↔ has c n = true := by
  constructor
  · intro h; exact le_has const_CR hc h hn const_has
  · intro h
    rw [le_num const_CR hc hn const_has]
    rcases (has_iff c n).1 h with ⟨h1, h2⟩ | ⟨h1, h2⟩
    · exact .inl ⟨h1, S.Cong.ext h1.symm h2⟩
    · exact .inr ⟨h1, ⟨0, by simp [cong_Const]⟩, h2⟩
theorem top_CR : CR S.cong_Top := ⟨by rw [ok_iff]; decide, by decide⟩
theorem top_has (n : Int) : has S.cong_Top n = true := by
  rw [has_iff]; exact .inr ⟨by decide, Int.emod_one n⟩
theorem le_top {c : S.Cong} (hc : CR c) : S.cong_Within c S.cong_Top = true := Within_top c hc.1
end SV
