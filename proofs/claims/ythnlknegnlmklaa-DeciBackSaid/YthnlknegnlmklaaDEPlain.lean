/-
  deci.plain, a range over a text: whether it is some number's digits.
-/
import Derived.Test.YthnlknegnlmklaaDEEnv
import Derived.Tactics
import Derived.Tactics2
import Derived.StillTactics
import Derived.Laws.RangeString
import Derived.Laws.RangeAny
import Derived.Laws.Strings
import Derived.Laws.Strings2
import Derived.Laws.Small
import Derived.LoopTactic
import Derived.WalkKit
set_option linter.all false
namespace Go.Proofs.Ythnlknegnlmklaa
open Go Go.Proofs Go.RowKit

theorem plainb_eq (s : ByteArray) (pos : Nat) (h : pos < s.size) {b : Nat} (hb : (s[pos]'h).toNat = b) : S.deci_plainb s pos = (decide (48 ≤ b) && decide (b ≤ 57) && !(decide (pos = 0) && decide (b = 48) && decide (s.size > 1))) := by
  have : s.get! pos = s[pos]'h := get_at s pos h
  unfold S.deci_plainb
  rw [this, hb]
theorem plain_no (s : ByteArray) {pos : Nat} (h : pos < s.size) (hn : S.deci_plainb s pos = false) : S.deci_plain s = false := by
  unfold S.deci_plain
  rw [Bool.and_eq_false_iff]
  left
  rw [List.all_eq_false]
  exact ⟨pos, by simpa using h, by simp [hn]⟩
theorem plain_end (s : ByteArray) (h : ∀ j, j < s.size → S.deci_plainb s j = true) : S.deci_plain s = decide (s.size ≠ 0) := by
  unfold S.deci_plain
  rw [show (List.range s.size).all (S.deci_plainb s) = true from List.all_eq_true.2 fun j hj => h j (by simpa using hj), Bool.true_and]

theorem size_ne (s : ByteArray) : decide (s.size ≠ 0) = !s.toList.isEmpty := by
  rw [ByteArray.toList_eq]
  obtain ⟨⟨l⟩⟩ := s
  show decide (l.length ≠ 0) = !l.isEmpty
  cases l
  · rfl
  · simp

set_option maxRecDepth 1000000 in
theorem plain_walk (s : ByteArray) (w : World) :
    Calls Try.prog 57 #[.string s] w fun e w' => e = .returned (.bool (S.deci_plain s)) ∧ ∃ pos, w' = w.iter s pos := by
  go_enter Try.func57, Try.ntmps57
  go_wp2
  go_loopw [3, 4] (fun _ _ w' => ∃ pos : Nat, w' = w.iter s pos ∧ pos ≤ s.size ∧ ∀ j, j < pos → S.deci_plainb s j = true) (fun _ _ w' => s.size - w'.iterPos w.heap.size)
  case atStart => exact ⟨0, rfl, Nat.zero_le _, fun j h => absurd h (Nat.not_lt_zero _)⟩
  case round =>
    obtain ⟨pos, rfl, hle, hall⟩ := hrel
    by_cases hp : pos < s.size
    · by_cases ha : (s[pos]'hp).toNat < 128
      · obtain ⟨b, hb⟩ : ∃ b, (s[pos]'hp).toNat = b := ⟨_, rfl⟩
        have hpb := plainb_eq s pos hp hb
        have hnx : ∀ ty, (Instr.next (.pointer (some ⟨w.heap.size, 0, none⟩)) true ty).run Try.prog (w.iter s pos) = .ok (.tuple #[.bool true, .int .i64 (pos : Int), .int .i32 (b : Int)]) (w.iter s (pos + 1)) := fun ty => by rw [← hb]; exact run_next_ascii w s pos ty hp ha
        clear ha
        go_wp2
        all_goals first
          | (go_ret
             refine ⟨?_, _, rfl⟩
             rw [plain_no s hp (by rw [hpb]; simp; omega)]; rfl)
          | (refine ⟨⟨pos + 1, by simp_all, by omega, fun j hj => ?_⟩, by simp; omega⟩
             rcases Nat.lt_or_ge j pos with h | h
             · exact hall j h
             · rw [show j = pos by omega, hpb]; simp; omega)
      · obtain ⟨d, hd, hd2⟩ : ∃ d, (Utf8.decode s pos).1 = d ∧ 128 ≤ d := ⟨_, rfl, (decode_high s pos hp (by omega)).1⟩
        have hpb := plainb_eq s pos hp rfl
        have hnx : ∀ ty, (Instr.next (.pointer (some ⟨w.heap.size, 0, none⟩)) true ty).run Try.prog (w.iter s pos) = _ := fun ty => run_next_any w s pos ty hp
        rw [hd] at hnx
        go_wp2
        all_goals first
          | (go_ret
             refine ⟨?_, _, rfl⟩
             rw [plain_no s hp (by rw [hpb]; simp; omega)]; rfl)
    · have hnx : ∀ ty, (Instr.next (.pointer (some ⟨w.heap.size, 0, none⟩)) true ty).run Try.prog (w.iter s pos) = _ := fun ty => run_next_end w s pos ty hp
      go_wp2
      go_ret
      refine ⟨?_, _, rfl⟩
      rw [plain_end s (fun j hj => hall j (by omega))]
      rw [size_ne]; rfl

open Vm

theorem plain_calls {c : Cfg El} (hP : c.P = P) (s : ByteArray) (_hp : S.deci_plain_pre s) : CallOk c 57 [.str s] (.bool (S.deci_plain s)) [] := by
  intro w Z σ β xs hT hS hI hA
  have h0 : ∀ x, Den c Z σ w (.str s) x → x = .string s := fun x h => by cases h; rfl
  have h0 := h0 _ (hA.den 0 (by simp))
  have hx : xs = #[.string s] := by
    have hl := hA.size
    obtain ⟨l⟩ := xs
    match l, hl with
    | [a], _ => simp at h0; simp [h0]
  subst hx
  rw [hP]
  refine (plain_walk s w).mono ?_
  rintro e W' ⟨rfl, pos, rfl⟩
  exact ⟨_, rfl, (Bel.refl ⟨w, _⟩).below ((Below.refl _ w).alloc (Nat.le_refl _) _), (fun f b => f = false ∧ Z false b), (fun f b h => .inl h), (fun _ h => by cases h.1), .bool _, trivial⟩
end Go.Proofs.Ythnlknegnlmklaa
