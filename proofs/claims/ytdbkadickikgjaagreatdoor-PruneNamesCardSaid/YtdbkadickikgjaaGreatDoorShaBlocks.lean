/-
 Plain words for SHA-256: a text of whole blocks, block by block. No program is named.
-/
import Derived.Test.YtdbkadickikgjaaGreatDoorShaEat
namespace Go.Proofs.YtdbkadickikgjaaGreatDoor
open Go.RowKit
namespace Sha
def stN (r : List Int) (s : St) (F : List UInt8) : Nat → St
 | 0 => s
 | k + 1 => comp r ((F.drop (64 * k)).take 64) (stN r s F k)
theorem stN_ok (r : List Int) (s : St) (h : s.ok) (F : List UInt8) (k : Nat) : (stN r s F k).ok := by
 cases k with
 | zero => exact h
 | succ k => exact comp_ok _ _ _
theorem eat_stN (r : List Int) (s : St) (F : List UInt8) : ∀ k, 64 * k ≤ F.length → eat r (F.drop (64 * k)) (stN r s F k) = eat r F s
 | 0, _ => rfl
 | k + 1, h => by
   rw [← eat_stN r s F k (by omega), eat_step r (F.drop (64 * k)) _ (by rw [List.length_drop]; omega), List.drop_drop, show 64 * k + 64 = 64 * (k + 1) by omega]
   rfl
theorem stN_end (r : List Int) (s : St) (F : List UInt8) (k : Nat) (h : F.length = 64 * k) : stN r s F k = (eat r F s).1 := by
 rw [← eat_stN r s F k (by omega), ← h, List.drop_length, eat_end _ _ _ (by simp)]
theorem pad_length (n : Nat) : (pad n).length = 9 + zeros n := by simp [pad, lenBytes]; omega
theorem padded (l : List UInt8) : ∃ k, (l ++ pad l.length).length = 64 * k ∧ 64 * k ≤ l.length + 72 := by
 refine ⟨(l ++ pad l.length).length / 64, ?_, ?_⟩ <;> rw [List.length_append, pad_length, zeros] <;> omega
def outL (s : St) (k : Nat) : List UInt8 := (s.list.take k).flatMap bytes4
theorem outL_end (s : St) : outL s 8 = stBytes s := by rw [outL, List.take_of_length_le (by simp [St.list])]; rfl
theorem outL_succ (s : St) (k : Nat) (h : k < 8) : outL s (k + 1) = outL s k ++ bytes4 (s.list.getD k 0) := by
 have hl : k < s.list.length := by simpa [St.list] using h
 rw [outL, List.take_succ_eq_append_getElem hl, List.flatMap_append, outL]
 simp [List.getD, hl]
end Sha
end Go.Proofs.YtdbkadickikgjaaGreatDoor
