/-
 Plain words for SHA-256: bytes block by block, the filling, the digest. No program is named.
-/
import Derived.Test.YtfkchheildfkpaaGreatDoorShaState
namespace Go.Proofs.YtfkchheildfkpaaGreatDoor
open Go.RowKit
namespace Sha
def eatF (r : List Int) : Nat → List UInt8 → St → St × List UInt8
 | 0, l, s => (s, l)
 | f + 1, l, s => if 64 ≤ l.length then eatF r f (l.drop 64) (comp r (l.take 64) s) else (s, l)
def eat (r : List Int) (l : List UInt8) (s : St) : St × List UInt8 := eatF r l.length l s
theorem eatF_more (r : List Int) (f g : Nat) (l : List UInt8) (s : St) (h1 : l.length ≤ f) (h2 : l.length ≤ g) : eatF r f l s = eatF r g l s := by
 induction f generalizing g l s with
 | zero =>
   cases g with
   | zero => rfl
   | succ g => rw [eatF, eatF, if_neg (by omega)]
 | succ f ih =>
   cases g with
   | zero => rw [eatF, eatF, if_neg (by omega)]
   | succ g =>
     rw [eatF, eatF]
     by_cases h : 64 ≤ l.length
     · rw [if_pos h, if_pos h]; exact ih g _ _ (by simp; omega) (by simp; omega)
     · rw [if_neg h, if_neg h]
theorem eat_step (r : List Int) (l : List UInt8) (s : St) (h : 64 ≤ l.length) : eat r l s = eat r (l.drop 64) (comp r (l.take 64) s) := by
 unfold eat
 obtain ⟨n, hn⟩ : ∃ n, l.length = n + 1 := ⟨l.length - 1, by omega⟩
 rw [hn, eatF, if_pos h]
 exact eatF_more r _ _ _ _ (by simp; omega) (Nat.le_refl _)
theorem eat_end (r : List Int) (l : List UInt8) (s : St) (h : l.length < 64) : eat r l s = (s, l) := by
 unfold eat
 cases hl : l.length with
 | zero => rfl
 | succ n => rw [eatF, if_neg (by omega)]
theorem eat_append (r : List Int) (l m : List UInt8) (s : St) : eat r ((eat r l s).2 ++ m) (eat r l s).1 = eat r (l ++ m) s := by
 induction hn : l.length using Nat.strongRecOn generalizing l s with
 | _ n ih =>
   by_cases h : 64 ≤ l.length
   · rw [eat_step r l s h, ih (l.drop 64).length (by simp; omega) _ _ rfl, eat_step r (l ++ m) s (by simp; omega)]
     rw [List.drop_append_of_le_length h, List.take_append_of_le_length h]
   · rw [eat_end r l s (by omega)]
theorem eat_left (r : List Int) (l : List UInt8) (s : St) : (eat r l s).2.length < 64 := by
 induction hn : l.length using Nat.strongRecOn generalizing l s with
 | _ n ih =>
   by_cases h : 64 ≤ l.length
   · rw [eat_step r l s h]; exact ih (l.drop 64).length (by simp; omega) _ _ rfl
   · rw [eat_end r l s (by omega)]; show l.length < 64; omega
theorem comp_ok (r : List Int) (b : List UInt8) (s : St) : (comp r b s).ok := addSt_ok _ _
theorem eat_ok (r : List Int) (l : List UInt8) (s : St) (h : s.ok) : (eat r l s).1.ok := by
 induction hn : l.length using Nat.strongRecOn generalizing l s with
 | _ n ih =>
   by_cases hl : 64 ≤ l.length
   · rw [eat_step r l s hl]; exact ih (l.drop 64).length (by simp; omega) _ _ (comp_ok _ _ _) rfl
   · rw [eat_end r l s (by omega)]; exact h
def zeros (n : Nat) : Nat := (119 - n % 64) % 64
def lenBytes (n : Nat) : List UInt8 := (List.range 8).map fun i => UInt8.ofNat (n * 8 % 18446744073709551616 / 256 ^ (7 - i))
def pad (n : Nat) : List UInt8 := 128 :: List.replicate (zeros n) 0 ++ lenBytes n
def bytes4 (x : Int) : List UInt8 := (List.range 4).map fun i => UInt8.ofNat (x.toNat / 256 ^ (3 - i))
def stBytes (s : St) : List UInt8 := s.list.flatMap bytes4
theorem stBytes_length (s : St) : (stBytes s).length = 32 := rfl
def digest (r : List Int) (s : St) (l : List UInt8) : List UInt8 := stBytes (eat r (l ++ pad l.length) s).1
end Sha
end Go.Proofs.YtfkchheildfkpaaGreatDoor
