/-
 What a slice looks like that owns a row of one-cell elements. No program is named.
-/
import Derived.Test.YtfkchheildfkpaaGreatDoorMem
namespace Go.Proofs.YtfkchheildfkpaaGreatDoor
open Go.RowKit
theorem row_form {w : World} {base : Nat} {e : TypeId} {v : Value} {n : Nat} {xs : List Value} (h : w.ownsRow base e 1 v n xs) :
   ∃ A cap, v = .slice A n cap ∧ (0 < n → ∃ g cur, A = some ⟨g, 0, none⟩ ∧ base ≤ g ∧ Blk w g e cur ∧ ∀ (j : Nat) (u : Value), xs[j]? = some u → cur[j]? = some u) := by
 obtain ⟨h1, h2⟩ := h
 rcases h2 with ⟨rfl, rfl⟩ | ⟨g, cap, cur, rfl, hb, hg, hn, hc, hs, ht⟩
 · exact ⟨none, 0, rfl, fun h => absurd h (by omega)⟩
 · refine ⟨some ⟨g, 0, none⟩, cap, rfl, fun _ => ⟨g, cur, rfl, hb, hg, fun j u hj => ?_⟩⟩
   have hl : j < xs.length := by
     rcases Nat.lt_or_ge j xs.length with h | h
     · exact h
     · rw [List.getElem?_eq_none h] at hj; cases hj
   rw [← ht, List.getElem?_take_of_lt (by omega)] at hj
   rw [← Array.getElem?_toList]; exact hj
end Go.Proofs.YtfkchheildfkpaaGreatDoor
