/-
 What temporaries of a drawn region hold: new rows, pointers to new blocks. No program is named.
-/
import Derived.Test.YtdbkadickikgjaaGreatDoorStable
import Derived.Test.YtdbkadickikgjaaGreatDoorRow
namespace Go.Proofs.YtdbkadickikgjaaGreatDoor
open Go.RowKit
namespace Stab
def newrow (B : Nat) (t : TypeId) (cs : Array Value) (n c : Nat) : SVal := ⟨fun v W => ∃ g, v = .slice (some ⟨g, 0, none⟩) n c ∧ B ≤ g ∧ Blk W g t cs, fun _ _ _ ⟨g, h1, h2, h3⟩ hE => ⟨g, h1, h2, h3.below hE h3.lt⟩⟩
theorem cells_blk {w : World} {g : Nat} {t : TypeId} {l : List Value} (h : Blk w g t l.toArray) (j : Nat) (u : Value) (hu : l[j]? = some u) : w.cell? ((⟨g, 0, none⟩ : Addr).add j) = some u := by
 have hp : (⟨g, 0, none⟩ : Addr).add j = ⟨g, j, none⟩ := by unfold Addr.add; split <;> simp_all
 rw [hp, h.cell j]; simpa using hu
end Stab
end Go.Proofs.YtdbkadickikgjaaGreatDoor
