/-
  DERIVED. GIVEN WITH THE SEED: THE CARDS: each row of YtgfojmbmibgijaaGreatDoorRows.lean that lists a variable, with what it lists TIED to the program's text (the seventh form; the later family's looks); each row that meets fmt, with fmt's text TOLD by the authors' own Lean function (tested against real Go, not proved from fmt's source: count such statements apart). THE CARD IS WHAT COUNTS. Prove the row's statement (the work); the ties are given (YtgfojmbmibgijaaGreatDoorTie.lean); close each card by the builder's one call (the guide's Derived/Test/ToyasCard.lean, 'card_holds'). Laid BY PROGRAM, IN A SANDBOX (cutbox-door.mjs). By AI agents, Wed Nov 11 2026. No macro, syntax, notation, axiom, sorry.
-/
import Derived.Test.YtgfojmbmibgijaaGreatDoorRows
import GoSem.ClaimSeven
namespace Go.Proofs.YtgfojmbmibgijaaGreatDoor
namespace Rows

/-- THE TIED CARD OF 'strongboxlaw30.ScrubNames'. -/
def scrubNamesCard : Claim7 := { stood := { row := scrubNamesRow, standIns := [], harness := (true, "150662d756374fe95e43295d1a04edd9fe52a39437937bbad50c364c6f3b19c5"), looks := true }, kinds := [], alts := [], laidByText := true, laidKinds := [.data, .data, .data, .data, .data, .pinned], laidTests := true, laidLooks := .later }
def ScrubNamesCardSaid : Prop := Claim7.holds Tryz.pinned (.plain (OpenSpec.ofChange scrubNamesSpec)) scrubNamesCard

/-- THE SECOND FORM's CARD OF 'strongboxlaw30.ScrubNames'. -/
def scrubNamesUptoCard : Claim7 := { stood := { row := scrubNamesUptoRow, standIns := [], harness := (true, "150662d756374fe95e43295d1a04edd9fe52a39437937bbad50c364c6f3b19c5"), looks := true }, kinds := [], alts := [], laidByText := true, laidKinds := [.data, .data, .data, .data, .data, .pinned], laidTests := true, laidLooks := .later }
def ScrubNamesUptoCardSaid : Prop := Claim7.holds Tryz.pinned (.plain (OpenSpec.upto scrubNamesSpec)) scrubNamesUptoCard
end Rows
end Go.Proofs.YtgfojmbmibgijaaGreatDoor
