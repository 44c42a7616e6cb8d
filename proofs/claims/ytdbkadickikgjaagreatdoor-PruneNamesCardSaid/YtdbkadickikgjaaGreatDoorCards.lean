/-
  DERIVED. GIVEN WITH THE SEED: THE CARDS: each row of YtdbkadickikgjaaGreatDoorRows.lean that lists a variable, with what it lists TIED to the program's text (the seventh form; the later family's looks); each row that meets fmt, with fmt's text TOLD by the authors' own Lean function (tested against real Go, not proved from fmt's source: count such statements apart). THE CARD IS WHAT COUNTS. Prove the row's statement (the work); the ties are given (YtdbkadickikgjaaGreatDoorTie.lean); close each card by the builder's one call (the guide's Derived/Test/ToyasCard.lean, 'card_holds'). Laid BY PROGRAM, IN A SANDBOX (cutbox-door.mjs). By AI agents, Wed Nov 11 2026. No macro, syntax, notation, axiom, sorry.
-/
import Derived.Test.YtdbkadickikgjaaGreatDoorRows
import GoSem.ClaimSeven
namespace Go.Proofs.YtdbkadickikgjaaGreatDoor
namespace Rows

/-- THE TIED CARD OF 'strongboxlaw28.PruneNames'. -/
def pruneNamesCard : Claim7 := { stood := { row := pruneNamesRow, standIns := [], harness := (true, "dab7fe69823b5af4da27e440ad5e99804f004f7c960a9e590b85e53d1d8b9e76"), looks := true }, kinds := [], alts := [], laidByText := true, laidKinds := [.data, .data, .data, .data, .data, .pinned], laidTests := true, laidLooks := .later }
def PruneNamesCardSaid : Prop := Claim7.holds Tryz.pinned (.plain (OpenSpec.ofChange pruneNamesSpec)) pruneNamesCard

/-- THE SECOND FORM's CARD OF 'strongboxlaw28.PruneNames'. -/
def pruneNamesUptoCard : Claim7 := { stood := { row := pruneNamesUptoRow, standIns := [], harness := (true, "dab7fe69823b5af4da27e440ad5e99804f004f7c960a9e590b85e53d1d8b9e76"), looks := true }, kinds := [], alts := [], laidByText := true, laidKinds := [.data, .data, .data, .data, .data, .pinned], laidTests := true, laidLooks := .later }
def PruneNamesUptoCardSaid : Prop := Claim7.holds Tryz.pinned (.plain (OpenSpec.upto pruneNamesSpec)) pruneNamesUptoCard
end Rows
end Go.Proofs.YtdbkadickikgjaaGreatDoor
