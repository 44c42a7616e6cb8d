/-
  DERIVED. GIVEN WITH THE SEED: THE CARDS: each row of YtfkchheildfkpaaGreatDoorRows.lean that lists a variable, with what it lists TIED to the program's text (the seventh form; the later family's looks); each row that meets fmt, with fmt's text TOLD by the authors' own Lean function (tested against real Go, not proved from fmt's source: count such statements apart). THE CARD IS WHAT COUNTS. Prove the row's statement (the work); the ties are given (YtfkchheildfkpaaGreatDoorTie.lean); close each card by the builder's one call (the guide's Derived/Test/ToyasCard.lean, 'card_holds'). Laid BY PROGRAM, IN A SANDBOX (cutbox-door.mjs). By AI agents, Wed Nov 11 2026. No macro, syntax, notation, axiom, sorry.
-/
import Derived.Test.YtfkchheildfkpaaGreatDoorRows
import GoSem.ClaimSeven
namespace Go.Proofs.YtfkchheildfkpaaGreatDoor
namespace Rows

/-- THE TIED CARD OF 'strongboxlaw31.VaultNames'. -/
def vaultNamesCard : Claim7 := { stood := { row := vaultNamesRow, standIns := [], harness := (true, "c6888a79038a14107b6c0030a5a00f61f381c6ea26e751b4f339c838e946b4fd"), looks := true }, kinds := [], alts := [], laidByText := true, laidKinds := [.data, .data, .data, .data, .data, .pinned], laidTests := true, laidLooks := .later }
def VaultNamesCardSaid : Prop := Claim7.holds Tryz.pinned (.plain (OpenSpec.ofChange vaultNamesSpec)) vaultNamesCard

/-- THE SECOND FORM's CARD OF 'strongboxlaw31.VaultNames'. -/
def vaultNamesUptoCard : Claim7 := { stood := { row := vaultNamesUptoRow, standIns := [], harness := (true, "c6888a79038a14107b6c0030a5a00f61f381c6ea26e751b4f339c838e946b4fd"), looks := true }, kinds := [], alts := [], laidByText := true, laidKinds := [.data, .data, .data, .data, .data, .pinned], laidTests := true, laidLooks := .later }
def VaultNamesUptoCardSaid : Prop := Claim7.holds Tryz.pinned (.plain (OpenSpec.upto vaultNamesSpec)) vaultNamesUptoCard
end Rows
end Go.Proofs.YtfkchheildfkpaaGreatDoor
