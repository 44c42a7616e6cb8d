/-
  DERIVED. GIVEN WITH THE SEED: THE CARDS: each row of YtpeemigophgdjaaGreatDoorRows.lean that lists a variable, with what it lists TIED to the program's text (the seventh form; the later family's looks); each row that meets fmt, with fmt's text TOLD by the authors' own Lean function (tested against real Go, not proved from fmt's source: count such statements apart). THE CARD IS WHAT COUNTS. Prove the row's statement (the work); the ties are given (YtpeemigophgdjaaGreatDoorTie.lean); close each card by the builder's one call (the guide's Derived/Test/ToyasCard.lean, 'card_holds'). Laid BY PROGRAM, IN A SANDBOX (cutbox-door.mjs). By AI agents, Wed Nov 11 2026. No macro, syntax, notation, axiom, sorry.
-/
import Derived.Test.YtpeemigophgdjaaGreatDoorRows
import GoSem.ClaimSeven
namespace Go.Proofs.YtpeemigophgdjaaGreatDoor
namespace Rows

/-- THE TIED CARD OF 'strongboxlaw10.HealthNames'. -/
def healthNamesCard : Claim7 := { stood := { row := healthNamesRow, standIns := [], harness := (true, "a97f90a67c3ea399f8abe8ffcca5478b6d8c5eafbb78912bc9f4f700116d0f2f"), looks := true }, kinds := [], alts := [], laidByText := true, laidKinds := [.data, .data, .data, .data, .pinned], laidTests := true, laidLooks := .later }
def HealthNamesCardSaid : Prop := Claim7.holds Tryz.pinned (.plain (OpenSpec.ofChange healthNamesSpec)) healthNamesCard

/-- THE TIED CARD OF 'strongboxlaw09.StripeNames'. -/
def stripeNamesCard : Claim7 := { stood := { row := stripeNamesRow, standIns := [], harness := (true, "a97f90a67c3ea399f8abe8ffcca5478b6d8c5eafbb78912bc9f4f700116d0f2f"), looks := true }, kinds := [], alts := [], laidByText := true, laidKinds := [.data, .data, .data, .data, .pinned], laidTests := true, laidLooks := .later }
def StripeNamesCardSaid : Prop := Claim7.holds Tryz.pinned (.plain (OpenSpec.ofChange stripeNamesSpec)) stripeNamesCard

/-- THE SECOND FORM's CARD OF 'strongboxlaw10.HealthNames'. -/
def healthNamesUptoCard : Claim7 := { stood := { row := healthNamesUptoRow, standIns := [], harness := (true, "a97f90a67c3ea399f8abe8ffcca5478b6d8c5eafbb78912bc9f4f700116d0f2f"), looks := true }, kinds := [], alts := [], laidByText := true, laidKinds := [.data, .data, .data, .data, .pinned], laidTests := true, laidLooks := .later }
def HealthNamesUptoCardSaid : Prop := Claim7.holds Tryz.pinned (.plain (OpenSpec.upto healthNamesSpec)) healthNamesUptoCard

/-- THE SECOND FORM's CARD OF 'strongboxlaw09.StripeNames'. -/
def stripeNamesUptoCard : Claim7 := { stood := { row := stripeNamesUptoRow, standIns := [], harness := (true, "a97f90a67c3ea399f8abe8ffcca5478b6d8c5eafbb78912bc9f4f700116d0f2f"), looks := true }, kinds := [], alts := [], laidByText := true, laidKinds := [.data, .data, .data, .data, .pinned], laidTests := true, laidLooks := .later }
def StripeNamesUptoCardSaid : Prop := Claim7.holds Tryz.pinned (.plain (OpenSpec.upto stripeNamesSpec)) stripeNamesUptoCard
end Rows
end Go.Proofs.YtpeemigophgdjaaGreatDoor
