/-
  DERIVED. GIVEN WITH THE SEED: THE CARDS: each row of YtnbkhdbligjifaaGreatDoorRows.lean that lists a variable, with what it lists TIED to the program's text (the seventh form; the later family's looks); each row that meets fmt, with fmt's text TOLD by the authors' own Lean function (tested against real Go, not proved from fmt's source: count such statements apart). THE CARD IS WHAT COUNTS. Prove the row's statement (the work); the ties are given (YtnbkhdbligjifaaGreatDoorTie.lean); close each card by the builder's one call (the guide's Derived/Test/ToyasCard.lean, 'card_holds'). Laid BY PROGRAM, IN A SANDBOX (cutbox-door.mjs). By AI agents, Wed Nov 11 2026. No macro, syntax, notation, axiom, sorry.
-/
import Derived.Test.YtnbkhdbligjifaaGreatDoorRows
import GoSem.ClaimSeven
namespace Go.Proofs.YtnbkhdbligjifaaGreatDoor
namespace Rows

/-- THE TIED CARD OF 'strongboxlaw10.HealthAlone'. -/
def healthAloneCard : Claim7 := { stood := { row := healthAloneRow, standIns := [], harness := (true, "3e1932589fcbcfb0a52f1579b57471fcdc36b3d33cac1578ecd760897d29356f"), looks := true }, kinds := [], alts := [], laidByText := true, laidKinds := [.data, .data, .data, .data, .pinned], laidTests := true, laidLooks := .later }
def HealthAloneCardSaid : Prop := Claim7.holds Tryz.pinned (.plain (OpenSpec.ofChange healthAloneSpec)) healthAloneCard

/-- THE TIED CARD OF 'strongboxlaw10.HealthLooks'. -/
def healthLooksCard : Claim7 := { stood := { row := healthLooksRow, standIns := [], harness := (true, "3e1932589fcbcfb0a52f1579b57471fcdc36b3d33cac1578ecd760897d29356f"), looks := true }, kinds := [], alts := [], laidByText := true, laidKinds := [.data, .data, .data, .data, .pinned], laidTests := true, laidLooks := .later }
def HealthLooksCardSaid : Prop := Claim7.holds Tryz.pinned (.plain (OpenSpec.ofChange healthLooksSpec)) healthLooksCard

/-- THE TIED CARD OF 'strongboxlaw10.HealthWhole'. -/
def healthWholeCard : Claim7 := { stood := { row := healthWholeRow, standIns := [], harness := (true, "3e1932589fcbcfb0a52f1579b57471fcdc36b3d33cac1578ecd760897d29356f"), looks := true }, kinds := [], alts := [], laidByText := true, laidKinds := [.data, .data, .data, .data, .pinned], laidTests := true, laidLooks := .later }
def HealthWholeCardSaid : Prop := Claim7.holds Tryz.pinned (.plain (OpenSpec.ofChange healthWholeSpec)) healthWholeCard

/-- THE TIED CARD OF 'strongboxlaw09.StripeTwo'. -/
def stripeTwoCard : Claim7 := { stood := { row := stripeTwoRow, standIns := [], harness := (true, "3e1932589fcbcfb0a52f1579b57471fcdc36b3d33cac1578ecd760897d29356f"), looks := true }, kinds := [], alts := [], laidByText := true, laidKinds := [.data, .data, .data, .data, .pinned], laidTests := true, laidLooks := .later }
def StripeTwoCardSaid : Prop := Claim7.holds Tryz.pinned (.plain (OpenSpec.ofChange stripeTwoSpec)) stripeTwoCard

/-- THE TIED CARD OF 'strongboxlaw09.StripeTold'. -/
def stripeToldCard : Claim7 := { stood := { row := stripeToldRow, standIns := [], harness := (true, "3e1932589fcbcfb0a52f1579b57471fcdc36b3d33cac1578ecd760897d29356f"), looks := true }, kinds := [], alts := [], laidByText := true, laidKinds := [.data, .data, .data, .data, .pinned], laidTests := true, laidLooks := .later }
def StripeToldCardSaid : Prop := Claim7.holds Tryz.pinned (.plain (OpenSpec.ofChange stripeToldSpec)) stripeToldCard

/-- THE TIED CARD OF 'strongboxlaw09.StripeWorse'. -/
def stripeWorseCard : Claim7 := { stood := { row := stripeWorseRow, standIns := [], harness := (true, "3e1932589fcbcfb0a52f1579b57471fcdc36b3d33cac1578ecd760897d29356f"), looks := true }, kinds := [], alts := [], laidByText := true, laidKinds := [.data, .data, .data, .data, .pinned], laidTests := true, laidLooks := .later }
def StripeWorseCardSaid : Prop := Claim7.holds Tryz.pinned (.plain (OpenSpec.ofChange stripeWorseSpec)) stripeWorseCard

/-- THE TIED CARD OF 'strongboxlaw09.StripeKept'. -/
def stripeKeptCard : Claim7 := { stood := { row := stripeKeptRow, standIns := [], harness := (true, "3e1932589fcbcfb0a52f1579b57471fcdc36b3d33cac1578ecd760897d29356f"), looks := true }, kinds := [], alts := [], laidByText := true, laidKinds := [.data, .data, .data, .data, .pinned], laidTests := true, laidLooks := .later }
def StripeKeptCardSaid : Prop := Claim7.holds Tryz.pinned (.plain (OpenSpec.ofChange stripeKeptSpec)) stripeKeptCard

/-- THE SECOND FORM's CARD OF 'strongboxlaw10.HealthAlone'. -/
def healthAloneUptoCard : Claim7 := { stood := { row := healthAloneUptoRow, standIns := [], harness := (true, "3e1932589fcbcfb0a52f1579b57471fcdc36b3d33cac1578ecd760897d29356f"), looks := true }, kinds := [], alts := [], laidByText := true, laidKinds := [.data, .data, .data, .data, .pinned], laidTests := true, laidLooks := .later }
def HealthAloneUptoCardSaid : Prop := Claim7.holds Tryz.pinned (.plain (OpenSpec.upto healthAloneSpec)) healthAloneUptoCard

/-- THE SECOND FORM's CARD OF 'strongboxlaw10.HealthLooks'. -/
def healthLooksUptoCard : Claim7 := { stood := { row := healthLooksUptoRow, standIns := [], harness := (true, "3e1932589fcbcfb0a52f1579b57471fcdc36b3d33cac1578ecd760897d29356f"), looks := true }, kinds := [], alts := [], laidByText := true, laidKinds := [.data, .data, .data, .data, .pinned], laidTests := true, laidLooks := .later }
def HealthLooksUptoCardSaid : Prop := Claim7.holds Tryz.pinned (.plain (OpenSpec.upto healthLooksSpec)) healthLooksUptoCard

/-- THE SECOND FORM's CARD OF 'strongboxlaw10.HealthWhole'. -/
def healthWholeUptoCard : Claim7 := { stood := { row := healthWholeUptoRow, standIns := [], harness := (true, "3e1932589fcbcfb0a52f1579b57471fcdc36b3d33cac1578ecd760897d29356f"), looks := true }, kinds := [], alts := [], laidByText := true, laidKinds := [.data, .data, .data, .data, .pinned], laidTests := true, laidLooks := .later }
def HealthWholeUptoCardSaid : Prop := Claim7.holds Tryz.pinned (.plain (OpenSpec.upto healthWholeSpec)) healthWholeUptoCard

/-- THE SECOND FORM's CARD OF 'strongboxlaw09.StripeTwo'. -/
def stripeTwoUptoCard : Claim7 := { stood := { row := stripeTwoUptoRow, standIns := [], harness := (true, "3e1932589fcbcfb0a52f1579b57471fcdc36b3d33cac1578ecd760897d29356f"), looks := true }, kinds := [], alts := [], laidByText := true, laidKinds := [.data, .data, .data, .data, .pinned], laidTests := true, laidLooks := .later }
def StripeTwoUptoCardSaid : Prop := Claim7.holds Tryz.pinned (.plain (OpenSpec.upto stripeTwoSpec)) stripeTwoUptoCard

/-- THE SECOND FORM's CARD OF 'strongboxlaw09.StripeTold'. -/
def stripeToldUptoCard : Claim7 := { stood := { row := stripeToldUptoRow, standIns := [], harness := (true, "3e1932589fcbcfb0a52f1579b57471fcdc36b3d33cac1578ecd760897d29356f"), looks := true }, kinds := [], alts := [], laidByText := true, laidKinds := [.data, .data, .data, .data, .pinned], laidTests := true, laidLooks := .later }
def StripeToldUptoCardSaid : Prop := Claim7.holds Tryz.pinned (.plain (OpenSpec.upto stripeToldSpec)) stripeToldUptoCard

/-- THE SECOND FORM's CARD OF 'strongboxlaw09.StripeWorse'. -/
def stripeWorseUptoCard : Claim7 := { stood := { row := stripeWorseUptoRow, standIns := [], harness := (true, "3e1932589fcbcfb0a52f1579b57471fcdc36b3d33cac1578ecd760897d29356f"), looks := true }, kinds := [], alts := [], laidByText := true, laidKinds := [.data, .data, .data, .data, .pinned], laidTests := true, laidLooks := .later }
def StripeWorseUptoCardSaid : Prop := Claim7.holds Tryz.pinned (.plain (OpenSpec.upto stripeWorseSpec)) stripeWorseUptoCard

/-- THE SECOND FORM's CARD OF 'strongboxlaw09.StripeKept'. -/
def stripeKeptUptoCard : Claim7 := { stood := { row := stripeKeptUptoRow, standIns := [], harness := (true, "3e1932589fcbcfb0a52f1579b57471fcdc36b3d33cac1578ecd760897d29356f"), looks := true }, kinds := [], alts := [], laidByText := true, laidKinds := [.data, .data, .data, .data, .pinned], laidTests := true, laidLooks := .later }
def StripeKeptUptoCardSaid : Prop := Claim7.holds Tryz.pinned (.plain (OpenSpec.upto stripeKeptSpec)) stripeKeptUptoCard
end Rows
end Go.Proofs.YtnbkhdbligjifaaGreatDoor
