/-
  What the card tells about the text of the program.
-/
import Derived.Test.YtnbkhdbligjifaaGreatDoorRows
import Derived.Test.YtnbkhdbligjifaaGreatDoorCards
import Derived.Test.YtnbkhdbligjifaaGreatDoorTie
import Derived.Lib.SmallJoins
import Derived.LaidMore
import Derived.ProofKit
import Derived.OpenShut
import Derived.ShutString
import Derived.Stop.LaidErr
import Derived.Lib.LaidTab
import Derived.Handed
import Derived.HandedShaped
import Derived.SevenTiedAt
import Derived.MakeChecks
import Derived.Carry
import Derived.Lay
set_option linter.unusedVariables false
set_option linter.unusedSimpArgs false
namespace Go.Proofs.YtnbkhdbligjifaaGreatDoor.stripeTwo
open Go.ChangeShapes Go.WideShapes Go.ChangeAt Go.RowKit
set_option linter.unusedVariables false
set_option maxHeartbeats 40000000 in
theorem fk : Tryz.prog.funcNamed "strongbox/strongboxlaw09.StripeTwo" = some 6 := by kernel_rfl
set_option maxHeartbeats 40000000 in
theorem fw : OpenClaim.wfByText (OpenSpec.ofChange Rows.stripeTwoSpec) Rows.stripeTwoRow = true := by kernel_rfl
set_option maxHeartbeats 40000000 in
theorem fm : Tryz.checked.prog.mainIs = some (true, ("3e1932589fcbcfb0a52f1579b57471fcdc36b3d33cac1578ecd760897d29356f" : String).toList) := by kernel_rfl
set_option maxHeartbeats 40000000 in
theorem fl : true = Tryz.checked.prog.looks [] := by kernel_rfl
end Go.Proofs.YtnbkhdbligjifaaGreatDoor.stripeTwo
