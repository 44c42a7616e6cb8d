/-
  What the row tells of what the call reaches, and of the variables.
-/
import Derived.Test.YtnbkhdbligjifaaGreatDoorRows
import Derived.Test.YtnbkhdbligjifaaGreatDoorCards
import Derived.Test.YtnbkhdbligjifaaGreatDoorTie
import Derived.Lib.SmallJoins
import Derived.LaidMore
import Derived.ProofKit
import Derived.OpenShut
import Derived.ShutString
import Derived.Stop.LaidErr
import Derived.Lib.LaidTab
import Derived.Handed
import Derived.HandedShaped
import Derived.SevenTiedAt
import Derived.MakeChecks
import Derived.Carry
import Derived.Lay
set_option linter.unusedVariables false
set_option linter.unusedSimpArgs false
namespace Go.Proofs.YtnbkhdbligjifaaGreatDoor.stripeTwo
open Go.ChangeShapes Go.WideShapes Go.ChangeAt Go.RowKit
set_option linter.unusedVariables false
set_option maxHeartbeats 40000000 in
theorem jc : (Rows.stripeTwoRow.recurses == Tryz.checked.prog.recurses 6) = true := by kernel_rfl
set_option maxHeartbeats 40000000 in
theorem jd : (Rows.stripeTwoRow.named == Tryz.checked.prog.varsNamed 6) = true := by kernel_rfl
end Go.Proofs.YtnbkhdbligjifaaGreatDoor.stripeTwo
