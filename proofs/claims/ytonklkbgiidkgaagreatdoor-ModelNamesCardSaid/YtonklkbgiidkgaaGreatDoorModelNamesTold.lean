/-
  What the card tells about the text of the program.
-/
import Derived.Test.YtonklkbgiidkgaaGreatDoorRows
import Derived.Test.YtonklkbgiidkgaaGreatDoorCards
import Derived.Test.YtonklkbgiidkgaaGreatDoorTie
import Derived.Lib.SmallJoins
import Derived.LaidMore
import Derived.ProofKit
import Derived.OpenShut
import Derived.ShutString
import Derived.Stop.LaidErr
import Derived.Lib.LaidTab
import Derived.Handed
import Derived.HandedShaped
import Derived.SevenTiedAt
import Derived.MakeChecks
import Derived.Carry
import Derived.Lay
namespace Go.Proofs.YtonklkbgiidkgaaGreatDoor.modelNames
open Go.ChangeShapes Go.WideShapes Go.ChangeAt Go.RowKit
set_option linter.unusedVariables false
set_option maxHeartbeats 40000000 in
theorem fk : Tryz.prog.funcNamed "strongbox/strongboxlaw32.ModelNames" = some 3 := by kernel_rfl
set_option maxHeartbeats 40000000 in
theorem fw : OpenClaim.wfByText (OpenSpec.ofChange Rows.modelNamesSpec) Rows.modelNamesRow = true := by kernel_rfl
set_option maxHeartbeats 40000000 in
theorem fm : Tryz.checked.prog.mainIs = some (true, ("562b35a9ba233b188da70e53e9f4343ad974f2b85052f832a27f15c97c05269a" : String).toList) := by kernel_rfl
set_option maxHeartbeats 40000000 in
theorem fl : true = Tryz.checked.prog.looks [] := by kernel_rfl
end Go.Proofs.YtonklkbgiidkgaaGreatDoor.modelNames
