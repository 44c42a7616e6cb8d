/-
  What the card tells about the text of the program.
-/
import Derived.Test.YtigflgfakoljpaaGreatDoorRows
import Derived.Test.YtigflgfakoljpaaGreatDoorCards
import Derived.Test.YtigflgfakoljpaaGreatDoorTie
import Derived.Lib.SmallJoins
import Derived.LaidMore
import Derived.ProofKit
import Derived.OpenShut
import Derived.ShutString
import Derived.Stop.LaidErr
import Derived.Lib.LaidTab
import Derived.Handed
import Derived.HandedShaped
import Derived.SevenTiedAt
import Derived.MakeChecks
import Derived.Carry
import Derived.Lay
namespace Go.Proofs.YtigflgfakoljpaaGreatDoor.checkNames
open Go.ChangeShapes Go.WideShapes Go.ChangeAt Go.RowKit
set_option linter.unusedVariables false
set_option maxHeartbeats 40000000 in
theorem fk : Tryz.prog.funcNamed "strongbox/strongboxlaw29.CheckNames" = some 3 := by kernel_rfl
set_option maxHeartbeats 40000000 in
theorem fw : OpenClaim.wfByText (OpenSpec.ofChange Rows.checkNamesSpec) Rows.checkNamesRow = true := by kernel_rfl
set_option maxHeartbeats 40000000 in
theorem fm : Tryz.checked.prog.mainIs = some (true, ("0c492a687e18edc7a5667f4b6938b3558956520b43c3800d882ace34351a3439" : String).toList) := by kernel_rfl
set_option maxHeartbeats 40000000 in
theorem fl : true = Tryz.checked.prog.looks [] := by kernel_rfl
set_option maxHeartbeats 40000000 in
theorem fg : false = OpenClaim.goesBy Rows.checkNamesRow Tryz.checked.prog := by kernel_rfl
end Go.Proofs.YtigflgfakoljpaaGreatDoor.checkNames
