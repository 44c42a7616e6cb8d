/-
  What the row tells of what the call reaches.
-/
import Derived.Test.YtonklkbgiidkgaaGreatDoorRows
import Derived.Test.YtonklkbgiidkgaaGreatDoorCards
import Derived.Test.YtonklkbgiidkgaaGreatDoorTie
import Derived.Lib.SmallJoins
import Derived.LaidMore
import Derived.ProofKit
import Derived.OpenShut
import Derived.ShutString
import Derived.Stop.LaidErr
import Derived.Lib.LaidTab
import Derived.Handed
import Derived.HandedShaped
import Derived.SevenTiedAt
import Derived.MakeChecks
import Derived.Carry
import Derived.Lay
namespace Go.Proofs.YtonklkbgiidkgaaGreatDoor.modelNames
open Go.ChangeShapes Go.WideShapes Go.ChangeAt Go.RowKit
set_option linter.unusedVariables false
set_option maxHeartbeats 40000000 in
theorem ja : (Rows.modelNamesRow.inPlace == Tryz.checked.prog.inPlace 3) = true := by kernel_rfl
set_option maxHeartbeats 40000000 in
theorem jb : (Rows.modelNamesRow.unfollowed == Tryz.checked.prog.unfollowed 3) = true := by kernel_rfl
end Go.Proofs.YtonklkbgiidkgaaGreatDoor.modelNames
