/-
  What the card tells about the text of the program.
-/
import Derived.Test.YtfkchheildfkpaaGreatDoorRows
import Derived.Test.YtfkchheildfkpaaGreatDoorCards
import Derived.Test.YtfkchheildfkpaaGreatDoorTie
import Derived.Lib.SmallJoins
import Derived.LaidMore
import Derived.ProofKit
import Derived.OpenShut
import Derived.ShutString
import Derived.Stop.LaidErr
import Derived.Lib.LaidTab
import Derived.Handed
import Derived.HandedShaped
import Derived.SevenTiedAt
import Derived.MakeChecks
import Derived.Carry
import Derived.Lay
namespace Go.Proofs.YtfkchheildfkpaaGreatDoor.vaultNames
open Go.ChangeShapes Go.WideShapes Go.ChangeAt Go.RowKit
set_option linter.unusedVariables false
set_option maxHeartbeats 40000000 in
theorem fk : Tryz.prog.funcNamed "strongbox/strongboxlaw31.VaultNames" = some 3 := by kernel_rfl
set_option maxHeartbeats 40000000 in
theorem fw : OpenClaim.wfByText (OpenSpec.ofChange Rows.vaultNamesSpec) Rows.vaultNamesRow = true := by kernel_rfl
set_option maxHeartbeats 40000000 in
theorem fm : Tryz.checked.prog.mainIs = some (true, ("c6888a79038a14107b6c0030a5a00f61f381c6ea26e751b4f339c838e946b4fd" : String).toList) := by kernel_rfl
set_option maxHeartbeats 40000000 in
theorem fl : true = Tryz.checked.prog.looks [] := by kernel_rfl
end Go.Proofs.YtfkchheildfkpaaGreatDoor.vaultNames
