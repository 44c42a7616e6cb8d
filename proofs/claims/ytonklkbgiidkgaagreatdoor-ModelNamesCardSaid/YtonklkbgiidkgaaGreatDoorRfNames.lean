/-
 The first state with a variable in it that holds texts: quorum.names.
-/
import Derived.Test.YtonklkbgiidkgaaGreatDoorRfKeys
import Derived.Lib.LaidTab
import Derived.Stop.LaidErr
namespace Go.Proofs.YtonklkbgiidkgaaGreatDoor.Refl
open Go Go.RowKit
namespace Abs
set_option linter.unusedVariables false
noncomputable def namesHeap : T ABlock := T.put (.cells (putCells .leaf 0 [.str 2 27952, .str 2 27953]) undefA 2 false 255) 40 .leaf 0
end Abs
end Go.Proofs.YtonklkbgiidkgaaGreatDoor.Refl
