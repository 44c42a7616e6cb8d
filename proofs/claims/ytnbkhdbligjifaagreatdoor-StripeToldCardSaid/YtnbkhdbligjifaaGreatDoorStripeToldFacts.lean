/-
 What the row tells about the text of the program, fact by fact.
-/
import Derived.Test.YtnbkhdbligjifaaGreatDoorRows
import Derived.Test.YtnbkhdbligjifaaGreatDoorCards
import Derived.Test.YtnbkhdbligjifaaGreatDoorTie
import Derived.Lib.SmallJoins
import Derived.LaidMore
import Derived.ProofKit
import Derived.OpenShut
import Derived.ShutString
import Derived.Stop.LaidErr
import Derived.Lib.LaidTab
import Derived.Handed
import Derived.HandedShaped
import Derived.SevenTiedAt
import Derived.MakeChecks
import Derived.Carry
import Derived.Lay
set_option linter.unusedVariables false
set_option linter.unusedSimpArgs false
set_option maxHeartbeats 40000000
namespace Go.Proofs.YtnbkhdbligjifaaGreatDoor.stripeTold
open Go.ChangeShapes Go.WideShapes Go.ChangeAt Go.RowKit
theorem closed_of (ja : (Rows.stripeToldRow.inPlace == Tryz.checked.prog.inPlace 7) = true) (jb : (Rows.stripeToldRow.unfollowed == Tryz.checked.prog.unfollowed 7) = true) (jc : (Rows.stripeToldRow.recurses == Tryz.checked.prog.recurses 7) = true) (jd : (Rows.stripeToldRow.named == Tryz.checked.prog.varsNamed 7) = true) : joinedFacts Tryz.checked.prog 7 Tryz.f7 Rows.stripeToldSpec Rows.stripeToldRow = true := by
 unfold joinedFacts
 simp only [Bool.and_eq_true]
 repeat' apply And.intro
 all_goals first | with_reducible exact ja | with_reducible exact jb | with_reducible exact jc | with_reducible exact jd | (as_aux_lemma => kernel_rfl)
end Go.Proofs.YtnbkhdbligjifaaGreatDoor.stripeTold
