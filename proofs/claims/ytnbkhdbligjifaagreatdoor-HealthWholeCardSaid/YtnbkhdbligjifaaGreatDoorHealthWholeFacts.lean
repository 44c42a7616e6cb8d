/-
 What the row tells about the text of the program, fact by fact.
-/
import Derived.Test.YtnbkhdbligjifaaGreatDoorRows
import Derived.Test.YtnbkhdbligjifaaGreatDoorCards
import Derived.Test.YtnbkhdbligjifaaGreatDoorTie
import Derived.Lib.SmallJoins
import Derived.LaidMore
import Derived.ProofKit
import Derived.OpenShut
import Derived.ShutString
import Derived.Stop.LaidErr
import Derived.Lib.LaidTab
import Derived.Handed
import Derived.HandedShaped
import Derived.SevenTiedAt
import Derived.MakeChecks
import Derived.Carry
import Derived.Lay
set_option linter.unusedVariables false
set_option linter.unusedSimpArgs false
set_option maxHeartbeats 40000000
namespace Go.Proofs.YtnbkhdbligjifaaGreatDoor.healthWhole
open Go.ChangeShapes Go.WideShapes Go.ChangeAt Go.RowKit
theorem closed_of (ja : (Rows.healthWholeRow.inPlace == Tryz.checked.prog.inPlace 5) = true) (jb : (Rows.healthWholeRow.unfollowed == Tryz.checked.prog.unfollowed 5) = true) (jc : (Rows.healthWholeRow.recurses == Tryz.checked.prog.recurses 5) = true) (jd : (Rows.healthWholeRow.named == Tryz.checked.prog.varsNamed 5) = true) : joinedFacts Tryz.checked.prog 5 Tryz.f5 Rows.healthWholeSpec Rows.healthWholeRow = true := by
 unfold joinedFacts
 simp only [Bool.and_eq_true]
 repeat' apply And.intro
 all_goals first | with_reducible exact ja | with_reducible exact jb | with_reducible exact jc | with_reducible exact jd | (as_aux_lemma => kernel_rfl)
end Go.Proofs.YtnbkhdbligjifaaGreatDoor.healthWhole
