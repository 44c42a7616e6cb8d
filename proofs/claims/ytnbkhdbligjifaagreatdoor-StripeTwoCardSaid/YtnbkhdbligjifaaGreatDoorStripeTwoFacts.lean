/-
  What the row tells about the text of the program, fact by fact.
-/
import Derived.Test.YtnbkhdbligjifaaGreatDoorRows
import Derived.Test.YtnbkhdbligjifaaGreatDoorCards
import Derived.Test.YtnbkhdbligjifaaGreatDoorTie
import Derived.Lib.SmallJoins
import Derived.LaidMore
import Derived.ProofKit
import Derived.OpenShut
import Derived.ShutString
import Derived.Stop.LaidErr
import Derived.Lib.LaidTab
import Derived.Handed
import Derived.HandedShaped
import Derived.SevenTiedAt
import Derived.MakeChecks
import Derived.Carry
import Derived.Lay
set_option linter.unusedVariables false
set_option linter.unusedSimpArgs false
namespace Go.Proofs.YtnbkhdbligjifaaGreatDoor.stripeTwo
open Go.ChangeShapes Go.WideShapes Go.ChangeAt Go.RowKit
set_option linter.unusedVariables false
set_option maxHeartbeats 40000000 in
theorem closed_of (ja : (Rows.stripeTwoRow.inPlace == Tryz.checked.prog.inPlace 6) = true) (jb : (Rows.stripeTwoRow.unfollowed == Tryz.checked.prog.unfollowed 6) = true) (jc : (Rows.stripeTwoRow.recurses == Tryz.checked.prog.recurses 6) = true) (jd : (Rows.stripeTwoRow.named == Tryz.checked.prog.varsNamed 6) = true) : joinedFacts Tryz.checked.prog 6 Tryz.f6 Rows.stripeTwoSpec Rows.stripeTwoRow = true := by
  unfold joinedFacts
  simp only [Bool.and_eq_true]
  repeat' apply And.intro
  all_goals first | with_reducible exact ja | with_reducible exact jb | with_reducible exact jc | with_reducible exact jd | (as_aux_lemma => kernel_rfl)
end Go.Proofs.YtnbkhdbligjifaaGreatDoor.stripeTwo
