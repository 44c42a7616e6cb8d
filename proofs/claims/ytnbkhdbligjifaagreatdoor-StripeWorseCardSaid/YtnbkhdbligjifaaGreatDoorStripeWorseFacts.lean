/-
  What the row tells about the text of the program, fact by fact.
-/
import Derived.Test.YtnbkhdbligjifaaGreatDoorRows
import Derived.Test.YtnbkhdbligjifaaGreatDoorCards
import Derived.Test.YtnbkhdbligjifaaGreatDoorTie
import Derived.Lib.SmallJoins
import Derived.LaidMore
import Derived.ProofKit
import Derived.OpenShut
import Derived.ShutString
import Derived.Stop.LaidErr
import Derived.Lib.LaidTab
import Derived.Handed
import Derived.HandedShaped
import Derived.SevenTiedAt
import Derived.MakeChecks
import Derived.Carry
import Derived.Lay
set_option linter.unusedVariables false
set_option linter.unusedSimpArgs false
namespace Go.Proofs.YtnbkhdbligjifaaGreatDoor.stripeWorse
open Go.ChangeShapes Go.WideShapes Go.ChangeAt Go.RowKit
set_option linter.unusedVariables false
set_option maxHeartbeats 40000000 in
theorem closed_of (ja : (Rows.stripeWorseRow.inPlace == Tryz.checked.prog.inPlace 8) = true) (jb : (Rows.stripeWorseRow.unfollowed == Tryz.checked.prog.unfollowed 8) = true) (jc : (Rows.stripeWorseRow.recurses == Tryz.checked.prog.recurses 8) = true) (jd : (Rows.stripeWorseRow.named == Tryz.checked.prog.varsNamed 8) = true) : joinedFacts Tryz.checked.prog 8 Tryz.f8 Rows.stripeWorseSpec Rows.stripeWorseRow = true := by
  unfold joinedFacts
  simp only [Bool.and_eq_true]
  repeat' apply And.intro
  all_goals first | with_reducible exact ja | with_reducible exact jb | with_reducible exact jc | with_reducible exact jd | (as_aux_lemma => kernel_rfl)
end Go.Proofs.YtnbkhdbligjifaaGreatDoor.stripeWorse
