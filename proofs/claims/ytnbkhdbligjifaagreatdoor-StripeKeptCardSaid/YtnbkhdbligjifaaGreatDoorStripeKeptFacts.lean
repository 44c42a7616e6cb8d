/-
 What the row tells about the text of the program, fact by fact.
-/
import Derived.Test.YtnbkhdbligjifaaGreatDoorRows
import Derived.Test.YtnbkhdbligjifaaGreatDoorCards
import Derived.Test.YtnbkhdbligjifaaGreatDoorTie
import Derived.Lib.SmallJoins
import Derived.LaidMore
import Derived.ProofKit
import Derived.OpenShut
import Derived.ShutString
import Derived.Stop.LaidErr
import Derived.Lib.LaidTab
import Derived.Handed
import Derived.HandedShaped
import Derived.SevenTiedAt
import Derived.MakeChecks
import Derived.Carry
import Derived.Lay
set_option linter.unusedVariables false
set_option linter.unusedSimpArgs false
set_option maxHeartbeats 40000000
namespace Go.Proofs.YtnbkhdbligjifaaGreatDoor.stripeKept
open Go.ChangeShapes Go.WideShapes Go.ChangeAt Go.RowKit
theorem closed_of (ja : (Rows.stripeKeptRow.inPlace == Tryz.checked.prog.inPlace 9) = true) (jb : (Rows.stripeKeptRow.unfollowed == Tryz.checked.prog.unfollowed 9) = true) (jc : (Rows.stripeKeptRow.recurses == Tryz.checked.prog.recurses 9) = true) (jd : (Rows.stripeKeptRow.named == Tryz.checked.prog.varsNamed 9) = true) : joinedFacts Tryz.checked.prog 9 Tryz.f9 Rows.stripeKeptSpec Rows.stripeKeptRow = true := by
 unfold joinedFacts
 simp only [Bool.and_eq_true]
 repeat' apply And.intro
 all_goals first | with_reducible exact ja | with_reducible exact jb | with_reducible exact jc | with_reducible exact jd | (as_aux_lemma => kernel_rfl)
end Go.Proofs.YtnbkhdbligjifaaGreatDoor.stripeKept
