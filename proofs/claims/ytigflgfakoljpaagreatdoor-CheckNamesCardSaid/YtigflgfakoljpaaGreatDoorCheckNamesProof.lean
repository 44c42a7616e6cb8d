/-
  'CheckNames' returns true for every input, and each argument reads behind the call as it read before; the listed variables hold what the program's text lays.
-/
import Derived.Test.YtigflgfakoljpaaGreatDoorRows
import Derived.Test.YtigflgfakoljpaaGreatDoorCards
import Derived.Test.YtigflgfakoljpaaGreatDoorTie
import Derived.Lib.SmallJoins
import Derived.LaidMore
import Derived.ProofKit
import Derived.OpenShut
import Derived.ShutString
import Derived.Stop.LaidErr
import Derived.Lib.LaidTab
import Derived.Handed
import Derived.HandedShaped
import Derived.SevenTiedAt
import Derived.MakeChecks
import Derived.Carry
import Derived.Lay
import Derived.Test.YtigflgfakoljpaaGreatDoorCheckNamesLift
import Derived.Test.YtigflgfakoljpaaGreatDoorCheckNamesFacts
import Derived.Test.YtigflgfakoljpaaGreatDoorCheckNamesTold
import Derived.Test.YtigflgfakoljpaaGreatDoorCheckNamesReach
import Derived.Test.YtigflgfakoljpaaGreatDoorCheckNamesNamed
namespace Go.Proofs.YtigflgfakoljpaaGreatDoor.checkNames
open Go.ChangeShapes Go.WideShapes Go.ChangeAt Go.RowKit
set_option linter.unusedVariables false
set_option maxHeartbeats 40000000 in
theorem over : Rows.CheckNamesSaid :=
  OpenClaim.holds_of_wide 3 Tryz.f3 rfl rfl rfl rfl rfl rfl rfl ⟨rfl, rfl, rfl, rfl, rfl⟩ rfl rfl rfl rfl rfl fk Tryz.func3 (closed_of ja jb jc jd)
    (of_decide_eq_true (by as_aux_lemma => kernel_rfl)) (by unfold Func.isWrapper; rw [if_neg (by decide +kernel)]; exact ⟨rfl, rfl⟩)
    (fun os started H enc _ => lifted os started H enc)

set_option maxHeartbeats 40000000 in
/-- the statement: the tied card -/
theorem proved : Rows.CheckNamesCardSaid :=
  Claim7.holds_tied_plain_at .later [] [.data, .data, .data, .data, .data, .pinned] true (true, "0c492a687e18edc7a5667f4b6938b3558956520b43c3800d882ace34351a3439") true
    over (fun _ h => by cases h) fw (fun _ h => by cases h) checkNames_row_tie rfl ⟨rfl, rfl⟩ fm rfl
    (fun f fn hf hfn => by
      obtain rfl : f = 3 := Option.some.inj ((show Tryz.prog.funcNamed "strongbox/strongboxlaw29.CheckNames" = some 3 from fk).symm.trans hf) |>.symm
      obtain rfl : fn = Tryz.f3 := (Option.some.inj (Tryz.func3.symm.trans hfn)).symm
      exact ⟨fl, fun j t ht => by
        rw [Tryz.params3] at ht
        simp at ht⟩)
    fg
#print axioms proved
end Go.Proofs.YtigflgfakoljpaaGreatDoor.checkNames
