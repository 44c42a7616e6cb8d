/-
  'ModelNames' returns true for every input, and each argument reads behind the call as it read before; the listed variables hold what the program's text lays.
-/
import Derived.Test.YtonklkbgiidkgaaGreatDoorRows
import Derived.Test.YtonklkbgiidkgaaGreatDoorCards
import Derived.Test.YtonklkbgiidkgaaGreatDoorTie
import Derived.Lib.SmallJoins
import Derived.LaidMore
import Derived.ProofKit
import Derived.OpenShut
import Derived.ShutString
import Derived.Stop.LaidErr
import Derived.Lib.LaidTab
import Derived.Handed
import Derived.HandedShaped
import Derived.SevenTiedAt
import Derived.MakeChecks
import Derived.Carry
import Derived.Lay
import Derived.Test.YtonklkbgiidkgaaGreatDoorModelNamesLift
import Derived.Test.YtonklkbgiidkgaaGreatDoorModelNamesFacts
import Derived.Test.YtonklkbgiidkgaaGreatDoorModelNamesTold
import Derived.Test.YtonklkbgiidkgaaGreatDoorModelNamesGoes
import Derived.Test.YtonklkbgiidkgaaGreatDoorModelNamesReach
import Derived.Test.YtonklkbgiidkgaaGreatDoorModelNamesNamed
namespace Go.Proofs.YtonklkbgiidkgaaGreatDoor.modelNames
open Go.ChangeShapes Go.WideShapes Go.ChangeAt Go.RowKit
set_option linter.unusedVariables false
set_option maxHeartbeats 40000000 in
theorem over : Rows.ModelNamesSaid :=
  OpenClaim.holds_of_wide 3 Tryz.f3 rfl rfl rfl rfl rfl rfl rfl ⟨rfl, rfl, rfl, rfl, rfl⟩ rfl rfl rfl rfl rfl fk Tryz.func3 (closed_of ja jb jc jd)
    (of_decide_eq_true (by as_aux_lemma => kernel_rfl)) (by unfold Func.isWrapper; rw [if_neg (by decide +kernel)]; exact ⟨rfl, rfl⟩)
    (fun os started H enc _ => lifted os started H enc)

set_option maxHeartbeats 40000000 in
/-- the statement: the tied card -/
theorem proved : Rows.ModelNamesCardSaid :=
  Claim7.holds_tied_plain_at .later [] [.data, .data, .data, .data, .data, .pinned] true (true, "562b35a9ba233b188da70e53e9f4343ad974f2b85052f832a27f15c97c05269a") true
    over (fun _ h => by cases h) fw (fun _ h => by cases h) modelNames_row_tie rfl ⟨rfl, rfl⟩ fm rfl
    (fun f fn hf hfn => by
      obtain rfl : f = 3 := Option.some.inj ((show Tryz.prog.funcNamed "strongbox/strongboxlaw32.ModelNames" = some 3 from fk).symm.trans hf) |>.symm
      obtain rfl : fn = Tryz.f3 := (Option.some.inj (Tryz.func3.symm.trans hfn)).symm
      exact ⟨fl, fun j t ht => by
        rw [Tryz.params3] at ht
        simp at ht⟩)
    fg
#print axioms proved
end Go.Proofs.YtonklkbgiidkgaaGreatDoor.modelNames
