/-
  'PruneNames' returns true for every input, and each argument reads behind the call as it read before; the listed variables hold what the program's text lays.
-/
import Derived.Test.YtdbkadickikgjaaGreatDoorRows
import Derived.Test.YtdbkadickikgjaaGreatDoorCards
import Derived.Test.YtdbkadickikgjaaGreatDoorTie
import Derived.Lib.SmallJoins
import Derived.LaidMore
import Derived.ProofKit
import Derived.OpenShut
import Derived.ShutString
import Derived.Stop.LaidErr
import Derived.Lib.LaidTab
import Derived.Handed
import Derived.HandedShaped
import Derived.SevenTiedAt
import Derived.MakeChecks
import Derived.Carry
import Derived.Lay
import Derived.Test.YtdbkadickikgjaaGreatDoorPruneNamesLift
import Derived.Test.YtdbkadickikgjaaGreatDoorPruneNamesFacts
import Derived.Test.YtdbkadickikgjaaGreatDoorPruneNamesGoes
import Derived.Test.YtdbkadickikgjaaGreatDoorPruneNamesReach
import Derived.Test.YtdbkadickikgjaaGreatDoorPruneNamesNamed
namespace Go.Proofs.YtdbkadickikgjaaGreatDoor.pruneNames
open Go.ChangeShapes Go.WideShapes Go.ChangeAt Go.RowKit
set_option linter.unusedVariables false
set_option maxHeartbeats 40000000 in
theorem over : Rows.PruneNamesSaid :=
  OpenClaim.holds_of_wide 3 Tryz.f3 rfl rfl rfl rfl rfl rfl rfl ⟨rfl, rfl, rfl, rfl, rfl⟩ rfl rfl rfl rfl rfl fk Tryz.func3 (closed_of ja jb jc jd)
    (of_decide_eq_true (by as_aux_lemma => kernel_rfl)) (by unfold Func.isWrapper; rw [if_neg (by decide +kernel)]; exact ⟨rfl, rfl⟩)
    (fun os started H enc _ => lifted os started H enc)

set_option maxHeartbeats 40000000 in
/-- the statement: the tied card -/
theorem proved : Rows.PruneNamesCardSaid :=
  Claim7.holds_tied_plain_at .later [] [.data, .data, .data, .data, .data, .pinned] true (true, "dab7fe69823b5af4da27e440ad5e99804f004f7c960a9e590b85e53d1d8b9e76") true
    over (fun _ h => by cases h) fw (fun _ h => by cases h) pruneNames_row_tie rfl ⟨rfl, rfl⟩ fm rfl
    (fun f fn hf hfn => by
      obtain rfl : f = 3 := Option.some.inj ((show Tryz.prog.funcNamed "strongbox/strongboxlaw28.PruneNames" = some 3 from fk).symm.trans hf) |>.symm
      obtain rfl : fn = Tryz.f3 := (Option.some.inj (Tryz.func3.symm.trans hfn)).symm
      exact ⟨fl, fun j t ht => by
        rw [Tryz.params3] at ht
        simp at ht⟩)
    fg
#print axioms proved
end Go.Proofs.YtdbkadickikgjaaGreatDoor.pruneNames
