/-
  'VaultNames' returns true for every input, and each argument reads behind the call as it read before; the listed variables hold what the program's text lays.
-/
import Derived.Test.YtfkchheildfkpaaGreatDoorRows
import Derived.Test.YtfkchheildfkpaaGreatDoorCards
import Derived.Test.YtfkchheildfkpaaGreatDoorTie
import Derived.Lib.SmallJoins
import Derived.LaidMore
import Derived.ProofKit
import Derived.OpenShut
import Derived.ShutString
import Derived.Stop.LaidErr
import Derived.Lib.LaidTab
import Derived.Handed
import Derived.HandedShaped
import Derived.SevenTiedAt
import Derived.MakeChecks
import Derived.Carry
import Derived.Lay
import Derived.Test.YtfkchheildfkpaaGreatDoorVaultNamesLift
import Derived.Test.YtfkchheildfkpaaGreatDoorVaultNamesFacts
import Derived.Test.YtfkchheildfkpaaGreatDoorVaultNamesTold
import Derived.Test.YtfkchheildfkpaaGreatDoorVaultNamesGoes
import Derived.Test.YtfkchheildfkpaaGreatDoorVaultNamesReach
import Derived.Test.YtfkchheildfkpaaGreatDoorVaultNamesNamed
namespace Go.Proofs.YtfkchheildfkpaaGreatDoor.vaultNames
open Go.ChangeShapes Go.WideShapes Go.ChangeAt Go.RowKit
set_option linter.unusedVariables false
set_option maxHeartbeats 40000000 in
theorem over : Rows.VaultNamesSaid :=
  OpenClaim.holds_of_wide 3 Tryz.f3 rfl rfl rfl rfl rfl rfl rfl ⟨rfl, rfl, rfl, rfl, rfl⟩ rfl rfl rfl rfl rfl fk Tryz.func3 (closed_of ja jb jc jd)
    (of_decide_eq_true (by as_aux_lemma => kernel_rfl)) (by unfold Func.isWrapper; rw [if_neg (by decide +kernel)]; exact ⟨rfl, rfl⟩)
    (fun os started H enc _ => lifted os started H enc)

set_option maxHeartbeats 40000000 in
/-- the statement: the tied card -/
theorem proved : Rows.VaultNamesCardSaid :=
  Claim7.holds_tied_plain_at .later [] [.data, .data, .data, .data, .data, .pinned] true (true, "c6888a79038a14107b6c0030a5a00f61f381c6ea26e751b4f339c838e946b4fd") true
    over (fun _ h => by cases h) fw (fun _ h => by cases h) vaultNames_row_tie rfl ⟨rfl, rfl⟩ fm rfl
    (fun f fn hf hfn => by
      obtain rfl : f = 3 := Option.some.inj ((show Tryz.prog.funcNamed "strongbox/strongboxlaw31.VaultNames" = some 3 from fk).symm.trans hf) |>.symm
      obtain rfl : fn = Tryz.f3 := (Option.some.inj (Tryz.func3.symm.trans hfn)).symm
      exact ⟨fl, fun j t ht => by
        rw [Tryz.params3] at ht
        simp at ht⟩)
    fg
#print axioms proved
end Go.Proofs.YtfkchheildfkpaaGreatDoor.vaultNames
