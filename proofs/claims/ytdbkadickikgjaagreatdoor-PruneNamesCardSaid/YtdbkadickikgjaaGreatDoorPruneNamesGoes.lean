/-
 What the card tells about the text of the program. What the card tells about the text of the program.
-/
import Derived.Test.YtdbkadickikgjaaGreatDoorRows
import Derived.Test.YtdbkadickikgjaaGreatDoorCards
import Derived.Test.YtdbkadickikgjaaGreatDoorTie
import Derived.Lib.SmallJoins
import Derived.LaidMore
import Derived.ProofKit
import Derived.OpenShut
import Derived.ShutString
import Derived.Stop.LaidErr
import Derived.Lib.LaidTab
import Derived.Handed
import Derived.HandedShaped
import Derived.SevenTiedAt
import Derived.MakeChecks
import Derived.Carry
import Derived.Lay
namespace Go.Proofs.YtdbkadickikgjaaGreatDoor.pruneNames
open Go.ChangeShapes Go.WideShapes Go.ChangeAt Go.RowKit
set_option linter.unusedVariables false
set_option maxHeartbeats 40000000 in
theorem fk : Tryz.prog.funcNamed "strongbox/strongboxlaw28.PruneNames" = some 3 := by kernel_rfl
set_option maxHeartbeats 40000000 in
theorem fw : OpenClaim.wfByText (OpenSpec.ofChange Rows.pruneNamesSpec) Rows.pruneNamesRow = true := by kernel_rfl
set_option maxHeartbeats 40000000 in
theorem fm : Tryz.checked.prog.mainIs = some (true, ("dab7fe69823b5af4da27e440ad5e99804f004f7c960a9e590b85e53d1d8b9e76" : String).toList) := by kernel_rfl
set_option maxHeartbeats 40000000 in
theorem fl : true = Tryz.checked.prog.looks [] := by kernel_rfl
end Go.Proofs.YtdbkadickikgjaaGreatDoor.pruneNames
namespace Go.Proofs.YtdbkadickikgjaaGreatDoor.pruneNames
open Go.ChangeShapes Go.WideShapes Go.ChangeAt Go.RowKit
set_option linter.unusedVariables false
theorem goes_none {P : Program} (h : P.funcs.toList.any Func.goes = false) (f : FuncId) : P.goes f = false := by
  have hall : ∀ (g : Nat) (fn : Func), P.funcs[g]? = some fn → fn.goes = false := fun g fn hg => by
    have hm : fn ∈ P.funcs.toList := by
      have := Array.mem_of_getElem? hg
      simpa using this
    rw [List.any_eq_false] at h
    simpa using h fn hm
  unfold Program.goes
  have h1 : ((P.closure f).any fun g => (P.funcs[g]?).any Func.goes) = false := by
    rw [List.any_eq_false]
    intro g _
    cases hg : P.funcs[g]? with
    | none => simp
    | some fn => simp [hall g fn hg]
  have h2 : P.funcs.any Func.goes = false := by
    rw [← Array.any_toList]; exact h
  rw [h1, h2]
  simp
theorem goesBy_none {P : Program} (c : OpenClaim) (h : P.funcs.toList.any Func.goes = false) : false = c.goesBy P := by
  have hg := goes_none h
  unfold OpenClaim.goesBy Program.goesAt Program.goesFrom
  have h1 : (P.funcNamed c.func).any P.goes = false := by
    cases P.funcNamed c.func with
    | none => rfl
    | some f => simp [hg f]
  have h2 : P.inits.toList.any P.goes = false := by
    rw [List.any_eq_false]
    intro g _
    simp [hg g]
  rw [h1, h2]
  cases c.start <;> rfl
set_option maxHeartbeats 40000000 in
theorem fg : false = OpenClaim.goesBy Rows.pruneNamesRow Tryz.checked.prog := goesBy_none _ (by kernel_rfl)
end Go.Proofs.YtdbkadickikgjaaGreatDoor.pruneNames
