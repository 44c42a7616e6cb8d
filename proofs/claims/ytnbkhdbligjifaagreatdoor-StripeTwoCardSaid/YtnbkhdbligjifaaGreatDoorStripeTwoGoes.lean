/-
  What the card tells about how the program goes.
-/
import Derived.Test.YtnbkhdbligjifaaGreatDoorRows
import Derived.Test.YtnbkhdbligjifaaGreatDoorCards
import Derived.Test.YtnbkhdbligjifaaGreatDoorTie
import Derived.Lib.SmallJoins
import Derived.LaidMore
import Derived.ProofKit
import Derived.OpenShut
import Derived.ShutString
import Derived.Stop.LaidErr
import Derived.Lib.LaidTab
import Derived.Handed
import Derived.HandedShaped
import Derived.SevenTiedAt
import Derived.MakeChecks
import Derived.Carry
import Derived.Lay
set_option linter.unusedVariables false
set_option linter.unusedSimpArgs false
namespace Go.Proofs.YtnbkhdbligjifaaGreatDoor.stripeTwo
open Go.ChangeShapes Go.WideShapes Go.ChangeAt Go.RowKit
set_option linter.unusedVariables false
theorem goes_none {P : Program} (h : P.funcs.toList.any Func.goes = false) (f : FuncId) : P.goes f = false := by
  have hall : ∀ (g : Nat) (fn : Func), P.funcs[g]? = some fn → fn.goes = false := fun g fn hg => by
    have hm : fn ∈ P.funcs.toList := by
      have := Array.mem_of_getElem? hg
      simpa using this
    rw [List.any_eq_false] at h
    simpa using h fn hm
  unfold Program.goes
  have h1 : ((P.closure f).any fun g => (P.funcs[g]?).any Func.goes) = false := by
    rw [List.any_eq_false]
    intro g _
    cases hg : P.funcs[g]? with
    | none => simp
    | some fn => simp [hall g fn hg]
  have h2 : P.funcs.any Func.goes = false := by
    rw [← Array.any_toList]; exact h
  rw [h1, h2]
  simp
theorem goesBy_none {P : Program} (c : OpenClaim) (h : P.funcs.toList.any Func.goes = false) : false = c.goesBy P := by
  have hg := goes_none h
  unfold OpenClaim.goesBy Program.goesAt Program.goesFrom
  have h1 : (P.funcNamed c.func).any P.goes = false := by
    cases P.funcNamed c.func with
    | none => rfl
    | some f => simp [hg f]
  have h2 : P.inits.toList.any P.goes = false := by
    rw [List.any_eq_false]
    intro g _
    simp [hg g]
  rw [h1, h2]
  cases c.start <;> rfl
set_option maxHeartbeats 40000000 in
theorem fg : false = OpenClaim.goesBy Rows.stripeTwoRow Tryz.checked.prog := goesBy_none _ (by kernel_rfl)
end Go.Proofs.YtnbkhdbligjifaaGreatDoor.stripeTwo
