/-
 The law HealthAlone tells true, whatever it is handed.
-/
import Derived.Test.YtnbkhdbligjifaaGreatDoorHltT
set_option linter.unusedVariables false
set_option linter.unusedSimpArgs false
namespace Go.Proofs.YtnbkhdbligjifaaGreatDoor
open Go Go.RowKit Vm
namespace Hlt
theorem alone_true (s1 s2 : ByteArray) (v : Value) (l : List Flt) (W : World) (hv : Shd.Vars W) (hG : 6 ≤ W.heap.size) (hl : FaultsAt W v l) :
   Calls Tryz.prog 3 #[.string s1, .string s2, v] W fun e w' => e = .returned (.bool true) ∧ Below W.heap.size W w' :=
 alone_walk s1 s2 v l W hl hv (Nat.le_trans (of_decide_eq_true (by kernel_rfl)) hG)
end Hlt
end Go.Proofs.YtnbkhdbligjifaaGreatDoor
