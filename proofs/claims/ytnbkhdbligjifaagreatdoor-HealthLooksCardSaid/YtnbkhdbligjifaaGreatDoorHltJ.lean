/-
 The law HealthLooks tells true, whatever it is handed.
-/
import Derived.Test.YtnbkhdbligjifaaGreatDoorHltI
set_option linter.unusedVariables false
set_option linter.unusedSimpArgs false
namespace Go.Proofs.YtnbkhdbligjifaaGreatDoor
open Go Go.RowKit Vm
namespace Hlt
theorem looks_true (a : Int) (ha : Shd.I64 a) (s : ByteArray) (v : Value) (l : List Flt) (W : World) (hv : Shd.Vars W) (hG : 6 ≤ W.heap.size) (hl : FaultsAt W v l) :
   Calls Tryz.prog 4 #[.int .i64 a, .string s, v] W fun e w' => e = .returned (.bool true) ∧ Below W.heap.size W w' :=
 looks_walk (G := 6) (of_decide_eq_true (by kernel_rfl)) (fun w _ => Fld.new_any w) (fun w hv hg => awake_true w hv (Nat.le_trans (of_decide_eq_true (by kernel_rfl)) hg)) a s v l W hl hv hG
end Hlt
end Go.Proofs.YtnbkhdbligjifaaGreatDoor
