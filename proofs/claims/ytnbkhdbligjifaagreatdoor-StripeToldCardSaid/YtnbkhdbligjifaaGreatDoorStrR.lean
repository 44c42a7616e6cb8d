/-
 The law StripeTold.
-/
import Derived.Test.YtnbkhdbligjifaaGreatDoorStrQ
set_option linter.unusedVariables false
set_option linter.unusedSimpArgs false
namespace Go.Proofs.YtnbkhdbligjifaaGreatDoor
open Go Go.RowKit Vm
namespace Str
open Hlt
theorem told_true (K N : Int) (hK : Shd.I64 K) (hN : Shd.I64 N) (a : Int) (ha : Shd.I64 a) (s : ByteArray) (v : Value) (l : List Flt) (w : World) (hv : Shd.Vars w) (hG : 6 ≤ w.heap.size) (hl : FaultsAt w v l) :
 Calls Tryz.prog 7 #[.agg #[.int .i64 K, .int .i64 N], .int .i64 a, .string s, v] w (TrueP w) :=
 told_walk K N hK hN a ha s v l w hv (Nat.le_trans (of_decide_eq_true (by kernel_rfl)) hG) hl
end Str
end Go.Proofs.YtnbkhdbligjifaaGreatDoor
