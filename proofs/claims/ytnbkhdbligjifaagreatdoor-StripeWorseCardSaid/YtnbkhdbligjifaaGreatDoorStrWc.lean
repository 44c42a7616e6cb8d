/-
  The law StripeWorse.
-/
import Derived.Test.YtnbkhdbligjifaaGreatDoorStrWb
set_option linter.unusedVariables false
set_option linter.unusedSimpArgs false
namespace Go.Proofs.YtnbkhdbligjifaaGreatDoor
open Go Go.RowKit Vm
namespace Str
open Hlt
theorem worse_true (K N : Int) (hK : Shd.I64 K) (hN : Shd.I64 N) (s : ByteArray) (v : Value) (lose : List Bool) (a : Int) (ha : Shd.I64 a) (vs : Value) (ls : List (List Int)) (w : World) (hv : Shd.Vars w) (hG : 6 ≤ w.heap.size) (hl : BoolsAt w v lose)
    (hsv : SurvAt [] w vs ls ∧ ∀ ks ∈ ls, ks.length ≤ 9223372036854775807 ∧ ∀ x ∈ ks, -9223372036854775808 ≤ x ∧ x ≤ 9223372036854775807) :
    Calls Tryz.prog 8 #[.agg #[.int .i64 K, .int .i64 N], .string s, v, .int .i64 a, vs] w (TrueP w) :=
  worse_walk K N hK hN s v lose a ha vs ls w hv (Nat.le_trans (of_decide_eq_true (by kernel_rfl)) hG) hl hsv
end Str
end Go.Proofs.YtnbkhdbligjifaaGreatDoor
