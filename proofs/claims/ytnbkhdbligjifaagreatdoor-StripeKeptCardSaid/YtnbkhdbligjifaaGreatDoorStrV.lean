/-
 The law StripeKept.
-/
import Derived.Test.YtnbkhdbligjifaaGreatDoorStrT
set_option linter.unusedVariables false
set_option linter.unusedSimpArgs false
namespace Go.Proofs.YtnbkhdbligjifaaGreatDoor
open Go Go.RowKit Vm
namespace Str
open Hlt
theorem kept_true (K N : Int) (hK : Shd.I64 K) (hN : Shd.I64 N) (s : ByteArray) (v : Value) (l : List Flt) (vs : Value) (ls : List (List Int)) (first : Bool) (w : World) (hv : Shd.Vars w) (hG : 6 ≤ w.heap.size) (hl : FaultsAt w v l)
 (hsv : SurvAt [] w vs ls ∧ ∀ ks ∈ ls, ks.length ≤ 9223372036854775807 ∧ ∀ x ∈ ks, -9223372036854775808 ≤ x ∧ x ≤ 9223372036854775807) :
 Calls Tryz.prog 9 #[.agg #[.int .i64 K, .int .i64 N], .string s, v, vs, .bool first] w (TrueP w) :=
 kept_walk K N hK hN s v l vs ls first w hv (Nat.le_trans (of_decide_eq_true (by kernel_rfl)) hG) hl hsv
end Str
end Go.Proofs.YtnbkhdbligjifaaGreatDoor
