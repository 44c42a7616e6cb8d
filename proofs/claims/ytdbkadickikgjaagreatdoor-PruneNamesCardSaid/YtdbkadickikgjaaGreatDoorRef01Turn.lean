/-
 The walks of the document's package strongboxref01: turn.
-/
import Derived.Test.YtdbkadickikgjaaGreatDoorRef01Roots
namespace Go.Proofs.YtdbkadickikgjaaGreatDoor
open Go.RowKit
namespace R1
open Sha
theorem or_comm (x y : Nat) (hx : x < 4294967296) (hy : y < 4294967296) : bits .or .u32 (x : Int) (y : Int) = bits .or .u32 (y : Int) (x : Int) := by
 rw [u32_or_nat _ _ hx hy, u32_or_nat _ _ hy hx, Nat.or_comm]
theorem rotr_flip (x : Int) (k : Nat) (h0 : 0 ≤ x) (h1 : x < 4294967296) : bits .or .u32 (x / 2 ^ k) (x * 2 ^ (32 - k) % 4294967296) = rotr x k := by
 obtain ⟨X, rfl⟩ := Int.eq_ofNat_of_zero_le h0
 have e1 : (X : Int) / 2 ^ k = ((X / 2 ^ k : Nat) : Int) := by rw [Int.natCast_ediv, Int.natCast_pow]; rfl
 have e2 : (X : Int) * 2 ^ (32 - k) % 4294967296 = ((X * 2 ^ (32 - k) % 4294967296 : Nat) : Int) := by rw [Int.natCast_emod, Int.natCast_mul, Int.natCast_pow]; rfl
 unfold rotr
 rw [e1, e2]
 exact or_comm _ _ (Nat.lt_of_le_of_lt (Nat.div_le_self _ _) (by omega)) (Nat.mod_lt _ (by omega))
theorem turn_any (x : Int) (k : Nat) (K : Int) (hK : K = (k : Int)) (h0 : 0 ≤ x) (h1 : x < 4294967296) (hn : 1 ≤ k) (hn' : k ≤ 31) (w : World) :
   Calls Tryz.prog 320 #[.int .u32 x, .int .u32 K] w fun e w' => e = .returned (.int .u32 (rotr x k)) ∧ w' = w := by
 subst hK
 have h2 : IntKind.u32.wrap (32 - (k : Int)) = 32 - (k : Int) := by rw [IntKind.wrap_u32']; omega
 have h3 : IntKind.u64.wrap (32 - (k : Int)) = 32 - (k : Int) := by rw [IntKind.wrap_u64]; omega
 go_enter Tryz.func320, Tryz.ntmps320
 go_wp2_with fail
 rw [rotr_flip x k h0 h1]
 go_ret
 exact ⟨rfl, rfl⟩
end R1
end Go.Proofs.YtdbkadickikgjaaGreatDoor
