/-
  Oracles of the interpreter: digests and their signs.
-/
import Derived.Test.YtgfojmbmibgijaaGreatDoorRfNat
import Derived.Test.YtgfojmbmibgijaaGreatDoorSumL
import Derived.Test.YtgfojmbmibgijaaGreatDoorShaHex
import Derived.Test.YtgfojmbmibgijaaGreatDoorRef01Sums
namespace Go.Proofs.YtgfojmbmibgijaaGreatDoor.Refl
open Go Go.RowKit
namespace Abs

noncomputable def sumN (n x : Nat) : Nat := packL (Sha.digest Sha.R64 Sha.S0 (bytesN n x))
noncomputable def hexN (n x : Nat) : Nat := packL (Shd.hexL (bytesN n x))
def len32 (_ : Nat) : Nat := 32
def len2 (n : Nat) : Nat := n * 2
theorem hexL_len2 : ∀ l : List UInt8, (Shd.hexL l).length = len2 l.length
  | [] => rfl
  | b :: l => by rw [Shd.hexL, List.length_cons, List.length_cons, hexL_len2 l, List.length_cons]; unfold len2; omega
set_option maxRecDepth 100000 in
theorem sum_ok {W : World} {G : Nat} : FuncOk ⟨Tryz.prog, compC Tryz.prog G, G, W⟩ Unit 85 (textO sumN len32) :=
  textO_ok Tryz.func85 (by kernel_rfl) rfl (fun _ _ => rfl) Shd.sumL_len Sha.sum_any
set_option maxRecDepth 100000 in
theorem hex_ok {W : World} {G : Nat} : FuncOk ⟨Tryz.prog, compC Tryz.prog G, G, W⟩ Unit 124 (textO hexN len2) :=
  textO_ok Tryz.func124 (by kernel_rfl) rfl (fun _ _ => rfl) hexL_len2 Shd.hex_any
set_option maxRecDepth 100000 in
theorem sum1_ok {W : World} {G : Nat} : FuncOk ⟨Tryz.prog, compC Tryz.prog G, G, W⟩ Unit 47 (textO sumN len32) :=
  textO_ok Tryz.func47 (by kernel_rfl) rfl (fun _ _ => rfl) Shd.sumL_len R1.sum_any
end Abs
end Go.Proofs.YtgfojmbmibgijaaGreatDoor.Refl
