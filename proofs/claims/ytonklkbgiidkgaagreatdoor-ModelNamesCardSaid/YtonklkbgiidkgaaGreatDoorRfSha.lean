/-
 Oracles of the interpreter: digests and their signs.
-/
import Derived.Test.YtonklkbgiidkgaaGreatDoorRfNat
import Derived.Test.YtonklkbgiidkgaaGreatDoorSumL
import Derived.Test.YtonklkbgiidkgaaGreatDoorShaHex
namespace Go.Proofs.YtonklkbgiidkgaaGreatDoor.Refl
open Go Go.RowKit
namespace Abs
noncomputable def sumN (n x : Nat) : Nat := packL (Sha.digest Sha.R64 Sha.S0 (bytesN n x))
noncomputable def hexN (n x : Nat) : Nat := packL (Shd.hexL (bytesN n x))
def len32 (_ : Nat) : Nat := 32
def len2 (n : Nat) : Nat := n * 2
theorem hexL_len2 : ∀ l : List UInt8, (Shd.hexL l).length = len2 l.length
 | [] => rfl
 | b :: l => by rw [Shd.hexL, List.length_cons, List.length_cons, hexL_len2 l, List.length_cons]; unfold len2; omega
set_option maxRecDepth 100000 in
theorem sum_ok {W : World} {G : Nat} : FuncOk ⟨Tryz.prog, compC Tryz.prog G, G, W⟩ Unit 178 (textO sumN len32) :=
 textO_ok Tryz.func178 (by kernel_rfl) rfl (fun _ _ => rfl) Shd.sumL_len Sha.sum_any
set_option maxRecDepth 100000 in
theorem hex_ok {W : World} {G : Nat} : FuncOk ⟨Tryz.prog, compC Tryz.prog G, G, W⟩ Unit 356 (textO hexN len2) :=
 textO_ok Tryz.func356 (by kernel_rfl) rfl (fun _ _ => rfl) hexL_len2 Shd.hex_any
noncomputable def lookF (n x : Nat) : List (Nat × Nat × Nat) → Nat
 | [] => sumN n x
 | p :: l => match and (Nat.beq n p.1) (Nat.beq x p.2.1) with
   | true => p.2.2
   | false => lookF n x l
theorem lookF_eq (n x : Nat) : ∀ l : List (Nat × Nat × Nat), (∀ p ∈ l, sumN p.1 p.2.1 = p.2.2) → lookF n x l = sumN n x
 | [], _ => rfl
 | p :: l, h => by
   rw [lookF]
   split
   · rename_i hc
     rw [Bool.and_eq_true, Nat.beq_eq, Nat.beq_eq] at hc
     rw [hc.1, hc.2]
     exact (h p (List.mem_cons_self ..)).symm
   · exact lookF_eq n x l fun q hq => h q (List.mem_cons_of_mem _ hq)
noncomputable def sumT (l : List (Nat × Nat × Nat)) (n x : Nat) : Nat := lookF n x l
theorem sumT_eq {l : List (Nat × Nat × Nat)} (h : ∀ p ∈ l, sumN p.1 p.2.1 = p.2.2) : sumT l = sumN := funext fun n => funext fun x => lookF_eq n x l h
theorem sumT_ok {W : World} {G : Nat} {l : List (Nat × Nat × Nat)} (h : ∀ p ∈ l, sumN p.1 p.2.1 = p.2.2) : FuncOk ⟨Tryz.prog, compC Tryz.prog G, G, W⟩ Unit 178 (textO (sumT l) len32) := by
 rw [sumT_eq h]
 exact sum_ok
end Abs
end Go.Proofs.YtonklkbgiidkgaaGreatDoor.Refl
