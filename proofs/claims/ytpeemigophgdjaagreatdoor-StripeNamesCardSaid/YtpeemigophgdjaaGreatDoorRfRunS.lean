/-
  The closed law StripeNames, run by the kernel.
-/
import Derived.Test.YtpeemigophgdjaaGreatDoorRfLitS
import Derived.Test.YtpeemigophgdjaaGreatDoorRfSha
import Derived.Test.YtpeemigophgdjaaGreatDoorRfKeys
import Derived.Test.YtpeemigophgdjaaGreatDoorRfUsed
import Derived.Test.YtpeemigophgdjaaGreatDoorRfIter
import Derived.Test.YtpeemigophgdjaaGreatDoorRfFound
import Derived.Test.YtpeemigophgdjaaGreatDoorRfMake
namespace Go.Proofs.YtpeemigophgdjaaGreatDoor.Refl
open Go Go.RowKit
namespace Abs
noncomputable def orc1L : List (Nat × (List AVal → AState → KV Unit → Option Unit)) := (12, textO sumN len32) :: (82, textO hexN len2) :: (5, textO sumN len32) :: (99, checkO 129) :: (102, cloneO) :: (106, usedO) :: (125, keysO keysIts 9) :: []
noncomputable def orc1T : T (List AVal → AState → KV Unit → Option Unit) := (.node (.node (.node .leaf none (.node (.node (.node .leaf none (.node .leaf (some (checkO 129)) .leaf)) none .leaf) none .leaf)) none (.node .leaf (some (textO sumN len32)) (.node .leaf none (.node .leaf none (.node .leaf none (.node .leaf (some (keysO keysIts 9)) .leaf)))))) none (.node (.node .leaf none (.node .leaf (some (textO sumN len32)) .leaf)) none (.node (.node (.node .leaf none (.node (.node .leaf (some (textO hexN len2)) .leaf) none .leaf)) none (.node (.node .leaf none (.node .leaf (some (usedO)) .leaf)) none .leaf)) none (.node (.node (.node .leaf none (.node .leaf (some (cloneO)) .leaf)) none .leaf) none .leaf))))
theorem orc1_eq : orc1T = tabOf orc1L := by kernel_rfl
theorem orc1_ok (W : World) : ∀ p ∈ orc1L, FuncOk ⟨Tryz.prog, compC Tryz.prog 6, 6, W⟩ Unit p.1 p.2 := by
  intro p hp
  simp only [orc1L, List.mem_cons, List.not_mem_nil, or_false] at hp
  rcases hp with rfl | rfl | rfl | rfl | rfl | rfl | rfl
  · exact sum_ok
  · exact hex_ok
  · exact sum1_ok
  · exact check_ok
  · exact clone_ok
  · exact used_ok
  · exact keysAt
noncomputable def C1 : Cfg Unit := ⟨Lit.fnsT, orc1T⟩
theorem C1_ok (W : World) : CfgOk ⟨Tryz.prog, compC Tryz.prog 6, 6, W⟩ Unit C1 := cfg_ok (Lit.fns_ok W) Lit.fns_eq (orc1_ok W) orc1_eq rfl (by kernel_rfl)
theorem new_run : fcallF C1 (fexec C1 1000000) 144 [] (startA .leaf 6) (isRowK fieldL 250) = some () := by kernel_rfl
noncomputable def orc2L : List (Nat × (List AVal → AState → KV Unit → Option Unit)) := (144, newO fieldL 250) :: orc1L
noncomputable def orc2T : T (List AVal → AState → KV Unit → Option Unit) := (.node (.node (.node .leaf none (.node (.node (.node .leaf none (.node .leaf (some (checkO 129)) .leaf)) none .leaf) none .leaf)) none (.node .leaf (some (textO sumN len32)) (.node .leaf none (.node .leaf none (.node .leaf none (.node .leaf (some (keysO keysIts 9)) .leaf)))))) none (.node (.node (.node (.node .leaf none (.node (.node (.node .leaf (some (newO fieldL 250)) .leaf) none .leaf) none .leaf)) none .leaf) none (.node .leaf (some (textO sumN len32)) .leaf)) none (.node (.node (.node .leaf none (.node (.node .leaf (some (textO hexN len2)) .leaf) none .leaf)) none (.node (.node .leaf none (.node .leaf (some (usedO)) .leaf)) none .leaf)) none (.node (.node (.node .leaf none (.node .leaf (some (cloneO)) .leaf)) none .leaf) none .leaf))))
theorem orc2_eq : orc2T = tabOf orc2L := by kernel_rfl
theorem orc2_ok (W : World) : ∀ p ∈ orc2L, FuncOk ⟨Tryz.prog, compC Tryz.prog 6, 6, W⟩ Unit p.1 p.2 := by
  intro p hp
  rcases List.mem_cons.1 hp with rfl | hp
  · exact new_ok Tryz.func144 (by kernel_rfl) rfl C1_ok (by kernel_rfl) (by kernel_rfl) new_run
  · exact orc1_ok W p hp
noncomputable def C2 : Cfg Unit := ⟨Lit.fnsT, orc2T⟩
theorem C2_ok (W : World) : CfgOk ⟨Tryz.prog, compC Tryz.prog 6, 6, W⟩ Unit C2 := cfg_ok (Lit.fns_ok W) Lit.fns_eq (orc2_ok W) orc2_eq rfl (by kernel_rfl)
noncomputable def orc3L : List (Nat × (List AVal → AState → KV Unit → Option Unit)) := (58, foundO (fcallF C2 (fexec C2 1000000))) :: (44, makeO (fcallF C2 (fexec C2 1000000)) 6) :: orc2L
noncomputable def orc3T : T (List AVal → AState → KV Unit → Option Unit) := (.node (.node (.node .leaf none (.node (.node (.node .leaf none (.node .leaf (some (checkO 129)) .leaf)) none .leaf) none .leaf)) none (.node .leaf (some (textO sumN len32)) (.node .leaf none (.node .leaf none (.node .leaf none (.node .leaf (some (keysO keysIts 9)) .leaf)))))) none (.node (.node (.node (.node .leaf none (.node (.node (.node .leaf (some (newO fieldL 250)) .leaf) none .leaf) none .leaf)) none .leaf) none (.node .leaf (some (textO sumN len32)) (.node (.node .leaf (some (makeO (fcallF C2 (fexec C2 1000000)) 6)) .leaf) none .leaf))) none (.node (.node (.node .leaf none (.node (.node .leaf (some (textO hexN len2)) .leaf) none .leaf)) none (.node (.node .leaf none (.node .leaf (some (usedO)) .leaf)) none (.node .leaf (some (foundO (fcallF C2 (fexec C2 1000000)))) .leaf))) none (.node (.node (.node .leaf none (.node .leaf (some (cloneO)) .leaf)) none .leaf) none .leaf))))
theorem orc3_eq : orc3T = tabOf orc3L := by kernel_rfl
theorem orc3_ok (W : World) : ∀ p ∈ orc3L, FuncOk ⟨Tryz.prog, compC Tryz.prog 6, 6, W⟩ Unit p.1 p.2 := by
  intro p hp
  rcases List.mem_cons.1 hp with rfl | hp
  · exact found_ok (C2_ok W) (by kernel_rfl) (by kernel_rfl) (by kernel_rfl) (by kernel_rfl)
  rcases List.mem_cons.1 hp with rfl | hp
  · exact make_ok C2_ok (by kernel_rfl)
  exact orc2_ok W p hp
noncomputable def C3 : Cfg Unit := ⟨Lit.fnsT, orc3T⟩
theorem C3_ok (W : World) : CfgOk ⟨Tryz.prog, compC Tryz.prog 6, 6, W⟩ Unit C3 := cfg_ok (Lit.fns_ok W) Lit.fns_eq (orc3_ok W) orc3_eq rfl (by kernel_rfl)
theorem run : fcallB (fexec C3 1000000) Lit.a4 [] (startA .leaf 6) isTrueK = some () := by kernel_rfl
/-- the call, in whatever world -/
theorem true_any (W : World) (hG : 6 ≤ W.heap.size) : Calls Tryz.prog 4 #[] W fun e W' => e = .returned (.bool true) ∧ Below W.heap.size W W' :=
  calls_true (E := ⟨Tryz.prog, compC Tryz.prog 6, 6, W⟩) (C3_ok W) (Lit.ok4 W) (heap := .leaf) (N := fun _ => 0) hG (fun b blk h => by rw [T.get_leaf] at h; cases h) ((frun_eq C3 1000000 Lit.a4 [] _ _).symm.trans run)
end Abs
end Go.Proofs.YtpeemigophgdjaaGreatDoor.Refl
