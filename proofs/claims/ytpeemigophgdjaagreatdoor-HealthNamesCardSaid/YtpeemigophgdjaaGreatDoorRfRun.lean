/-
  The closed law HealthNames, run by the kernel.
-/
import Derived.Test.YtpeemigophgdjaaGreatDoorRfLit
import Derived.Test.YtpeemigophgdjaaGreatDoorRfSha
import Derived.Test.YtpeemigophgdjaaGreatDoorRfFound
import Derived.Test.YtpeemigophgdjaaGreatDoorRfMake
namespace Go.Proofs.YtpeemigophgdjaaGreatDoor.Refl
open Go Go.RowKit
namespace Abs
noncomputable def orc1L : List (Nat × (List AVal → AState → KV Unit → Option Unit)) := [(12, textO sumN len32), (82, textO hexN len2), (5, textO sumN len32), (99, checkO 129), (102, cloneO)]
noncomputable def orc1T : T (List AVal → AState → KV Unit → Option Unit) := (.node (.node (.node .leaf none (.node (.node (.node .leaf none (.node .leaf (some (checkO 129)) .leaf)) none .leaf) none .leaf)) none (.node .leaf (some (textO sumN len32)) .leaf)) none (.node (.node .leaf none (.node .leaf (some (textO sumN len32)) .leaf)) none (.node (.node (.node .leaf none (.node (.node .leaf (some (textO hexN len2)) .leaf) none .leaf)) none .leaf) none (.node (.node (.node .leaf none (.node .leaf (some (cloneO)) .leaf)) none .leaf) none .leaf))))
theorem orc1_eq : orc1T = tabOf orc1L := by kernel_rfl
theorem orc1_ok (W : World) : ∀ p ∈ orc1L, FuncOk ⟨Tryz.prog, compC Tryz.prog 6, 6, W⟩ Unit p.1 p.2 := by
  intro p hp
  simp only [orc1L, List.mem_cons, List.not_mem_nil, or_false] at hp
  rcases hp with rfl | rfl | rfl | rfl | rfl
  · exact sum_ok
  · exact hex_ok
  · exact sum1_ok
  · exact check_ok
  · exact clone_ok
noncomputable def C1 : Cfg Unit := ⟨Lit.fnsT, orc1T⟩
theorem C1_ok (W : World) : CfgOk ⟨Tryz.prog, compC Tryz.prog 6, 6, W⟩ Unit C1 := cfg_ok (Lit.fns_ok W) Lit.fns_eq (orc1_ok W) orc1_eq rfl (by kernel_rfl)
noncomputable def orc2L : List (Nat × (List AVal → AState → KV Unit → Option Unit)) := (58, foundO (fcallF C1 (fexec C1 1000000))) :: (44, makeO (fcallF C1 (fexec C1 1000000)) 6) :: orc1L
noncomputable def orc2T : T (List AVal → AState → KV Unit → Option Unit) := (.node (.node (.node .leaf none (.node (.node (.node .leaf none (.node .leaf (some (checkO 129)) .leaf)) none .leaf) none .leaf)) none (.node .leaf (some (textO sumN len32)) .leaf)) none (.node (.node .leaf none (.node .leaf (some (textO sumN len32)) (.node (.node .leaf (some (makeO (fcallF C1 (fexec C1 1000000)) 6)) .leaf) none .leaf))) none (.node (.node (.node .leaf none (.node (.node .leaf (some (textO hexN len2)) .leaf) none .leaf)) none (.node .leaf none (.node .leaf (some (foundO (fcallF C1 (fexec C1 1000000)))) .leaf))) none (.node (.node (.node .leaf none (.node .leaf (some (cloneO)) .leaf)) none .leaf) none .leaf))))
theorem orc2_eq : orc2T = tabOf orc2L := by kernel_rfl
theorem orc2_ok (W : World) : ∀ p ∈ orc2L, FuncOk ⟨Tryz.prog, compC Tryz.prog 6, 6, W⟩ Unit p.1 p.2 := by
  intro p hp
  rcases List.mem_cons.1 hp with rfl | hp
  · exact found_ok (C1_ok W) (by kernel_rfl) (by kernel_rfl) (by kernel_rfl) (by kernel_rfl)
  rcases List.mem_cons.1 hp with rfl | hp
  · exact make_ok C1_ok (by kernel_rfl)
  · exact orc1_ok W p hp
noncomputable def C2 : Cfg Unit := ⟨Lit.fnsT, orc2T⟩
theorem C2_ok (W : World) : CfgOk ⟨Tryz.prog, compC Tryz.prog 6, 6, W⟩ Unit C2 := cfg_ok (Lit.fns_ok W) Lit.fns_eq (orc2_ok W) orc2_eq rfl (by kernel_rfl)
theorem run : fcallB (fexec C2 1000000) Lit.a3 [] (startA .leaf 6) isTrueK = some () := by kernel_rfl
/-- the call, in whatever world -/
theorem true_any (W : World) (hG : 6 ≤ W.heap.size) : Calls Tryz.prog 3 #[] W fun e W' => e = .returned (.bool true) ∧ Below W.heap.size W W' :=
  calls_true (E := ⟨Tryz.prog, compC Tryz.prog 6, 6, W⟩) (C2_ok W) (Lit.ok3 W) (heap := .leaf) (N := fun _ => 0) hG (fun b blk h => by rw [T.get_leaf] at h; cases h) ((frun_eq C2 1000000 Lit.a3 [] _ _).symm.trans run)
end Abs
end Go.Proofs.YtpeemigophgdjaaGreatDoor.Refl
