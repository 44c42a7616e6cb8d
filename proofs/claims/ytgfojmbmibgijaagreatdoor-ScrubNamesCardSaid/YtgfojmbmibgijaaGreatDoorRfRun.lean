/-
  The closed law ScrubNames, run by the kernel.
-/
import Derived.Test.YtgfojmbmibgijaaGreatDoorRfLit
import Derived.Test.YtgfojmbmibgijaaGreatDoorRfSha
import Derived.Test.YtgfojmbmibgijaaGreatDoorRfKeys
import Derived.Test.YtgfojmbmibgijaaGreatDoorRfIter
import Derived.Test.YtgfojmbmibgijaaGreatDoorRfJoin
import Derived.Test.YtgfojmbmibgijaaGreatDoorRfFound
import Derived.Test.YtgfojmbmibgijaaGreatDoorRfMake
import Derived.Test.YtgfojmbmibgijaaGreatDoorRfNames
namespace Go.Proofs.YtgfojmbmibgijaaGreatDoor.Refl
open Go Go.RowKit
namespace Abs
noncomputable def orc1L : List (Nat × (List AVal → AState → KV Unit → Option Unit)) := (85, textO sumN len32) :: (124, textO hexN len2) :: (47, textO sumN len32) :: (204, checkO 263) :: (161, cloneO) :: (34, keysO keysIts 9) :: (190, joinO) :: []
noncomputable def orc1T : T (List AVal → AState → KV Unit → Option Unit) := (.node (.node (.node (.node (.node .leaf none (.node .leaf (some (textO sumN len32)) .leaf)) none .leaf) none .leaf) none (.node (.node (.node (.node .leaf none (.node (.node .leaf (some (cloneO)) .leaf) none .leaf)) none .leaf) none .leaf) none (.node (.node .leaf none (.node (.node .leaf (some (textO sumN len32)) .leaf) none .leaf)) none .leaf))) none (.node (.node .leaf none (.node .leaf none (.node (.node (.node .leaf none (.node .leaf (some (checkO 263)) .leaf)) none .leaf) none (.node .leaf none (.node .leaf (some (textO hexN len2)) .leaf))))) none (.node (.node (.node (.node .leaf (some (keysO keysIts 9)) .leaf) none .leaf) none .leaf) none (.node .leaf none (.node .leaf none (.node .leaf none (.node (.node .leaf (some (joinO)) .leaf) none .leaf)))))))
theorem orc1_eq : orc1T = tabOf orc1L := by kernel_rfl
theorem orc1_ok (W : World) : ∀ p ∈ orc1L, FuncOk ⟨Tryz.prog, compC Tryz.prog 7, 7, W⟩ Unit p.1 p.2 := by
  intro p hp
  simp only [orc1L, List.mem_cons, List.not_mem_nil, or_false] at hp
  rcases hp with rfl | rfl | rfl | rfl | rfl | rfl | rfl
  · exact sum_ok
  · exact hex_ok
  · exact sum1_ok
  · exact check_ok
  · exact clone_ok
  · exact keysAt
  · exact joinAt
noncomputable def C1 : Cfg Unit := ⟨Lit.fnsT, orc1T⟩
theorem C1_ok (W : World) : CfgOk ⟨Tryz.prog, compC Tryz.prog 7, 7, W⟩ Unit C1 := cfg_ok (Lit.fns_ok W) Lit.fns_eq (orc1_ok W) orc1_eq rfl (by kernel_rfl)
theorem new_run : fcallF C1 (fexec C1 1000000) 235 [] (startA .leaf 7) (isRowK fieldL 394) = some () := by kernel_rfl
noncomputable def orc2L : List (Nat × (List AVal → AState → KV Unit → Option Unit)) := (235, newO fieldL 394) :: orc1L
noncomputable def orc2T : T (List AVal → AState → KV Unit → Option Unit) := (.node (.node (.node (.node (.node .leaf none (.node .leaf (some (textO sumN len32)) .leaf)) none .leaf) none (.node .leaf none (.node (.node .leaf none (.node .leaf none (.node .leaf (some (newO fieldL 394)) .leaf))) none .leaf))) none (.node (.node (.node (.node .leaf none (.node (.node .leaf (some (cloneO)) .leaf) none .leaf)) none .leaf) none .leaf) none (.node (.node .leaf none (.node (.node .leaf (some (textO sumN len32)) .leaf) none .leaf)) none .leaf))) none (.node (.node .leaf none (.node .leaf none (.node (.node (.node .leaf none (.node .leaf (some (checkO 263)) .leaf)) none .leaf) none (.node .leaf none (.node .leaf (some (textO hexN len2)) .leaf))))) none (.node (.node (.node (.node .leaf (some (keysO keysIts 9)) .leaf) none .leaf) none .leaf) none (.node .leaf none (.node .leaf none (.node .leaf none (.node (.node .leaf (some (joinO)) .leaf) none .leaf)))))))
theorem orc2_eq : orc2T = tabOf orc2L := by kernel_rfl
theorem orc2_ok (W : World) : ∀ p ∈ orc2L, FuncOk ⟨Tryz.prog, compC Tryz.prog 7, 7, W⟩ Unit p.1 p.2 := by
  intro p hp
  rcases List.mem_cons.1 hp with rfl | hp
  · exact new_ok Tryz.func235 (by kernel_rfl) rfl C1_ok (by kernel_rfl) (by kernel_rfl) new_run
  · exact orc1_ok W p hp
noncomputable def C2 : Cfg Unit := ⟨Lit.fnsT, orc2T⟩
theorem C2_ok (W : World) : CfgOk ⟨Tryz.prog, compC Tryz.prog 7, 7, W⟩ Unit C2 := cfg_ok (Lit.fns_ok W) Lit.fns_eq (orc2_ok W) orc2_eq rfl (by kernel_rfl)
noncomputable def orc3L : List (Nat × (List AVal → AState → KV Unit → Option Unit)) := (87, foundO (fcallF C2 (fexec C2 1000000))) :: (88, makeO (fcallF C2 (fexec C2 1000000)) 7) :: orc2L
noncomputable def orc3T : T (List AVal → AState → KV Unit → Option Unit) := (.node (.node (.node (.node (.node .leaf none (.node .leaf (some (textO sumN len32)) .leaf)) none (.node .leaf none (.node (.node .leaf (some (foundO (fcallF C2 (fexec C2 1000000)))) .leaf) none .leaf))) none (.node .leaf none (.node (.node .leaf none (.node .leaf none (.node .leaf (some (newO fieldL 394)) .leaf))) none .leaf))) none (.node (.node (.node (.node .leaf none (.node (.node .leaf (some (cloneO)) .leaf) none .leaf)) none .leaf) none .leaf) none (.node (.node .leaf none (.node (.node .leaf (some (textO sumN len32)) .leaf) none .leaf)) none .leaf))) none (.node (.node (.node .leaf none (.node .leaf none (.node (.node .leaf (some (makeO (fcallF C2 (fexec C2 1000000)) 7)) .leaf) none .leaf))) none (.node .leaf none (.node (.node (.node .leaf none (.node .leaf (some (checkO 263)) .leaf)) none .leaf) none (.node .leaf none (.node .leaf (some (textO hexN len2)) .leaf))))) none (.node (.node (.node (.node .leaf (some (keysO keysIts 9)) .leaf) none .leaf) none .leaf) none (.node .leaf none (.node .leaf none (.node .leaf none (.node (.node .leaf (some (joinO)) .leaf) none .leaf)))))))
theorem orc3_eq : orc3T = tabOf orc3L := by kernel_rfl
theorem orc3_ok (W : World) : ∀ p ∈ orc3L, FuncOk ⟨Tryz.prog, compC Tryz.prog 7, 7, W⟩ Unit p.1 p.2 := by
  intro p hp
  rcases List.mem_cons.1 hp with rfl | hp
  · exact found_ok (C2_ok W) (by kernel_rfl) (by kernel_rfl) (by kernel_rfl) (by kernel_rfl)
  rcases List.mem_cons.1 hp with rfl | hp
  · exact make_ok C2_ok (by kernel_rfl)
  exact orc2_ok W p hp
noncomputable def C3 : Cfg Unit := ⟨Lit.fnsT, orc3T⟩
theorem C3_ok (W : World) : CfgOk ⟨Tryz.prog, compC Tryz.prog 7, 7, W⟩ Unit C3 := cfg_ok (Lit.fns_ok W) Lit.fns_eq (orc3_ok W) orc3_eq rfl (by kernel_rfl)
theorem run7 : fcallF C3 (fexec C3 1000000) 7 [] (startA namesHeap 7) isTrueK = some () := by kernel_rfl
noncomputable def orc4L : List (Nat × (List AVal → AState → KV Unit → Option Unit)) := (7, trueO) :: orc3L
noncomputable def orc4T : T (List AVal → AState → KV Unit → Option Unit) := (.node (.node (.node (.node (.node .leaf none (.node .leaf (some (textO sumN len32)) .leaf)) (some (trueO)) (.node .leaf none (.node (.node .leaf (some (foundO (fcallF C2 (fexec C2 1000000)))) .leaf) none .leaf))) none (.node .leaf none (.node (.node .leaf none (.node .leaf none (.node .leaf (some (newO fieldL 394)) .leaf))) none .leaf))) none (.node (.node (.node (.node .leaf none (.node (.node .leaf (some (cloneO)) .leaf) none .leaf)) none .leaf) none .leaf) none (.node (.node .leaf none (.node (.node .leaf (some (textO sumN len32)) .leaf) none .leaf)) none .leaf))) none (.node (.node (.node .leaf none (.node .leaf none (.node (.node .leaf (some (makeO (fcallF C2 (fexec C2 1000000)) 7)) .leaf) none .leaf))) none (.node .leaf none (.node (.node (.node .leaf none (.node .leaf (some (checkO 263)) .leaf)) none .leaf) none (.node .leaf none (.node .leaf (some (textO hexN len2)) .leaf))))) none (.node (.node (.node (.node .leaf (some (keysO keysIts 9)) .leaf) none .leaf) none .leaf) none (.node .leaf none (.node .leaf none (.node .leaf none (.node (.node .leaf (some (joinO)) .leaf) none .leaf)))))))
theorem orc4_eq : orc4T = tabOf orc4L := by kernel_rfl
theorem orc4_ok (W : World) (hh : HeapOk ⟨Tryz.prog, compC Tryz.prog 7, 7, W⟩ namesHeap (fun _ => 2)) : ∀ p ∈ orc4L, FuncOk ⟨Tryz.prog, compC Tryz.prog 7, 7, W⟩ Unit p.1 p.2 := by
  intro p hp
  rcases List.mem_cons.1 hp with rfl | hp
  · exact true_ok Tryz.func7 (by kernel_rfl) rfl C3_ok (by kernel_rfl) hh run7
  exact orc3_ok W p hp
noncomputable def C4 : Cfg Unit := ⟨Lit.fnsT, orc4T⟩
theorem C4_ok (W : World) (hh : HeapOk ⟨Tryz.prog, compC Tryz.prog 7, 7, W⟩ namesHeap (fun _ => 2)) : CfgOk ⟨Tryz.prog, compC Tryz.prog 7, 7, W⟩ Unit C4 := cfg_ok (Lit.fns_ok W) Lit.fns_eq (orc4_ok W hh) orc4_eq rfl (by kernel_rfl)
theorem run : fcallB (fexec C4 1000000) Lit.a3 [] (startA namesHeap 7) isTrueK = some () := by kernel_rfl
/-- the call, in whatever world -/
theorem true_any (W : World) (hG : 7 ≤ W.heap.size) (hh : HeapOk ⟨Tryz.prog, compC Tryz.prog 7, 7, W⟩ namesHeap (fun _ => 2)) : Calls Tryz.prog 3 #[] W fun e W' => e = .returned (.bool true) ∧ Below W.heap.size W W' :=
  calls_true (E := ⟨Tryz.prog, compC Tryz.prog 7, 7, W⟩) (C4_ok W hh) (Lit.ok3 W) (heap := namesHeap) (N := (fun _ => 2)) hG hh ((frun_eq C4 1000000 Lit.a3 [] _ _).symm.trans run)
end Abs
end Go.Proofs.YtgfojmbmibgijaaGreatDoor.Refl
