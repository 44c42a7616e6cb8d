/-
  The oracle over sorted keys, at this dump.
-/
import Derived.Test.YtigflgfakoljpaaGreatDoorRfKeys
import Derived.Test.YtigflgfakoljpaaGreatDoorIter
namespace Go.Proofs
open Go.RowKit Go.Maps Go.Sort Go.Shelf
theorem Tryz.sorts26 (m : Nat) : AnyZ.SortsIn Tryz.prog Tryz.sorted26_ren Fence.wide m :=
  ⟨fun blk off cap ss W hH hblk hsz => callsIn_wide.2 (AnyM.slices_Sort_string Tryz.sort57 blk off cap ss W hH hblk hsz),
   fun p cap W => callsIn_wide.2 (AnyM.slices_Sort_string_none Tryz.sort57 p cap W)⟩
namespace YtigflgfakoljpaaGreatDoor.Refl.Abs
set_option maxHeartbeats 1000000 in
theorem keysLaw27 : KeysLaw Tryz.prog 26 58 9 := by
  intro bm b nn D w hbm hm hown hsz
  have hmx : (1000000 : Nat) ≤ maxLen := by decide
  have hseq : SeqGives Fence.wide 2 Tryz.prog 58 #[.pointer (some ⟨bm, 0, none⟩)] encStr (fun ss => ss.Perm (strKeys D)) (Maps.size D) w :=
    AnyZ.keys_gives (ρ := Tryz.keys27_ren) { Tryz.keys27 with } Fence.wide _ trivial rfl (by omega) bm b nn D w hbm hm hown
  exact (callsIn_wide (n := 5)).1 (AnyZ.sorted_in Tryz.sorted26 Fence.wide 5 trivial trivial trivial trivial rfl (by omega) (Tryz.sorts26 _) (enters_of Tryz.func57 (by kernel_rfl) rfl) 58 #[.pointer (some ⟨bm, 0, none⟩)] trivial (enters_of Tryz.func58 (by kernel_rfl) rfl) _ _ (by omega) (by omega) _ hseq)
set_option maxHeartbeats 1000000 in
theorem keysLaw239 : KeysLaw Tryz.prog 26 280 9 := by
  intro bm b nn D w hbm hm hown hsz
  have hmx : (1000000 : Nat) ≤ maxLen := by decide
  have hseq : SeqGives Fence.wide 2 Tryz.prog 280 #[.pointer (some ⟨bm, 0, none⟩)] encStr (fun ss => ss.Perm (strKeys D)) (Maps.size D) w :=
    AnyZ.keys_gives (ρ := Tryz.keys239_ren) { Tryz.keys239 with } Fence.wide _ trivial rfl (by omega) bm b nn D w hbm hm hown
  exact (callsIn_wide (n := 5)).1 (AnyZ.sorted_in Tryz.sorted26 Fence.wide 5 trivial trivial trivial trivial rfl (by omega) (Tryz.sorts26 _) (enters_of Tryz.func57 (by kernel_rfl) rfl) 280 #[.pointer (some ⟨bm, 0, none⟩)] trivial (enters_of Tryz.func280 (by kernel_rfl) rfl) _ _ (by omega) (by omega) _ hseq)
noncomputable def keysIts : List Nat := [58, 280]
theorem keysAt {W : World} {G : Nat} : FuncOk ⟨Tryz.prog, compC Tryz.prog G, G, W⟩ Unit 26 (keysO keysIts 9) := keys_ok Tryz.func26 (by kernel_rfl) rfl (by kernel_rfl) fun it hit => by
  simp only [keysIts, List.mem_cons, List.not_mem_nil, or_false] at hit
  rcases hit with rfl | rfl
  · exact keysLaw27
  · exact keysLaw239
end YtigflgfakoljpaaGreatDoor.Refl.Abs
end Go.Proofs
