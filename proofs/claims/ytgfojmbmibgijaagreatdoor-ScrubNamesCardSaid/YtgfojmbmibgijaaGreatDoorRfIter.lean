/-
  The oracle over sorted keys, at this dump.
-/
import Derived.Test.YtgfojmbmibgijaaGreatDoorRfKeys
import Derived.Test.YtgfojmbmibgijaaGreatDoorIter
namespace Go.Proofs
open Go.RowKit Go.Maps Go.Sort Go.Shelf
theorem Tryz.sorts34 (m : Nat) : AnyZ.SortsIn Tryz.prog Tryz.sorted34_ren Fence.wide m :=
  ⟨fun blk off cap ss W hH hblk hsz => callsIn_wide.2 (AnyM.slices_Sort_string Tryz.sort76 blk off cap ss W hH hblk hsz),
   fun p cap W => callsIn_wide.2 (AnyM.slices_Sort_string_none Tryz.sort76 p cap W)⟩
namespace YtgfojmbmibgijaaGreatDoor.Refl.Abs
set_option maxHeartbeats 1000000 in
theorem keysLaw35 : KeysLaw Tryz.prog 34 77 9 := by
  intro bm b nn D w hbm hm hown hsz
  have hmx : (1000000 : Nat) ≤ maxLen := by decide
  have hseq : SeqGives Fence.wide 2 Tryz.prog 77 #[.pointer (some ⟨bm, 0, none⟩)] encStr (fun ss => ss.Perm (strKeys D)) (Maps.size D) w :=
    AnyZ.keys_gives (ρ := Tryz.keys35_ren) { Tryz.keys35 with } Fence.wide _ trivial rfl (by omega) bm b nn D w hbm hm hown
  exact (callsIn_wide (n := 5)).1 (AnyZ.sorted_in Tryz.sorted34 Fence.wide 5 trivial trivial trivial trivial rfl (by omega) (Tryz.sorts34 _) (enters_of Tryz.func76 (by kernel_rfl) rfl) 77 #[.pointer (some ⟨bm, 0, none⟩)] trivial (enters_of Tryz.func77 (by kernel_rfl) rfl) _ _ (by omega) (by omega) _ hseq)
set_option maxHeartbeats 1000000 in
theorem keysLaw299 : KeysLaw Tryz.prog 34 314 9 := by
  intro bm b nn D w hbm hm hown hsz
  have hmx : (1000000 : Nat) ≤ maxLen := by decide
  have hseq : SeqGives Fence.wide 2 Tryz.prog 314 #[.pointer (some ⟨bm, 0, none⟩)] encStr (fun ss => ss.Perm (strKeys D)) (Maps.size D) w :=
    AnyZ.keys_gives (ρ := Tryz.keys299_ren) { Tryz.keys299 with } Fence.wide _ trivial rfl (by omega) bm b nn D w hbm hm hown
  exact (callsIn_wide (n := 5)).1 (AnyZ.sorted_in Tryz.sorted34 Fence.wide 5 trivial trivial trivial trivial rfl (by omega) (Tryz.sorts34 _) (enters_of Tryz.func76 (by kernel_rfl) rfl) 314 #[.pointer (some ⟨bm, 0, none⟩)] trivial (enters_of Tryz.func314 (by kernel_rfl) rfl) _ _ (by omega) (by omega) _ hseq)
noncomputable def keysIts : List Nat := [77, 314]
theorem keysAt {W : World} {G : Nat} : FuncOk ⟨Tryz.prog, compC Tryz.prog G, G, W⟩ Unit 34 (keysO keysIts 9) := keys_ok Tryz.func34 (by kernel_rfl) rfl (by kernel_rfl) fun it hit => by
  simp only [keysIts, List.mem_cons, List.not_mem_nil, or_false] at hit
  rcases hit with rfl | rfl
  · exact keysLaw35
  · exact keysLaw299
end YtgfojmbmibgijaaGreatDoor.Refl.Abs
end Go.Proofs
