/-
  The oracle over sorted keys, at this dump.
-/
import Derived.Test.YtjdepfoiegikpaaGreatDoorRfKeys
import Derived.Test.YtjdepfoiegikpaaGreatDoorIter
namespace Go.Proofs
open Go.RowKit Go.Maps Go.Sort Go.Shelf
theorem Tryz.sorts22 (m : Nat) : AnyZ.SortsIn Tryz.prog Tryz.sorted22_ren Fence.wide m :=
  ⟨fun blk off cap ss W hH hblk hsz => callsIn_wide.2 (AnyM.slices_Sort_string Tryz.sort55 blk off cap ss W hH hblk hsz),
   fun p cap W => callsIn_wide.2 (AnyM.slices_Sort_string_none Tryz.sort55 p cap W)⟩
namespace YtjdepfoiegikpaaGreatDoor.Refl.Abs
set_option maxHeartbeats 1000000 in
theorem keysLaw23 : KeysLaw Tryz.prog 22 56 9 := by
  intro bm b nn D w hbm hm hown hsz
  have hmx : (1000000 : Nat) ≤ maxLen := by decide
  have hseq : SeqGives Fence.wide 2 Tryz.prog 56 #[.pointer (some ⟨bm, 0, none⟩)] encStr (fun ss => ss.Perm (strKeys D)) (Maps.size D) w :=
    AnyZ.keys_gives (ρ := Tryz.keys23_ren) { Tryz.keys23 with } Fence.wide _ trivial rfl (by omega) bm b nn D w hbm hm hown
  exact (callsIn_wide (n := 5)).1 (AnyZ.sorted_in Tryz.sorted22 Fence.wide 5 trivial trivial trivial trivial rfl (by omega) (Tryz.sorts22 _) (enters_of Tryz.func55 (by kernel_rfl) rfl) 56 #[.pointer (some ⟨bm, 0, none⟩)] trivial (enters_of Tryz.func56 (by kernel_rfl) rfl) _ _ (by omega) (by omega) _ hseq)
set_option maxHeartbeats 1000000 in
theorem keysLaw341 : KeysLaw Tryz.prog 22 350 9 := by
  intro bm b nn D w hbm hm hown hsz
  have hmx : (1000000 : Nat) ≤ maxLen := by decide
  have hseq : SeqGives Fence.wide 2 Tryz.prog 350 #[.pointer (some ⟨bm, 0, none⟩)] encStr (fun ss => ss.Perm (strKeys D)) (Maps.size D) w :=
    AnyZ.keys_gives (ρ := Tryz.keys341_ren) { Tryz.keys341 with } Fence.wide _ trivial rfl (by omega) bm b nn D w hbm hm hown
  exact (callsIn_wide (n := 5)).1 (AnyZ.sorted_in Tryz.sorted22 Fence.wide 5 trivial trivial trivial trivial rfl (by omega) (Tryz.sorts22 _) (enters_of Tryz.func55 (by kernel_rfl) rfl) 350 #[.pointer (some ⟨bm, 0, none⟩)] trivial (enters_of Tryz.func350 (by kernel_rfl) rfl) _ _ (by omega) (by omega) _ hseq)
noncomputable def keysIts : List Nat := [56, 350]
theorem keysAt {W : World} {G : Nat} : FuncOk ⟨Tryz.prog, compC Tryz.prog G, G, W⟩ Unit 22 (keysO keysIts 9) := keys_ok Tryz.func22 (by kernel_rfl) rfl (by kernel_rfl) fun it hit => by
  simp only [keysIts, List.mem_cons, List.not_mem_nil, or_false] at hit
  rcases hit with rfl | rfl
  · exact keysLaw23
  · exact keysLaw341
end YtjdepfoiegikpaaGreatDoor.Refl.Abs
end Go.Proofs
