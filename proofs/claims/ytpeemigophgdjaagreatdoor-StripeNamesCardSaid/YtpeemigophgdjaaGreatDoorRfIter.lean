/-
  The oracle over sorted keys, at this dump.
-/
import Derived.Test.YtpeemigophgdjaaGreatDoorRfKeys
import Derived.Test.YtpeemigophgdjaaGreatDoorIter
namespace Go.Proofs
open Go.RowKit Go.Maps Go.Sort Go.Shelf
theorem Tryz.sorts125 (m : Nat) : AnyZ.SortsIn Tryz.prog Tryz.sorted125_ren Fence.wide m :=
  ⟨fun blk off cap ss W hH hblk hsz => callsIn_wide.2 (AnyM.slices_Sort_string Tryz.sort164 blk off cap ss W hH hblk hsz),
   fun p cap W => callsIn_wide.2 (AnyM.slices_Sort_string_none Tryz.sort164 p cap W)⟩
namespace YtpeemigophgdjaaGreatDoor.Refl.Abs
set_option maxHeartbeats 1000000 in
theorem keysLaw126 : KeysLaw Tryz.prog 125 165 9 := by
  intro bm b nn D w hbm hm hown hsz
  have hmx : (1000000 : Nat) ≤ maxLen := by decide
  have hseq : SeqGives Fence.wide 2 Tryz.prog 165 #[.pointer (some ⟨bm, 0, none⟩)] encStr (fun ss => ss.Perm (strKeys D)) (Maps.size D) w :=
    AnyZ.keys_gives (ρ := Tryz.keys126_ren) { Tryz.keys126 with } Fence.wide _ trivial rfl (by omega) bm b nn D w hbm hm hown
  exact (callsIn_wide (n := 5)).1 (AnyZ.sorted_in Tryz.sorted125 Fence.wide 5 trivial trivial trivial trivial rfl (by omega) (Tryz.sorts125 _) (enters_of Tryz.func164 (by kernel_rfl) rfl) 165 #[.pointer (some ⟨bm, 0, none⟩)] trivial (enters_of Tryz.func165 (by kernel_rfl) rfl) _ _ (by omega) (by omega) _ hseq)
noncomputable def keysIts : List Nat := [165]
theorem keysAt {W : World} {G : Nat} : FuncOk ⟨Tryz.prog, compC Tryz.prog G, G, W⟩ Unit 125 (keysO keysIts 9) := keys_ok Tryz.func125 (by kernel_rfl) rfl (by kernel_rfl) fun it hit => by
  simp only [keysIts, List.mem_cons, List.not_mem_nil, or_false] at hit
  rcases hit with rfl
  · exact keysLaw126
end YtpeemigophgdjaaGreatDoor.Refl.Abs
end Go.Proofs
