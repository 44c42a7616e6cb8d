/-
 The oracle over sorted keys, at this dump.
-/
import Derived.Test.YtonklkbgiidkgaaGreatDoorRfKeys
import Derived.Test.YtonklkbgiidkgaaGreatDoorIter
namespace Go.Proofs
open Go.RowKit Go.Maps Go.Sort Go.Shelf
theorem Tryz.sorts193 (m : Nat) : AnyZ.SortsIn Tryz.prog Tryz.sorted193_ren Fence.wide m :=
 ⟨fun blk off cap ss W hH hblk hsz => callsIn_wide.2 (AnyM.slices_Sort_string Tryz.sort197 blk off cap ss W hH hblk hsz),
  fun p cap W => callsIn_wide.2 (AnyM.slices_Sort_string_none Tryz.sort197 p cap W)⟩
namespace YtonklkbgiidkgaaGreatDoor.Refl.Abs
set_option maxHeartbeats 1000000 in
theorem keysLaw194 : KeysLaw Tryz.prog 193 268 9 := by
 intro bm b nn D w hbm hm hown hsz
 have hmx : (1000000 : Nat) ≤ maxLen := by decide
 have hseq : SeqGives Fence.wide 2 Tryz.prog 268 #[.pointer (some ⟨bm, 0, none⟩)] encStr (fun ss => ss.Perm (strKeys D)) (Maps.size D) w :=
   AnyZ.keys_gives (ρ := Tryz.keys194_ren) { Tryz.keys194 with } Fence.wide _ trivial rfl (by omega) bm b nn D w hbm hm hown
 exact (callsIn_wide (n := 5)).1 (AnyZ.sorted_in Tryz.sorted193 Fence.wide 5 trivial trivial trivial trivial rfl (by omega) (Tryz.sorts193 _) (enters_of Tryz.func197 (by kernel_rfl) rfl) 268 #[.pointer (some ⟨bm, 0, none⟩)] trivial (enters_of Tryz.func268 (by kernel_rfl) rfl) _ _ (by omega) (by omega) _ hseq)
set_option maxHeartbeats 1000000 in
theorem keysLaw286 : KeysLaw Tryz.prog 193 362 9 := by
 intro bm b nn D w hbm hm hown hsz
 have hmx : (1000000 : Nat) ≤ maxLen := by decide
 have hseq : SeqGives Fence.wide 2 Tryz.prog 362 #[.pointer (some ⟨bm, 0, none⟩)] encStr (fun ss => ss.Perm (strKeys D)) (Maps.size D) w :=
   AnyZ.keys_gives (ρ := Tryz.keys286_ren) { Tryz.keys286 with } Fence.wide _ trivial rfl (by omega) bm b nn D w hbm hm hown
 exact (callsIn_wide (n := 5)).1 (AnyZ.sorted_in Tryz.sorted193 Fence.wide 5 trivial trivial trivial trivial rfl (by omega) (Tryz.sorts193 _) (enters_of Tryz.func197 (by kernel_rfl) rfl) 362 #[.pointer (some ⟨bm, 0, none⟩)] trivial (enters_of Tryz.func362 (by kernel_rfl) rfl) _ _ (by omega) (by omega) _ hseq)
noncomputable def keysIts : List Nat := [268, 362]
theorem keysAt {W : World} {G : Nat} : FuncOk ⟨Tryz.prog, compC Tryz.prog G, G, W⟩ Unit 193 (keysO keysIts 9) := keys_ok Tryz.func193 (by kernel_rfl) rfl (by kernel_rfl) fun it hit => by
 simp only [keysIts, List.mem_cons, List.not_mem_nil, or_false] at hit
 rcases hit with rfl | rfl
 · exact keysLaw194
 · exact keysLaw286
end YtonklkbgiidkgaaGreatDoor.Refl.Abs
end Go.Proofs
