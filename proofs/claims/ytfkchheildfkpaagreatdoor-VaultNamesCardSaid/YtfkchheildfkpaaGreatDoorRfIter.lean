/-
 DERIVED: THE SHELF's CONTRACTS AT THIS DUMP, IN PLAIN WORDS (tools/lay-plain.mjs out of 'TryzIter0.lean', which tools/lay-shelf.mjs wrote): THE SAME DECLARATIONS UNDER THE SAME NAMES: 'import', 'namespace', 'open', 'def', 'theorem' AND NOTHING ELSE: no command of the shelf's: FOR A HAND-IN. Each laying: the table of numbers ('.._ren') and one theorem, a field a fact of the dump's own or the kernel's comparison; each contract: ONE APPLICATION. The oracle over sorted keys, at this dump.
-/
import Derived.Shelf.SlIter.Nil
import Derived.Shelf.SortM.Plain
import Derived.Shelf.SortM.SortNone
import Derived.Ground.GgzProg
import Derived.Ground.SlgmProg
import Derived.Test.YtfkchheildfkpaaGreatDoorProg
import Derived.Test.YtfkchheildfkpaaGreatDoorRfNat
namespace Go.Proofs
open Go.Shelf
def Tryz.keys128_ren : Go.Shelf.Ren := ⟨fun | 7 => 128 | 10 => 194 | n => n, fun | 23 => 99 | 26 => 9 | 3 => 9 | 28 => 217 | 0 => 0 | 27 => 216 | 33 => 228 | 4 => 4 | n => n, fun | n => n⟩
theorem Tryz.keys128 : Go.Proofs.SlLaysZ.n7 Tryz.prog Tryz.keys128_ren := {
  mixed := by kernel_rfl
  f7 := ⟨Tryz.f128.name, by decide, Tryz.func128.trans (congrArg some (by kernel_rfl))⟩
  f10 := ⟨Tryz.f194.name, by decide, Tryz.func194.trans (congrArg some (by kernel_rfl))⟩
  t0 := Tryz.underlying0
  a0 := Tryz.isAgg0
  z0 := Tryz.sizeOf0
  v0 := Tryz.zeroValue0
  t4 := Tryz.underlying4
  a4 := Tryz.isAgg4
  z4 := Tryz.sizeOf4
  v4 := Tryz.zeroValue4
  t23 := Tryz.underlying99
  a23 := Tryz.isAgg99
  z23 := Tryz.sizeOf99
  v23 := Tryz.zeroValue99
  t26 := Tryz.underlying9
  a26 := Tryz.isAgg9
  z26 := Tryz.sizeOf9
  v26 := Tryz.zeroValue9
  t27 := Tryz.underlying216
  a27 := Tryz.isAgg216
  z27 := Tryz.sizeOf216
  v27 := Tryz.zeroValue216
  t28 := Tryz.underlying217
  a28 := Tryz.isAgg217
  z28 := Tryz.sizeOf217
  v28 := Tryz.zeroValue217
  t33 := Tryz.underlying228
  a33 := Tryz.isAgg228
  z33 := Tryz.sizeOf228
  v33 := Tryz.zeroValue228 }
def Tryz.sorted127_ren : Go.Shelf.Ren := ⟨fun | 6 => 127 | 8 => 193 | 9 => 160 | 11 => 263 | 13 => 229 | 12 => 236 | 23 => 298 | 24 => 299 | 14 => 300 | 15 => 301 | 16 => 302 | 17 => 303 | 18 => 304 | 19 => 305 | 20 => 237 | 21 => 306 | 22 => 307 | 25 => 361 | 26 => 357 | 27 => 358 | 28 => 362 | 29 => 363 | 30 => 230 | 31 => 395 | n => n, fun | 26 => 9 | 28 => 217 | 24 => 27 | 0 => 0 | 3 => 3 | 37 => 162 | 48 => 358 | 50 => 365 | 4 => 4 | 40 => 402 | 39 => 401 | 45 => 264 | 5 => 5 | 9 => 9 | 51 => 451 | 55 => 455 | 57 => 487 | 58 => 488 | 33 => 228 | n => n, fun | n => n⟩
theorem Tryz.sorted127 : Go.Proofs.SlLaysZ.n6 Tryz.prog Tryz.sorted127_ren := {
  mixed := by kernel_rfl
  f6 := ⟨Tryz.f127.name, by decide, Tryz.func127.trans (congrArg some (by kernel_rfl))⟩
  f8 := ⟨Tryz.f193.name, by decide, Tryz.func193.trans (congrArg some (by kernel_rfl))⟩
  f11 := ⟨Tryz.f263.name, by decide, Tryz.func263.trans (congrArg some (by kernel_rfl))⟩
  t0 := Tryz.underlying0
  a0 := Tryz.isAgg0
  z0 := Tryz.sizeOf0
  v0 := Tryz.zeroValue0
  t24 := Tryz.underlying27
  a24 := Tryz.isAgg27
  z24 := Tryz.sizeOf27
  v24 := Tryz.zeroValue27
  t26 := Tryz.underlying9
  a26 := Tryz.isAgg9
  z26 := Tryz.sizeOf9
  v26 := Tryz.zeroValue9
  t28 := Tryz.underlying217
  a28 := Tryz.isAgg217
  z28 := Tryz.sizeOf217
  v28 := Tryz.zeroValue217
  i26 := by kernel_rfl }
def Tryz.sort160_ren : Go.Shelf.Ren := ⟨fun | 6 => 160 | 8 => 229 | 9 => 236 | 19 => 298 | 20 => 299 | 21 => 300 | 22 => 301 | 23 => 302 | 24 => 303 | 25 => 304 | 26 => 305 | 27 => 237 | 28 => 306 | 29 => 307 | 36 => 361 | 31 => 357 | 32 => 358 | 37 => 362 | 38 => 363 | 39 => 230 | 41 => 395 | n => n, fun | 27 => 27 | 29 => 9 | 3 => 3 | 32 => 162 | 26 => 27 | 0 => 0 | 44 => 358 | 46 => 365 | 4 => 4 | 36 => 402 | 35 => 401 | 41 => 264 | 5 => 5 | 9 => 9 | 53 => 451 | 57 => 455 | 63 => 487 | 64 => 488 | n => n, fun | n => n⟩
theorem Tryz.sort160 : Go.Proofs.SlLaysM.n6 Tryz.prog Tryz.sort160_ren := {
  mixed := by kernel_rfl
  f6 := ⟨Tryz.f160.name, by decide, Tryz.func160.trans (congrArg some (by kernel_rfl))⟩
  f8 := Tryz.func229.trans (congrArg some (by kernel_rfl))
  f9 := ⟨Tryz.f236.name, by decide, Tryz.func236.trans (congrArg some (by kernel_rfl))⟩
  f19 := Tryz.func298.trans (congrArg some (by kernel_rfl))
  f20 := Tryz.func299.trans (congrArg some (by kernel_rfl))
  f21 := ⟨Tryz.f300.name, by decide, Tryz.func300.trans (congrArg some (by kernel_rfl))⟩
  f22 := ⟨Tryz.f301.name, by decide, Tryz.func301.trans (congrArg some (by kernel_rfl))⟩
  f23 := ⟨Tryz.f302.name, by decide, Tryz.func302.trans (congrArg some (by kernel_rfl))⟩
  f24 := ⟨Tryz.f303.name, by decide, Tryz.func303.trans (congrArg some (by kernel_rfl))⟩
  f25 := ⟨Tryz.f304.name, by decide, Tryz.func304.trans (congrArg some (by kernel_rfl))⟩
  f26 := ⟨Tryz.f305.name, by decide, Tryz.func305.trans (congrArg some (by kernel_rfl))⟩
  f27 := ⟨Tryz.f237.name, by decide, Tryz.func237.trans (congrArg some (by kernel_rfl))⟩
  f28 := ⟨Tryz.f306.name, by decide, Tryz.func306.trans (congrArg some (by kernel_rfl))⟩
  f29 := ⟨Tryz.f307.name, by decide, Tryz.func307.trans (congrArg some (by kernel_rfl))⟩
  f31 := Tryz.func357.trans (congrArg some (by kernel_rfl))
  f32 := Tryz.func358.trans (congrArg some (by kernel_rfl))
  f36 := ⟨Tryz.f361.name, by decide, Tryz.func361.trans (congrArg some (by kernel_rfl))⟩
  f37 := ⟨Tryz.f362.name, by decide, Tryz.func362.trans (congrArg some (by kernel_rfl))⟩
  f38 := ⟨Tryz.f363.name, by decide, Tryz.func363.trans (congrArg some (by kernel_rfl))⟩
  f39 := ⟨Tryz.f230.name, by decide, Tryz.func230.trans (congrArg some (by kernel_rfl))⟩
  f41 := ⟨Tryz.f395.name, by decide, Tryz.func395.trans (congrArg some (by kernel_rfl))⟩
  t0 := Tryz.underlying0
  a0 := Tryz.isAgg0
  z0 := Tryz.sizeOf0
  v0 := Tryz.zeroValue0
  t3 := Tryz.underlying3
  a3 := Tryz.isAgg3
  z3 := Tryz.sizeOf3
  v3 := Tryz.zeroValue3
  t4 := Tryz.underlying4
  a4 := Tryz.isAgg4
  z4 := Tryz.sizeOf4
  v4 := Tryz.zeroValue4
  t5 := Tryz.underlying5
  a5 := Tryz.isAgg5
  z5 := Tryz.sizeOf5
  v5 := Tryz.zeroValue5
  t9 := Tryz.underlying9
  a9 := Tryz.isAgg9
  z9 := Tryz.sizeOf9
  v9 := Tryz.zeroValue9
  t26 := Tryz.underlying27
  a26 := Tryz.isAgg27
  z26 := Tryz.sizeOf27
  v26 := Tryz.zeroValue27
  t27 := Tryz.underlying27
  a27 := Tryz.isAgg27
  z27 := Tryz.sizeOf27
  v27 := Tryz.zeroValue27
  t29 := Tryz.underlying9
  a29 := Tryz.isAgg9
  z29 := Tryz.sizeOf9
  v29 := Tryz.zeroValue9
  t32 := Tryz.underlying162
  a32 := Tryz.isAgg162
  z32 := Tryz.sizeOf162
  v32 := Tryz.zeroValue162
  t35 := Tryz.underlying401
  a35 := Tryz.isAgg401
  z35 := Tryz.sizeOf401
  v35 := Tryz.zeroValue401
  t36 := Tryz.underlying402
  a36 := Tryz.isAgg402
  z36 := Tryz.sizeOf402
  v36 := Tryz.zeroValue402
  t41 := Tryz.underlying264
  a41 := Tryz.isAgg264
  z41 := Tryz.sizeOf264
  v41 := Tryz.zeroValue264
  t44 := Tryz.underlying358
  a44 := Tryz.isAgg358
  z44 := Tryz.sizeOf358
  v44 := Tryz.zeroValue358
  t46 := Tryz.underlying365
  a46 := Tryz.isAgg365
  z46 := Tryz.sizeOf365
  v46 := Tryz.zeroValue365
  t53 := Tryz.underlying451
  a53 := Tryz.isAgg451
  z53 := Tryz.sizeOf451
  v53 := Tryz.zeroValue451
  t57 := Tryz.underlying455
  a57 := Tryz.isAgg455
  z57 := Tryz.sizeOf455
  v57 := Tryz.zeroValue455
  t63 := Tryz.underlying487
  a63 := Tryz.isAgg487
  z63 := Tryz.sizeOf487
  v63 := Tryz.zeroValue487
  t64 := Tryz.underlying488
  a64 := Tryz.isAgg488
  z64 := Tryz.sizeOf488
  v64 := Tryz.zeroValue488 }
def Tryz.keys157_ren : Go.Shelf.Ren := ⟨fun | 7 => 157 | 10 => 235 | n => n, fun | 23 => 252 | 26 => 9 | 3 => 3 | 28 => 217 | 0 => 0 | 27 => 216 | 33 => 228 | 4 => 4 | n => n, fun | n => n⟩
theorem Tryz.keys157 : Go.Proofs.SlLaysZ.n7 Tryz.prog Tryz.keys157_ren := {
  mixed := by kernel_rfl
  f7 := ⟨Tryz.f157.name, by decide, Tryz.func157.trans (congrArg some (by kernel_rfl))⟩
  f10 := ⟨Tryz.f235.name, by decide, Tryz.func235.trans (congrArg some (by kernel_rfl))⟩
  t0 := Tryz.underlying0
  a0 := Tryz.isAgg0
  z0 := Tryz.sizeOf0
  v0 := Tryz.zeroValue0
  t4 := Tryz.underlying4
  a4 := Tryz.isAgg4
  z4 := Tryz.sizeOf4
  v4 := Tryz.zeroValue4
  t23 := Tryz.underlying252
  a23 := Tryz.isAgg252
  z23 := Tryz.sizeOf252
  v23 := Tryz.zeroValue252
  t26 := Tryz.underlying9
  a26 := Tryz.isAgg9
  z26 := Tryz.sizeOf9
  v26 := Tryz.zeroValue9
  t27 := Tryz.underlying216
  a27 := Tryz.isAgg216
  z27 := Tryz.sizeOf216
  v27 := Tryz.zeroValue216
  t28 := Tryz.underlying217
  a28 := Tryz.isAgg217
  z28 := Tryz.sizeOf217
  v28 := Tryz.zeroValue217
  t33 := Tryz.underlying228
  a33 := Tryz.isAgg228
  z33 := Tryz.sizeOf228
  v33 := Tryz.zeroValue228 }
end Go.Proofs
namespace Go.Proofs
open Go.RowKit Go.Maps Go.Sort Go.Shelf
theorem Tryz.sorts127 (m : Nat) : AnyZ.SortsIn Tryz.prog Tryz.sorted127_ren Fence.wide m :=
 ⟨fun blk off cap ss W hH hblk hsz => callsIn_wide.2 (AnyM.slices_Sort_string Tryz.sort160 blk off cap ss W hH hblk hsz),
  fun p cap W => callsIn_wide.2 (AnyM.slices_Sort_string_none Tryz.sort160 p cap W)⟩
namespace YtfkchheildfkpaaGreatDoor.Refl.Abs
set_option maxHeartbeats 1000000 in
theorem keysLaw128 : KeysLaw Tryz.prog 127 194 9 := by
 intro bm b nn D w hbm hm hown hsz
 have hmx : (1000000 : Nat) ≤ maxLen := by decide
 have hseq : SeqGives Fence.wide 2 Tryz.prog 194 #[.pointer (some ⟨bm, 0, none⟩)] encStr (fun ss => ss.Perm (strKeys D)) (Maps.size D) w :=
   AnyZ.keys_gives (ρ := Tryz.keys128_ren) { Tryz.keys128 with } Fence.wide _ trivial rfl (by omega) bm b nn D w hbm hm hown
 exact (callsIn_wide (n := 5)).1 (AnyZ.sorted_in Tryz.sorted127 Fence.wide 5 trivial trivial trivial trivial rfl (by omega) (Tryz.sorts127 _) (enters_of Tryz.func160 (by kernel_rfl) rfl) 194 #[.pointer (some ⟨bm, 0, none⟩)] trivial (enters_of Tryz.func194 (by kernel_rfl) rfl) _ _ (by omega) (by omega) _ hseq)
set_option maxHeartbeats 1000000 in
theorem keysLaw157 : KeysLaw Tryz.prog 127 235 9 := by
 intro bm b nn D w hbm hm hown hsz
 have hmx : (1000000 : Nat) ≤ maxLen := by decide
 have hseq : SeqGives Fence.wide 2 Tryz.prog 235 #[.pointer (some ⟨bm, 0, none⟩)] encStr (fun ss => ss.Perm (strKeys D)) (Maps.size D) w :=
   AnyZ.keys_gives (ρ := Tryz.keys157_ren) { Tryz.keys157 with } Fence.wide _ trivial rfl (by omega) bm b nn D w hbm hm hown
 exact (callsIn_wide (n := 5)).1 (AnyZ.sorted_in Tryz.sorted127 Fence.wide 5 trivial trivial trivial trivial rfl (by omega) (Tryz.sorts127 _) (enters_of Tryz.func160 (by kernel_rfl) rfl) 235 #[.pointer (some ⟨bm, 0, none⟩)] trivial (enters_of Tryz.func235 (by kernel_rfl) rfl) _ _ (by omega) (by omega) _ hseq)
noncomputable def keysIts : List Nat := [194, 235]
theorem keysAt {W : World} {G : Nat} : FuncOk ⟨Tryz.prog, compC Tryz.prog G, G, W⟩ Unit 127 (keysO keysIts 9) := keys_ok Tryz.func127 (by kernel_rfl) rfl (by kernel_rfl) fun it hit => by
 simp only [keysIts, List.mem_cons, List.not_mem_nil, or_false] at hit
 rcases hit with rfl | rfl
 · exact keysLaw128
 · exact keysLaw157
end YtfkchheildfkpaaGreatDoor.Refl.Abs
end Go.Proofs
