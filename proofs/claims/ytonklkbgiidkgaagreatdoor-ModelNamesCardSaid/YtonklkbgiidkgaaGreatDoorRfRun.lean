/-
 The closed law ModelNames, run by the kernel.
-/
import Derived.Test.YtonklkbgiidkgaaGreatDoorRfLit
import Derived.Test.YtonklkbgiidkgaaGreatDoorRfSha
import Derived.Test.YtonklkbgiidkgaaGreatDoorRfKeys
import Derived.Test.YtonklkbgiidkgaaGreatDoorRfIter
import Derived.Test.YtonklkbgiidkgaaGreatDoorRfJoin
import Derived.Test.YtonklkbgiidkgaaGreatDoorRfIndex
import Derived.Test.YtonklkbgiidkgaaGreatDoorRfFound
import Derived.Test.YtonklkbgiidkgaaGreatDoorRfMake
import Derived.Test.YtonklkbgiidkgaaGreatDoorRfCaught
import Derived.Test.YtonklkbgiidkgaaGreatDoorRfNames
namespace Go.Proofs.YtonklkbgiidkgaaGreatDoor.Refl
open Go Go.RowKit
namespace Abs
def tx0 : Nat := 438505644249355985236350260942440366292365976364438212678800933546122195721580277872227224659114791820922108576201468072482357199597921199974631775726715680585942319190306604230585758625350791104695011443701586882399791353311363302221519807914016422500614373549165579566107877516774987133817512399073932639746264927104338760903051996603977470471999324166
def ty0 : Nat := 112338423189886312522904167033569553050026738092958063376233671289195378810939
theorem dig0 : sumN 147 tx0 = ty0 := by kernel_rfl
def tx1 : Nat := 4999807042883826171641191833414378698440842053951423597142368781215197286702543415129063442922471716991192811072687068976238083771
def ty1 : Nat := 110347841721381032595708297145580605992169773690936847042688767997802171272650
theorem dig1 : sumN 54 tx1 = ty1 := by kernel_rfl
def tx2 : Nat := 4999807042883826017727105128748444275475841662765432171049637255959546240029522304794212773011492766153998850724216518282405019648
def ty2 : Nat := 84240470632264132676603034322856140966331366444991783022407970546922370362131
theorem dig2 : sumN 54 tx2 = ty2 := by kernel_rfl
def tx3 : Nat := 4999807042883825863813018424082509852510841271579440744956905730703895193356501194459362103100513815316962055196405136224576102763
def ty3 : Nat := 4817712263251234493383793896999332261901874199730507444643045768057542444217
theorem dig3 : sumN 54 tx3 = ty3 := by kernel_rfl
def tx4 : Nat := 2279348181506305221811176639365120
def ty4 : Nat := 26266541301079717510786834255867552485219526538696323072927210582622315121399
theorem dig4 : sumN 14 tx4 = ty4 := by kernel_rfl
def tx5 : Nat := 110404050157568
def ty5 : Nat := 37768315812656398116598315521280239680748658143158031733107003988264182348837
theorem dig5 : sumN 6 tx5 = ty5 := by kernel_rfl
def tx6 : Nat := 193258770210918254966160089128869993685121307345731545133887127586443624448
def ty6 : Nat := 54034568168375393131714391813819810156277222411065496406551308858829582217887
theorem dig6 : sumN 31 tx6 = ty6 := by kernel_rfl
noncomputable def sumTab : List (Nat × Nat × Nat) := [(147, tx0, ty0), (54, tx1, ty1), (54, tx2, ty2), (54, tx3, ty3), (14, tx4, ty4), (6, tx5, ty5), (31, tx6, ty6)]
theorem sumTab_ok : ∀ p ∈ sumTab, sumN p.1 p.2.1 = p.2.2 := by
 unfold sumTab
 refine List.forall_mem_cons.2 ⟨dig0, ?_⟩
 refine List.forall_mem_cons.2 ⟨dig1, ?_⟩
 refine List.forall_mem_cons.2 ⟨dig2, ?_⟩
 refine List.forall_mem_cons.2 ⟨dig3, ?_⟩
 refine List.forall_mem_cons.2 ⟨dig4, ?_⟩
 refine List.forall_mem_cons.2 ⟨dig5, ?_⟩
 refine List.forall_mem_cons.2 ⟨dig6, ?_⟩
 intro p hp
 cases hp
noncomputable def orc1L : List (Nat × (List AVal → AState → KV Unit → Option Unit)) := (178, textO (sumT sumTab) len32) :: (356, textO hexN len2) :: (166, checkO 167) :: (54, cloneO) :: (193, keysO keysIts 9) :: (226, joinO) :: (408, indexO) :: []
noncomputable def orc1T : T (List AVal → AState → KV Unit → Option Unit) := (.node (.node .leaf none (.node (.node (.node (.node (.node .leaf none (.node .leaf (some (keysO keysIts 9)) .leaf)) none .leaf) none .leaf) none .leaf) none .leaf)) none (.node (.node (.node .leaf none (.node .leaf none (.node (.node (.node .leaf none (.node .leaf (some (indexO)) .leaf)) none .leaf) none .leaf))) none (.node (.node (.node .leaf none (.node .leaf none (.node (.node .leaf (some (textO hexN len2)) .leaf) none .leaf))) none .leaf) none .leaf)) none (.node (.node (.node (.node .leaf none (.node .leaf none (.node .leaf (some (joinO)) .leaf))) none (.node .leaf none (.node (.node .leaf (some (textO (sumT sumTab) len32)) .leaf) none .leaf))) none .leaf) none (.node (.node (.node .leaf none (.node (.node .leaf (some (checkO 167)) .leaf) none .leaf)) none (.node .leaf (some (cloneO)) .leaf)) none .leaf))))
theorem orc1_eq : orc1T = tabOf orc1L := by kernel_rfl
theorem orc1_ok (W : World) : ∀ p ∈ orc1L, FuncOk ⟨Tryz.prog, compC Tryz.prog 7, 7, W⟩ Unit p.1 p.2 := by
 intro p hp
 simp only [orc1L, List.mem_cons, List.not_mem_nil, or_false] at hp
 rcases hp with rfl | rfl | rfl | rfl | rfl | rfl | rfl
 · exact sumT_ok sumTab_ok
 · exact hex_ok
 · exact check_ok
 · exact clone_ok
 · exact keysAt
 · exact joinAt
 · exact indexAt
noncomputable def C1 : Cfg Unit := ⟨Lit.fnsT, orc1T⟩
theorem C1_ok (W : World) : CfgOk ⟨Tryz.prog, compC Tryz.prog 7, 7, W⟩ Unit C1 := cfg_ok (Lit.fns_ok W) Lit.fns_eq (orc1_ok W) orc1_eq rfl (by kernel_rfl)
theorem new_run : fcallF C1 (fexec C1 1000000) 420 [] (startA .leaf 7) (isRowK fieldL 543) = some () := by kernel_rfl
noncomputable def orc2L : List (Nat × (List AVal → AState → KV Unit → Option Unit)) := (420, newO fieldL 543) :: orc1L
noncomputable def orc2T : T (List AVal → AState → KV Unit → Option Unit) := (.node (.node .leaf none (.node (.node (.node (.node (.node .leaf none (.node .leaf (some (keysO keysIts 9)) .leaf)) none .leaf) none .leaf) none .leaf) none .leaf)) none (.node (.node (.node .leaf none (.node .leaf none (.node (.node (.node .leaf none (.node .leaf (some (indexO)) .leaf)) none .leaf) none .leaf))) none (.node (.node (.node .leaf none (.node (.node .leaf none (.node .leaf (some (newO fieldL 543)) .leaf)) none (.node (.node .leaf (some (textO hexN len2)) .leaf) none .leaf))) none .leaf) none .leaf)) none (.node (.node (.node (.node .leaf none (.node .leaf none (.node .leaf (some (joinO)) .leaf))) none (.node .leaf none (.node (.node .leaf (some (textO (sumT sumTab) len32)) .leaf) none .leaf))) none .leaf) none (.node (.node (.node .leaf none (.node (.node .leaf (some (checkO 167)) .leaf) none .leaf)) none (.node .leaf (some (cloneO)) .leaf)) none .leaf))))
theorem orc2_eq : orc2T = tabOf orc2L := by kernel_rfl
theorem orc2_ok (W : World) : ∀ p ∈ orc2L, FuncOk ⟨Tryz.prog, compC Tryz.prog 7, 7, W⟩ Unit p.1 p.2 := by
 intro p hp
 rcases List.mem_cons.1 hp with rfl | hp
 · exact new_ok Tryz.func420 (by kernel_rfl) rfl C1_ok (by kernel_rfl) (by kernel_rfl) new_run
 · exact orc1_ok W p hp
noncomputable def C2 : Cfg Unit := ⟨Lit.fnsT, orc2T⟩
theorem C2_ok (W : World) : CfgOk ⟨Tryz.prog, compC Tryz.prog 7, 7, W⟩ Unit C2 := cfg_ok (Lit.fns_ok W) Lit.fns_eq (orc2_ok W) orc2_eq rfl (by kernel_rfl)
noncomputable def orc3L : List (Nat × (List AVal → AState → KV Unit → Option Unit)) := (285, foundO (fcallF C2 (fexec C2 1000000))) :: (253, makeOF (sumT sumTab) (fcallF C2 (fexec C2 1000000)) 7) :: orc2L
noncomputable def orc3T : T (List AVal → AState → KV Unit → Option Unit) := (.node (.node .leaf none (.node (.node (.node (.node (.node .leaf none (.node .leaf (some (keysO keysIts 9)) .leaf)) none .leaf) none .leaf) none .leaf) none (.node .leaf none (.node .leaf none (.node (.node (.node (.node .leaf (some (foundO (fcallF C2 (fexec C2 1000000)))) .leaf) none .leaf) none .leaf) none (.node .leaf none (.node .leaf (some (makeOF (sumT sumTab) (fcallF C2 (fexec C2 1000000)) 7)) .leaf))))))) none (.node (.node (.node .leaf none (.node .leaf none (.node (.node (.node .leaf none (.node .leaf (some (indexO)) .leaf)) none .leaf) none .leaf))) none (.node (.node (.node .leaf none (.node (.node .leaf none (.node .leaf (some (newO fieldL 543)) .leaf)) none (.node (.node .leaf (some (textO hexN len2)) .leaf) none .leaf))) none .leaf) none .leaf)) none (.node (.node (.node (.node .leaf none (.node .leaf none (.node .leaf (some (joinO)) .leaf))) none (.node .leaf none (.node (.node .leaf (some (textO (sumT sumTab) len32)) .leaf) none .leaf))) none .leaf) none (.node (.node (.node .leaf none (.node (.node .leaf (some (checkO 167)) .leaf) none .leaf)) none (.node .leaf (some (cloneO)) .leaf)) none .leaf))))
theorem orc3_eq : orc3T = tabOf orc3L := by kernel_rfl
theorem orc3_ok (W : World) : ∀ p ∈ orc3L, FuncOk ⟨Tryz.prog, compC Tryz.prog 7, 7, W⟩ Unit p.1 p.2 := by
 intro p hp
 rcases List.mem_cons.1 hp with rfl | hp
 · exact found_ok (C2_ok W) (by kernel_rfl) (by kernel_rfl) (by kernel_rfl) (by kernel_rfl)
 rcases List.mem_cons.1 hp with rfl | hp
 · exact makeOF_ok (sumT_eq sumTab_ok) C2_ok (by kernel_rfl)
 exact orc2_ok W p hp
noncomputable def C3 : Cfg Unit := ⟨Lit.fnsT, orc3T⟩
theorem C3_ok (W : World) : CfgOk ⟨Tryz.prog, compC Tryz.prog 7, 7, W⟩ Unit C3 := cfg_ok (Lit.fns_ok W) Lit.fns_eq (orc3_ok W) orc3_eq rfl (by kernel_rfl)
noncomputable def orc4L : List (Nat × (List AVal → AState → KV Unit → Option Unit)) := (91, caughtO [264, 92] (fcallF C3 (fexec C3 1000000))) :: orc3L
noncomputable def orc4T : T (List AVal → AState → KV Unit → Option Unit) := (.node (.node (.node .leaf none (.node .leaf none (.node .leaf none (.node (.node .leaf (some (caughtO [264, 92] (fcallF C3 (fexec C3 1000000)))) .leaf) none .leaf)))) none (.node (.node (.node (.node (.node .leaf none (.node .leaf (some (keysO keysIts 9)) .leaf)) none .leaf) none .leaf) none .leaf) none (.node .leaf none (.node .leaf none (.node (.node (.node (.node .leaf (some (foundO (fcallF C2 (fexec C2 1000000)))) .leaf) none .leaf) none .leaf) none (.node .leaf none (.node .leaf (some (makeOF (sumT sumTab) (fcallF C2 (fexec C2 1000000)) 7)) .leaf))))))) none (.node (.node (.node .leaf none (.node .leaf none (.node (.node (.node .leaf none (.node .leaf (some (indexO)) .leaf)) none .leaf) none .leaf))) none (.node (.node (.node .leaf none (.node (.node .leaf none (.node .leaf (some (newO fieldL 543)) .leaf)) none (.node (.node .leaf (some (textO hexN len2)) .leaf) none .leaf))) none .leaf) none .leaf)) none (.node (.node (.node (.node .leaf none (.node .leaf none (.node .leaf (some (joinO)) .leaf))) none (.node .leaf none (.node (.node .leaf (some (textO (sumT sumTab) len32)) .leaf) none .leaf))) none .leaf) none (.node (.node (.node .leaf none (.node (.node .leaf (some (checkO 167)) .leaf) none .leaf)) none (.node .leaf (some (cloneO)) .leaf)) none .leaf))))
theorem orc4_eq : orc4T = tabOf orc4L := by kernel_rfl
theorem orc4_ok (W : World) : ∀ p ∈ orc4L, FuncOk ⟨Tryz.prog, compC Tryz.prog 7, 7, W⟩ Unit p.1 p.2 := by
 intro p hp
 rcases List.mem_cons.1 hp with rfl | hp
 · refine caught_ok (C3_ok W) fun g hg => ?_
   simp only [List.mem_cons, List.not_mem_nil, or_false] at hg
   rcases hg with rfl | rfl
   all_goals kernel_rfl
 exact orc3_ok W p hp
noncomputable def C4 : Cfg Unit := ⟨Lit.fnsT, orc4T⟩
theorem C4_ok (W : World) : CfgOk ⟨Tryz.prog, compC Tryz.prog 7, 7, W⟩ Unit C4 := cfg_ok (Lit.fns_ok W) Lit.fns_eq (orc4_ok W) orc4_eq rfl (by kernel_rfl)
theorem run : fcallB (fexec C4 1000000) Lit.a3 [] (startA namesHeap 7) isTrueK = some () := by kernel_rfl
theorem true_any (W : World) (hG : 7 ≤ W.heap.size) (hh : HeapOk ⟨Tryz.prog, compC Tryz.prog 7, 7, W⟩ namesHeap (fun _ => 2)) : Calls Tryz.prog 3 #[] W fun e W' => e = .returned (.bool true) ∧ Below W.heap.size W W' :=
 calls_true (E := ⟨Tryz.prog, compC Tryz.prog 7, 7, W⟩) (C4_ok W) (Lit.ok3 W) (heap := namesHeap) (N := (fun _ => 2)) hG hh ((frun_eq C4 1000000 Lit.a3 [] _ _).symm.trans run)
end Abs
end Go.Proofs.YtonklkbgiidkgaaGreatDoor.Refl
