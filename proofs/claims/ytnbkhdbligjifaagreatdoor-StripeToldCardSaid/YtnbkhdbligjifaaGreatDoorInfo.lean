/-
 slices.Sorted over maps.Keys: what the library's law says of a map in memory. DERIVED: THE SHELF's CONTRACTS AT THIS DUMP, IN PLAIN WORDS (tools/lay-plain.mjs out of 'TryzIter0.lean', which tools/lay-shelf.mjs wrote): THE SAME DECLARATIONS UNDER THE SAME NAMES: 'import', 'namespace', 'open', 'def', 'theorem' AND NOTHING ELSE: no command of the shelf's: FOR A HAND-IN. Each laying: the table of numbers ('.._ren') and one theorem, a field a fact of the dump's own or the kernel's comparison; each contract: ONE APPLICATION. The library's law on sorted keys, at this dump. What the program's types uint8 and string are.
-/
import Derived.Sort.KeysCollected
import Derived.Sort.Walk0
import Derived.Laws.AppendOwn
import Derived.Test.YtnbkhdbligjifaaGreatDoorStoA
import Derived.Shelf.SlIter.Nil
import Derived.Shelf.SortM.Plain
import Derived.Shelf.SortM.SortNone
import Derived.Ground.GgzProg
import Derived.Ground.SlgmProg
import Derived.Test.YtnbkhdbligjifaaGreatDoorProg
import Derived.WalkKit
set_option linter.unusedVariables false
set_option linter.unusedSimpArgs false
set_option maxHeartbeats 40000000
namespace Go.Proofs.YtnbkhdbligjifaaGreatDoor
open Go Go.RowKit Go.Maps Go.Sort
open Go.WideElems (Fit rd rg pl rd_val elemAt)
namespace Vm
theorem owns_keys {P : Program} {k : TypeId} (hk : P.underlying k = some .string) {w : World} {b cl : Nat} {es : Array MapEntry} {bs : List (List UInt8)} (hb : w.heap[b]? = some (.map es cl)) (hkeys : es.toList.map (·.key) = bs.map encStr) (hborn : ∀ e ∈ es.toList, e.born < cl)
 (hnd : (es.toList.map (·.born)).Nodup) (hbs : bs.Nodup) (hlen : ∀ x ∈ bs, x.length ≤ 1000000) (hsz : es.size ≤ 1000000) :
 ∃ D : DataW Unit, w.ownsMap P k (fun _ => some (.nil, [])) b es.size D ∧ Maps.size D = es.size ∧ (strKeys D).Perm bs := by
 have hmx : (1000000 : Nat) ≤ maxLen := by decide
 have hrd : ∀ x ∈ es.toList, ∃ s : List UInt8, s ∈ bs ∧ x.key = encStr s ∧ rd (H := Unit) P k (fun _ => some (.nil, [])) x = some (.string s, .nil) := by
  intro x hx
  have hm : x.key ∈ bs.map encStr := by rw [← hkeys]; exact List.mem_map_of_mem hx
  obtain ⟨s, hs, he⟩ := List.mem_map.1 hm
  refine ⟨s, hs, he.symm, ?_⟩
  have : keyOf P k x.key = some (.string s) := by
   rw [← he, encStr, Go.WideMaps.keyOf_string_mk hk (by have := hlen s hs; show s.toArray.size ≤ _; simp; omega)]
  unfold Go.WideElems.rd
  rw [this]
  rfl
 have hF : Fit (H := Unit) P k (fun _ => some (.nil, [])) es cl := by
  refine ⟨by omega, ⟨hborn, hnd, ?_⟩, fun x hx => let ⟨s, _, _, h⟩ := hrd x hx; ⟨_, h⟩⟩
  rw [hkeys]
  exact List.Pairwise.map _ (fun a b (hne : a ≠ b) he => hne (encStr_inj he)) hbs
 refine ⟨_, ⟨es, cl, hb, hF, Nat.le_refl _, rfl⟩, ?_, ?_⟩
 ·show ((es.toList.map _).foldr DataW.insert []).length = _
  rw [length_sorted]; simp
 ·show (((es.toList.map (rg (H := Unit) P k fun _ => some (.nil, []))).foldr DataW.insert []).map fun p => strOf p.1).Perm bs
  refine ((Go.WideShapes.sorted_perm _).map _).trans ?_
  have : (es.toList.map (rg (H := Unit) P k fun _ => some (.nil, []))).map (fun p => strOf p.1) = bs := by
   have inj : ∀ a b : List (List UInt8), a.map encStr = b.map encStr → a = b := by
    intro a
    induction a with
    | nil => intro b h; cases b with | nil => rfl | cons => simp at h
    | cons x a ih => intro b h; cases b with
      | nil => simp at h
      | cons y b => rw [List.map_cons, List.map_cons, List.cons.injEq] at h; rw [encStr_inj h.1, ih b h.2]
   refine inj _ _ ?_
   rw [← hkeys, List.map_map, List.map_map]
   refine List.map_congr_left fun x hx => ?_
   obtain ⟨s, _, he, hr⟩ := hrd x hx
   show encStr (strOf (rg P k _ x).1) = x.key
   rw [Go.WideElems.rg_of hr, he]; rfl
  rw [this]
def KeysLaw (P : Program) (g it ks : Nat) : Prop :=
 ∀ (bm b nn : Nat) (D : DataW Unit) (w : World), bm < w.heap.size → w.cell? ⟨bm, 0, none⟩ = some (.map (some b)) → w.ownsMap P ks (fun _ => some (.nil, [])) b nn D → Maps.size D ≤ 1000000 →
  Calls P g #[.func (.func it) #[] #[.pointer (some ⟨bm, 0, none⟩)]] w fun e w' => ∃ (v : Value) (ss : List (List UInt8)), e = .returned v ∧ ss.Perm (strKeys D) ∧
   w'.ownsRow w.heap.size ks 1 v ss.length ((ss.mergeSort (fun x y => decide (x ≤ y))).map encStr) ∧ (v = .slice none 0 0 ↔ ss = []) ∧ Below w.heap.size w w'
end Vm
end Go.Proofs.YtnbkhdbligjifaaGreatDoor
namespace Go.Proofs
open Go.Shelf
def Tryz.keys127_ren : Go.Shelf.Ren := ⟨fun | 7 => 127 | 10 => 153 | n => n, fun | 23 => 126 | 26 => 9 | 3 => 9 | 28 => 203 | 0 => 0 | 27 => 202 | 33 => 187 | 4 => 4 | n => n, fun | n => n⟩
theorem Tryz.keys127 : Go.Proofs.SlLaysZ.n7 Tryz.prog Tryz.keys127_ren := {
 mixed := by kernel_rfl
 f7 := ⟨Tryz.f127.name, by decide, Tryz.func127.trans (congrArg some (by kernel_rfl))⟩
 f10 := ⟨Tryz.f153.name, by decide, Tryz.func153.trans (congrArg some (by kernel_rfl))⟩
 t0 := Tryz.underlying0
 a0 := Tryz.isAgg0
 z0 := Tryz.sizeOf0
 v0 := Tryz.zeroValue0
 t4 := Tryz.underlying4
 a4 := Tryz.isAgg4
 z4 := Tryz.sizeOf4
 v4 := Tryz.zeroValue4
 t23 := Tryz.underlying126
 a23 := Tryz.isAgg126
 z23 := Tryz.sizeOf126
 v23 := Tryz.zeroValue126
 t26 := Tryz.underlying9
 a26 := Tryz.isAgg9
 z26 := Tryz.sizeOf9
 v26 := Tryz.zeroValue9
 t27 := Tryz.underlying202
 a27 := Tryz.isAgg202
 z27 := Tryz.sizeOf202
 v27 := Tryz.zeroValue202
 t28 := Tryz.underlying203
 a28 := Tryz.isAgg203
 z28 := Tryz.sizeOf203
 v28 := Tryz.zeroValue203
 t33 := Tryz.underlying187
 a33 := Tryz.isAgg187
 z33 := Tryz.sizeOf187
 v33 := Tryz.zeroValue187 }
def Tryz.sorted126_ren : Go.Shelf.Ren := ⟨fun | 6 => 126 | 8 => 151 | 9 => 152 | 11 => 189 | 13 => 133 | 12 => 190 | 23 => 169 | 24 => 170 | 14 => 213 | 15 => 214 | 16 => 215 | 17 => 216 | 18 => 217 | 19 => 218 | 20 => 219 | 21 => 220 | 22 => 221 | 25 => 229 | 26 => 197 | 27 => 198 | 28 => 230 | 29 => 231 | 30 => 232 | 31 => 237 | n => n, fun | 26 => 9 | 28 => 203 | 24 => 60 | 0 => 0 | 3 => 3 | 37 => 48 | 48 => 171 | 50 => 177 | 4 => 4 | 40 => 234 | 39 => 233 | 45 => 239 | 5 => 5 | 9 => 9 | 51 => 271 | 55 => 275 | 57 => 292 | 58 => 293 | 33 => 187 | n => n, fun | n => n⟩
theorem Tryz.sorted126 : Go.Proofs.SlLaysZ.n6 Tryz.prog Tryz.sorted126_ren := {
 mixed := by kernel_rfl
 f6 := ⟨Tryz.f126.name, by decide, Tryz.func126.trans (congrArg some (by kernel_rfl))⟩
 f8 := ⟨Tryz.f151.name, by decide, Tryz.func151.trans (congrArg some (by kernel_rfl))⟩
 f11 := ⟨Tryz.f189.name, by decide, Tryz.func189.trans (congrArg some (by kernel_rfl))⟩
 t0 := Tryz.underlying0
 a0 := Tryz.isAgg0
 z0 := Tryz.sizeOf0
 v0 := Tryz.zeroValue0
 t24 := Tryz.underlying60
 a24 := Tryz.isAgg60
 z24 := Tryz.sizeOf60
 v24 := Tryz.zeroValue60
 t26 := Tryz.underlying9
 a26 := Tryz.isAgg9
 z26 := Tryz.sizeOf9
 v26 := Tryz.zeroValue9
 t28 := Tryz.underlying203
 a28 := Tryz.isAgg203
 z28 := Tryz.sizeOf203
 v28 := Tryz.zeroValue203
 i26 := by kernel_rfl }
def Tryz.sort152_ren : Go.Shelf.Ren := ⟨fun | 6 => 152 | 8 => 133 | 9 => 190 | 19 => 169 | 20 => 170 | 21 => 213 | 22 => 214 | 23 => 215 | 24 => 216 | 25 => 217 | 26 => 218 | 27 => 219 | 28 => 220 | 29 => 221 | 36 => 229 | 31 => 197 | 32 => 198 | 37 => 230 | 38 => 231 | 39 => 232 | 41 => 237 | n => n, fun | 27 => 60 | 29 => 9 | 3 => 3 | 32 => 48 | 26 => 60 | 0 => 0 | 44 => 171 | 46 => 177 | 4 => 4 | 36 => 234 | 35 => 233 | 41 => 239 | 5 => 5 | 9 => 9 | 53 => 271 | 57 => 275 | 63 => 292 | 64 => 293 | n => n, fun | n => n⟩
theorem Tryz.sort152 : Go.Proofs.SlLaysM.n6 Tryz.prog Tryz.sort152_ren := {
 mixed := by kernel_rfl
 f6 := ⟨Tryz.f152.name, by decide, Tryz.func152.trans (congrArg some (by kernel_rfl))⟩
 f8 := Tryz.func133.trans (congrArg some (by kernel_rfl))
 f9 := ⟨Tryz.f190.name, by decide, Tryz.func190.trans (congrArg some (by kernel_rfl))⟩
 f19 := Tryz.func169.trans (congrArg some (by kernel_rfl))
 f20 := Tryz.func170.trans (congrArg some (by kernel_rfl))
 f21 := ⟨Tryz.f213.name, by decide, Tryz.func213.trans (congrArg some (by kernel_rfl))⟩
 f22 := ⟨Tryz.f214.name, by decide, Tryz.func214.trans (congrArg some (by kernel_rfl))⟩
 f23 := ⟨Tryz.f215.name, by decide, Tryz.func215.trans (congrArg some (by kernel_rfl))⟩
 f24 := ⟨Tryz.f216.name, by decide, Tryz.func216.trans (congrArg some (by kernel_rfl))⟩
 f25 := ⟨Tryz.f217.name, by decide, Tryz.func217.trans (congrArg some (by kernel_rfl))⟩
 f26 := ⟨Tryz.f218.name, by decide, Tryz.func218.trans (congrArg some (by kernel_rfl))⟩
 f27 := ⟨Tryz.f219.name, by decide, Tryz.func219.trans (congrArg some (by kernel_rfl))⟩
 f28 := ⟨Tryz.f220.name, by decide, Tryz.func220.trans (congrArg some (by kernel_rfl))⟩
 f29 := ⟨Tryz.f221.name, by decide, Tryz.func221.trans (congrArg some (by kernel_rfl))⟩
 f31 := Tryz.func197.trans (congrArg some (by kernel_rfl))
 f32 := Tryz.func198.trans (congrArg some (by kernel_rfl))
 f36 := ⟨Tryz.f229.name, by decide, Tryz.func229.trans (congrArg some (by kernel_rfl))⟩
 f37 := ⟨Tryz.f230.name, by decide, Tryz.func230.trans (congrArg some (by kernel_rfl))⟩
 f38 := ⟨Tryz.f231.name, by decide, Tryz.func231.trans (congrArg some (by kernel_rfl))⟩
 f39 := ⟨Tryz.f232.name, by decide, Tryz.func232.trans (congrArg some (by kernel_rfl))⟩
 f41 := ⟨Tryz.f237.name, by decide, Tryz.func237.trans (congrArg some (by kernel_rfl))⟩
 t0 := Tryz.underlying0
 a0 := Tryz.isAgg0
 z0 := Tryz.sizeOf0
 v0 := Tryz.zeroValue0
 t3 := Tryz.underlying3
 a3 := Tryz.isAgg3
 z3 := Tryz.sizeOf3
 v3 := Tryz.zeroValue3
 t4 := Tryz.underlying4
 a4 := Tryz.isAgg4
 z4 := Tryz.sizeOf4
 v4 := Tryz.zeroValue4
 t5 := Tryz.underlying5
 a5 := Tryz.isAgg5
 z5 := Tryz.sizeOf5
 v5 := Tryz.zeroValue5
 t9 := Tryz.underlying9
 a9 := Tryz.isAgg9
 z9 := Tryz.sizeOf9
 v9 := Tryz.zeroValue9
 t26 := Tryz.underlying60
 a26 := Tryz.isAgg60
 z26 := Tryz.sizeOf60
 v26 := Tryz.zeroValue60
 t27 := Tryz.underlying60
 a27 := Tryz.isAgg60
 z27 := Tryz.sizeOf60
 v27 := Tryz.zeroValue60
 t29 := Tryz.underlying9
 a29 := Tryz.isAgg9
 z29 := Tryz.sizeOf9
 v29 := Tryz.zeroValue9
 t32 := Tryz.underlying48
 a32 := Tryz.isAgg48
 z32 := Tryz.sizeOf48
 v32 := Tryz.zeroValue48
 t35 := Tryz.underlying233
 a35 := Tryz.isAgg233
 z35 := Tryz.sizeOf233
 v35 := Tryz.zeroValue233
 t36 := Tryz.underlying234
 a36 := Tryz.isAgg234
 z36 := Tryz.sizeOf234
 v36 := Tryz.zeroValue234
 t41 := Tryz.underlying239
 a41 := Tryz.isAgg239
 z41 := Tryz.sizeOf239
 v41 := Tryz.zeroValue239
 t44 := Tryz.underlying171
 a44 := Tryz.isAgg171
 z44 := Tryz.sizeOf171
 v44 := Tryz.zeroValue171
 t46 := Tryz.underlying177
 a46 := Tryz.isAgg177
 z46 := Tryz.sizeOf177
 v46 := Tryz.zeroValue177
 t53 := Tryz.underlying271
 a53 := Tryz.isAgg271
 z53 := Tryz.sizeOf271
 v53 := Tryz.zeroValue271
 t57 := Tryz.underlying275
 a57 := Tryz.isAgg275
 z57 := Tryz.sizeOf275
 v57 := Tryz.zeroValue275
 t63 := Tryz.underlying292
 a63 := Tryz.isAgg292
 z63 := Tryz.sizeOf292
 v63 := Tryz.zeroValue292
 t64 := Tryz.underlying293
 a64 := Tryz.isAgg293
 z64 := Tryz.sizeOf293
 v64 := Tryz.zeroValue293 }
end Go.Proofs
namespace Go.Proofs
open Go.RowKit Go.Maps Go.Sort Go.Shelf
theorem Tryz.sorts126 (m : Nat) : AnyZ.SortsIn Tryz.prog Tryz.sorted126_ren Fence.wide m :=
 ⟨fun blk off cap ss W hH hblk hsz => callsIn_wide.2 (AnyM.slices_Sort_string Tryz.sort152 blk off cap ss W hH hblk hsz),
  fun p cap W => callsIn_wide.2 (AnyM.slices_Sort_string_none Tryz.sort152 p cap W)⟩
namespace YtnbkhdbligjifaaGreatDoor.Vm
theorem keysLaw127 : KeysLaw Tryz.prog 126 153 9 := by
 intro bm b nn D w hbm hm hown hsz
 have hmx : (1000000 : Nat) ≤ maxLen := by decide
 have hseq : SeqGives Fence.wide 2 Tryz.prog 153 #[.pointer (some ⟨bm, 0, none⟩)] encStr (fun ss => ss.Perm (strKeys D)) (Maps.size D) w :=
  AnyZ.keys_gives (ρ := Tryz.keys127_ren) { Tryz.keys127 with } Fence.wide _ trivial rfl (by omega) bm b nn D w hbm hm hown
 exact (callsIn_wide (n := 5)).1 (AnyZ.sorted_in Tryz.sorted126 Fence.wide 5 trivial trivial trivial trivial rfl (by omega) (Tryz.sorts126 _) (enters_of Tryz.func152 (by kernel_rfl) rfl) 153 #[.pointer (some ⟨bm, 0, none⟩)] trivial (enters_of Tryz.func153 (by kernel_rfl) rfl) _ _ (by omega) (by omega) _ hseq)
end YtnbkhdbligjifaaGreatDoor.Vm
end Go.Proofs
namespace Go.Proofs.YtnbkhdbligjifaaGreatDoor
open Go.RowKit
namespace R1
theorem info_u8 : (Tryz.prog.info? 5).map (fun i => (i.zero, i.size, i.bytes)) = some (some (.int .u8 0), 1, 1) := by kernel_rfl
theorem info_str : (Tryz.prog.info? 9).map (fun i => (i.zero, i.size, i.bytes)) = some (some (.string ⟨#[]⟩), 1, 16) := by kernel_rfl
end R1
end Go.Proofs.YtnbkhdbligjifaaGreatDoor
