/-
 A store in memory: what it is, and its functions that write little. slices.Sorted over maps.Keys: what the library's law says of a map in memory. DERIVED: THE SHELF's CONTRACTS AT THIS DUMP, IN PLAIN WORDS (tools/lay-plain.mjs out of 'TryzIter0.lean', which tools/lay-shelf.mjs wrote): THE SAME DECLARATIONS UNDER THE SAME NAMES: 'import', 'namespace', 'open', 'def', 'theorem' AND NOTHING ELSE: no command of the shelf's: FOR A HAND-IN. Each laying: the table of numbers ('.._ren') and one theorem, a field a fact of the dump's own or the kernel's comparison; each contract: ONE APPLICATION. The library's law on sorted keys, at this dump. What the program's types uint8 and string are.
-/
import Derived.Test.YtnbkhdbligjifaaGreatDoorProg
import Derived.Test.YtnbkhdbligjifaaGreatDoorVMaps
import Derived.Laws.Externs
import Derived.Sort.KeysCollected
import Derived.Sort.Walk0
import Derived.Laws.AppendOwn
import Derived.Shelf.SlIter.Nil
import Derived.Shelf.SortM.Plain
import Derived.Shelf.SortM.SortNone
import Derived.Ground.GgzProg
import Derived.Ground.SlgmProg
import Derived.WalkKit
set_option linter.unusedVariables false
set_option linter.unusedSimpArgs false
set_option maxRecDepth 100000
set_option maxHeartbeats 40000000
namespace Go.Proofs.YtnbkhdbligjifaaGreatDoor
open Go Go.RowKit
namespace Vm
structure PSt where
 good : TMap
 seen : TMap
 writes : List (ByteArray × ByteArray × Bool)
 down : Bool
 refuse : Int
 room : Int
def wcell (x : ByteArray × ByteArray × Bool) : List Value := [.string x.1, .string x.2.1, .bool x.2.2]
def wcells (l : List (ByteArray × ByteArray × Bool)) : List Value := l.flatMap wcell
def stCells (s : PSt) (g m : Nat) (ws : Value) : Array Value := #[.map (some g), ws, .map (some m), .bool s.down, .int .i64 s.refuse, .int .i64 s.room]
def sOwn (B g m : Nat) (ws : Value) : List Nat := B :: g :: m :: ws.ownBlock.toList
structure SIs (w : World) (B : Nat) (s : PSt) (g m : Nat) (ws : Value) : Prop where
 blk : Blk w B 129 (stCells s g m ws)
 good : MapIs w g s.good
 seen : MapIs w m s.seen
 row : w.ownsRow 0 155 3 ws s.writes.length (wcells s.writes)
 apart : (sOwn B g m ws).Nodup
theorem row_heap {w w' : World} {base : Nat} {e : TypeId} {size : Nat} {v : Value} {n : Nat} {xs : List Value} (h : w.ownsRow base e size v n xs) (hk : ∀ g, v.ownBlock = some g → w'.heap[g]? = w.heap[g]?) : w'.ownsRow base e size v n xs := by
 refine ⟨h.1, ?_⟩
 rcases h.2 with hn | ⟨g, cap, cur, rfl, hb0, hgg, rest⟩
 ·exact .inl hn
 ·exact .inr ⟨g, cap, cur, rfl, hb0, (hk g rfl).trans hgg, rest⟩
theorem row_lt {w : World} {base : Nat} {e : TypeId} {size : Nat} {v : Value} {n : Nat} {xs : List Value} (h : w.ownsRow base e size v n xs) {g : Nat} (hg : v.ownBlock = some g) : g < w.heap.size := by
 rcases h.2 with ⟨rfl, _⟩ | ⟨g', cap, cur, rfl, hb0, hgg, rest⟩
 ·cases hg
 ·cases hg; exact (Array.getElem?_eq_some_iff.1 hgg).1
theorem row_nil (w : World) (base : Nat) (e : TypeId) (size : Nat) : w.ownsRow base e size (.slice none 0 0) 0 [] := ⟨by simp, .inl ⟨rfl, rfl⟩⟩
section
variable {w w' : World} {B g m : Nat} {s : PSt} {ws : Value}
theorem SIs.lt (h : SIs w B s g m ws) : ∀ k, k ∈ sOwn B g m ws → k < w.heap.size := by
 intro k hk
 simp only [sOwn, List.mem_cons, Option.mem_toList] at hk
 rcases hk with rfl | rfl | rfl | hk
 ·exact h.blk.lt
 ·exact h.good.lt
 ·exact h.seen.lt
 ·exact row_lt h.row hk
theorem SIs.keep (h : SIs w B s g m ws) {O : List Nat} (hf : Fr O w w') (hd : ∀ k, k ∈ sOwn B g m ws → k ∉ O) : SIs w' B s g m ws where
 blk := hf.blk h.blk (hd _ (by simp [sOwn]))
 good := hf.map h.good (hd _ (by simp [sOwn]))
 seen := hf.map h.seen (hd _ (by simp [sOwn]))
 row := row_heap h.row fun k hk => hf.block k (row_lt h.row hk) (hd k (by simp [sOwn, hk]))
 apart := h.apart
theorem SIs.c0 (h : SIs w B s g m ws) : w.cell? ⟨B, 0, none⟩ = some (.map (some g)) := h.blk.cell 0
theorem SIs.c1 (h : SIs w B s g m ws) : w.cell? ⟨B, 1, none⟩ = some ws := h.blk.cell 1
theorem SIs.c2 (h : SIs w B s g m ws) : w.cell? ⟨B, 2, none⟩ = some (.map (some m)) := h.blk.cell 2
theorem SIs.c3 (h : SIs w B s g m ws) : w.cell? ⟨B, 3, none⟩ = some (.bool s.down) := h.blk.cell 3
theorem SIs.c4 (h : SIs w B s g m ws) : w.cell? ⟨B, 4, none⟩ = some (.int .i64 s.refuse) := h.blk.cell 4
theorem SIs.c5 (h : SIs w B s g m ws) : w.cell? ⟨B, 5, none⟩ = some (.int .i64 s.room) := h.blk.cell 5
theorem SIs.write (h : SIs w B s g m ws) {s' : PSt} (hb : Blk w' B 129 (stCells s' g m ws)) (hf : Fr [B] w w') (h1 : s'.good = s.good) (h2 : s'.seen = s.seen) (h3 : s'.writes = s.writes) : SIs w' B s' g m ws := by
 have hn := h.apart
 simp only [sOwn, List.nodup_cons, List.mem_cons, not_or] at hn
 refine ⟨hb, ?_, ?_, ?_, h.apart⟩
 ·rw [h1]; exact hf.map h.good (by simp only [List.mem_singleton]; exact Ne.symm hn.1.1)
 ·rw [h2]; exact hf.map h.seen (by simp only [List.mem_singleton]; exact Ne.symm hn.1.2.1)
 ·rw [h3]; exact row_heap h.row fun k hk => hf.block k (row_lt h.row hk) (by simp only [List.mem_singleton]; rintro rfl; exact hn.1.2.2 (by simp [hk]))
end
theorem zeroS (w : World) : (zeroValue 9).run Tryz.prog w = .ok (.string ⟨#[]⟩) w := by kernel_rfl
def SAt (w : World) (B : Nat) (s : PSt) (O : List Nat) : Prop := ∃ g m ws, SIs w B s g m ws ∧ O = sOwn B g m ws
theorem SAt.lt {w : World} {B : Nat} {s : PSt} {O : List Nat} (h : SAt w B s O) : ∀ k, k ∈ O → k < w.heap.size := by
 obtain ⟨g, m, ws, h, rfl⟩ := h
 exact h.lt
theorem SAt.nodup {w : World} {B : Nat} {s : PSt} {O : List Nat} (h : SAt w B s O) : O.Nodup := by
 obtain ⟨g, m, ws, h, rfl⟩ := h
 exact h.apart
theorem SAt.mem {w : World} {B : Nat} {s : PSt} {O : List Nat} (h : SAt w B s O) : B ∈ O := by
 obtain ⟨g, m, ws, h, rfl⟩ := h
 simp [sOwn]
theorem SAt.keep {w w' : World} {B : Nat} {s : PSt} {O O' : List Nat} (h : SAt w B s O) (hf : Fr O' w w') (hd : ∀ k, k ∈ O → k ∉ O') : SAt w' B s O := by
 obtain ⟨g, m, ws, h, rfl⟩ := h
 exact ⟨g, m, ws, h.keep hf hd, rfl⟩
def StPost (w : World) (B : Nat) (O : List Nat) (v : Value) (s' : PSt) (e : Ending) (w' : World) : Prop := e = .returned v ∧ ∃ O', SAt w' B s' O' ∧ Fr O w w' ∧ ∀ k, k ∈ O' → k ∈ O ∨ w.heap.size ≤ k
def NewPost (w : World) (e : Ending) (w' : World) : Prop := ∃ B O, e = .returned (.pointer (some ⟨B, 0, none⟩)) ∧ (∀ k, k ∈ O → w.heap.size ≤ k) ∧ SAt w' B ⟨[], [], [], false, -1, -1⟩ O ∧ Fr [] w w'
theorem new_any (w : World) : Calls Tryz.prog 35 #[] w (NewPost w) := by
 have hmm := @run_makeMap Tryz.prog
 go_enter Tryz.func35, Tryz.ntmps35
 go_wp2
 go_ret
 have f1 := Fr.alloc w (.map #[] 0)
 have f2 := f1.trans (Fr.alloc (w.alloc (.map #[] 0)) (.map #[] 0)) (O' := []) (by simp)
 have f3 := f2.trans (Fr.alloc ((w.alloc (.map #[] 0)).alloc (.map #[] 0)) (.cells #[.map (some w.heap.size), .slice none 0 0, .map (some (w.heap.size + 1)), .bool false, .int .i64 (-1), .int .i64 (-1)] 129)) (O' := []) (by simp)
 have hb := Blk.new ((w.alloc (.map #[] 0)).alloc (.map #[] 0)) 129 #[.map (some w.heap.size), .slice none 0 0, .map (some (w.heap.size + 1)), .bool false, .int .i64 (-1), .int .i64 (-1)]
 have l1 : (w.alloc (.map #[] 0)).heap.size = w.heap.size + 1 := by simp
 have l2 : ((w.alloc (.map #[] 0)).alloc (.map #[] 0)).heap.size = w.heap.size + 2 := by simp
 have m1 : MapIs (w.alloc (.map #[] 0)) w.heap.size [] := ⟨_, _, Go.heap_alloc_new .., fine_empty⟩
 have m2 : MapIs ((w.alloc (.map #[] 0)).alloc (.map #[] 0)) (w.heap.size + 1) [] := ⟨_, _, by rw [← l1]; exact Go.heap_alloc_new .., fine_empty⟩
 have g1 := (Fr.alloc (w.alloc (.map #[] 0)) (.map #[] 0)).map m1 (by simp)
 have g2 := (Fr.alloc ((w.alloc (.map #[] 0)).alloc (.map #[] 0)) (.cells #[.map (some w.heap.size), .slice none 0 0, .map (some (w.heap.size + 1)), .bool false, .int .i64 (-1), .int .i64 (-1)] 129)).map g1 (by simp)
 have g3 := (Fr.alloc ((w.alloc (.map #[] 0)).alloc (.map #[] 0)) (.cells #[.map (some w.heap.size), .slice none 0 0, .map (some (w.heap.size + 1)), .bool false, .int .i64 (-1), .int .i64 (-1)] 129)).map m2 (by simp)
 rw [l2] at hb
 refine ⟨w.heap.size + 2, sOwn (w.heap.size + 2) w.heap.size (w.heap.size + 1) (.slice none 0 0), rfl, ?_, ⟨_, _, _, ⟨hb, g2, g3, row_nil _ _ _ _, ?_⟩, rfl⟩, f3⟩
 ·intro k hk
  simp [sOwn, Value.ownBlock] at hk
  omega
 ·simp [sOwn, Value.ownBlock]
def refB (s : PSt) : Bool := if s.refuse < 0 then false else decide (wrap64 (s.refuse - 1) < 0)
def refS (s : PSt) : PSt := if s.refuse < 0 then s else { s with refuse := wrap64 (s.refuse - 1) }
def RefPost (w : World) (B : Nat) (s : PSt) (g m : Nat) (ws : Value) (e : Ending) (w' : World) : Prop :=
 e = .returned (.bool (refB s)) ∧ SIs w' B (refS s) g m ws ∧ Fr [B] w w'
theorem refused_any {w : World} {B g m : Nat} {s : PSt} {ws : Value} (h : SIs w B s g m ws) :
 Calls Tryz.prog 110 #[.pointer (some ⟨B, 0, none⟩)] w (RefPost w B s g m ws) := by
 have c4 := h.c4
 have hz := h.blk.frozen 4
 have hH := Lib.hid h
 clear h
 go_enter Tryz.func110, Tryz.ntmps110
 go_wp2
 ·rename_i h
  go_ret
  exact ⟨by rw [refB, if_pos h]; rfl, by rw [refS, if_pos h]; exact hH.out, Fr.refl _ _⟩
 ·rename_i h
  have hn : ¬ s.refuse < 0 := by omega
  go_ret
  exact ⟨by rw [refB, if_neg hn]; rfl, by rw [refS, if_neg hn]; exact hH.out.write (hH.out.blk.set_ 4 _) (Fr.cell w ⟨B, 4, none⟩ _) rfl rfl rfl, Fr.cell w ⟨B, 4, none⟩ _⟩
def gotV (s : PSt) (name : ByteArray) : Value :=
 if s.down then .tuple #[.string ⟨#[]⟩, .int .i64 51] else match TMap.look s.seen name with | some d => .tuple #[.string d, .int .i64 0] | none => .tuple #[.string ⟨#[]⟩, .int .i64 5]
def GetPost (w : World) (s : PSt) (name : ByteArray) (e : Ending) (w' : World) : Prop := e = .returned (gotV s name) ∧ w' = w
theorem get_any {w : World} {B : Nat} {s : PSt} {O : List Nat} (h : SAt w B s O) (name : ByteArray) :
 Calls Tryz.prog 122 #[.pointer (some ⟨B, 0, none⟩), .string name] w (GetPost w s name) := by
 obtain ⟨g, m, ws, h, rfl⟩ := h
 have c2 := h.c2
 have c3 := h.c3
 have hl := run_look Tryz.underlying126 Tryz.underlying9 h.seen (zeroS w) name true
 obtain ⟨good, seen, writes, down, refuse, room⟩ := s
 cases hd : down <;> cases hk : TMap.look seen name <;> simp only [hd, hk] at c3 hl <;>
 go_enter Tryz.func122, Tryz.ntmps122 <;>
 go_wp2
 all_goals
  go_ret2
  refine ⟨?_, rfl⟩
  simp only [gotV, hk, Bool.false_eq_true, if_false, if_true]
  try rfl
/-! a map's clone -/
theorem clone_any (B : Nat) (es : Array MapEntry) (cl : Nat) (w : World) (h : w.heap[B]? = some (.map es cl)) :
 Calls Tryz.prog 83 #[.map (some B)] w fun e w' => e = .returned (.map (some w.heap.size)) ∧ w' = w.alloc (.map es cl) := by
 go_enter Tryz.func83, Tryz.ntmps83
 have hb : (binOp .eql 126 (.map (some B)) (.map none)).run Tryz.prog w = .ok (.bool false) w := by
  have hd : ∀ d : Nat, (Op.equalIn (d + 1) 126 (.map (some B)) (.map none)).run Tryz.prog w = .ok false w := fun d => by
   simp [Op.equalIn, run_underlying Tryz.underlying126]
  simp only [binOp]
  simp [Op.equal, Op.maxDepth, hd 9999]
 go_wp2
 rw [run_callFunc_extern Tryz.func119 (by kernel_rfl) (by kernel_rfl) (by kernel_rfl) (e := Extern.MapsClone.clone) (by kernel_rfl)]
 have hcl : (Extern.MapsClone.clone #[.iface 126 (.map (some B))]).run Tryz.prog w = .ok (.iface 126 (.map (some w.heap.size))) (w.alloc (.map es cl)) := by
  obtain ⟨msg, he⟩ : ∃ msg, Extern.MapsClone.clone #[.iface 126 (.map (some B))] = (do
   let .map entries clock ← getObj B | stuck msg
   pure (Value.iface 126 (.map (some (← newObj (.map entries clock)))))) := ⟨_, rfl⟩
  rw [he]
  simp only [Sem.run_bind, getObj, Sem.run, h, Result.andThen_ok, run_newObj]
  rfl
 rw [hcl]
 simp only [Result.andThen]
 rw [Oper.upon_value]
 have hta : ∀ xT : TypeId, (Instr.typeAssert (.iface 126 (.map (some w.heap.size))) xT 126 false).run Tryz.prog (w.alloc (.map es cl)) = .ok (.map (some w.heap.size)) (w.alloc (.map es cl)) := fun xT => by
  simp [Instr.typeAssert, run_underlying Tryz.underlying126, go_sem, Result.andThen]
 go_wp2
 go_ret
 exact ⟨rfl, rfl⟩
def PSt.settled (s : PSt) : PSt := { s with good := s.seen, writes := [] }
theorem setCell_size (w : World) (p : Addr) (u : Value) : (w.setCell p u).heap.size = w.heap.size := by simp [World.setCell]
theorem SIs.settled {w : World} {B g m : Nat} {s : PSt} {ws : Value} (h : SIs w B s g m ws) {es : Array MapEntry} {cl : Nat} (hes : Fine es cl s.seen) :
 SIs (((w.setCell ⟨B, 0, none⟩ (.map (some w.heap.size))).setCell ⟨B, 1, none⟩ (.slice none 0 0)).alloc (.map es cl)) B s.settled w.heap.size m (.slice none 0 0) ∧ Fr [B] w (((w.setCell ⟨B, 0, none⟩ (.map (some w.heap.size))).setCell ⟨B, 1, none⟩ (.slice none 0 0)).alloc (.map es cl)) := by
 have hn := h.apart
 simp only [sOwn, List.nodup_cons, List.mem_cons, not_or] at hn
 have f1 := Fr.cell w ⟨B, 0, none⟩ (.map (some w.heap.size))
 have f2 := f1.trans (Fr.cell (w.setCell ⟨B, 0, none⟩ (.map (some w.heap.size))) ⟨B, 1, none⟩ (.slice none 0 0)) (fun k hk _ => hk)
 have f3 := f2.trans (Fr.alloc ((w.setCell ⟨B, 0, none⟩ (.map (some w.heap.size))).setCell ⟨B, 1, none⟩ (.slice none 0 0)) (.map es cl)) (by simp)
 have hsz : ((w.setCell ⟨B, 0, none⟩ (.map (some w.heap.size))).setCell ⟨B, 1, none⟩ (.slice none 0 0)).heap.size = w.heap.size := by rw [setCell_size, setCell_size]
 refine ⟨⟨((h.blk.set_ 0 _).set_ 1 _).alloc _, ⟨es, cl, ?_, hes⟩, f3.map h.seen (by simp only [List.mem_singleton]; exact Ne.symm hn.1.2.1), row_nil _ _ _ _, ?_⟩, f3⟩
 ·have := Go.heap_alloc_new ((w.setCell ⟨B, 0, none⟩ (.map (some w.heap.size))).setCell ⟨B, 1, none⟩ (.slice none 0 0)) (.map es cl)
  rw [hsz] at this
  exact this
 ·have := h.blk.lt
  have := h.seen.lt
  simp only [sOwn, Value.ownBlock, Option.toList_none, List.nodup_cons, List.mem_cons, List.not_mem_nil, or_false, not_or, not_false_eq_true, List.nodup_nil, and_true]
  omega
def SetPost (w : World) (B : Nat) (s : PSt) (m : Nat) (e : Ending) (w' : World) : Prop := e = .returned (.tuple #[]) ∧ SIs w' B s.settled w.heap.size m (.slice none 0 0) ∧ Fr [B] w w'
theorem settle_any {w : World} {B g m : Nat} {s : PSt} {ws : Value} (h : SIs w B s g m ws) :
 Calls Tryz.prog 111 #[.pointer (some ⟨B, 0, none⟩)] w (SetPost w B s m) := by
 have c0 := h.c0
 have c1 := h.c1
 have c2 := h.c2
 obtain ⟨es, cl, hb, hes⟩ := h.seen
 have hz0 := h.blk.frozen 0
 have hz1 := h.blk.frozen 1
 have hE := Lib.hid (h.settled hes)
 have hBlt := h.blk.lt
 clear h hes
 go_enter Tryz.func111, Tryz.ntmps111
 go_wp2_with (go_at_call 83; ((with_reducible refine (clone_any _ es cl _ hb).mono ?_); rintro e w1 ⟨rfl, rfl⟩))
 go_end0
 exact ⟨rfl, hE.out.1, hE.out.2⟩
theorem SIs.alloc {w : World} {B g m : Nat} {s : PSt} {ws : Value} (h : SIs w B s g m ws) (o : Obj) : SIs (w.alloc o) B s g m ws := h.keep (Fr.alloc w o) (by simp)
theorem SIs.mem {w : World} {B g m : Nat} {s : PSt} {ws : Value} (_ : SIs w B s g m ws) : B ∈ sOwn B g m ws := by simp [sOwn]
theorem SIs.post {w w' : World} {B g m : Nat} {s' : PSt} {ws : Value} {v : Value} (h : SIs w' B s' g m ws) (hf : Fr [B] w w') : StPost w B (sOwn B g m ws) v s' (.returned v) w' :=
 ⟨rfl, _, ⟨g, m, ws, h, rfl⟩, hf.mono fun k hk _ => by simp only [List.mem_singleton] at hk; simp [sOwn, hk], fun k hk => .inl hk⟩
theorem SetPost.post {w : World} {B g m : Nat} {s : PSt} {ws : Value} {e : Ending} {w' : World} (h : SetPost w B s m e w') : StPost w B (sOwn B g m ws) (.tuple #[]) s.settled e w' := by
 obtain ⟨rfl, h, hf⟩ := h
 refine ⟨rfl, _, ⟨_, _, _, h, rfl⟩, hf.mono fun k hk _ => by simp only [List.mem_singleton] at hk; simp [sOwn, hk], fun k hk => ?_⟩
 simp only [sOwn, List.mem_cons, Value.ownBlock, Option.toList_none, List.not_mem_nil, or_false] at hk
 rcases hk with rfl | rfl | rfl
 ·exact .inl (by simp [sOwn])
 ·exact .inr (Nat.le_refl _)
 ·exact .inl (by simp [sOwn])
theorem StPost.front {w0 w : World} {B : Nat} {O : List Nat} {v : Value} {s' : PSt} {e : Ending} {w' : World} (h : StPost w B O v s' e w') (hf : Fr O w0 w) : StPost w0 B O v s' e w' := by
 obtain ⟨he, O', h1, h2, h3⟩ := h
 exact ⟨he, O', h1, hf.trans h2 fun k hk _ => hk, fun k hk => (h3 k hk).imp id fun h => Nat.le_trans hf.size h⟩
def syncV (s : PSt) : Int := if s.down then 51 else 0
def syncS (s : PSt) : PSt := if s.down then s else s.settled
theorem sync_any {w : World} {B : Nat} {s : PSt} {O : List Nat} (h : SAt w B s O) :
 Calls Tryz.prog 81 #[.pointer (some ⟨B, 0, none⟩)] w (StPost w B O (.int .i64 (syncV s)) (syncS s)) := by
 obtain ⟨g, m, ws, h, rfl⟩ := h
 have c3 := h.c3
 have HH := Lib.hid h
 clear h
 cases hd : s.down <;> rw [hd] at c3
 ·have HS := Lib.hid (show syncV s = 0 ∧ syncS s = s.settled from ⟨by simp [syncV, hd], by simp [syncS, hd]⟩)
  clear hd
  go_enter Tryz.func81, Tryz.ntmps81
  go_wp2_with (go_at_call 111; ((with_reducible refine (settle_any HH.out).mono ?_)))
  intro e w1 hp
  have HP := Lib.hid hp
  obtain ⟨rfl, -, -⟩ := hp
  go_wp2_with fail
  go_ret
  obtain ⟨-, O', h1, h2, h3⟩ := HP.out.post (g := g) (ws := ws)
  rw [HS.out.1, HS.out.2]
  exact ⟨rfl, O', h1, h2, h3⟩
 ·have HS := Lib.hid (show syncV s = 51 ∧ syncS s = s from ⟨by simp [syncV, hd], by simp [syncS, hd]⟩)
  clear hd
  go_enter Tryz.func81, Tryz.ntmps81
  go_wp2_with fail
  go_ret
  rw [HS.out.1, HS.out.2]
  exact HH.out.post (Fr.refl _ _)
/-! faults -/
structure Flt where
 kind : Int
 store : Int
 n : Int
 at_ : Int
 c : Int
def Flt.cells (f : Flt) : Array Value := #[.int .u8 f.kind, .int .i64 f.store, .int .i64 f.n, .int .i64 f.at_, .int .i64 f.c]
theorem down_any {w : World} {B : Nat} {s : PSt} {O : List Nat} (h : SAt w B s O) (f : Flt) :
 Calls Tryz.prog 115 #[.pointer (some ⟨B, 0, none⟩), .agg #[.int .u8 f.kind, .int .i64 f.store, .int .i64 f.n, .int .i64 f.at_, .int .i64 f.c]] w (StPost w B O (.tuple #[]) { s with down := true }) := by
 obtain ⟨g, m, ws, h, rfl⟩ := h
 have c3 := h.c3
 have hz := h.blk.frozen 3
 have hB := h.blk.lt
 have HH := Lib.hid h
 clear h
 go_enter Tryz.func115, Tryz.ntmps115
 go_wp2_with fail
 go_end0
 have h1 := HH.out.write (s' := { s with down := true }) (HH.out.blk.set_ 3 (.bool true)) (Fr.cell w ⟨B, 3, none⟩ _) rfl rfl rfl
 exact (h1.alloc _).post ((Fr.cell w ⟨B, 3, none⟩ _).trans (Fr.alloc _ _) (by simp))
theorem up_any {w : World} {B : Nat} {s : PSt} {O : List Nat} (h : SAt w B s O) (f : Flt) :
 Calls Tryz.prog 116 #[.pointer (some ⟨B, 0, none⟩), .agg #[.int .u8 f.kind, .int .i64 f.store, .int .i64 f.n, .int .i64 f.at_, .int .i64 f.c]] w (StPost w B O (.tuple #[]) { s with down := false }) := by
 obtain ⟨g, m, ws, h, rfl⟩ := h
 have c3 := h.c3
 have hz := h.blk.frozen 3
 have hB := h.blk.lt
 have HH := Lib.hid h
 clear h
 go_enter Tryz.func116, Tryz.ntmps116
 go_wp2_with fail
 go_end0
 have h1 := HH.out.write (s' := { s with down := false }) (HH.out.blk.set_ 3 (.bool false)) (Fr.cell w ⟨B, 3, none⟩ _) rfl rfl rfl
 exact (h1.alloc _).post ((Fr.cell w ⟨B, 3, none⟩ _).trans (Fr.alloc _ _) (by simp))
theorem refuseOne_any {w : World} {B : Nat} {s : PSt} {O : List Nat} (h : SAt w B s O) (f : Flt) :
 Calls Tryz.prog 117 #[.pointer (some ⟨B, 0, none⟩), .agg #[.int .u8 f.kind, .int .i64 f.store, .int .i64 f.n, .int .i64 f.at_, .int .i64 f.c]] w (StPost w B O (.tuple #[]) { s with refuse := f.n }) := by
 obtain ⟨g, m, ws, h, rfl⟩ := h
 have c4 := h.c4
 have hz := h.blk.frozen 4
 have hB := h.blk.lt
 have HH := Lib.hid h
 clear h
 go_enter Tryz.func117, Tryz.ntmps117
 go_wp2_with fail
 go_end0
 have h1 := HH.out.write (s' := { s with refuse := f.n }) (HH.out.blk.set_ 4 (.int .i64 f.n)) (Fr.cell w ⟨B, 4, none⟩ _) rfl rfl rfl
 exact (h1.alloc _).post ((Fr.cell w ⟨B, 4, none⟩ _).trans (Fr.alloc _ _) (by simp))
theorem limit_any {w : World} {B : Nat} {s : PSt} {O : List Nat} (h : SAt w B s O) (f : Flt) :
 Calls Tryz.prog 118 #[.pointer (some ⟨B, 0, none⟩), .agg #[.int .u8 f.kind, .int .i64 f.store, .int .i64 f.n, .int .i64 f.at_, .int .i64 f.c]] w (StPost w B O (.tuple #[]) { s with room := f.n }) := by
 obtain ⟨g, m, ws, h, rfl⟩ := h
 have c5 := h.c5
 have hz := h.blk.frozen 5
 have hB := h.blk.lt
 have HH := Lib.hid h
 clear h
 go_enter Tryz.func118, Tryz.ntmps118
 go_wp2_with fail
 go_end0
 have h1 := HH.out.write (s' := { s with room := f.n }) (HH.out.blk.set_ 5 (.int .i64 f.n)) (Fr.cell w ⟨B, 5, none⟩ _) rfl rfl rfl
 exact (h1.alloc _).post ((Fr.cell w ⟨B, 5, none⟩ _).trans (Fr.alloc _ _) (by simp))
end Vm
end Go.Proofs.YtnbkhdbligjifaaGreatDoor
namespace Go.Proofs.YtnbkhdbligjifaaGreatDoor
open Go Go.RowKit Go.Maps Go.Sort
open Go.WideElems (Fit rd rg pl rd_val elemAt)
namespace Vm
theorem owns_keys {P : Program} {k : TypeId} (hk : P.underlying k = some .string) {w : World} {b cl : Nat} {es : Array MapEntry} {bs : List (List UInt8)} (hb : w.heap[b]? = some (.map es cl)) (hkeys : es.toList.map (·.key) = bs.map encStr) (hborn : ∀ e ∈ es.toList, e.born < cl)
 (hnd : (es.toList.map (·.born)).Nodup) (hbs : bs.Nodup) (hlen : ∀ x ∈ bs, x.length ≤ 1000000) (hsz : es.size ≤ 1000000) :
 ∃ D : DataW Unit, w.ownsMap P k (fun _ => some (.nil, [])) b es.size D ∧ Maps.size D = es.size ∧ (strKeys D).Perm bs := by
 have hmx : (1000000 : Nat) ≤ maxLen := by decide
 have hrd : ∀ x ∈ es.toList, ∃ s : List UInt8, s ∈ bs ∧ x.key = encStr s ∧ rd (H := Unit) P k (fun _ => some (.nil, [])) x = some (.string s, .nil) := by
  intro x hx
  have hm : x.key ∈ bs.map encStr := by rw [← hkeys]; exact List.mem_map_of_mem hx
  obtain ⟨s, hs, he⟩ := List.mem_map.1 hm
  refine ⟨s, hs, he.symm, ?_⟩
  have : keyOf P k x.key = some (.string s) := by
   rw [← he, encStr, Go.WideMaps.keyOf_string_mk hk (by have := hlen s hs; show s.toArray.size ≤ _; simp; omega)]
  unfold Go.WideElems.rd
  rw [this]
  rfl
 have hF : Fit (H := Unit) P k (fun _ => some (.nil, [])) es cl := by
  refine ⟨by omega, ⟨hborn, hnd, ?_⟩, fun x hx => let ⟨s, _, _, h⟩ := hrd x hx; ⟨_, h⟩⟩
  rw [hkeys]
  exact List.Pairwise.map _ (fun a b (hne : a ≠ b) he => hne (encStr_inj he)) hbs
 refine ⟨_, ⟨es, cl, hb, hF, Nat.le_refl _, rfl⟩, ?_, ?_⟩
 ·show ((es.toList.map _).foldr DataW.insert []).length = _
  rw [length_sorted]; simp
 ·show (((es.toList.map (rg (H := Unit) P k fun _ => some (.nil, []))).foldr DataW.insert []).map fun p => strOf p.1).Perm bs
  refine ((Go.WideShapes.sorted_perm _).map _).trans ?_
  have : (es.toList.map (rg (H := Unit) P k fun _ => some (.nil, []))).map (fun p => strOf p.1) = bs := by
   have inj : ∀ a b : List (List UInt8), a.map encStr = b.map encStr → a = b := by
    intro a
    induction a with
    | nil => intro b h; cases b with | nil => rfl | cons => simp at h
    | cons x a ih => intro b h; cases b with
      | nil => simp at h
      | cons y b => rw [List.map_cons, List.map_cons, List.cons.injEq] at h; rw [encStr_inj h.1, ih b h.2]
   refine inj _ _ ?_
   rw [← hkeys, List.map_map, List.map_map]
   refine List.map_congr_left fun x hx => ?_
   obtain ⟨s, _, he, hr⟩ := hrd x hx
   show encStr (strOf (rg P k _ x).1) = x.key
   rw [Go.WideElems.rg_of hr, he]; rfl
  rw [this]
def KeysLaw (P : Program) (g it ks : Nat) : Prop :=
 ∀ (bm b nn : Nat) (D : DataW Unit) (w : World), bm < w.heap.size → w.cell? ⟨bm, 0, none⟩ = some (.map (some b)) → w.ownsMap P ks (fun _ => some (.nil, [])) b nn D → Maps.size D ≤ 1000000 →
  Calls P g #[.func (.func it) #[] #[.pointer (some ⟨bm, 0, none⟩)]] w fun e w' => ∃ (v : Value) (ss : List (List UInt8)), e = .returned v ∧ ss.Perm (strKeys D) ∧
   w'.ownsRow w.heap.size ks 1 v ss.length ((ss.mergeSort (fun x y => decide (x ≤ y))).map encStr) ∧ (v = .slice none 0 0 ↔ ss = []) ∧ Below w.heap.size w w'
end Vm
end Go.Proofs.YtnbkhdbligjifaaGreatDoor
namespace Go.Proofs
open Go.Shelf
def Tryz.keys127_ren : Go.Shelf.Ren := ⟨fun | 7 => 127 | 10 => 153 | n => n, fun | 23 => 126 | 26 => 9 | 3 => 9 | 28 => 203 | 0 => 0 | 27 => 202 | 33 => 187 | 4 => 4 | n => n, fun | n => n⟩
theorem Tryz.keys127 : Go.Proofs.SlLaysZ.n7 Tryz.prog Tryz.keys127_ren := {
 mixed := by kernel_rfl
 f7 := ⟨Tryz.f127.name, by decide, Tryz.func127.trans (congrArg some (by kernel_rfl))⟩
 f10 := ⟨Tryz.f153.name, by decide, Tryz.func153.trans (congrArg some (by kernel_rfl))⟩
 t0 := Tryz.underlying0
 a0 := Tryz.isAgg0
 z0 := Tryz.sizeOf0
 v0 := Tryz.zeroValue0
 t4 := Tryz.underlying4
 a4 := Tryz.isAgg4
 z4 := Tryz.sizeOf4
 v4 := Tryz.zeroValue4
 t23 := Tryz.underlying126
 a23 := Tryz.isAgg126
 z23 := Tryz.sizeOf126
 v23 := Tryz.zeroValue126
 t26 := Tryz.underlying9
 a26 := Tryz.isAgg9
 z26 := Tryz.sizeOf9
 v26 := Tryz.zeroValue9
 t27 := Tryz.underlying202
 a27 := Tryz.isAgg202
 z27 := Tryz.sizeOf202
 v27 := Tryz.zeroValue202
 t28 := Tryz.underlying203
 a28 := Tryz.isAgg203
 z28 := Tryz.sizeOf203
 v28 := Tryz.zeroValue203
 t33 := Tryz.underlying187
 a33 := Tryz.isAgg187
 z33 := Tryz.sizeOf187
 v33 := Tryz.zeroValue187 }
def Tryz.sorted126_ren : Go.Shelf.Ren := ⟨fun | 6 => 126 | 8 => 151 | 9 => 152 | 11 => 189 | 13 => 133 | 12 => 190 | 23 => 169 | 24 => 170 | 14 => 213 | 15 => 214 | 16 => 215 | 17 => 216 | 18 => 217 | 19 => 218 | 20 => 219 | 21 => 220 | 22 => 221 | 25 => 229 | 26 => 197 | 27 => 198 | 28 => 230 | 29 => 231 | 30 => 232 | 31 => 237 | n => n, fun | 26 => 9 | 28 => 203 | 24 => 60 | 0 => 0 | 3 => 3 | 37 => 48 | 48 => 171 | 50 => 177 | 4 => 4 | 40 => 234 | 39 => 233 | 45 => 239 | 5 => 5 | 9 => 9 | 51 => 271 | 55 => 275 | 57 => 292 | 58 => 293 | 33 => 187 | n => n, fun | n => n⟩
theorem Tryz.sorted126 : Go.Proofs.SlLaysZ.n6 Tryz.prog Tryz.sorted126_ren := {
 mixed := by kernel_rfl
 f6 := ⟨Tryz.f126.name, by decide, Tryz.func126.trans (congrArg some (by kernel_rfl))⟩
 f8 := ⟨Tryz.f151.name, by decide, Tryz.func151.trans (congrArg some (by kernel_rfl))⟩
 f11 := ⟨Tryz.f189.name, by decide, Tryz.func189.trans (congrArg some (by kernel_rfl))⟩
 t0 := Tryz.underlying0
 a0 := Tryz.isAgg0
 z0 := Tryz.sizeOf0
 v0 := Tryz.zeroValue0
 t24 := Tryz.underlying60
 a24 := Tryz.isAgg60
 z24 := Tryz.sizeOf60
 v24 := Tryz.zeroValue60
 t26 := Tryz.underlying9
 a26 := Tryz.isAgg9
 z26 := Tryz.sizeOf9
 v26 := Tryz.zeroValue9
 t28 := Tryz.underlying203
 a28 := Tryz.isAgg203
 z28 := Tryz.sizeOf203
 v28 := Tryz.zeroValue203
 i26 := by kernel_rfl }
def Tryz.sort152_ren : Go.Shelf.Ren := ⟨fun | 6 => 152 | 8 => 133 | 9 => 190 | 19 => 169 | 20 => 170 | 21 => 213 | 22 => 214 | 23 => 215 | 24 => 216 | 25 => 217 | 26 => 218 | 27 => 219 | 28 => 220 | 29 => 221 | 36 => 229 | 31 => 197 | 32 => 198 | 37 => 230 | 38 => 231 | 39 => 232 | 41 => 237 | n => n, fun | 27 => 60 | 29 => 9 | 3 => 3 | 32 => 48 | 26 => 60 | 0 => 0 | 44 => 171 | 46 => 177 | 4 => 4 | 36 => 234 | 35 => 233 | 41 => 239 | 5 => 5 | 9 => 9 | 53 => 271 | 57 => 275 | 63 => 292 | 64 => 293 | n => n, fun | n => n⟩
theorem Tryz.sort152 : Go.Proofs.SlLaysM.n6 Tryz.prog Tryz.sort152_ren := {
 mixed := by kernel_rfl
 f6 := ⟨Tryz.f152.name, by decide, Tryz.func152.trans (congrArg some (by kernel_rfl))⟩
 f8 := Tryz.func133.trans (congrArg some (by kernel_rfl))
 f9 := ⟨Tryz.f190.name, by decide, Tryz.func190.trans (congrArg some (by kernel_rfl))⟩
 f19 := Tryz.func169.trans (congrArg some (by kernel_rfl))
 f20 := Tryz.func170.trans (congrArg some (by kernel_rfl))
 f21 := ⟨Tryz.f213.name, by decide, Tryz.func213.trans (congrArg some (by kernel_rfl))⟩
 f22 := ⟨Tryz.f214.name, by decide, Tryz.func214.trans (congrArg some (by kernel_rfl))⟩
 f23 := ⟨Tryz.f215.name, by decide, Tryz.func215.trans (congrArg some (by kernel_rfl))⟩
 f24 := ⟨Tryz.f216.name, by decide, Tryz.func216.trans (congrArg some (by kernel_rfl))⟩
 f25 := ⟨Tryz.f217.name, by decide, Tryz.func217.trans (congrArg some (by kernel_rfl))⟩
 f26 := ⟨Tryz.f218.name, by decide, Tryz.func218.trans (congrArg some (by kernel_rfl))⟩
 f27 := ⟨Tryz.f219.name, by decide, Tryz.func219.trans (congrArg some (by kernel_rfl))⟩
 f28 := ⟨Tryz.f220.name, by decide, Tryz.func220.trans (congrArg some (by kernel_rfl))⟩
 f29 := ⟨Tryz.f221.name, by decide, Tryz.func221.trans (congrArg some (by kernel_rfl))⟩
 f31 := Tryz.func197.trans (congrArg some (by kernel_rfl))
 f32 := Tryz.func198.trans (congrArg some (by kernel_rfl))
 f36 := ⟨Tryz.f229.name, by decide, Tryz.func229.trans (congrArg some (by kernel_rfl))⟩
 f37 := ⟨Tryz.f230.name, by decide, Tryz.func230.trans (congrArg some (by kernel_rfl))⟩
 f38 := ⟨Tryz.f231.name, by decide, Tryz.func231.trans (congrArg some (by kernel_rfl))⟩
 f39 := ⟨Tryz.f232.name, by decide, Tryz.func232.trans (congrArg some (by kernel_rfl))⟩
 f41 := ⟨Tryz.f237.name, by decide, Tryz.func237.trans (congrArg some (by kernel_rfl))⟩
 t0 := Tryz.underlying0
 a0 := Tryz.isAgg0
 z0 := Tryz.sizeOf0
 v0 := Tryz.zeroValue0
 t3 := Tryz.underlying3
 a3 := Tryz.isAgg3
 z3 := Tryz.sizeOf3
 v3 := Tryz.zeroValue3
 t4 := Tryz.underlying4
 a4 := Tryz.isAgg4
 z4 := Tryz.sizeOf4
 v4 := Tryz.zeroValue4
 t5 := Tryz.underlying5
 a5 := Tryz.isAgg5
 z5 := Tryz.sizeOf5
 v5 := Tryz.zeroValue5
 t9 := Tryz.underlying9
 a9 := Tryz.isAgg9
 z9 := Tryz.sizeOf9
 v9 := Tryz.zeroValue9
 t26 := Tryz.underlying60
 a26 := Tryz.isAgg60
 z26 := Tryz.sizeOf60
 v26 := Tryz.zeroValue60
 t27 := Tryz.underlying60
 a27 := Tryz.isAgg60
 z27 := Tryz.sizeOf60
 v27 := Tryz.zeroValue60
 t29 := Tryz.underlying9
 a29 := Tryz.isAgg9
 z29 := Tryz.sizeOf9
 v29 := Tryz.zeroValue9
 t32 := Tryz.underlying48
 a32 := Tryz.isAgg48
 z32 := Tryz.sizeOf48
 v32 := Tryz.zeroValue48
 t35 := Tryz.underlying233
 a35 := Tryz.isAgg233
 z35 := Tryz.sizeOf233
 v35 := Tryz.zeroValue233
 t36 := Tryz.underlying234
 a36 := Tryz.isAgg234
 z36 := Tryz.sizeOf234
 v36 := Tryz.zeroValue234
 t41 := Tryz.underlying239
 a41 := Tryz.isAgg239
 z41 := Tryz.sizeOf239
 v41 := Tryz.zeroValue239
 t44 := Tryz.underlying171
 a44 := Tryz.isAgg171
 z44 := Tryz.sizeOf171
 v44 := Tryz.zeroValue171
 t46 := Tryz.underlying177
 a46 := Tryz.isAgg177
 z46 := Tryz.sizeOf177
 v46 := Tryz.zeroValue177
 t53 := Tryz.underlying271
 a53 := Tryz.isAgg271
 z53 := Tryz.sizeOf271
 v53 := Tryz.zeroValue271
 t57 := Tryz.underlying275
 a57 := Tryz.isAgg275
 z57 := Tryz.sizeOf275
 v57 := Tryz.zeroValue275
 t63 := Tryz.underlying292
 a63 := Tryz.isAgg292
 z63 := Tryz.sizeOf292
 v63 := Tryz.zeroValue292
 t64 := Tryz.underlying293
 a64 := Tryz.isAgg293
 z64 := Tryz.sizeOf293
 v64 := Tryz.zeroValue293 }
end Go.Proofs
namespace Go.Proofs
open Go.RowKit Go.Maps Go.Sort Go.Shelf
theorem Tryz.sorts126 (m : Nat) : AnyZ.SortsIn Tryz.prog Tryz.sorted126_ren Fence.wide m :=
 ⟨fun blk off cap ss W hH hblk hsz => callsIn_wide.2 (AnyM.slices_Sort_string Tryz.sort152 blk off cap ss W hH hblk hsz),
  fun p cap W => callsIn_wide.2 (AnyM.slices_Sort_string_none Tryz.sort152 p cap W)⟩
namespace YtnbkhdbligjifaaGreatDoor.Vm
theorem keysLaw127 : KeysLaw Tryz.prog 126 153 9 := by
 intro bm b nn D w hbm hm hown hsz
 have hmx : (1000000 : Nat) ≤ maxLen := by decide
 have hseq : SeqGives Fence.wide 2 Tryz.prog 153 #[.pointer (some ⟨bm, 0, none⟩)] encStr (fun ss => ss.Perm (strKeys D)) (Maps.size D) w :=
  AnyZ.keys_gives (ρ := Tryz.keys127_ren) { Tryz.keys127 with } Fence.wide _ trivial rfl (by omega) bm b nn D w hbm hm hown
 exact (callsIn_wide (n := 5)).1 (AnyZ.sorted_in Tryz.sorted126 Fence.wide 5 trivial trivial trivial trivial rfl (by omega) (Tryz.sorts126 _) (enters_of Tryz.func152 (by kernel_rfl) rfl) 153 #[.pointer (some ⟨bm, 0, none⟩)] trivial (enters_of Tryz.func153 (by kernel_rfl) rfl) _ _ (by omega) (by omega) _ hseq)
end YtnbkhdbligjifaaGreatDoor.Vm
end Go.Proofs
namespace Go.Proofs.YtnbkhdbligjifaaGreatDoor
open Go.RowKit
namespace R1
theorem info_u8 : (Tryz.prog.info? 5).map (fun i => (i.zero, i.size, i.bytes)) = some (some (.int .u8 0), 1, 1) := by kernel_rfl
theorem info_str : (Tryz.prog.info? 9).map (fun i => (i.zero, i.size, i.bytes)) = some (some (.string ⟨#[]⟩), 1, 16) := by kernel_rfl
end R1
end Go.Proofs.YtnbkhdbligjifaaGreatDoor
