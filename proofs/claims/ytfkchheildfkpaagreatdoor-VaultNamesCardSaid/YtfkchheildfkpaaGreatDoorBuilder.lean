/-
 Contracts of a strings.Builder's writers, in this seat's numbers. (The kit's own do not fit a dump in which copyCheck's panic is refused.)
-/
import Derived.Test.YtfkchheildfkpaaGreatDoorProg
import Derived.Test.YtfkchheildfkpaaGreatDoorMem
import Derived.Test.YtfkchheildfkpaaGreatDoorShelf
import Derived.Lib.FrozenHead2
import Derived.Lib.OthersKept
import Derived.Lib.MakeNoZero
import Derived.Laws.Externs
namespace Go.Proofs.YtfkchheildfkpaaGreatDoor
open Go.RowKit
def Bld (B b : Nat) (l : List UInt8) (w : World) : Prop := Lib.IsBuilderF 149 5 B b (Lib.byteCells l) w
def BKept (b : Nat) (w w' : World) : Prop := Lib.OthersKept 5 (some b) w w'
theorem info5 : (Tryz.prog.info? 5).map (fun i => (i.zero, i.size, i.bytes)) = some (some (.int .u8 0), 1, 1) := by kernel_rfl
theorem bsize : (Tryz.prog.info? 149).map (·.size) = some 2 := by kernel_rfl
theorem blies : liesAt Tryz.prog Tryz.prog.depth 149 (2 / Tryz.prog.cellsOf 149) 0 149 1 = true := by kernel_rfl
theorem bne : (149 : TypeId) ≠ 5 := by decide
set_option maxRecDepth 100000 in
set_option maxHeartbeats 1000000 in
theorem check_any (B b : Nat) (bs : List Value) (w : World) (h : Lib.IsBuilderF 149 5 B b bs w) :
   Calls Tryz.prog 131 #[.pointer (some ⟨b, 0, none⟩)] w fun e w' =>
     e = .returned (.tuple #[]) ∧ Lib.BuilderAtF 149 5 B b (.pointer (some ⟨b, 0, none⟩)) bs w' ∧ Below B w w' ∧ BKept b w w' ∧ ∀ k, k ≠ b → w'.heap[k]? = w.heap[k]? := by
 obtain ⟨j, hj, hjs⟩ := Option.map_eq_some_iff.1 bsize
 rcases h with h | h
 · have h0 := h.cell0
   have hf := h.frozen0
   go_enter Tryz.func131, Tryz.ntmps131
   go_wp2
   rw [Lib.run_to_unsafe w ⟨b, 0, none⟩ Tryz.underlying147 Tryz.underlying303 hj (by rw [hjs]; decide) h.shape (Nat.zero_lt_succ 1)]
   simp only [Result.andThen]
   rw [Oper.upon_value]
   go_wp2
   rw [run_callFunc_extern Tryz.func198 (by kernel_rfl) (by kernel_rfl) (by kernel_rfl) (e := Extern.AbiNoEscape.same) (by kernel_rfl), Lib.run_noEscape]
   simp only [Result.andThen]
   rw [Oper.upon_value]
   go_wp2
   rw [Lib.run_from_unsafe w ⟨b, 0, none⟩ Tryz.underlying303 Tryz.underlying147 hj h.shape blies]
   simp only [Result.andThen]
   rw [Oper.upon_value]
   go_wp2
   go_end0
   exact ⟨rfl, h.used _, (Below.refl B w).setCell (p := ⟨b, 0, none⟩) h.1 _, (Lib.OthersKept.refl _ _ w).setCell ⟨b, 0, none⟩ rfl _, fun k hk => Below.heap_setCell _ _ _ _ hk⟩
 · have h0 := h.cell0
   go_enter Tryz.func131, Tryz.ntmps131
   go_wp2
   rw [Lib.run_neq_ptr_same w _ Tryz.underlying147 hj]
   go_wp2
   go_end0
   exact ⟨rfl, h, Below.refl B _, Lib.OthersKept.refl _ _ _, fun _ _ => rfl⟩
theorem bput {B b : Nat} {w w1 w2 : World} {v v' : Value} {bs bs' : List Value} (hBw : B ≤ w.heap.size) (hB : B ≤ b) (hb1 : Below B w w1) (hk1 : BKept b w w1)
   (hbk : w1.heap[b]? = some (.cells #[.pointer (some ⟨b, 0, none⟩), v] 149 (0, 0))) (hown : w1.ownsRowF B 5 1 v bs.length bs) (hg : w1.grownBy w2 v.ownBlock) (hown' : w2.ownsRowF B 5 1 v' bs'.length bs') :
   Lib.IsBuilderF 149 5 B b bs' (w2.setCell ⟨b, 1, none⟩ v') ∧ Below B w (w2.setCell ⟨b, 1, none⟩ v') ∧ BKept b w (w2.setCell ⟨b, 1, none⟩ v') := by
 have hlt : b < w1.heap.size := by
   rcases Nat.lt_or_ge b w1.heap.size with h | h
   · exact h
   · rw [Array.getElem?_eq_none h] at hbk; cases hbk
 have hb2 : w2.heap[b]? = some (.cells #[.pointer (some ⟨b, 0, none⟩), v] 149 (0, 0)) :=
   (hg.block b hlt (fun e => Lib.ownBlock_neF hown hbk bne e.symm)).trans hbk
 refine ⟨.inr (Lib.BuilderAtF.put hB hb2 hown' bne), ?_, ?_⟩
 · exact (hb1.grown hg (by have := hb1.size; omega) (fun k hk => (hown.lt k hk).1)).setCell (p := ⟨b, 1, none⟩) hB _
 · exact (Lib.OthersKept.grown hk1 hg (Lib.ownsRowF_kind hown)).setCell ⟨b, 1, none⟩ rfl _
theorem ownF_slice {w : World} {base n : Nat} {e : TypeId} {v : Value} {xs : List Value} (h : w.ownsRowF base e 1 v n xs) : ∃ A c, v = .slice A n c := by
 rcases h.2 with ⟨rfl, rfl⟩ | ⟨g, c, _, _, rfl, _⟩
 · exact ⟨_, _, rfl⟩
 · exact ⟨_, _, rfl⟩
set_option maxRecDepth 100000 in
set_option maxHeartbeats 2000000 in
theorem wstring_any (B b : Nat) (l : List UInt8) (s : ByteArray) (w : World) (h : Bld B b l w) (hlen : l.length + s.size ≤ 140737488355328) (hBw : B ≤ w.heap.size) :
   Calls Tryz.prog 69 #[.pointer (some ⟨b, 0, none⟩), .string s] w fun e w' =>
     (∃ v, e = .returned v) ∧ Bld B b (l ++ s.data.toList) w' ∧ Below B w w' ∧ BKept b w w' := by
 obtain ⟨i0, hi, hz0, hz1, hz2⟩ := info_parts info5
 have hl := Lib.byteCells_length l
 go_enter Tryz.func69, Tryz.ntmps69
 go_wp2_with (go_at_call 131; refine (check_any B b _ _ h).mono ?_)
 rintro e w1 ⟨rfl, ⟨hB, v, hbk, hown, hne⟩, hb1, hk1, _⟩
 have c0 : w1.cell? ⟨b, 0, none⟩ = some (.pointer (some ⟨b, 0, none⟩)) := by rw [Lib.cell_of_heap hbk]; rfl
 have c1 : w1.cell? ⟨b, 1, none⟩ = some v := by rw [Lib.cell_of_heap hbk]; rfl
 go_wp2_with (at_builtin; refine Lib.wpList_append_own_stringF _ rfl _ _ 71 9 rfl B 5 i0 Tryz.underlying71 Tryz.underlying9 hi hz0 hz1 hz2 _ _ _ rfl hown s rfl ?c3 ?c4 ?c5 ?_)
 case c3 => rw [hl]; unfold maxLen; omega
 case c4 => rw [hl]; omega
 case c5 => have := hb1.size; omega
 intro v' w2 hown' hgrow _
 have hlt : b < w1.heap.size := by
   rcases Nat.lt_or_ge b w1.heap.size with h | h
   · exact h
   · rw [Array.getElem?_eq_none h] at hbk; cases hbk
 have hb2 := (hgrow.block b hlt (fun e => hne e.symm)).trans hbk
 have d1 : w2.cell? ⟨b, 1, none⟩ = some v := by rw [Lib.cell_of_heap hb2]; rfl
 have f1 : w2.frozen? ⟨b, 1, none⟩ = false := Lib.frozen_of_heap hb2 1
 have hP := bput (bs' := Lib.byteCells (l ++ s.data.toList)) hBw hB hb1 hk1 hbk hown hgrow (by rw [Lib.byteCells_append]; simpa [Lib.strCells_eq, Lib.byteCells_length] using hown')
 obtain ⟨ao, cap, rfl⟩ := ownF_slice hown'
 go_wp2
 go_ret2
 exact ⟨⟨_, rfl⟩, hP⟩
set_option maxRecDepth 100000 in
set_option maxHeartbeats 2000000 in
theorem wbyte_any (B b : Nat) (l : List UInt8) (c : UInt8) (w : World) (h : Bld B b l w) (hlen : l.length + 1 ≤ 140737488355328) (hBw : B ≤ w.heap.size) :
   Calls Tryz.prog 259 #[.pointer (some ⟨b, 0, none⟩), .int .u8 (c.toNat : Int)] w fun e w' =>
     e = .returned .nilIface ∧ Bld B b (l ++ [c]) w' ∧ Below B w w' ∧ BKept b w w' := by
 obtain ⟨i0, hi, hz0, hz1, hz2⟩ := info_parts info5
 have hl := Lib.byteCells_length l
 go_enter Tryz.func259, Tryz.ntmps259
 go_wp2_with (go_at_call 131; refine (check_any B b _ _ h).mono ?_)
 rintro e w1 ⟨rfl, ⟨hB, v, hbk, hown, hne⟩, hb1, hk1, _⟩
 have hlt : b < w1.heap.size := by
   rcases Nat.lt_or_ge b w1.heap.size with h | h
   · exact h
   · rw [Array.getElem?_eq_none h] at hbk; cases hbk
 have c0 : w1.cell? ⟨b, 0, none⟩ = some (.pointer (some ⟨b, 0, none⟩)) := by rw [Lib.cell_of_heap hbk]; rfl
 have c1 : w1.cell? ⟨b, 1, none⟩ = some v := by rw [Lib.cell_of_heap hbk]; rfl
 go_wp2_with (at_builtin; refine wpList_append_ownF _ rfl _ _ 71 rfl B 5 i0 (.int .u8 0) 1 1 Tryz.underlying71 hi hz0 hz1 hz2 rfl (by decide) _ _ _ rfl (hown.alloc _) ⟨w1.heap.size, 0, none⟩ 1 1 [.int .u8 (c.toNat : Int)] rfl rfl (cell_one_new _ _ _) (by simp [Value.oneCell']) (by rw [hl]; unfold maxLen; omega) (by rw [hl]; omega) (by have := hb1.size; simp; omega) ?_)
 intro v' w2 hown' hgrow _
 have hb3 := (Lib.alloc_old w1 (.cells #[.int .u8 (c.toNat : Int)] 5) b hlt).trans hbk
 have hb2 := (hgrow.block b (by simp; omega) (fun e => hne e.symm)).trans hb3
 have d1 : w2.cell? ⟨b, 1, none⟩ = some v := by rw [Lib.cell_of_heap hb2]; rfl
 have f1 : w2.frozen? ⟨b, 1, none⟩ = false := Lib.frozen_of_heap hb2 1
 have hP := bput (bs' := Lib.byteCells (l ++ [c])) hBw hB (hb1.alloc (by have := hb1.size; omega) _) (Lib.OthersKept.alloc hk1 _) hb3 (hown.alloc _) hgrow (by rw [Lib.byteCells_append]; simpa [Lib.byteCells] using hown')
 obtain ⟨ao, cap, rfl⟩ := ownF_slice hown'
 go_wp2
 go_ret
 exact ⟨rfl, hP⟩
theorem text_any (B b : Nat) (l : List UInt8) (w : World) (h : Bld B b l w) (hBw : B ≤ w.heap.size) :
   Calls Tryz.prog 72 #[.pointer (some ⟨b, 0, none⟩)] w fun e w' =>
     e = .returned (.string ⟨l.toArray⟩) ∧ Bld B b l w' ∧ Below B w w' ∧ BKept b w w' :=
 Tryz.Builder_String_any_k B b l w h hBw
theorem Bld.new (w : World) : Bld w.heap.size w.heap.size [] (w.alloc (.cells #[.pointer none, .slice none 0 0] 149)) :=
 Lib.IsBuilderF.of (Lib.fresh_isBuilder _ _ w)
end Go.Proofs.YtfkchheildfkpaaGreatDoor
