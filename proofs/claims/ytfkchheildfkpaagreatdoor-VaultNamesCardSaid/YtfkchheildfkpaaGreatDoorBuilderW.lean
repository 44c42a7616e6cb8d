/-
 The walk of (*strings.Builder).Write onto a row of bytes.
-/
import Derived.Test.YtfkchheildfkpaaGreatDoorBuilder
namespace Go.Proofs.YtfkchheildfkpaaGreatDoor
open Go.RowKit
set_option maxRecDepth 100000 in
set_option maxHeartbeats 2000000 in
theorem write_any (B b : Nat) (l m : List UInt8) (g cap : Nat) (r : Array Value) (t : TypeId) (w : World) (h : Bld B b l w) (hg : Blk w g t (nums m ++ r)) (hgb : g ≠ b) (hlen : l.length + m.length ≤ 140737488355328) (hBw : B ≤ w.heap.size) :
   Calls Tryz.prog 281 #[.pointer (some ⟨b, 0, none⟩), .slice (some ⟨g, 0, none⟩) m.length cap] w fun e w' =>
     (∃ v, e = .returned v) ∧ Bld B b (l ++ m) w' ∧ Below B w w' ∧ BKept b w w' := by
 obtain ⟨i0, hi, hz0, hz1, hz2⟩ := info_parts info5
 have hl := Lib.byteCells_length l
 have hm := Lib.byteCells_length m
 go_enter Tryz.func281, Tryz.ntmps281
 go_wp2_with (go_at_call 131; refine (check_any B b _ _ h).mono ?_)
 rintro e w1 ⟨rfl, ⟨hB, v, hbk, hown, hne⟩, hb1, hk1, hoth⟩
 have hg1 : Blk w1 g t (nums m ++ r) := (hoth g hgb).trans hg
 have hlt : b < w1.heap.size := by
   rcases Nat.lt_or_ge b w1.heap.size with h | h
   · exact h
   · rw [Array.getElem?_eq_none h] at hbk; cases hbk
 have c0 : w1.cell? ⟨b, 0, none⟩ = some (.pointer (some ⟨b, 0, none⟩)) := by rw [Lib.cell_of_heap hbk]; rfl
 have c1 : w1.cell? ⟨b, 1, none⟩ = some v := by rw [Lib.cell_of_heap hbk]; rfl
 have hcells : ∀ j u, (Lib.byteCells m)[j]? = some u → w1.cell? ((⟨g, 0, none⟩ : Addr).add j) = some u := by
   intro j u hj
   have hp : (⟨g, 0, none⟩ : Addr).add j = ⟨g, j, none⟩ := by unfold Addr.add; split <;> simp_all
   have hjl : j < m.length := by
     rcases Nat.lt_or_ge j m.length with h | h
     · exact h
     · rw [List.getElem?_eq_none (by rw [hm]; exact h)] at hj; cases hj
   rw [hp, hg1.cell j, Array.getElem?_append_left (by rw [nums_size]; exact hjl)]
   simpa [nums, Lib.byteCells] using hj
 have hone : ∀ u ∈ Lib.byteCells m, u.oneCell' = true := by
   intro u hu
   obtain ⟨x, _, rfl⟩ := List.mem_map.1 hu
   rfl
 go_wp2_with (at_builtin; refine wpList_append_ownF _ rfl _ _ 71 rfl B 5 i0 (.int .u8 0) 1 1 Tryz.underlying71 hi hz0 hz1 hz2 rfl (by decide) _ _ _ rfl hown ⟨g, 0, none⟩ m.length cap (Lib.byteCells m) rfl (by rw [hm, Nat.mul_one]) hcells hone (by rw [hl]; unfold maxLen; omega) (by rw [hl]; omega) (by have := hb1.size; omega) ?_)
 intro v' w2 hown' hgrow _
 have hb2 := (hgrow.block b hlt (fun e => hne e.symm)).trans hbk
 have d1 : w2.cell? ⟨b, 1, none⟩ = some v := by rw [Lib.cell_of_heap hb2]; rfl
 have f1 : w2.frozen? ⟨b, 1, none⟩ = false := Lib.frozen_of_heap hb2 1
 have hP := bput (bs' := Lib.byteCells (l ++ m)) hBw hB hb1 hk1 hbk hown hgrow (by rw [Lib.byteCells_append]; simpa [hl, hm] using hown')
 obtain ⟨ao, cap, rfl⟩ := ownF_slice hown'
 go_wp2
 go_ret2
 exact ⟨⟨_, rfl⟩, hP⟩
end Go.Proofs.YtfkchheildfkpaaGreatDoor
