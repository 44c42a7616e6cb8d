/-
 The code package: the data's rows. The code package: Encode. The health laws: what puts a blob's shards into all stores. The health laws: fill.
-/
import Derived.Test.YtnbkhdbligjifaaGreatDoorCodF
import Derived.Lib.BufferWrite
import Derived.Test.YtnbkhdbligjifaaGreatDoorCodA
set_option linter.unusedVariables false
set_option linter.unusedSimpArgs false
set_option maxRecDepth 100000
set_option maxHeartbeats 40000000
namespace Go.Proofs.YtnbkhdbligjifaaGreatDoor
open Go Go.RowKit
namespace Cod
attribute [local go_sem ↓] appSem_eq
def headB (m i : Nat) : Nat := m / 256 ^ (7 - i) % 256
def headF (m q i : Nat) : Nat := if i < q then headB m i else 0
theorem headStep {wr : World} {D M m q : Nat} {x : Int} (h : Blk wr D 5 (Spr.tab M (Spr.by8 (headF m q)))) (hq : q < M) (hx : x = (headB m q : Nat)) : Blk (wr.setCell ⟨D, q, none⟩ (.int .u8 x)) D 5 (Spr.tab M (Spr.by8 (headF m (q + 1)))) := by
 have := h.set_ q (.int .u8 x)
 rw [Spr.tab_set hq (g := Spr.by8 (headF m (q + 1))) (by unfold Spr.by8 headF; rw [if_pos (by omega), hx]) (fun c hc => by
  unfold Spr.by8 headF
  by_cases h1 : c < q
  ·rw [if_pos (by omega), if_pos h1]
  ·rw [if_neg (by omega), if_neg h1])] at this
 exact this
def dataF (s : ByteArray) (i : Nat) : Nat := if i < 8 then headB s.size i else (s.data.toList.getD (i - 8) 0).toNat
def chunksV (D z : Nat) (q : Nat) : List Value := (List.range q).map fun i => .slice (some ⟨D, i * z, none⟩) z z
theorem chunksV_succ (D z q : Nat) : chunksV D z (q + 1) = chunksV D z q ++ [.slice (some ⟨D, q * z, none⟩) z z] := by simp [chunksV, List.range_succ]
theorem info_sl : (Tryz.prog.info? 136).map (fun i => (i.zero, i.size, i.bytes)) = some (some (.slice none 0 0), 1, 24) := by kernel_rfl
theorem blk_setRow {w : World} {g : Nat} {t : TypeId} {old cs : Array Value} (h : Blk w g t old) : Blk (w.setRow g cs) g t cs := by
 unfold Blk at h ⊢
 simp [World.setRow, Array.getElem?_modify, h]
theorem below_setRow {B g : Nat} {a w : World} (h : Below B a w) (hg : B ≤ g) (cs : Array Value) : Below B a (w.setRow g cs) := by
 refine h.trans ⟨rfl, rfl, rfl, by simp [World.setRow], fun k hk => ?_⟩
 simp only [World.setRow, Array.getElem?_modify]
 rw [if_neg (by omega)]
theorem cell_setRow {w : World} {g k j : Nat} {cs : Array Value} {v : Value} (h : w.cell? ⟨k, j, none⟩ = some v) (hk : k ≠ g) : (w.setRow g cs).cell? ⟨k, j, none⟩ = some v := by
 refine (World.cell?_of_block ?_).trans h
 simp only [World.setRow, Array.getElem?_modify]
 rw [if_neg (fun e => hk e.symm)]
theorem copy_tab (s : ByteArray) (M : Nat) (h : 8 + s.size ≤ M) :
 ((Spr.tab M (Spr.by8 (headF s.size 8))).toList.take 8 ++ Lib.byteCells s.data.toList ++ (Spr.tab M (Spr.by8 (headF s.size 8))).toList.drop (8 + s.size)).toArray = Spr.tab M (Spr.by8 (dataF s)) := by
 have hsl : s.data.toList.length = s.size := by simp
 have hbl : (Lib.byteCells s.data.toList).length = s.size := by rw [Lib.byteCells_length, hsl]
 have hta : ((List.range M).map (Spr.by8 (headF s.size 8))).length = M := by simp
 unfold Spr.tab
 congr 1
 apply List.ext_getElem?
 intro i
 have htk : (((List.range M).map (Spr.by8 (headF s.size 8))).take 8).length = 8 := by rw [List.length_take, hta]; omega
 simp only [List.append_assoc]
 by_cases h1 : i < 8
 ·rw [List.getElem?_append_left (by omega), List.getElem?_take_of_lt h1, List.getElem?_map, List.getElem?_map, List.getElem?_range (by omega)]
  simp [Spr.by8, headF, dataF, h1]
 ·rw [List.getElem?_append_right (by omega), htk]
  by_cases h2 : i - 8 < s.size
  ·rw [List.getElem?_append_left (by omega), List.getElem?_map, List.getElem?_range (by omega)]
   simp [Lib.byteCells, Spr.by8, dataF, h1, h2, List.getD]
  ·rw [List.getElem?_append_right (by omega), hbl, List.getElem?_drop, List.getElem?_map, List.getElem?_map, show 8 + s.size + (i - 8 - s.size) = i by omega]
   by_cases h3 : i < M
   ·rw [List.getElem?_range h3]
    simp [Spr.by8, headF, dataF, h1, List.getD, List.getElem?_eq_none (show s.data.toList.length ≤ i - 8 by omega)]
   ·rw [List.getElem?_eq_none (by simp; omega)]
    rfl
def dataL (s : ByteArray) (k z : Nat) : List (List Nat) := (List.range k).map fun i => (List.range z).map fun j => dataF s (i * z + j)
theorem dataF_lt (s : ByteArray) (i : Nat) : dataF s i < 256 := by
 unfold dataF headB
 split
 ·exact Nat.mod_lt _ (by decide)
 ·exact UInt8.toNat_lt _
theorem data_rows {w : World} {base D k z : Nat} {e : TypeId} {v : Value} {s : ByteArray} (ho : OwnG w base e 1 v k (chunksV D z k)) (hk : 0 < k) (hB : Blk w D 5 (Spr.tab (z * k) (Spr.by8 (dataF s)))) : Spr.Rows w v (dataL s k z) := by
 obtain ⟨g, cap, rfl, _⟩ := ho.addr hk
 refine ⟨g, 0, cap, by simp [dataL], fun i l hi => ?_⟩
 have hin : i < k := by
  have := (List.getElem?_eq_some_iff.1 hi).1
  simpa [dataL] using this
 have hl : l = (List.range z).map fun j => dataF s (i * z + j) := by
  unfold dataL at hi
  rw [List.getElem?_map, List.getElem?_range hin] at hi
  simpa using hi.symm
 subst hl
 refine ⟨.slice (some ⟨D, i * z, none⟩) z z, ?_, D, i * z, z, by simp, fun j x hj => ?_⟩
 ·rw [Nat.zero_add]
  refine ho.cells rfl i _ ?_
  unfold chunksV
  rw [List.getElem?_map, List.getElem?_range hin]
  rfl
 ·have hjz : j < z := by
   have := (List.getElem?_eq_some_iff.1 hj).1
   simpa using this
  have hx : x = dataF s (i * z + j) := by
   rw [List.getElem?_map, List.getElem?_range hjz] at hj
   simpa using hj.symm
  subst hx
  refine ⟨dataF_lt _ _, ?_⟩
  have h1 : (i + 1) * z ≤ k * z := Nat.mul_le_mul_right z hin
  rw [Nat.add_mul, Nat.one_mul, Nat.mul_comm k z] at h1
  rw [hB.cell, Spr.tab_get (by omega)]
  rfl
def DataPost (w : World) (s : ByteArray) (k z : Nat) (e : Ending) (w' : World) : Prop := ∃ v, e = .returned v ∧ Spr.Rows w' v (dataL s k z) ∧ Below w.heap.size w w'
theorem data_any (w : World) (k n z : Nat) (s : ByteArray) (hk : 1 ≤ k) (hk2 : k ≤ 12) (hs : s.size ≤ 32768) (hz : z ≤ 100000) (hkz : s.size + 8 ≤ z * k) :
 Calls Tryz.prog 72 #[.agg #[.int .i64 (k : Int), .int .i64 (n : Int)], .string s, .int .i64 (z : Int)] w (DataPost w s k z) := by
 have hM : z * k ≤ 1200000 := by
  have : z * k ≤ 100000 * 12 := Nat.mul_le_mul hz hk2
  omega
 have hmk := run_mk (P := Tryz.prog) (t := 136) (e := 5) (z := .int .u8 0) (bytes := 1) Tryz.underlying136 (by kernel_rfl) rfl (z * k) (by omega) (by omega)
 have hzk : ((z * k : Nat) : Int) = (z : Int) * (k : Int) := by push_cast; rfl
 rw [hzk] at hmk
 go_enter Tryz.func72, Tryz.ntmps72
 go_wp2_with fail
 go_loopw [16] (fun i wr => ∃ q : Nat, q ≤ 8 ∧ i = .int .i64 (q : Int) ∧ Blk wr (w.heap.size + 1) 5 (Spr.tab (z * k) (Spr.by8 (headF s.size q))) ∧ Below w.heap.size w wr ∧ wr.cell? ⟨w.heap.size, 0, none⟩ = some (.int .i64 (k : Int))) (fun i _ => 8 - (intOf i).toNat)
 case atStart =>
  refine ⟨0, by omega, rfl, ?_, ((Below.refl _ _).alloc (Nat.le_refl _) _).alloc (by simp) _, ?_⟩
  ·have := Blk.new (w.alloc (.cells #[.int .i64 (k : Int), .int .i64 (n : Int)] 25)) 5 (Array.replicate (z * k) (.int .u8 0))
   rw [Spr.tab_rep, Spr.tab_congr (g := Spr.by8 (headF s.size 0)) (fun c _ => by simp [Spr.by8, headF])] at this
   rw [Spr.tab_rep, Spr.tab_congr (f := fun _ => Value.int .u8 0) (g := Spr.by8 (headF s.size 0)) (fun c _ => by simp [Spr.by8, headF])]
   simpa using this
  ·exact ((Blk.new w 25 #[.int .i64 (k : Int), .int .i64 (n : Int)]).alloc _).cell 0
 case round =>
  obtain ⟨q, hq, rfl, hB, hbl, hc0⟩ := hrel
  by_cases hlt : q < 8
  ·have hz0 := hB.cell q
   rw [Spr.tab_get (by omega)] at hz0
   have hf0 := hB.frozen q
   have hq2 : (q : Int) < (z : Int) * (k : Int) := by rw [← hzk]; omega
   have HB := Lib.hid hB
   clear hB
   obtain rfl | rfl | rfl | rfl | rfl | rfl | rfl | rfl : q = 0 ∨ q = 1 ∨ q = 2 ∨ q = 3 ∨ q = 4 ∨ q = 5 ∨ q = 6 ∨ q = 7 := by omega
   ·go_wp2_with fail
    refine ⟨⟨1, by omega, rfl, headStep HB.out (by omega) (by unfold headB; simp; try omega), hbl.setCell (p := ⟨w.heap.size + 1, 0, none⟩) (by show w.heap.size ≤ w.heap.size + 1; omega) _, ?_⟩, by simp [intOf]⟩
    exact (World.cell?_of_block (Below.heap_setCell wr ⟨w.heap.size + 1, 0, none⟩ _ w.heap.size (by show w.heap.size ≠ w.heap.size + 1; omega))).trans hc0
   ·go_wp2_with fail
    refine ⟨⟨2, by omega, rfl, headStep HB.out (by omega) (by unfold headB; simp; try omega), hbl.setCell (p := ⟨w.heap.size + 1, 1, none⟩) (by show w.heap.size ≤ w.heap.size + 1; omega) _, ?_⟩, by simp [intOf]⟩
    exact (World.cell?_of_block (Below.heap_setCell wr ⟨w.heap.size + 1, 1, none⟩ _ w.heap.size (by show w.heap.size ≠ w.heap.size + 1; omega))).trans hc0
   ·go_wp2_with fail
    refine ⟨⟨3, by omega, rfl, headStep HB.out (by omega) (by unfold headB; simp; try omega), hbl.setCell (p := ⟨w.heap.size + 1, 2, none⟩) (by show w.heap.size ≤ w.heap.size + 1; omega) _, ?_⟩, by simp [intOf]⟩
    exact (World.cell?_of_block (Below.heap_setCell wr ⟨w.heap.size + 1, 2, none⟩ _ w.heap.size (by show w.heap.size ≠ w.heap.size + 1; omega))).trans hc0
   ·go_wp2_with fail
    refine ⟨⟨4, by omega, rfl, headStep HB.out (by omega) (by unfold headB; simp; try omega), hbl.setCell (p := ⟨w.heap.size + 1, 3, none⟩) (by show w.heap.size ≤ w.heap.size + 1; omega) _, ?_⟩, by simp [intOf]⟩
    exact (World.cell?_of_block (Below.heap_setCell wr ⟨w.heap.size + 1, 3, none⟩ _ w.heap.size (by show w.heap.size ≠ w.heap.size + 1; omega))).trans hc0
   ·go_wp2_with fail
    refine ⟨⟨5, by omega, rfl, headStep HB.out (by omega) (by unfold headB; simp; try omega), hbl.setCell (p := ⟨w.heap.size + 1, 4, none⟩) (by show w.heap.size ≤ w.heap.size + 1; omega) _, ?_⟩, by simp [intOf]⟩
    exact (World.cell?_of_block (Below.heap_setCell wr ⟨w.heap.size + 1, 4, none⟩ _ w.heap.size (by show w.heap.size ≠ w.heap.size + 1; omega))).trans hc0
   ·go_wp2_with fail
    refine ⟨⟨6, by omega, rfl, headStep HB.out (by omega) (by unfold headB; simp; try omega), hbl.setCell (p := ⟨w.heap.size + 1, 5, none⟩) (by show w.heap.size ≤ w.heap.size + 1; omega) _, ?_⟩, by simp [intOf]⟩
    exact (World.cell?_of_block (Below.heap_setCell wr ⟨w.heap.size + 1, 5, none⟩ _ w.heap.size (by show w.heap.size ≠ w.heap.size + 1; omega))).trans hc0
   ·go_wp2_with fail
    refine ⟨⟨7, by omega, rfl, headStep HB.out (by omega) (by unfold headB; simp; try omega), hbl.setCell (p := ⟨w.heap.size + 1, 6, none⟩) (by show w.heap.size ≤ w.heap.size + 1; omega) _, ?_⟩, by simp [intOf]⟩
    exact (World.cell?_of_block (Below.heap_setCell wr ⟨w.heap.size + 1, 6, none⟩ _ w.heap.size (by show w.heap.size ≠ w.heap.size + 1; omega))).trans hc0
   ·go_wp2_with fail
    refine ⟨⟨8, by omega, rfl, headStep HB.out (by omega) (by unfold headB; simp; try omega), hbl.setCell (p := ⟨w.heap.size + 1, 7, none⟩) (by show w.heap.size ≤ w.heap.size + 1; omega) _, ?_⟩, by simp [intOf]⟩
    exact (World.cell?_of_block (Below.heap_setCell wr ⟨w.heap.size + 1, 7, none⟩ _ w.heap.size (by show w.heap.size ≠ w.heap.size + 1; omega))).trans hc0
  ·have hq8 : q = 8 := by omega
   subst hq8
   have hlt8 : 8 ≤ z * k := by omega
   have hle8 : (8 : Int) ≤ (z : Int) * (k : Int) := by rw [← hzk]; omega
   by_cases h88 : z * k = 8
   ·have h00 : s.size = 0 := by omega
    have hcp := fun dd : Option Addr => Lib.run_copy_empty_string wr 136 9 3 5 dd 0 0 s Tryz.underlying136 (by kernel_rfl) h00
    have hBd : Blk wr (w.heap.size + 1) 5 (Spr.tab (z * k) (Spr.by8 (dataF s))) := by
     rw [Spr.tab_congr (g := Spr.by8 (dataF s)) fun c hc => by unfold Spr.by8 headF dataF; rw [if_pos (by omega), if_pos (by omega)]] at hB
     exact hB
    have HB4 := Lib.hid hBd
    have HBL4 := Lib.hid hbl
    clear hB hBd hbl
    go_wp2_with fail
    obtain ⟨W4, hW4⟩ : ∃ W4, W4 = wr := ⟨_, rfl⟩
    subst hW4
    clear hcp
    go_loopw [9, 37] (fun o i wx => ∃ q : Nat, q ≤ k ∧ i = .int .i64 (q : Int) ∧ OwnG wx W4.heap.size 136 1 o q (chunksV (w.heap.size + 1) z q) ∧ Below W4.heap.size W4 wx) (fun _ i _ => k - (intOf i).toNat)
    case atStart => exact ⟨0, by omega, rfl, OwnG.nil _ _ _ _, Below.refl _ _⟩
    case round =>
     obtain ⟨q, hq, rfl, ho, hbx⟩ := hrel
     by_cases hqk : q < k
     ·have hqk2 : (q : Int) < (k : Int) := by omega
      have m1 : q * z + z ≤ z * k := by
       have : (q + 1) * z ≤ k * z := Nat.mul_le_mul_right z hqk
       rw [Nat.add_mul, Nat.one_mul, Nat.mul_comm k z] at this
       exact this
      have hz1 : 1 ≤ z := by
       rcases Nat.eq_zero_or_pos z with h0 | h0
       ·rw [h0, Nat.zero_mul] at hkz; omega
       ·exact h0
      obtain ⟨x, hx⟩ : ∃ x : Nat, x = q * z := ⟨_, rfl⟩
      have e1 : ((q : Int) * (z : Int)) = (x : Int) := by rw [hx]; push_cast; rfl
      have e2 : (((q : Int) + 1) * (z : Int)) = ((x + z : Nat) : Int) := by rw [Int.add_mul, e1]; push_cast; omega
      rw [← hx] at m1
      obtain ⟨g6, c6, w6, hrun, hown, hb6, _⟩ := ownG_new (c := 1) (m := 1) (C := #[.slice (some ⟨w.heap.size + 1, x, none⟩) z z]) Tryz.underlying132 info_sl rfl (by omega) (by omega) ho rfl (by simp [Value.oneCell']) (by omega) (by omega) hbx.size
      have HX := Lib.hid hx
      have HO := Lib.hid hown
      have HB6 := Lib.hid (hbx.trans hb6)
      obtain ⟨A6, cap6, hv6⟩ := ho.shape
      subst hv6
      clear ho hbx hown hb6 hx
      go_wp2_with fail
      refine ⟨⟨q + 1, by omega, rfl, by rw [chunksV_succ, ← HX.out]; exact HO.out, HB6.out⟩, by simp [intOf]; omega⟩
     ·have hqe : q = k := by omega
      subst hqe
      have HO := Lib.hid ho
      have HBX := Lib.hid hbx
      have d1 : ¬ ((q : Int) < (q : Int)) := by omega
      clear ho hbx
      go_wp2_with fail
      go_ret
      have hs4 := HBL4.out.size
      exact ⟨_, rfl, data_rows HO.out hk (HB4.out.below HBX.out HB4.out.lt), HBL4.out.trans (Below.mono HBX.out hs4)⟩
   ·have hgt8 : 8 < z * k := by omega
    have hcp := Lib.run_copy_row_string wr 136 9 3 5 (w.heap.size + 1) 8 (z * k - 8) (z * k - 8) s _ 5 Tryz.underlying136 (by kernel_rfl) hB (by omega) (by rw [Spr.tab_size]; omega)
    rw [copy_tab s (z * k) (by omega)] at hcp
    have hc4 := cell_setRow (cs := Spr.tab (z * k) (Spr.by8 (dataF s))) hc0 (show w.heap.size ≠ w.heap.size + 1 by omega)
    have HB4 := Lib.hid (blk_setRow (cs := Spr.tab (z * k) (Spr.by8 (dataF s))) hB)
    have HBL4 := Lib.hid (below_setRow hbl (by omega) (g := w.heap.size + 1) (Spr.tab (z * k) (Spr.by8 (dataF s))))
    clear hB hbl
    go_wp2_with fail
    generalize (wr.setRow (w.heap.size + 1) (Spr.tab (z * k) (Spr.by8 (dataF s)))) = W4 at *
    clear hcp
    go_loopw [9, 37] (fun o i wx => ∃ q : Nat, q ≤ k ∧ i = .int .i64 (q : Int) ∧ OwnG wx W4.heap.size 136 1 o q (chunksV (w.heap.size + 1) z q) ∧ Below W4.heap.size W4 wx) (fun _ i _ => k - (intOf i).toNat)
    case atStart => exact ⟨0, by omega, rfl, OwnG.nil _ _ _ _, Below.refl _ _⟩
    case round =>
     obtain ⟨q, hq, rfl, ho, hbx⟩ := hrel
     by_cases hqk : q < k
     ·have hqk2 : (q : Int) < (k : Int) := by omega
      have m1 : q * z + z ≤ z * k := by
       have : (q + 1) * z ≤ k * z := Nat.mul_le_mul_right z hqk
       rw [Nat.add_mul, Nat.one_mul, Nat.mul_comm k z] at this
       exact this
      have hz1 : 1 ≤ z := by
       rcases Nat.eq_zero_or_pos z with h0 | h0
       ·rw [h0, Nat.zero_mul] at hkz; omega
       ·exact h0
      obtain ⟨x, hx⟩ : ∃ x : Nat, x = q * z := ⟨_, rfl⟩
      have e1 : ((q : Int) * (z : Int)) = (x : Int) := by rw [hx]; push_cast; rfl
      have e2 : (((q : Int) + 1) * (z : Int)) = ((x + z : Nat) : Int) := by rw [Int.add_mul, e1]; push_cast; omega
      rw [← hx] at m1
      obtain ⟨g6, c6, w6, hrun, hown, hb6, _⟩ := ownG_new (c := 1) (m := 1) (C := #[.slice (some ⟨w.heap.size + 1, x, none⟩) z z]) Tryz.underlying132 info_sl rfl (by omega) (by omega) ho rfl (by simp [Value.oneCell']) (by omega) (by omega) hbx.size
      have HX := Lib.hid hx
      have HO := Lib.hid hown
      have HB6 := Lib.hid (hbx.trans hb6)
      obtain ⟨A6, cap6, hv6⟩ := ho.shape
      subst hv6
      clear ho hbx hown hb6 hx
      go_wp2_with fail
      refine ⟨⟨q + 1, by omega, rfl, by rw [chunksV_succ, ← HX.out]; exact HO.out, HB6.out⟩, by simp [intOf]; omega⟩
     ·have hqe : q = k := by omega
      subst hqe
      have HO := Lib.hid ho
      have HBX := Lib.hid hbx
      have d1 : ¬ ((q : Int) < (q : Int)) := by omega
      clear ho hbx
      go_wp2_with fail
      go_ret
      have hs4 := HBL4.out.size
      exact ⟨_, rfl, data_rows HO.out hk (HB4.out.below HBX.out HB4.out.lt), HBL4.out.trans (Below.mono HBX.out hs4)⟩
end Cod
end Go.Proofs.YtnbkhdbligjifaaGreatDoor
namespace Go.Proofs.YtnbkhdbligjifaaGreatDoor
open Go Go.RowKit
namespace Cod
def sizeZ (k m : Nat) : Nat := (8 + m + k - 1) / k
theorem sizeZ_mul (k m : Nat) (hk : 0 < k) : m + 8 ≤ sizeZ k m * k := by
 unfold sizeZ
 have h1 := Nat.div_add_mod (8 + m + k - 1) k
 have h2 := Nat.mod_lt (8 + m + k - 1) hk
 rw [Nat.mul_comm]
 omega
theorem sizeZ_le (k m : Nat) (hk : 0 < k) : sizeZ k m ≤ m + 8 + k := by
 unfold sizeZ
 exact Nat.le_trans (Nat.div_le_self _ _) (by omega)
theorem sizeN_nat (k m : Nat) (hk : 0 < k) : sizeN (k : Int) (m : Int) = (sizeZ k m : Nat) := by
 unfold sizeN sizeZ
 rw [show (8 + (m : Int) + (k : Int) - 1) = ((8 + m + k - 1 : Nat) : Int) by omega]
 norm_cast
def rowsV (ls : List (List Nat)) : Stab.SVal := ⟨fun v W => Spr.Rows W v ls, fun _ _ _ h hE => h.ext hE⟩
def paysS (base : Nat) (ms ls : List (List Nat)) : Stab.SVal := ⟨fun v W => OwnG W base 9 1 v ms.length (paysV ms ls ms.length), fun _ _ _ h hE => h.ext hE⟩
def EncPost (w : World) (k n : Nat) (s : ByteArray) (e : Ending) (w' : World) : Prop := ∃ v, e = .returned (.tuple #[v, .int .i64 0]) ∧ OwnG w' w.heap.size 9 1 v (matL k n).length (paysV (matL k n) (dataL s k (sizeZ k s.size)) (matL k n).length) ∧ Below w.heap.size w w'
theorem dataL_wide (s : ByteArray) (k z : Nat) (hk : 0 < k) : Spr.wide (dataL s k z) = z := by
 unfold Spr.wide dataL
 rw [List.getD, List.getElem?_map, List.getElem?_range hk]
 simp
structure ERd (bx : Nat) (k n : Int) (W : World) : Prop where
 c0 : W.cell? ⟨bx, 0, none⟩ = some (.int .i64 k)
 c1 : W.cell? ⟨bx, 1, none⟩ = some (.int .i64 n)
theorem ERd.ext {bx : Nat} {k n : Int} {w w' : World} (h : ERd bx k n w) (hE : Stab.Ext w w') : ERd bx k n w' := ⟨hE.cell h.c0, hE.cell h.c1⟩
theorem encode_any {G : Nat} (hnew : ∀ w : World, G ≤ w.heap.size → Calls Tryz.prog 139 #[] w (Spr.NewPost w)) (w : World) (hG : G ≤ w.heap.size) (k n : Nat) (hc : codeB (k : Int) (n : Int) = true) (s : ByteArray) (hs : s.size ≤ 32768) :
 Calls Tryz.prog 36 #[.agg #[.int .i64 (k : Int), .int .i64 (n : Int)], .string s] w (EncPost w k n s) := by
 obtain ⟨h1, h2, h3⟩ := (codeB_iff _ _).1 hc
 have hE0 := Stab.Ext.alloc w (.cells #[.int .i64 (k : Int), .int .i64 (n : Int)] 25)
 have bx := Blk.new w 25 #[.int .i64 (k : Int), .int .i64 (n : Int)]
 have HS := Lib.hid (size_any (k : Int) (n : Int) (s.size : Int) (w.alloc (.cells #[.int .i64 (k : Int), .int .i64 (n : Int)] 25)))
 have hkz := sizeZ_mul k s.size (by omega)
 have hzl := sizeZ_le k s.size (by omega)
 have hzn := sizeN_nat k s.size (by omega)
 have HC := Lib.hid hc
 have HNEW := Lib.hid hnew
 have HB0 := Lib.hid hE0
 have HBX := Lib.hid bx
 have k0 := bx.cell 0
 have k1 := bx.cell 1
 unfold SizePost at HS
 rw [if_neg (by simp [hc]), if_neg (by omega), hzn] at HS
 clear hc hnew hE0 bx hzn
 generalize hz : sizeZ k s.size = z at *
 have HZ := Lib.hid hz
 clear hz
 go_enter Tryz.func36, Tryz.ntmps36
 go_wp2_with (go_at_call 70; with_reducible refine HS.out.mono ?_)
 rintro e w1 ⟨rfl, hb⟩
 have hB1 : Below w.heap.size w w1 := Below.trans HB0.out (Below.mono hb HB0.out.size)
 have hx1 := HBX.out.below hb HBX.out.lt
 have HB1 := Lib.hid hB1
 have HR := Lib.hid (show ERd w.heap.size (k : Int) (n : Int) w1 from ⟨hx1.cell 0, hx1.cell 1⟩)
 clear hb hB1 hx1 k0 k1
 go_wp2_with fail
 refine Stab.rg 6 [[], [], [], [], [1, 2, 3], [0, 4]] [5] (ERd w.heap.size (k : Int) (n : Int)) [Stab.eqv ?_, Stab.eqv ?_, Stab.eqv ?_, Stab.eqv ?_, rowsV (dataL s k z), paysS w.heap.size (matL k n) (dataL s k z)] (HR.out.ext (Stab.Ext.drew _)) (fun _ _ h hE => h.ext hE) ?goals4 ?last4
 case goals4 =>
  simp only [List.take_succ_cons, List.take_zero]
  iterate 4
   refine Stab.gp (fun us w _ hE hS hp hK => ?_) ?_
   ·((try have e0 : _ = _ := hp.1); (try have e1 : _ = _ := hp.2.1); (try have e2 : _ = _ := hp.2.2.1); obtain ⟨s0, s1⟩ := hS; go_simp; exact hK _ _ (by show _ = _; with_reducible rfl) (Stab.Ext.refl _))
  refine Stab.Goals.plain rfl rfl (fun us w cK hE hS hp hK => ?_) ?_
  ·obtain ⟨h1, h2, h3, -⟩ := hp
   replace h1 : us 1 = _ := h1
   replace h2 : us 2 = _ := h2
   replace h3 : us 3 = _ := h3
   go_simp
   go_wp2_with (go_at_call 72; ((with_reducible refine (data_any _ k n z s (by omega) (by omega) hs (by omega) hkz).mono ?_); rintro e w9 ⟨v9, rfl, hv9, hb9⟩))
   exact hK _ _ hv9 hb9
  refine Stab.Goals.plain rfl rfl (fun us w cK hE hS hp hK => ?_) ?_
  ·obtain ⟨h0, h4, -⟩ := hp
   replace h0 : us 0 = _ := h0
   have h4r : Spr.Rows w (us 4) (dataL s k z) := h4
   go_simp
   go_wp2_with (go_at_call 71; ((refine (all_any HNEW.out _ (Nat.le_trans hG (Nat.le_trans HB1.out.size (Nat.le_trans (Stab.Ext.drew _).size hE.size))) k n HC.out (us 4) (dataL s k z) h4r (by simp [dataL]) (by rw [dataL_wide s k z (by omega)]; intro l hl; obtain ⟨i, _, rfl⟩ := List.mem_map.1 hl; simp) (by rw [dataL_wide s k z (by omega)]; omega)).mono ?_); rintro e w9 ⟨v9, rfl, hv9, hb9⟩))
   exact hK _ _ (OwnG.base' hv9 (Nat.le_trans HB1.out.size (Nat.le_trans (Stab.Ext.drew _).size hE.size))) hb9
  exact Stab.Goals.nil
 case last4 =>
  intro us w9 hE hS hp
  obtain ⟨h5, -⟩ := hp
  have h5r : OwnG w9 w.heap.size 9 1 (us 5) (matL k n).length (paysV (matL k n) (dataL s k z) (matL k n).length) := h5
  have HO := Lib.hid h5r
  have HBE := Lib.hid (HB1.out.trans (Below.mono ((Stab.Ext.drew _).trans hE) HB1.out.size))
  simp only [List.drop_succ_cons, List.drop_zero]
  clear hE hS h5r
  go_wp2_with fail
  go_ret2
  unfold EncPost
  rw [HZ.out]
  exact ⟨_, rfl, HO.out, HBE.out⟩
end Cod
namespace Hlt
def payB (k n : Nat) (s : ByteArray) (i : Nat) : List UInt8 := Cod.payL (Cod.matL k n) (Cod.dataL s k (Cod.sizeZ k s.size)) i
theorem payB_len {k : Nat} (n : Nat) (s : ByteArray) (i : Nat) (hk : 0 < k) : (payB k n s i).length = Cod.sizeZ k s.size := by
 unfold payB
 rw [Cod.payL_len, Cod.dataL_wide _ _ _ hk]
end Hlt
end Go.Proofs.YtnbkhdbligjifaaGreatDoor
namespace Go.Proofs.YtnbkhdbligjifaaGreatDoor
open Go Go.RowKit Vm
namespace Hlt
structure Fits (L : Nat) (s : PSt) : Prop where
 len : s.seen.length ≤ L
 key : ∀ p ∈ s.seen, p.1.size ≤ 80 ∧ p.2.size ≤ 65536
 wr : s.writes = []
 room : -9223372036854775808 ≤ s.room ∧ s.room ≤ 9223372036854775807
theorem Fits.ok {L : Nat} {s : PSt} (h : Fits L s) (hL : L ≤ 1000) : s.Ok := ⟨⟨by have := h.len; omega, h.key⟩, by rw [h.wr]; simp, h.room⟩
structure Well (s : PSt) : Prop where
 down : s.down = false
 refuse : s.refuse = -1
 room : s.room = -1
def stored (s : PSt) (N D : ByteArray) : PSt := { s with good := TMap.put s.seen N D, seen := TMap.put s.seen N D, writes := [] }
theorem put_mem {m : TMap} {N D : ByteArray} {x : ByteArray × ByteArray} (h : x ∈ TMap.put m N D) : x = (N, D) ∨ x ∈ m := by
 induction m with
 | nil => simpa [TMap.put] using h
 | cons p m ih =>
   obtain ⟨a, b⟩ := p
   unfold TMap.put at h
   split at h
   ·next he =>
    simp only [List.mem_cons] at h ⊢
    rcases h with h | h
    ·left; simp_all
    ·exact .inr (.inr h)
   ·simp only [List.mem_cons] at h ⊢
    rcases h with h | h
    ·exact .inr (.inl h)
    ·exact (ih h).imp id .inr
theorem put_well {s : PSt} (h : Well s) {N D : ByteArray} (h0 : N.size ≠ 0) (hN : N.size ≤ 80) (hD : D.size ≤ 65536) : putE s N D = 0 ∧ syncS (putS s N D) = stored s N D ∧ syncV (putS s N D) = 0 := by
 obtain ⟨good, seen, writes, down, refuse, room⟩ := s
 obtain ⟨rfl, rfl, rfl⟩ := h
 have hc : ¬ (N.size = 0 ∨ 80 < N.size ∨ 65536 < D.size) := by omega
 refine ⟨?_, ?_, ?_⟩
 ·simp only [putE, if_neg hc, fullB, refB]
  simp
 ·simp only [putS, if_neg hc, fullB, refB, refS]
  rfl
 ·simp only [putS, if_neg hc, fullB, refB, refS]
  rfl
/-! ### the shards of a blob -/
def shardOf (k n : Nat) (d : List UInt8) (s : ByteArray) (i : Nat) : Shd.Shard := ⟨k, n, i, d, payB k n s i⟩
def datB (k n : Nat) (d : List UInt8) (s : ByteArray) (i : Nat) : ByteArray := ⟨((shardOf k n d s i).data Shd.sumL).toArray⟩
theorem nmB_size (d : ByteArray) (hd : d.size = 32) (i : Nat) (hi : i < 12) : (nmB d i).size ≠ 0 ∧ (nmB d i).size ≤ 80 := by
 have h1 := Shd.hex_len d.data.toList
 have h2 := Shd.itoa_len i hi
 have h3 : d.data.toList.length = d.size := by simp
 have h4 : (nmB d i).size = (nmL d i).length := rfl
 rw [h4]
 unfold nmL Shd.nameL
 simp only [List.length_append, List.length_cons, List.length_nil]
 omega
theorem datB_size {k n : Nat} {d : List UInt8} {s : ByteArray} {i : Nat} (hk : 0 < k) (hk2 : k ≤ 12) (hd : d.length = 32) (hs : s.size ≤ 32768) : (datB k n d s i).size ≤ 65536 := by
 have h1 : (datB k n d s i).size = ((shardOf k n d s i).data Shd.sumL).length := rfl
 rw [h1, Shd.data_len Shd.sumL_len _ hd]
 have h2 := payB_len (k := k) n s i hk
 have h3 := Cod.sizeZ_le k s.size hk
 show 75 + (payB k n s i).length ≤ _
 omega
theorem callP_calm {p : PW} (h : Calm p) {i : Nat} (hi : i < p.n) (s' : PSt) (e : Int) : callP p i s' = { p with calls := wrap64 (p.calls + 1), st := upd p.st i s' } ∧ callE p i e = e := by
 have hh : p.has i = true := by simp [PW.has]; omega
 unfold callP callE
 rw [if_pos hh, if_pos hh, h.stepd]
 simp only [Bool.false_eq_true, if_false, Int.toNat_natCast]
 rw [step_calm h]
 exact ⟨rfl, trivial⟩
end Hlt
end Go.Proofs.YtnbkhdbligjifaaGreatDoor
namespace Go.Proofs.YtnbkhdbligjifaaGreatDoor
open Go Go.RowKit Vm
namespace Hlt
structure FInv (w : World) (O : List Nat) (b : Nat) (p : PW) (k n : Nat) (d s : ByteArray) (bx : Nat) (v : Value) (p' : PW) (O' : List Nat) (wr : World) : Prop where
 wb : WB w O b p' O' wr
 box : Blk wr bx 25 #[.int .i64 (k : Int), .int .i64 (n : Int)]
 row : OwnG wr 0 9 1 v n (Cod.paysV (Cod.matL k n) (Cod.dataL s k (Cod.sizeZ k s.size)) n)
 off : bx ∉ O' ∧ ∀ g, v.ownBlock = some g → g ∉ O'
section
variable {w w2 w3 : World} {O : List Nat} {b : Nat} {p : PW} {k n : Nat} {d s : ByteArray} {bx : Nat} {v : Value} {p' p2 : PW} {O' : List Nat}
theorem FInv.ext (h : FInv w O b p k n d s bx v p' O' w2) (hE : Stab.Ext w2 w3) : FInv w O b p k n d s bx v p' O' w3 := ⟨h.wb.ext hE, h.box.below hE h.box.lt, h.row.ext hE, h.off⟩
theorem FInv.next (h : FInv w O b p k n d s bx v p' O' w2) {x : Value} {e : Ending} (hp : WPost w2 b O' x p2 e w3) : ∃ O3, FInv w O b p k n d s bx v p2 O3 w3 ∧ Fr O' w2 w3 := by
 obtain ⟨O3, h1, h2, h3⟩ := h.wb.next hp
 have hl := h.box.lt
 refine ⟨O3, ⟨h1, h2.blk h.box h.off.1, h.row.keep fun g hg => h2.block g (h.row.lt g hg).2 (h.off.2 g hg), fun hm => ?_, fun g hg hm => ?_⟩, h2⟩
 ·rcases h3 _ hm with h4 | h4
  ·exact h.off.1 h4
  ·omega
 ·rcases h3 _ hm with h4 | h4
  ·exact h.off.2 g hg h4
  ·have := (h.row.lt g hg).2; omega
end
theorem make_of {s : Shd.Shard} {e : Ending} (h : Shd.MakeEnd s e) (k : s.May) (hp : s.pay.length ≤ 65461) : e = .returned (.tuple #[Shd.objV (Shd.nameL s.dig s.idx) (s.data Shd.sumL), .int .i64 0]) := by
 rcases h with ⟨_, _, rfl⟩ | ⟨_, h, _⟩ | ⟨h, _⟩
 ·rfl
 ·omega
 ·exact absurd k h
structure MRd (bx g i : Nat) (k n : Int) (u : Value) (W : World) : Prop where
 c0 : W.cell? ⟨bx, 0, none⟩ = some (.int .i64 k)
 c1 : W.cell? ⟨bx, 1, none⟩ = some (.int .i64 n)
 c2 : W.cell? ⟨g, i, none⟩ = some u
 vars : Shd.Vars W
theorem MRd.ext {bx g i : Nat} {k n : Int} {u : Value} {W W' : World} (h : MRd bx g i k n u W) (hE : Stab.Ext W W') : MRd bx g i k n u W' := ⟨hE.cell h.c0, hE.cell h.c1, hE.cell h.c2, h.vars.below hE⟩
section
variable {W : World} {b : Nat} {p : PW} {O' : List Nat} {k n : Nat} {d s : ByteArray} {q L : Nat}
end
end Hlt
end Go.Proofs.YtnbkhdbligjifaaGreatDoor
