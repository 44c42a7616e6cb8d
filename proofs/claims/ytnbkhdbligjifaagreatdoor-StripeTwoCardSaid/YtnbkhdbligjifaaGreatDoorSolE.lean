/-
 A matrix of one's own: its rows copied, zeros behind them. The field of 256 numbers: New, by its own loop. Elimination: what it computes; the rows' values turned.
-/
import Derived.Test.YtnbkhdbligjifaaGreatDoorSolC
import Derived.Test.YtnbkhdbligjifaaGreatDoorCodC
set_option linter.unusedVariables false
set_option linter.unusedSimpArgs false
set_option maxRecDepth 100000
set_option maxHeartbeats 40000000
namespace Go.Proofs.YtnbkhdbligjifaaGreatDoor
open Go Go.RowKit
namespace Sol
attribute [local go_sem ↓] appSem_eq
theorem info_sl : (Tryz.prog.info? 136).map (fun i => (i.zero, i.size, i.bytes)) = some (some (.slice none 0 0), 1, 24) := by kernel_rfl
def rowsV (N L : Nat) (R C : Nat → Nat) : List Value := (List.range N).map fun i => .slice (some ⟨R i, 0, none⟩) L (C i)
theorem rowsV_len (N L : Nat) (R C : Nat → Nat) : (rowsV N L R C).length = N := by simp [rowsV]
theorem rowsV_get (N L : Nat) (R C : Nat → Nat) {i : Nat} (h : i < N) : (rowsV N L R C)[i]? = some (.slice (some ⟨R i, 0, none⟩) L (C i)) := by simp [rowsV, h]
theorem rowsV_succ {N L r c : Nat} {R C : Nat → Nat} : rowsV N L R C ++ [.slice (some ⟨r, 0, none⟩) L c] = rowsV (N + 1) L (fun i => if i < N then R i else r) (fun i => if i < N then C i else c) := by
 simp only [rowsV, List.range_succ, List.map_append, List.map_cons, List.map_nil, Nat.lt_irrefl, if_false]
 congr 1
 refine List.map_congr_left fun i hi => ?_
 have := List.mem_range.1 hi
 simp only [this, if_true]
structure Mat (w : World) (base : Nat) (v : Value) (N L : Nat) (R C : Nat → Nat) (F : Nat → Nat → Nat) : Prop where
 row : w.ownsRow base 136 1 v N (rowsV N L R C)
 st : ∀ i, i < N → RowAt w (R i) L (C i) (F i)
 low : ∀ i, i < N → base ≤ R i
 inj : ∀ i j, i < N → j < N → R i = R j → i = j
 off : ∀ i, i < N → v.ownBlock ≠ some (R i)
section
variable {w w' w2 w3 : World} {base : Nat} {v : Value} {N L : Nat} {R C : Nat → Nat} {F G : Nat → Nat → Nat}
theorem Mat.ext (h : Mat w base v N L R C F) (hE : Stab.Ext w w') : Mat w' base v N L R C F := ⟨own_ext h.row hE, fun i hi => (h.st i hi).ext hE, h.low, h.inj, h.off⟩
theorem Mat.form (h : Mat w base v N L R C F) (hN : 0 < N) : ∃ g cap, v = .slice (some ⟨g, 0, none⟩) N cap ∧ base ≤ g ∧ g < w.heap.size ∧ N ≤ cap := by
 rcases h.row.2 with ⟨_, h0⟩ | ⟨g, cap, cur, rfl, hb, hg, hn, _⟩
 ·omega
 ·exact ⟨g, cap, rfl, hb, (Array.getElem?_eq_some_iff.1 hg).1, hn⟩
theorem Mat.shape (h : Mat w base v N L R C F) : ∃ a c, v = .slice a N c := by
 rcases h.row.2 with ⟨rfl, h0⟩ | ⟨g', cap', cur, rfl, _⟩
 ·exact ⟨none, 0, by rw [h0]⟩
 ·exact ⟨_, _, rfl⟩
theorem Mat.cell {g cap : Nat} (h : Mat w base (.slice (some ⟨g, 0, none⟩) N cap) N L R C F) {i : Nat} (hi : i < N) : w.cell? ⟨g, i, none⟩ = some (.slice (some ⟨R i, 0, none⟩) L (C i)) ∧ w.frozen? ⟨g, i, none⟩ = false := by
 rcases h.row.2 with ⟨h1, _⟩ | ⟨g', cap', cur, h1, _, hg, hn, _, hs, ht⟩
 ·cases h1
 ·cases h1
  have hb : Blk w g 136 cur := hg
  refine ⟨?_, hb.frozen _⟩
  rw [hb.cell, ← Array.getElem?_toList, ← rowsV_get N L R C hi, ← ht, List.getElem?_take_of_lt (by omega)]
theorem Mat.nil (w : World) (base L : Nat) (R C : Nat → Nat) (F : Nat → Nat → Nat) : Mat w base (.slice none 0 0) 0 L R C F :=
 ⟨⟨by simp [rowsV], .inl ⟨rfl, rfl⟩⟩, fun i hi => absurd hi (Nat.not_lt_zero _), fun i hi => absurd hi (Nat.not_lt_zero _), fun i _ hi => absurd hi (Nat.not_lt_zero _), fun i hi => absurd hi (Nat.not_lt_zero _)⟩
theorem Mat.congr (h : Mat w base v N L R C F) (hf : ∀ i, i < N → ∀ j, j < L → F i j = G i j) : Mat w base v N L R C G := ⟨h.row, fun i hi => (h.st i hi).congr (hf i hi), h.low, h.inj, h.off⟩
theorem Mat.base' {b2 : Nat} (h : Mat w base v N L R C F) (hb : b2 ≤ base) : Mat w b2 v N L R C F := by
 refine ⟨⟨h.row.1, ?_⟩, h.st, fun i hi => Nat.le_trans hb (h.low i hi), h.inj, h.off⟩
 rcases h.row.2 with h | ⟨g, cap, cur, h1, h2, h3⟩
 ·exact .inl h
 ·exact .inr ⟨g, cap, cur, h1, Nat.le_trans hb h2, h3⟩
theorem Mat.push {r c g' cap' : Nat} {o : Obj} (h : Mat w base v N L R C F) (hE : Stab.Ext w w2) (hb : base ≤ w.heap.size) (hr : RowAt w2 r L c (F N)) (hlow : w.heap.size ≤ r)
 (hown : w3.ownsRow base 136 1 (.slice (some ⟨g', 0, none⟩) (N + 1) cap') (N + 1) (rowsV N L R C ++ [.slice (some ⟨r, 0, none⟩) L c])) (hg : (w2.alloc o).grownBy w3 v.ownBlock) (hv : v.ownBlock = some g' ∨ g' = w2.heap.size + 1) :
 Mat w3 base (.slice (some ⟨g', 0, none⟩) (N + 1) cap') (N + 1) L (fun i => if i < N then R i else r) (fun i => if i < N then C i else c) F := by
 have hvl : ∀ k, v.ownBlock = some k → k < w.heap.size := fun k hk => (h.row.lt k hk).2
 have hRl : ∀ i, i < N → R i < w.heap.size := fun i hi => (h.st i hi).lt
 have hal : ∀ k, k < w2.heap.size → some k ≠ v.ownBlock → w3.heap[k]? = w2.heap[k]? := fun k hk hne => (hg.block k (by simp; omega) hne).trans (Below.heap_alloc w2 o k hk)
 have hs := hE.size
 refine ⟨by rw [← rowsV_succ]; exact hown, fun i hi => ?_, fun i hi => ?_, fun i j hi hj he => ?_, fun i hi => ?_⟩
 ·by_cases h2 : i < N
  ·simp only [h2, if_true]
   exact ((h.st i h2).ext hE).keep (hal _ (by have := hRl i h2; omega) (fun e => h.off i h2 e.symm))
  ·obtain rfl : i = N := by omega
   simp only [Nat.lt_irrefl, if_false]
   exact hr.keep (hal _ hr.lt (fun e => by have := hvl r e.symm; omega))
 ·by_cases h2 : i < N
  ·simp only [h2, if_true]; exact h.low i h2
  ·simp only [h2, if_false]; omega
 ·by_cases h2 : i < N <;> by_cases h3 : j < N <;> simp only [h2, h3, if_true, if_false] at he
  ·exact h.inj i j h2 h3 he
  ·have := hRl i h2; omega
  ·have := hRl j h3; omega
  ·omega
 ·have hg2 : (Value.slice (some ⟨g', 0, none⟩) (N + 1) cap').ownBlock = some g' := rfl
  rw [hg2]
  intro e
  have e : g' = if i < N then R i else r := by simpa using e
  by_cases h2 : i < N <;> simp only [h2, if_true, if_false] at e
  ·rcases hv with hv | hv
   ·exact h.off i h2 (by rw [hv, e])
   ·have := hRl i h2; omega
  ·rcases hv with hv | hv
   ·have := hvl g' hv; omega
   ·have := hr.lt; omega
end
def wideF (L : Nat) (F : Nat → Nat → Nat) (i j : Nat) : Nat := if j < L then F i j else 0
theorem cellsL_wide (F : Nat → Nat → Nat) (L m i : Nat) : cellsL (F i) L ++ List.replicate m (Value.int .u8 0) = cellsL (wideF L F i) (L + m) := by
 apply List.ext_getElem?
 intro j
 by_cases h1 : j < L
 ·rw [List.getElem?_append_left (by rw [cellsL_len]; exact h1), cellsL_get _ h1, cellsL_get _ (by omega)]
  simp [wideF, h1]
 ·rw [List.getElem?_append_right (by rw [cellsL_len]; omega), cellsL_len]
  by_cases h2 : j < L + m
  ·rw [cellsL_get _ h2, List.getElem?_replicate, if_pos (by omega)]
   simp [wideF, h1]
  ·rw [List.getElem?_eq_none (by simp; omega), List.getElem?_eq_none (by rw [cellsL_len]; omega)]
def OwnPost (w : World) (N L m : Nat) (F : Nat → Nat → Nat) (e : Ending) (w' : World) : Prop :=
 ∃ v R C, e = .returned v ∧ Mat w' w.heap.size v N (L + m) R C (wideF L F) ∧ Below w.heap.size w w'
theorem own_any {w : World} {base : Nat} {v : Value} {N L : Nat} {R C : Nat → Nat} {F : Nat → Nat → Nat} (m : Nat) (hM : Mat w base v N L R C F) (hN : 0 < N) (hN2 : N ≤ 1000) (hL : 0 < L) (hL2 : L + m ≤ 1000000) :
 Calls Tryz.prog 181 #[v, .int .i64 (m : Int)] w (OwnPost w N L m F) := by
 obtain ⟨g, cap, rfl, -, -, hcap⟩ := hM.form hN
 have HM := Lib.hid hM
 clear hM
 go_enter Tryz.func181, Tryz.ntmps181
 go_wp2_with fail
 go_loopw [5, 10] (fun o i wr => ∃ (q : Nat) (R' C' : Nat → Nat), q ≤ N ∧ i = .int .i64 (q : Int) ∧ Mat wr w.heap.size o q (L + m) R' C' (wideF L F) ∧ Below w.heap.size w wr) (fun _ i _ => N - (intOf i).toNat)
 case atStart => exact ⟨0, R, C, by omega, rfl, Mat.nil _ _ _ _ _ _, Below.refl _ _⟩
 case round =>
  obtain ⟨q, R', C', hq, rfl, ho, hbl⟩ := hrel
  by_cases hlt : q < N
  ·have hlt2 : (q : Int) < (N : Int) := by omega
   have hMr := HM.out.ext hbl
   have hc := (hMr.cell hlt).1
   have HC := Lib.hid (clone8_any (hMr.st q hlt) (by omega))
   have HO := Lib.hid ho
   have HBL := Lib.hid hbl
   obtain ⟨A6, cap6, hv6⟩ := ho.shape
   subst hv6
   clear hMr ho hbl
   go_wp2_with (go_at_call 208; with_reducible refine HC.out.mono ?_)
   rintro e w1 ⟨v1, rfl, hv1, hb1⟩
   obtain ⟨v2, w2, hrun1, hown1, hb2⟩ := app_zeros (m := m) (ty := 136) Tryz.underlying136 Tryz.underlying3 Tryz.underlying9 info_u8 hv1 (by omega) hb1.size
   rw [cellsL_wide] at hown1
   obtain ⟨r, c, rfl, hr0, hrl⟩ : ∃ r c, v2 = .slice (some ⟨r, 0, none⟩) (L + m) c ∧ _ ≤ r ∧ r < w2.heap.size := by
    rcases hown1.2 with ⟨_, h0⟩ | ⟨g', cap', cur, rfl, hb, hg, _⟩
    ·omega
    ·exact ⟨g', cap', rfl, hb, (Array.getElem?_eq_some_iff.1 hg).1⟩
   have hE2 := hb1.trans hb2
   obtain ⟨g3, c3, w3, hrun2, hown2, hb3, hgr, hor⟩ := own_app_new (t := 132) (c := 1) (m := 1) (C := #[.slice (some ⟨r, 0, none⟩) (L + m) c]) Tryz.underlying132 info_sl rfl (by omega) (by omega) (own_ext HO.out.row hE2) rfl (by simp [Value.oneCell']) (by omega) (by omega) (Nat.le_trans HBL.out.size hE2.size)
   have hrow : RowAt w2 r (L + m) c (wideF L F q) := ⟨hown1.1, by
    rcases hown1.2 with h | ⟨g', cap', cur, h1, _, h3⟩
    ·exact .inl h
    ·exact .inr ⟨g', cap', cur, h1, Nat.zero_le _, h3⟩⟩
   have HN := Lib.hid (HO.out.push hE2 HBL.out.size hrow hr0 hown2 hgr hor)
   have HB3 := Lib.hid ((HBL.out.trans (Below.mono hE2 HBL.out.size)).trans hb3)
   clear hv1 hb1 hown1 hb2 hr0 hrl hE2 hown2 hb3 hgr hor hrow
   go_wp2_with fail
   go_roundw
   case rel => exact ⟨q + 1, _, _, by omega, by go_num, HN.out, HB3.out⟩
   case measure => simp [intOf]; omega
  ·obtain rfl : q = N := by omega
   have d1 : ¬ ((q : Int) < (q : Int)) := by omega
   have HO := Lib.hid ho
   have HBL := Lib.hid hbl
   clear ho hbl
   go_wp2_with fail
   go_ret
   exact ⟨_, R', C', rfl, HO.out, HBL.out⟩
end Sol
end Go.Proofs.YtnbkhdbligjifaaGreatDoor
namespace Go.Proofs.YtnbkhdbligjifaaGreatDoor
open Go.RowKit
namespace Fld
theorem pw_step : ∀ q : Fin 254, (if 255 < pw q.1 * 2 then Nat.xor (pw q.1 * 2) 285 else pw q.1 * 2) = pw (q.1 + 1) := by decide +kernel
theorem pw_pos : ∀ q : Fin 255, 0 < pw q.1 := by decide +kernel
theorem pw_again : ∀ q : Fin 255, pw (q.1 + 255) = pw q.1 := by decide +kernel
theorem lg_pw : ∀ q : Fin 255, lg (pw q.1) = q.1 := by decide +kernel
theorem pw_lg : ∀ y : Fin 256, y.1 = 0 ∨ pw (lg y.1) = y.1 := by decide +kernel
theorem lg0 : lg 0 = 0 := by decide +kernel
def cellN (q i : Nat) : Value := if i < 510 then (if i % 255 < q then .int .u8 (pw i : Nat) else .int .u8 0) else (if i - 510 = 0 then .int .i64 0 else if lg (i - 510) < q then .int .i64 (lg (i - 510) : Nat) else .int .i64 0)
def tabN (q : Nat) : Array Value := ((List.range 766).map (cellN q)).toArray
theorem tabN_size (q : Nat) : (tabN q).size = 766 := by simp [tabN]
theorem tabN_get (q i : Nat) (h : i < 766) : (tabN q)[i]? = some (cellN q i) := by simp [tabN, h]
theorem tabN_step (q : Nat) (hq : q < 255) : (((tabN q).setIfInBounds q (.int .u8 (pw q : Nat))).setIfInBounds (q + 255) (.int .u8 (pw q : Nat))).setIfInBounds (510 + pw q) (.int .i64 (q : Nat)) = tabN (q + 1) := by
 have hp := pw_lt q
 have h0 := pw_pos ⟨q, hq⟩
 have h1 := pw_again ⟨q, hq⟩
 have h2 := lg_pw ⟨q, hq⟩
 simp only at h0 h1 h2
 apply Array.ext_getElem?
 intro i
 rw [Array.getElem?_setIfInBounds, Array.getElem?_setIfInBounds, Array.getElem?_setIfInBounds]
 simp only [Array.size_setIfInBounds, tabN_size]
 by_cases hi : i < 766
 ·rw [tabN_get q i hi, tabN_get (q + 1) i hi]
  unfold cellN
  by_cases h5 : i < 510
  ·rw [if_neg (by omega), if_pos h5, if_pos h5]
   by_cases e1 : q + 255 = i
   ·subst e1
    rw [if_pos rfl, if_pos (by omega), if_pos (by omega), h1]
   ·rw [if_neg e1]
    by_cases e2 : q = i
    ·subst e2
     rw [if_pos rfl, if_pos (by omega), if_pos (by omega)]
    ·rw [if_neg e2]
     by_cases e3 : i % 255 < q
     ·rw [if_pos e3, if_pos (by omega)]
     ·rw [if_neg e3, if_neg (by omega)]
  ·rw [if_neg h5, if_neg h5]
   by_cases e1 : 510 + pw q = i
   ·rw [if_pos e1, if_pos (by omega)]
    have e2 : i - 510 = pw q := by omega
    rw [e2, if_neg (by omega), h2, if_pos (by omega)]
   ·rw [if_neg e1, if_neg (by omega), if_neg (by omega)]
    by_cases e0 : i - 510 = 0
    ·rw [if_pos e0, if_pos e0]
    ·rw [if_neg e0, if_neg e0]
     have h3 := pw_lg ⟨i - 510, by omega⟩
     simp only at h3
     have hne : lg (i - 510) ≠ q := by
      rintro rfl
      rcases h3 with h3 | h3
      ·exact e0 h3
      ·omega
     by_cases e3 : lg (i - 510) < q
     ·rw [if_pos e3, if_pos (by omega)]
     ·rw [if_neg e3, if_neg (by omega)]
 ·rw [if_neg (by omega), if_neg (by omega), if_neg (by omega)]
  simp [tabN, hi]
theorem at_of_tab {w : World} {b : Nat} (h : Blk w b 253 (tabN 255)) : At w b := by
 refine ⟨fun i hi => ?_, fun i hi => ?_⟩
 ·rw [h.cell i, tabN_get _ _ (by omega)]
  unfold cellN
  rw [if_pos hi, if_pos (by omega)]
 ·rw [h.cell, tabN_get _ _ (by omega)]
  unfold cellN
  rw [if_neg (by omega), show 510 + i - 510 = i by omega]
  by_cases h0 : i = 0
  ·subst h0; rw [if_pos rfl, lg0]; rfl
  ·rw [if_neg h0]
   have := lg_le i hi
   rw [if_pos (by omega)]
theorem xor64 : ∀ x : Fin 256, bits .xor .i64 ((x.1 : Nat) * 2 : Int) 285 = (Nat.xor (x.1 * 2) 285 : Nat) := by decide +kernel
theorem new_at (w : World) : Calls Tryz.prog 139 #[] w fun e w' => e = .returned (.pointer (some ⟨w.heap.size, 0, none⟩)) ∧ Fld.At w' w.heap.size ∧ Below w.heap.size w w' := by
 go_enter Tryz.func139, Tryz.ntmps139
 go_wp2_with fail
 have hz : Tryz.zeroCells253 = tabN 0 := by kernel_rfl
 rw [hz]
 have hb0 := (Below.refl w.heap.size w).alloc (Nat.le_refl _) (.cells (tabN 0) 253)
 have HB0 := Lib.hid hb0
 have HI0 := Lib.hid (Blk.new w 253 (tabN 0))
 clear hz hb0
 go_loopw [2, 6] (fun x i wr => ∃ q : Nat, q ≤ 255 ∧ i = .int .i64 (q : Int) ∧ (q < 255 → x = .int .i64 (pw q : Nat)) ∧ Blk wr w.heap.size 253 (tabN q) ∧ Below w.heap.size w wr) (fun _ i _ => 255 - (intOf i).toNat)
 case atStart => exact ⟨0, by omega, rfl, fun _ => rfl, HI0.out, HB0.out⟩
 case round =>
  obtain ⟨q, hq, rfl, hx, hb, hbl⟩ := hrel
  by_cases hlt : q < 255
  ·obtain rfl := hx hlt
   have hlt2 : (q : Int) < 255 := by omega
   have hp := pw_lt q
   have hw : IntKind.u8.wrap ((pw q : Nat) : Int) = ((pw q : Nat) : Int) := by rw [IntKind.wrap_u8]; omega
   have hmo : Tryz.prog.follows .mixedOrders = true := by kernel_rfl
   have c1 := hb.cell q
   rw [tabN_get q q (by omega)] at c1
   have c2 := hb.cell (q + 255)
   rw [tabN_get q (q + 255) (by omega)] at c2
   have c3 := hb.cell (510 + pw q)
   rw [tabN_get q (510 + pw q) (by omega)] at c3
   have z1 := hb.frozen q
   have z2 := hb.frozen (q + 255)
   have z3 := hb.frozen (510 + pw q)
   have HST := Lib.hid (tabN_step q hlt)
   have HB := Lib.hid hb
   have HBL := Lib.hid hbl
   have HNX := Lib.hid (fun h : q < 254 => pw_step ⟨q, h⟩)
   have hsum : IntKind.i64.wrap ((q : Int) + 255) = ((q + 255 : Nat) : Int) := by rw [IntKind.wrap_i64]; omega
   generalize hpx : pw q = x at *
   have HPX := Lib.hid hpx
   clear hpx
   clear hb hbl hx
   go_wp2_with fail
   go_region
   go_wp2_with fail
   all_goals
    go_roundw
    case rel =>
     refine ⟨q + 1, by omega, by go_num, fun h254 => ?_, ?_, ?_⟩
     ·have hnx := HNX.out (by omega)
      rw [HPX.out] at hnx
      first
       | (have h255 : 255 < x * 2 := by have := ‹(255 : Int) < (x : Int) * 2›; omega
          rw [if_pos h255] at hnx
          have hxx := xor64 ⟨x, hp⟩
          simp only at hxx
          rw [hxx, hnx])
       | (rw [if_neg (by omega)] at hnx
          rw [← hnx]
          congr 1)
     ·have h := ((HB.out.set_ q (.int .u8 (x : Nat))).set_ (q + 255) (.int .u8 (x : Nat))).set_ (510 + x) (.int .i64 (q : Nat))
      rw [HST.out] at h
      exact h.drew
     ·exact (((HBL.out.setCell (p := ⟨w.heap.size, q, none⟩) (Nat.le_refl _) _).setCell (p := ⟨w.heap.size, q + 255, none⟩) (Nat.le_refl _) _).setCell (p := ⟨w.heap.size, 510 + x, none⟩) (Nat.le_refl _) _).drew
    case measure => simp [intOf]; omega
  ·obtain rfl : q = 255 := by omega
   have HB := Lib.hid hb
   have HBL := Lib.hid hbl
   clear hb hbl hx
   go_wp2_with fail
   go_ret
   exact ⟨rfl, at_of_tab HB.out, HBL.out⟩
theorem new_any (w : World) : Calls Tryz.prog 139 #[] w (Spr.NewPost w) := (new_at w).mono fun e w' ⟨h1, h2, h3⟩ => ⟨_, h1, h2, h3⟩
end Fld
end Go.Proofs.YtnbkhdbligjifaaGreatDoor
namespace Go.Proofs.YtnbkhdbligjifaaGreatDoor
open Go Go.RowKit
namespace Sol
def seek (F : Nat → Nat → Nat) (c : Nat) : Nat → Nat → Option Nat
 | 0, _ => none
 | k + 1, a => if F a c = 0 then seek F c k (a + 1) else some a
theorem seek_some {F : Nat → Nat → Nat} {c : Nat} : ∀ {k a b : Nat}, seek F c k a = some b → a ≤ b ∧ b < a + k ∧ F b c ≠ 0
 | 0, a, b, h => by cases h
 | k + 1, a, b, h => by
   rw [seek] at h
   by_cases h0 : F a c = 0
   ·rw [if_pos h0] at h
    have := seek_some h
    omega
   ·rw [if_neg h0] at h
    cases h
    exact ⟨Nat.le_refl _, by omega, h0⟩
def sig (d a i : Nat) : Nat := if i = d then a else if d < i ∧ i ≤ a then i - 1 else i
theorem sig_lt {d a N i : Nat} (ha : a < N) (hi : i < N) : sig d a i < N := by unfold sig; split; exact ha; split <;> omega
theorem sig_inj {d a i j : Nat} (hd : d ≤ a) (h : sig d a i = sig d a j) : i = j := by
 unfold sig at h
 split at h <;> split at h <;> (try split at h) <;> (try split at h) <;> omega
def pivF (G : Nat → Nat → Nat) (d c : Nat) (j : Nat) : Nat := Fld.gm (G d j) (Cod.gi (G d c))
def elimF (G : Nat → Nat → Nat) (d c i : Nat) : Nat → Nat := if i = d then pivF G d c else plusF (G i) (pivF G d c) (G i c)
def stepC (N c : Nat) (s : Nat × (Nat → Nat → Nat)) : Nat × (Nat → Nat → Nat) :=
 if s.1 = N then s else match seek s.2 c (N - s.1) s.1 with
  | none => s
  | some a => (s.1 + 1, elimF (fun i => s.2 (sig s.1 a i)) s.1 c)
def downs (N : Nat) (F : Nat → Nat → Nat) : Nat → Nat × (Nat → Nat → Nat)
 | 0 => (0, F)
 | c + 1 => stepC N c (downs N F c)
theorem stepC_le {N c : Nat} {s : Nat × (Nat → Nat → Nat)} (h : s.1 ≤ N) : (stepC N c s).1 ≤ N := by
 unfold stepC
 split
 ·exact h
 ·split
  ·exact h
  ·show s.1 + 1 ≤ N; omega
theorem downs_le (N : Nat) (F : Nat → Nat → Nat) : ∀ c, (downs N F c).1 ≤ N
 | 0 => Nat.zero_le _
 | c + 1 => stepC_le (downs_le N F c)
theorem downs_stop {N : Nat} {F : Nat → Nat → Nat} {c : Nat} (h : (downs N F c).1 = N) : ∀ k, downs N F (c + k) = downs N F c
 | 0 => rfl
 | k + 1 => by
   show stepC N (c + k) (downs N F (c + k)) = _
   rw [downs_stop h k]
   unfold stepC
   rw [if_pos h]
def Byt (F : Nat → Nat → Nat) (N L : Nat) : Prop := ∀ i, i < N → ∀ j, j < L → F i j < 256
theorem pivF_lt (G : Nat → Nat → Nat) (d c j : Nat) : pivF G d c j < 256 := Fld.gm_lt _ _
theorem elimF_byt {G : Nat → Nat → Nat} {d c N L : Nat} (h : Byt G N L) : Byt (elimF G d c) N L := fun i hi j hj => by
 unfold elimF
 split
 ·exact pivF_lt _ _ _ _
 ·exact plusF_lt (h i hi j hj)
theorem Byt.turn {F : Nat → Nat → Nat} {d a N L : Nat} (h : Byt F N L) (ha : a < N) : Byt (fun i => F (sig d a i)) N L := fun i hi j hj => h _ (sig_lt ha hi) j hj
def seg (xs : List Value) : Nat → List Value → List Value
 | _, [] => xs
 | o, c :: cs => seg (xs.set o c) (o + 1) cs
theorem seg_get : ∀ (cs xs : List Value) (o j : Nat), (seg xs o cs)[j]? = if o ≤ j ∧ j < o + cs.length ∧ j < xs.length then cs[j - o]? else xs[j]?
 | [], xs, o, j => by
   rw [seg, if_neg]
   simp; omega
 | c :: cs, xs, o, j => by
   rw [seg, seg_get cs (xs.set o c) (o + 1) j]
   simp only [List.length_set, List.length_cons]
   by_cases h1 : j = o
   ·subst h1
    rw [if_neg (show ¬ (j + 1 ≤ j ∧ j < j + 1 + cs.length ∧ j < xs.length) by omega), List.getElem?_set, if_pos rfl]
    by_cases h2 : j < xs.length
    ·rw [if_pos h2, if_pos (show j ≤ j ∧ j < j + (cs.length + 1) ∧ j < xs.length by omega), Nat.sub_self]; rfl
    ·rw [if_neg h2, if_neg (by omega), List.getElem?_eq_none (by omega)]
   ·by_cases h2 : o + 1 ≤ j ∧ j < o + 1 + cs.length ∧ j < xs.length
    ·rw [if_pos h2, if_pos (by omega), show j - o = (j - (o + 1)) + 1 by omega, List.getElem?_cons_succ]
    ·rw [if_neg h2, if_neg (by omega), List.getElem?_set, if_neg (fun h => h1 h.symm)]
theorem row_seg {g : Nat} {base : Nat} {e : TypeId} {n cap : Nat} : ∀ (cs : List Value) {w : World} {xs : List Value} (o : Nat), w.ownsRow base e 1 (.slice (some ⟨g, 0, none⟩) n cap) n xs → o + cs.length ≤ n → (w.setCells g o cs).ownsRow base e 1 (.slice (some ⟨g, 0, none⟩) n cap) n (seg xs o cs)
 | [], w, xs, o, h, _ => h
 | c :: cs, w, xs, o, h, hl => by
   simp only [List.length_cons] at hl
   exact row_seg cs (o + 1) (Vm.row_set h o (by omega) c) (by omega)
theorem setCells_fr (g : Nat) : ∀ (cs : List Value) (w : World) (o : Nat), Vm.Fr [g] w (w.setCells g o cs)
 | [], w, o => Vm.Fr.refl _ _
 | c :: cs, w, o => (Vm.Fr.cell w ⟨g, o, none⟩ c).next (setCells_fr g cs _ (o + 1))
def midV (R C : Nat → Nat) (L d a : Nat) : List Value := (List.range (a - d)).map fun i => .slice (some ⟨R (d + i), 0, none⟩) L (C (d + i))
theorem midV_len (R C : Nat → Nat) (L d a : Nat) : (midV R C L d a).length = a - d := by simp [midV]
theorem midV_get (R C : Nat → Nat) (L : Nat) {d a i : Nat} (h : i < a - d) : (midV R C L d a)[i]? = some (.slice (some ⟨R (d + i), 0, none⟩) L (C (d + i))) := by simp [midV, h]
theorem midV_one (R C : Nat → Nat) (L d a : Nat) : ∀ v ∈ midV R C L d a, v.oneCell' = true := by
 intro v hv
 simp only [midV, List.mem_map] at hv
 obtain ⟨i, _, rfl⟩ := hv
 rfl
theorem rowsV_turn (R C : Nat → Nat) (N L : Nat) {d a : Nat} (hd : d ≤ a) (ha : a < N) :
 (seg (rowsV N L R C) (d + 1) (midV R C L d a)).set d (.slice (some ⟨R a, 0, none⟩) L (C a)) = rowsV N L (fun i => R (sig d a i)) (fun i => C (sig d a i)) := by
 apply List.ext_getElem?
 intro j
 have hlen : (seg (rowsV N L R C) (d + 1) (midV R C L d a)).length = N := by
  have h1 : ∀ i, (seg (rowsV N L R C) (d + 1) (midV R C L d a))[i]? = none ↔ N ≤ i := fun i => by
   rw [seg_get, rowsV_len, midV_len]
   split
   ·rw [midV_get _ _ _ (by omega)]; simp; omega
   ·rw [List.getElem?_eq_none_iff, rowsV_len]
  have h2 := (h1 N).2 (Nat.le_refl _)
  have h3 := List.getElem?_eq_none_iff.1 h2
  rcases Nat.lt_or_ge (seg (rowsV N L R C) (d + 1) (midV R C L d a)).length N with h | h
  ·have := (h1 _).1 (List.getElem?_eq_none (Nat.le_refl _)); omega
  ·omega
 rw [List.getElem?_set, hlen]
 by_cases hj : j < N
 ·rw [rowsV_get _ _ _ _ hj]
  by_cases h1 : d = j
  ·rw [if_pos h1, if_pos (by omega)]
   unfold sig; rw [if_pos h1.symm]
  ·rw [if_neg h1, seg_get, rowsV_len, midV_len]
   by_cases h2 : d + 1 ≤ j ∧ j < d + 1 + (a - d) ∧ j < N
   ·rw [if_pos h2, midV_get _ _ _ (by omega)]
    unfold sig
    rw [if_neg (fun h => h1 h.symm), if_pos (by omega), show d + (j - (d + 1)) = j - 1 by omega]
   ·rw [if_neg h2, rowsV_get _ _ _ _ hj]
    unfold sig
    rw [if_neg (fun h => h1 h.symm), if_neg (by omega)]
 ·rw [if_neg (by omega), seg_get, rowsV_len, if_neg (by omega), List.getElem?_eq_none (by rw [rowsV_len]; omega), List.getElem?_eq_none (by rw [rowsV_len]; omega)]
section
variable {w w' : World} {base : Nat} {v : Value} {N L g cap : Nat} {R C : Nat → Nat} {F G : Nat → Nat → Nat}
theorem Mat.turn (h : Mat w base (.slice (some ⟨g, 0, none⟩) N cap) N L R C F) {d a : Nat} (hd : d ≤ a) (ha : a < N) :
 Mat ((w.setCells g (d + 1) (midV R C L d a)).setCell ⟨g, d, none⟩ (.slice (some ⟨R a, 0, none⟩) L (C a))) base (.slice (some ⟨g, 0, none⟩) N cap) N L (fun i => R (sig d a i)) (fun i => C (sig d a i)) (fun i => F (sig d a i)) := by
 have hfr : Vm.Fr [g] w ((w.setCells g (d + 1) (midV R C L d a)).setCell ⟨g, d, none⟩ (.slice (some ⟨R a, 0, none⟩) L (C a))) := (setCells_fr g _ w (d + 1)).next (Vm.Fr.cell _ ⟨g, d, none⟩ _)
 have hoff : ∀ i, i < N → R i ≠ g := fun i hi e => h.off i hi (by rw [e]; rfl)
 refine ⟨?_, fun i hi => ?_, fun i hi => h.low _ (sig_lt ha hi), fun i j hi hj he => sig_inj hd (h.inj _ _ (sig_lt ha hi) (sig_lt ha hj) he), fun i hi => h.off _ (sig_lt ha hi)⟩
 ·have := Vm.row_set (row_seg (midV R C L d a) (d + 1) h.row (by rw [midV_len]; omega)) d (by omega) (.slice (some ⟨R a, 0, none⟩) L (C a))
  rw [rowsV_turn R C N L hd ha] at this
  exact this
 ·have hr := h.st _ (sig_lt (d := d) ha hi)
  exact hr.keep (hfr.block _ hr.lt (by simpa using hoff _ (sig_lt ha hi)))
theorem Mat.row_ (h : Mat w base v N L R C F) {i : Nat} (hi : i < N) {f : Nat → Nat} (hr : RowAt w' (R i) L (C i) f) (hfr : Vm.Fr [R i] w w') (hG : ∀ k, k < N → ∀ j, j < L → (if k = i then f else F k) j = G k j) : Mat w' base v N L R C G := by
 refine ⟨Vm.row_heap h.row fun g hg => ?_, fun k hk => ?_, h.low, h.inj, h.off⟩
 ·refine hfr.block g (Vm.row_lt h.row hg) ?_
  have := h.off i hi
  rw [hg] at this
  simpa using fun e => this (by rw [e])
 ·by_cases he : k = i
  ·subst he
   exact hr.congr fun j hj => by have := hG k hk j hj; rwa [if_pos rfl] at this
  ·have h2 := h.st k hk
   refine (h2.keep (hfr.block _ h2.lt ?_)).congr fun j hj => by have := hG k hk j hj; rwa [if_neg he] at this
   simpa using fun e => he (h.inj k i hk hi e)
end
end Sol
end Go.Proofs.YtnbkhdbligjifaaGreatDoor
