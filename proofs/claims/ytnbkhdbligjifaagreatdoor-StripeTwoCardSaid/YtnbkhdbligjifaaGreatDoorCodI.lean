/-
 A square matrix turned about. Some of a matrix's rows. The first payloads out of those at hand.
-/
import Derived.Test.YtnbkhdbligjifaaGreatDoorSolF
import Derived.Test.YtnbkhdbligjifaaGreatDoorStoH
set_option linter.unusedVariables false
set_option linter.unusedSimpArgs false
set_option maxRecDepth 100000
set_option maxHeartbeats 40000000
namespace Go.Proofs.YtnbkhdbligjifaaGreatDoor
open Go Go.RowKit
namespace Sol
section
variable {w w' : World} {base : Nat} {v : Value} {N L r c : Nat} {R C : Nat → Nat} {F : Nat → Nat → Nat} {f : Nat → Nat}
theorem RowAt.cap (h : RowAt w r L c f) : L ≤ c := by
 rcases h.2 with ⟨h1, _⟩ | ⟨g', cap, cur, h1, _, hg, hn, _⟩
 ·cases h1
 ·cases h1; exact hn
theorem Mat.rows (h : Mat w base v N L R C F) (hN : 0 < N) (hB : Byt F N L) : Spr.Rows w v ((List.range N).map fun i => (List.range L).map (F i)) := by
 obtain ⟨g, cap, rfl, -⟩ := h.form hN
 refine ⟨g, 0, cap, by simp, fun i l hi => ?_⟩
 have hin : i < N := by have := (List.getElem?_eq_some_iff.1 hi).1; simpa using this
 have hl : l = (List.range L).map (F i) := by
  rw [List.getElem?_map, List.getElem?_range hin] at hi
  simpa using hi.symm
 subst hl
 refine ⟨.slice (some ⟨R i, 0, none⟩) L (C i), by rw [Nat.zero_add]; exact (h.cell hin).1, R i, 0, C i, by simp, fun j x hj => ?_⟩
 have hjl : j < L := by have := (List.getElem?_eq_some_iff.1 hj).1; simpa using this
 have hx : x = F i j := by
  rw [List.getElem?_map, List.getElem?_range hjl] at hj
  simpa using hj.symm
 subst hx
 exact ⟨hB i hin j hjl, by rw [Nat.zero_add]; exact ((h.st i hin).cell hjl).1⟩
theorem rect_mat (N L : Nat) (F : Nat → Nat → Nat) (hN : 1 ≤ N) (hL : 1 ≤ L) : Rect ((List.range N).map fun i => (List.range L).map (F i)) N L := by
 refine ⟨by simp, fun l hl => ?_, hN, hL⟩
 obtain ⟨i, _, rfl⟩ := List.mem_map.1 hl
 simp
end
def oneF (N z : Nat) (F : Nat → Nat → Nat) (i j : Nat) : Nat := if j < N then F i j else if i < z ∧ j = N + i then 1 else 0
theorem wide_byt {F : Nat → Nat → Nat} {N L M : Nat} (h : Byt F N L) : Byt (wideF L F) N M := fun i hi j hj => by
 unfold wideF
 split
 ·exact h i hi j (by omega)
 ·omega
theorem one_byt {F : Nat → Nat → Nat} {N M : Nat} (h : Byt F N N) : Byt (oneF N N F) N M := fun i hi j hj => by
 unfold oneF
 split
 ·exact h i hi j (by omega)
 ·split <;> omega
def turnD (N : Nat) (F : Nat → Nat → Nat) : Nat × (Nat → Nat → Nat) := downs N (wideF N F) N
def turnW (N : Nat) (F : Nat → Nat → Nat) : Nat × (Nat → Nat → Nat) := downs N (oneF N N F) (N + N)
def turnL (N : Nat) (F : Nat → Nat → Nat) : List (List Nat) := (List.range N).map fun i => (List.range N).map fun j => (turnW N F).2 i (N + j)
def TurnPost (w : World) (N : Nat) (F : Nat → Nat → Nat) (e : Ending) (w' : World) : Prop :=
 Below w.heap.size w w' ∧ if (turnD N F).1 < N then e = .returned (.tuple #[.slice none 0 0, .int .i64 5]) else ∃ v', e = .returned (.tuple #[v', .int .i64 0]) ∧ Spr.Rows w' v' (turnL N F)
structure URd (g R0 C0 N : Nat) (W : World) : Prop where
 ct : W.cell? ⟨g, 0, none⟩ = some (.slice (some ⟨R0, 0, none⟩) N C0)
theorem URd.ext {g R0 C0 N : Nat} {W W' : World} (h : URd g R0 C0 N W) (hE : Stab.Ext W W') : URd g R0 C0 N W' := ⟨hE.cell h.ct⟩
theorem one_set {N z : Nat} {F : Nat → Nat → Nat} (i j : Nat) : (if i = z then fun k => if k = N + z then 1 else oneF N z F z k else oneF N z F i) j = oneF N (z + 1) F i j := by
 by_cases h : i = z
 ·subst h
  simp only [if_true]
  unfold oneF
  by_cases h1 : j = N + i
  ·rw [if_pos h1, if_neg (by omega), if_pos (by omega)]
  ·rw [if_neg h1]
   split
   ·rfl
   ·rw [if_neg (by omega), if_neg (by omega)]
 ·rw [if_neg h]
  unfold oneF
  split
  ·rfl
  ·by_cases h2 : i < z ∧ j = N + i
   ·rw [if_pos h2, if_pos (by omega)]
   ·rw [if_neg h2, if_neg (by omega)]
def halfV (N : Nat) (R C : Nat → Nat) (z : Nat) : List Value := (List.range N).map fun i => if i < z then .slice (some ⟨R i, N, none⟩) N (C i - N) else .slice (some ⟨R i, 0, none⟩) (N + N) (C i)
theorem halfV_get {N z i : Nat} (R C : Nat → Nat) (h : i < N) : (halfV N R C z)[i]? = some (if i < z then .slice (some ⟨R i, N, none⟩) N (C i - N) else .slice (some ⟨R i, 0, none⟩) (N + N) (C i)) := by simp [halfV, h]
theorem halfV_set {N z : Nat} (R C : Nat → Nat) (h : z < N) : (halfV N R C z).set z (.slice (some ⟨R z, N, none⟩) N (C z - N)) = halfV N R C (z + 1) := by
 apply List.ext_getElem?
 intro j
 have hl : (halfV N R C z).length = N := by simp [halfV]
 rw [List.getElem?_set, hl]
 by_cases hj : j < N
 ·rw [halfV_get _ _ hj, halfV_get _ _ hj]
  by_cases he : z = j
  ·subst he
   rw [if_pos rfl, if_pos h, if_pos (by omega)]
  ·rw [if_neg he]
   by_cases h2 : j < z
   ·rw [if_pos h2, if_pos (by omega)]
   ·rw [if_neg h2, if_neg (by omega)]
 ·rw [if_neg (by omega), List.getElem?_eq_none (by rw [hl]; omega), List.getElem?_eq_none (by simp [halfV]; omega)]
structure HI (base : Nat) (g cap N : Nat) (R C : Nat → Nat) (F : Nat → Nat → Nat) (z : Nat) (W : World) : Prop where
 row : W.ownsRow base 136 1 (.slice (some ⟨g, 0, none⟩) N cap) N (halfV N R C z)
 st : ∀ i, i < N → RowAt W (R i) (N + N) (C i) (F i)
 off : ∀ i, i < N → R i ≠ g
theorem HI.cell {base g cap N z : Nat} {R C : Nat → Nat} {F : Nat → Nat → Nat} {W : World} (h : HI base g cap N R C F z W) {i : Nat} (hi : i < N) : W.cell? ⟨g, i, none⟩ = some (if i < z then .slice (some ⟨R i, N, none⟩) N (C i - N) else .slice (some ⟨R i, 0, none⟩) (N + N) (C i)) ∧ W.frozen? ⟨g, i, none⟩ = false := by
 rcases h.row.2 with ⟨h1, _⟩ | ⟨g', cap', cur, h1, _, hg, hn, _, hs, ht⟩
 ·cases h1
 ·cases h1
  have hb : Blk W g 136 cur := hg
  refine ⟨?_, hb.frozen _⟩
  rw [hb.cell, ← Array.getElem?_toList, ← halfV_get R C hi, ← ht, List.getElem?_take_of_lt (by omega)]
theorem HI.of {base g cap N : Nat} {R C : Nat → Nat} {F : Nat → Nat → Nat} {W : World} (h : Mat W base (.slice (some ⟨g, 0, none⟩) N cap) N (N + N) R C F) : HI base g cap N R C F 0 W := by
 refine ⟨?_, h.st, fun i hi e => h.off i hi (by rw [e]; rfl)⟩
 have : halfV N R C 0 = rowsV N (N + N) R C := List.map_congr_left fun i _ => by rw [if_neg (Nat.not_lt_zero _)]
 rw [this]; exact h.row
theorem HI.step {base g cap N z : Nat} {R C : Nat → Nat} {F : Nat → Nat → Nat} {W : World} (h : HI base g cap N R C F z W) (hz : z < N) : HI base g cap N R C F (z + 1) (W.setCell ⟨g, z, none⟩ (.slice (some ⟨R z, N, none⟩) N (C z - N))) := by
 refine ⟨?_, fun i hi => ?_, h.off⟩
 ·have := Vm.row_set h.row z (by omega) (.slice (some ⟨R z, N, none⟩) N (C z - N))
  rw [halfV_set R C hz] at this
  exact this
 ·exact (h.st i hi).keep (Below.heap_setCell _ ⟨g, z, none⟩ _ _ (h.off i hi))
theorem HI.rows {base g cap N : Nat} {R C : Nat → Nat} {F : Nat → Nat → Nat} {W : World} (h : HI base g cap N R C F N W) (hB : Byt F N (N + N)) : Spr.Rows W (.slice (some ⟨g, 0, none⟩) N cap) ((List.range N).map fun i => (List.range N).map fun j => F i (N + j)) := by
 refine ⟨g, 0, cap, by simp, fun i l hi => ?_⟩
 have hin : i < N := by have := (List.getElem?_eq_some_iff.1 hi).1; simpa using this
 have hl : l = (List.range N).map fun j => F i (N + j) := by
  rw [List.getElem?_map, List.getElem?_range hin] at hi
  simpa using hi.symm
 subst hl
 refine ⟨_, by rw [Nat.zero_add]; exact (h.cell hin).1, R i, N, C i - N, by rw [if_pos hin]; simp, fun j x hj => ?_⟩
 have hjl : j < N := by have := (List.getElem?_eq_some_iff.1 hj).1; simpa using this
 have hx : x = F i (N + j) := by
  rw [List.getElem?_map, List.getElem?_range hjl] at hj
  simpa using hj.symm
 subst hx
 exact ⟨hB i hin (N + j) (by omega), ((h.st i hin).cell (by omega)).1⟩
theorem downs_byt {F : Nat → Nat → Nat} {N L : Nat} (h : Byt F N L) : ∀ c, Byt (downs N F c).2 N L
 | 0 => h
 | c + 1 => by
   have ih := downs_byt h c
   show Byt (stepC N c (downs N F c)).2 N L
   unfold stepC
   split
   ·exact ih
   ·split
    ·exact ih
    ·rename_i h1 a h2
     have := seek_some h2
     have hle := downs_le N F c
     exact elimF_byt (ih.turn (by omega))
theorem turn_any {w : World} {base : Nat} {v : Value} {N : Nat} {R C : Nat → Nat} {F : Nat → Nat → Nat} (hM : Mat w base v N N R C F) (hB : Byt F N N) (hN : 0 < N) (hN2 : N ≤ 12) :
 Calls Tryz.prog 149 #[v] w (TurnPost w N F) := by
 obtain ⟨g, cap, rfl, -, hgl, hcap⟩ := hM.form hN
 have HM := Lib.hid hM
 have HBY := Lib.hid hB
 have HMAY := Lib.hid (sMay_any (hM.rows hN hB) (rect_mat N N F hN hN) (by omega) (by omega))
 have c0 := (hM.cell hN).1
 clear hM hB
 go_enter Tryz.func149, Tryz.ntmps149
 go_wp2_with (go_at_call 179; with_reducible refine HMAY.out.mono ?_)
 rintro e w1 ⟨rfl, hb1⟩
 have hM1 := HM.out.ext hb1
 have c1 := (hM1.cell hN).1
 have HB1 := Lib.hid hb1
 have HOWN := Lib.hid (show Calls Tryz.prog 181 #[.slice (some ⟨g, 0, none⟩) N cap, .int .i64 0] w1 (OwnPost w1 N N 0 F) from own_any 0 hM1 hN (by omega) hN (by omega))
 have hne : ((N : Int) != (N : Int)) = false := by simp
 clear hb1 hM1 c0
 go_wp2_with (go_at_call 181; with_reducible refine HOWN.out.mono ?_)
 rintro e w2 ⟨v2, R2, C2, rfl, hM2, hb2⟩
 have hB2 := HB1.out.trans (Below.mono hb2 HB1.out.size)
 obtain ⟨g2, cap2, rfl, -⟩ := hM2.form hN
 have HB2 := Lib.hid hB2
 have HD2 := Lib.hid (down_any (L := N) hM2 (wide_byt HBY.out) hb2.size hN (by omega) hN (by omega))
 have HM2 := Lib.hid hb2.size
 clear hM2 hb2 hB2 c1
 go_wp2_with (go_at_call 180; with_reducible refine HD2.out.mono ?_)
 rintro e w3 ⟨R3, C3, rfl, -, hb3⟩
 have hB3 := HB2.out.trans (Below.mono hb3 HB1.out.size)
 have HB3 := Lib.hid hB3
 have hdle := downs_le N (wideF N F) N
 by_cases hdn : (turnD N F).1 < N
 ·have hdn2 : (((downs N (wideF N F) N).1 : Nat) : Int) < (N : Int) := by have : (downs N (wideF N F) N).1 < N := hdn; omega
  clear hb3 hB3
  go_wp2_with fail
  go_ret2
  exact ⟨HB3.out, by rw [if_pos hdn]; rfl⟩
 ·have hdn2 : ¬ ((((downs N (wideF N F) N).1 : Nat) : Int) < (N : Int)) := by have : ¬ (downs N (wideF N F) N).1 < N := hdn; omega
  have hM3 := HM.out.ext hB3
  have HOW3 := Lib.hid (own_any N hM3 hN (by omega) hN (by omega))
  clear hb3 hB3 hM3
  go_wp2_with (go_at_call 181; with_reducible refine HOW3.out.mono ?_)
  rintro e w4 ⟨v4, R4, C4, rfl, hM4, hb4⟩
  obtain ⟨g4, cap4, rfl, hgb4, hgl4, hcap4⟩ := hM4.form hN
  have hs3 := HB3.out.size
  have HB4 := Lib.hid (HB3.out.trans (Below.mono hb4 hs3))
  have hm4 : Mat w4 w3.heap.size (.slice (some ⟨g4, 0, none⟩) N cap4) N (N + N) R4 C4 (oneF N 0 F) := hM4.congr fun i hi j hj => by
   unfold wideF oneF
   split
   ·rfl
   ·rw [if_neg (by omega)]
  have HM4 := Lib.hid hm4
  clear hb4 hM4 hm4
  go_wp2_with fail
  go_loopw [33] (fun i wr => ∃ z : Nat, z ≤ N ∧ i = .int .i64 (z : Int) ∧ Mat wr w3.heap.size (.slice (some ⟨g4, 0, none⟩) N cap4) N (N + N) R4 C4 (oneF N z F) ∧ Below w.heap.size w wr) (fun i _ => N - (intOf i).toNat)
  case atStart => exact ⟨0, by omega, rfl, HM4.out, HB4.out⟩
  case round =>
   obtain ⟨z, hz, rfl, hm, hbl⟩ := hrel
   by_cases hlt : z < N
   ·have hlt2 : (z : Int) < (N : Int) := by omega
    obtain ⟨x, hx⟩ : ∃ x : Nat, x = N + z := ⟨_, rfl⟩
    obtain ⟨M, hMM⟩ : ∃ M : Nat, M = N + N := ⟨_, rfl⟩
    have f1 : IntKind.i64.wrap ((N : Int) + (z : Int)) = (x : Int) := by rw [IntKind.wrap_i64]; omega
    have f2 : (x : Int) < (M : Int) := by omega
    have f3 : (0 : Int) ≤ (x : Int) := by omega
    rw [← hMM] at hm
    have c1 := (hm.cell hlt).1
    obtain ⟨c2, z2⟩ := (hm.st z hlt).cell (show x < M by omega)
    have hrow := (hm.st z hlt).set_ (k := x) (g := fun k => if k = N + z then 1 else oneF N z F z k) (by omega) (fun j _ => by rw [hx]; by_cases he : j = N + z <;> simp [he])
    simp only [hx, if_true] at hrow
    rw [← hx] at hrow
    have hrl := (hm.st z hlt).lt
    have hm2 := hm.row_ (w' := wr.setCell ⟨R4 z, x, none⟩ (.int .u8 1)) (G := oneF N (z + 1) F) hlt hrow (Vm.Fr.cell wr ⟨R4 z, x, none⟩ _) (fun k _ j _ => by rw [hx]; exact one_set k j)
    have hb2 := below_fr hbl (Nat.le_refl _) (Vm.Fr.cell wr ⟨R4 z, x, none⟩ (.int .u8 1)) (by simpa using Nat.le_trans hs3 (hm.low z hlt))
    rw [hMM] at hm2
    have HN := Lib.hid hm2
    have HB5 := Lib.hid hb2
    clear hm hrow hm2 hb2 hbl hx hMM
    go_wp2_with fail
    go_roundw
    case rel => exact ⟨z + 1, by omega, by go_num, HN.out, HB5.out⟩
    case measure => simp [intOf]; omega
   ·obtain rfl : z = N := by omega
    have hd2 : ¬ ((z : Int) < (z : Int)) := by omega
    have HD6 := Lib.hid (down_any hm (one_byt HBY.out) (Nat.le_trans (Nat.le_refl _) (by have := hbl.size; have := hm.row.lt g4 rfl; omega)) hN (by omega) (by omega) (by omega))
    have HBL := Lib.hid hbl
    clear hm hbl
    go_wp2_with (go_at_call 180; with_reducible refine HD6.out.mono ?_)
    rintro e w6 ⟨R6, C6, rfl, hm6, hb6⟩
    have HI6 := Lib.hid (HI.of hm6)
    have HB6 := Lib.hid (HBL.out.trans (Below.mono hb6 hs3))
    clear hm6 hb6
    go_wp2_with fail
    go_loopw [49] (fun i wr => ∃ q : Nat, q ≤ z ∧ i = .int .i64 (q : Int) ∧ HI w3.heap.size g4 cap4 z R6 C6 (turnW z F).2 q wr ∧ Below w.heap.size w wr) (fun i _ => z - (intOf i).toNat)
    case atStart => exact ⟨0, by omega, rfl, HI6.out, HB6.out⟩
    case round =>
     obtain ⟨q, hq, rfl, hI, hbl⟩ := hrel
     by_cases hlt : q < z
     ·have hlt2 : (q : Int) < (z : Int) := by omega
      have c1 := (hI.cell hlt).1
      have z1 := (hI.cell hlt).2
      rw [if_neg (Nat.lt_irrefl _)] at c1
      have hcq := (hI.st q hlt).cap
      have g1 : (z : Int) ≤ (z : Int) + (z : Int) := by omega
      have g2 : ¬ C6 q = z := by omega
      have HN := Lib.hid (hI.step hlt)
      have HB7 := Lib.hid (below_fr hbl (Nat.le_refl _) (Vm.Fr.cell wr ⟨g4, q, none⟩ (.slice (some ⟨R6 q, z, none⟩) z (C6 q - z))) (by simpa using Nat.le_trans hs3 hgb4))
      clear hI hbl
      go_wp2_with fail
      go_roundw
      case rel => exact ⟨q + 1, by omega, by go_num, HN.out, HB7.out⟩
      case measure => simp [intOf]; omega
     ·obtain rfl : q = z := by omega
      have d5 : ¬ ((q : Int) < (q : Int)) := by omega
      have HR := Lib.hid (hI.rows (downs_byt (one_byt HBY.out) _))
      have HBX := Lib.hid hbl
      clear hI hbl
      go_wp2_with fail
      go_ret2
      exact ⟨HBX.out, by rw [if_neg hdn]; exact ⟨_, rfl, HR.out⟩⟩
end Sol
end Go.Proofs.YtnbkhdbligjifaaGreatDoor
namespace Go.Proofs.YtnbkhdbligjifaaGreatDoor
open Go Go.RowKit
namespace Sol
attribute [local go_sem ↓] appSem_eq
def Ints (w : World) (v : Value) (l : List Nat) : Prop := ∃ b o c, v = .slice (some ⟨b, o, none⟩) l.length c ∧ l.length ≤ c ∧ ∀ i x, l[i]? = some x → w.cell? ⟨b, o + i, none⟩ = some (.int .i64 (x : Nat))
theorem Ints.ext {w w' : World} {v : Value} {l : List Nat} (h : Ints w v l) (hE : Stab.Ext w w') : Ints w' v l := by
 obtain ⟨b, o, c, h1, h3, h2⟩ := h
 exact ⟨b, o, c, h1, h3, fun i x hi => hE.cell (h2 i x hi)⟩
def pick (ls : List (List Nat)) (hs : List Nat) (i j : Nat) : Nat := (ls.getD (hs.getD i 0) []).getD j 0
def RowsPost (w : World) (ls : List (List Nat)) (hs : List Nat) (L : Nat) (e : Ending) (w' : World) : Prop :=
 ∃ v R C, e = .returned (.tuple #[v, .int .i64 0]) ∧ Mat w' w.heap.size v hs.length L R C (pick ls hs) ∧ Below w.heap.size w w'
theorem seg_all (xs : List Value) (cs : List Value) (h : xs.length = cs.length) : seg xs 0 cs = cs := by
 apply List.ext_getElem?
 intro j
 rw [seg_get]
 by_cases hj : j < cs.length
 ·rw [if_pos (by omega), Nat.sub_zero]
 ·rw [if_neg (by omega), List.getElem?_eq_none (by omega), List.getElem?_eq_none (by omega)]
theorem row_made (W : World) (L : Nat) (f : Nat → Nat) (hL : L ≤ 1000) : RowAt ((W.alloc (.cells (Array.replicate L (.int .u8 0)) 5)).setCells W.heap.size 0 (cellsL f L)) W.heap.size L L f := by
 have h0 : (W.alloc (.cells (Array.replicate L (.int .u8 0)) 5)).ownsRow 0 5 1 (.slice (some ⟨W.heap.size, 0, none⟩) L L) L (List.replicate L (.int .u8 0)) :=
  ⟨by simp, .inr ⟨W.heap.size, L, _, rfl, Nat.zero_le _, heap_alloc_new W _, Nat.le_refl _, by unfold maxLen; omega, by simp, by simp⟩⟩
 have := row_seg (cellsL f L) 0 h0 (by rw [cellsL_len]; omega)
 rw [seg_all _ _ (by rw [cellsL_len]; simp)] at this
 exact this
theorem copy_made (W : World) {b o c L : Nat} {l : List Nat} (hl : l.length = L) (hL : L ≤ 1000) (h : ∀ j x, l[j]? = some x → W.cell? ⟨b, o + j, none⟩ = some (.int .u8 (x : Nat))) (ty : TypeId) :
 (Builtin.copy_ #[136, 136] ty #[.slice (some ⟨W.heap.size, 0, none⟩) L L, .slice (some ⟨b, o, none⟩) L c]).run Tryz.prog (W.alloc (.cells (Array.replicate L (.int .u8 0)) 5)) =
  .ok (goInt (L : Nat)) ((W.alloc (.cells (Array.replicate L (.int .u8 0)) 5)).setCells W.heap.size 0 (cellsL (fun j => l.getD j 0) L)) := by
 have hlen : (cellsL (fun j => l.getD j 0) L).length = L := cellsL_len _ _
 have hE := Stab.Ext.alloc W (.cells (Array.replicate L (.int .u8 0)) 5)
 have hbk := Blk.new W 5 (Array.replicate L (.int .u8 0))
 rw [run_copy_cells _ 136 136 ty 5 W.heap.size 0 _ _ ⟨b, o, none⟩ _ _ (cellsL (fun j => l.getD j 0) L) Tryz.underlying136 (by kernel_rfl) (by rw [hlen]; simp) (fun j v hv => by
  have hj : j < L := by rw [← hlen]; exact (List.getElem?_eq_some_iff.1 hv).1
  have ha : (⟨b, o, none⟩ : Addr).add j = ⟨b, o + j, none⟩ := by unfold Addr.add; split <;> simp_all
  rw [cellsL_get _ hj] at hv
  have hg : l[j]? = some (l.getD j 0) := by rw [List.getD_eq_getElem?_getD, List.getElem?_eq_getElem (by omega)]; rfl
  rw [ha, ← hv]
  exact hE.cell (h j _ hg)) (fun j hj => by
  rw [hlen] at hj
  rw [Nat.zero_add, hbk.cell j]; simp [hj]) (fun j hj => by
  rw [Nat.zero_add]; exact hbk.frozen j) (cellsL_one _ _), hlen]
theorem mRows_any {w : World} {v vi : Value} {ls : List (List Nat)} {hs : List Nat} {n L : Nat} (hr : Spr.Rows w v ls) (hrect : Rect ls n L) (hn : n ≤ 12) (hL : L ≤ 12) (hi : Ints w vi hs) (h1 : 1 ≤ hs.length) (h12 : hs.length ≤ 12) (hlt : ∀ x ∈ hs, x < n) :
 Calls Tryz.prog 148 #[v, vi] w (RowsPost w ls hs L) := by
 have HMAY := Lib.hid (mMay_any hr hrect hn hL)
 have HR := Lib.hid hr
 have HI := Lib.hid hi
 have HRE := Lib.hid hrect
 have HLT := Lib.hid hlt
 obtain ⟨g, o, cap, rfl, -⟩ := hr
 obtain ⟨gi, oi, ci, rfl, -⟩ := hi
 have hln := hrect.rows
 have hL1 := hrect.l1
 have hmk := run_mk (P := Tryz.prog) (t := 136) (e := 5) (z := .int .u8 0) (bytes := 1) Tryz.underlying136 (by kernel_rfl) rfl L (by omega) (by omega)
 have e1 : ¬ ((hs.length : Int) < 1) := by omega
 have e2 : ¬ ((12 : Int) < (hs.length : Int)) := by omega
 obtain ⟨K, hK⟩ : ∃ K, K = hs.length := ⟨_, rfl⟩
 rw [← hK] at e1 e2 h12 h1
 rw [hln] at HMAY
 rw [← hK, hln]
 have HK := Lib.hid hK
 have HLN := Lib.hid hln
 clear hK hln hrect hlt
 go_enter Tryz.func148, Tryz.ntmps148
 go_wp2_with (go_at_call 178; with_reducible refine HMAY.out.mono ?_)
 rintro e w1 ⟨rfl, hb1⟩
 have HB1 := Lib.hid hb1
 clear hb1
 go_wp2_with fail
 go_loopw [6, 25] (fun out i wr => ∃ (q : Nat) (R' C' : Nat → Nat), q ≤ K ∧ i = .int .i64 (q : Int) ∧ Mat wr w.heap.size out q L R' C' (pick ls hs) ∧ Below w.heap.size w wr) (fun _ i _ => K - (intOf i).toNat)
 case atStart => exact ⟨0, id, id, by omega, rfl, Mat.nil _ _ _ _ _ _, HB1.out⟩
 case round =>
  obtain ⟨q, R', C', hq, rfl, ho, hbl⟩ := hrel
  by_cases hlt : q < K
  ·have hlt2 : (q : Int) < (K : Int) := by omega
   have hqs : q < hs.length := by rw [← HK.out]; exact hlt
   obtain ⟨x, hx⟩ : ∃ x, x = hs[q] := ⟨_, rfl⟩
   have hxs : hs[q]? = some x := by rw [List.getElem?_eq_getElem hqs, hx]
   have hxn : x < n := HLT.out x (by rw [hx]; exact List.getElem_mem _)
   obtain ⟨b9, o9, c9, he9, -, hc9⟩ := HI.out.ext hbl
   cases he9
   have c1 := hc9 q x hxs
   obtain ⟨b8, o8, c8, he8, hc8⟩ := HR.out.ext hbl
   cases he8
   obtain ⟨l, hl, hll, hld⟩ := HRE.out.row hxn
   obtain ⟨u, hu, b', o', c', rfl, hc'⟩ := hc8 x l hl
   rw [hll] at hu
   have hxn2 : (x : Int) < (n : Int) := by omega
   have hx0 : ¬ ((x : Int) < 0) := by omega
   have hxn3 : ¬ ((n : Int) ≤ (x : Int)) := by omega
   have hcp := copy_made wr (c := c') hll (by omega) (fun j y hj => (hc' j y hj).2) 3
   have hu2 := (Stab.Ext.alloc wr (.cells (Array.replicate L (.int .u8 0)) 5)).cell hu
   have hrow := row_made wr L (fun j => l.getD j 0) (by omega)
   generalize hW2 : (wr.alloc (.cells (Array.replicate L (.int .u8 0)) 5)).setCells wr.heap.size 0 (cellsL (fun j => l.getD j 0) L) = W2 at hcp hrow
   have hE2 : Stab.Ext wr W2 := by
    rw [← hW2]
    exact below_fr (Stab.Ext.alloc wr _) (Nat.le_refl _) (setCells_fr wr.heap.size _ _ _) (by simp)
   have hpk : ∀ j, j < L → l.getD j 0 = pick ls hs q j := fun j _ => by
    unfold pick
    rw [List.getD_eq_getElem?_getD (l := hs), hxs, Option.getD_some, ← hld]
   have hrow2 := hrow.congr hpk
   obtain ⟨g3, c3, w3, hrun2, hown2, hb3, hgr, hor⟩ := own_app_new (t := 132) (c := 1) (m := 1) (C := #[.slice (some ⟨wr.heap.size, 0, none⟩) L L]) Tryz.underlying132 info_sl rfl (by omega) (by omega) (own_ext ho.row hE2) rfl (by simp [Value.oneCell']) (by omega) (by omega) (Nat.le_trans hbl.size hE2.size)
   have HN := Lib.hid (ho.push hE2 hbl.size hrow2 (Nat.le_refl _) hown2 hgr hor)
   have HB3 := Lib.hid ((hbl.trans (Below.mono hE2 hbl.size)).trans hb3)
   obtain ⟨A6, cap6, hv6⟩ := ho.shape
   subst hv6
   clear ho hbl hrow hrow2 hE2 hown2 hb3 hgr hor hpk hc' hc8 hc9 hld hxs hx hl hll
   go_wp2_with fail
   go_roundw
   case rel => exact ⟨q + 1, _, _, by omega, by go_num, HN.out, HB3.out⟩
   case measure => simp [intOf]; omega
  ·obtain rfl : q = K := by omega
   have d1 : ¬ ((q : Int) < (q : Int)) := by omega
   have HO := Lib.hid ho
   have HBL := Lib.hid hbl
   clear ho hbl
   go_wp2_with fail
   go_ret2
   exact ⟨_, R', C', rfl, by rw [← HK.out]; exact HO.out, HBL.out⟩
end Sol
end Go.Proofs.YtnbkhdbligjifaaGreatDoor
namespace Go.Proofs.YtnbkhdbligjifaaGreatDoor
open Go Go.RowKit
namespace Cod
attribute [local go_sem ↓] appSem_eq
def Strs (w : World) (v : Value) (l : List (List UInt8)) : Prop := ∃ b o c, v = .slice (some ⟨b, o, none⟩) l.length c ∧ l.length ≤ c ∧ ∀ i s, l[i]? = some s → w.cell? ⟨b, o + i, none⟩ = some (.string ⟨s.toArray⟩)
theorem Strs.ext {w w' : World} {v : Value} {l : List (List UInt8)} (h : Strs w v l) (hE : Stab.Ext w w') : Strs w' v l := by
 obtain ⟨b, o, c, h1, h3, h2⟩ := h
 exact ⟨b, o, c, h1, h3, fun i x hi => hE.cell (h2 i x hi)⟩
def outL (ms ls : List (List Nat)) : List (List Nat) := (List.range ms.length).map fun i => (List.range (Spr.wide ls)).map (Spr.out ms ls i)
theorem post_rows {w w' : World} {ms ls : List (List Nat)} {e : Ending} (h : Spr.Post w ms ls e w') : ∃ v, e = .returned v ∧ Spr.Rows w' v (outL ms ls) ∧ Below w.heap.size w w' := by
 obtain ⟨A, R, rfl, hA, hb, w2, hI⟩ := h
 refine ⟨_, rfl, ⟨A, 0, ms.length, by simp [outL], fun i l hi => ?_⟩, hb⟩
 have hin : i < ms.length := by have := (List.getElem?_eq_some_iff.1 hi).1; simpa [outL] using this
 have hl : l = (List.range (Spr.wide ls)).map (Spr.out ms ls i) := by
  unfold outL at hi
  rw [List.getElem?_map, List.getElem?_range hin] at hi
  simpa using hi.symm
 subst hl
 obtain ⟨hAR, hrow⟩ := hI.row i hin
 refine ⟨.slice (some ⟨R i, 0, none⟩) (Spr.wide ls) (Spr.wide ls), ?_, R i, 0, Spr.wide ls, by simp, fun j x hj => ?_⟩
 ·rw [Nat.zero_add, hI.tbl.cell i, Spr.tab_get hin]
  unfold Spr.slc
  rw [if_pos hin]
 ·have hjl : j < Spr.wide ls := by have := (List.getElem?_eq_some_iff.1 hj).1; simpa using this
  have hx : x = Spr.out ms ls i j := by
   rw [List.getElem?_map, List.getElem?_range hjl] at hj
   simpa using hj.symm
  subst hx
  refine ⟨out_lt _ _ _ _, ?_⟩
  rw [Nat.zero_add, hrow.cell j, Spr.tab_get hjl]
  rfl
def nsOf (ps : List (List UInt8)) : List (List Nat) := ps.map fun s => s.map UInt8.toNat
def lenP (ps : List (List UInt8)) : Nat := (ps.getD 0 []).length
def firstF (K N : Nat) (hs : List Nat) (ps : List (List UInt8)) : Option (List (List Nat)) :=
 if ∀ s ∈ ps, s.length = lenP ps then
  if (Sol.turnD K (Sol.pick (matL K N) hs)).1 < K ∨ lenP ps = 0 then none else some (outL (Sol.turnL K (Sol.pick (matL K N) hs)) (nsOf ps))
 else none
def FirstPost (w : World) (K N : Nat) (hs : List Nat) (ps : List (List UInt8)) (e : Ending) (w' : World) : Prop :=
 Below w.heap.size w w' ∧ match firstF K N hs ps with
  | none => e = .returned (.tuple #[.slice none 0 0, .bool false])
  | some ls => ∃ v, e = .returned (.tuple #[v, .bool true]) ∧ Spr.Rows w' v ls
structure LT (W : World) (base : Nat) (v : Value) (n : Nat) (rs cs : Nat → Nat) (ps : List (List UInt8)) : Prop where
 row : W.ownsRow base 136 1 v n ((List.range n).map fun i => .slice (some ⟨rs i, 0, none⟩) (ps.getD i []).length (cs i))
 st : ∀ i, i < n → rs i < W.heap.size ∧ ∀ j x, (ps.getD i [])[j]? = some x → W.cell? ⟨rs i, j, none⟩ = some (.int .u8 (x.toNat : Nat))
 off : ∀ i, i < n → v.ownBlock ≠ some (rs i)
theorem LT.nil (W : World) (base : Nat) (rs cs : Nat → Nat) (ps : List (List UInt8)) : LT W base (.slice none 0 0) 0 rs cs ps :=
 ⟨⟨by simp, .inl ⟨rfl, rfl⟩⟩, fun i hi => absurd hi (Nat.not_lt_zero _), fun i hi => absurd hi (Nat.not_lt_zero _)⟩
theorem LT.shape {W : World} {base n : Nat} {v : Value} {rs cs : Nat → Nat} {ps : List (List UInt8)} (h : LT W base v n rs cs ps) : ∃ a c, v = .slice a n c := by
 rcases h.row.2 with ⟨rfl, h0⟩ | ⟨g', cap', cur, rfl, _⟩
 ·exact ⟨none, 0, by rw [h0]⟩
 ·exact ⟨_, _, rfl⟩
theorem LT.push {w w2 w3 : World} {base n r c g' cap' : Nat} {v : Value} {rs cs : Nat → Nat} {ps : List (List UInt8)} {o : Obj} (h : LT w base v n rs cs ps) (hE : Stab.Ext w w2) (hr : r < w2.heap.size) (hlow : w.heap.size ≤ r) (hc : ∀ j x, (ps.getD n [])[j]? = some x → w2.cell? ⟨r, j, none⟩ = some (.int .u8 (x.toNat : Nat)))
 (hown : w3.ownsRow base 136 1 (.slice (some ⟨g', 0, none⟩) (n + 1) cap') (n + 1) (((List.range n).map fun i => .slice (some ⟨rs i, 0, none⟩) (ps.getD i []).length (cs i)) ++ [.slice (some ⟨r, 0, none⟩) (ps.getD n []).length c])) (hg : (w2.alloc o).grownBy w3 v.ownBlock) (hv : v.ownBlock = some g' ∨ g' = w2.heap.size + 1) :
 LT w3 base (.slice (some ⟨g', 0, none⟩) (n + 1) cap') (n + 1) (fun i => if i < n then rs i else r) (fun i => if i < n then cs i else c) ps := by
 have hvl : ∀ k, v.ownBlock = some k → k < w.heap.size := fun k hk => (h.row.lt k hk).2
 have hal : ∀ k, k < w2.heap.size → some k ≠ v.ownBlock → w3.heap[k]? = w2.heap[k]? := fun k hk hne => (hg.block k (by simp; omega) hne).trans (Below.heap_alloc w2 o k hk)
 have hs := hE.size
 have hg3 : w2.heap.size ≤ w3.heap.size := by have := hg.size; simp at this; omega
 refine ⟨?_, fun i hi => ?_, fun i hi => ?_⟩
 ·have : ((List.range (n + 1)).map fun i => Value.slice (some ⟨if i < n then rs i else r, 0, none⟩) (ps.getD i []).length (if i < n then cs i else c)) = ((List.range n).map fun i => .slice (some ⟨rs i, 0, none⟩) (ps.getD i []).length (cs i)) ++ [.slice (some ⟨r, 0, none⟩) (ps.getD n []).length c] := by
   simp only [List.range_succ, List.map_append, List.map_cons, List.map_nil, Nat.lt_irrefl, if_false]
   congr 1
   refine List.map_congr_left fun i hi => ?_
   have := List.mem_range.1 hi
   simp only [this, if_true]
  rw [this]
  exact hown
 ·by_cases h2 : i < n
  ·simp only [h2, if_true]
   obtain ⟨h3, h4⟩ := h.st i h2
   refine ⟨by omega, fun j x hj => ?_⟩
   exact (World.cell?_of_block (a := ⟨rs i, j, none⟩) (hal (rs i) (show rs i < w2.heap.size by omega) (fun e => h.off i h2 e.symm))).trans (hE.cell (h4 j x hj))
  ·obtain rfl : i = n := by omega
   simp only [Nat.lt_irrefl, if_false]
   refine ⟨by omega, fun j x hj => ?_⟩
   exact (World.cell?_of_block (a := ⟨r, j, none⟩) (hal r hr (fun e => by have := hvl r e.symm; omega))).trans (hc j x hj)
 ·have hg2 : (Value.slice (some ⟨g', 0, none⟩) (n + 1) cap').ownBlock = some g' := rfl
  rw [hg2]
  intro e
  have e : g' = if i < n then rs i else r := by simpa using e
  by_cases h2 : i < n <;> simp only [h2, if_true, if_false] at e
  ·rcases hv with hv | hv
   ·exact h.off i h2 (by rw [hv, e])
   ·have := (h.st i h2).1; omega
  ·rcases hv with hv | hv
   ·have := hvl g' hv; omega
   ·omega
theorem LT.rows {W : World} {base : Nat} {v : Value} {rs cs : Nat → Nat} {ps : List (List UInt8)} (h : LT W base v ps.length rs cs ps) (hn : 0 < ps.length) : Spr.Rows W v (nsOf ps) := by
 rcases h.row.2 with ⟨_, h0⟩ | ⟨g, cap, cur, rfl, hb, hg, hnc, _, hs, ht⟩
 ·omega
 ·have hbk : Blk W g 136 cur := hg
  refine ⟨g, 0, cap, by simp [nsOf], fun i l hi => ?_⟩
  have hin : i < ps.length := by have := (List.getElem?_eq_some_iff.1 hi).1; simpa [nsOf] using this
  have hl : l = (ps.getD i []).map UInt8.toNat := by
   unfold nsOf at hi
   rw [List.getElem?_map, List.getElem?_eq_getElem hin] at hi
   have : ps.getD i [] = ps[i] := by rw [List.getD_eq_getElem?_getD, List.getElem?_eq_getElem hin]; rfl
   rw [this]
   simpa using hi.symm
  subst hl
  refine ⟨.slice (some ⟨rs i, 0, none⟩) (ps.getD i []).length (cs i), ?_, rs i, 0, cs i, by simp, fun j x hj => ?_⟩
  ·rw [Nat.zero_add, hbk.cell, ← Array.getElem?_toList]
   have : ((List.range ps.length).map fun i => Value.slice (some ⟨rs i, 0, none⟩) (ps.getD i []).length (cs i))[i]? = some (.slice (some ⟨rs i, 0, none⟩) (ps.getD i []).length (cs i)) := by simp [hin]
   rw [← this, ← ht, List.getElem?_take_of_lt (by omega)]
  ·rw [List.getElem?_map, Option.map_eq_some_iff] at hj
   obtain ⟨y, hy, rfl⟩ := hj
   exact ⟨y.toNat_lt, by rw [Nat.zero_add]; exact (h.st i hin).2 j y hy⟩
end Cod
end Go.Proofs.YtnbkhdbligjifaaGreatDoor
