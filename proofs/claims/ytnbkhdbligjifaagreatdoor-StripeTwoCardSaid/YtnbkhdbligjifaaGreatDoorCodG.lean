/-
 The code package: a matrix made. The code package: the code's matrix. The code package: the shards' payloads. The code package: the data's rows.
-/
import Derived.Test.YtnbkhdbligjifaaGreatDoorCodC
import Derived.Test.YtnbkhdbligjifaaGreatDoorVMaps
import Derived.Lib.BufferWrite
set_option linter.unusedVariables false
set_option linter.unusedSimpArgs false
set_option maxRecDepth 100000
set_option maxHeartbeats 40000000
namespace Go.Proofs.YtnbkhdbligjifaaGreatDoor
open Go Go.RowKit
namespace Cod
structure MI2 (w2 : World) (n L : Nat) (f0 : Nat → Nat → Nat) (A i : Nat) (R : Nat → Nat) (f : Nat → Nat) (wr : World) : Prop where
 tbl : Blk wr A 136 (Spr.tab n (Spr.slc R (i + 1) L))
 row : ∀ k, k < i → A < R k ∧ Blk wr (R k) 5 (Spr.tab L (Spr.by8 (f0 k)))
 cur : A < R i ∧ Blk wr (R i) 5 (Spr.tab L (Spr.by8 f))
 up : ∀ k, k < i + 1 → ∀ m, m < k → R m < R k
 below : Below A w2 wr
structure MI (w2 : World) (n L : Nat) (f0 : Nat → Nat → Nat) (A i : Nat) (R : Nat → Nat) (wr : World) : Prop where
 tbl : Blk wr A 136 (Spr.tab n (Spr.slc R i L))
 row : ∀ k, k < i → A < R k ∧ Blk wr (R k) 5 (Spr.tab L (Spr.by8 (f0 k)))
 up : ∀ k, k < i → ∀ m, m < k → R m < R k
 below : Below A w2 wr
theorem MI2.done {w2 wr : World} {n L : Nat} {f0 : Nat → Nat → Nat} {A i : Nat} {R : Nat → Nat} (h : MI2 w2 n L f0 A i R (f0 i) wr) : MI w2 n L f0 A (i + 1) R wr :=
 ⟨h.tbl, fun k hk => by
  by_cases e : k = i
  ·subst e; exact h.cur
  ·exact h.row k (by omega), fun k hk m hm => h.up k hk m hm, h.below⟩
theorem MI2.ext {w2 wr wr' : World} {n L : Nat} {f0 : Nat → Nat → Nat} {A i : Nat} {R f : Nat → Nat} (h : MI2 w2 n L f0 A i R f wr) (hA : A ≤ wr.heap.size) (hE : Stab.Ext wr wr') : MI2 w2 n L f0 A i R f wr' :=
 ⟨h.tbl.below hE h.tbl.lt, fun k hk => ⟨(h.row k hk).1, (h.row k hk).2.below hE (h.row k hk).2.lt⟩, ⟨h.cur.1, h.cur.2.below hE h.cur.2.lt⟩, h.up, h.below.trans (hE.mono hA)⟩
theorem MI2.set_ {w2 wr : World} {n L : Nat} {f0 : Nat → Nat → Nat} {A i b x : Nat} {R f g : Nat → Nat} (h : MI2 w2 n L f0 A i R f wr) (hb : b < L) (hx : g b = x) (ho : ∀ k, k ≠ b → g k = f k) :
 MI2 w2 n L f0 A i R g (wr.setCell ⟨R i, b, none⟩ (.int .u8 (x : Nat))) := by
 have hA := h.cur.1
 refine ⟨h.tbl.far (by show A ≠ R i; omega) _, fun k hk => ⟨(h.row k hk).1, (h.row k hk).2.far ?_ _⟩, ⟨h.cur.1, ?_⟩, h.up, h.below.setCell (p := ⟨R i, b, none⟩) (by show A ≤ R i; omega) _⟩
 ·have := h.up i (by omega) k hk
  show R k ≠ R i
  omega
 ·have := h.cur.2.set_ b (.int .u8 (x : Nat))
  rw [Spr.tab_set hb (g := Spr.by8 g) (by unfold Spr.by8; rw [hx]) (fun k hk => by unfold Spr.by8; rw [ho k hk])] at this
  exact this
theorem MI.row_new {w2 wr : World} {n L : Nat} {f0 : Nat → Nat → Nat} {A i : Nat} {R : Nat → Nat} (h : MI w2 n L f0 A i R wr) (hi : i < n) :
 ∃ R', R' i = wr.heap.size ∧ MI2 w2 n L f0 A i R' (fun _ => 0) ((wr.alloc (.cells (Array.replicate L (.int .u8 0)) 5)).setCell ⟨A, i, none⟩ (.slice (some ⟨wr.heap.size, 0, none⟩) L L)) := by
 have hA := h.tbl.lt
 refine ⟨fun k => if k = i then wr.heap.size else R k, by simp, ?_, fun k hk => ?_, ?_, fun k hk m hm => ?_, ?_⟩
 ·have := (h.tbl.alloc (.cells (Array.replicate L (.int .u8 0)) 5)).set_ i (.slice (some ⟨wr.heap.size, 0, none⟩) L L)
  rw [Spr.tab_set hi (g := Spr.slc (fun k => if k = i then wr.heap.size else R k) (i + 1) L) (by simp [Spr.slc]) (fun k hk => by
   unfold Spr.slc
   by_cases h1 : k < i
   ·rw [if_pos (by omega), if_pos h1]
    simp only [if_neg hk]
   ·rw [if_neg (by omega), if_neg h1])] at this
  exact this
 ·have h1 := h.row k hk
  have h2 := h1.2.lt
  simp only [if_neg (show k ≠ i by omega)]
  exact ⟨h1.1, (h1.2.alloc _).far (by show R k ≠ A; omega) _⟩
 ·rw [show (if i = i then wr.heap.size else R i) = wr.heap.size from if_pos rfl]
  refine ⟨hA, ?_⟩
  have h1 := (Blk.new wr 5 (Array.replicate L (.int .u8 0))).far (p := ⟨A, i, none⟩) (by show wr.heap.size ≠ A; omega) (.slice (some ⟨wr.heap.size, 0, none⟩) L L)
  rw [Spr.tab_rep] at h1 ⊢
  exact h1
 ·simp only [if_neg (show m ≠ i by omega)]
  by_cases e : k = i
  ·rw [if_pos e]
   exact (h.row m (by omega)).2.lt
  ·rw [if_neg e]
   exact h.up k (by omega) m hm
 ·exact (h.below.alloc (Nat.le_of_lt hA) _).setCell (p := ⟨A, i, none⟩) (Nat.le_refl _) _
def MadePost (w : World) (n L : Nat) (f0 : Nat → Nat → Nat) (e : Ending) (w' : World) : Prop := ∃ A R, e = .returned (.slice (some ⟨A, 0, none⟩) n n) ∧ w.heap.size ≤ A ∧ Below w.heap.size w w' ∧ ∃ w2, MI w2 n L f0 A n R w'
structure MRd (F c1 c3 k A i : Nat) (v : Value) (W : World) : Prop where
 fld : Fld.At W F
 k0 : W.cell? ⟨c1, 0, none⟩ = some (.int .i64 (k : Int))
 k3 : W.cell? ⟨c3, 0, none⟩ = some (.pointer (some ⟨F, 0, none⟩))
 tbl : W.cell? ⟨A, i, none⟩ = some v
theorem MRd.ext {F c1 c3 k A i : Nat} {v : Value} {w w' : World} (h : MRd F c1 c3 k A i v w) (hE : Stab.Ext w w') : MRd F c1 c3 k A i v w' := ⟨h.fld.ext hE, hE.cell h.k0, hE.cell h.k3, hE.cell h.tbl⟩
theorem made_any (F c1 c3 : Nat) (w : World) (k n L : Nat) (hn : n < 16) (hL : L < 16) (hk : k < 100) (k0 : w.cell? ⟨c1, 0, none⟩ = some (.int .i64 (k : Int))) (k3 : w.cell? ⟨c3, 0, none⟩ = some (.pointer (some ⟨F, 0, none⟩))) (ha : Fld.At w F) :
 Calls Tryz.prog 140 #[.int .i64 (n : Int), .int .i64 (L : Int), .func (.func 141) #[] #[.pointer (some ⟨c1, 0, none⟩), .pointer (some ⟨c3, 0, none⟩)]] w (MadePost w n L (entN k)) := by
 have hmk := run_mk (P := Tryz.prog) (t := 132) (e := 136) (z := .slice none 0 0) (bytes := 24) Tryz.underlying132 (by kernel_rfl) rfl n (by omega) (by omega)
 have hmk2 := run_mk (P := Tryz.prog) (t := 136) (e := 5) (z := .int .u8 0) (bytes := 1) Tryz.underlying136 (by kernel_rfl) rfl L (by omega) (by omega)
 have hinv : MI (w.alloc (.cells (Array.replicate n (.slice none 0 0)) 136)) n L (entN k) w.heap.size 0 (fun _ => 0) (w.alloc (.cells (Array.replicate n (.slice none 0 0)) 136)) := by
  refine ⟨?_, fun k hk => absurd hk (by omega), fun k hk => absurd hk (by omega), Below.refl _ _⟩
  have := Blk.new w 136 (Array.replicate n (.slice none 0 0))
  rw [Spr.tab_rep] at this
  rw [Spr.tab_congr (g := Spr.slc (fun _ => 0) 0 L) (fun k _ => by simp [Spr.slc])] at this
  rw [Spr.tab_rep]
  rw [Spr.tab_congr (g := Spr.slc (fun _ => 0) 0 L) (f := fun _ => .slice none 0 0) (fun k _ => by simp [Spr.slc])]
  exact this
 have hb2 : Below w.heap.size w (w.alloc (.cells (Array.replicate n (.slice none 0 0)) 136)) := (Below.refl _ _).alloc (Nat.le_refl _) _
 have HA := Lib.hid ha
 have HB2 := Lib.hid hb2
 have HINV := Lib.hid hinv
 clear ha hb2 hinv
 go_enter Tryz.func140, Tryz.ntmps140
 go_wp2_with fail
 have hinv := HINV.out
 have hb2 := HB2.out
 obtain ⟨A, hA⟩ : ∃ A, A = w.heap.size := ⟨_, rfl⟩
 have HAQ := Lib.hid hA
 rw [← hA] at hinv hb2 ⊢
 generalize (w.alloc (.cells (Array.replicate n (.slice none 0 0)) 136)) = w2 at *
 clear hA hmk HINV HB2
 go_loopw [14] (fun i wr => ∃ (q : Nat) (R : Nat → Nat), q ≤ n ∧ i = .int .i64 (q : Int) ∧ MI w2 n L (entN k) A q R wr) (fun i _ => n - (intOf i).toNat)
 case atStart => exact ⟨0, _, by omega, rfl, hinv⟩
 case round =>
  obtain ⟨i, R, hi, rfl, hI⟩ := hrel
  clear hinv
  by_cases hlt : i < n
  ·have hd : (i : Int) < (n : Int) := by omega
   have hBr' : (wr.alloc (.cells (Array.replicate L (.int .u8 0)) 5)).frozen? ⟨A, i, none⟩ = false := (hI.tbl.alloc _).frozen i
   have hBc : (wr.alloc (.cells (Array.replicate L (.int .u8 0)) 5)).cell? ⟨A, i, none⟩ = some (.slice none 0 0) := by
    rw [(hI.tbl.alloc _).cell i, Spr.tab_get hlt]
    simp [Spr.slc]
   have HI := Lib.hid hI
   clear hI
   obtain ⟨R', hR', hI2⟩ := HI.out.row_new hlt
   have HI2 := Lib.hid hI2
   have htb : ((wr.alloc (.cells (Array.replicate L (.int .u8 0)) 5)).setCell ⟨A, i, none⟩ (.slice (some ⟨wr.heap.size, 0, none⟩) L L)).cell? ⟨A, i, none⟩ = some (.slice (some ⟨wr.heap.size, 0, none⟩) L L) := by
    rw [hI2.tbl.cell i, Spr.tab_get hlt]
    simp [Spr.slc, hR']
   clear hI2
   go_wp2_with fail
   have hI2 := HI2.out
   rw [← hR'] at hI2 ⊢
   generalize ((wr.alloc (.cells (Array.replicate L (.int .u8 0)) 5)).setCell ⟨A, i, none⟩ (.slice (some ⟨R' i, 0, none⟩) L L)) = w3 at *
   clear hBc hBr' hmk2 htb HI2 HI
   go_loopw [27] (fun j wr => ∃ (q : Nat), q ≤ L ∧ j = .int .i64 (q : Int) ∧ MI2 w2 n L (entN k) A i R' (fun c => if c < q then entN k i c else 0) wr) (fun j _ => L - (intOf j).toNat)
   case atStart => exact ⟨0, by omega, rfl, by simpa using hI2⟩
   case round =>
    obtain ⟨j, hj, rfl, hI⟩ := hrel
    clear hI2 hR'
    have hAr : A ≤ wr.heap.size := Nat.le_of_lt hI.tbl.lt
    by_cases hjl : j < L
    ·have hdj : (j : Int) < (L : Int) := by omega
     have hbel : Below w.heap.size w wr := by
      have h7 := hb2.trans hI.below
      rw [HAQ.out] at h7
      exact h7
     have hFw : Fld.At wr F := HA.out.below hbel (Spr.lt_cell (HA.out.pw 0 (by omega)))
     have q0 : wr.cell? ⟨c1, 0, none⟩ = some (.int .i64 (k : Int)) := (hbel.cell (p := ⟨c1, 0, none⟩) (Spr.lt_cell k0)).trans k0
     have q3 : wr.cell? ⟨c3, 0, none⟩ = some (.pointer (some ⟨F, 0, none⟩)) := (hbel.cell (p := ⟨c3, 0, none⟩) (Spr.lt_cell k3)).trans k3
     have htbl : wr.cell? ⟨A, i, none⟩ = some (.slice (some ⟨R' i, 0, none⟩) L L) := by
      rw [hI.tbl.cell i, Spr.tab_get hlt]
      simp [Spr.slc]
     have HRD := Lib.hid (show MRd F c1 c3 k A i (.slice (some ⟨R' i, 0, none⟩) L L) wr from ⟨hFw, q0, q3, htbl⟩)
     have HI3 := Lib.hid hI
     clear hI hbel hFw q0 q3 htbl
     go_wp2_with fail
     refine Stab.rg 10 [[], [], [0, 1], [2], [], [], [], [], [5, 6, 7], [3, 4]] [8, 9] (MRd F c1 c3 k A i (.slice (some ⟨R' i, 0, none⟩) L L)) [Stab.eqv ?_, Stab.eqv ?_, Stab.eqv ?_, Stab.eqv ?_, Stab.eqv ?_, Stab.eqv ?_, Stab.eqv ?_, Stab.eqv ?_, Stab.eqv ?_, Stab.eqv ?_] (HRD.out.ext (Stab.Ext.drew _)) (fun _ _ h hE => h.ext hE) ?goals9 ?last9
     case goals9 =>
      simp only [List.take_succ_cons, List.take_zero]
      iterate 8
       refine Stab.gp (fun us w _ hE hS hp hK => ?_) ?_
       ·((try have e0 : _ = _ := hp.1); (try have e1 : _ = _ := hp.2.1); (try have e2 : _ = _ := hp.2.2.1); obtain ⟨-, s0, s3, s1⟩ := hS; go_simp; exact hK _ _ (by show _ = _; with_reducible rfl) (Stab.Ext.refl _))
      refine Stab.Goals.plain rfl rfl (fun us w cK hE hS hp hK => ?_) ?_
      ·obtain ⟨h5, h6, h7, -⟩ := hp
       replace h5 : us 5 = _ := h5
       replace h6 : us 6 = _ := h6
       replace h7 : us 7 = _ := h7
       go_simp
       go_wp2_with (go_at_call 141; ((with_reducible refine (ent_any F c1 c3 _ k n i j (by omega) (by omega) hk hS.k0 hS.k3 hS.fld).mono ?_); rintro e w1 ⟨rfl, hb⟩))
       refine hK _ _ ?_ hb
       show _ = _
       with_reducible rfl
      refine Stab.gp (fun us w _ hE hS hp hK => ?_) ?_
      ·((try have e0 : _ = _ := hp.1); (try have e1 : _ = _ := hp.2.1); (try have e2 : _ = _ := hp.2.2.1); obtain ⟨-, s0, s3, s1⟩ := hS; go_simp; exact hK _ _ (by show _ = _; with_reducible rfl) (Stab.Ext.refl _))
      exact Stab.Goals.nil
     case last9 =>
      intro us w' hE hS hp
      obtain ⟨h8, h9, -⟩ := hp
      replace h8 : us 8 = _ := h8
      replace h9 : us 9 = _ := h9
      simp only [List.drop_succ_cons, List.drop_zero, h8, h9]
      have hI4 := HI3.out.ext hAr ((Stab.Ext.drew _).trans hE)
      have hfz := hI4.cur.2.frozen j
      have hce : w'.cell? ⟨R' i, j, none⟩ = some (Spr.by8 (fun c => if c < j then entN k i c else 0) j) := by
       rw [hI4.cur.2.cell j, Spr.tab_get hjl]
      have HI4 := Lib.hid hI4
      clear hS h8 h9 hI4 hE HRD
      go_wp2_with fail
      go_roundw
      case rel =>
       refine ⟨j + 1, by omega, by go_num, HI4.out.set_ hjl (by simp) fun c hc => ?_⟩
       by_cases h1 : c < j
       ·rw [if_pos (by omega), if_pos h1]
       ·rw [if_neg (by omega), if_neg h1]
      case measure => simp [intOf]; omega
    ·have hj' : j = L := by omega
     subst hj'
     have hI5 : MI2 w2 n j (entN k) A i R' (entN k i) wr := by
      refine ⟨hI.tbl, hI.row, ⟨hI.cur.1, ?_⟩, hI.up, hI.below⟩
      have := hI.cur.2
      rwa [Spr.tab_congr (g := Spr.by8 (entN k i)) fun c hc => by simp [Spr.by8, hc]] at this
     have HI3 := Lib.hid hI5.done
     have d2 : ¬ ((j : Int) < (j : Int)) := by omega
     clear hI hI5
     go_wp2_with fail
     go_roundw
     case rel => exact ⟨i + 1, _, by omega, by go_num, HI3.out⟩
     case measure => simp [intOf]; omega
  ·have hi' : i = n := by omega
   subst hi'
   have HI := Lib.hid hI
   have d1 : ¬ ((i : Int) < (i : Int)) := by omega
   clear hI
   go_wp2_with fail
   go_ret
   have hb := HI.out.below
   rw [HAQ.out] at HI hb hb2 ⊢
   exact ⟨w.heap.size, R, rfl, Nat.le_refl _, hb2.trans hb, w2, HI.out⟩
end Cod
end Go.Proofs.YtnbkhdbligjifaaGreatDoor
namespace Go.Proofs.YtnbkhdbligjifaaGreatDoor
open Go Go.RowKit
namespace Cod
def matL (k n : Nat) : List (List Nat) := (List.range n).map fun i => (List.range k).map (entN k i)
theorem matL_len (k n : Nat) : (matL k n).length = n := by simp [matL]
theorem MI.rows {w2 w : World} {n L A : Nat} {R : Nat → Nat} {k : Nat} (h : MI w2 n L (entN k) A n R w) : Spr.Rows w (.slice (some ⟨A, 0, none⟩) n n) ((List.range n).map fun i => (List.range L).map (entN k i)) := by
 refine ⟨A, 0, n, by simp, fun i l hi => ?_⟩
 have hin : i < n := by
  have := (List.getElem?_eq_some_iff.1 hi).1
  simpa using this
 have hl : l = (List.range L).map (entN k i) := by
  rw [List.getElem?_map, List.getElem?_range hin] at hi
  simpa using hi.symm
 subst hl
 refine ⟨.slice (some ⟨R i, 0, none⟩) L L, ?_, R i, 0, L, by simp, fun j x hj => ?_⟩
 ·rw [Nat.zero_add, h.tbl.cell i, Spr.tab_get hin]
  simp [Spr.slc, hin]
 ·have hjL : j < L := by
   have := (List.getElem?_eq_some_iff.1 hj).1
   simpa using this
  have hx : x = entN k i j := by
   rw [List.getElem?_map, List.getElem?_range hjL] at hj
   simpa using hj.symm
  subst hx
  refine ⟨entN_lt _ _ _, ?_⟩
  rw [Nat.zero_add, (h.row i hin).2.cell j, Spr.tab_get hjL]
  rfl
def OfPost (w : World) (k n : Nat) (e : Ending) (w' : World) : Prop := ∃ v, e = .returned (.tuple #[v, .int .i64 0]) ∧ Spr.Rows w' v (matL k n) ∧ Below w.heap.size w w'
theorem of_any {G : Nat} (hnew : ∀ w : World, G ≤ w.heap.size → Calls Tryz.prog 139 #[] w (Spr.NewPost w)) (w : World) (hG : G ≤ w.heap.size) (k n : Nat) (hc : codeB (k : Int) (n : Int) = true) :
 Calls Tryz.prog 103 #[.agg #[.int .i64 (k : Int), .int .i64 (n : Int)]] w (OfPost w k n) := by
 obtain ⟨h1, h2, h3⟩ := (codeB_iff _ _).1 hc
 have HM := Lib.hid (mayCode_any k n (w.alloc (.cells #[.int .i64 (k : Int), .int .i64 (n : Int)] 25)))
 rw [hc] at HM
 have hb0 : Below w.heap.size w (w.alloc (.cells #[.int .i64 (k : Int), .int .i64 (n : Int)] 25)) := (Below.refl _ _).alloc (Nat.le_refl _) _
 have bx := Blk.new w 25 #[.int .i64 (k : Int), .int .i64 (n : Int)]
 have HB0 := Lib.hid hb0
 have HBX := Lib.hid bx
 have k0 := bx.cell 0
 have hkn : k < 16 ∧ n < 16 := by omega
 clear hb0 bx hc
 go_enter Tryz.func103, Tryz.ntmps103
 go_wp2_with (go_at_call 87; with_reducible refine HM.out.mono ?_)
 rintro e w1 ⟨rfl, hb⟩
 have hbx1 := HBX.out.below hb HBX.out.lt
 have hB1 := HB0.out.trans (Below.mono hb HB0.out.size)
 have HBX1 := Lib.hid hbx1
 have HB1 := Lib.hid hB1
 have HN := Lib.hid (hnew w1 (Nat.le_trans hG hB1.size))
 clear hb hbx1 hB1 k0
 go_wp2_with (go_at_call 139; with_reducible refine HN.out.mono ?_)
 rintro e w2 ⟨F, rfl, hF, hb⟩
 have hbx2 := HBX1.out.below hb HBX1.out.lt
 have hB2 := HB1.out.trans (Below.mono hb HB1.out.size)
 have hx1 := Stab.Ext.alloc w2 (.cells #[.pointer (some ⟨F, 0, none⟩)] 212)
 have fx := Blk.new w2 212 #[.pointer (some ⟨F, 0, none⟩)]
 have hbx3 := hbx2.below hx1 hbx2.lt
 have hF3 := hF.ext hx1
 have HMK := Lib.hid (made_any F w.heap.size w2.heap.size (w2.alloc (.cells #[.pointer (some ⟨F, 0, none⟩)] 212)) k n k hkn.2 hkn.1 (by omega) (hbx3.cell 0) (fx.cell 0) hF3)
 have HB3 := Lib.hid (hB2.trans (hx1.mono hB2.size))
 have d0 := hbx2.cell 0
 have d1 := hbx2.cell 1
 have hl2 := hbx2.lt
 clear hF hb hbx2 hB2 hx1 fx hbx3 hF3
 go_wp2_with (go_at_call 140; with_reducible refine HMK.out.mono ?_)
 rintro e w3 ⟨A, R, rfl, hA, hb, w4, hI⟩
 have HR := Lib.hid hI.rows
 have HB4 := Lib.hid (HB3.out.trans (Below.mono hb HB3.out.size))
 clear hA hb hI
 go_wp2_with fail
 go_ret2
 exact ⟨_, rfl, HR.out, HB4.out⟩
end Cod
end Go.Proofs.YtnbkhdbligjifaaGreatDoor
namespace Go.Proofs.YtnbkhdbligjifaaGreatDoor
open Go Go.RowKit
namespace Cod
attribute [local go_sem ↓] appSem_eq
theorem info_str : (Tryz.prog.info? 9).map (fun i => (i.zero, i.size, i.bytes)) = some (some (.string ⟨#[]⟩), 1, 16) := by kernel_rfl
def payL (ms ls : List (List Nat)) (i : Nat) : List UInt8 := (List.range (Spr.wide ls)).map fun b => UInt8.ofNat (Spr.out ms ls i b)
theorem payL_len (ms ls : List (List Nat)) (i : Nat) : (payL ms ls i).length = Spr.wide ls := by simp [payL]
def paysV (ms ls : List (List Nat)) (n : Nat) : List Value := (List.range n).map fun i => .string ⟨(payL ms ls i).toArray⟩
theorem paysV_succ (ms ls : List (List Nat)) (n : Nat) : paysV ms ls (n + 1) = paysV ms ls n ++ [.string ⟨(payL ms ls n).toArray⟩] := by simp [paysV, List.range_succ]
theorem out_lt (ms ls : List (List Nat)) (i b : Nat) : Spr.out ms ls i b < 256 := Spr.acc_lt _ _ _ _
def AllPost (w : World) (ms ls : List (List Nat)) (e : Ending) (w' : World) : Prop := ∃ v, e = .returned v ∧ OwnG w' w.heap.size 9 1 v ms.length (paysV ms ls ms.length) ∧ Below w.heap.size w w'
theorem OwnG.base' {w : World} {base base' : Nat} {e : TypeId} {size n : Nat} {v : Value} {xs : List Value} (h : OwnG w base e size v n xs) (hb : base' ≤ base) : OwnG w base' e size v n xs := by
 refine ⟨h.1, ?_⟩
 rcases h.2 with h | ⟨g, cap, cur, fz, h1, h2, h3⟩
 ·exact .inl h
 ·exact .inr ⟨g, cap, cur, fz, h1, by omega, h3⟩
theorem all_any {G : Nat} (hnew : ∀ w : World, G ≤ w.heap.size → Calls Tryz.prog 139 #[] w (Spr.NewPost w)) (w : World) (hG : G ≤ w.heap.size) (k n : Nat) (hc : codeB (k : Int) (n : Int) = true)
 (lv : Value) (ls : List (List Nat)) (hl : Spr.Rows w lv ls) (hlk : ls.length = k) (hw : ∀ l ∈ ls, l.length ≤ Spr.wide ls) (hwl : Spr.wide ls ≤ 1000000) :
 Calls Tryz.prog 71 #[.agg #[.int .i64 (k : Int), .int .i64 (n : Int)], lv] w (AllPost w (matL k n) ls) := by
 obtain ⟨h1, h2, h3⟩ := (codeB_iff _ _).1 hc
 have hE0 := Stab.Ext.alloc w (.cells #[.int .i64 (k : Int), .int .i64 (n : Int)] 25)
 have HOF := Lib.hid (of_any hnew (w.alloc (.cells #[.int .i64 (k : Int), .int .i64 (n : Int)] 25)) (Nat.le_trans hG hE0.size) k n hc)
 have HB0 := Lib.hid hE0
 have HL := Lib.hid hl
 have HW := Lib.hid hw
 have HNEW := Lib.hid hnew
 have hkn : 0 < k ∧ k < 16 ∧ n < 16 := by omega
 clear hl hw hE0 hc hnew
 go_enter Tryz.func71, Tryz.ntmps71
 go_wp2_with (go_at_call 103; with_reducible refine HOF.out.mono ?_)
 rintro e w1 ⟨mv, rfl, hm, hb⟩
 have hB1 : Below w.heap.size w w1 := Below.trans HB0.out (Below.mono hb HB0.out.size)
 have HSP := Lib.hid (Spr.spread_any w1 (HNEW.out w1 (Nat.le_trans hG hB1.size)) mv lv (matL k n) ls hm (HL.out.ext hB1) (by omega) (by omega) (by rw [matL_len]; omega) (fun r hr => by
  obtain ⟨i, _, rfl⟩ := List.mem_map.1 hr
  simp; omega) HW.out hwl)
 have HB1 := Lib.hid hB1
 clear hm hb hB1
 go_wp2_with (go_at_call 104; with_reducible refine HSP.out.mono ?_)
 rintro e w2 ⟨A, R, rfl, hA, hb, w3, hI⟩
 have hB2 : Below w.heap.size w w2 := HB1.out.trans (Below.mono hb HB1.out.size)
 have HI := Lib.hid hI
 have HB2 := Lib.hid hB2
 have hml := matL_len k n
 generalize hms : matL k n = ms at *
 clear hb hI hB2 hms
 go_wp2_with fail
 go_loopw [7, 19] (fun o i wr => ∃ q : Nat, q ≤ ms.length ∧ i = .int .i64 (q : Int) ∧ OwnG wr w2.heap.size 9 1 o q (paysV ms ls q) ∧ Below w2.heap.size w2 wr) (fun _ i _ => ms.length - (intOf i).toNat)
 case atStart => exact ⟨0, by omega, rfl, OwnG.nil _ _ _ _, Below.refl _ _⟩
 case round =>
  obtain ⟨q, hq, rfl, ho, hbl⟩ := hrel
  by_cases hlt : q < ms.length
  ·have hlt2 : (q : Int) < (ms.length : Int) := by omega
   have hIr := HI.out
   have htb := hIr.tbl
   have hrow := (hIr.row q hlt).2
   have hc1 : wr.cell? ⟨A, q, none⟩ = some (.slice (some ⟨R q, 0, none⟩) (payL ms ls q).length (Spr.wide ls)) := by
    rw [payL_len]
    have h7 : w2.cell? ⟨A, q, none⟩ = some (.slice (some ⟨R q, 0, none⟩) (Spr.wide ls) (Spr.wide ls)) := by
     rw [htb.cell q, Spr.tab_get hlt]
     simp [Spr.slc, hlt]
    exact (hbl.cell (p := ⟨A, q, none⟩) htb.lt).trans h7
   have hcv := run_convert_bytes_back (P := Tryz.prog) wr 136 9 5 ⟨R q, 0, none⟩ (Spr.wide ls) (payL ms ls q) Tryz.underlying136 Tryz.underlying5 Tryz.underlying9 (fun j hj => by
    have hp : (⟨R q, 0, none⟩ : Addr).add j = ⟨R q, j, none⟩ := by unfold Addr.add; split <;> simp_all
    have hjw : j < Spr.wide ls := by rw [payL_len] at hj; exact hj
    have h7 : w2.cell? ⟨R q, j, none⟩ = some (.int .u8 ((Spr.out ms ls q j : Nat) : Int)) := by
     rw [hrow.cell j, Spr.tab_get hjw]
     rfl
    have h8 : (payL ms ls q)[j] = UInt8.ofNat (Spr.out ms ls q j) := by simp [payL]
    rw [hp, h8, (hbl.cell (p := ⟨R q, j, none⟩) hrow.lt).trans h7]
    have := out_lt ms ls q j
    simp
    omega)
   obtain ⟨g6, c6, w6, hrun, hown, hb6, _⟩ := ownG_new (c := 1) (m := 1) (C := #[.string ⟨(payL ms ls q).toArray⟩]) Tryz.underlying60 info_str rfl (by omega) (by omega) ho rfl (by simp [Value.oneCell']) (by omega) (by omega) hbl.size
   have HO := Lib.hid hown
   have HB6 := Lib.hid (hbl.trans hb6)
   obtain ⟨A6, cap6, hv6⟩ := ho.shape
   subst hv6
   clear hIr htb hrow ho hbl hown hb6
   go_wp2_with fail
   refine ⟨⟨q + 1, by omega, rfl, by rw [paysV_succ]; exact HO.out, HB6.out⟩, by simp [intOf]; omega⟩
  ·have hqe : q = ms.length := by omega
   subst hqe
   have HO := Lib.hid ho
   have HBL := Lib.hid hbl
   have d1 : ¬ ((ms.length : Int) < (ms.length : Int)) := by omega
   clear ho hbl
   go_wp2_with fail
   go_ret
   exact ⟨_, rfl, OwnG.base' HO.out HB2.out.size, HB2.out.trans (Below.mono HBL.out HB2.out.size)⟩
end Cod
end Go.Proofs.YtnbkhdbligjifaaGreatDoor
namespace Go.Proofs.YtnbkhdbligjifaaGreatDoor
open Go Go.RowKit
namespace Cod
attribute [local go_sem ↓] appSem_eq
def headB (m i : Nat) : Nat := m / 256 ^ (7 - i) % 256
def headF (m q i : Nat) : Nat := if i < q then headB m i else 0
theorem headStep {wr : World} {D M m q : Nat} {x : Int} (h : Blk wr D 5 (Spr.tab M (Spr.by8 (headF m q)))) (hq : q < M) (hx : x = (headB m q : Nat)) : Blk (wr.setCell ⟨D, q, none⟩ (.int .u8 x)) D 5 (Spr.tab M (Spr.by8 (headF m (q + 1)))) := by
 have := h.set_ q (.int .u8 x)
 rw [Spr.tab_set hq (g := Spr.by8 (headF m (q + 1))) (by unfold Spr.by8 headF; rw [if_pos (by omega), hx]) (fun c hc => by
  unfold Spr.by8 headF
  by_cases h1 : c < q
  ·rw [if_pos (by omega), if_pos h1]
  ·rw [if_neg (by omega), if_neg h1])] at this
 exact this
def dataF (s : ByteArray) (i : Nat) : Nat := if i < 8 then headB s.size i else (s.data.toList.getD (i - 8) 0).toNat
def chunksV (D z : Nat) (q : Nat) : List Value := (List.range q).map fun i => .slice (some ⟨D, i * z, none⟩) z z
theorem chunksV_succ (D z q : Nat) : chunksV D z (q + 1) = chunksV D z q ++ [.slice (some ⟨D, q * z, none⟩) z z] := by simp [chunksV, List.range_succ]
theorem info_sl : (Tryz.prog.info? 136).map (fun i => (i.zero, i.size, i.bytes)) = some (some (.slice none 0 0), 1, 24) := by kernel_rfl
theorem blk_setRow {w : World} {g : Nat} {t : TypeId} {old cs : Array Value} (h : Blk w g t old) : Blk (w.setRow g cs) g t cs := by
 unfold Blk at h ⊢
 simp [World.setRow, Array.getElem?_modify, h]
theorem below_setRow {B g : Nat} {a w : World} (h : Below B a w) (hg : B ≤ g) (cs : Array Value) : Below B a (w.setRow g cs) := by
 refine h.trans ⟨rfl, rfl, rfl, by simp [World.setRow], fun k hk => ?_⟩
 simp only [World.setRow, Array.getElem?_modify]
 rw [if_neg (by omega)]
theorem cell_setRow {w : World} {g k j : Nat} {cs : Array Value} {v : Value} (h : w.cell? ⟨k, j, none⟩ = some v) (hk : k ≠ g) : (w.setRow g cs).cell? ⟨k, j, none⟩ = some v := by
 refine (World.cell?_of_block ?_).trans h
 simp only [World.setRow, Array.getElem?_modify]
 rw [if_neg (fun e => hk e.symm)]
theorem copy_tab (s : ByteArray) (M : Nat) (h : 8 + s.size ≤ M) :
 ((Spr.tab M (Spr.by8 (headF s.size 8))).toList.take 8 ++ Lib.byteCells s.data.toList ++ (Spr.tab M (Spr.by8 (headF s.size 8))).toList.drop (8 + s.size)).toArray = Spr.tab M (Spr.by8 (dataF s)) := by
 have hsl : s.data.toList.length = s.size := by simp
 have hbl : (Lib.byteCells s.data.toList).length = s.size := by rw [Lib.byteCells_length, hsl]
 have hta : ((List.range M).map (Spr.by8 (headF s.size 8))).length = M := by simp
 unfold Spr.tab
 congr 1
 apply List.ext_getElem?
 intro i
 have htk : (((List.range M).map (Spr.by8 (headF s.size 8))).take 8).length = 8 := by rw [List.length_take, hta]; omega
 simp only [List.append_assoc]
 by_cases h1 : i < 8
 ·rw [List.getElem?_append_left (by omega), List.getElem?_take_of_lt h1, List.getElem?_map, List.getElem?_map, List.getElem?_range (by omega)]
  simp [Spr.by8, headF, dataF, h1]
 ·rw [List.getElem?_append_right (by omega), htk]
  by_cases h2 : i - 8 < s.size
  ·rw [List.getElem?_append_left (by omega), List.getElem?_map, List.getElem?_range (by omega)]
   simp [Lib.byteCells, Spr.by8, dataF, h1, h2, List.getD]
  ·rw [List.getElem?_append_right (by omega), hbl, List.getElem?_drop, List.getElem?_map, List.getElem?_map, show 8 + s.size + (i - 8 - s.size) = i by omega]
   by_cases h3 : i < M
   ·rw [List.getElem?_range h3]
    simp [Spr.by8, headF, dataF, h1, List.getD, List.getElem?_eq_none (show s.data.toList.length ≤ i - 8 by omega)]
   ·rw [List.getElem?_eq_none (by simp; omega)]
    rfl
def dataL (s : ByteArray) (k z : Nat) : List (List Nat) := (List.range k).map fun i => (List.range z).map fun j => dataF s (i * z + j)
theorem dataF_lt (s : ByteArray) (i : Nat) : dataF s i < 256 := by
 unfold dataF headB
 split
 ·exact Nat.mod_lt _ (by decide)
 ·exact UInt8.toNat_lt _
theorem data_rows {w : World} {base D k z : Nat} {e : TypeId} {v : Value} {s : ByteArray} (ho : OwnG w base e 1 v k (chunksV D z k)) (hk : 0 < k) (hB : Blk w D 5 (Spr.tab (z * k) (Spr.by8 (dataF s)))) : Spr.Rows w v (dataL s k z) := by
 obtain ⟨g, cap, rfl, _⟩ := ho.addr hk
 refine ⟨g, 0, cap, by simp [dataL], fun i l hi => ?_⟩
 have hin : i < k := by
  have := (List.getElem?_eq_some_iff.1 hi).1
  simpa [dataL] using this
 have hl : l = (List.range z).map fun j => dataF s (i * z + j) := by
  unfold dataL at hi
  rw [List.getElem?_map, List.getElem?_range hin] at hi
  simpa using hi.symm
 subst hl
 refine ⟨.slice (some ⟨D, i * z, none⟩) z z, ?_, D, i * z, z, by simp, fun j x hj => ?_⟩
 ·rw [Nat.zero_add]
  refine ho.cells rfl i _ ?_
  unfold chunksV
  rw [List.getElem?_map, List.getElem?_range hin]
  rfl
 ·have hjz : j < z := by
   have := (List.getElem?_eq_some_iff.1 hj).1
   simpa using this
  have hx : x = dataF s (i * z + j) := by
   rw [List.getElem?_map, List.getElem?_range hjz] at hj
   simpa using hj.symm
  subst hx
  refine ⟨dataF_lt _ _, ?_⟩
  have h1 : (i + 1) * z ≤ k * z := Nat.mul_le_mul_right z hin
  rw [Nat.add_mul, Nat.one_mul, Nat.mul_comm k z] at h1
  rw [hB.cell, Spr.tab_get (by omega)]
  rfl
def DataPost (w : World) (s : ByteArray) (k z : Nat) (e : Ending) (w' : World) : Prop := ∃ v, e = .returned v ∧ Spr.Rows w' v (dataL s k z) ∧ Below w.heap.size w w'
theorem data_any (w : World) (k n z : Nat) (s : ByteArray) (hk : 1 ≤ k) (hk2 : k ≤ 12) (hs : s.size ≤ 32768) (hz : z ≤ 100000) (hkz : s.size + 8 ≤ z * k) :
 Calls Tryz.prog 72 #[.agg #[.int .i64 (k : Int), .int .i64 (n : Int)], .string s, .int .i64 (z : Int)] w (DataPost w s k z) := by
 have hM : z * k ≤ 1200000 := by
  have : z * k ≤ 100000 * 12 := Nat.mul_le_mul hz hk2
  omega
 have hmk := run_mk (P := Tryz.prog) (t := 136) (e := 5) (z := .int .u8 0) (bytes := 1) Tryz.underlying136 (by kernel_rfl) rfl (z * k) (by omega) (by omega)
 have hzk : ((z * k : Nat) : Int) = (z : Int) * (k : Int) := by push_cast; rfl
 rw [hzk] at hmk
 go_enter Tryz.func72, Tryz.ntmps72
 go_wp2_with fail
 go_loopw [16] (fun i wr => ∃ q : Nat, q ≤ 8 ∧ i = .int .i64 (q : Int) ∧ Blk wr (w.heap.size + 1) 5 (Spr.tab (z * k) (Spr.by8 (headF s.size q))) ∧ Below w.heap.size w wr ∧ wr.cell? ⟨w.heap.size, 0, none⟩ = some (.int .i64 (k : Int))) (fun i _ => 8 - (intOf i).toNat)
 case atStart =>
  refine ⟨0, by omega, rfl, ?_, ((Below.refl _ _).alloc (Nat.le_refl _) _).alloc (by simp) _, ?_⟩
  ·have := Blk.new (w.alloc (.cells #[.int .i64 (k : Int), .int .i64 (n : Int)] 25)) 5 (Array.replicate (z * k) (.int .u8 0))
   rw [Spr.tab_rep, Spr.tab_congr (g := Spr.by8 (headF s.size 0)) (fun c _ => by simp [Spr.by8, headF])] at this
   rw [Spr.tab_rep, Spr.tab_congr (f := fun _ => Value.int .u8 0) (g := Spr.by8 (headF s.size 0)) (fun c _ => by simp [Spr.by8, headF])]
   simpa using this
  ·exact ((Blk.new w 25 #[.int .i64 (k : Int), .int .i64 (n : Int)]).alloc _).cell 0
 case round =>
  obtain ⟨q, hq, rfl, hB, hbl, hc0⟩ := hrel
  by_cases hlt : q < 8
  ·have hz0 := hB.cell q
   rw [Spr.tab_get (by omega)] at hz0
   have hf0 := hB.frozen q
   have hq2 : (q : Int) < (z : Int) * (k : Int) := by rw [← hzk]; omega
   have HB := Lib.hid hB
   clear hB
   obtain rfl | rfl | rfl | rfl | rfl | rfl | rfl | rfl : q = 0 ∨ q = 1 ∨ q = 2 ∨ q = 3 ∨ q = 4 ∨ q = 5 ∨ q = 6 ∨ q = 7 := by omega
   ·go_wp2_with fail
    refine ⟨⟨1, by omega, rfl, headStep HB.out (by omega) (by unfold headB; simp; try omega), hbl.setCell (p := ⟨w.heap.size + 1, 0, none⟩) (by show w.heap.size ≤ w.heap.size + 1; omega) _, ?_⟩, by simp [intOf]⟩
    exact (World.cell?_of_block (Below.heap_setCell wr ⟨w.heap.size + 1, 0, none⟩ _ w.heap.size (by show w.heap.size ≠ w.heap.size + 1; omega))).trans hc0
   ·go_wp2_with fail
    refine ⟨⟨2, by omega, rfl, headStep HB.out (by omega) (by unfold headB; simp; try omega), hbl.setCell (p := ⟨w.heap.size + 1, 1, none⟩) (by show w.heap.size ≤ w.heap.size + 1; omega) _, ?_⟩, by simp [intOf]⟩
    exact (World.cell?_of_block (Below.heap_setCell wr ⟨w.heap.size + 1, 1, none⟩ _ w.heap.size (by show w.heap.size ≠ w.heap.size + 1; omega))).trans hc0
   ·go_wp2_with fail
    refine ⟨⟨3, by omega, rfl, headStep HB.out (by omega) (by unfold headB; simp; try omega), hbl.setCell (p := ⟨w.heap.size + 1, 2, none⟩) (by show w.heap.size ≤ w.heap.size + 1; omega) _, ?_⟩, by simp [intOf]⟩
    exact (World.cell?_of_block (Below.heap_setCell wr ⟨w.heap.size + 1, 2, none⟩ _ w.heap.size (by show w.heap.size ≠ w.heap.size + 1; omega))).trans hc0
   ·go_wp2_with fail
    refine ⟨⟨4, by omega, rfl, headStep HB.out (by omega) (by unfold headB; simp; try omega), hbl.setCell (p := ⟨w.heap.size + 1, 3, none⟩) (by show w.heap.size ≤ w.heap.size + 1; omega) _, ?_⟩, by simp [intOf]⟩
    exact (World.cell?_of_block (Below.heap_setCell wr ⟨w.heap.size + 1, 3, none⟩ _ w.heap.size (by show w.heap.size ≠ w.heap.size + 1; omega))).trans hc0
   ·go_wp2_with fail
    refine ⟨⟨5, by omega, rfl, headStep HB.out (by omega) (by unfold headB; simp; try omega), hbl.setCell (p := ⟨w.heap.size + 1, 4, none⟩) (by show w.heap.size ≤ w.heap.size + 1; omega) _, ?_⟩, by simp [intOf]⟩
    exact (World.cell?_of_block (Below.heap_setCell wr ⟨w.heap.size + 1, 4, none⟩ _ w.heap.size (by show w.heap.size ≠ w.heap.size + 1; omega))).trans hc0
   ·go_wp2_with fail
    refine ⟨⟨6, by omega, rfl, headStep HB.out (by omega) (by unfold headB; simp; try omega), hbl.setCell (p := ⟨w.heap.size + 1, 5, none⟩) (by show w.heap.size ≤ w.heap.size + 1; omega) _, ?_⟩, by simp [intOf]⟩
    exact (World.cell?_of_block (Below.heap_setCell wr ⟨w.heap.size + 1, 5, none⟩ _ w.heap.size (by show w.heap.size ≠ w.heap.size + 1; omega))).trans hc0
   ·go_wp2_with fail
    refine ⟨⟨7, by omega, rfl, headStep HB.out (by omega) (by unfold headB; simp; try omega), hbl.setCell (p := ⟨w.heap.size + 1, 6, none⟩) (by show w.heap.size ≤ w.heap.size + 1; omega) _, ?_⟩, by simp [intOf]⟩
    exact (World.cell?_of_block (Below.heap_setCell wr ⟨w.heap.size + 1, 6, none⟩ _ w.heap.size (by show w.heap.size ≠ w.heap.size + 1; omega))).trans hc0
   ·go_wp2_with fail
    refine ⟨⟨8, by omega, rfl, headStep HB.out (by omega) (by unfold headB; simp; try omega), hbl.setCell (p := ⟨w.heap.size + 1, 7, none⟩) (by show w.heap.size ≤ w.heap.size + 1; omega) _, ?_⟩, by simp [intOf]⟩
    exact (World.cell?_of_block (Below.heap_setCell wr ⟨w.heap.size + 1, 7, none⟩ _ w.heap.size (by show w.heap.size ≠ w.heap.size + 1; omega))).trans hc0
  ·have hq8 : q = 8 := by omega
   subst hq8
   have hlt8 : 8 ≤ z * k := by omega
   have hle8 : (8 : Int) ≤ (z : Int) * (k : Int) := by rw [← hzk]; omega
   by_cases h88 : z * k = 8
   ·have h00 : s.size = 0 := by omega
    have hcp := fun dd : Option Addr => Lib.run_copy_empty_string wr 136 9 3 5 dd 0 0 s Tryz.underlying136 (by kernel_rfl) h00
    have hBd : Blk wr (w.heap.size + 1) 5 (Spr.tab (z * k) (Spr.by8 (dataF s))) := by
     rw [Spr.tab_congr (g := Spr.by8 (dataF s)) fun c hc => by unfold Spr.by8 headF dataF; rw [if_pos (by omega), if_pos (by omega)]] at hB
     exact hB
    have HB4 := Lib.hid hBd
    have HBL4 := Lib.hid hbl
    clear hB hBd hbl
    go_wp2_with fail
    obtain ⟨W4, hW4⟩ : ∃ W4, W4 = wr := ⟨_, rfl⟩
    subst hW4
    clear hcp
    go_loopw [9, 37] (fun o i wx => ∃ q : Nat, q ≤ k ∧ i = .int .i64 (q : Int) ∧ OwnG wx W4.heap.size 136 1 o q (chunksV (w.heap.size + 1) z q) ∧ Below W4.heap.size W4 wx) (fun _ i _ => k - (intOf i).toNat)
    case atStart => exact ⟨0, by omega, rfl, OwnG.nil _ _ _ _, Below.refl _ _⟩
    case round =>
     obtain ⟨q, hq, rfl, ho, hbx⟩ := hrel
     by_cases hqk : q < k
     ·have hqk2 : (q : Int) < (k : Int) := by omega
      have m1 : q * z + z ≤ z * k := by
       have : (q + 1) * z ≤ k * z := Nat.mul_le_mul_right z hqk
       rw [Nat.add_mul, Nat.one_mul, Nat.mul_comm k z] at this
       exact this
      have hz1 : 1 ≤ z := by
       rcases Nat.eq_zero_or_pos z with h0 | h0
       ·rw [h0, Nat.zero_mul] at hkz; omega
       ·exact h0
      obtain ⟨x, hx⟩ : ∃ x : Nat, x = q * z := ⟨_, rfl⟩
      have e1 : ((q : Int) * (z : Int)) = (x : Int) := by rw [hx]; push_cast; rfl
      have e2 : (((q : Int) + 1) * (z : Int)) = ((x + z : Nat) : Int) := by rw [Int.add_mul, e1]; push_cast; omega
      rw [← hx] at m1
      obtain ⟨g6, c6, w6, hrun, hown, hb6, _⟩ := ownG_new (c := 1) (m := 1) (C := #[.slice (some ⟨w.heap.size + 1, x, none⟩) z z]) Tryz.underlying132 info_sl rfl (by omega) (by omega) ho rfl (by simp [Value.oneCell']) (by omega) (by omega) hbx.size
      have HX := Lib.hid hx
      have HO := Lib.hid hown
      have HB6 := Lib.hid (hbx.trans hb6)
      obtain ⟨A6, cap6, hv6⟩ := ho.shape
      subst hv6
      clear ho hbx hown hb6 hx
      go_wp2_with fail
      refine ⟨⟨q + 1, by omega, rfl, by rw [chunksV_succ, ← HX.out]; exact HO.out, HB6.out⟩, by simp [intOf]; omega⟩
     ·have hqe : q = k := by omega
      subst hqe
      have HO := Lib.hid ho
      have HBX := Lib.hid hbx
      have d1 : ¬ ((q : Int) < (q : Int)) := by omega
      clear ho hbx
      go_wp2_with fail
      go_ret
      have hs4 := HBL4.out.size
      exact ⟨_, rfl, data_rows HO.out hk (HB4.out.below HBX.out HB4.out.lt), HBL4.out.trans (Below.mono HBX.out hs4)⟩
   ·have hgt8 : 8 < z * k := by omega
    have hcp := Lib.run_copy_row_string wr 136 9 3 5 (w.heap.size + 1) 8 (z * k - 8) (z * k - 8) s _ 5 Tryz.underlying136 (by kernel_rfl) hB (by omega) (by rw [Spr.tab_size]; omega)
    rw [copy_tab s (z * k) (by omega)] at hcp
    have hc4 := cell_setRow (cs := Spr.tab (z * k) (Spr.by8 (dataF s))) hc0 (show w.heap.size ≠ w.heap.size + 1 by omega)
    have HB4 := Lib.hid (blk_setRow (cs := Spr.tab (z * k) (Spr.by8 (dataF s))) hB)
    have HBL4 := Lib.hid (below_setRow hbl (by omega) (g := w.heap.size + 1) (Spr.tab (z * k) (Spr.by8 (dataF s))))
    clear hB hbl
    go_wp2_with fail
    generalize (wr.setRow (w.heap.size + 1) (Spr.tab (z * k) (Spr.by8 (dataF s)))) = W4 at *
    clear hcp
    go_loopw [9, 37] (fun o i wx => ∃ q : Nat, q ≤ k ∧ i = .int .i64 (q : Int) ∧ OwnG wx W4.heap.size 136 1 o q (chunksV (w.heap.size + 1) z q) ∧ Below W4.heap.size W4 wx) (fun _ i _ => k - (intOf i).toNat)
    case atStart => exact ⟨0, by omega, rfl, OwnG.nil _ _ _ _, Below.refl _ _⟩
    case round =>
     obtain ⟨q, hq, rfl, ho, hbx⟩ := hrel
     by_cases hqk : q < k
     ·have hqk2 : (q : Int) < (k : Int) := by omega
      have m1 : q * z + z ≤ z * k := by
       have : (q + 1) * z ≤ k * z := Nat.mul_le_mul_right z hqk
       rw [Nat.add_mul, Nat.one_mul, Nat.mul_comm k z] at this
       exact this
      have hz1 : 1 ≤ z := by
       rcases Nat.eq_zero_or_pos z with h0 | h0
       ·rw [h0, Nat.zero_mul] at hkz; omega
       ·exact h0
      obtain ⟨x, hx⟩ : ∃ x : Nat, x = q * z := ⟨_, rfl⟩
      have e1 : ((q : Int) * (z : Int)) = (x : Int) := by rw [hx]; push_cast; rfl
      have e2 : (((q : Int) + 1) * (z : Int)) = ((x + z : Nat) : Int) := by rw [Int.add_mul, e1]; push_cast; omega
      rw [← hx] at m1
      obtain ⟨g6, c6, w6, hrun, hown, hb6, _⟩ := ownG_new (c := 1) (m := 1) (C := #[.slice (some ⟨w.heap.size + 1, x, none⟩) z z]) Tryz.underlying132 info_sl rfl (by omega) (by omega) ho rfl (by simp [Value.oneCell']) (by omega) (by omega) hbx.size
      have HX := Lib.hid hx
      have HO := Lib.hid hown
      have HB6 := Lib.hid (hbx.trans hb6)
      obtain ⟨A6, cap6, hv6⟩ := ho.shape
      subst hv6
      clear ho hbx hown hb6 hx
      go_wp2_with fail
      refine ⟨⟨q + 1, by omega, rfl, by rw [chunksV_succ, ← HX.out]; exact HO.out, HB6.out⟩, by simp [intOf]; omega⟩
     ·have hqe : q = k := by omega
      subst hqe
      have HO := Lib.hid ho
      have HBX := Lib.hid hbx
      have d1 : ¬ ((q : Int) < (q : Int)) := by omega
      clear ho hbx
      go_wp2_with fail
      go_ret
      have hs4 := HBL4.out.size
      exact ⟨_, rfl, data_rows HO.out hk (HB4.out.below HBX.out HB4.out.lt), HBL4.out.trans (Below.mono HBX.out hs4)⟩
end Cod
end Go.Proofs.YtnbkhdbligjifaaGreatDoor
