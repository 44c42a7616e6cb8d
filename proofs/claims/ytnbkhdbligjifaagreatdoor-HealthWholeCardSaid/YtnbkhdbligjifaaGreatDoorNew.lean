/-
 Matrices in memory; a row times a number, a row plus a row times a number. A row with zeros behind it; the copy of a row. A matrix of one's own: its rows copied, zeros behind them. The field of 256 numbers: New, by its own loop.
-/
import Derived.Test.YtnbkhdbligjifaaGreatDoorSolA
import Derived.Test.YtnbkhdbligjifaaGreatDoorHltG
import Derived.Test.YtnbkhdbligjifaaGreatDoorWldB
import Derived.Lib.AppendStr
import Derived.Test.YtnbkhdbligjifaaGreatDoorCodC
set_option linter.unusedVariables false
set_option linter.unusedSimpArgs false
set_option maxRecDepth 100000
set_option maxHeartbeats 40000000
namespace Go.Proofs.YtnbkhdbligjifaaGreatDoor
open Go Go.RowKit
namespace Sol
def cellsL (f : Nat → Nat) (L : Nat) : List Value := (List.range L).map (Spr.by8 f)
theorem cellsL_get (f : Nat → Nat) {L k : Nat} (h : k < L) : (cellsL f L)[k]? = some (.int .u8 (f k : Nat)) := by simp [cellsL, h, Spr.by8]
theorem cellsL_len (f : Nat → Nat) (L : Nat) : (cellsL f L).length = L := by simp [cellsL]
theorem cellsL_set (f g : Nat → Nat) {L k : Nat} (hk : k < L) (hg : ∀ j, j < L → g j = if j = k then g k else f j) : (cellsL f L).set k (.int .u8 (g k : Nat)) = cellsL g L := by
 apply List.ext_getElem?
 intro i
 rw [List.getElem?_set]
 by_cases hi : i < L
 ·rw [cellsL_get f hi, cellsL_get g hi, cellsL_len]
  by_cases he : k = i
  ·subst he; rw [if_pos rfl, if_pos hk]
  ·rw [if_neg he, hg i hi, if_neg (fun h => he h.symm)]
 ·rw [cellsL_len]
  have h1 : (cellsL f L)[i]? = none := List.getElem?_eq_none (by rw [cellsL_len]; omega)
  have h2 : (cellsL g L)[i]? = none := List.getElem?_eq_none (by rw [cellsL_len]; omega)
  rw [h1, h2, if_neg (by omega)]
theorem cellsL_congr {f g : Nat → Nat} {L : Nat} (h : ∀ j, j < L → f j = g j) : cellsL f L = cellsL g L := by
 unfold cellsL
 refine List.map_congr_left fun j hj => ?_
 unfold Spr.by8
 rw [h j (List.mem_range.1 hj)]
def RowAt (w : World) (r L c : Nat) (f : Nat → Nat) : Prop := w.ownsRow 0 5 1 (.slice (some ⟨r, 0, none⟩) L c) L (cellsL f L)
section
variable {w w' : World} {r L c : Nat} {f g : Nat → Nat}
theorem RowAt.cell (h : RowAt w r L c f) {k : Nat} (hk : k < L) : w.cell? ⟨r, k, none⟩ = some (.int .u8 (f k : Nat)) ∧ w.frozen? ⟨r, k, none⟩ = false := by
 rcases h.2 with ⟨h1, _⟩ | ⟨g', cap, cur, h1, _, hg, hn, _, hs, ht⟩
 ·cases h1
 ·cases h1
  have hb : Blk w r 5 cur := hg
  refine ⟨?_, hb.frozen _⟩
  rw [hb.cell, ← Array.getElem?_toList, ← cellsL_get f hk, ← ht, List.getElem?_take_of_lt (by omega)]
theorem RowAt.lt (h : RowAt w r L c f) : r < w.heap.size := Vm.row_lt h rfl
theorem RowAt.set_ (h : RowAt w r L c f) {k : Nat} (hk : k < L) (hg : ∀ j, j < L → g j = if j = k then g k else f j) : RowAt (w.setCell ⟨r, k, none⟩ (.int .u8 (g k : Nat))) r L c g := by
 have := Vm.row_set h k (by omega) (.int .u8 (g k : Nat))
 rw [cellsL_set f g hk hg] at this
 exact this
theorem RowAt.keep (h : RowAt w r L c f) (hk : w'.heap[r]? = w.heap[r]?) : RowAt w' r L c f := Vm.row_heap h fun g hg => by
 have : g = r := by simpa [Value.ownBlock] using hg.symm
 subst this; exact hk
theorem RowAt.ext (h : RowAt w r L c f) (hE : Stab.Ext w w') : RowAt w' r L c f := h.keep (hE.block r h.lt)
theorem RowAt.congr (h : RowAt w r L c f) (hf : ∀ j, j < L → f j = g j) : RowAt w r L c g := by
 unfold RowAt at *
 rwa [← cellsL_congr hf]
end
structure TRd (fb F r k : Nat) (x : Nat) (W : World) : Prop where
 fp : W.cell? ⟨fb, 0, none⟩ = some (.pointer (some ⟨F, 0, none⟩))
 fld : Fld.At W F
 cx : W.cell? ⟨r, k, none⟩ = some (.int .u8 (x : Nat))
theorem TRd.ext {fb F r k x : Nat} {W W' : World} (h : TRd fb F r k x W) (hE : Stab.Ext W W') : TRd fb F r k x W' := ⟨hE.cell h.fp, h.fld.ext hE, hE.cell h.cx⟩
theorem at_keep {w w' : World} {F : Nat} (h : Fld.At w F) (hk : w'.heap[F]? = w.heap[F]?) : Fld.At w' F :=
 ⟨fun i hi => (World.cell?_of_block (a := ⟨F, i, none⟩) hk).trans (h.pw i hi), fun i hi => (World.cell?_of_block (a := ⟨F, 510 + i, none⟩) hk).trans (h.lg i hi)⟩
theorem at_lt {w : World} {F : Nat} (h : Fld.At w F) : F < w.heap.size := Spr.lt_cell (h.pw 0 (by decide))
def TimesPost (w : World) (r L c : Nat) (f : Nat → Nat) (e : Ending) (w' : World) : Prop := e = .returned (.tuple #[]) ∧ RowAt w' r L c f ∧ Vm.Fr [r] w w'
theorem times_any {w : World} {fb F r L c : Nat} {f : Nat → Nat} (y : Nat) (hr : RowAt w r L c f) (hb : ∀ j, j < L → f j < 256) (hy : y < 256) (hL : L ≤ 1000) (hfp : w.cell? ⟨fb, 0, none⟩ = some (.pointer (some ⟨F, 0, none⟩))) (hF : Fld.At w F) (h1 : fb ≠ r) (h2 : F ≠ r) :
 Calls Tryz.prog 206 #[.slice (some ⟨r, 0, none⟩) L c, .int .u8 (y : Nat), .pointer (some ⟨fb, 0, none⟩)] w (TimesPost w r L c (fun k => Fld.gm (f k) y)) := by
 have HR := Lib.hid hr
 have HFP := Lib.hid hfp
 have HF := Lib.hid hF
 have HB := Lib.hid hb
 clear hr hfp hF hb
 go_enter Tryz.func206, Tryz.ntmps206
 go_wp2_with fail
 go_loopw [8] (fun i wr => ∃ q : Nat, q ≤ L ∧ i = .int .i64 (q : Int) ∧ RowAt wr r L c (fun k => if k < q then Fld.gm (f k) y else f k) ∧ Vm.Fr [r] w wr) (fun i _ => L - (intOf i).toNat)
 case atStart => exact ⟨0, by omega, rfl, HR.out.congr fun j _ => by rw [if_neg (Nat.not_lt_zero _)], Vm.Fr.refl _ _⟩
 case round =>
  obtain ⟨q, hq, rfl, hrow, hfr⟩ := hrel
  by_cases hlt : q < L
  ·have hlt2 : (q : Int) < (L : Int) := by omega
   have hx256 := HB.out q hlt
   have hc := (hrow.cell hlt).1
   rw [if_neg (Nat.lt_irrefl _)] at hc
   have HRD := Lib.hid (show TRd fb F r q (f q) wr from ⟨(World.cell?_of_block (a := ⟨fb, 0, none⟩) (hfr.block fb (Spr.lt_cell HFP.out) (by simp; omega))).trans HFP.out, at_keep HF.out (hfr.block F (at_lt HF.out) (by simp; omega)), hc⟩)
   have HROW := Lib.hid hrow
   have HFR := Lib.hid hfr
   have hst := fun W (hW : RowAt W r L c (fun k => if k < q then Fld.gm (f k) y else f k)) => hW.set_ (g := fun k => if k < q + 1 then Fld.gm (f k) y else f k) hlt (fun j hj => by
    by_cases he : j = q
    ·subst he; simp
    ·rw [if_neg he]
     by_cases h3 : j < q
     ·rw [if_pos (by omega), if_pos h3]
     ·rw [if_neg (by omega), if_neg h3])
   simp only [Nat.lt_add_one, if_true] at hst
   have HST := Lib.hid hst
   have HGM := Lib.hid (Fld.gm_lt (f q) y)
   generalize hfx : f q = x at *
   clear hc hrow hfr hst hfx
   go_wp2_with fail
   refine Stab.rg 9 [[], [], [], [], [], [3, 4], [5], [], [2, 6, 7]] [0, 1, 8] (TRd fb F r q x) [Stab.eqv ?_, Stab.eqv ?_, Stab.eqv ?_, Stab.eqv ?_, Stab.eqv ?_, Stab.eqv ?_, Stab.eqv ?_, Stab.eqv ?_, Stab.eqv ?_] (HRD.out.ext (Stab.Ext.drew _)) (fun _ _ h hE => h.ext hE) ?goals3 ?last3
   case goals3 =>
    simp only [List.take_succ_cons, List.take_zero]
    iterate 8
     refine Stab.gp (fun us w _ hE hS hp hK => ?_) ?_
     ·((try have e0 : _ = _ := hp.1); (try have e1 : _ = _ := hp.2.1); (try have e2 : _ = _ := hp.2.2.1); have s0 := hS.fp; have s1 := hS.cx; go_simp; exact hK _ _ (by show _ = _; with_reducible rfl) (Stab.Ext.refl _))
    refine Stab.Goals.plain rfl rfl (fun us w cK hE hS hp hK => ?_) ?_
    ·obtain ⟨h2, h6, h7, -⟩ := hp
     replace h2 : us 2 = _ := h2
     replace h6 : us 6 = _ := h6
     replace h7 : us 7 = _ := h7
     go_simp
     go_wp2_with (go_at_call 145; ((with_reducible refine (Fld.mul_any _ _ x y hx256 hy hS.fld).mono ?_); rintro e w1 ⟨rfl, hb⟩))
     refine hK _ _ ?_ hb
     show _ = _
     with_reducible rfl
    exact Stab.Goals.nil
   case last3 =>
    intro us w' hE hS hp
    obtain ⟨h0, h1', h8, -⟩ := hp
    replace h0 : us 0 = _ := h0
    replace h1' : us 1 = _ := h1'
    replace h8 : us 8 = _ := h8
    simp only [List.drop_succ_cons, List.drop_zero, h0, h1', h8, Nat.zero_add, Nat.reduceAdd]
    have hrw := HROW.out.ext ((Stab.Ext.drew _).trans hE)
    have c1 := hS.cx
    have z1 := (hrw.cell hlt).2
    have HN := Lib.hid (HST.out _ hrw)
    have HF2 := Lib.hid ((HFR.out.next (Vm.Fr.of_below ((Stab.Ext.drew wr).trans hE))).next (Vm.Fr.cell w' ⟨r, q, none⟩ (.int .u8 (Fld.gm x y : Nat))))
    clear hE hS h0 h1' h8 hrw
    go_wp2_with fail
    go_roundw
    case rel => exact ⟨q + 1, by omega, by go_num, HN.out, HF2.out⟩
    case measure => simp [intOf]; omega
  ·obtain rfl : q = L := by omega
   have HN := Lib.hid (hrow.congr (g := fun k => Fld.gm (f k) y) fun j hj => by simp only [if_pos hj])
   have HFR := Lib.hid hfr
   have d1 : ¬ ((q : Int) < (q : Int)) := by omega
   clear hrow hfr
   go_wp2_with fail
   go_end0
   exact ⟨rfl, HN.out, HFR.out⟩
structure PRd (fb F r k r2 : Nat) (x z : Nat) (W : World) : Prop where
 fp : W.cell? ⟨fb, 0, none⟩ = some (.pointer (some ⟨F, 0, none⟩))
 fld : Fld.At W F
 cx : W.cell? ⟨r, k, none⟩ = some (.int .u8 (x : Nat))
 cz : W.cell? ⟨r2, k, none⟩ = some (.int .u8 (z : Nat))
theorem PRd.ext {fb F r k r2 x z : Nat} {W W' : World} (h : PRd fb F r k r2 x z W) (hE : Stab.Ext W W') : PRd fb F r k r2 x z W' := ⟨hE.cell h.fp, h.fld.ext hE, hE.cell h.cx, hE.cell h.cz⟩
def plusF (f g : Nat → Nat) (y : Nat) (k : Nat) : Nat := Nat.xor (f k) (Fld.gm (g k) y)
theorem plusF_lt {f g : Nat → Nat} {y k : Nat} (h : f k < 256) : plusF f g y k < 256 := Nat.xor_lt_two_pow (n := 8) h (Fld.gm_lt _ _)
theorem plus_any {w : World} {fb F r r2 L c c2 : Nat} {f g : Nat → Nat} (y : Nat) (hr : RowAt w r L c f) (hr2 : RowAt w r2 L c2 g) (hb : ∀ j, j < L → f j < 256) (hb2 : ∀ j, j < L → g j < 256) (hy : y < 256) (hL : L ≤ 1000) (hfp : w.cell? ⟨fb, 0, none⟩ = some (.pointer (some ⟨F, 0, none⟩))) (hF : Fld.At w F) (h1 : fb ≠ r) (h2 : F ≠ r) (h3 : r2 ≠ r) :
 Calls Tryz.prog 207 #[.slice (some ⟨r, 0, none⟩) L c, .slice (some ⟨r2, 0, none⟩) L c2, .int .u8 (y : Nat), .pointer (some ⟨fb, 0, none⟩)] w (TimesPost w r L c (plusF f g y)) := by
 have HR := Lib.hid hr
 have HR2 := Lib.hid hr2
 have HFP := Lib.hid hfp
 have HF := Lib.hid hF
 have HB := Lib.hid hb
 have HB2 := Lib.hid hb2
 clear hr hr2 hfp hF hb hb2
 go_enter Tryz.func207, Tryz.ntmps207
 go_wp2_with fail
 go_loopw [10] (fun i wr => ∃ q : Nat, q ≤ L ∧ i = .int .i64 (q : Int) ∧ RowAt wr r L c (fun k => if k < q then plusF f g y k else f k) ∧ Vm.Fr [r] w wr) (fun i _ => L - (intOf i).toNat)
 case atStart => exact ⟨0, by omega, rfl, HR.out.congr fun j _ => by rw [if_neg (Nat.not_lt_zero _)], Vm.Fr.refl _ _⟩
 case round =>
  obtain ⟨q, hq, rfl, hrow, hfr⟩ := hrel
  by_cases hlt : q < L
  ·have hlt2 : (q : Int) < (L : Int) := by omega
   have hx256 := HB.out q hlt
   have hz256 := HB2.out q hlt
   have hc := (hrow.cell hlt).1
   rw [if_neg (Nat.lt_irrefl _)] at hc
   have HRD := Lib.hid (show PRd fb F r q r2 (f q) (g q) wr from ⟨(World.cell?_of_block (a := ⟨fb, 0, none⟩) (hfr.block fb (Spr.lt_cell HFP.out) (by simp; omega))).trans HFP.out, at_keep HF.out (hfr.block F (at_lt HF.out) (by simp; omega)), hc, ((HR2.out.keep (hfr.block r2 HR2.out.lt (by simp; omega))).cell hlt).1⟩)
   have HROW := Lib.hid hrow
   have HFR := Lib.hid hfr
   have hst := fun W (hW : RowAt W r L c (fun k => if k < q then plusF f g y k else f k)) => hW.set_ (g := fun k => if k < q + 1 then plusF f g y k else f k) hlt (fun j hj => by
    by_cases he : j = q
    ·subst he; simp
    ·rw [if_neg he]
     by_cases h3 : j < q
     ·rw [if_pos (by omega), if_pos h3]
     ·rw [if_neg (by omega), if_neg h3])
   simp only [Nat.lt_add_one, if_true] at hst
   have HST := Lib.hid hst
   have HGM := Lib.hid (Fld.gm_lt (g q) y)
   have HPF := Lib.hid (show plusF f g y q = Nat.xor (f q) (Fld.gm (g q) y) from rfl)
   generalize hfx : f q = x at *
   generalize hgz : g q = z at *
   clear hc hrow hfr hst hfx hgz
   go_wp2_with fail
   refine Stab.rg 15 [[], [], [], [], [], [3, 4], [5], [], [], [], [8, 9], [10], [], [7, 11, 12], [2, 6, 13]] [0, 1, 14] (PRd fb F r q r2 x z) [Stab.eqv ?_, Stab.eqv ?_, Stab.eqv ?_, Stab.eqv ?_, Stab.eqv ?_, Stab.eqv ?_, Stab.eqv ?_, Stab.eqv ?_, Stab.eqv ?_, Stab.eqv ?_, Stab.eqv ?_, Stab.eqv ?_, Stab.eqv ?_, Stab.eqv ?_, Stab.eqv ?_] (HRD.out.ext (Stab.Ext.drew _)) (fun _ _ h hE => h.ext hE) ?goals3 ?last3
   case goals3 =>
    simp only [List.take_succ_cons, List.take_zero]
    iterate 13
     refine Stab.gp (fun us w _ hE hS hp hK => ?_) ?_
     ·((try have e0 : _ = _ := hp.1); (try have e1 : _ = _ := hp.2.1); (try have e2 : _ = _ := hp.2.2.1); have s0 := hS.fp; have s1 := hS.cx; have s2 := hS.cz; go_simp; exact hK _ _ (by show _ = _; with_reducible rfl) (Stab.Ext.refl _))
    refine Stab.Goals.plain rfl rfl (fun us w cK hE hS hp hK => ?_) ?_
    ·obtain ⟨h7, h11, h12, -⟩ := hp
     replace h7 : us 7 = _ := h7
     replace h11 : us 11 = _ := h11
     replace h12 : us 12 = _ := h12
     go_simp
     go_wp2_with (go_at_call 145; ((with_reducible refine (Fld.mul_any _ _ z y hz256 hy hS.fld).mono ?_); rintro e w1 ⟨rfl, hb⟩))
     refine hK _ _ ?_ hb
     show _ = _
     with_reducible rfl
    refine Stab.Goals.plain rfl rfl (fun us w cK hE hS hp hK => ?_) ?_
    ·obtain ⟨h2, h6, h13, -⟩ := hp
     replace h2 : us 2 = _ := h2
     replace h6 : us 6 = _ := h6
     replace h13 : us 13 = _ := h13
     go_simp
     go_wp2_with (go_at_call 144; ((with_reducible refine (Fld.add_any _ x _ hx256 HGM.out _).mono ?_); rintro e w1 ⟨rfl, rfl⟩))
     refine hK _ _ ?_ (Stab.Ext.refl _)
     show _ = _
     with_reducible rfl
    exact Stab.Goals.nil
   case last3 =>
    intro us w' hE hS hp
    obtain ⟨h0, h1', h8, -⟩ := hp
    replace h0 : us 0 = _ := h0
    replace h1' : us 1 = _ := h1'
    replace h8 : us 14 = _ := h8
    simp only [List.drop_succ_cons, List.drop_zero, h0, h1', h8, Nat.zero_add, Nat.reduceAdd]
    have hrw := HROW.out.ext ((Stab.Ext.drew _).trans hE)
    have c1 := hS.cx
    have z1 := (hrw.cell hlt).2
    have hn := HST.out _ hrw
    rw [HPF.out] at hn
    have HN := Lib.hid hn
    have HF2 := Lib.hid ((HFR.out.next (Vm.Fr.of_below ((Stab.Ext.drew wr).trans hE))).next (Vm.Fr.cell w' ⟨r, q, none⟩ (.int .u8 (Nat.xor x (Fld.gm z y) : Nat))))
    clear hE hS h0 h1' h8 hrw hn
    go_wp2_with fail
    go_roundw
    case rel => exact ⟨q + 1, by omega, by go_num, HN.out, HF2.out⟩
    case measure => simp [intOf]; omega
  ·obtain rfl : q = L := by omega
   have HN := Lib.hid (hrow.congr (g := plusF f g y) fun j hj => by simp only [if_pos hj])
   have HFR := Lib.hid hfr
   have d1 : ¬ ((q : Int) < (q : Int)) := by omega
   clear hrow hfr
   go_wp2_with fail
   go_end0
   exact ⟨rfl, HN.out, HFR.out⟩
end Sol
end Go.Proofs.YtnbkhdbligjifaaGreatDoor
namespace Go.Proofs.YtnbkhdbligjifaaGreatDoor
open Go Go.RowKit
namespace Sol
def zstr (m : Nat) : ByteArray := ⟨Array.replicate m 0⟩
theorem zstr_size (m : Nat) : (zstr m).size = m := by simp [zstr, ByteArray.size]
theorem zeroCells_u8 (m : Nat) : Builtin.zeroCells (Value.int .u8 0).cells m = (List.replicate m (Value.int .u8 0)).toArray := by
 have h1 : (Value.int .u8 0).cells = #[Value.int .u8 0] := rfl
 rw [h1]
 apply Array.ext'
 simp only [Builtin.zeroCells, Array.toList_map, Array.toList_range]
 apply List.ext_getElem
 ·simp
 ·intro i h1 h2
  simp [Nat.mod_one]
theorem first_zstr (m : Nat) : Array.map (fun (b : UInt8) => Value.int .u8 (b.toNat : Int)) ((zstr m).extract 0 m).data = (List.replicate m (Value.int .u8 0)).toArray := by
 apply Array.ext'
 simp [zstr]
theorem run_append_made {P : Program} {t ti ts ty e : TypeId} {i : TypeInfo} (ht : P.underlying t = some (.slice e)) (hti : P.underlying ti = some (.int .i64)) (hts : P.underlying ts = some .string) (hi : P.info? e = some i) (hz : i.zero = some (.int .u8 0)) (hsize : i.size = 1) (hby : i.bytes = 1)
 (w : World) (base : Option Addr) (n cap m : Nat) (h : n + m ≤ 1000000000) :
 (Builtin.append_ #[t, ti] ty #[.slice base n cap, .int .i64 (m : Int)]).run P w = (Builtin.append_ #[t, ts] ty #[.slice base n cap, .string (zstr m)]).run P w := by
 have hw : IntKind.i64.wrap (m : Int) = (m : Int) := by rw [IntKind.wrap_i64]; omega
 have h0 : ¬ ((m : Int) < 0) := by omega
 have h48 : ¬ (281474976710656 < (m : Int)) := by omega
 have hmax : ¬ (9223372036854775807 < ((n : Int) + (m : Int))) := by omega
 have hzc := zeroCells_u8 m
 have hfz := first_zstr m
 have hfl : List.take m (List.map (fun (b : UInt8) => Value.int .u8 (b.toNat : Int)) (zstr m).data.toList) = List.replicate m (Value.int .u8 0) := by simp [zstr]
 have hfa : (Array.map (fun (b : UInt8) => Value.int .u8 (b.toNat : Int)) (zstr m).data).extract 0 m = (List.replicate m (Value.int .u8 0)).toArray := by
  apply Array.ext'
  simp [zstr]
 by_cases hm : m = 0
 ·subst hm
  have hw0 : IntKind.i64.wrap 0 = 0 := by rw [IntKind.wrap_i64]; omega
  by_cases hr : n ≤ cap
  ·simp [Builtin.append_, run_underlying ht, run_underlying hti, run_underlying hts, sizeOf, typeInfo, hi, hsize, hby, asInt, asIntOf, hw0, zstr_size, Builtin.lenOf, hr, Builtin.firstCells, hfz]
  ·have hg := growslice_fits (bytes := 1) (need := n) (old := cap) (by omega) (by omega)
   have hmax0 : ¬ (9223372036854775807 < (n : Int)) := by omega
   have hg2 : ¬ (281474976710656 < Builtin.nextslicecap n cap) := by omega
   simp [Builtin.append_, run_underlying ht, run_underlying hti, run_underlying hts, sizeOf, typeInfo, zeroValue, hi, hz, hsize, hby, asInt, asIntOf, hw0, zstr_size, Builtin.lenOf, hr, Builtin.firstCells, hfz, hg2, hmax0, Question.forced]
 ·by_cases hr : n + m ≤ cap
  ·simp [Builtin.append_, run_underlying ht, run_underlying hti, run_underlying hts, sizeOf, typeInfo, zeroValue, hi, hz, hsize, hby, asInt, asIntOf, hw, h0, h48, zstr_size, Builtin.lenOf, hr, Builtin.firstCells, hfl, hfa, hzc, hm]
  ·have hg := growslice_fits (bytes := 1) (need := n + m) (old := cap) (by omega) (by omega)
   have hg2 : ¬ (281474976710656 < Builtin.nextslicecap (n + m) cap) := by omega
   simp [Builtin.append_, run_underlying ht, run_underlying hti, run_underlying hts, sizeOf, typeInfo, zeroValue, hi, hz, hsize, hby, asInt, asIntOf, hw, h0, h48, zstr_size, Builtin.lenOf, hr, Builtin.firstCells, hfl, hfa, hzc, hm, hg2, hmax, Question.forced]
theorem app_zeros {P : Program} {t ti ts ty e : TypeId} (ht : P.underlying t = some (.slice e)) (hti : P.underlying ti = some (.int .i64)) (hts : P.underlying ts = some .string) (he : (P.info? e).map (fun i => (i.zero, i.size, i.bytes)) = some (some (.int .u8 0), 1, 1))
 {w : World} {base n m : Nat} {v : Value} {xs : List Value} (hv : w.ownsRow base e 1 v n xs) (hb : n + m ≤ 1000000000) (hbase : base ≤ w.heap.size) :
 ∃ v' w', (appSem #[t, ti] ty #[v, .int .i64 (m : Int)]).run P w = .ok v' w' ∧ w'.ownsRow base e 1 v' (n + m) (xs ++ List.replicate m (Value.int .u8 0)) ∧ Below base w w' := by
 obtain ⟨i, hi, hz0, hz1, hz2⟩ := info_parts he
 obtain ⟨v', w', h1, h2, h3, -⟩ := Lib.run_append_own_string (P := P) w base t ts ty e i ht hts hi hz0 hz1 hz2 v n xs hv (zstr m) (by rw [zstr_size]; unfold maxLen; omega) (by rw [zstr_size]; omega) hbase
 rw [zstr_size] at h2
 have hc : Lib.strCells (zstr m) = List.replicate m (Value.int .u8 0) := by simp [Lib.strCells, zstr]
 rw [hc] at h2
 refine ⟨v', w', ?_, h2, (Below.refl _ _).grown h3 hbase (fun k hk => (hv.lt k hk).1)⟩
 obtain ⟨a, c, rfl⟩ : ∃ a c, v = .slice a n c := by
  rcases hv.2 with ⟨rfl, rfl⟩ | ⟨g, cap, cur, rfl, _⟩
  ·exact ⟨_, _, rfl⟩
  ·exact ⟨_, _, rfl⟩
 rw [← h1]
 exact run_append_made ht hti hts hi hz0 hz1 hz2 w a n c m hb
attribute [local go_sem ↓] appSem_eq
theorem info_u8 : (Tryz.prog.info? 5).map (fun i => (i.zero, i.size, i.bytes)) = some (some (.int .u8 0), 1, 1) := by kernel_rfl
theorem cellsL_one (f : Nat → Nat) (L : Nat) : ∀ x ∈ cellsL f L, x.oneCell' = true := by
 intro x hx
 simp only [cellsL, List.mem_map, Spr.by8] at hx
 obtain ⟨i, _, rfl⟩ := hx
 rfl
theorem clone8_any {w : World} {r n c : Nat} {f : Nat → Nat} (h : RowAt w r n c f) (hn : n ≤ 1000000) :
 Calls Tryz.prog 208 #[.slice (some ⟨r, 0, none⟩) n c] w (Vm.ClonePost w 5 1 n (cellsL f n)) := by
 have hE : (w.alloc (.cells #[] 5)).ownsRow w.heap.size 5 1 (.slice (some ⟨w.heap.size, 0, none⟩) 0 0) 0 [] :=
  ⟨rfl, .inr ⟨w.heap.size, 0, #[], rfl, Nat.le_refl _, heap_alloc_new w _, Nat.le_refl _, by unfold maxLen; omega, rfl, rfl⟩⟩
 obtain ⟨v', w', hrun, hown, hb'⟩ := Vm.app_row Tryz.underlying136 info_u8 rfl (by omega) (by omega) hE (own_ext h (Stab.Ext.alloc w (.cells #[] 5))) (cellsL_one f n) (by omega) (by simp)
 have HO := Lib.hid hown
 have HB := Lib.hid (((Below.refl w.heap.size w).alloc (Nat.le_refl _) (.cells #[] 5)).trans hb')
 have hq := fun w => Vm.ne_nil Tryz.underlying136 ⟨r, 0, none⟩ n c w
 clear h hown hb' hE
 go_enter Tryz.func208, Tryz.ntmps208
 go_wp2_with fail
 go_ret
 exact ⟨_, rfl, by simpa using HO.out, HB.out⟩
end Sol
end Go.Proofs.YtnbkhdbligjifaaGreatDoor
namespace Go.Proofs.YtnbkhdbligjifaaGreatDoor
open Go Go.RowKit
namespace Sol
attribute [local go_sem ↓] appSem_eq
theorem info_sl : (Tryz.prog.info? 136).map (fun i => (i.zero, i.size, i.bytes)) = some (some (.slice none 0 0), 1, 24) := by kernel_rfl
def rowsV (N L : Nat) (R C : Nat → Nat) : List Value := (List.range N).map fun i => .slice (some ⟨R i, 0, none⟩) L (C i)
theorem rowsV_len (N L : Nat) (R C : Nat → Nat) : (rowsV N L R C).length = N := by simp [rowsV]
theorem rowsV_get (N L : Nat) (R C : Nat → Nat) {i : Nat} (h : i < N) : (rowsV N L R C)[i]? = some (.slice (some ⟨R i, 0, none⟩) L (C i)) := by simp [rowsV, h]
theorem rowsV_succ {N L r c : Nat} {R C : Nat → Nat} : rowsV N L R C ++ [.slice (some ⟨r, 0, none⟩) L c] = rowsV (N + 1) L (fun i => if i < N then R i else r) (fun i => if i < N then C i else c) := by
 simp only [rowsV, List.range_succ, List.map_append, List.map_cons, List.map_nil, Nat.lt_irrefl, if_false]
 congr 1
 refine List.map_congr_left fun i hi => ?_
 have := List.mem_range.1 hi
 simp only [this, if_true]
structure Mat (w : World) (base : Nat) (v : Value) (N L : Nat) (R C : Nat → Nat) (F : Nat → Nat → Nat) : Prop where
 row : w.ownsRow base 136 1 v N (rowsV N L R C)
 st : ∀ i, i < N → RowAt w (R i) L (C i) (F i)
 low : ∀ i, i < N → base ≤ R i
 inj : ∀ i j, i < N → j < N → R i = R j → i = j
 off : ∀ i, i < N → v.ownBlock ≠ some (R i)
section
variable {w w' w2 w3 : World} {base : Nat} {v : Value} {N L : Nat} {R C : Nat → Nat} {F G : Nat → Nat → Nat}
theorem Mat.ext (h : Mat w base v N L R C F) (hE : Stab.Ext w w') : Mat w' base v N L R C F := ⟨own_ext h.row hE, fun i hi => (h.st i hi).ext hE, h.low, h.inj, h.off⟩
theorem Mat.form (h : Mat w base v N L R C F) (hN : 0 < N) : ∃ g cap, v = .slice (some ⟨g, 0, none⟩) N cap ∧ base ≤ g ∧ g < w.heap.size ∧ N ≤ cap := by
 rcases h.row.2 with ⟨_, h0⟩ | ⟨g, cap, cur, rfl, hb, hg, hn, _⟩
 ·omega
 ·exact ⟨g, cap, rfl, hb, (Array.getElem?_eq_some_iff.1 hg).1, hn⟩
theorem Mat.shape (h : Mat w base v N L R C F) : ∃ a c, v = .slice a N c := by
 rcases h.row.2 with ⟨rfl, h0⟩ | ⟨g', cap', cur, rfl, _⟩
 ·exact ⟨none, 0, by rw [h0]⟩
 ·exact ⟨_, _, rfl⟩
theorem Mat.cell {g cap : Nat} (h : Mat w base (.slice (some ⟨g, 0, none⟩) N cap) N L R C F) {i : Nat} (hi : i < N) : w.cell? ⟨g, i, none⟩ = some (.slice (some ⟨R i, 0, none⟩) L (C i)) ∧ w.frozen? ⟨g, i, none⟩ = false := by
 rcases h.row.2 with ⟨h1, _⟩ | ⟨g', cap', cur, h1, _, hg, hn, _, hs, ht⟩
 ·cases h1
 ·cases h1
  have hb : Blk w g 136 cur := hg
  refine ⟨?_, hb.frozen _⟩
  rw [hb.cell, ← Array.getElem?_toList, ← rowsV_get N L R C hi, ← ht, List.getElem?_take_of_lt (by omega)]
theorem Mat.nil (w : World) (base L : Nat) (R C : Nat → Nat) (F : Nat → Nat → Nat) : Mat w base (.slice none 0 0) 0 L R C F :=
 ⟨⟨by simp [rowsV], .inl ⟨rfl, rfl⟩⟩, fun i hi => absurd hi (Nat.not_lt_zero _), fun i hi => absurd hi (Nat.not_lt_zero _), fun i _ hi => absurd hi (Nat.not_lt_zero _), fun i hi => absurd hi (Nat.not_lt_zero _)⟩
theorem Mat.congr (h : Mat w base v N L R C F) (hf : ∀ i, i < N → ∀ j, j < L → F i j = G i j) : Mat w base v N L R C G := ⟨h.row, fun i hi => (h.st i hi).congr (hf i hi), h.low, h.inj, h.off⟩
theorem Mat.base' {b2 : Nat} (h : Mat w base v N L R C F) (hb : b2 ≤ base) : Mat w b2 v N L R C F := by
 refine ⟨⟨h.row.1, ?_⟩, h.st, fun i hi => Nat.le_trans hb (h.low i hi), h.inj, h.off⟩
 rcases h.row.2 with h | ⟨g, cap, cur, h1, h2, h3⟩
 ·exact .inl h
 ·exact .inr ⟨g, cap, cur, h1, Nat.le_trans hb h2, h3⟩
theorem Mat.push {r c g' cap' : Nat} {o : Obj} (h : Mat w base v N L R C F) (hE : Stab.Ext w w2) (hb : base ≤ w.heap.size) (hr : RowAt w2 r L c (F N)) (hlow : w.heap.size ≤ r)
 (hown : w3.ownsRow base 136 1 (.slice (some ⟨g', 0, none⟩) (N + 1) cap') (N + 1) (rowsV N L R C ++ [.slice (some ⟨r, 0, none⟩) L c])) (hg : (w2.alloc o).grownBy w3 v.ownBlock) (hv : v.ownBlock = some g' ∨ g' = w2.heap.size + 1) :
 Mat w3 base (.slice (some ⟨g', 0, none⟩) (N + 1) cap') (N + 1) L (fun i => if i < N then R i else r) (fun i => if i < N then C i else c) F := by
 have hvl : ∀ k, v.ownBlock = some k → k < w.heap.size := fun k hk => (h.row.lt k hk).2
 have hRl : ∀ i, i < N → R i < w.heap.size := fun i hi => (h.st i hi).lt
 have hal : ∀ k, k < w2.heap.size → some k ≠ v.ownBlock → w3.heap[k]? = w2.heap[k]? := fun k hk hne => (hg.block k (by simp; omega) hne).trans (Below.heap_alloc w2 o k hk)
 have hs := hE.size
 refine ⟨by rw [← rowsV_succ]; exact hown, fun i hi => ?_, fun i hi => ?_, fun i j hi hj he => ?_, fun i hi => ?_⟩
 ·by_cases h2 : i < N
  ·simp only [h2, if_true]
   exact ((h.st i h2).ext hE).keep (hal _ (by have := hRl i h2; omega) (fun e => h.off i h2 e.symm))
  ·obtain rfl : i = N := by omega
   simp only [Nat.lt_irrefl, if_false]
   exact hr.keep (hal _ hr.lt (fun e => by have := hvl r e.symm; omega))
 ·by_cases h2 : i < N
  ·simp only [h2, if_true]; exact h.low i h2
  ·simp only [h2, if_false]; omega
 ·by_cases h2 : i < N <;> by_cases h3 : j < N <;> simp only [h2, h3, if_true, if_false] at he
  ·exact h.inj i j h2 h3 he
  ·have := hRl i h2; omega
  ·have := hRl j h3; omega
  ·omega
 ·have hg2 : (Value.slice (some ⟨g', 0, none⟩) (N + 1) cap').ownBlock = some g' := rfl
  rw [hg2]
  intro e
  have e : g' = if i < N then R i else r := by simpa using e
  by_cases h2 : i < N <;> simp only [h2, if_true, if_false] at e
  ·rcases hv with hv | hv
   ·exact h.off i h2 (by rw [hv, e])
   ·have := hRl i h2; omega
  ·rcases hv with hv | hv
   ·have := hvl g' hv; omega
   ·have := hr.lt; omega
end
def wideF (L : Nat) (F : Nat → Nat → Nat) (i j : Nat) : Nat := if j < L then F i j else 0
theorem cellsL_wide (F : Nat → Nat → Nat) (L m i : Nat) : cellsL (F i) L ++ List.replicate m (Value.int .u8 0) = cellsL (wideF L F i) (L + m) := by
 apply List.ext_getElem?
 intro j
 by_cases h1 : j < L
 ·rw [List.getElem?_append_left (by rw [cellsL_len]; exact h1), cellsL_get _ h1, cellsL_get _ (by omega)]
  simp [wideF, h1]
 ·rw [List.getElem?_append_right (by rw [cellsL_len]; omega), cellsL_len]
  by_cases h2 : j < L + m
  ·rw [cellsL_get _ h2, List.getElem?_replicate, if_pos (by omega)]
   simp [wideF, h1]
  ·rw [List.getElem?_eq_none (by simp; omega), List.getElem?_eq_none (by rw [cellsL_len]; omega)]
def OwnPost (w : World) (N L m : Nat) (F : Nat → Nat → Nat) (e : Ending) (w' : World) : Prop :=
 ∃ v R C, e = .returned v ∧ Mat w' w.heap.size v N (L + m) R C (wideF L F) ∧ Below w.heap.size w w'
theorem own_any {w : World} {base : Nat} {v : Value} {N L : Nat} {R C : Nat → Nat} {F : Nat → Nat → Nat} (m : Nat) (hM : Mat w base v N L R C F) (hN : 0 < N) (hN2 : N ≤ 1000) (hL : 0 < L) (hL2 : L + m ≤ 1000000) :
 Calls Tryz.prog 181 #[v, .int .i64 (m : Int)] w (OwnPost w N L m F) := by
 obtain ⟨g, cap, rfl, -, -, hcap⟩ := hM.form hN
 have HM := Lib.hid hM
 clear hM
 go_enter Tryz.func181, Tryz.ntmps181
 go_wp2_with fail
 go_loopw [5, 10] (fun o i wr => ∃ (q : Nat) (R' C' : Nat → Nat), q ≤ N ∧ i = .int .i64 (q : Int) ∧ Mat wr w.heap.size o q (L + m) R' C' (wideF L F) ∧ Below w.heap.size w wr) (fun _ i _ => N - (intOf i).toNat)
 case atStart => exact ⟨0, R, C, by omega, rfl, Mat.nil _ _ _ _ _ _, Below.refl _ _⟩
 case round =>
  obtain ⟨q, R', C', hq, rfl, ho, hbl⟩ := hrel
  by_cases hlt : q < N
  ·have hlt2 : (q : Int) < (N : Int) := by omega
   have hMr := HM.out.ext hbl
   have hc := (hMr.cell hlt).1
   have HC := Lib.hid (clone8_any (hMr.st q hlt) (by omega))
   have HO := Lib.hid ho
   have HBL := Lib.hid hbl
   obtain ⟨A6, cap6, hv6⟩ := ho.shape
   subst hv6
   clear hMr ho hbl
   go_wp2_with (go_at_call 208; with_reducible refine HC.out.mono ?_)
   rintro e w1 ⟨v1, rfl, hv1, hb1⟩
   obtain ⟨v2, w2, hrun1, hown1, hb2⟩ := app_zeros (m := m) (ty := 136) Tryz.underlying136 Tryz.underlying3 Tryz.underlying9 info_u8 hv1 (by omega) hb1.size
   rw [cellsL_wide] at hown1
   obtain ⟨r, c, rfl, hr0, hrl⟩ : ∃ r c, v2 = .slice (some ⟨r, 0, none⟩) (L + m) c ∧ _ ≤ r ∧ r < w2.heap.size := by
    rcases hown1.2 with ⟨_, h0⟩ | ⟨g', cap', cur, rfl, hb, hg, _⟩
    ·omega
    ·exact ⟨g', cap', rfl, hb, (Array.getElem?_eq_some_iff.1 hg).1⟩
   have hE2 := hb1.trans hb2
   obtain ⟨g3, c3, w3, hrun2, hown2, hb3, hgr, hor⟩ := own_app_new (t := 132) (c := 1) (m := 1) (C := #[.slice (some ⟨r, 0, none⟩) (L + m) c]) Tryz.underlying132 info_sl rfl (by omega) (by omega) (own_ext HO.out.row hE2) rfl (by simp [Value.oneCell']) (by omega) (by omega) (Nat.le_trans HBL.out.size hE2.size)
   have hrow : RowAt w2 r (L + m) c (wideF L F q) := ⟨hown1.1, by
    rcases hown1.2 with h | ⟨g', cap', cur, h1, _, h3⟩
    ·exact .inl h
    ·exact .inr ⟨g', cap', cur, h1, Nat.zero_le _, h3⟩⟩
   have HN := Lib.hid (HO.out.push hE2 HBL.out.size hrow hr0 hown2 hgr hor)
   have HB3 := Lib.hid ((HBL.out.trans (Below.mono hE2 HBL.out.size)).trans hb3)
   clear hv1 hb1 hown1 hb2 hr0 hrl hE2 hown2 hb3 hgr hor hrow
   go_wp2_with fail
   go_roundw
   case rel => exact ⟨q + 1, _, _, by omega, by go_num, HN.out, HB3.out⟩
   case measure => simp [intOf]; omega
  ·obtain rfl : q = N := by omega
   have d1 : ¬ ((q : Int) < (q : Int)) := by omega
   have HO := Lib.hid ho
   have HBL := Lib.hid hbl
   clear ho hbl
   go_wp2_with fail
   go_ret
   exact ⟨_, R', C', rfl, HO.out, HBL.out⟩
end Sol
end Go.Proofs.YtnbkhdbligjifaaGreatDoor
namespace Go.Proofs.YtnbkhdbligjifaaGreatDoor
open Go.RowKit
namespace Fld
theorem pw_step : ∀ q : Fin 254, (if 255 < pw q.1 * 2 then Nat.xor (pw q.1 * 2) 285 else pw q.1 * 2) = pw (q.1 + 1) := by decide +kernel
theorem pw_pos : ∀ q : Fin 255, 0 < pw q.1 := by decide +kernel
theorem pw_again : ∀ q : Fin 255, pw (q.1 + 255) = pw q.1 := by decide +kernel
theorem lg_pw : ∀ q : Fin 255, lg (pw q.1) = q.1 := by decide +kernel
theorem pw_lg : ∀ y : Fin 256, y.1 = 0 ∨ pw (lg y.1) = y.1 := by decide +kernel
theorem lg0 : lg 0 = 0 := by decide +kernel
def cellN (q i : Nat) : Value := if i < 510 then (if i % 255 < q then .int .u8 (pw i : Nat) else .int .u8 0) else (if i - 510 = 0 then .int .i64 0 else if lg (i - 510) < q then .int .i64 (lg (i - 510) : Nat) else .int .i64 0)
def tabN (q : Nat) : Array Value := ((List.range 766).map (cellN q)).toArray
theorem tabN_size (q : Nat) : (tabN q).size = 766 := by simp [tabN]
theorem tabN_get (q i : Nat) (h : i < 766) : (tabN q)[i]? = some (cellN q i) := by simp [tabN, h]
theorem tabN_step (q : Nat) (hq : q < 255) : (((tabN q).setIfInBounds q (.int .u8 (pw q : Nat))).setIfInBounds (q + 255) (.int .u8 (pw q : Nat))).setIfInBounds (510 + pw q) (.int .i64 (q : Nat)) = tabN (q + 1) := by
 have hp := pw_lt q
 have h0 := pw_pos ⟨q, hq⟩
 have h1 := pw_again ⟨q, hq⟩
 have h2 := lg_pw ⟨q, hq⟩
 simp only at h0 h1 h2
 apply Array.ext_getElem?
 intro i
 rw [Array.getElem?_setIfInBounds, Array.getElem?_setIfInBounds, Array.getElem?_setIfInBounds]
 simp only [Array.size_setIfInBounds, tabN_size]
 by_cases hi : i < 766
 ·rw [tabN_get q i hi, tabN_get (q + 1) i hi]
  unfold cellN
  by_cases h5 : i < 510
  ·rw [if_neg (by omega), if_pos h5, if_pos h5]
   by_cases e1 : q + 255 = i
   ·subst e1
    rw [if_pos rfl, if_pos (by omega), if_pos (by omega), h1]
   ·rw [if_neg e1]
    by_cases e2 : q = i
    ·subst e2
     rw [if_pos rfl, if_pos (by omega), if_pos (by omega)]
    ·rw [if_neg e2]
     by_cases e3 : i % 255 < q
     ·rw [if_pos e3, if_pos (by omega)]
     ·rw [if_neg e3, if_neg (by omega)]
  ·rw [if_neg h5, if_neg h5]
   by_cases e1 : 510 + pw q = i
   ·rw [if_pos e1, if_pos (by omega)]
    have e2 : i - 510 = pw q := by omega
    rw [e2, if_neg (by omega), h2, if_pos (by omega)]
   ·rw [if_neg e1, if_neg (by omega), if_neg (by omega)]
    by_cases e0 : i - 510 = 0
    ·rw [if_pos e0, if_pos e0]
    ·rw [if_neg e0, if_neg e0]
     have h3 := pw_lg ⟨i - 510, by omega⟩
     simp only at h3
     have hne : lg (i - 510) ≠ q := by
      rintro rfl
      rcases h3 with h3 | h3
      ·exact e0 h3
      ·omega
     by_cases e3 : lg (i - 510) < q
     ·rw [if_pos e3, if_pos (by omega)]
     ·rw [if_neg e3, if_neg (by omega)]
 ·rw [if_neg (by omega), if_neg (by omega), if_neg (by omega)]
  simp [tabN, hi]
theorem at_of_tab {w : World} {b : Nat} (h : Blk w b 253 (tabN 255)) : At w b := by
 refine ⟨fun i hi => ?_, fun i hi => ?_⟩
 ·rw [h.cell i, tabN_get _ _ (by omega)]
  unfold cellN
  rw [if_pos hi, if_pos (by omega)]
 ·rw [h.cell, tabN_get _ _ (by omega)]
  unfold cellN
  rw [if_neg (by omega), show 510 + i - 510 = i by omega]
  by_cases h0 : i = 0
  ·subst h0; rw [if_pos rfl, lg0]; rfl
  ·rw [if_neg h0]
   have := lg_le i hi
   rw [if_pos (by omega)]
theorem xor64 : ∀ x : Fin 256, bits .xor .i64 ((x.1 : Nat) * 2 : Int) 285 = (Nat.xor (x.1 * 2) 285 : Nat) := by decide +kernel
theorem new_at (w : World) : Calls Tryz.prog 139 #[] w fun e w' => e = .returned (.pointer (some ⟨w.heap.size, 0, none⟩)) ∧ Fld.At w' w.heap.size ∧ Below w.heap.size w w' := by
 go_enter Tryz.func139, Tryz.ntmps139
 go_wp2_with fail
 have hz : Tryz.zeroCells253 = tabN 0 := by kernel_rfl
 rw [hz]
 have hb0 := (Below.refl w.heap.size w).alloc (Nat.le_refl _) (.cells (tabN 0) 253)
 have HB0 := Lib.hid hb0
 have HI0 := Lib.hid (Blk.new w 253 (tabN 0))
 clear hz hb0
 go_loopw [2, 6] (fun x i wr => ∃ q : Nat, q ≤ 255 ∧ i = .int .i64 (q : Int) ∧ (q < 255 → x = .int .i64 (pw q : Nat)) ∧ Blk wr w.heap.size 253 (tabN q) ∧ Below w.heap.size w wr) (fun _ i _ => 255 - (intOf i).toNat)
 case atStart => exact ⟨0, by omega, rfl, fun _ => rfl, HI0.out, HB0.out⟩
 case round =>
  obtain ⟨q, hq, rfl, hx, hb, hbl⟩ := hrel
  by_cases hlt : q < 255
  ·obtain rfl := hx hlt
   have hlt2 : (q : Int) < 255 := by omega
   have hp := pw_lt q
   have hw : IntKind.u8.wrap ((pw q : Nat) : Int) = ((pw q : Nat) : Int) := by rw [IntKind.wrap_u8]; omega
   have hmo : Tryz.prog.follows .mixedOrders = true := by kernel_rfl
   have c1 := hb.cell q
   rw [tabN_get q q (by omega)] at c1
   have c2 := hb.cell (q + 255)
   rw [tabN_get q (q + 255) (by omega)] at c2
   have c3 := hb.cell (510 + pw q)
   rw [tabN_get q (510 + pw q) (by omega)] at c3
   have z1 := hb.frozen q
   have z2 := hb.frozen (q + 255)
   have z3 := hb.frozen (510 + pw q)
   have HST := Lib.hid (tabN_step q hlt)
   have HB := Lib.hid hb
   have HBL := Lib.hid hbl
   have HNX := Lib.hid (fun h : q < 254 => pw_step ⟨q, h⟩)
   have hsum : IntKind.i64.wrap ((q : Int) + 255) = ((q + 255 : Nat) : Int) := by rw [IntKind.wrap_i64]; omega
   generalize hpx : pw q = x at *
   have HPX := Lib.hid hpx
   clear hpx
   clear hb hbl hx
   go_wp2_with fail
   go_region
   go_wp2_with fail
   all_goals
    go_roundw
    case rel =>
     refine ⟨q + 1, by omega, by go_num, fun h254 => ?_, ?_, ?_⟩
     ·have hnx := HNX.out (by omega)
      rw [HPX.out] at hnx
      first
       | (have h255 : 255 < x * 2 := by have := ‹(255 : Int) < (x : Int) * 2›; omega
          rw [if_pos h255] at hnx
          have hxx := xor64 ⟨x, hp⟩
          simp only at hxx
          rw [hxx, hnx])
       | (rw [if_neg (by omega)] at hnx
          rw [← hnx]
          congr 1)
     ·have h := ((HB.out.set_ q (.int .u8 (x : Nat))).set_ (q + 255) (.int .u8 (x : Nat))).set_ (510 + x) (.int .i64 (q : Nat))
      rw [HST.out] at h
      exact h.drew
     ·exact (((HBL.out.setCell (p := ⟨w.heap.size, q, none⟩) (Nat.le_refl _) _).setCell (p := ⟨w.heap.size, q + 255, none⟩) (Nat.le_refl _) _).setCell (p := ⟨w.heap.size, 510 + x, none⟩) (Nat.le_refl _) _).drew
    case measure => simp [intOf]; omega
  ·obtain rfl : q = 255 := by omega
   have HB := Lib.hid hb
   have HBL := Lib.hid hbl
   clear hb hbl hx
   go_wp2_with fail
   go_ret
   exact ⟨rfl, at_of_tab HB.out, HBL.out⟩
theorem new_any (w : World) : Calls Tryz.prog 139 #[] w (Spr.NewPost w) := (new_at w).mono fun e w' ⟨h1, h2, h3⟩ => ⟨_, h1, h2, h3⟩
end Fld
end Go.Proofs.YtnbkhdbligjifaaGreatDoor
