/-
 The walk of the document's package strongboxref01: change.
-/
import Derived.Test.YtnbkhdbligjifaaGreatDoorRef01Turn
import Derived.Test.YtnbkhdbligjifaaGreatDoorShaWords
import Derived.Test.YtnbkhdbligjifaaGreatDoorVMaps
set_option linter.unusedVariables false
set_option linter.unusedSimpArgs false
set_option maxRecDepth 100000
set_option maxHeartbeats 40000000
namespace Go.Proofs.YtnbkhdbligjifaaGreatDoor
open Go.RowKit
namespace R1
open Sha
attribute [local go_sem ↓] appSem_eq
def Four (g a b c d : Nat) (x y z u : Value) (W : World) : Prop := W.cell? ⟨g, a, none⟩ = some x ∧ W.cell? ⟨g, b, none⟩ = some y ∧ W.cell? ⟨g, c, none⟩ = some z ∧ W.cell? ⟨g, d, none⟩ = some u
theorem Four.keep {g a b c d : Nat} {x y z u : Value} {W W' : World} (h : Four g a b c d x y z u W) (hb : Below W.heap.size W W') : Four g a b c d x y z u W' := by
 obtain ⟨h0, h1, h2, h3⟩ := h
 exact ⟨(hb.cell (Lib.lt_of_cell h0)).trans h0, (hb.cell (Lib.lt_of_cell h1)).trans h1, (hb.cell (Lib.lt_of_cell h2)).trans h2, (hb.cell (Lib.lt_of_cell h3)).trans h3⟩
theorem Four.low {g a b c d B : Nat} {x y z u : Value} {W W' : World} (h : Four g a b c d x y z u W) (hb : Below B W W') (hg : g < B) : Four g a b c d x y z u W' := by
 obtain ⟨h0, h1, h2, h3⟩ := h
 exact ⟨(hb.cell (p := ⟨g, a, none⟩) hg).trans h0, (hb.cell (p := ⟨g, b, none⟩) hg).trans h1, (hb.cell (p := ⟨g, c, none⟩) hg).trans h2, (hb.cell (p := ⟨g, d, none⟩) hg).trans h3⟩
def C2 (g g' k : Nat) (x y : Value) (W : World) : Prop := W.cell? ⟨g, k, none⟩ = some x ∧ W.cell? ⟨g', k, none⟩ = some y
theorem C2.ext {g g' k : Nat} {x y : Value} {W W' : World} (h : C2 g g' k x y W) (hE : Stab.Ext W W') : C2 g g' k x y W' := ⟨hE.cell h.1, hE.cell h.2⟩
def C3 (g a b c : Nat) (x y z : Value) (W : World) : Prop := W.cell? ⟨g, a, none⟩ = some x ∧ W.cell? ⟨g, b, none⟩ = some y ∧ W.cell? ⟨g, c, none⟩ = some z
theorem C3.ext {g a b c : Nat} {x y z : Value} {W W' : World} (h : C3 g a b c x y z W) (hE : Stab.Ext W W') : C3 g a b c x y z W' := ⟨hE.cell h.1, hE.cell h.2.1, hE.cell h.2.2⟩
def N8 (g : Nat) (s : St) (W : World) : Prop := W.cell? ⟨g, 0, none⟩ = some (.int .u32 s.a) ∧ W.cell? ⟨g, 1, none⟩ = some (.int .u32 s.b) ∧ W.cell? ⟨g, 2, none⟩ = some (.int .u32 s.c) ∧ W.cell? ⟨g, 3, none⟩ = some (.int .u32 s.d) ∧ W.cell? ⟨g, 4, none⟩ = some (.int .u32 s.e) ∧ W.cell? ⟨g, 5, none⟩ = some (.int .u32 s.f) ∧ W.cell? ⟨g, 6, none⟩ = some (.int .u32 s.g) ∧ W.cell? ⟨g, 7, none⟩ = some (.int .u32 s.h)
theorem N8.ext {g : Nat} {s : St} {W W' : World} (h : N8 g s W) (hE : Stab.Ext W W') : N8 g s W' := by
 obtain ⟨h0, h1, h2, h3, h4, h5, h6, h7⟩ := h
 exact ⟨hE.cell h0, hE.cell h1, hE.cell h2, hE.cell h3, hE.cell h4, hE.cell h5, hE.cell h6, hE.cell h7⟩
def Eight (s : St) (a b c d e f g h : Value) : Prop := a = .int .u32 s.a ∧ b = .int .u32 s.b ∧ c = .int .u32 s.c ∧ d = .int .u32 s.d ∧ e = .int .u32 s.e ∧ f = .int .u32 s.f ∧ g = .int .u32 s.g ∧ h = .int .u32 s.h
theorem word_add (a b c d : Int) (a0 : 0 ≤ a) (a1 : a < 256) (b0 : 0 ≤ b) (b1 : b < 256) (c0 : 0 ≤ c) (c1 : c < 256) (d0 : 0 ≤ d) (d1 : d < 256) :
 IntKind.u32.wrap (IntKind.u32.wrap (IntKind.u32.wrap (IntKind.u32.wrap (IntKind.u32.wrap a * 16777216) + IntKind.u32.wrap (IntKind.u32.wrap b * 65536)) + IntKind.u32.wrap (IntKind.u32.wrap c * 256)) + IntKind.u32.wrap d)
  = a * 16777216 + b * 65536 + c * 256 + d := by
 simp only [IntKind.wrap_u32']
 omega
theorem change_any (s : St) (hs : s.ok) (r : List Int) (_hr : r.length = 64) (_hsm : Sha.Small r) (b : List UInt8) (_hb : b.length = 64) (gn gr g o cn cr cap : Nat) (w : World)
 (hn : ∀ j, j < 8 → w.cell? ⟨gn, j, none⟩ = some (.int .u32 (s.list.getD j 0))) (hgn : gn < w.heap.size)
 (hrr : ∀ j, j < 64 → w.cell? ⟨gr, j, none⟩ = some (.int .u32 (r.getD j 0))) (hgr : gr < w.heap.size)
 (hrow : ∀ j, j < 64 → w.cell? ⟨g, o + j, none⟩ = some (.int .u8 (at8 b j))) (hgw : g < w.heap.size) :
 Calls Tryz.prog 97 #[.slice (some ⟨gn, 0, none⟩) 8 cn, .slice (some ⟨gr, 0, none⟩) 64 cr, .slice (some ⟨g, o, none⟩) 64 cap] w fun e w' => ∃ gv cv, e = .returned (.slice (some ⟨gv, 0, none⟩) 8 cv) ∧ w.heap.size ≤ gv ∧ Blk w' gv 171 (comp r b s).cells ∧ Below w.heap.size w w' := by
 obtain ⟨i0, hi, hz0, hz1, hz2⟩ := info_parts info_u32
 go_enter Tryz.func97, Tryz.ntmps97
 go_wp2_with fail
 go_loopw [7, 8] (fun v i wr => ∃ (k : Nat) (l : List Int), k ≤ 64 ∧ l.length = k ∧ i = .int .i64 (k : Int) ∧ Sha.Small l ∧ ((k ≤ 16 ∧ l = headW b k) ∨ (16 ≤ k ∧ growW (64 - k) l = sched b)) ∧ wr.ownsRow w.heap.size 171 1 v k (u32s l) ∧ Below w.heap.size w wr) (fun _ i _ => 64 - (intOf i).toNat)
 case atStart => exact ⟨0, [], by omega, rfl, rfl, (fun _ h => by cases h), .inl ⟨by omega, rfl⟩, World.ownsRow_nil _ _ _ _, Below.refl _ _⟩
 case round =>
  obtain ⟨k, l, hk, hl, rfl, hsl, hcs, hv, hbl⟩ := hrel
  obtain ⟨A', cap', rfl, hrf⟩ := row_form hv
  have hb0 := hbl.size
  by_cases h16 : k < 16
  ·have hlh : l = headW b k := by
    rcases hcs with ⟨_, h⟩ | ⟨h, _⟩
    ·exact h
    ·omega
   have hc : ∀ j, j < 64 → wr.cell? ⟨g, o + j, none⟩ = some (.int .u8 (at8 b j)) := fun j hj => (hbl.cell (p := ⟨g, o + j, none⟩) hgw).trans (hrow j hj)
   obtain ⟨j0, hj0⟩ : ∃ j : Int, j = 4 * (k : Int) := ⟨_, rfl⟩
   obtain ⟨j1, hj1⟩ : ∃ j : Int, j = j0 + 1 := ⟨_, rfl⟩
   obtain ⟨j2, hj2⟩ : ∃ j : Int, j = j0 + 2 := ⟨_, rfl⟩
   obtain ⟨j3, hj3⟩ : ∃ j : Int, j = j0 + 3 := ⟨_, rfl⟩
   have q0 : IntKind.i64.wrap (4 * (k : Int)) = j0 := by rw [IntKind.wrap_i64]; omega
   have q1 : IntKind.i64.wrap (j0 + 1) = j1 := by rw [IntKind.wrap_i64]; omega
   have q2 : IntKind.i64.wrap (j0 + 2) = j2 := by rw [IntKind.wrap_i64]; omega
   have q3 : IntKind.i64.wrap (j0 + 3) = j3 := by rw [IntKind.wrap_i64]; omega
   have c0 := hc (4 * k) (by omega)
   have c1 := hc (4 * k + 1) (by omega)
   have c2 := hc (4 * k + 2) (by omega)
   have c3 := hc (4 * k + 3) (by omega)
   have hW := word_add (at8 b (4 * k)) (at8 b (4 * k + 1)) (at8 b (4 * k + 2)) (at8 b (4 * k + 3)) (at8_pos _ _) (at8_lt _ _) (at8_pos _ _) (at8_lt _ _) (at8_pos _ _) (at8_lt _ _) (at8_pos _ _) (at8_lt _ _)
   replace hW := hW.trans (show _ = wd b k from rfl)
   generalize at8 b (4 * k) = y0 at *
   generalize at8 b (4 * k + 1) = y1 at *
   generalize at8 b (4 * k + 2) = y2 at *
   generalize at8 b (4 * k + 3) = y3 at *
   rw [show 4 * k = j0.toNat by omega] at c0
   rw [show 4 * k + 1 = j1.toNat by omega] at c1
   rw [show 4 * k + 2 = j2.toNat by omega] at c2
   rw [show 4 * k + 3 = j3.toNat by omega] at c3
   have HS := Lib.hid (headW_succ b k)
   have HX := Lib.hid (wd_range b k)
   have HSL := Lib.hid hsl
   generalize hx : wd b k = x at *
   have b0 : 0 ≤ j0 := by omega
   have b1 : 0 ≤ j1 := by omega
   have b2 : 0 ≤ j2 := by omega
   have b3 : 0 ≤ j3 := by omega
   have d0 : j0 < 64 := by omega
   have d1 : j1 < 64 := by omega
   have d2 : j2 < 64 := by omega
   have d3 : j3 < 64 := by omega
   have HLH := Lib.hid hlh
   have HL := Lib.hid hl
   have HN := Lib.hid hn
   have HRR := Lib.hid hrr
   have HROW := Lib.hid hrow
   clear hrow hc hj1 hj2 hj3 hj0 hcs hrf hlh hl hn hrr hsl hx
   have hf : Four g (o + j0.toNat) (o + j1.toNat) (o + j2.toNat) (o + j3.toNat) (.int .u8 y0) (.int .u8 y1) (.int .u8 y2) (.int .u8 y3) wr.drew := ⟨c0, c1, c2, c3⟩
   have HF := Lib.hid hf
   have HV := Lib.hid hv
   have HBL := Lib.hid hbl
   clear c0 c1 c2 c3 hf hv hbl
   go_wp2_with fail
   refine Stab.rg 35 [[], [], [], [2], [1, 3], [4], [5], [6], [], [], [9], [10], [8, 11], [12], [13], [14], [7, 15], [], [], [18], [19], [17, 20], [21], [22], [23], [16, 24], [], [], [27], [28], [26, 29], [30], [31], [25, 32], [33]] [0, 34] (Four g (o + j0.toNat) (o + j1.toNat) (o + j2.toNat) (o + j3.toNat) (.int .u8 y0) (.int .u8 y1) (.int .u8 y2) (.int .u8 y3)) [Stab.eqv ?_, Stab.eqv ?_, Stab.eqv ?_, Stab.eqv ?_, Stab.eqv ?_, Stab.eqv ?_, Stab.eqv ?_, Stab.eqv ?_, Stab.eqv ?_, Stab.eqv ?_, Stab.eqv ?_, Stab.eqv ?_, Stab.eqv ?_, Stab.eqv ?_, Stab.eqv ?_, Stab.eqv ?_, Stab.eqv ?_, Stab.eqv ?_, Stab.eqv ?_, Stab.eqv ?_, Stab.eqv ?_, Stab.eqv ?_, Stab.eqv ?_, Stab.eqv ?_, Stab.eqv ?_, Stab.eqv ?_, Stab.eqv ?_, Stab.eqv ?_, Stab.eqv ?_, Stab.eqv ?_, Stab.eqv ?_, Stab.eqv ?_, Stab.eqv ?_, Stab.eqv ?_, Stab.newrow wr.heap.size 171 #[.int .u32 x] 1 1] HF.out (fun _ _ h hE => h.keep hE) ?goals6 ?last6
   case goals6 =>
    simp only [List.take_succ_cons, List.take_zero]
    iterate 34
     refine Stab.gp (fun us w _ hE hS hp hK => ?_) ?_
     ·((try have e0 : _ = _ := hp.1); (try have e1 : _ = _ := hp.2.1); (try have e2 : _ = _ := hp.2.2.1); obtain ⟨s0, s1, s2, s3⟩ := hS; go_simp; exact hK _ _ (by show _ = _; with_reducible rfl) (Stab.Ext.refl _))
    refine Stab.Goals.plain rfl rfl (fun us w K hE hS hp hK => ?_) ?_
    ·obtain ⟨h33, -⟩ := hp
     replace h33 : us 33 = _ := h33
     go_simp
     exact hK _ _ ⟨_, rfl, hE.size, Blk.new _ _ _⟩ (Stab.Ext.alloc _ _)
    exact Stab.Goals.nil
   case last6 =>
    intro us w' hE hS hp
    obtain ⟨h0, ⟨gb, e34, hgb, hbk⟩, -⟩ := hp
    replace h0 : us 0 = _ := h0
    simp only [List.drop_succ_cons, List.drop_zero, h0, e34]
    have hbw : Below w.heap.size w w' := (HBL.out.drew).trans (Below.mono hE hb0)
    have hz := hbw.size
    have hvw := own_below HV.out ((Below.refl _ _).drew.trans hE)
    obtain ⟨g5, c5, w5, hrun, hown', hgrow, _, _⟩ := run_append_lies (P := Tryz.prog) w' 166 166 w.heap.size 171 i0 (.int .u32 0) 1 4 Tryz.underlying166 hi hz0 hz1 hz2 rfl (by decide) (.slice A' k cap') k (u32s l) hvw ⟨gb, 0, none⟩ 1 1 [.int .u32 x] rfl (Stab.cells_blk hbk) (by simp [Value.oneCell']) (by omega) (by unfold maxLen; omega) (by omega) (by omega) _ rfl
    have HB4 := Lib.hid (show Below w.heap.size w w5 from hbw.grown hgrow hbw.size (fun kk e => (hvw.lt kk e).1))
    have HO := Lib.hid hown'
    replace hrun : (appSem #[166, 166] 166 #[.slice A' k cap', .slice (some ⟨gb, 0, none⟩) 1 1]).run Tryz.prog w' = .ok (.slice (some ⟨g5, 0, none⟩) (k + 1) c5) w5 := hrun
    clear hgrow hown' hE hS h0 e34 hbw hvw hbk
    go_wp2_with fail
    go_roundw
    case rel => exact ⟨k + 1, l ++ [x], by omega, by rw [List.length_append, HL.out]; rfl, by go_num, HSL.out.snoc HX.out.1 HX.out.2, .inl ⟨by omega, by rw [HS.out, HLH.out]⟩, by simpa [u32s] using HO.out, HB4.out⟩
    case measure => simp [intOf]; omega
  ·by_cases hlt : k < 64
   ·have hgw' : growW (64 - k) l = sched b := by
     rcases hcs with ⟨h1, h2⟩ | ⟨_, h⟩
     ·have e : k = 16 := by omega
      subst e
      rw [h2]; rfl
     ·exact h
    obtain ⟨g2, cur2, rfl, hg2, hB2, hc2⟩ := hrf (by omega)
    obtain ⟨j15, h15⟩ : ∃ j : Int, j = (k : Int) - 15 := ⟨_, rfl⟩
    obtain ⟨j2, h2⟩ : ∃ j : Int, j = (k : Int) - 2 := ⟨_, rfl⟩
    obtain ⟨j16, hj16⟩ : ∃ j : Int, j = (k : Int) - 16 := ⟨_, rfl⟩
    obtain ⟨j7, h7⟩ : ∃ j : Int, j = (k : Int) - 7 := ⟨_, rfl⟩
    have q15 : IntKind.i64.wrap ((k : Int) - 15) = j15 := by rw [IntKind.wrap_i64]; omega
    have q2 : IntKind.i64.wrap ((k : Int) - 2) = j2 := by rw [IntKind.wrap_i64]; omega
    have q16 : IntKind.i64.wrap ((k : Int) - 16) = j16 := by rw [IntKind.wrap_i64]; omega
    have q7 : IntKind.i64.wrap ((k : Int) - 7) = j7 := by rw [IntKind.wrap_i64]; omega
    have b15 : 0 ≤ j15 := by omega
    have b2 : 0 ≤ j2 := by omega
    have b16 : 0 ≤ j16 := by omega
    have b7 : 0 ≤ j7 := by omega
    have d15 : j15 < (k : Int) := by omega
    have d2 : j2 < (k : Int) := by omega
    have d16 : j16 < (k : Int) := by omega
    have d7 : j7 < (k : Int) := by omega
    have e0 : (k : Int) < 64 := by omega
    have e1 : ¬ ((k : Int) < 16) := by omega
    have hcell : ∀ j : Int, 0 ≤ j → j < (k : Int) → wr.cell? ⟨g2, j.toNat, none⟩ = some (.int .u32 (l.getD j.toNat 0)) := fun j h0 h1 => by
     rw [hB2.cell]
     apply hc2
     have : j.toNat < l.length := by omega
     simp [u32s, List.getD, this]
    have c15 := hcell j15 b15 (by omega)
    have c2 := hcell j2 b2 (by omega)
    have c16 := hcell j16 b16 (by omega)
    have c7 := hcell j7 b7 (by omega)
    have hN : nextW l = (l.getD j16.toNat 0 + l.getD j7.toNat 0 + s0 (l.getD j15.toNat 0) + s1 (l.getD j2.toNat 0)) % 4294967296 := by
     rw [nextW, hl, show k - 16 = j16.toNat by omega, show k - 7 = j7.toNat by omega, show k - 15 = j15.toNat by omega, show k - 2 = j2.toNat by omega]
    have m15 := hsl.get j15.toNat
    have m2 := hsl.get j2.toNat
    have hgr2 : growW (64 - (k + 1)) (l ++ [nextW l]) = sched b := by
     rw [show 64 - k = (64 - (k + 1)) + 1 by omega, growW] at hgw'; exact hgw'
    have HSL := Lib.hid (hsl.snoc (nextW_range l).1 (nextW_range l).2)
    have HG := Lib.hid hgr2
    generalize l.getD j15.toNat 0 = xa at *
    generalize l.getD j2.toNat 0 = xb at *
    generalize l.getD j16.toNat 0 = xc at *
    generalize l.getD j7.toNat 0 = xd at *
    obtain ⟨f1, hf1⟩ : ∃ f : Int, f = IntKind.u32.wrap (xc + xd) := ⟨_, rfl⟩
    obtain ⟨f2, hf2⟩ : ∃ f : Int, f = IntKind.u32.wrap (f1 + s0 xa) := ⟨_, rfl⟩
    have hf3 : IntKind.u32.wrap (f2 + s1 xb) = nextW l := by
     rw [hN, hf2, hf1, IntKind.wrap_u32', IntKind.wrap_u32', IntKind.wrap_u32']; omega
    have hs0 : bits .xor .u32 (bits .xor .u32 (rotr xa 7) (rotr xa 18)) (xa / 8) = s0 xa := rfl
    have hs1 : bits .xor .u32 (bits .xor .u32 (rotr xb 17) (rotr xb 19)) (xb / 1024) = s1 xb := rfl
    generalize s0 xa = sa at *
    generalize s1 xb = sb at *
    generalize nextW l = x at *
    have HL := Lib.hid hl
    have t7 := Lib.hid (fun (W : World) => R1.turn_any xa 7 7 rfl m15.1 m15.2 (by omega) (by omega) W)
    have t18 := Lib.hid (fun (W : World) => R1.turn_any xa 18 18 rfl m15.1 m15.2 (by omega) (by omega) W)
    have t17 := Lib.hid (fun (W : World) => R1.turn_any xb 17 17 rfl m2.1 m2.2 (by omega) (by omega) W)
    have t19 := Lib.hid (fun (W : World) => R1.turn_any xb 19 19 rfl m2.1 m2.2 (by omega) (by omega) W)
    have HN := Lib.hid hn
    have HRR := Lib.hid hrr
    have HROW := Lib.hid hrow
    have hf1' := hf1.symm
    have hf2' := hf2.symm
    have HV := Lib.hid hv
    have HBL := Lib.hid hbl
    have HB2 := Lib.hid hB2
    have HC2 : C3 g2 j2.toNat j16.toNat j7.toNat (.int .u32 xb) (.int .u32 xc) (.int .u32 xd) wr := ⟨c2, c16, c7⟩
    have HC1 : C3 g2 j15.toNat j16.toNat j7.toNat (.int .u32 xa) (.int .u32 xc) (.int .u32 xd) wr := ⟨c15, c16, c7⟩
    clear h15 h2 hj16 h7 hN hgw' hgr2 hsl hrow hl hcell hf1 hf2 hcs hrf hn hrr hc2 hv hbl hB2 c15 c2 c16 c7
    go_wp2_with fail
    refine Stab.rg 21 [[], [], [1], [0, 2], [3], [4], [], [], [7], [6, 8], [9], [10], [5, 11], [], [], [14], [13, 15], [16], [17], [12, 18], [19]] [20] (C3 g2 j15.toNat j16.toNat j7.toNat (.int .u32 xa) (.int .u32 xc) (.int .u32 xd)) [Stab.eqv ?_, Stab.eqv ?_, Stab.eqv ?_, Stab.eqv ?_, Stab.eqv ?_, Stab.eqv ?_, Stab.eqv ?_, Stab.eqv ?_, Stab.eqv ?_, Stab.eqv ?_, Stab.eqv ?_, Stab.eqv ?_, Stab.eqv ?_, Stab.eqv ?_, Stab.eqv ?_, Stab.eqv ?_, Stab.eqv ?_, Stab.eqv ?_, Stab.eqv ?_, Stab.eqv ?_, Stab.eqv ?_] HC1 (fun _ _ h hE => h.ext hE) ?goals7 ?last7
    case goals7 =>
     simp only [List.take_succ_cons, List.take_zero]
     iterate 5
      refine Stab.gp (fun us w _ hE hS hp hK => ?_) ?_
      ·((try have e0 : _ = _ := hp.1); (try have e1 : _ = _ := hp.2.1); (try have e2 : _ = _ := hp.2.2.1); obtain ⟨s0, _, _⟩ := hS; go_simp; exact hK _ _ (by show _ = _; with_reducible rfl) (Stab.Ext.refl _))
     refine Stab.Goals.plain rfl rfl (fun us w K hE hS hp hK => ?_) ?_
     ·obtain ⟨h4, -⟩ := hp
      replace h4 : us 4 = _ := h4
      go_simp
      go_wp2_with (go_at_call 135; refine (t7.out _).mono ?_; rintro e w1 ⟨rfl, rfl⟩)
      refine hK _ _ ?_ (Stab.Ext.refl _)
      show _ = _
      with_reducible rfl
     iterate 5
      refine Stab.gp (fun us w _ hE hS hp hK => ?_) ?_
      ·((try have e0 : _ = _ := hp.1); (try have e1 : _ = _ := hp.2.1); (try have e2 : _ = _ := hp.2.2.1); obtain ⟨s0, _, _⟩ := hS; go_simp; exact hK _ _ (by show _ = _; with_reducible rfl) (Stab.Ext.refl _))
     refine Stab.Goals.plain rfl rfl (fun us w K hE hS hp hK => ?_) ?_
     ·obtain ⟨h10, -⟩ := hp
      replace h10 : us 10 = _ := h10
      go_simp
      go_wp2_with (go_at_call 135; refine (t18.out _).mono ?_; rintro e w1 ⟨rfl, rfl⟩)
      refine hK _ _ ?_ (Stab.Ext.refl _)
      show _ = _
      with_reducible rfl
     iterate 9
      refine Stab.gp (fun us w _ hE hS hp hK => ?_) ?_
      ·((try have e0 : _ = _ := hp.1); (try have e1 : _ = _ := hp.2.1); (try have e2 : _ = _ := hp.2.2.1); obtain ⟨s0, _, _⟩ := hS; go_simp; exact hK _ _ (by show _ = _; with_reducible rfl) (Stab.Ext.refl _))
     exact Stab.Goals.nil
    case last7 =>
     intro us7 w7 hE7 hS7 hp7
     obtain ⟨h20, -⟩ := hp7
     replace h20 : us7 20 = _ := h20
     simp only [List.drop_succ_cons, List.drop_zero, h20]
     clear hS7 h20
     refine wpList_nil ?_
     go_wp2_with fail
     refine Stab.rg 21 [[], [], [1], [0, 2], [3], [4], [], [], [7], [6, 8], [9], [10], [5, 11], [], [], [14], [13, 15], [16], [17], [12, 18], [19]] [20] (C3 g2 j2.toNat j16.toNat j7.toNat (.int .u32 xb) (.int .u32 xc) (.int .u32 xd)) [Stab.eqv ?_, Stab.eqv ?_, Stab.eqv ?_, Stab.eqv ?_, Stab.eqv ?_, Stab.eqv ?_, Stab.eqv ?_, Stab.eqv ?_, Stab.eqv ?_, Stab.eqv ?_, Stab.eqv ?_, Stab.eqv ?_, Stab.eqv ?_, Stab.eqv ?_, Stab.eqv ?_, Stab.eqv ?_, Stab.eqv ?_, Stab.eqv ?_, Stab.eqv ?_, Stab.eqv ?_, Stab.eqv ?_] (HC2.ext (((Stab.Ext.drew _).trans hE7).trans (Stab.Ext.drew _))) (fun _ _ h hE => h.ext hE) ?goals8 ?last8
     case goals8 =>
      simp only [List.take_succ_cons, List.take_zero]
      iterate 5
       refine Stab.gp (fun us w _ hE hS hp hK => ?_) ?_
       ·((try have e0 : _ = _ := hp.1); (try have e1 : _ = _ := hp.2.1); (try have e2 : _ = _ := hp.2.2.1); obtain ⟨s0, _, _⟩ := hS; go_simp; exact hK _ _ (by show _ = _; with_reducible rfl) (Stab.Ext.refl _))
      refine Stab.Goals.plain rfl rfl (fun us w K hE hS hp hK => ?_) ?_
      ·obtain ⟨h4, -⟩ := hp
       replace h4 : us 4 = _ := h4
       go_simp
       go_wp2_with (go_at_call 135; refine (t17.out _).mono ?_; rintro e w1 ⟨rfl, rfl⟩)
       refine hK _ _ ?_ (Stab.Ext.refl _)
       show _ = _
       with_reducible rfl
      iterate 5
       refine Stab.gp (fun us w _ hE hS hp hK => ?_) ?_
       ·((try have e0 : _ = _ := hp.1); (try have e1 : _ = _ := hp.2.1); (try have e2 : _ = _ := hp.2.2.1); obtain ⟨s0, _, _⟩ := hS; go_simp; exact hK _ _ (by show _ = _; with_reducible rfl) (Stab.Ext.refl _))
      refine Stab.Goals.plain rfl rfl (fun us w K hE hS hp hK => ?_) ?_
      ·obtain ⟨h10, -⟩ := hp
       replace h10 : us 10 = _ := h10
       go_simp
       go_wp2_with (go_at_call 135; refine (t19.out _).mono ?_; rintro e w1 ⟨rfl, rfl⟩)
       refine hK _ _ ?_ (Stab.Ext.refl _)
       show _ = _
       with_reducible rfl
      iterate 9
       refine Stab.gp (fun us w _ hE hS hp hK => ?_) ?_
       ·((try have e0 : _ = _ := hp.1); (try have e1 : _ = _ := hp.2.1); (try have e2 : _ = _ := hp.2.2.1); obtain ⟨s0, _, _⟩ := hS; go_simp; exact hK _ _ (by show _ = _; with_reducible rfl) (Stab.Ext.refl _))
      exact Stab.Goals.nil
     case last8 =>
      intro us8 w8 hE8 hS8 hp8
      obtain ⟨h20, -⟩ := hp8
      replace h20 : us8 20 = _ := h20
      simp only [List.drop_succ_cons, List.drop_zero, h20]
      clear hS8 h20
      have E8 : Stab.Ext wr w8 := ((Stab.Ext.drew _).trans hE7).trans ((Stab.Ext.drew _).trans hE8)
      refine wpList_nil ?_
      go_wp2_with fail
      refine Stab.rg 17 [[], [], [], [2], [1, 3], [4], [], [], [7], [6, 8], [9], [5, 10], [], [11, 12], [], [13, 14], [15]] [0, 16] (C3 g2 j2.toNat j16.toNat j7.toNat (.int .u32 xb) (.int .u32 xc) (.int .u32 xd)) [Stab.eqv ?_, Stab.eqv ?_, Stab.eqv ?_, Stab.eqv ?_, Stab.eqv ?_, Stab.eqv ?_, Stab.eqv ?_, Stab.eqv ?_, Stab.eqv ?_, Stab.eqv ?_, Stab.eqv ?_, Stab.eqv ?_, Stab.eqv ?_, Stab.eqv ?_, Stab.eqv ?_, Stab.eqv ?_, Stab.newrow wr.heap.size 171 #[.int .u32 x] 1 1] (HC2.ext (E8.trans (Stab.Ext.drew _))) (fun _ _ h hE => h.ext hE) ?goals9 ?last9
      case goals9 =>
       simp only [List.take_succ_cons, List.take_zero]
       iterate 16
        refine Stab.gp (fun us w _ hE hS hp hK => ?_) ?_
        ·((try have e0 : _ = _ := hp.1); (try have e1 : _ = _ := hp.2.1); (try have e2 : _ = _ := hp.2.2.1); obtain ⟨_, s0, s1⟩ := hS; go_simp; exact hK _ _ (by show _ = _; with_reducible rfl) (Stab.Ext.refl _))
       refine Stab.Goals.plain rfl rfl (fun us w K hE hS hp hK => ?_) ?_
       ·obtain ⟨h15, -⟩ := hp
        replace h15 : us 15 = _ := h15
        go_simp
        exact hK _ _ ⟨_, rfl, Nat.le_trans E8.size hE.size, Blk.new _ _ _⟩ (Stab.Ext.alloc _ _)
       exact Stab.Goals.nil
      case last9 =>
       intro us w' hE hS hp
       obtain ⟨h0, ⟨gb, e16, hgb, hbk⟩, -⟩ := hp
       replace h0 : us 0 = _ := h0
       simp only [List.drop_succ_cons, List.drop_zero, h0, e16]
       have hE9 : Stab.Ext wr w' := E8.trans ((Stab.Ext.drew _).trans hE)
       have hbw : Below w.heap.size w w' := HBL.out.trans (Below.mono hE9 hb0)
       have hz := hbw.size
       have hvw := own_below HV.out hE9
       obtain ⟨g5, c5, w5, hrun, hown', hgrow, _, _⟩ := run_append_lies (P := Tryz.prog) w' 166 166 w.heap.size 171 i0 (.int .u32 0) 1 4 Tryz.underlying166 hi hz0 hz1 hz2 rfl (by decide) (.slice (some ⟨g2, 0, none⟩) k cap') k (u32s l) hvw ⟨gb, 0, none⟩ 1 1 [.int .u32 x] rfl (Stab.cells_blk hbk) (by simp [Value.oneCell']) (by omega) (by unfold maxLen; omega) (by omega) (by omega) _ rfl
       have HB4 := Lib.hid (show Below w.heap.size w w5 from hbw.grown hgrow hbw.size (fun kk e => (hvw.lt kk e).1))
       have HO := Lib.hid hown'
       replace hrun : (appSem #[166, 166] 166 #[.slice (some ⟨g2, 0, none⟩) k cap', .slice (some ⟨gb, 0, none⟩) 1 1]).run Tryz.prog w' = .ok (.slice (some ⟨g5, 0, none⟩) (k + 1) c5) w5 := hrun
       clear hgrow hown' hE hS h0 e16 hbw hvw hbk
       go_wp2_with fail
       go_roundw
       case rel => exact ⟨k + 1, l ++ [x], by omega, by rw [List.length_append, HL.out]; rfl, by go_num, HSL.out, .inr ⟨by omega, HG.out⟩, by simpa [u32s] using HO.out, HB4.out⟩
       case measure => simp [intOf]; omega
   ·have hS : l = sched b := by
     rcases hcs with ⟨h1, _⟩ | ⟨_, h⟩
     ·omega
     ·have e : 64 - k = 0 := by omega
      rw [e] at h
      exact h
    have hk64 : k = 64 := by omega
    obtain ⟨g2, cur2, rfl, hg2, hB2, hc2⟩ := hrf (by omega)
    have E1 : ¬ ((k : Int) < 64) := by omega
    have hlr : ∀ j, j < 64 → wr.cell? ⟨g2, j, none⟩ = some (.int .u32 ((sched b).getD j 0)) := fun j hj => by
     rw [hB2.cell]
     apply hc2
     rw [hS]
     simp [u32s, List.getD, show j < (sched b).length by rw [sched_length]; exact hj]
    have HLR := Lib.hid hlr
    have HRR := Lib.hid (fun j (hj : j < 64) => (hbl.cell (p := ⟨gr, j, none⟩) hgr).trans (hrr j hj))
    have hn8 : N8 gn s wr := ⟨(hbl.cell (p := ⟨gn, 0, none⟩) hgn).trans (hn 0 (by omega)), (hbl.cell (p := ⟨gn, 1, none⟩) hgn).trans (hn 1 (by omega)), (hbl.cell (p := ⟨gn, 2, none⟩) hgn).trans (hn 2 (by omega)), (hbl.cell (p := ⟨gn, 3, none⟩) hgn).trans (hn 3 (by omega)),
     (hbl.cell (p := ⟨gn, 4, none⟩) hgn).trans (hn 4 (by omega)), (hbl.cell (p := ⟨gn, 5, none⟩) hgn).trans (hn 5 (by omega)), (hbl.cell (p := ⟨gn, 6, none⟩) hgn).trans (hn 6 (by omega)), (hbl.cell (p := ⟨gn, 7, none⟩) hgn).trans (hn 7 (by omega))⟩
    have HN := Lib.hid hn8
    have HBL := Lib.hid hbl
    have HOK := Lib.hid hs
    clear hlr hrr hn hbl hn8 hS hcs hsl hl hrf hv hc2 hB2 hrow hs hk
    subst hk64
    obtain ⟨wo, rfl⟩ : ∃ wo : World, wo = wr := ⟨_, rfl⟩
    go_wp2_with fail
    refine Stab.rg 32 [[], [0], [1], [], [3], [4], [], [6], [7], [], [9], [10], [], [12], [13], [], [15], [16], [], [18], [19], [], [21], [22], [2], [5], [8], [11], [14], [17], [20], [23]] [24, 25, 26, 27, 28, 29, 30, 31] (N8 gn s) [Stab.eqv ?_, Stab.eqv ?_, Stab.eqv ?_, Stab.eqv ?_, Stab.eqv ?_, Stab.eqv ?_, Stab.eqv ?_, Stab.eqv ?_, Stab.eqv ?_, Stab.eqv ?_, Stab.eqv ?_, Stab.eqv ?_, Stab.eqv ?_, Stab.eqv ?_, Stab.eqv ?_, Stab.eqv ?_, Stab.eqv ?_, Stab.eqv ?_, Stab.eqv ?_, Stab.eqv ?_, Stab.eqv ?_, Stab.eqv ?_, Stab.eqv ?_, Stab.eqv ?_, Stab.eqv ?_, Stab.eqv ?_, Stab.eqv ?_, Stab.eqv ?_, Stab.eqv ?_, Stab.eqv ?_, Stab.eqv ?_, Stab.eqv ?_] HN.out (fun _ _ h hE => h.ext hE) ?goals10 ?last10
    case goals10 =>
     simp only [List.take_succ_cons, List.take_zero]
     iterate 32
      refine Stab.gp (fun us w _ hE hS hp hK => ?_) ?_
      ·((try have e0 : _ = _ := hp.1); (try have e1 : _ = _ := hp.2.1); (try have e2 : _ = _ := hp.2.2.1); obtain ⟨s0, s1, s2, s3, s4, s5, s6, s7⟩ := hS; go_simp; exact hK _ _ (by show _ = _; with_reducible rfl) (Stab.Ext.refl _))
     exact Stab.Goals.nil
    case last10 =>
     intro us10 w10 hE10 hS10 hp10
     obtain ⟨h24, h25, h26, h27, h28, h29, h30, h31, -⟩ := hp10
     replace h24 : us10 24 = .int .u32 s.a := h24
     replace h25 : us10 25 = .int .u32 s.b := h25
     replace h26 : us10 26 = .int .u32 s.c := h26
     replace h27 : us10 27 = .int .u32 s.d := h27
     replace h28 : us10 28 = .int .u32 s.e := h28
     replace h29 : us10 29 = .int .u32 s.f := h29
     replace h30 : us10 30 = .int .u32 s.g := h30
     replace h31 : us10 31 = .int .u32 s.h := h31
     simp only [List.drop_succ_cons, List.drop_zero, h24, h25, h26, h27, h28, h29, h30, h31]
     have X10 := Lib.hid ((Stab.Ext.drew wo).trans hE10)
     have HN10 := Lib.hid hS10
     clear hS10 h24 h25 h26 h27 h28 h29 h30 h31 hE10
     refine wpList_nil ?_
     go_wp2_with fail
     go_loopw [19, 11, 12, 13, 14, 15, 16, 17, 18] (fun i a b' c d e f g h w' => ∃ k : Nat, k ≤ 64 ∧ i = .int .i64 (k : Int) ∧ Eight (rounds r (sched b) k s) a b' c d e f g h ∧ Stab.Ext wo w') (fun i _ _ _ _ _ _ _ _ _ => 64 - (intOf i).toNat)
     case atStart => exact ⟨0, by omega, rfl, ⟨rfl, rfl, rfl, rfl, rfl, rfl, rfl, rfl⟩, X10.out⟩
     case round =>
      obtain ⟨k, hk, rfl, ⟨rfl, rfl, rfl, rfl, rfl, rfl, rfl, rfl⟩, hX⟩ := hrel
      have hok := rounds_ok r (sched b) k s HOK.out
      by_cases hlt : k < 64
      ·have hrnd : rounds r (sched b) (k + 1) s = rnd (r.getD k 0) ((sched b).getD k 0) (rounds r (sched b) k s) := rfl
       have hC : C2 gr g2 k (.int .u32 (r.getD k 0)) (.int .u32 ((sched b).getD k 0)) wo := ⟨HRR.out k hlt, HLR.out k hlt⟩
       generalize rounds r (sched b) k s = t at *
       have e64 : (k : Int) < 64 := by omega
       generalize r.getD k 0 = rk at *
       generalize (sched b).getD k 0 = x at *
       have hXd : xw rk x t = (t.h + big1 t.e + chw t.e t.f t.g + rk + x) % 4294967296 := rfl
       have hYd : yw t = (big0 t.a + majw t.a t.b t.c) % 4294967296 := rfl
       have hRd : rnd rk x t = ⟨(xw rk x t + yw t) % 4294967296, t.a, t.b, t.c, (t.d + xw rk x t) % 4294967296, t.e, t.f, t.g⟩ := rfl
       have l1 : bits .xor .u32 (bits .xor .u32 (rotr t.e 6) (rotr t.e 11)) (rotr t.e 25) = big1 t.e := rfl
       have l2 : bits .xor .u32 (if IntKind.u32.signed = true then -1 else IntKind.u32.max) t.e = notw t.e := rfl
       have l3 : bits .xor .u32 (bits .and .u32 t.e t.f) (bits .and .u32 (notw t.e) t.g) = chw t.e t.f t.g := rfl
       have l4 : bits .xor .u32 (bits .xor .u32 (rotr t.a 2) (rotr t.a 13)) (rotr t.a 22) = big0 t.a := rfl
       have l5 : bits .xor .u32 (bits .xor .u32 (bits .and .u32 t.a t.b) (bits .and .u32 t.a t.c)) (bits .and .u32 t.b t.c) = majw t.a t.b t.c := rfl
       generalize big1 t.e = B1 at *
       generalize notw t.e = NE at *
       generalize chw t.e t.f t.g = CH at *
       generalize big0 t.a = B0 at *
       generalize majw t.a t.b t.c = MJ at *
       generalize xw rk x t = X at *
       generalize yw t = Y at *
       obtain ⟨f1, hf1⟩ : ∃ f : Int, IntKind.u32.wrap (t.h + B1) = f := ⟨_, rfl⟩
       obtain ⟨f2, hf2⟩ : ∃ f : Int, IntKind.u32.wrap (f1 + CH) = f := ⟨_, rfl⟩
       obtain ⟨f3, hf3⟩ : ∃ f : Int, IntKind.u32.wrap (f2 + rk) = f := ⟨_, rfl⟩
       have hf4 : IntKind.u32.wrap (f3 + x) = X := by
        rw [hXd, ← hf3, ← hf2, ← hf1]; simp only [IntKind.wrap_u32']; omega
       have HY := Lib.hid hYd.symm
       rw [hRd] at hrnd
       clear hXd hYd hRd
       have HRN := Lib.hid hrnd
       have HX := Lib.hid hX
       obtain ⟨oa, ob, oc, od, oe, of_, og, oh⟩ := hok
       have t6 := Lib.hid (fun (W : World) => R1.turn_any t.e 6 6 rfl oe.1 oe.2 (by omega) (by omega) W)
       have t11 := Lib.hid (fun (W : World) => R1.turn_any t.e 11 11 rfl oe.1 oe.2 (by omega) (by omega) W)
       have t25 := Lib.hid (fun (W : World) => R1.turn_any t.e 25 25 rfl oe.1 oe.2 (by omega) (by omega) W)
       have t2 := Lib.hid (fun (W : World) => R1.turn_any t.a 2 2 rfl oa.1 oa.2 (by omega) (by omega) W)
       have t13 := Lib.hid (fun (W : World) => R1.turn_any t.a 13 13 rfl oa.1 oa.2 (by omega) (by omega) W)
       have t22 := Lib.hid (fun (W : World) => R1.turn_any t.a 22 22 rfl oa.1 oa.2 (by omega) (by omega) W)
       have HC := Lib.hid (hC.ext hX)
       clear hrnd hX hC oa ob oc od oe of_ og oh
       go_wp2_with fail
       refine Stab.rg 30 [[], [], [1], [], [3], [2, 4], [], [6], [5, 7], [0, 8], [], [], [10, 11], [], [13], [], [14, 15], [12, 16], [9, 17], [], [], [19, 20], [21], [18, 22], [], [], [24, 25], [26], [23, 27], [28]] [29] (C2 gr g2 k (.int .u32 rk) (.int .u32 x)) [Stab.eqv ?_, Stab.eqv ?_, Stab.eqv ?_, Stab.eqv ?_, Stab.eqv ?_, Stab.eqv ?_, Stab.eqv ?_, Stab.eqv ?_, Stab.eqv ?_, Stab.eqv ?_, Stab.eqv ?_, Stab.eqv ?_, Stab.eqv ?_, Stab.eqv ?_, Stab.eqv ?_, Stab.eqv ?_, Stab.eqv ?_, Stab.eqv ?_, Stab.eqv ?_, Stab.eqv ?_, Stab.eqv ?_, Stab.eqv ?_, Stab.eqv ?_, Stab.eqv ?_, Stab.eqv ?_, Stab.eqv ?_, Stab.eqv ?_, Stab.eqv ?_, Stab.eqv ?_, Stab.eqv ?_] HC.out (fun _ _ h hE => h.ext hE) ?goals14 ?last14
       case goals14 =>
        simp only [List.take_succ_cons, List.take_zero]
        iterate 2
         refine Stab.gp (fun us w _ hE hS hp hK => ?_) ?_
         ·((try have e0 : _ = _ := hp.1); (try have e1 : _ = _ := hp.2.1); (try have e2 : _ = _ := hp.2.2.1); obtain ⟨s0, s1⟩ := hS; go_simp; exact hK _ _ (by show _ = _; with_reducible rfl) (Stab.Ext.refl _))
        refine Stab.Goals.plain rfl rfl (fun us w K hE hS hp hK => ?_) ?_
        ·obtain ⟨h1, -⟩ := hp
         replace h1 : us 1 = _ := h1
         go_simp
         go_wp2_with (go_at_call 135; refine (t6.out _).mono ?_; rintro e w1 ⟨rfl, rfl⟩)
         refine hK _ _ ?_ (Stab.Ext.refl _)
         show _ = _
         with_reducible rfl
        refine Stab.gp (fun us w _ hE hS hp hK => ?_) ?_
        ·((try have e0 : _ = _ := hp.1); (try have e1 : _ = _ := hp.2.1); (try have e2 : _ = _ := hp.2.2.1); obtain ⟨s0, s1⟩ := hS; go_simp; exact hK _ _ (by show _ = _; with_reducible rfl) (Stab.Ext.refl _))
        refine Stab.Goals.plain rfl rfl (fun us w K hE hS hp hK => ?_) ?_
        ·obtain ⟨h3, -⟩ := hp
         replace h3 : us 3 = _ := h3
         go_simp
         go_wp2_with (go_at_call 135; refine (t11.out _).mono ?_; rintro e w1 ⟨rfl, rfl⟩)
         refine hK _ _ ?_ (Stab.Ext.refl _)
         show _ = _
         with_reducible rfl
        iterate 2
         refine Stab.gp (fun us w _ hE hS hp hK => ?_) ?_
         ·((try have e0 : _ = _ := hp.1); (try have e1 : _ = _ := hp.2.1); (try have e2 : _ = _ := hp.2.2.1); obtain ⟨s0, s1⟩ := hS; go_simp; exact hK _ _ (by show _ = _; with_reducible rfl) (Stab.Ext.refl _))
        refine Stab.Goals.plain rfl rfl (fun us w K hE hS hp hK => ?_) ?_
        ·obtain ⟨h6, -⟩ := hp
         replace h6 : us 6 = _ := h6
         go_simp
         go_wp2_with (go_at_call 135; refine (t25.out _).mono ?_; rintro e w1 ⟨rfl, rfl⟩)
         refine hK _ _ ?_ (Stab.Ext.refl _)
         show _ = _
         with_reducible rfl
        iterate 22
         refine Stab.gp (fun us w _ hE hS hp hK => ?_) ?_
         ·((try have e0 : _ = _ := hp.1); (try have e1 : _ = _ := hp.2.1); (try have e2 : _ = _ := hp.2.2.1); obtain ⟨s0, s1⟩ := hS; go_simp; exact hK _ _ (by show _ = _; with_reducible rfl) (Stab.Ext.refl _))
        exact Stab.Goals.nil
       case last14 =>
        intro us w' hE hS hp
        obtain ⟨h29, -⟩ := hp
        replace h29 : us 29 = .int .u32 X := h29
        simp only [List.drop_succ_cons, List.drop_zero, h29]
        have HX2 := Lib.hid ((HX.out.trans (Stab.Ext.drew _)).trans hE)
        clear h29 hS hE
        refine wpList_nil ?_
        go_wp2_with (first
         | (go_at_call 135; ((with_reducible refine (t2.out _).mono ?_); rintro e w1 ⟨rfl, rfl⟩))
         | (go_at_call 135; ((with_reducible refine (t13.out _).mono ?_); rintro e w1 ⟨rfl, rfl⟩))
         | (go_at_call 135; ((with_reducible refine (t22.out _).mono ?_); rintro e w1 ⟨rfl, rfl⟩)))
        rw [HY.out]
        refine ⟨?_, ?measure⟩
        (repeat apply Exists.intro)
        refine ⟨?rel, rfl⟩
        case rel =>
         refine ⟨k + 1, by omega, by go_num, ?_, HX2.out⟩
         rw [HRN.out]
         refine ⟨?_, rfl, rfl, rfl, ?_, rfl, rfl, rfl⟩ <;> rfl
        case measure => simp [intOf]; omega
      ·have hk64 : k = 64 := by omega
       subst hk64
       have e64 : ¬ ((64 : Int) < 64) := by omega
       generalize ht : rounds r (sched b) 64 s = t at *
       have HT := Lib.hid ht
       have HX := Lib.hid hX
       have HNX := Lib.hid (HN.out.ext hX)
       obtain ⟨o1, ho1⟩ : ∃ o : St, addSt s t = o := ⟨_, rfl⟩
       have hadd : addSt s t = ⟨(s.a + t.a) % 4294967296, (s.b + t.b) % 4294967296, (s.c + t.c) % 4294967296, (s.d + t.d) % 4294967296, (s.e + t.e) % 4294967296, (s.f + t.f) % 4294967296, (s.g + t.g) % 4294967296, (s.h + t.h) % 4294967296⟩ := rfl
       rw [hadd] at ho1
       obtain ⟨oa, ob, oc, od, oe, of_, og, oh⟩ := o1
       injection ho1 with y1 y2 y3 y4 y5 y6 y7 y8
       have z1 : IntKind.u32.wrap (s.a + t.a) = oa := by rw [IntKind.wrap_u32']; exact y1
       have z2 : IntKind.u32.wrap (s.b + t.b) = ob := by rw [IntKind.wrap_u32']; exact y2
       have z3 : IntKind.u32.wrap (s.c + t.c) = oc := by rw [IntKind.wrap_u32']; exact y3
       have z4 : IntKind.u32.wrap (s.d + t.d) = od := by rw [IntKind.wrap_u32']; exact y4
       have z5 : IntKind.u32.wrap (s.e + t.e) = oe := by rw [IntKind.wrap_u32']; exact y5
       have z6 : IntKind.u32.wrap (s.f + t.f) = of_ := by rw [IntKind.wrap_u32']; exact y6
       have z7 : IntKind.u32.wrap (s.g + t.g) = og := by rw [IntKind.wrap_u32']; exact y7
       have z8 : IntKind.u32.wrap (s.h + t.h) = oh := by rw [IntKind.wrap_u32']; exact y8
       have HO : Hid (comp r b s = ⟨oa, ob, oc, od, oe, of_, og, oh⟩) := Lib.hid (by
        show addSt s (rounds r (sched b) 64 s) = _
        rw [HT.out, hadd, y1, y2, y3, y4, y5, y6, y7, y8])
       clear ht hX hadd y1 y2 y3 y4 y5 y6 y7 y8 hok
       go_wp2_with fail
       refine Stab.rg 42 [[], [0], [1], [], [2, 3], [], [5], [6], [], [7, 8], [], [10], [11], [], [12, 13], [], [15], [16], [], [17, 18], [], [20], [21], [], [22, 23], [], [25], [26], [], [27, 28], [], [30], [31], [], [32, 33], [], [35], [36], [], [37, 38], [4, 9, 14, 19, 24, 29, 34, 39], [40]] [41] (N8 gn s) [Stab.eqv ?_, Stab.eqv ?_, Stab.eqv ?_, Stab.eqv ?_, Stab.eqv ?_, Stab.eqv ?_, Stab.eqv ?_, Stab.eqv ?_, Stab.eqv ?_, Stab.eqv ?_, Stab.eqv ?_, Stab.eqv ?_, Stab.eqv ?_, Stab.eqv ?_, Stab.eqv ?_, Stab.eqv ?_, Stab.eqv ?_, Stab.eqv ?_, Stab.eqv ?_, Stab.eqv ?_, Stab.eqv ?_, Stab.eqv ?_, Stab.eqv ?_, Stab.eqv ?_, Stab.eqv ?_, Stab.eqv ?_, Stab.eqv ?_, Stab.eqv ?_, Stab.eqv ?_, Stab.eqv ?_, Stab.eqv ?_, Stab.eqv ?_, Stab.eqv ?_, Stab.eqv ?_, Stab.eqv ?_, Stab.eqv ?_, Stab.eqv ?_, Stab.eqv ?_, Stab.eqv ?_, Stab.eqv ?_, Stab.newrow wr.heap.size 171 (St.mk oa ob oc od oe of_ og oh).cells 8 8, Stab.newrow wr.heap.size 171 (St.mk oa ob oc od oe of_ og oh).cells 8 8] HNX.out (fun _ _ h hE => h.ext hE) ?goals24 ?last24
       case goals24 =>
        simp only [List.take_succ_cons, List.take_zero]
        iterate 40
         refine Stab.gp (fun us w _ hE hS hp hK => ?_) ?_
         ·((try have e0 : _ = _ := hp.1); (try have e1 : _ = _ := hp.2.1); (try have e2 : _ = _ := hp.2.2.1); obtain ⟨s0, s1, s2, s3, s4, s5, s6, s7⟩ := hS; go_simp; exact hK _ _ (by show _ = _; with_reducible rfl) (Stab.Ext.refl _))
        refine Stab.Goals.plain rfl rfl (fun us w K hE hS hp hK => ?_) ?_
        ·obtain ⟨h4, h9, h14, h19, h24, h29, h34, h39, -⟩ := hp
         replace h4 : us 4 = _ := h4
         replace h9 : us 9 = _ := h9
         replace h14 : us 14 = _ := h14
         replace h19 : us 19 = _ := h19
         replace h24 : us 24 = _ := h24
         replace h29 : us 29 = _ := h29
         replace h34 : us 34 = _ := h34
         replace h39 : us 39 = _ := h39
         go_simp
         exact hK _ _ ⟨_, rfl, hE.size, Blk.new _ _ _⟩ (Stab.Ext.alloc _ _)
        refine Stab.Goals.plain rfl rfl (fun us w K hE hS hp hK => ?_) ?_
        ·obtain ⟨h40, -⟩ := hp
         obtain ⟨gv, e40, hgv, hbk⟩ := h40
         go_simp
         exact hK _ _ ⟨gv, rfl, hgv, hbk⟩ (Stab.Ext.refl _)
        exact Stab.Goals.nil
       case last24 =>
        intro us w' hE hS hp
        obtain ⟨⟨gv, e41, hgv, hbk⟩, -⟩ := hp
        simp only [List.drop_succ_cons, List.drop_zero, e41]
        have hX2 := (HX.out.trans (Stab.Ext.drew _)).trans hE
        have hbw : Below w.heap.size w w' := HBL.out.trans (Below.mono hX2 hb0)
        have HB := Lib.hid hbk
        have HW := Lib.hid hbw
        have HG := Lib.hid (Nat.le_trans hb0 (Nat.le_trans HX.out.size hgv))
        clear hbk hbw hX2 hE hS e41 hgv
        refine wpList_nil ?_
        go_wp2_with fail
        go_ret
        exact ⟨gv, _, rfl, HG.out, by rw [HO.out]; exact HB.out, HW.out⟩
end R1
end Go.Proofs.YtnbkhdbligjifaaGreatDoor
