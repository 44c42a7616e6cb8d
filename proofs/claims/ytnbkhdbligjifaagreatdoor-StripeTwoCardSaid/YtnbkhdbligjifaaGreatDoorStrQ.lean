/-
 The stripe laws: the example holds (works). The stripe laws: what strikes keep, in plain words; a world of no stores, or too many. The law StripeKept in plain words: one object a store, or none; what a crash and a second write leave; what is counted. The stripe package: which shards are sound (Shards). The law StripeTold: the walk.
-/
import Derived.Test.YtnbkhdbligjifaaGreatDoorStrO
import Derived.Test.YtnbkhdbligjifaaGreatDoorStrA
import Derived.Test.YtnbkhdbligjifaaGreatDoorStrE
import Derived.Test.YtnbkhdbligjifaaGreatDoorStrF
import Derived.Test.YtnbkhdbligjifaaGreatDoorStoI
set_option linter.unusedVariables false
set_option linter.unusedSimpArgs false
set_option maxRecDepth 100000
set_option maxHeartbeats 40000000
namespace Go.Proofs.YtnbkhdbligjifaaGreatDoor
open Go Go.RowKit Vm
namespace Str
open Hlt
structure Born (w : World) (cb b : Nat) (p : PW) (O : List Nat) (W : World) : Prop where
 wb : WB w [] b p O W
 cb : cb ∉ O
section
variable {w W W' : World} {cb b : Nat} {p p' : PW} {O O' X : List Nat}
theorem Born.next (h : Born w cb b p O W) (h2 : WB W O b p' O' W') (hc : cb < W.heap.size) : Born w cb b p' O' W' :=
 ⟨wb_trans h.wb h2, fun hm => by
  rcases h2.own _ hm with h3 | h3
  ·exact h.cb h3
  ·omega⟩
theorem Born.op (h : Born w cb b p O W) {v : Value} {e : Ending} (hp : WPost W b O v p' e W') (hc : cb < W.heap.size) : ∃ O', Born w cb b p' O' W' ∧ Fr O W W' ∧ ∀ k, k ∈ O' → k ∈ O ∨ W.heap.size ≤ k := by
 obtain ⟨_, O', h1, h2, h3⟩ := hp
 exact ⟨O', h.next ⟨h1, h2, h3⟩ hc, h2, h3⟩
theorem Born.keep (h : Born w cb b p O W) (hf : Fr X W W') (hX : ∀ k, k ∈ X → k ∉ O ∧ w.heap.size ≤ k) : Born w cb b p O W' := ⟨h.wb.keep hf hX, h.cb⟩
theorem Born.ext (h : Born w cb b p O W) (hE : Stab.Ext W W') : Born w cb b p O W' := ⟨h.wb.ext hE, h.cb⟩
theorem Born.low (h : Born w cb b p O W) : ∀ k, k ∈ O → w.heap.size ≤ k := fun k hk => (h.wb.own k hk).resolve_left (by simp)
theorem Born.far (h : Born w cb b p O W) (hG : Tryz.prog.globals.size ≤ w.heap.size) : Far O := fun k hk => Nat.le_trans hG (h.low k hk)
theorem Born.vars (h : Born w cb b p O W) (hv : Shd.Vars w) : Shd.Vars W := vars_fr hv h.wb.fr (fun k hk => by cases hk)
theorem Born.below (h : Born w cb b p O W) : Below w.heap.size w W := h.wb.fr.below
theorem Born.at_ (h : Born w cb b p O W) : WAt W b p O := h.wb.at_
end
structure CAt (cb : Nat) (k n : Int) (W : World) : Prop where
 blk : Blk W cb 25 #[.int .i64 k, .int .i64 n]
theorem CAt.keep {cb : Nat} {k n : Int} {W W' : World} {X : List Nat} (h : CAt cb k n W) (hf : Fr X W W') (hX : cb ∉ X) : CAt cb k n W' := ⟨hf.blk h.blk hX⟩
theorem CAt.ext {cb : Nat} {k n : Int} {W W' : World} (h : CAt cb k n W) (hE : Stab.Ext W W') : CAt cb k n W' := ⟨h.blk.below hE h.blk.lt⟩
theorem CAt.c0 {cb : Nat} {k n : Int} {W : World} (h : CAt cb k n W) : W.cell? ⟨cb, 0, none⟩ = some (.int .i64 k) := h.blk.cell 0
theorem CAt.c1 {cb : Nat} {k n : Int} {W : World} (h : CAt cb k n W) : W.cell? ⟨cb, 1, none⟩ = some (.int .i64 n) := h.blk.cell 1
def blobB : ByteArray := ⟨#[98, 108, 111, 98]⟩
def TrueP (w : World) (e : Ending) (w' : World) : Prop := e = .returned (.bool true) ∧ Below w.heap.size w w'
theorem works_true (w : World) (hv : Shd.Vars w) (hG : Tryz.prog.globals.size ≤ w.heap.size) : Calls Tryz.prog 26 #[] w (TrueP w) := by
 have hcode : Shd.codeB ((2 : Nat) : Int) ((3 : Nat) : Int) = true := by decide
 obtain ⟨s, hs⟩ : ∃ s, s = blobB := ⟨_, rfl⟩
 have hsz : s.size = 4 := by rw [hs]; rfl
 obtain ⟨d, hd⟩ : ∃ d, d = dgB s := ⟨_, rfl⟩
 have hN : Num 2 3 d s := ⟨hcode, by rw [hd]; exact dgB_size s, by omega⟩
 have HSB := Lib.hid (show (⟨#[98, 108, 111, 98]⟩ : ByteArray) = s from hs.symm)
 clear hs
 have HN := Lib.hid hN
 have HD := Lib.hid hd
 have HV := Lib.hid hv
 have HG := Lib.hid hG
 have HNEW := Lib.hid (show ∀ w : World, Tryz.prog.globals.size ≤ w.heap.size → Calls Tryz.prog 139 #[] w (Spr.NewPost w) from fun w _ => Fld.new_any w)
 obtain ⟨p1, p2, x0, x1, p3, p4, hX⟩ := exm_is hN hd
 have HX := Lib.hid hX
 have HSUM := Lib.hid (show ∀ W : World, Calls Tryz.prog 33 #[.string ⟨#[98, 108, 111, 98]⟩] W fun e w' => e = .returned (.string d) ∧ Below W.heap.size W w' from fun W => by
  rw [HSB.out, hd]
  exact Sha.sum_any s (by omega) W)
 clear hN hd hv hG hX
 go_enter Tryz.func26, Tryz.ntmps26
 go_wp2_with (go_at_call 56; with_reducible refine (three_any _).mono ?_)
 rintro e w1 ⟨b, O, rfl, hlow, hat, hb1⟩
 have hE2 := Stab.Ext.alloc w1 (.cells #[.int .i64 2, .int .i64 3] 25)
 have hB : Born w w1.heap.size b (newP 3) O (w1.alloc (.cells #[.int .i64 2, .int .i64 3] 25)) :=
  ⟨(⟨hat, Fr.of_below (O := []) hb1, fun k hk => .inr (hlow k hk)⟩ : WB w [] b (newP 3) O w1).ext hE2, fun hm => by have := hat.lt _ hm; omega⟩
 have hC : CAt w1.heap.size 2 3 (w1.alloc (.cells #[.int .i64 2, .int .i64 3] 25)) := ⟨Blk.new w1 25 #[.int .i64 2, .int .i64 3]⟩
 have hcb : w1.heap.size < (w1.alloc (.cells #[.int .i64 2, .int .i64 3] 25)).heap.size := hC.blk.lt
 have hcw : w.heap.size ≤ w1.heap.size := (show Stab.Ext w w1 from hb1).size
 clear hat hlow hb1 hE2
 generalize hw2 : w1.alloc (.cells #[.int .i64 2, .int .i64 3] 25) = w2 at *
 have HW2 := Lib.hid hw2.symm
 clear hw2
 have k0 := hC.c0
 have k1 := hC.c1
 have HC1 := Lib.hid (show Calls Tryz.prog 34 #[.pointer (some ⟨b, 0, none⟩), .agg #[.int .i64 2, .int .i64 3], .string ⟨#[98, 108, 111, 98]⟩] w2 (CallsP w2 O b (newP 3) 2 3 s) from by
  rw [HSB.out]
  exact callsN_any HNEW.out (Nat.le_trans HG.out hB.below.size) (hB.vars HV.out) hB.at_ 2 3 hcode rfl s (by omega) (newP_well 3).bnd (by omega) (by omega))
 have HB := Lib.hid hB
 have HC := Lib.hid hC
 clear hB hC
 go_wp2_with (go_at_call 34; rw [← HW2.out]; with_reducible refine HC1.out.mono ?_)
 rintro e w3 ⟨O3, rfl, hwb3⟩
 rw [HX.out.w1] at hwb3
 rw [HX.out.c1]
 have hB3 := HB.out.next hwb3 hcb
 have hC3 := HC.out.keep hwb3.fr HB.out.cb
 have hcb3 := hC3.blk.lt
 have k0 := hC3.c0
 have k1 := hC3.c1
 have HC2 := Lib.hid (show Calls Tryz.prog 34 #[.pointer (some ⟨b, 0, none⟩), .agg #[.int .i64 2, .int .i64 3], .string ⟨#[98, 108, 111, 98]⟩] w3 (CallsP w3 O3 b p1 2 3 s) from by
  rw [HSB.out]
  exact callsN_any HNEW.out (Nat.le_trans HG.out hB3.below.size) (hB3.vars HV.out) hB3.at_ 2 3 hcode HX.out.n1 s (by omega) HX.out.b1 (by omega) (by omega))
 have HB3 := Lib.hid hB3
 have HC3 := Lib.hid hC3
 clear hB3 hC3 hwb3 HC1 HB HC
 go_wp2_with (go_at_call 34; with_reducible refine HC2.out.mono ?_)
 rintro e w4 ⟨O4, rfl, hwb4⟩
 rw [HX.out.w2] at hwb4
 rw [HX.out.c2]
 have hB4 := HB3.out.next hwb4 hcb3
 have hC4 := HC3.out.keep hwb4.fr HB3.out.cb
 have HSM := Lib.hid (show ∀ i, Small (p2.st i).seen from fun i => ((HX.out.b2 i).ok (by omega) (by omega)).small)
 have HO0 := Lib.hid (show Calls Tryz.prog 17 #[.pointer (some ⟨b, 0, none⟩), .int .i64 0] w4 (WObjsPost w4 p2 0) from wobjects_any hB4.at_ 0 (HSM.out _))
 have HB4 := Lib.hid hB4
 have HC4 := Lib.hid hC4
 clear hB4 hC4 hwb4 HC2 HB3 HC3
 go_wp2_with (go_at_call 17; with_reducible refine HO0.out.mono ?_)
 rintro e w5 ⟨v5, rfl, ho5, hb5⟩
 rw [HX.out.k0] at ho5
 obtain ⟨A5, c5, hv5⟩ := ho5.shape
 subst hv5
 have hb5' : Stab.Ext w4 w5 := hb5
 have HB5 := Lib.hid (HB4.out.ext hb5')
 have HC5 := Lib.hid (HC4.out.ext hb5')
 have HO2 := Lib.hid (show Calls Tryz.prog 17 #[.pointer (some ⟨b, 0, none⟩), .int .i64 2] w5 (WObjsPost w5 p2 2) from wobjects_any HB5.out.at_ 2 (HSM.out _))
 clear ho5 hb5 hb5' HO0 HB4 HC4
 go_wp2_with (go_at_call 17; with_reducible refine HO2.out.mono ?_)
 rintro e w6 ⟨v6, rfl, ho6, hb6⟩
 rw [HX.out.k2] at ho6
 obtain ⟨A6, c6, hv6⟩ := ho6.shape
 subst hv6
 have hb6' : Stab.Ext w5 w6 := hb6
 have HB6 := Lib.hid (HB5.out.ext hb6')
 have HC6 := Lib.hid (HC5.out.ext hb6')
 have HT6 := Lib.hid (three_any w6)
 clear ho6 hb6 hb6' HO2 HB5 HC5
 go_wp2_with (go_at_call 56; with_reducible refine HT6.out.mono ?_)
 rintro e w7 ⟨b2, P, rfl, hlow, hat, hb7⟩
 have hb7' : Stab.Ext w6 w7 := hb7
 have hC7 := HC6.out.ext hb7'
 have m0 := hC7.c0
 have m1 := hC7.c1
 have y0 := hC7.blk.frozen 0
 have y1 := hC7.blk.frozen 1
 have hs67 := hb7'.size
 have hOL : ∀ k, k ∈ O4 → k < w6.heap.size := HB6.out.wb.lt
 have HPO : ∀ (Q : List Nat), (∀ k, k ∈ Q → w6.heap.size ≤ k) → ∀ k, k ∈ Q → k ∉ O4 ∧ w.heap.size ≤ k := fun Q hQ k hk => ⟨fun hm => by have := hOL k hm; have := hQ k hk; omega, Nat.le_trans HB6.out.below.size (hQ k hk)⟩
 have HPO := Lib.hid HPO
 have hPO : ∀ k, k ∈ P → k ∉ O4 ∧ w.heap.size ≤ k := fun k hk => ⟨fun hm => by have := HB6.out.wb.lt k hm; have := hlow k hk; omega, Nat.le_trans HB6.out.below.size (hlow k hk)⟩
 have hcbP : w1.heap.size ∉ P := fun hm => by have := hlow _ hm; have := HC6.out.blk.lt; omega
 have hf8 : Fr [w1.heap.size] w7 ((w7.setCell ⟨w1.heap.size, 0, none⟩ (.int .i64 2)).setCell ⟨w1.heap.size, 1, none⟩ (.int .i64 3)) := (Fr.cell w7 ⟨w1.heap.size, 0, none⟩ _).next (Fr.cell _ ⟨w1.heap.size, 1, none⟩ _)
 have hB8 : Born w w1.heap.size b p2 O4 ((w7.setCell ⟨w1.heap.size, 0, none⟩ (.int .i64 2)).setCell ⟨w1.heap.size, 1, none⟩ (.int .i64 3)) := (HB6.out.ext hb7').keep hf8 fun k hk => by simp only [List.mem_singleton] at hk; subst hk; exact ⟨HB6.out.cb, hcw⟩
 have hat8 : WAt ((w7.setCell ⟨w1.heap.size, 0, none⟩ (.int .i64 2)).setCell ⟨w1.heap.size, 1, none⟩ (.int .i64 3)) b2 (newP 3) P := hat.keep hf8 fun k hk hm => by simp only [List.mem_singleton] at hm; subst hm; exact hcbP hk
 have hC8 : CAt w1.heap.size 2 3 ((w7.setCell ⟨w1.heap.size, 0, none⟩ (.int .i64 2)).setCell ⟨w1.heap.size, 1, none⟩ (.int .i64 3)) := ⟨(hC7.blk.set_ 0 _).set_ 1 _⟩
 have hX8 : Born w w1.heap.size b2 (newP 3) P ((w7.setCell ⟨w1.heap.size, 0, none⟩ (.int .i64 2)).setCell ⟨w1.heap.size, 1, none⟩ (.int .i64 3)) := ⟨⟨hat8, hB8.wb.fr, fun k hk => .inr (hPO k hk).2⟩, hcbP⟩
 clear hC7 hb7 hb7' hat hat8 hf8
 generalize hw8 : (w7.setCell ⟨w1.heap.size, 0, none⟩ (.int .i64 2)).setCell ⟨w1.heap.size, 1, none⟩ (.int .i64 3) = w8 at hB8 hC8 hX8
 have HW8 := Lib.hid hw8.symm
 clear hw8
 have HSTR := Lib.hid (show Calls Tryz.prog 13 #[.pointer (some ⟨b2, 0, none⟩), .agg #[.int .u8 4, .int .i64 0, .int .i64 0, .int .i64 0, .int .i64 0]] w8 (WPost w8 b2 P (.int .i64 0) x0) from by
  have := wstrike_any hX8.at_ down0 down0_ok ((noStore_bnd.ok (by omega) (by omega)).small)
  rw [HX.out.s0, HX.out.t0] at this
  exact this)
 have HB8 := Lib.hid hB8
 have HC8 := Lib.hid hC8
 have HX8 := Lib.hid hX8
 have HL8 := Lib.hid hlow
 clear hB8 hC8 hX8 hPO HT6 HB6 HC6 hlow
 go_wp2_with (go_at_call 13; rw [← HW8.out]; with_reducible refine HSTR.out.mono ?_)
 intro e w9 hq9
 obtain ⟨P9, hX9, hf9, ho9⟩ := HX8.out.op hq9 HC8.out.blk.lt
 have hs8 : w6.heap.size ≤ w8.heap.size := by rw [HW8.out]; simpa [World.setCell] using hs67
 have HL9 := Lib.hid (show ∀ k, k ∈ P9 → w6.heap.size ≤ k from fun k hk => (ho9 k hk).elim (HL8.out k) fun h => by omega)
 obtain ⟨rfl, -⟩ := hq9
 have hB9 := HB8.out.keep hf9 (HPO.out _ HL8.out)
 have hC9 := HC8.out.keep hf9 HX8.out.cb
 have hs9 := hf9.size
 have k0 := hC9.c0
 have k1 := hC9.c1
 have HC10 := Lib.hid (show Calls Tryz.prog 34 #[.pointer (some ⟨b2, 0, none⟩), .agg #[.int .i64 2, .int .i64 3], .string ⟨#[98, 108, 111, 98]⟩] w9 (CallsP w9 P9 b2 x0 2 3 s) from by
  rw [HSB.out]
  exact callsN_any HNEW.out (Nat.le_trans HG.out hX9.below.size) (hX9.vars HV.out) hX9.at_ 2 3 hcode HX.out.nx s (by omega) HX.out.bx (by omega) (by omega))
 have HB9 := Lib.hid hB9
 have HC9 := Lib.hid hC9
 have HX9 := Lib.hid hX9
 clear hB9 hC9 hX9 hf9 ho9 HB8 HC8 HX8 HSTR
 go_wp2_with (go_at_call 34; with_reducible refine HC10.out.mono ?_)
 rintro e w10 ⟨P10, rfl, hwb10⟩
 rw [HX.out.wx] at hwb10
 rw [HX.out.cx]
 have hX10 := HX9.out.next hwb10 HC9.out.blk.lt
 have hB10 := HB9.out.keep hwb10.fr (HPO.out _ HL9.out)
 have hC10 := HC9.out.keep hwb10.fr HX9.out.cb
 have hs10 := hwb10.fr.size
 have HL10 := Lib.hid (show ∀ k, k ∈ P10 → w6.heap.size ≤ k from fun k hk => (hwb10.own k hk).elim (HL9.out k) fun h => by omega)
 have HB10 := Lib.hid hB10
 have HC10' := Lib.hid hC10
 have HX10 := Lib.hid hX10
 clear hB10 hC10 hX10 hwb10 HB9 HC9 HX9 HC10
 have HREAD := Lib.hid (show ∀ W, Stab.Ext w10 W → Calls Tryz.prog 28 #[.pointer (some ⟨b2, 0, none⟩), .agg #[.int .i64 2, .int .i64 3], .string d] W (RePost W P10 b2 x1 2 3 d) from fun W hW =>
  read_any ((HX10.out.ext hW).vars HV.out) (HX10.out.ext hW).at_ (HX10.out.far HG.out) 2 3 hcode HX.out.nx1 d HN.out.dig HX.out.px)
 have k0 := HC10'.out.c0
 have k1 := HC10'.out.c1
 go_wp2_with fail
 go_region_with (first
  | (go_at_call 33
     with_reducible refine (HSUM.out _).mono ?_
     rintro e w11 ⟨rfl, hb11⟩
     have hE11 : Stab.Ext w10 w11 := (Stab.Ext.drew w10).trans hb11
     have HC11 := Lib.hid (HC10'.out.ext hE11)
     have k0 := HC11.out.c0
     have k1 := HC11.out.c1
     have HB11 := Lib.hid (HB10.out.ext hE11)
     have HX11 := Lib.hid (HX10.out.ext hE11)
     have HRE := Lib.hid (HREAD.out w11 hE11)
     clear hb11 hE11)
  | (go_at_call 28
     with_reducible refine HRE.out.mono ?_
     rintro e w12 ⟨P12, rfl, hwb12⟩
     rw [HX.out.rx, ← HSB.out]
     have hB12 := HB11.out.keep hwb12.fr (HPO.out _ HL10.out)
     have hC12 := HC11.out.keep hwb12.fr HX11.out.cb
     have HST3 := Lib.hid (show Calls Tryz.prog 13 #[.pointer (some ⟨b, 0, none⟩), .agg #[.int .u8 1, .int .i64 0, .int .i64 0, .int .i64 0, .int .i64 0]] w12 (WPost w12 b O4 (.int .i64 0) p3) from by
      have := wstrike_any hB12.at_ (wipeF 0) (wipe_ok 0) (HSM.out _)
      rw [HX.out.s3, HX.out.t3] at this
      exact this)
     have HB12 := Lib.hid hB12
     have HC12 := Lib.hid hC12
     clear hB12 hC12 hwb12 HB11 HX11 HC11 HRE))
 all_goals
  go_wp2_with (go_at_call 13; with_reducible refine HST3.out.mono ?_)
  intro e w13 hq13
  obtain ⟨O13, hB13, hf13, -⟩ := HB12.out.op hq13 HC12.out.blk.lt
  obtain ⟨rfl, -⟩ := hq13
  have HC13 := Lib.hid (HC12.out.keep hf13 HB12.out.cb)
  have HST4 := Lib.hid (show Calls Tryz.prog 13 #[.pointer (some ⟨b, 0, none⟩), .agg #[.int .u8 1, .int .i64 2, .int .i64 0, .int .i64 0, .int .i64 0]] w13 (WPost w13 b O13 (.int .i64 0) p4) from by
   have := wstrike_any hB13.at_ (wipeF 2) (wipe_ok 2) (((HX.out.b3 _).ok (by omega) (by omega)).small)
   rw [HX.out.s4, HX.out.t4] at this
   exact this)
  have HB13 := Lib.hid hB13
  clear hB13 hf13 HB12 HC12 HST3
  go_wp2_with (go_at_call 13; with_reducible refine HST4.out.mono ?_)
  intro e w14 hq14
  obtain ⟨O14, hB14, hf14, -⟩ := HB13.out.op hq14 HC13.out.blk.lt
  obtain ⟨rfl, -⟩ := hq14
  have HC14 := Lib.hid (HC13.out.keep hf14 HB13.out.cb)
  have HB14 := Lib.hid hB14
  have k0 := HC14.out.c0
  have k1 := HC14.out.c1
  have HREAD4 := Lib.hid (show ∀ W, Stab.Ext w14 W → Calls Tryz.prog 28 #[.pointer (some ⟨b, 0, none⟩), .agg #[.int .i64 2, .int .i64 3], .string d] W (RePost W O14 b p4 2 3 d) from fun W hW =>
   read_any ((HB14.out.ext hW).vars HV.out) (HB14.out.ext hW).at_ (HB14.out.far HG.out) 2 3 hcode HX.out.n4 d HN.out.dig HX.out.p4)
  clear hB14 hf14 HB13 HC13 HST4
  go_wp2_with fail
  go_region_with (first
   | (go_at_call 33
      with_reducible refine (HSUM.out _).mono ?_
      rintro e w15 ⟨rfl, hb15⟩
      have hE15 : Stab.Ext w14 w15 := (Stab.Ext.drew w14).trans hb15
      have HC15 := Lib.hid (HC14.out.ext hE15)
      have k0 := HC15.out.c0
      have k1 := HC15.out.c1
      have HB15 := Lib.hid (HB14.out.ext hE15)
      have HRE := Lib.hid (HREAD4.out w15 hE15)
      clear hb15 hE15)
   | (go_at_call 28
      with_reducible refine HRE.out.mono ?_
      rintro e w16 ⟨O16, rfl, hwb16⟩
      rw [HX.out.r4]
      have HB16 := Lib.hid (HB15.out.next hwb16 HC15.out.blk.lt)
      clear hwb16 HB15 HC15 HRE))
  all_goals
   go_wp2_with fail
   go_ret
   exact ⟨rfl, HB16.out.below⟩
end Str
end Go.Proofs.YtnbkhdbligjifaaGreatDoor
namespace Go.Proofs.YtnbkhdbligjifaaGreatDoor
open Go Go.RowKit Vm
namespace Str
open Hlt
theorem mem_objsS {m : TMap} {o : POb} : o ∈ ((keysOf m).map fun k => ((⟨k.toArray⟩ : ByteArray), gotB m k)) ↔ TMap.look m o.1 = some o.2 := by
 rw [List.mem_map]
 constructor
 ·rintro ⟨key, hk, rfl⟩
  unfold keysOf at hk
  rw [List.mem_mergeSort, List.mem_map] at hk
  obtain ⟨q, hq, rfl⟩ := hk
  show TMap.look m ⟨q.1.data.toList.toArray⟩ = some (gotB m q.1.data.toList)
  unfold gotB
  have he : (⟨q.1.data.toList.toArray⟩ : ByteArray) = q.1 := by simp
  rw [he]
  cases hl : TMap.look m q.1 with
  | none =>
    exfalso
    clear he
    induction m with
    | nil => cases hq
    | cons r m ih =>
      obtain ⟨a, b⟩ := r
      unfold TMap.look at hl
      split at hl
      ·cases hl
      ·rcases List.mem_cons.1 hq with rfl | hq
       ·rename_i hne; exact hne rfl
       ·exact ih hq hl
  | some v => rfl
 ·intro h
  have hm := TMap.look_mem h
  refine ⟨o.1.data.toList, ?_, ?_⟩
  ·unfold keysOf
   rw [List.mem_mergeSort, List.mem_map]
   exact ⟨_, hm, rfl⟩
  ·have he : (⟨o.1.data.toList.toArray⟩ : ByteArray) = o.1 := by simp
   unfold gotB
   rw [he, h]
   rfl
section
variable {p : PW} {L k n : Nat} {d s : ByteArray}
theorem objsI_mem {i : Int} (hi : p.has i = true) {o : POb} : o ∈ objsI p i ↔ TMap.look (p.st i.toNat).seen o.1 = some o.2 := by
 unfold objsI PW.keys
 rw [if_pos hi]
 exact mem_objsS
theorem struck_one (p : PW) (f : Flt) (i : Nat) : (p.struck f).st i = p.st i ∨ (p.has f.store = true ∧ i = f.store.toNat ∧ (p.struck f).st i = struckS (p.st i) f) := by
 unfold PW.struck
 split
 case isFalse => exact .inl rfl
 rename_i hh
 split
 case isFalse => exact .inl rfl
 by_cases hi : i = f.store.toNat
 ·right
  refine ⟨hh, hi, ?_⟩
  subst hi
  repeat' split
  all_goals exact upd_same _ _ _
 ·left
  repeat' split
  all_goals exact upd_ne _ _ hi
theorem struck_num (p : PW) (f : Flt) : (p.struck f).n = p.n := by
 unfold PW.struck
 repeat' split
 all_goals rfl
theorem struck_synced {st : PSt} (h : Sync st) (f : Flt) : Sync (struckS st f) := by
 unfold struckS
 split
 case isFalse => exact h
 unfold hitS
 repeat' split
 all_goals first | exact ⟨rfl, rfl⟩ | exact ⟨h.wr, h.good⟩
structure Kept (L k n : Nat) (d s : ByteArray) (p : PW) : Prop where
 fit : WFit L n p
 only : Only k n d s p
 sync : ∀ i, i < n → Sync (p.st i)
theorem Kept.strike (h : Kept L k n d s p) {f : Flt} (hf : f.fits) : Kept L k n d s (strikeP p f) := by
 unfold strikeP
 split
 ·exact h
 ·rename_i hff
  refine ⟨(struck_world h.fit hf).1, fun i hi y hy hl => ?_, fun i hi => ?_⟩
  ·rcases struck_one p f i with he | ⟨hh, rfl, he⟩
   ·rw [he] at hy
    exact h.only i hi y hy hl
   ·have hff2 : ¬ ∃ o ∈ objsI (p.struck f) f.store, Reads o ∧ o ∉ objsI p f.store := by simpa [forgeB] using hff
    have hh2 : (p.struck f).has f.store = true := by unfold PW.has at hh ⊢; rwa [struck_num]
    have hm : ((nmB d f.store.toNat, y) : POb) ∈ objsI (p.struck f) f.store := (objsI_mem hh2).2 hy
    have hr : Reads ((nmB d f.store.toNat, y) : POb) := hl
    have hold : ((nmB d f.store.toNat, y) : POb) ∈ objsI p f.store := Classical.byContradiction fun hn => hff2 ⟨_, hm, hr, hn⟩
    exact h.only _ hi y ((objsI_mem hh).1 hold) hl
  ·rcases struck_one p f i with he | ⟨hh, rfl, he⟩
   ·rw [he]; exact h.sync i hi
   ·rw [he]; exact struck_synced (h.sync _ hi) f
theorem Kept.strikes (h : Kept L k n d s p) {l : List Flt} (hf : ∀ f ∈ l, f.fits) : Kept L k n d s (l.foldl strikeP p) := by
 induction l generalizing p with
 | nil => exact h
 | cons f l ih => exact ih (h.strike (hf f (by simp))) fun g hg => hf g (by simp [hg])
theorem Kept.adv (h : Kept L k n d s p) (m : Nat) : Kept L k n d s (PW.adv p m) := by
 obtain ⟨h1, h2, h3, h4, h5⟩ := adv_st p m
 exact ⟨⟨h1.trans h.fit.n_, fun i => by rw [h2]; exact h.fit.fits i, adv_calm h.fit.calm m⟩, fun i hi => by rw [h2]; exact h.only i hi, fun i hi => by rw [h2]; exact h.sync i hi⟩
theorem fits_of {L : Nat} {st : PSt} (h : Bnd L 0 st) : Fits L st := ⟨h.len, h.key, List.eq_nil_of_length_eq_zero (Nat.le_zero.1 h.wr), h.room⟩
theorem bnd_of {L : Nat} {st : PSt} (h : Fits L st) : Bnd L 0 st := ⟨h.len, h.key, by rw [h.wr]; exact Nat.le_refl _, h.room⟩
end
theorem wnew_bad (w : World) (n : Int) (h : n < 1 ∨ 12 < n) : Calls Tryz.prog 11 #[.int .i64 n] w fun e w' => e = .returned (.tuple #[.pointer none, .int .i64 1]) ∧ w = w' := by
 by_cases h1 : n < 1
 ·clear h
  go_enter Tryz.func11, Tryz.ntmps11
  go_wp2_with fail
  go_ret2
  exact ⟨rfl, rfl⟩
 ·have h2 : 12 < n := h.resolve_left h1
  clear h
  go_enter Tryz.func11, Tryz.ntmps11
  go_wp2_with fail
  go_ret2
  exact ⟨rfl, rfl⟩
end Str
end Go.Proofs.YtnbkhdbligjifaaGreatDoor
namespace Go.Proofs.YtnbkhdbligjifaaGreatDoor
open Go Go.RowKit Vm
open scoped Classical
namespace Str
open Hlt
theorem crash_same {st : PSt} (h : Sync st) (ks : List Int) : crashS st ks = st := by
 obtain ⟨good, seen, writes, down, refuse, room⟩ := st
 obtain ⟨h1, h2⟩ := h
 simp only at h1 h2
 subst h1 h2
 rfl
def OneM (nm : ByteArray) (m : TMap) : Prop := m = [] ∨ ∃ y, m = [(nm, y)]
theorem keys1 (nm y : ByteArray) : keysOf [(nm, y)] = [nm.data.toList] := by simp [keysOf]
theorem arr_eq (nm : ByteArray) : (⟨nm.data.toList.toArray⟩ : ByteArray) = nm := by simp
theorem struck1 (nm y : ByteArray) (n : Int) : struckO [(nm, y)] n = some nm.data.toList := by
 unfold struckO
 rw [keys1]
 simp [Int.emod_one]
theorem struck0 (n : Int) : struckO [] n = none := by simp [struckO, keysOf]
theorem OneM.lost {nm : ByteArray} {m : TMap} (h : OneM nm m) (n : Int) : OneM nm (lostM m n) := by
 rcases h with rfl | ⟨y, rfl⟩
 ·left; unfold lostM; rw [struck0]
 ·left
  unfold lostM
  rw [struck1]
  simp [TMap.del]
theorem OneM.bent {nm : ByteArray} {m : TMap} (h : OneM nm m) (f : Flt) : OneM nm (bentM m f) := by
 rcases h with rfl | ⟨y, rfl⟩
 ·left; unfold bentM; rw [struck0]
 ·right
  unfold bentM
  rw [struck1]
  simp only [arr_eq, TMap.look, if_true]
  split
  ·exact ⟨_, rfl⟩
  ·exact ⟨_, by simp [TMap.put]; rfl⟩
theorem OneM.struck {nm : ByteArray} {st : PSt} (h : OneM nm st.seen) (f : Flt) : OneM nm (struckS st f).seen := by
 unfold struckS
 split
 case isFalse => exact h
 unfold hitS
 repeat' split
 all_goals first | exact .inl rfl | exact h.lost f.n | exact h.bent f | exact h
structure Kept1 (L k n : Nat) (d s : ByteArray) (p : PW) : Prop where
 kept : Kept L k n d s p
 one : ∀ i, i < n → OneM (nmB d i) (p.st i).seen
 all : ∀ i, Sync (p.st i)
section
variable {p : PW} {L k n : Nat} {d s : ByteArray}
theorem Kept1.crash (h : Kept1 L k n d s p) (l : List (List Int)) : Kept1 L k n d s (p.crashed l) := by
 have e : ∀ i, (p.crashed l).st i = p.st i := fun i => crash_same (h.all i) _
 exact ⟨⟨⟨h.kept.fit.n_, fun i => by rw [e]; exact h.kept.fit.fits i, ⟨rfl, rfl⟩⟩, fun i hi => by rw [e]; exact h.kept.only i hi, fun i hi => by rw [e]; exact h.kept.sync i hi⟩, fun i hi => by rw [e]; exact h.one i hi, fun i => by rw [e]; exact h.all i⟩
theorem Kept1.crash_ok (h : Kept1 L k n d s p) {ls : List (List Int)} (hl : ∀ ks ∈ ls, ks.length ≤ 9223372036854775807 ∧ ∀ x ∈ ks, -9223372036854775808 ≤ x ∧ x ≤ 9223372036854775807) (i : Nat) : CrashOk (p.st i) (ls.getD i []) := by
 have hw := (h.all i).wr
 have hks : (ls.getD i []).length ≤ 9223372036854775807 ∧ ∀ x ∈ ls.getD i [], -9223372036854775808 ≤ x ∧ x ≤ 9223372036854775807 := by
  by_cases hi : i < ls.length
  ·rw [List.getD, List.getElem?_eq_getElem hi, Option.getD_some]
   exact hl _ (List.getElem_mem hi)
  ·rw [List.getD, List.getElem?_eq_none (by omega), Option.getD_none]
   simp
 exact ⟨by rw [hw]; simp, hks.1, hks.2, fun q hq => by rw [hw] at hq; simp at hq⟩
theorem Kept1.strike (h : Kept1 L k n d s p) {f : Flt} (hf : f.fits) : Kept1 L k n d s (strikeP p f) := by
 refine ⟨h.kept.strike hf, fun i hi => ?_, fun i => ?_⟩
 all_goals
  unfold strikeP
  split
 ·exact h.one i hi
 ·rcases struck_one p f i with he | ⟨hh, rfl, he⟩
  ·rw [he]; exact h.one i hi
  ·rw [he]; exact (h.one _ hi).struck f
 ·exact h.all i
 ·rcases struck_one p f i with he | ⟨hh, rfl, he⟩
  ·rw [he]; exact h.all i
  ·rw [he]; exact struck_synced (h.all _) f
theorem Kept1.strikes (h : Kept1 L k n d s p) {l : List Flt} (hf : ∀ f ∈ l, f.fits) : Kept1 L k n d s (l.foldl strikeP p) := by
 induction l generalizing p with
 | nil => exact h
 | cons f l ih => exact ih (h.strike (hf f (by simp))) fun g hg => hf g (by simp [hg])
theorem write_far (hN : Num k n d s) (hd : d = dgB s) (h : WellW L n p) {i : Nat} (hi : n ≤ i) : (writeR p k n s).2.st i = p.st i := by
 rw [write_well hN hd h]
 exact if_neg (by omega)
theorem twice_kept (hN : Num k n d s) (hd : d = dgB s) : ∃ p1 p2 : PW, writeR (newP n) k n s = (0, p1) ∧ WellW 1 n p1 ∧ (writeR p1 k n s).2 = p2 ∧ callsI p1 k n s = 2 * (n : Int) ∧ Kept1 2 k n d s p2 ∧ ∀ i, i < n → (p2.st i).seen = [(nmB d i, dtB k n d s i)] := by
 obtain ⟨h1, h2, h3, h4⟩ := written_well hN hd (newP_well n)
 have hn := hN.ks
 have hs1 : ∀ i, i < n → ((writeR (newP n) k n s).2.st i).seen = [(nmB d i, dtB k n d s i)] := fun i hi => by
  rw [h3 i hi, show (newP n).st i = noStore from rfl]
  generalize nmB d i = nm
  generalize dtB k n d s i = dt
  simp [wellS, noStore, TMap.look, TMap.put]
 have hf1 : ∀ i, n ≤ i → (writeR (newP n) k n s).2.st i = noStore := fun i hi => by rw [write_far hN hd (newP_well n) hi]; rfl
 have hlk : ∀ i, i < n → TMap.look ((newP n).st i).seen (nmB d i) = none := fun i hi => rfl
 have hl1 : lackN k n d s (newP n) = n := lack_all fun i hi => ⟨rfl, by rw [hlk i hi]; simp⟩
 rw [hl1] at h4
 have e4 : cadd (newP n).calls (n + n + n) = (3 * n : Nat) := by
  show cadd 0 (n + n + n) = _
  rw [show n + n + n = 3 * n by omega, cadd_small _ (by omega)]
 rw [e4] at h4
 obtain ⟨p1, hp1⟩ : ∃ p1, p1 = (writeR (newP n) k n s).2 := ⟨_, rfl⟩
 rw [← hp1] at h2 hs1 hf1 h4
 have hlk2 : ∀ i, i < n → TMap.look (p1.st i).seen (nmB d i) = some (dtB k n d s i) := fun i hi => by
  rw [hs1 i hi]
  generalize nmB d i = nm
  generalize dtB k n d s i = dt
  simp [TMap.look]
 obtain ⟨g1, g2, g3, g4⟩ := written_well hN hd h2
 rw [lack_none hlk2, h4] at g4
 have e5 : cadd ((3 * n : Nat) : Int) (n + 0 + n) = (5 * n : Nat) := by
  rw [← cadd_small (3 * n) (by omega), cadd_add, show 3 * n + (n + 0 + n) = 5 * n by omega, cadd_small _ (by omega)]
 rw [e5] at g4
 have hs2 : ∀ i, i < n → ((writeR p1 k n s).2.st i).seen = [(nmB d i, dtB k n d s i)] := fun i hi => by
  rw [g3 i hi, ← hs1 i hi]
  unfold wellS
  rw [if_pos (hlk2 i hi)]
  rfl
 refine ⟨p1, _, Prod.ext h1 hp1.symm, h2, rfl, ?_, ⟨⟨⟨g2.n_, fun i => fits_of (g2.bnd i), g2.calm⟩, only_put fun i hi => .inr (hs2 i hi), g2.sync⟩, fun i hi => .inr ⟨_, hs2 i hi⟩, fun i => ?_⟩, hs2⟩
 ·unfold callsI
  rw [if_pos g1, g4, h4]
  unfold wrap64
  omega
 ·by_cases hi : i < n
  ·exact g2.sync i hi
  ·rw [write_far hN hd h2 (by omega), hf1 i (by omega)]
   exact ⟨rfl, rfl⟩
theorem objs_one (h : OneM (nmB d k) (p.st k).seen) (hk : k < p.n) : (objsI p (k : Nat) = [] ∧ TMap.look (p.st k).seen (nmB d k) = none) ∨ ∃ y, objsI p (k : Nat) = [(nmB d k, y)] ∧ TMap.look (p.st k).seen (nmB d k) = some y := by
 have hh : p.has ((k : Nat) : Int) = true := has_lt hk
 unfold objsI PW.keys
 rw [hh, if_pos rfl, Int.toNat_natCast]
 rcases h with h | ⟨y, h⟩
 ·left
  rw [h]
  exact ⟨by simp [keysOf], rfl⟩
 ·right
  rw [h]
  generalize nmB d k = nm
  refine ⟨y, ?_, by simp [TMap.look]⟩
  rw [keys1, List.map_cons, List.map_nil, arr_eq]
  unfold gotB
  rw [arr_eq]
  simp [TMap.look]
theorem objs_seen {i : Nat} {y : ByteArray} (h : (p.st i).seen = [(nmB d i, y)]) (hi : i < p.n) : objsI p (i : Nat) = [(nmB d i, y)] := by
 rcases objs_one (d := d) (.inr ⟨y, h⟩) hi with ⟨_, h2⟩ | ⟨z, h1, h2⟩
 ·rw [h] at h2
  simp [TMap.look] at h2
 ·rw [h] at h2
  simp only [TMap.look, if_true, Option.some.injEq] at h2
  rw [h1, h2]
theorem upAt_eq {i : Nat} (hi : i < p.n) : p.upAt (i : Nat) = !(p.st i).down := by
 have hh : p.has ((i : Nat) : Int) = true := has_lt hi
 unfold PW.upAt
 rw [hh, Int.toNat_natCast, Bool.true_and]
theorem kept_case (hN : Num k n d s) (h : Kept1 L k n d s p) {i : Nat} (hi : i < n) :
 ((gotN p d k n i).sound = true ∧ p.upAt (i : Nat) = true ∧ ∃ nm, objsI p (i : Nat) = [(nm, dtB k n d s i)]) ∨
 ((gotN p d k n i).sound = false ∧ p.upAt (i : Nat) = false) ∨
 ((gotN p d k n i).sound = false ∧ p.upAt (i : Nat) = true ∧ objsI p (i : Nat) = []) ∨
 ((gotN p d k n i).sound = false ∧ p.upAt (i : Nat) = true ∧ ∃ nm y, objsI p (i : Nat) = [(nm, y)] ∧ y ≠ dtB k n d s i) := by
 have hpn := h.kept.fit.n_
 have hg := got_iff hN h.kept.fit.calm hpn h.kept.only k hi
 have hu := upAt_eq (p := p) (i := i) (by omega)
 have hno : ¬ Has k n d s p i → (gotN p d k n i).sound = false := fun hh => by
  rw [Bool.eq_false_iff]
  exact fun e => hh (hg.1 e).2
 rw [hu]
 cases hdn : (p.st i).down
 ·rcases objs_one (h.one i hi) (show i < p.n by omega) with ⟨h1, h2⟩ | ⟨y, h1, h2⟩
  ·refine .inr (.inr (.inl ⟨hno fun hh => ?_, rfl, h1⟩))
   rw [hh.2] at h2
   cases h2
  ·by_cases hy : y = dtB k n d s i
   ·subst hy
    exact .inl ⟨hg.2 ⟨rfl, hdn, h2⟩, rfl, _, h1⟩
   ·refine .inr (.inr (.inr ⟨hno fun hh => hy ?_, rfl, _, _, h1, hy⟩))
    have := hh.2
    rw [h2] at this
    exact Option.some.inj this
 ·exact .inr (.inl ⟨hno fun hh => (by rw [hh.1] at hdn; cases hdn), rfl⟩)
end
theorem one_at {W : World} {base : Nat} {v : Value} {a b : ByteArray} (h : ObjsAt W base v [(a, b)]) : ∃ g cap, v = .slice (some ⟨g, 0, none⟩) 1 cap ∧ base ≤ g ∧ W.cell? ⟨g, 0, none⟩ = some (.string a) ∧ W.cell? ⟨g, 1, none⟩ = some (.string b) := by
 obtain ⟨g, cap, h1, h2, h3⟩ := h.cells (i := 0) (by simp)
 obtain ⟨g', cap', hv, hb, -, -⟩ := OwnG.addr h (by simp)
 rw [h1] at hv
 cases hv
 exact ⟨g, cap, h1, hb, h2, h3⟩
theorem none_at {W : World} {base : Nat} {v : Value} (h : ObjsAt W base v []) : ∃ A cap, v = .slice A 0 cap := OwnG.shape h
theorem surv_far {w W : World} {v : Value} {l : List (List Int)} {O : List Nat} (h : SurvAt [] w v l) (hf : Fr [] w W) (hO : ∀ x, x ∈ O → w.heap.size ≤ x) : SurvAt O W v l := by
 obtain ⟨A, cap, h1, h2⟩ := h
 have off : ∀ {g j : Nat} {x : Value}, w.cell? ⟨g, j, none⟩ = some x → g ∉ O ∧ W.cell? ⟨g, j, none⟩ = some x := fun {g j x} hc => by
  have hl : g < w.heap.size := lt_cell hc
  exact ⟨fun hm => by have := hO g hm; omega, (World.cell?_of_block (hf.block g hl (by simp))).trans hc⟩
 refine ⟨A, cap, h1, fun j ks hj => ?_⟩
 obtain ⟨g, o, x, q1, _, q2, A2, cap2, q3, q4⟩ := h2 j ks hj
 refine ⟨g, o, x, q1, (off q2).1, (off q2).2, A2, cap2, q3, fun i y hy => ?_⟩
 obtain ⟨g2, o2, z1, _, z2⟩ := q4 i y hy
 exact ⟨g2, o2, z1, (off z2).1, (off z2).2⟩
/-! ### a row of texts of one's own -/
structure WasAt (bw n : Nat) (g : Nat → ByteArray) (q : Nat) (W : World) : Prop where
 row : ∃ C : Array Value, Blk W bw 9 C ∧ C.size = n ∧ (∀ j, j < n → ∃ x, C[j]? = some (.string x)) ∧ ∀ j, j < q → C[j]? = some (.string (g j))
section
variable {bw n q : Nat} {g : Nat → ByteArray} {W W' : World} {X O O' : List Nat} {b x : Nat} {p p' : PW}
theorem WasAt.keep (h : WasAt bw n g q W) (hf : Fr X W W') (hx : bw ∉ X) : WasAt bw n g q W' := by
 obtain ⟨C, h1, h2⟩ := h
 exact ⟨C, hf.blk h1 hx, h2⟩
theorem WasAt.lt (h : WasAt bw n g q W) : bw < W.heap.size := by obtain ⟨C, h1, _⟩ := h; exact h1.lt
theorem WasAt.ext (h : WasAt bw n g q W) (hE : Stab.Ext W W') : WasAt bw n g q W' := by
 obtain ⟨C, h1, h2⟩ := h
 exact ⟨C, h1.below hE h1.lt, h2⟩
theorem WasAt.new (W : World) (n : Nat) (g : Nat → ByteArray) : WasAt W.heap.size n g 0 (W.alloc (.cells (Array.replicate n (.string ⟨#[]⟩)) 9)) :=
 ⟨_, Blk.new _ _ _, by simp, fun j hj => ⟨⟨#[]⟩, by simp [hj]⟩, fun j hj => absurd hj (Nat.not_lt_zero _)⟩
theorem WasAt.cell (h : WasAt bw n g q W) {j : Nat} (hj : j < q) : W.cell? ⟨bw, j, none⟩ = some (.string (g j)) := by
 obtain ⟨C, h1, _, _, h4⟩ := h
 rw [h1.cell]; exact h4 j hj
theorem WasAt.old (h : WasAt bw n g q W) {j : Nat} (hj : j < n) : (∃ x, W.cell? ⟨bw, j, none⟩ = some (.string x)) ∧ W.frozen? ⟨bw, j, none⟩ = false := by
 obtain ⟨C, h1, _, h3, _⟩ := h
 obtain ⟨x, hx⟩ := h3 j hj
 exact ⟨⟨x, by rw [h1.cell]; exact hx⟩, h1.frozen j⟩
theorem WasAt.set_ (h : WasAt bw n g q W) (hq : q < n) : WasAt bw n g (q + 1) (W.setCell ⟨bw, q, none⟩ (.string (g q))) := by
 obtain ⟨C, h1, h2, h3, h4⟩ := h
 refine ⟨_, h1.set_ q (.string (g q)), by simp [h2], fun j hj => ?_, fun j hj => ?_⟩
 ·by_cases he : q = j
  ·subst he; exact ⟨_, by rw [Array.getElem?_setIfInBounds_self_of_lt (by omega)]⟩
  ·rw [Array.getElem?_setIfInBounds_ne he]; exact h3 j hj
 ·by_cases he : q = j
  ·subst he; rw [Array.getElem?_setIfInBounds_self_of_lt (by omega)]
  ·rw [Array.getElem?_setIfInBounds_ne he]; exact h4 j (by omega)
theorem off_next (h : WB W O b p' O' W') (hx : x ∉ O) (hl : x < W.heap.size) : x ∉ O' := fun hm => by
 rcases h.own x hm with h1 | h1
 ·exact hx h1
 ·omega
end
theorem via {R : World → List Nat → Prop} {T : World → Prop} {G : Prop} (main : (∀ w O, R w O → T w) → G) (rest : ∀ w O, R w O → T w) : G := main rest
structure Rd32 (b : Nat) (p : PW) (O : List Nat) (g1 bw q : Nat) (x y : ByteArray) (W : World) : Prop where
 at_ : WAt W b p O
 c1 : W.cell? ⟨g1, 1, none⟩ = some (.string x)
 c2 : W.cell? ⟨bw, q, none⟩ = some (.string y)
theorem Rd32.ext {b : Nat} {p : PW} {O : List Nat} {g1 bw q : Nat} {x y : ByteArray} {W W' : World} (h : Rd32 b p O g1 bw q x y W) (hE : Stab.Ext W W') : Rd32 b p O g1 bw q x y W' :=
 ⟨h.at_.keep (Fr.of_below (O := []) hE) (by simp), hE.cell h.c1, hE.cell h.c2⟩
def RdT (w : World) (O : List Nat) (b : Nat) (p : PW) (rb : ByteArray) (re : Int) (e : Ending) (w' : World) : Prop := ∃ O', e = .returned (.tuple #[.string rb, .int .i64 re]) ∧ WB w O b p O' w'
structure Rd31 (b : Nat) (p : PW) (O : List Nat) (W : World) : Prop where
 at_ : WAt W b p O
theorem at_ext {b : Nat} {p : PW} {O : List Nat} {W W' : World} (h : WAt W b p O) (hE : Stab.Ext W W') : WAt W' b p O := h.keep (Fr.of_below (O := []) hE) (by simp)
theorem Rd31.ext {b : Nat} {p : PW} {O : List Nat} {W W' : World} (h : Rd31 b p O W) (hE : Stab.Ext W W') : Rd31 b p O W' := ⟨at_ext h.at_ hE⟩
end Str
end Go.Proofs.YtnbkhdbligjifaaGreatDoor
namespace Go.Proofs.YtnbkhdbligjifaaGreatDoor
open Go Go.RowKit Go.Shelf Vm
namespace Str
open Hlt
attribute [local go_sem ↓] appSem_eq
end Str
end Go.Proofs.YtnbkhdbligjifaaGreatDoor
namespace Go.Proofs.YtnbkhdbligjifaaGreatDoor
open Go Go.RowKit Vm
open scoped Classical
namespace Str
open Hlt
theorem below_far {w W : World} (h : Below w.heap.size w W) : Fr [] w W := Fr.of_below h
theorem flt_at {w W : World} {A : Option Addr} {l : List Flt} (h : 0 < l.length → ∃ g o, A = some ⟨g, o, none⟩ ∧ g < w.heap.size ∧ ∀ i f, l[i]? = some f → w.cell? ⟨g, o + i * 5, none⟩ = some (.int .u8 f.kind) ∧ w.cell? ⟨g, o + i * 5 + 1, none⟩ = some (.int .i64 f.store) ∧
 w.cell? ⟨g, o + i * 5 + 2, none⟩ = some (.int .i64 f.n) ∧ w.cell? ⟨g, o + i * 5 + 3, none⟩ = some (.int .i64 f.at_) ∧ w.cell? ⟨g, o + i * 5 + 4, none⟩ = some (.int .i64 f.c)) (hf : Fr [] w W) {q : Nat} (hq : q < l.length) :
 ∃ g o, A = some ⟨g, o, none⟩ ∧ W.cell? ⟨g, o + q * 5, none⟩ = some (.int .u8 l[q].kind) ∧ W.cell? ⟨g, o + q * 5 + 1, none⟩ = some (.int .i64 l[q].store) ∧ W.cell? ⟨g, o + q * 5 + 2, none⟩ = some (.int .i64 l[q].n) ∧ W.cell? ⟨g, o + q * 5 + 3, none⟩ = some (.int .i64 l[q].at_) ∧ W.cell? ⟨g, o + q * 5 + 4, none⟩ = some (.int .i64 l[q].c) := by
 obtain ⟨g, o, h1, h2, h3⟩ := h (by omega)
 obtain ⟨c0, c1, c2, c3, c4⟩ := h3 q l[q] (List.getElem?_eq_getElem hq)
 have hb := hf.block g h2 (by simp)
 exact ⟨g, o, h1, (World.cell?_of_block hb).trans c0, (World.cell?_of_block hb).trans c1, (World.cell?_of_block hb).trans c2, (World.cell?_of_block hb).trans c3, (World.cell?_of_block hb).trans c4⟩
end Str
end Go.Proofs.YtnbkhdbligjifaaGreatDoor
