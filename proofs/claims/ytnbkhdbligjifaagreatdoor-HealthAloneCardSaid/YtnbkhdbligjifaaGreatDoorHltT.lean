/-
 The law HealthAlone: its walk.
-/
import Derived.Test.YtnbkhdbligjifaaGreatDoorHltS
import Derived.Test.YtnbkhdbligjifaaGreatDoorHltR
set_option linter.unusedVariables false
set_option linter.unusedSimpArgs false
namespace Go.Proofs.YtnbkhdbligjifaaGreatDoor
open Go Go.RowKit Vm
open scoped Classical
namespace Hlt
set_option linter.unusedVariables false
structure StI (w3 : World) (O : List Nat) (b bx k L : Nat) (p : PW) (O' : List Nat) (wr : World) : Prop where
 wb : WB w3 O b p O' wr
 fit : WFit L 3 p
 box : Blk wr bx 25 #[.int .i64 (k : Int), .int .i64 3]
 off : bx ∉ O'
section
variable {w w3 wr wr2 : World} {O O' : List Nat} {b bx k L : Nat} {p p2 : PW}
theorem StI.ext (h : StI w3 O b bx k L p O' wr) (hE : Stab.Ext wr wr2) : StI w3 O b bx k L p O' wr2 := ⟨h.wb.ext hE, h.fit, h.box.below hE h.box.lt, h.off⟩
theorem StI.below {c : Nat} (h : StI w3 O b bx k L p O' wr) (hlow : ∀ x, x ∈ O → c ≤ x) (hE : Below w.heap.size w w3) (hc : w.heap.size ≤ c := by omega) : Below w.heap.size w wr := new_below hE h.wb.fr fun x hx => Nat.le_trans hc (hlow x hx)
theorem StI.strike (h : StI w3 O b bx k L p O' wr) (hL : L ≤ 1000) (f : Flt) (hf : f.fits) : Calls Tryz.prog 13 #[.pointer (some ⟨b, 0, none⟩), .agg #[.int .u8 f.kind, .int .i64 f.store, .int .i64 f.n, .int .i64 f.at_, .int .i64 f.c]] wr (WPost wr b O' (.int .i64 (p.strikeE f)) (p.struck f)) :=
 wstrike_any h.wb.at_ f hf ((h.fit.fits _).ok hL).small
theorem StI.next (h : StI w3 O b bx k L p O' wr) {p' : PW} {L' : Nat} (hp' : WFit L' 3 p') {x : Value} {e : Ending} (hp : WPost wr b O' x p' e wr2) : ∃ O5, StI w3 O b bx k L' p' O5 wr2 ∧ Fr O' wr wr2 ∧ (∀ y, y ∈ O5 → y ∈ O' ∨ wr.heap.size ≤ y) := by
 obtain ⟨O5, h1, h2, h3⟩ := h.wb.next hp
 refine ⟨O5, ⟨h1, hp', h2.blk h.box h.off, fun hm => ?_⟩, h2, h3⟩
 rcases h3 _ hm with h4 | h4
 · exact h.off h4
 · have := h.box.lt; omega
theorem StI.far (h : StI w3 O b bx k L p O' wr) (hO : Far O) (hG : Tryz.prog.globals.size ≤ w3.heap.size) : Far O' := fun x hx => by
 rcases h.wb.own x hx with h4 | h4
 · exact hO x h4
 · exact Nat.le_trans hG h4
theorem StI.vars (h : StI w3 O b bx k L p O' wr) (hO : Far O) (hv : Shd.Vars w3) : Shd.Vars wr := vars_fr hv h.wb.fr hO
end
structure AlRd (b cb A : Nat) (p pc : PW) (O OC : List Nat) (xs : List Value) (W : World) : Prop where
 at_ : WAt W b p O
 cat : WAt W cb pc OC
 a : Blk W A 4 xs.toArray
theorem AlRd.ext {b cb A : Nat} {p pc : PW} {O OC : List Nat} {xs : List Value} {W W' : World} (h : AlRd b cb A p pc O OC xs W) (hE : Stab.Ext W W') : AlRd b cb A p pc O OC xs W' :=
 ⟨h.at_.keep (Fr.of_below (O := []) hE) (by simp), h.cat.keep (Fr.of_below (O := []) hE) (by simp), h.a.below hE h.a.lt⟩
structure AlRk (A g j q : Nat) (nm : ByteArray) (W : World) : Prop where
 s : W.cell? ⟨A, j, none⟩ = some (.bool false)
 c : W.cell? ⟨g, q * 2, none⟩ = some (.string nm)
theorem AlRk.ext {A g j q : Nat} {nm : ByteArray} {W W' : World} (h : AlRk A g j q nm W) (hE : Stab.Ext W W') : AlRk A g j q nm W' := ⟨hE.cell h.s, hE.cell h.c⟩
set_option maxRecDepth 100000 in
set_option maxHeartbeats 16000000 in
theorem alone_walk (s1 s2 : ByteArray) (v : Value) (l : List Flt) (w : World) (hl : FaultsAt w v l) (hv : Shd.Vars w) (hG : Tryz.prog.globals.size ≤ w.heap.size) :
   Calls Tryz.prog 3 #[.string s1, .string s2, v] w (TruePost w) := by
 obtain ⟨⟨A, cap, rfl, hlc, hcells⟩, hfits⟩ := hl
 have HG := Lib.hid hG
 have HV := Lib.hid hv
 have HCELLS := Lib.hid hcells
 have HFITS := Lib.hid hfits
 clear hv hG hcells hfits
 have HAB := Lib.hid (show ∀ w1 : World, Stab.Ext w w1 → Calls Tryz.prog 10 #[] w1 (TruePost w1) from fun w1 hE => awake_true w1 (HV.out.below hE) (Nat.le_trans HG.out hE.size))
 by_cases h1 : s1.size ≤ 5000
 case neg =>
   have q1 : ¬ ((s1.size : Int) ≤ 5000) := by omega
   · skip
     go_enter Tryz.func3, Tryz.ntmps3
     go_wp2_with (go_at_call 10; with_reducible refine (HAB.out _ (Stab.Ext.refl _)).mono ?_)
     rintro e w1 ⟨rfl, hb⟩
     have HB := Lib.hid hb
     clear hb
     go_wp2_with fail
     go_ret
     exact ⟨rfl, HB.out⟩
 by_cases h2 : s2.size ≤ 5000
 case neg =>
   have q1 : (s1.size : Int) ≤ 5000 := by omega
   have q2 : ¬ ((s2.size : Int) ≤ 5000) := by omega
   · skip
     go_enter Tryz.func3, Tryz.ntmps3
     go_wp2_with (go_at_call 10; with_reducible refine (HAB.out _ (Stab.Ext.refl _)).mono ?_)
     rintro e w1 ⟨rfl, hb⟩
     have HB := Lib.hid hb
     clear hb
     go_wp2_with fail
     go_ret
     exact ⟨rfl, HB.out⟩
 by_cases h3 : l.length ≤ 30
 case neg =>
   have q1 : (s1.size : Int) ≤ 5000 := by omega
   have q2 : (s2.size : Int) ≤ 5000 := by omega
   have q3 : ¬ ((l.length : Int) ≤ 30) := by omega
   · skip
     go_enter Tryz.func3, Tryz.ntmps3
     go_wp2_with (go_at_call 10; with_reducible refine (HAB.out _ (Stab.Ext.refl _)).mono ?_)
     rintro e w1 ⟨rfl, hb⟩
     have HB := Lib.hid hb
     clear hb
     go_wp2_with fail
     go_ret
     exact ⟨rfl, HB.out⟩
 have q1 : (s1.size : Int) ≤ 5000 := by omega
 have q2 : (s2.size : Int) ≤ 5000 := by omega
 have q3 : (l.length : Int) ≤ 30 := by omega
 go_enter Tryz.func3, Tryz.ntmps3
 go_wp2_with (go_at_call 10; with_reducible refine (HAB.out _ (Stab.Ext.refl _)).mono ?_)
 rintro e w1 ⟨rfl, hb⟩
 have HB1 := Lib.hid hb
 clear hb
 go_wp2_with fail
 have hcode : Shd.codeB ((2 : Nat) : Int) ((3 : Nat) : Int) = true := by decide
 have bx := Blk.new w1 25 #[.int .i64 2, .int .i64 3]
 have hE2 : Stab.Ext w (w1.alloc (.cells #[.int .i64 2, .int .i64 3] 25)) := HB1.out.alloc HB1.out.size _
 have hbxl : w1.heap.size < (w1.alloc (.cells #[.int .i64 2, .int .i64 3] 25)).heap.size := by simp
 generalize (w1.alloc (.cells #[.int .i64 2, .int .i64 3] 25)) = w2 at *
 have hbw : w.heap.size ≤ w1.heap.size := HB1.out.size
 obtain ⟨bxn, hbn⟩ : ∃ x, x = w1.heap.size := ⟨_, rfl⟩
 rw [← hbn] at bx hbxl hbw ⊢
 clear hbn
 have HNEWW := Lib.hid (show Calls Tryz.prog 11 #[.int .i64 3] w2 (WNewPost 3 w2) from wnew_any w2 3 (by omega) (by omega))
 have HBX := Lib.hid bx
 have HE2 := Lib.hid hE2
 clear bx hE2 HB1
 go_wp2_with (go_at_call 11; with_reducible refine HNEWW.out.mono ?_)
 rintro e w3 ⟨b, O, rfl, hlow, hat, hb3⟩
 have hE3 : Stab.Ext w w3 := HE2.out.trans hb3
 have hO : Far O := fun x hx => Nat.le_trans HG.out (Nat.le_trans HE2.out.size (hlow x hx))
 have hbx3 := HBX.out.below hb3 HBX.out.lt
 have h0 : Fits 0 noStore := ⟨Nat.le_refl _, fun p hp => (by cases hp), rfl, ⟨by show _ ≤ (-1 : Int); decide, by show (-1 : Int) ≤ _; decide⟩⟩
 have hfit0 : ∀ i, i < 3 → Fits 0 ((newP 3).st i) ∧ Well ((newP 3).st i) := fun i hi => ⟨h0, ⟨rfl, rfl, rfl⟩⟩
 have hd1 : (⟨(Shd.sumL s1.data.toList).toArray⟩ : ByteArray).size = 32 := Shd.sumL_len _
 have hd2 : (⟨(Shd.sumL s2.data.toList).toArray⟩ : ByteArray).size = 32 := Shd.sumL_len _
 have HFILL := Lib.hid (show Calls Tryz.prog 12 #[.pointer (some ⟨b, 0, none⟩), .agg #[.int .i64 2, .int .i64 3], .string s1] w3 (FillPost w3 O b (newP 3) 2 3 ⟨(Shd.sumL s1.data.toList).toArray⟩ s1) from
   fill_any (G := Tryz.prog.globals.size) (fun w _ => Fld.new_any w) (Nat.le_trans HG.out hE3.size) hat ⟨rfl, rfl⟩ hO (HV.out.below hE3) 2 3 hcode rfl s1 (by omega) 0 (by omega) hfit0)
 have k0 := hbx3.cell 0
 have k1 := hbx3.cell 1
 simp only [List.getElem?_toArray, List.getElem?_cons_zero, List.getElem?_cons_succ] at k0 k1
 have HLOW := Lib.hid hlow
 have HE3 := Lib.hid hE3
 have HO := Lib.hid hO
 have HBX3 := Lib.hid hbx3
 have hbO : bxn ∉ O := fun hm => by have := hlow _ hm; omega
 have HV3 := Lib.hid (HV.out.below hE3)
 have HG3 := Lib.hid (Nat.le_trans HG.out hE3.size)
 have hlow2 : ∀ x, x ∈ O → w.heap.size ≤ x := fun x hx => by have := hlow x hx; have := HE2.out.size; omega
 have HLOW2 := Lib.hid hlow2
 clear hlow hat hb3 hE3 hO hbx3 hfit0 HNEWW hlow2
 generalize hdd1 : (⟨(Shd.sumL s1.data.toList).toArray⟩ : ByteArray) = d at *
 have hdl : d.data.toList.length = 32 := by rw [← hd1]; simp
 clear hdd1
 go_wp2_with (go_at_call 12; with_reducible refine HFILL.out.mono ?_)
 rintro e w4 ⟨O4, rfl, hwb4⟩
 have hfa : ∀ i, i < 3 → Fits 1 ((filled (newP 3) 2 3 d s1 3).st i) ∧ Well ((filled (newP 3) 2 3 d s1 3).st i) := fun i hi => by
   rw [filled_st _ _ _ _ _ hi]
   exact ⟨stored_fits h0 (nmB_size _ hd1 i (by omega)).2 (datB_size (by omega) (by omega) hdl (by omega)), stored_well ⟨rfl, rfl, rfl⟩ _ _⟩
 have hca : Calm (filled (newP 3) 2 3 d s1 3) := filled_calm ⟨rfl, rfl⟩ _ _ _ _ _
 have hna : (filled (newP 3) 2 3 d s1 3).n = 3 := (adv_st (newP 3) 6).1
 have hfx : ∀ i, 3 ≤ i → Fits 1 ((filled (newP 3) 2 3 d s1 3).st i) := fun i hi => by
   unfold filled
   simp only [if_neg (show ¬ i < 3 by omega)]
   exact fits_up h0
 have hfw : WFit 1 3 (filled (newP 3) 2 3 d s1 3) := ⟨hna, fun i => by
   by_cases hi : i < 3
   · exact (hfa i hi).1
   · exact hfx i (by omega), hca⟩
 generalize filled (newP 3) 2 3 d s1 3 = p4 at *
 have hI4 : StI w3 O b bxn 2 1 p4 O4 w4 := ⟨hwb4, hfw, hwb4.fr.blk HBX3.out hbO, fun hm => by
   rcases hwb4.own _ hm with h4 | h4
   · exact hbO h4
   · have := HBX3.out.lt; omega⟩
 have HFILL2 := Lib.hid (show Calls Tryz.prog 12 #[.pointer (some ⟨b, 0, none⟩), .agg #[.int .i64 2, .int .i64 3], .string s2] w4 (FillPost w4 O4 b p4 2 3 ⟨(Shd.sumL s2.data.toList).toArray⟩ s2) from
   fill_any (G := Tryz.prog.globals.size) (fun w _ => Fld.new_any w) (Nat.le_trans HG3.out hwb4.fr.size) hwb4.at_ hca (hI4.far HO.out HG3.out) (hI4.vars HO.out HV3.out) 2 3 hcode hna.symm s2 (by omega) 1 (by omega) hfa)
 have k0 := hI4.box.cell 0
 have k1 := hI4.box.cell 1
 simp only [List.getElem?_toArray, List.getElem?_cons_zero, List.getElem?_cons_succ] at k0 k1
 generalize hdd2 : (⟨(Shd.sumL s2.data.toList).toArray⟩ : ByteArray) = d2 at *
 have hdl2 : d2.data.toList.length = 32 := by rw [← hd2]; simp
 clear hdd2
 have HI4 := Lib.hid hI4
 clear hI4 hwb4 hfx
 go_wp2_with (go_at_call 12; with_reducible refine HFILL2.out.mono ?_)
 rintro e w5 ⟨O5, rfl, hwb5⟩
 have hfw5 : WFit 2 3 (filled p4 2 3 d2 s2 3) := ⟨(adv_st p4 6).1.trans hna, fun i => by
   by_cases hi : i < 3
   · rw [filled_st _ _ _ _ _ hi]
     exact stored_fits (hfw.fits i) (nmB_size _ hd2 i (by omega)).2 (datB_size (by omega) (by omega) hdl2 (by omega))
   · unfold filled
     simp only [if_neg hi]
     exact fits_up (hfw.fits i), filled_calm hca _ _ _ _ _⟩
 have HI5 := Lib.hid (show StI w3 O b bxn 2 2 (filled p4 2 3 d2 s2 3) O5 w5 from ⟨⟨hwb5.at_, HI4.out.wb.fr_next hwb5.fr, fun x hx => (hwb5.own x hx).elim (HI4.out.wb.own x) fun h => .inr (Nat.le_trans HI4.out.wb.fr.size h)⟩, hfw5, hwb5.fr.blk HI4.out.box HI4.out.off, fun hm => by
   rcases hwb5.own _ hm with h4 | h4
   · exact HI4.out.off h4
   · have := HI4.out.box.lt; omega⟩)
 generalize filled p4 2 3 d2 s2 3 = p5 at *
 clear hwb5 hfw5 hfw hfa hca hna k0 k1 h0
 go_wp2_with fail
 go_loopw [14] (fun i wr => ∃ (q : Nat) (p' : PW) (O' : List Nat), q ≤ l.length ∧ i = .int .i64 (q : Int) ∧ StI w3 O b bxn 2 2 p' O' wr) (fun i _ => l.length - (intOf i).toNat)
 case atStart => exact ⟨0, _, _, by omega, rfl, HI5.out⟩
 case round =>
   obtain ⟨q, p', O', hq, rfl, hI⟩ := hrel
   by_cases hlt : q < l.length
   · have hlt2 : (q : Int) < (l.length : Int) := by omega
     obtain ⟨g, o, rfl, hgl, hc⟩ := HCELLS.out (by omega)
     obtain ⟨c0, c1, c2, c3, c4⟩ := hc q l[q] (List.getElem?_eq_getElem hlt)
     have hf := HFITS.out l[q] (List.getElem_mem hlt)
     have hbel := hI.below HLOW2.out HE3.out (Nat.le_refl _)
     replace c0 := (hbel.cell (p := ⟨g, _, none⟩) hgl).trans c0
     replace c1 := (hbel.cell (p := ⟨g, _, none⟩) hgl).trans c1
     replace c2 := (hbel.cell (p := ⟨g, _, none⟩) hgl).trans c2
     replace c3 := (hbel.cell (p := ⟨g, _, none⟩) hgl).trans c3
     replace c4 := (hbel.cell (p := ⟨g, _, none⟩) hgl).trans c4
     have HST := Lib.hid (hI.strike (by omega) l[q] hf)
     have HI := Lib.hid hI
     have HF := Lib.hid hf
     generalize l[q] = f at *
     clear hI hf hc hbel
     go_wp2_with (go_at_call 13; with_reducible refine HST.out.mono ?_)
     intro e w5 hq5
     have HI5 := Lib.hid (HI.out.next (struck_world HI.out.fit HF.out).1 hq5)
     obtain ⟨rfl, -⟩ := hq5
     go_wp2_with fail
     go_roundw
     case rel =>
       obtain ⟨O5, h5, -, -⟩ := HI5.out
       exact ⟨q + 1, _, O5, by omega, by go_num, h5⟩
     case measure => simp [intOf]; omega
   · obtain rfl : q = l.length := by omega
     have d1 : ¬ ((l.length : Int) < (l.length : Int)) := by omega
     have k0 := hI.box.cell 0
     have k1 := hI.box.cell 1
     simp only [List.getElem?_toArray, List.getElem?_cons_zero, List.getElem?_cons_succ] at k0 k1
     have HCP := Lib.hid (wcopy_any hI.wb.at_ (by have := hI.fit.n_; omega) (fun i hi => by rw [(hI.fit.fits i).wr]; simp))
     have HI := Lib.hid hI
     clear hI HI5 HI4
     go_wp2_with (go_at_call 14; with_reducible refine HCP.out.mono ?_)
     rintro e w5 ⟨cb, OC, rfl, hclow, hcat, hb5⟩
     have hI5 := HI.out.ext hb5
     have HCLOW := Lib.hid (fun x (hx : x ∈ OC) => (show x ∉ O' from fun hm => by have := HI.out.wb.lt x hm; have := hclow x hx; omega))
     have HCAT := Lib.hid hcat
     have HOF := Lib.hid (show Calls Tryz.prog 15 #[.pointer (some ⟨b, 0, none⟩), .agg #[.int .i64 2, .int .i64 3], .string d] w5 (OfPost w5 O' b p' 2 3 d) from of_any hI5.wb.at_ hI5.fit.calm (hI5.far HO.out HG3.out) (hI5.vars HO.out HV3.out) 2 3 hcode hI5.fit.n_.symm d hd1)
     have k0 := hI5.box.cell 0
     have k1 := hI5.box.cell 1
     simp only [List.getElem?_toArray, List.getElem?_cons_zero, List.getElem?_cons_succ] at k0 k1
     have HI5 := Lib.hid hI5
     clear hI5 hclow hcat hb5
     go_wp2_with (go_at_call 15; with_reducible refine HOF.out.mono ?_)
     rintro e w6 ⟨A1, O6, rfl, hA1, hwb6, hn1, hlo1⟩
     rw [marks_snd] at hA1
     obtain ⟨OX, hI6', hf6, ho6⟩ : ∃ OX, StI w3 O b bxn 2 2 (PW.adv p' 3) OX w6 ∧ Fr O' w5 w6 ∧ OX = O6 := ⟨O6, ⟨⟨hwb6.at_, HI5.out.wb.fr_next hwb6.fr, fun x hx => (hwb6.own x hx).elim (HI5.out.wb.own x) fun h => .inr (Nat.le_trans HI5.out.wb.fr.size h)⟩, adv_fit HI5.out.fit 3, hwb6.fr.blk HI5.out.box HI5.out.off, fun hm => by
       rcases hwb6.own _ hm with h4 | h4
       · exact HI5.out.off h4
       · have := HI5.out.box.lt; omega⟩, hwb6.fr, rfl⟩
     subst ho6
     have hcat6 := HCAT.out.keep hf6 fun x hx => HCLOW.out x hx
     have hco6 : ∀ x, x ∈ OC → x ∉ OX := fun x hx hm => by
       rcases hwb6.own x hm with h4 | h4
       · exact HCLOW.out x hx h4
       · have := HCAT.out.lt x hx; omega
     have HME := Lib.hid (show Calls Tryz.prog 16 #[.pointer (some ⟨b, 0, none⟩), .agg #[.int .i64 2, .int .i64 3], .string d] w6 (MendPost w6 OX b (PW.adv p' 3) 2 3 d) from mend_any hI6'.wb.at_ hI6'.fit.calm (hI6'.far HO.out HG3.out) (hI6'.vars HO.out HV3.out) 2 3 hcode hI6'.fit.n_.symm d hd1 (look_pay hI6'.fit) (fun i _ => (hI6'.fit.fits i).ok (by omega)) (Nat.le_trans HG3.out hI6'.wb.fr.size))
     have k0 := hI6'.box.cell 0
     have k1 := hI6'.box.cell 1
     simp only [List.getElem?_toArray, List.getElem?_cons_zero, List.getElem?_cons_succ] at k0 k1
     have HI6 := Lib.hid hI6'
     have HCAT6 := Lib.hid hcat6
     have HCO6 := Lib.hid hco6
     have HA1 := Lib.hid hA1
     have HN1 := Lib.hid hn1
     have HFT := Lib.hid (mend_fit (k := 2) (d := d) hI6'.fit)
     have hms := mend_st (k := 2) (d := d) hI6'.fit.calm hI6'.fit.n_
     have HMO := Lib.hid (fun i (hi : i < 3) => mend_objs (k := 2) (d := d) hI6'.fit.calm hI6'.fit.n_ hi)
     have hme1 : ((mendR (PW.adv p' 3) 2 3 d).2.1 == 1) = false := by simpa using hms.2.2.2.1
     have hme2 : ((mendR (PW.adv p' 3) 2 3 d).2.1 == 56) = false := by simpa using hms.2.2.2.2
     clear hI6' hcat6 hco6 hA1 hn1 hwb6 hf6 hms hlo1
     go_wp2_with (go_at_call 16; with_reducible refine HME.out.mono ?_)
     intro e w7 hq7
     unfold MendPost at hq7
     generalize (mendR (PW.adv p' 3) 2 3 d).1 = mm at *
     generalize (mendR (PW.adv p' 3) 2 3 d).2.1 = me at *
     generalize (mendR (PW.adv p' 3) 2 3 d).2.2 = p7 at *
     obtain ⟨O7, hI7, hf7, ho7⟩ := HI6.out.next HFT.out hq7
     obtain ⟨rfl, -⟩ := hq7
     have hcat7 := HCAT6.out.keep hf7 fun x hx => HCO6.out x hx
     have hA7 := hf7.blk HA1.out HN1.out
     have HB7 := Lib.hid (hI7.below HLOW2.out HE3.out (Nat.le_refl _))
     have HR := Lib.hid (show AlRd b cb A1 p7 p' O7 OC (((List.range 3).map (snd p' 2 3 d)).map Value.bool) w7 from ⟨hI7.wb.at_, hcat7, hA7⟩)
     have HV7 := Lib.hid (hI7.vars HO.out HV3.out)
     clear hcat7 hA7 hI7 hf7 ho7
     go_wp2_with fail
     have hb7l : b < w7.heap.size := by obtain ⟨v7, B7, O7', z1, -⟩ := HR.out.at_; exact z1.blk.lt
     go_loopw [19] (fun i wr => ∃ j : Nat, j ≤ 3 ∧ i = .int .i64 (j : Int) ∧ AlRd b cb A1 p7 p' O7 OC (((List.range 3).map (snd p' 2 3 d)).map Value.bool) wr ∧ Stab.Ext w7 wr) (fun i _ => 3 - (intOf i).toNat)
     case atStart => exact ⟨0, by omega, rfl, HR.out, Stab.Ext.refl _⟩
     case round =>
       obtain ⟨j, hj, rfl, hR, hEr⟩ := hrel
       by_cases hj3 : j < 3
       · have hj4 : (j : Int) < 3 := by omega
         have hj5 : (0 : Int) ≤ (j : Int) := by omega
         have HOB1 := Lib.hid (show Calls Tryz.prog 17 #[.pointer (some ⟨cb, 0, none⟩), .int .i64 (j : Int)] wr fun e w' => ∃ v, e = .returned v ∧ ObjsAt w' 0 v (objsL p' j) ∧ Below wr.heap.size wr w' from objects_ok hR.cat HI5.out.fit (by omega) hj3)
         have HRR := Lib.hid hR
         have HER := Lib.hid hEr
         have HL1 := Lib.hid (objsL_len HI5.out.fit hj3)
         have HL2 := Lib.hid (objsL_len HFT.out hj3)
         clear hR hEr
         go_wp2_with (go_at_call 17; with_reducible refine HOB1.out.mono ?_)
         rintro e w8 ⟨v1, rfl, hv1, hb8⟩
         have hE8 : Stab.Ext wr w8 := hb8
         have HOB2 := Lib.hid (show Calls Tryz.prog 17 #[.pointer (some ⟨b, 0, none⟩), .int .i64 (j : Int)] w8 fun e w' => ∃ v, e = .returned v ∧ ObjsAt w' 0 v (objsL p7 j) ∧ Below w8.heap.size w8 w' from objects_ok (HRR.out.ext hE8).at_ HFT.out (by omega) hj3)
         have HV1 := Lib.hid hv1
         have HE8 := Lib.hid hE8
         clear hv1 hb8 hE8
         go_wp2_with (go_at_call 17; with_reducible refine HOB2.out.mono ?_)
         rintro e w9 ⟨v2, rfl, hv2, hb9⟩
         have hE9 : Stab.Ext w8 w9 := hb9
         have HNO := Lib.hid (newO_any (HV1.out.ext hE9) hv2 (by have := HL1.out; omega) (by have := HL2.out; omega))
         have HV1b := Lib.hid (HV1.out.ext hE9)
         have HV2 := Lib.hid hv2
         have HE9 := Lib.hid (HE8.out.trans hE9)
         clear hv2 hb9 hE9
         go_wp2_with (go_at_call 18; with_reducible refine HNO.out.mono ?_)
         rintro e w9b ⟨vf, rfl, hvf, hb9b⟩
         have hE9b : Stab.Ext w9 w9b := hb9b
         have HNO2 := Lib.hid (newO_any (HV2.out.ext hE9b) (HV1b.out.ext hE9b) (by have := HL2.out; omega) (by have := HL1.out; omega))
         have HVF0 := Lib.hid hvf
         have HE9b := Lib.hid (HE9.out.trans hE9b)
         clear hvf hb9b hE9b
         go_wp2_with (go_at_call 18; with_reducible refine HNO2.out.mono ?_)
         rintro e w10 ⟨vg, rfl, hvg, hb10⟩
         have hE10 : Stab.Ext w9b w10 := hb10
         have HVF := Lib.hid (HVF0.out.ext hE10)
         have HVG := Lib.hid hvg
         have hER10 := HE9b.out.trans hE10
         have hR10 := HRR.out.ext hER10
         have HVR := Lib.hid (HV7.out.below (HER.out.trans hER10))
         have HR10 := Lib.hid hR10
         have HE10 := Lib.hid (HER.out.trans hER10)
         have HMJ := Lib.hid (show ∀ o, o ∈ freshL (objsL p' j) (objsL p7 j) ∨ o ∈ freshL (objsL p7 j) (objsL p' j) → snd p' 2 3 d j = false ∧ o.1 = nmB d j from fun o ho => by
           have hmo := HMO.out j hj3 o
           rw [objsL_adv, snd_adv HI5.out.fit.calm] at hmo
           exact hmo ho)
         have HSJ := Lib.hid (show w10.cell? ⟨A1, j, none⟩ = some (.bool (snd p' 2 3 d j)) from by
           rw [hR10.a.cell j, List.getElem?_toArray, List.getElem?_map, List.getElem?_map, List.getElem?_range hj3]
           rfl)
         have hlf : (freshL (objsL p' j) (objsL p7 j)).length ≤ 1000 := Nat.le_trans (List.length_filter_le _ _) (by have := HL2.out; omega)
         have hlg : (freshL (objsL p7 j) (objsL p' j)).length ≤ 1000 := Nat.le_trans (List.length_filter_le _ _) (by have := HL1.out; omega)
         generalize freshL (objsL p' j) (objsL p7 j) = fl at *
         generalize freshL (objsL p7 j) (objsL p' j) = gl at *
         obtain ⟨AF, cF, hshf⟩ := HVF.out.shape
         obtain ⟨AG, cG, hshg⟩ := HVG.out.shape
         subst hshf hshg
         have HSHVF := Lib.hid (rfl : (Value.slice AF fl.length cF) = .slice AF fl.length cF)
         have HSHVG := Lib.hid (rfl : (Value.slice AG gl.length cG) = .slice AG gl.length cG)
         have HER10 := Lib.hid hER10
         clear hvg hb10 hE10 hER10 hR10
         go_wp2_with fail
         go_loopw [24] (fun i wx => ∃ q : Nat, q ≤ fl.length ∧ i = .int .i64 (q : Int) ∧ Stab.Ext w10 wx) (fun i _ => fl.length - (intOf i).toNat)
         case atStart => exact ⟨0, Nat.zero_le _, rfl, Stab.Ext.refl _⟩
         case round =>
           obtain ⟨q, hq, rfl, hEx⟩ := hrel
           by_cases hlq : q < fl.length
           · have hlq2 : (q : Int) < (fl.length : Int) := by omega
             obtain ⟨hsn, hon⟩ := HMJ.out fl[q] (.inl (List.getElem_mem hlq))
             have hsf := HSJ.out
             rw [hsn] at hsf
             obtain ⟨g, capa, hvv, hc1, -⟩ := (HVF.out.ext hEx).cells hlq
             rw [hon] at hc1
             cases hvv
             have HK := Lib.hid (show AlRk A1 g j q (nmB d j) wr from ⟨hEx.cell hsf, hc1⟩)
             have HNM := Lib.hid (fun (W : World) (hE : Stab.Ext wr W) => (show Calls Tryz.prog 19 #[.string d, .int .i64 (j : Int)] W fun e w' => e = .returned (.string (nmB d j)) ∧ Below W.heap.size W w' from Shd.name_any d (by omega) (j : Int) ⟨by omega, by omega⟩ W (HVR.out.below (hEx.trans hE))))
             have HEX := Lib.hid hEx
             clear hsn hon hsf hc1 hEx
             go_wp2_with fail
             refine Stab.wp_region_stable 15 167 [some 131, some 132, some 133, some 134, some 135, some 136, some 137, some 138, some 139, some 140, some 141, some 142, some 143, some 144, some 145] [[], [], [0, 1], [2], [3], [4], [4], [5, 6, 4], [7, 4], [8, 4], [4], [4], [10, 11, 4], [9, 12, 4], [4, 13]] [14] (AlRk A1 g j q (nmB d j)) [Stab.eqv ?r29ae0, Stab.eqv ?r29ae1, Stab.eqv ?r29ae2, Stab.eqv ?r29ae3, Stab.eqv ?r29ae4, Stab.eqv ?r29ae5, Stab.eqv ?r29ae6, Stab.eqv ?r29ae7, Stab.eqv ?r29ae8, Stab.eqv ?r29ae9, Stab.eqv ?r29ae10, Stab.eqv ?r29ae11, Stab.eqv ?r29ae12, Stab.eqv ?r29ae13, Stab.eqv ?r29ae14] (by kernel_rfl) rfl (by kernel_rfl) (by kernel_rfl) (fun us => by simp only [Stab.putAll, Act.put, List.setIfInBounds_toArray, List.set_cons_zero, List.set_cons_succ]; rfl) (HK.out.ext (Stab.Ext.drew _)) (fun _ _ h hE => h.ext hE) ?goals29a ?last29a
             case goals29a =>
               simp only [List.take_succ_cons, List.take_zero]
               refine Stab.Goals.plain rfl rfl (fun us w cK hE hS hp hK => ?_) ?_
               · go_simp
                 refine hK _ _ ?_ (Stab.Ext.refl _)
                 show _ = _
                 with_reducible rfl
               refine Stab.Goals.plain rfl rfl (fun us w cK hE hS hp hK => ?_) ?_
               · go_simp
                 refine hK _ _ ?_ (Stab.Ext.refl _)
                 show _ = _
                 with_reducible rfl
               refine Stab.Goals.plain rfl rfl (fun us w cK hE hS hp hK => ?_) ?_
               · obtain ⟨h0, h1, -⟩ := hp
                 replace h0 : us 0 = _ := h0
                 replace h1 : us 1 = _ := h1
                 go_simp
                 refine hK _ _ ?_ (Stab.Ext.refl _)
                 show _ = _
                 with_reducible rfl
               refine Stab.Goals.plain rfl rfl (fun us w cK hE hS hp hK => ?_) ?_
               · obtain ⟨h2, -⟩ := hp
                 replace h2 : us 2 = _ := h2
                 have s0 := hS.s; have s1 := hS.c
                 go_simp
                 refine hK _ _ ?_ (Stab.Ext.refl _)
                 show _ = _
                 with_reducible rfl
               refine Stab.Goals.plain rfl rfl (fun us w cK hE hS hp hK => ?_) ?_
               · obtain ⟨h3, -⟩ := hp
                 replace h3 : us 3 = _ := h3
                 go_simp
                 refine hK _ _ ?_ (Stab.Ext.refl _)
                 show _ = _
                 with_reducible rfl
               refine Stab.Goals.guarded rfl rfl (fun us w cK hE hS hp hK => ?_) ?_
               · obtain ⟨h4, -⟩ := hp
                 replace h4 : us 4 = _ := h4
                 refine ⟨_, h4, fun _ => ?_, fun h => absurd rfl h⟩
                 go_simp
                 refine hK _ _ ?_ (Stab.Ext.refl _)
                 show _ = _
                 with_reducible rfl
               refine Stab.Goals.guarded rfl rfl (fun us w cK hE hS hp hK => ?_) ?_
               · obtain ⟨h4, -⟩ := hp
                 replace h4 : us 4 = _ := h4
                 refine ⟨_, h4, fun _ => ?_, fun h => absurd rfl h⟩
                 go_simp
                 refine hK _ _ ?_ (Stab.Ext.refl _)
                 show _ = _
                 with_reducible rfl
               refine Stab.Goals.guarded rfl rfl (fun us w cK hE hS hp hK => ?_) ?_
               · obtain ⟨h5, h6, h4, -⟩ := hp
                 replace h5 : us 5 = _ := h5
                 replace h6 : us 6 = _ := h6
                 replace h4 : us 4 = _ := h4
                 refine ⟨_, h4, fun _ => ?_, fun h => absurd rfl h⟩
                 go_simp
                 refine hK _ _ ?_ (Stab.Ext.refl _)
                 show _ = _
                 with_reducible rfl
               refine Stab.Goals.guarded rfl rfl (fun us w cK hE hS hp hK => ?_) ?_
               · obtain ⟨h7, h4, -⟩ := hp
                 replace h7 : us 7 = _ := h7
                 replace h4 : us 4 = _ := h4
                 refine ⟨_, h4, fun _ => ?_, fun h => absurd rfl h⟩
                 go_simp
                 refine hK _ _ ?_ (Stab.Ext.refl _)
                 show _ = _
                 with_reducible rfl
               refine Stab.Goals.guarded rfl rfl (fun us w cK hE hS hp hK => ?_) ?_
               · obtain ⟨h8, h4, -⟩ := hp
                 replace h8 : us 8 = _ := h8
                 replace h4 : us 4 = _ := h4
                 refine ⟨_, h4, fun _ => ?_, fun h => absurd rfl h⟩
                 have s0 := hS.s; have s1 := hS.c
                 go_simp
                 refine hK _ _ ?_ (Stab.Ext.refl _)
                 show _ = _
                 with_reducible rfl
               refine Stab.Goals.guarded rfl rfl (fun us w cK hE hS hp hK => ?_) ?_
               · obtain ⟨h4, -⟩ := hp
                 replace h4 : us 4 = _ := h4
                 refine ⟨_, h4, fun _ => ?_, fun h => absurd rfl h⟩
                 go_simp
                 refine hK _ _ ?_ (Stab.Ext.refl _)
                 show _ = _
                 with_reducible rfl
               refine Stab.Goals.guarded rfl rfl (fun us w cK hE hS hp hK => ?_) ?_
               · obtain ⟨h4, -⟩ := hp
                 replace h4 : us 4 = _ := h4
                 refine ⟨_, h4, fun _ => ?_, fun h => absurd rfl h⟩
                 go_simp
                 refine hK _ _ ?_ (Stab.Ext.refl _)
                 show _ = _
                 with_reducible rfl
               refine Stab.Goals.guarded rfl rfl (fun us w cK hE hS hp hK => ?_) ?_
               · obtain ⟨h10, h11, h4, -⟩ := hp
                 replace h10 : us 10 = _ := h10
                 replace h11 : us 11 = _ := h11
                 replace h4 : us 4 = _ := h4
                 refine ⟨_, h4, fun _ => ?_, fun h => absurd rfl h⟩
                 go_simp
                 go_wp2_with (go_at_call 19; ((with_reducible refine (HNM.out _ ((Stab.Ext.drew wr).trans hE)).mono ?_); rintro e w1 ⟨rfl, hb⟩))
                 refine hK _ _ ?_ hb
                 show _ = _
                 with_reducible rfl
               refine Stab.Goals.guarded rfl rfl (fun us w cK hE hS hp hK => ?_) ?_
               · obtain ⟨h9, h12, h4, -⟩ := hp
                 replace h9 : us 9 = _ := h9
                 replace h12 : us 12 = _ := h12
                 replace h4 : us 4 = _ := h4
                 refine ⟨_, h4, fun _ => ?_, fun h => absurd rfl h⟩
                 go_simp
                 refine hK _ _ ?_ (Stab.Ext.refl _)
                 show _ = _
                 with_reducible rfl
               refine Stab.Goals.plain rfl rfl (fun us w cK hE hS hp hK => ?_) ?_
               · obtain ⟨h4, h13, -⟩ := hp
                 replace h4 : us 4 = _ := h4
                 replace h13 : us 13 = _ := h13
                 go_simp
                 refine hK _ _ ?_ (Stab.Ext.refl _)
                 show _ = _
                 with_reducible rfl
               exact Stab.Goals.nil
             case last29a =>
               intro us w12 hE hS hp
               obtain ⟨h14, -⟩ := hp
               replace h14 : us 14 = _ := h14
               simp only [List.drop_succ_cons, List.drop_nil, List.drop_zero, h14]
               refine wpList_nil ?_
               have HE12 := Lib.hid (HEX.out.trans ((Stab.Ext.drew _).trans hE))
               clear hE hS h14
               go_wp2_with fail
               go_roundw
               case rel => exact ⟨q + 1, by omega, by go_num, HE12.out⟩
               case measure => simp [intOf]; omega
           · obtain rfl : q = fl.length := by omega
             have dq : ¬ ((fl.length : Int) < (fl.length : Int)) := by omega
             have HEXA := Lib.hid hEx
             clear hEx
             go_wp2_with fail
             go_loopw [25] (fun i wx => ∃ q : Nat, q ≤ gl.length ∧ i = .int .i64 (q : Int) ∧ Stab.Ext w10 wx) (fun i _ => gl.length - (intOf i).toNat)
             case atStart => exact ⟨0, Nat.zero_le _, rfl, HEXA.out⟩
             case round =>
               obtain ⟨q, hq, rfl, hEx⟩ := hrel
               by_cases hlq : q < gl.length
               · have hlq2 : (q : Int) < (gl.length : Int) := by omega
                 obtain ⟨hsn, hon⟩ := HMJ.out gl[q] (.inr (List.getElem_mem hlq))
                 have hsf := HSJ.out
                 rw [hsn] at hsf
                 obtain ⟨g, capb, hvv, hc1, -⟩ := (HVG.out.ext hEx).cells hlq
                 rw [hon] at hc1
                 cases hvv
                 have HK := Lib.hid (show AlRk A1 g j q (nmB d j) wr from ⟨hEx.cell hsf, hc1⟩)
                 have HNM := Lib.hid (fun (W : World) (hE : Stab.Ext wr W) => (show Calls Tryz.prog 19 #[.string d, .int .i64 (j : Int)] W fun e w' => e = .returned (.string (nmB d j)) ∧ Below W.heap.size W w' from Shd.name_any d (by omega) (j : Int) ⟨by omega, by omega⟩ W (HVR.out.below (hEx.trans hE))))
                 have HEX := Lib.hid hEx
                 clear hsn hon hsf hc1 hEx
                 go_wp2_with fail
                 refine Stab.wp_region_stable 15 167 [some 152, some 153, some 154, some 155, some 156, some 157, some 158, some 159, some 160, some 161, some 162, some 163, some 164, some 165, some 166] [[], [], [0, 1], [2], [3], [4], [4], [5, 6, 4], [7, 4], [8, 4], [4], [4], [10, 11, 4], [9, 12, 4], [4, 13]] [14] (AlRk A1 g j q (nmB d j)) [Stab.eqv ?r34be0, Stab.eqv ?r34be1, Stab.eqv ?r34be2, Stab.eqv ?r34be3, Stab.eqv ?r34be4, Stab.eqv ?r34be5, Stab.eqv ?r34be6, Stab.eqv ?r34be7, Stab.eqv ?r34be8, Stab.eqv ?r34be9, Stab.eqv ?r34be10, Stab.eqv ?r34be11, Stab.eqv ?r34be12, Stab.eqv ?r34be13, Stab.eqv ?r34be14] (by kernel_rfl) rfl (by kernel_rfl) (by kernel_rfl) (fun us => by simp only [Stab.putAll, Act.put, List.setIfInBounds_toArray, List.set_cons_zero, List.set_cons_succ]; rfl) (HK.out.ext (Stab.Ext.drew _)) (fun _ _ h hE => h.ext hE) ?goals34b ?last34b
                 case goals34b =>
                   simp only [List.take_succ_cons, List.take_zero]
                   refine Stab.Goals.plain rfl rfl (fun us w cK hE hS hp hK => ?_) ?_
                   · go_simp
                     refine hK _ _ ?_ (Stab.Ext.refl _)
                     show _ = _
                     with_reducible rfl
                   refine Stab.Goals.plain rfl rfl (fun us w cK hE hS hp hK => ?_) ?_
                   · go_simp
                     refine hK _ _ ?_ (Stab.Ext.refl _)
                     show _ = _
                     with_reducible rfl
                   refine Stab.Goals.plain rfl rfl (fun us w cK hE hS hp hK => ?_) ?_
                   · obtain ⟨h0, h1, -⟩ := hp
                     replace h0 : us 0 = _ := h0
                     replace h1 : us 1 = _ := h1
                     go_simp
                     refine hK _ _ ?_ (Stab.Ext.refl _)
                     show _ = _
                     with_reducible rfl
                   refine Stab.Goals.plain rfl rfl (fun us w cK hE hS hp hK => ?_) ?_
                   · obtain ⟨h2, -⟩ := hp
                     replace h2 : us 2 = _ := h2
                     have s0 := hS.s; have s1 := hS.c
                     go_simp
                     refine hK _ _ ?_ (Stab.Ext.refl _)
                     show _ = _
                     with_reducible rfl
                   refine Stab.Goals.plain rfl rfl (fun us w cK hE hS hp hK => ?_) ?_
                   · obtain ⟨h3, -⟩ := hp
                     replace h3 : us 3 = _ := h3
                     go_simp
                     refine hK _ _ ?_ (Stab.Ext.refl _)
                     show _ = _
                     with_reducible rfl
                   refine Stab.Goals.guarded rfl rfl (fun us w cK hE hS hp hK => ?_) ?_
                   · obtain ⟨h4, -⟩ := hp
                     replace h4 : us 4 = _ := h4
                     refine ⟨_, h4, fun _ => ?_, fun h => absurd rfl h⟩
                     go_simp
                     refine hK _ _ ?_ (Stab.Ext.refl _)
                     show _ = _
                     with_reducible rfl
                   refine Stab.Goals.guarded rfl rfl (fun us w cK hE hS hp hK => ?_) ?_
                   · obtain ⟨h4, -⟩ := hp
                     replace h4 : us 4 = _ := h4
                     refine ⟨_, h4, fun _ => ?_, fun h => absurd rfl h⟩
                     go_simp
                     refine hK _ _ ?_ (Stab.Ext.refl _)
                     show _ = _
                     with_reducible rfl
                   refine Stab.Goals.guarded rfl rfl (fun us w cK hE hS hp hK => ?_) ?_
                   · obtain ⟨h5, h6, h4, -⟩ := hp
                     replace h5 : us 5 = _ := h5
                     replace h6 : us 6 = _ := h6
                     replace h4 : us 4 = _ := h4
                     refine ⟨_, h4, fun _ => ?_, fun h => absurd rfl h⟩
                     go_simp
                     refine hK _ _ ?_ (Stab.Ext.refl _)
                     show _ = _
                     with_reducible rfl
                   refine Stab.Goals.guarded rfl rfl (fun us w cK hE hS hp hK => ?_) ?_
                   · obtain ⟨h7, h4, -⟩ := hp
                     replace h7 : us 7 = _ := h7
                     replace h4 : us 4 = _ := h4
                     refine ⟨_, h4, fun _ => ?_, fun h => absurd rfl h⟩
                     go_simp
                     refine hK _ _ ?_ (Stab.Ext.refl _)
                     show _ = _
                     with_reducible rfl
                   refine Stab.Goals.guarded rfl rfl (fun us w cK hE hS hp hK => ?_) ?_
                   · obtain ⟨h8, h4, -⟩ := hp
                     replace h8 : us 8 = _ := h8
                     replace h4 : us 4 = _ := h4
                     refine ⟨_, h4, fun _ => ?_, fun h => absurd rfl h⟩
                     have s0 := hS.s; have s1 := hS.c
                     go_simp
                     refine hK _ _ ?_ (Stab.Ext.refl _)
                     show _ = _
                     with_reducible rfl
                   refine Stab.Goals.guarded rfl rfl (fun us w cK hE hS hp hK => ?_) ?_
                   · obtain ⟨h4, -⟩ := hp
                     replace h4 : us 4 = _ := h4
                     refine ⟨_, h4, fun _ => ?_, fun h => absurd rfl h⟩
                     go_simp
                     refine hK _ _ ?_ (Stab.Ext.refl _)
                     show _ = _
                     with_reducible rfl
                   refine Stab.Goals.guarded rfl rfl (fun us w cK hE hS hp hK => ?_) ?_
                   · obtain ⟨h4, -⟩ := hp
                     replace h4 : us 4 = _ := h4
                     refine ⟨_, h4, fun _ => ?_, fun h => absurd rfl h⟩
                     go_simp
                     refine hK _ _ ?_ (Stab.Ext.refl _)
                     show _ = _
                     with_reducible rfl
                   refine Stab.Goals.guarded rfl rfl (fun us w cK hE hS hp hK => ?_) ?_
                   · obtain ⟨h10, h11, h4, -⟩ := hp
                     replace h10 : us 10 = _ := h10
                     replace h11 : us 11 = _ := h11
                     replace h4 : us 4 = _ := h4
                     refine ⟨_, h4, fun _ => ?_, fun h => absurd rfl h⟩
                     go_simp
                     go_wp2_with (go_at_call 19; ((with_reducible refine (HNM.out _ ((Stab.Ext.drew wr).trans hE)).mono ?_); rintro e w1 ⟨rfl, hb⟩))
                     refine hK _ _ ?_ hb
                     show _ = _
                     with_reducible rfl
                   refine Stab.Goals.guarded rfl rfl (fun us w cK hE hS hp hK => ?_) ?_
                   · obtain ⟨h9, h12, h4, -⟩ := hp
                     replace h9 : us 9 = _ := h9
                     replace h12 : us 12 = _ := h12
                     replace h4 : us 4 = _ := h4
                     refine ⟨_, h4, fun _ => ?_, fun h => absurd rfl h⟩
                     go_simp
                     refine hK _ _ ?_ (Stab.Ext.refl _)
                     show _ = _
                     with_reducible rfl
                   refine Stab.Goals.plain rfl rfl (fun us w cK hE hS hp hK => ?_) ?_
                   · obtain ⟨h4, h13, -⟩ := hp
                     replace h4 : us 4 = _ := h4
                     replace h13 : us 13 = _ := h13
                     go_simp
                     refine hK _ _ ?_ (Stab.Ext.refl _)
                     show _ = _
                     with_reducible rfl
                   exact Stab.Goals.nil
                 case last34b =>
                   intro us w12 hE hS hp
                   obtain ⟨h14, -⟩ := hp
                   replace h14 : us 14 = _ := h14
                   simp only [List.drop_succ_cons, List.drop_nil, List.drop_zero, h14]
                   refine wpList_nil ?_
                   have HE12 := Lib.hid (HEX.out.trans ((Stab.Ext.drew _).trans hE))
                   clear hE hS h14
                   go_wp2_with fail
                   go_roundw
                   case rel => exact ⟨q + 1, by omega, by go_num, HE12.out⟩
                   case measure => simp [intOf]; omega
               · obtain rfl : q = gl.length := by omega
                 have dq : ¬ ((gl.length : Int) < (gl.length : Int)) := by omega
                 go_wp2_with fail
                 go_roundw
                 case rel => exact ⟨j + 1, by omega, by go_num, HRR.out.ext (HER10.out.trans hEx), HER.out.trans (HER10.out.trans hEx)⟩
                 case measure => simp [intOf]; omega
       · obtain rfl : j = 3 := by omega
         have HB := Lib.hid (HB7.out.trans (Below.mono hEr HB7.out.size))
         clear hR hEr
         go_wp2_with fail
         go_ret
         exact ⟨rfl, HB.out⟩
end Hlt
end Go.Proofs.YtnbkhdbligjifaaGreatDoor
