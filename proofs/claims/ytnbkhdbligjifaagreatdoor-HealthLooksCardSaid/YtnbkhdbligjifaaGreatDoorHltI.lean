/-
 The law HealthLooks: its walk.
-/
import Derived.Test.YtnbkhdbligjifaaGreatDoorHltR
set_option linter.unusedVariables false
set_option linter.unusedSimpArgs false
namespace Go.Proofs.YtnbkhdbligjifaaGreatDoor
open Go Go.RowKit Vm
open scoped Classical
namespace Hlt
set_option linter.unusedVariables false
structure LkInv (w3 : World) (O : List Nat) (b bx k : Nat) (p : PW) (O' : List Nat) (wr : World) : Prop where
 wb : WB w3 O b p O' wr
 fit : WFit 1 3 p
 calls : p.calls = 6
 box : Blk wr bx 25 #[.int .i64 (k : Int), .int .i64 3]
 off : bx ∉ O'
section
variable {w w3 wr wr2 : World} {O O' : List Nat} {b bx k : Nat} {p p2 : PW}
theorem LkInv.ext (h : LkInv w3 O b bx k p O' wr) (hE : Stab.Ext wr wr2) : LkInv w3 O b bx k p O' wr2 := ⟨h.wb.ext hE, h.fit, h.calls, h.box.below hE h.box.lt, h.off⟩
theorem LkInv.below {c : Nat} (h : LkInv w3 O b bx k p O' wr) (hlow : ∀ x, x ∈ O → c ≤ x) (hE : Below w.heap.size w w3) (hc : w.heap.size ≤ c := by omega) : Below w.heap.size w wr := new_below hE h.wb.fr fun x hx => Nat.le_trans hc (hlow x hx)
theorem LkInv.strike (h : LkInv w3 O b bx k p O' wr) (f : Flt) (hf : f.fits) : Calls Tryz.prog 13 #[.pointer (some ⟨b, 0, none⟩), .agg #[.int .u8 f.kind, .int .i64 f.store, .int .i64 f.n, .int .i64 f.at_, .int .i64 f.c]] wr (WPost wr b O' (.int .i64 (p.strikeE f)) (p.struck f)) :=
 wstrike_any h.wb.at_ f hf ((h.fit.fits _).ok (by omega)).small
theorem LkInv.struck (h : LkInv w3 O b bx k p O' wr) {f : Flt} (hf : f.fits) {x : Value} {e : Ending} (hp : WPost wr b O' x (p.struck f) e wr2) : ∃ O5, LkInv w3 O b bx k (p.struck f) O5 wr2 := by
 obtain ⟨O5, h1, h2, h3⟩ := h.wb.next hp
 obtain ⟨q1, q2⟩ := struck_world h.fit hf
 refine ⟨O5, h1, q1, q2.trans h.calls, h2.blk h.box h.off, fun hm => ?_⟩
 rcases h3 _ hm with h4 | h4
 · exact h.off h4
 · have := h.box.lt; omega
end
structure LkRd (b cb A1 A2 : Nat) (p pc : PW) (O OC : List Nat) (xs : List Value) (W : World) : Prop where
 at_ : WAt W b p O
 cat : WAt W cb pc OC
 a1 : Blk W A1 4 xs.toArray
 a2 : Blk W A2 4 xs.toArray
theorem LkRd.ext {b cb A1 A2 : Nat} {p pc : PW} {O OC : List Nat} {xs : List Value} {W W' : World} (h : LkRd b cb A1 A2 p pc O OC xs W) (hE : Stab.Ext W W') : LkRd b cb A1 A2 p pc O OC xs W' :=
 ⟨h.at_.keep (Fr.of_below (O := []) hE) (by simp), h.cat.keep (Fr.of_below (O := []) hE) (by simp), h.a1.below hE h.a1.lt, h.a2.below hE h.a2.lt⟩
structure LkRj (b cb A1 A2 j : Nat) (x : Bool) (p pc : PW) (O OC : List Nat) (W : World) : Prop where
 at_ : WAt W b p O
 cat : WAt W cb pc OC
 c1 : W.cell? ⟨A1, j, none⟩ = some (.bool x)
 c2 : W.cell? ⟨A2, j, none⟩ = some (.bool x)
theorem LkRj.ext {b cb A1 A2 j : Nat} {x : Bool} {p pc : PW} {O OC : List Nat} {W W' : World} (h : LkRj b cb A1 A2 j x p pc O OC W) (hE : Stab.Ext W W') : LkRj b cb A1 A2 j x p pc O OC W' :=
 ⟨h.at_.keep (Fr.of_below (O := []) hE) (by simp), h.cat.keep (Fr.of_below (O := []) hE) (by simp), hE.cell h.c1, hE.cell h.c2⟩
theorem same_self {w : World} {v1 v2 : Value} {l : List POb} (h1 : ObjsAt w 0 v1 l) (h2 : ObjsAt w 0 v2 l) (hl : l.length ≤ 100000) : Calls Tryz.prog 21 #[v1, v2] w fun e w' => e = .returned (.bool true) ∧ Below w.heap.size w w' := by
 have := same_any h1 h2 hl hl
 rwa [sameB_self] at this
set_option maxRecDepth 100000 in
set_option maxHeartbeats 16000000 in
theorem looks_walk {G : Nat} (hGG : Tryz.prog.globals.size ≤ G) (hnew : ∀ w : World, G ≤ w.heap.size → Calls Tryz.prog 139 #[] w (Spr.NewPost w)) (hawake : ∀ w : World, Shd.Vars w → G ≤ w.heap.size → Calls Tryz.prog 10 #[] w (TruePost w))
   (a : Int) (s : ByteArray) (v : Value) (l : List Flt) (w : World) (hl : FaultsAt w v l) (hv : Shd.Vars w) (hG : G ≤ w.heap.size) :
   Calls Tryz.prog 4 #[.int .i64 a, .string s, v] w (TruePost w) := by
 obtain ⟨⟨A, cap, rfl, hlc, hcells⟩, hfits⟩ := hl
 have HAW := Lib.hid hawake
 have HNEW := Lib.hid hnew
 have HG := Lib.hid hG
 have HGG := Lib.hid hGG
 have HV := Lib.hid hv
 have HCELLS := Lib.hid hcells
 have HFITS := Lib.hid hfits
 clear hnew hawake hv hG hGG hcells hfits
 have hab : ∀ w1 : World, Stab.Ext w w1 → Calls Tryz.prog 10 #[] w1 (TruePost w1) := fun w1 hE => HAW.out w1 (HV.out.below hE) (Nat.le_trans HG.out hE.size)
 have HAB := Lib.hid hab
 clear hab
 by_cases hs : s.size ≤ 5000 ∧ l.length ≤ 30
 case neg =>
   by_cases hs1 : s.size ≤ 5000
   · have hs2 : ¬ ((l.length : Int) ≤ 30) := by omega
     have hs3 : (s.size : Int) ≤ 5000 := by omega
     go_enter Tryz.func4, Tryz.ntmps4
     go_wp2_with (go_at_call 10; with_reducible refine (HAB.out _ (Stab.Ext.refl _)).mono ?_)
     rintro e w1 ⟨rfl, hb⟩
     have HB := Lib.hid hb
     clear hb
     go_wp2_with fail
     go_ret
     exact ⟨rfl, HB.out⟩
   · have hs3 : ¬ ((s.size : Int) ≤ 5000) := by omega
     go_enter Tryz.func4, Tryz.ntmps4
     go_wp2_with (go_at_call 10; with_reducible refine (HAB.out _ (Stab.Ext.refl _)).mono ?_)
     rintro e w1 ⟨rfl, hb⟩
     have HB := Lib.hid hb
     clear hb
     go_wp2_with fail
     go_ret
     exact ⟨rfl, HB.out⟩
 obtain ⟨hs1, hs2⟩ := hs
 have hs3 : (s.size : Int) ≤ 5000 := by omega
 have hs4 : (l.length : Int) ≤ 30 := by omega
 go_enter Tryz.func4, Tryz.ntmps4
 go_wp2_with (go_at_call 10; with_reducible refine (HAB.out _ (Stab.Ext.refl _)).mono ?_)
 rintro e w1 ⟨rfl, hb⟩
 have HB1 := Lib.hid hb
 clear hb
 go_wp2_with fail
 have hk : wrap64 (1 + wrap64 ((IntKind.u64.wrap a).tmod 3)) = ((kOf a : Nat) : Int) := by
   have h0 : 0 ≤ IntKind.u64.wrap a := by rw [IntKind.wrap_u64]; exact Int.emod_nonneg _ (by decide)
   have h1 := Int.emod_lt_of_pos (IntKind.u64.wrap a) (show (0:Int) < 3 by decide)
   have h2 := Int.emod_nonneg (IntKind.u64.wrap a) (show (3:Int) ≠ 0 by decide)
   rw [Int.tmod_eq_emod_of_nonneg h0]
   unfold kOf
   generalize IntKind.u64.wrap a % 3 = x at *
   obtain rfl | rfl | rfl : x = 0 ∨ x = 1 ∨ x = 2 := by omega
   all_goals (unfold wrap64; omega)
 simp only [hk]
 obtain ⟨hk1, hk3⟩ := kOf_le a
 clear hk
 generalize kOf a = k at *
 have hcode : Shd.codeB (k : Int) ((3 : Nat) : Int) = true := (Shd.codeB_iff _ _).2 (by omega)
 have HCODE := Lib.hid hcode
 clear hcode
 have bx := Blk.new w1 25 #[.int .i64 (k : Int), .int .i64 3]
 have hE2 : Stab.Ext w (w1.alloc (.cells #[.int .i64 (k : Int), .int .i64 3] 25)) := HB1.out.alloc HB1.out.size _
 have hbxl : w1.heap.size < (w1.alloc (.cells #[.int .i64 (k : Int), .int .i64 3] 25)).heap.size := by simp
 generalize (w1.alloc (.cells #[.int .i64 (k : Int), .int .i64 3] 25)) = w2 at *
 have hbw : w.heap.size ≤ w1.heap.size := HB1.out.size
 obtain ⟨bxn, hbn⟩ : ∃ x, x = w1.heap.size := ⟨_, rfl⟩
 rw [← hbn] at bx hbxl hbw ⊢
 clear hbn
 have HNEWW := Lib.hid (show Calls Tryz.prog 11 #[.int .i64 3] w2 (WNewPost 3 w2) from wnew_any w2 3 (by omega) (by omega))
 have HBX := Lib.hid bx
 have HE2 := Lib.hid hE2
 clear bx hE2 HB1
 go_wp2_with (go_at_call 11; with_reducible refine HNEWW.out.mono ?_)
 rintro e w3 ⟨b, O, rfl, hlow, hat, hb3⟩
 have hE3 : Stab.Ext w w3 := HE2.out.trans hb3
 have hO : Far O := fun x hx => Nat.le_trans HGG.out (Nat.le_trans HG.out (Nat.le_trans HE2.out.size (hlow x hx)))
 have hbx3 := HBX.out.below hb3 HBX.out.lt
 have hfit0 : ∀ i, i < 3 → Fits 0 ((newP 3).st i) ∧ Well ((newP 3).st i) := fun i hi => ⟨⟨Nat.le_refl _, fun p hp => (by cases hp), rfl, ⟨by show _ ≤ (-1 : Int); decide, by show (-1 : Int) ≤ _; decide⟩⟩, ⟨rfl, rfl, rfl⟩⟩
 have HFILL := Lib.hid (show Calls Tryz.prog 12 #[.pointer (some ⟨b, 0, none⟩), .agg #[.int .i64 (k : Int), .int .i64 3], .string s] w3 (FillPost w3 O b (newP 3) k 3 ⟨(Shd.sumL s.data.toList).toArray⟩ s) from
   fill_any HNEW.out (Nat.le_trans HG.out hE3.size) hat ⟨rfl, rfl⟩ hO (HV.out.below hE3) k 3 HCODE.out rfl s (by omega) 0 (by omega) hfit0)
 have hdl : (⟨(Shd.sumL s.data.toList).toArray⟩ : ByteArray).size = 32 := Shd.sumL_len _
 generalize hd : (⟨(Shd.sumL s.data.toList).toArray⟩ : ByteArray) = d at *
 clear hd
 have k0 := hbx3.cell 0
 have k1 := hbx3.cell 1
 have HLOW := Lib.hid hlow
 have HE3 := Lib.hid hE3
 have HO := Lib.hid hO
 have HBX3 := Lib.hid hbx3
 have HLT3 := Lib.hid hat.lt
 have HS2 := Lib.hid hb3.size
 clear hlow hat hb3 hE3 hO hbx3 hfit0 HNEWW
 go_wp2_with (go_at_call 12; with_reducible refine HFILL.out.mono ?_)
 rintro e w4 ⟨O4, rfl, hwb4⟩
 have hfit4 : WFit 1 3 (filled (newP 3) k 3 d s 3) := by
   refine ⟨(adv_st (newP 3) (2 * 3)).1, fun i => ?_, filled_calm ⟨rfl, rfl⟩ k 3 d s 3⟩
   show Fits 1 (if i < 3 then stored ((newP 3).st i) (nmB d i) (datB k 3 d.data.toList s i) else (newP 3).st i)
   by_cases hi : i < 3
   case neg => rw [if_neg hi]; exact ⟨Nat.zero_le _, fun p hp => (by cases hp), rfl, ⟨by show _ ≤ (-1 : Int); decide, by show (-1 : Int) ≤ _; decide⟩⟩
   rw [if_pos hi]
   have h0 : Fits 0 ((newP 3).st i) := ⟨Nat.le_refl _, fun p hp => (by cases hp), rfl, ⟨by show _ ≤ (-1 : Int); decide, by show (-1 : Int) ≤ _; decide⟩⟩
   exact stored_fits h0 (nmB_size d hdl i (by omega)).2 (datB_size (by omega) (by omega) (by simpa using hdl) (by omega))
 have hcal4 : (filled (newP 3) k 3 d s 3).calls = 6 := by kernel_rfl
 have HI0 := Lib.hid (show LkInv w3 O b bxn k (filled (newP 3) k 3 d s 3) O4 w4 from
   ⟨hwb4, hfit4, hcal4, (hwb4.fr.blk HBX3.out (fun hm => by have := HLOW.out _ hm; omega)), fun hm => by
     rcases hwb4.own _ hm with h4 | h4
     · have := HLOW.out _ h4; omega
     · have := HBX3.out.lt; omega⟩)
 generalize filled (newP 3) k 3 d s 3 = p4 at *
 clear hwb4 hfit4 hcal4 k0 k1
 go_wp2_with fail
 go_loopw [12] (fun i wr => ∃ (q : Nat) (p' : PW) (O' : List Nat), q ≤ l.length ∧ i = .int .i64 (q : Int) ∧ LkInv w3 O b bxn k p' O' wr) (fun i _ => l.length - (intOf i).toNat)
 case atStart => exact ⟨0, _, _, by omega, rfl, HI0.out⟩
 case round =>
   obtain ⟨q, p', O', hq, rfl, hI⟩ := hrel
   by_cases hlt : q < l.length
   · have hlt2 : (q : Int) < (l.length : Int) := by omega
     obtain ⟨g, o, rfl, hgl, hc⟩ := HCELLS.out (by omega)
     obtain ⟨c0, c1, c2, c3, c4⟩ := hc q l[q] (List.getElem?_eq_getElem hlt)
     have hf := HFITS.out l[q] (List.getElem_mem hlt)
     have hbel := hI.below HLOW.out HE3.out
     replace c0 := (hbel.cell (p := ⟨g, _, none⟩) hgl).trans c0
     replace c1 := (hbel.cell (p := ⟨g, _, none⟩) hgl).trans c1
     replace c2 := (hbel.cell (p := ⟨g, _, none⟩) hgl).trans c2
     replace c3 := (hbel.cell (p := ⟨g, _, none⟩) hgl).trans c3
     replace c4 := (hbel.cell (p := ⟨g, _, none⟩) hgl).trans c4
     have HST := Lib.hid (hI.strike l[q] hf)
     have HI := Lib.hid hI
     have HF := Lib.hid hf
     generalize l[q] = f at *
     clear hI hf hc hbel
     go_wp2_with (go_at_call 13; with_reducible refine HST.out.mono ?_)
     intro e w5 hq5
     have HI5 := Lib.hid (HI.out.struck HF.out hq5)
     obtain ⟨rfl, -⟩ := hq5
     go_wp2_with fail
     go_roundw
     case rel =>
       obtain ⟨O5, h5⟩ := HI5.out
       exact ⟨q + 1, _, O5, by omega, by go_num, h5⟩
     case measure => simp [intOf]; omega
   · obtain rfl : q = l.length := by omega
     have d1 : ¬ ((l.length : Int) < (l.length : Int)) := by omega
     have k0 := hI.box.cell 0
     have k1 := hI.box.cell 1
     have HCP := Lib.hid (wcopy_any hI.wb.at_ (by have := hI.fit.n_; omega) (fun i hi => by rw [(hI.fit.fits i).wr]; simp))
     have HI := Lib.hid hI
     clear hI
     go_wp2_with (go_at_call 14; with_reducible refine HCP.out.mono ?_)
     rintro e w5 ⟨cb, OC, rfl, hclow, hcat, hb5⟩
     have hI5 := HI.out.ext hb5
     have HCALLS := Lib.hid (calls_any hI5.wb.at_)
     rw [hI5.calls] at HCALLS
     have HI5 := Lib.hid hI5
     have HCLOW := Lib.hid (fun x (hx : x ∈ OC) => (show x ∉ O' from fun hm => by have := HI.out.wb.lt x hm; have := hclow x hx; omega))
     have HCAT := Lib.hid hcat
     clear hI5 hclow hcat hb5 k0 k1
     go_wp2_with (go_at_call 20; with_reducible refine HCALLS.out.mono ?_)
     rintro e w6 ⟨rfl, rfl⟩
     have hv5 := vars_fr (HV.out.below HE3.out) HI5.out.wb.fr HO.out
     have hfar5 : Far O' := fun x hx => by
       rcases HI5.out.wb.own x hx with h4 | h4
       · exact HO.out x h4
       · exact Nat.le_trans HGG.out (Nat.le_trans HG.out (Nat.le_trans HE3.out.size h4))
     have hof1 := of_any HI5.out.wb.at_ HI5.out.fit.calm hfar5 hv5 k 3 HCODE.out HI5.out.fit.n_.symm d hdl
     have HOF1 := Lib.hid (show Calls Tryz.prog 15 #[.pointer (some ⟨b, 0, none⟩), .agg #[.int .i64 (k : Int), .int .i64 3], .string d] w5 (OfPost w5 O' b p' k 3 d) from hof1)
     have k0 := HI5.out.box.cell 0
     have k1 := HI5.out.box.cell 1
     have HF5 := Lib.hid hfar5
     have HV5 := Lib.hid hv5
     clear hof1 hfar5 hv5
     go_wp2_with (go_at_call 15; with_reducible refine HOF1.out.mono ?_)
     rintro e w6 ⟨A1, O6, rfl, hA1, hwb6, hn1, hlo1⟩
     have hs5 : bxn ∉ O6 := fun hm => by
       rcases hwb6.own _ hm with h4 | h4
       · exact HI5.out.off h4
       · have := HI5.out.box.lt; omega
     have hbx6 := hwb6.fr.blk HI5.out.box HI5.out.off
     have hcat6 := HCAT.out.keep hwb6.fr fun x hx => HCLOW.out x hx
     have hfit6 := adv_fit HI5.out.fit 3
     have hv6 := vars_fr HV5.out hwb6.fr HF5.out
     have hfar6 : Far O6 := fun x hx => by
       rcases hwb6.own x hx with h4 | h4
       · exact HF5.out x h4
       · exact Nat.le_trans HGG.out (Nat.le_trans HG.out (Nat.le_trans HE3.out.size (Nat.le_trans HI5.out.wb.fr.size h4)))
     have hof2 := of_any hwb6.at_ hfit6.calm hfar6 hv6 k 3 HCODE.out hfit6.n_.symm d hdl
     have HOF2 := Lib.hid (show Calls Tryz.prog 15 #[.pointer (some ⟨b, 0, none⟩), .agg #[.int .i64 (k : Int), .int .i64 3], .string d] w6 (OfPost w6 O6 b (PW.adv p' 3) k 3 d) from hof2)
     have hcO6 : ∀ x, x ∈ OC → x ∉ O6 := fun x hx hm => by
       rcases hwb6.own x hm with h4 | h4
       · exact HCLOW.out x hx h4
       · have := HCAT.out.lt x hx; omega
     have HW6 := Lib.hid hwb6
     have HBX6 := Lib.hid hbx6
     have HCAT6 := Lib.hid hcat6
     have HFIT6 := Lib.hid hfit6
     have HCO6 := Lib.hid hcO6
     have HA1 := Lib.hid hA1
     have HN1 := Lib.hid hn1
     clear k0 k1 hof2 hcO6 hfar6 hv6 hcat6 hwb6 hA1 hn1 hs5
     have k0 := hbx6.cell 0
     have k1 := hbx6.cell 1
     clear hbx6 hfit6
     go_wp2_with (go_at_call 15; with_reducible refine HOF2.out.mono ?_)
     rintro e w7 ⟨A2, O7, rfl, hA2, hwb7, hn2, hlo2⟩
     rw [look_adv HI5.out.fit.calm] at hA2
     have hA17 := hwb7.fr.blk HA1.out HN1.out
     have hcat7 := HCAT6.out.keep hwb7.fr fun x hx => HCO6.out x hx
     have hfit7 := adv_fit HFIT6.out 3
     have hcal7 : (PW.adv (PW.adv p' 3) 3).calls = 12 := by
       have h6 := HI5.out.calls
       show wrap64 (wrap64 (wrap64 (wrap64 (wrap64 (wrap64 (p'.calls + 1) + 1) + 1) + 1) + 1) + 1) = 12
       rw [h6]
       unfold wrap64
       omega
     have HCALL2 := Lib.hid (calls_any hwb7.at_)
     rw [hcal7] at HCALL2
     have HB7 := Lib.hid (show Below w.heap.size w w7 from by
       have f1 := HI5.out.wb
       have f3 : WB w3 O b (PW.adv p' 3) O6 w6 := ⟨HW6.out.at_, f1.fr_next HW6.out.fr, fun x hx => (HW6.out.own x hx).elim (fun h => f1.own x h) (fun h => .inr (Nat.le_trans f1.fr.size h))⟩
       exact new_below HE3.out (f3.fr_next hwb7.fr) fun x hx => by have := HLOW.out x hx; have := HE2.out.size; omega)
     have HR := Lib.hid (show LkRd b cb A1 A2 (PW.adv (PW.adv p' 3) 3) p' O7 OC ((lookL p' d k 3 3).map fun g => Value.bool g.sound) w7 from ⟨hwb7.at_, hcat7, hA17, hA2⟩)
     have HFIT7 := Lib.hid hfit7
     clear k0 k1 hA2 hA17 hcat7 hfit7 hcal7 hwb7 hn2
     go_wp2_with (go_at_call 20; with_reducible refine HCALL2.out.mono ?_)
     rintro e w8 ⟨rfl, rfl⟩
     go_wp2_with fail
     have hb7l : b < w7.heap.size := by obtain ⟨v7, B7, O7', q1, -⟩ := HR.out.at_; exact q1.blk.lt
     go_loopw [18] (fun i wr => ∃ j : Nat, j ≤ 3 ∧ i = .int .i64 (j : Int) ∧ LkRd b cb A1 A2 (PW.adv (PW.adv p' 3) 3) p' O7 OC ((lookL p' d k 3 3).map fun g => Value.bool g.sound) wr ∧ Below w.heap.size w wr) (fun i _ => 3 - (intOf i).toNat)
     case atStart => exact ⟨0, by omega, rfl, HR.out, HB7.out⟩
     case round =>
       obtain ⟨j, hj, rfl, hR, hBel⟩ := hrel
       by_cases hj3 : j < 3
       · have hj4 : (j : Int) < 3 := by omega
         have hj5 : (0 : Int) ≤ (j : Int) := by omega
         have hsnd := sound_up (p := p') HI5.out.fit.calm (d := d) (k := k) (n := (3 : Nat)) (i := j) (by have := HI5.out.fit.n_; omega)
         have hget : ((lookL p' d k (3 : Nat) 3).map fun g => Value.bool g.sound)[j]? = some (.bool (gotOf (nmL d j) (wgetO p' j (nmB d j)) k (3 : Nat)).sound) := by
           unfold lookL
           rw [List.getElem?_map, List.getElem?_map, List.getElem?_range hj3]
           rfl
         have hq1 := hR.a1.cell j
         have hq2 := hR.a2.cell j
         rw [List.getElem?_toArray] at hq1 hq2
         have hq3 := hq1.trans hget
         have hq4 := hq2.trans hget
         have HRR := Lib.hid hR
         have HBR := Lib.hid hBel
         have HOB1 := Lib.hid (fun W (hW : WAt W b (PW.adv (PW.adv p' 3) 3) O7) => (show Calls Tryz.prog 17 #[.pointer (some ⟨b, 0, none⟩), .int .i64 (j : Int)] W fun e w' => ∃ v, e = .returned v ∧ ObjsAt w' 0 v (objsL p' j) ∧ Below W.heap.size W w' from by
           have := objects_ok hW HFIT7.out (by omega) hj3
           rwa [objsL_adv, objsL_adv] at this))
         have HOB2 := Lib.hid (fun W (hW : WAt W cb p' OC) => objects_ok hW HI5.out.fit (by omega) hj3)
         have HOL := Lib.hid (show (objsL p' j).length ≤ 100000 from by have := objsL_len HI5.out.fit hj3; omega)
         have hup : ∀ W, WAt W b (PW.adv (PW.adv p' 3) 3) O7 → Calls Tryz.prog 22 #[.pointer (some ⟨b, 0, none⟩), .int .i64 (j : Int)] W fun e w' => e = .returned (.bool (p'.upAt (j : Int))) ∧ W = w' := fun W hW => by
           have := wup_any hW (j : Int)
           have he : (PW.adv (PW.adv p' 3) 3).upAt (j : Int) = p'.upAt (j : Int) := rfl
           rwa [he] at this
         generalize (gotOf (nmL d j) (wgetO p' j (nmB d j)) k (3 : Nat)).sound = x at *
         have HRJ := Lib.hid (show LkRj b cb A1 A2 j x (PW.adv (PW.adv p' 3) 3) p' O7 OC wr from ⟨hR.at_, hR.cat, hq3, hq4⟩)
         clear hR hBel hget hq1 hq2 hq3 hq4
         cases x with
         | true =>
           rw [hsnd rfl] at hup
           have HUP := Lib.hid hup
           clear hup hsnd
           go_wp2_with fail
           refine Stab.wp_region_stable 31 141 [some 110, some 111, some 112, some 113, some 114, some 115, some 116, some 117, some 118, some 119, some 120, some 121, some 122, some 123, some 124, some 125, some 126, some 127, some 128, some 129, some 130, some 131, some 132, some 133, some 134, some 135, some 136, some 137, some 138, some 139, some 140] [[], [], [0, 1], [2], [], [], [4, 5], [6], [3, 7], [8], [9], [9], [10, 11, 9], [9], [9], [13, 14, 9], [12, 15, 9], [16, 9], [9, 17], [18], [19], [19], [20, 21, 19], [22, 19], [23, 19], [24], [24], [25, 26, 24], [27, 24], [24, 28, 19], [19, 29]] [30] (LkRj b cb A1 A2 j true (PW.adv (PW.adv p' 3) 3) p' O7 OC) [Stab.eqv ?r23ae0, Stab.eqv ?r23ae1, Stab.eqv ?r23ae2, Stab.eqv ?r23ae3, Stab.eqv ?r23ae4, Stab.eqv ?r23ae5, Stab.eqv ?r23ae6, Stab.eqv ?r23ae7, Stab.eqv ?r23ae8, Stab.eqv ?r23ae9, Stab.eqv ?r23ae10, Stab.eqv ?r23ae11, objsS (objsL p' j), Stab.eqv ?r23ae13, Stab.eqv ?r23ae14, objsS (objsL p' j), Stab.eqv ?r23ae16, Stab.eqv ?r23ae17, Stab.eqv ?r23ae18, Stab.eqv ?r23ae19, Stab.eqv ?r23ae20, Stab.eqv ?r23ae21, Stab.eqv ?r23ae22, Stab.eqv ?r23ae23, Stab.eqv ?r23ae24, Stab.eqv ?r23ae25, Stab.eqv ?r23ae26, Stab.eqv ?r23ae27, Stab.eqv ?r23ae28, Stab.eqv ?r23ae29, Stab.eqv ?r23ae30] (by kernel_rfl) rfl (by kernel_rfl) (by kernel_rfl) (fun us => by simp only [Stab.putAll, Act.put, List.setIfInBounds_toArray, List.set_cons_zero, List.set_cons_succ]; rfl) (HRJ.out.ext (Stab.Ext.drew _)) (fun _ _ h hE => h.ext hE) ?goals23a ?last23a
           case goals23a =>
             simp only [List.take_succ_cons, List.take_zero]
             refine Stab.Goals.plain rfl rfl (fun us w cK hE hS hp hK => ?_) ?_
             · go_simp
               refine hK _ _ ?_ (Stab.Ext.refl _)
               show _ = _
               with_reducible rfl
             refine Stab.Goals.plain rfl rfl (fun us w cK hE hS hp hK => ?_) ?_
             · go_simp
               refine hK _ _ ?_ (Stab.Ext.refl _)
               show _ = _
               with_reducible rfl
             refine Stab.Goals.plain rfl rfl (fun us w cK hE hS hp hK => ?_) ?_
             · obtain ⟨h0, h1, -⟩ := hp
               replace h0 : us 0 = _ := h0
               replace h1 : us 1 = _ := h1
               go_simp
               refine hK _ _ ?_ (Stab.Ext.refl _)
               show _ = _
               with_reducible rfl
             refine Stab.Goals.plain rfl rfl (fun us w cK hE hS hp hK => ?_) ?_
             · obtain ⟨h2, -⟩ := hp
               replace h2 : us 2 = _ := h2
               have s0 := hS.c1; have s1 := hS.c2
               go_simp
               refine hK _ _ ?_ (Stab.Ext.refl _)
               show _ = _
               with_reducible rfl
             refine Stab.Goals.plain rfl rfl (fun us w cK hE hS hp hK => ?_) ?_
             · go_simp
               refine hK _ _ ?_ (Stab.Ext.refl _)
               show _ = _
               with_reducible rfl
             refine Stab.Goals.plain rfl rfl (fun us w cK hE hS hp hK => ?_) ?_
             · go_simp
               refine hK _ _ ?_ (Stab.Ext.refl _)
               show _ = _
               with_reducible rfl
             refine Stab.Goals.plain rfl rfl (fun us w cK hE hS hp hK => ?_) ?_
             · obtain ⟨h4, h5, -⟩ := hp
               replace h4 : us 4 = _ := h4
               replace h5 : us 5 = _ := h5
               go_simp
               refine hK _ _ ?_ (Stab.Ext.refl _)
               show _ = _
               with_reducible rfl
             refine Stab.Goals.plain rfl rfl (fun us w cK hE hS hp hK => ?_) ?_
             · obtain ⟨h6, -⟩ := hp
               replace h6 : us 6 = _ := h6
               have s0 := hS.c1; have s1 := hS.c2
               go_simp
               refine hK _ _ ?_ (Stab.Ext.refl _)
               show _ = _
               with_reducible rfl
             refine Stab.Goals.plain rfl rfl (fun us w cK hE hS hp hK => ?_) ?_
             · obtain ⟨h3, h7, -⟩ := hp
               replace h3 : us 3 = _ := h3
               replace h7 : us 7 = _ := h7
               go_simp
               refine hK _ _ ?_ (Stab.Ext.refl _)
               show _ = _
               with_reducible rfl
             refine Stab.Goals.plain rfl rfl (fun us w cK hE hS hp hK => ?_) ?_
             · obtain ⟨h8, -⟩ := hp
               replace h8 : us 8 = _ := h8
               go_simp
               refine hK _ _ ?_ (Stab.Ext.refl _)
               show _ = _
               with_reducible rfl
             refine Stab.Goals.guarded rfl rfl (fun us w cK hE hS hp hK => ?_) ?_
             · obtain ⟨h9, -⟩ := hp
               replace h9 : us 9 = _ := h9
               refine ⟨_, h9, fun _ => ?_, fun h => absurd rfl h⟩
               go_simp
               refine hK _ _ ?_ (Stab.Ext.refl _)
               show _ = _
               with_reducible rfl
             refine Stab.Goals.guarded rfl rfl (fun us w cK hE hS hp hK => ?_) ?_
             · obtain ⟨h9, -⟩ := hp
               replace h9 : us 9 = _ := h9
               refine ⟨_, h9, fun _ => ?_, fun h => absurd rfl h⟩
               go_simp
               refine hK _ _ ?_ (Stab.Ext.refl _)
               show _ = _
               with_reducible rfl
             refine Stab.Goals.guarded rfl rfl (fun us w cK hE hS hp hK => ?_) ?_
             · obtain ⟨h10, h11, h9, -⟩ := hp
               replace h10 : us 10 = _ := h10
               replace h11 : us 11 = _ := h11
               replace h9 : us 9 = _ := h9
               refine ⟨_, h9, fun _ => ?_, fun h => absurd rfl h⟩
               go_simp
               go_wp2_with (go_at_call 17; ((with_reducible refine (HOB1.out _ hS.at_).mono ?_); rintro e w9 ⟨v9, rfl, hv9, hb9⟩))
               exact hK _ _ hv9 hb9
             refine Stab.Goals.guarded rfl rfl (fun us w cK hE hS hp hK => ?_) ?_
             · obtain ⟨h9, -⟩ := hp
               replace h9 : us 9 = _ := h9
               refine ⟨_, h9, fun _ => ?_, fun h => absurd rfl h⟩
               go_simp
               refine hK _ _ ?_ (Stab.Ext.refl _)
               show _ = _
               with_reducible rfl
             refine Stab.Goals.guarded rfl rfl (fun us w cK hE hS hp hK => ?_) ?_
             · obtain ⟨h9, -⟩ := hp
               replace h9 : us 9 = _ := h9
               refine ⟨_, h9, fun _ => ?_, fun h => absurd rfl h⟩
               go_simp
               refine hK _ _ ?_ (Stab.Ext.refl _)
               show _ = _
               with_reducible rfl
             refine Stab.Goals.guarded rfl rfl (fun us w cK hE hS hp hK => ?_) ?_
             · obtain ⟨h13, h14, h9, -⟩ := hp
               replace h13 : us 13 = _ := h13
               replace h14 : us 14 = _ := h14
               replace h9 : us 9 = _ := h9
               refine ⟨_, h9, fun _ => ?_, fun h => absurd rfl h⟩
               go_simp
               go_wp2_with (go_at_call 17; ((with_reducible refine (HOB2.out _ hS.cat).mono ?_); rintro e w9 ⟨v9, rfl, hv9, hb9⟩))
               exact hK _ _ hv9 hb9
             refine Stab.Goals.guarded rfl rfl (fun us w cK hE hS hp hK => ?_) ?_
             · obtain ⟨h12, h15, h9, -⟩ := hp
               replace h9 : us 9 = _ := h9
               refine ⟨_, h9, fun _ => ?_, fun h => absurd rfl h⟩
               have h12r : ObjsAt w 0 (us 12) (objsL p' j) := h12
               have h15r : ObjsAt w 0 (us 15) (objsL p' j) := h15
               go_simp
               go_wp2_with (go_at_call 21; ((refine (same_self h12r h15r HOL.out).mono ?_); rintro e w9 ⟨rfl, hb9⟩))
               refine hK _ _ ?_ hb9
               show _ = _
               with_reducible rfl
             refine Stab.Goals.guarded rfl rfl (fun us w cK hE hS hp hK => ?_) ?_
             · obtain ⟨h16, h9, -⟩ := hp
               replace h16 : us 16 = _ := h16
               replace h9 : us 9 = _ := h9
               refine ⟨_, h9, fun _ => ?_, fun h => absurd rfl h⟩
               go_simp
               refine hK _ _ ?_ (Stab.Ext.refl _)
               show _ = _
               with_reducible rfl
             refine Stab.Goals.plain rfl rfl (fun us w cK hE hS hp hK => ?_) ?_
             · obtain ⟨h9, h17, -⟩ := hp
               replace h9 : us 9 = _ := h9
               replace h17 : us 17 = _ := h17
               go_simp
               refine hK _ _ ?_ (Stab.Ext.refl _)
               show _ = _
               with_reducible rfl
             refine Stab.Goals.plain rfl rfl (fun us w cK hE hS hp hK => ?_) ?_
             · obtain ⟨h18, -⟩ := hp
               replace h18 : us 18 = _ := h18
               go_simp
               refine hK _ _ ?_ (Stab.Ext.refl _)
               show _ = _
               with_reducible rfl
             refine Stab.Goals.guarded rfl rfl (fun us w cK hE hS hp hK => ?_) ?_
             · obtain ⟨h19, -⟩ := hp
               replace h19 : us 19 = _ := h19
               refine ⟨_, h19, fun _ => ?_, fun h => absurd rfl h⟩
               go_simp
               refine hK _ _ ?_ (Stab.Ext.refl _)
               show _ = _
               with_reducible rfl
             refine Stab.Goals.guarded rfl rfl (fun us w cK hE hS hp hK => ?_) ?_
             · obtain ⟨h19, -⟩ := hp
               replace h19 : us 19 = _ := h19
               refine ⟨_, h19, fun _ => ?_, fun h => absurd rfl h⟩
               go_simp
               refine hK _ _ ?_ (Stab.Ext.refl _)
               show _ = _
               with_reducible rfl
             refine Stab.Goals.guarded rfl rfl (fun us w cK hE hS hp hK => ?_) ?_
             · obtain ⟨h20, h21, h19, -⟩ := hp
               replace h20 : us 20 = _ := h20
               replace h21 : us 21 = _ := h21
               replace h19 : us 19 = _ := h19
               refine ⟨_, h19, fun _ => ?_, fun h => absurd rfl h⟩
               go_simp
               refine hK _ _ ?_ (Stab.Ext.refl _)
               show _ = _
               with_reducible rfl
             refine Stab.Goals.guarded rfl rfl (fun us w cK hE hS hp hK => ?_) ?_
             · obtain ⟨h22, h19, -⟩ := hp
               replace h22 : us 22 = _ := h22
               replace h19 : us 19 = _ := h19
               refine ⟨_, h19, fun _ => ?_, fun h => absurd rfl h⟩
               have s0 := hS.c1; have s1 := hS.c2
               go_simp
               refine hK _ _ ?_ (Stab.Ext.refl _)
               show _ = _
               with_reducible rfl
             refine Stab.Goals.guarded rfl rfl (fun us w cK hE hS hp hK => ?_) ?_
             · obtain ⟨h23, h19, -⟩ := hp
               replace h23 : us 23 = _ := h23
               replace h19 : us 19 = _ := h19
               refine ⟨_, h19, fun _ => ?_, fun h => absurd rfl h⟩
               go_simp
               refine hK _ _ ?_ (Stab.Ext.refl _)
               show _ = _
               with_reducible rfl
             refine Stab.Goals.guarded rfl rfl (fun us w cK hE hS hp hK => ?_) ?_
             · obtain ⟨h24, -⟩ := hp
               replace h24 : us 24 = _ := h24
               refine ⟨_, h24, fun _ => ?_, fun h => absurd rfl h⟩
               go_simp
               refine hK _ _ ?_ (Stab.Ext.refl _)
               show _ = _
               with_reducible rfl
             refine Stab.Goals.guarded rfl rfl (fun us w cK hE hS hp hK => ?_) ?_
             · obtain ⟨h24, -⟩ := hp
               replace h24 : us 24 = _ := h24
               refine ⟨_, h24, fun _ => ?_, fun h => absurd rfl h⟩
               go_simp
               refine hK _ _ ?_ (Stab.Ext.refl _)
               show _ = _
               with_reducible rfl
             refine Stab.Goals.guarded rfl rfl (fun us w cK hE hS hp hK => ?_) ?_
             · obtain ⟨h25, h26, h24, -⟩ := hp
               replace h25 : us 25 = _ := h25
               replace h26 : us 26 = _ := h26
               replace h24 : us 24 = _ := h24
               refine ⟨_, h24, fun _ => ?_, fun h => absurd rfl h⟩
               go_simp
               go_wp2_with (go_at_call 22; ((with_reducible refine (HUP.out _ hS.at_).mono ?_); rintro e w1 ⟨rfl, rfl⟩))
               refine hK _ _ ?_ (Stab.Ext.refl _)
               show _ = _
               with_reducible rfl
             refine Stab.Goals.guarded rfl rfl (fun us w cK hE hS hp hK => ?_) ?_
             · obtain ⟨h27, h24, -⟩ := hp
               replace h27 : us 27 = _ := h27
               replace h24 : us 24 = _ := h24
               refine ⟨_, h24, fun _ => ?_, fun h => absurd rfl h⟩
               go_simp
               refine hK _ _ ?_ (Stab.Ext.refl _)
               show _ = _
               with_reducible rfl
             refine Stab.Goals.guarded rfl rfl (fun us w cK hE hS hp hK => ?_) ?_
             · obtain ⟨h24, h28, h19, -⟩ := hp
               replace h24 : us 24 = _ := h24
               replace h28 : us 28 = _ := h28
               replace h19 : us 19 = _ := h19
               refine ⟨_, h19, fun _ => ?_, fun h => absurd rfl h⟩
               go_simp
               refine hK _ _ ?_ (Stab.Ext.refl _)
               show _ = _
               with_reducible rfl
             refine Stab.Goals.plain rfl rfl (fun us w cK hE hS hp hK => ?_) ?_
             · obtain ⟨h19, h29, -⟩ := hp
               replace h19 : us 19 = _ := h19
               replace h29 : us 29 = _ := h29
               go_simp
               refine hK _ _ ?_ (Stab.Ext.refl _)
               show _ = _
               with_reducible rfl
             exact Stab.Goals.nil
           case last23a =>
             intro us w9 hE hS hp
             obtain ⟨h30, -⟩ := hp
             replace h30 : us 30 = _ := h30
             simp only [List.drop_succ_cons, List.drop_zero, h30, Nat.zero_add, Nat.reduceAdd]
             have HR9 := Lib.hid (HRR.out.ext ((Stab.Ext.drew _).trans hE))
             have HB9 := Lib.hid (HBR.out.trans (Below.mono ((Stab.Ext.drew wr).trans hE) HBR.out.size))
             clear hE hS h30
             go_wp2_with fail
             go_roundw
             case rel => exact ⟨j + 1, by omega, by go_num, HR9.out, HB9.out⟩
             case measure => simp [intOf]; omega
         | false =>
           clear hup hsnd
           go_wp2_with fail
           refine Stab.wp_region_stable 31 141 [some 110, some 111, some 112, some 113, some 114, some 115, some 116, some 117, some 118, some 119, some 120, some 121, some 122, some 123, some 124, some 125, some 126, some 127, some 128, some 129, some 130, some 131, some 132, some 133, some 134, some 135, some 136, some 137, some 138, some 139, some 140] [[], [], [0, 1], [2], [], [], [4, 5], [6], [3, 7], [8], [9], [9], [10, 11, 9], [9], [9], [13, 14, 9], [12, 15, 9], [16, 9], [9, 17], [18], [19], [19], [20, 21, 19], [22, 19], [23, 19], [24], [24], [25, 26, 24], [27, 24], [24, 28, 19], [19, 29]] [30] (LkRj b cb A1 A2 j false (PW.adv (PW.adv p' 3) 3) p' O7 OC) [Stab.eqv ?r23be0, Stab.eqv ?r23be1, Stab.eqv ?r23be2, Stab.eqv ?r23be3, Stab.eqv ?r23be4, Stab.eqv ?r23be5, Stab.eqv ?r23be6, Stab.eqv ?r23be7, Stab.eqv ?r23be8, Stab.eqv ?r23be9, Stab.eqv ?r23be10, Stab.eqv ?r23be11, objsS (objsL p' j), Stab.eqv ?r23be13, Stab.eqv ?r23be14, objsS (objsL p' j), Stab.eqv ?r23be16, Stab.eqv ?r23be17, Stab.eqv ?r23be18, Stab.eqv ?r23be19, Stab.eqv ?r23be20, Stab.eqv ?r23be21, Stab.eqv ?r23be22, Stab.eqv ?r23be23, Stab.eqv ?r23be24, Stab.eqv ?r23be25, Stab.eqv ?r23be26, Stab.eqv ?r23be27, Stab.eqv ?r23be28, Stab.eqv ?r23be29, Stab.eqv ?r23be30] (by kernel_rfl) rfl (by kernel_rfl) (by kernel_rfl) (fun us => by simp only [Stab.putAll, Act.put, List.setIfInBounds_toArray, List.set_cons_zero, List.set_cons_succ]; rfl) (HRJ.out.ext (Stab.Ext.drew _)) (fun _ _ h hE => h.ext hE) ?goals23b ?last23b
           case goals23b =>
             simp only [List.take_succ_cons, List.take_zero]
             refine Stab.Goals.plain rfl rfl (fun us w cK hE hS hp hK => ?_) ?_
             · go_simp
               refine hK _ _ ?_ (Stab.Ext.refl _)
               show _ = _
               with_reducible rfl
             refine Stab.Goals.plain rfl rfl (fun us w cK hE hS hp hK => ?_) ?_
             · go_simp
               refine hK _ _ ?_ (Stab.Ext.refl _)
               show _ = _
               with_reducible rfl
             refine Stab.Goals.plain rfl rfl (fun us w cK hE hS hp hK => ?_) ?_
             · obtain ⟨h0, h1, -⟩ := hp
               replace h0 : us 0 = _ := h0
               replace h1 : us 1 = _ := h1
               go_simp
               refine hK _ _ ?_ (Stab.Ext.refl _)
               show _ = _
               with_reducible rfl
             refine Stab.Goals.plain rfl rfl (fun us w cK hE hS hp hK => ?_) ?_
             · obtain ⟨h2, -⟩ := hp
               replace h2 : us 2 = _ := h2
               have s0 := hS.c1; have s1 := hS.c2
               go_simp
               refine hK _ _ ?_ (Stab.Ext.refl _)
               show _ = _
               with_reducible rfl
             refine Stab.Goals.plain rfl rfl (fun us w cK hE hS hp hK => ?_) ?_
             · go_simp
               refine hK _ _ ?_ (Stab.Ext.refl _)
               show _ = _
               with_reducible rfl
             refine Stab.Goals.plain rfl rfl (fun us w cK hE hS hp hK => ?_) ?_
             · go_simp
               refine hK _ _ ?_ (Stab.Ext.refl _)
               show _ = _
               with_reducible rfl
             refine Stab.Goals.plain rfl rfl (fun us w cK hE hS hp hK => ?_) ?_
             · obtain ⟨h4, h5, -⟩ := hp
               replace h4 : us 4 = _ := h4
               replace h5 : us 5 = _ := h5
               go_simp
               refine hK _ _ ?_ (Stab.Ext.refl _)
               show _ = _
               with_reducible rfl
             refine Stab.Goals.plain rfl rfl (fun us w cK hE hS hp hK => ?_) ?_
             · obtain ⟨h6, -⟩ := hp
               replace h6 : us 6 = _ := h6
               have s0 := hS.c1; have s1 := hS.c2
               go_simp
               refine hK _ _ ?_ (Stab.Ext.refl _)
               show _ = _
               with_reducible rfl
             refine Stab.Goals.plain rfl rfl (fun us w cK hE hS hp hK => ?_) ?_
             · obtain ⟨h3, h7, -⟩ := hp
               replace h3 : us 3 = _ := h3
               replace h7 : us 7 = _ := h7
               go_simp
               refine hK _ _ ?_ (Stab.Ext.refl _)
               show _ = _
               with_reducible rfl
             refine Stab.Goals.plain rfl rfl (fun us w cK hE hS hp hK => ?_) ?_
             · obtain ⟨h8, -⟩ := hp
               replace h8 : us 8 = _ := h8
               go_simp
               refine hK _ _ ?_ (Stab.Ext.refl _)
               show _ = _
               with_reducible rfl
             refine Stab.Goals.guarded rfl rfl (fun us w cK hE hS hp hK => ?_) ?_
             · obtain ⟨h9, -⟩ := hp
               replace h9 : us 9 = _ := h9
               refine ⟨_, h9, fun _ => ?_, fun h => absurd rfl h⟩
               go_simp
               refine hK _ _ ?_ (Stab.Ext.refl _)
               show _ = _
               with_reducible rfl
             refine Stab.Goals.guarded rfl rfl (fun us w cK hE hS hp hK => ?_) ?_
             · obtain ⟨h9, -⟩ := hp
               replace h9 : us 9 = _ := h9
               refine ⟨_, h9, fun _ => ?_, fun h => absurd rfl h⟩
               go_simp
               refine hK _ _ ?_ (Stab.Ext.refl _)
               show _ = _
               with_reducible rfl
             refine Stab.Goals.guarded rfl rfl (fun us w cK hE hS hp hK => ?_) ?_
             · obtain ⟨h10, h11, h9, -⟩ := hp
               replace h10 : us 10 = _ := h10
               replace h11 : us 11 = _ := h11
               replace h9 : us 9 = _ := h9
               refine ⟨_, h9, fun _ => ?_, fun h => absurd rfl h⟩
               go_simp
               go_wp2_with (go_at_call 17; ((with_reducible refine (HOB1.out _ hS.at_).mono ?_); rintro e w9 ⟨v9, rfl, hv9, hb9⟩))
               exact hK _ _ hv9 hb9
             refine Stab.Goals.guarded rfl rfl (fun us w cK hE hS hp hK => ?_) ?_
             · obtain ⟨h9, -⟩ := hp
               replace h9 : us 9 = _ := h9
               refine ⟨_, h9, fun _ => ?_, fun h => absurd rfl h⟩
               go_simp
               refine hK _ _ ?_ (Stab.Ext.refl _)
               show _ = _
               with_reducible rfl
             refine Stab.Goals.guarded rfl rfl (fun us w cK hE hS hp hK => ?_) ?_
             · obtain ⟨h9, -⟩ := hp
               replace h9 : us 9 = _ := h9
               refine ⟨_, h9, fun _ => ?_, fun h => absurd rfl h⟩
               go_simp
               refine hK _ _ ?_ (Stab.Ext.refl _)
               show _ = _
               with_reducible rfl
             refine Stab.Goals.guarded rfl rfl (fun us w cK hE hS hp hK => ?_) ?_
             · obtain ⟨h13, h14, h9, -⟩ := hp
               replace h13 : us 13 = _ := h13
               replace h14 : us 14 = _ := h14
               replace h9 : us 9 = _ := h9
               refine ⟨_, h9, fun _ => ?_, fun h => absurd rfl h⟩
               go_simp
               go_wp2_with (go_at_call 17; ((with_reducible refine (HOB2.out _ hS.cat).mono ?_); rintro e w9 ⟨v9, rfl, hv9, hb9⟩))
               exact hK _ _ hv9 hb9
             refine Stab.Goals.guarded rfl rfl (fun us w cK hE hS hp hK => ?_) ?_
             · obtain ⟨h12, h15, h9, -⟩ := hp
               replace h9 : us 9 = _ := h9
               refine ⟨_, h9, fun _ => ?_, fun h => absurd rfl h⟩
               have h12r : ObjsAt w 0 (us 12) (objsL p' j) := h12
               have h15r : ObjsAt w 0 (us 15) (objsL p' j) := h15
               go_simp
               go_wp2_with (go_at_call 21; ((refine (same_self h12r h15r HOL.out).mono ?_); rintro e w9 ⟨rfl, hb9⟩))
               refine hK _ _ ?_ hb9
               show _ = _
               with_reducible rfl
             refine Stab.Goals.guarded rfl rfl (fun us w cK hE hS hp hK => ?_) ?_
             · obtain ⟨h16, h9, -⟩ := hp
               replace h16 : us 16 = _ := h16
               replace h9 : us 9 = _ := h9
               refine ⟨_, h9, fun _ => ?_, fun h => absurd rfl h⟩
               go_simp
               refine hK _ _ ?_ (Stab.Ext.refl _)
               show _ = _
               with_reducible rfl
             refine Stab.Goals.plain rfl rfl (fun us w cK hE hS hp hK => ?_) ?_
             · obtain ⟨h9, h17, -⟩ := hp
               replace h9 : us 9 = _ := h9
               replace h17 : us 17 = _ := h17
               go_simp
               refine hK _ _ ?_ (Stab.Ext.refl _)
               show _ = _
               with_reducible rfl
             refine Stab.Goals.plain rfl rfl (fun us w cK hE hS hp hK => ?_) ?_
             · obtain ⟨h18, -⟩ := hp
               replace h18 : us 18 = _ := h18
               go_simp
               refine hK _ _ ?_ (Stab.Ext.refl _)
               show _ = _
               with_reducible rfl
             refine Stab.Goals.guarded rfl rfl (fun us w cK hE hS hp hK => ?_) ?_
             · obtain ⟨h19, -⟩ := hp
               replace h19 : us 19 = _ := h19
               refine ⟨_, h19, fun _ => ?_, fun h => absurd rfl h⟩
               go_simp
               refine hK _ _ ?_ (Stab.Ext.refl _)
               show _ = _
               with_reducible rfl
             refine Stab.Goals.guarded rfl rfl (fun us w cK hE hS hp hK => ?_) ?_
             · obtain ⟨h19, -⟩ := hp
               replace h19 : us 19 = _ := h19
               refine ⟨_, h19, fun _ => ?_, fun h => absurd rfl h⟩
               go_simp
               refine hK _ _ ?_ (Stab.Ext.refl _)
               show _ = _
               with_reducible rfl
             refine Stab.Goals.guarded rfl rfl (fun us w cK hE hS hp hK => ?_) ?_
             · obtain ⟨h20, h21, h19, -⟩ := hp
               replace h20 : us 20 = _ := h20
               replace h21 : us 21 = _ := h21
               replace h19 : us 19 = _ := h19
               refine ⟨_, h19, fun _ => ?_, fun h => absurd rfl h⟩
               go_simp
               refine hK _ _ ?_ (Stab.Ext.refl _)
               show _ = _
               with_reducible rfl
             refine Stab.Goals.guarded rfl rfl (fun us w cK hE hS hp hK => ?_) ?_
             · obtain ⟨h22, h19, -⟩ := hp
               replace h22 : us 22 = _ := h22
               replace h19 : us 19 = _ := h19
               refine ⟨_, h19, fun _ => ?_, fun h => absurd rfl h⟩
               have s0 := hS.c1; have s1 := hS.c2
               go_simp
               refine hK _ _ ?_ (Stab.Ext.refl _)
               show _ = _
               with_reducible rfl
             refine Stab.Goals.guarded rfl rfl (fun us w cK hE hS hp hK => ?_) ?_
             · obtain ⟨h23, h19, -⟩ := hp
               replace h23 : us 23 = _ := h23
               replace h19 : us 19 = _ := h19
               refine ⟨_, h19, fun _ => ?_, fun h => absurd rfl h⟩
               go_simp
               refine hK _ _ ?_ (Stab.Ext.refl _)
               show _ = _
               with_reducible rfl
             refine Stab.Goals.guarded rfl rfl (fun us w cK hE hS hp hK => ?_) ?_
             · obtain ⟨h24, -⟩ := hp
               replace h24 : us 24 = _ := h24
               refine ⟨_, h24, fun h => (by cases h), fun _ => ?_⟩
               refine hK _ _ ?_ (Stab.Ext.refl _)
               show _ = _
               with_reducible rfl
             refine Stab.Goals.guarded rfl rfl (fun us w cK hE hS hp hK => ?_) ?_
             · obtain ⟨h24, -⟩ := hp
               replace h24 : us 24 = _ := h24
               refine ⟨_, h24, fun h => (by cases h), fun _ => ?_⟩
               refine hK _ _ ?_ (Stab.Ext.refl _)
               show _ = _
               with_reducible rfl
             refine Stab.Goals.guarded rfl rfl (fun us w cK hE hS hp hK => ?_) ?_
             · obtain ⟨h25, h26, h24, -⟩ := hp
               replace h25 : us 25 = _ := h25
               replace h26 : us 26 = _ := h26
               replace h24 : us 24 = _ := h24
               refine ⟨_, h24, fun h => (by cases h), fun _ => ?_⟩
               refine hK _ _ ?_ (Stab.Ext.refl _)
               show _ = _
               with_reducible rfl
             refine Stab.Goals.guarded rfl rfl (fun us w cK hE hS hp hK => ?_) ?_
             · obtain ⟨h27, h24, -⟩ := hp
               replace h27 : us 27 = _ := h27
               replace h24 : us 24 = _ := h24
               refine ⟨_, h24, fun h => (by cases h), fun _ => ?_⟩
               refine hK _ _ ?_ (Stab.Ext.refl _)
               show _ = _
               with_reducible rfl
             refine Stab.Goals.guarded rfl rfl (fun us w cK hE hS hp hK => ?_) ?_
             · obtain ⟨h24, h28, h19, -⟩ := hp
               replace h24 : us 24 = _ := h24
               replace h28 : us 28 = _ := h28
               replace h19 : us 19 = _ := h19
               refine ⟨_, h19, fun _ => ?_, fun h => absurd rfl h⟩
               go_simp
               refine hK _ _ ?_ (Stab.Ext.refl _)
               show _ = _
               with_reducible rfl
             refine Stab.Goals.plain rfl rfl (fun us w cK hE hS hp hK => ?_) ?_
             · obtain ⟨h19, h29, -⟩ := hp
               replace h19 : us 19 = _ := h19
               replace h29 : us 29 = _ := h29
               go_simp
               refine hK _ _ ?_ (Stab.Ext.refl _)
               show _ = _
               with_reducible rfl
             exact Stab.Goals.nil
           case last23b =>
             intro us w9 hE hS hp
             obtain ⟨h30, -⟩ := hp
             replace h30 : us 30 = _ := h30
             simp only [List.drop_succ_cons, List.drop_zero, h30, Nat.zero_add, Nat.reduceAdd]
             have HR9 := Lib.hid (HRR.out.ext ((Stab.Ext.drew _).trans hE))
             have HB9 := Lib.hid (HBR.out.trans (Below.mono ((Stab.Ext.drew wr).trans hE) HBR.out.size))
             clear hE hS h30
             go_wp2_with fail
             go_roundw
             case rel => exact ⟨j + 1, by omega, by go_num, HR9.out, HB9.out⟩
             case measure => simp [intOf]; omega
       · obtain rfl : j = 3 := by omega
         have HBB := Lib.hid hBel
         clear hR hBel
         go_wp2_with fail
         go_ret
         exact ⟨rfl, HBB.out⟩
end Hlt
end Go.Proofs.YtnbkhdbligjifaaGreatDoor
