/-
 The law HealthWhole: its walk.
-/
import Derived.Test.YtnbkhdbligjifaaGreatDoorHltX
set_option linter.unusedVariables false
set_option linter.unusedSimpArgs false
set_option maxRecDepth 100000
set_option maxHeartbeats 40000000
namespace Go.Proofs.YtnbkhdbligjifaaGreatDoor
open Go Go.RowKit Vm
open scoped Classical
namespace Hlt
theorem SurvAt.far {w W : World} {v : Value} {l : List (List Int)} {O : List Nat} (h : SurvAt [] w v l) (hb : Below w.heap.size w W) (hO : ∀ x, x ∈ O → w.heap.size ≤ x) : SurvAt O W v l := by
 obtain ⟨A, cap, h1, h2⟩ := h
 have off : ∀ {g j : Nat} {x : Value}, w.cell? ⟨g, j, none⟩ = some x → g ∉ O ∧ W.cell? ⟨g, j, none⟩ = some x := fun {g j x} hc => by
  have hl : g < w.heap.size := lt_cell hc
  exact ⟨fun hm => by have := hO g hm; omega, (hb.cell (p := ⟨g, j, none⟩) hl).trans hc⟩
 refine ⟨A, cap, h1, fun j ks hj => ?_⟩
 obtain ⟨g, o, x, q1, _, q2, A2, cap2, q3, q4⟩ := h2 j ks hj
 refine ⟨g, o, x, q1, (off q2).1, (off q2).2, A2, cap2, q3, fun i y hy => ?_⟩
 obtain ⟨g2, o2, z1, _, z2⟩ := q4 i y hy
 exact ⟨g2, o2, z1, (off z2).1, (off z2).2⟩
section
variable {w w3 wr wr2 : World} {O O' OC : List Nat} {b bx k L : Nat} {p p2 : PW}
theorem StI.side (h : StI w3 O b bx k L p O' wr) (hf : Fr OC wr wr2) (h1 : ∀ x, x ∈ OC → x ∉ O' ∧ x ≠ bx ∧ w3.heap.size ≤ x) : StI w3 O b bx k L p O' wr2 :=
 ⟨⟨h.wb.at_.keep hf fun x hx hm => (h1 x hm).1 hx, h.wb.fr.trans hf fun x hx hl => absurd hl (Nat.not_lt.2 (h1 x hx).2.2), h.wb.own⟩, h.fit, hf.blk h.box fun hm => (h1 _ hm).2.1 rfl, h.off⟩
theorem StI.into (h : StI w3 O b bx k L p O' wr) {p' : PW} {L' : Nat} (hp' : WFit L' 3 p') {O6 : List Nat} (hq : WB wr O' b p' O6 wr2) : StI w3 O b bx k L' p' O6 wr2 :=
 ⟨⟨hq.at_, h.wb.fr_next hq.fr, fun x hx => (hq.own x hx).elim (h.wb.own x) fun h4 => .inr (Nat.le_trans h.wb.fr.size h4)⟩, hp', hq.fr.blk h.box h.off, fun hm => by
   rcases hq.own _ hm with h4 | h4
   ·exact h.off h4
   ·have := h.box.lt; omega⟩
end
structure WhRd (b cb : Nat) (p p2 : PW) (O OC : List Nat) (g j : Nat) (st : Int) (W : World) : Prop where
 at_ : WAt W b p O
 cat : WAt W cb p2 OC
 c : W.cell? ⟨g, j, none⟩ = some (.int .i64 st)
theorem WhRd.ext {b cb : Nat} {p p2 : PW} {O OC : List Nat} {g j : Nat} {st : Int} {W W' : World} (h : WhRd b cb p p2 O OC g j st W) (hE : Stab.Ext W W') : WhRd b cb p p2 O OC g j st W' :=
 ⟨h.at_.keep (Fr.of_below (O := []) hE) (by simp), h.cat.keep (Fr.of_below (O := []) hE) (by simp), hE.cell h.c⟩
structure WhEn (b cb A1 A2 : Nat) (p pc : PW) (O OC : List Nat) (xs ys : List Bool) (W : World) : Prop where
 at_ : WAt W b p O
 cat : WAt W cb pc OC
 a : Blk W A1 4 (xs.map Value.bool).toArray
 a2 : Blk W A2 4 (ys.map Value.bool).toArray
theorem WhEn.ext {b cb A1 A2 : Nat} {p pc : PW} {O OC : List Nat} {xs ys : List Bool} {W W' : World} (h : WhEn b cb A1 A2 p pc O OC xs ys W) (hE : Stab.Ext W W') : WhEn b cb A1 A2 p pc O OC xs ys W' :=
 ⟨h.at_.keep (Fr.of_below (O := []) hE) (by simp), h.cat.keep (Fr.of_below (O := []) hE) (by simp), h.a.below hE h.a.lt, h.a2.below hE h.a2.lt⟩
structure WhCt (A bx k : Nat) (xs : List Bool) (W : World) : Prop where
 a : Blk W A 4 (xs.map Value.bool).toArray
 c : W.cell? ⟨bx, 0, none⟩ = some (.int .i64 (k : Int))
theorem WhCt.ext {A bx k : Nat} {xs : List Bool} {W W' : World} (h : WhCt A bx k xs W) (hE : Stab.Ext W W') : WhCt A bx k xs W' := ⟨h.a.below hE h.a.lt, hE.cell h.c⟩
def frB (rb : Bool) (p : PW) (j : Nat) : Bool := rb && (List.range j).all fun i => !(p.st i).down
theorem frB_zero (rb : Bool) (p : PW) : frB rb p 0 = rb := by simp [frB]
theorem frB_succ (rb : Bool) (p : PW) (j : Nat) : frB rb p (j + 1) = (frB rb p j && !(p.st j).down) := by simp [frB, List.range_succ, List.all_append, Bool.and_assoc]
theorem frB_all {rb : Bool} {p : PW} (h : frB rb p 3 = true) : rb = true ∧ ∀ i, i < 3 → (p.st i).down = false := by
 simp only [frB, Bool.and_eq_true, List.all_eq_true, List.mem_range] at h
 exact ⟨h.1, fun i hi => by simpa using h.2 i hi⟩
def rfB (l : List Flt) (q : Nat) : Bool := (l.take q).any fun f => f.kind == 6
theorem rfB_succ {l : List Flt} {q : Nat} (hq : q < l.length) : rfB l (q + 1) = (rfB l q || l[q].kind == 6) := by
 unfold rfB
 rw [List.take_succ_eq_append_getElem hq, List.any_append]
 simp
theorem rfB_none {l : List Flt} (h : rfB l l.length = false) : ∀ f ∈ l, f.kind ≠ 6 := by
 simpa [rfB] using h
theorem upAt_adv {p : PW} (m : Nat) {j : Nat} (hj : j < p.n) : (PW.adv p m).upAt (j : Int) = !(p.st j).down := by
 unfold PW.upAt
 rw [has_lt (by rw [(adv_st p m).1]; exact hj), (adv_st p m).2.1, Int.toNat_natCast, Bool.true_and]
structure FltC (W : World) (g n : Nat) (f : Flt) : Prop where
 c0 : W.cell? ⟨g, n, none⟩ = some (.int .u8 f.kind)
 c1 : W.cell? ⟨g, n + 1, none⟩ = some (.int .i64 f.store)
 c2 : W.cell? ⟨g, n + 2, none⟩ = some (.int .i64 f.n)
 c3 : W.cell? ⟨g, n + 3, none⟩ = some (.int .i64 f.at_)
 c4 : W.cell? ⟨g, n + 4, none⟩ = some (.int .i64 f.c)
theorem FltC.below {w W : World} {g n : Nat} {f : Flt} (h : FltC w g n f) (hb : Below w.heap.size w W) : FltC W g n f := by
 have hg : g < w.heap.size := lt_cell h.c0
 exact ⟨(hb.cell (p := ⟨g, _, none⟩) hg).trans h.c0, (hb.cell (p := ⟨g, _, none⟩) hg).trans h.c1, (hb.cell (p := ⟨g, _, none⟩) hg).trans h.c2, (hb.cell (p := ⟨g, _, none⟩) hg).trans h.c3, (hb.cell (p := ⟨g, _, none⟩) hg).trans h.c4⟩
theorem whole_walk (hR : Ref06) (a : Int) (s : ByteArray) (v : Value) (l : List Flt) (vs : Value) (ls : List (List Int)) (w : World) (hl : FaultsAt w v l) (hs : SurvAt [] w vs ls) (hsi : ∀ ks ∈ ls, ∀ x ∈ ks, -9223372036854775808 ≤ x ∧ x ≤ 9223372036854775807) (hv : Shd.Vars w) (hG : Tryz.prog.globals.size ≤ w.heap.size) :
 Calls Tryz.prog 5 #[.int .i64 a, .string s, v, vs] w (TruePost w) := by
 obtain ⟨⟨A, cap, rfl, hlc, hcells⟩, hfits⟩ := hl
 have HS := Lib.hid hs
 obtain ⟨AS, caps, rfl, hsc⟩ := hs
 have HR := Lib.hid hR
 have HG := Lib.hid hG
 have HV := Lib.hid hv
 have HCELLS := Lib.hid hcells
 have HFITS := Lib.hid hfits
 have HSC := Lib.hid hsc
 have HSI := Lib.hid hsi
 clear hv hG hcells hfits hsc hsi hR
 have HAB := Lib.hid (show ∀ w1 : World, Stab.Ext w w1 → Calls Tryz.prog 10 #[] w1 (TruePost w1) from fun w1 hE => awake_true w1 (HV.out.below hE) (Nat.le_trans HG.out hE.size))
 by_cases h1 : s.size ≤ 5000
 case neg =>
  have q1 : ¬ ((s.size : Int) ≤ 5000) := by omega
  ·skip
   go_enter Tryz.func5, Tryz.ntmps5
   go_wp2_with (go_at_call 10; with_reducible refine (HAB.out _ (Stab.Ext.refl _)).mono ?_)
   rintro e w1 ⟨rfl, hb⟩
   have HB := Lib.hid hb
   clear hb
   go_wp2_with fail
   go_ret
   exact ⟨rfl, HB.out⟩
 by_cases h2 : l.length ≤ 30
 case neg =>
  have q1 : (s.size : Int) ≤ 5000 := by omega
  have q2 : ¬ ((l.length : Int) ≤ 30) := by omega
  ·skip
   go_enter Tryz.func5, Tryz.ntmps5
   go_wp2_with (go_at_call 10; with_reducible refine (HAB.out _ (Stab.Ext.refl _)).mono ?_)
   rintro e w1 ⟨rfl, hb⟩
   have HB := Lib.hid hb
   clear hb
   go_wp2_with fail
   go_ret
   exact ⟨rfl, HB.out⟩
 by_cases h3 : ls.length ≤ 30
 case neg =>
  have q1 : (s.size : Int) ≤ 5000 := by omega
  have q2 : (l.length : Int) ≤ 30 := by omega
  have q3 : ¬ ((ls.length : Int) ≤ 30) := by omega
  ·skip
   go_enter Tryz.func5, Tryz.ntmps5
   go_wp2_with (go_at_call 10; with_reducible refine (HAB.out _ (Stab.Ext.refl _)).mono ?_)
   rintro e w1 ⟨rfl, hb⟩
   have HB := Lib.hid hb
   clear hb
   go_wp2_with fail
   go_ret
   exact ⟨rfl, HB.out⟩
 have q1 : (s.size : Int) ≤ 5000 := by omega
 have q2 : (l.length : Int) ≤ 30 := by omega
 have q3 : (ls.length : Int) ≤ 30 := by omega
 go_enter Tryz.func5, Tryz.ntmps5
 go_wp2_with (go_at_call 10; with_reducible refine (HAB.out _ (Stab.Ext.refl _)).mono ?_)
 rintro e w1 ⟨rfl, hb⟩
 have HB1 := Lib.hid hb
 clear hb
 go_wp2_with fail
 go_loopw [9] (fun i wr => ∃ q : Nat, q ≤ ls.length ∧ i = .int .i64 (q : Int) ∧ (∀ ks ∈ ls.take q, ks.length ≤ 60) ∧ wr = w1) (fun i _ => ls.length - (intOf i).toNat)
 case atStart => exact ⟨0, by omega, rfl, by simp, rfl⟩
 case round =>
  obtain ⟨q, hq, rfl, hall, rfl⟩ := hrel
  by_cases hlt : q < ls.length
  ·have hlt2 : (q : Int) < (ls.length : Int) := by omega
   obtain ⟨g, o, x, rfl, -, hc, hka⟩ := HSC.out q ls[q] (List.getElem?_eq_getElem hlt)
   obtain ⟨KA, kc, rfl⟩ := hka.form
   have hgl : g < w.heap.size := lt_cell hc
   replace hc := (HB1.out.cell (p := ⟨g, _, none⟩) hgl).trans hc
   have HALL := Lib.hid hall
   clear hall hka
   by_cases h60 : ls[q].length ≤ 60
   ·have q4 : (ls[q].length : Int) ≤ 60 := by omega
    go_wp2_with fail
    go_roundw
    case rel =>
     refine ⟨q + 1, by omega, by go_num, fun ks hm => ?_, by trivial⟩
     rw [List.take_succ_eq_append_getElem hlt, List.mem_append, List.mem_singleton] at hm
     rcases hm with hm | rfl
     ·exact HALL.out ks hm
     ·exact h60
    case measure => simp [intOf]; omega
   ·have q4 : ¬ ((ls[q].length : Int) ≤ 60) := by omega
    go_wp2_with fail
    go_ret
    exact ⟨rfl, HB1.out⟩
  ·obtain rfl : q = ls.length := by omega
   have d1 : ¬ ((ls.length : Int) < (ls.length : Int)) := by omega
   rw [List.take_length] at hall
   have HALL := Lib.hid hall
   clear hall
   go_wp2_with fail
   have hk : wrap64 (1 + wrap64 ((IntKind.u64.wrap a).tmod 3)) = ((kOf a : Nat) : Int) := by
    have h0 : 0 ≤ IntKind.u64.wrap a := by rw [IntKind.wrap_u64]; exact Int.emod_nonneg _ (by decide)
    have h1 := Int.emod_lt_of_pos (IntKind.u64.wrap a) (show (0:Int) < 3 by decide)
    have h2 := Int.emod_nonneg (IntKind.u64.wrap a) (show (3:Int) ≠ 0 by decide)
    rw [Int.tmod_eq_emod_of_nonneg h0]
    unfold kOf
    generalize IntKind.u64.wrap a % 3 = x at *
    obtain rfl | rfl | rfl : x = 0 ∨ x = 1 ∨ x = 2 := by omega
    all_goals (unfold wrap64; omega)
   simp only [hk]
   obtain ⟨hk1, hk3⟩ := kOf_le a
   clear hk
   generalize kOf a = k at *
   have hd1 : (⟨(Shd.sumL s.data.toList).toArray⟩ : ByteArray).size = 32 := Shd.sumL_len _
   have hcode : Shd.codeB (k : Int) ((3 : Nat) : Int) = true := (Shd.codeB_iff _ _).2 (by omega)
   have bx := Blk.new wr 25 #[.int .i64 (k : Int), .int .i64 3]
   have hE2 : Stab.Ext w (wr.alloc (.cells #[.int .i64 (k : Int), .int .i64 3] 25)) := HB1.out.alloc HB1.out.size _
   have hbxl : wr.heap.size < (wr.alloc (.cells #[.int .i64 (k : Int), .int .i64 3] 25)).heap.size := by simp
   generalize (wr.alloc (.cells #[.int .i64 (k : Int), .int .i64 3] 25)) = w2 at *
   have hbw : w.heap.size ≤ wr.heap.size := HB1.out.size
   obtain ⟨bxn, hbn⟩ : ∃ x, x = wr.heap.size := ⟨_, rfl⟩
   rw [← hbn] at bx hbxl hbw ⊢
   clear hbn
   have HNEWW := Lib.hid (show Calls Tryz.prog 11 #[.int .i64 3] w2 (WNewPost 3 w2) from wnew_any w2 3 (by omega) (by omega))
   have HBX := Lib.hid bx
   have HE2 := Lib.hid hE2
   clear bx hE2 HB1
   go_wp2_with (go_at_call 11; with_reducible refine HNEWW.out.mono ?_)
   rintro e w3 ⟨b, O, rfl, hlow, hat, hb3⟩
   have hE3 : Stab.Ext w w3 := HE2.out.trans hb3
   have hO : Far O := fun x hx => Nat.le_trans HG.out (Nat.le_trans HE2.out.size (hlow x hx))
   have hbx3 := HBX.out.below hb3 HBX.out.lt
   have h0 : Fits 0 noStore := ⟨Nat.le_refl _, fun p hp => (by cases hp), rfl, ⟨by show _ ≤ (-1 : Int); decide, by show (-1 : Int) ≤ _; decide⟩⟩
   have hfit0 : ∀ i, i < 3 → Fits 0 ((newP 3).st i) ∧ Well ((newP 3).st i) := fun i hi => ⟨h0, ⟨rfl, rfl, rfl⟩⟩
   have hN : Num k 3 (⟨(Shd.sumL s.data.toList).toArray⟩ : ByteArray) s := ⟨hcode, hd1, by omega⟩
   have HFILL := Lib.hid (show Calls Tryz.prog 12 #[.pointer (some ⟨b, 0, none⟩), .agg #[.int .i64 (k : Int), .int .i64 3], .string s] w3 (FillPost w3 O b (newP 3) k 3 ⟨(Shd.sumL s.data.toList).toArray⟩ s) from
    fill_any (G := Tryz.prog.globals.size) (fun w _ => Fld.new_any w) (Nat.le_trans HG.out hE3.size) hat ⟨rfl, rfl⟩ hO (HV.out.below hE3) k 3 hcode rfl s (by omega) 0 (by omega) hfit0)
   have k0 := hbx3.cell 0
   have k1 := hbx3.cell 1
   simp only [List.getElem?_toArray, List.getElem?_cons_zero, List.getElem?_cons_succ] at k0 k1
   have HE3 := Lib.hid hE3
   have HO := Lib.hid hO
   have HBX3 := Lib.hid hbx3
   have hbO : bxn ∉ O := fun hm => by have := hlow _ hm; omega
   have HV3 := Lib.hid (HV.out.below hE3)
   have HG3 := Lib.hid (Nat.le_trans HG.out hE3.size)
   have HLOW := Lib.hid (show ∀ x, x ∈ O → w.heap.size ≤ x from fun x hx => by have := hlow x hx; have := HE2.out.size; omega)
   have HCODE := Lib.hid hcode
   clear hlow hat hb3 hE3 hO hbx3 hfit0 HNEWW hcode
   generalize hdd : (⟨(Shd.sumL s.data.toList).toArray⟩ : ByteArray) = d at *
   have HDD := Lib.hid hdd.symm
   have HN := Lib.hid hN
   have hdl : d.data.toList.length = 32 := by rw [← hd1]; simp
   clear hdd hN
   go_wp2_with (go_at_call 12; with_reducible refine HFILL.out.mono ?_)
   rintro e w4 ⟨O4, rfl, hwb4⟩
   have hca : Calm (filled (newP 3) k 3 d s 3) := filled_calm ⟨rfl, rfl⟩ _ _ _ _ _
   have hna : (filled (newP 3) k 3 d s 3).n = 3 := (adv_st (newP 3) 6).1
   have hfw : WFit 1 3 (filled (newP 3) k 3 d s 3) := ⟨hna, fun i => by
    by_cases hi : i < 3
    ·rw [filled_st _ _ _ _ _ hi]
     exact stored_fits h0 (nmB_size _ hd1 i (by omega)).2 (datB_size (by omega) (by omega) hdl (by omega))
    ·unfold filled
     simp only [if_neg hi]
     exact fits_up h0, hca⟩
   have HI4 := Lib.hid (show StI w3 O b bxn k 1 (filled (newP 3) k 3 d s 3) O4 w4 from ⟨hwb4, hfw, hwb4.fr.blk HBX3.out hbO, fun hm => by
    rcases hwb4.own _ hm with h4 | h4
    ·exact hbO h4
    ·have := HBX3.out.lt; omega⟩)
   have HW4 := Lib.hid (WhP.zero (l := l) HN.out)
   generalize filled (newP 3) k 3 d s 3 = p4 at *
   clear hwb4 hfw hca hna k0 k1 h0 HFILL
   go_wp2_with fail
   go_loopw [15, 16] (fun r i wr => ∃ (q : Nat) (p' : PW) (O' : List Nat) (rb : Bool), q ≤ l.length ∧ i = .int .i64 (q : Int) ∧ r = .bool rb ∧ StI w3 O b bxn k 1 p' O' wr ∧ WhP k d s l q rb p') (fun _ i _ => l.length - (intOf i).toNat)
   case atStart => exact ⟨0, p4, O4, true, by omega, rfl, rfl, HI4.out, HW4.out⟩
   case round =>
    clear HI4 HW4
    obtain ⟨q, p', O', rb, hq, rfl, rfl, hI, hW⟩ := hrel
    by_cases hlt : q < l.length
    ·have hlt2 : (q : Int) < (l.length : Int) := by omega
     obtain ⟨g, o, rfl, hgl, hc⟩ := HCELLS.out (by omega)
     obtain ⟨f, hfq⟩ : ∃ f, f = l[q] := ⟨_, rfl⟩
     have HC := Lib.hid (show FltC w g (o + q * 5) f from by
      obtain ⟨c0, c1, c2, c3, c4⟩ := hc q f (by rw [hfq]; exact List.getElem?_eq_getElem hlt)
      exact ⟨c0, c1, c2, c3, c4⟩)
     have HF := Lib.hid (show f.fits from by rw [hfq]; exact HFITS.out _ (List.getElem_mem hlt))
     have HCP := Lib.hid (wcopy_any hI.wb.at_ (by have := hI.fit.n_; omega) (fun i hi => by rw [(hI.fit.fits i).wr]; simp))
     have HFQ := Lib.hid hfq
     have HI := Lib.hid hI
     have HW := Lib.hid hW
     clear hI hc hfq hW
     go_wp2_with (go_at_call 14; with_reducible refine HCP.out.mono ?_)
     rintro e w5 ⟨cb, OC, rfl, hclow, hcat, hb5⟩
     have hI5 := HI.out.ext hb5
     have HCO := Lib.hid (fun x (hx : x ∈ OC) => (show x ∉ O' ∧ x ≠ bxn ∧ w3.heap.size ≤ x from by
      have h5 := hclow x hx
      exact ⟨fun hm => by have := HI.out.wb.lt x hm; omega, fun hm => by have := HI.out.box.lt; omega, Nat.le_trans HI.out.wb.fr.size h5⟩))
     have HST := Lib.hid (wstrike_any hcat f HF.out ((HI.out.fit.fits _).ok (by omega)).small)
     obtain ⟨c0, c1, c2, c3, c4⟩ := HC.out.below (hI5.below HLOW.out HE3.out (Nat.le_refl _))
     have HI5 := Lib.hid hI5
     clear hI5 hclow hcat hb5 HCP
     go_wp2_with (go_at_call 13; with_reducible refine HST.out.mono ?_)
     rintro e w6 ⟨rfl, OC6, hcat6, hf6, -⟩
     have hI6 := HI5.out.side hf6 HCO.out
     have HK := Lib.hid (show WhRd b cb p' (p'.struck f) O' OC6 g (o + q * 5 + 1) f.store w6 from ⟨hI6.wb.at_, hcat6, (HC.out.below (hI6.below HLOW.out HE3.out (Nat.le_refl _))).c1⟩)
     have hfit2 := (struck_world HI.out.fit HF.out).1
     have HOB1 := Lib.hid (fun (W : World) (h : WAt W b p' O') => objsZ_ok h HI.out.fit (by omega) f.store)
     have HOB2 := Lib.hid (fun (W : World) (h : WAt W cb (p'.struck f) OC6) => objsZ_ok h hfit2 (by omega) f.store)
     have HFG := Lib.hid (fun (W : World) (v1 v2 : Value) (h1 : ObjsAt W 0 v1 (objsZ p' f.store)) (h2 : ObjsAt W 0 v2 (objsZ (p'.struck f) f.store)) => forged_any HR.out h1 h2 (by have := objsZ_len HI.out.fit f.store; omega) (by have := objsZ_len hfit2 f.store; omega) (fun o ho => by
      have := ((hfit2.fits _).key o (objsZ_mem ho)).2
      omega))
     have HI6 := Lib.hid hI6
     clear hcat6 hf6 hI6 c0 c1 c2 c3 c4 HST HI5 hfit2 HCO
     go_wp2_with fail
     refine Stab.rg 15 [[], [], [], [1, 2], [3], [4], [0, 5], [], [], [], [8, 9], [10], [11], [7, 12], [6, 13]] [14] (WhRd b cb p' (p'.struck f) O' OC6 g (o + q * 5 + 1) f.store) [Stab.eqv ?_, Stab.eqv ?_, Stab.eqv ?_, Stab.eqv ?_, Stab.eqv ?_, Stab.eqv ?_, objsS (objsZ p' f.store), Stab.eqv ?_, Stab.eqv ?_, Stab.eqv ?_, Stab.eqv ?_, Stab.eqv ?_, Stab.eqv ?_, objsS (objsZ (p'.struck f) f.store), Stab.eqv ?_] (HK.out.ext (Stab.Ext.drew _)) (fun _ _ h hE => h.ext hE) ?goals21a ?last21a
     case goals21a =>
      simp only [List.take_succ_cons, List.take_zero]
      iterate 6
       refine Stab.gp (fun us w _ hE hS hp hK => ?_) ?_
       ·((try have e0 : _ = _ := hp.1); (try have e1 : _ = _ := hp.2.1); (try have e2 : _ = _ := hp.2.2.1); have s0 := hS.c; go_simp; exact hK _ _ (by show _ = _; with_reducible rfl) (Stab.Ext.refl _))
      refine Stab.Goals.plain rfl rfl (fun us w cK hE hS hp hK => ?_) ?_
      ·obtain ⟨h0, h5, -⟩ := hp
       replace h0 : us 0 = _ := h0
       replace h5 : us 5 = _ := h5
       go_simp
       go_wp2_with (go_at_call 17; ((with_reducible refine (HOB1.out _ hS.at_).mono ?_); rintro e w9 ⟨v9, rfl, hv9, hb9⟩))
       exact hK _ _ hv9 hb9
      iterate 6
       refine Stab.gp (fun us w _ hE hS hp hK => ?_) ?_
       ·((try have e0 : _ = _ := hp.1); (try have e1 : _ = _ := hp.2.1); (try have e2 : _ = _ := hp.2.2.1); have s0 := hS.c; go_simp; exact hK _ _ (by show _ = _; with_reducible rfl) (Stab.Ext.refl _))
      refine Stab.Goals.plain rfl rfl (fun us w cK hE hS hp hK => ?_) ?_
      ·obtain ⟨h7, h12, -⟩ := hp
       replace h7 : us 7 = _ := h7
       replace h12 : us 12 = _ := h12
       go_simp
       go_wp2_with (go_at_call 17; ((with_reducible refine (HOB2.out _ hS.cat).mono ?_); rintro e w9 ⟨v9, rfl, hv9, hb9⟩))
       exact hK _ _ hv9 hb9
      refine Stab.Goals.plain rfl rfl (fun us w cK hE hS hp hK => ?_) ?_
      ·obtain ⟨h6, h13, -⟩ := hp
       have h6r : ObjsAt w (0 : Nat) (us 6) (objsZ p' f.store) := h6
       have h13r : ObjsAt w (0 : Nat) (us 13) (objsZ (p'.struck f) f.store) := h13
       go_simp
       go_wp2_with (go_at_call 23; ((refine (HFG.out _ _ _ h6r h13r).mono ?_); rintro e w9 ⟨rfl, hb9⟩))
       refine hK _ _ ?_ hb9
       show _ = _
       with_reducible rfl
      exact Stab.Goals.nil
     case last21a =>
      intro us w7 hE hS hp
      obtain ⟨h14, -⟩ := hp
      replace h14 : us 14 = _ := h14
      simp only [List.drop_succ_cons, List.drop_nil, h14]
      refine wpList_nil ?_
      have HI7 := Lib.hid (HI6.out.ext ((Stab.Ext.drew _).trans hE))
      clear hE hS h14 HK HOB1 HOB2 HFG
      cases hfb : forgedB (objsZ p' f.store) (objsZ (p'.struck f) f.store) with
      | true =>
        clear hfb
        go_wp2_with fail
        go_roundw
        case rel => exact ⟨q + 1, p', O', rb, by omega, by go_num, rfl, HI7.out, HW.out.skip⟩
        case measure => simp [intOf]; omega
      | false =>
        have HFB := Lib.hid hfb
        clear hfb
        obtain ⟨c0, c1, c2, c3, c4⟩ := HC.out.below (HI7.out.below HLOW.out HE3.out (Nat.le_refl _))
        have HST := Lib.hid (HI7.out.strike (by omega) f HF.out)
        go_wp2_with (go_at_call 13; with_reducible refine HST.out.mono ?_)
        intro e w8 hq8
        obtain ⟨O8, hI8, -, -⟩ := HI7.out.next (struck_world HI.out.fit HF.out).1 hq8
        obtain ⟨rfl, -⟩ := hq8
        replace c0 := (HC.out.below (hI8.below HLOW.out HE3.out (Nat.le_refl _))).c0
        have HI8 := Lib.hid hI8
        have HWS := Lib.hid (HW.out.struck HI.out.fit.n_ hlt HFQ.out HFB.out)
        clear hI8 c1 c2 c3 c4
        cases rb with
        | false =>
          go_wp2_with fail
          go_roundw
          case rel => exact ⟨q + 1, _, O8, _, by omega, by go_num, rfl, HI8.out, HWS.out⟩
          case measure => simp [intOf]; omega
        | true =>
          go_wp2_with fail
          go_roundw
          case rel => exact ⟨q + 1, _, O8, _, by omega, by go_num, rfl, HI8.out, HWS.out⟩
          case measure => simp [intOf]; omega
    ·obtain rfl : q = l.length := by omega
     have d1 : ¬ ((l.length : Int) < (l.length : Int)) := by omega
     have HOF := Lib.hid (show Calls Tryz.prog 15 #[.pointer (some ⟨b, 0, none⟩), .agg #[.int .i64 (k : Int), .int .i64 3], .string d] wr (OfPost wr O' b p' k 3 d) from of_any hI.wb.at_ hI.fit.calm (hI.far HO.out HG3.out) (hI.vars HO.out HV3.out) k 3 HCODE.out hI.fit.n_.symm d hd1)
     have k0 := hI.box.cell 0
     have k1 := hI.box.cell 1
     simp only [List.getElem?_toArray, List.getElem?_cons_zero, List.getElem?_cons_succ] at k0 k1
     have HI := Lib.hid hI
     have HF := Lib.hid (whole_facts hW HN.out HDD.out hI.fit.calm hI.fit.n_ 3)
     clear hI hW
     go_wp2_with (go_at_call 15; with_reducible refine HOF.out.mono ?_)
     rintro e w6 ⟨A1, O6, rfl, hA1, hwb6, hn1, -⟩
     rw [marks_snd] at hA1
     have hI6 := HI.out.into (adv_fit HI.out.fit 3) hwb6
     have HCP := Lib.hid (wcopy_any hI6.wb.at_ (by have := hI6.fit.n_; omega) (fun i hi => by rw [(hI6.fit.fits i).wr]; simp))
     have HA1 := Lib.hid hA1
     have HN1 := Lib.hid hn1
     have HI6 := Lib.hid hI6
     clear hA1 hwb6 hn1 hI6 k0 k1 HOF
     go_wp2_with (go_at_call 14; with_reducible refine HCP.out.mono ?_)
     rintro e w7 ⟨cb, OC, rfl, hclow, hcat, hb7⟩
     have hE7 : Stab.Ext w6 w7 := hb7
     have hI7 := HI6.out.ext hE7
     have HME := Lib.hid (show Calls Tryz.prog 16 #[.pointer (some ⟨b, 0, none⟩), .agg #[.int .i64 (k : Int), .int .i64 3], .string d] w7 (MendPost w7 O6 b (PW.adv p' 3) k 3 d) from mend_any hI7.wb.at_ hI7.fit.calm (hI7.far HO.out HG3.out) (hI7.vars HO.out HV3.out) k 3 HCODE.out hI7.fit.n_.symm d hd1 (look_pay hI7.fit) (fun i _ => (hI7.fit.fits i).ok (by omega)) (Nat.le_trans HG3.out hI7.wb.fr.size))
     have HFT := Lib.hid (mend_fit (k := k) (d := d) hI7.fit)
     have hA7 := HA1.out.below hE7 HA1.out.lt
     have hal := HA1.out.lt
     have k0 := hI7.box.cell 0
     have k1 := hI7.box.cell 1
     simp only [List.getElem?_toArray, List.getElem?_cons_zero, List.getElem?_cons_succ] at k0 k1
     have HAL := Lib.hid (show A1 < w7.heap.size from hA7.lt)
     have HCO := Lib.hid (show ∀ x, x ∈ OC → x ∉ O6 ∧ x < w7.heap.size from fun x hx => ⟨fun hm => by have := HI6.out.wb.lt x hm; have := hclow x hx; omega, hcat.lt x hx⟩)
     have HCAT := Lib.hid hcat
     have HA7 := Lib.hid hA7
     have HI7 := Lib.hid hI7
     clear hI7 hclow hcat hb7 hA7 hal hE7 HCP HA1 HI6
     go_wp2_with (go_at_call 16; with_reducible refine HME.out.mono ?_)
     intro e w8 hq8
     unfold MendPost at hq8
     clear HME
     obtain ⟨p7, hp7⟩ : ∃ x, x = (mendR (PW.adv p' 3) k 3 d).2.2 := ⟨_, rfl⟩
     obtain ⟨me, hme⟩ : ∃ x, x = (mendR (PW.adv p' 3) k 3 d).2.1 := ⟨_, rfl⟩
     obtain ⟨mm, hmm⟩ : ∃ x, x = (mendR (PW.adv p' 3) k 3 d).1 := ⟨_, rfl⟩
     rw [← hp7, ← hme, ← hmm] at hq8 HF
     rw [← hp7] at HFT
     clear hp7 hme hmm
     obtain ⟨O8, hI8, hf8, ho8⟩ := HI7.out.next HFT.out hq8
     obtain ⟨rfl, -⟩ := hq8
     have hA8 := hf8.blk HA7.out HN1.out
     have hn8 : A1 ∉ O8 := fun hm => by
      rcases ho8 _ hm with h4 | h4
      ·exact HN1.out h4
      ·have := HAL.out; omega
     have hcat8 := HCAT.out.keep hf8 fun x hx => (HCO.out x hx).1
     have hco8 : ∀ x, x ∈ OC → x ∉ O8 := fun x hx hm => by
      rcases ho8 x hm with h4 | h4
      ·exact (HCO.out x hx).1 h4
      ·have := (HCO.out x hx).2; omega
     have HOF := Lib.hid (show Calls Tryz.prog 15 #[.pointer (some ⟨b, 0, none⟩), .agg #[.int .i64 (k : Int), .int .i64 3], .string d] w8 (OfPost w8 O8 b p7 k 3 d) from of_any hI8.wb.at_ hI8.fit.calm (hI8.far HO.out HG3.out) (hI8.vars HO.out HV3.out) k 3 HCODE.out hI8.fit.n_.symm d hd1)
     have k0 := hI8.box.cell 0
     have k1 := hI8.box.cell 1
     simp only [List.getElem?_toArray, List.getElem?_cons_zero, List.getElem?_cons_succ] at k0 k1
     have HI8 := Lib.hid hI8
     have HA8 := Lib.hid hA8
     have HN8 := Lib.hid hn8
     have HCAT8 := Lib.hid hcat8
     have HCO8 := Lib.hid hco8
     clear hI8 hA8 hn8 hcat8 hco8 hf8 ho8 HA7 HI7 HCAT HCO HN1 HAL
     go_wp2_with (go_at_call 15; with_reducible refine HOF.out.mono ?_)
     rintro e w9 ⟨A2, O9, rfl, hA2, hwb9, hn2, -⟩
     rw [marks_snd] at hA2
     have HI9 := Lib.hid (HI8.out.into (adv_fit HI8.out.fit 3) hwb9)
     have hf9 := hwb9.fr
     have HK := Lib.hid (show WhEn b cb A1 A2 (PW.adv p7 3) (PW.adv p' 3) O9 OC ((List.range 3).map (snd p' k 3 d)) ((List.range 3).map (snd p7 k 3 d)) w9 from
      ⟨hwb9.at_, HCAT8.out.keep hf9 fun x hx => HCO8.out x hx, hf9.blk HA8.out HN8.out, hA2⟩)
     have HN2 := Lib.hid hn2
     clear hA2 hwb9 hn2 hf9 k0 k1 HOF HI8 HA8 HN8 HCAT8 HCO8
     obtain ⟨ca, hca⟩ : ∃ x, x = cntS p7 k 3 d := ⟨_, rfl⟩
     obtain ⟨cn, hcn⟩ : ∃ x, x = cntS p' k 3 d := ⟨_, rfl⟩
     have HC1 := Lib.hid (show ∀ W : World, Blk W A1 4 (((List.range 3).map (snd p' k 3 d)).map Value.bool).toArray → Calls Tryz.prog 24 #[.slice (some ⟨A1, 0, none⟩) 3 3] W fun e w' => e = .returned (.int .i64 (cn : Int)) ∧ W = w' from fun W h => by
      have := count_any (l := (List.range 3).map (snd p' k 3 d)) (by simp) h
      rw [cnt_marks, ← cntS_eq, ← hcn] at this
      exact this)
     have HC2 := Lib.hid (show ∀ W : World, Blk W A2 4 (((List.range 3).map (snd p7 k 3 d)).map Value.bool).toArray → Calls Tryz.prog 24 #[.slice (some ⟨A2, 0, none⟩) 3 3] W fun e w' => e = .returned (.int .i64 (ca : Int)) ∧ W = w' from fun W h => by
      have := count_any (l := (List.range 3).map (snd p7 k 3 d)) (by simp) h
      rw [cnt_marks, ← cntS_eq, ← hca] at this
      exact this)
     rw [← hca, ← hcn] at HF
     clear hca hcn
     have hsub : wrap64 ((ca : Int) - (cn : Int)) = (mm : Int) := by
      have := HF.out.sum
      have := HF.out.le
      unfold wrap64
      omega
     have hiff : (me == 0) = ((ca : Int) == 3) := by
      have := HF.out.ok
      rw [Bool.eq_iff_iff, beq_iff_eq, beq_iff_eq, this]
      omega
     have hC1 := HC1.out w9 HK.out.a
     have hC2 := HC2.out w9 HK.out.a2
     go_wp2_with (go_at_call 24; (first | (with_reducible refine hC2.mono ?_) | (with_reducible refine hC1.mono ?_)); rintro e w' ⟨rfl, rfl⟩)
     go_loopw [23] (fun i wx => ∃ j : Nat, j ≤ 3 ∧ i = .int .i64 (j : Int) ∧ wx = w9) (fun i _ => 3 - (intOf i).toNat)
     case atStart => exact ⟨0, by omega, rfl, rfl⟩
     case round =>
      clear hC1 hC2 hsub hiff
      obtain ⟨j, hj, rfl, hww⟩ := hrel
      subst hww
      by_cases hj3 : j < 3
      ·have hj4 : (j : Int) < 3 := by omega
       have hj5 : (0 : Int) ≤ (j : Int) := by omega
       have hx : wr.cell? ⟨A1, j, none⟩ = some (.bool (snd p' k 3 d j)) := by
        rw [HK.out.a.cell j, List.getElem?_toArray, List.getElem?_map, List.getElem?_map, List.getElem?_range hj3]
        rfl
       have hy : wr.cell? ⟨A2, j, none⟩ = some (.bool (snd p7 k 3 d j)) := by
        rw [HK.out.a2.cell j, List.getElem?_toArray, List.getElem?_map, List.getElem?_map, List.getElem?_range hj3]
        rfl
       cases hs : snd p' k 3 d j with
       | false =>
         rw [hs] at hx
         clear hs
         go_wp2_with fail
         go_roundw
         case rel => exact ⟨j + 1, by omega, by go_num, by trivial⟩
         case measure => simp [intOf]; omega
       | true =>
         rw [HF.out.kept j hj3 hs] at hy
         rw [hs] at hx
         clear hs
         go_wp2_with fail
         go_roundw
         case rel => exact ⟨j + 1, by omega, by go_num, by trivial⟩
         case measure => simp [intOf]; omega
      ·obtain rfl : j = 3 := by omega
       have HCT := Lib.hid (show WhCt A1 bxn k ((List.range 3).map (snd p' k 3 d)) wr from ⟨HK.out.a, by
        have := HI9.out.box.cell 0
        simp only [List.getElem?_toArray, List.getElem?_cons_zero] at this
        exact this⟩)
       go_wp2_with fail
       refine Stab.rg 5 [[], [0], [], [2], [1, 3]] [4] (WhCt A1 bxn k ((List.range 3).map (snd p' k 3 d))) [Stab.eqv ?_, Stab.eqv ?_, Stab.eqv ?_, Stab.eqv ?_, Stab.eqv ?_] (HCT.out.ext (Stab.Ext.drew _)) (fun _ _ h hE => h.ext hE) ?goals37b ?last37b
       case goals37b =>
        simp only [List.take_succ_cons, List.take_zero]
        refine Stab.gp (fun us w _ hE hS hp hK => ?_) ?_
        ·((try have e0 : _ = _ := hp.1); (try have e1 : _ = _ := hp.2.1); (try have e2 : _ = _ := hp.2.2.1); have s0 := hS.c; go_simp; exact hK _ _ (by show _ = _; with_reducible rfl) (Stab.Ext.refl _))
        refine Stab.Goals.plain rfl rfl (fun us w cK hE hS hp hK => ?_) ?_
        ·obtain ⟨h0, -⟩ := hp
         replace h0 : us 0 = _ := h0
         go_simp
         go_wp2_with (go_at_call 24; ((with_reducible refine (HC1.out _ hS.a).mono ?_); rintro e w1 ⟨rfl, rfl⟩))
         refine hK _ _ ?_ (Stab.Ext.refl _)
         show _ = _
         with_reducible rfl
        iterate 3
         refine Stab.gp (fun us w _ hE hS hp hK => ?_) ?_
         ·((try have e0 : _ = _ := hp.1); (try have e1 : _ = _ := hp.2.1); (try have e2 : _ = _ := hp.2.2.1); have s0 := hS.c; go_simp; exact hK _ _ (by show _ = _; with_reducible rfl) (Stab.Ext.refl _))
        exact Stab.Goals.nil
       case last37b =>
        intro us w10 hE hS hp
        obtain ⟨h4, -⟩ := hp
        replace h4 : us 4 = _ := h4
        simp only [List.drop_succ_cons, List.drop_nil, h4]
        refine wpList_nil ?_
        have HI10 := Lib.hid (HI9.out.ext ((Stab.Ext.drew _).trans hE))
        have HK10 := Lib.hid (HK.out.ext ((Stab.Ext.drew _).trans hE))
        clear hE hS h4 HCT
        have HB10 := Lib.hid (HI10.out.below HLOW.out HE3.out (Nat.le_refl _))
        by_cases hck : cn < k
        ·have hck2 : (cn : Int) < (k : Int) := by omega
         obtain ⟨rfl, rfl⟩ := HF.out.few hck
         go_wp2_with fail
         go_ret
         exact ⟨rfl, HB10.out⟩
        ·have hck2 : ¬ ((cn : Int) < (k : Int)) := by omega
         go_wp2_with fail
         go_loopw [24, 25] (fun x i wx => ∃ j : Nat, j ≤ 3 ∧ i = .int .i64 (j : Int) ∧ x = .bool (frB rb p' j) ∧ wx = w10) (fun _ i _ => 3 - (intOf i).toNat)
         case atStart => exact ⟨0, by omega, rfl, by rw [frB_zero], rfl⟩
         case round =>
          obtain ⟨j, hj, rfl, rfl, hww⟩ := hrel
          subst hww
          by_cases hj3 : j < 3
          ·have hj4 : (j : Int) < 3 := by omega
           have HSU := Lib.hid (frB_succ rb p' j)
           cases hfr : frB rb p' j with
           | false =>
             rw [hfr, Bool.false_and] at HSU
             clear hfr
             go_wp2_with fail
             go_roundw
             case rel => exact ⟨j + 1, by omega, by go_num, by rw [HSU.out], by trivial⟩
             case measure => simp [intOf]; omega
           | true =>
             rw [hfr, Bool.true_and] at HSU
             clear hfr
             have hup := wup_any HK10.out.cat (j : Int)
             rw [upAt_adv 3 (by have := HI.out.fit.n_; omega)] at hup
             have HUP := Lib.hid hup
             clear hup
             go_wp2_with (go_at_call 22; with_reducible refine HUP.out.mono ?_; rintro e w' ⟨rfl, rfl⟩)
             go_roundw
             case rel => exact ⟨j + 1, by omega, by go_num, by rw [HSU.out], by trivial⟩
             case measure => simp [intOf]; omega
          ·obtain rfl : j = 3 := by omega
           go_wp2_with fail
           go_loopw [26, 27] (fun x i wx => ∃ j : Nat, j ≤ l.length ∧ i = .int .i64 (j : Int) ∧ x = .bool (rfB l j) ∧ wx = wr) (fun _ i _ => l.length - (intOf i).toNat)
           case atStart => exact ⟨0, by omega, rfl, rfl, rfl⟩
           case round =>
            obtain ⟨j, hj, rfl, rfl, hww⟩ := hrel
            subst hww
            by_cases hlt : j < l.length
            ·have hlt2 : (j : Int) < (l.length : Int) := by omega
             obtain ⟨g, o, rfl, hgl, hc⟩ := HCELLS.out (by omega)
             obtain ⟨c0, -⟩ := hc j l[j] (List.getElem?_eq_getElem hlt)
             replace c0 := (HB10.out.cell (p := ⟨g, _, none⟩) hgl).trans c0
             have HSU := Lib.hid (rfB_succ hlt)
             cases hfr : rfB l j with
             | true =>
               rw [hfr, Bool.true_or] at HSU
               clear hfr hc
               go_wp2_with fail
               go_roundw
               case rel => exact ⟨j + 1, by omega, by go_num, by rw [HSU.out], by trivial⟩
               case measure => simp [intOf]; omega
             | false =>
               rw [hfr, Bool.false_or] at HSU
               clear hfr hc
               generalize l[j] = f at *
               go_wp2_with fail
               go_roundw
               case rel => exact ⟨j + 1, by omega, by go_num, by rw [HSU.out], by trivial⟩
               case measure => simp [intOf]; omega
            ·obtain rfl : j = l.length := by omega
             have d2 : ¬ ((l.length : Int) < (l.length : Int)) := by omega
             by_cases hme : me = 0
             ·subst hme
              have HLAST := Lib.hid (HF.out.last rfl (by omega) 3 ls)
              have hO9 : ∀ x, x ∈ O9 → w.heap.size ≤ x := fun x hx => by
               rcases HI10.out.wb.own x hx with h4 | h4
               ·exact HLOW.out x h4
               ·exact Nat.le_trans HE3.out.size h4
              have hwr := fun i => (HI10.out.fit.fits i).wr
              have HCR := Lib.hid (wcrash_any HK10.out.at_ (by have := HI10.out.fit.n_; omega) _ ls (SurvAt.far HS.out HB10.out hO9) (by omega) (fun i _ => by
               have hks : (ls.getD i []).length ≤ 60 ∧ ∀ x ∈ ls.getD i [], -9223372036854775808 ≤ x ∧ x ≤ 9223372036854775807 := by
                by_cases hi : i < ls.length
                ·rw [List.getD, List.getElem?_eq_getElem hi, Option.getD_some]
                 exact ⟨HALL.out _ (List.getElem_mem hi), HSI.out _ (List.getElem_mem hi)⟩
                ·rw [List.getD, List.getElem?_eq_none (by omega), Option.getD_none]
                 simp
               exact ⟨by rw [hwr]; simp, by omega, hks.2, fun q hq => by rw [hwr] at hq; simp at hq⟩))
              have HO9 := Lib.hid hO9
              clear hO9 hwr
              cases h1 : frB rb p' 3 <;> cases h2 : rfB l l.length
              all_goals
               clear h1 h2
               go_wp2_with (go_at_call 25; with_reducible refine HCR.out.mono ?_)
               rintro e w11 ⟨rfl, O11, hat11, hf11, ho11⟩
               have hfar9 : Far O9 := HI10.out.far HO.out HG3.out
               have hsz : wr.heap.size ≤ w11.heap.size := hf11.size
               have hfar11 : Far O11 := fun x hx => by
                rcases ho11 x hx with h4 | h4
                ·exact hfar9 x h4
                ·exact Nat.le_trans (Nat.le_trans HG3.out HI10.out.wb.fr.size) h4
               have hO11 : ∀ x, x ∈ O11 → w.heap.size ≤ x := fun x hx => by
                rcases ho11 x hx with h4 | h4
                ·exact HO9.out x h4
                ·exact Nat.le_trans HB10.out.size h4
               have hbx := hf11.blk HI10.out.box HI10.out.off
               have hB11 := new_below HB10.out hf11 HO9.out
               have HOF := Lib.hid (show Calls Tryz.prog 15 #[.pointer (some ⟨b, 0, none⟩), .agg #[.int .i64 (k : Int), .int .i64 3], .string d] w11 (OfPost w11 O11 b ((PW.adv p7 3).crashed ls) k 3 d) from of_any hat11 (crashed_calm _ _) hfar11 (vars_fr (HI10.out.vars HO.out HV3.out) hf11 hfar9) k 3 HCODE.out HI10.out.fit.n_.symm d hd1)
               have k0 := hbx.cell 0
               have k1 := hbx.cell 1
               simp only [List.getElem?_toArray, List.getElem?_cons_zero, List.getElem?_cons_succ] at k0 k1
               have HB11 := Lib.hid hB11
               have HO11 := Lib.hid hO11
               clear hat11 hf11 ho11 hfar9 hfar11 hO11 hbx hB11
               go_wp2_with (go_at_call 15; with_reducible refine HOF.out.mono ?_)
               rintro e w12 ⟨A3, O12, rfl, hA3, hwb12, -, -⟩
               rw [marks_snd] at hA3
               have HC3 := Lib.hid (show Calls Tryz.prog 24 #[.slice (some ⟨A3, 0, none⟩) 3 3] w12 fun e w' => e = .returned (.int .i64 ((3 : Nat) : Int)) ∧ w12 = w' from by
                have := count_any (l := (List.range 3).map (snd ((PW.adv p7 3).crashed ls) k 3 d)) (by simp) hA3
                rw [cnt_marks, ← cntS_eq, HLAST.out] at this
                exact this)
               have HB12 := Lib.hid (new_below HB11.out hwb12.fr HO11.out)
               clear hA3 hwb12 k0 k1
               go_wp2_with (go_at_call 24; with_reducible refine HC3.out.mono ?_; rintro e w' ⟨rfl, rfl⟩)
               go_ret
               exact ⟨rfl, HB12.out⟩
             ·have hfx : (frB rb p' 3 && !rfB l l.length) = false := by
               cases h1 : frB rb p' 3
               ·rfl
               ·cases h2 : rfB l l.length
                ·exact absurd (HF.out.free (by omega) (frB_all h1).1 (frB_all h1).2 (rfB_none h2)) hme
                ·rfl
              have her := (HF.out.errs (by omega)).resolve_left hme
              clear hme
              rcases her with rfl | rfl <;> cases h1 : frB rb p' 3 <;> cases h2 : rfB l l.length <;> rw [h1, h2] at hfx
              all_goals first
               | (simp at hfx; done)
               | (clear h1 h2 hfx
                  go_wp2_with fail
                  go_ret
                  exact ⟨rfl, HB10.out⟩)
end Hlt
end Go.Proofs.YtnbkhdbligjifaaGreatDoor
