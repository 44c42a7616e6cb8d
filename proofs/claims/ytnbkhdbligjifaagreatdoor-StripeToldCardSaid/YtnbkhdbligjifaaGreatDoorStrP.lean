/-
 The stripe laws: a fault strikes, but not if it forges (strike). The stripe laws: the example holds (works). The stripe laws: what strikes keep, in plain words; a world of no stores, or too many.
-/
import Derived.Test.YtnbkhdbligjifaaGreatDoorStrM
import Derived.Test.YtnbkhdbligjifaaGreatDoorWldH
set_option linter.unusedVariables false
set_option linter.unusedSimpArgs false
set_option maxRecDepth 100000
set_option maxHeartbeats 40000000
namespace Go.Proofs.YtnbkhdbligjifaaGreatDoor
open Go Go.RowKit Vm
open scoped Classical
namespace Str
open Hlt
noncomputable def objsI (p : PW) (i : Int) : List POb := (p.keys i).map fun k => ((⟨k.toArray⟩ : ByteArray), gotB (p.st i.toNat).seen k)
def Reads (o : POb) : Prop := Shd.Looks Shd.sumL o.1.data.toList o.2.data.toList
noncomputable def forgeB (l1 l2 : List POb) : Bool := decide (∃ o ∈ l2, Reads o ∧ o ∉ l1)
noncomputable def strikeP (p : PW) (f : Flt) : PW := if forgeB (objsI p f.store) (objsI (p.struck f) f.store) = true then p else p.struck f
theorem fits_small {L : Nat} {st : PSt} (h : Fits L st) (hL : L ≤ 1000) : Small st.seen := (h.ok hL).small
theorem objsI_len {L n : Nat} {p : PW} (h : WFit L n p) (i : Int) : (objsI p i).length ≤ L := by
 unfold objsI PW.keys
 split
 ·rw [List.length_map]
  simp only [keysOf, List.length_mergeSort, List.length_map]
  exact (h.fits _).len
 ·simp
theorem objs_of {w w' : World} {p : PW} {i : Int} {e : Ending} (h : WObjsPost w p i e w') : ∃ v, e = .returned v ∧ ObjsAt w' w.heap.size v (objsI p i) ∧ Below w.heap.size w w' := by
 obtain ⟨v, h1, h2, h3⟩ := h
 refine ⟨v, h1, ?_, h3⟩
 unfold ObjsAt objsI
 rw [List.length_map, ← objsV_eq]
 exact h2
theorem memqS {l : List POb} {q : Nat} (h : q < l.length) (o : POb) : decide (o ∈ l.take (q + 1)) = (decide (o ∈ l.take q) || decide (l[q] = o)) := memq h o
def StkP (w : World) (O : List Nat) (b : Nat) (p : PW) (f : Flt) (e : Ending) (w' : World) : Prop := ∃ O', e = .returned (.tuple #[]) ∧ WB w O b (strikeP p f) O' w'
theorem strike_any {w : World} (hv : Shd.Vars w) {b : Nat} {p : PW} {O : List Nat} (h : WAt w b p O) (hO : Far O) {L n : Nat} (hf : WFit L n p) (hL : L ≤ 1000) (hn : n ≤ 12) (f : Flt) (hff : f.fits) :
 Calls Tryz.prog 30 #[.pointer (some ⟨b, 0, none⟩), .agg #[.int .u8 f.kind, .int .i64 f.store, .int .i64 f.n, .int .i64 f.at_, .int .i64 f.c]] w (StkP w O b p f) := by
 have hE0 := Stab.Ext.alloc w (.cells #[.int .u8 f.kind, .int .i64 f.store, .int .i64 f.n, .int .i64 f.at_, .int .i64 f.c] 34)
 have bx := Blk.new w 34 #[.int .u8 f.kind, .int .i64 f.store, .int .i64 f.n, .int .i64 f.at_, .int .i64 f.c]
 have h0 : WB w O b p O (w.alloc (.cells #[.int .u8 f.kind, .int .i64 f.store, .int .i64 f.n, .int .i64 f.at_, .int .i64 f.c] 34)) := (WB.refl h).ext hE0
 have HC := Lib.hid (wcopy_any h0.at_ (by rw [hf.n_]; omega) (fun i _ => by rw [(hf.fits i).wr]; simp))
 have HW0 := Lib.hid h0
 have HBX := Lib.hid bx
 have HV := Lib.hid hv
 have HO := Lib.hid hO
 have HF := Lib.hid hf
 have HFF := Lib.hid hff
 have hf2 := (struck_world hf hff).1
 have HF2 := Lib.hid hf2
 have HP := Lib.hid (show strikeP p f = if forgeB (objsI p f.store) (objsI (p.struck f) f.store) = true then p else p.struck f from rfl)
 have hlt := h.lt
 have k0 := bx.cell 0
 have k1 := bx.cell 1
 have k2 := bx.cell 2
 have k3 := bx.cell 3
 have k4 := bx.cell 4
 simp only [List.getElem?_toArray, List.getElem?_cons_zero, List.getElem?_cons_succ] at k0 k1 k2 k3 k4
 clear h h0 hv hO hf hff hE0 bx hf2
 go_enter Tryz.func30, Tryz.ntmps30
 generalize hw0 : w.alloc (.cells #[.int .u8 f.kind, .int .i64 f.store, .int .i64 f.n, .int .i64 f.at_, .int .i64 f.c] 34) = w0 at *
 go_wp2_with (go_at_call 14; with_reducible refine HC.out.mono ?_)
 rintro e w1 ⟨C, Q, rfl, hlow, hat, hb1⟩
 have hE1 : Stab.Ext w0 w1 := hb1
 have hbx1 := HBX.out.below hb1 HBX.out.lt
 have hwb1 := HW0.out.ext hE1
 have HX := Lib.hid (wstrike_any hat f HFF.out (fits_small (HF.out.fits _) hL))
 have hbl := HBX.out.lt
 have hfx : w.heap.size ∉ Q := fun hm => by have := hlow _ hm; omega
 have hQO : ∀ k, k ∈ Q → k ∉ O ∧ w.heap.size ≤ k := fun k hk => ⟨fun hm => by have := hlt k hm; have := hlow k hk; omega, by have := hlow k hk; omega⟩
 have HB1 := Lib.hid hbx1
 have HW1 := Lib.hid hwb1
 have k0 := hbx1.cell 0
 have k1 := hbx1.cell 1
 have k2 := hbx1.cell 2
 have k3 := hbx1.cell 3
 have k4 := hbx1.cell 4
 simp only [List.getElem?_toArray, List.getElem?_cons_zero, List.getElem?_cons_succ] at k0 k1 k2 k3 k4
 clear hE1 hbx1 hwb1 hat hb1 hlow HC
 go_wp2_with (go_at_call 13; with_reducible refine HX.out.mono ?_)
 intro e w2 hq2
 obtain ⟨he2, Q2, hat2, hf2, -⟩ := hq2
 subst he2
 have hbx2 := hf2.blk HB1.out hfx
 have hwb2 := HW1.out.keep hf2 hQO
 have k0 := hbx2.cell 0
 have k1 := hbx2.cell 1
 have k2 := hbx2.cell 2
 have k3 := hbx2.cell 3
 have k4 := hbx2.cell 4
 simp only [List.getElem?_toArray, List.getElem?_cons_zero, List.getElem?_cons_succ] at k0 k1 k2 k3 k4
 have HOB := Lib.hid (wobjects_any hwb2.at_ f.store (fits_small (HF.out.fits _) hL))
 have HB2 := Lib.hid hbx2
 have HW2 := Lib.hid hwb2
 have HAT2 := Lib.hid hat2
 have hbl2 := hbx2.lt
 clear hbx2 hwb2 hat2 hf2 HX
 go_wp2_with (go_at_call 17; with_reducible refine HOB.out.mono ?_)
 intro e w3 ho3
 obtain ⟨v3, he3, hob3, hb3⟩ := objs_of ho3
 subst he3
 have hE3 : Stab.Ext w2 w3 := hb3
 have hbx3 := HB2.out.below hb3 HB2.out.lt
 have k0 := hbx3.cell 0
 have k1 := hbx3.cell 1
 have k2 := hbx3.cell 2
 have k3 := hbx3.cell 3
 have k4 := hbx3.cell 4
 simp only [List.getElem?_toArray, List.getElem?_cons_zero, List.getElem?_cons_succ] at k0 k1 k2 k3 k4
 have HOC := Lib.hid (wobjects_any (HAT2.out.keep (Fr.of_below (O := []) hE3) (by simp)) f.store (fits_small (HF2.out.fits _) hL))
 have HB3 := Lib.hid hbx3
 have HW3 := Lib.hid (HW2.out.ext hE3)
 have HOB3 := Lib.hid hob3
 clear ho3 hob3 hb3 hE3 hbx3 HOB
 go_wp2_with (go_at_call 17; with_reducible refine HOC.out.mono ?_)
 intro e w4 ho4
 obtain ⟨v4, he4, hob4, hb4⟩ := objs_of ho4
 subst he4
 have hE4 : Stab.Ext w3 w4 := hb4
 have hbx4 := HB3.out.below hb4 HB3.out.lt
 have k0 := hbx4.cell 0
 have k1 := hbx4.cell 1
 have k2 := hbx4.cell 2
 have k3 := hbx4.cell 3
 have k4 := hbx4.cell 4
 simp only [List.getElem?_toArray, List.getElem?_cons_zero, List.getElem?_cons_succ] at k0 k1 k2 k3 k4
 have HB4 := Lib.hid hbx4
 have HW4 := Lib.hid (HW3.out.ext hE4)
 have HOB4 := Lib.hid (ObjsAt.ext HOB3.out hE4)
 have HOC4 := Lib.hid hob4
 have hl1 := objsI_len HF.out f.store
 have hl2 := objsI_len HF2.out f.store
 have HV4 := Lib.hid (vars_fr HV.out HW4.out.fr HO.out)
 obtain ⟨A1, c1, hv1⟩ := OwnG.shape HOB4.out
 obtain ⟨A2, c2, hv2⟩ := OwnG.shape hob4
 subst hv1 hv2
 have HFB := Lib.hid (show forgeB (objsI p f.store) (objsI (p.struck f) f.store) = decide (∃ o ∈ objsI (p.struck f) f.store, Reads o ∧ o ∉ objsI p f.store) from rfl)
 clear ho4 hob4 hb4 hE4 hbx4 HOC HOB3 HW3 HB3 HAT2
 generalize objsI p f.store = l1 at *
 generalize objsI (p.struck f) f.store = l2 at *
 go_wp2_with fail
 go_loopw [7] (fun i wr => ∃ q : Nat, q ≤ l2.length ∧ i = .int .i64 (q : Int) ∧ (∀ o ∈ l2.take q, ¬ (Reads o ∧ o ∉ l1)) ∧ Stab.Ext w4 wr) (fun i _ => l2.length - (intOf i).toNat)
 case atStart => exact ⟨0, by omega, rfl, by simp, Stab.Ext.refl _⟩
 case round =>
  obtain ⟨q, hq, rfl, ho, hE⟩ := hrel
  have HOO := Lib.hid ho
  have HE := Lib.hid hE
  by_cases hlt2 : q < l2.length
  ·have hlt3 : (q : Int) < (l2.length : Int) := by omega
   obtain ⟨g, c', hv2, r0, r1⟩ := (HOC4.out.ext hE).cells hlt2
   obtain ⟨rfl, rfl⟩ : A2 = some ⟨g, 0, none⟩ ∧ c2 = c' := by cases hv2; exact ⟨rfl, rfl⟩
   have HRD := Lib.hid (Shd.read_any l2[q].1 l2[q].2 wr (HV4.out.below hE))
   have HRR := Lib.hid (show Reads l2[q] = Shd.Looks Shd.sumL l2[q].1.data.toList l2[q].2.data.toList from rfl)
   clear hv2 ho hE
   go_wp2_with (go_at_call 65; with_reducible refine HRD.out.mono ?_)
   rintro e w5 ⟨hre, hb5⟩
   have hE5 : Stab.Ext wr w5 := hb5
   obtain ⟨sh, er, her, hsh, hrs⟩ : ∃ (sh : Shd.Shard) (er : Int), (er = 0 ∨ er = 4) ∧ e = .returned (.tuple #[Shd.shV sh, .int .i64 er]) ∧ (er = 0 ↔ Reads l2[q]) := by
    rcases hre with ⟨hk, rfl⟩ | ⟨hk, rfl⟩
    ·exact ⟨_, 0, .inl rfl, rfl, by rw [HRR.out]; simp [hk]⟩
    ·exact ⟨_, 4, .inr rfl, rfl, by rw [HRR.out]; simp [hk]⟩
   subst hsh
   obtain ⟨a1, a2, a3, a4, a5, hsv⟩ : ∃ (a b : Int) (c : ByteArray) (d : Int) (e : ByteArray), Shd.shV sh = .agg #[.int .i64 a, .int .i64 b, .string c, .int .i64 d, .string e] := ⟨_, _, _, _, _, rfl⟩
   rw [hsv]
   have HE5 := Lib.hid (HE.out.trans hE5)
   have HRS := Lib.hid hrs
   clear hre hb5 hsv hrs HRD
   have r0 := hE5.cell r0
   have r1 := hE5.cell r1
   have hgl := lt_cell r0
   clear hE5
   go_wp2_with fail
   go_loopw [10, 11] (fun x j wx => ∃ m : Nat, m ≤ l1.length ∧ j = .int .i64 (m : Int) ∧ x = .bool (decide (l2[q] ∈ l1.take m)) ∧ Stab.Ext w5 wx) (fun _ j _ => l1.length - (intOf j).toNat)
   case atStart => exact ⟨0, by omega, rfl, by simp, Stab.Ext.alloc _ _⟩
   case round =>
    obtain ⟨m, hm, rfl, rfl, hE⟩ := hrel
    have HEX := Lib.hid hE
    have r0 := hE.cell r0
    have r1 := hE.cell r1
    by_cases hml : m < l1.length
    ·have hml2 : (m : Int) < (l1.length : Int) := by omega
     have hmq := memqS hml l2[q]
     obtain ⟨g1, c1', hv1, s0, s1⟩ := ((HOB4.out.ext HE5.out).ext hE).cells hml
     obtain ⟨rfl, rfl⟩ : A1 = some ⟨g1, 0, none⟩ ∧ c1 = c1' := by cases hv1; exact ⟨rfl, rfl⟩
     have hmo : Tryz.prog.follows .mixedOrders = true := by kernel_rfl
     cases hw : decide (l2[q] ∈ l1.take m) with
     | true =>
       rw [hw, Bool.true_or] at hmq
       have HMQ := Lib.hid hmq
       clear hmq hv1 hw
       go_wp2_with fail
       go_region
       go_wp2_with fail
       go_roundw
       case rel => exact ⟨m + 1, by omega, by go_num, by rw [HMQ.out], HEX.out.trans (Stab.Ext.drew _)⟩
       case measure => simp [intOf]; omega
     | false =>
       rw [hw, Bool.false_or] at hmq
       have HMQ := Lib.hid hmq
       clear hmq hv1 hw
       obtain ⟨⟨a1, a2⟩, ha⟩ : ∃ a, a = l1[m] := ⟨_, rfl⟩
       obtain ⟨⟨d1, d2⟩, hd⟩ : ∃ a, a = l2[q] := ⟨_, rfl⟩
       rw [← ha] at s0 s1
       rw [← hd] at r0 r1
       have HQ := Lib.hid (show decide (l1[m] = l2[q]) = (a1.toList == d1.toList && a2.toList == d2.toList) from by
        rw [← ha, ← hd, Bool.eq_iff_iff]
        simp only [decide_eq_true_eq, Prod.mk.injEq, Bool.and_eq_true, beq_iff_eq, bytes_inj])
       clear ha hd
       simp only at s0 s1 r0 r1
       by_cases e1 : a1.toList = d1.toList <;> by_cases e2 : a2.toList = d2.toList <;> (
        go_wp2_with fail
        go_region
        go_wp2_with fail
        go_roundw
        case rel => exact ⟨m + 1, by omega, by go_num, by rw [HMQ.out, HQ.out]; simp [e1, e2], HEX.out.trans (Stab.Ext.drew _)⟩
        case measure => simp [intOf]; omega)
    ·obtain rfl : m = l1.length := by omega
     rw [List.take_length]
     have d1 : ¬ ((l1.length : Int) < (l1.length : Int)) := by omega
     have HE7 := Lib.hid (HE5.out.trans hE)
     clear hE
     by_cases hbad : Reads l2[q] ∧ l2[q] ∉ l1
     ·have h0 : er = 0 := HRS.out.2 hbad.1
      have hdm : decide (l2[q] ∈ l1) = false := decide_eq_false hbad.2
      have HST := Lib.hid (show strikeP p f = p from HP.out.trans (if_pos (by rw [HFB.out, decide_eq_true_eq]; exact ⟨_, List.getElem_mem hlt2, hbad⟩)))
      rw [hdm]
      subst h0
      clear hbad
      go_wp2_with fail
      refine bodyPost_ret (results_none rfl _ _ _) rfl ?_
      exact ⟨O, rfl, by rw [HST.out]; exact HW4.out.ext HE7.out⟩
     ·have HBAD := Lib.hid (show ∀ o ∈ l2.take (q + 1), ¬ (Reads o ∧ o ∉ l1) from fun o hm => by
       rw [List.take_succ_eq_append_getElem hlt2, List.mem_append, List.mem_singleton] at hm
       rcases hm with hm | rfl
       ·exact HOO.out o hm
       ·exact hbad)
      by_cases hm1 : l2[q] ∈ l1
      ·have hdm : decide (l2[q] ∈ l1) = true := decide_eq_true hm1
       rw [hdm]
       clear hbad hm1
       rcases her with rfl | rfl
       all_goals
        go_wp2_with fail
        go_roundw
        case rel => exact ⟨q + 1, by omega, by go_num, HBAD.out, HE7.out⟩
        case measure => simp [intOf]; omega
      ·have hne : er ≠ 0 := fun h => hbad ⟨HRS.out.1 h, hm1⟩
       obtain rfl : er = 4 := her.resolve_left hne
       have hdm : decide (l2[q] ∈ l1) = false := decide_eq_false hm1
       rw [hdm]
       clear hbad hm1 hne
       go_wp2_with fail
       go_roundw
       case rel => exact ⟨q + 1, by omega, by go_num, HBAD.out, HE7.out⟩
       case measure => simp [intOf]; omega
  ·obtain rfl : q = l2.length := by omega
   have d1 : ¬ ((l2.length : Int) < (l2.length : Int)) := by omega
   rw [List.take_length] at ho
   have HST := Lib.hid (show strikeP p f = p.struck f from HP.out.trans (if_neg (by
    rw [HFB.out, decide_eq_true_eq]
    rintro ⟨o, hm, hr⟩
    exact ho o hm hr)))
   have k0 := hE.cell k0
   have k1 := hE.cell k1
   have k2 := hE.cell k2
   have k3 := hE.cell k3
   have k4 := hE.cell k4
   have HWR := Lib.hid (HW4.out.ext hE)
   have HSS := Lib.hid (wstrike_any HWR.out.at_ f HFF.out (fits_small (HF.out.fits _) hL))
   clear ho hE
   go_wp2_with (go_at_call 13; with_reducible refine HSS.out.mono ?_)
   intro e w9 hq9
   obtain ⟨O9, hwb9, -, -⟩ := HWR.out.next hq9
   obtain ⟨rfl, -⟩ := hq9
   have HW9 := Lib.hid hwb9
   clear hwb9
   go_wp2_with fail
   refine bodyPost_ret (results_none rfl _ _ _) rfl ?_
   exact ⟨O9, rfl, by rw [HST.out]; exact HW9.out⟩
end Str
end Go.Proofs.YtnbkhdbligjifaaGreatDoor
namespace Go.Proofs.YtnbkhdbligjifaaGreatDoor
open Go Go.RowKit Vm
namespace Str
open Hlt
structure Born (w : World) (cb b : Nat) (p : PW) (O : List Nat) (W : World) : Prop where
 wb : WB w [] b p O W
 cb : cb ∉ O
section
variable {w W W' : World} {cb b : Nat} {p p' : PW} {O O' X : List Nat}
theorem Born.next (h : Born w cb b p O W) (h2 : WB W O b p' O' W') (hc : cb < W.heap.size) : Born w cb b p' O' W' :=
 ⟨wb_trans h.wb h2, fun hm => by
  rcases h2.own _ hm with h3 | h3
  ·exact h.cb h3
  ·omega⟩
theorem Born.op (h : Born w cb b p O W) {v : Value} {e : Ending} (hp : WPost W b O v p' e W') (hc : cb < W.heap.size) : ∃ O', Born w cb b p' O' W' ∧ Fr O W W' ∧ ∀ k, k ∈ O' → k ∈ O ∨ W.heap.size ≤ k := by
 obtain ⟨_, O', h1, h2, h3⟩ := hp
 exact ⟨O', h.next ⟨h1, h2, h3⟩ hc, h2, h3⟩
theorem Born.keep (h : Born w cb b p O W) (hf : Fr X W W') (hX : ∀ k, k ∈ X → k ∉ O ∧ w.heap.size ≤ k) : Born w cb b p O W' := ⟨h.wb.keep hf hX, h.cb⟩
theorem Born.ext (h : Born w cb b p O W) (hE : Stab.Ext W W') : Born w cb b p O W' := ⟨h.wb.ext hE, h.cb⟩
theorem Born.low (h : Born w cb b p O W) : ∀ k, k ∈ O → w.heap.size ≤ k := fun k hk => (h.wb.own k hk).resolve_left (by simp)
theorem Born.far (h : Born w cb b p O W) (hG : Tryz.prog.globals.size ≤ w.heap.size) : Far O := fun k hk => Nat.le_trans hG (h.low k hk)
theorem Born.vars (h : Born w cb b p O W) (hv : Shd.Vars w) : Shd.Vars W := vars_fr hv h.wb.fr (fun k hk => by cases hk)
theorem Born.below (h : Born w cb b p O W) : Below w.heap.size w W := h.wb.fr.below
theorem Born.at_ (h : Born w cb b p O W) : WAt W b p O := h.wb.at_
end
structure CAt (cb : Nat) (k n : Int) (W : World) : Prop where
 blk : Blk W cb 25 #[.int .i64 k, .int .i64 n]
theorem CAt.keep {cb : Nat} {k n : Int} {W W' : World} {X : List Nat} (h : CAt cb k n W) (hf : Fr X W W') (hX : cb ∉ X) : CAt cb k n W' := ⟨hf.blk h.blk hX⟩
theorem CAt.ext {cb : Nat} {k n : Int} {W W' : World} (h : CAt cb k n W) (hE : Stab.Ext W W') : CAt cb k n W' := ⟨h.blk.below hE h.blk.lt⟩
theorem CAt.c0 {cb : Nat} {k n : Int} {W : World} (h : CAt cb k n W) : W.cell? ⟨cb, 0, none⟩ = some (.int .i64 k) := h.blk.cell 0
theorem CAt.c1 {cb : Nat} {k n : Int} {W : World} (h : CAt cb k n W) : W.cell? ⟨cb, 1, none⟩ = some (.int .i64 n) := h.blk.cell 1
def blobB : ByteArray := ⟨#[98, 108, 111, 98]⟩
def TrueP (w : World) (e : Ending) (w' : World) : Prop := e = .returned (.bool true) ∧ Below w.heap.size w w'
theorem works_true (w : World) (hv : Shd.Vars w) (hG : Tryz.prog.globals.size ≤ w.heap.size) : Calls Tryz.prog 26 #[] w (TrueP w) := by
 have hcode : Shd.codeB ((2 : Nat) : Int) ((3 : Nat) : Int) = true := by decide
 obtain ⟨s, hs⟩ : ∃ s, s = blobB := ⟨_, rfl⟩
 have hsz : s.size = 4 := by rw [hs]; rfl
 obtain ⟨d, hd⟩ : ∃ d, d = dgB s := ⟨_, rfl⟩
 have hN : Num 2 3 d s := ⟨hcode, by rw [hd]; exact dgB_size s, by omega⟩
 have HSB := Lib.hid (show (⟨#[98, 108, 111, 98]⟩ : ByteArray) = s from hs.symm)
 clear hs
 have HN := Lib.hid hN
 have HD := Lib.hid hd
 have HV := Lib.hid hv
 have HG := Lib.hid hG
 have HNEW := Lib.hid (show ∀ w : World, Tryz.prog.globals.size ≤ w.heap.size → Calls Tryz.prog 139 #[] w (Spr.NewPost w) from fun w _ => Fld.new_any w)
 obtain ⟨p1, p2, x0, x1, p3, p4, hX⟩ := exm_is hN hd
 have HX := Lib.hid hX
 have HSUM := Lib.hid (show ∀ W : World, Calls Tryz.prog 33 #[.string ⟨#[98, 108, 111, 98]⟩] W fun e w' => e = .returned (.string d) ∧ Below W.heap.size W w' from fun W => by
  rw [HSB.out, hd]
  exact Sha.sum_any s (by omega) W)
 clear hN hd hv hG hX
 go_enter Tryz.func26, Tryz.ntmps26
 go_wp2_with (go_at_call 56; with_reducible refine (three_any _).mono ?_)
 rintro e w1 ⟨b, O, rfl, hlow, hat, hb1⟩
 have hE2 := Stab.Ext.alloc w1 (.cells #[.int .i64 2, .int .i64 3] 25)
 have hB : Born w w1.heap.size b (newP 3) O (w1.alloc (.cells #[.int .i64 2, .int .i64 3] 25)) :=
  ⟨(⟨hat, Fr.of_below (O := []) hb1, fun k hk => .inr (hlow k hk)⟩ : WB w [] b (newP 3) O w1).ext hE2, fun hm => by have := hat.lt _ hm; omega⟩
 have hC : CAt w1.heap.size 2 3 (w1.alloc (.cells #[.int .i64 2, .int .i64 3] 25)) := ⟨Blk.new w1 25 #[.int .i64 2, .int .i64 3]⟩
 have hcb : w1.heap.size < (w1.alloc (.cells #[.int .i64 2, .int .i64 3] 25)).heap.size := hC.blk.lt
 have hcw : w.heap.size ≤ w1.heap.size := (show Stab.Ext w w1 from hb1).size
 clear hat hlow hb1 hE2
 generalize hw2 : w1.alloc (.cells #[.int .i64 2, .int .i64 3] 25) = w2 at *
 have HW2 := Lib.hid hw2.symm
 clear hw2
 have k0 := hC.c0
 have k1 := hC.c1
 have HC1 := Lib.hid (show Calls Tryz.prog 34 #[.pointer (some ⟨b, 0, none⟩), .agg #[.int .i64 2, .int .i64 3], .string ⟨#[98, 108, 111, 98]⟩] w2 (CallsP w2 O b (newP 3) 2 3 s) from by
  rw [HSB.out]
  exact callsN_any HNEW.out (Nat.le_trans HG.out hB.below.size) (hB.vars HV.out) hB.at_ 2 3 hcode rfl s (by omega) (newP_well 3).bnd (by omega) (by omega))
 have HB := Lib.hid hB
 have HC := Lib.hid hC
 clear hB hC
 go_wp2_with (go_at_call 34; rw [← HW2.out]; with_reducible refine HC1.out.mono ?_)
 rintro e w3 ⟨O3, rfl, hwb3⟩
 rw [HX.out.w1] at hwb3
 rw [HX.out.c1]
 have hB3 := HB.out.next hwb3 hcb
 have hC3 := HC.out.keep hwb3.fr HB.out.cb
 have hcb3 := hC3.blk.lt
 have k0 := hC3.c0
 have k1 := hC3.c1
 have HC2 := Lib.hid (show Calls Tryz.prog 34 #[.pointer (some ⟨b, 0, none⟩), .agg #[.int .i64 2, .int .i64 3], .string ⟨#[98, 108, 111, 98]⟩] w3 (CallsP w3 O3 b p1 2 3 s) from by
  rw [HSB.out]
  exact callsN_any HNEW.out (Nat.le_trans HG.out hB3.below.size) (hB3.vars HV.out) hB3.at_ 2 3 hcode HX.out.n1 s (by omega) HX.out.b1 (by omega) (by omega))
 have HB3 := Lib.hid hB3
 have HC3 := Lib.hid hC3
 clear hB3 hC3 hwb3 HC1 HB HC
 go_wp2_with (go_at_call 34; with_reducible refine HC2.out.mono ?_)
 rintro e w4 ⟨O4, rfl, hwb4⟩
 rw [HX.out.w2] at hwb4
 rw [HX.out.c2]
 have hB4 := HB3.out.next hwb4 hcb3
 have hC4 := HC3.out.keep hwb4.fr HB3.out.cb
 have HSM := Lib.hid (show ∀ i, Small (p2.st i).seen from fun i => ((HX.out.b2 i).ok (by omega) (by omega)).small)
 have HO0 := Lib.hid (show Calls Tryz.prog 17 #[.pointer (some ⟨b, 0, none⟩), .int .i64 0] w4 (WObjsPost w4 p2 0) from wobjects_any hB4.at_ 0 (HSM.out _))
 have HB4 := Lib.hid hB4
 have HC4 := Lib.hid hC4
 clear hB4 hC4 hwb4 HC2 HB3 HC3
 go_wp2_with (go_at_call 17; with_reducible refine HO0.out.mono ?_)
 rintro e w5 ⟨v5, rfl, ho5, hb5⟩
 rw [HX.out.k0] at ho5
 obtain ⟨A5, c5, hv5⟩ := ho5.shape
 subst hv5
 have hb5' : Stab.Ext w4 w5 := hb5
 have HB5 := Lib.hid (HB4.out.ext hb5')
 have HC5 := Lib.hid (HC4.out.ext hb5')
 have HO2 := Lib.hid (show Calls Tryz.prog 17 #[.pointer (some ⟨b, 0, none⟩), .int .i64 2] w5 (WObjsPost w5 p2 2) from wobjects_any HB5.out.at_ 2 (HSM.out _))
 clear ho5 hb5 hb5' HO0 HB4 HC4
 go_wp2_with (go_at_call 17; with_reducible refine HO2.out.mono ?_)
 rintro e w6 ⟨v6, rfl, ho6, hb6⟩
 rw [HX.out.k2] at ho6
 obtain ⟨A6, c6, hv6⟩ := ho6.shape
 subst hv6
 have hb6' : Stab.Ext w5 w6 := hb6
 have HB6 := Lib.hid (HB5.out.ext hb6')
 have HC6 := Lib.hid (HC5.out.ext hb6')
 have HT6 := Lib.hid (three_any w6)
 clear ho6 hb6 hb6' HO2 HB5 HC5
 go_wp2_with (go_at_call 56; with_reducible refine HT6.out.mono ?_)
 rintro e w7 ⟨b2, P, rfl, hlow, hat, hb7⟩
 have hb7' : Stab.Ext w6 w7 := hb7
 have hC7 := HC6.out.ext hb7'
 have m0 := hC7.c0
 have m1 := hC7.c1
 have y0 := hC7.blk.frozen 0
 have y1 := hC7.blk.frozen 1
 have hs67 := hb7'.size
 have hOL : ∀ k, k ∈ O4 → k < w6.heap.size := HB6.out.wb.lt
 have HPO : ∀ (Q : List Nat), (∀ k, k ∈ Q → w6.heap.size ≤ k) → ∀ k, k ∈ Q → k ∉ O4 ∧ w.heap.size ≤ k := fun Q hQ k hk => ⟨fun hm => by have := hOL k hm; have := hQ k hk; omega, Nat.le_trans HB6.out.below.size (hQ k hk)⟩
 have HPO := Lib.hid HPO
 have hPO : ∀ k, k ∈ P → k ∉ O4 ∧ w.heap.size ≤ k := fun k hk => ⟨fun hm => by have := HB6.out.wb.lt k hm; have := hlow k hk; omega, Nat.le_trans HB6.out.below.size (hlow k hk)⟩
 have hcbP : w1.heap.size ∉ P := fun hm => by have := hlow _ hm; have := HC6.out.blk.lt; omega
 have hf8 : Fr [w1.heap.size] w7 ((w7.setCell ⟨w1.heap.size, 0, none⟩ (.int .i64 2)).setCell ⟨w1.heap.size, 1, none⟩ (.int .i64 3)) := (Fr.cell w7 ⟨w1.heap.size, 0, none⟩ _).next (Fr.cell _ ⟨w1.heap.size, 1, none⟩ _)
 have hB8 : Born w w1.heap.size b p2 O4 ((w7.setCell ⟨w1.heap.size, 0, none⟩ (.int .i64 2)).setCell ⟨w1.heap.size, 1, none⟩ (.int .i64 3)) := (HB6.out.ext hb7').keep hf8 fun k hk => by simp only [List.mem_singleton] at hk; subst hk; exact ⟨HB6.out.cb, hcw⟩
 have hat8 : WAt ((w7.setCell ⟨w1.heap.size, 0, none⟩ (.int .i64 2)).setCell ⟨w1.heap.size, 1, none⟩ (.int .i64 3)) b2 (newP 3) P := hat.keep hf8 fun k hk hm => by simp only [List.mem_singleton] at hm; subst hm; exact hcbP hk
 have hC8 : CAt w1.heap.size 2 3 ((w7.setCell ⟨w1.heap.size, 0, none⟩ (.int .i64 2)).setCell ⟨w1.heap.size, 1, none⟩ (.int .i64 3)) := ⟨(hC7.blk.set_ 0 _).set_ 1 _⟩
 have hX8 : Born w w1.heap.size b2 (newP 3) P ((w7.setCell ⟨w1.heap.size, 0, none⟩ (.int .i64 2)).setCell ⟨w1.heap.size, 1, none⟩ (.int .i64 3)) := ⟨⟨hat8, hB8.wb.fr, fun k hk => .inr (hPO k hk).2⟩, hcbP⟩
 clear hC7 hb7 hb7' hat hat8 hf8
 generalize hw8 : (w7.setCell ⟨w1.heap.size, 0, none⟩ (.int .i64 2)).setCell ⟨w1.heap.size, 1, none⟩ (.int .i64 3) = w8 at hB8 hC8 hX8
 have HW8 := Lib.hid hw8.symm
 clear hw8
 have HSTR := Lib.hid (show Calls Tryz.prog 13 #[.pointer (some ⟨b2, 0, none⟩), .agg #[.int .u8 4, .int .i64 0, .int .i64 0, .int .i64 0, .int .i64 0]] w8 (WPost w8 b2 P (.int .i64 0) x0) from by
  have := wstrike_any hX8.at_ down0 down0_ok ((noStore_bnd.ok (by omega) (by omega)).small)
  rw [HX.out.s0, HX.out.t0] at this
  exact this)
 have HB8 := Lib.hid hB8
 have HC8 := Lib.hid hC8
 have HX8 := Lib.hid hX8
 have HL8 := Lib.hid hlow
 clear hB8 hC8 hX8 hPO HT6 HB6 HC6 hlow
 go_wp2_with (go_at_call 13; rw [← HW8.out]; with_reducible refine HSTR.out.mono ?_)
 intro e w9 hq9
 obtain ⟨P9, hX9, hf9, ho9⟩ := HX8.out.op hq9 HC8.out.blk.lt
 have hs8 : w6.heap.size ≤ w8.heap.size := by rw [HW8.out]; simpa [World.setCell] using hs67
 have HL9 := Lib.hid (show ∀ k, k ∈ P9 → w6.heap.size ≤ k from fun k hk => (ho9 k hk).elim (HL8.out k) fun h => by omega)
 obtain ⟨rfl, -⟩ := hq9
 have hB9 := HB8.out.keep hf9 (HPO.out _ HL8.out)
 have hC9 := HC8.out.keep hf9 HX8.out.cb
 have hs9 := hf9.size
 have k0 := hC9.c0
 have k1 := hC9.c1
 have HC10 := Lib.hid (show Calls Tryz.prog 34 #[.pointer (some ⟨b2, 0, none⟩), .agg #[.int .i64 2, .int .i64 3], .string ⟨#[98, 108, 111, 98]⟩] w9 (CallsP w9 P9 b2 x0 2 3 s) from by
  rw [HSB.out]
  exact callsN_any HNEW.out (Nat.le_trans HG.out hX9.below.size) (hX9.vars HV.out) hX9.at_ 2 3 hcode HX.out.nx s (by omega) HX.out.bx (by omega) (by omega))
 have HB9 := Lib.hid hB9
 have HC9 := Lib.hid hC9
 have HX9 := Lib.hid hX9
 clear hB9 hC9 hX9 hf9 ho9 HB8 HC8 HX8 HSTR
 go_wp2_with (go_at_call 34; with_reducible refine HC10.out.mono ?_)
 rintro e w10 ⟨P10, rfl, hwb10⟩
 rw [HX.out.wx] at hwb10
 rw [HX.out.cx]
 have hX10 := HX9.out.next hwb10 HC9.out.blk.lt
 have hB10 := HB9.out.keep hwb10.fr (HPO.out _ HL9.out)
 have hC10 := HC9.out.keep hwb10.fr HX9.out.cb
 have hs10 := hwb10.fr.size
 have HL10 := Lib.hid (show ∀ k, k ∈ P10 → w6.heap.size ≤ k from fun k hk => (hwb10.own k hk).elim (HL9.out k) fun h => by omega)
 have HB10 := Lib.hid hB10
 have HC10' := Lib.hid hC10
 have HX10 := Lib.hid hX10
 clear hB10 hC10 hX10 hwb10 HB9 HC9 HX9 HC10
 have HREAD := Lib.hid (show ∀ W, Stab.Ext w10 W → Calls Tryz.prog 28 #[.pointer (some ⟨b2, 0, none⟩), .agg #[.int .i64 2, .int .i64 3], .string d] W (RePost W P10 b2 x1 2 3 d) from fun W hW =>
  read_any ((HX10.out.ext hW).vars HV.out) (HX10.out.ext hW).at_ (HX10.out.far HG.out) 2 3 hcode HX.out.nx1 d HN.out.dig HX.out.px)
 have k0 := HC10'.out.c0
 have k1 := HC10'.out.c1
 go_wp2_with fail
 go_region_with (first
  | (go_at_call 33
     with_reducible refine (HSUM.out _).mono ?_
     rintro e w11 ⟨rfl, hb11⟩
     have hE11 : Stab.Ext w10 w11 := (Stab.Ext.drew w10).trans hb11
     have HC11 := Lib.hid (HC10'.out.ext hE11)
     have k0 := HC11.out.c0
     have k1 := HC11.out.c1
     have HB11 := Lib.hid (HB10.out.ext hE11)
     have HX11 := Lib.hid (HX10.out.ext hE11)
     have HRE := Lib.hid (HREAD.out w11 hE11)
     clear hb11 hE11)
  | (go_at_call 28
     with_reducible refine HRE.out.mono ?_
     rintro e w12 ⟨P12, rfl, hwb12⟩
     rw [HX.out.rx, ← HSB.out]
     have hB12 := HB11.out.keep hwb12.fr (HPO.out _ HL10.out)
     have hC12 := HC11.out.keep hwb12.fr HX11.out.cb
     have HST3 := Lib.hid (show Calls Tryz.prog 13 #[.pointer (some ⟨b, 0, none⟩), .agg #[.int .u8 1, .int .i64 0, .int .i64 0, .int .i64 0, .int .i64 0]] w12 (WPost w12 b O4 (.int .i64 0) p3) from by
      have := wstrike_any hB12.at_ (wipeF 0) (wipe_ok 0) (HSM.out _)
      rw [HX.out.s3, HX.out.t3] at this
      exact this)
     have HB12 := Lib.hid hB12
     have HC12 := Lib.hid hC12
     clear hB12 hC12 hwb12 HB11 HX11 HC11 HRE))
 all_goals
  go_wp2_with (go_at_call 13; with_reducible refine HST3.out.mono ?_)
  intro e w13 hq13
  obtain ⟨O13, hB13, hf13, -⟩ := HB12.out.op hq13 HC12.out.blk.lt
  obtain ⟨rfl, -⟩ := hq13
  have HC13 := Lib.hid (HC12.out.keep hf13 HB12.out.cb)
  have HST4 := Lib.hid (show Calls Tryz.prog 13 #[.pointer (some ⟨b, 0, none⟩), .agg #[.int .u8 1, .int .i64 2, .int .i64 0, .int .i64 0, .int .i64 0]] w13 (WPost w13 b O13 (.int .i64 0) p4) from by
   have := wstrike_any hB13.at_ (wipeF 2) (wipe_ok 2) (((HX.out.b3 _).ok (by omega) (by omega)).small)
   rw [HX.out.s4, HX.out.t4] at this
   exact this)
  have HB13 := Lib.hid hB13
  clear hB13 hf13 HB12 HC12 HST3
  go_wp2_with (go_at_call 13; with_reducible refine HST4.out.mono ?_)
  intro e w14 hq14
  obtain ⟨O14, hB14, hf14, -⟩ := HB13.out.op hq14 HC13.out.blk.lt
  obtain ⟨rfl, -⟩ := hq14
  have HC14 := Lib.hid (HC13.out.keep hf14 HB13.out.cb)
  have HB14 := Lib.hid hB14
  have k0 := HC14.out.c0
  have k1 := HC14.out.c1
  have HREAD4 := Lib.hid (show ∀ W, Stab.Ext w14 W → Calls Tryz.prog 28 #[.pointer (some ⟨b, 0, none⟩), .agg #[.int .i64 2, .int .i64 3], .string d] W (RePost W O14 b p4 2 3 d) from fun W hW =>
   read_any ((HB14.out.ext hW).vars HV.out) (HB14.out.ext hW).at_ (HB14.out.far HG.out) 2 3 hcode HX.out.n4 d HN.out.dig HX.out.p4)
  clear hB14 hf14 HB13 HC13 HST4
  go_wp2_with fail
  go_region_with (first
   | (go_at_call 33
      with_reducible refine (HSUM.out _).mono ?_
      rintro e w15 ⟨rfl, hb15⟩
      have hE15 : Stab.Ext w14 w15 := (Stab.Ext.drew w14).trans hb15
      have HC15 := Lib.hid (HC14.out.ext hE15)
      have k0 := HC15.out.c0
      have k1 := HC15.out.c1
      have HB15 := Lib.hid (HB14.out.ext hE15)
      have HRE := Lib.hid (HREAD4.out w15 hE15)
      clear hb15 hE15)
   | (go_at_call 28
      with_reducible refine HRE.out.mono ?_
      rintro e w16 ⟨O16, rfl, hwb16⟩
      rw [HX.out.r4]
      have HB16 := Lib.hid (HB15.out.next hwb16 HC15.out.blk.lt)
      clear hwb16 HB15 HC15 HRE))
  all_goals
   go_wp2_with fail
   go_ret
   exact ⟨rfl, HB16.out.below⟩
end Str
end Go.Proofs.YtnbkhdbligjifaaGreatDoor
namespace Go.Proofs.YtnbkhdbligjifaaGreatDoor
open Go Go.RowKit Vm
namespace Str
open Hlt
theorem mem_objsS {m : TMap} {o : POb} : o ∈ ((keysOf m).map fun k => ((⟨k.toArray⟩ : ByteArray), gotB m k)) ↔ TMap.look m o.1 = some o.2 := by
 rw [List.mem_map]
 constructor
 ·rintro ⟨key, hk, rfl⟩
  unfold keysOf at hk
  rw [List.mem_mergeSort, List.mem_map] at hk
  obtain ⟨q, hq, rfl⟩ := hk
  show TMap.look m ⟨q.1.data.toList.toArray⟩ = some (gotB m q.1.data.toList)
  unfold gotB
  have he : (⟨q.1.data.toList.toArray⟩ : ByteArray) = q.1 := by simp
  rw [he]
  cases hl : TMap.look m q.1 with
  | none =>
    exfalso
    clear he
    induction m with
    | nil => cases hq
    | cons r m ih =>
      obtain ⟨a, b⟩ := r
      unfold TMap.look at hl
      split at hl
      ·cases hl
      ·rcases List.mem_cons.1 hq with rfl | hq
       ·rename_i hne; exact hne rfl
       ·exact ih hq hl
  | some v => rfl
 ·intro h
  have hm := TMap.look_mem h
  refine ⟨o.1.data.toList, ?_, ?_⟩
  ·unfold keysOf
   rw [List.mem_mergeSort, List.mem_map]
   exact ⟨_, hm, rfl⟩
  ·have he : (⟨o.1.data.toList.toArray⟩ : ByteArray) = o.1 := by simp
   unfold gotB
   rw [he, h]
   rfl
section
variable {p : PW} {L k n : Nat} {d s : ByteArray}
theorem objsI_mem {i : Int} (hi : p.has i = true) {o : POb} : o ∈ objsI p i ↔ TMap.look (p.st i.toNat).seen o.1 = some o.2 := by
 unfold objsI PW.keys
 rw [if_pos hi]
 exact mem_objsS
theorem struck_one (p : PW) (f : Flt) (i : Nat) : (p.struck f).st i = p.st i ∨ (p.has f.store = true ∧ i = f.store.toNat ∧ (p.struck f).st i = struckS (p.st i) f) := by
 unfold PW.struck
 split
 case isFalse => exact .inl rfl
 rename_i hh
 split
 case isFalse => exact .inl rfl
 by_cases hi : i = f.store.toNat
 ·right
  refine ⟨hh, hi, ?_⟩
  subst hi
  repeat' split
  all_goals exact upd_same _ _ _
 ·left
  repeat' split
  all_goals exact upd_ne _ _ hi
theorem struck_num (p : PW) (f : Flt) : (p.struck f).n = p.n := by
 unfold PW.struck
 repeat' split
 all_goals rfl
theorem struck_synced {st : PSt} (h : Sync st) (f : Flt) : Sync (struckS st f) := by
 unfold struckS
 split
 case isFalse => exact h
 unfold hitS
 repeat' split
 all_goals first | exact ⟨rfl, rfl⟩ | exact ⟨h.wr, h.good⟩
structure Kept (L k n : Nat) (d s : ByteArray) (p : PW) : Prop where
 fit : WFit L n p
 only : Only k n d s p
 sync : ∀ i, i < n → Sync (p.st i)
theorem Kept.strike (h : Kept L k n d s p) {f : Flt} (hf : f.fits) : Kept L k n d s (strikeP p f) := by
 unfold strikeP
 split
 ·exact h
 ·rename_i hff
  refine ⟨(struck_world h.fit hf).1, fun i hi y hy hl => ?_, fun i hi => ?_⟩
  ·rcases struck_one p f i with he | ⟨hh, rfl, he⟩
   ·rw [he] at hy
    exact h.only i hi y hy hl
   ·have hff2 : ¬ ∃ o ∈ objsI (p.struck f) f.store, Reads o ∧ o ∉ objsI p f.store := by simpa [forgeB] using hff
    have hh2 : (p.struck f).has f.store = true := by unfold PW.has at hh ⊢; rwa [struck_num]
    have hm : ((nmB d f.store.toNat, y) : POb) ∈ objsI (p.struck f) f.store := (objsI_mem hh2).2 hy
    have hr : Reads ((nmB d f.store.toNat, y) : POb) := hl
    have hold : ((nmB d f.store.toNat, y) : POb) ∈ objsI p f.store := Classical.byContradiction fun hn => hff2 ⟨_, hm, hr, hn⟩
    exact h.only _ hi y ((objsI_mem hh).1 hold) hl
  ·rcases struck_one p f i with he | ⟨hh, rfl, he⟩
   ·rw [he]; exact h.sync i hi
   ·rw [he]; exact struck_synced (h.sync _ hi) f
theorem Kept.strikes (h : Kept L k n d s p) {l : List Flt} (hf : ∀ f ∈ l, f.fits) : Kept L k n d s (l.foldl strikeP p) := by
 induction l generalizing p with
 | nil => exact h
 | cons f l ih => exact ih (h.strike (hf f (by simp))) fun g hg => hf g (by simp [hg])
theorem Kept.adv (h : Kept L k n d s p) (m : Nat) : Kept L k n d s (PW.adv p m) := by
 obtain ⟨h1, h2, h3, h4, h5⟩ := adv_st p m
 exact ⟨⟨h1.trans h.fit.n_, fun i => by rw [h2]; exact h.fit.fits i, adv_calm h.fit.calm m⟩, fun i hi => by rw [h2]; exact h.only i hi, fun i hi => by rw [h2]; exact h.sync i hi⟩
theorem fits_of {L : Nat} {st : PSt} (h : Bnd L 0 st) : Fits L st := ⟨h.len, h.key, List.eq_nil_of_length_eq_zero (Nat.le_zero.1 h.wr), h.room⟩
theorem bnd_of {L : Nat} {st : PSt} (h : Fits L st) : Bnd L 0 st := ⟨h.len, h.key, by rw [h.wr]; exact Nat.le_refl _, h.room⟩
theorem written_kept (hN : Num k n d s) (hd : d = dgB s) : (writeR (newP n) k n s).1 = 0 ∧ Kept 1 k n d s (writeR (newP n) k n s).2 ∧ WellW 1 n (writeR (newP n) k n s).2 ∧ ∀ i, i < n → ((writeR (newP n) k n s).2.st i).seen = [(nmB d i, dtB k n d s i)] := by
 obtain ⟨h1, h2, h3, _⟩ := written_well hN hd (newP_well n)
 have hs : ∀ i, i < n → ((writeR (newP n) k n s).2.st i).seen = [(nmB d i, dtB k n d s i)] := fun i hi => by
  rw [h3 i hi, show (newP n).st i = noStore from rfl]
  generalize nmB d i = nm
  generalize dtB k n d s i = dt
  simp [wellS, noStore, TMap.look, TMap.put]
 exact ⟨h1, ⟨⟨h2.n_, fun i => fits_of (h2.bnd i), h2.calm⟩, only_put fun i hi => .inr (hs i hi), h2.sync⟩, h2, hs⟩
theorem got_adv (hc : Hlt.Calm p) (m : Nat) (d : ByteArray) (k2 n2 : Int) {q : Nat} (hq : q < p.n) : gotN (PW.adv p m) d k2 n2 q = gotN p d k2 n2 q := by
 rw [got_calm (adv_calm hc m) d k2 n2 (by rw [(adv_st p m).1]; exact hq), got_calm hc d k2 n2 hq, (adv_st p m).2.1]
theorem hvL_adv (hc : Hlt.Calm p) (m : Nat) (d : ByteArray) (k2 n2 : Int) {q : Nat} (hq : q ≤ p.n) : hvL (PW.adv p m) d k2 n2 q = hvL p d k2 n2 q := by
 unfold hvL
 refine List.filter_congr fun j hj => ?_
 rw [got_adv hc m d k2 n2 (by have := List.mem_range.1 hj; omega)]
end
theorem wnew_bad (w : World) (n : Int) (h : n < 1 ∨ 12 < n) : Calls Tryz.prog 11 #[.int .i64 n] w fun e w' => e = .returned (.tuple #[.pointer none, .int .i64 1]) ∧ w = w' := by
 by_cases h1 : n < 1
 ·clear h
  go_enter Tryz.func11, Tryz.ntmps11
  go_wp2_with fail
  go_ret2
  exact ⟨rfl, rfl⟩
 ·have h2 : 12 < n := h.resolve_left h1
  clear h
  go_enter Tryz.func11, Tryz.ntmps11
  go_wp2_with fail
  go_ret2
  exact ⟨rfl, rfl⟩
end Str
end Go.Proofs.YtnbkhdbligjifaaGreatDoor
