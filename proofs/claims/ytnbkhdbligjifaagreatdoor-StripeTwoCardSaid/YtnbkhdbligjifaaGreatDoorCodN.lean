/-
 The blob of payloads, and all that it has. Decode, Rebuild.
-/
import Derived.Test.YtnbkhdbligjifaaGreatDoorStrF
import Derived.OwnWalk
set_option linter.unusedVariables false
set_option linter.unusedSimpArgs false
set_option maxRecDepth 100000
set_option maxHeartbeats 40000000
namespace Go.Proofs.YtnbkhdbligjifaaGreatDoor
open Go Go.RowKit
open Go.ChangeMaps (setBlock)
namespace Cod
def agree (K N : Nat) (ls : List (List Nat)) (m : Held.HMap) : Prop := ∀ p, p ∈ m → payL (matL K N) ls p.1 = p.2
instance (K N : Nat) (ls : List (List Nat)) (m : Held.HMap) : Decidable (agree K N ls m) := by unfold agree; infer_instance
def foundF (K N : Nat) (hs : List Nat) (ps : List (List UInt8)) : Sum Nat (List UInt8 × List (List Nat)) :=
 if hs.length < K then .inl 54 else
 match firstF K N hs ps with
 | none => .inl 4
 | some ls => match blobF K (lenP ps) (wholeL ls) with
   | none => .inl 4
   | some b => if agree K N ls (hs.zip ps) then .inr (b, ls) else .inl 4
def FoundPost (w : World) (K N : Nat) (hs : List Nat) (ps : List (List UInt8)) (e : Ending) (w' : World) : Prop :=
 Below w.heap.size w w' ∧ match foundF K N hs ps with
  | .inl er => e = .returned (.tuple #[.string ⟨#[]⟩, .slice none 0 0, .int .i64 (er : Nat)])
  | .inr p => ∃ v, e = .returned (.tuple #[.string ⟨p.1.toArray⟩, v, .int .i64 0]) ∧ OwnG w' w.heap.size 9 1 v N (paysV (matL K N) p.2 N)
structure RI (B r b N : Nat) (v : Value) (es : Array MapEntry) (cl : Nat) (ok : MapEntry → Prop) (xs : List Value) (base : Nat) (W : World) : Prop where
 it : ∃ seen c0, W.heap[r]? = some (.mapIter (some b) cl seen c0) ∧ cl ≤ c0 ∧ ∀ e, e ∈ es.toList → seen.contains e.born = true → ok e
 mp : W.heap[b]? = some (.map es cl)
 ow : OwnG W base 9 1 v N xs
theorem RI.ext {B r b N : Nat} {v : Value} {es : Array MapEntry} {cl : Nat} {ok : MapEntry → Prop} {xs : List Value} {base : Nat} {W W' : World} (h : RI B r b N v es cl ok xs base W) (hE : Stab.Ext W W') : RI B r b N v es cl ok xs base W' := by
 obtain ⟨⟨seen, c0, h1, h2⟩, h3, h4⟩ := h
 exact ⟨⟨seen, c0, (Below.block hE r (Array.getElem?_eq_some_iff.1 h1).1).trans h1, h2⟩, (Below.block hE b (Array.getElem?_eq_some_iff.1 h3).1).trans h3, h4.ext hE⟩
structure FRd (g i r : Nat) (x s : List UInt8) (W : World) : Prop where
 cx : W.cell? ⟨g, i, none⟩ = some (.string ⟨x.toArray⟩)
 cs : W.cell? ⟨r, 0, none⟩ = some (.string ⟨s.toArray⟩)
theorem FRd.ext {g i r : Nat} {x s : List UInt8} {W W' : World} (h : FRd g i r x s W) (hE : Stab.Ext W W') : FRd g i r x s W' := ⟨hE.cell h.cx, hE.cell h.cs⟩
def leftIn (w : World) (r : Nat) (es : Array MapEntry) : Nat := match w.heap[r]? with
 | some (.mapIter _ _ seen _) => (leftOf es seen).size
 | _ => 0
theorem left_mem {es : Array MapEntry} {seen : Array Nat} {e : MapEntry} (h : e ∈ (leftOf es seen).toList) : e ∈ es.toList ∧ seen.contains e.born = false := by
 unfold leftOf at h
 simp at h
 exact ⟨by simpa using h.1, by simpa using h.2⟩
theorem left_in {w : World} {r b s : Nat} {seen : Array Nat} {c : Nat} {es : Array MapEntry} (h : w.heap[r]? = some (.mapIter (some b) s seen c)) : leftIn w r es = (leftOf es seen).size := by
 unfold leftIn; rw [h]
theorem left_ext {W W' : World} {r : Nat} {es : Array MapEntry} (hr : r < W.heap.size) (hE : Stab.Ext W W') : leftIn W' r es = leftIn W r es := by
 unfold leftIn; rw [Below.block hE r hr]
theorem ent_pair {es : Array MapEntry} {cl : Nat} {m : Held.HMap} (h : Held.Ents es cl m) {e : MapEntry} (he : e ∈ es.toList) : ∃ p, p ∈ m ∧ e.key = Held.keyV p ∧ e.val = Held.valV p := by
 have h1 : (e.key, e.val) ∈ m.map (fun p => (Held.keyV p, Held.valV p)) := by rw [← h.ents]; exact List.mem_map_of_mem he
 obtain ⟨p, hp, he2⟩ := List.mem_map.1 h1
 simp only [Prod.mk.injEq] at he2
 exact ⟨p, hp, he2.1.symm, he2.2.symm⟩
theorem pair_ent {es : Array MapEntry} {cl : Nat} {m : Held.HMap} (h : Held.Ents es cl m) {p : Nat × List UInt8} (hp : p ∈ m) : ∃ e, e ∈ es.toList ∧ e.key = Held.keyV p ∧ e.val = Held.valV p := by
 have h1 : (Held.keyV p, Held.valV p) ∈ es.toList.map (fun e => (e.key, e.val)) := by rw [h.ents]; exact List.mem_map_of_mem hp
 obtain ⟨e, he, he2⟩ := List.mem_map.1 h1
 simp only [Prod.mk.injEq] at he2
 exact ⟨e, he, he2.1, he2.2⟩
theorem born_one {es : Array MapEntry} {cl : Nat} {m : Held.HMap} (h : Held.Ents es cl m) {e e' : MapEntry} (he : e ∈ es.toList) (he' : e' ∈ es.toList) (hb : e.born = e'.born) : e = e' := by
 obtain ⟨i, hi, rfl⟩ := List.mem_iff_getElem.1 he
 obtain ⟨j, hj, rfl⟩ := List.mem_iff_getElem.1 he'
 rcases Nat.lt_trichotomy i j with h1 | h1 | h1
 ·exact absurd (by rw [List.getElem_map, List.getElem_map]; simpa using hb) (List.pairwise_iff_getElem.1 h.once i j (by simpa using hi) (by simpa using hj) h1)
 ·subst h1; rfl
 ·exact absurd (by rw [List.getElem_map, List.getElem_map]; simpa using hb.symm) (List.pairwise_iff_getElem.1 h.once j i (by simpa using hj) (by simpa using hi) h1)
theorem paysV_get (ms ls : List (List Nat)) {n i : Nat} (h : i < n) : (paysV ms ls n)[i]? = some (.string ⟨(payL ms ls i).toArray⟩) := by simp [paysV, h]
theorem left_none {es : Array MapEntry} {seen : Array Nat} (h : (leftOf es seen).size = 0) {e : MapEntry} (he : e ∈ es.toList) : seen.contains e.born = true := by
 by_cases hc : seen.contains e.born = true
 ·exact hc
 ·exfalso
  have : e ∈ leftOf es seen := by
   unfold leftOf
   rw [Array.mem_filter]
   exact ⟨by simpa using he, by simpa using hc⟩
  rw [Array.eq_empty_of_size_eq_zero h] at this
  simp at this
theorem outL_len (ms ls : List (List Nat)) : (outL ms ls).length = ms.length := by simp [outL]
theorem outL_row {ms ls : List (List Nat)} : ∀ l ∈ outL ms ls, l.length = Spr.wide ls := by
 intro l hl
 obtain ⟨i, _, rfl⟩ := List.mem_map.1 hl
 simp
theorem wide_nsOf (ps : List (List UInt8)) : Spr.wide (nsOf ps) = lenP ps := by
 unfold Spr.wide nsOf lenP
 cases ps with
 | nil => rfl
 | cons a t => simp
theorem firstF_some {K N : Nat} {hs : List Nat} {ps : List (List UInt8)} {ls : List (List Nat)} (h : firstF K N hs ps = some ls) : ls.length = K ∧ (∀ l ∈ ls, l.length = lenP ps) ∧ 1 ≤ lenP ps := by
 unfold firstF at h
 split at h
 ·split at h
  ·cases h
  ·rename_i h1 h2
   cases h
   exact ⟨by rw [outL_len]; simp [Sol.turnL], fun l hl => by rw [← wide_nsOf]; exact outL_row l hl, by omega⟩
 ·cases h
theorem found_any {w : World} {K N : Nat} {vh vp : Value} {hs : List Nat} {ps : List (List UInt8)} (hc : codeB (K : Int) (N : Int) = true) (hh : IntsN w vh hs) (hp : StrsN w vp ps) (h2 : ps.length = hs.length) (hnd : hs.Nodup) (hlt : ∀ x ∈ hs, x < N) (hle : hs.length ≤ K) (hsz : ∀ s ∈ ps, s.length ≤ 1000000) :
 Calls Tryz.prog 88 #[.agg #[.int .i64 (K : Int), .int .i64 (N : Int)], vh, vp] w (FoundPost w K N hs ps) := by
 obtain ⟨k1, k2, k3⟩ := (codeB_iff _ _).1 hc
 have hE0 := Stab.Ext.alloc w (.cells #[.int .i64 (K : Int), .int .i64 (N : Int)] 25)
 have bx := Blk.new w 25 #[.int .i64 (K : Int), .int .i64 (N : Int)]
 have HR := Lib.hid (show ERd w.heap.size (K : Int) (N : Int) _ from ⟨bx.cell 0, bx.cell 1⟩)
 have HH := Lib.hid (hh.ext hE0)
 have HP := Lib.hid (hp.ext hE0)
 have HB0 := Lib.hid hE0
 have HLT := Lib.hid hlt
 have HND := Lib.hid hnd
 have HSZ := Lib.hid hsz
 have H2 := Lib.hid h2
 have HC := Lib.hid hc
 have HHA := Lib.hid (hand_any hc HH.out HP.out h2 hnd hlt (by omega))
 have k0 := HR.out.c0
 have k1' := HR.out.c1
 obtain ⟨Ah, ch, rfl, -, -⟩ := hh
 obtain ⟨Ap, cp, rfl, -, -⟩ := hp
 clear hE0 bx hlt hnd hc hsz h2
 go_enter Tryz.func88, Tryz.ntmps88
 go_wp2_with (go_at_call 123; with_reducible refine HHA.out.mono ?_)
 rintro e w1 ⟨hb1, hpost⟩
 have HB1 := Lib.hid (show Stab.Ext w w1 from HB0.out.trans hb1)
 have k0 := Stab.Ext.cell hb1 HR.out.c0
 have k1' := Stab.Ext.cell hb1 HR.out.c1
 by_cases hK : hs.length < K
 ·rw [if_pos hK] at hpost
  subst hpost
  have hf : foundF K N hs ps = .inl 54 := by unfold foundF; rw [if_pos hK]
  have HF := Lib.hid hf
  clear hf hb1
  go_wp2_with fail
  go_ret3
  exact ⟨HB1.out, by rw [HF.out]; rfl⟩
 ·rw [if_neg hK] at hpost
  obtain ⟨b, rfl, hI⟩ := hpost
  have HHK := Lib.hid (show hs.length = K by omega)
  have HI := Lib.hid hI
  have HH1 := Lib.hid (HH.out.ext hb1)
  have HP1 := Lib.hid (HP.out.ext hb1)
  have HFI := Lib.hid (first_any HC.out (HH1.out.ints (by rw [HHK.out]; omega)) (HP1.out.strs (by rw [H2.out, HHK.out]; omega)) HHK.out (by rw [H2.out, HHK.out]) HLT.out HSZ.out)
  have HR1 := Lib.hid (HR.out.ext hb1)
  clear hI hb1
  go_wp2_with (go_at_call 124; with_reducible refine HFI.out.mono ?_)
  rintro e w2 ⟨hb2, hpost⟩
  have HB2 := Lib.hid (show Stab.Ext w w2 from HB1.out.trans hb2)
  have k0 := Stab.Ext.cell hb2 HR1.out.c0
  have k1' := Stab.Ext.cell hb2 HR1.out.c1
  have HR2 := Lib.hid (HR1.out.ext hb2)
  cases hfi : firstF K N hs ps with
  | none =>
    rw [hfi] at hpost
    have hf : foundF K N hs ps = .inl 4 := by unfold foundF; rw [if_neg hK, hfi]
    have HF := Lib.hid hf
    subst hpost
    clear hf hb2
    go_wp2_with fail
    go_ret3
    exact ⟨HB2.out, by rw [HF.out]; rfl⟩
  | some ls =>
    rw [hfi] at hpost
    obtain ⟨v2, rfl, hv2⟩ := hpost
    obtain ⟨hl1, hl2, hl3⟩ := firstF_some hfi
    have hlL : lenP ps ≤ 1000000 := by
     obtain ⟨s, hs0⟩ : ∃ s, ps[0]? = some s := ⟨_, List.getElem?_eq_getElem (by rw [H2.out, HHK.out]; omega)⟩
     have : lenP ps = s.length := by unfold lenP; rw [List.getD_eq_getElem?_getD, hs0]; rfl
     rw [this]; exact HSZ.out s (List.mem_of_getElem? hs0)
    have HBL := Lib.hid (blob_any HC.out hv2 hl1 hl2 hl3 hlL)
    have HV2 := Lib.hid hv2
    have HI2 := Lib.hid (HI.out.ext hb2)
    have HFI2 := Lib.hid hfi
    have HL2 := Lib.hid hl2
    have HL1 := Lib.hid hl1
    obtain ⟨g2, o2, c2, rfl, -⟩ := hv2
    clear hb2 hfi hl2 hl1
    go_wp2_with (go_at_call 125; with_reducible refine HBL.out.mono ?_)
    rintro e w3 ⟨hb3, hpost⟩
    have HB3 := Lib.hid (show Stab.Ext w w3 from HB2.out.trans hb3)
    have k0 := Stab.Ext.cell hb3 HR2.out.c0
    have k1' := Stab.Ext.cell hb3 HR2.out.c1
    cases hbf : blobF K (lenP ps) (wholeL ls) with
    | none =>
      rw [hbf] at hpost
      have hf : foundF K N hs ps = .inl 4 := by unfold foundF; rw [if_neg hK, HFI2.out]; simp only [hbf]
      have HF := Lib.hid hf
      subst hpost
      clear hf hb3
      go_wp2_with fail
      go_ret3
      exact ⟨HB3.out, by rw [HF.out]; rfl⟩
    | some bl =>
      rw [hbf] at hpost
      subst hpost
      have hv3 := HV2.out.ext hb3
      have hwd : Spr.wide ls = lenP ps := by
       unfold Spr.wide
       rw [List.getD_eq_getElem?_getD, List.getElem?_eq_getElem (by rw [HL1.out]; omega)]
       exact HL2.out _ (List.getElem_mem _)
      have HAL := Lib.hid (all_any (G := 0) (fun w _ => Fld.new_any w) w3 (Nat.zero_le _) K N HC.out _ ls hv3 HL1.out (fun l hl => by rw [hwd, HL2.out l hl]; exact Nat.le_refl _) (by rw [hwd]; exact hlL))
      have HI3 := Lib.hid (HI2.out.ext hb3)
      clear hb3 hv3
      go_wp2_with (go_at_call 71; with_reducible refine HAL.out.mono ?_)
      rintro e w4 ⟨v4, rfl, ho4, hb4⟩
      rw [matL_len] at ho4
      obtain ⟨es, cl, hbm, hEn⟩ := HI3.out.ext hb4
      obtain ⟨g4, c4, rfl, hg4b, hg4c, hg4l⟩ := ho4.addr (by omega)
      have hrg := run_range_map (P := Tryz.prog) w4 193 3 200 b es cl Tryz.underlying193 hbm
      have hbl4 : b < w4.heap.size := (Array.getElem?_eq_some_iff.1 hbm).1
      have hx5 := Stab.Ext.alloc w4 (.mapIter (some b) cl #[] cl)
      have hit5 : (w4.alloc (.mapIter (some b) cl #[] cl)).heap[w4.heap.size]? = some (.mapIter (some b) cl #[] cl) := heap_alloc_new w4 _
      have hmp5 : (w4.alloc (.mapIter (some b) cl #[] cl)).heap[b]? = some (.map es cl) := (Below.block hx5 b hbl4).trans hbm
      have HRI := Lib.hid (show RI w4.heap.size w4.heap.size b N (.slice (some ⟨g4, 0, none⟩) N c4) es cl (fun e => ∀ p, e.key = Held.keyV p → e.val = Held.valV p → payL (matL K N) ls p.1 = p.2) (paysV (matL K N) ls N) w3.heap.size (w4.alloc (.mapIter (some b) cl #[] cl)) from ⟨⟨#[], cl, hit5, Nat.le_refl _, fun e _ h => by simp at h⟩, hmp5, ho4.ext hx5⟩)
      have HB5 := Lib.hid (show Stab.Ext w (w4.alloc (.mapIter (some b) cl #[] cl)) from (HB3.out.trans hb4).trans hx5)
      have HEN := Lib.hid hEn
      have hs4 := HB3.out.size
      have hs5 : w3.heap.size ≤ w4.heap.size := hb4.size
      have HBF := Lib.hid hbf
      clear ho4 hb4 hbm hx5 hit5 hmp5 hEn hbf
      go_wp2_with fail
      go_loopw [] (fun wr => RI w4.heap.size w4.heap.size b N (.slice (some ⟨g4, 0, none⟩) N c4) es cl (fun e => ∀ p, e.key = Held.keyV p → e.val = Held.valV p → payL (matL K N) ls p.1 = p.2) (paysV (matL K N) ls N) w3.heap.size wr ∧ Vm.Fr [w4.heap.size] (w4.alloc (.mapIter (some b) cl #[] cl)) wr) (fun wr => leftIn wr w4.heap.size es)
      case atStart => exact ⟨HRI.out, Vm.Fr.refl _ _⟩
      case round =>
       obtain ⟨⟨⟨seen, c0, hit, hcc, hsn⟩, hmp, how⟩, hfr⟩ := hrel
       rcases run_next_at (P := Tryz.prog) wr 0 w4.heap.size b cl c0 seen es cl hit hmp HEN.out.born hcc with ⟨hl0, hrun⟩ | ⟨e, he, w5, hw5, hrun⟩
       ·have hf : foundF K N hs ps = .inr (bl, ls) := by
         unfold foundF
         rw [if_neg hK, HFI2.out]
         simp only [HBF.out]
         rw [if_pos]
         intro p hp
         obtain ⟨e, he, h8, h9⟩ := pair_ent HEN.out hp
         exact hsn e he (left_none hl0 he) p h8 h9
        have HF := Lib.hid hf
        have HO := Lib.hid how
        have HB := Lib.hid (show Below w.heap.size w wr from Sol.below_fr HB5.out (Nat.le_refl _) hfr (by simp; omega))
        clear hf how hfr hit hmp hsn
        go_wp2_with fail
        go_ret3
        exact ⟨HB.out, by rw [HF.out]; exact ⟨_, rfl, OwnG.base' HO.out hs4⟩⟩
       ·obtain ⟨hem, hes⟩ := left_mem he
        obtain ⟨p, hp, hk, hv⟩ := ent_pair HEN.out hem
        rw [hk, hv, Held.keyV, Held.valV] at hrun
        have hE5 : Stab.Ext wr w5 := by rcases hw5 with rfl | rfl; exact Stab.Ext.refl _; exact Stab.Ext.drew _
        have hrl : w4.heap.size < wr.heap.size := (Array.getElem?_eq_some_iff.1 hit).1
        have hrl5 : w4.heap.size < w5.heap.size := Nat.lt_of_lt_of_le hrl hE5.size
        have hfr6 : Vm.Fr [w4.heap.size] wr (setBlock w5 w4.heap.size (.mapIter (some b) cl (seen.push e.born) cl)) := (Vm.Fr.of_below hE5).next (Vm.Fr.set_ w5 w4.heap.size _)
        have hit6 : (setBlock w5 w4.heap.size (.mapIter (some b) cl (seen.push e.born) cl)).heap[w4.heap.size]? = some (.mapIter (some b) cl (seen.push e.born) cl) := Vm.at_setObjAt w5 w4.heap.size _ hrl5
        have hmp6 : (setBlock w5 w4.heap.size (.mapIter (some b) cl (seen.push e.born) cl)).heap[b]? = some (.map es cl) := (hfr6.block b (Array.getElem?_eq_some_iff.1 hmp).1 (by simp; omega)).trans hmp
        have how6 : OwnG (setBlock w5 w4.heap.size (.mapIter (some b) cl (seen.push e.born) cl)) w3.heap.size 9 1 (.slice (some ⟨g4, 0, none⟩) N c4) N (paysV (matL K N) ls N) := how.keep fun k hk => by
         have : g4 = k := by simpa [Value.ownBlock] using hk
         subst this
         exact hfr6.block g4 (how.lt g4 rfl).2 (by simp; omega)
        generalize setBlock w5 w4.heap.size (.mapIter (some b) cl (seen.push e.born) cl) = w6 at *
        have hen := run_entry_at (P := Tryz.prog) w6 w4.heap.size b cl seen es cl e hit6 hmp6 hem HEN.out.once
        rw [hk, hv, Held.keyV, Held.valV] at hen
        have hx7 := Stab.Ext.alloc w6 (.cells #[.string ⟨p.2.toArray⟩] 200)
        have hpN : p.1 < N := by
         obtain ⟨p1, p2⟩ := p
         exact HLT.out p1 (List.of_mem_zip hp).1
        have hpN2 : (p.1 : Int) < (N : Int) := by omega
        have c7 := hx7.cell (how6.cells rfl p.1 _ (paysV_get (matL K N) ls hpN))
        have HFR := Lib.hid (show FRd g4 p.1 w6.heap.size (payL (matL K N) ls p.1) p.2 _ from ⟨c7, (Blk.new w6 200 #[.string ⟨p.2.toArray⟩]).cell 0⟩)
        have HLF := Lib.hid (left_in (es := es) hit)
        have HSH := Lib.hid (left_shrinks es seen e he)
        have hit7 := (Below.block hx7 w4.heap.size (Array.getElem?_eq_some_iff.1 hit6).1).trans hit6
        have hmp7 := (Below.block hx7 b (Array.getElem?_eq_some_iff.1 hmp6).1).trans hmp6
        have how7 := how6.ext hx7
        have hfr7 := (hfr.next hfr6).next (Vm.Fr.of_below hx7)
        by_cases hps : payL (matL K N) ls p.1 = p.2
        ·have HRI7 := Lib.hid (show RI w4.heap.size w4.heap.size b N (.slice (some ⟨g4, 0, none⟩) N c4) es cl (fun e => ∀ p, e.key = Held.keyV p → e.val = Held.valV p → payL (matL K N) ls p.1 = p.2) (paysV (matL K N) ls N) w3.heap.size _ from ⟨⟨_, _, hit7, Nat.le_refl _, fun e' he' hc' => by
          rw [Array.contains_push] at hc'
          rcases Bool.or_eq_true _ _ ▸ hc' with h8 | h8
          ·exact hsn e' he' h8
          ·have hee : e' = e := born_one HEN.out he' hem (by simpa using h8)
           subst hee
           intro p' hk' hv'
           rw [hk] at hk'
           rw [hv] at hv'
           have h1 : p.1 = p'.1 := by
            have : (p.1 : Int) = (p'.1 : Int) := by simpa [Held.keyV] using hk'
            omega
           have h2 : p.2 = p'.2 := by simpa [Held.valV] using hv'
           rw [← h1, ← h2]; exact hps⟩, hmp7, how7⟩)
         have HL7 := Lib.hid (left_in (es := es) hit7)
         have HF7 := Lib.hid hfr7
         have HL7l := Lib.hid (Array.getElem?_eq_some_iff.1 hit7).1
         clear hit hmp how hfr hsn hit6 hmp6 how6 hfr6 hit7 hmp7 how7 hfr7 hw5 hE5
         go_wp2_with fail
         refine Stab.rg 7 [[], [], [0, 1], [2], [], [4], [3, 5]] [6] (FRd g4 p.1 w6.heap.size (payL (matL K N) ls p.1) p.2) [Stab.eqv ?_, Stab.eqv ?_, Stab.eqv ?_, Stab.eqv ?_, Stab.eqv ?_, Stab.eqv ?_, Stab.eqv ?_] (HFR.out.ext (Stab.Ext.drew _)) (fun _ _ h hE => h.ext hE) ?goals14a ?last14a
         case goals14a =>
          simp only [List.take_succ_cons, List.take_zero]
          iterate 7
           refine Stab.gp (fun us w _ hE hS hp hK => ?_) ?_
           ·((try have e0 : _ = _ := hp.1); (try have e1 : _ = _ := hp.2.1); (try have e2 : _ = _ := hp.2.2.1); have s0 := hS.cx; have s1 := hS.cs; go_simp; exact hK _ _ (by show _ = _; with_reducible rfl) (Stab.Ext.refl _))
          exact Stab.Goals.nil
         case last14a =>
          intro us w8 hE hS hp8
          obtain ⟨h6, -⟩ := hp8
          replace h6 : us 6 = _ := h6
          simp only [List.drop_succ_cons, List.drop_zero, h6, Nat.zero_add, Nat.reduceAdd]
          replace hE := (Stab.Ext.drew _).trans hE
          have HRI8 := Lib.hid (HRI7.out.ext hE)
          have HF8 := Lib.hid (HF7.out.next (Vm.Fr.of_below hE))
          have HL8 := Lib.hid ((left_ext (es := es) HL7l.out hE).trans HL7.out)
          clear hE hS h6
          go_wp2_with fail
          go_roundw
          case rel => exact ⟨HRI8.out, HF8.out⟩
          case measure => rw [HL8.out, HLF.out]; exact HSH.out
        ·have hne : ¬ (⟨(payL (matL K N) ls p.1).toArray⟩ : ByteArray) = ⟨p.2.toArray⟩ := fun h => hps (by
          have := congrArg (fun b => b.data.toList) h
          simpa using this)
         have hf : foundF K N hs ps = .inl 4 := by
          unfold foundF
          rw [if_neg hK, HFI2.out]
          simp only [HBF.out]
          rw [if_neg]
          exact fun h => hps (h p hp)
         have HF := Lib.hid hf
         have HB := Lib.hid (show Below w.heap.size w _ from Sol.below_fr HB5.out (Nat.le_refl _) hfr7 (by simp; omega))
         clear hf hit hmp how hfr hsn hit6 hmp6 how6 hfr6 hit7 hmp7 how7 hfr7 hw5 hE5
         go_wp2_with fail
         refine Stab.rg 7 [[], [], [0, 1], [2], [], [4], [3, 5]] [6] (FRd g4 p.1 w6.heap.size (payL (matL K N) ls p.1) p.2) [Stab.eqv ?_, Stab.eqv ?_, Stab.eqv ?_, Stab.eqv ?_, Stab.eqv ?_, Stab.eqv ?_, Stab.eqv ?_] (HFR.out.ext (Stab.Ext.drew _)) (fun _ _ h hE => h.ext hE) ?goals14b ?last14b
         case goals14b =>
          simp only [List.take_succ_cons, List.take_zero]
          iterate 7
           refine Stab.gp (fun us w _ hE hS hp hK => ?_) ?_
           ·((try have e0 : _ = _ := hp.1); (try have e1 : _ = _ := hp.2.1); (try have e2 : _ = _ := hp.2.2.1); have s0 := hS.cx; have s1 := hS.cs; go_simp; exact hK _ _ (by show _ = _; with_reducible rfl) (Stab.Ext.refl _))
          exact Stab.Goals.nil
         case last14b =>
          intro us w8 hE hS hp8
          obtain ⟨h6, -⟩ := hp8
          replace h6 : us 6 = _ := h6
          have h6t : us 6 = .bool true := by rw [h6]; simp [hps]
          simp only [List.drop_succ_cons, List.drop_zero, h6t, Nat.zero_add, Nat.reduceAdd]
          replace hE := (Stab.Ext.drew _).trans hE
          have HB8 := Lib.hid (show Stab.Ext w w8 from Stab.Ext.trans (show Stab.Ext w _ from HB.out) hE)
          clear hE hS h6 h6t
          go_wp2_with fail
          go_ret3
          exact ⟨HB8.out, by rw [HF.out]; rfl⟩
end Cod
end Go.Proofs.YtnbkhdbligjifaaGreatDoor
namespace Go.Proofs.YtnbkhdbligjifaaGreatDoor
open Go Go.RowKit
namespace Cod
def DecPost (w : World) (K N : Nat) (hs : List Nat) (ps : List (List UInt8)) (e : Ending) (w' : World) : Prop :=
 Below w.heap.size w w' ∧ match foundF K N hs ps with
  | .inl er => e = .returned (.tuple #[.string ⟨#[]⟩, .int .i64 (er : Nat)])
  | .inr p => e = .returned (.tuple #[.string ⟨p.1.toArray⟩, .int .i64 0])
theorem foundF_err {K N : Nat} {hs : List Nat} {ps : List (List UInt8)} {er : Nat} (h : foundF K N hs ps = .inl er) : er = 54 ∨ er = 4 := by
 unfold foundF at h
 split at h
 ·cases h; exact .inl rfl
 ·split at h
  ·cases h; exact .inr rfl
  ·split at h
   ·cases h; exact .inr rfl
   ·split at h
    ·cases h
    ·cases h; exact .inr rfl
section
variable {w : World} {K N : Nat} {vh vp : Value} {hs : List Nat} {ps : List (List UInt8)}
theorem decode_any (hc : codeB (K : Int) (N : Int) = true) (hh : IntsN w vh hs) (hp : StrsN w vp ps) (h2 : ps.length = hs.length) (hnd : hs.Nodup) (hlt : ∀ x ∈ hs, x < N) (hle : hs.length ≤ K) (hsz : ∀ s ∈ ps, s.length ≤ 1000000) :
 Calls Tryz.prog 63 #[.agg #[.int .i64 (K : Int), .int .i64 (N : Int)], vh, vp] w (DecPost w K N hs ps) := by
 have hE0 := Stab.Ext.alloc w (.cells #[.int .i64 (K : Int), .int .i64 (N : Int)] 25)
 have bx := Blk.new w 25 #[.int .i64 (K : Int), .int .i64 (N : Int)]
 have HF := Lib.hid (found_any hc (hh.ext hE0) (hp.ext hE0) h2 hnd hlt hle hsz)
 have HB0 := Lib.hid hE0
 have k0 := bx.cell 0
 have k1 := bx.cell 1
 clear hE0 bx hc hh hp h2 hnd hlt hle hsz
 go_enter Tryz.func63, Tryz.ntmps63
 go_wp2_with (go_at_call 88; with_reducible refine HF.out.mono ?_)
 rintro e w1 ⟨hb1, hpost⟩
 have HB1 := Lib.hid (show Stab.Ext w w1 from HB0.out.trans hb1)
 cases hf : foundF K N hs ps with
 | inl er =>
   rw [hf] at hpost
   have HFF := Lib.hid hf
   subst hpost
   clear hf hb1
   go_wp2_with fail
   go_ret2
   exact ⟨HB1.out, by rw [HFF.out]; rfl⟩
 | inr p =>
   rw [hf] at hpost
   have HFF := Lib.hid hf
   obtain ⟨v, rfl, hv⟩ := hpost
   obtain ⟨A6, c6, hv6⟩ := hv.shape
   subst hv6
   clear hf hb1 hv
   go_wp2_with fail
   go_ret2
   exact ⟨HB1.out, by rw [HFF.out]; rfl⟩
end
end Cod
end Go.Proofs.YtnbkhdbligjifaaGreatDoor
