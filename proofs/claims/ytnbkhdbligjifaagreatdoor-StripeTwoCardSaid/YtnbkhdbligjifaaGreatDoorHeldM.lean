/-
 The first payloads out of those at hand: the walk. A builder written with bytes out of memory. strings.Trim at one ASCII byte: the library's contract is laid with the others (Shelf), if Derived.Shelf.Strings.Trim is built ahead of shelf.sh. The blob of the first payloads. A map from numbers to payloads, in memory.
-/
import Derived.Test.YtnbkhdbligjifaaGreatDoorCodI
import Derived.Test.YtnbkhdbligjifaaGreatDoorShdName
import Derived.Lib.EndianBits
import Derived.Test.YtnbkhdbligjifaaGreatDoorVMaps
import Derived.Maps.RangeRun
set_option linter.unusedVariables false
set_option linter.unusedSimpArgs false
set_option maxRecDepth 100000
set_option maxHeartbeats 40000000
namespace Go.Proofs.YtnbkhdbligjifaaGreatDoor
open Go Go.RowKit
namespace Cod
attribute [local go_sem ↓] appSem_eq
theorem matL_rect (k n : Nat) (hk : 1 ≤ k) (hn : 1 ≤ n) : Sol.Rect (matL k n) n k := by
 refine ⟨matL_len k n, fun l hl => ?_, hn, hk⟩
 unfold matL at hl
 obtain ⟨i, _, rfl⟩ := List.mem_map.1 hl
 simp
theorem first_any {w : World} {K N : Nat} {vh vp : Value} {hs : List Nat} {ps : List (List UInt8)} (hc : codeB (K : Int) (N : Int) = true) (hh : Sol.Ints w vh hs) (hp : Strs w vp ps) (h1 : hs.length = K) (h2 : ps.length = K) (hlt : ∀ x ∈ hs, x < N) (hsz : ∀ s ∈ ps, s.length ≤ 1000000) :
 Calls Tryz.prog 124 #[.agg #[.int .i64 (K : Int), .int .i64 (N : Int)], vh, vp] w (FirstPost w K N hs ps) := by
 obtain ⟨k1, k2, k3⟩ := (codeB_iff _ _).1 hc
 have hE0 := Stab.Ext.alloc w (.cells #[.int .i64 (K : Int), .int .i64 (N : Int)] 25)
 have bx := Blk.new w 25 #[.int .i64 (K : Int), .int .i64 (N : Int)]
 have HR := Lib.hid (show ERd w.heap.size (K : Int) (N : Int) _ from ⟨bx.cell 0, bx.cell 1⟩)
 have HH := Lib.hid (hh.ext hE0)
 have HP := Lib.hid (hp.ext hE0)
 have HB0 := Lib.hid hE0
 have HC := Lib.hid hc
 have HLT := Lib.hid hlt
 have HSZ := Lib.hid hsz
 have H1 := Lib.hid h1
 have H2 := Lib.hid h2
 obtain ⟨gh, oh, ch, rfl, hch, -⟩ := hh
 obtain ⟨gp, op, cp, rfl, hcp0, hpc⟩ := hp
 have hp0 : 0 < ps.length := by omega
 obtain ⟨s0, hs0⟩ : ∃ s0, ps[0]? = some s0 := ⟨_, List.getElem?_eq_getElem hp0⟩
 have hl0 : lenP ps = s0.length := by unfold lenP; rw [List.getD_eq_getElem?_getD, hs0]; rfl
 have c0 := hE0.cell (hpc 0 s0 hs0)
 rw [Nat.add_zero] at c0
 have hss : ∀ s : List UInt8, (⟨s.toArray⟩ : ByteArray).size = s.length := fun s => by simp [ByteArray.size]
 rw [h1] at hch
 rw [h2] at hcp0
 have hch2 : (K : Int) ≤ (ch : Int) := by omega
 have hcp2 : (K : Int) ≤ (cp : Int) := by omega
 rw [h1, h2]
 have hK0 : (0 : Int) < (K : Int) := by omega
 clear h1 h2 hE0 bx hlt hsz hpc hc
 go_enter Tryz.func124, Tryz.ntmps124
 go_wp2_with fail
 go_loopw [26] (fun i wr => ∃ z : Nat, z ≤ K ∧ i = .int .i64 (z : Int) ∧ (∀ j s, j < z → ps[j]? = some s → s.length = lenP ps) ∧ Stab.Ext (w.alloc (.cells #[.int .i64 (K : Int), .int .i64 (N : Int)] 25)) wr) (fun i _ => K - (intOf i).toNat)
 case atStart => exact ⟨0, by omega, rfl, fun j s hj => absurd hj (Nat.not_lt_zero _), Stab.Ext.refl _⟩
 case round =>
  obtain ⟨z, hz, rfl, hall, hbl⟩ := hrel
  by_cases hzK : z < K
  ·have hz2 : (z : Int) < (K : Int) := by omega
   obtain ⟨sz, hsz'⟩ : ∃ s, ps[z]? = some s := ⟨_, List.getElem?_eq_getElem (by rw [H2.out]; exact hzK)⟩
   obtain ⟨b9, o9, c9, he9, -, hc9⟩ := HP.out.ext hbl
   cases he9
   have c1 := hc9 z sz hsz'
   have HALL := Lib.hid hall
   have HBL := Lib.hid hbl
   have HSZ2 := Lib.hid hsz'
   clear hall hbl hc9 hsz'
   by_cases he : sz.length = s0.length
   ·have he2 : (sz.length : Int) = (s0.length : Int) := by omega
    go_wp2_with fail
    go_roundw
    case rel => exact ⟨z + 1, by omega, by go_num, fun j s hj hs => by
     by_cases hjz : j = z
     ·subst hjz
      have := HSZ2.out
      rw [hs] at this
      cases this
      rw [hl0, he]
     ·exact HALL.out j s (by omega) hs, HBL.out⟩
    case measure => simp [intOf]; omega
   ·have he2 : ¬ (sz.length : Int) = (s0.length : Int) := by omega
    go_wp2_with fail
    go_ret2
    have hf : firstF K N hs ps = none := by
     unfold firstF
     rw [if_neg (fun h => he (by rw [← hl0]; exact h sz (List.mem_of_getElem? HSZ2.out)))]
    exact ⟨HB0.out.trans HBL.out, by rw [hf]; rfl⟩
  ·obtain rfl : z = K := by omega
   have d1 : ¬ ((z : Int) < (z : Int)) := by omega
   have hA : ∀ s ∈ ps, s.length = lenP ps := fun s hs => by
    obtain ⟨i, hi, he⟩ := List.mem_iff_getElem.1 hs
    exact hall i s (by rw [← H2.out]; exact hi) (by rw [List.getElem?_eq_getElem hi, he])
   have HA := Lib.hid hA
   have HRr := Lib.hid (HR.out.ext hbl)
   have HBW := Lib.hid (HB0.out.trans hbl)
   have HHr := Lib.hid (HH.out.ext hbl)
   have HPr := Lib.hid (HP.out.ext hbl)
   have hKN : 1 ≤ z ∧ z ≤ 12 ∧ 1 ≤ N ∧ N ≤ 12 := by omega
   clear hall hA hbl c0
   have k0 := HRr.out.c0
   have k1 := HRr.out.c1
   go_wp2_with (go_at_call 103; with_reducible refine (of_any (G := 0) (fun w _ => Fld.new_any w) _ (Nat.zero_le _) z N HC.out).mono ?_)
   rintro e w8 ⟨v8, rfl, hv8, hb8⟩
   obtain ⟨g8, o8, c8, rfl, -⟩ := id hv8
   have k0 := Stab.Ext.cell hb8 HRr.out.c0
   have hI8 := HHr.out.ext hb8
   have HRO := Lib.hid (Sol.mRows_any hv8 (matL_rect z N (by omega) (by omega)) (by omega) (by omega) hI8 (by rw [H1.out]; omega) (by rw [H1.out]; omega) HLT.out)
   have HB8 := Lib.hid hb8
   rw [H1.out] at HRO
   have HV8 := Lib.hid hv8
   clear hI8 hb8 hv8
   go_wp2_with (go_at_call 148; with_reducible refine HRO.out.mono ?_)
   rintro e w9 ⟨v9, R9, C9, rfl, hm9, hb9⟩
   rw [H1.out] at hm9
   have hby : Sol.Byt (Sol.pick (matL z N) hs) z z := fun i hi j hj => by
    have hx : hs.getD i 0 < N := by
     rw [List.getD_eq_getElem?_getD, List.getElem?_eq_getElem (by rw [H1.out]; exact hi)]
     exact HLT.out _ (List.getElem_mem _)
    unfold Sol.pick
    generalize hs.getD i 0 = x at *
    unfold matL
    rw [List.getD_eq_getElem?_getD (l := List.map _ _), List.getElem?_map, List.getElem?_range hx]
    simp only [Option.map_some, Option.getD_some]
    rw [List.getD_eq_getElem?_getD, List.getElem?_map, List.getElem?_range hj]
    exact entN_lt _ _ _
   have HB9 := Lib.hid (show Stab.Ext w w9 from (HBW.out.trans HB8.out).trans hb9)
   have HT := Lib.hid (Sol.turn_any hm9 hby (by omega) (by omega))
   have HP9 := Lib.hid ((HPr.out.ext HB8.out).ext hb9)
   have HR9 := Lib.hid ((HRr.out.ext HB8.out).ext hb9)
   obtain ⟨g9, c9, rfl, -⟩ := hm9.form (by omega)
   clear hm9 hb9 hby
   go_wp2_with (go_at_call 149; with_reducible refine HT.out.mono ?_)
   rintro e w10 ⟨hb10, hpost⟩
   by_cases hdn : (Sol.turnD z (Sol.pick (matL z N) hs)).1 < z
   ·rw [if_pos hdn] at hpost
    subst hpost
    have HB10 := Lib.hid (HB9.out.trans hb10)
    have hf : firstF z N hs ps = none := by
     unfold firstF
     rw [if_pos HA.out, if_pos (Or.inl hdn)]
    have HF := Lib.hid hf
    clear hb10 hf
    go_wp2_with fail
    go_ret2
    exact ⟨HB10.out, by rw [HF.out]; rfl⟩
   ·rw [if_neg hdn] at hpost
    obtain ⟨v10, rfl, hv10⟩ := hpost
    obtain ⟨g10, o10, c10, rfl, -⟩ := id hv10
    have hB10 := HB9.out.trans hb10
    have HB10 := Lib.hid hB10
    have HP10 := Lib.hid (HP9.out.ext hb10)
    have HR10 := Lib.hid (HR9.out.ext hb10)
    have HV10 := Lib.hid hv10
    clear hb10 hB10 hv10
    by_cases hs00 : s0.length = 0
    ·have hs01 : (s0.length : Int) = 0 := by omega
     have hf : firstF z N hs ps = none := by
      unfold firstF
      rw [if_pos HA.out, if_pos (Or.inr (by rw [hl0]; exact hs00))]
     have HF := Lib.hid hf
     clear hf
     go_wp2_with fail
     go_ret2
     exact ⟨HB10.out, by rw [HF.out]; rfl⟩
    ·have hs01 : ¬ (s0.length : Int) = 0 := by omega
     have k0 := HR10.out.c0
     have hf : firstF z N hs ps = some (outL (Sol.turnL z (Sol.pick (matL z N) hs)) (nsOf ps)) := by
      unfold firstF
      rw [if_pos HA.out, if_neg (by rw [hl0]; omega)]
     have HF := Lib.hid hf
     clear hf
     go_wp2_with fail
     go_loopw [17, 65] (fun o i wx => ∃ (q : Nat) (rs cs : Nat → Nat), q ≤ z ∧ i = .int .i64 (q : Int) ∧ LT wx w10.heap.size o q rs cs ps ∧ Stab.Ext w10 wx) (fun _ i _ => z - (intOf i).toNat)
     case atStart => exact ⟨0, id, id, by omega, rfl, LT.nil _ _ _ _ _, Stab.Ext.refl _⟩
     case round =>
      obtain ⟨q, rs, cs, hq, rfl, ho, hbx⟩ := hrel
      by_cases hqz : q < z
      ·have hqz2 : (q : Int) < (z : Int) := by omega
       obtain ⟨sq, hsq⟩ : ∃ s, ps[q]? = some s := ⟨_, List.getElem?_eq_getElem (by rw [H2.out]; exact hqz)⟩
       obtain ⟨b9, o9, c9', he9, -, hc9⟩ := HP10.out.ext hbx
       cases he9
       have c1 := hc9 q sq hsq
       have hgd : ps.getD q [] = sq := by rw [List.getD_eq_getElem?_getD, hsq]; rfl
       have hsl : sq.length ≤ 1000000 := HSZ.out sq (List.mem_of_getElem? hsq)
       have hcv := run_bytes_of_string (P := Tryz.prog) wr 9 136 5 ⟨sq.toArray⟩ Tryz.underlying9 Tryz.underlying136 Tryz.underlying5
       rw [hss] at hcv
       generalize hcc : grownCap wr sq.length 0 5 = cq at hcv
       have hcell : ∀ j x, sq[j]? = some x → (wr.drew.alloc (.cells (bytesRow ⟨sq.toArray⟩ cq) 5 ((bytesRow ⟨sq.toArray⟩ cq).size, (bytesRow ⟨sq.toArray⟩ cq).size + 1))).cell? ⟨wr.heap.size, j, none⟩ = some (.int .u8 (x.toNat : Nat)) := fun j x hj => by
        have hjl : j < sq.length := (List.getElem?_eq_some_iff.1 hj).1
        have h8 : (wr.drew.alloc (.cells (bytesRow ⟨sq.toArray⟩ cq) 5 ((bytesRow ⟨sq.toArray⟩ cq).size, (bytesRow ⟨sq.toArray⟩ cq).size + 1))).cell? ⟨wr.heap.size, j, none⟩ = (bytesRow ⟨sq.toArray⟩ cq)[j]? := by simp [World.alloc, World.cell?, show wr.drew.heap = wr.heap from rfl]
        rw [h8, bytesRow_at _ _ _ (by simpa using hjl)]
        have h9 : sq.toArray[j]'(by simpa using hjl) = x := by simpa [List.getElem?_eq_getElem hjl] using hj
        simp only [h9]
       have hE2 : Stab.Ext wr (wr.drew.alloc (.cells (bytesRow ⟨sq.toArray⟩ cq) 5 ((bytesRow ⟨sq.toArray⟩ cq).size, (bytesRow ⟨sq.toArray⟩ cq).size + 1))) := (Stab.Ext.drew _).trans (Stab.Ext.alloc wr.drew _)
       have hrl : wr.heap.size < (wr.drew.alloc (.cells (bytesRow ⟨sq.toArray⟩ cq) 5 ((bytesRow ⟨sq.toArray⟩ cq).size, (bytesRow ⟨sq.toArray⟩ cq).size + 1))).heap.size := by
        show wr.heap.size < (wr.heap.push _).size
        simp
       generalize (wr.drew.alloc (.cells (bytesRow ⟨sq.toArray⟩ cq) 5 ((bytesRow ⟨sq.toArray⟩ cq).size, (bytesRow ⟨sq.toArray⟩ cq).size + 1))) = W2 at hcv hcell hE2 hrl
       obtain ⟨g3, c3, w3, hrun2, hown2, hb3, hgr, hor⟩ := own_app_new (t := 132) (c := 1) (m := 1) (C := #[.slice (some ⟨wr.heap.size, 0, none⟩) sq.length cq]) Tryz.underlying132 Sol.info_sl rfl (by omega) (by omega) (own_ext ho.row hE2) rfl (by simp [Value.oneCell']) (by omega) (by omega) (Nat.le_trans hbx.size hE2.size)
       have HN := Lib.hid (ho.push hE2 hrl (Nat.le_refl _) (by rw [hgd]; exact hcell) (by rw [hgd]; exact hown2) hgr hor)
       have HB3 := Lib.hid (show Stab.Ext w10 w3 from Below.trans (show Below w10.heap.size w10 wr from hbx) (Below.trans (Below.mono hE2 hbx.size) hb3))
       obtain ⟨A6, cap6, hv6⟩ := ho.shape
       subst hv6
       clear ho hbx hE2 hown2 hb3 hgr hor hcell hc9 hsq hgd
       go_wp2_with fail
       go_roundw
       case rel => exact ⟨q + 1, _, _, by omega, by go_num, HN.out, HB3.out⟩
       case measure => simp [intOf]; omega
      ·obtain rfl : q = z := by omega
       have d3 : ¬ ((q : Int) < (q : Int)) := by omega
       have hrw : Spr.Rows wr _ (nsOf ps) := LT.rows (by rw [H2.out]; exact ho) hp0
       obtain ⟨A6, cap6, hv6⟩ := ho.shape
       subst hv6
       have HSP := Lib.hid (Spr.spread_any wr (Fld.new_any wr) _ _ _ _ (HV10.out.ext hbx) hrw (by simp [nsOf]; omega) (by simp [nsOf, H2.out]; omega) (by simp [Sol.turnL]; omega) (fun r hr => by
        obtain ⟨i, _, rfl⟩ := List.mem_map.1 hr
        simp [nsOf, H2.out]) (fun l hl => by
        obtain ⟨s, hs, rfl⟩ := List.mem_map.1 hl
        have h5 := HA.out s hs
        have h6 : Spr.wide (nsOf ps) = lenP ps := by unfold Spr.wide nsOf lenP; simp [List.getD_eq_getElem?_getD, hs0]
        rw [h6, ← h5]; simp) (by
        have h6 : Spr.wide (nsOf ps) = lenP ps := by unfold Spr.wide nsOf lenP; simp [List.getD_eq_getElem?_getD, hs0]
        rw [h6, hl0]; exact HSZ.out s0 (List.mem_of_getElem? hs0)))
       have HBX := Lib.hid (show Stab.Ext w wr from HB10.out.trans hbx)
       clear ho hbx hrw
       go_wp2_with (go_at_call 104; with_reducible refine HSP.out.mono ?_)
       intro e w12 hpost
       obtain ⟨v12, rfl, hr12, hb12⟩ := post_rows hpost
       have HR12 := Lib.hid hr12
       have HB12 := Lib.hid (show Stab.Ext w w12 from HBX.out.trans hb12)
       clear hpost hr12 hb12
       go_wp2_with fail
       go_ret2
       exact ⟨HB12.out, by rw [HF.out]; exact ⟨_, rfl, HR12.out⟩⟩
end Cod
end Go.Proofs.YtnbkhdbligjifaaGreatDoor
namespace Go.Proofs.YtnbkhdbligjifaaGreatDoor
open Go.RowKit
theorem wbytes_any (B b : Nat) (l : List UInt8) (ls : List Nat) (bb o c : Nat) (w : World) (h : Bld B b l w) (hlen : l.length + ls.length ≤ 140737488355328) (hBw : B ≤ w.heap.size) (hb : bb < B) (hc : ∀ j x, ls[j]? = some x → x < 256 ∧ w.cell? ⟨bb, o + j, none⟩ = some (.int .u8 (x : Nat))) :
 Calls Tryz.prog 75 #[.pointer (some ⟨b, 0, none⟩), .slice (some ⟨bb, o, none⟩) ls.length c] w fun e w' =>
  (∃ v, e = .returned v) ∧ Bld B b (l ++ ls.map UInt8.ofNat) w' ∧ Below B w w' ∧ BKept b w w' := by
 obtain ⟨i0, hi, hz0, hz1, hz2⟩ := info_parts info5
 have hl := Lib.byteCells_length l
 have HCC := Lib.hid hc
 have hlm : (ls.map UInt8.ofNat).length = ls.length := by simp
 clear hc
 go_enter Tryz.func75, Tryz.ntmps75
 go_wp2_with (go_at_call 105; refine (check_any B b _ _ h).mono ?_)
 rintro e w1 ⟨rfl, ⟨hB, v, hbk, hown, hne⟩, hb1, hk1, _⟩
 have c0 : w1.cell? ⟨b, 0, none⟩ = some (.pointer (some ⟨b, 0, none⟩)) := by rw [Lib.cell_of_heap hbk]; rfl
 have c1 : w1.cell? ⟨b, 1, none⟩ = some v := by rw [Lib.cell_of_heap hbk]; rfl
 have hnews : ∀ j u, (Lib.byteCells (ls.map UInt8.ofNat))[j]? = some u → w1.cell? ((⟨bb, o, none⟩ : Addr).add j) = some u := fun j u hu => by
  have ha : (⟨bb, o, none⟩ : Addr).add j = ⟨bb, o + j, none⟩ := by unfold Addr.add; split <;> simp_all
  simp only [Lib.byteCells, List.map_map, List.getElem?_map, Option.map_eq_some_iff] at hu
  obtain ⟨x, hx, rfl⟩ := hu
  obtain ⟨h1, h2⟩ := HCC.out j x hx
  rw [ha, World.cell?_of_block (a := ⟨bb, o + j, none⟩) (hb1.block bb hb), h2]
  simp
  omega
 go_wp2_with (at_builtin; refine wpList_append_ownF _ rfl _ _ 136 rfl B 5 i0 (.int .u8 0) 1 1 Tryz.underlying136 hi hz0 hz1 hz2 rfl (by decide) _ _ _ rfl hown ⟨bb, o, none⟩ ls.length c (Lib.byteCells (ls.map UInt8.ofNat)) rfl (by rw [Lib.byteCells_length, hlm, Nat.mul_one]) hnews (by intro u hu; simp only [Lib.byteCells, List.mem_map] at hu; obtain ⟨x, _, rfl⟩ := hu; rfl) (by rw [hl]; unfold maxLen; omega) (by rw [hl]; omega) (by have := hb1.size; omega) ?_)
 intro v' w2 hown' hgrow _
 have hlt : b < w1.heap.size := by
  rcases Nat.lt_or_ge b w1.heap.size with h | h
  ·exact h
  ·rw [Array.getElem?_eq_none h] at hbk; cases hbk
 have hb2 := (hgrow.block b hlt (fun e => hne e.symm)).trans hbk
 have d1 : w2.cell? ⟨b, 1, none⟩ = some v := by rw [Lib.cell_of_heap hb2]; rfl
 have f1 : w2.frozen? ⟨b, 1, none⟩ = false := Lib.frozen_of_heap hb2 1
 have hP := bput (bs' := Lib.byteCells (l ++ ls.map UInt8.ofNat)) hBw hB hb1 hk1 hbk hown hgrow (by rw [Lib.byteCells_append]; simpa [Lib.byteCells_length] using hown')
 obtain ⟨ao, cap, rfl⟩ := ownF_slice hown'
 go_wp2
 go_ret2
 exact ⟨⟨_, rfl⟩, hP⟩
end Go.Proofs.YtnbkhdbligjifaaGreatDoor

namespace Go.Proofs.YtnbkhdbligjifaaGreatDoor
open Go Go.RowKit
namespace Cod
def beN (l : List UInt8) : Nat := l.foldl (fun n b => n * 256 + b.toNat) 0
theorem beN_snoc (l : List UInt8) (b : UInt8) : beN (l ++ [b]) = beN l * 256 + b.toNat := by simp [beN]
theorem beN_lt (l : List UInt8) : beN l < 256 ^ l.length := by
 generalize hn : l.length = n
 induction n generalizing l with
 | zero => have : l = [] := List.eq_nil_of_length_eq_zero hn; subst this; simp [beN]
 | succ n ih =>
   rcases List.eq_nil_or_concat l with rfl | ⟨l', b, rfl⟩
   ·simp at hn
   ·rw [List.concat_eq_append] at hn ⊢
    have h1 := ih l' (by simpa using hn)
    have h2 := b.toNat_lt
    rw [beN_snoc, Nat.pow_succ]
    omega
theorem or_byte (n y : Nat) (hn : n < 72057594037927936) (hy : y < 256) : bits .or .u64 (IntKind.u64.wrap ((n : Int) * 256)) (IntKind.u64.wrap (y : Int)) = ((n * 256 + y : Nat) : Int) := by
 rw [wraps_u64 _ (by omega) (by omega), wraps_u64 _ (by omega) (by omega)]
 rw [bits_join .u64 64 (by decide) wraps_u64 8 _ _ (by omega) (by omega) (by omega) (by omega) (by omega) (by omega)]
 omega
theorem ext_drop (S : List UInt8) (a b : Nat) : (⟨S.toArray⟩ : ByteArray).extract a b = ⟨((S.drop a).take (b - a)).toArray⟩ := by
 apply ByteArray.ext
 simp [List.extract_eq_take_drop]
theorem flat_len {L : Nat} : ∀ (l : List (List Nat)), (∀ y ∈ l, y.length = L) → l.flatten.length = l.length * L
 | [], _ => by simp
 | y :: t, h => by
   rw [List.flatten_cons, List.length_append, flat_len t (fun y' h' => h y' (by simp [h'])), h y (by simp), List.length_cons, Nat.add_mul]
   omega
def wholeL (ls : List (List Nat)) : List UInt8 := ls.flatten.map UInt8.ofNat
def blobF (K : Nat) (L : Nat) (s : List UInt8) : Option (List UInt8) :=
 if s.length < 8 then none else
 if 32768 < beN (s.take 8) then none else
 if sizeZ K (beN (s.take 8)) ≠ L then none else
 if Lib.trimB (s.drop (8 + beN (s.take 8))) 0 ≠ [] then none else some ((s.drop 8).take (beN (s.take 8)))
def BlobPost (w : World) (K L : Nat) (s : List UInt8) (e : Ending) (w' : World) : Prop :=
 Below w.heap.size w w' ∧ match blobF K L s with
  | none => e = .returned (.tuple #[.string ⟨#[]⟩, .bool false])
  | some b => e = .returned (.tuple #[.string ⟨b.toArray⟩, .bool true])
theorem blob_any {w : World} {K N L : Nat} {v : Value} {ls : List (List Nat)} (hc : codeB (K : Int) (N : Int) = true) (hr : Spr.Rows w v ls) (h1 : ls.length = K) (h2 : ∀ l ∈ ls, l.length = L) (hL1 : 1 ≤ L) (hL : L ≤ 1000000) :
 Calls Tryz.prog 125 #[.agg #[.int .i64 (K : Int), .int .i64 (N : Int)], v] w (BlobPost w K L (wholeL ls)) := by
 obtain ⟨k1, k2, k3⟩ := (codeB_iff _ _).1 hc
 have hE0 := Stab.Ext.alloc w (.cells #[.int .i64 (K : Int), .int .i64 (N : Int)] 25)
 have bx := Blk.new w 25 #[.int .i64 (K : Int), .int .i64 (N : Int)]
 have hE1 := Stab.Ext.alloc (w.alloc (.cells #[.int .i64 (K : Int), .int .i64 (N : Int)] 25)) (.cells #[.pointer none, .slice none 0 0] 138)
 have HR := Lib.hid ((show ERd w.heap.size (K : Int) (N : Int) _ from ⟨bx.cell 0, bx.cell 1⟩).ext hE1)
 have HV := Lib.hid ((hr.ext hE0).ext hE1)
 have HB0 := Lib.hid (show Stab.Ext w _ from hE0.trans hE1)
 have HBD := Lib.hid (Bld.new (w.alloc (.cells #[.int .i64 (K : Int), .int .i64 (N : Int)] 25)))
 have HC := Lib.hid hc
 have HLS := Lib.hid h2
 have H1 := Lib.hid h1
 have hbxl := bx.lt
 obtain ⟨g, o, c, rfl, hrc⟩ := hr
 have HRC := Lib.hid hrc
 rw [h1]
 clear h1 hE0 hE1 bx h2 hrc hc
 go_enter Tryz.func125, Tryz.ntmps125
 go_wp2_with fail
 generalize hw1 : w.alloc (.cells #[.int .i64 (K : Int), .int .i64 (N : Int)] 25) = w1 at *
 have hs1 : w1.heap.size = w.heap.size + 1 := by rw [← hw1]; simp
 rw [hs1] at HBD
 go_loopw [16] (fun i wr => ∃ z : Nat, z ≤ K ∧ i = .int .i64 (z : Int) ∧ Bld (w.heap.size + 1) (w.heap.size + 1) (wholeL (ls.take z)) wr ∧ Below (w.heap.size + 1) (w1.alloc (.cells #[.pointer none, .slice none 0 0] 138)) wr) (fun i _ => K - (intOf i).toNat)
 case atStart => exact ⟨0, by omega, rfl, by simpa [wholeL] using HBD.out, Below.refl _ _⟩
 case round =>
  obtain ⟨z, hz, rfl, hbd, hbl⟩ := hrel
  by_cases hzK : z < K
  ·have hz2 : (z : Int) < (K : Int) := by omega
   have hkeep : ∀ k, k < w.heap.size → wr.heap[k]? = w.heap[k]? := fun k hk => (hbl.block k (by omega)).trans (Below.block HB0.out k hk)
   obtain ⟨l, hl⟩ : ∃ l, ls[z]? = some l := ⟨_, List.getElem?_eq_getElem (by rw [H1.out]; exact hzK)⟩
   have hlL := HLS.out l (List.mem_of_getElem? hl)
   obtain ⟨u, hu, b', o', c', rfl, hc'⟩ := HRC.out z l hl
   have hu2 := (World.cell?_of_block (a := ⟨g, o + z, none⟩) (hkeep g (Spr.lt_cell hu))).trans hu
   have hb' : b' < w.heap.size := by
    obtain ⟨x, hx⟩ : ∃ x, l[0]? = some x := ⟨_, List.getElem?_eq_getElem (by omega)⟩
    have := (hc' 0 x hx).2
    exact Spr.lt_cell this
   have hlen : (wholeL (ls.take z)).length ≤ 12000000 := by
    have h5 : ∀ (n : Nat) (l' : List (List Nat)), l'.length ≤ n → (∀ y ∈ l', y.length = L) → l'.flatten.length ≤ n * L := fun n => by
     induction n with
     | zero => intro l' h _; have : l' = [] := List.eq_nil_of_length_eq_zero (by omega); subst this; simp
     | succ n ih =>
       intro l' h hy
       cases l' with
       | nil => simp
       | cons y t =>
         have := ih t (by simpa using h) (fun y' h' => hy y' (by simp [h']))
         have h7 := hy y (by simp)
         rw [List.flatten_cons, List.length_append, h7, Nat.add_mul]
         omega
    have h6 := h5 12 (ls.take z) (by simp; omega) (fun y hy => HLS.out y (List.mem_of_mem_take hy))
    have : (wholeL (ls.take z)).length = (ls.take z).flatten.length := by unfold wholeL; rw [List.length_map]
    omega
   have HW := Lib.hid (wbytes_any (w.heap.size + 1) (w.heap.size + 1) (wholeL (ls.take z)) l b' o' c' wr hbd (by omega) (by have := hbl.size; simp at this; omega) (by omega) (fun j x hj => ⟨(hc' j x hj).1, (World.cell?_of_block (a := ⟨b', o' + j, none⟩) (hkeep b' hb')).trans (hc' j x hj).2⟩))
   rw [hlL] at HW
   have hnx : wholeL (ls.take z) ++ l.map UInt8.ofNat = wholeL (ls.take (z + 1)) := by
    unfold wholeL
    rw [List.take_add_one, hl]
    simp
   have HNX := Lib.hid hnx
   have HBL := Lib.hid hbl
   clear hkeep hc' hu hb' hlen hnx hbd hbl
   go_wp2_with (go_at_call 75; with_reducible refine HW.out.mono ?_)
   rintro e w2 ⟨⟨v2, rfl⟩, hbd2, hbl2, -⟩
   rw [HNX.out] at hbd2
   have HBD2 := Lib.hid hbd2
   have HBL2 := Lib.hid (HBL.out.trans hbl2)
   clear hbd2 hbl2
   go_wp2_with fail
   go_roundw
   case rel => exact ⟨z + 1, by omega, by go_num, HBD2.out, HBL2.out⟩
   case measure => simp [intOf]; omega
  ·obtain rfl : z = K := by omega
   have d1 : ¬ ((z : Int) < (z : Int)) := by omega
   rw [List.take_of_length_le (by rw [H1.out]; exact Nat.le_refl _)] at hbd
   have HT := Lib.hid (text_any (w.heap.size + 1) (w.heap.size + 1) (wholeL ls) wr hbd (by have := hbl.size; simp at this; omega))
   have HBL := Lib.hid hbl
   clear hbd hbl
   go_wp2_with (go_at_call 77; with_reducible refine HT.out.mono ?_)
   rintro e w3 rfl hbd3 hbl3 hbk3
   clear hbd3 hbk3
   have hB3 := HBL.out.trans hbl3
   have hk3 : Stab.Ext w w3 := Below.trans (show Below w.heap.size w _ from HB0.out) (Below.mono hB3 (by omega))
   have k0 := (World.cell?_of_block (a := ⟨w.heap.size, 0, none⟩) (hB3.block w.heap.size (by omega))).trans HR.out.c0
   have k1' := (World.cell?_of_block (a := ⟨w.heap.size, 1, none⟩) (hB3.block w.heap.size (by omega))).trans HR.out.c1
   have HK3 := Lib.hid hk3
   have hss : ∀ s : List UInt8, (⟨s.toArray⟩ : ByteArray).size = s.length := fun s => by simp [ByteArray.size]
   obtain ⟨S, hS⟩ : ∃ S, S = wholeL ls := ⟨_, rfl⟩
   rw [← hS]
   have HS := Lib.hid hS
   clear hbl3 hB3 hk3 hS
   by_cases h8 : S.length < 8
   ·have h82 : (S.length : Int) < 8 := by omega
    have hf : blobF z L S = none := by unfold blobF; rw [if_pos h8]
    have HF := Lib.hid hf
    clear hf
    go_wp2_with fail
    go_ret2
    exact ⟨HK3.out, by rw [← HS.out, HF.out]; rfl⟩
   ·have h82 : ¬ (S.length : Int) < 8 := by omega
    go_wp2_with fail
    go_loopw [10, 27] (fun n i wx => ∃ q : Nat, q ≤ 8 ∧ i = .int .i64 (q : Int) ∧ n = .int .u64 (beN (S.take q) : Nat) ∧ wx = w3) (fun _ i _ => 8 - (intOf i).toNat)
    case atStart => exact ⟨0, by omega, rfl, rfl, rfl⟩
    case round =>
     obtain ⟨q, hq, rfl, rfl, rfl⟩ := hrel
     by_cases hq8 : q < 8
     ·have hq2 : (q : Int) < 8 := by omega
      have hqS : q < S.length := by omega
      obtain ⟨y, hy⟩ : ∃ y, S[q]? = some y := ⟨_, List.getElem?_eq_getElem hqS⟩
      have hnx : beN (S.take (q + 1)) = beN (S.take q) * 256 + y.toNat := by rw [List.take_add_one, hy]; exact beN_snoc _ _
      have hlt := beN_lt (S.take q)
      have HNX := Lib.hid hnx
      have hql : (q : Int) < (S.length : Int) := by omega
      generalize hn : beN (S.take q) = n at *
      clear hnx hn
      have hyS : ∀ h, (⟨S.toArray⟩ : ByteArray)[q]'h = y := fun h => by
       have : S[q]'hqS = y := by simpa [List.getElem?_eq_getElem hqS] using hy
       show S.toArray[q]'_ = y
       simpa using this
      have hn56 : n < 72057594037927936 := by
       have h7 : (S.take q).length ≤ 7 := by simp; omega
       exact Nat.lt_of_lt_of_le hlt (Nat.le_trans (Nat.pow_le_pow_right (by decide) h7) (by decide))
      have hor := or_byte n y.toNat hn56 y.toNat_lt
      go_wp2_with fail
      go_roundw
      case rel => exact ⟨q + 1, by omega, by go_num, by rw [HNX.out, ← hor, wraps_u64 ((n : Int) * 256) (by omega) (by omega)], trivial⟩
      case measure => simp [intOf]; omega
     ·obtain rfl : q = 8 := by omega
      have hd8 : ¬ ((8 : Int) < 8) := by omega
      obtain ⟨n, hn⟩ : ∃ n, n = beN (S.take 8) := ⟨_, rfl⟩
      rw [← hn]
      have HN := Lib.hid hn
      clear hn
      by_cases hn3 : 32768 < n
      ·have hn4 : (32768 : Int) < (n : Int) := by omega
       have hf : blobF z L S = none := by unfold blobF; rw [if_neg h8, ← HN.out, if_pos hn3]
       have HF := Lib.hid hf
       clear hf
       go_wp2_with fail
       go_ret2
       exact ⟨HK3.out, by rw [← HS.out, HF.out]; rfl⟩
      ·have hn4 : ¬ (32768 : Int) < (n : Int) := by omega
       have hn5 : IntKind.i64.wrap (n : Int) = (n : Int) := by rw [IntKind.wrap_i64]; omega
       have HSZ := Lib.hid (size_any (z : Int) (N : Int) (n : Int) wr)
       have hzn := sizeN_nat z n (by omega)
       unfold SizePost at HSZ
       rw [if_neg (by simp [HC.out]), if_neg (by omega), hzn] at HSZ
       go_wp2_with (go_at_call 70; with_reducible refine HSZ.out.mono ?_)
       rintro e w4 rfl hb4
       have hK4 : Stab.Ext w w4 := HK3.out.trans hb4
       have hlen : S.length = z * L := by
        rw [HS.out]
        unfold wholeL
        rw [List.length_map, flat_len ls HLS.out, H1.out]
       obtain ⟨l0, hl0⟩ : ∃ l, ls[0]? = some l := ⟨_, List.getElem?_eq_getElem (by rw [H1.out]; omega)⟩
       have hl0L := HLS.out l0 (List.mem_of_getElem? hl0)
       obtain ⟨u, hu, b', o', c', rfl, -⟩ := HRC.out 0 l0 hl0
       rw [Nat.add_zero, hl0L] at hu
       have hu4 := hK4.cell hu
       have HK4 := Lib.hid hK4
       have hz0 : (0 : Int) < (z : Int) := by omega
       have hmul := sizeZ_mul z n (by omega)
       clear hu hb4 hK4 k0 k1'
       generalize hzz : sizeZ z n = M at *
       have HZZ := Lib.hid hzz
       clear hzz
       by_cases hML : M = L
       ·subst hML
        have hMM : ((M : Int) != (M : Int)) = false := by simp
        have hS8 : 8 + n ≤ S.length := by rw [hlen, Nat.mul_comm]; omega
        obtain ⟨p, hp⟩ : ∃ p : Nat, p = 8 + n := ⟨_, rfl⟩
        have hp1 : IntKind.i64.wrap (8 + (n : Int)) = (p : Int) := by rw [IntKind.wrap_i64]; omega
        have hp2 : (p : Int) ≤ (S.length : Int) := by omega
        have hp3 : (0 : Int) ≤ (p : Int) := by omega
        have HP := Lib.hid hp
        have HLEN := Lib.hid hlen
        have hts : ((⟨S.toArray⟩ : ByteArray).extract p S.length).data.toList = S.drop p := by
         rw [ext_drop]
         simp only [List.toList_toArray]
         exact List.take_of_length_le (by simp)
        have p8 : (8 : Int) ≤ (p : Int) := by omega
        have htr : Calls Tryz.prog 150 #[.string ((⟨S.toArray⟩ : ByteArray).extract p S.length), .string ⟨#[0]⟩] w4 fun e w' => e = .returned (.string ⟨(Lib.trimB (S.drop p) 0).toArray⟩) ∧ Stab.Ext w4 w' :=
         (Tryz.strings_Trim_one ((⟨S.toArray⟩ : ByteArray).extract p S.length) 0 (by decide) w4 (by rw [ByteArray.size_extract, hss]; rw [hlen]; have : z * M ≤ 12 * 1000000 := Nat.mul_le_mul (by omega) (by omega); omega)).mono fun e w' h => ⟨by rw [h.1, hts], by
          rcases h.2 with rfl | rfl
          ·exact Stab.Ext.refl _
          ·exact Stab.Ext.drew _⟩
        have HTR := Lib.hid htr
        have hpn : p - 8 = n := by omega
        clear hp hlen htr hts hmul hpn
        go_wp2_with (go_at_call 150; with_reducible refine HTR.out.mono ?_)
        rintro e w5 ⟨rfl, hb5⟩
        have HK5 := Lib.hid (show Stab.Ext w w5 from HK4.out.trans hb5)
        generalize hT : Lib.trimB (S.drop p) 0 = T at *
        have HTT := Lib.hid hT
        clear hT hb5
        by_cases hTn : T = []
        ·subst hTn
         have hf : blobF z M S = some ((S.drop 8).take n) := by
          unfold blobF
          rw [if_neg h8, ← HN.out, if_neg hn3, HZZ.out, if_neg (by simp), ← HP.out, HTT.out, if_neg (by simp)]
         have HF := Lib.hid hf
         have HX := Lib.hid (show (⟨S.toArray⟩ : ByteArray).extract 8 p = ⟨((S.drop 8).take n).toArray⟩ by
          rw [ext_drop, show p - 8 = n by rw [HP.out]; omega])
         clear hf
         go_wp2_with fail
         go_ret2
         exact ⟨HK5.out, by rw [← HS.out, HF.out, HX.out]; rfl⟩
        ·have hT3 : T.isEmpty = false := by
          cases T with
          | nil => exact absurd rfl hTn
          | cons => rfl
         have hT2 : ¬ (⟨T.toArray⟩ : ByteArray) = ⟨#[]⟩ := fun h => hTn (by
          have := congrArg (fun b => b.data.toList) h
          simpa using this)
         have hf : blobF z M S = none := by
          unfold blobF
          rw [if_neg h8, ← HN.out, if_neg hn3, HZZ.out, if_neg (by simp), ← HP.out, HTT.out, if_pos hTn]
         have HF := Lib.hid hf
         clear hf
         go_wp2_with fail
         go_ret2
         exact ⟨HK5.out, by rw [← HS.out, HF.out]; rfl⟩
       ·have hML2 : ¬ (M : Int) = (L : Int) := by omega
        have hf : blobF z L S = none := by
         unfold blobF
         rw [if_neg h8, ← HN.out, if_neg hn3, HZZ.out, if_pos hML]
        have HF := Lib.hid hf
        clear hf hmul
        go_wp2_with fail
        go_ret2
        exact ⟨HK4.out, by rw [← HS.out, HF.out]; rfl⟩
end Cod
end Go.Proofs.YtnbkhdbligjifaaGreatDoor
namespace Go.Proofs.YtnbkhdbligjifaaGreatDoor
open Go Go.RowKit
namespace Held
abbrev HMap := List (Nat × List UInt8)
def keyV (p : Nat × List UInt8) : Value := .int .i64 (p.1 : Nat)
def valV (p : Nat × List UInt8) : Value := .agg #[.string ⟨p.2.toArray⟩]
structure Ents (es : Array MapEntry) (cl : Nat) (m : HMap) : Prop where
 ents : es.toList.map (fun e => (e.key, e.val)) = m.map (fun p => (keyV p, valV p))
 born : ∀ e ∈ es.toList, e.born < cl
 once : (es.toList.map (·.born)).Nodup
def Is (w : World) (b : Nat) (m : HMap) : Prop := ∃ es cl, w.heap[b]? = some (.map es cl) ∧ Ents es cl m
theorem Is.of_heap {w w' : World} {b : Nat} {m : HMap} (h : Is w b m) (e : w'.heap[b]? = w.heap[b]?) : Is w' b m := by
 obtain ⟨es, cl, h, r⟩ := h
 exact ⟨es, cl, e.trans h, r⟩
theorem Is.lt {w : World} {b : Nat} {m : HMap} (h : Is w b m) : b < w.heap.size := by
 obtain ⟨es, cl, h, r⟩ := h
 exact (Array.getElem?_eq_some_iff.1 h).1
theorem Is.ext {w w' : World} {b : Nat} {m : HMap} (h : Is w b m) (hE : Stab.Ext w w') : Is w' b m := h.of_heap (Below.block hE b h.lt)
theorem empty_is (w : World) : Is (w.alloc (.map #[] 0)) w.heap.size [] := ⟨#[], 0, heap_alloc_new w _, rfl, by simp, by simp⟩
theorem findNow_miss (k : Nat) : ∀ (es : List MapEntry) (m : HMap), es.map (fun e => (e.key, e.val)) = m.map (fun p => (keyV p, valV p)) → k ∉ m.map (·.1) → ∀ i, Instr.findNow (.int .i64) (.int .i64 (k : Nat)) es i = some none
 | [], [], _, _, i => rfl
 | [], _ :: _, h, _, _ => by simp at h
 | _ :: _, [], h, _, _ => by simp at h
 | e :: es, p :: m, h, hk, i => by
   simp only [List.map_cons, List.cons.injEq, Prod.mk.injEq] at h
   obtain ⟨⟨h1, h2⟩, h3⟩ := h
   have hne : ((k : Int) == ((p.1 : Nat) : Int)) = false := by
    have : k ≠ p.1 := fun e => hk (by simp [e])
    have h9 : (k : Int) ≠ ((p.1 : Nat) : Int) := by omega
    simpa using h9
   simp only [Instr.findNow, h1, keyV, Instr.sameNow, if_true, hne]
   exact findNow_miss k es m h3 (fun h => hk (by simp [h])) (i + 1)
section
variable {P : Program} {t key e : TypeId} (h1 : P.underlying t = some (.map key e)) (h2 : P.underlying key = some (.int .i64))
include h2
theorem check_int (w : World) (b : Bool) (v : Value) : (Instr.checkKey b 10000 key v).run P w = .ok () w := by
 have key : ∀ n : Nat, (Instr.checkKey b (n + 1) key v).run P w = .ok () w := fun n => by
  simp only [Instr.checkKey, Sem.run_bind, run_underlying h2, Result.andThen_ok]
  rfl
 exact key 9999
include h1
theorem run_miss {w : World} {b : Nat} {m : HMap} (hm : Is w b m) {z : Value} (hz : (zeroValue e).run P w = .ok z w) {k : Nat} (hk : k ∉ m.map (·.1)) :
 (Instr.lookup t (.map (some b)) (.int .i64 (k : Nat)) true).run P w = .ok (.tuple #[z, .bool false]) w := by
 obtain ⟨es, cl, hb, hf⟩ := hm
 have hgo : (getObj b).run P w = .ok (.map es cl) w := by simp only [getObj, Sem.run, hb]
 simp only [Instr.lookup, Sem.run_bind, run_underlying h1, Result.andThen_ok, hgo, Sem.run_pure, check_int h2, Instr.findKey, run_underlying h2, findNow_miss k _ _ hf.ents hk, hz]
 rfl
theorem run_push {w : World} {b : Nat} {m : HMap} (hm : Is w b m) {k : Nat} (hk : k ∉ m.map (·.1)) (v : List UInt8) :
 ∃ w', (Instr.mapUpdate t (.map (some b)) (.int .i64 (k : Nat)) (.agg #[.string ⟨v.toArray⟩])).run P w = .ok () w' ∧ Is w' b (m ++ [(k, v)]) ∧ Vm.Fr [b] w w' := by
 obtain ⟨es, cl, hb, hf⟩ := hm
 have hgo : (getObj b).run P w = .ok (.map es cl) w := by simp only [getObj, Sem.run, hb]
 have hso : ∀ o, (setObj b o).run P w = .ok () (Vm.setObjAt w b o) := fun o => by simp only [setObj, Sem.run, hb]; rfl
 have hbl : b < w.heap.size := (Array.getElem?_eq_some_iff.1 hb).1
 refine ⟨Vm.setObjAt w b (.map (es.push { key := .int .i64 (k : Nat), val := .agg #[.string ⟨v.toArray⟩], born := cl }) (cl + 1)), ?_, ⟨_, _, Vm.at_setObjAt w b _ hbl, ?_, ?_, ?_⟩, Vm.Fr.set_ w b _⟩
 ·simp only [Instr.mapUpdate, Sem.run_bind, run_underlying h1, Result.andThen_ok, hgo, check_int h2, Instr.findKey, run_underlying h2, findNow_miss k _ _ hf.ents hk, Sem.run_pure, hso]
 ·have := hf.ents
  simp [this, keyV, valV]
 ·intro x hx
  rw [Array.toList_push, List.mem_append, List.mem_singleton] at hx
  rcases hx with hx | hx
  ·have := hf.born x hx; omega
  ·rw [hx]; show cl < cl + 1; omega
 ·rw [Array.toList_push, List.map_append]
  refine List.nodup_append.2 ⟨hf.once, by simp, fun a ha b hb => ?_⟩
  rw [List.map_cons, List.map_nil, List.mem_singleton] at hb
  obtain ⟨x, hx, rfl⟩ := List.mem_map.1 ha
  have := hf.born x hx
  exact fun e => by
   have e : x.born = cl := e.trans hb
   omega
omit h2 in
theorem run_len {w : World} {b : Nat} {m : HMap} (hm : Is w b m) (ty : TypeId) : (Builtin.len_ #[t] ty #[.map (some b)]).run P w = .ok (.int .i64 (m.length : Nat)) w := by
 obtain ⟨es, cl, hb, hf⟩ := hm
 have hgo : (getObj b).run P w = .ok (.map es cl) w := by simp only [getObj, Sem.run, hb]
 have hl : es.size = m.length := by
  have := congrArg List.length hf.ents
  simpa using this
 simp [Builtin.len_, run_underlying h1, hgo, hl, goInt]
end
end Held
end Go.Proofs.YtnbkhdbligjifaaGreatDoor
