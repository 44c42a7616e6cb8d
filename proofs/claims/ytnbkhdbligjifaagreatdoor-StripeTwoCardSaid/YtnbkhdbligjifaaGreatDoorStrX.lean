/-
  The law StripeTwo.
-/
import Derived.Test.YtnbkhdbligjifaaGreatDoorStrZ
import Derived.Test.YtnbkhdbligjifaaGreatDoorStrQ
set_option linter.unusedVariables false
set_option linter.unusedSimpArgs false
set_option maxRecDepth 100000
set_option maxHeartbeats 40000000
namespace Go.Proofs.YtnbkhdbligjifaaGreatDoor
open Go Go.RowKit Vm
open scoped Classical
namespace Str
open Hlt
attribute [local go_sem ↓] appSem_eq
structure DRow (base : Nat) (O : List Nat) (v : Value) (q : Nat) (ds : List ByteArray) (W : World) : Prop where
 row : OwnG W base 9 1 v q (ds.map Value.string)
 off : ∀ g, v.ownBlock = some g → g ∉ O
section
variable {base b q : Nat} {O O' X : List Nat} {v : Value} {ds : List ByteArray} {W W' : World} {p p' : PW}
theorem DRow.next (h : DRow base O v q ds W) (h2 : WB W O b p' O' W') : DRow base O' v q ds W' :=
 ⟨h.row.keep fun k hk => h2.fr.block k (h.row.lt k hk).2 (h.off k hk), fun g hg => off_next h2 (h.off g hg) (h.row.lt g hg).2⟩
theorem DRow.ext (h : DRow base O v q ds W) (hE : Stab.Ext W W') : DRow base O v q ds W' := ⟨OwnG.ext h.row hE, h.off⟩
theorem DRow.more {g cap : Nat} {d : ByteArray} (h : DRow base O v q ds W) (hown : OwnG W' base 9 1 (.slice (some ⟨g, 0, none⟩) (q + 1) cap) (q + 1) (ds.map Value.string ++ [Value.string d])) (hw : v.ownBlock = some g ∨ g = W.heap.size + 1) (hlt : ∀ k, k ∈ O → k < W.heap.size) :
 DRow base O (.slice (some ⟨g, 0, none⟩) (q + 1) cap) (q + 1) (ds ++ [d]) W' := by
 refine ⟨by rw [List.map_append]; exact hown, fun g2 hg hm => ?_⟩
 have : g = g2 := by simpa [Value.ownBlock] using hg
 subst this
 rcases hw with h1 | h1
 ·exact h.off g h1 hm
 ·have := hlt g hm; omega
end
def WrT (w : World) (O : List Nat) (b : Nat) (p : PW) (d : ByteArray) (e : Ending) (w' : World) : Prop := ∃ O', e = .returned (.tuple #[.string d, .int .i64 0]) ∧ WB w O b p O' w'
theorem two_walk (K N : Int) (hK : Shd.I64 K) (hN : Shd.I64 N) (v : Value) (xs : List ByteArray) (w : World) (hv : Shd.Vars w) (hG : Tryz.prog.globals.size ≤ w.heap.size) (hx : TextsAt w v xs) (hsz : ∀ x ∈ xs, x.size ≤ 140737488351232) :
 Calls Tryz.prog 6 #[.agg #[.int .i64 K, .int .i64 N], v] w (TrueP w) := by
 have HX := Lib.hid hx
 obtain ⟨A, cap, hve, hlc, hcl⟩ := hx
 subst hve
 have hE0 := Stab.Ext.alloc w (.cells #[.int .i64 K, .int .i64 N] 25)
 have hC : CAt w.heap.size K N (w.alloc (.cells #[.int .i64 K, .int .i64 N] 25)) := ⟨Blk.new w 25 #[.int .i64 K, .int .i64 N]⟩
 have HWK := Lib.hid (show ∀ W, Stab.Ext w W → Calls Tryz.prog 26 #[] W (TrueP W) from fun W hW => works_true W (hv.below hW) (Nat.le_trans hG hW.size))
 have HV := Lib.hid hv
 have HG := Lib.hid hG
 have HE0 := Lib.hid hE0
 have HC := Lib.hid hC
 have HCL := Lib.hid hcl
 have HSZ := Lib.hid hsz
 have HNEW := Lib.hid (show ∀ w : World, Tryz.prog.globals.size ≤ w.heap.size → Calls Tryz.prog 139 #[] w (Spr.NewPost w) from fun w _ => Fld.new_any w)
 clear hv hG hC hE0 hcl hsz
 go_enter Tryz.func6, Tryz.ntmps6
 generalize hw0 : w.alloc (.cells #[.int .i64 K, .int .i64 N] 25) = w0 at *
 go_wp2_with fail
 go_loopw [5, 6] (fun m i wr => ∃ q : Nat, q ≤ xs.length ∧ i = .int .i64 (q : Int) ∧ m = .int .i64 ((tot (xs.take q) : Nat) : Int) ∧ tot (xs.take q) ≤ 140737488360000 ∧ wr = w0) (fun _ i _ => xs.length - (intOf i).toNat)
 case atStart => exact ⟨0, by omega, rfl, by simp [tot], by simp [tot], rfl⟩
 case round =>
  obtain ⟨q, hq, rfl, rfl, hbd, rfl⟩ := hrel
  by_cases hT : 4000 ≤ tot (xs.take q)
  ·obtain ⟨T, hTe⟩ : ∃ T, T = tot (xs.take q) := ⟨_, rfl⟩
   rw [← hTe] at hT hbd ⊢
   clear hTe
   have hT2 : (4000 : Int) ≤ (T : Int) := by omega
   have k0 := HC.out.c0
   have k1 := HC.out.c1
   by_cases hlt : q < xs.length
   all_goals
    first
     | (have hlt3 : (q : Int) < (xs.length : Int) := by omega)
     | (have hlt3 : (xs.length : Int) ≤ (q : Int) := by omega)
    by_cases hNb : N < 1 ∨ 12 < N
   all_goals
    first
     | (have HNB := Lib.hid (wnew_bad wr N hNb)
        clear hNb hlt hT
        go_wp2_with (go_at_call 11; with_reducible refine HNB.out.mono ?_)
        rintro e w2 ⟨rfl, rfl⟩
        have HE2 := Lib.hid HE0.out)
     | (obtain ⟨n, rfl⟩ : ∃ n : Nat, N = (n : Int) := ⟨N.toNat, by omega⟩
        have HNN := Lib.hid (wnew_any wr n (by omega) (by omega))
        clear hNb hlt hT
        go_wp2_with (go_at_call 11; with_reducible refine HNN.out.mono ?_)
        rintro e w2 ⟨b, O, rfl, hlow, hat, hb2⟩
        have HE2 := Lib.hid (HE0.out.trans (show Stab.Ext wr w2 from hb2))
        clear hlow hat hb2)
    go_wp2_with (go_at_call 26; with_reducible refine (HWK.out _ HE2.out).mono ?_)
    rintro e w3 ⟨rfl, hb3⟩
    have HE3 := Lib.hid (HE2.out.trans (show Stab.Ext _ w3 from hb3))
    clear hb3
    go_wp2_with (go_at_call 26; with_reducible refine (HWK.out _ HE3.out).mono ?_)
    rintro e w4 ⟨rfl, hb4⟩
    have HE4 := Lib.hid (HE3.out.trans (show Stab.Ext _ w4 from hb4))
    clear hb4
    go_wp2_with fail
    go_ret
    exact ⟨rfl, HE4.out⟩
  ·by_cases hlt : q < xs.length
   ·have hlt3 : (q : Int) < (xs.length : Int) := by omega
    have hT2 : ((tot (xs.take q) : Nat) : Int) < 4000 := by omega
    have hsx := HSZ.out _ (List.getElem_mem hlt)
    have hnx : tot (xs.take (q + 1)) = tot (xs.take q) + (100 + xs[q].size) := by rw [List.take_succ_eq_append_getElem hlt, tot_app]
    obtain ⟨g, o, rfl, hgl, hc⟩ := HCL.out (by omega)
    have r0 := hc q _ (List.getElem?_eq_getElem hlt)
    replace r0 := HE0.out.cell r0
    have HNX := Lib.hid hnx
    have hq40 : q ≤ 40 := by
     have := tot_len (xs.take q)
     rw [List.length_take] at this
     omega
    clear hc hnx hT
    generalize xs[q] = x at *
    generalize tot (xs.take q) = T at *
    go_wp2_with fail
    go_roundw
    case rel => exact ⟨q + 1, by omega, by go_num, by rw [HNX.out]; go_num, by rw [HNX.out]; omega, by first | rfl | trivial⟩
    case measure => simp [intOf]; omega
   ·obtain rfl : q = xs.length := by omega
    have d1 : ¬ ((xs.length : Int) < (xs.length : Int)) := by omega
    rw [List.take_length] at hT hbd ⊢
    have hT2 : ¬ (4000 : Int) ≤ ((tot xs : Nat) : Int) := by omega
    have HTL := Lib.hid (show xs.length ≤ 40 from by have := tot_len xs; omega)
    have HS4 := Lib.hid (show ∀ x ∈ xs, x.size ≤ 4000 from fun x hx => by have := tot_mem hx; omega)
    generalize tot xs = T at *
    clear hT hbd
    have k0 := HC.out.c0
    have k1 := HC.out.c1
    by_cases hNb : N < 1 ∨ 12 < N
    ·have HNB := Lib.hid (wnew_bad wr N hNb)
     clear hNb
     go_wp2_with (go_at_call 11; with_reducible refine HNB.out.mono ?_; rintro e w2 ⟨rfl, rfl⟩)
     have HE2 := Lib.hid HE0.out
     go_wp2_with (go_at_call 26; with_reducible refine (HWK.out _ HE2.out).mono ?_)
     rintro e w3 ⟨rfl, hb3⟩
     have HE3 := Lib.hid (HE2.out.trans (show Stab.Ext _ w3 from hb3))
     clear hb3
     go_wp2_with (go_at_call 26; with_reducible refine (HWK.out _ HE3.out).mono ?_)
     rintro e w4 ⟨rfl, hb4⟩
     have HE4 := Lib.hid (HE3.out.trans (show Stab.Ext _ w4 from hb4))
     clear hb4
     go_wp2_with fail
     go_ret
     exact ⟨rfl, HE4.out⟩
    obtain ⟨hN1, hN2⟩ : 1 ≤ N ∧ N ≤ 12 := by omega
    obtain ⟨n, rfl⟩ : ∃ n : Nat, N = (n : Int) := ⟨N.toNat, by omega⟩
    have HNN := Lib.hid (wnew_any wr n (by omega) (by omega))
    clear hNb
    go_wp2_with (go_at_call 11; with_reducible refine HNN.out.mono ?_)
    rintro e w2 ⟨b, O, rfl, hlow, hat, hb2⟩
    have hE2 : Stab.Ext wr w2 := hb2
    have hlt0 := HC.out.blk.lt
    have hB2 : Born w w.heap.size b (newP n) O w2 := ⟨⟨hat, below_far (HE0.out.trans hE2), fun k hk => .inr (Nat.le_trans HE0.out.size (hlow k hk))⟩, fun hm => by have := hlow _ hm; omega⟩
    have HC2 := Lib.hid (HC.out.ext hE2)
    have HB2 := Lib.hid hB2
    have HE2 := Lib.hid (HE0.out.trans hE2)
    clear hb2 hE2 hat hlow hB2 HNN
    go_wp2_with (go_at_call 26; with_reducible refine (HWK.out _ HE2.out).mono ?_)
    rintro e w3 ⟨rfl, hb3⟩
    have hE3 : Stab.Ext w2 w3 := hb3
    have HB3 := Lib.hid (HB2.out.ext hE3)
    have HC3 := Lib.hid (HC2.out.ext hE3)
    clear hb3 hE3 HB2 HC2
    have k0 := HC3.out.c0
    have k1 := HC3.out.c1
    by_cases hcd : Shd.codeB K (n : Int) = true
    case neg =>
     have hfb : fitsE (newP n) K (n : Int) ≠ 0 := fun h => hcd (fitsE_ok.1 h).1
     have hkn : ¬ (1 ≤ K ∧ K ≤ (n : Int)) := fun h => hcd ((Shd.codeB_iff _ _).2 ⟨h.1, h.2, by omega⟩)
     have HWB := Lib.hid (fun W (hW : Stab.Ext w3 W) s => write_bad (HB3.out.ext hW).at_ K n hfb s)
     have HCR := Lib.hid (wcrash_any HB3.out.at_ (show n ≤ 1000 by omega) (.slice none 0 0) [] ⟨none, 0, rfl, fun j ks hj => by simp at hj⟩ (by simp) (fun i _ => ⟨by show (newP n |>.st i).writes.length ≤ _; exact Nat.zero_le _, by simp, by simp, fun q hq => by cases hq⟩))
     clear hfb hcd
     go_wp2_with fail
     go_loopw [9, 10] (fun dv i wr => i = .int .i64 ((0 : Nat) : Int) ∧ dv = .slice none 0 0 ∧ wr = w3) (fun _ i _ => xs.length - (intOf i).toNat)
     case atStart => exact ⟨rfl, rfl, rfl⟩
     case round =>
      obtain ⟨rfl, rfl, rfl⟩ := hrel
      by_cases hlt : 0 < xs.length
      ·have hlt3 : (0 : Int) < (xs.length : Int) := by omega
       obtain ⟨A2, c2, hv2, -, h3⟩ := HX.out.ext HB3.out.wb.fr
       obtain ⟨g, o, hA, hgl, hc⟩ := h3 (by omega)
       cases hv2
       subst hA
       have r0 := hc 0 _ (List.getElem?_eq_getElem hlt)
       simp only [Nat.add_zero] at r0
       generalize xs[0] = x at *
       have HWD := Lib.hid (HWB.out _ (Stab.Ext.drew wr) x)
       clear hc h3
       go_wp2_with fail
       go_region_with (go_at_call 27; with_reducible refine HWD.out.mono ?_; rintro e w5 ⟨rfl, hb5⟩)
       all_goals
        have hE5 : Stab.Ext wr w5 := (Stab.Ext.drew wr).trans hb5
        have k0 := hE5.cell k0
        have k1 := hE5.cell k1
        have HB5 := Lib.hid (HB3.out.ext hE5)
        clear hb5 hE5
        by_cases hk1 : K < 1
        ·clear hkn
         go_wp2_with fail
         go_ret
         exact ⟨rfl, HB5.out.below⟩
        ·have hk2 : (n : Int) < K := by omega
         clear hkn
         go_wp2_with fail
         go_ret
         exact ⟨rfl, HB5.out.below⟩
      ·have hl0 : xs.length = 0 := by omega
       have d4 : (xs.length : Int) ≤ 0 := by omega
       clear hkn
       go_wp2_with fail
       go_loopw [13] (fun i wx => i = .int .i64 ((0 : Nat) : Int) ∧ wx = wr) (fun i _ => xs.length - (intOf i).toNat)
       case atStart => exact ⟨rfl, rfl⟩
       case round =>
        obtain ⟨rfl, rfl⟩ := hrel
        go_wp2_with (go_at_call 25; with_reducible refine HCR.out.mono ?_)
        intro e w8 hq8
        obtain ⟨O8, hB8, hf8, hX8⟩ := HB3.out.op hq8 HC3.out.blk.lt
        obtain ⟨rfl, -⟩ := hq8
        have HB8 := Lib.hid hB8
        clear hB8 hf8 hX8
        go_wp2_with fail
        go_ret
        exact ⟨rfl, HB8.out.below⟩
    obtain ⟨hk1, hk2, _⟩ := (Shd.codeB_iff _ _).1 hcd
    obtain ⟨k, rfl⟩ : ∃ k : Nat, K = (k : Int) := ⟨K.toNat, by omega⟩
    go_wp2_with fail
    go_loopw [9, 10] (fun dv i wr => ∃ (q : Nat) (O' : List Nat) (p : PW), q ≤ xs.length ∧ i = .int .i64 (q : Int) ∧ Born w w.heap.size b p O' wr ∧ CAt w.heap.size k n wr ∧ DRow (w.heap.size + 1) O' dv q ((xs.take q).map dgB) wr ∧ Two k n (xs.take q) p) (fun _ i _ => xs.length - (intOf i).toNat)
    case atStart => exact ⟨0, O, newP n, by omega, rfl, HB3.out, HC3.out, ⟨OwnG.nil _ _ _ _, fun g hg => by cases hg⟩, two_new k n⟩
    case round =>
     obtain ⟨q, O', p, hq, rfl, hB, hC, hD, hT⟩ := hrel
     obtain ⟨Ad, cd, hdv⟩ := OwnG.shape hD.row
     subst hdv
     have k0 := hC.c0
     have k1 := hC.c1
     have hl40 := HTL.out
     by_cases hlt : q < xs.length
     ·have hlt3 : (q : Int) < (xs.length : Int) := by omega
      obtain ⟨x, hxe⟩ : ∃ x, x = xs[q] := ⟨_, rfl⟩
      have hx4 : x.size ≤ 4000 := by rw [hxe]; exact HS4.out _ (List.getElem_mem hlt)
      have hts : xs.take (q + 1) = xs.take q ++ [x] := by rw [hxe]; exact List.take_succ_eq_append_getElem hlt
      obtain ⟨q1, q2⟩ := hT.write hcd (s := x) (by omega)
      have htl : (xs.take q).length ≤ 40 := by rw [List.length_take]; omega
      have hWR : ∀ W, Stab.Ext wr W → Calls Tryz.prog 27 #[.pointer (some ⟨b, 0, none⟩), .agg #[.int .i64 (k : Int), .int .i64 (n : Int)], .string x] W (WrT W O' b (writeR p k n x).2 (dgB x)) := fun W hW => by
       have := write_any HNEW.out (Nat.le_trans HG.out (hB.ext hW).below.size) ((hB.ext hW).vars HV.out) (hB.ext hW).at_ k n hcd hT.well.n_ x (by omega) hT.well.bnd (by omega) (by omega)
       unfold WrPost at this
       rw [q1, if_pos rfl] at this
       exact this
      generalize (writeR p k n x).2 = p2 at *
      have HWR := Lib.hid hWR
      have HTW := Lib.hid q2
      have HTS := Lib.hid hts
      obtain ⟨A2, c2, hv2, -, h3⟩ := HX.out.ext hB.wb.fr
      obtain ⟨g, o, hA, hgl, hc⟩ := h3 (by omega)
      cases hv2
      subst hA
      have r0 := hc q x (by rw [hxe]; exact List.getElem?_eq_getElem hlt)
      obtain ⟨d, hd⟩ : ∃ d, d = dgB x := ⟨_, rfl⟩
      rw [← hd] at HWR
      have HWD := Lib.hid (HWR.out _ (Stab.Ext.drew wr))
      have HDX := Lib.hid hd
      have HB := Lib.hid hB
      have HCC := Lib.hid hC
      have HD := Lib.hid hD
      clear hB hC hD hT q1 q2 hts hWR hc h3 hxe hd htl
      go_wp2_with fail
      go_region_with (go_at_call 27; (with_reducible refine HWD.out.mono ?_); rintro e w5 ⟨O5, rfl, hwb5⟩)
      all_goals
       have HB5 := Lib.hid ((HB.out.ext (Stab.Ext.drew wr)).next hwb5 (HCC.out.ext (Stab.Ext.drew wr)).blk.lt)
       have HC5 := Lib.hid ((HCC.out.ext (Stab.Ext.drew wr)).keep hwb5.fr HB.out.cb)
       have HD5 := Lib.hid ((HD.out.ext (Stab.Ext.drew wr)).next hwb5)
       clear hwb5
       obtain ⟨g6, c6, w6, hrun, hown, hb6, hgr, hw6⟩ := ownG_new (c := 1) (m := 1) (C := #[.string d]) Tryz.underlying60 Cod.info_str rfl (by omega) (by omega) HD5.out.row rfl (by simp [Value.oneCell']) (by omega) (by omega) (by have := HC5.out.blk.lt; omega)
       try simp only [World.size_alloc] at hrun
       have hf6 := app_fr hgr
       have HB6 := Lib.hid (HB5.out.keep hf6 fun x hx => by rw [Option.mem_toList] at hx; exact ⟨HD5.out.off x hx, by have := (HD5.out.row.lt x hx).1; omega⟩)
       have HC6 := Lib.hid (HC5.out.keep hf6 fun hx => by rw [Option.mem_toList] at hx; have := (HD5.out.row.lt _ hx).1; omega)
       have HD6 := Lib.hid (HD5.out.more hown hw6 HB5.out.wb.lt)
       clear hown hb6 hgr hw6 hf6
       go_wp2_with fail
       go_roundw
       case rel => exact ⟨q + 1, O5, p2, by omega, by go_num, HB6.out, HC6.out, by rw [HTS.out, List.map_append]; rw [HDX.out] at HD6; exact HD6.out, by rw [HTS.out]; exact HTW.out⟩
       case measure => simp [intOf]; omega
     ·obtain rfl : q = xs.length := by omega
      have d5 : ¬ ((xs.length : Int) < (xs.length : Int)) := by omega
      rw [List.take_length] at hD hT
      have HB := Lib.hid hB
      have HCC := Lib.hid hC
      have HD := Lib.hid hD
      have HTT := Lib.hid hT
      clear hB hC hD hT
      go_wp2_with fail
      go_loopw [13] (fun i wx => ∃ (q : Nat) (O' : List Nat) (p : PW), q ≤ xs.length ∧ i = .int .i64 (q : Int) ∧ Born w w.heap.size b p O' wx ∧ CAt w.heap.size k n wx ∧ DRow (w.heap.size + 1) O' (.slice Ad xs.length cd) xs.length (xs.map dgB) wx ∧ Two k n xs p) (fun i _ => xs.length - (intOf i).toNat)
      case atStart => exact ⟨0, O', p, by omega, rfl, HB.out, HCC.out, HD.out, HTT.out⟩
      clear HB HCC HD HTT
      case round =>
       obtain ⟨q, O2, p2, hq, rfl, hB, hC, hD, hT⟩ := hrel
       have k0 := hC.c0
       have k1 := hC.c1
       by_cases hlt : q < xs.length
       ·have hlt3 : (q : Int) < (xs.length : Int) := by omega
        obtain ⟨x, hxe⟩ : ∃ x, x = xs[q] := ⟨_, rfl⟩
        have hxq : xs[q]? = some x := by rw [hxe]; exact List.getElem?_eq_getElem hlt
        have hxm : x ∈ xs := List.mem_of_getElem? hxq
        obtain ⟨y, hy, hyd, hrd⟩ := hT.read hcd (fun x hx => by have := HS4.out x hx; omega) hxm
        obtain ⟨m, hm, hrp⟩ := readP_calm hT.well.calm hT.well.n_ (dgB x) (k := k) (by omega)
        have hRD : ∀ W, Stab.Ext wr W → Calls Tryz.prog 28 #[.pointer (some ⟨b, 0, none⟩), .agg #[.int .i64 (k : Int), .int .i64 (n : Int)], .string (dgB x)] W (RdT W O2 b (PW.adv p2 m) y 0) := fun W hW => by
         have := read_any ((hB.ext hW).vars HV.out) (hB.ext hW).at_ ((hB.ext hW).far HG.out) k n hcd hT.well.n_ (dgB x) (dgB_size x) (fun j hj => pay_small hT.well.calm hT.well.bnd (dgB x) k n (by rw [hT.well.n_]; exact hj))
         unfold RePost at this
         rw [hrd, hrp] at this
         exact this
        have HRD := Lib.hid hRD
        have HTA := Lib.hid (hT.adv m)
        have hTX := HX.out.ext hB.wb.fr
        obtain ⟨A2, c2, hv2, -, h3⟩ := hTX
        obtain ⟨g, o, hA, hgl, hc⟩ := h3 (by omega)
        cases hv2
        subst hA
        have r0 := hc q x hxq
        obtain ⟨d, hd⟩ : ∃ d, d = dgB x := ⟨_, rfl⟩
        obtain ⟨gd, cd2, hv3, -⟩ := OwnG.addr hD.row (by omega)
        obtain ⟨rfl, rfl⟩ : Ad = some ⟨gd, 0, none⟩ ∧ cd = cd2 := by cases hv3; exact ⟨rfl, rfl⟩
        have s0 := OwnG.cells hD.row rfl q (.string d) (by rw [List.getElem?_map, List.getElem?_map, hxq, hd]; rfl)
        rw [← hd] at HRD
        have HWD := Lib.hid (HRD.out _ (Stab.Ext.drew wr))
        have HYX := Lib.hid (show ¬ y = x → Clashes xs from fun hne => ⟨y, hy, x, hxm, hyd, hne⟩)
        have HXQ := Lib.hid hxq
        have HB := Lib.hid hB
        have HCC := Lib.hid hC
        have HD := Lib.hid hD
        clear hB hC hD hT hRD hc h3 hxe hd hxq hxm hy hyd hrd hrp hv3
        go_wp2_with fail
        go_region_with (go_at_call 28; (with_reducible refine HWD.out.mono ?_); rintro e w5 ⟨O5, rfl, hwb5⟩)
        all_goals
         have HB5 := Lib.hid ((HB.out.ext (Stab.Ext.drew wr)).next hwb5 (HCC.out.ext (Stab.Ext.drew wr)).blk.lt)
         have HC5 := Lib.hid ((HCC.out.ext (Stab.Ext.drew wr)).keep hwb5.fr HB.out.cb)
         have HD5 := Lib.hid ((HD.out.ext (Stab.Ext.drew wr)).next hwb5)
         clear hwb5
         have hT5 := HX.out.ext HB5.out.wb.fr
         have HCL5 := Lib.hid (clash_any xs _ (fun x hx => by have := HS4.out x hx; omega) (by omega) w5 hT5)
         obtain ⟨A2, c2, hv2, -, h3⟩ := hT5
         obtain ⟨g5, o5, hA, hgl5, hc⟩ := h3 (by omega)
         cases hv2
         cases hA
         have r0 := hc q x HXQ.out
         clear h3 hc
         by_cases hyx : y = x
         ·subst hyx
          go_wp2_with fail
          go_roundw
          case rel => exact ⟨q + 1, O5, _, by omega, by go_num, HB5.out, HC5.out, HD5.out, HTA.out⟩
          case measure => simp [intOf]; omega
         ·have hne : (y.toList == x.toList) = false := by
           rw [beq_eq_false_iff_ne]
           exact fun e => hyx (bytes_inj.1 e)
          have hcc : decide (Clashes xs) = true := by simp [HYX.out hyx]
          rw [hcc] at HCL5
          clear hyx hcc
          go_wp2_with (go_at_call 29; with_reducible refine HCL5.out.mono ?_)
          rintro e w6 ⟨rfl, hb6⟩
          have hE6 : Stab.Ext w5 w6 := hb6
          have HB6 := Lib.hid (HB5.out.ext hE6)
          have HC6 := Lib.hid (HC5.out.ext hE6)
          have HD6 := Lib.hid (HD5.out.ext hE6)
          clear hb6 hE6
          go_wp2_with fail
          go_roundw
          case rel => exact ⟨q + 1, O5, _, by omega, by go_num, HB6.out, HC6.out, HD6.out, HTA.out⟩
          case measure => simp [intOf]; omega
       ·obtain rfl : q = xs.length := by omega
        have HCR := Lib.hid (wcrash_any hB.at_ (by rw [hT.well.n_]; omega) (.slice none 0 0) [] ⟨none, 0, rfl, fun j ks hj => by simp at hj⟩ (by simp) (fun i hi => by
         have hw := (hT.well.sync i (by rw [← hT.well.n_]; exact hi)).wr
         exact ⟨by rw [hw]; simp, by simp, by simp, fun q hq => by rw [hw] at hq; cases hq⟩))
        have HB := Lib.hid hB
        have HCC := Lib.hid hC
        clear hB hC hD hT
        go_wp2_with (go_at_call 25; with_reducible refine HCR.out.mono ?_)
        intro e w8 hq8
        obtain ⟨O8, hB8, hf8, hX8⟩ := HB.out.op hq8 HCC.out.blk.lt
        obtain ⟨rfl, -⟩ := hq8
        have HB8 := Lib.hid hB8
        clear hB8 hf8 hX8
        go_wp2_with fail
        go_ret
        exact ⟨rfl, HB8.out.below⟩
end Str
end Go.Proofs.YtnbkhdbligjifaaGreatDoor
namespace Go.Proofs.YtnbkhdbligjifaaGreatDoor
open Go Go.RowKit Vm
namespace Str
open Hlt
theorem two_true (K N : Int) (hK : Shd.I64 K) (hN : Shd.I64 N) (v : Value) (xs : List ByteArray) (w : World) (hv : Shd.Vars w) (hG : 6 ≤ w.heap.size) (hx : TextsAt w v xs ∧ ∀ x ∈ xs, x.size ≤ 140737488351232) :
 Calls Tryz.prog 6 #[.agg #[.int .i64 K, .int .i64 N], v] w (TrueP w) :=
 two_walk K N hK hN v xs w hv (Nat.le_trans (of_decide_eq_true (by kernel_rfl)) hG) hx.1 hx.2
end Str
end Go.Proofs.YtnbkhdbligjifaaGreatDoor
