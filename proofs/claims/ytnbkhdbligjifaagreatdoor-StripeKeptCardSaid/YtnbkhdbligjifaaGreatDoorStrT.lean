/-
 The law StripeKept: the walk.
-/
import Derived.Test.YtnbkhdbligjifaaGreatDoorStrQ
set_option linter.unusedVariables false
set_option linter.unusedSimpArgs false
set_option maxRecDepth 100000
set_option maxHeartbeats 40000000
namespace Go.Proofs.YtnbkhdbligjifaaGreatDoor
open Go Go.RowKit Vm
open scoped Classical
namespace Str
open Hlt
theorem kept_walk (K N : Int) (hK : Shd.I64 K) (hN : Shd.I64 N) (s : ByteArray) (v : Value) (l : List Flt) (vs : Value) (ls : List (List Int)) (first : Bool) (w : World) (hv : Shd.Vars w) (hG : Tryz.prog.globals.size ≤ w.heap.size) (hl : FaultsAt w v l)
 (hsv : SurvAt [] w vs ls ∧ ∀ ks ∈ ls, ks.length ≤ 9223372036854775807 ∧ ∀ x ∈ ks, -9223372036854775808 ≤ x ∧ x ≤ 9223372036854775807) :
 Calls Tryz.prog 9 #[.agg #[.int .i64 K, .int .i64 N], .string s, v, vs, .bool first] w (TrueP w) := by
 obtain ⟨⟨A, cap, rfl, hlc, hcells⟩, hfits⟩ := hl
 obtain ⟨hsv, hsok⟩ := hsv
 obtain ⟨SA, sc, hvs⟩ : ∃ A cap, vs = .slice A ls.length cap := by obtain ⟨A, cap, h, _⟩ := hsv; exact ⟨A, cap, h⟩
 subst hvs
 have hmk := run_mk (P := Tryz.prog) (t := 60) (e := 9) (z := .string ⟨#[]⟩) (bytes := 16) Tryz.underlying60 (by kernel_rfl) rfl
 have hE0 := Stab.Ext.alloc w (.cells #[.int .i64 K, .int .i64 N] 25)
 have hC : CAt w.heap.size K N (w.alloc (.cells #[.int .i64 K, .int .i64 N] 25)) := ⟨Blk.new w 25 #[.int .i64 K, .int .i64 N]⟩
 have HWK := Lib.hid (show ∀ W, Stab.Ext w W → Calls Tryz.prog 26 #[] W (TrueP W) from fun W hW => works_true W (hv.below hW) (Nat.le_trans hG hW.size))
 have HV := Lib.hid hv
 have HG := Lib.hid hG
 have HC := Lib.hid hC
 have HE0 := Lib.hid hE0
 have HCELLS := Lib.hid hcells
 have HFITS := Lib.hid hfits
 have HSV := Lib.hid hsv
 have HSOK := Lib.hid hsok
 have HMK := Lib.hid hmk
 have HNEW := Lib.hid (show ∀ w : World, Tryz.prog.globals.size ≤ w.heap.size → Calls Tryz.prog 139 #[] w (Spr.NewPost w) from fun w _ => Fld.new_any w)
 clear hv hG hC hE0 hcells hfits hsv hsok hmk
 go_enter Tryz.func9, Tryz.ntmps9
 generalize hw0 : w.alloc (.cells #[.int .i64 K, .int .i64 N] 25) = w0 at *
 go_wp2_with (go_at_call 26; with_reducible refine (HWK.out _ HE0.out).mono ?_)
 rintro e w1 ⟨rfl, hb1⟩
 have hE1 : Stab.Ext w0 w1 := hb1
 have HE1 := Lib.hid (HE0.out.trans hE1)
 have HC1 := Lib.hid (HC.out.ext hE1)
 have k0 := HC1.out.c0
 have k1 := HC1.out.c1
 clear hb1 hE1 HC
 by_cases hs2 : 2000 < s.size
 ·have hs3 : (2000 : Int) < (s.size : Int) := by omega
  go_wp2_with (go_at_call 26; with_reducible refine (HWK.out _ HE1.out).mono ?_)
  rintro e w2 ⟨rfl, hb2⟩
  have HB2 := Lib.hid (HE1.out.trans (show Stab.Ext w1 w2 from hb2))
  clear hb2
  go_wp2_with fail
  go_ret
  exact ⟨rfl, HB2.out⟩
 have hs3 : ¬ (2000 : Int) < (s.size : Int) := by omega
 by_cases hl2 : 60 < l.length
 ·have hl3 : (60 : Int) < (l.length : Int) := by omega
  go_wp2_with (go_at_call 26; with_reducible refine (HWK.out _ HE1.out).mono ?_)
  rintro e w2 ⟨rfl, hb2⟩
  have HB2 := Lib.hid (HE1.out.trans (show Stab.Ext w1 w2 from hb2))
  clear hb2
  go_wp2_with fail
  go_ret
  exact ⟨rfl, HB2.out⟩
 have hl3 : ¬ (60 : Int) < (l.length : Int) := by omega
 by_cases hc2 : 50 < ls.length
 ·have hc3 : (50 : Int) < (ls.length : Int) := by omega
  go_wp2_with (go_at_call 26; with_reducible refine (HWK.out _ HE1.out).mono ?_)
  rintro e w2 ⟨rfl, hb2⟩
  have HB2 := Lib.hid (HE1.out.trans (show Stab.Ext w1 w2 from hb2))
  clear hb2
  go_wp2_with fail
  go_ret
  exact ⟨rfl, HB2.out⟩
 have hc3 : ¬ (50 : Int) < (ls.length : Int) := by omega
 by_cases hNb : N < 1 ∨ 12 < N
 ·have HNB := Lib.hid (wnew_bad w1 N hNb)
  clear hNb
  go_wp2_with (go_at_call 11; with_reducible refine HNB.out.mono ?_)
  rintro e w2 ⟨rfl, rfl⟩
  go_wp2_with fail
  go_ret
  exact ⟨rfl, HE1.out⟩
 obtain ⟨hN1, hN2⟩ : 1 ≤ N ∧ N ≤ 12 := by omega
 obtain ⟨n, rfl⟩ : ∃ n : Nat, N = (n : Int) := ⟨N.toNat, by omega⟩
 have HNN := Lib.hid (wnew_any w1 n (by omega) (by omega))
 clear hNb
 go_wp2_with (go_at_call 11; with_reducible refine HNN.out.mono ?_)
 rintro e w2 ⟨b, O, rfl, hlow, hat, hb2⟩
 have hE2 : Stab.Ext w1 w2 := hb2
 have hlt0 := HC1.out.blk.lt
 have hB2 : Born w w.heap.size b (newP n) O w2 := ⟨⟨hat, below_far (HE1.out.trans hE2), fun k hk => .inr (Nat.le_trans HE1.out.size (hlow k hk))⟩, fun hm => by have := hlow _ hm; omega⟩
 have HC2 := Lib.hid (HC1.out.ext hE2)
 have HB2 := Lib.hid hB2
 have k0 := HC2.out.c0
 have k1 := HC2.out.c1
 have hlt2 := HC2.out.blk.lt
 clear hb2 hE2 hat hlow hB2 HNN HC1
 by_cases hcd : Shd.codeB K (n : Int) = true
 case neg =>
  have hfb : fitsE (newP n) K (n : Int) ≠ 0 := fun h => hcd (fitsE_ok.1 h).1
  have hkn : ¬ (1 ≤ K ∧ K ≤ (n : Int)) := fun h => hcd ((Shd.codeB_iff _ _).2 ⟨h.1, h.2, by omega⟩)
  have HWB := Lib.hid (write_bad HB2.out.at_ K n hfb s)
  clear hfb hcd
  go_wp2_with (go_at_call 27; with_reducible refine HWB.out.mono ?_)
  rintro e w3 ⟨rfl, hb3⟩
  have hE3 : Stab.Ext w2 w3 := hb3
  have k0 := hE3.cell k0
  have k1 := hE3.cell k1
  have HB3 := Lib.hid (HB2.out.below.trans (Below.mono hE3 HB2.out.below.size))
  clear hb3 hE3
  by_cases hk1 : K < 1
  ·clear hkn
   go_wp2_with fail
   go_ret
   exact ⟨rfl, HB3.out⟩
  ·have hk2 : (n : Int) < K := by omega
   clear hkn
   go_wp2_with fail
   go_ret
   exact ⟨rfl, HB3.out⟩
 obtain ⟨hk1, hk2, _⟩ := (Shd.codeB_iff _ _).1 hcd
 obtain ⟨k, rfl⟩ : ∃ k : Nat, K = (k : Int) := ⟨K.toNat, by omega⟩
 obtain ⟨d, hd⟩ : ∃ d, d = dgB s := ⟨_, rfl⟩
 have hNm : Num k n d s := ⟨hcd, by rw [hd]; exact dgB_size s, by omega⟩
 obtain ⟨p1, p2, q1, q2, q3, q4, q5, q6⟩ := twice_kept hNm hd
 have hW := write_any HNEW.out (Nat.le_trans HG.out HB2.out.below.size) (HB2.out.vars HV.out) HB2.out.at_ k n hcd rfl s (by omega) (newP_well n).bnd (by omega) (by omega)
 unfold WrPost at hW
 rw [q1, if_pos rfl, ← hd] at hW
 have HW := Lib.hid hW
 have HNM := Lib.hid hNm
 have HD := Lib.hid hd
 have HK2 := Lib.hid q5
 have HS2 := Lib.hid q6
 have HP1 := Lib.hid q2
 have HQ3 := Lib.hid q3
 have HQ4 := Lib.hid q4
 have HSUM := Lib.hid (show ∀ W : World, Calls Tryz.prog 33 #[.string s] W fun e w' => e = .returned (.string d) ∧ Below W.heap.size W w' from fun W => by
  rw [hd]
  exact Sha.sum_any s (by omega) W)
 clear hW q1 q2 q3 q4 q5 q6 hNm hd
 go_wp2_with (go_at_call 27; with_reducible refine HW.out.mono ?_)
 rintro e w3 ⟨O3, rfl, hwb3⟩
 have HB3 := Lib.hid (HB2.out.next hwb3 HC2.out.blk.lt)
 have HC3 := Lib.hid (HC2.out.keep hwb3.fr HB2.out.cb)
 have k0 := HC3.out.c0
 have k1 := HC3.out.c1
 clear hwb3 HW HB2 HC2
 have HCALL := Lib.hid (show ∀ W, Stab.Ext w3 W → Calls Tryz.prog 34 #[.pointer (some ⟨b, 0, none⟩), .agg #[.int .i64 (k : Int), .int .i64 (n : Int)], .string s] W (CallsP W O3 b p1 k n s) from fun W hW =>
  callsN_any HNEW.out (Nat.le_trans HG.out (HB3.out.ext hW).below.size) ((HB3.out.ext hW).vars HV.out) (HB3.out.ext hW).at_ k n hcd HP1.out.n_ s (by omega) HP1.out.bnd (by omega) (by omega))
 have hw2n : (2 * (n : Int) != IntKind.i64.wrap (2 * (n : Int))) = false := by
  have : IntKind.i64.wrap (2 * (n : Int)) = 2 * (n : Int) := by rw [IntKind.wrap_i64]; omega
  rw [this]
  simp
 go_wp2_with fail
 apply via (R := fun w5 O5 => Hid (Born w w.heap.size b p2 O5 w5) ∧ Hid (CAt w.heap.size k n w5))
 case main =>
  intro REST
  have REST := Lib.hid REST
  go_region_with (first
   | (go_at_call 33
      with_reducible refine (HSUM.out _).mono ?_
      rintro e w4 ⟨rfl, hb4⟩
      have hE4 : Stab.Ext w3 w4 := (Stab.Ext.drew w3).trans hb4
      have HC4 := Lib.hid (HC3.out.ext hE4)
      have k0 := HC4.out.c0
      have k1 := HC4.out.c1
      have HB4 := Lib.hid (HB3.out.ext hE4)
      have HCA := Lib.hid (HCALL.out w4 hE4)
      clear hb4 hE4)
   | (go_at_call 34
      with_reducible refine HCA.out.mono ?_
      rintro e w5 ⟨O5, rfl, hwb5⟩
      rw [HQ4.out]
      rw [HQ3.out] at hwb5
      have HB5 := Lib.hid (HB4.out.next hwb5 HC4.out.blk.lt)
      have HC5 := Lib.hid (HC4.out.keep hwb5.fr HB4.out.cb)
      have k0 := HC5.out.c0
      have k1 := HC5.out.c1
      clear hwb5 HB4 HC4 HCA))
  all_goals exact REST.out _ _ ⟨HB5, HC5⟩
 case rest =>
  rintro w5 O5 ⟨HB5, HC5⟩
  have k0 := HC5.out.c0
  have k1 := HC5.out.c1
  have hmkn := HMK.out n (by omega) (by omega)
  obtain ⟨g, hg⟩ : ∃ g, g = dtB k n d s := ⟨_, rfl⟩
  have hWas : WasAt w5.heap.size n g 0 (w5.alloc (.cells (Array.replicate n (.string ⟨#[]⟩)) 9)) := WasAt.new w5 n g
  have hE6 : Stab.Ext w5 (w5.alloc (.cells (Array.replicate n (.string ⟨#[]⟩)) 9)) := Stab.Ext.alloc _ _
  have hoff : w5.heap.size ∉ O5 := fun hm => by have := HB5.out.wb.lt _ hm; omega
  have hlow : w.heap.size < w5.heap.size := by have := HC5.out.blk.lt; exact this
  have HB6 := Lib.hid (HB5.out.ext hE6)
  have HC6 := Lib.hid (HC5.out.ext hE6)
  have HW6 := Lib.hid hWas
  have HOFF := Lib.hid hoff
  have HLOW := Lib.hid hlow
  have HGG := Lib.hid hg
  clear hWas hE6 hoff hlow hg HB5 HC5
  go_wp2_with fail
  generalize hbw : w5.heap.size = bw at *
  generalize w5.alloc (.cells (Array.replicate n (.string ⟨#[]⟩)) 9) = w6 at *
  clear hmkn hbw
  go_loopw [15] (fun i wr => ∃ q : Nat, q ≤ n ∧ i = .int .i64 (q : Int) ∧ Born w w.heap.size b p2 O5 wr ∧ CAt w.heap.size k n wr ∧ WasAt bw n g q wr) (fun i _ => n - (intOf i).toNat)
  case atStart => exact ⟨0, by omega, rfl, HB6.out, HC6.out, HW6.out⟩
  case round =>
   obtain ⟨q, hq, rfl, hB, hC, hWa⟩ := hrel
   have k0 := hC.c0
   have k1 := hC.c1
   by_cases hlt : q < n
   ·have hlt3 : (q : Int) < (n : Int) := by omega
    have HO := Lib.hid (wobjects_any hB.at_ (q : Int) (fits_small (HK2.out.kept.fit.fits _) (by omega)))
    have HOS := Lib.hid (show objsI p2 (q : Nat) = [(nmB d q, g q)] from objs_seen (by rw [HS2.out q hlt, HGG.out]) (by rw [HK2.out.kept.fit.n_]; exact hlt))
    have HB := Lib.hid hB
    have HCC := Lib.hid hC
    have HWA := Lib.hid hWa
    clear hB hC hWa
    go_wp2_with (go_at_call 17; with_reducible refine HO.out.mono ?_)
    intro e w7 ho7
    obtain ⟨v7, he7, hob7, hb7⟩ := objs_of ho7
    rw [HOS.out] at hob7
    obtain ⟨g7, c7, rfl, -, r0, r1⟩ := one_at hob7
    subst he7
    have hE7 : Stab.Ext wr w7 := hb7
    have hWa7 := HWA.out.ext hE7
    obtain ⟨⟨x7, z0⟩, z1⟩ := hWa7.old hlt
    have hset := hWa7.set_ hlt
    have hfr : Fr [bw] w7 (w7.setCell ⟨bw, q, none⟩ (.string (g q))) := Fr.cell w7 ⟨bw, q, none⟩ _
    have hlow := HLOW.out
    have HB8 := Lib.hid ((HB.out.ext hE7).keep hfr fun x hx => by simp only [List.mem_singleton] at hx; subst hx; exact ⟨HOFF.out, by omega⟩)
    have HC8 := Lib.hid ((HCC.out.ext hE7).keep hfr (by simp only [List.mem_singleton]; omega))
    have HSET := Lib.hid hset
    have k0 := (HCC.out.ext hE7).c0
    have k1 := (HCC.out.ext hE7).c1
    clear ho7 hob7 hb7 hE7 hWa7 hset hfr hlow HO HOS
    go_wp2_with fail
    go_roundw
    case rel => exact ⟨q + 1, by omega, by go_num, HB8.out, HC8.out, HSET.out⟩
    case measure => simp [intOf]; omega
   ·obtain rfl : n = q := by omega
    have d1 : ¬ ((n : Int) < (n : Int)) := by omega
    have hoff := HOFF.out
    have hlowO := hB.low
    have HCR := Lib.hid (wcrash_any hB.at_ (by rw [HK2.out.kept.fit.n_]; omega) _ ls (surv_far HSV.out hB.wb.fr hlowO) (by omega) (fun i _ => HK2.out.crash_ok HSOK.out i))
    have HB := Lib.hid hB
    have HCC := Lib.hid hC
    have HWA := Lib.hid hWa
    clear hB hC hWa hlowO hoff HB6 HC6 HW6 HS2
    cases first
    case true =>
     go_wp2_with (go_at_call 25; with_reducible refine HCR.out.mono ?_)
     intro e w8 hq8
     obtain ⟨O8, hB8, hf8, hX8⟩ := HB.out.op hq8 HCC.out.blk.lt
     obtain ⟨rfl, -⟩ := hq8
     have HOFF8 := Lib.hid (show bw ∉ O8 from fun hm => by
      rcases hX8 _ hm with h4 | h4
      ·exact HOFF.out h4
      ·have := HWA.out.lt; omega)
     have HB8 := Lib.hid hB8
     have HC8 := Lib.hid (HCC.out.keep hf8 HB.out.cb)
     have HW8 := Lib.hid (HWA.out.keep hf8 HOFF.out)
     have HK8 := Lib.hid (HK2.out.crash ls)
     clear hB8 hf8 hX8
     generalize p2.crashed ls = p3 at *
     clear HB HCC HWA HK2 HOFF HCR
     go_wp2_with fail
     go_loopw [17] (fun i wr => ∃ (q : Nat) (O' : List Nat), q ≤ l.length ∧ i = .int .i64 (q : Int) ∧ Born w w.heap.size b ((l.take q).foldl strikeP p3) O' wr ∧ CAt w.heap.size k n wr ∧ WasAt bw n g n wr ∧ bw ∉ O') (fun i _ => l.length - (intOf i).toNat)
     case atStart => exact ⟨0, O8, by omega, rfl, HB8.out, HC8.out, HW8.out, HOFF8.out⟩
     case round =>
      obtain ⟨q, O', hq, rfl, hB, hC, hWa, hoff⟩ := hrel
      by_cases hlt : q < l.length
      ·have hlt3 : (q : Int) < (l.length : Int) := by omega
       have hfq : l[q].fits := HFITS.out _ (List.getElem_mem hlt)
       have hkq := (HK8.out.strikes (l := l.take q) fun f hf => HFITS.out f (List.mem_of_mem_take hf)).kept
       have hnx : (l.take (q + 1)).foldl strikeP p3 = strikeP ((l.take q).foldl strikeP p3) l[q] := by rw [List.take_succ_eq_append_getElem hlt, List.foldl_append]; rfl
       have HST := Lib.hid (strike_any (hB.vars HV.out) hB.at_ (hB.far HG.out) hkq.fit (by omega) (by omega) l[q] hfq)
       obtain ⟨gf, of, rfl, r0, r1, r2, r3, r4⟩ := flt_at HCELLS.out hB.wb.fr hlt
       have HNX := Lib.hid hnx
       have HB := Lib.hid hB
       have HCC := Lib.hid hC
       have HWA := Lib.hid hWa
       have HOFF := Lib.hid hoff
       generalize l[q] = f at *
       obtain ⟨f1, f2, f3, f4, f5⟩ := f
       simp only at r0 r1 r2 r3 r4 HST
       clear hB hC hWa hoff hnx hkq
       go_wp2_with (go_at_call 30; with_reducible refine HST.out.mono ?_)
       rintro e w9 ⟨O9, rfl, hwb9⟩
       have HB9 := Lib.hid (HB.out.next hwb9 HCC.out.blk.lt)
       have HC9 := Lib.hid (HCC.out.keep hwb9.fr HB.out.cb)
       have HW9 := Lib.hid (HWA.out.keep hwb9.fr HOFF.out)
       have HOFF9 := Lib.hid (off_next hwb9 HOFF.out HWA.out.lt)
       clear hwb9
       go_wp2_with fail
       go_roundw
       case rel => exact ⟨q + 1, O9, by omega, by go_num, by rw [HNX.out]; exact HB9.out, HC9.out, HW9.out, HOFF9.out⟩
       case measure => simp [intOf]; omega
      ·obtain rfl : q = l.length := by omega
       have d2 : ¬ ((l.length : Int) < (l.length : Int)) := by omega
       rw [List.take_length] at hB
       have hk9 := HK8.out.strikes (l := l) HFITS.out
       generalize l.foldl strikeP p3 = p4 at *
       have hlowO := hB.low
       have HCR := Lib.hid (wcrash_any hB.at_ (by rw [hk9.kept.fit.n_]; omega) _ ls (surv_far HSV.out hB.wb.fr hlowO) (by omega) (fun i _ => hk9.crash_ok HSOK.out i))
       have HB := Lib.hid hB
       have HCC := Lib.hid hC
       have HWA := Lib.hid hWa
       have HOFF := Lib.hid hoff
       have HK9 := Lib.hid hk9
       clear hB hC hWa hoff hk9 hlowO HB8 HC8 HW8 HOFF8 HK8
       obtain ⟨p5, rfl⟩ : ∃ p5, p5 = p4 := ⟨_, rfl⟩
       obtain ⟨w10, rfl⟩ : ∃ w10, w10 = wr := ⟨_, rfl⟩
       obtain ⟨O10, rfl⟩ : ∃ O10, O10 = O' := ⟨_, rfl⟩
       have HB10 := Lib.hid HB.out
       have HC10 := Lib.hid HCC.out
       have HW10 := Lib.hid HWA.out
       have HK10 := Lib.hid HK9.out
       have k1 := HC10.out.c1
       clear HB HCC HWA HK9 HOFF HCR
       go_wp2_with fail
       go_loopw [18, 19] (fun m i wx => ∃ q : Nat, q ≤ n ∧ i = .int .i64 (q : Int) ∧ m = .int .i64 ((hvL p5 d k n q).length : Nat) ∧ Stab.Ext w10 wx) (fun _ i _ => n - (intOf i).toNat)
       case atStart => exact ⟨0, by omega, rfl, rfl, Stab.Ext.refl _⟩
       case round =>
        obtain ⟨q, hq, rfl, rfl, hE⟩ := hrel
        have hql := hvL_len p5 d k n q
        have HE := Lib.hid hE
        have k0 := (HC10.out.ext hE).c0
        have k1 := (HC10.out.ext hE).c1
        by_cases hlt : q < n
        ·have hlt3 : (q : Int) < (n : Int) := by omega
         have HO := Lib.hid (wobjects_any (HB10.out.ext hE).at_ (q : Int) (fits_small (HK10.out.kept.fit.fits _) (by omega)))
         have HUP := Lib.hid (fun W (hW : WAt W b p5 O10) => wup_any hW (q : Int))
         have hat11 := (HB10.out.ext hE).at_
         clear hE
         go_wp2_with (go_at_call 17; with_reducible refine HO.out.mono ?_)
         intro e w11 ho11
         obtain ⟨v11, he11, hob11, hb11⟩ := objs_of ho11
         subst he11
         have HE1r := Lib.hid (show Stab.Ext wr w11 from hb11)
         have HE11 := Lib.hid (HE.out.trans HE1r.out)
         have m0 := (HW10.out.ext HE11.out).cell hlt
         have hml := lt_cell m0
         clear ho11 hb11 HO
         rcases kept_case HNM.out HK10.out hlt with ⟨hsn, hup, nm, ho⟩ | ⟨hsn, hup⟩ | ⟨hsn, hup, ho⟩ | ⟨hsn, hup, nm, y, ho, hne⟩
         ·rw [ho, ← HGG.out] at hob11
          obtain ⟨g1, c1, rfl, -, r0, r1⟩ := one_at hob11
          have HR := Lib.hid (show Rd32 b p5 O10 g1 bw q (g q) (g q) w11 from ⟨at_ext hat11 HE1r.out, r1, m0⟩)
          have HH := Lib.hid (hvL_yes hsn).1
          simp only [hup] at HUP
          clear hob11 hsn hup
          go_wp2_with fail
          refine Stab.wp_region_stable 19 180 [some 139, some 140, some 141, some 142, some 143, some 144, some 145, some 146, some 147, some 148, some 149, some 150, some 151, some 152, some 153, some 154, some 155, some 156, some 157] [[], [], [0, 1], [2], [3], [4, 3], [5, 3], [3, 6], [7], [8], [9, 8], [10, 8], [11, 8], [8], [8], [13, 14, 8], [15, 8], [12, 16, 8], [8, 17]] [18] (Rd32 b p5 O10 g1 bw q (g q) (g q)) [Stab.eqv ?r32ate0, Stab.eqv ?r32ate1, Stab.eqv ?r32ate2, Stab.eqv ?r32ate3, Stab.eqv ?r32ate4, Stab.eqv ?r32ate5, Stab.eqv ?r32ate6, Stab.eqv ?r32ate7, Stab.eqv ?r32ate8, Stab.eqv ?r32ate9, Stab.eqv ?r32ate10, Stab.eqv ?r32ate11, Stab.eqv ?r32ate12, Stab.eqv ?r32ate13, Stab.eqv ?r32ate14, Stab.eqv ?r32ate15, Stab.eqv ?r32ate16, Stab.eqv ?r32ate17, Stab.eqv ?r32ate18] (by kernel_rfl) rfl (by kernel_rfl) (by kernel_rfl) (fun us => by simp only [Stab.putAll, Act.put, List.setIfInBounds_toArray, List.set_cons_zero, List.set_cons_succ]; rfl) (HR.out.ext (Stab.Ext.drew _)) (fun _ _ h hE => h.ext hE) ?goals32at ?last32at
          case goals32at =>
           simp only [List.take_succ_cons, List.take_zero]
           refine Stab.Goals.plain rfl rfl (fun us w cK hE hS hp hK => ?_) ?_
           ·go_simp
            refine hK _ _ ?_ (Stab.Ext.refl _)
            show _ = _
            with_reducible rfl
           refine Stab.Goals.plain rfl rfl (fun us w cK hE hS hp hK => ?_) ?_
           ·go_simp
            refine hK _ _ ?_ (Stab.Ext.refl _)
            show _ = _
            with_reducible rfl
           refine Stab.Goals.plain rfl rfl (fun us w cK hE hS hp hK => ?_) ?_
           ·obtain ⟨h0, h1, -⟩ := hp
            replace h0 : us 0 = _ := h0
            replace h1 : us 1 = _ := h1
            go_simp
            go_wp2_with (go_at_call 22; ((with_reducible refine (HUP.out _ hS.at_).mono ?_); rintro e w1 ⟨rfl, rfl⟩))
            refine hK _ _ ?_ (Stab.Ext.refl _)
            show _ = _
            with_reducible rfl
           refine Stab.Goals.plain rfl rfl (fun us w cK hE hS hp hK => ?_) ?_
           ·obtain ⟨h2, -⟩ := hp
            replace h2 : us 2 = _ := h2
            go_simp
            refine hK _ _ ?_ (Stab.Ext.refl _)
            show _ = _
            with_reducible rfl
           refine Stab.Goals.guarded rfl rfl (fun us w cK hE hS hp hK => ?_) ?_
           ·obtain ⟨h3, -⟩ := hp
            replace h3 : us 3 = _ := h3
            refine ⟨_, h3, fun _ => ?_, fun h => absurd rfl h⟩
            go_simp
            refine hK _ _ ?_ (Stab.Ext.refl _)
            show _ = _
            with_reducible rfl
           refine Stab.Goals.guarded rfl rfl (fun us w cK hE hS hp hK => ?_) ?_
           ·obtain ⟨h4, h3, -⟩ := hp
            replace h4 : us 4 = _ := h4
            replace h3 : us 3 = _ := h3
            refine ⟨_, h3, fun _ => ?_, fun h => absurd rfl h⟩
            go_simp
            refine hK _ _ ?_ (Stab.Ext.refl _)
            show _ = _
            with_reducible rfl
           refine Stab.Goals.guarded rfl rfl (fun us w cK hE hS hp hK => ?_) ?_
           ·obtain ⟨h5, h3, -⟩ := hp
            replace h5 : us 5 = _ := h5
            replace h3 : us 3 = _ := h3
            refine ⟨_, h3, fun _ => ?_, fun h => absurd rfl h⟩
            go_simp
            refine hK _ _ ?_ (Stab.Ext.refl _)
            show _ = _
            with_reducible rfl
           refine Stab.Goals.plain rfl rfl (fun us w cK hE hS hp hK => ?_) ?_
           ·obtain ⟨h3, h6, -⟩ := hp
            replace h3 : us 3 = _ := h3
            replace h6 : us 6 = _ := h6
            go_simp
            refine hK _ _ ?_ (Stab.Ext.refl _)
            show _ = _
            with_reducible rfl
           refine Stab.Goals.plain rfl rfl (fun us w cK hE hS hp hK => ?_) ?_
           ·obtain ⟨h7, -⟩ := hp
            replace h7 : us 7 = _ := h7
            go_simp
            refine hK _ _ ?_ (Stab.Ext.refl _)
            show _ = _
            with_reducible rfl
           refine Stab.Goals.guarded rfl rfl (fun us w cK hE hS hp hK => ?_) ?_
           ·obtain ⟨h8, -⟩ := hp
            replace h8 : us 8 = _ := h8
            refine ⟨_, h8, fun _ => ?_, fun h => absurd rfl h⟩
            go_simp
            refine hK _ _ ?_ (Stab.Ext.refl _)
            show _ = _
            with_reducible rfl
           refine Stab.Goals.guarded rfl rfl (fun us w cK hE hS hp hK => ?_) ?_
           ·obtain ⟨h9, h8, -⟩ := hp
            replace h9 : us 9 = _ := h9
            replace h8 : us 8 = _ := h8
            refine ⟨_, h8, fun _ => ?_, fun h => absurd rfl h⟩
            go_simp
            refine hK _ _ ?_ (Stab.Ext.refl _)
            show _ = _
            with_reducible rfl
           refine Stab.Goals.guarded rfl rfl (fun us w cK hE hS hp hK => ?_) ?_
           ·obtain ⟨h10, h8, -⟩ := hp
            replace h10 : us 10 = _ := h10
            replace h8 : us 8 = _ := h8
            refine ⟨_, h8, fun _ => ?_, fun h => absurd rfl h⟩
            go_simp
            refine hK _ _ ?_ (Stab.Ext.refl _)
            show _ = _
            with_reducible rfl
           refine Stab.Goals.guarded rfl rfl (fun us w cK hE hS hp hK => ?_) ?_
           ·obtain ⟨h11, h8, -⟩ := hp
            replace h11 : us 11 = _ := h11
            replace h8 : us 8 = _ := h8
            refine ⟨_, h8, fun _ => ?_, fun h => absurd rfl h⟩
            have s0 := hS.c1; have s1 := hS.c2
            go_simp
            refine hK _ _ ?_ (Stab.Ext.refl _)
            show _ = _
            with_reducible rfl
           refine Stab.Goals.guarded rfl rfl (fun us w cK hE hS hp hK => ?_) ?_
           ·obtain ⟨h8, -⟩ := hp
            replace h8 : us 8 = _ := h8
            refine ⟨_, h8, fun _ => ?_, fun h => absurd rfl h⟩
            go_simp
            refine hK _ _ ?_ (Stab.Ext.refl _)
            show _ = _
            with_reducible rfl
           refine Stab.Goals.guarded rfl rfl (fun us w cK hE hS hp hK => ?_) ?_
           ·obtain ⟨h8, -⟩ := hp
            replace h8 : us 8 = _ := h8
            refine ⟨_, h8, fun _ => ?_, fun h => absurd rfl h⟩
            go_simp
            refine hK _ _ ?_ (Stab.Ext.refl _)
            show _ = _
            with_reducible rfl
           refine Stab.Goals.guarded rfl rfl (fun us w cK hE hS hp hK => ?_) ?_
           ·obtain ⟨h13, h14, h8, -⟩ := hp
            replace h13 : us 13 = _ := h13
            replace h14 : us 14 = _ := h14
            replace h8 : us 8 = _ := h8
            refine ⟨_, h8, fun _ => ?_, fun h => absurd rfl h⟩
            go_simp
            refine hK _ _ ?_ (Stab.Ext.refl _)
            show _ = _
            with_reducible rfl
           refine Stab.Goals.guarded rfl rfl (fun us w cK hE hS hp hK => ?_) ?_
           ·obtain ⟨h15, h8, -⟩ := hp
            replace h15 : us 15 = _ := h15
            replace h8 : us 8 = _ := h8
            refine ⟨_, h8, fun _ => ?_, fun h => absurd rfl h⟩
            have s0 := hS.c1; have s1 := hS.c2
            go_simp
            refine hK _ _ ?_ (Stab.Ext.refl _)
            show _ = _
            with_reducible rfl
           refine Stab.Goals.guarded rfl rfl (fun us w cK hE hS hp hK => ?_) ?_
           ·obtain ⟨h12, h16, h8, -⟩ := hp
            replace h12 : us 12 = _ := h12
            replace h16 : us 16 = _ := h16
            replace h8 : us 8 = _ := h8
            refine ⟨_, h8, fun _ => ?_, fun h => absurd rfl h⟩
            go_simp
            refine hK _ _ ?_ (Stab.Ext.refl _)
            show _ = _
            with_reducible rfl
           refine Stab.Goals.plain rfl rfl (fun us w cK hE hS hp hK => ?_) ?_
           ·obtain ⟨h8, h17, -⟩ := hp
            replace h8 : us 8 = _ := h8
            replace h17 : us 17 = _ := h17
            go_simp
            refine hK _ _ ?_ (Stab.Ext.refl _)
            show _ = _
            with_reducible rfl
           exact Stab.Goals.nil
          case last32at =>
           intro us w12 hE hS hp
           obtain ⟨h18, -⟩ := hp
           replace h18 : us 18 = _ := h18
           simp only [List.drop_succ_cons, List.drop_zero, h18, Nat.zero_add, Nat.reduceAdd]
           have HE12 := Lib.hid ((HE11.out.trans (Stab.Ext.drew _)).trans hE)
           clear hE hS h18
           go_wp2_with fail
           go_roundw
           case rel => exact ⟨q + 1, by omega, by go_num, by rw [HH.out, List.length_append]; simp only [List.length_cons, List.length_nil]; go_num, HE12.out⟩
           case measure => simp [intOf]; omega
         ·have HR := Lib.hid (show Rd31 b p5 O10 w11 from ⟨at_ext hat11 HE1r.out⟩)
          have HH := Lib.hid (hvL_no hsn).1
          simp only [hup] at HUP
          clear hob11 hsn hup
          go_wp2_with fail
          refine Stab.wp_region_stable 19 180 [some 139, some 140, some 141, some 142, some 143, some 144, some 145, some 146, some 147, some 148, some 149, some 150, some 151, some 152, some 153, some 154, some 155, some 156, some 157] [[], [], [0, 1], [2], [3], [4, 3], [5, 3], [3, 6], [7], [8], [9, 8], [10, 8], [11, 8], [8], [8], [13, 14, 8], [15, 8], [12, 16, 8], [8, 17]] [18] (Rd31 b p5 O10) [Stab.eqv ?r32bte0, Stab.eqv ?r32bte1, Stab.eqv ?r32bte2, Stab.eqv ?r32bte3, Stab.eqv ?r32bte4, Stab.eqv ?r32bte5, Stab.eqv ?r32bte6, Stab.eqv ?r32bte7, Stab.eqv ?r32bte8, Stab.eqv ?r32bte9, Stab.eqv ?r32bte10, Stab.eqv ?r32bte11, Stab.eqv ?r32bte12, Stab.eqv ?r32bte13, Stab.eqv ?r32bte14, Stab.eqv ?r32bte15, Stab.eqv ?r32bte16, Stab.eqv ?r32bte17, Stab.eqv ?r32bte18] (by kernel_rfl) rfl (by kernel_rfl) (by kernel_rfl) (fun us => by simp only [Stab.putAll, Act.put, List.setIfInBounds_toArray, List.set_cons_zero, List.set_cons_succ]; rfl) (HR.out.ext (Stab.Ext.drew _)) (fun _ _ h hE => h.ext hE) ?goals32bt ?last32bt
          case goals32bt =>
           simp only [List.take_succ_cons, List.take_zero]
           refine Stab.Goals.plain rfl rfl (fun us w cK hE hS hp hK => ?_) ?_
           ·go_simp
            refine hK _ _ ?_ (Stab.Ext.refl _)
            show _ = _
            with_reducible rfl
           refine Stab.Goals.plain rfl rfl (fun us w cK hE hS hp hK => ?_) ?_
           ·go_simp
            refine hK _ _ ?_ (Stab.Ext.refl _)
            show _ = _
            with_reducible rfl
           refine Stab.Goals.plain rfl rfl (fun us w cK hE hS hp hK => ?_) ?_
           ·obtain ⟨h0, h1, -⟩ := hp
            replace h0 : us 0 = _ := h0
            replace h1 : us 1 = _ := h1
            go_simp
            go_wp2_with (go_at_call 22; ((with_reducible refine (HUP.out _ hS.at_).mono ?_); rintro e w1 ⟨rfl, rfl⟩))
            refine hK _ _ ?_ (Stab.Ext.refl _)
            show _ = _
            with_reducible rfl
           refine Stab.Goals.plain rfl rfl (fun us w cK hE hS hp hK => ?_) ?_
           ·obtain ⟨h2, -⟩ := hp
            replace h2 : us 2 = _ := h2
            go_simp
            refine hK _ _ ?_ (Stab.Ext.refl _)
            show _ = _
            with_reducible rfl
           refine Stab.Goals.guarded rfl rfl (fun us w cK hE hS hp hK => ?_) ?_
           ·obtain ⟨h3, -⟩ := hp
            replace h3 : us 3 = _ := h3
            refine ⟨_, h3, fun h => (by cases h), fun _ => ?_⟩
            refine hK _ _ ?_ (Stab.Ext.refl _)
            show _ = _
            with_reducible rfl
           refine Stab.Goals.guarded rfl rfl (fun us w cK hE hS hp hK => ?_) ?_
           ·obtain ⟨h4, h3, -⟩ := hp
            replace h4 : us 4 = _ := h4
            replace h3 : us 3 = _ := h3
            refine ⟨_, h3, fun h => (by cases h), fun _ => ?_⟩
            refine hK _ _ ?_ (Stab.Ext.refl _)
            show _ = _
            with_reducible rfl
           refine Stab.Goals.guarded rfl rfl (fun us w cK hE hS hp hK => ?_) ?_
           ·obtain ⟨h5, h3, -⟩ := hp
            replace h5 : us 5 = _ := h5
            replace h3 : us 3 = _ := h3
            refine ⟨_, h3, fun h => (by cases h), fun _ => ?_⟩
            refine hK _ _ ?_ (Stab.Ext.refl _)
            show _ = _
            with_reducible rfl
           refine Stab.Goals.plain rfl rfl (fun us w cK hE hS hp hK => ?_) ?_
           ·obtain ⟨h3, h6, -⟩ := hp
            replace h3 : us 3 = _ := h3
            replace h6 : us 6 = _ := h6
            go_simp
            refine hK _ _ ?_ (Stab.Ext.refl _)
            show _ = _
            with_reducible rfl
           refine Stab.Goals.plain rfl rfl (fun us w cK hE hS hp hK => ?_) ?_
           ·obtain ⟨h7, -⟩ := hp
            replace h7 : us 7 = _ := h7
            go_simp
            refine hK _ _ ?_ (Stab.Ext.refl _)
            show _ = _
            with_reducible rfl
           refine Stab.Goals.guarded rfl rfl (fun us w cK hE hS hp hK => ?_) ?_
           ·obtain ⟨h8, -⟩ := hp
            replace h8 : us 8 = _ := h8
            refine ⟨_, h8, fun h => (by cases h), fun _ => ?_⟩
            refine hK _ _ ?_ (Stab.Ext.refl _)
            show _ = _
            with_reducible rfl
           refine Stab.Goals.guarded rfl rfl (fun us w cK hE hS hp hK => ?_) ?_
           ·obtain ⟨h9, h8, -⟩ := hp
            replace h9 : us 9 = _ := h9
            replace h8 : us 8 = _ := h8
            refine ⟨_, h8, fun h => (by cases h), fun _ => ?_⟩
            refine hK _ _ ?_ (Stab.Ext.refl _)
            show _ = _
            with_reducible rfl
           refine Stab.Goals.guarded rfl rfl (fun us w cK hE hS hp hK => ?_) ?_
           ·obtain ⟨h10, h8, -⟩ := hp
            replace h10 : us 10 = _ := h10
            replace h8 : us 8 = _ := h8
            refine ⟨_, h8, fun h => (by cases h), fun _ => ?_⟩
            refine hK _ _ ?_ (Stab.Ext.refl _)
            show _ = _
            with_reducible rfl
           refine Stab.Goals.guarded rfl rfl (fun us w cK hE hS hp hK => ?_) ?_
           ·obtain ⟨h11, h8, -⟩ := hp
            replace h11 : us 11 = _ := h11
            replace h8 : us 8 = _ := h8
            refine ⟨_, h8, fun h => (by cases h), fun _ => ?_⟩
            refine hK _ _ ?_ (Stab.Ext.refl _)
            show _ = _
            with_reducible rfl
           refine Stab.Goals.guarded rfl rfl (fun us w cK hE hS hp hK => ?_) ?_
           ·obtain ⟨h8, -⟩ := hp
            replace h8 : us 8 = _ := h8
            refine ⟨_, h8, fun h => (by cases h), fun _ => ?_⟩
            refine hK _ _ ?_ (Stab.Ext.refl _)
            show _ = _
            with_reducible rfl
           refine Stab.Goals.guarded rfl rfl (fun us w cK hE hS hp hK => ?_) ?_
           ·obtain ⟨h8, -⟩ := hp
            replace h8 : us 8 = _ := h8
            refine ⟨_, h8, fun h => (by cases h), fun _ => ?_⟩
            refine hK _ _ ?_ (Stab.Ext.refl _)
            show _ = _
            with_reducible rfl
           refine Stab.Goals.guarded rfl rfl (fun us w cK hE hS hp hK => ?_) ?_
           ·obtain ⟨h13, h14, h8, -⟩ := hp
            replace h13 : us 13 = _ := h13
            replace h14 : us 14 = _ := h14
            replace h8 : us 8 = _ := h8
            refine ⟨_, h8, fun h => (by cases h), fun _ => ?_⟩
            refine hK _ _ ?_ (Stab.Ext.refl _)
            show _ = _
            with_reducible rfl
           refine Stab.Goals.guarded rfl rfl (fun us w cK hE hS hp hK => ?_) ?_
           ·obtain ⟨h15, h8, -⟩ := hp
            replace h15 : us 15 = _ := h15
            replace h8 : us 8 = _ := h8
            refine ⟨_, h8, fun h => (by cases h), fun _ => ?_⟩
            refine hK _ _ ?_ (Stab.Ext.refl _)
            show _ = _
            with_reducible rfl
           refine Stab.Goals.guarded rfl rfl (fun us w cK hE hS hp hK => ?_) ?_
           ·obtain ⟨h12, h16, h8, -⟩ := hp
            replace h12 : us 12 = _ := h12
            replace h16 : us 16 = _ := h16
            replace h8 : us 8 = _ := h8
            refine ⟨_, h8, fun h => (by cases h), fun _ => ?_⟩
            refine hK _ _ ?_ (Stab.Ext.refl _)
            show _ = _
            with_reducible rfl
           refine Stab.Goals.plain rfl rfl (fun us w cK hE hS hp hK => ?_) ?_
           ·obtain ⟨h8, h17, -⟩ := hp
            replace h8 : us 8 = _ := h8
            replace h17 : us 17 = _ := h17
            go_simp
            refine hK _ _ ?_ (Stab.Ext.refl _)
            show _ = _
            with_reducible rfl
           exact Stab.Goals.nil
          case last32bt =>
           intro us w12 hE hS hp
           obtain ⟨h18, -⟩ := hp
           replace h18 : us 18 = _ := h18
           simp only [List.drop_succ_cons, List.drop_zero, h18, Nat.zero_add, Nat.reduceAdd]
           have HE12 := Lib.hid ((HE11.out.trans (Stab.Ext.drew _)).trans hE)
           clear hE hS h18
           go_wp2_with fail
           go_roundw
           case rel => exact ⟨q + 1, by omega, by go_num, by rw [HH.out], HE12.out⟩
           case measure => simp [intOf]; omega
         ·rw [ho] at hob11
          obtain ⟨A1, c1, rfl⟩ := none_at hob11
          have HR := Lib.hid (show Rd31 b p5 O10 w11 from ⟨at_ext hat11 HE1r.out⟩)
          have HH := Lib.hid (hvL_no hsn).1
          simp only [hup] at HUP
          clear hob11 hsn hup
          go_wp2_with fail
          refine Stab.wp_region_stable 19 180 [some 139, some 140, some 141, some 142, some 143, some 144, some 145, some 146, some 147, some 148, some 149, some 150, some 151, some 152, some 153, some 154, some 155, some 156, some 157] [[], [], [0, 1], [2], [3], [4, 3], [5, 3], [3, 6], [7], [8], [9, 8], [10, 8], [11, 8], [8], [8], [13, 14, 8], [15, 8], [12, 16, 8], [8, 17]] [18] (Rd31 b p5 O10) [Stab.eqv ?r32cte0, Stab.eqv ?r32cte1, Stab.eqv ?r32cte2, Stab.eqv ?r32cte3, Stab.eqv ?r32cte4, Stab.eqv ?r32cte5, Stab.eqv ?r32cte6, Stab.eqv ?r32cte7, Stab.eqv ?r32cte8, Stab.eqv ?r32cte9, Stab.eqv ?r32cte10, Stab.eqv ?r32cte11, Stab.eqv ?r32cte12, Stab.eqv ?r32cte13, Stab.eqv ?r32cte14, Stab.eqv ?r32cte15, Stab.eqv ?r32cte16, Stab.eqv ?r32cte17, Stab.eqv ?r32cte18] (by kernel_rfl) rfl (by kernel_rfl) (by kernel_rfl) (fun us => by simp only [Stab.putAll, Act.put, List.setIfInBounds_toArray, List.set_cons_zero, List.set_cons_succ]; rfl) (HR.out.ext (Stab.Ext.drew _)) (fun _ _ h hE => h.ext hE) ?goals32ct ?last32ct
          case goals32ct =>
           simp only [List.take_succ_cons, List.take_zero]
           refine Stab.Goals.plain rfl rfl (fun us w cK hE hS hp hK => ?_) ?_
           ·go_simp
            refine hK _ _ ?_ (Stab.Ext.refl _)
            show _ = _
            with_reducible rfl
           refine Stab.Goals.plain rfl rfl (fun us w cK hE hS hp hK => ?_) ?_
           ·go_simp
            refine hK _ _ ?_ (Stab.Ext.refl _)
            show _ = _
            with_reducible rfl
           refine Stab.Goals.plain rfl rfl (fun us w cK hE hS hp hK => ?_) ?_
           ·obtain ⟨h0, h1, -⟩ := hp
            replace h0 : us 0 = _ := h0
            replace h1 : us 1 = _ := h1
            go_simp
            go_wp2_with (go_at_call 22; ((with_reducible refine (HUP.out _ hS.at_).mono ?_); rintro e w1 ⟨rfl, rfl⟩))
            refine hK _ _ ?_ (Stab.Ext.refl _)
            show _ = _
            with_reducible rfl
           refine Stab.Goals.plain rfl rfl (fun us w cK hE hS hp hK => ?_) ?_
           ·obtain ⟨h2, -⟩ := hp
            replace h2 : us 2 = _ := h2
            go_simp
            refine hK _ _ ?_ (Stab.Ext.refl _)
            show _ = _
            with_reducible rfl
           refine Stab.Goals.guarded rfl rfl (fun us w cK hE hS hp hK => ?_) ?_
           ·obtain ⟨h3, -⟩ := hp
            replace h3 : us 3 = _ := h3
            refine ⟨_, h3, fun _ => ?_, fun h => absurd rfl h⟩
            go_simp
            refine hK _ _ ?_ (Stab.Ext.refl _)
            show _ = _
            with_reducible rfl
           refine Stab.Goals.guarded rfl rfl (fun us w cK hE hS hp hK => ?_) ?_
           ·obtain ⟨h4, h3, -⟩ := hp
            replace h4 : us 4 = _ := h4
            replace h3 : us 3 = _ := h3
            refine ⟨_, h3, fun _ => ?_, fun h => absurd rfl h⟩
            go_simp
            refine hK _ _ ?_ (Stab.Ext.refl _)
            show _ = _
            with_reducible rfl
           refine Stab.Goals.guarded rfl rfl (fun us w cK hE hS hp hK => ?_) ?_
           ·obtain ⟨h5, h3, -⟩ := hp
            replace h5 : us 5 = _ := h5
            replace h3 : us 3 = _ := h3
            refine ⟨_, h3, fun _ => ?_, fun h => absurd rfl h⟩
            go_simp
            refine hK _ _ ?_ (Stab.Ext.refl _)
            show _ = _
            with_reducible rfl
           refine Stab.Goals.plain rfl rfl (fun us w cK hE hS hp hK => ?_) ?_
           ·obtain ⟨h3, h6, -⟩ := hp
            replace h3 : us 3 = _ := h3
            replace h6 : us 6 = _ := h6
            go_simp
            refine hK _ _ ?_ (Stab.Ext.refl _)
            show _ = _
            with_reducible rfl
           refine Stab.Goals.plain rfl rfl (fun us w cK hE hS hp hK => ?_) ?_
           ·obtain ⟨h7, -⟩ := hp
            replace h7 : us 7 = _ := h7
            go_simp
            refine hK _ _ ?_ (Stab.Ext.refl _)
            show _ = _
            with_reducible rfl
           refine Stab.Goals.guarded rfl rfl (fun us w cK hE hS hp hK => ?_) ?_
           ·obtain ⟨h8, -⟩ := hp
            replace h8 : us 8 = _ := h8
            refine ⟨_, h8, fun h => (by cases h), fun _ => ?_⟩
            refine hK _ _ ?_ (Stab.Ext.refl _)
            show _ = _
            with_reducible rfl
           refine Stab.Goals.guarded rfl rfl (fun us w cK hE hS hp hK => ?_) ?_
           ·obtain ⟨h9, h8, -⟩ := hp
            replace h9 : us 9 = _ := h9
            replace h8 : us 8 = _ := h8
            refine ⟨_, h8, fun h => (by cases h), fun _ => ?_⟩
            refine hK _ _ ?_ (Stab.Ext.refl _)
            show _ = _
            with_reducible rfl
           refine Stab.Goals.guarded rfl rfl (fun us w cK hE hS hp hK => ?_) ?_
           ·obtain ⟨h10, h8, -⟩ := hp
            replace h10 : us 10 = _ := h10
            replace h8 : us 8 = _ := h8
            refine ⟨_, h8, fun h => (by cases h), fun _ => ?_⟩
            refine hK _ _ ?_ (Stab.Ext.refl _)
            show _ = _
            with_reducible rfl
           refine Stab.Goals.guarded rfl rfl (fun us w cK hE hS hp hK => ?_) ?_
           ·obtain ⟨h11, h8, -⟩ := hp
            replace h11 : us 11 = _ := h11
            replace h8 : us 8 = _ := h8
            refine ⟨_, h8, fun h => (by cases h), fun _ => ?_⟩
            refine hK _ _ ?_ (Stab.Ext.refl _)
            show _ = _
            with_reducible rfl
           refine Stab.Goals.guarded rfl rfl (fun us w cK hE hS hp hK => ?_) ?_
           ·obtain ⟨h8, -⟩ := hp
            replace h8 : us 8 = _ := h8
            refine ⟨_, h8, fun h => (by cases h), fun _ => ?_⟩
            refine hK _ _ ?_ (Stab.Ext.refl _)
            show _ = _
            with_reducible rfl
           refine Stab.Goals.guarded rfl rfl (fun us w cK hE hS hp hK => ?_) ?_
           ·obtain ⟨h8, -⟩ := hp
            replace h8 : us 8 = _ := h8
            refine ⟨_, h8, fun h => (by cases h), fun _ => ?_⟩
            refine hK _ _ ?_ (Stab.Ext.refl _)
            show _ = _
            with_reducible rfl
           refine Stab.Goals.guarded rfl rfl (fun us w cK hE hS hp hK => ?_) ?_
           ·obtain ⟨h13, h14, h8, -⟩ := hp
            replace h13 : us 13 = _ := h13
            replace h14 : us 14 = _ := h14
            replace h8 : us 8 = _ := h8
            refine ⟨_, h8, fun h => (by cases h), fun _ => ?_⟩
            refine hK _ _ ?_ (Stab.Ext.refl _)
            show _ = _
            with_reducible rfl
           refine Stab.Goals.guarded rfl rfl (fun us w cK hE hS hp hK => ?_) ?_
           ·obtain ⟨h15, h8, -⟩ := hp
            replace h15 : us 15 = _ := h15
            replace h8 : us 8 = _ := h8
            refine ⟨_, h8, fun h => (by cases h), fun _ => ?_⟩
            refine hK _ _ ?_ (Stab.Ext.refl _)
            show _ = _
            with_reducible rfl
           refine Stab.Goals.guarded rfl rfl (fun us w cK hE hS hp hK => ?_) ?_
           ·obtain ⟨h12, h16, h8, -⟩ := hp
            replace h12 : us 12 = _ := h12
            replace h16 : us 16 = _ := h16
            replace h8 : us 8 = _ := h8
            refine ⟨_, h8, fun h => (by cases h), fun _ => ?_⟩
            refine hK _ _ ?_ (Stab.Ext.refl _)
            show _ = _
            with_reducible rfl
           refine Stab.Goals.plain rfl rfl (fun us w cK hE hS hp hK => ?_) ?_
           ·obtain ⟨h8, h17, -⟩ := hp
            replace h8 : us 8 = _ := h8
            replace h17 : us 17 = _ := h17
            go_simp
            refine hK _ _ ?_ (Stab.Ext.refl _)
            show _ = _
            with_reducible rfl
           exact Stab.Goals.nil
          case last32ct =>
           intro us w12 hE hS hp
           obtain ⟨h18, -⟩ := hp
           replace h18 : us 18 = _ := h18
           simp only [List.drop_succ_cons, List.drop_zero, h18, Nat.zero_add, Nat.reduceAdd]
           have HE12 := Lib.hid ((HE11.out.trans (Stab.Ext.drew _)).trans hE)
           clear hE hS h18
           go_wp2_with fail
           go_roundw
           case rel => exact ⟨q + 1, by omega, by go_num, by rw [HH.out], HE12.out⟩
           case measure => simp [intOf]; omega
         ·rw [ho] at hob11
          rw [← HGG.out] at hne
          have hyeq : (y.toList == (g q).toList) = false := by
           rw [beq_eq_false_iff_ne]
           exact fun e => hne (bytes_inj.1 e)
          obtain ⟨g1, c1, rfl, -, r0, r1⟩ := one_at hob11
          have HR := Lib.hid (show Rd32 b p5 O10 g1 bw q y (g q) w11 from ⟨at_ext hat11 HE1r.out, r1, m0⟩)
          have HH := Lib.hid (hvL_no hsn).1
          simp only [hup] at HUP
          clear hob11 hsn hup
          go_wp2_with fail
          refine Stab.wp_region_stable 19 180 [some 139, some 140, some 141, some 142, some 143, some 144, some 145, some 146, some 147, some 148, some 149, some 150, some 151, some 152, some 153, some 154, some 155, some 156, some 157] [[], [], [0, 1], [2], [3], [4, 3], [5, 3], [3, 6], [7], [8], [9, 8], [10, 8], [11, 8], [8], [8], [13, 14, 8], [15, 8], [12, 16, 8], [8, 17]] [18] (Rd32 b p5 O10 g1 bw q y (g q)) [Stab.eqv ?r32dte0, Stab.eqv ?r32dte1, Stab.eqv ?r32dte2, Stab.eqv ?r32dte3, Stab.eqv ?r32dte4, Stab.eqv ?r32dte5, Stab.eqv ?r32dte6, Stab.eqv ?r32dte7, Stab.eqv ?r32dte8, Stab.eqv ?r32dte9, Stab.eqv ?r32dte10, Stab.eqv ?r32dte11, Stab.eqv ?r32dte12, Stab.eqv ?r32dte13, Stab.eqv ?r32dte14, Stab.eqv ?r32dte15, Stab.eqv ?r32dte16, Stab.eqv ?r32dte17, Stab.eqv ?r32dte18] (by kernel_rfl) rfl (by kernel_rfl) (by kernel_rfl) (fun us => by simp only [Stab.putAll, Act.put, List.setIfInBounds_toArray, List.set_cons_zero, List.set_cons_succ]; rfl) (HR.out.ext (Stab.Ext.drew _)) (fun _ _ h hE => h.ext hE) ?goals32dt ?last32dt
          case goals32dt =>
           simp only [List.take_succ_cons, List.take_zero]
           refine Stab.Goals.plain rfl rfl (fun us w cK hE hS hp hK => ?_) ?_
           ·go_simp
            refine hK _ _ ?_ (Stab.Ext.refl _)
            show _ = _
            with_reducible rfl
           refine Stab.Goals.plain rfl rfl (fun us w cK hE hS hp hK => ?_) ?_
           ·go_simp
            refine hK _ _ ?_ (Stab.Ext.refl _)
            show _ = _
            with_reducible rfl
           refine Stab.Goals.plain rfl rfl (fun us w cK hE hS hp hK => ?_) ?_
           ·obtain ⟨h0, h1, -⟩ := hp
            replace h0 : us 0 = _ := h0
            replace h1 : us 1 = _ := h1
            go_simp
            go_wp2_with (go_at_call 22; ((with_reducible refine (HUP.out _ hS.at_).mono ?_); rintro e w1 ⟨rfl, rfl⟩))
            refine hK _ _ ?_ (Stab.Ext.refl _)
            show _ = _
            with_reducible rfl
           refine Stab.Goals.plain rfl rfl (fun us w cK hE hS hp hK => ?_) ?_
           ·obtain ⟨h2, -⟩ := hp
            replace h2 : us 2 = _ := h2
            go_simp
            refine hK _ _ ?_ (Stab.Ext.refl _)
            show _ = _
            with_reducible rfl
           refine Stab.Goals.guarded rfl rfl (fun us w cK hE hS hp hK => ?_) ?_
           ·obtain ⟨h3, -⟩ := hp
            replace h3 : us 3 = _ := h3
            refine ⟨_, h3, fun _ => ?_, fun h => absurd rfl h⟩
            go_simp
            refine hK _ _ ?_ (Stab.Ext.refl _)
            show _ = _
            with_reducible rfl
           refine Stab.Goals.guarded rfl rfl (fun us w cK hE hS hp hK => ?_) ?_
           ·obtain ⟨h4, h3, -⟩ := hp
            replace h4 : us 4 = _ := h4
            replace h3 : us 3 = _ := h3
            refine ⟨_, h3, fun _ => ?_, fun h => absurd rfl h⟩
            go_simp
            refine hK _ _ ?_ (Stab.Ext.refl _)
            show _ = _
            with_reducible rfl
           refine Stab.Goals.guarded rfl rfl (fun us w cK hE hS hp hK => ?_) ?_
           ·obtain ⟨h5, h3, -⟩ := hp
            replace h5 : us 5 = _ := h5
            replace h3 : us 3 = _ := h3
            refine ⟨_, h3, fun _ => ?_, fun h => absurd rfl h⟩
            go_simp
            refine hK _ _ ?_ (Stab.Ext.refl _)
            show _ = _
            with_reducible rfl
           refine Stab.Goals.plain rfl rfl (fun us w cK hE hS hp hK => ?_) ?_
           ·obtain ⟨h3, h6, -⟩ := hp
            replace h3 : us 3 = _ := h3
            replace h6 : us 6 = _ := h6
            go_simp
            refine hK _ _ ?_ (Stab.Ext.refl _)
            show _ = _
            with_reducible rfl
           refine Stab.Goals.plain rfl rfl (fun us w cK hE hS hp hK => ?_) ?_
           ·obtain ⟨h7, -⟩ := hp
            replace h7 : us 7 = _ := h7
            go_simp
            refine hK _ _ ?_ (Stab.Ext.refl _)
            show _ = _
            with_reducible rfl
           refine Stab.Goals.guarded rfl rfl (fun us w cK hE hS hp hK => ?_) ?_
           ·obtain ⟨h8, -⟩ := hp
            replace h8 : us 8 = _ := h8
            refine ⟨_, h8, fun _ => ?_, fun h => absurd rfl h⟩
            go_simp
            refine hK _ _ ?_ (Stab.Ext.refl _)
            show _ = _
            with_reducible rfl
           refine Stab.Goals.guarded rfl rfl (fun us w cK hE hS hp hK => ?_) ?_
           ·obtain ⟨h9, h8, -⟩ := hp
            replace h9 : us 9 = _ := h9
            replace h8 : us 8 = _ := h8
            refine ⟨_, h8, fun _ => ?_, fun h => absurd rfl h⟩
            go_simp
            refine hK _ _ ?_ (Stab.Ext.refl _)
            show _ = _
            with_reducible rfl
           refine Stab.Goals.guarded rfl rfl (fun us w cK hE hS hp hK => ?_) ?_
           ·obtain ⟨h10, h8, -⟩ := hp
            replace h10 : us 10 = _ := h10
            replace h8 : us 8 = _ := h8
            refine ⟨_, h8, fun _ => ?_, fun h => absurd rfl h⟩
            go_simp
            refine hK _ _ ?_ (Stab.Ext.refl _)
            show _ = _
            with_reducible rfl
           refine Stab.Goals.guarded rfl rfl (fun us w cK hE hS hp hK => ?_) ?_
           ·obtain ⟨h11, h8, -⟩ := hp
            replace h11 : us 11 = _ := h11
            replace h8 : us 8 = _ := h8
            refine ⟨_, h8, fun _ => ?_, fun h => absurd rfl h⟩
            have s0 := hS.c1; have s1 := hS.c2
            go_simp
            refine hK _ _ ?_ (Stab.Ext.refl _)
            show _ = _
            with_reducible rfl
           refine Stab.Goals.guarded rfl rfl (fun us w cK hE hS hp hK => ?_) ?_
           ·obtain ⟨h8, -⟩ := hp
            replace h8 : us 8 = _ := h8
            refine ⟨_, h8, fun _ => ?_, fun h => absurd rfl h⟩
            go_simp
            refine hK _ _ ?_ (Stab.Ext.refl _)
            show _ = _
            with_reducible rfl
           refine Stab.Goals.guarded rfl rfl (fun us w cK hE hS hp hK => ?_) ?_
           ·obtain ⟨h8, -⟩ := hp
            replace h8 : us 8 = _ := h8
            refine ⟨_, h8, fun _ => ?_, fun h => absurd rfl h⟩
            go_simp
            refine hK _ _ ?_ (Stab.Ext.refl _)
            show _ = _
            with_reducible rfl
           refine Stab.Goals.guarded rfl rfl (fun us w cK hE hS hp hK => ?_) ?_
           ·obtain ⟨h13, h14, h8, -⟩ := hp
            replace h13 : us 13 = _ := h13
            replace h14 : us 14 = _ := h14
            replace h8 : us 8 = _ := h8
            refine ⟨_, h8, fun _ => ?_, fun h => absurd rfl h⟩
            go_simp
            refine hK _ _ ?_ (Stab.Ext.refl _)
            show _ = _
            with_reducible rfl
           refine Stab.Goals.guarded rfl rfl (fun us w cK hE hS hp hK => ?_) ?_
           ·obtain ⟨h15, h8, -⟩ := hp
            replace h15 : us 15 = _ := h15
            replace h8 : us 8 = _ := h8
            refine ⟨_, h8, fun _ => ?_, fun h => absurd rfl h⟩
            have s0 := hS.c1; have s1 := hS.c2
            go_simp
            refine hK _ _ ?_ (Stab.Ext.refl _)
            show _ = _
            with_reducible rfl
           refine Stab.Goals.guarded rfl rfl (fun us w cK hE hS hp hK => ?_) ?_
           ·obtain ⟨h12, h16, h8, -⟩ := hp
            replace h12 : us 12 = _ := h12
            replace h16 : us 16 = _ := h16
            replace h8 : us 8 = _ := h8
            refine ⟨_, h8, fun _ => ?_, fun h => absurd rfl h⟩
            go_simp
            refine hK _ _ ?_ (Stab.Ext.refl _)
            show _ = _
            with_reducible rfl
           refine Stab.Goals.plain rfl rfl (fun us w cK hE hS hp hK => ?_) ?_
           ·obtain ⟨h8, h17, -⟩ := hp
            replace h8 : us 8 = _ := h8
            replace h17 : us 17 = _ := h17
            go_simp
            refine hK _ _ ?_ (Stab.Ext.refl _)
            show _ = _
            with_reducible rfl
           exact Stab.Goals.nil
          case last32dt =>
           intro us w12 hE hS hp
           obtain ⟨h18, -⟩ := hp
           replace h18 : us 18 = _ := h18
           simp only [List.drop_succ_cons, List.drop_zero, h18, Nat.zero_add, Nat.reduceAdd]
           have HE12 := Lib.hid ((HE11.out.trans (Stab.Ext.drew _)).trans hE)
           clear hE hS h18
           go_wp2_with fail
           go_roundw
           case rel => exact ⟨q + 1, by omega, by go_num, by rw [HH.out], HE12.out⟩
           case measure => simp [intOf]; omega
        ·obtain rfl : n = q := by omega
         have d3 : ¬ ((n : Int) < (n : Int)) := by omega
         have hkk := HK10.out.kept
         have hB12 := HB10.out.ext hE
         have hC12 := HC10.out.ext hE
         have hrd := read_calm HNM.out HD.out hkk.fit.calm hkk.fit.n_ hkk.only
         have hcn : cntN p5 d k n = (hvL p5 d k n n).length := rfl
         rw [hcn] at hrd
         have hRD := read_any (hB12.vars HV.out) hB12.at_ (hB12.far HG.out) k n hcd hkk.fit.n_ d HNM.out.dig (fun q hq => pay_small hkk.fit.calm (fun i => bnd_of (hkk.fit.fits i)) d k n (by rw [hkk.fit.n_]; exact hq))
         obtain ⟨rb, hrb⟩ : ∃ rb, rb = (readR p5 d k n).1 := ⟨_, rfl⟩
         obtain ⟨re, hre⟩ : ∃ re, re = (readR p5 d k n).2 := ⟨_, rfl⟩
         have hRD2 : Calls Tryz.prog 28 #[.pointer (some ⟨b, 0, none⟩), .agg #[.int .i64 (k : Int), .int .i64 (n : Int)], .string d] wr (RdT wr O10 b (readP p5 d k n) rb re) := by rw [hrb, hre]; exact hRD
         have hre2 : (rb, re) = if k ≤ (hvL p5 d k n n).length then (s, 0) else (⟨#[]⟩, 54) := by rw [hrb, hre]; exact hrd
         have HRD := Lib.hid hRD2
         have HB12 := Lib.hid hB12
         have HC12 := Lib.hid hC12
         clear hRD hRD2 hrb hre hrd hcn hkk hB12 hC12 hE
         go_wp2_with (go_at_call 28; with_reducible refine HRD.out.mono ?_)
         intro e w13 hq13
         obtain ⟨O13, he13, hwb13⟩ := hq13
         subst he13
         have HB13 := Lib.hid (HB12.out.next hwb13 HC12.out.blk.lt)
         have k0 := (HC12.out.keep hwb13.fr HB12.out.cb).c0
         clear hwb13 HRD HB12 HC12
         generalize (hvL p5 d k n n).length = m at *
         have hcase : (rb = s ∧ re = 0 ∧ k ≤ m) ∨ (rb = ⟨#[]⟩ ∧ re = 54 ∧ ¬ k ≤ m) := by
          by_cases hkm : k ≤ m
          ·rw [if_pos hkm] at hre2
           exact .inl ⟨(Prod.mk.inj hre2).1, (Prod.mk.inj hre2).2, hkm⟩
          ·rw [if_neg hkm] at hre2
           exact .inr ⟨(Prod.mk.inj hre2).1, (Prod.mk.inj hre2).2, hkm⟩
         clear hre2
         rcases hcase with ⟨hx, rfl, hkm⟩ | ⟨hx, rfl, hkm⟩
         all_goals
          replace hx := hx.symm
          subst hx
          first
           | (have hkm2 : (k : Int) ≤ (m : Int) := by omega)
           | (have hkm2 : ¬ (k : Int) ≤ (m : Int) := by omega)
          clear hkm
          go_wp2_with fail
          go_ret
          exact ⟨rfl, HB13.out.below⟩
    case false =>
     obtain ⟨p3, rfl⟩ : ∃ p3, p3 = p2 := ⟨_, rfl⟩
     obtain ⟨O8, rfl⟩ : ∃ O8, O8 = O5 := ⟨_, rfl⟩
     obtain ⟨w8, rfl⟩ : ∃ w8, w8 = wr := ⟨_, rfl⟩
     have HB8 := Lib.hid HB.out
     have HC8 := Lib.hid HCC.out
     have HW8 := Lib.hid HWA.out
     have HK8 := Lib.hid HK2.out
     have HOFF8 := Lib.hid HOFF.out
     clear HB HCC HWA HK2 HOFF HCR
     go_wp2_with fail
     go_loopw [17] (fun i wr => ∃ (q : Nat) (O' : List Nat), q ≤ l.length ∧ i = .int .i64 (q : Int) ∧ Born w w.heap.size b ((l.take q).foldl strikeP p3) O' wr ∧ CAt w.heap.size k n wr ∧ WasAt bw n g n wr ∧ bw ∉ O') (fun i _ => l.length - (intOf i).toNat)
     case atStart => exact ⟨0, O8, by omega, rfl, HB8.out, HC8.out, HW8.out, HOFF8.out⟩
     case round =>
      obtain ⟨q, O', hq, rfl, hB, hC, hWa, hoff⟩ := hrel
      by_cases hlt : q < l.length
      ·have hlt3 : (q : Int) < (l.length : Int) := by omega
       have hfq : l[q].fits := HFITS.out _ (List.getElem_mem hlt)
       have hkq := (HK8.out.strikes (l := l.take q) fun f hf => HFITS.out f (List.mem_of_mem_take hf)).kept
       have hnx : (l.take (q + 1)).foldl strikeP p3 = strikeP ((l.take q).foldl strikeP p3) l[q] := by rw [List.take_succ_eq_append_getElem hlt, List.foldl_append]; rfl
       have HST := Lib.hid (strike_any (hB.vars HV.out) hB.at_ (hB.far HG.out) hkq.fit (by omega) (by omega) l[q] hfq)
       obtain ⟨gf, of, rfl, r0, r1, r2, r3, r4⟩ := flt_at HCELLS.out hB.wb.fr hlt
       have HNX := Lib.hid hnx
       have HB := Lib.hid hB
       have HCC := Lib.hid hC
       have HWA := Lib.hid hWa
       have HOFF := Lib.hid hoff
       generalize l[q] = f at *
       obtain ⟨f1, f2, f3, f4, f5⟩ := f
       simp only at r0 r1 r2 r3 r4 HST
       clear hB hC hWa hoff hnx hkq
       go_wp2_with (go_at_call 30; with_reducible refine HST.out.mono ?_)
       rintro e w9 ⟨O9, rfl, hwb9⟩
       have HB9 := Lib.hid (HB.out.next hwb9 HCC.out.blk.lt)
       have HC9 := Lib.hid (HCC.out.keep hwb9.fr HB.out.cb)
       have HW9 := Lib.hid (HWA.out.keep hwb9.fr HOFF.out)
       have HOFF9 := Lib.hid (off_next hwb9 HOFF.out HWA.out.lt)
       clear hwb9
       go_wp2_with fail
       go_roundw
       case rel => exact ⟨q + 1, O9, by omega, by go_num, by rw [HNX.out]; exact HB9.out, HC9.out, HW9.out, HOFF9.out⟩
       case measure => simp [intOf]; omega
      ·obtain rfl : q = l.length := by omega
       have d2 : ¬ ((l.length : Int) < (l.length : Int)) := by omega
       rw [List.take_length] at hB
       have hk9 := HK8.out.strikes (l := l) HFITS.out
       generalize l.foldl strikeP p3 = p4 at *
       have hlowO := hB.low
       have HCR := Lib.hid (wcrash_any hB.at_ (by rw [hk9.kept.fit.n_]; omega) _ ls (surv_far HSV.out hB.wb.fr hlowO) (by omega) (fun i _ => hk9.crash_ok HSOK.out i))
       have HB := Lib.hid hB
       have HCC := Lib.hid hC
       have HWA := Lib.hid hWa
       have HOFF := Lib.hid hoff
       have HK9 := Lib.hid hk9
       clear hB hC hWa hoff hk9 hlowO HB8 HC8 HW8 HOFF8 HK8
       go_wp2_with (go_at_call 25; with_reducible refine HCR.out.mono ?_)
       intro e w10 hq10
       obtain ⟨O10, hB10, hf10, hX10⟩ := HB.out.op hq10 HCC.out.blk.lt
       obtain ⟨rfl, -⟩ := hq10
       have HB10 := Lib.hid hB10
       have HC10 := Lib.hid (HCC.out.keep hf10 HB.out.cb)
       have HW10 := Lib.hid (HWA.out.keep hf10 HOFF.out)
       have HK10 := Lib.hid (HK9.out.crash ls)
       have k1 := HC10.out.c1
       clear hB10 hf10 hX10
       generalize p4.crashed ls = p5 at *
       clear HB HCC HWA HK9 HOFF HCR
       go_wp2_with fail
       go_loopw [18, 19] (fun m i wx => ∃ q : Nat, q ≤ n ∧ i = .int .i64 (q : Int) ∧ m = .int .i64 ((hvL p5 d k n q).length : Nat) ∧ Stab.Ext w10 wx) (fun _ i _ => n - (intOf i).toNat)
       case atStart => exact ⟨0, by omega, rfl, rfl, Stab.Ext.refl _⟩
       case round =>
        obtain ⟨q, hq, rfl, rfl, hE⟩ := hrel
        have hql := hvL_len p5 d k n q
        have HE := Lib.hid hE
        have k0 := (HC10.out.ext hE).c0
        have k1 := (HC10.out.ext hE).c1
        by_cases hlt : q < n
        ·have hlt3 : (q : Int) < (n : Int) := by omega
         have HO := Lib.hid (wobjects_any (HB10.out.ext hE).at_ (q : Int) (fits_small (HK10.out.kept.fit.fits _) (by omega)))
         have HUP := Lib.hid (fun W (hW : WAt W b p5 O10) => wup_any hW (q : Int))
         have hat11 := (HB10.out.ext hE).at_
         clear hE
         go_wp2_with (go_at_call 17; with_reducible refine HO.out.mono ?_)
         intro e w11 ho11
         obtain ⟨v11, he11, hob11, hb11⟩ := objs_of ho11
         subst he11
         have HE1r := Lib.hid (show Stab.Ext wr w11 from hb11)
         have HE11 := Lib.hid (HE.out.trans HE1r.out)
         have m0 := (HW10.out.ext HE11.out).cell hlt
         have hml := lt_cell m0
         clear ho11 hb11 HO
         rcases kept_case HNM.out HK10.out hlt with ⟨hsn, hup, nm, ho⟩ | ⟨hsn, hup⟩ | ⟨hsn, hup, ho⟩ | ⟨hsn, hup, nm, y, ho, hne⟩
         ·rw [ho, ← HGG.out] at hob11
          obtain ⟨g1, c1, rfl, -, r0, r1⟩ := one_at hob11
          have HR := Lib.hid (show Rd32 b p5 O10 g1 bw q (g q) (g q) w11 from ⟨at_ext hat11 HE1r.out, r1, m0⟩)
          have HH := Lib.hid (hvL_yes hsn).1
          simp only [hup] at HUP
          clear hob11 hsn hup
          go_wp2_with fail
          refine Stab.wp_region_stable 19 180 [some 139, some 140, some 141, some 142, some 143, some 144, some 145, some 146, some 147, some 148, some 149, some 150, some 151, some 152, some 153, some 154, some 155, some 156, some 157] [[], [], [0, 1], [2], [3], [4, 3], [5, 3], [3, 6], [7], [8], [9, 8], [10, 8], [11, 8], [8], [8], [13, 14, 8], [15, 8], [12, 16, 8], [8, 17]] [18] (Rd32 b p5 O10 g1 bw q (g q) (g q)) [Stab.eqv ?r32afe0, Stab.eqv ?r32afe1, Stab.eqv ?r32afe2, Stab.eqv ?r32afe3, Stab.eqv ?r32afe4, Stab.eqv ?r32afe5, Stab.eqv ?r32afe6, Stab.eqv ?r32afe7, Stab.eqv ?r32afe8, Stab.eqv ?r32afe9, Stab.eqv ?r32afe10, Stab.eqv ?r32afe11, Stab.eqv ?r32afe12, Stab.eqv ?r32afe13, Stab.eqv ?r32afe14, Stab.eqv ?r32afe15, Stab.eqv ?r32afe16, Stab.eqv ?r32afe17, Stab.eqv ?r32afe18] (by kernel_rfl) rfl (by kernel_rfl) (by kernel_rfl) (fun us => by simp only [Stab.putAll, Act.put, List.setIfInBounds_toArray, List.set_cons_zero, List.set_cons_succ]; rfl) (HR.out.ext (Stab.Ext.drew _)) (fun _ _ h hE => h.ext hE) ?goals32af ?last32af
          case goals32af =>
           simp only [List.take_succ_cons, List.take_zero]
           refine Stab.Goals.plain rfl rfl (fun us w cK hE hS hp hK => ?_) ?_
           ·go_simp
            refine hK _ _ ?_ (Stab.Ext.refl _)
            show _ = _
            with_reducible rfl
           refine Stab.Goals.plain rfl rfl (fun us w cK hE hS hp hK => ?_) ?_
           ·go_simp
            refine hK _ _ ?_ (Stab.Ext.refl _)
            show _ = _
            with_reducible rfl
           refine Stab.Goals.plain rfl rfl (fun us w cK hE hS hp hK => ?_) ?_
           ·obtain ⟨h0, h1, -⟩ := hp
            replace h0 : us 0 = _ := h0
            replace h1 : us 1 = _ := h1
            go_simp
            go_wp2_with (go_at_call 22; ((with_reducible refine (HUP.out _ hS.at_).mono ?_); rintro e w1 ⟨rfl, rfl⟩))
            refine hK _ _ ?_ (Stab.Ext.refl _)
            show _ = _
            with_reducible rfl
           refine Stab.Goals.plain rfl rfl (fun us w cK hE hS hp hK => ?_) ?_
           ·obtain ⟨h2, -⟩ := hp
            replace h2 : us 2 = _ := h2
            go_simp
            refine hK _ _ ?_ (Stab.Ext.refl _)
            show _ = _
            with_reducible rfl
           refine Stab.Goals.guarded rfl rfl (fun us w cK hE hS hp hK => ?_) ?_
           ·obtain ⟨h3, -⟩ := hp
            replace h3 : us 3 = _ := h3
            refine ⟨_, h3, fun _ => ?_, fun h => absurd rfl h⟩
            go_simp
            refine hK _ _ ?_ (Stab.Ext.refl _)
            show _ = _
            with_reducible rfl
           refine Stab.Goals.guarded rfl rfl (fun us w cK hE hS hp hK => ?_) ?_
           ·obtain ⟨h4, h3, -⟩ := hp
            replace h4 : us 4 = _ := h4
            replace h3 : us 3 = _ := h3
            refine ⟨_, h3, fun _ => ?_, fun h => absurd rfl h⟩
            go_simp
            refine hK _ _ ?_ (Stab.Ext.refl _)
            show _ = _
            with_reducible rfl
           refine Stab.Goals.guarded rfl rfl (fun us w cK hE hS hp hK => ?_) ?_
           ·obtain ⟨h5, h3, -⟩ := hp
            replace h5 : us 5 = _ := h5
            replace h3 : us 3 = _ := h3
            refine ⟨_, h3, fun _ => ?_, fun h => absurd rfl h⟩
            go_simp
            refine hK _ _ ?_ (Stab.Ext.refl _)
            show _ = _
            with_reducible rfl
           refine Stab.Goals.plain rfl rfl (fun us w cK hE hS hp hK => ?_) ?_
           ·obtain ⟨h3, h6, -⟩ := hp
            replace h3 : us 3 = _ := h3
            replace h6 : us 6 = _ := h6
            go_simp
            refine hK _ _ ?_ (Stab.Ext.refl _)
            show _ = _
            with_reducible rfl
           refine Stab.Goals.plain rfl rfl (fun us w cK hE hS hp hK => ?_) ?_
           ·obtain ⟨h7, -⟩ := hp
            replace h7 : us 7 = _ := h7
            go_simp
            refine hK _ _ ?_ (Stab.Ext.refl _)
            show _ = _
            with_reducible rfl
           refine Stab.Goals.guarded rfl rfl (fun us w cK hE hS hp hK => ?_) ?_
           ·obtain ⟨h8, -⟩ := hp
            replace h8 : us 8 = _ := h8
            refine ⟨_, h8, fun _ => ?_, fun h => absurd rfl h⟩
            go_simp
            refine hK _ _ ?_ (Stab.Ext.refl _)
            show _ = _
            with_reducible rfl
           refine Stab.Goals.guarded rfl rfl (fun us w cK hE hS hp hK => ?_) ?_
           ·obtain ⟨h9, h8, -⟩ := hp
            replace h9 : us 9 = _ := h9
            replace h8 : us 8 = _ := h8
            refine ⟨_, h8, fun _ => ?_, fun h => absurd rfl h⟩
            go_simp
            refine hK _ _ ?_ (Stab.Ext.refl _)
            show _ = _
            with_reducible rfl
           refine Stab.Goals.guarded rfl rfl (fun us w cK hE hS hp hK => ?_) ?_
           ·obtain ⟨h10, h8, -⟩ := hp
            replace h10 : us 10 = _ := h10
            replace h8 : us 8 = _ := h8
            refine ⟨_, h8, fun _ => ?_, fun h => absurd rfl h⟩
            go_simp
            refine hK _ _ ?_ (Stab.Ext.refl _)
            show _ = _
            with_reducible rfl
           refine Stab.Goals.guarded rfl rfl (fun us w cK hE hS hp hK => ?_) ?_
           ·obtain ⟨h11, h8, -⟩ := hp
            replace h11 : us 11 = _ := h11
            replace h8 : us 8 = _ := h8
            refine ⟨_, h8, fun _ => ?_, fun h => absurd rfl h⟩
            have s0 := hS.c1; have s1 := hS.c2
            go_simp
            refine hK _ _ ?_ (Stab.Ext.refl _)
            show _ = _
            with_reducible rfl
           refine Stab.Goals.guarded rfl rfl (fun us w cK hE hS hp hK => ?_) ?_
           ·obtain ⟨h8, -⟩ := hp
            replace h8 : us 8 = _ := h8
            refine ⟨_, h8, fun _ => ?_, fun h => absurd rfl h⟩
            go_simp
            refine hK _ _ ?_ (Stab.Ext.refl _)
            show _ = _
            with_reducible rfl
           refine Stab.Goals.guarded rfl rfl (fun us w cK hE hS hp hK => ?_) ?_
           ·obtain ⟨h8, -⟩ := hp
            replace h8 : us 8 = _ := h8
            refine ⟨_, h8, fun _ => ?_, fun h => absurd rfl h⟩
            go_simp
            refine hK _ _ ?_ (Stab.Ext.refl _)
            show _ = _
            with_reducible rfl
           refine Stab.Goals.guarded rfl rfl (fun us w cK hE hS hp hK => ?_) ?_
           ·obtain ⟨h13, h14, h8, -⟩ := hp
            replace h13 : us 13 = _ := h13
            replace h14 : us 14 = _ := h14
            replace h8 : us 8 = _ := h8
            refine ⟨_, h8, fun _ => ?_, fun h => absurd rfl h⟩
            go_simp
            refine hK _ _ ?_ (Stab.Ext.refl _)
            show _ = _
            with_reducible rfl
           refine Stab.Goals.guarded rfl rfl (fun us w cK hE hS hp hK => ?_) ?_
           ·obtain ⟨h15, h8, -⟩ := hp
            replace h15 : us 15 = _ := h15
            replace h8 : us 8 = _ := h8
            refine ⟨_, h8, fun _ => ?_, fun h => absurd rfl h⟩
            have s0 := hS.c1; have s1 := hS.c2
            go_simp
            refine hK _ _ ?_ (Stab.Ext.refl _)
            show _ = _
            with_reducible rfl
           refine Stab.Goals.guarded rfl rfl (fun us w cK hE hS hp hK => ?_) ?_
           ·obtain ⟨h12, h16, h8, -⟩ := hp
            replace h12 : us 12 = _ := h12
            replace h16 : us 16 = _ := h16
            replace h8 : us 8 = _ := h8
            refine ⟨_, h8, fun _ => ?_, fun h => absurd rfl h⟩
            go_simp
            refine hK _ _ ?_ (Stab.Ext.refl _)
            show _ = _
            with_reducible rfl
           refine Stab.Goals.plain rfl rfl (fun us w cK hE hS hp hK => ?_) ?_
           ·obtain ⟨h8, h17, -⟩ := hp
            replace h8 : us 8 = _ := h8
            replace h17 : us 17 = _ := h17
            go_simp
            refine hK _ _ ?_ (Stab.Ext.refl _)
            show _ = _
            with_reducible rfl
           exact Stab.Goals.nil
          case last32af =>
           intro us w12 hE hS hp
           obtain ⟨h18, -⟩ := hp
           replace h18 : us 18 = _ := h18
           simp only [List.drop_succ_cons, List.drop_zero, h18, Nat.zero_add, Nat.reduceAdd]
           have HE12 := Lib.hid ((HE11.out.trans (Stab.Ext.drew _)).trans hE)
           clear hE hS h18
           go_wp2_with fail
           go_roundw
           case rel => exact ⟨q + 1, by omega, by go_num, by rw [HH.out, List.length_append]; simp only [List.length_cons, List.length_nil]; go_num, HE12.out⟩
           case measure => simp [intOf]; omega
         ·have HR := Lib.hid (show Rd31 b p5 O10 w11 from ⟨at_ext hat11 HE1r.out⟩)
          have HH := Lib.hid (hvL_no hsn).1
          simp only [hup] at HUP
          clear hob11 hsn hup
          go_wp2_with fail
          refine Stab.wp_region_stable 19 180 [some 139, some 140, some 141, some 142, some 143, some 144, some 145, some 146, some 147, some 148, some 149, some 150, some 151, some 152, some 153, some 154, some 155, some 156, some 157] [[], [], [0, 1], [2], [3], [4, 3], [5, 3], [3, 6], [7], [8], [9, 8], [10, 8], [11, 8], [8], [8], [13, 14, 8], [15, 8], [12, 16, 8], [8, 17]] [18] (Rd31 b p5 O10) [Stab.eqv ?r32bfe0, Stab.eqv ?r32bfe1, Stab.eqv ?r32bfe2, Stab.eqv ?r32bfe3, Stab.eqv ?r32bfe4, Stab.eqv ?r32bfe5, Stab.eqv ?r32bfe6, Stab.eqv ?r32bfe7, Stab.eqv ?r32bfe8, Stab.eqv ?r32bfe9, Stab.eqv ?r32bfe10, Stab.eqv ?r32bfe11, Stab.eqv ?r32bfe12, Stab.eqv ?r32bfe13, Stab.eqv ?r32bfe14, Stab.eqv ?r32bfe15, Stab.eqv ?r32bfe16, Stab.eqv ?r32bfe17, Stab.eqv ?r32bfe18] (by kernel_rfl) rfl (by kernel_rfl) (by kernel_rfl) (fun us => by simp only [Stab.putAll, Act.put, List.setIfInBounds_toArray, List.set_cons_zero, List.set_cons_succ]; rfl) (HR.out.ext (Stab.Ext.drew _)) (fun _ _ h hE => h.ext hE) ?goals32bf ?last32bf
          case goals32bf =>
           simp only [List.take_succ_cons, List.take_zero]
           refine Stab.Goals.plain rfl rfl (fun us w cK hE hS hp hK => ?_) ?_
           ·go_simp
            refine hK _ _ ?_ (Stab.Ext.refl _)
            show _ = _
            with_reducible rfl
           refine Stab.Goals.plain rfl rfl (fun us w cK hE hS hp hK => ?_) ?_
           ·go_simp
            refine hK _ _ ?_ (Stab.Ext.refl _)
            show _ = _
            with_reducible rfl
           refine Stab.Goals.plain rfl rfl (fun us w cK hE hS hp hK => ?_) ?_
           ·obtain ⟨h0, h1, -⟩ := hp
            replace h0 : us 0 = _ := h0
            replace h1 : us 1 = _ := h1
            go_simp
            go_wp2_with (go_at_call 22; ((with_reducible refine (HUP.out _ hS.at_).mono ?_); rintro e w1 ⟨rfl, rfl⟩))
            refine hK _ _ ?_ (Stab.Ext.refl _)
            show _ = _
            with_reducible rfl
           refine Stab.Goals.plain rfl rfl (fun us w cK hE hS hp hK => ?_) ?_
           ·obtain ⟨h2, -⟩ := hp
            replace h2 : us 2 = _ := h2
            go_simp
            refine hK _ _ ?_ (Stab.Ext.refl _)
            show _ = _
            with_reducible rfl
           refine Stab.Goals.guarded rfl rfl (fun us w cK hE hS hp hK => ?_) ?_
           ·obtain ⟨h3, -⟩ := hp
            replace h3 : us 3 = _ := h3
            refine ⟨_, h3, fun h => (by cases h), fun _ => ?_⟩
            refine hK _ _ ?_ (Stab.Ext.refl _)
            show _ = _
            with_reducible rfl
           refine Stab.Goals.guarded rfl rfl (fun us w cK hE hS hp hK => ?_) ?_
           ·obtain ⟨h4, h3, -⟩ := hp
            replace h4 : us 4 = _ := h4
            replace h3 : us 3 = _ := h3
            refine ⟨_, h3, fun h => (by cases h), fun _ => ?_⟩
            refine hK _ _ ?_ (Stab.Ext.refl _)
            show _ = _
            with_reducible rfl
           refine Stab.Goals.guarded rfl rfl (fun us w cK hE hS hp hK => ?_) ?_
           ·obtain ⟨h5, h3, -⟩ := hp
            replace h5 : us 5 = _ := h5
            replace h3 : us 3 = _ := h3
            refine ⟨_, h3, fun h => (by cases h), fun _ => ?_⟩
            refine hK _ _ ?_ (Stab.Ext.refl _)
            show _ = _
            with_reducible rfl
           refine Stab.Goals.plain rfl rfl (fun us w cK hE hS hp hK => ?_) ?_
           ·obtain ⟨h3, h6, -⟩ := hp
            replace h3 : us 3 = _ := h3
            replace h6 : us 6 = _ := h6
            go_simp
            refine hK _ _ ?_ (Stab.Ext.refl _)
            show _ = _
            with_reducible rfl
           refine Stab.Goals.plain rfl rfl (fun us w cK hE hS hp hK => ?_) ?_
           ·obtain ⟨h7, -⟩ := hp
            replace h7 : us 7 = _ := h7
            go_simp
            refine hK _ _ ?_ (Stab.Ext.refl _)
            show _ = _
            with_reducible rfl
           refine Stab.Goals.guarded rfl rfl (fun us w cK hE hS hp hK => ?_) ?_
           ·obtain ⟨h8, -⟩ := hp
            replace h8 : us 8 = _ := h8
            refine ⟨_, h8, fun h => (by cases h), fun _ => ?_⟩
            refine hK _ _ ?_ (Stab.Ext.refl _)
            show _ = _
            with_reducible rfl
           refine Stab.Goals.guarded rfl rfl (fun us w cK hE hS hp hK => ?_) ?_
           ·obtain ⟨h9, h8, -⟩ := hp
            replace h9 : us 9 = _ := h9
            replace h8 : us 8 = _ := h8
            refine ⟨_, h8, fun h => (by cases h), fun _ => ?_⟩
            refine hK _ _ ?_ (Stab.Ext.refl _)
            show _ = _
            with_reducible rfl
           refine Stab.Goals.guarded rfl rfl (fun us w cK hE hS hp hK => ?_) ?_
           ·obtain ⟨h10, h8, -⟩ := hp
            replace h10 : us 10 = _ := h10
            replace h8 : us 8 = _ := h8
            refine ⟨_, h8, fun h => (by cases h), fun _ => ?_⟩
            refine hK _ _ ?_ (Stab.Ext.refl _)
            show _ = _
            with_reducible rfl
           refine Stab.Goals.guarded rfl rfl (fun us w cK hE hS hp hK => ?_) ?_
           ·obtain ⟨h11, h8, -⟩ := hp
            replace h11 : us 11 = _ := h11
            replace h8 : us 8 = _ := h8
            refine ⟨_, h8, fun h => (by cases h), fun _ => ?_⟩
            refine hK _ _ ?_ (Stab.Ext.refl _)
            show _ = _
            with_reducible rfl
           refine Stab.Goals.guarded rfl rfl (fun us w cK hE hS hp hK => ?_) ?_
           ·obtain ⟨h8, -⟩ := hp
            replace h8 : us 8 = _ := h8
            refine ⟨_, h8, fun h => (by cases h), fun _ => ?_⟩
            refine hK _ _ ?_ (Stab.Ext.refl _)
            show _ = _
            with_reducible rfl
           refine Stab.Goals.guarded rfl rfl (fun us w cK hE hS hp hK => ?_) ?_
           ·obtain ⟨h8, -⟩ := hp
            replace h8 : us 8 = _ := h8
            refine ⟨_, h8, fun h => (by cases h), fun _ => ?_⟩
            refine hK _ _ ?_ (Stab.Ext.refl _)
            show _ = _
            with_reducible rfl
           refine Stab.Goals.guarded rfl rfl (fun us w cK hE hS hp hK => ?_) ?_
           ·obtain ⟨h13, h14, h8, -⟩ := hp
            replace h13 : us 13 = _ := h13
            replace h14 : us 14 = _ := h14
            replace h8 : us 8 = _ := h8
            refine ⟨_, h8, fun h => (by cases h), fun _ => ?_⟩
            refine hK _ _ ?_ (Stab.Ext.refl _)
            show _ = _
            with_reducible rfl
           refine Stab.Goals.guarded rfl rfl (fun us w cK hE hS hp hK => ?_) ?_
           ·obtain ⟨h15, h8, -⟩ := hp
            replace h15 : us 15 = _ := h15
            replace h8 : us 8 = _ := h8
            refine ⟨_, h8, fun h => (by cases h), fun _ => ?_⟩
            refine hK _ _ ?_ (Stab.Ext.refl _)
            show _ = _
            with_reducible rfl
           refine Stab.Goals.guarded rfl rfl (fun us w cK hE hS hp hK => ?_) ?_
           ·obtain ⟨h12, h16, h8, -⟩ := hp
            replace h12 : us 12 = _ := h12
            replace h16 : us 16 = _ := h16
            replace h8 : us 8 = _ := h8
            refine ⟨_, h8, fun h => (by cases h), fun _ => ?_⟩
            refine hK _ _ ?_ (Stab.Ext.refl _)
            show _ = _
            with_reducible rfl
           refine Stab.Goals.plain rfl rfl (fun us w cK hE hS hp hK => ?_) ?_
           ·obtain ⟨h8, h17, -⟩ := hp
            replace h8 : us 8 = _ := h8
            replace h17 : us 17 = _ := h17
            go_simp
            refine hK _ _ ?_ (Stab.Ext.refl _)
            show _ = _
            with_reducible rfl
           exact Stab.Goals.nil
          case last32bf =>
           intro us w12 hE hS hp
           obtain ⟨h18, -⟩ := hp
           replace h18 : us 18 = _ := h18
           simp only [List.drop_succ_cons, List.drop_zero, h18, Nat.zero_add, Nat.reduceAdd]
           have HE12 := Lib.hid ((HE11.out.trans (Stab.Ext.drew _)).trans hE)
           clear hE hS h18
           go_wp2_with fail
           go_roundw
           case rel => exact ⟨q + 1, by omega, by go_num, by rw [HH.out], HE12.out⟩
           case measure => simp [intOf]; omega
         ·rw [ho] at hob11
          obtain ⟨A1, c1, rfl⟩ := none_at hob11
          have HR := Lib.hid (show Rd31 b p5 O10 w11 from ⟨at_ext hat11 HE1r.out⟩)
          have HH := Lib.hid (hvL_no hsn).1
          simp only [hup] at HUP
          clear hob11 hsn hup
          go_wp2_with fail
          refine Stab.wp_region_stable 19 180 [some 139, some 140, some 141, some 142, some 143, some 144, some 145, some 146, some 147, some 148, some 149, some 150, some 151, some 152, some 153, some 154, some 155, some 156, some 157] [[], [], [0, 1], [2], [3], [4, 3], [5, 3], [3, 6], [7], [8], [9, 8], [10, 8], [11, 8], [8], [8], [13, 14, 8], [15, 8], [12, 16, 8], [8, 17]] [18] (Rd31 b p5 O10) [Stab.eqv ?r32cfe0, Stab.eqv ?r32cfe1, Stab.eqv ?r32cfe2, Stab.eqv ?r32cfe3, Stab.eqv ?r32cfe4, Stab.eqv ?r32cfe5, Stab.eqv ?r32cfe6, Stab.eqv ?r32cfe7, Stab.eqv ?r32cfe8, Stab.eqv ?r32cfe9, Stab.eqv ?r32cfe10, Stab.eqv ?r32cfe11, Stab.eqv ?r32cfe12, Stab.eqv ?r32cfe13, Stab.eqv ?r32cfe14, Stab.eqv ?r32cfe15, Stab.eqv ?r32cfe16, Stab.eqv ?r32cfe17, Stab.eqv ?r32cfe18] (by kernel_rfl) rfl (by kernel_rfl) (by kernel_rfl) (fun us => by simp only [Stab.putAll, Act.put, List.setIfInBounds_toArray, List.set_cons_zero, List.set_cons_succ]; rfl) (HR.out.ext (Stab.Ext.drew _)) (fun _ _ h hE => h.ext hE) ?goals32cf ?last32cf
          case goals32cf =>
           simp only [List.take_succ_cons, List.take_zero]
           refine Stab.Goals.plain rfl rfl (fun us w cK hE hS hp hK => ?_) ?_
           ·go_simp
            refine hK _ _ ?_ (Stab.Ext.refl _)
            show _ = _
            with_reducible rfl
           refine Stab.Goals.plain rfl rfl (fun us w cK hE hS hp hK => ?_) ?_
           ·go_simp
            refine hK _ _ ?_ (Stab.Ext.refl _)
            show _ = _
            with_reducible rfl
           refine Stab.Goals.plain rfl rfl (fun us w cK hE hS hp hK => ?_) ?_
           ·obtain ⟨h0, h1, -⟩ := hp
            replace h0 : us 0 = _ := h0
            replace h1 : us 1 = _ := h1
            go_simp
            go_wp2_with (go_at_call 22; ((with_reducible refine (HUP.out _ hS.at_).mono ?_); rintro e w1 ⟨rfl, rfl⟩))
            refine hK _ _ ?_ (Stab.Ext.refl _)
            show _ = _
            with_reducible rfl
           refine Stab.Goals.plain rfl rfl (fun us w cK hE hS hp hK => ?_) ?_
           ·obtain ⟨h2, -⟩ := hp
            replace h2 : us 2 = _ := h2
            go_simp
            refine hK _ _ ?_ (Stab.Ext.refl _)
            show _ = _
            with_reducible rfl
           refine Stab.Goals.guarded rfl rfl (fun us w cK hE hS hp hK => ?_) ?_
           ·obtain ⟨h3, -⟩ := hp
            replace h3 : us 3 = _ := h3
            refine ⟨_, h3, fun _ => ?_, fun h => absurd rfl h⟩
            go_simp
            refine hK _ _ ?_ (Stab.Ext.refl _)
            show _ = _
            with_reducible rfl
           refine Stab.Goals.guarded rfl rfl (fun us w cK hE hS hp hK => ?_) ?_
           ·obtain ⟨h4, h3, -⟩ := hp
            replace h4 : us 4 = _ := h4
            replace h3 : us 3 = _ := h3
            refine ⟨_, h3, fun _ => ?_, fun h => absurd rfl h⟩
            go_simp
            refine hK _ _ ?_ (Stab.Ext.refl _)
            show _ = _
            with_reducible rfl
           refine Stab.Goals.guarded rfl rfl (fun us w cK hE hS hp hK => ?_) ?_
           ·obtain ⟨h5, h3, -⟩ := hp
            replace h5 : us 5 = _ := h5
            replace h3 : us 3 = _ := h3
            refine ⟨_, h3, fun _ => ?_, fun h => absurd rfl h⟩
            go_simp
            refine hK _ _ ?_ (Stab.Ext.refl _)
            show _ = _
            with_reducible rfl
           refine Stab.Goals.plain rfl rfl (fun us w cK hE hS hp hK => ?_) ?_
           ·obtain ⟨h3, h6, -⟩ := hp
            replace h3 : us 3 = _ := h3
            replace h6 : us 6 = _ := h6
            go_simp
            refine hK _ _ ?_ (Stab.Ext.refl _)
            show _ = _
            with_reducible rfl
           refine Stab.Goals.plain rfl rfl (fun us w cK hE hS hp hK => ?_) ?_
           ·obtain ⟨h7, -⟩ := hp
            replace h7 : us 7 = _ := h7
            go_simp
            refine hK _ _ ?_ (Stab.Ext.refl _)
            show _ = _
            with_reducible rfl
           refine Stab.Goals.guarded rfl rfl (fun us w cK hE hS hp hK => ?_) ?_
           ·obtain ⟨h8, -⟩ := hp
            replace h8 : us 8 = _ := h8
            refine ⟨_, h8, fun h => (by cases h), fun _ => ?_⟩
            refine hK _ _ ?_ (Stab.Ext.refl _)
            show _ = _
            with_reducible rfl
           refine Stab.Goals.guarded rfl rfl (fun us w cK hE hS hp hK => ?_) ?_
           ·obtain ⟨h9, h8, -⟩ := hp
            replace h9 : us 9 = _ := h9
            replace h8 : us 8 = _ := h8
            refine ⟨_, h8, fun h => (by cases h), fun _ => ?_⟩
            refine hK _ _ ?_ (Stab.Ext.refl _)
            show _ = _
            with_reducible rfl
           refine Stab.Goals.guarded rfl rfl (fun us w cK hE hS hp hK => ?_) ?_
           ·obtain ⟨h10, h8, -⟩ := hp
            replace h10 : us 10 = _ := h10
            replace h8 : us 8 = _ := h8
            refine ⟨_, h8, fun h => (by cases h), fun _ => ?_⟩
            refine hK _ _ ?_ (Stab.Ext.refl _)
            show _ = _
            with_reducible rfl
           refine Stab.Goals.guarded rfl rfl (fun us w cK hE hS hp hK => ?_) ?_
           ·obtain ⟨h11, h8, -⟩ := hp
            replace h11 : us 11 = _ := h11
            replace h8 : us 8 = _ := h8
            refine ⟨_, h8, fun h => (by cases h), fun _ => ?_⟩
            refine hK _ _ ?_ (Stab.Ext.refl _)
            show _ = _
            with_reducible rfl
           refine Stab.Goals.guarded rfl rfl (fun us w cK hE hS hp hK => ?_) ?_
           ·obtain ⟨h8, -⟩ := hp
            replace h8 : us 8 = _ := h8
            refine ⟨_, h8, fun h => (by cases h), fun _ => ?_⟩
            refine hK _ _ ?_ (Stab.Ext.refl _)
            show _ = _
            with_reducible rfl
           refine Stab.Goals.guarded rfl rfl (fun us w cK hE hS hp hK => ?_) ?_
           ·obtain ⟨h8, -⟩ := hp
            replace h8 : us 8 = _ := h8
            refine ⟨_, h8, fun h => (by cases h), fun _ => ?_⟩
            refine hK _ _ ?_ (Stab.Ext.refl _)
            show _ = _
            with_reducible rfl
           refine Stab.Goals.guarded rfl rfl (fun us w cK hE hS hp hK => ?_) ?_
           ·obtain ⟨h13, h14, h8, -⟩ := hp
            replace h13 : us 13 = _ := h13
            replace h14 : us 14 = _ := h14
            replace h8 : us 8 = _ := h8
            refine ⟨_, h8, fun h => (by cases h), fun _ => ?_⟩
            refine hK _ _ ?_ (Stab.Ext.refl _)
            show _ = _
            with_reducible rfl
           refine Stab.Goals.guarded rfl rfl (fun us w cK hE hS hp hK => ?_) ?_
           ·obtain ⟨h15, h8, -⟩ := hp
            replace h15 : us 15 = _ := h15
            replace h8 : us 8 = _ := h8
            refine ⟨_, h8, fun h => (by cases h), fun _ => ?_⟩
            refine hK _ _ ?_ (Stab.Ext.refl _)
            show _ = _
            with_reducible rfl
           refine Stab.Goals.guarded rfl rfl (fun us w cK hE hS hp hK => ?_) ?_
           ·obtain ⟨h12, h16, h8, -⟩ := hp
            replace h12 : us 12 = _ := h12
            replace h16 : us 16 = _ := h16
            replace h8 : us 8 = _ := h8
            refine ⟨_, h8, fun h => (by cases h), fun _ => ?_⟩
            refine hK _ _ ?_ (Stab.Ext.refl _)
            show _ = _
            with_reducible rfl
           refine Stab.Goals.plain rfl rfl (fun us w cK hE hS hp hK => ?_) ?_
           ·obtain ⟨h8, h17, -⟩ := hp
            replace h8 : us 8 = _ := h8
            replace h17 : us 17 = _ := h17
            go_simp
            refine hK _ _ ?_ (Stab.Ext.refl _)
            show _ = _
            with_reducible rfl
           exact Stab.Goals.nil
          case last32cf =>
           intro us w12 hE hS hp
           obtain ⟨h18, -⟩ := hp
           replace h18 : us 18 = _ := h18
           simp only [List.drop_succ_cons, List.drop_zero, h18, Nat.zero_add, Nat.reduceAdd]
           have HE12 := Lib.hid ((HE11.out.trans (Stab.Ext.drew _)).trans hE)
           clear hE hS h18
           go_wp2_with fail
           go_roundw
           case rel => exact ⟨q + 1, by omega, by go_num, by rw [HH.out], HE12.out⟩
           case measure => simp [intOf]; omega
         ·rw [ho] at hob11
          rw [← HGG.out] at hne
          have hyeq : (y.toList == (g q).toList) = false := by
           rw [beq_eq_false_iff_ne]
           exact fun e => hne (bytes_inj.1 e)
          obtain ⟨g1, c1, rfl, -, r0, r1⟩ := one_at hob11
          have HR := Lib.hid (show Rd32 b p5 O10 g1 bw q y (g q) w11 from ⟨at_ext hat11 HE1r.out, r1, m0⟩)
          have HH := Lib.hid (hvL_no hsn).1
          simp only [hup] at HUP
          clear hob11 hsn hup
          go_wp2_with fail
          refine Stab.wp_region_stable 19 180 [some 139, some 140, some 141, some 142, some 143, some 144, some 145, some 146, some 147, some 148, some 149, some 150, some 151, some 152, some 153, some 154, some 155, some 156, some 157] [[], [], [0, 1], [2], [3], [4, 3], [5, 3], [3, 6], [7], [8], [9, 8], [10, 8], [11, 8], [8], [8], [13, 14, 8], [15, 8], [12, 16, 8], [8, 17]] [18] (Rd32 b p5 O10 g1 bw q y (g q)) [Stab.eqv ?r32dfe0, Stab.eqv ?r32dfe1, Stab.eqv ?r32dfe2, Stab.eqv ?r32dfe3, Stab.eqv ?r32dfe4, Stab.eqv ?r32dfe5, Stab.eqv ?r32dfe6, Stab.eqv ?r32dfe7, Stab.eqv ?r32dfe8, Stab.eqv ?r32dfe9, Stab.eqv ?r32dfe10, Stab.eqv ?r32dfe11, Stab.eqv ?r32dfe12, Stab.eqv ?r32dfe13, Stab.eqv ?r32dfe14, Stab.eqv ?r32dfe15, Stab.eqv ?r32dfe16, Stab.eqv ?r32dfe17, Stab.eqv ?r32dfe18] (by kernel_rfl) rfl (by kernel_rfl) (by kernel_rfl) (fun us => by simp only [Stab.putAll, Act.put, List.setIfInBounds_toArray, List.set_cons_zero, List.set_cons_succ]; rfl) (HR.out.ext (Stab.Ext.drew _)) (fun _ _ h hE => h.ext hE) ?goals32df ?last32df
          case goals32df =>
           simp only [List.take_succ_cons, List.take_zero]
           refine Stab.Goals.plain rfl rfl (fun us w cK hE hS hp hK => ?_) ?_
           ·go_simp
            refine hK _ _ ?_ (Stab.Ext.refl _)
            show _ = _
            with_reducible rfl
           refine Stab.Goals.plain rfl rfl (fun us w cK hE hS hp hK => ?_) ?_
           ·go_simp
            refine hK _ _ ?_ (Stab.Ext.refl _)
            show _ = _
            with_reducible rfl
           refine Stab.Goals.plain rfl rfl (fun us w cK hE hS hp hK => ?_) ?_
           ·obtain ⟨h0, h1, -⟩ := hp
            replace h0 : us 0 = _ := h0
            replace h1 : us 1 = _ := h1
            go_simp
            go_wp2_with (go_at_call 22; ((with_reducible refine (HUP.out _ hS.at_).mono ?_); rintro e w1 ⟨rfl, rfl⟩))
            refine hK _ _ ?_ (Stab.Ext.refl _)
            show _ = _
            with_reducible rfl
           refine Stab.Goals.plain rfl rfl (fun us w cK hE hS hp hK => ?_) ?_
           ·obtain ⟨h2, -⟩ := hp
            replace h2 : us 2 = _ := h2
            go_simp
            refine hK _ _ ?_ (Stab.Ext.refl _)
            show _ = _
            with_reducible rfl
           refine Stab.Goals.guarded rfl rfl (fun us w cK hE hS hp hK => ?_) ?_
           ·obtain ⟨h3, -⟩ := hp
            replace h3 : us 3 = _ := h3
            refine ⟨_, h3, fun _ => ?_, fun h => absurd rfl h⟩
            go_simp
            refine hK _ _ ?_ (Stab.Ext.refl _)
            show _ = _
            with_reducible rfl
           refine Stab.Goals.guarded rfl rfl (fun us w cK hE hS hp hK => ?_) ?_
           ·obtain ⟨h4, h3, -⟩ := hp
            replace h4 : us 4 = _ := h4
            replace h3 : us 3 = _ := h3
            refine ⟨_, h3, fun _ => ?_, fun h => absurd rfl h⟩
            go_simp
            refine hK _ _ ?_ (Stab.Ext.refl _)
            show _ = _
            with_reducible rfl
           refine Stab.Goals.guarded rfl rfl (fun us w cK hE hS hp hK => ?_) ?_
           ·obtain ⟨h5, h3, -⟩ := hp
            replace h5 : us 5 = _ := h5
            replace h3 : us 3 = _ := h3
            refine ⟨_, h3, fun _ => ?_, fun h => absurd rfl h⟩
            go_simp
            refine hK _ _ ?_ (Stab.Ext.refl _)
            show _ = _
            with_reducible rfl
           refine Stab.Goals.plain rfl rfl (fun us w cK hE hS hp hK => ?_) ?_
           ·obtain ⟨h3, h6, -⟩ := hp
            replace h3 : us 3 = _ := h3
            replace h6 : us 6 = _ := h6
            go_simp
            refine hK _ _ ?_ (Stab.Ext.refl _)
            show _ = _
            with_reducible rfl
           refine Stab.Goals.plain rfl rfl (fun us w cK hE hS hp hK => ?_) ?_
           ·obtain ⟨h7, -⟩ := hp
            replace h7 : us 7 = _ := h7
            go_simp
            refine hK _ _ ?_ (Stab.Ext.refl _)
            show _ = _
            with_reducible rfl
           refine Stab.Goals.guarded rfl rfl (fun us w cK hE hS hp hK => ?_) ?_
           ·obtain ⟨h8, -⟩ := hp
            replace h8 : us 8 = _ := h8
            refine ⟨_, h8, fun _ => ?_, fun h => absurd rfl h⟩
            go_simp
            refine hK _ _ ?_ (Stab.Ext.refl _)
            show _ = _
            with_reducible rfl
           refine Stab.Goals.guarded rfl rfl (fun us w cK hE hS hp hK => ?_) ?_
           ·obtain ⟨h9, h8, -⟩ := hp
            replace h9 : us 9 = _ := h9
            replace h8 : us 8 = _ := h8
            refine ⟨_, h8, fun _ => ?_, fun h => absurd rfl h⟩
            go_simp
            refine hK _ _ ?_ (Stab.Ext.refl _)
            show _ = _
            with_reducible rfl
           refine Stab.Goals.guarded rfl rfl (fun us w cK hE hS hp hK => ?_) ?_
           ·obtain ⟨h10, h8, -⟩ := hp
            replace h10 : us 10 = _ := h10
            replace h8 : us 8 = _ := h8
            refine ⟨_, h8, fun _ => ?_, fun h => absurd rfl h⟩
            go_simp
            refine hK _ _ ?_ (Stab.Ext.refl _)
            show _ = _
            with_reducible rfl
           refine Stab.Goals.guarded rfl rfl (fun us w cK hE hS hp hK => ?_) ?_
           ·obtain ⟨h11, h8, -⟩ := hp
            replace h11 : us 11 = _ := h11
            replace h8 : us 8 = _ := h8
            refine ⟨_, h8, fun _ => ?_, fun h => absurd rfl h⟩
            have s0 := hS.c1; have s1 := hS.c2
            go_simp
            refine hK _ _ ?_ (Stab.Ext.refl _)
            show _ = _
            with_reducible rfl
           refine Stab.Goals.guarded rfl rfl (fun us w cK hE hS hp hK => ?_) ?_
           ·obtain ⟨h8, -⟩ := hp
            replace h8 : us 8 = _ := h8
            refine ⟨_, h8, fun _ => ?_, fun h => absurd rfl h⟩
            go_simp
            refine hK _ _ ?_ (Stab.Ext.refl _)
            show _ = _
            with_reducible rfl
           refine Stab.Goals.guarded rfl rfl (fun us w cK hE hS hp hK => ?_) ?_
           ·obtain ⟨h8, -⟩ := hp
            replace h8 : us 8 = _ := h8
            refine ⟨_, h8, fun _ => ?_, fun h => absurd rfl h⟩
            go_simp
            refine hK _ _ ?_ (Stab.Ext.refl _)
            show _ = _
            with_reducible rfl
           refine Stab.Goals.guarded rfl rfl (fun us w cK hE hS hp hK => ?_) ?_
           ·obtain ⟨h13, h14, h8, -⟩ := hp
            replace h13 : us 13 = _ := h13
            replace h14 : us 14 = _ := h14
            replace h8 : us 8 = _ := h8
            refine ⟨_, h8, fun _ => ?_, fun h => absurd rfl h⟩
            go_simp
            refine hK _ _ ?_ (Stab.Ext.refl _)
            show _ = _
            with_reducible rfl
           refine Stab.Goals.guarded rfl rfl (fun us w cK hE hS hp hK => ?_) ?_
           ·obtain ⟨h15, h8, -⟩ := hp
            replace h15 : us 15 = _ := h15
            replace h8 : us 8 = _ := h8
            refine ⟨_, h8, fun _ => ?_, fun h => absurd rfl h⟩
            have s0 := hS.c1; have s1 := hS.c2
            go_simp
            refine hK _ _ ?_ (Stab.Ext.refl _)
            show _ = _
            with_reducible rfl
           refine Stab.Goals.guarded rfl rfl (fun us w cK hE hS hp hK => ?_) ?_
           ·obtain ⟨h12, h16, h8, -⟩ := hp
            replace h12 : us 12 = _ := h12
            replace h16 : us 16 = _ := h16
            replace h8 : us 8 = _ := h8
            refine ⟨_, h8, fun _ => ?_, fun h => absurd rfl h⟩
            go_simp
            refine hK _ _ ?_ (Stab.Ext.refl _)
            show _ = _
            with_reducible rfl
           refine Stab.Goals.plain rfl rfl (fun us w cK hE hS hp hK => ?_) ?_
           ·obtain ⟨h8, h17, -⟩ := hp
            replace h8 : us 8 = _ := h8
            replace h17 : us 17 = _ := h17
            go_simp
            refine hK _ _ ?_ (Stab.Ext.refl _)
            show _ = _
            with_reducible rfl
           exact Stab.Goals.nil
          case last32df =>
           intro us w12 hE hS hp
           obtain ⟨h18, -⟩ := hp
           replace h18 : us 18 = _ := h18
           simp only [List.drop_succ_cons, List.drop_zero, h18, Nat.zero_add, Nat.reduceAdd]
           have HE12 := Lib.hid ((HE11.out.trans (Stab.Ext.drew _)).trans hE)
           clear hE hS h18
           go_wp2_with fail
           go_roundw
           case rel => exact ⟨q + 1, by omega, by go_num, by rw [HH.out], HE12.out⟩
           case measure => simp [intOf]; omega
        ·obtain rfl : n = q := by omega
         have d3 : ¬ ((n : Int) < (n : Int)) := by omega
         have hkk := HK10.out.kept
         have hB12 := HB10.out.ext hE
         have hC12 := HC10.out.ext hE
         have hrd := read_calm HNM.out HD.out hkk.fit.calm hkk.fit.n_ hkk.only
         have hcn : cntN p5 d k n = (hvL p5 d k n n).length := rfl
         rw [hcn] at hrd
         have hRD := read_any (hB12.vars HV.out) hB12.at_ (hB12.far HG.out) k n hcd hkk.fit.n_ d HNM.out.dig (fun q hq => pay_small hkk.fit.calm (fun i => bnd_of (hkk.fit.fits i)) d k n (by rw [hkk.fit.n_]; exact hq))
         obtain ⟨rb, hrb⟩ : ∃ rb, rb = (readR p5 d k n).1 := ⟨_, rfl⟩
         obtain ⟨re, hre⟩ : ∃ re, re = (readR p5 d k n).2 := ⟨_, rfl⟩
         have hRD2 : Calls Tryz.prog 28 #[.pointer (some ⟨b, 0, none⟩), .agg #[.int .i64 (k : Int), .int .i64 (n : Int)], .string d] wr (RdT wr O10 b (readP p5 d k n) rb re) := by rw [hrb, hre]; exact hRD
         have hre2 : (rb, re) = if k ≤ (hvL p5 d k n n).length then (s, 0) else (⟨#[]⟩, 54) := by rw [hrb, hre]; exact hrd
         have HRD := Lib.hid hRD2
         have HB12 := Lib.hid hB12
         have HC12 := Lib.hid hC12
         clear hRD hRD2 hrb hre hrd hcn hkk hB12 hC12 hE
         go_wp2_with (go_at_call 28; with_reducible refine HRD.out.mono ?_)
         intro e w13 hq13
         obtain ⟨O13, he13, hwb13⟩ := hq13
         subst he13
         have HB13 := Lib.hid (HB12.out.next hwb13 HC12.out.blk.lt)
         have k0 := (HC12.out.keep hwb13.fr HB12.out.cb).c0
         clear hwb13 HRD HB12 HC12
         generalize (hvL p5 d k n n).length = m at *
         have hcase : (rb = s ∧ re = 0 ∧ k ≤ m) ∨ (rb = ⟨#[]⟩ ∧ re = 54 ∧ ¬ k ≤ m) := by
          by_cases hkm : k ≤ m
          ·rw [if_pos hkm] at hre2
           exact .inl ⟨(Prod.mk.inj hre2).1, (Prod.mk.inj hre2).2, hkm⟩
          ·rw [if_neg hkm] at hre2
           exact .inr ⟨(Prod.mk.inj hre2).1, (Prod.mk.inj hre2).2, hkm⟩
         clear hre2
         rcases hcase with ⟨hx, rfl, hkm⟩ | ⟨hx, rfl, hkm⟩
         all_goals
          replace hx := hx.symm
          subst hx
          first
           | (have hkm2 : (k : Int) ≤ (m : Int) := by omega)
           | (have hkm2 : ¬ (k : Int) ≤ (m : Int) := by omega)
          clear hkm
          go_wp2_with fail
          go_ret
          exact ⟨rfl, HB13.out.below⟩
end Str
end Go.Proofs.YtnbkhdbligjifaaGreatDoor
