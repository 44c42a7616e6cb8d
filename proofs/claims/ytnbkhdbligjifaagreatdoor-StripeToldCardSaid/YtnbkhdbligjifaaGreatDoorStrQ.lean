/-
 The law StripeTold: the walk.
-/
import Derived.Test.YtnbkhdbligjifaaGreatDoorStrP
import Derived.Test.YtnbkhdbligjifaaGreatDoorStrI
import Derived.Test.YtnbkhdbligjifaaGreatDoorStrA
set_option linter.unusedVariables false
set_option linter.unusedSimpArgs false
set_option maxRecDepth 100000
set_option maxHeartbeats 40000000
namespace Go.Proofs.YtnbkhdbligjifaaGreatDoor
open Go Go.RowKit Vm
open scoped Classical
namespace Str
open Hlt
theorem below_far {w W : World} (h : Below w.heap.size w W) : Fr [] w W := Fr.of_below h
theorem flt_at {w W : World} {A : Option Addr} {l : List Flt} (h : 0 < l.length → ∃ g o, A = some ⟨g, o, none⟩ ∧ g < w.heap.size ∧ ∀ i f, l[i]? = some f → w.cell? ⟨g, o + i * 5, none⟩ = some (.int .u8 f.kind) ∧ w.cell? ⟨g, o + i * 5 + 1, none⟩ = some (.int .i64 f.store) ∧
 w.cell? ⟨g, o + i * 5 + 2, none⟩ = some (.int .i64 f.n) ∧ w.cell? ⟨g, o + i * 5 + 3, none⟩ = some (.int .i64 f.at_) ∧ w.cell? ⟨g, o + i * 5 + 4, none⟩ = some (.int .i64 f.c)) (hf : Fr [] w W) {q : Nat} (hq : q < l.length) :
 ∃ g o, A = some ⟨g, o, none⟩ ∧ W.cell? ⟨g, o + q * 5, none⟩ = some (.int .u8 l[q].kind) ∧ W.cell? ⟨g, o + q * 5 + 1, none⟩ = some (.int .i64 l[q].store) ∧ W.cell? ⟨g, o + q * 5 + 2, none⟩ = some (.int .i64 l[q].n) ∧ W.cell? ⟨g, o + q * 5 + 3, none⟩ = some (.int .i64 l[q].at_) ∧ W.cell? ⟨g, o + q * 5 + 4, none⟩ = some (.int .i64 l[q].c) := by
 obtain ⟨g, o, h1, h2, h3⟩ := h (by omega)
 obtain ⟨c0, c1, c2, c3, c4⟩ := h3 q l[q] (List.getElem?_eq_getElem hq)
 have hb := hf.block g h2 (by simp)
 exact ⟨g, o, h1, (World.cell?_of_block hb).trans c0, (World.cell?_of_block hb).trans c1, (World.cell?_of_block hb).trans c2, (World.cell?_of_block hb).trans c3, (World.cell?_of_block hb).trans c4⟩
theorem told_walk (K N : Int) (hK : Shd.I64 K) (hN : Shd.I64 N) (a : Int) (ha : Shd.I64 a) (s : ByteArray) (v : Value) (l : List Flt) (w : World) (hv : Shd.Vars w) (hG : Tryz.prog.globals.size ≤ w.heap.size) (hl : FaultsAt w v l) :
 Calls Tryz.prog 7 #[.agg #[.int .i64 K, .int .i64 N], .int .i64 a, .string s, v] w (TrueP w) := by
 obtain ⟨⟨A, cap, rfl, hlc, hcells⟩, hfits⟩ := hl
 have hE0 := Stab.Ext.alloc w (.cells #[.int .i64 K, .int .i64 N] 25)
 have hC : CAt w.heap.size K N (w.alloc (.cells #[.int .i64 K, .int .i64 N] 25)) := ⟨Blk.new w 25 #[.int .i64 K, .int .i64 N]⟩
 have HWK := Lib.hid (show ∀ W, Stab.Ext w W → Calls Tryz.prog 26 #[] W (TrueP W) from fun W hW => works_true W (hv.below hW) (Nat.le_trans hG hW.size))
 have HV := Lib.hid hv
 have HG := Lib.hid hG
 have HC := Lib.hid hC
 have HE0 := Lib.hid hE0
 have HCELLS := Lib.hid hcells
 have HFITS := Lib.hid hfits
 have HNEW := Lib.hid (show ∀ w : World, Tryz.prog.globals.size ≤ w.heap.size → Calls Tryz.prog 139 #[] w (Spr.NewPost w) from fun w _ => Fld.new_any w)
 clear hv hG hC hE0 hcells hfits
 go_enter Tryz.func7, Tryz.ntmps7
 generalize hw0 : w.alloc (.cells #[.int .i64 K, .int .i64 N] 25) = w0 at *
 go_wp2_with (go_at_call 26; with_reducible refine (HWK.out _ HE0.out).mono ?_)
 rintro e w1 ⟨rfl, hb1⟩
 have hE1 : Stab.Ext w0 w1 := hb1
 have HE1 := Lib.hid (HE0.out.trans hE1)
 have HC1 := Lib.hid (HC.out.ext hE1)
 have k0 := HC1.out.c0
 have k1 := HC1.out.c1
 clear hb1 hE1 HC
 by_cases hs2 : 2000 < s.size
 ·have hs3 : (2000 : Int) < (s.size : Int) := by omega
  go_wp2_with (go_at_call 26; with_reducible refine (HWK.out _ HE1.out).mono ?_)
  rintro e w2 ⟨rfl, hb2⟩
  have HB2 := Lib.hid (HE1.out.trans (show Stab.Ext w1 w2 from hb2))
  clear hb2
  go_wp2_with fail
  go_ret
  exact ⟨rfl, HB2.out⟩
 ·have hs3 : ¬ (2000 : Int) < (s.size : Int) := by omega
  by_cases hl2 : 60 < l.length
  ·have hl3 : (60 : Int) < (l.length : Int) := by omega
   go_wp2_with (go_at_call 26; with_reducible refine (HWK.out _ HE1.out).mono ?_)
   rintro e w2 ⟨rfl, hb2⟩
   have HB2 := Lib.hid (HE1.out.trans (show Stab.Ext w1 w2 from hb2))
   clear hb2
   go_wp2_with fail
   go_ret
   exact ⟨rfl, HB2.out⟩
  ·have hl3 : ¬ (60 : Int) < (l.length : Int) := by omega
   by_cases hNb : N < 1 ∨ 12 < N
   ·have HNB := Lib.hid (wnew_bad w1 N hNb)
    clear hNb
    go_wp2_with (go_at_call 11; with_reducible refine HNB.out.mono ?_)
    rintro e w2 ⟨rfl, rfl⟩
    go_wp2_with fail
    go_ret
    exact ⟨rfl, HE1.out⟩
   ·obtain ⟨hN1, hN2⟩ : 1 ≤ N ∧ N ≤ 12 := by omega
    obtain ⟨n, rfl⟩ : ∃ n : Nat, N = (n : Int) := ⟨N.toNat, by omega⟩
    have HNN := Lib.hid (wnew_any w1 n (by omega) (by omega))
    clear hNb
    go_wp2_with (go_at_call 11; with_reducible refine HNN.out.mono ?_)
    rintro e w2 ⟨b, O, rfl, hlow, hat, hb2⟩
    have hE2 : Stab.Ext w1 w2 := hb2
    have hlt0 := HC1.out.blk.lt
    have hB2 : Born w w.heap.size b (newP n) O w2 := ⟨⟨hat, below_far (HE1.out.trans hE2), fun k hk => .inr (Nat.le_trans HE1.out.size (hlow k hk))⟩, fun hm => by have := hlow _ hm; omega⟩
    have HC2 := Lib.hid (HC1.out.ext hE2)
    have HB2 := Lib.hid hB2
    have k0 := HC2.out.c0
    have k1 := HC2.out.c1
    have hlt2 := HC2.out.blk.lt
    clear hb2 hE2 hat hlow hB2 HNN HC1
    by_cases hcd : Shd.codeB K (n : Int) = true
    ·obtain ⟨hk1, hk2, _⟩ := (Shd.codeB_iff _ _).1 hcd
     obtain ⟨k, rfl⟩ : ∃ k : Nat, K = (k : Int) := ⟨K.toNat, by omega⟩
     obtain ⟨d, hd⟩ : ∃ d, d = dgB s := ⟨_, rfl⟩
     have hNm : Num k n d s := ⟨hcd, by rw [hd]; exact dgB_size s, by omega⟩
     obtain ⟨q1, q2, q3, q4⟩ := written_kept hNm hd
     have hW := write_any HNEW.out (Nat.le_trans HG.out HB2.out.below.size) (HB2.out.vars HV.out) HB2.out.at_ k n hcd rfl s (by omega) (newP_well n).bnd (by omega) (by omega)
     unfold WrPost at hW
     rw [q1, if_pos rfl, ← hd] at hW
     generalize (writeR (newP n) k n s).2 = p1 at *
     have HW := Lib.hid hW
     have HNM := Lib.hid hNm
     have HD := Lib.hid hd
     have HKP := Lib.hid q2
     clear hW q1 q3 q4 hNm hd q2
     go_wp2_with (go_at_call 27; with_reducible refine HW.out.mono ?_)
     rintro e w3 ⟨O3, rfl, hwb3⟩
     have hB3 := HB2.out.next hwb3 HC2.out.blk.lt
     have hC3 := HC2.out.keep hwb3.fr HB2.out.cb
     have k0 := hC3.c0
     have k1 := hC3.c1
     have HB3 := Lib.hid hB3
     have HC3 := Lib.hid hC3
     clear hB3 hC3 hwb3 HW HB2 HC2
     go_wp2_with fail
     go_loopw [12] (fun i wr => ∃ (q : Nat) (O' : List Nat), q ≤ l.length ∧ i = .int .i64 (q : Int) ∧ Born w w.heap.size b ((l.take q).foldl strikeP p1) O' wr ∧ CAt w.heap.size k n wr) (fun i _ => l.length - (intOf i).toNat)
     case atStart => exact ⟨0, O3, by omega, rfl, HB3.out, HC3.out⟩
     case round =>
      obtain ⟨q, O', hq, rfl, hB, hC⟩ := hrel
      by_cases hlt : q < l.length
      ·have hlt3 : (q : Int) < (l.length : Int) := by omega
       have hfq : l[q].fits := HFITS.out _ (List.getElem_mem hlt)
       have hkq := HKP.out.strikes (l := l.take q) fun f hf => HFITS.out f (List.mem_of_mem_take hf)
       have hnx : (l.take (q + 1)).foldl strikeP p1 = strikeP ((l.take q).foldl strikeP p1) l[q] := by rw [List.take_succ_eq_append_getElem hlt, List.foldl_append]; rfl
       have HST := Lib.hid (strike_any (hB.vars HV.out) hB.at_ (hB.far HG.out) hkq.fit (by omega) (by omega) l[q] hfq)
       obtain ⟨g, o, rfl, r0, r1, r2, r3, r4⟩ := flt_at HCELLS.out hB.wb.fr hlt
       have HNX := Lib.hid hnx
       have HB := Lib.hid hB
       have HCC := Lib.hid hC
       generalize l[q] = f at *
       obtain ⟨f1, f2, f3, f4, f5⟩ := f
       simp only at r0 r1 r2 r3 r4 HST
       clear hB hC hnx hkq
       go_wp2_with (go_at_call 30; with_reducible refine HST.out.mono ?_)
       rintro e w5 ⟨O5, rfl, hwb5⟩
       have HB5 := Lib.hid (HB.out.next hwb5 HCC.out.blk.lt)
       have HC5 := Lib.hid (HCC.out.keep hwb5.fr HB.out.cb)
       clear hwb5
       go_wp2_with fail
       go_roundw
       case rel => exact ⟨q + 1, O5, by omega, by go_num, by rw [HNX.out]; exact HB5.out, HC5.out⟩
       case measure => simp [intOf]; omega
      ·obtain rfl : q = l.length := by omega
       have d1 : ¬ ((l.length : Int) < (l.length : Int)) := by omega
       rw [List.take_length] at hB
       have hk2' := HKP.out.strikes (l := l) HFITS.out
       have HB := Lib.hid hB
       have HCC := Lib.hid hC
       have HK2 := Lib.hid hk2'
       have k0 := hC.c0
       have k1 := hC.c1
       clear hB hC hk2'
       generalize l.foldl strikeP p1 = p2 at *
       have hn2 : p2.n = n := HK2.out.fit.n_
       have hcal := HK2.out.fit.calm
       have HSH := Lib.hid (shards_any (HB.out.vars HV.out) HB.out.at_ (HB.out.far HG.out) k n hcd hn2 d HNM.out.dig (fun q hq => cut_calm hcal d (by omega)))
       go_wp2_with (go_at_call 31; with_reducible refine HSH.out.mono ?_)
       rintro e w6 ⟨v6, O6, rfl, hr6, hwb6, ho6⟩
       rw [getsP_calm hcal d n (by omega)] at hwb6
       have HB6 := Lib.hid (HB.out.next hwb6 HCC.out.blk.lt)
       have HC6 := Lib.hid (HCC.out.keep hwb6.fr HB.out.cb)
       have k0 := HC6.out.c0
       have k1 := HC6.out.c1
       have hk3 := HK2.out.adv n
       have hrd := read_calm HNM.out HD.out hk3.fit.calm hk3.fit.n_ hk3.only
       have hcn : cntN (PW.adv p2 n) d k n = (hvL p2 d k n n).length := by unfold cntN; rw [hvL_adv hcal n d k n (by omega)]
       rw [hcn] at hrd
       obtain ⟨mr, hmr, hrp⟩ := readP_calm (p := PW.adv p2 n) hk3.fit.calm hk3.fit.n_ d (k := k) (by omega)
       have hRD := read_any (HB6.out.vars HV.out) HB6.out.at_ (HB6.out.far HG.out) k n hcd hk3.fit.n_ d HNM.out.dig (fun q hq => pay_small hk3.fit.calm (fun i => bnd_of (hk3.fit.fits i)) d k n (by rw [hk3.fit.n_]; exact hq))
       unfold RePost at hRD
       rw [hrp] at hRD
       have HRD := Lib.hid hRD
       have HRR := Lib.hid hrd
       have HO6 := Lib.hid ho6
       have HR6 := Lib.hid hr6
       obtain ⟨A6, c6, hv6⟩ := row_shape hr6
       subst hv6
       have HK3 := Lib.hid hk3
       clear hr6 hwb6 ho6 hk3 hrd hRD hcn hrp HSH HB HCC
       go_wp2_with (go_at_call 28; with_reducible refine HRD.out.mono ?_)
       rintro e w7 ⟨O7, rfl, hwb7⟩
       have HB7 := Lib.hid (HB6.out.next hwb7 HC6.out.blk.lt)
       have HC7 := Lib.hid (HC6.out.keep hwb7.fr HB6.out.cb)
       have HR7 := Lib.hid (show w7.ownsRow 0 4 1 (.slice A6 n c6) n (sndV p2 d k n n) from row_heap HR6.out fun g hg => hwb7.fr.block g (row_lt HR6.out hg) (HO6.out g hg).1)
       have k0 := HC7.out.c0
       have k1 := HC7.out.c1
       clear hwb7 HRD HB6 HC6 HR6
       obtain ⟨rb, hrb⟩ : ∃ rb, rb = (readR (PW.adv p2 n) d k n).1 := ⟨_, rfl⟩
       obtain ⟨re, hre⟩ : ∃ re, re = (readR (PW.adv p2 n) d k n).2 := ⟨_, rfl⟩
       have HRE := Lib.hid (show (rb, re) = if k ≤ (hvL p2 d k n n).length then (s, 0) else (⟨#[]⟩, 54) from by rw [hrb, hre]; exact HRR.out)
       rw [← hrb, ← hre]
       clear hrb hre HRR
       go_wp2_with fail
       go_loopw [16, 17] (fun m i wx => ∃ q : Nat, q ≤ n ∧ i = .int .i64 (q : Int) ∧ m = .int .i64 ((hvL p2 d k n q).length : Nat) ∧ wx = w7) (fun _ i _ => n - (intOf i).toNat)
       case atStart => exact ⟨0, by omega, rfl, rfl, rfl⟩
       case round =>
        obtain ⟨q, hq, rfl, rfl, rfl⟩ := hrel
        have hql := hvL_len p2 d k n q
        by_cases hlt : q < n
        ·have hlt3 : (q : Int) < (n : Int) := by omega
         obtain ⟨g, c', hv2, -⟩ := (OwnG.of HR7.out).addr (by omega)
         obtain ⟨rfl, rfl⟩ : A6 = some ⟨g, 0, none⟩ ∧ c6 = c' := by cases hv2; exact ⟨rfl, rfl⟩
         have hcell := (OwnG.of HR7.out).cells rfl q (.bool (gotN p2 d k n q).sound) (by unfold sndV; rw [List.getElem?_map, List.getElem?_range hlt]; rfl)
         clear hv2
         cases hsn : (gotN p2 d k n q).sound with
         | true =>
           rw [hsn] at hcell
           have HH := Lib.hid (hvL_yes hsn).1
           clear hsn
           go_wp2_with fail
           go_roundw
           case rel => exact ⟨q + 1, by omega, by go_num, by rw [HH.out, List.length_append]; simp only [List.length_cons, List.length_nil]; go_num, by first | rfl | trivial⟩
           case measure => simp [intOf]; omega
         | false =>
           rw [hsn] at hcell
           have HH := Lib.hid (hvL_no hsn).1
           clear hsn
           go_wp2_with fail
           go_roundw
           case rel => exact ⟨q + 1, by omega, by go_num, by rw [HH.out], by first | rfl | trivial⟩
           case measure => simp [intOf]; omega
        ·obtain rfl : q = n := by omega
         have d1 : ¬ ((q : Int) < (q : Int)) := by omega
         have k0 := HC7.out.c0
         have k1 := HC7.out.c1
         have hre := HRE.out
         generalize (hvL p2 d k q q).length = m at *
         have hcase : (rb = s ∧ re = 0 ∧ k ≤ m) ∨ (rb = ⟨#[]⟩ ∧ re = 54 ∧ ¬ k ≤ m) := by
          by_cases hkm : k ≤ m
          ·rw [if_pos hkm] at hre
           exact .inl ⟨(Prod.mk.inj hre).1, (Prod.mk.inj hre).2, hkm⟩
          ·rw [if_neg hkm] at hre
           exact .inr ⟨(Prod.mk.inj hre).1, (Prod.mk.inj hre).2, hkm⟩
         clear hre HRE
         have hbx := HC7.out.blk.lt
         rcases hcase with ⟨hx, rfl, hkm⟩ | ⟨hx, rfl, hkm⟩
         all_goals
          replace hx := hx.symm
          subst hx
          first
           | (have hkm2 : (k : Int) ≤ (m : Int) := by omega)
           | (have hkm2 : ¬ (k : Int) ≤ (m : Int) := by omega)
          clear hkm
          go_wp2_with fail
          have hwn : IntKind.u64.wrap (q : Int) = (q : Int) := by
           rw [IntKind.wrap_u64]
           exact Int.emod_eq_of_lt (by omega) (by omega)
          have hq0 : ¬ (q : Int) = 0 := by omega
          go_region
          have hkk : ∃ k2 : Nat, wrap64 (1 + wrap64 ((IntKind.u64.wrap a).tmod (q : Int))) = (k2 : Int) ∧ 1 ≤ k2 ∧ k2 ≤ q := by
           have h0 : 0 ≤ IntKind.u64.wrap a := by rw [IntKind.wrap_u64]; exact Int.emod_nonneg _ (by decide)
           have h1 := Int.emod_lt_of_pos (IntKind.u64.wrap a) (show (0 : Int) < (q : Int) by omega)
           have h2 := Int.emod_nonneg (IntKind.u64.wrap a) hq0
           rw [Int.tmod_eq_emod_of_nonneg h0]
           generalize IntKind.u64.wrap a % (q : Int) = x at *
           exact ⟨(1 + x).toNat, by unfold wrap64; omega, by omega, by omega⟩
          obtain ⟨k2, hk2e, hk2a, hk2b⟩ := hkk
          simp only [hk2e]
          have hE8 : Stab.Ext wr (wr.alloc (.cells #[.int .i64 (k2 : Int), .int .i64 (q : Int)] 25)).drew := (Stab.Ext.alloc _ _).trans (Stab.Ext.drew _)
          have hbx2 : Blk (wr.alloc (.cells #[.int .i64 (k2 : Int), .int .i64 (q : Int)] 25)).drew wr.heap.size 25 #[.int .i64 (k2 : Int), .int .i64 (q : Int)] := (Blk.new wr 25 #[.int .i64 (k2 : Int), .int .i64 (q : Int)]).below (Stab.Ext.drew _) (Blk.new wr 25 #[.int .i64 (k2 : Int), .int .i64 (q : Int)]).lt
          have HB8 := Lib.hid (HB7.out.ext hE8)
          have k0 := hE8.cell k0
          have k1 := hE8.cell k1
          have o0 := hbx2.cell 0
          have o1 := hbx2.cell 1
          simp only [List.getElem?_toArray, List.getElem?_cons_zero, List.getElem?_cons_succ] at o0 o1
          have hk4 := HK3.out.adv mr
          have hcode2 : Shd.codeB (k2 : Int) (q : Int) = true := (Shd.codeB_iff _ _).2 ⟨by omega, by omega, by omega⟩
          have HSH2 := Lib.hid (shards_any (HB8.out.vars HV.out) HB8.out.at_ (HB8.out.far HG.out) k2 q hcode2 hk4.fit.n_ d HNM.out.dig (fun j hj => cut_calm hk4.fit.calm d (by rw [hk4.fit.n_]; exact hj)))
          have HK4 := Lib.hid hk4
          clear hE8 hbx2 hk4 hcode2 hk2e hwn
          generalize (wr.alloc (.cells #[.int .i64 (k2 : Int), .int .i64 (q : Int)] 25)).drew = w8 at *
          by_cases hkk2 : k2 = k
          ·have hke : ((k2 : Int) == (k : Int)) = true := by simp [hkk2]
           subst hkk2
           go_wp2_with fail
           go_ret
           exact ⟨rfl, HB8.out.below⟩
          ·have hke : ((k2 : Int) == (k : Int)) = false := by simp; omega
           go_wp2_with (go_at_call 31; with_reducible refine HSH2.out.mono ?_)
           rintro e w9 ⟨v9, O9, rfl, hr9, hwb9, ho9⟩
           have hz : ∀ j, j < q → (gotN (PW.adv (PW.adv p2 q) mr) d k2 q j).sound = false := fun j hj => by
            rw [Bool.eq_false_iff]
            intro hh
            have := ((got_iff HNM.out HK4.out.fit.calm HK4.out.fit.n_ HK4.out.only k2 hj).1 hh).1
            omega
           have HZ := Lib.hid hz
           have HB9 := Lib.hid ((HB8.out.wb.fr_next hwb9.fr).below)
           have HR9 := Lib.hid hr9
           obtain ⟨A9, c9, hv9⟩ := row_shape hr9
           subst hv9
           clear hr9 hwb9 ho9 hz HSH2 HB8
           go_wp2_with fail
           go_loopw [21] (fun i wx => ∃ j : Nat, j ≤ q ∧ i = .int .i64 (j : Int) ∧ wx = w9) (fun i _ => q - (intOf i).toNat)
           case atStart => exact ⟨0, by omega, rfl, rfl⟩
           case round =>
            obtain ⟨j, hj, rfl, rfl⟩ := hrel
            by_cases hlt9 : j < q
            ·have hlt9i : (j : Int) < (q : Int) := by omega
             obtain ⟨g9, c9', hv9, -⟩ := (OwnG.of HR9.out).addr (by omega)
             obtain ⟨rfl, rfl⟩ : A9 = some ⟨g9, 0, none⟩ ∧ c9 = c9' := by cases hv9; exact ⟨rfl, rfl⟩
             have hcell := (OwnG.of HR9.out).cells rfl j (.bool false) (by unfold sndV; rw [List.getElem?_map, List.getElem?_range hlt9]; simp only [Option.map_some, HZ.out j hlt9])
             clear hv9
             go_wp2_with fail
             go_roundw
             case rel => exact ⟨j + 1, by omega, by go_num, by first | rfl | trivial⟩
             case measure => simp [intOf]; omega
            ·obtain rfl : j = q := by omega
             have d1 : ¬ ((j : Int) < (j : Int)) := by omega
             go_wp2_with fail
             go_ret
             exact ⟨rfl, HB9.out⟩
    ·have hfb : fitsE (newP n) K (n : Int) ≠ 0 := fun h => hcd (fitsE_ok.1 h).1
     have hkn : ¬ (1 ≤ K ∧ K ≤ (n : Int)) := fun h => hcd ((Shd.codeB_iff _ _).2 ⟨h.1, h.2, by omega⟩)
     have HWB := Lib.hid (write_bad HB2.out.at_ K n hfb s)
     clear hfb hcd
     go_wp2_with (go_at_call 27; with_reducible refine HWB.out.mono ?_)
     rintro e w3 ⟨rfl, hb3⟩
     have hE3 : Stab.Ext w2 w3 := hb3
     have k0 := hE3.cell k0
     have k1 := hE3.cell k1
     have HB3 := Lib.hid (HB2.out.below.trans (Below.mono hE3 HB2.out.below.size))
     clear hb3 hE3
     by_cases hk1 : K < 1
     ·clear hkn
      go_wp2_with fail
      go_ret
      exact ⟨rfl, HB3.out⟩
     ·have hk2 : (n : Int) < K := by omega
      clear hkn
      go_wp2_with fail
      go_ret
      exact ⟨rfl, HB3.out⟩
end Str
end Go.Proofs.YtnbkhdbligjifaaGreatDoor
