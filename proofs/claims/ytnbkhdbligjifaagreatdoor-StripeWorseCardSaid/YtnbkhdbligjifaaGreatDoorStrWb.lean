/-
  The law StripeWorse: the walk; a row of bools, opened.
-/
import Derived.Test.YtnbkhdbligjifaaGreatDoorStrWa
set_option linter.unusedVariables false
set_option linter.unusedSimpArgs false
namespace Go.Proofs.YtnbkhdbligjifaaGreatDoor
open Go Go.RowKit Vm
open scoped Classical
namespace Str
open Hlt
set_option linter.unusedVariables false
/-- a row of bools that a caller gave -/
def BoolsAt (w : World) (v : Value) (xs : List Bool) : Prop :=
  ∃ A c, v = .slice A xs.length c ∧ xs.length ≤ c ∧ (0 < xs.length → ∃ g o, A = some ⟨g, o, none⟩ ∧ g < w.heap.size ∧ ∀ j x, xs[j]? = some x → w.cell? ⟨g, o + j, none⟩ = some (.bool x))
/-- what Write tells, whatever it is -/
def WrQ (w : World) (O : List Nat) (b : Nat) (p : PW) (e : Ending) (w' : World) : Prop := ∃ O' x y, e = .returned (.tuple #[.string x, .int .i64 y]) ∧ WB w O b p O' w'
set_option maxRecDepth 100000 in
set_option maxHeartbeats 40000000 in
theorem worse_walk (K N : Int) (hK : Shd.I64 K) (hN : Shd.I64 N) (s : ByteArray) (v : Value) (lose : List Bool) (a : Int) (ha : Shd.I64 a) (vs : Value) (ls : List (List Int)) (w : World) (hv : Shd.Vars w) (hG : Tryz.prog.globals.size ≤ w.heap.size) (hl : BoolsAt w v lose)
    (hsv : SurvAt [] w vs ls ∧ ∀ ks ∈ ls, ks.length ≤ 9223372036854775807 ∧ ∀ x ∈ ks, -9223372036854775808 ≤ x ∧ x ≤ 9223372036854775807) :
    Calls Tryz.prog 8 #[.agg #[.int .i64 K, .int .i64 N], .string s, v, .int .i64 a, vs] w (TrueP w) := by
  obtain ⟨A, cap, rfl, hlc, hcells⟩ := hl
  obtain ⟨hsv, hsok⟩ := hsv
  obtain ⟨SA, sc, hvs⟩ : ∃ A cap, vs = .slice A ls.length cap := by obtain ⟨A, cap, h, _⟩ := hsv; exact ⟨A, cap, h⟩
  subst hvs
  have hE0 := Stab.Ext.alloc w (.cells #[.int .i64 K, .int .i64 N] 25)
  have hC : CAt w.heap.size K N (w.alloc (.cells #[.int .i64 K, .int .i64 N] 25)) := ⟨Blk.new w 25 #[.int .i64 K, .int .i64 N]⟩
  have HWK := Lib.hid (show ∀ W, Stab.Ext w W → Calls Tryz.prog 26 #[] W (TrueP W) from fun W hW => works_true W (hv.below hW) (Nat.le_trans hG hW.size))
  have HV := Lib.hid hv
  have HG := Lib.hid hG
  have HC := Lib.hid hC
  have HE0 := Lib.hid hE0
  have HCELLS := Lib.hid hcells
  have HSV := Lib.hid hsv
  have HSOK := Lib.hid hsok
  have HNEW := Lib.hid (show ∀ w : World, Tryz.prog.globals.size ≤ w.heap.size → Calls Tryz.prog 139 #[] w (Spr.NewPost w) from fun w _ => Fld.new_any w)
  clear hv hG hC hE0 hcells hsv hsok
  go_enter Tryz.func8, Tryz.ntmps8
  generalize hw0 : w.alloc (.cells #[.int .i64 K, .int .i64 N] 25) = w0 at *
  go_wp2_with (go_at_call 26; with_reducible refine (HWK.out _ HE0.out).mono ?_)
  rintro e w1 ⟨rfl, hb1⟩
  have hE1 : Stab.Ext w0 w1 := hb1
  have HE1 := Lib.hid (HE0.out.trans hE1)
  have HC1 := Lib.hid (HC.out.ext hE1)
  have k0 := HC1.out.c0
  have k1 := HC1.out.c1
  clear hb1 hE1 HC
  by_cases hs2 : 2000 < s.size
  · have hs3 : (2000 : Int) < (s.size : Int) := by omega
    go_wp2_with (go_at_call 26; with_reducible refine (HWK.out _ HE1.out).mono ?_)
    rintro e w2 ⟨rfl, hb2⟩
    have HB2 := Lib.hid (HE1.out.trans (show Stab.Ext w1 w2 from hb2))
    clear hb2
    go_wp2_with fail
    go_ret
    exact ⟨rfl, HB2.out⟩
  have hs3 : ¬ (2000 : Int) < (s.size : Int) := by omega
  by_cases hl2 : 50 < lose.length
  · have hl3 : (50 : Int) < (lose.length : Int) := by omega
    go_wp2_with (go_at_call 26; with_reducible refine (HWK.out _ HE1.out).mono ?_)
    rintro e w2 ⟨rfl, hb2⟩
    have HB2 := Lib.hid (HE1.out.trans (show Stab.Ext w1 w2 from hb2))
    clear hb2
    go_wp2_with fail
    go_ret
    exact ⟨rfl, HB2.out⟩
  have hl3 : ¬ (50 : Int) < (lose.length : Int) := by omega
  by_cases hc2 : 50 < ls.length
  · have hc3 : (50 : Int) < (ls.length : Int) := by omega
    go_wp2_with (go_at_call 26; with_reducible refine (HWK.out _ HE1.out).mono ?_)
    rintro e w2 ⟨rfl, hb2⟩
    have HB2 := Lib.hid (HE1.out.trans (show Stab.Ext w1 w2 from hb2))
    clear hb2
    go_wp2_with fail
    go_ret
    exact ⟨rfl, HB2.out⟩
  have hc3 : ¬ (50 : Int) < (ls.length : Int) := by omega
  by_cases hNb : N < 1 ∨ 12 < N
  · have HNB := Lib.hid (wnew_bad w1 N hNb)
    clear hNb
    go_wp2_with (go_at_call 11; with_reducible refine HNB.out.mono ?_)
    rintro e w2 ⟨rfl, rfl⟩
    go_wp2_with fail
    go_ret
    exact ⟨rfl, HE1.out⟩
  obtain ⟨hN1, hN2⟩ : 1 ≤ N ∧ N ≤ 12 := by omega
  obtain ⟨n, rfl⟩ : ∃ n : Nat, N = (n : Int) := ⟨N.toNat, by omega⟩
  have HNN := Lib.hid (wnew_any w1 n (by omega) (by omega))
  clear hNb
  go_wp2_with (go_at_call 11; with_reducible refine HNN.out.mono ?_)
  rintro e w2 ⟨b, O, rfl, hlow, hat, hb2⟩
  have hE2 : Stab.Ext w1 w2 := hb2
  have hlt0 := HC1.out.blk.lt
  have hB2 : Born w w.heap.size b (newP n) O w2 := ⟨⟨hat, below_far (HE1.out.trans hE2), fun k hk => .inr (Nat.le_trans HE1.out.size (hlow k hk))⟩, fun hm => by have := hlow _ hm; omega⟩
  have HC2 := Lib.hid (HC1.out.ext hE2)
  have HB2 := Lib.hid hB2
  have k0 := HC2.out.c0
  have k1 := HC2.out.c1
  have hlt2 := HC2.out.blk.lt
  clear hb2 hE2 hat hlow hB2 HNN HC1
  by_cases hcd : Shd.codeB K (n : Int) = true
  case neg =>
    have hfb : fitsE (newP n) K (n : Int) ≠ 0 := fun h => hcd (fitsE_ok.1 h).1
    have hkn : ¬ (1 ≤ K ∧ K ≤ (n : Int)) := fun h => hcd ((Shd.codeB_iff _ _).2 ⟨h.1, h.2, by omega⟩)
    have HWB := Lib.hid (write_bad HB2.out.at_ K n hfb s)
    clear hfb hcd
    go_wp2_with (go_at_call 27; with_reducible refine HWB.out.mono ?_)
    rintro e w3 ⟨rfl, hb3⟩
    have hE3 : Stab.Ext w2 w3 := hb3
    have k0 := hE3.cell k0
    have k1 := hE3.cell k1
    have HB3 := Lib.hid (HB2.out.below.trans (Below.mono hE3 HB2.out.below.size))
    clear hb3 hE3
    by_cases hk1 : K < 1
    · clear hkn
      go_wp2_with fail
      go_ret
      exact ⟨rfl, HB3.out⟩
    · have hk2 : (n : Int) < K := by omega
      clear hkn
      go_wp2_with fail
      go_ret
      exact ⟨rfl, HB3.out⟩
  obtain ⟨hk1, hk2, _⟩ := (Shd.codeB_iff _ _).1 hcd
  obtain ⟨k, rfl⟩ : ∃ k : Nat, K = (k : Int) := ⟨K.toNat, by omega⟩
  obtain ⟨d, hd⟩ : ∃ d, d = dgB s := ⟨_, rfl⟩
  have hNm : Num k n d s := ⟨hcd, by rw [hd]; exact dgB_size s, by omega⟩
  obtain ⟨p1, q1, q2⟩ := Lost.start hNm hd lose
  have hW := write_any HNEW.out (Nat.le_trans HG.out HB2.out.below.size) (HB2.out.vars HV.out) HB2.out.at_ k n hcd rfl s (by omega) (newP_well n).bnd (by omega) (by omega)
  unfold WrPost at hW
  rw [q1, if_pos rfl, ← hd] at hW
  have HW := Lib.hid hW
  have HNM := Lib.hid hNm
  have HD := Lib.hid hd
  have HL := Lib.hid q2
  clear hW q1 q2 hNm hd
  go_wp2_with (go_at_call 27; with_reducible refine HW.out.mono ?_)
  rintro e w3 ⟨O3, rfl, hwb3⟩
  have HB3 := Lib.hid (HB2.out.next hwb3 HC2.out.blk.lt)
  have HC3 := Lib.hid (HC2.out.keep hwb3.fr HB2.out.cb)
  have k0 := HC3.out.c0
  have k1 := HC3.out.c1
  clear hwb3 HW HB2 HC2
  go_wp2_with fail
  go_loopw [14, 15] (fun m i wr => ∃ (q : Nat) (O' : List Nat) (p : PW), q ≤ lose.length ∧ q ≤ n ∧ i = .int .i64 (q : Int) ∧ m = .int .i64 ((goneN lose q : Nat) : Int) ∧ Born w w.heap.size b p O' wr ∧ CAt w.heap.size k n wr ∧ Lost k n d s lose q p) (fun _ i _ => lose.length - (intOf i).toNat)
  case atStart => exact ⟨0, O3, p1, by omega, by omega, rfl, rfl, HB3.out, HC3.out, HL.out⟩
  case round =>
    obtain ⟨q, O', p, hq, hqn, rfl, rfl, hB, hC, hL⟩ := hrel
    have k0 := hC.c0
    have k1 := hC.c1
    have hgl := gone_le lose q
    have hgo : q < lose.length ∧ q < n ∨ (q < lose.length ∧ q = n) ∨ q = lose.length := by omega
    rcases hgo with ⟨hlt, hltn⟩ | hend
    · have hlt3 : (q : Int) < (lose.length : Int) := by omega
      have hltn3 : (q : Int) < (n : Int) := by omega
      obtain ⟨g, o, rfl, hgg, hc⟩ := HCELLS.out (by omega)
      have r0 := (World.cell?_of_block (hB.wb.fr.block g hgg (by simp))).trans (hc q _ (List.getElem?_eq_getElem hlt))
      have hgd : lose.getD q false = lose[q] := by rw [List.getD, List.getElem?_eq_getElem hlt, Option.getD_some]
      have HB := Lib.hid hB
      have HCC := Lib.hid hC
      have HLL := Lib.hid hL
      cases hx : lose[q] with
      | true =>
        rw [hx] at r0 hgd
        have HGY := Lib.hid (gone_yes hgd)
        have HLY := Lib.hid (hL.wipe hltn hgd)
        have hst := wstrike_any hB.at_ (wipeF q) (wipe_ok q) (((hL.bnd _).ok (by omega) (by omega)).small)
        rw [(struck_wipe p (by rw [hL.n_]; exact hltn)).1] at hst
        generalize p.struck (wipeF q) = p2 at *
        have HST := Lib.hid (show Calls Tryz.prog 13 #[.pointer (some ⟨b, 0, none⟩), .agg #[.int .u8 1, .int .i64 (q : Int), .int .i64 0, .int .i64 0, .int .i64 0]] wr (WPost wr b O' (.int .i64 0) p2) from hst)
        clear hB hC hL hst hgd hx hc
        go_wp2_with (go_at_call 13; with_reducible refine HST.out.mono ?_)
        intro e w5 hq5
        obtain ⟨O5, hB5, hf5, -⟩ := HB.out.op hq5 HCC.out.blk.lt
        obtain ⟨rfl, -⟩ := hq5
        have HB5 := Lib.hid hB5
        have HC5 := Lib.hid (HCC.out.keep hf5 HB.out.cb)
        clear hB5 hf5
        go_wp2_with fail
        go_roundw
        case rel => exact ⟨q + 1, O5, p2, by omega, by omega, by go_num, by rw [HGY.out]; go_num, HB5.out, HC5.out, HLY.out⟩
        case measure => simp [intOf]; omega
      | false =>
        rw [hx] at r0 hgd
        have HGN := Lib.hid (gone_no hgd)
        have HLN := Lib.hid (hL.keep hgd)
        clear hB hC hL hgd hx hc
        go_wp2_with fail
        go_roundw
        case rel => exact ⟨q + 1, O', p, by omega, by omega, by go_num, by rw [HGN.out], HB.out, HCC.out, HLN.out⟩
        case measure => simp [intOf]; omega
    · have hend2 : q = n ∨ lose.length ≤ q := by omega
      obtain ⟨c0, hc0⟩ : ∃ c0 : Int, c0 = wrap64 ((IntKind.u64.wrap a).tmod 40) := ⟨_, rfl⟩
      have hc1 : 0 ≤ c0 := by
        have h0 : 0 ≤ IntKind.u64.wrap a := by rw [IntKind.wrap_u64]; exact Int.emod_nonneg _ (by decide)
        rw [hc0, Int.tmod_eq_emod_of_nonneg h0]
        unfold wrap64
        omega
      have hcut : wrap64 ((IntKind.u64.wrap a).tmod 40) = c0 := hc0.symm
      have hCU := cut_any hB.at_ c0
      rw [show PW.cutE c0 = 0 from if_neg (by omega)] at hCU
      obtain ⟨z1, z2, z3, z4⟩ := hL.wo hend2 c0
      have hgl2 := gone_left lose hend2 hqn
      generalize p.cut c0 = p2 at *
      have HCU := Lib.hid hCU
      have HZ1 := Lib.hid z1
      have HZ2 := Lib.hid z2
      have HZ3 := Lib.hid z3
      have HZ4 := Lib.hid z4
      have HB := Lib.hid hB
      have HCC := Lib.hid hC
      have HGL := Lib.hid hgl2
      clear hCU z1 z2 z3 z4 hB hC hL hgl2 hc0 hc1 hend2
      rcases hend with ⟨hlt, hqe⟩ | hqe
      all_goals
        first
          | (have hlt3 : (q : Int) < (lose.length : Int) := by omega
             have hltn3 : (n : Int) ≤ (q : Int) := by omega)
          | (have hlt3 : (lose.length : Int) ≤ (q : Int) := by omega)
        generalize goneN lose q = gn at *
        clear hqe
        go_wp2_with (go_at_call 32; with_reducible refine HCU.out.mono ?_)
        intro e w4 hq4
        obtain ⟨O4, hB4, hf4, -⟩ := HB.out.op hq4 HCC.out.blk.lt
        obtain ⟨rfl, -⟩ := hq4
        have hC4 := HCC.out.keep hf4 HB.out.cb
        have hWR : Calls Tryz.prog 27 #[.pointer (some ⟨b, 0, none⟩), .agg #[.int .i64 (k : Int), .int .i64 (n : Int)], .string s] w4 (WrQ w4 O4 b (writeR p2 k n s).2) := (write_any HNEW.out (Nat.le_trans HG.out hB4.below.size) (hB4.vars HV.out) hB4.at_ k n hcd HZ4.out s (by omega) HZ3.out (by omega) (by omega)).mono fun e w' ⟨O2, h1, h2⟩ => ⟨O2, _, _, h1, h2⟩
        have HWO := Lib.hid (write_wo HNM.out HD.out HZ1.out HZ2.out)
        generalize (writeR p2 k n s).2 = p3 at *
        have HWR := Lib.hid hWR
        have HB4 := Lib.hid hB4
        have HC4 := Lib.hid hC4
        have k0 := hC4.c0
        have k1 := hC4.c1
        clear hWR hB4 hC4 hf4
        go_wp2_with (go_at_call 27; with_reducible refine HWR.out.mono ?_)
        rintro e w5 ⟨O5, x5, y5, rfl, hwb5⟩
        have hB5 := HB4.out.next hwb5 HC4.out.blk.lt
        have HC5 := Lib.hid (HC4.out.keep hwb5.fr HB4.out.cb)
        have HCR := Lib.hid (wcrash_any hB5.at_ (by rw [HWO.out.n_]; omega) _ ls (surv_far HSV.out hB5.wb.fr hB5.low) (by omega) (fun i hi => HWO.out.crash_ok HNM.out HSOK.out (by rw [← HWO.out.n_]; exact hi)))
        have HB5 := Lib.hid hB5
        clear hwb5 hB5 HB4 HC4
        go_wp2_with (go_at_call 25; with_reducible refine HCR.out.mono ?_)
        intro e w6 hq6
        obtain ⟨O6, hB6, hf6, -⟩ := HB5.out.op hq6 HC5.out.blk.lt
        obtain ⟨rfl, -⟩ := hq6
        have hC6 := HC5.out.keep hf6 HB5.out.cb
        obtain ⟨c, hcc, hrd⟩ := HWO.out.read HNM.out HD.out ls
        have hcal : Hlt.Calm (p3.crashed ls) := ⟨rfl, rfl⟩
        have hpn : (p3.crashed ls).n = n := HWO.out.n_
        have hRD : Calls Tryz.prog 28 #[.pointer (some ⟨b, 0, none⟩), .agg #[.int .i64 (k : Int), .int .i64 (n : Int)], .string d] w6 (RdT w6 O6 b (readP (p3.crashed ls) d k n) (readR (p3.crashed ls) d k n).1 (readR (p3.crashed ls) d k n).2) := read_any (hB6.vars HV.out) hB6.at_ (hB6.far HG.out) k n hcd hpn d HNM.out.dig (fun j hj => by
          rw [got_calm hcal d _ _ (by rw [hpn]; exact hj)]
          exact Nat.le_trans (got_small _ _ _ _) (Nat.le_trans (HWO.out.bnd HNM.out ls hj _) (by decide)))
        obtain ⟨rb, hrb⟩ : ∃ rb, rb = (readR (p3.crashed ls) d k n).1 := ⟨_, rfl⟩
        obtain ⟨re, hre⟩ : ∃ re, re = (readR (p3.crashed ls) d k n).2 := ⟨_, rfl⟩
        rw [← hrb, ← hre] at hRD
        have hre2 : (rb, re) = if k ≤ c then (s, 0) else (⟨#[]⟩, 54) := by rw [hrb, hre]; exact hrd
        generalize readP (p3.crashed ls) d k n = p4 at *
        have HRD := Lib.hid hRD
        have HB6 := Lib.hid hB6
        have HC6 := Lib.hid hC6
        have k0 := hC6.c0
        have k1 := hC6.c1
        clear hRD hB6 hC6 hf6 hrb hre hrd hcal hpn HB5 HC5 HCR
        go_wp2_with (go_at_call 28; with_reducible refine HRD.out.mono ?_)
        rintro e w7 ⟨O7, rfl, hwb7⟩
        have HB7 := Lib.hid (HB6.out.next hwb7 HC6.out.blk.lt)
        have hC7 := HC6.out.keep hwb7.fr HB6.out.cb
        have k0 := hC7.c0
        have k1 := hC7.c1
        have hgl3 := HGL.out
        obtain ⟨m, hm⟩ : ∃ m : Nat, n = gn + m := ⟨n - gn, by omega⟩
        have hmi : (n : Int) - (gn : Int) = (m : Int) := by omega
        have HMI := Lib.hid hmi
        have hcm : m ≤ c := by omega
        clear hwb7 hC7 hgl3 hm hcc HRD HB6 HC6 hmi
        have hcase : (rb = s ∧ re = 0) ∨ (rb = ⟨#[]⟩ ∧ re = 54 ∧ ¬ k ≤ c) := by
          by_cases hkm : k ≤ c
          · rw [if_pos hkm] at hre2
            exact .inl ⟨(Prod.mk.inj hre2).1, (Prod.mk.inj hre2).2⟩
          · rw [if_neg hkm] at hre2
            exact .inr ⟨(Prod.mk.inj hre2).1, (Prod.mk.inj hre2).2, hkm⟩
        clear hre2
        rcases hcase with ⟨hx, rfl⟩ | ⟨hx, rfl, hkc⟩
        · replace hx := hx.symm
          subst hx
          by_cases hkm : k ≤ m
          · have hkm2 : (k : Int) ≤ (n : Int) - (gn : Int) := by rw [HMI.out]; omega
            clear hkm hcm
            go_wp2_with fail
            go_ret
            exact ⟨rfl, HB7.out.below⟩
          · have hkm2 : (n : Int) - (gn : Int) < (k : Int) := by rw [HMI.out]; omega
            clear hkm hcm
            go_wp2_with fail
            go_ret
            exact ⟨rfl, HB7.out.below⟩
        · have hkm2 : (n : Int) - (gn : Int) < (k : Int) := by rw [HMI.out]; omega
          subst hx
          clear hcm hkc
          go_wp2_with fail
          go_ret
          exact ⟨rfl, HB7.out.below⟩
end Str
end Go.Proofs.YtnbkhdbligjifaaGreatDoor
namespace Go.Proofs.YtnbkhdbligjifaaGreatDoor
open Go.ChangeShapes Go.WideShapes Go.ChangeAt Go.RowKit Go.Joins Go.Deep
namespace Hlt
open Vm
set_option maxRecDepth 100000 in
theorem open_boolsz {H : Type} {enc : TypeId × Value → H} {w : World} {base : Nat} {held : Bool} {b0 : Nat} {r : Reach} {v : Value} {d : DataW H} {p : List MemPlace} (hv : Value.okWide Tryz.prog w r b0 36 v) (h : DataW.Trod enc Tryz.prog w base (fun _ => true) held 36 v d p) :
    ∃ l : List Bool, Str.BoolsAt w v l := by
  obtain ⟨l, A, cap, h1, h2, h3⟩ := open_bools hv h
  rw [List.length_map] at h1 h2 h3
  refine ⟨l, A, cap, h1, h2, fun h0 => ?_⟩
  obtain ⟨g, o, q1, q2, q3⟩ := h3 h0
  exact ⟨g, o, q1, q2, fun j x hx => q3 j (.bool x) (by rw [List.getElem?_map, hx]; rfl)⟩
end Hlt
end Go.Proofs.YtnbkhdbligjifaaGreatDoor
