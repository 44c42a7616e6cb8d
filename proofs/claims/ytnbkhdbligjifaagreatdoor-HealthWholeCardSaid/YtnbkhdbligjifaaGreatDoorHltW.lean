/-
 The health laws: the example (awake). The law HealthWhole in plain words: faults that forge nothing; what Mend and a crash leave. Was a sound shard forged? (strongboxref06.Forged)
-/
import Derived.Test.YtnbkhdbligjifaaGreatDoorHltS
import Derived.Test.YtnbkhdbligjifaaGreatDoorHltO
import Derived.Test.YtnbkhdbligjifaaGreatDoorStoI
import Derived.Test.YtnbkhdbligjifaaGreatDoorNew
import Derived.Test.YtnbkhdbligjifaaGreatDoorSolA
set_option linter.unusedVariables false
set_option linter.unusedSimpArgs false
set_option maxRecDepth 100000
set_option maxHeartbeats 40000000
namespace Go.Proofs.YtnbkhdbligjifaaGreatDoor
open Go Go.RowKit Vm
namespace Hlt
def TruePost (w : World) (e : Ending) (w' : World) : Prop := e = .returned (.bool true) ∧ Below w.heap.size w w'
def wipe1 : Flt := ⟨1, 1, 0, 0, 0⟩
theorem struck_wipe (p : PW) (hn : p.n = 3) : p.strikeE wipe1 = 0 ∧ p.struck wipe1 = { p with st := upd p.st 1 { p.st 1 with seen := [], good := [], writes := [] }, sus := upd p.sus 1 true } := by
 have hh : p.has wipe1.store = true := by unfold PW.has wipe1; simp; omega
 have hok : wipe1.okB = true := by decide
 refine ⟨?_, ?_⟩
 ·unfold PW.strikeE hitE
  rw [hh, hok]; rfl
 ·unfold PW.struck hitE
  rw [hh, hok]
  simp only [if_true]
  rw [if_neg (by decide), if_neg (by decide)]
  unfold struckS hitS
  rw [hok]
  rfl
def exW (d s : ByteArray) : PW := (filled (newP 3) 2 3 d s 3).struck wipe1
theorem filled_st (p : PW) (k n : Nat) (d s : ByteArray) {i : Nat} (hi : i < n) : (filled p k n d s n).st i = stored (p.st i) (nmB d i) (dB k n d s i) := by
 unfold filled
 simp only [if_pos hi]
 rfl
section
variable {d s : ByteArray}
theorem exW_eq : exW d s = { filled (newP 3) 2 3 d s 3 with st := upd (filled (newP 3) 2 3 d s 3).st 1 { (filled (newP 3) 2 3 d s 3).st 1 with seen := [], good := [], writes := [] }, sus := upd (filled (newP 3) 2 3 d s 3).sus 1 true } := (struck_wipe _ (by unfold filled; exact (adv_st _ _).1)).2
theorem exW_calm : Calm (exW d s) ∧ (exW d s).n = 3 := by
 rw [exW_eq]
 have hc : Calm (newP 3) := ⟨rfl, rfl⟩
 have := filled_calm hc 2 3 d s 3
 exact ⟨this, (adv_st (newP 3) 6).1⟩
theorem exW_st {i : Nat} (hi : i < 3) : (exW d s).st i = if i = 1 then noStore else stored noStore (nmB d i) (dB 2 3 d s i) := by
 rw [exW_eq]
 simp only
 by_cases h : i = 1
 ·subst h
  rw [upd_same, if_pos rfl, filled_st _ _ _ _ _ (by omega)]
  rfl
 ·rw [upd_ne _ _ h, if_neg h, filled_st _ _ _ _ _ hi]
  rfl
theorem exW_get {i : Nat} (hi : i < 3) : getO ((exW d s).st i) (nmB d i) = if i = 1 then (⟨#[]⟩, 5) else (dB 2 3 d s i, 0) := by
 rw [exW_st hi]
 by_cases h : i = 1
 ·rw [if_pos h, if_pos h]; rfl
 ·rw [if_neg h, if_neg h]
  unfold getO stored
  simp [TMap.look_put, noStore]
theorem exW_got (h : Num 2 3 d s) {i : Nat} (hi : i < 3) : gotAt (exW d s) 2 3 d i = if i = 1 then ⟨false, true, ⟨#[]⟩⟩ else sgot 2 3 s i := by
 rw [gotAt_st exW_calm.1 (by rw [exW_calm.2]; exact hi), exW_get hi]
 by_cases h1 : i = 1
 ·rw [if_pos h1, if_pos h1]; rfl
 ·rw [if_neg h1, if_neg h1]; exact got_dat h hi
theorem exW_snd (h : Num 2 3 d s) {i : Nat} (hi : i < 3) : snd (exW d s) 2 3 d i = !decide (i = 1) := by
 unfold snd
 rw [exW_got h hi]
 by_cases h1 : i = 1 <;> simp [h1, sgot]
theorem exW_clean (h : Num 2 3 d s) : Clean (exW d s) 2 3 d s := fun i hi hs => by
 have h1 : i ≠ 1 := fun he => by
  have := exW_snd h hi
  unfold snd at this
  rw [hs] at this
  simp [he] at this
 rw [exW_st hi, if_neg h1]
 exact ⟨rfl, by unfold stored; simp [TMap.look_put, noStore]⟩
theorem exW_e (h : Num 2 3 d s) : eOf (exW d s) 2 3 d s (1, gotAt (exW d s) 2 3 d 1) = 0 := by
 unfold eOf
 rw [exW_got h (by omega), if_pos rfl]
 simp only [if_true]
 rw [exW_st (by omega), if_pos rfl]
 have hn := nmB_size d h.dig 1 (by omega)
 have hd : (dB 2 3 d s 1).size ≤ 65536 := datB_size (by omega) (by omega) (by rw [← h.dig]; simp) h.len
 have hw := put_well (s := noStore) ⟨rfl, rfl, rfl⟩ hn.1 hn.2 hd
 unfold wE
 rw [if_neg (by rw [hw.1]; simp), hw.2.2]
theorem exW_fit (h : Num 2 3 d s) : WFit 1 3 (exW d s) := by
 have hf : ∀ i, Fits 1 ((filled (newP 3) 2 3 d s 3).st i) := fun i => by
  have h0 : Fits 0 noStore := ⟨Nat.le_refl _, fun p hp => (by cases hp), rfl, ⟨by show _ ≤ (-1 : Int); decide, by show (-1 : Int) ≤ _; decide⟩⟩
  by_cases hi : i < 3
  ·rw [filled_st _ _ _ _ _ hi]
   exact stored_fits h0 (nmB_size d h.dig i (by omega)).2 (datB_size (by omega) (by omega) (by rw [← h.dig]; simp) h.len)
  ·unfold filled
   simp only [if_neg hi]
   exact ⟨Nat.zero_le _, h0.key, h0.wr, h0.room⟩
 have hw : WFit 1 3 (filled (newP 3) 2 3 d s 3) := ⟨(adv_st (newP 3) 6).1, hf, filled_calm ⟨rfl, rfl⟩ 2 3 d s 3⟩
 exact (struck_world (f := wipe1) hw ⟨by decide, by decide, by decide, by decide⟩).1
theorem gotAt_adv {p : PW} (hc : Calm p) (m k n : Nat) (d : ByteArray) (i : Nat) : gotAt (PW.adv p m) k n d i = gotAt p k n d i := by
 unfold gotAt
 rw [wgetO_adv hc]
theorem snd_adv {p : PW} (hc : Calm p) (m k n : Nat) (d : ByteArray) (i : Nat) : snd (PW.adv p m) k n d i = snd p k n d i := by
 unfold snd
 rw [gotAt_adv hc]
theorem exW_mend (h : Num 2 3 d s) (hd : d = ⟨(Shd.sumL s.data.toList).toArray⟩) (q : Nat) : (mendR (PW.adv (exW d s) q) 2 3 d).1 = 1 ∧ (mendR (PW.adv (exW d s) q) 2 3 d).2.1 = 0 ∧ Calm (mendR (PW.adv (exW d s) q) 2 3 d).2.2 ∧ (mendR (PW.adv (exW d s) q) 2 3 d).2.2.n = 3 ∧ ∀ i, i < 3 → snd (mendR (PW.adv (exW d s) q) 2 3 d).2.2 2 3 d i = true := by
 have hst := (adv_st (exW d s) q).2.1
 have hc := adv_calm (exW_calm (d := d) (s := s)).1 q
 have hn : (PW.adv (exW d s) q).n = 3 := (adv_st _ _).1.trans exW_calm.2
 have hs : ∀ i, i < 3 → snd (PW.adv (exW d s) q) 2 3 d i = !decide (i = 1) := fun i hi => (snd_adv exW_calm.1 _ _ _ _ _).trans (exW_snd h hi)
 have hcl : Clean (PW.adv (exW d s) q) 2 3 d s := fun i hi hx => by
  rw [gotAt_adv exW_calm.1] at hx
  rw [hst]
  exact exW_clean h i hi hx
 have hcnt : cntS (PW.adv (exW d s) q) 2 3 d = 2 := by
  rw [cntS_eq, show List.range 3 = [0, 1, 2] from rfl]
  simp [List.filter_cons, hs]
 have he : eOf (PW.adv (exW d s) q) 2 3 d s (1, gotAt (PW.adv (exW d s) q) 2 3 d 1) = 0 := by
  have := exW_e h
  unfold eOf at this ⊢
  rw [gotAt_adv exW_calm.1, hst]
  exact this
 have hm := mend_full h hd (allTurn3 2 (by omega)) hc hn hcl (by rw [hcnt]; omega)
 have hg := fun i hi => (hm.got h hc hn (i := i) hi).1
 have hall : ∀ i, i < 3 → snd (mendR (PW.adv (exW d s) q) 2 3 d).2.2 2 3 d i = true := fun i hi => by
  rw [hg i hi, hs i hi]
  by_cases h1 : i = 1
  ·subst h1
   rw [he]; simp
  ·simp [h1]
 have hcc := hm.cnt h hc hn
 rw [hcnt, cntS_all.2 hall] at hcc
 refine ⟨by omega, hm.e_.2 fun i hi hsx => ?_, hm.calm, hm.num, hall⟩
 rw [hs i hi] at hsx
 have : i = 1 := by simpa using hsx
 subst this
 exact he
end
theorem look_pay {p : PW} {L n : Nat} (hf : WFit L n p) {k m : Nat} {d : ByteArray} : ∀ g ∈ lookL p d (k : Int) (m : Int) n, g.pay.size ≤ 65461 := fun g hg => by
 obtain ⟨i, hi, rfl⟩ := List.mem_map.1 hg
 have hi' := List.mem_range.1 hi
 show (gotAt p k m d i).pay.size ≤ 65461
 rw [gotAt_st hf.calm (by rw [hf.n_]; exact hi')]
 unfold gotOf
 split
 ·split
  ·rename_i h0 hl
   have hs := Shd.looks_sound hl
   exact hs.2.1
  ·exact Nat.zero_le _
 ·exact Nat.zero_le _
theorem marks_snd (p : PW) (k n : Nat) (d : ByteArray) : ((lookL p d (k : Int) (n : Int) n).map fun g => Value.bool g.sound) = ((List.range n).map (snd p k n d)).map Value.bool := by
 rw [look_map, List.map_map, List.map_map]; rfl
/-! ### the walk -/
def blobS : ByteArray := ⟨#[115, 111, 109, 101, 32, 98, 108, 111, 98]⟩
theorem awake_true (w : World) (hv : Shd.Vars w) (hG : Tryz.prog.globals.size ≤ w.heap.size) : Calls Tryz.prog 10 #[] w (TruePost w) := by
 have hcode : Shd.codeB ((2 : Nat) : Int) ((3 : Nat) : Int) = true := by decide
 have hsz : blobS.size = 9 := rfl
 have hsb : (⟨#[115, 111, 109, 101, 32, 98, 108, 111, 98]⟩ : ByteArray) = blobS := rfl
 have hdl : (⟨(Shd.sumL blobS.data.toList).toArray⟩ : ByteArray).size = 32 := Shd.sumL_len _
 obtain ⟨d, hd⟩ : ∃ d, d = (⟨(Shd.sumL blobS.data.toList).toArray⟩ : ByteArray) := ⟨_, rfl⟩
 obtain ⟨s, hs⟩ : ∃ s, s = blobS := ⟨_, rfl⟩
 have hnum : Num 2 3 d s := ⟨hcode, by rw [hd]; exact hdl, by rw [hs, hsz]; omega⟩
 have hds : d = ⟨(Shd.sumL s.data.toList).toArray⟩ := by rw [hs, hd]
 have HDS := Lib.hid hds
 have HNUM := Lib.hid hnum
 rw [← hs] at hsb
 clear hd hs hdl hsz hds
 have HSB := Lib.hid hsb
 clear hsb
 have HV := Lib.hid hv
 have HG := Lib.hid hG
 have HNEWW := Lib.hid (show Calls Tryz.prog 11 #[.int .i64 3] w (WNewPost 3 w) from wnew_any w 3 (by omega) (by omega))
 clear hv hG
 go_enter Tryz.func10, Tryz.ntmps10
 go_wp2_with (go_at_call 11; with_reducible refine HNEWW.out.mono ?_)
 rintro e w1 ⟨b, O, rfl, hlow, hat, hb1⟩
 have hE1 : Stab.Ext w w1 := hb1
 have hO : Far O := fun x hx => Nat.le_trans HG.out (hlow x hx)
 have hE2 := Stab.Ext.alloc w1 (.cells #[.int .i64 2, .int .i64 3] 25)
 have bx := Blk.new w1 25 #[.int .i64 2, .int .i64 3]
 have hat2 := hat.keep (Fr.of_below (O := []) hE2) (by simp)
 have hfit0 : ∀ i, i < 3 → Fits 0 ((newP 3).st i) ∧ Well ((newP 3).st i) := fun i hi => ⟨⟨Nat.le_refl _, fun p hp => (by cases hp), rfl, ⟨by show _ ≤ (-1 : Int); decide, by show (-1 : Int) ≤ _; decide⟩⟩, ⟨rfl, rfl, rfl⟩⟩
 have HFILL := Lib.hid (show Calls Tryz.prog 12 #[.pointer (some ⟨b, 0, none⟩), .agg #[.int .i64 2, .int .i64 3], .string ⟨#[115, 111, 109, 101, 32, 98, 108, 111, 98]⟩] (w1.alloc (.cells #[.int .i64 2, .int .i64 3] 25)) (FillPost (w1.alloc (.cells #[.int .i64 2, .int .i64 3] 25)) O b (newP 3) 2 3 d s) from by
  rw [HSB.out, HDS.out]
  exact fill_any (G := Tryz.prog.globals.size) (fun w _ => Fld.new_any w) (Nat.le_trans HG.out (Nat.le_trans hE1.size hE2.size)) hat2 ⟨rfl, rfl⟩ hO (HV.out.below (hE1.trans hE2)) 2 3 hcode rfl s (by have := HNUM.out.len; omega) 0 (by omega) hfit0)
 have k0 := bx.cell 0
 have k1 := bx.cell 1
 simp only [List.getElem?_toArray, List.getElem?_cons_zero, List.getElem?_cons_succ] at k0 k1
 have HLOW := Lib.hid hlow
 have HO := Lib.hid hO
 have HE := Lib.hid (hE1.trans hE2)
 have HBX := Lib.hid bx
 have hbxO : w1.heap.size ∉ O := fun hm => by have := hat.lt _ hm; omega
 clear hlow hO hat hat2 hb1 hE1 hE2 bx hfit0
 go_wp2_with (go_at_call 12; with_reducible refine HFILL.out.mono ?_)
 rintro e w3 ⟨O3, rfl, hwb3⟩
 have hdsz := HNUM.out.dig
 have hfit := exW_fit HNUM.out
 have hst := struck_wipe (filled (newP 3) 2 3 d s 3) (by unfold filled; exact (adv_st _ _).1)
 have HSTR := Lib.hid (show Calls Tryz.prog 13 #[.pointer (some ⟨b, 0, none⟩), .agg #[.int .u8 1, .int .i64 1, .int .i64 0, .int .i64 0, .int .i64 0]] w3 (WPost w3 b O3 (.int .i64 0) (exW d s)) from by
  have := wstrike_any hwb3.at_ wipe1 ⟨by decide, by decide, by decide, by decide⟩ (by
   have hs1 : (filled (newP 3) 2 3 d s 3).st wipe1.store.toNat = stored noStore (nmB d 1) (dB 2 3 d s 1) := filled_st (newP 3) 2 3 d s (i := 1) (by omega)
   rw [hs1]
   exact ((stored_fits (L := 0) ⟨Nat.le_refl _, fun p hp => (by cases hp), rfl, ⟨by show _ ≤ (-1 : Int); decide, by show (-1 : Int) ≤ _; decide⟩⟩ (nmB_size d hdsz 1 (by omega)).2 (datB_size (by omega) (by omega) (by rw [← hdsz]; simp) HNUM.out.len)).ok (by omega)).small)
  rw [hst.1] at this
  exact this)
 have HWB3 := Lib.hid hwb3
 have HFIT := Lib.hid hfit
 clear hwb3 hst hfit
 go_wp2_with (go_at_call 13; with_reducible refine HSTR.out.mono ?_)
 intro e w4 hq4
 obtain ⟨O4, hwb4, hf4, -⟩ := HWB3.out.next hq4
 obtain ⟨rfl, -⟩ := hq4
 have hb4 := hwb4.fr.blk HBX.out hbxO
 have hO4 : Far O4 := fun x hx => by
  rcases hwb4.own x hx with h | h
  ·exact HO.out x h
  ·exact Nat.le_trans HG.out (Nat.le_trans HE.out.size h)
 have hv4 := vars_fr (HV.out.below HE.out) hwb4.fr HO.out
 have hn4 : 3 = (exW d s).n := exW_calm.2.symm
 have HOF := Lib.hid (show Calls Tryz.prog 15 #[.pointer (some ⟨b, 0, none⟩), .agg #[.int .i64 2, .int .i64 3], .string d] w4 (OfPost w4 O4 b (exW d s) 2 3 d) from of_any hwb4.at_ exW_calm.1 hO4 hv4 2 3 hcode hn4 d hdsz)
 have k0 := hb4.cell 0
 have k1 := hb4.cell 1
 simp only [List.getElem?_toArray, List.getElem?_cons_zero, List.getElem?_cons_succ] at k0 k1
 have hbx4 : w1.heap.size ∉ O4 := fun hm => by
  rcases hwb4.own _ hm with h | h
  ·exact hbxO h
  ·have := HBX.out.lt; omega
 have HB4 := Lib.hid hb4
 have HWB4 := Lib.hid hwb4
 have HO4 := Lib.hid hO4
 clear hb4 hwb4 hf4 hO4 hv4 hn4
 go_wp2_with (go_at_call 15; with_reducible refine HOF.out.mono ?_)
 rintro e w5 ⟨A, O5, rfl, hA5, hwb5, hAO5, hA4⟩
 rw [marks_snd] at hA5
 have hb5 := hwb5.fr.blk HB4.out hbx4
 have hown5 : ∀ x, x ∈ O5 → x ∈ O ∨ (w1.alloc (.cells #[.int .i64 2, .int .i64 3] 25)).heap.size ≤ x := fun x hx => by
  rcases hwb5.own x hx with h | h
  ·exact HWB4.out.own x h
  ·exact .inr (Nat.le_trans HWB4.out.fr.size h)
 have hfr5 : Fr O (w1.alloc (.cells #[.int .i64 2, .int .i64 3] 25)) w5 := HWB4.out.fr_next hwb5.fr
 have hO5 : Far O5 := fun x hx => by
  rcases hown5 x hx with h | h
  ·exact HO.out x h
  ·exact Nat.le_trans HG.out (Nat.le_trans HE.out.size h)
 have hv5 := vars_fr (HV.out.below HE.out) hfr5 HO.out
 have hfit5 := adv_fit HFIT.out 3
 have hn5 : 3 = (PW.adv (exW d s) 3).n := hfit5.n_.symm
 have hgs : Tryz.prog.globals.size ≤ w5.heap.size := Nat.le_trans HG.out (Nat.le_trans HE.out.size hfr5.size)
 have HME := Lib.hid (show Calls Tryz.prog 16 #[.pointer (some ⟨b, 0, none⟩), .agg #[.int .i64 2, .int .i64 3], .string d] w5 (MendPost w5 O5 b (PW.adv (exW d s) 3) 2 3 d) from mend_any hwb5.at_ hfit5.calm hO5 hv5 2 3 hcode hn5 d hdsz (look_pay hfit5) (fun i _ => (hfit5.fits i).ok (by omega)) hgs)
 have k0 := hb5.cell 0
 have k1 := hb5.cell 1
 simp only [List.getElem?_toArray, List.getElem?_cons_zero, List.getElem?_cons_succ] at k0 k1
 have hbx5 : w1.heap.size ∉ O5 := fun hm => by
  rcases hown5 _ hm with h | h
  ·exact hbxO h
  ·have := HBX.out.lt; omega
 have HB5 := Lib.hid hb5
 have HWB5 := Lib.hid hwb5
 have HA5 := Lib.hid hA5
 have HFR5 := Lib.hid hfr5
 have HOW5 := Lib.hid hown5
 clear hb5 hwb5 hO5 hv5 hn5 hfit5 hA5 hfr5 hown5 hgs
 obtain ⟨e1, e2, e3, e4, e5⟩ := exW_mend HNUM.out HDS.out 3
 have HE5 := Lib.hid e5
 have HC6 := Lib.hid e3
 have HN6 := Lib.hid e4
 clear e5 e3 e4
 go_wp2_with (go_at_call 16; with_reducible refine HME.out.mono ?_)
 intro e w6 hq6
 unfold MendPost at hq6
 rw [e1, e2] at hq6
 obtain ⟨rfl, O6, hat6, hf6, how6⟩ := hq6
 generalize (mendR (PW.adv (exW d s) 3) 2 3 d).2.2 = p6 at *
 have hb6 := hf6.blk HB5.out hbx5
 have hA6 := hf6.blk HA5.out hAO5
 have hfr6 : Fr O (w1.alloc (.cells #[.int .i64 2, .int .i64 3] 25)) w6 := HFR5.out.trans hf6 fun x hx hl => (HOW5.out x hx).resolve_right (by omega)
 have hown6 : ∀ x, x ∈ O6 → x ∈ O ∨ (w1.alloc (.cells #[.int .i64 2, .int .i64 3] 25)).heap.size ≤ x := fun x hx => by
  rcases how6 x hx with h | h
  ·exact HOW5.out x h
  ·exact .inr (Nat.le_trans HFR5.out.size h)
 have hO6 : Far O6 := fun x hx => by
  rcases hown6 x hx with h | h
  ·exact HO.out x h
  ·exact Nat.le_trans HG.out (Nat.le_trans HE.out.size h)
 have hv6 := vars_fr (HV.out.below HE.out) hfr6 HO.out
 have HOF6 := Lib.hid (show Calls Tryz.prog 15 #[.pointer (some ⟨b, 0, none⟩), .agg #[.int .i64 2, .int .i64 3], .string d] w6 (OfPost w6 O6 b p6 2 3 d) from of_any hat6 HC6.out hO6 hv6 2 3 hcode HN6.out.symm d hdsz)
 have k0 := hb6.cell 0
 have k1 := hb6.cell 1
 simp only [List.getElem?_toArray, List.getElem?_cons_zero, List.getElem?_cons_succ] at k0 k1
 have hAO6 : A ∉ O6 := fun hm => by
  rcases how6 _ hm with h | h
  ·exact hAO5 h
  ·have := HA5.out.lt; omega
 have HA6 := Lib.hid hA6
 have HFR6 := Lib.hid hfr6
 have HOW6 := Lib.hid hown6
 clear hb6 hA6 hfr6 hown6 hO6 hv6 hat6 hf6 how6
 go_wp2_with (go_at_call 15; with_reducible refine HOF6.out.mono ?_)
 rintro e w7 ⟨A7, O7, rfl, hA7, hwb7, -, -⟩
 rw [marks_snd] at hA7
 have hA67 := hwb7.fr.blk HA6.out hAO6
 have hs0 := exW_snd HNUM.out (i := 0) (by omega)
 have hs1 := exW_snd HNUM.out (i := 1) (by omega)
 have hs2 := exW_snd HNUM.out (i := 2) (by omega)
 have r3 : List.range 3 = [0, 1, 2] := rfl
 have a0 := hA67.cell 0
 have a1 := hA67.cell 1
 have a2 := hA67.cell 2
 rw [r3] at a0 a1 a2
 simp only [List.map_cons, List.map_nil, List.getElem?_toArray, List.getElem?_cons_zero, List.getElem?_cons_succ, hs0, hs1, hs2] at a0 a1 a2
 have hcnt : ((List.range 3).map (snd p6 2 3 d)).length = 3 := by simp
 have hc3 : (((List.range 3).map (snd p6 2 3 d)).filter id).length = 3 := by
  rw [r3]
  simp [List.filter_cons, HE5.out]
 have HCNT := Lib.hid (show Calls Tryz.prog 24 #[.slice (some ⟨A7, 0, none⟩) 3 3] w7 fun e w' => e = .returned (.int .i64 3) ∧ w7 = w' from by
  have := count_any (by rw [hcnt]; omega) hA7
  rw [hcnt, hc3] at this
  exact this)
 have HB7 := Lib.hid (show Below w.heap.size w w7 from (new_below HE.out (HFR6.out.trans hwb7.fr fun x hx hl => (HOW6.out x hx).resolve_right (by omega)) fun x hx => HLOW.out x hx))
 clear hA7 hwb7 hA67 hs0 hs1 hs2 r3 hcnt hc3
 go_wp2_with (go_at_call 24; ((with_reducible refine HCNT.out.mono ?_); rintro e w8 ⟨rfl, rfl⟩))
 go_ret
 exact ⟨rfl, HB7.out⟩
end Hlt
end Go.Proofs.YtnbkhdbligjifaaGreatDoor
namespace Go.Proofs.YtnbkhdbligjifaaGreatDoor
open Go Go.RowKit Vm
open scoped Classical
namespace Hlt
section
variable {p : PW} {k : Nat} {d s : ByteArray}
def Reads (o : POb) : Prop := Shd.Looks Shd.sumL o.1.data.toList o.2.data.toList
noncomputable def forgedB (l1 l2 : List POb) : Bool := decide (∃ o ∈ freshL l1 l2, Reads o)
structure Safe (k : Nat) (d s : ByteArray) (p : PW) : Prop where
 only : ∀ i, i < 3 → ∀ o : POb, TMap.look (p.st i).seen o.1 = some o.2 → Reads o → o = (nmB d i, dB k 3 d s i)
 sync : ∀ i, i < 3 → Sync (p.st i)
theorem struck_sync {st : PSt} (h : Sync st) (f : Flt) : Sync (struckS st f) := by
 unfold struckS
 split
 case isFalse => exact h
 unfold hitS
 repeat' split
 all_goals first | exact ⟨rfl, rfl⟩ | exact ⟨h.wr, h.good⟩
theorem struck_room (st : PSt) {f : Flt} (h : f.kind ≠ 7) : (struckS st f).room = st.room := by
 unfold struckS
 split
 case isFalse => rfl
 rename_i hk
 simp only [Flt.okB, decide_eq_true_eq] at hk
 unfold hitS
 repeat' split
 all_goals first | rfl | omega
theorem struck_refuse (st : PSt) {f : Flt} (h : f.kind ≠ 6) : (struckS st f).refuse = st.refuse := by
 unfold struckS
 split
 case isFalse => rfl
 unfold hitS
 repeat' split
 all_goals first | rfl | contradiction
theorem struck_st (p : PW) (f : Flt) (i : Nat) : (p.struck f).st i = p.st i ∨ (p.has f.store = true ∧ i = f.store.toNat ∧ (p.struck f).st i = struckS (p.st i) f) := by
 unfold PW.struck
 split
 case isFalse => exact .inl rfl
 rename_i hh
 split
 case isFalse => exact .inl rfl
 by_cases hi : i = f.store.toNat
 ·right
  refine ⟨hh, hi, ?_⟩
  subst hi
  repeat' split
  all_goals exact upd_same _ _ _
 ·left
  repeat' split
  all_goals exact upd_ne _ _ hi
theorem struck_n (p : PW) (f : Flt) : (p.struck f).n = p.n := by
 unfold PW.struck
 repeat' split
 all_goals rfl
theorem Safe.struck (h : Safe k d s p) (hn : p.n = 3) (f : Flt) (hf : p.has f.store = true → forgedB (objsL p f.store.toNat) (objsL (p.struck f) f.store.toNat) = false) : Safe k d s (p.struck f) := by
 refine ⟨fun i hi o hl hr => ?_, fun i hi => ?_⟩
 ·rcases struck_st p f i with he | ⟨hh, rfl, he⟩
  ·rw [he] at hl
   exact h.only i hi o hl hr
  ·by_cases ho : TMap.look (p.st f.store.toNat).seen o.1 = some o.2
   ·exact h.only _ hi o ho hr
   ·have hff := hf hh
    simp only [forgedB, decide_eq_false_iff_not] at hff
    refine absurd ⟨o, ?_, hr⟩ hff
    unfold freshL
    rw [List.mem_filter]
    refine ⟨(objsL_mem (by rw [struck_n]; omega)).2 hl, ?_⟩
    simpa using fun hm => ho ((objsL_mem (by omega)).1 hm)
 ·rcases struck_st p f i with he | ⟨hh, rfl, he⟩
  ·rw [he]; exact h.sync i hi
  ·rw [he]; exact struck_sync (h.sync _ hi) f
theorem Safe.clean (h : Safe k d s p) (hc : Calm p) (hn : p.n = 3) : Clean p k 3 d s := by
 intro i hi hs
 rw [gotAt_st hc (by omega)] at hs
 unfold gotOf getO at hs
 cases hd : (p.st i).down
 ·rw [hd] at hs
  simp only [Bool.false_eq_true, if_false] at hs
  refine ⟨rfl, ?_⟩
  cases hl : TMap.look (p.st i).seen (nmB d i) with
  | none => rw [hl] at hs; simp at hs
  | some y =>
    rw [hl] at hs
    simp only [if_true] at hs
    split at hs
    ·rename_i hk
     have := h.only i hi (nmB d i, y) hl hk
     rw [Prod.mk.injEq] at this
     rw [this.2]
    ·cases hs
 ·rw [hd] at hs
  simp at hs
theorem Safe.adv (h : Safe k d s p) (m : Nat) : Safe k d s (PW.adv p m) := by
 have := (adv_st p m).2.1
 exact ⟨fun i hi => by rw [this]; exact h.only i hi, fun i hi => by rw [this]; exact h.sync i hi⟩
theorem Safe.filled (hN : Num k 3 d s) : Safe k d s (filled (newP 3) k 3 d s 3) := by
 refine ⟨fun i hi o hl hr => ?_, fun i hi => ?_⟩
 ·rw [filled_st _ _ _ _ _ hi] at hl
  have : TMap.look (TMap.put ([] : TMap) (nmB d i) (dB k 3 d s i)) o.1 = some o.2 := hl
  rw [TMap.look_put] at this
  split at this
  ·rename_i he
   rw [Option.some.injEq] at this
   exact Prod.ext he this.symm
  ·cases this
 ·rw [filled_st _ _ _ _ _ hi]
  exact ⟨rfl, rfl⟩
theorem eOf_well (hN : Num k 3 d s) (hc : Calm p) (hn : p.n = 3) {i : Nat} (hi : i < 3) (hw : Well (p.st i)) : eOf p k 3 d s (i, gotAt p k 3 d i) = 0 := by
 have ht : (gotAt p k 3 d i).there = true := by
  rw [gotAt_st hc (by omega)]
  unfold gotOf getO
  rw [hw.down]
  simp only [Bool.false_eq_true, if_false]
  cases TMap.look (p.st i).seen (nmB d i) with
  | none => rfl
  | some y =>
    simp only [if_true]
    split <;> rfl
 have hsz := nmB_size d hN.dig i (by omega)
 have hdl : d.data.toList.length = 32 := by rw [← hN.dig]; simp
 have hks := hN.ks
 have hd : (dB k 3 d s i).size ≤ 65536 := by
  have := pay_le hN i
  have hdat : (dB k 3 d s i).size = ((shardOf k 3 d.data.toList s i).data Shd.sumL).length := rfl
  rw [hdat, Shd.data_len Shd.sumL_len _ hdl]
  show 75 + (payB k 3 s i).length ≤ 65536
  omega
 have hfull : fullB (p.st i) (nmB d i) (dB k 3 d s i) = false := by
  unfold fullB
  rw [hw.room]
  simp
 have href : refB (p.st i) = false := by
  unfold refB
  rw [hw.refuse]
  rfl
 have hrd : (refS (p.st i)).down = false := by rw [(refS_same _).2.2.2.1]; exact hw.down
 have hc1 : ¬ ((nmB d i).size = 0 ∨ 80 < (nmB d i).size ∨ 65536 < (dB k 3 d s i).size) := by omega
 have hp : putE (p.st i) (nmB d i) (dB k 3 d s i) = 0 := by
  unfold putE
  rw [if_neg hc1, hw.down, hfull, href]
  rfl
 unfold eOf
 rw [ht, if_pos rfl]
 unfold wE
 rw [if_neg (by simpa using hp)]
 unfold syncV putS
 rw [if_neg hc1, hw.down, hfull, href]
 simp only [Bool.false_eq_true, if_false, hrd]
theorem crash_sync {st : PSt} (h : Sync st) (ks : List Int) : (crashS st ks).seen = st.seen ∧ (crashS st ks).down = st.down := by
 unfold crashS
 rw [h.wr]
 exact ⟨h.good, rfl⟩
theorem crashed_calm (p : PW) (l : List (List Int)) : Calm (p.crashed l) := ⟨rfl, rfl⟩
theorem crashed_got (hc : Calm p) (hn : p.n = 3) (l : List (List Int)) {i : Nat} (hi : i < 3) (hs : Sync (p.st i)) : gotAt (p.crashed l) k 3 d i = gotAt p k 3 d i := by
 obtain ⟨h1, h2⟩ := crash_sync hs (l.getD i [])
 rw [gotAt_st hc (by omega), gotAt_st (crashed_calm p l) (show i < (p.crashed l).n by show i < p.n; omega)]
 show gotOf _ (getO (crashS (p.st i) (l.getD i [])) _) _ _ = _
 rw [getO_same h1 h2]
variable {m : Nat} {e : Int} {p' : PW}
theorem MendFull.crash (hm : MendFull p k 3 d s m e p') (hN : Num k 3 d s) (h : Safe k d s p) (hc : Calm p) (hn : p.n = 3) (he : e = 0) {q : Nat} (l : List (List Int)) :
 cntS ((PW.adv p' q).crashed l) k 3 d = 3 := by
 rw [cntS_all]
 intro i hi
 have hq := (adv_st p' q).2.1
 have hee := hm.e_.1 he
 have hsy : Sync (p'.st i) := by
  cases hs : snd p k 3 d i
  ·have h1 := hm.put i hi hs
   have h2 := hee i hi hs
   unfold eOf at h2
   split at h2
   ·rename_i ht
    rw [h1, if_pos ht]
    exact (wS_yes h2).2.1
   ·omega
  ·rw [hm.same i hi hs]; exact h.sync i hi
 have hg := (hm.got hN hc hn hi).1
 have hs' : snd p' k 3 d i = true := by
  rw [hg]
  cases hs : snd p k 3 d i
  ·simp [hee i hi hs]
  ·rfl
 unfold snd at hs' ⊢
 rw [crashed_got (adv_calm hm.calm q) ((adv_st p' q).1.trans hm.num) l hi (by rw [hq]; exact hsy)]
 have : gotAt (PW.adv p' q) k 3 d i = gotAt p' k 3 d i := by
  rw [gotAt_st (adv_calm hm.calm q) (by rw [(adv_st p' q).1, hm.num]; exact hi), gotAt_st hm.calm (by rw [hm.num]; exact hi), hq]
 rw [this]; exact hs'
theorem cntS_adv (hc : Calm p) (m : Nat) : cntS (PW.adv p m) k 3 d = cntS p k 3 d := by
 unfold cntS
 rw [look_adv hc]
end
end Hlt
end Go.Proofs.YtnbkhdbligjifaaGreatDoor
namespace Go.Proofs.YtnbkhdbligjifaaGreatDoor
open Go Go.RowKit Vm
open scoped Classical
namespace Hlt
theorem shV_agg (s : Shd.Shard) : ∃ (a b : Int) (c : ByteArray) (d : Int) (e : ByteArray), Shd.shV s = .agg #[.int .i64 a, .int .i64 b, .string c, .int .i64 d, .string e] := ⟨_, _, _, _, _, rfl⟩
def Ref06 : Prop := ∀ (name data : ByteArray), data.size ≤ 1000000 → ∀ W : World, Calls Tryz.prog 54 #[.agg #[.string name, .string data]] W fun e w' => Shd.ReadEnd name.data.toList data.data.toList e ∧ Below W.heap.size W w'
theorem fresh_mem {l1 l2 : List POb} {o : POb} (h : o ∈ freshL l1 l2) : o ∈ l2 := (List.mem_filter.1 h).1
theorem forged_any (hR : Ref06) {w : World} {b1 b2 : Nat} {v1 v2 : Value} {l1 l2 : List POb} (h1 : ObjsAt w b1 v1 l1) (h2 : ObjsAt w b2 v2 l2) (hl1 : l1.length ≤ 100000) (hl2 : l2.length ≤ 100000) (hd : ∀ o ∈ l2, o.2.size ≤ 1000000) :
 Calls Tryz.prog 23 #[v1, v2] w fun e w' => e = .returned (.bool (forgedB l1 l2)) ∧ Below w.heap.size w w' := by
 have HN1 := Lib.hid (newO_any h1 h2 hl1 hl2)
 have hf1 : (freshL l1 l2).length ≤ l2.length := List.length_filter_le _ _
 have HFB := Lib.hid (show forgedB l1 l2 = decide (∃ o ∈ freshL l1 l2, Reads o) from rfl)
 have HD := Lib.hid (show ∀ o ∈ freshL l1 l2, o.2.size ≤ 1000000 from fun o ho => hd o (fresh_mem ho))
 have HR := Lib.hid hR
 clear h1 h2 hd hR
 go_enter Tryz.func23, Tryz.ntmps23
 go_wp2_with (go_at_call 18; refine HN1.out.mono ?_)
 rintro e w1 ⟨v, rfl, hv, hb⟩
 obtain ⟨A, cap, rfl⟩ := OwnG.shape hv
 have HB := Lib.hid hb
 have HV := Lib.hid hv
 clear hv hb
 generalize freshL l1 l2 = L at *
 go_wp2_with fail
 go_loopw [6] (fun i wr => ∃ q : Nat, q ≤ L.length ∧ i = .int .i64 (q : Int) ∧ (∀ o ∈ L.take q, ¬ Reads o) ∧ Stab.Ext w1 wr) (fun i _ => L.length - (intOf i).toNat)
 case atStart => exact ⟨0, by omega, rfl, by simp, Stab.Ext.refl _⟩
 case round =>
  obtain ⟨q, hq, rfl, ho, hE⟩ := hrel
  have HO := Lib.hid ho
  have HE := Lib.hid hE
  by_cases hlt : q < L.length
  ·have hlt2 : (q : Int) < (L.length : Int) := by omega
   obtain ⟨g, c', hv2, r0, r1⟩ := (HV.out.ext hE).cells hlt
   obtain ⟨rfl, rfl⟩ : A = some ⟨g, 0, none⟩ ∧ cap = c' := by cases hv2; exact ⟨rfl, rfl⟩
   have HC := Lib.hid (HR.out L[q].1 L[q].2 (HD.out _ (List.getElem_mem hlt)))
   have HRD := Lib.hid (show Reads L[q] = Shd.Looks Shd.sumL L[q].1.data.toList L[q].2.data.toList from rfl)
   clear hv2 ho hE
   go_wp2_with (go_at_call 54; with_reducible refine (HC.out _).mono ?_)
   rintro e w2 ⟨hre, hb2⟩
   have HE2 := Lib.hid (HE.out.trans hb2)
   clear hb2
   rcases hre with ⟨hk, rfl⟩ | ⟨hk, rfl⟩
   ·rw [← HRD.out] at hk
    have HK := Lib.hid (show decide (∃ o ∈ L, Reads o) = true from by rw [decide_eq_true_eq]; exact ⟨_, List.getElem_mem hlt, hk⟩)
    obtain ⟨a1, a2, a3, a4, a5, hsv⟩ := shV_agg (Shd.readS L[q].2.data.toList)
    rw [hsv]
    clear hk hsv HRD
    go_wp2_with fail
    go_ret
    have hfb := HFB.out
    rw [HK.out] at hfb
    exact ⟨by rw [hfb]; rfl, HB.out.trans (Below.mono (Below.alloc HE2.out HE2.out.size _) HB.out.size)⟩
   ·rw [← HRD.out] at hk
    have HK := Lib.hid (show ∀ o ∈ L.take (q + 1), ¬ Reads o from fun o hm => by
     rw [List.take_succ_eq_append_getElem hlt, List.mem_append, List.mem_singleton] at hm
     rcases hm with hm | rfl
     ·exact HO.out o hm
     ·exact hk)
    obtain ⟨a1, a2, a3, a4, a5, hsv⟩ := shV_agg ⟨0, 0, 0, [], []⟩
    rw [hsv]
    clear hk hsv HRD
    go_wp2_with fail
    go_roundw
    case rel => exact ⟨q + 1, by omega, by go_num, HK.out, Below.alloc HE2.out HE2.out.size _⟩
    case measure => simp [intOf]; omega
  ·obtain rfl : q = L.length := by omega
   have d1 : ¬ ((L.length : Int) < (L.length : Int)) := by omega
   have HK := Lib.hid (show decide (∃ o ∈ L, Reads o) = false from by
    rw [decide_eq_false_iff_not]
    rintro ⟨o, hm, hr⟩
    rw [List.take_length] at ho
    exact ho o hm hr)
   clear ho hE
   go_wp2_with fail
   go_ret
   have hfb := HFB.out
   rw [HK.out] at hfb
   exact ⟨by rw [hfb]; rfl, HB.out.trans (Below.mono HE.out HB.out.size)⟩
end Hlt
end Go.Proofs.YtnbkhdbligjifaaGreatDoor
