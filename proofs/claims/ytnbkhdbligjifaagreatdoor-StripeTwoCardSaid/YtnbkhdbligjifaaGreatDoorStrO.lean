/-
 The stripe laws: the example, in plain words; how many calls a write takes. The stripe laws: a fault strikes, but not if it forges (strike).
-/
import Derived.Test.YtnbkhdbligjifaaGreatDoorStrL
import Derived.Test.YtnbkhdbligjifaaGreatDoorStoI
import Derived.Test.YtnbkhdbligjifaaGreatDoorStoH
set_option linter.unusedVariables false
set_option linter.unusedSimpArgs false
set_option maxRecDepth 100000
set_option maxHeartbeats 40000000
namespace Go.Proofs.YtnbkhdbligjifaaGreatDoor
open Go Go.RowKit Vm
namespace Str
open Hlt
theorem wb_trans {w0 w w' : World} {O0 O O' : List Nat} {b : Nat} {p p' : PW} (h : WB w0 O0 b p O w) (h2 : WB w O b p' O' w') : WB w0 O0 b p' O' w' :=
 ⟨h2.at_, h.fr_next h2.fr, fun k hk => by
  rcases h2.own k hk with h3 | h3
  ·exact h.own k h3
  ·exact .inr (Nat.le_trans h.fr.size h3)⟩
def callsI (p : PW) (k n : Nat) (s : ByteArray) : Int := if (writeR p k n s).1 = 0 then wrap64 ((writeR p k n s).2.calls - p.calls) else -1
def CallsP (w : World) (O : List Nat) (b : Nat) (p : PW) (k n : Nat) (s : ByteArray) (e : Ending) (w' : World) : Prop := ∃ O', e = .returned (.int .i64 (callsI p k n s)) ∧ WB w O b (writeR p k n s).2 O' w'
theorem callsN_any {G : Nat} (hnew : ∀ w : World, G ≤ w.heap.size → Calls Tryz.prog 139 #[] w (Spr.NewPost w)) {w : World} (hG : G ≤ w.heap.size) (hv : Shd.Vars w) {b : Nat} {p : PW} {O : List Nat} (h : WAt w b p O)
 (k n : Nat) (hk : Shd.codeB (k : Int) (n : Int) = true) (hn : p.n = n) (s : ByteArray) (hs : s.size ≤ 32768) {L M : Nat} (hb : ∀ i, Bnd L M (p.st i)) (hL : L + 12 ≤ 10000) (hM : M + 12 ≤ 1000000) :
 Calls Tryz.prog 34 #[.pointer (some ⟨b, 0, none⟩), .agg #[.int .i64 (k : Int), .int .i64 (n : Int)], .string s] w (CallsP w O b p k n s) := by
 have hE0 := Stab.Ext.alloc w (.cells #[.int .i64 (k : Int), .int .i64 (n : Int)] 25)
 have bx := Blk.new w 25 #[.int .i64 (k : Int), .int .i64 (n : Int)]
 have c0 := bx.cell 0
 have c1 := bx.cell 1
 simp only [List.getElem?_toArray, List.getElem?_cons_zero, List.getElem?_cons_succ] at c0 c1
 have h0 : WAt (w.alloc (.cells #[.int .i64 (k : Int), .int .i64 (n : Int)] 25)) b p O := h.keep (Fr.of_below (O := []) hE0) (by simp)
 have HC := Lib.hid (calls_any h0)
 have HW := Lib.hid (write_any hnew (Nat.le_trans hG hE0.size) (hv.below hE0) h0 k n hk hn s hs hb hL hM)
 have HE0 := Lib.hid hE0
 clear h h0 hE0 bx hv hb hnew
 go_enter Tryz.func34, Tryz.ntmps34
 generalize hw0 : w.alloc (.cells #[.int .i64 (k : Int), .int .i64 (n : Int)] 25) = w0 at *
 go_wp2_with (go_at_call 20; with_reducible refine HC.out.mono ?_)
 rintro e w1 ⟨rfl, rfl⟩
 go_wp2_with (go_at_call 27; with_reducible refine HW.out.mono ?_)
 rintro e w2 ⟨O2, rfl, hwb⟩
 have HWB := Lib.hid (hwb.front HE0.out)
 have HC2 := Lib.hid (calls_any hwb.at_)
 have HI := Lib.hid (show callsI p k n s = if (writeR p k n s).1 = 0 then wrap64 ((writeR p k n s).2.calls - p.calls) else -1 from rfl)
 have HP := Lib.hid (show ∀ (x : Int) (w' : World), callsI p k n s = x → WB w O b (writeR p k n s).2 O2 w' → CallsP w O b p k n s (.returned (.int .i64 x)) w' from fun x w' hx hw => ⟨O2, by rw [hx], hw⟩)
 clear hwb HC HW
 by_cases hr : (writeR p k n s).1 = 0
 ·have HR := Lib.hid (HI.out.trans (if_pos hr))
  rw [hr, if_pos rfl]
  clear hr HI
  obtain ⟨x, hx⟩ : ∃ x, x = (writeR p k n s).2.calls := ⟨_, rfl⟩
  rw [← hx] at HC2 HR
  clear hx
  go_wp2_with (go_at_call 20; with_reducible refine HC2.out.mono ?_)
  rintro e w3 ⟨rfl, rfl⟩
  go_wp2_with fail
  go_ret
  exact HP.out _ _ HR.out HWB.out
 ·have HR := Lib.hid (HI.out.trans (if_neg hr))
  rw [if_neg hr]
  obtain ⟨er, her⟩ : ∃ er, er = (writeR p k n s).1 := ⟨_, rfl⟩
  rw [← her] at hr ⊢
  clear her HI
  go_wp2_with fail
  go_ret
  exact HP.out _ _ HR.out HWB.out
/-! ### the example -/
def down0 : Flt := ⟨4, 0, 0, 0, 0⟩
def wipeF (i : Int) : Flt := ⟨1, i, 0, 0, 0⟩
theorem down0_ok : down0.fits := ⟨by decide, by decide, by decide, by decide⟩
theorem struck_down0 (p : PW) (hn : p.n = 3) : p.strikeE down0 = 0 ∧ p.struck down0 = { p with st := upd p.st 0 { p.st 0 with down := true }, sus := upd p.sus 0 true } := by
 have hh : p.has down0.store = true := by unfold PW.has down0; simp; omega
 have hok : down0.okB = true := by decide
 refine ⟨?_, ?_⟩
 ·unfold PW.strikeE hitE
  rw [hh, hok]; rfl
 ·unfold PW.struck hitE
  rw [hh, hok]
  simp only [if_true]
  rw [if_neg (by decide), if_neg (by decide)]
  unfold struckS hitS
  rw [hok]
  rfl
theorem wipe_ok (i : Int) : (wipeF i).fits := ⟨(by decide : (0 : Int) ≤ 1 ∧ (1 : Int) ≤ 255), (by decide : -9223372036854775808 ≤ (0 : Int) ∧ (0 : Int) ≤ 9223372036854775807), (by decide : -9223372036854775808 ≤ (0 : Int) ∧ (0 : Int) ≤ 9223372036854775807), (by decide : -9223372036854775808 ≤ (0 : Int) ∧ (0 : Int) ≤ 9223372036854775807)⟩
theorem struck_wipeF (p : PW) {i : Nat} (hi : i < 3) (hn : p.n = 3) : p.strikeE (wipeF i) = 0 ∧ p.struck (wipeF i) = { p with st := upd p.st i { p.st i with seen := [], good := [], writes := [] }, sus := upd p.sus i true } := by
 have hh : p.has (wipeF i).store = true := by unfold PW.has wipeF; simp; omega
 have hok : (wipeF i).okB = true := by unfold Flt.okB wipeF; simp
 refine ⟨?_, ?_⟩
 ·unfold PW.strikeE hitE
  rw [hh, hok]; rfl
 ·unfold PW.struck hitE
  rw [hh, hok]
  simp only [if_true]
  rw [if_neg (by show ¬ (1 : Int) = 5; decide), if_neg (by show ¬ (1 : Int) = 7; decide)]
  unfold struckS hitS
  rw [hok]
  rfl
section
variable {d s : ByteArray}
def e1 (s : ByteArray) : PW := (writeR (newP 3) 2 3 s).2
def e2 (s : ByteArray) : PW := (writeR (e1 s) 2 3 s).2
theorem e1_is (hN : Num 2 3 d s) (hd : d = dgB s) : WellW 1 3 (e1 s) ∧ (∀ i, i < 3 → (e1 s).st i = { noStore with good := [(nmB d i, dtB 2 3 d s i)], seen := [(nmB d i, dtB 2 3 d s i)] }) ∧ (e1 s).calls = 9 ∧ callsI (newP 3) 2 3 s = 9 := by
 obtain ⟨h1, h2, h3, h4⟩ := written_well hN hd (newP_well 3)
 have hl : lackN 2 3 d s (newP 3) = 3 := lack_all fun i hi => ⟨rfl, by
  generalize nmB d i = nm
  generalize dtB 2 3 d s i = dt
  simp [newP, noStore, TMap.look]⟩
 rw [hl] at h4
 have e0 : cadd (newP 3).calls (3 + 3 + 3) = 9 := by
  show cadd 0 9 = 9
  rw [cadd_small 9 (by omega)]
  rfl
 rw [e0] at h4
 unfold e1
 refine ⟨h2, fun i hi => ?_, h4, ?_⟩
 ·rw [h3 i hi, show (newP 3).st i = noStore from rfl]
  generalize nmB d i = nm
  generalize dtB 2 3 d s i = dt
  simp [wellS, noStore, TMap.look, TMap.put]
 ·unfold callsI
  rw [if_pos h1, h4, show (newP 3).calls = 0 from rfl]
  unfold wrap64
  omega
theorem e2_is (hN : Num 2 3 d s) (hd : d = dgB s) : WellW 2 3 (e2 s) ∧ (∀ i, i < 3 → (e2 s).st i = { noStore with good := [(nmB d i, dtB 2 3 d s i)], seen := [(nmB d i, dtB 2 3 d s i)] }) ∧ callsI (e1 s) 2 3 s = 6 := by
 obtain ⟨g1, g2, g3, _⟩ := e1_is hN hd
 obtain ⟨h1, h2, h3, h4⟩ := written_well hN hd g1
 have hlk : ∀ i, i < 3 → TMap.look ((e1 s).st i).seen (nmB d i) = some (dtB 2 3 d s i) := fun i hi => by
  rw [g2 i hi]
  generalize nmB d i = nm
  generalize dtB 2 3 d s i = dt
  simp [TMap.look]
 rw [lack_none hlk, g3] at h4
 have h5 : (writeR (e1 s) 2 3 s).2.calls = 15 := by
  have e0 : cadd 9 (3 + 0 + 3) = 15 := by
   have h9 : cadd 0 9 = 9 := by
    rw [cadd_small 9 (by omega)]
    rfl
   rw [← h9, cadd_add]
   show cadd 0 15 = 15
   rw [cadd_small 15 (by omega)]
   rfl
  rw [h4, e0]
 unfold e2
 refine ⟨h2, fun i hi => ?_, ?_⟩
 ·rw [h3 i hi]
  unfold wellS
  rw [if_pos (hlk i hi), g2 i hi]
  generalize nmB d i = nm
  generalize dtB 2 3 d s i = dt
  rfl
 ·unfold callsI
  rw [if_pos h1, h5, g3]
  unfold wrap64
  omega
theorem only_put {p : PW} {k n : Nat} (h : ∀ i, i < n → (p.st i).seen = [] ∨ (p.st i).seen = [(nmB d i, dtB k n d s i)]) : Only k n d s p := fun i hi y hy _ => by
 rcases h i hi with h | h
 ·rw [h] at hy; simp [TMap.look] at hy
 ·rw [h] at hy; simpa [TMap.look] using hy.symm
def ex0 : PW := (newP 3).struck down0
def ex1 (s : ByteArray) : PW := (writeR ex0 2 3 s).2
theorem ex0_is : ex0.n = 3 ∧ Hlt.Calm ex0 ∧ ex0.st 0 = { noStore with down := true } ∧ (∀ i, i ≠ 0 → ex0.st i = noStore) ∧ ex0.calls = 0 := by
 unfold ex0
 rw [(struck_down0 (newP 3) rfl).2]
 exact ⟨rfl, ⟨rfl, rfl⟩, rfl, fun i hi => upd_ne _ _ hi, rfl⟩
theorem ex1_is (hN : Num 2 3 d s) (hd : d = dgB s) : (ex1 s).n = 3 ∧ Hlt.Calm (ex1 s) ∧ ((ex1 s).st 0 = { noStore with down := true }) ∧ (∀ i, i < 3 → i ≠ 0 → (ex1 s).st i = { noStore with good := [(nmB d i, dtB 2 3 d s i)], seen := [(nmB d i, dtB 2 3 d s i)] }) ∧ callsI ex0 2 3 s = 7 := by
 obtain ⟨g1, g2, g3, g4, g5⟩ := ex0_is
 have hsz : ∀ i, i < 3 → (nmB d i).size ≠ 0 ∧ (nmB d i).size ≤ 80 ∧ (dtB 2 3 d s i).size ≤ 65536 := fun i hi => by
  have a := nmB_size d hN.dig i (by omega)
  exact ⟨a.1, a.2, datB_size (by omega) (by omega) (by rw [← hN.dig]; simp) hN.len⟩
 have h0d : (ex0.st 0).down = true := by rw [g3]
 have hw : ∀ i, i ≠ 0 → (ex0.st i).down = false := fun i hi => by rw [g4 i hi]; rfl
 have hnl : ∀ i, i ≠ 0 → TMap.look (ex0.st i).seen (nmB d i) = none := fun i hi => by rw [g4 i hi]; rfl
 have hT : ∀ i, i < 3 → i ≠ 0 → isT (objsOf 2 3 d s 3) ex0 i = true := fun i hi h => by
  simp only [isT, decide_eq_true_eq]
  rw [obAt_objs hi, hnl i h]
  exact ⟨hw i h, by simp⟩
 have hT0 : isT (objsOf 2 3 d s 3) ex0 0 = false := by simp [isT, h0d]
 have hr3 : List.range 3 = [0, 1, 2] := rfl
 have hup : upN ex0 3 = 2 := by
  unfold upN
  rw [hr3]
  simp [h0d, hw]
 have hnw : newN (objsOf 2 3 d s 3) ex0 3 = 2 := by
  unfold newN
  rw [hr3]
  simp [hT0, hT]
 have hs := spread_calm (l := objsOf 2 3 d s 3) g2 g1 (objsOf_len _ _ _ _ _) (k := 2) (fun i hi ht => by
  have h : i ≠ 0 := fun e => by rw [e, hT0] at ht; cases ht
  rw [obAt_objs hi, g4 i h]
  obtain ⟨a, b, c⟩ := hsz i hi
  exact (wrote_well1 (st := noStore) ⟨rfl, rfl, rfl⟩ a b c).1) (by rw [hup]; omega)
 rw [hup, hnw, g5] at hs
 have hw2 : writeR ex0 2 3 s = (0, { ex0 with calls := cadd 0 (3 + 2 + 2), st := fun i => if i < 3 then wroteS (objsOf 2 3 d s 3) ex0 i else ex0.st i }) := by unfold writeR; rw [← hd]; exact hs
 unfold ex1 callsI
 rw [hw2]
 refine ⟨g1, ⟨g2.1, g2.2⟩, ?_, fun i hi h => ?_, ?_⟩
 ·simp only [show (0 : Nat) < 3 by omega, if_true]
  unfold wroteS
  rw [if_pos h0d, g3]
 ·simp only [if_pos hi]
  unfold wroteS
  obtain ⟨a, b, c⟩ := hsz i hi
  rw [if_neg (by rw [hw i h]; exact Bool.false_ne_true), if_neg (by simp only [isH, decide_eq_true_eq]; rw [obAt_objs hi, hnl i h]; simp), obAt_objs hi, g4 i h]
  exact (wrote_well1 (st := noStore) ⟨rfl, rfl, rfl⟩ a b c).2
 ·simp only [if_true]
  rw [cadd_small 7 (by omega), g5]
  unfold wrap64
  omega
theorem ex1_read (hN : Num 2 3 d s) (hd : d = dgB s) : readR (ex1 s) d 2 3 = (s, 0) := by
 obtain ⟨g1, g2, g3, g4, _⟩ := ex1_is hN hd
 have ho : Only 2 3 d s (ex1 s) := only_put fun i hi => by
  by_cases h : i = 0
  ·left; rw [h, g3]; rfl
  ·right; rw [g4 i hi h]
 have hsn : ∀ i, i < 3 → (gotN (ex1 s) d 2 3 i).sound = !decide (i = 0) := fun i hi => by
  have : (gotN (ex1 s) d 2 3 i).sound = true ↔ _ := got_iff hN g2 g1 ho (2 : Nat) hi
  by_cases h : i = 0
  ·rw [Bool.eq_iff_iff, this, h]
   simp [Has, g3]
  ·rw [Bool.eq_iff_iff, this]
   simp [Has, g4 i hi h, h, TMap.look, noStore]
 rw [read_calm hN hd g2 g1 ho, if_pos]
 unfold cntN hvL
 rw [show List.range 3 = [0, 1, 2] from rfl]
 simp [hsn]
def e3 (s : ByteArray) : PW := (e2 s).struck (wipeF 0)
def e4 (s : ByteArray) : PW := (e3 s).struck (wipeF 2)
theorem wiped_bnd {st : PSt} {L : Nat} (h : Bnd L 0 st) : Bnd L 0 { st with seen := [], good := [], writes := [] } := ⟨Nat.zero_le _, fun x hx => (by cases hx), Nat.le_refl _, h.room⟩
theorem e3_is (hN : Num 2 3 d s) (hd : d = dgB s) : (e3 s).n = 3 ∧ Hlt.Calm (e3 s) ∧ ((e3 s).st 0).seen = [] ∧ (∀ i, i ≠ 0 → (e3 s).st i = (e2 s).st i) ∧ (∀ i, Bnd 2 0 ((e3 s).st i)) ∧ (e2 s).strikeE (wipeF 0) = 0 := by
 obtain ⟨h2, h3, _⟩ := e2_is hN hd
 obtain ⟨q1, q2⟩ := struck_wipeF (e2 s) (i := 0) (by omega) h2.n_
 have q2' : e3 s = _ := q2
 have q1' : (e2 s).strikeE (wipeF 0) = 0 := q1
 clear q1 q2
 generalize e2 s = p at *
 rw [q2']
 refine ⟨h2.n_, ⟨h2.calm.1, h2.calm.2⟩, by simp only [upd_same], fun i hi => upd_ne _ _ hi, fun i => ?_, q1'⟩
 show Bnd 2 0 (upd p.st 0 _ i)
 by_cases h : i = 0
 ·subst h; rw [upd_same]; exact wiped_bnd (h2.bnd 0)
 ·rw [upd_ne _ _ h]; exact h2.bnd i
theorem e4_is (hN : Num 2 3 d s) (hd : d = dgB s) : (e4 s).n = 3 ∧ Hlt.Calm (e4 s) ∧ ((e4 s).st 0).seen = [] ∧ ((e4 s).st 2).seen = [] ∧ ((e4 s).st 1).seen = [(nmB d 1, dtB 2 3 d s 1)] ∧ (∀ i, Bnd 2 0 ((e4 s).st i)) ∧ (e3 s).strikeE (wipeF 2) = 0 := by
 obtain ⟨_, h3, _⟩ := e2_is hN hd
 obtain ⟨g1, g2, g3, g4, g5, _⟩ := e3_is hN hd
 obtain ⟨q1, q2⟩ := struck_wipeF (e3 s) (i := 2) (by omega) g1
 have q2' : e4 s = _ := q2
 have q1' : (e3 s).strikeE (wipeF 2) = 0 := q1
 have h1 : ((e3 s).st 1).seen = [(nmB d 1, dtB 2 3 d s 1)] := by rw [g4 1 (by omega), h3 1 (by omega)]
 clear q1 q2 g4 h3
 generalize nmB d 1 = nm at *
 generalize dtB 2 3 d s 1 = dt at *
 generalize e3 s = p at *
 rw [q2']
 refine ⟨g1, ⟨g2.1, g2.2⟩, ?_, by simp only [upd_same], ?_, fun i => ?_, q1'⟩
 ·simp only [upd]
  rw [if_neg (by omega)]; exact g3
 ·simp only [upd]
  rw [if_neg (by omega)]; exact h1
 ·show Bnd 2 0 (upd p.st 2 _ i)
  by_cases h : i = 2
  ·subst h; rw [upd_same]; exact wiped_bnd (g5 2)
  ·rw [upd_ne _ _ h]; exact g5 i
theorem e4_read (hN : Num 2 3 d s) (hd : d = dgB s) : readR (e4 s) d 2 3 = (⟨#[]⟩, 54) := by
 obtain ⟨g1, g2, g3, g4, g5, _⟩ := e4_is hN hd
 have ho : Only 2 3 d s (e4 s) := only_put fun i hi => by
  have h : i = 0 ∨ i = 1 ∨ i = 2 := by omega
  rcases h with rfl | rfl | rfl
  ·exact .inl g3
  ·exact .inr g5
  ·exact .inl g4
 have hz : ∀ i, i < 3 → i ≠ 1 → (gotN (e4 s) d 2 3 i).sound = false := fun i hi h => by
  rw [Bool.eq_false_iff]
  intro hh
  have := ((got_iff hN g2 g1 ho (2 : Nat) hi).1 hh).2.2
  have h' : i = 0 ∨ i = 2 := by omega
  rcases h' with rfl | rfl
  ·rw [g3] at this; simp [TMap.look] at this
  ·rw [g4] at this; simp [TMap.look] at this
 rw [read_calm hN hd g2 g1 ho, if_neg]
 unfold cntN hvL
 rw [show List.range 3 = [0, 1, 2] from rfl]
 cases h1 : (gotN (e4 s) d 2 3 1).sound <;> simp [hz 0 (by omega) (by omega), hz 2 (by omega) (by omega), h1]
structure Exm (d s : ByteArray) (p1 p2 x0 x1 p3 p4 : PW) : Prop where
 w1 : (writeR (newP 3) 2 3 s).2 = p1
 c1 : callsI (newP 3) 2 3 s = 9
 n1 : p1.n = 3
 b1 : ∀ i, Bnd 1 0 (p1.st i)
 w2 : (writeR p1 2 3 s).2 = p2
 c2 : callsI p1 2 3 s = 6
 b2 : ∀ i, Bnd 2 0 (p2.st i)
 k0 : (p2.keys 0).length = 1
 k2 : (p2.keys 2).length = 1
 s0 : (newP 3).strikeE down0 = 0
 t0 : (newP 3).struck down0 = x0
 nx : x0.n = 3
 bx : ∀ i, Bnd 0 0 (x0.st i)
 wx : (writeR x0 2 3 s).2 = x1
 cx : callsI x0 2 3 s = 7
 nx1 : x1.n = 3
 rx : readR x1 d 2 3 = (s, 0)
 px : ∀ q, q < 3 → (gotN x1 d (2 : Nat) (3 : Nat) q).pay.size ≤ 1000000
 s3 : p2.strikeE (wipeF 0) = 0
 t3 : p2.struck (wipeF 0) = p3
 b3 : ∀ i, Bnd 2 0 (p3.st i)
 s4 : p3.strikeE (wipeF 2) = 0
 t4 : p3.struck (wipeF 2) = p4
 n4 : p4.n = 3
 r4 : readR p4 d 2 3 = (⟨#[]⟩, 54)
 p4 : ∀ q, q < 3 → (gotN p4 d (2 : Nat) (3 : Nat) q).pay.size ≤ 1000000
theorem keys_one {p : PW} {i : Nat} {x : ByteArray × ByteArray} (hn : i < p.n) (h : (p.st i).seen = [x]) : (p.keys (i : Nat)).length = 1 := by
 unfold PW.keys
 rw [has_lt hn, if_pos rfl]
 show (keysOf (p.st i).seen).length = 1
 rw [h]
 simp [keysOf]
theorem exm_is (hN : Num 2 3 d s) (hd : d = dgB s) : ∃ p1 p2 x0 x1 p3 p4, Exm d s p1 p2 x0 x1 p3 p4 := by
 obtain ⟨a1, a2, a3, a4⟩ := e1_is hN hd
 obtain ⟨b1, b2, b3⟩ := e2_is hN hd
 obtain ⟨c1, c2, c3, c4, c5⟩ := ex0_is
 obtain ⟨d1, d2, d3, d4, d5⟩ := ex1_is hN hd
 obtain ⟨f1, f2, f3, f4, f5, f6⟩ := e3_is hN hd
 obtain ⟨g1, g2, g3, g4, g5, g6, g7⟩ := e4_is hN hd
 have q1 := ex1_read hN hd
 have q2 := e4_read hN hd
 have hbx : ∀ i, Bnd 0 0 (ex0.st i) := fun i => by
  by_cases h : i = 0
  ·rw [h, c3]
   exact ⟨Nat.le_refl _, fun x hx => (by cases hx), Nat.le_refl _, noStore_bnd.room⟩
  ·rw [c4 i h]; exact noStore_bnd
 have hb1 : ∀ i, i < 3 → Bnd 1 0 ((ex1 s).st i) := fun i hi => by
  by_cases h : i = 0
  ·rw [h, d3]
   exact ⟨Nat.zero_le _, fun x hx => (by cases hx), Nat.le_refl _, noStore_bnd.room⟩
  ·rw [d4 i hi h]
   exact ⟨Nat.le_refl _, fun x hx => by
    simp only [List.mem_singleton] at hx
    subst hx
    exact ⟨(nmB_size d hN.dig i (by omega)).2, datB_size (by omega) (by omega) (by rw [← hN.dig]; simp) hN.len⟩, Nat.le_refl _, noStore_bnd.room⟩
 have hpx : ∀ q, q < 3 → (gotN (ex1 s) d (2 : Nat) (3 : Nat) q).pay.size ≤ 1000000 := fun q hq => by
  rw [got_calm d2 d _ _ (by rw [d1]; exact hq)]
  exact Nat.le_trans (got_small _ _ _ _) (Nat.le_trans (getO_small (hb1 q hq) _) (by decide))
 have hp4 : ∀ q, q < 3 → (gotN (e4 s) d (2 : Nat) (3 : Nat) q).pay.size ≤ 1000000 := fun q hq => pay_small g2 g6 d _ _ (by rw [g1]; exact hq)
 have hk0 := keys_one (p := e2 s) (i := 0) (by rw [b1.n_]; omega) (by rw [b2 0 (by omega)])
 have hk2 := keys_one (p := e2 s) (i := 2) (by rw [b1.n_]; omega) (by rw [b2 2 (by omega)])
 have hw1 : (writeR (newP 3) 2 3 s).2 = e1 s := by unfold e1; rfl
 have hw2 : (writeR (e1 s) 2 3 s).2 = e2 s := by unfold e2; rfl
 have hwx : (writeR ex0 2 3 s).2 = ex1 s := by unfold ex1; rfl
 have ht0 : (newP 3).struck down0 = ex0 := by unfold ex0; rfl
 have ht3 : (e2 s).struck (wipeF 0) = e3 s := by unfold e3; rfl
 have ht4 : (e3 s).struck (wipeF 2) = e4 s := by unfold e4; rfl
 exact ⟨e1 s, e2 s, ex0, ex1 s, e3 s, e4 s, hw1, a4, a1.n_, a1.bnd, hw2, b3, b1.bnd, hk0, hk2, (struck_down0 _ rfl).1, ht0, c1, hbx, hwx, d5, d1, q1, hpx, f6, ht3, f5, g7, ht4, g1, q2, hp4⟩
end
end Str
end Go.Proofs.YtnbkhdbligjifaaGreatDoor
namespace Go.Proofs.YtnbkhdbligjifaaGreatDoor
open Go Go.RowKit Vm
open scoped Classical
namespace Str
open Hlt
noncomputable def objsI (p : PW) (i : Int) : List POb := (p.keys i).map fun k => ((⟨k.toArray⟩ : ByteArray), gotB (p.st i.toNat).seen k)
def Reads (o : POb) : Prop := Shd.Looks Shd.sumL o.1.data.toList o.2.data.toList
noncomputable def forgeB (l1 l2 : List POb) : Bool := decide (∃ o ∈ l2, Reads o ∧ o ∉ l1)
noncomputable def strikeP (p : PW) (f : Flt) : PW := if forgeB (objsI p f.store) (objsI (p.struck f) f.store) = true then p else p.struck f
theorem fits_small {L : Nat} {st : PSt} (h : Fits L st) (hL : L ≤ 1000) : Small st.seen := (h.ok hL).small
theorem objsI_len {L n : Nat} {p : PW} (h : WFit L n p) (i : Int) : (objsI p i).length ≤ L := by
 unfold objsI PW.keys
 split
 ·rw [List.length_map]
  simp only [keysOf, List.length_mergeSort, List.length_map]
  exact (h.fits _).len
 ·simp
theorem objs_of {w w' : World} {p : PW} {i : Int} {e : Ending} (h : WObjsPost w p i e w') : ∃ v, e = .returned v ∧ ObjsAt w' w.heap.size v (objsI p i) ∧ Below w.heap.size w w' := by
 obtain ⟨v, h1, h2, h3⟩ := h
 refine ⟨v, h1, ?_, h3⟩
 unfold ObjsAt objsI
 rw [List.length_map, ← objsV_eq]
 exact h2
theorem memqS {l : List POb} {q : Nat} (h : q < l.length) (o : POb) : decide (o ∈ l.take (q + 1)) = (decide (o ∈ l.take q) || decide (l[q] = o)) := memq h o
def StkP (w : World) (O : List Nat) (b : Nat) (p : PW) (f : Flt) (e : Ending) (w' : World) : Prop := ∃ O', e = .returned (.tuple #[]) ∧ WB w O b (strikeP p f) O' w'
theorem strike_any {w : World} (hv : Shd.Vars w) {b : Nat} {p : PW} {O : List Nat} (h : WAt w b p O) (hO : Far O) {L n : Nat} (hf : WFit L n p) (hL : L ≤ 1000) (hn : n ≤ 12) (f : Flt) (hff : f.fits) :
 Calls Tryz.prog 30 #[.pointer (some ⟨b, 0, none⟩), .agg #[.int .u8 f.kind, .int .i64 f.store, .int .i64 f.n, .int .i64 f.at_, .int .i64 f.c]] w (StkP w O b p f) := by
 have hE0 := Stab.Ext.alloc w (.cells #[.int .u8 f.kind, .int .i64 f.store, .int .i64 f.n, .int .i64 f.at_, .int .i64 f.c] 34)
 have bx := Blk.new w 34 #[.int .u8 f.kind, .int .i64 f.store, .int .i64 f.n, .int .i64 f.at_, .int .i64 f.c]
 have h0 : WB w O b p O (w.alloc (.cells #[.int .u8 f.kind, .int .i64 f.store, .int .i64 f.n, .int .i64 f.at_, .int .i64 f.c] 34)) := (WB.refl h).ext hE0
 have HC := Lib.hid (wcopy_any h0.at_ (by rw [hf.n_]; omega) (fun i _ => by rw [(hf.fits i).wr]; simp))
 have HW0 := Lib.hid h0
 have HBX := Lib.hid bx
 have HV := Lib.hid hv
 have HO := Lib.hid hO
 have HF := Lib.hid hf
 have HFF := Lib.hid hff
 have hf2 := (struck_world hf hff).1
 have HF2 := Lib.hid hf2
 have HP := Lib.hid (show strikeP p f = if forgeB (objsI p f.store) (objsI (p.struck f) f.store) = true then p else p.struck f from rfl)
 have hlt := h.lt
 have k0 := bx.cell 0
 have k1 := bx.cell 1
 have k2 := bx.cell 2
 have k3 := bx.cell 3
 have k4 := bx.cell 4
 simp only [List.getElem?_toArray, List.getElem?_cons_zero, List.getElem?_cons_succ] at k0 k1 k2 k3 k4
 clear h h0 hv hO hf hff hE0 bx hf2
 go_enter Tryz.func30, Tryz.ntmps30
 generalize hw0 : w.alloc (.cells #[.int .u8 f.kind, .int .i64 f.store, .int .i64 f.n, .int .i64 f.at_, .int .i64 f.c] 34) = w0 at *
 go_wp2_with (go_at_call 14; with_reducible refine HC.out.mono ?_)
 rintro e w1 ⟨C, Q, rfl, hlow, hat, hb1⟩
 have hE1 : Stab.Ext w0 w1 := hb1
 have hbx1 := HBX.out.below hb1 HBX.out.lt
 have hwb1 := HW0.out.ext hE1
 have HX := Lib.hid (wstrike_any hat f HFF.out (fits_small (HF.out.fits _) hL))
 have hbl := HBX.out.lt
 have hfx : w.heap.size ∉ Q := fun hm => by have := hlow _ hm; omega
 have hQO : ∀ k, k ∈ Q → k ∉ O ∧ w.heap.size ≤ k := fun k hk => ⟨fun hm => by have := hlt k hm; have := hlow k hk; omega, by have := hlow k hk; omega⟩
 have HB1 := Lib.hid hbx1
 have HW1 := Lib.hid hwb1
 have k0 := hbx1.cell 0
 have k1 := hbx1.cell 1
 have k2 := hbx1.cell 2
 have k3 := hbx1.cell 3
 have k4 := hbx1.cell 4
 simp only [List.getElem?_toArray, List.getElem?_cons_zero, List.getElem?_cons_succ] at k0 k1 k2 k3 k4
 clear hE1 hbx1 hwb1 hat hb1 hlow HC
 go_wp2_with (go_at_call 13; with_reducible refine HX.out.mono ?_)
 intro e w2 hq2
 obtain ⟨he2, Q2, hat2, hf2, -⟩ := hq2
 subst he2
 have hbx2 := hf2.blk HB1.out hfx
 have hwb2 := HW1.out.keep hf2 hQO
 have k0 := hbx2.cell 0
 have k1 := hbx2.cell 1
 have k2 := hbx2.cell 2
 have k3 := hbx2.cell 3
 have k4 := hbx2.cell 4
 simp only [List.getElem?_toArray, List.getElem?_cons_zero, List.getElem?_cons_succ] at k0 k1 k2 k3 k4
 have HOB := Lib.hid (wobjects_any hwb2.at_ f.store (fits_small (HF.out.fits _) hL))
 have HB2 := Lib.hid hbx2
 have HW2 := Lib.hid hwb2
 have HAT2 := Lib.hid hat2
 have hbl2 := hbx2.lt
 clear hbx2 hwb2 hat2 hf2 HX
 go_wp2_with (go_at_call 17; with_reducible refine HOB.out.mono ?_)
 intro e w3 ho3
 obtain ⟨v3, he3, hob3, hb3⟩ := objs_of ho3
 subst he3
 have hE3 : Stab.Ext w2 w3 := hb3
 have hbx3 := HB2.out.below hb3 HB2.out.lt
 have k0 := hbx3.cell 0
 have k1 := hbx3.cell 1
 have k2 := hbx3.cell 2
 have k3 := hbx3.cell 3
 have k4 := hbx3.cell 4
 simp only [List.getElem?_toArray, List.getElem?_cons_zero, List.getElem?_cons_succ] at k0 k1 k2 k3 k4
 have HOC := Lib.hid (wobjects_any (HAT2.out.keep (Fr.of_below (O := []) hE3) (by simp)) f.store (fits_small (HF2.out.fits _) hL))
 have HB3 := Lib.hid hbx3
 have HW3 := Lib.hid (HW2.out.ext hE3)
 have HOB3 := Lib.hid hob3
 clear ho3 hob3 hb3 hE3 hbx3 HOB
 go_wp2_with (go_at_call 17; with_reducible refine HOC.out.mono ?_)
 intro e w4 ho4
 obtain ⟨v4, he4, hob4, hb4⟩ := objs_of ho4
 subst he4
 have hE4 : Stab.Ext w3 w4 := hb4
 have hbx4 := HB3.out.below hb4 HB3.out.lt
 have k0 := hbx4.cell 0
 have k1 := hbx4.cell 1
 have k2 := hbx4.cell 2
 have k3 := hbx4.cell 3
 have k4 := hbx4.cell 4
 simp only [List.getElem?_toArray, List.getElem?_cons_zero, List.getElem?_cons_succ] at k0 k1 k2 k3 k4
 have HB4 := Lib.hid hbx4
 have HW4 := Lib.hid (HW3.out.ext hE4)
 have HOB4 := Lib.hid (ObjsAt.ext HOB3.out hE4)
 have HOC4 := Lib.hid hob4
 have hl1 := objsI_len HF.out f.store
 have hl2 := objsI_len HF2.out f.store
 have HV4 := Lib.hid (vars_fr HV.out HW4.out.fr HO.out)
 obtain ⟨A1, c1, hv1⟩ := OwnG.shape HOB4.out
 obtain ⟨A2, c2, hv2⟩ := OwnG.shape hob4
 subst hv1 hv2
 have HFB := Lib.hid (show forgeB (objsI p f.store) (objsI (p.struck f) f.store) = decide (∃ o ∈ objsI (p.struck f) f.store, Reads o ∧ o ∉ objsI p f.store) from rfl)
 clear ho4 hob4 hb4 hE4 hbx4 HOC HOB3 HW3 HB3 HAT2
 generalize objsI p f.store = l1 at *
 generalize objsI (p.struck f) f.store = l2 at *
 go_wp2_with fail
 go_loopw [7] (fun i wr => ∃ q : Nat, q ≤ l2.length ∧ i = .int .i64 (q : Int) ∧ (∀ o ∈ l2.take q, ¬ (Reads o ∧ o ∉ l1)) ∧ Stab.Ext w4 wr) (fun i _ => l2.length - (intOf i).toNat)
 case atStart => exact ⟨0, by omega, rfl, by simp, Stab.Ext.refl _⟩
 case round =>
  obtain ⟨q, hq, rfl, ho, hE⟩ := hrel
  have HOO := Lib.hid ho
  have HE := Lib.hid hE
  by_cases hlt2 : q < l2.length
  ·have hlt3 : (q : Int) < (l2.length : Int) := by omega
   obtain ⟨g, c', hv2, r0, r1⟩ := (HOC4.out.ext hE).cells hlt2
   obtain ⟨rfl, rfl⟩ : A2 = some ⟨g, 0, none⟩ ∧ c2 = c' := by cases hv2; exact ⟨rfl, rfl⟩
   have HRD := Lib.hid (Shd.read_any l2[q].1 l2[q].2 wr (HV4.out.below hE))
   have HRR := Lib.hid (show Reads l2[q] = Shd.Looks Shd.sumL l2[q].1.data.toList l2[q].2.data.toList from rfl)
   clear hv2 ho hE
   go_wp2_with (go_at_call 65; with_reducible refine HRD.out.mono ?_)
   rintro e w5 ⟨hre, hb5⟩
   have hE5 : Stab.Ext wr w5 := hb5
   obtain ⟨sh, er, her, hsh, hrs⟩ : ∃ (sh : Shd.Shard) (er : Int), (er = 0 ∨ er = 4) ∧ e = .returned (.tuple #[Shd.shV sh, .int .i64 er]) ∧ (er = 0 ↔ Reads l2[q]) := by
    rcases hre with ⟨hk, rfl⟩ | ⟨hk, rfl⟩
    ·exact ⟨_, 0, .inl rfl, rfl, by rw [HRR.out]; simp [hk]⟩
    ·exact ⟨_, 4, .inr rfl, rfl, by rw [HRR.out]; simp [hk]⟩
   subst hsh
   obtain ⟨a1, a2, a3, a4, a5, hsv⟩ : ∃ (a b : Int) (c : ByteArray) (d : Int) (e : ByteArray), Shd.shV sh = .agg #[.int .i64 a, .int .i64 b, .string c, .int .i64 d, .string e] := ⟨_, _, _, _, _, rfl⟩
   rw [hsv]
   have HE5 := Lib.hid (HE.out.trans hE5)
   have HRS := Lib.hid hrs
   clear hre hb5 hsv hrs HRD
   have r0 := hE5.cell r0
   have r1 := hE5.cell r1
   have hgl := lt_cell r0
   clear hE5
   go_wp2_with fail
   go_loopw [10, 11] (fun x j wx => ∃ m : Nat, m ≤ l1.length ∧ j = .int .i64 (m : Int) ∧ x = .bool (decide (l2[q] ∈ l1.take m)) ∧ Stab.Ext w5 wx) (fun _ j _ => l1.length - (intOf j).toNat)
   case atStart => exact ⟨0, by omega, rfl, by simp, Stab.Ext.alloc _ _⟩
   case round =>
    obtain ⟨m, hm, rfl, rfl, hE⟩ := hrel
    have HEX := Lib.hid hE
    have r0 := hE.cell r0
    have r1 := hE.cell r1
    by_cases hml : m < l1.length
    ·have hml2 : (m : Int) < (l1.length : Int) := by omega
     have hmq := memqS hml l2[q]
     obtain ⟨g1, c1', hv1, s0, s1⟩ := ((HOB4.out.ext HE5.out).ext hE).cells hml
     obtain ⟨rfl, rfl⟩ : A1 = some ⟨g1, 0, none⟩ ∧ c1 = c1' := by cases hv1; exact ⟨rfl, rfl⟩
     have hmo : Tryz.prog.follows .mixedOrders = true := by kernel_rfl
     cases hw : decide (l2[q] ∈ l1.take m) with
     | true =>
       rw [hw, Bool.true_or] at hmq
       have HMQ := Lib.hid hmq
       clear hmq hv1 hw
       go_wp2_with fail
       go_region
       go_wp2_with fail
       go_roundw
       case rel => exact ⟨m + 1, by omega, by go_num, by rw [HMQ.out], HEX.out.trans (Stab.Ext.drew _)⟩
       case measure => simp [intOf]; omega
     | false =>
       rw [hw, Bool.false_or] at hmq
       have HMQ := Lib.hid hmq
       clear hmq hv1 hw
       obtain ⟨⟨a1, a2⟩, ha⟩ : ∃ a, a = l1[m] := ⟨_, rfl⟩
       obtain ⟨⟨d1, d2⟩, hd⟩ : ∃ a, a = l2[q] := ⟨_, rfl⟩
       rw [← ha] at s0 s1
       rw [← hd] at r0 r1
       have HQ := Lib.hid (show decide (l1[m] = l2[q]) = (a1.toList == d1.toList && a2.toList == d2.toList) from by
        rw [← ha, ← hd, Bool.eq_iff_iff]
        simp only [decide_eq_true_eq, Prod.mk.injEq, Bool.and_eq_true, beq_iff_eq, bytes_inj])
       clear ha hd
       simp only at s0 s1 r0 r1
       by_cases e1 : a1.toList = d1.toList <;> by_cases e2 : a2.toList = d2.toList <;> (
        go_wp2_with fail
        go_region
        go_wp2_with fail
        go_roundw
        case rel => exact ⟨m + 1, by omega, by go_num, by rw [HMQ.out, HQ.out]; simp [e1, e2], HEX.out.trans (Stab.Ext.drew _)⟩
        case measure => simp [intOf]; omega)
    ·obtain rfl : m = l1.length := by omega
     rw [List.take_length]
     have d1 : ¬ ((l1.length : Int) < (l1.length : Int)) := by omega
     have HE7 := Lib.hid (HE5.out.trans hE)
     clear hE
     by_cases hbad : Reads l2[q] ∧ l2[q] ∉ l1
     ·have h0 : er = 0 := HRS.out.2 hbad.1
      have hdm : decide (l2[q] ∈ l1) = false := decide_eq_false hbad.2
      have HST := Lib.hid (show strikeP p f = p from HP.out.trans (if_pos (by rw [HFB.out, decide_eq_true_eq]; exact ⟨_, List.getElem_mem hlt2, hbad⟩)))
      rw [hdm]
      subst h0
      clear hbad
      go_wp2_with fail
      refine bodyPost_ret (results_none rfl _ _ _) rfl ?_
      exact ⟨O, rfl, by rw [HST.out]; exact HW4.out.ext HE7.out⟩
     ·have HBAD := Lib.hid (show ∀ o ∈ l2.take (q + 1), ¬ (Reads o ∧ o ∉ l1) from fun o hm => by
       rw [List.take_succ_eq_append_getElem hlt2, List.mem_append, List.mem_singleton] at hm
       rcases hm with hm | rfl
       ·exact HOO.out o hm
       ·exact hbad)
      by_cases hm1 : l2[q] ∈ l1
      ·have hdm : decide (l2[q] ∈ l1) = true := decide_eq_true hm1
       rw [hdm]
       clear hbad hm1
       rcases her with rfl | rfl
       all_goals
        go_wp2_with fail
        go_roundw
        case rel => exact ⟨q + 1, by omega, by go_num, HBAD.out, HE7.out⟩
        case measure => simp [intOf]; omega
      ·have hne : er ≠ 0 := fun h => hbad ⟨HRS.out.1 h, hm1⟩
       obtain rfl : er = 4 := her.resolve_left hne
       have hdm : decide (l2[q] ∈ l1) = false := decide_eq_false hm1
       rw [hdm]
       clear hbad hm1 hne
       go_wp2_with fail
       go_roundw
       case rel => exact ⟨q + 1, by omega, by go_num, HBAD.out, HE7.out⟩
       case measure => simp [intOf]; omega
  ·obtain rfl : q = l2.length := by omega
   have d1 : ¬ ((l2.length : Int) < (l2.length : Int)) := by omega
   rw [List.take_length] at ho
   have HST := Lib.hid (show strikeP p f = p.struck f from HP.out.trans (if_neg (by
    rw [HFB.out, decide_eq_true_eq]
    rintro ⟨o, hm, hr⟩
    exact ho o hm hr)))
   have k0 := hE.cell k0
   have k1 := hE.cell k1
   have k2 := hE.cell k2
   have k3 := hE.cell k3
   have k4 := hE.cell k4
   have HWR := Lib.hid (HW4.out.ext hE)
   have HSS := Lib.hid (wstrike_any HWR.out.at_ f HFF.out (fits_small (HF.out.fits _) hL))
   clear ho hE
   go_wp2_with (go_at_call 13; with_reducible refine HSS.out.mono ?_)
   intro e w9 hq9
   obtain ⟨O9, hwb9, -, -⟩ := HWR.out.next hq9
   obtain ⟨rfl, -⟩ := hq9
   have HW9 := Lib.hid hwb9
   clear hwb9
   go_wp2_with fail
   refine bodyPost_ret (results_none rfl _ _ _) rfl ?_
   exact ⟨O9, rfl, by rw [HST.out]; exact HW9.out⟩
end Str
end Go.Proofs.YtnbkhdbligjifaaGreatDoor
