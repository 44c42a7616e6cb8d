/-
 The stripe laws: a world of three stores; how many calls a write takes; stores that are well. The stripe laws: the example, in plain words; how many calls a write takes.
-/
import Derived.Test.YtnbkhdbligjifaaGreatDoorStrK
import Derived.Test.YtnbkhdbligjifaaGreatDoorStrA
set_option linter.unusedVariables false
set_option linter.unusedSimpArgs false
set_option maxRecDepth 100000
set_option maxHeartbeats 40000000
namespace Go.Proofs.YtnbkhdbligjifaaGreatDoor
open Go Go.RowKit Vm
namespace Str
open Hlt
structure Sync (st : PSt) : Prop where
 wr : st.writes = []
 good : st.good = st.seen
structure WellW (L n : Nat) (p : PW) : Prop where
 n_ : p.n = n
 calm : Hlt.Calm p
 well : ∀ i, i < n → Well (p.st i)
 sync : ∀ i, i < n → Sync (p.st i)
 bnd : ∀ i, Bnd L 0 (p.st i)
theorem noStore_bnd : Bnd 0 0 noStore := ⟨Nat.le_refl _, fun x hx => (by cases hx), Nat.le_refl _, ⟨by show _ ≤ (-1 : Int); decide, by show (-1 : Int) ≤ _; decide⟩⟩
theorem newP_well (n : Nat) : WellW 0 n (newP n) := ⟨rfl, ⟨rfl, rfl⟩, fun _ _ => ⟨rfl, rfl, rfl⟩, fun _ _ => ⟨rfl, rfl⟩, fun _ => noStore_bnd⟩
section
variable {p : PW} {L k n : Nat} {d s : ByteArray}
theorem wrote_well1 {st : PSt} (h : Well st) {nm dt : ByteArray} (h0 : nm.size ≠ 0) (hN : nm.size ≤ 80) (hD : dt.size ≤ 65536) : putE st nm dt = 0 ∧ (putS st nm dt).settled = { st with good := TMap.put st.seen nm dt, seen := TMap.put st.seen nm dt, writes := [] } := by
 obtain ⟨good, seen, writes, down, refuse, room⟩ := st
 obtain ⟨rfl, rfl, rfl⟩ := h
 have hc : ¬ (nm.size = 0 ∨ 80 < nm.size ∨ 65536 < dt.size) := by omega
 have h1 := put_well (s := ⟨good, seen, writes, false, -1, -1⟩) ⟨rfl, rfl, rfl⟩ h0 hN hD
 refine ⟨h1.1, ?_⟩
 have h2 := h1.2.1
 unfold syncS at h2
 rw [if_neg (by rw [putS_down]; exact Bool.false_ne_true)] at h2
 exact h2
def wellS (nm dt : ByteArray) (st : PSt) : PSt := if TMap.look st.seen nm = some dt then st.settled else { st with good := TMap.put st.seen nm dt, seen := TMap.put st.seen nm dt, writes := [] }
theorem wellS_well {nm dt : ByteArray} {st : PSt} (h : Well st) : Well (wellS nm dt st) := by
 unfold wellS; split <;> exact ⟨h.down, h.refuse, h.room⟩
theorem wellS_sync (nm dt : ByteArray) (st : PSt) : Sync (wellS nm dt st) := by
 unfold wellS; split <;> exact ⟨rfl, rfl⟩
theorem wellS_bnd {nm dt : ByteArray} {st : PSt} {L : Nat} (h : Bnd L 0 st) (hN : nm.size ≤ 80) (hD : dt.size ≤ 65536) : Bnd (L + 1) 0 (wellS nm dt st) := by
 unfold wellS
 split
 ·exact ⟨Nat.le_trans h.len (by omega), h.key, Nat.le_refl _, h.room⟩
 ·refine ⟨Nat.le_trans (put_len1 _ _ _) (by have := h.len; omega), fun x hx => ?_, Nat.le_refl _, h.room⟩
  rcases put_mem1 hx with rfl | hx
  ·exact ⟨hN, hD⟩
  ·exact h.key x hx
def lackN (k n : Nat) (d s : ByteArray) (p : PW) : Nat := newN (objsOf k n d s n) p n
theorem write_well (hN : Num k n d s) (hd : d = dgB s) (h : WellW L n p) :
 writeR p k n s = (0, { p with calls := cadd p.calls (n + lackN k n d s p + n), st := fun i => if i < n then wellS (nmB d i) (dtB k n d s i) (p.st i) else p.st i }) := by
 obtain ⟨h1, h2, h3⟩ := hN.ks
 have hsz : ∀ i, i < n → (nmB d i).size ≠ 0 ∧ (nmB d i).size ≤ 80 ∧ (dtB k n d s i).size ≤ 65536 := fun i hi => by
  have a := nmB_size d hN.dig i (by omega)
  exact ⟨a.1, a.2, datB_size (by omega) (by omega) (by rw [← hN.dig]; simp) hN.len⟩
 have hup : upN p n = n := by
  unfold upN
  rw [List.filter_eq_self.2 fun i hi => by rw [(h.well i (List.mem_range.1 hi)).down]; rfl, List.length_range]
 have hs := spread_calm (l := objsOf k n d s n) h.calm h.n_ (objsOf_len _ _ _ _ _) (k := k) (fun i hi _ => by
  rw [obAt_objs hi]
  obtain ⟨a, b, c⟩ := hsz i hi
  exact (wrote_well1 (h.well i hi) a b c).1) (by rw [hup]; exact h2)
 unfold writeR
 rw [← hd, hs, hup]
 congr 2
 funext i
 by_cases hi : i < n
 ·rw [if_pos hi, if_pos hi]
  unfold wroteS wellS
  have hw := h.well i hi
  obtain ⟨a, b, c⟩ := hsz i hi
  rw [if_neg (by rw [hw.down]; exact Bool.false_ne_true), obAt_objs hi]
  by_cases hh : TMap.look (p.st i).seen (nmB d i) = some (dtB k n d s i)
  ·rw [if_pos hh, if_pos (by simp only [isH, decide_eq_true_eq]; rw [obAt_objs hi]; exact ⟨hw.down, hh⟩)]
  ·rw [if_neg hh, if_neg (by simp only [isH, decide_eq_true_eq]; rw [obAt_objs hi]; exact fun e => hh e.2)]
   exact (wrote_well1 hw a b c).2
 ·rw [if_neg hi, if_neg hi]
theorem written_well (hN : Num k n d s) (hd : d = dgB s) (h : WellW L n p) : (writeR p k n s).1 = 0 ∧ WellW (L + 1) n (writeR p k n s).2 ∧ (∀ i, i < n → (writeR p k n s).2.st i = wellS (nmB d i) (dtB k n d s i) (p.st i)) ∧ (writeR p k n s).2.calls = cadd p.calls (n + lackN k n d s p + n) := by
 obtain ⟨h1, h2, h3⟩ := hN.ks
 rw [write_well hN hd h]
 refine ⟨rfl, ⟨h.n_, ⟨h.calm.1, h.calm.2⟩, fun i hi => ?_, fun i hi => ?_, fun i => ?_⟩, fun i hi => if_pos hi, rfl⟩
 ·simp only [if_pos hi]; exact wellS_well (h.well i hi)
 ·simp only [if_pos hi]; exact wellS_sync _ _ _
 ·by_cases hi : i < n
  ·simp only [if_pos hi]
   exact wellS_bnd (h.bnd i) (nmB_size d hN.dig i (by omega)).2 (datB_size (by omega) (by omega) (by rw [← hN.dig]; simp) hN.len)
  ·simp only [if_neg hi]
   exact (h.bnd i).up (by omega) (Nat.le_refl _)
theorem lack_all (h : ∀ i, i < n → (p.st i).down = false ∧ ¬ TMap.look (p.st i).seen (nmB d i) = some (dtB k n d s i)) : lackN k n d s p = n := by
 unfold lackN newN
 rw [List.filter_eq_self.2 fun i hi => by
  have hi := List.mem_range.1 hi
  simp only [isT, decide_eq_true_eq]
  rw [obAt_objs hi]
  exact h i hi, List.length_range]
theorem lack_none (h : ∀ i, i < n → TMap.look (p.st i).seen (nmB d i) = some (dtB k n d s i)) : lackN k n d s p = 0 := by
 unfold lackN newN
 rw [List.filter_eq_nil_iff.2 fun i hi => by
  have hi := List.mem_range.1 hi
  simp only [isT, decide_eq_true_eq]
  rw [obAt_objs hi]
  exact fun e => e.2 (h i hi)]
 rfl
end
theorem cadd_small : ∀ m, m ≤ 1000000 → cadd 0 m = (m : Int)
 | 0, _ => rfl
 | m + 1, h => by
   rw [cadd, cadd_small m (by omega)]
   unfold wrap64
   omega
/-! ### walks -/
def ThreeP (w : World) (e : Ending) (w' : World) : Prop := ∃ b O, e = .returned (.tuple #[.pointer (some ⟨b, 0, none⟩), .agg #[.int .i64 2, .int .i64 3]]) ∧ (∀ x, x ∈ O → w.heap.size ≤ x) ∧ WAt w' b (newP 3) O ∧ Below w.heap.size w w'
theorem three_any (w : World) : Calls Tryz.prog 56 #[] w (ThreeP w) := by
 have hE0 := Stab.Ext.alloc w (.cells #[.int .i64 0, .int .i64 0] 25)
 have bx := Blk.new w 25 #[.int .i64 0, .int .i64 0]
 have HN := Lib.hid (show Calls Tryz.prog 11 #[.int .i64 3] (w.alloc (.cells #[.int .i64 0, .int .i64 0] 25)) (WNewPost 3 (w.alloc (.cells #[.int .i64 0, .int .i64 0] 25))) from wnew_any _ 3 (by omega) (by omega))
 have HE0 := Lib.hid hE0
 have HBX := Lib.hid bx
 clear hE0 bx
 go_enter Tryz.func56, Tryz.ntmps56
 go_wp2_with (go_at_call 11; with_reducible refine HN.out.mono ?_)
 rintro e w1 ⟨b, O, rfl, hlow, hat, hb1⟩
 have hx := HBX.out.below hb1 HBX.out.lt
 have z0 := hx.cell 0
 have z1 := hx.cell 1
 have y0 := hx.frozen 0
 have y1 := hx.frozen 1
 simp only [List.getElem?_toArray, List.getElem?_cons_zero, List.getElem?_cons_succ] at z0 z1
 have hbO : w.heap.size ∉ O := fun hm => by have := hlow _ hm; simp at this; omega
 have HAT := Lib.hid hat
 have HLOW := Lib.hid hlow
 have HB := Lib.hid (HE0.out.trans (show Stab.Ext _ w1 from hb1))
 have HX1 := Lib.hid hb1
 clear hx hb1 hat hlow
 go_wp2_with fail
 refine ⟨rfl, .tuple #[.pointer (some ⟨b, 0, none⟩), .agg #[.int .i64 2, .int .i64 3]], ?_, ?_⟩
 ·have hres : Tryz.f56.results = #[ResultVar.tmp 0, ResultVar.cell 1 25] := rfl
  have s0 : ((w1.setCell ⟨w.heap.size, 0, none⟩ (.int .i64 2)).setCell ⟨w.heap.size, 1, none⟩ (.int .i64 3)).cell? ⟨w.heap.size, 0, none⟩ = some (.int .i64 2) := by
   have := ((HBX.out.below (show Below _ _ w1 from HX1.out) HBX.out.lt).set_ 0 (.int .i64 2)).set_ 1 (.int .i64 3)
   exact this.cell 0
  have s1 : ((w1.setCell ⟨w.heap.size, 0, none⟩ (.int .i64 2)).setCell ⟨w.heap.size, 1, none⟩ (.int .i64 3)).cell? ⟨w.heap.size, 1, none⟩ = some (.int .i64 3) := by
   have := ((HBX.out.below (show Below _ _ w1 from HX1.out) HBX.out.lt).set_ 0 (.int .i64 2)).set_ 1 (.int .i64 3)
   exact this.cell 1
  generalize ((w1.setCell ⟨w.heap.size, 0, none⟩ (.int .i64 2)).setCell ⟨w.heap.size, 1, none⟩ (.int .i64 3)) = W8 at *
  simp only [results, hres, List.mapM_toArray, List.mapM_cons, List.mapM_nil]
  go_simp
 ·have hf : Fr [w.heap.size] w1 ((w1.setCell ⟨w.heap.size, 0, none⟩ (.int .i64 2)).setCell ⟨w.heap.size, 1, none⟩ (.int .i64 3)) := (Fr.cell w1 ⟨w.heap.size, 0, none⟩ _).next (Fr.cell _ ⟨w.heap.size, 1, none⟩ _)
  exact ⟨b, O, rfl, fun x hx => by have := HLOW.out x hx; simp at this; omega, HAT.out.keep hf fun x hx hm => by simp only [List.mem_singleton] at hm; subst hm; exact hbO hx,
   new_below HB.out hf fun x hx => by simp only [List.mem_singleton] at hx; omega⟩
end Str
end Go.Proofs.YtnbkhdbligjifaaGreatDoor
namespace Go.Proofs.YtnbkhdbligjifaaGreatDoor
open Go Go.RowKit Vm
namespace Str
open Hlt
theorem wb_trans {w0 w w' : World} {O0 O O' : List Nat} {b : Nat} {p p' : PW} (h : WB w0 O0 b p O w) (h2 : WB w O b p' O' w') : WB w0 O0 b p' O' w' :=
 ⟨h2.at_, h.fr_next h2.fr, fun k hk => by
  rcases h2.own k hk with h3 | h3
  ·exact h.own k h3
  ·exact .inr (Nat.le_trans h.fr.size h3)⟩
def callsI (p : PW) (k n : Nat) (s : ByteArray) : Int := if (writeR p k n s).1 = 0 then wrap64 ((writeR p k n s).2.calls - p.calls) else -1
def CallsP (w : World) (O : List Nat) (b : Nat) (p : PW) (k n : Nat) (s : ByteArray) (e : Ending) (w' : World) : Prop := ∃ O', e = .returned (.int .i64 (callsI p k n s)) ∧ WB w O b (writeR p k n s).2 O' w'
theorem callsN_any {G : Nat} (hnew : ∀ w : World, G ≤ w.heap.size → Calls Tryz.prog 139 #[] w (Spr.NewPost w)) {w : World} (hG : G ≤ w.heap.size) (hv : Shd.Vars w) {b : Nat} {p : PW} {O : List Nat} (h : WAt w b p O)
 (k n : Nat) (hk : Shd.codeB (k : Int) (n : Int) = true) (hn : p.n = n) (s : ByteArray) (hs : s.size ≤ 32768) {L M : Nat} (hb : ∀ i, Bnd L M (p.st i)) (hL : L + 12 ≤ 10000) (hM : M + 12 ≤ 1000000) :
 Calls Tryz.prog 34 #[.pointer (some ⟨b, 0, none⟩), .agg #[.int .i64 (k : Int), .int .i64 (n : Int)], .string s] w (CallsP w O b p k n s) := by
 have hE0 := Stab.Ext.alloc w (.cells #[.int .i64 (k : Int), .int .i64 (n : Int)] 25)
 have bx := Blk.new w 25 #[.int .i64 (k : Int), .int .i64 (n : Int)]
 have c0 := bx.cell 0
 have c1 := bx.cell 1
 simp only [List.getElem?_toArray, List.getElem?_cons_zero, List.getElem?_cons_succ] at c0 c1
 have h0 : WAt (w.alloc (.cells #[.int .i64 (k : Int), .int .i64 (n : Int)] 25)) b p O := h.keep (Fr.of_below (O := []) hE0) (by simp)
 have HC := Lib.hid (calls_any h0)
 have HW := Lib.hid (write_any hnew (Nat.le_trans hG hE0.size) (hv.below hE0) h0 k n hk hn s hs hb hL hM)
 have HE0 := Lib.hid hE0
 clear h h0 hE0 bx hv hb hnew
 go_enter Tryz.func34, Tryz.ntmps34
 generalize hw0 : w.alloc (.cells #[.int .i64 (k : Int), .int .i64 (n : Int)] 25) = w0 at *
 go_wp2_with (go_at_call 20; with_reducible refine HC.out.mono ?_)
 rintro e w1 ⟨rfl, rfl⟩
 go_wp2_with (go_at_call 27; with_reducible refine HW.out.mono ?_)
 rintro e w2 ⟨O2, rfl, hwb⟩
 have HWB := Lib.hid (hwb.front HE0.out)
 have HC2 := Lib.hid (calls_any hwb.at_)
 have HI := Lib.hid (show callsI p k n s = if (writeR p k n s).1 = 0 then wrap64 ((writeR p k n s).2.calls - p.calls) else -1 from rfl)
 have HP := Lib.hid (show ∀ (x : Int) (w' : World), callsI p k n s = x → WB w O b (writeR p k n s).2 O2 w' → CallsP w O b p k n s (.returned (.int .i64 x)) w' from fun x w' hx hw => ⟨O2, by rw [hx], hw⟩)
 clear hwb HC HW
 by_cases hr : (writeR p k n s).1 = 0
 ·have HR := Lib.hid (HI.out.trans (if_pos hr))
  rw [hr, if_pos rfl]
  clear hr HI
  obtain ⟨x, hx⟩ : ∃ x, x = (writeR p k n s).2.calls := ⟨_, rfl⟩
  rw [← hx] at HC2 HR
  clear hx
  go_wp2_with (go_at_call 20; with_reducible refine HC2.out.mono ?_)
  rintro e w3 ⟨rfl, rfl⟩
  go_wp2_with fail
  go_ret
  exact HP.out _ _ HR.out HWB.out
 ·have HR := Lib.hid (HI.out.trans (if_neg hr))
  rw [if_neg hr]
  obtain ⟨er, her⟩ : ∃ er, er = (writeR p k n s).1 := ⟨_, rfl⟩
  rw [← her] at hr ⊢
  clear her HI
  go_wp2_with fail
  go_ret
  exact HP.out _ _ HR.out HWB.out
/-! ### the example -/
def down0 : Flt := ⟨4, 0, 0, 0, 0⟩
def wipeF (i : Int) : Flt := ⟨1, i, 0, 0, 0⟩
theorem down0_ok : down0.fits := ⟨by decide, by decide, by decide, by decide⟩
theorem struck_down0 (p : PW) (hn : p.n = 3) : p.strikeE down0 = 0 ∧ p.struck down0 = { p with st := upd p.st 0 { p.st 0 with down := true }, sus := upd p.sus 0 true } := by
 have hh : p.has down0.store = true := by unfold PW.has down0; simp; omega
 have hok : down0.okB = true := by decide
 refine ⟨?_, ?_⟩
 ·unfold PW.strikeE hitE
  rw [hh, hok]; rfl
 ·unfold PW.struck hitE
  rw [hh, hok]
  simp only [if_true]
  rw [if_neg (by decide), if_neg (by decide)]
  unfold struckS hitS
  rw [hok]
  rfl
theorem wipe_ok (i : Int) : (wipeF i).fits := ⟨(by decide : (0 : Int) ≤ 1 ∧ (1 : Int) ≤ 255), (by decide : -9223372036854775808 ≤ (0 : Int) ∧ (0 : Int) ≤ 9223372036854775807), (by decide : -9223372036854775808 ≤ (0 : Int) ∧ (0 : Int) ≤ 9223372036854775807), (by decide : -9223372036854775808 ≤ (0 : Int) ∧ (0 : Int) ≤ 9223372036854775807)⟩
theorem struck_wipeF (p : PW) {i : Nat} (hi : i < 3) (hn : p.n = 3) : p.strikeE (wipeF i) = 0 ∧ p.struck (wipeF i) = { p with st := upd p.st i { p.st i with seen := [], good := [], writes := [] }, sus := upd p.sus i true } := by
 have hh : p.has (wipeF i).store = true := by unfold PW.has wipeF; simp; omega
 have hok : (wipeF i).okB = true := by unfold Flt.okB wipeF; simp
 refine ⟨?_, ?_⟩
 ·unfold PW.strikeE hitE
  rw [hh, hok]; rfl
 ·unfold PW.struck hitE
  rw [hh, hok]
  simp only [if_true]
  rw [if_neg (by show ¬ (1 : Int) = 5; decide), if_neg (by show ¬ (1 : Int) = 7; decide)]
  unfold struckS hitS
  rw [hok]
  rfl
section
variable {d s : ByteArray}
def e1 (s : ByteArray) : PW := (writeR (newP 3) 2 3 s).2
def e2 (s : ByteArray) : PW := (writeR (e1 s) 2 3 s).2
theorem e1_is (hN : Num 2 3 d s) (hd : d = dgB s) : WellW 1 3 (e1 s) ∧ (∀ i, i < 3 → (e1 s).st i = { noStore with good := [(nmB d i, dtB 2 3 d s i)], seen := [(nmB d i, dtB 2 3 d s i)] }) ∧ (e1 s).calls = 9 ∧ callsI (newP 3) 2 3 s = 9 := by
 obtain ⟨h1, h2, h3, h4⟩ := written_well hN hd (newP_well 3)
 have hl : lackN 2 3 d s (newP 3) = 3 := lack_all fun i hi => ⟨rfl, by
  generalize nmB d i = nm
  generalize dtB 2 3 d s i = dt
  simp [newP, noStore, TMap.look]⟩
 rw [hl] at h4
 have e0 : cadd (newP 3).calls (3 + 3 + 3) = 9 := by
  show cadd 0 9 = 9
  rw [cadd_small 9 (by omega)]
  rfl
 rw [e0] at h4
 unfold e1
 refine ⟨h2, fun i hi => ?_, h4, ?_⟩
 ·rw [h3 i hi, show (newP 3).st i = noStore from rfl]
  generalize nmB d i = nm
  generalize dtB 2 3 d s i = dt
  simp [wellS, noStore, TMap.look, TMap.put]
 ·unfold callsI
  rw [if_pos h1, h4, show (newP 3).calls = 0 from rfl]
  unfold wrap64
  omega
theorem e2_is (hN : Num 2 3 d s) (hd : d = dgB s) : WellW 2 3 (e2 s) ∧ (∀ i, i < 3 → (e2 s).st i = { noStore with good := [(nmB d i, dtB 2 3 d s i)], seen := [(nmB d i, dtB 2 3 d s i)] }) ∧ callsI (e1 s) 2 3 s = 6 := by
 obtain ⟨g1, g2, g3, _⟩ := e1_is hN hd
 obtain ⟨h1, h2, h3, h4⟩ := written_well hN hd g1
 have hlk : ∀ i, i < 3 → TMap.look ((e1 s).st i).seen (nmB d i) = some (dtB 2 3 d s i) := fun i hi => by
  rw [g2 i hi]
  generalize nmB d i = nm
  generalize dtB 2 3 d s i = dt
  simp [TMap.look]
 rw [lack_none hlk, g3] at h4
 have h5 : (writeR (e1 s) 2 3 s).2.calls = 15 := by
  have e0 : cadd 9 (3 + 0 + 3) = 15 := by
   have h9 : cadd 0 9 = 9 := by
    rw [cadd_small 9 (by omega)]
    rfl
   rw [← h9, cadd_add]
   show cadd 0 15 = 15
   rw [cadd_small 15 (by omega)]
   rfl
  rw [h4, e0]
 unfold e2
 refine ⟨h2, fun i hi => ?_, ?_⟩
 ·rw [h3 i hi]
  unfold wellS
  rw [if_pos (hlk i hi), g2 i hi]
  generalize nmB d i = nm
  generalize dtB 2 3 d s i = dt
  rfl
 ·unfold callsI
  rw [if_pos h1, h5, g3]
  unfold wrap64
  omega
theorem only_put {p : PW} {k n : Nat} (h : ∀ i, i < n → (p.st i).seen = [] ∨ (p.st i).seen = [(nmB d i, dtB k n d s i)]) : Only k n d s p := fun i hi y hy _ => by
 rcases h i hi with h | h
 ·rw [h] at hy; simp [TMap.look] at hy
 ·rw [h] at hy; simpa [TMap.look] using hy.symm
def ex0 : PW := (newP 3).struck down0
def ex1 (s : ByteArray) : PW := (writeR ex0 2 3 s).2
theorem ex0_is : ex0.n = 3 ∧ Hlt.Calm ex0 ∧ ex0.st 0 = { noStore with down := true } ∧ (∀ i, i ≠ 0 → ex0.st i = noStore) ∧ ex0.calls = 0 := by
 unfold ex0
 rw [(struck_down0 (newP 3) rfl).2]
 exact ⟨rfl, ⟨rfl, rfl⟩, rfl, fun i hi => upd_ne _ _ hi, rfl⟩
theorem ex1_is (hN : Num 2 3 d s) (hd : d = dgB s) : (ex1 s).n = 3 ∧ Hlt.Calm (ex1 s) ∧ ((ex1 s).st 0 = { noStore with down := true }) ∧ (∀ i, i < 3 → i ≠ 0 → (ex1 s).st i = { noStore with good := [(nmB d i, dtB 2 3 d s i)], seen := [(nmB d i, dtB 2 3 d s i)] }) ∧ callsI ex0 2 3 s = 7 := by
 obtain ⟨g1, g2, g3, g4, g5⟩ := ex0_is
 have hsz : ∀ i, i < 3 → (nmB d i).size ≠ 0 ∧ (nmB d i).size ≤ 80 ∧ (dtB 2 3 d s i).size ≤ 65536 := fun i hi => by
  have a := nmB_size d hN.dig i (by omega)
  exact ⟨a.1, a.2, datB_size (by omega) (by omega) (by rw [← hN.dig]; simp) hN.len⟩
 have h0d : (ex0.st 0).down = true := by rw [g3]
 have hw : ∀ i, i ≠ 0 → (ex0.st i).down = false := fun i hi => by rw [g4 i hi]; rfl
 have hnl : ∀ i, i ≠ 0 → TMap.look (ex0.st i).seen (nmB d i) = none := fun i hi => by rw [g4 i hi]; rfl
 have hT : ∀ i, i < 3 → i ≠ 0 → isT (objsOf 2 3 d s 3) ex0 i = true := fun i hi h => by
  simp only [isT, decide_eq_true_eq]
  rw [obAt_objs hi, hnl i h]
  exact ⟨hw i h, by simp⟩
 have hT0 : isT (objsOf 2 3 d s 3) ex0 0 = false := by simp [isT, h0d]
 have hr3 : List.range 3 = [0, 1, 2] := rfl
 have hup : upN ex0 3 = 2 := by
  unfold upN
  rw [hr3]
  simp [h0d, hw]
 have hnw : newN (objsOf 2 3 d s 3) ex0 3 = 2 := by
  unfold newN
  rw [hr3]
  simp [hT0, hT]
 have hs := spread_calm (l := objsOf 2 3 d s 3) g2 g1 (objsOf_len _ _ _ _ _) (k := 2) (fun i hi ht => by
  have h : i ≠ 0 := fun e => by rw [e, hT0] at ht; cases ht
  rw [obAt_objs hi, g4 i h]
  obtain ⟨a, b, c⟩ := hsz i hi
  exact (wrote_well1 (st := noStore) ⟨rfl, rfl, rfl⟩ a b c).1) (by rw [hup]; omega)
 rw [hup, hnw, g5] at hs
 have hw2 : writeR ex0 2 3 s = (0, { ex0 with calls := cadd 0 (3 + 2 + 2), st := fun i => if i < 3 then wroteS (objsOf 2 3 d s 3) ex0 i else ex0.st i }) := by unfold writeR; rw [← hd]; exact hs
 unfold ex1 callsI
 rw [hw2]
 refine ⟨g1, ⟨g2.1, g2.2⟩, ?_, fun i hi h => ?_, ?_⟩
 ·simp only [show (0 : Nat) < 3 by omega, if_true]
  unfold wroteS
  rw [if_pos h0d, g3]
 ·simp only [if_pos hi]
  unfold wroteS
  obtain ⟨a, b, c⟩ := hsz i hi
  rw [if_neg (by rw [hw i h]; exact Bool.false_ne_true), if_neg (by simp only [isH, decide_eq_true_eq]; rw [obAt_objs hi, hnl i h]; simp), obAt_objs hi, g4 i h]
  exact (wrote_well1 (st := noStore) ⟨rfl, rfl, rfl⟩ a b c).2
 ·simp only [if_true]
  rw [cadd_small 7 (by omega), g5]
  unfold wrap64
  omega
theorem ex1_read (hN : Num 2 3 d s) (hd : d = dgB s) : readR (ex1 s) d 2 3 = (s, 0) := by
 obtain ⟨g1, g2, g3, g4, _⟩ := ex1_is hN hd
 have ho : Only 2 3 d s (ex1 s) := only_put fun i hi => by
  by_cases h : i = 0
  ·left; rw [h, g3]; rfl
  ·right; rw [g4 i hi h]
 have hsn : ∀ i, i < 3 → (gotN (ex1 s) d 2 3 i).sound = !decide (i = 0) := fun i hi => by
  have : (gotN (ex1 s) d 2 3 i).sound = true ↔ _ := got_iff hN g2 g1 ho (2 : Nat) hi
  by_cases h : i = 0
  ·rw [Bool.eq_iff_iff, this, h]
   simp [Has, g3]
  ·rw [Bool.eq_iff_iff, this]
   simp [Has, g4 i hi h, h, TMap.look, noStore]
 rw [read_calm hN hd g2 g1 ho, if_pos]
 unfold cntN hvL
 rw [show List.range 3 = [0, 1, 2] from rfl]
 simp [hsn]
def e3 (s : ByteArray) : PW := (e2 s).struck (wipeF 0)
def e4 (s : ByteArray) : PW := (e3 s).struck (wipeF 2)
theorem wiped_bnd {st : PSt} {L : Nat} (h : Bnd L 0 st) : Bnd L 0 { st with seen := [], good := [], writes := [] } := ⟨Nat.zero_le _, fun x hx => (by cases hx), Nat.le_refl _, h.room⟩
theorem e3_is (hN : Num 2 3 d s) (hd : d = dgB s) : (e3 s).n = 3 ∧ Hlt.Calm (e3 s) ∧ ((e3 s).st 0).seen = [] ∧ (∀ i, i ≠ 0 → (e3 s).st i = (e2 s).st i) ∧ (∀ i, Bnd 2 0 ((e3 s).st i)) ∧ (e2 s).strikeE (wipeF 0) = 0 := by
 obtain ⟨h2, h3, _⟩ := e2_is hN hd
 obtain ⟨q1, q2⟩ := struck_wipeF (e2 s) (i := 0) (by omega) h2.n_
 have q2' : e3 s = _ := q2
 have q1' : (e2 s).strikeE (wipeF 0) = 0 := q1
 clear q1 q2
 generalize e2 s = p at *
 rw [q2']
 refine ⟨h2.n_, ⟨h2.calm.1, h2.calm.2⟩, by simp only [upd_same], fun i hi => upd_ne _ _ hi, fun i => ?_, q1'⟩
 show Bnd 2 0 (upd p.st 0 _ i)
 by_cases h : i = 0
 ·subst h; rw [upd_same]; exact wiped_bnd (h2.bnd 0)
 ·rw [upd_ne _ _ h]; exact h2.bnd i
theorem e4_is (hN : Num 2 3 d s) (hd : d = dgB s) : (e4 s).n = 3 ∧ Hlt.Calm (e4 s) ∧ ((e4 s).st 0).seen = [] ∧ ((e4 s).st 2).seen = [] ∧ ((e4 s).st 1).seen = [(nmB d 1, dtB 2 3 d s 1)] ∧ (∀ i, Bnd 2 0 ((e4 s).st i)) ∧ (e3 s).strikeE (wipeF 2) = 0 := by
 obtain ⟨_, h3, _⟩ := e2_is hN hd
 obtain ⟨g1, g2, g3, g4, g5, _⟩ := e3_is hN hd
 obtain ⟨q1, q2⟩ := struck_wipeF (e3 s) (i := 2) (by omega) g1
 have q2' : e4 s = _ := q2
 have q1' : (e3 s).strikeE (wipeF 2) = 0 := q1
 have h1 : ((e3 s).st 1).seen = [(nmB d 1, dtB 2 3 d s 1)] := by rw [g4 1 (by omega), h3 1 (by omega)]
 clear q1 q2 g4 h3
 generalize nmB d 1 = nm at *
 generalize dtB 2 3 d s 1 = dt at *
 generalize e3 s = p at *
 rw [q2']
 refine ⟨g1, ⟨g2.1, g2.2⟩, ?_, by simp only [upd_same], ?_, fun i => ?_, q1'⟩
 ·simp only [upd]
  rw [if_neg (by omega)]; exact g3
 ·simp only [upd]
  rw [if_neg (by omega)]; exact h1
 ·show Bnd 2 0 (upd p.st 2 _ i)
  by_cases h : i = 2
  ·subst h; rw [upd_same]; exact wiped_bnd (g5 2)
  ·rw [upd_ne _ _ h]; exact g5 i
theorem e4_read (hN : Num 2 3 d s) (hd : d = dgB s) : readR (e4 s) d 2 3 = (⟨#[]⟩, 54) := by
 obtain ⟨g1, g2, g3, g4, g5, _⟩ := e4_is hN hd
 have ho : Only 2 3 d s (e4 s) := only_put fun i hi => by
  have h : i = 0 ∨ i = 1 ∨ i = 2 := by omega
  rcases h with rfl | rfl | rfl
  ·exact .inl g3
  ·exact .inr g5
  ·exact .inl g4
 have hz : ∀ i, i < 3 → i ≠ 1 → (gotN (e4 s) d 2 3 i).sound = false := fun i hi h => by
  rw [Bool.eq_false_iff]
  intro hh
  have := ((got_iff hN g2 g1 ho (2 : Nat) hi).1 hh).2.2
  have h' : i = 0 ∨ i = 2 := by omega
  rcases h' with rfl | rfl
  ·rw [g3] at this; simp [TMap.look] at this
  ·rw [g4] at this; simp [TMap.look] at this
 rw [read_calm hN hd g2 g1 ho, if_neg]
 unfold cntN hvL
 rw [show List.range 3 = [0, 1, 2] from rfl]
 cases h1 : (gotN (e4 s) d 2 3 1).sound <;> simp [hz 0 (by omega) (by omega), hz 2 (by omega) (by omega), h1]
structure Exm (d s : ByteArray) (p1 p2 x0 x1 p3 p4 : PW) : Prop where
 w1 : (writeR (newP 3) 2 3 s).2 = p1
 c1 : callsI (newP 3) 2 3 s = 9
 n1 : p1.n = 3
 b1 : ∀ i, Bnd 1 0 (p1.st i)
 w2 : (writeR p1 2 3 s).2 = p2
 c2 : callsI p1 2 3 s = 6
 b2 : ∀ i, Bnd 2 0 (p2.st i)
 k0 : (p2.keys 0).length = 1
 k2 : (p2.keys 2).length = 1
 s0 : (newP 3).strikeE down0 = 0
 t0 : (newP 3).struck down0 = x0
 nx : x0.n = 3
 bx : ∀ i, Bnd 0 0 (x0.st i)
 wx : (writeR x0 2 3 s).2 = x1
 cx : callsI x0 2 3 s = 7
 nx1 : x1.n = 3
 rx : readR x1 d 2 3 = (s, 0)
 px : ∀ q, q < 3 → (gotN x1 d (2 : Nat) (3 : Nat) q).pay.size ≤ 1000000
 s3 : p2.strikeE (wipeF 0) = 0
 t3 : p2.struck (wipeF 0) = p3
 b3 : ∀ i, Bnd 2 0 (p3.st i)
 s4 : p3.strikeE (wipeF 2) = 0
 t4 : p3.struck (wipeF 2) = p4
 n4 : p4.n = 3
 r4 : readR p4 d 2 3 = (⟨#[]⟩, 54)
 p4 : ∀ q, q < 3 → (gotN p4 d (2 : Nat) (3 : Nat) q).pay.size ≤ 1000000
theorem keys_one {p : PW} {i : Nat} {x : ByteArray × ByteArray} (hn : i < p.n) (h : (p.st i).seen = [x]) : (p.keys (i : Nat)).length = 1 := by
 unfold PW.keys
 rw [has_lt hn, if_pos rfl]
 show (keysOf (p.st i).seen).length = 1
 rw [h]
 simp [keysOf]
theorem exm_is (hN : Num 2 3 d s) (hd : d = dgB s) : ∃ p1 p2 x0 x1 p3 p4, Exm d s p1 p2 x0 x1 p3 p4 := by
 obtain ⟨a1, a2, a3, a4⟩ := e1_is hN hd
 obtain ⟨b1, b2, b3⟩ := e2_is hN hd
 obtain ⟨c1, c2, c3, c4, c5⟩ := ex0_is
 obtain ⟨d1, d2, d3, d4, d5⟩ := ex1_is hN hd
 obtain ⟨f1, f2, f3, f4, f5, f6⟩ := e3_is hN hd
 obtain ⟨g1, g2, g3, g4, g5, g6, g7⟩ := e4_is hN hd
 have q1 := ex1_read hN hd
 have q2 := e4_read hN hd
 have hbx : ∀ i, Bnd 0 0 (ex0.st i) := fun i => by
  by_cases h : i = 0
  ·rw [h, c3]
   exact ⟨Nat.le_refl _, fun x hx => (by cases hx), Nat.le_refl _, noStore_bnd.room⟩
  ·rw [c4 i h]; exact noStore_bnd
 have hb1 : ∀ i, i < 3 → Bnd 1 0 ((ex1 s).st i) := fun i hi => by
  by_cases h : i = 0
  ·rw [h, d3]
   exact ⟨Nat.zero_le _, fun x hx => (by cases hx), Nat.le_refl _, noStore_bnd.room⟩
  ·rw [d4 i hi h]
   exact ⟨Nat.le_refl _, fun x hx => by
    simp only [List.mem_singleton] at hx
    subst hx
    exact ⟨(nmB_size d hN.dig i (by omega)).2, datB_size (by omega) (by omega) (by rw [← hN.dig]; simp) hN.len⟩, Nat.le_refl _, noStore_bnd.room⟩
 have hpx : ∀ q, q < 3 → (gotN (ex1 s) d (2 : Nat) (3 : Nat) q).pay.size ≤ 1000000 := fun q hq => by
  rw [got_calm d2 d _ _ (by rw [d1]; exact hq)]
  exact Nat.le_trans (got_small _ _ _ _) (Nat.le_trans (getO_small (hb1 q hq) _) (by decide))
 have hp4 : ∀ q, q < 3 → (gotN (e4 s) d (2 : Nat) (3 : Nat) q).pay.size ≤ 1000000 := fun q hq => pay_small g2 g6 d _ _ (by rw [g1]; exact hq)
 have hk0 := keys_one (p := e2 s) (i := 0) (by rw [b1.n_]; omega) (by rw [b2 0 (by omega)])
 have hk2 := keys_one (p := e2 s) (i := 2) (by rw [b1.n_]; omega) (by rw [b2 2 (by omega)])
 have hw1 : (writeR (newP 3) 2 3 s).2 = e1 s := by unfold e1; rfl
 have hw2 : (writeR (e1 s) 2 3 s).2 = e2 s := by unfold e2; rfl
 have hwx : (writeR ex0 2 3 s).2 = ex1 s := by unfold ex1; rfl
 have ht0 : (newP 3).struck down0 = ex0 := by unfold ex0; rfl
 have ht3 : (e2 s).struck (wipeF 0) = e3 s := by unfold e3; rfl
 have ht4 : (e3 s).struck (wipeF 2) = e4 s := by unfold e4; rfl
 exact ⟨e1 s, e2 s, ex0, ex1 s, e3 s, e4 s, hw1, a4, a1.n_, a1.bnd, hw2, b3, b1.bnd, hk0, hk2, (struck_down0 _ rfl).1, ht0, c1, hbx, hwx, d5, d1, q1, hpx, f6, ht3, f5, g7, ht4, g1, q2, hp4⟩
end
end Str
end Go.Proofs.YtnbkhdbligjifaaGreatDoor
