/-
 The stripe package: which shards are sound (Shards).
-/
import Derived.Test.YtnbkhdbligjifaaGreatDoorStrE
import Derived.Test.YtnbkhdbligjifaaGreatDoorTwoA
set_option linter.unusedVariables false
set_option linter.unusedSimpArgs false
set_option maxRecDepth 100000
set_option maxHeartbeats 40000000
namespace Go.Proofs.YtnbkhdbligjifaaGreatDoor
open Go Go.RowKit Go.Shelf Vm
namespace Str
open Hlt
attribute [local go_sem ↓] appSem_eq
theorem info_boolS : (Tryz.prog.info? 4).map (fun i => (i.zero, i.size, i.bytes)) = some (some (.bool false), 1, 1) := by kernel_rfl
noncomputable def sndV (p : PW) (d : ByteArray) (k n : Int) (q : Nat) : List Value := (List.range q).map fun j => .bool (gotN p d k n j).sound
theorem sndV_succ (p : PW) (d : ByteArray) (k n : Int) (q : Nat) : sndV p d k n (q + 1) = sndV p d k n q ++ [.bool (gotN p d k n q).sound] := by simp [sndV, List.range_succ]
structure ShS (base A : Nat) (v : Value) (p : PW) (d : ByteArray) (k n : Int) (q : Nat) (W : World) : Prop where
 i : Boxed W A 36 v
 a : W.ownsRow base 4 1 v q (sndV p d k n q)
 base : base ≤ W.heap.size
def ShI (base A : Nat) (p : PW) (d : ByteArray) (k n : Int) (q : Nat) (S : List Nat) (W : World) : Prop := ∃ v, S = A :: v.ownBlock.toList ∧ ShS base A v p d k n q W
theorem shI_st {base A : Nat} {p : PW} {d : ByteArray} {k n : Int} : ∀ q S W W' Y, ShI base A p d k n q S W → Fr Y W W' → (∀ y, y ∈ Y → y ∉ S) → ShI base A p d k n q S W' := by
 rintro q S W W' Y ⟨v, rfl, h⟩ hf hY
 exact ⟨v, rfl, (hf.block A h.i.lt fun hm => hY _ hm (by simp)).trans h.i, row_heap h.a fun g hg => hf.block g (row_lt h.a hg) fun hm => hY _ hm (by simp [hg]), Nat.le_trans h.base hf.size⟩
theorem shards1_any {base A : Nat} (hA : A < base) (p : PW) (d : ByteArray) (k n : Nat) (q : Nat) (hq : q < 1000) (S : List Nat) (W : World) (hI : ShI base A p d k n q S W) :
 Calls Tryz.prog 66 #[.int .i64 (q : Int), .string (gotN p d k n q).pay, .bool (gotN p d k n q).sound, .pointer (some ⟨A, 0, none⟩)] W (OnP (ShI base A p d k n) (fun _ => true) q S W) := by
 obtain ⟨v, rfl, hI⟩ := hI
 obtain ⟨B, c, hv⟩ := row_shape hI.a
 subst hv
 have g1 := hI.i.cell
 have z1 := hI.i.frozen
 have hsu := sndV_succ p d k n q
 generalize hsn : (gotN p d k n q).sound = sn at *
 generalize (gotN p d k n q).pay = pay at *
 obtain ⟨g6, c6, w6, hrun, hown, hb6, hgr, hwh⟩ := own_app_new (c := 1) (m := 1) (C := #[.bool sn]) Tryz.underlying36 info_boolS rfl (by omega) (by omega) hI.a rfl (by simp [Value.oneCell']) (by omega) (by omega) hI.base
 have hil := hI.i.lt
 have hne : A ≠ g6 := by
  rcases hwh with h | h
  ·have := (hI.a.lt g6 h).1; omega
  ·omega
 have hAw : w6.heap[A]? = W.heap[A]? := by
  rw [hgr.block A (by simp; omega) (fun e => by have := (hI.a.lt A e.symm).1; omega)]
  exact Below.heap_alloc W _ A hil
 have hi6 : Boxed w6 A 36 (.slice B q c) := hAw.trans hI.i
 have g6c := hi6.cell
 have z6 := hi6.frozen
 have hfr : Fr (Value.slice B q c).ownBlock.toList W w6 := ⟨hgr.os, hgr.tape, hgr.output, Nat.le_trans (by simp) hgr.size, fun x hx hxO => by
  rw [hgr.block x (by simp; omega) (fun e => hxO (by simp [← e]))]
  exact Below.heap_alloc W _ x hx⟩
 have HFIN := Lib.hid (show OnP (ShI base A p d k n) (fun _ => true) q (A :: (Value.slice B q c).ownBlock.toList) W (.returned (.bool true)) (w6.setCell ⟨A, 0, none⟩ (.slice (some ⟨g6, 0, none⟩) (q + 1) c6)) from by
  have hfc := Fr.cell w6 ⟨A, 0, none⟩ (.slice (some ⟨g6, 0, none⟩) (q + 1) c6)
  have hsz : (w6.setCell ⟨A, 0, none⟩ (.slice (some ⟨g6, 0, none⟩) (q + 1) c6)).heap.size = w6.heap.size := by simp only [World.setCell, Array.size_modify]
  refine ⟨rfl, A :: (Value.slice (some ⟨g6, 0, none⟩) (q + 1) c6).ownBlock.toList, ⟨_, rfl, hi6.set _, ?_, ?_⟩, ?_, ?_, ?_⟩
  ·rw [hsu]
   exact row_heap hown fun g hg => Below.heap_setCell _ _ _ _ fun e => by
    have h1 : g6 = g := by simpa [Value.ownBlock] using hg
    simp at e
    omega
  ·rw [hsz]
   have := hI.base
   have := hfr.size
   omega
  ·exact (hfr.sub fun x hx => List.mem_cons_of_mem _ hx).trans hfc fun x hx _ => by simp only [List.mem_singleton] at hx; rw [hx]; exact List.mem_cons_self ..
  ·intro x hx
   simp only [List.mem_cons, Option.mem_toList, Value.ownBlock, Option.some.injEq] at hx
   rcases hx with rfl | rfl
   ·exact .inl (List.mem_cons_self ..)
   ·rcases hwh with h | h
    ·exact .inl (by simp [h])
    ·exact .inr (by omega)
  ·intro x hx
   rw [hsz]
   simp only [List.mem_cons, Option.mem_toList] at hx
   rcases hx with rfl | hx
   ·exact hi6.lt
   ·exact row_lt hown hx)
 clear hI hown hb6 hgr hwh hfr hi6 hAw
 go_enter Tryz.func66, Tryz.ntmps66
 go_wp2_with fail
 go_ret
 exact HFIN.out
theorem eachF_all (cut : Nat → Bool) : ∀ m q, (∀ j, q ≤ j → j < q + m → cut j = false) → eachF cut (fun _ => true) m q = (false, q + m)
 | 0, q, _ => rfl
 | m + 1, q, h => by
   rw [eachF, if_neg (by rw [h q (Nat.le_refl _) (by omega)]; exact Bool.false_ne_true), if_pos rfl, eachF_all cut m (q + 1) fun j h1 h2 => h j (by omega) (by omega)]
   congr 1; omega
theorem cf66 : ∀ (args : Array Value) (W : World), (callFunc 66 args).run Tryz.prog W = .ok (.enter 66 args) W := fun args W => by
 simp [callFunc, go_sem, Tryz.func66]
 rw [if_neg (by decide +kernel), if_neg (by intro h; have := congrArg Option.isSome h; revert this; decide +kernel)]
def ShPost (w : World) (O : List Nat) (b : Nat) (p : PW) (k n : Nat) (d : ByteArray) (e : Ending) (w' : World) : Prop :=
 ∃ v O', e = .returned (.tuple #[v, .int .i64 0]) ∧ w'.ownsRow 0 4 1 v n (sndV p d k n n) ∧ WB w O b (getsP p n) O' w' ∧ ∀ g, v.ownBlock = some g → g ∉ O' ∧ w.heap.size ≤ g
theorem shards_any {w : World} (hv : Shd.Vars w) {b : Nat} {p : PW} {O : List Nat} (h : WAt w b p O) (hO : Far O) (k n : Nat) (hk : Shd.codeB (k : Int) (n : Int) = true) (hn : p.n = n) (d : ByteArray) (hd : d.size = 32)
 (hcut : ∀ q, q < n → cutN p d q = false) :
 Calls Tryz.prog 31 #[.pointer (some ⟨b, 0, none⟩), .agg #[.int .i64 (k : Int), .int .i64 (n : Int)], .string d] w (ShPost w O b p k n d) := by
 obtain ⟨h1, h2, h3⟩ := (Shd.codeB_iff _ _).1 hk
 have hE0 := Stab.Ext.alloc w (.cells #[.int .i64 (k : Int), .int .i64 (n : Int)] 25)
 have hask : askedE p (k : Int) (n : Int) d = 0 := by
  unfold askedE
  rw [if_pos (fitsE_ok.2 ⟨hk, by omega⟩), if_pos hd]
 have hF := asked_any (h.keep (Fr.of_below (O := []) hE0) (by simp)) (k : Int) (n : Int) d (by omega)
 rw [hask] at hF
 have HF := Lib.hid hF
 have bx := Blk.new w 25 #[.int .i64 (k : Int), .int .i64 (n : Int)]
 have c0 := bx.cell 0
 have c1 := bx.cell 1
 simp only [List.getElem?_toArray, List.getElem?_cons_zero, List.getElem?_cons_succ] at c0 c1
 have HE0 := Lib.hid hE0
 have H := Lib.hid h
 have HV := Lib.hid hv
 have HO := Lib.hid hO
 have HALL := Lib.hid (eachF_all (cutN p d) n 0 fun j _ hj => hcut j (by omega))
 have hlt := h.lt
 clear h hv hO hF hask hE0 bx hcut
 go_enter Tryz.func31, Tryz.ntmps31
 go_wp2_with (go_at_call 60; with_reducible refine HF.out.mono ?_)
 rintro e w1 ⟨rfl, hb1⟩
 have hE1 : Stab.Ext (w.alloc (.cells #[.int .i64 (k : Int), .int .i64 (n : Int)] 25)) w1 := hb1
 have d0 := hE1.cell c0
 have d1 := hE1.cell c1
 have HE1 := Lib.hid (HE0.out.trans hE1)
 have hs1 := hE1.size
 have hl1 := lt_cell d0
 clear hb1 hE1 c0 c1
 have hE2 : Stab.Ext w1 (w1.alloc (.cells #[.slice none 0 0] 36)) := Stab.Ext.alloc _ _
 have hE := HE1.out.trans hE2
 have hsz2 : (w1.alloc (.cells #[.slice none 0 0] 36)).heap.size = w1.heap.size + 1 := by simp
 have hI0 : ShI (w1.heap.size + 1) w1.heap.size p d k n 0 (w1.heap.size :: (Value.slice none 0 0).ownBlock.toList) (w1.alloc (.cells #[.slice none 0 0] 36)) :=
  ⟨_, rfl, Boxed.new w1 36 (.slice none 0 0), row_nil _ _ _ _, by rw [hsz2]; exact Nat.le_refl _⟩
 have heach := each_any (S := w1.heap.size :: (Value.slice none 0 0).ownBlock.toList) ((WB.refl (H.out.keep (Fr.of_below (O := []) hE) (by simp))).front hE) HO.out HV.out k n (by omega) d hd (caps := #[.pointer (some ⟨w1.heap.size, 0, none⟩)]) cf66
  (ShI (w1.heap.size + 1) w1.heap.size p d k n) (fun _ => true) shI_st hI0
  (fun x hx => by
   simp only [Value.ownBlock, Option.toList_none, List.mem_cons, List.not_mem_nil, or_false] at hx
   subst hx
   refine ⟨fun hm => ?_, ?_, ?_⟩
   ·have := hlt _ hm; omega
   ·omega
   ·omega)
  (fun q S W hq hI _ => shards1_any (by omega) p d k n q (by omega) S W hI)
 rw [HALL.out, Nat.zero_add] at heach
 have HEACH := Lib.hid heach
 generalize hw2 : w1.alloc (.cells #[.slice none 0 0] 36) = w2 at HEACH
 have HW2 := Lib.hid hw2.symm
 clear hE2 hE hsz2 hI0 hw2 heach
 go_wp2_with (go_at_call 61; rw [← HW2.out]; with_reducible refine HEACH.out.mono ?_)
 rintro e w3 ⟨rfl, S3, O3, ⟨v, hS3, hI3⟩, hwb3, hso⟩
 simp only [Bool.false_eq_true, if_false] at hwb3
 have i1 := hI3.i.cell
 obtain ⟨B1, x1, hv1⟩ := row_shape hI3.a
 subst hv1
 have HP := Lib.hid (show ShPost w O b p k n d (.returned (.tuple #[.slice B1 n x1, .int .i64 0])) w3 from ⟨_, O3, rfl, ⟨hI3.a.1, by
  rcases hI3.a.2 with h | ⟨g, cap, cur, q1, q2, q3⟩
  ·exact .inl h
  ·exact .inr ⟨g, cap, cur, q1, Nat.zero_le _, q3⟩⟩, hwb3, fun g hg => by
  have := hso g (by rw [hS3]; simp [hg])
  exact ⟨this.1, this.2.1⟩⟩)
 clear hwb3 hso hI3 HEACH
 simp only [Bool.false_eq_true, if_false]
 go_wp2_with fail
 go_ret2
 exact HP.out
end Str
end Go.Proofs.YtnbkhdbligjifaaGreatDoor
