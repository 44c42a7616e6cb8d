/-
 The health package: Mend, the walk.
-/
import Derived.Test.YtnbkhdbligjifaaGreatDoorCodQ
set_option linter.unusedVariables false
set_option linter.unusedSimpArgs false
set_option maxRecDepth 100000
set_option maxHeartbeats 40000000
namespace Go.Proofs.YtnbkhdbligjifaaGreatDoor
open Go Go.RowKit Go.Shelf Vm
namespace Hlt
attribute [local go_sem] Oper.semAt_some
theorem mend_any {w : World} {b : Nat} {p : PW} {O : List Nat} (h : WAt w b p O) (hc : Calm p) (hO : Far O) (hv : Shd.Vars w) (k n : Nat) (hk : Shd.codeB (k : Int) (n : Int) = true) (hn : n = p.n) (d : ByteArray) (hd : d.size = 32)
 (hpz : ∀ g ∈ lookL p d k n n, g.pay.size ≤ 65461) (hok : ∀ i, i < n → (p.st i).Ok) (hG : Tryz.prog.globals.size ≤ w.heap.size) :
 Calls Tryz.prog 16 #[.pointer (some ⟨b, 0, none⟩), .agg #[.int .i64 (k : Int), .int .i64 (n : Int)], .string d] w (MendPost w O b p k n d) := by
 obtain ⟨h1, h2, h3⟩ := (Shd.codeB_iff _ _).1 hk
 have e1 := Stab.Ext.alloc w (.cells #[.int .i64 (k : Int), .int .i64 (n : Int)] 25)
 have e2 := Stab.Ext.alloc (w.alloc (.cells #[.int .i64 (k : Int), .int .i64 (n : Int)] 25)) (.cells #[.int .i64 0] 3)
 have e3 := Stab.Ext.alloc ((w.alloc (.cells #[.int .i64 (k : Int), .int .i64 (n : Int)] 25)).alloc (.cells #[.int .i64 0] 3)) (.cells #[.int .i64 0] 27)
 have a4 := ((Blk.new w 25 #[.int .i64 (k : Int), .int .i64 (n : Int)]).alloc (.cells #[.int .i64 0] 3)).alloc (.cells #[.int .i64 0] 27)
 have a6 := (Boxed.new (w.alloc (.cells #[.int .i64 (k : Int), .int .i64 (n : Int)] 25)) 3 (.int .i64 0)).alloc (.cells #[.int .i64 0] 27)
 have a7 := Boxed.new ((w.alloc (.cells #[.int .i64 (k : Int), .int .i64 (n : Int)] 25)).alloc (.cells #[.int .i64 0] 3)) 27 (.int .i64 0)
 have hE3 := (e1.trans e2).trans e3
 simp only [World.size_alloc] at a6 a7
 refine (callsIn_wide (n := 5)).1 ?_
 have h15 : 1 ≤ 5 := by omega
 have hw1 : Fence.wide.fn 45 := trivial
 have hw2 : Fence.wide.fn 46 := trivial
 have hw3 : Fence.wide.fn 47 := trivial
 have hwf4 : Fence.wide.fn 48 := trivial
 have hwf5 : Fence.wide.fn 49 := trivial
 have hs0 : ((((w.alloc (.cells #[.int .i64 (k : Int), .int .i64 (n : Int)] 25)).alloc (.cells #[.int .i64 0] 3)).alloc (.cells #[.int .i64 0] 27))).heap.size = w.heap.size + 3 := by simp
 have k0 := a4.cell 0
 have k1 := a4.cell 1
 simp only [List.getElem?_toArray, List.getElem?_cons_zero, List.getElem?_cons_succ] at k0 k1
 have HLOOK := Lib.hid (look_any (h.keep (Fr.of_below (O := []) hE3) (by simp)) hc hO (hv.below hE3) k n hk hn d hd)
 refine callsIn_of_wp_marks Tryz.func16 rfl trivial ?_ rfl
 simp only [Tryz.ntmps16, List.size_toArray, List.length_cons, List.length_nil, Nat.reduceAdd, Nat.reduceSub, Array.replicate_succ, Array.replicate_zero, List.push_toArray, List.append_toArray, List.nil_append, List.cons_append]
 have HA := Lib.hid (And.intro a4 (And.intro a6 a7))
 have HE3 := Lib.hid hE3
 have HV := Lib.hid hv
 have HC := Lib.hid hc
 have HO := Lib.hid hO
 have HN := Lib.hid hn
 have HW := Lib.hid h.lt
 have HOK := Lib.hid hok
 have HK := Lib.hid hk
 have HPZ := Lib.hid hpz
 clear a4 a6 a7 e1 e2 e3 h hc hO hn hok hk hpz hv hE3 
 gi_wp2_with (gi_at_call 45; refine (callsIn_wide.2 HLOOK.out).mono ?_)
 rintro e w1 ⟨B, gv, O1, rfl, hblob, hwb, hoff⟩
 have hlen := lookL_len p d k n n
 generalize hLL : lookL p d k n n = L at *
 have hO1lt := hwb.lt
 have hblt := hblob.lt
 have hE1 := Stab.Ext.alloc w1 (.cells #[.pointer (some ⟨B, 0, none⟩)] 88)
 have a8 := Boxed.new w1 88 (.pointer (some ⟨B, 0, none⟩))
 have g8 := a8.cell
 have HFIR := Lib.hid (first_any (hblob.keep (Fr.of_below (O := []) hE1) (by simp)) HK.out hlen hd (fun g hg => Nat.le_trans (HPZ.out g hg) (by omega)))
 have HWB := Lib.hid hwb
 have HBL := Lib.hid hblob
 have HOFF := Lib.hid hoff
 have HA8 := Lib.hid a8
 clear hwb hblob hoff a8 k0 k1
 gi_wp2_with (gi_at_call 47; refine (callsIn_wide.2 HFIR.out).mono ?_)
 rintro e w2 ⟨v1, v2, rfl, hint, hstr, hb2, hog⟩
 obtain ⟨A1, c1, hv1⟩ : ∃ A c, v1 = .slice A (haveL L k).length c := by obtain ⟨A, c, h, _⟩ := hint; exact ⟨A, c, h⟩
 obtain ⟨A2, c2, hv2⟩ : ∃ A c, v2 = .slice A (paysOf L k).length c := by obtain ⟨A, c, h, _⟩ := hstr; exact ⟨A, c, h⟩
 subst hv1 hv2
 have HINT := Lib.hid hint
 have HSTR := Lib.hid hstr
 have HOG := Lib.hid hog
 have HE2 := Lib.hid (show Stab.Ext w1 w2 from hE1.trans hb2)
 have g8b := (hb2.block w1.heap.size HA8.out.lt)
 have a8b : Boxed w2 w1.heap.size 88 (.pointer (some ⟨B, 0, none⟩)) := g8b.trans HA8.out
 have g8c := a8b.cell
 have g8l := lt_cell g8c
 clear hint hstr hog hb2 hE1 g8b g8
 have f1 := Stab.Ext.alloc w2 (.cells #[.slice A1 (haveL L k).length c1] 54)
 have f2 := Stab.Ext.alloc (w2.alloc (.cells #[.slice A1 (haveL L k).length c1] 54)) (.cells #[.slice A2 (paysOf L k).length c2] 60)
 have f3 := Stab.Ext.alloc ((w2.alloc (.cells #[.slice A1 (haveL L k).length c1] 54)).alloc (.cells #[.slice A2 (paysOf L k).length c2] 60)) (.cells #[.bool (toldL k n d L)] 4)
 have f4 := Stab.Ext.alloc (((w2.alloc (.cells #[.slice A1 (haveL L k).length c1] 54)).alloc (.cells #[.slice A2 (paysOf L k).length c2] 60)).alloc (.cells #[.bool (toldL k n d L)] 4)) (.cells #[.int .i64 0] 3)
 have f5 := Stab.Ext.alloc ((((w2.alloc (.cells #[.slice A1 (haveL L k).length c1] 54)).alloc (.cells #[.slice A2 (paysOf L k).length c2] 60)).alloc (.cells #[.bool (toldL k n d L)] 4)).alloc (.cells #[.int .i64 0] 3)) (.cells #[.int .i64 0] 27)
 have f6 := Stab.Ext.alloc (((((w2.alloc (.cells #[.slice A1 (haveL L k).length c1] 54)).alloc (.cells #[.slice A2 (paysOf L k).length c2] 60)).alloc (.cells #[.bool (toldL k n d L)] 4)).alloc (.cells #[.int .i64 0] 3)).alloc (.cells #[.int .i64 0] 27)) (.cells #[.pointer (some ⟨B, 0, none⟩)] 88)
 have f7 := Stab.Ext.alloc ((((((w2.alloc (.cells #[.slice A1 (haveL L k).length c1] 54)).alloc (.cells #[.slice A2 (paysOf L k).length c2] 60)).alloc (.cells #[.bool (toldL k n d L)] 4)).alloc (.cells #[.int .i64 0] 3)).alloc (.cells #[.int .i64 0] 27)).alloc (.cells #[.pointer (some ⟨B, 0, none⟩)] 88)) (.cells #[.bool false] 4)
 have g8d := (((((f1.trans f2).trans f3).trans f4).trans f5)).cell g8c
 gi_wp2_with (gi_at_call 46; refine (callsIn_wide.2 (which_any _ _ _)).mono ?_; rintro e w9 ⟨rfl, rfl⟩)
 have x10 := (((((((Boxed.new w2 54 (.slice A1 (haveL L k).length c1)).alloc (.cells #[.slice A2 (paysOf L k).length c2] 60)).alloc (.cells #[.bool (toldL k n d L)] 4)).alloc (.cells #[.int .i64 0] 3)).alloc (.cells #[.int .i64 0] 27)).alloc (.cells #[.pointer (some ⟨B, 0, none⟩)] 88)).alloc (.cells #[.bool false] 4))
 have x11 := ((((((Boxed.new (w2.alloc (.cells #[.slice A1 (haveL L k).length c1] 54)) 60 (.slice A2 (paysOf L k).length c2)).alloc (.cells #[.bool (toldL k n d L)] 4)).alloc (.cells #[.int .i64 0] 3)).alloc (.cells #[.int .i64 0] 27)).alloc (.cells #[.pointer (some ⟨B, 0, none⟩)] 88)).alloc (.cells #[.bool false] 4))
 have x12 := (((((Boxed.new ((w2.alloc (.cells #[.slice A1 (haveL L k).length c1] 54)).alloc (.cells #[.slice A2 (paysOf L k).length c2] 60)) 4 (.bool (toldL k n d L))).alloc (.cells #[.int .i64 0] 3)).alloc (.cells #[.int .i64 0] 27)).alloc (.cells #[.pointer (some ⟨B, 0, none⟩)] 88)).alloc (.cells #[.bool false] 4))
 have x13 := ((((Boxed.new (((w2.alloc (.cells #[.slice A1 (haveL L k).length c1] 54)).alloc (.cells #[.slice A2 (paysOf L k).length c2] 60)).alloc (.cells #[.bool (toldL k n d L)] 4)) 3 (.int .i64 0)).alloc (.cells #[.int .i64 0] 27)).alloc (.cells #[.pointer (some ⟨B, 0, none⟩)] 88)).alloc (.cells #[.bool false] 4))
 have x14 := (((Boxed.new ((((w2.alloc (.cells #[.slice A1 (haveL L k).length c1] 54)).alloc (.cells #[.slice A2 (paysOf L k).length c2] 60)).alloc (.cells #[.bool (toldL k n d L)] 4)).alloc (.cells #[.int .i64 0] 3)) 27 (.int .i64 0)).alloc (.cells #[.pointer (some ⟨B, 0, none⟩)] 88)).alloc (.cells #[.bool false] 4))
 have x15 := ((Boxed.new (((((w2.alloc (.cells #[.slice A1 (haveL L k).length c1] 54)).alloc (.cells #[.slice A2 (paysOf L k).length c2] 60)).alloc (.cells #[.bool (toldL k n d L)] 4)).alloc (.cells #[.int .i64 0] 3)).alloc (.cells #[.int .i64 0] 27)) 88 (.pointer (some ⟨B, 0, none⟩))).alloc (.cells #[.bool false] 4))
 have x16 := (Boxed.new ((((((w2.alloc (.cells #[.slice A1 (haveL L k).length c1] 54)).alloc (.cells #[.slice A2 (paysOf L k).length c2] 60)).alloc (.cells #[.bool (toldL k n d L)] 4)).alloc (.cells #[.int .i64 0] 3)).alloc (.cells #[.int .i64 0] 27)).alloc (.cells #[.pointer (some ⟨B, 0, none⟩)] 88)) 4 (.bool false))
 have hE5 := (((((f1.trans f2).trans f3).trans f4).trans f5).trans f6).trans f7
 simp only [World.size_alloc] at x11 x12 x13 x14 x15 x16
 clear f1 f2 f3 f4 f5 f6 f7
 generalize hw5 : (((((((w2.alloc (.cells #[.slice A1 (haveL L k).length c1] 54)).alloc (.cells #[.slice A2 (paysOf L k).length c2] 60)).alloc (.cells #[.bool (toldL k n d L)] 4)).alloc (.cells #[.int .i64 0] 3)).alloc (.cells #[.int .i64 0] 27)).alloc (.cells #[.pointer (some ⟨B, 0, none⟩)] 88)).alloc (.cells #[.bool false] 4)) = w5 at *
 have hs5 : w5.heap.size = w2.heap.size + 7 := by rw [← hw5]; simp
 have hx12 : w1.heap.size < w2.heap.size := g8l
 have from5 : ∀ y, y < w1.heap.size → w5.heap[y]? = w1.heap[y]? := fun y hy => (hE5.block y (by omega)).trans (HE2.out.block y hy)
 have hown := HWB.out.own
 simp only [World.size_alloc] at hown
 have hO1w : ∀ y, y ∈ O1 → y < w.heap.size ∨ w.heap.size + 3 ≤ y := fun y hy => (hown y hy).imp (HW.out y) fun h => h
 have from1 : ∀ y, w.heap.size ≤ y → y < w.heap.size + 3 → w5.heap[y]? = (((w.alloc (.cells #[.int .i64 (k : Int), .int .i64 (n : Int)] 25)).alloc (.cells #[.int .i64 0] 3)).alloc (.cells #[.int .i64 0] 27)).heap[y]? := fun y h1 h2 => by
  have hs : w.heap.size + 3 ≤ w1.heap.size := by have := HWB.out.fr.size; simp only [World.size_alloc] at this; omega
  exact (from5 y (by omega)).trans (HWB.out.fr.block y (by simp; omega) fun hm => by have := HW.out y hm; omega)
 have hlow1 : w.heap.size + 3 ≤ w1.heap.size := by have := HWB.out.fr.size; simp only [World.size_alloc] at this; omega
 have hWch : Wch (w2.heap.size + 5) (w2.heap.size + 6) B b k n d gv L false w5 := ⟨x15, x16, ⟨(from5 _ (hblt _ (by simp [bOwn]))).trans HBL.out.blk, row_heap HBL.out.row fun g hg => from5 g (row_lt HBL.out.row hg), HBL.out.ne⟩⟩
 have hMC : MC w.heap.size (w.heap.size + 1) (w.heap.size + 2) w1.heap.size w2.heap.size (w2.heap.size + 1) (w2.heap.size + 2) (w2.heap.size + 5) (w2.heap.size + 6) B b k n d gv (.slice A1 (haveL L k).length c1) (.slice A2 (paysOf L k).length c2) L (toldL k n d L) w5 := ⟨(from1 _ (Nat.le_refl _) (by omega)).trans HA.out.1, (from1 _ (by omega) (by omega)).trans HA.out.2.1, (from1 _ (by omega) (by omega)).trans HA.out.2.2, (hE5.block _ hx12).trans a8b, x10, x11, x12, hWch, HINT.out.ext hE5, HSTR.out.ext hE5, (vars_fr (HV.out.below HE3.out) HWB.out.fr HO.out).below ((show Stab.Ext w1 w5 from HE2.out.trans hE5))⟩
 have hoff5 : ∀ y, y ∈ mcO w.heap.size (w.heap.size + 1) (w.heap.size + 2) w1.heap.size w2.heap.size (w2.heap.size + 1) (w2.heap.size + 2) (w2.heap.size + 5) (w2.heap.size + 6) B gv → y ∉ ((w2.heap.size + 3) :: (w2.heap.size + 4) :: O1) := fun y hy hm => by
  simp only [mcO, wchO, List.mem_append, List.mem_cons, List.not_mem_nil, or_false] at hy hm
  have hb : ∀ z, z ∈ bOwn B gv → z ∉ O1 ∧ z < w1.heap.size := fun z hz => ⟨(HOFF.out z hz).1, hblt z hz⟩
  rcases hm with hm | hm | hm
  ·rcases hy with hy | hy | hy | hy
   ·omega
   ·omega
   ·omega
   ·have := (hb y hy).2; omega
  ·rcases hy with hy | hy | hy | hy
   ·omega
   ·omega
   ·omega
   ·have := (hb y hy).2; omega
  ·have h6 := hO1lt y hm
   have h7 := hO1w y hm
   rcases hy with hy | hy | hy | hy
   ·omega
   ·omega
   ·omega
   ·exact (hb y hy).1 hm
 have hFar : Far ((w2.heap.size + 3) :: (w2.heap.size + 4) :: O1) := fun y hy => by
  simp only [List.mem_cons] at hy
  rcases hy with rfl | rfl | hy
  ·omega
  ·omega
  ·rcases hown y hy with h6 | h6
   ·exact HO.out y h6
   ·omega
 have hlow : ∀ y, y ∈ wchO (w2.heap.size + 5) (w2.heap.size + 6) B gv → y < w5.heap.size := hWch.lt
 have hI1 : ∀ g, (Value.slice A1 (haveL L k).length c1).ownBlock = some g → 0 < (haveL L k).length → g ∉ ((w2.heap.size + 3) :: (w2.heap.size + 4) :: O1) := fun g hg h0 hm => by
  have h6 := HOG.out g (.inl hg)
  simp only [World.size_alloc] at h6
  obtain ⟨A, c, hv, _, hc⟩ := HINT.out
  obtain ⟨bb, o, he, hcell⟩ := hc 0 _ (List.getElem?_eq_getElem h0)
  cases hv
  subst he
  have h7 := lt_cell hcell
  simp only [Value.ownBlock, Option.some.injEq] at hg
  subst hg
  simp only [List.mem_cons] at hm
  rcases hm with hm | hm | hm
  ·omega
  ·omega
  ·have := hO1lt _ hm; omega
 have hI2 : ∀ g, (Value.slice A2 (paysOf L k).length c2).ownBlock = some g → 0 < (paysOf L k).length → g ∉ ((w2.heap.size + 3) :: (w2.heap.size + 4) :: O1) := fun g hg h0 hm => by
  have h6 := HOG.out g (.inr hg)
  simp only [World.size_alloc] at h6
  obtain ⟨A, c, hv, _, hc⟩ := HSTR.out
  obtain ⟨bb, o, he, hcell⟩ := hc 0 _ (List.getElem?_eq_getElem h0)
  cases hv
  subst he
  have h7 := lt_cell hcell
  simp only [Value.ownBlock, Option.some.injEq] at hg
  subst hg
  simp only [List.mem_cons] at hm
  rcases hm with hm | hm | hm
  ·omega
  ·omega
  ·have := hO1lt _ hm; omega
 have hMCk : ∀ W, Fr ((w2.heap.size + 3) :: (w2.heap.size + 4) :: O1) w5 W → MC w.heap.size (w.heap.size + 1) (w.heap.size + 2) w1.heap.size w2.heap.size (w2.heap.size + 1) (w2.heap.size + 2) (w2.heap.size + 5) (w2.heap.size + 6) B b k n d gv (.slice A1 (haveL L k).length c1) (.slice A2 (paysOf L k).length c2) L (toldL k n d L) W := fun W hf => hMC.keep hf hoff5 hI1 hI2 hFar
 have hwat : WAt w5 b (PW.adv p n) O1 := HWB.out.at_.keep (Fr.of_below (O := []) (HE2.out.trans hE5)) (by simp)
 have hMI0 : MI w5 (w2.heap.size + 3) (w2.heap.size + 4) b O1 (0, 0, PW.adv p n) w5 := ⟨x13, x14, O1, hwat, Fr.refl _ _, fun y hy => .inl hy⟩
 have hfin : ∀ (W' : World) (X : List Nat), Fr X w5 W' → (∀ y, y ∈ X → y < w.heap.size → y ∈ O) → Fr O w W' := fun W' X hf hX =>
  (((Fr.of_below (O := O) HE3.out).trans HWB.out.fr (fun y hy _ => hy)).trans (Fr.of_below (O := []) (HE2.out.trans hE5)) (by simp)).trans hf hX
 generalize hrows : rowsF (Cod.foundF k n (haveL L k) (paysOf L k)) = rows
 refine range_ext h15 (gf := 86) (lb := #[.pointer (some ⟨w2.heap.size + 5, 0, none⟩), .pointer (some ⟨w2.heap.size + 6, 0, none⟩)]) rfl (enters_of Tryz.func86 (by kernel_rfl) rfl)
  (which_ext 4 (by omega) (by omega) (fun W W' => ∀ y, y ∈ wchO (w2.heap.size + 5) (w2.heap.size + 6) B gv → W'.heap[y]? = W.heap[y]?) (fun W W' hK => hK) w5 hWch)
  (fun hA hB y hy => (hB y hy).trans (hA y hy)) (fun W q o o' hl _ _ _ y hy => World.putObj_heap_other (by have := hlow y hy; omega)) (Below.refl _ _) (fun _ => rfl)
  (fun pre W => (toldL k n d L = false → pre = []) ∧ MI w5 (w2.heap.size + 3) (w2.heap.size + 4) b O1 (mAll k n d rows (PW.adv p n) pre) W)
  (fun c pre W => c = .ret ∧ toldL k n d L = false ∧ sel false 0 L ≠ [] ∧ Boxed W (w.heap.size + 1) 3 (.int .i64 0) ∧ Boxed W (w.heap.size + 2) 27 (.int .i64 54) ∧ ∃ O', WAt W b (PW.adv p n) O' ∧ Fr ((w.heap.size + 1) :: (w.heap.size + 2) :: (w2.heap.size + 3) :: (w2.heap.size + 4) :: O1) w5 W ∧ ∀ y, y ∈ O' → y ∈ O1 ∨ w5.heap.size + 2 ≤ y)
  (fun pre W W' h hE => ⟨h.1, h.2.ext hE⟩) (fun pre W q o' h hq => ⟨h.1, h.2.put (by omega) (by omega) (fun y hy => by have := hO1lt y hy; omega) hq o'⟩) ?hIx ⟨fun _ => rfl, hMI0⟩
  (fun x r => { tmps := #[.pointer (some ⟨b, 0, none⟩), .agg #[.int .i64 (k : Int), .int .i64 (n : Int)], .string d, undef, .pointer (some ⟨w.heap.size, 0, none⟩), undef, .pointer (some ⟨w.heap.size + 1, 0, none⟩), .pointer (some ⟨w.heap.size + 2, 0, none⟩), .pointer (some ⟨w1.heap.size, 0, none⟩), .int .i64 0, .pointer (some ⟨w2.heap.size, 0, none⟩), .pointer (some ⟨w2.heap.size + 1, 0, none⟩), .pointer (some ⟨w2.heap.size + 2, 0, none⟩), .pointer (some ⟨w2.heap.size + 3, 0, none⟩), .pointer (some ⟨w2.heap.size + 4, 0, none⟩), .int .i64 (x.1 : Nat), .pointer (some ⟨r, 0, none⟩), undef, undef, undef, .tuple #[.pointer (some ⟨B, 0, none⟩), .int .i64 0], .pointer (some ⟨b, 0, none⟩), .agg #[.int .i64 (k : Int), .int .i64 (n : Int)], .string d, .tuple #[.pointer (some ⟨B, 0, none⟩), .int .i64 0], .pointer (some ⟨B, 0, none⟩), .int .i64 0, .int .i64 0, .bool false, undef, .tuple #[.slice A1 (haveL L k).length c1, .slice A2 (paysOf L k).length c2, .bool (toldL k n d L)], .pointer (some ⟨B, 0, none⟩), .tuple #[.slice A1 (haveL L k).length c1, .slice A2 (paysOf L k).length c2, .bool (toldL k n d L)], .slice A1 (haveL L k).length c1, .slice A2 (paysOf L k).length c2, .bool (toldL k n d L), .pointer (some ⟨B, 0, none⟩), .func (.func 86) #[] #[.pointer (some ⟨w2.heap.size + 5, 0, none⟩), .pointer (some ⟨w2.heap.size + 6, 0, none⟩)], .int .i64 (x.1 : Nat), .agg #[.bool x.2.sound, .bool x.2.there, .string x.2.pay], undef, undef, undef, undef, undef, undef, undef, undef, undef, undef, undef, undef, undef, undef, undef, undef, undef, undef, undef, undef, undef, undef, undef, undef, undef, undef, undef, undef, undef, undef, undef, undef, undef, undef, undef, undef, undef, undef, undef, undef, undef, undef], defers := [] }) (fun x r W => Blk W r 100 #[.bool x.2.sound, .bool x.2.there, .string x.2.pay])
  (fun x r W q o' hb ⟨o, ho, hc⟩ => (World.putObj_heap_other fun he => by subst he; rw [show W.heap[r]? = _ from hb] at ho; cases ho; cases hc).trans hb)
  (fun pre W Wa hI hE y hy => hE.block y (by obtain ⟨_, _, _, _, _, h4, _⟩ := hI; exact Nat.lt_of_lt_of_le (hlow y hy) h4.size)) ?assign ?body ?done ?stop
 case hIx =>
  rintro c pre W q o' ⟨rfl, ht, hne, r6, r7, O', h3, h4, h5⟩ hq
  have hf : Fr [q] W (W.putObj q o') := ⟨rfl, rfl, rfl, by simp [World.putObj], fun y hy hn => World.putObj_heap_other (by simpa using hn)⟩
  refine ⟨rfl, ht, hne, (World.putObj_heap_other (by omega)).trans r6, (World.putObj_heap_other (by omega)).trans r7, O', h3.keep hf fun y hy hm => ?_, h4.trans hf fun y hy hl => ?_, h5⟩
  ·simp only [List.mem_singleton] at hm
   subst hm
   rcases h5 _ hy with h6 | h6
   ·have := hO1lt _ h6; omega
   ·omega
  ·simp only [List.mem_singleton] at hy
   omega
 case assign =>
  intro lp pre x W K hI hK
  have hx7 := Stab.Ext.alloc W (.cells #[.bool x.2.sound, .bool x.2.there, .string x.2.pay] 100)
  have HK7 := Lib.hid (hK W.heap.size _ hx7 ⟨hI.1, hI.2.ext hx7⟩ (Blk.new W _ _))
  clear hK hx7 hI
  simp only [encG]
  gi_wp2
  exact HK7.out
 case body =>
  rintro lp pre x r W ⟨hpre, hM⟩ hBx hpx hWs
  obtain ⟨m13, m14, O', hat, hfr, hO'⟩ := hM
  have hmc := hMCk W hfr
  have hx1 : x.1 < n := by
   have := sel_in hpx x (by simp)
   omega
  have hfx := sel_fresh hpx
  have hall := mAll_calm (k := k) (n := n) (d := d) (rows := rows) (adv_calm HC.out n) pre (fun y hy => by
   have := sel_in hpx y (by simp [hy])
   rw [(adv_st p n).1, ← HN.out]
   omega)
  have hne : sel false 0 L ≠ [] := fun h => by rw [h] at hpx; exact absurd (List.prefix_nil.1 hpx) (by simp)
  -- what a piece may have changed
  have hkeep : ∀ W', Fr ((w2.heap.size + 3) :: (w2.heap.size + 4) :: O') W W' → (W'.heap[w5.heap.size]? = W.heap[w5.heap.size]? ∧ W'.heap[w5.heap.size + 1]? = W.heap[w5.heap.size + 1]?) ∧ ∀ y, y ∈ wchO (w2.heap.size + 5) (w2.heap.size + 6) B gv → W'.heap[y]? = W.heap[y]? := fun W' hf => by
   have hD : ∀ q, w5.heap.size ≤ q → q < w5.heap.size + 2 → W'.heap[q]? = W.heap[q]? := fun q h1 h2 => hf.block q (by omega) fun hm => by
    simp only [List.mem_cons] at hm
    rcases hm with hm | hm | hm
    ·omega
    ·omega
    ·rcases hO' q hm with h6 | h6
     ·have := hO1lt q h6; omega
     ·omega
   refine ⟨⟨hD _ (Nat.le_refl _) (by omega), hD _ (by omega) (by omega)⟩, fun y hy => hf.block y (Nat.lt_of_lt_of_le (hlow y hy) (by omega)) fun hm => ?_⟩
   have hoo := hoff5 y (by simp [mcO, hy])
   simp only [List.mem_cons, not_or] at hm hoo
   rcases hm with hm | hm | hm
   ·exact hoo.1 hm
   ·exact hoo.2.1 hm
   ·rcases hO' y hm with h6 | h6
    ·exact hoo.2.2 h6
    ·have := hlow y hy; omega
  have g12 := hmc.t12.cell
  generalize hRP : roundPost w5.heap.size _ _ _ (pre ++ [x]) W = RP
  have HRP := Lib.hid hRP
  clear hRP
  cases ht : toldL k n d L with
  | false =>
    rw [ht] at g12
    have hp0 := hpre ht
    subst hp0
    have g6 := hmc.r6.cell
    have g7 := hmc.r7.cell
    have z6 := hmc.r6.frozen
    have z7 := hmc.r7.frozen
    have HMC := Lib.hid hmc
    have HAT := Lib.hid hat
    have HFR := Lib.hid hfr
    have HT := Lib.hid ht
    have HS5 := Lib.hid hs5
    have R6 := Lib.hid hmc.r6
    have R7 := Lib.hid hmc.r7
    clear hmc hat hfr hall hfx hpx hBx m13 m14 ht hs5
    gi_wp2_with fail
    have hs5 := HS5.out
    rw [← HRP.out]
    have hf : Fr [w.heap.size + 1, w.heap.size + 2] W ((W.setCell ⟨w.heap.size + 1, 0, none⟩ (.int .i64 0)).setCell ⟨w.heap.size + 2, 0, none⟩ (.int .i64 54)) := ((Fr.cell W ⟨w.heap.size + 1, 0, none⟩ (.int .i64 0)).sub (O' := [w.heap.size + 1, w.heap.size + 2]) (by simp)).trans ((Fr.cell (W.setCell ⟨w.heap.size + 1, 0, none⟩ (.int .i64 0)) ⟨w.heap.size + 2, 0, none⟩ (.int .i64 54)).sub (O' := [w.heap.size + 1, w.heap.size + 2]) (by simp)) (fun _ hk _ => hk)
    refine ⟨⟨hf.block _ (by omega) (by simp; omega), hf.block _ (by omega) (by simp; omega)⟩, rfl, HT.out, hne, ?_, ?_, O', HAT.out.keep hf fun y hy hm => ?_, (HFR.out.sub fun y hy => List.mem_cons_of_mem _ (List.mem_cons_of_mem _ hy)).trans hf fun y hy hl => ?_, hO'⟩
    ·exact (Below.heap_setCell _ _ _ _ (by simp)).trans (R6.out.set _)
    ·exact Boxed.set _ (show Boxed _ _ _ _ from (Below.heap_setCell _ _ _ _ (by simp)).trans R7.out)
    ·simp only [List.mem_cons, List.not_mem_nil, or_false] at hm
     rcases hO' y hy with h6 | h6
     ·have := hO1w y h6; omega
     ·omega
    ·simp only [List.mem_cons, List.not_mem_nil, or_false] at hy ⊢
     rcases hy with hy | hy <;> simp [hy]
  | true =>
    rw [ht] at g12
    obtain ⟨q, hq⟩ : ∃ q, Cod.foundF k n (haveL L k) (paysOf L k) = .inr q := by
     unfold toldL at ht
     split at ht
     ·cases ht
     ·exact ⟨_, by assumption⟩
    rw [hq] at hrows
    have hrows' : q.2 = rows := hrows
    have hcnt : (mAll k n d rows (PW.adv p n) pre).1 ≤ 12 := by
     have h6 := hall.2.2.2
     have h7 : (pre ++ [x]).length ≤ L.length := Nat.le_trans hpx.length_le (sel_len false L 0)
     rw [List.length_append] at h7
     simp only [List.length_cons, List.length_nil] at h7
     omega
    have HEND := Lib.hid (show ∀ (W4 W' : World) (O4 : List Nat) (s' : Nat × Int × PW) (a : Act), Fr O' W W4 → WAt W4 b s'.2.2 O4 → (∀ y, y ∈ O4 → y ∈ O' ∨ W.heap.size ≤ y) → Boxed W' (w2.heap.size + 3) 3 (.int .i64 (s'.1 : Nat)) → Boxed W' (w2.heap.size + 4) 27 (.int .i64 s'.2.1) → Fr [w2.heap.size + 3, w2.heap.size + 4] W4 W' → s' = mStep k n d rows (mAll k n d rows (PW.adv p n) pre) x → RP .normal a W' from fun W4 W' O4 s' a f4 hat4 own4 b13 b14 f5 hs' => by
     rw [← HRP.out]
     have hO4 : ∀ y, y ∈ O4 → y ∈ O1 ∨ w5.heap.size + 2 ≤ y := fun y hy => (own4 y hy).elim (hO' y) fun h => .inr (by omega)
     have f6 : Fr ((w2.heap.size + 3) :: (w2.heap.size + 4) :: O') W W' := (f4.sub fun y hy => List.mem_cons_of_mem _ (List.mem_cons_of_mem _ hy)).trans f5 fun y hy _ => by simp only [List.mem_cons, List.not_mem_nil, or_false] at hy ⊢; omega
     obtain ⟨hD, hK⟩ := hkeep W' f6
     refine ⟨hD, hK, fun h => (by rw [ht] at h; cases h), ?_⟩
     rw [mAll_snoc, ← hs']
     refine ⟨b13, b14, O4, hat4.keep f5 fun y hy hm => ?_, hfr.trans f6 fun y hy hl => ?_, hO4⟩
     ·simp only [List.mem_cons, List.not_mem_nil, or_false] at hm
      rcases hO4 y hy with h6 | h6
      ·have := hO1lt y h6; omega
      ·omega
     ·simp only [List.mem_cons] at hy ⊢
      rcases hy with hy | hy | hy
      ·exact .inl hy
      ·exact .inr (.inl hy)
      ·exact .inr (.inr ((hO' y hy).resolve_right (by omega))))
    have hd13 : w2.heap.size + 3 ∉ O' := fun hm => by
     rcases hO' _ hm with h6 | h6
     ·have := hO1lt _ h6; omega
     ·omega
    have hd14 : w2.heap.size + 4 ∉ O' := fun hm => by
     rcases hO' _ hm with h6 | h6
     ·have := hO1lt _ h6; omega
     ·omega
    have gth := hBx.cell 1
    simp only [List.getElem?_toArray, List.getElem?_cons_zero, List.getElem?_cons_succ] at gth
    generalize hs : mAll k n d rows (PW.adv p n) pre = s at *
    obtain ⟨cnt, wst, p'⟩ := s
    simp only at m13 m14 hat hall hcnt
    cases hth : x.2.there with
    | false =>
      rw [hth] at gth
      have HS5 := Lib.hid hs5
      have q13 := m13.cell
      have q14 := m14.cell
      have y13 := m13.frozen
      have y14 := m14.frozen
      have HM13 := Lib.hid m13
      have HM14 := Lib.hid m14
      have HAT := Lib.hid hat
      have HTH := Lib.hid hth
      clear hs5 hmc hat hfr hall hfx hpx hBx m13 m14 hth ht hq
      by_cases hw0 : wst = 0
      ·subst hw0
       gi_wp2_with fail
       refine HEND.out W _ O' (cnt, 53, p') _ (Fr.refl _ _) HAT.out (fun y hy => .inl hy) ((Below.heap_setCell _ _ _ _ (by simp)).trans HM13.out) (HM14.out.set _) ((Fr.cell W ⟨w2.heap.size + 4, 0, none⟩ (.int .i64 53)).sub (by simp)) ?_
       simp [mStep, HTH.out]
      ·have hw1 : (wst == 0) = false := by simpa using hw0
       gi_wp2_with fail
       refine HEND.out W _ O' (cnt, wst, p') _ (Fr.refl _ _) HAT.out (fun y hy => .inl hy) HM13.out HM14.out (Fr.refl _ _) ?_
       simp [mStep, HTH.out, hw0]
    | true =>
      rw [hth] at gth
      have hfi : p'.st x.1 = p.st x.1 := (hall.2.2.1 x.1 hfx).trans (by rw [(adv_st p n).2.1])
      have hcalm : Calm p' := hall.1
      have hn' : x.1 < p'.n := by rw [hall.2.1, (adv_st p n).1, ← HN.out]; exact hx1
      have hwide : (Cod.payL (Cod.matL k n) rows x.1).length ≤ 65461 := by
       rw [Cod.payL_len, ← hrows', found_wide hq (by omega)]
       unfold Cod.lenP
       cases hpp : paysOf L k with
       | nil => simp
       | cons s r =>
         have hm : s ∈ paysOf L k := by rw [hpp]; simp
         obtain ⟨y, hy, rfl⟩ := List.mem_map.1 hm
         have hm2 := (sel_mem true L 0 y.1 y.2).1 (List.mem_of_mem_take hy)
         have := HPZ.out y.2 (List.mem_of_getElem? hm2.2.1)
         simpa using this
      have hREB0 := Cod.rebuild_any (i := x.1) HK.out hmc.ints hmc.strs (have_pays L k) (haveL_nodup L k) (fun y hy => by have := haveL_lt L k y hy; omega) (haveL_len L k) (fun s hs => by
       obtain ⟨y, hy, rfl⟩ := List.mem_map.1 hs
       have hm2 := (sel_mem true L 0 y.1 y.2).1 (List.mem_of_mem_take hy)
       have := HPZ.out y.2 (List.mem_of_getElem? hm2.2.1)
       simp only [Array.length_toList] 
       exact Nat.le_trans (show y.2.pay.data.size ≤ 65461 from this) (by omega)) hx1
      have HREB := Lib.hid (show Calls Tryz.prog 48 #[.agg #[.int .i64 (k : Int), .int .i64 (n : Int)], .slice A1 (haveL L k).length c1, .slice A2 (paysOf L k).length c2, .int .i64 (x.1 : Nat)] W fun e w' => Below W.heap.size W w' ∧ e = .returned (.tuple #[.string ⟨(Cod.payL (Cod.matL k n) rows x.1).toArray⟩, .int .i64 0]) from hREB0.mono fun e w' ⟨h1, h2⟩ => ⟨h1, by rw [hq] at h2; rw [← hrows']; exact h2⟩)
      have HWR := Lib.hid (fun (W3 : World) (hE : Stab.Ext W W3) => write_any (hmc.wch.ext hE).blob (hat.keep (Fr.of_below (O := []) hE) (by simp)) (fun y hy => (hO' y hy).elim (fun h => hFar y (by simp [h])) (fun h => by omega)) (fun hm => by
       have hoo := hoff5 B (by simp [mcO, wchO, bOwn])
       simp only [List.mem_cons, not_or] at hoo
       rcases hO' B hm with h6 | h6
       ·exact hoo.2.2 h6
       ·have := hlow B (by simp [wchO, bOwn]); omega) (hmc.vars.below hE) HK.out hd hx1 hwide (by
        have hdd : d.data.toList.length = 32 := by rw [← hd]; simp
        rw [Shd.data_len Shd.sumL_len _ hdd]
        show 75 + (Cod.payL (Cod.matL k n) rows x.1).length ≤ _
        omega) (by rw [hfi]; exact HOK.out x.1 hx1))
      have g4 := hmc.code.cell 0
      have g5 := hmc.code.cell 1
      simp only [List.getElem?_toArray, List.getElem?_cons_zero, List.getElem?_cons_succ] at g4 g5
      have g10 := hmc.h10.cell
      have g11 := hmc.p11.cell
      have hwc := (writeR_calm hcalm hn' (nmB d x.1) (datP k n d x.1 (Cod.payL (Cod.matL k n) rows x.1))).2.2.2
      have HMS := Lib.hid (show ∀ r, writeR p' x.1 (nmB d x.1) (datP k n d x.1 (Cod.payL (Cod.matL k n) rows x.1)) = r → mStep k n d rows (cnt, wst, p') x = if r.1 = 0 then (cnt + 1, wst, r.2) else (cnt, if r.1 = 52 ∨ wst = 0 then r.1 else wst, r.2) from fun r hr => by simp only [mStep, hth, if_true, hr])
      have HB8 := Lib.hid hmc.b8
      have HS5 := Lib.hid hs5
      have HM13 := Lib.hid m13
      have HM14 := Lib.hid m14
      have HAT := Lib.hid hat
      have hlim : W.heap.size = W.heap.size := rfl
      clear hs5 hmc hat hfr hall hfx hpx hBx m13 m14 hth ht hq hREB0 hwide
      gi_wp2_with (gi_at_call 48; refine (Stab.callsIn_round rfl HREB.out).mono ?_)
      rintro e W3 hb3 rfl
      have hE3 : Stab.Ext W W3 := hb3
      have b8 : Boxed W3 w1.heap.size 88 (.pointer (some ⟨B, 0, none⟩)) := (hE3.block _ HB8.out.lt).trans HB8.out
      have g8 := b8.cell
      have HWR3 := Lib.hid (HWR.out W3 hE3)
      have HE3' := Lib.hid hE3
      clear b8 hb3 hE3
      gi_wp2_with (gi_at_call 49; refine (Stab.callsIn_round rfl HWR3.out).mono ?_)
      intro e W4 hq4
      obtain ⟨rfl, O4, hat4, hf4, how4⟩ := hq4
      have HR := Lib.hid (HMS.out _ rfl)
      generalize writeR p' x.1 (nmB d x.1) (datP k n d x.1 (Cod.payL (Cod.matL k n) rows x.1)) = rr at *
      obtain ⟨ev, pw⟩ := rr
      simp only at hwc hat4
      have hf04 : Fr O' W W4 := (Fr.of_below (O := O') HE3'.out).trans hf4 fun y hy _ => hy
      have b13 : Boxed W4 (w2.heap.size + 3) 3 (.int .i64 (cnt : Nat)) := (hf04.block _ HM13.out.lt hd13).trans HM13.out
      have b14 : Boxed W4 (w2.heap.size + 4) 27 (.int .i64 wst) := (hf04.block _ HM14.out.lt hd14).trans HM14.out
      have HB13 := Lib.hid b13
      have HB14 := Lib.hid b14
      have HF04 := Lib.hid hf04
      have HAT4 := Lib.hid hat4
      have HOW := Lib.hid (show ∀ y, y ∈ O4 → y ∈ O' ∨ W.heap.size ≤ y from fun y hy => (how4 y hy).imp id fun h => Nat.le_trans HE3'.out.size h)
      have q13 := b13.cell
      have q14 := b14.cell
      have y13 := b13.frozen
      have y14 := b14.frozen
      clear b13 b14 hf04 hat4 hf4 how4
      by_cases h0 : ev = 0
      ·subst h0
       gi_wp2_with fail
       refine HEND.out W4 _ O4 (cnt + 1, wst, pw) _ HF04.out HAT4.out HOW.out ?_ ((Below.heap_setCell _ _ _ _ (by simp)).trans HB14.out) ((Fr.cell W4 ⟨w2.heap.size + 3, 0, none⟩ _).sub (by simp)) ?_
       ·show Boxed _ _ _ (.int .i64 ((cnt + 1 : Nat) : Int))
        rw [show ((cnt + 1 : Nat) : Int) = (cnt : Int) + 1 by omega]
        exact HB13.out.set _
       ·rw [HR.out]; simp
      ·have h1' : (ev == 0) = false := by simpa using h0
       have h2' : (ev == 56) = false := by simpa using hwc
       by_cases h52 : ev = 52
       ·subst h52
        gi_wp2_with fail
        refine HEND.out W4 _ O4 (cnt, 52, pw) _ HF04.out HAT4.out HOW.out ((Below.heap_setCell _ _ _ _ (by simp)).trans HB13.out) (HB14.out.set _) ((Fr.cell W4 ⟨w2.heap.size + 4, 0, none⟩ _).sub (by simp)) ?_
        rw [HR.out]; simp
       ·have h3' : (ev == 52) = false := by simpa using h52
        by_cases hw0 : wst = 0
        ·subst hw0
         gi_wp2_with fail
         refine HEND.out W4 _ O4 (cnt, ev, pw) _ HF04.out HAT4.out HOW.out ((Below.heap_setCell _ _ _ _ (by simp)).trans HB13.out) (HB14.out.set _) ((Fr.cell W4 ⟨w2.heap.size + 4, 0, none⟩ _).sub (by simp)) ?_
         rw [HR.out]; simp [h0]
        ·have hw1 : (wst == 0) = false := by simpa using hw0
         gi_wp2_with fail
         refine HEND.out W4 _ O4 (cnt, wst, pw) _ HF04.out HAT4.out HOW.out HB13.out HB14.out (Fr.refl _ _) ?_
         rw [HR.out]; simp [h0, h52, hw0]
 case done =>
  rintro D ys W rfl rfl ⟨hpre, hM⟩ hK
  obtain ⟨m13, m14, O', hat, hfr, hO'⟩ := hM
  have hmc := hMCk W hfr
  have g13 := m13.cell
  have g14 := m14.cell
  have z14 := m14.frozen
  have g6 := hmc.r6.cell
  have g7 := hmc.r7.cell
  have z6 := hmc.r6.frozen
  have z7 := hmc.r7.frozen
  generalize hs : mAll k n d rows (PW.adv p n) (sel false 0 L) = s at *
  obtain ⟨cnt, wst, p'⟩ := s
  simp only at g13 g14 hat
  have HM := Lib.hid (show mendR p k n d = (cnt, mEnd wst, p') from by
   unfold mendR
   simp only [hLL, hrows, hs]
   cases ht : toldL k n d L with
   | true => simp
   | false =>
     have h0 := hpre ht
     rw [h0] at hs
     cases hs
     simp [h0, mEnd])
  have HS5 := Lib.hid hs5
  have R6 := Lib.hid hmc.r6
  have R7 := Lib.hid hmc.r7
  have HAT := Lib.hid hat
  have HFR := Lib.hid hfr
  clear hs5 hmc hat hfr hpre m13 m14
  have HRET := Lib.hid (show ∀ (W10 : World) (c7 : Int) (tm : Array Value), Boxed W10 (w.heap.size + 1) 3 (.int .i64 (cnt : Nat)) → Boxed W10 (w.heap.size + 2) 27 (.int .i64 c7) → Fr [w2.heap.size + 4, w.heap.size + 1, w.heap.size + 2] W W10 → c7 = mEnd wst →
   tm.getD 6 undef = .pointer (some ⟨w.heap.size + 1, 0, none⟩) → tm.getD 7 undef = .pointer (some ⟨w.heap.size + 2, 0, none⟩) → bodyPostM Fence.wide 5 Tryz.prog Tryz.f16 (MendPost w O b p k n d) .ret { tmps := tm, defers := [{ target := .collected w5.heap.size, args := #[] }] } W10 from fun W10 c7 tm r6 r7 hf h7 ht6 ht7 => by
   have hs5 := HS5.out
   have hDlt := (Array.getElem?_eq_some_iff.1 hK).1
   have hK10 : W10.heap[w5.heap.size]? = some (.deferred (some [])) := (hf.block _ hDlt (by simp; omega)).trans hK
   refine ⟨by simp, .inl ⟨_, _, rfl, run_takeDeferred hK10, ?_⟩⟩
   have d6 : ∀ o, (W10.putObj w5.heap.size o).cell? ⟨w.heap.size + 1, 0, none⟩ = some (.int .i64 (cnt : Nat)) := fun o => (World.cell?_of_block (World.putObj_heap_other (by show w.heap.size + 1 ≠ _; omega))).trans r6.cell
   have d7 : ∀ o, (W10.putObj w5.heap.size o).cell? ⟨w.heap.size + 2, 0, none⟩ = some (.int .i64 c7) := fun o => (World.cell?_of_block (World.putObj_heap_other (by show w.heap.size + 2 ≠ _; omega))).trans r7.cell
   have hput : ∀ o, Fr [w5.heap.size] W10 (W10.putObj w5.heap.size o) := fun o => ⟨rfl, rfl, rfl, by simp [World.putObj], fun y hy hn => World.putObj_heap_other (by simpa using hn)⟩
   refine ⟨.tuple #[.int .i64 (cnt : Nat), .int .i64 c7], ?_, ?_⟩
   ·have hres : Tryz.f16.results = #[ResultVar.cell 6 3, ResultVar.cell 7 27] := rfl
    have d6' := d6 (.deferred none)
    have d7' := d7 (.deferred none)
    generalize W10.putObj w5.heap.size (.deferred none) = W8 at *
    clear d6 d7 hput
    simp only [results, hres, List.mapM_toArray, List.mapM_cons, List.mapM_nil, ht6, ht7]
    go_simp
   ·unfold MendPost
    rw [HM.out]
    have hkey : ∀ y, y ∈ O' → y ≠ w2.heap.size + 4 ∧ y ≠ w.heap.size + 1 ∧ y ≠ w.heap.size + 2 ∧ y ≠ w5.heap.size := fun y hy => by
     rcases hO' y hy with h6 | h6
     ·have := hO1lt y h6
      have := hO1w y h6
      omega
     ·omega
    refine ⟨by rw [h7], O', (HAT.out.keep hf fun y hy hm => ?_).keep (hput _) fun y hy hm => ?_, hfin _ _ (((HFR.out.sub (O' := (w.heap.size + 1) :: (w.heap.size + 2) :: (w2.heap.size + 3) :: (w2.heap.size + 4) :: O1) fun y hy => List.mem_cons_of_mem _ (List.mem_cons_of_mem _ hy)).trans (O' := [w2.heap.size + 4, w.heap.size + 1, w.heap.size + 2]) (hf) fun y hy hl => ?_).trans (O' := [w5.heap.size]) (hput _) fun y hy hl => by simp only [List.mem_singleton] at hy; omega) fun y hy hl => ?_, fun y hy => ?_⟩
    ·have := hkey y hy
     simp only [List.mem_cons, List.not_mem_nil, or_false] at hm
     omega
    ·have := hkey y hy
     simp only [List.mem_singleton] at hm
     omega
    ·simp only [List.mem_cons, List.not_mem_nil, or_false] at hy ⊢
     rcases hy with hy | hy | hy <;> simp [hy]
    ·simp only [List.mem_cons] at hy
     rcases hy with hy | hy | hy | hy | hy
     ·omega
     ·omega
     ·omega
     ·omega
     ·exact (hown y hy).resolve_right (by omega)
    ·rcases hO' y hy with h6 | h6
     ·exact (hown y h6).imp id fun h => by omega
     ·exact .inr (by omega))
  by_cases hw : wst ≠ 0 ∧ wst ≠ 52
  ·have t1 : (wst != 0) = true := by simpa using hw.1
   have t2 : (wst != 52) = true := by simpa using hw.2
   gi_wp2_with fail
   gi_region
   all_goals gi_wp2_with fail
   all_goals
    refine HRET.out _ 53 _ ?_ ?_ ?_ (by rw [mEnd, if_pos hw]) rfl rfl
    ·refine (Below.heap_setCell _ _ _ _ (by simp)).trans (Boxed.set _ (show Boxed _ _ _ _ from (Below.heap_setCell _ _ _ _ (by simp; omega)).trans R6.out))
    ·refine Boxed.set _ (show Boxed _ _ _ _ from (Below.heap_setCell _ _ _ _ (by simp)).trans ((Below.heap_setCell _ _ _ _ (by simp; omega)).trans R7.out))
    ·refine ((((Fr.cell W _ _).sub ?_).trans ((Fr.cell _ _ _).sub ?_) fun y hy _ => hy).trans ((Fr.cell _ _ _).sub ?_) fun y hy _ => hy).trans ((Fr.of_below (Stab.Ext.drew _))) fun y hy _ => hy
     all_goals simp
  ·have hwm : mEnd wst = wst := by rw [mEnd, if_neg hw]
   have fin : ∀ W10, W10 = ((W.setCell ⟨w.heap.size + 1, 0, none⟩ (.int .i64 (cnt : Nat))).setCell ⟨w.heap.size + 2, 0, none⟩ (.int .i64 wst)).drew → Boxed W10 (w.heap.size + 1) 3 (.int .i64 (cnt : Nat)) ∧ Boxed W10 (w.heap.size + 2) 27 (.int .i64 wst) ∧ Fr [w2.heap.size + 4, w.heap.size + 1, w.heap.size + 2] W W10 := fun W10 he => by
    subst he
    refine ⟨?_, ?_, ?_⟩
    ·exact (Below.heap_setCell _ _ _ _ (by simp)).trans (R6.out.set _)
    ·exact Boxed.set _ (show Boxed _ _ _ _ from (Below.heap_setCell _ _ _ _ (by simp)).trans R7.out)
    ·exact ((((Fr.cell W _ _).sub (by simp)).trans ((Fr.cell _ _ _).sub (by simp)) fun y hy _ => hy).trans ((Fr.of_below (Stab.Ext.drew _))) fun y hy _ => hy)
   by_cases h0 : wst = 0
   ·subst h0
    gi_wp2_with fail
    gi_region
    all_goals gi_wp2_with fail
    all_goals
     obtain ⟨f1, f2, f3⟩ := fin _ rfl
     exact HRET.out _ 0 _ f1 f2 f3 hwm.symm rfl rfl
   ·have t1 : (wst != 0) = true := by simpa using h0
    have t2 : (wst != 52) = false := by
     have : wst = 52 := Classical.byContradiction fun h => hw ⟨h0, h⟩
     simpa using this
    gi_wp2_with fail
    gi_region
    all_goals gi_wp2_with fail
    all_goals
     obtain ⟨f1, f2, f3⟩ := fin _ rfl
     exact HRET.out _ wst _ f1 f2 f3 hwm.symm rfl rfl
 case stop =>
  rintro D c pre W rfl hSp ⟨rfl, ht, hne, r6, r7, O', hat, hfr, hO'⟩ hK
  gi_wp2_with fail
  refine ⟨by simp, .inl ⟨_, _, rfl, run_takeDeferred hK, ?_⟩⟩
  have d6 : ∀ o, (W.putObj w5.heap.size o).cell? ⟨w.heap.size + 1, 0, none⟩ = some (.int .i64 0) := fun o => (World.cell?_of_block (World.putObj_heap_other (by show w.heap.size + 1 ≠ _; omega))).trans r6.cell
  have d7 : ∀ o, (W.putObj w5.heap.size o).cell? ⟨w.heap.size + 2, 0, none⟩ = some (.int .i64 54) := fun o => (World.cell?_of_block (World.putObj_heap_other (by show w.heap.size + 2 ≠ _; omega))).trans r7.cell
  have hput : ∀ o, Fr [w5.heap.size] W (W.putObj w5.heap.size o) := fun o => ⟨rfl, rfl, rfl, by simp [World.putObj], fun y hy hn => World.putObj_heap_other (by simpa using hn)⟩
  refine ⟨.tuple #[.int .i64 0, .int .i64 54], ?_, ?_⟩
  ·have hres : Tryz.f16.results = #[ResultVar.cell 6 3, ResultVar.cell 7 27] := rfl
   have d6' := d6 (.deferred none)
   have d7' := d7 (.deferred none)
   generalize W.putObj w5.heap.size (.deferred none) = W8 at *
   clear d6 d7 hput
   simp only [results, hres, List.mapM_toArray, List.mapM_cons, List.mapM_nil]
   go_simp
  ·have hm : mendR p k n d = (0, 54, PW.adv p n) := by
    unfold mendR
    simp only [hLL, ht]
    simp [hne]
   unfold MendPost
   rw [hm]
   refine ⟨rfl, O', hat.keep (hput _) fun y hy hm => ?_, hfin _ _ (hfr.trans (O' := [w5.heap.size]) (hput _) fun y hy hl => by simp only [List.mem_singleton] at hy; omega) fun y hy hl => ?_, fun y hy => ?_⟩
   ·simp only [List.mem_singleton] at hm
    subst hm
    rcases hO' _ hy with h6 | h6
    ·have := hO1lt _ h6; omega
    ·omega
   ·simp only [List.mem_cons] at hy
    rcases hy with hy | hy | hy | hy | hy
    ·omega
    ·omega
    ·omega
    ·omega
    ·exact (hown y hy).resolve_right (by omega)
   ·rcases hO' y hy with h6 | h6
    ·exact (hown y h6).imp id fun h => by omega
    ·exact .inr (by omega)
end Hlt
end Go.Proofs.YtnbkhdbligjifaaGreatDoor
