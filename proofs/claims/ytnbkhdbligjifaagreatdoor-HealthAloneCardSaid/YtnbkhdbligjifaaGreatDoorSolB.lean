/-
 The health package: write. Matrices: may one be? Its rows are as long as the first one. Matrices in memory; a row times a number, a row plus a row times a number.
-/
import Derived.Test.YtnbkhdbligjifaaGreatDoorHltG
import Derived.Test.YtnbkhdbligjifaaGreatDoorCodA
import Derived.Test.YtnbkhdbligjifaaGreatDoorCodF
set_option linter.unusedVariables false
set_option linter.unusedSimpArgs false
namespace Go.Proofs.YtnbkhdbligjifaaGreatDoor
open Go Go.RowKit Vm
namespace Hlt
set_option linter.unusedVariables false
def shardP (k n : Nat) (d : ByteArray) (i : Nat) (pay : List UInt8) : Shd.Shard := ⟨k, n, i, d.data.toList, pay⟩
def datP (k n : Nat) (d : ByteArray) (i : Nat) (pay : List UInt8) : ByteArray := ⟨((shardP k n d i pay).data Shd.sumL).toArray⟩
def writeR (p : PW) (i : Nat) (nm dat : ByteArray) : Int × PW :=
 if callE p i (putE (p.st i) nm dat) ≠ 0 then (callE p i (putE (p.st i) nm dat), callP p i (putS (p.st i) nm dat)) else
 (callE (callP p i (putS (p.st i) nm dat)) i (syncV ((callP p i (putS (p.st i) nm dat)).st i)), callP (callP p i (putS (p.st i) nm dat)) i (syncS ((callP p i (putS (p.st i) nm dat)).st i)))
theorem wpost_front {w w' w2 : World} {b : Nat} {O : List Nat} {v : Value} {p' : PW} {e : Ending} (hE : Stab.Ext w w') (h : WPost w' b O v p' e w2) : WPost w b O v p' e w2 := by
 obtain ⟨h1, O', h2, h3, h4⟩ := h
 exact ⟨h1, O', h2, (Fr.of_below (O := O) hE).trans h3 (fun k hk _ => hk), fun k hk => (h4 k hk).imp id (Nat.le_trans hE.size)⟩
theorem wpost_next {w w1 w2 : World} {b : Nat} {O O' : List Nat} {v' : Value} {p2 : PW} {e' : Ending} (h3 : Fr O w w1) (h4 : ∀ k, k ∈ O' → k ∈ O ∨ w.heap.size ≤ k) (h' : WPost w1 b O' v' p2 e' w2) : WPost w b O v' p2 e' w2 := by
 obtain ⟨g1, O2, g2, g3, g4⟩ := h'
 refine ⟨g1, O2, g2, h3.trans g3 fun k hk hl => (h4 k hk).resolve_right (by omega), fun k hk => ?_⟩
 rcases g4 k hk with h5 | h5
 · exact h4 k h5
 · exact .inr (Nat.le_trans h3.size h5)
structure WRd (B b r : Nat) (x y : ByteArray) (W : World) : Prop where
 c0 : W.cell? ⟨B, 0, none⟩ = some (.pointer (some ⟨b, 0, none⟩))
 o0 : W.cell? ⟨r, 0, none⟩ = some (.string x)
 o1 : W.cell? ⟨r, 1, none⟩ = some (.string y)
theorem WRd.ext {B b r : Nat} {x y : ByteArray} {W W' : World} (h : WRd B b r x y W) (hE : Stab.Ext W W') : WRd B b r x y W' := ⟨hE.cell h.c0, hE.cell h.o0, hE.cell h.o1⟩
set_option maxRecDepth 100000 in
set_option maxHeartbeats 8000000 in
theorem write_any {w : World} {B b : Nat} {p : PW} {O : List Nat} {k n : Nat} {d : ByteArray} {gv : Value} {l : List Got} {i : Nat} {pay : List UInt8} (hb : BlobIs w B b k n d gv l) (h : WAt w b p O) (hO : Far O) (hBO : B ∉ O) (hv : Shd.Vars w)
   (hk : Shd.codeB (k : Int) (n : Int) = true) (hd : d.size = 32) (hi : i < n) (hp : pay.length ≤ 65461) (hDl : ((shardP k n d i pay).data Shd.sumL).length ≤ 1000000) (hok : (p.st i).Ok) :
   Calls Tryz.prog 49 #[.pointer (some ⟨B, 0, none⟩), .int .i64 (i : Nat), .string ⟨pay.toArray⟩] w (WPost w b O (.int .i64 (writeR p i (nmB d i) (datP k n d i pay)).1) (writeR p i (nmB d i) (datP k n d i pay)).2) := by
 obtain ⟨h1, h2, h3⟩ := (Shd.codeB_iff _ _).1 hk
 have hdl : d.data.toList.length = 32 := by rw [← hd]; simp
 have hmay : (shardP k n d i pay).May := ⟨h1, h2, h3, hdl, by show (0 : Int) ≤ (i : Int); omega, by show (i : Int) < (n : Int); omega⟩
 have s0 := hb.blk.cell 0
 have s1 := hb.blk.cell 1
 have s2 := hb.blk.cell 2
 have s3 := hb.blk.cell 3
 simp only [List.getElem?_toArray, List.getElem?_cons_zero, List.getElem?_cons_succ] at s0 s1 s2 s3
 have hbl := lt_cell s0
 have HA := Lib.hid h
 have HBK := Lib.hid hb.blk
 have HBO := Lib.hid hBO
 have HMK := Lib.hid (show ∀ W, Stab.Ext w W → Calls Tryz.prog 38 #[.agg #[.int .i64 (k : Int), .int .i64 (n : Int), .string d, .int .i64 (i : Int), .string ⟨pay.toArray⟩]] W fun e w' => e = .returned (.tuple #[.agg #[.string (nmB d i), .string (datP k n d i pay)], .int .i64 0]) ∧ Below W.heap.size W w' from fun W hW =>
   (Shd.make_any (k : Int) (n : Int) (i : Int) d ⟨pay.toArray⟩ ⟨by omega, by omega⟩ W (hv.below hW)).mono fun e w' hh => ⟨make_of hh.1 hmay hp, hh.2⟩)
 have hnl : (nmL d i).length ≤ 1000000 := by
   have := (nmB_size d hd i (by omega)).2
   have h5 : (nmL d i).length = (nmB d i).size := rfl
   omega
 have HPUT := Lib.hid (fun (W : World) (hW : WAt W b p O) => (show Calls Tryz.prog 39 #[.pointer (some ⟨b, 0, none⟩), .int .i64 (i : Int), .agg #[.string (nmB d i), .string (datP k n d i pay)]] W (WPost W b O (.int .i64 (callE p i (putE (p.st i) (nmB d i) (datP k n d i pay)))) (callP p i (putS (p.st i) (nmB d i) (datP k n d i pay)))) from by
   have := wput_any hW (i : Int) (nmL d i) ((shardP k n d i pay).data Shd.sumL) hnl hDl (by rw [Int.toNat_natCast]; exact hok)
   rw [Int.toNat_natCast] at this
   exact this))
 have HO := Lib.hid hO
 clear h hb hBO hv hk hO hmay
 go_enter Tryz.func49, Tryz.ntmps49
 go_wp2_with fail
 go_region_with (go_at_call 38; first
   | (refine (HMK.out w.drew (Stab.Ext.drew _)).mono ?_; rintro e w4 ⟨rfl, hb4⟩; have HB4 := Lib.hid ((Stab.Ext.drew w).trans hb4); clear hb4)
   | (refine (HMK.out _ ((Stab.Ext.drew w).trans (Stab.Ext.alloc _ _))).mono ?_; rintro e w4 ⟨rfl, hb4⟩
      have bz := (Blk.new w.drew 45 #[.string ⟨#[]⟩, .string ⟨#[]⟩]).below hb4 (Blk.new w.drew 45 #[.string ⟨#[]⟩, .string ⟨#[]⟩]).lt
      have z0 : w4.cell? ⟨w.heap.size, 0, none⟩ = some (.string ⟨#[]⟩) := bz.cell 0
      have z1 : w4.cell? ⟨w.heap.size, 1, none⟩ = some (.string ⟨#[]⟩) := bz.cell 1
      have y0 : w4.frozen? ⟨w.heap.size, 0, none⟩ = false := bz.frozen 0
      have y1 : w4.frozen? ⟨w.heap.size, 1, none⟩ = false := bz.frozen 1
      have l0 := lt_cell z0
      have HBZ := Lib.hid (show Blk w4 w.heap.size 45 #[.string ⟨#[]⟩, .string ⟨#[]⟩] from bz)
      have HB4 := Lib.hid (((Stab.Ext.drew w).trans (Stab.Ext.alloc _ _)).trans hb4); clear hb4 bz))
 all_goals
   first
     | (have HE5 := Lib.hid (show Stab.Ext w ((w4.setCell ⟨w.heap.size, 0, none⟩ (.string (nmB d i))).setCell ⟨w.heap.size, 1, none⟩ (.string (datP k n d i pay))) from (HB4.out.setCell (p := ⟨w.heap.size, 0, none⟩) (Nat.le_refl _) _).setCell (p := ⟨w.heap.size, 1, none⟩) (Nat.le_refl _) _)
        have hbz := (HBZ.out.set_ 0 (.string (nmB d i))).set_ 1 (.string (datP k n d i pay))
        have HRD := Lib.hid (show WRd B b w.heap.size (nmB d i) (datP k n d i pay) ((w4.setCell ⟨w.heap.size, 0, none⟩ (.string (nmB d i))).setCell ⟨w.heap.size, 1, none⟩ (.string (datP k n d i pay))) from ⟨HE5.out.cell s0, hbz.cell 0, hbz.cell 1⟩)
        clear hbz z0 z1 y0 y1 l0 HBZ)
     | (have HE5 := Lib.hid (show Stab.Ext w (w4.alloc (.cells #[.string (nmB d i), .string (datP k n d i pay)] 45)) from (HB4.out).trans (Stab.Ext.alloc _ _))
        have hbz := Blk.new w4 45 #[.string (nmB d i), .string (datP k n d i pay)]
        have HRD := Lib.hid (show WRd B b w4.heap.size (nmB d i) (datP k n d i pay) (w4.alloc (.cells #[.string (nmB d i), .string (datP k n d i pay)] 45)) from ⟨HE5.out.cell s0, hbz.cell 0, hbz.cell 1⟩)
        clear hbz)
   go_wp2_with fail
   refine Stab.wp_region_stable 6 44 [some 28, some 29, some 30, some 31, some 32, some 33] [[], [0], [1], [2], [], []] [3, 4, 5] (WRd B b _ (nmB d i) (datP k n d i pay)) [Stab.eqv ?r4e0, Stab.eqv ?r4e1, Stab.eqv ?r4e2, Stab.eqv ?r4e3, Stab.eqv ?r4e4, Stab.eqv ?r4e5] (by kernel_rfl) rfl (by kernel_rfl) (by kernel_rfl) (fun us => by simp only [Stab.putAll, Act.put, List.setIfInBounds_toArray, List.set_cons_zero, List.set_cons_succ]; rfl) (HRD.out.ext (Stab.Ext.drew _)) (fun _ _ h hE => h.ext hE) ?goals4 ?last4
   case goals4 =>
     simp only [List.take_succ_cons, List.take_zero]
     refine Stab.Goals.plain rfl rfl (fun us w cK hE hS hp hK => ?_) ?_
     · go_simp
       refine hK _ _ ?_ (Stab.Ext.refl _)
       show _ = _
       with_reducible rfl
     refine Stab.Goals.plain rfl rfl (fun us w cK hE hS hp hK => ?_) ?_
     · obtain ⟨h0, -⟩ := hp
       replace h0 : us 0 = _ := h0
       go_simp
       refine hK _ _ ?_ (Stab.Ext.refl _)
       show _ = _
       with_reducible rfl
     refine Stab.Goals.plain rfl rfl (fun us w cK hE hS hp hK => ?_) ?_
     · obtain ⟨h1, -⟩ := hp
       replace h1 : us 1 = _ := h1
       go_simp
       refine hK _ _ ?_ (Stab.Ext.refl _)
       show _ = _
       with_reducible rfl
     refine Stab.Goals.plain rfl rfl (fun us w cK hE hS hp hK => ?_) ?_
     · obtain ⟨h2, -⟩ := hp
       replace h2 : us 2 = _ := h2
       have s0 := hS.c0; have s1 := hS.o0; have s2 := hS.o1
       go_simp
       refine hK _ _ ?_ (Stab.Ext.refl _)
       show _ = _
       with_reducible rfl
     refine Stab.Goals.plain rfl rfl (fun us w cK hE hS hp hK => ?_) ?_
     · go_simp
       refine hK _ _ ?_ (Stab.Ext.refl _)
       show _ = _
       with_reducible rfl
     refine Stab.Goals.plain rfl rfl (fun us w cK hE hS hp hK => ?_) ?_
     · have s0 := hS.c0; have s1 := hS.o0; have s2 := hS.o1
       go_simp
       refine hK _ _ ?_ (Stab.Ext.refl _)
       show _ = _
       with_reducible rfl
     exact Stab.Goals.nil
   case last4 =>
     intro us w5 hE hS hp5
     obtain ⟨q3, q4, q5, -⟩ := hp5
     replace q3 : us 3 = _ := q3
     replace q4 : us 4 = _ := q4
     replace q5 : us 5 = _ := q5
     simp only [List.drop_succ_cons, List.drop_zero, q3, q4, q5, Nat.zero_add, Nat.reduceAdd]
     replace hE := HE5.out.trans ((Stab.Ext.drew _).trans hE)
     have HPU := Lib.hid (HPUT.out w5 (HA.out.keep (Fr.of_below (O := []) hE) (by simp)))
     have HE6 := Lib.hid hE
     clear hE hS q3 q4 q5
     go_wp2_with (go_at_call 39; with_reducible refine HPU.out.mono ?_)
     intro e w6 hq6
     obtain ⟨rfl, O6, hA6, hF6, hown6⟩ := wpost_front HE6.out hq6
     have b1 := (World.cell?_of_block (a := ⟨B, 0, none⟩) (hF6.block B hbl HBO.out)).trans s0
     have hwr : writeR p i (nmB d i) (datP k n d i pay) = if callE p i (putE (p.st i) (nmB d i) (datP k n d i pay)) ≠ 0 then (callE p i (putE (p.st i) (nmB d i) (datP k n d i pay)), callP p i (putS (p.st i) (nmB d i) (datP k n d i pay))) else _ := rfl
     have HF6 := Lib.hid hF6
     have HOW6 := Lib.hid hown6
     have HA6 := Lib.hid hA6
     clear hq6 hA6 hF6 hown6
     generalize callE p i (putE (p.st i) (nmB d i) (datP k n d i pay)) = e1 at *
     generalize callP p i (putS (p.st i) (nmB d i) (datP k n d i pay)) = p1 at *
     by_cases h0 : e1 = 0
     · subst h0
       have HSY := Lib.hid (wsync_any HA6.out (i : Int))
       rw [Int.toNat_natCast] at HSY
       have HWR := Lib.hid hwr
       clear hwr
       go_wp2_with (go_at_call 40; refine HSY.out.mono ?_)
       intro e w7 hq7
       have HQ7 := Lib.hid (wpost_next HF6.out HOW6.out hq7)
       obtain ⟨rfl, -⟩ := hq7
       go_wp2_with fail
       go_ret
       rw [HWR.out, if_neg (by simp)]
       exact HQ7.out
     · have h0' : (e1 != 0) = true := by simpa using h0
       have HWR := Lib.hid hwr
       clear hwr
       go_wp2_with fail
       go_ret
       rw [HWR.out, if_pos h0]
       exact ⟨rfl, O6, HA6.out, HF6.out, HOW6.out⟩
end Hlt
end Go.Proofs.YtnbkhdbligjifaaGreatDoor
namespace Go.Proofs.YtnbkhdbligjifaaGreatDoor
open Go Go.RowKit
namespace Sol
set_option linter.unusedVariables false
structure Rect (ls : List (List Nat)) (n L : Nat) : Prop where
 rows : ls.length = n
 cols : ∀ l ∈ ls, l.length = L
 n1 : 1 ≤ n
 l1 : 1 ≤ L
theorem Rect.row {ls : List (List Nat)} {n L : Nat} (h : Rect ls n L) {i : Nat} (hi : i < n) : ∃ l, ls[i]? = some l ∧ l.length = L ∧ l = ls.getD i [] := by
 have hl := h.rows
 have hg : ls[i]? = some ls[i] := List.getElem?_eq_getElem (by omega)
 exact ⟨ls[i], hg, h.cols _ (List.getElem_mem _), by rw [List.getD, hg]; rfl⟩
def Tbl (w : World) (g o n L : Nat) : Prop := ∀ i, i < n → ∃ b o' c, w.cell? ⟨g, o + i, none⟩ = some (.slice (some ⟨b, o', none⟩) L c)
theorem Tbl.ext {w w' : World} {g o n L : Nat} (h : Tbl w g o n L) (hE : Stab.Ext w w') : Tbl w' g o n L := fun i hi => by
 obtain ⟨b, o', c, h⟩ := h i hi
 exact ⟨b, o', c, hE.cell h⟩
theorem rows_tbl {w : World} {v : Value} {ls : List (List Nat)} {n L : Nat} (h : Spr.Rows w v ls) (hr : Rect ls n L) : ∃ g o cap, v = .slice (some ⟨g, o, none⟩) n cap ∧ Tbl w g o n L := by
 obtain ⟨g, o, cap, rfl, hc⟩ := h
 refine ⟨g, o, cap, by rw [hr.rows], fun i hi => ?_⟩
 obtain ⟨l, hl, hlen, -⟩ := hr.row hi
 obtain ⟨u, hu, b, o', c, rfl, -⟩ := hc i l hl
 exact ⟨b, o', c, by rw [hu, hlen]⟩
def Quiet (v : Value) (w : World) (e : Ending) (w' : World) : Prop := e = .returned v ∧ Below w.heap.size w w'
set_option maxRecDepth 100000 in
set_option maxHeartbeats 2000000 in
theorem mMay1_any {w : World} {g o n L cap mb : Nat} (ht : Tbl w g o n L) (hn : 1 ≤ n) (hm : w.cell? ⟨mb, 0, none⟩ = some (.slice (some ⟨g, o, none⟩) n cap)) (A : Option Addr) (c : Nat) :
   Calls Tryz.prog 204 #[.slice A L c, .pointer (some ⟨mb, 0, none⟩)] w fun e w' => e = .returned (.bool false) ∧ w = w' := by
 obtain ⟨b, o', c', h0⟩ := ht 0 (by omega)
 rw [Nat.add_zero] at h0
 have hn0 : (0 : Int) < (n : Int) := by omega
 have hne : ((L : Int) != (L : Int)) = false := by simp
 go_enter Tryz.func204, Tryz.ntmps204
 go_wp2_with fail
 go_ret
 exact ⟨rfl, rfl⟩
set_option maxRecDepth 100000 in
set_option maxHeartbeats 4000000 in
theorem mMayidx_any {w : World} {g o n L cap mb : Nat} (ht : Tbl w g o n L) (hn : 1 ≤ n) (hn2 : n ≤ 1000) (hm : w.cell? ⟨mb, 0, none⟩ = some (.slice (some ⟨g, o, none⟩) n cap)) :
   Calls Tryz.prog 225 #[.slice (some ⟨g, o, none⟩) n cap, .func (.func 204) #[] #[.pointer (some ⟨mb, 0, none⟩)]] w fun e w' => e = .returned (.int .i64 (-1)) ∧ w = w' := by
 go_enter Tryz.func225, Tryz.ntmps225
 go_wp2_with fail
 go_loopw [8] (fun i wr => ∃ q : Nat, q ≤ n ∧ i = .int .i64 (q : Int) ∧ wr = w) (fun i _ => n - (intOf i).toNat)
 case atStart => exact ⟨0, by omega, rfl, rfl⟩
 case round =>
   obtain ⟨q, hq, rfl, rfl⟩ := hrel
   by_cases hlt : q < n
   · have hlt2 : (q : Int) < (n : Int) := by omega
     obtain ⟨b, o', c, hc⟩ := ht q hlt
     have HC := Lib.hid (mMay1_any ht hn hm (some ⟨b, o', none⟩) c)
     go_wp2_with (go_at_call 204; with_reducible refine HC.out.mono ?_; rintro e w1 ⟨rfl, rfl⟩)
     go_roundw
     case rel => exact ⟨q + 1, by omega, by go_num, trivial⟩
     case measure => simp [intOf]; omega
   · obtain rfl : q = n := by omega
     have d1 : ¬ ((q : Int) < (q : Int)) := by omega
     go_wp2_with fail
     go_ret
     exact ⟨rfl, rfl⟩
set_option maxRecDepth 100000 in
set_option maxHeartbeats 2000000 in
theorem mMayhas_any {w : World} {g o n L cap mb : Nat} (ht : Tbl w g o n L) (hn : 1 ≤ n) (hn2 : n ≤ 1000) (hm : w.cell? ⟨mb, 0, none⟩ = some (.slice (some ⟨g, o, none⟩) n cap)) :
   Calls Tryz.prog 203 #[.slice (some ⟨g, o, none⟩) n cap, .func (.func 204) #[] #[.pointer (some ⟨mb, 0, none⟩)]] w fun e w' => e = .returned (.bool false) ∧ w = w' := by
 have HC := Lib.hid (mMayidx_any ht hn hn2 hm)
 clear hm
 go_enter Tryz.func203, Tryz.ntmps203
 go_wp2_with (go_at_call 225; with_reducible refine HC.out.mono ?_; rintro e w1 ⟨rfl, rfl⟩)
 go_ret
 exact ⟨rfl, rfl⟩
set_option maxRecDepth 100000 in
set_option maxHeartbeats 2000000 in
theorem mMay_any {w : World} {v : Value} {ls : List (List Nat)} {n L : Nat} (h : Spr.Rows w v ls) (hr : Rect ls n L) (hn : n ≤ 12) (hL : L ≤ 12) : Calls Tryz.prog 178 #[v] w (Quiet (.bool true) w) := by
 obtain ⟨g, o, cap, rfl, ht⟩ := rows_tbl h hr
 have hE := Stab.Ext.alloc w (.cells #[.slice (some ⟨g, o, none⟩) n cap] 132)
 have bx := Blk.new w 132 #[.slice (some ⟨g, o, none⟩) n cap]
 obtain ⟨b, o', c', h0⟩ := ht 0 hr.n1
 rw [Nat.add_zero] at h0
 have hgl := Spr.lt_cell h0
 have HC := Lib.hid (mMayhas_any (ht.ext hE) hr.n1 (by omega) (bx.cell 0))
 have HE := Lib.hid hE
 have hn1 := hr.n1
 have hl1 := hr.l1
 have d1 : ¬ ((n : Int) < 1) := by omega
 have d2 : ¬ ((12 : Int) < (n : Int)) := by omega
 have d3 : ¬ ((L : Int) < 1) := by omega
 have d4 : ¬ ((12 : Int) < (L : Int)) := by omega
 have d5 : (0 : Int) < (n : Int) := by omega
 clear h hr ht hE bx
 go_enter Tryz.func178, Tryz.ntmps178
 go_wp2_with (go_at_call 203; with_reducible refine HC.out.mono ?_; rintro e w1 ⟨rfl, rfl⟩)
 go_ret
 exact ⟨rfl, HE.out⟩
set_option maxRecDepth 100000 in
set_option maxHeartbeats 2000000 in
theorem sMay1_any {w : World} {g o n L cap mb : Nat} (ht : Tbl w g o n L) (hn : 1 ≤ n) (hm : w.cell? ⟨mb, 0, none⟩ = some (.slice (some ⟨g, o, none⟩) n cap)) (A : Option Addr) (c : Nat) :
   Calls Tryz.prog 205 #[.slice A L c, .pointer (some ⟨mb, 0, none⟩)] w fun e w' => e = .returned (.bool false) ∧ w = w' := by
 obtain ⟨b, o', c', h0⟩ := ht 0 (by omega)
 rw [Nat.add_zero] at h0
 have hn0 : (0 : Int) < (n : Int) := by omega
 have hne : ((L : Int) != (L : Int)) = false := by simp
 go_enter Tryz.func205, Tryz.ntmps205
 go_wp2_with fail
 go_ret
 exact ⟨rfl, rfl⟩
set_option maxRecDepth 100000 in
set_option maxHeartbeats 4000000 in
theorem sMayidx_any {w : World} {g o n L cap mb : Nat} (ht : Tbl w g o n L) (hn : 1 ≤ n) (hn2 : n ≤ 1000) (hm : w.cell? ⟨mb, 0, none⟩ = some (.slice (some ⟨g, o, none⟩) n cap)) :
   Calls Tryz.prog 225 #[.slice (some ⟨g, o, none⟩) n cap, .func (.func 205) #[] #[.pointer (some ⟨mb, 0, none⟩)]] w fun e w' => e = .returned (.int .i64 (-1)) ∧ w = w' := by
 go_enter Tryz.func225, Tryz.ntmps225
 go_wp2_with fail
 go_loopw [8] (fun i wr => ∃ q : Nat, q ≤ n ∧ i = .int .i64 (q : Int) ∧ wr = w) (fun i _ => n - (intOf i).toNat)
 case atStart => exact ⟨0, by omega, rfl, rfl⟩
 case round =>
   obtain ⟨q, hq, rfl, rfl⟩ := hrel
   by_cases hlt : q < n
   · have hlt2 : (q : Int) < (n : Int) := by omega
     obtain ⟨b, o', c, hc⟩ := ht q hlt
     have HC := Lib.hid (sMay1_any ht hn hm (some ⟨b, o', none⟩) c)
     go_wp2_with (go_at_call 205; with_reducible refine HC.out.mono ?_; rintro e w1 ⟨rfl, rfl⟩)
     go_roundw
     case rel => exact ⟨q + 1, by omega, by go_num, trivial⟩
     case measure => simp [intOf]; omega
   · obtain rfl : q = n := by omega
     have d1 : ¬ ((q : Int) < (q : Int)) := by omega
     go_wp2_with fail
     go_ret
     exact ⟨rfl, rfl⟩
set_option maxRecDepth 100000 in
set_option maxHeartbeats 2000000 in
theorem sMayhas_any {w : World} {g o n L cap mb : Nat} (ht : Tbl w g o n L) (hn : 1 ≤ n) (hn2 : n ≤ 1000) (hm : w.cell? ⟨mb, 0, none⟩ = some (.slice (some ⟨g, o, none⟩) n cap)) :
   Calls Tryz.prog 203 #[.slice (some ⟨g, o, none⟩) n cap, .func (.func 205) #[] #[.pointer (some ⟨mb, 0, none⟩)]] w fun e w' => e = .returned (.bool false) ∧ w = w' := by
 have HC := Lib.hid (sMayidx_any ht hn hn2 hm)
 clear hm
 go_enter Tryz.func203, Tryz.ntmps203
 go_wp2_with (go_at_call 225; with_reducible refine HC.out.mono ?_; rintro e w1 ⟨rfl, rfl⟩)
 go_ret
 exact ⟨rfl, rfl⟩
set_option maxRecDepth 100000 in
set_option maxHeartbeats 2000000 in
theorem sMay_any {w : World} {v : Value} {ls : List (List Nat)} {n L : Nat} (h : Spr.Rows w v ls) (hr : Rect ls n L) (hn : n ≤ 255) (hL : L ≤ 255) : Calls Tryz.prog 179 #[v] w (Quiet (.bool true) w) := by
 obtain ⟨g, o, cap, rfl, ht⟩ := rows_tbl h hr
 have hE := Stab.Ext.alloc w (.cells #[.slice (some ⟨g, o, none⟩) n cap] 132)
 have bx := Blk.new w 132 #[.slice (some ⟨g, o, none⟩) n cap]
 obtain ⟨b, o', c', h0⟩ := ht 0 hr.n1
 rw [Nat.add_zero] at h0
 have hgl := Spr.lt_cell h0
 have HC := Lib.hid (sMayhas_any (ht.ext hE) hr.n1 (by omega) (bx.cell 0))
 have HE := Lib.hid hE
 have hn1 := hr.n1
 have hl1 := hr.l1
 have d1 : ¬ ((n : Int) < 1) := by omega
 have d2 : ¬ ((255 : Int) < (n : Int)) := by omega
 have d3 : ¬ ((L : Int) < 1) := by omega
 have d4 : ¬ ((255 : Int) < (L : Int)) := by omega
 have d5 : (0 : Int) < (n : Int) := by omega
 clear h hr ht hE bx
 go_enter Tryz.func179, Tryz.ntmps179
 go_wp2_with (go_at_call 203; with_reducible refine HC.out.mono ?_; rintro e w1 ⟨rfl, rfl⟩)
 go_ret
 exact ⟨rfl, HE.out⟩
end Sol
end Go.Proofs.YtnbkhdbligjifaaGreatDoor
namespace Go.Proofs.YtnbkhdbligjifaaGreatDoor
open Go Go.RowKit
namespace Sol
set_option linter.unusedVariables false
def cellsL (f : Nat → Nat) (L : Nat) : List Value := (List.range L).map (Spr.by8 f)
theorem cellsL_get (f : Nat → Nat) {L k : Nat} (h : k < L) : (cellsL f L)[k]? = some (.int .u8 (f k : Nat)) := by simp [cellsL, h, Spr.by8]
theorem cellsL_len (f : Nat → Nat) (L : Nat) : (cellsL f L).length = L := by simp [cellsL]
theorem cellsL_set (f g : Nat → Nat) {L k : Nat} (hk : k < L) (hg : ∀ j, j < L → g j = if j = k then g k else f j) : (cellsL f L).set k (.int .u8 (g k : Nat)) = cellsL g L := by
 apply List.ext_getElem?
 intro i
 rw [List.getElem?_set]
 by_cases hi : i < L
 · rw [cellsL_get f hi, cellsL_get g hi, cellsL_len]
   by_cases he : k = i
   · subst he; rw [if_pos rfl, if_pos hk]
   · rw [if_neg he, hg i hi, if_neg (fun h => he h.symm)]
 · rw [cellsL_len]
   have h1 : (cellsL f L)[i]? = none := List.getElem?_eq_none (by rw [cellsL_len]; omega)
   have h2 : (cellsL g L)[i]? = none := List.getElem?_eq_none (by rw [cellsL_len]; omega)
   rw [h1, h2, if_neg (by omega)]
theorem cellsL_congr {f g : Nat → Nat} {L : Nat} (h : ∀ j, j < L → f j = g j) : cellsL f L = cellsL g L := by
 unfold cellsL
 refine List.map_congr_left fun j hj => ?_
 unfold Spr.by8
 rw [h j (List.mem_range.1 hj)]
def RowAt (w : World) (r L c : Nat) (f : Nat → Nat) : Prop := w.ownsRow 0 5 1 (.slice (some ⟨r, 0, none⟩) L c) L (cellsL f L)
section
variable {w w' : World} {r L c : Nat} {f g : Nat → Nat}
theorem RowAt.cell (h : RowAt w r L c f) {k : Nat} (hk : k < L) : w.cell? ⟨r, k, none⟩ = some (.int .u8 (f k : Nat)) ∧ w.frozen? ⟨r, k, none⟩ = false := by
 rcases h.2 with ⟨h1, _⟩ | ⟨g', cap, cur, h1, _, hg, hn, _, hs, ht⟩
 · cases h1
 · cases h1
   have hb : Blk w r 5 cur := hg
   refine ⟨?_, hb.frozen _⟩
   rw [hb.cell, ← Array.getElem?_toList, ← cellsL_get f hk, ← ht, List.getElem?_take_of_lt (by omega)]
theorem RowAt.lt (h : RowAt w r L c f) : r < w.heap.size := Vm.row_lt h rfl
theorem RowAt.set_ (h : RowAt w r L c f) {k : Nat} (hk : k < L) (hg : ∀ j, j < L → g j = if j = k then g k else f j) : RowAt (w.setCell ⟨r, k, none⟩ (.int .u8 (g k : Nat))) r L c g := by
 have := Vm.row_set h k (by omega) (.int .u8 (g k : Nat))
 rw [cellsL_set f g hk hg] at this
 exact this
theorem RowAt.keep (h : RowAt w r L c f) (hk : w'.heap[r]? = w.heap[r]?) : RowAt w' r L c f := Vm.row_heap h fun g hg => by
 have : g = r := by simpa [Value.ownBlock] using hg.symm
 subst this; exact hk
theorem RowAt.ext (h : RowAt w r L c f) (hE : Stab.Ext w w') : RowAt w' r L c f := h.keep (hE.block r h.lt)
theorem RowAt.congr (h : RowAt w r L c f) (hf : ∀ j, j < L → f j = g j) : RowAt w r L c g := by
 unfold RowAt at *
 rwa [← cellsL_congr hf]
end
structure TRd (fb F r k : Nat) (x : Nat) (W : World) : Prop where
 fp : W.cell? ⟨fb, 0, none⟩ = some (.pointer (some ⟨F, 0, none⟩))
 fld : Fld.At W F
 cx : W.cell? ⟨r, k, none⟩ = some (.int .u8 (x : Nat))
theorem TRd.ext {fb F r k x : Nat} {W W' : World} (h : TRd fb F r k x W) (hE : Stab.Ext W W') : TRd fb F r k x W' := ⟨hE.cell h.fp, h.fld.ext hE, hE.cell h.cx⟩
theorem at_keep {w w' : World} {F : Nat} (h : Fld.At w F) (hk : w'.heap[F]? = w.heap[F]?) : Fld.At w' F :=
 ⟨fun i hi => (World.cell?_of_block (a := ⟨F, i, none⟩) hk).trans (h.pw i hi), fun i hi => (World.cell?_of_block (a := ⟨F, 510 + i, none⟩) hk).trans (h.lg i hi)⟩
theorem at_lt {w : World} {F : Nat} (h : Fld.At w F) : F < w.heap.size := Spr.lt_cell (h.pw 0 (by decide))
def TimesPost (w : World) (r L c : Nat) (f : Nat → Nat) (e : Ending) (w' : World) : Prop := e = .returned (.tuple #[]) ∧ RowAt w' r L c f ∧ Vm.Fr [r] w w'
set_option maxRecDepth 100000 in
set_option maxHeartbeats 8000000 in
theorem times_any {w : World} {fb F r L c : Nat} {f : Nat → Nat} (y : Nat) (hr : RowAt w r L c f) (hb : ∀ j, j < L → f j < 256) (hy : y < 256) (hL : L ≤ 1000) (hfp : w.cell? ⟨fb, 0, none⟩ = some (.pointer (some ⟨F, 0, none⟩))) (hF : Fld.At w F) (h1 : fb ≠ r) (h2 : F ≠ r) :
   Calls Tryz.prog 206 #[.slice (some ⟨r, 0, none⟩) L c, .int .u8 (y : Nat), .pointer (some ⟨fb, 0, none⟩)] w (TimesPost w r L c (fun k => Fld.gm (f k) y)) := by
 have HR := Lib.hid hr
 have HFP := Lib.hid hfp
 have HF := Lib.hid hF
 have HB := Lib.hid hb
 clear hr hfp hF hb
 go_enter Tryz.func206, Tryz.ntmps206
 go_wp2_with fail
 go_loopw [8] (fun i wr => ∃ q : Nat, q ≤ L ∧ i = .int .i64 (q : Int) ∧ RowAt wr r L c (fun k => if k < q then Fld.gm (f k) y else f k) ∧ Vm.Fr [r] w wr) (fun i _ => L - (intOf i).toNat)
 case atStart => exact ⟨0, by omega, rfl, HR.out.congr fun j _ => by rw [if_neg (Nat.not_lt_zero _)], Vm.Fr.refl _ _⟩
 case round =>
   obtain ⟨q, hq, rfl, hrow, hfr⟩ := hrel
   by_cases hlt : q < L
   · have hlt2 : (q : Int) < (L : Int) := by omega
     have hx256 := HB.out q hlt
     have hc := (hrow.cell hlt).1
     rw [if_neg (Nat.lt_irrefl _)] at hc
     have HRD := Lib.hid (show TRd fb F r q (f q) wr from ⟨(World.cell?_of_block (a := ⟨fb, 0, none⟩) (hfr.block fb (Spr.lt_cell HFP.out) (by simp; omega))).trans HFP.out, at_keep HF.out (hfr.block F (at_lt HF.out) (by simp; omega)), hc⟩)
     have HROW := Lib.hid hrow
     have HFR := Lib.hid hfr
     have hst := fun W (hW : RowAt W r L c (fun k => if k < q then Fld.gm (f k) y else f k)) => hW.set_ (g := fun k => if k < q + 1 then Fld.gm (f k) y else f k) hlt (fun j hj => by
       by_cases he : j = q
       · subst he; simp
       · rw [if_neg he]
         by_cases h3 : j < q
         · rw [if_pos (by omega), if_pos h3]
         · rw [if_neg (by omega), if_neg h3])
     simp only [Nat.lt_add_one, if_true] at hst
     have HST := Lib.hid hst
     have HGM := Lib.hid (Fld.gm_lt (f q) y)
     generalize hfx : f q = x at *
     clear hc hrow hfr hst hfx
     go_wp2_with fail
     refine Stab.wp_region_stable 9 22 [some 11, some 12, some 13, some 14, some 15, some 16, some 17, some 18, some 19] [[], [], [], [], [], [3, 4], [5], [], [2, 6, 7]] [0, 1, 8] (TRd fb F r q x) [Stab.eqv ?r3e0, Stab.eqv ?r3e1, Stab.eqv ?r3e2, Stab.eqv ?r3e3, Stab.eqv ?r3e4, Stab.eqv ?r3e5, Stab.eqv ?r3e6, Stab.eqv ?r3e7, Stab.eqv ?r3e8] (by kernel_rfl) rfl (by kernel_rfl) (by kernel_rfl) (fun us => by simp only [Stab.putAll, Act.put, List.setIfInBounds_toArray, List.set_cons_zero, List.set_cons_succ]; rfl) (HRD.out.ext (Stab.Ext.drew _)) (fun _ _ h hE => h.ext hE) ?goals3 ?last3
     case goals3 =>
       simp only [List.take_succ_cons, List.take_zero]
       refine Stab.Goals.plain rfl rfl (fun us w cK hE hS hp hK => ?_) ?_
       · go_simp
         refine hK _ _ ?_ (Stab.Ext.refl _)
         show _ = _
         with_reducible rfl
       refine Stab.Goals.plain rfl rfl (fun us w cK hE hS hp hK => ?_) ?_
       · go_simp
         refine hK _ _ ?_ (Stab.Ext.refl _)
         show _ = _
         with_reducible rfl
       refine Stab.Goals.plain rfl rfl (fun us w cK hE hS hp hK => ?_) ?_
       · have s0 := hS.fp; have s1 := hS.cx
         go_simp
         refine hK _ _ ?_ (Stab.Ext.refl _)
         show _ = _
         with_reducible rfl
       refine Stab.Goals.plain rfl rfl (fun us w cK hE hS hp hK => ?_) ?_
       · go_simp
         refine hK _ _ ?_ (Stab.Ext.refl _)
         show _ = _
         with_reducible rfl
       refine Stab.Goals.plain rfl rfl (fun us w cK hE hS hp hK => ?_) ?_
       · go_simp
         refine hK _ _ ?_ (Stab.Ext.refl _)
         show _ = _
         with_reducible rfl
       refine Stab.Goals.plain rfl rfl (fun us w cK hE hS hp hK => ?_) ?_
       · obtain ⟨h3, h4, -⟩ := hp
         replace h3 : us 3 = _ := h3
         replace h4 : us 4 = _ := h4
         go_simp
         refine hK _ _ ?_ (Stab.Ext.refl _)
         show _ = _
         with_reducible rfl
       refine Stab.Goals.plain rfl rfl (fun us w cK hE hS hp hK => ?_) ?_
       · obtain ⟨h5, -⟩ := hp
         replace h5 : us 5 = _ := h5
         have s0 := hS.fp; have s1 := hS.cx
         go_simp
         refine hK _ _ ?_ (Stab.Ext.refl _)
         show _ = _
         with_reducible rfl
       refine Stab.Goals.plain rfl rfl (fun us w cK hE hS hp hK => ?_) ?_
       · go_simp
         refine hK _ _ ?_ (Stab.Ext.refl _)
         show _ = _
         with_reducible rfl
       refine Stab.Goals.plain rfl rfl (fun us w cK hE hS hp hK => ?_) ?_
       · obtain ⟨h2, h6, h7, -⟩ := hp
         replace h2 : us 2 = _ := h2
         replace h6 : us 6 = _ := h6
         replace h7 : us 7 = _ := h7
         go_simp
         go_wp2_with (go_at_call 145; ((with_reducible refine (Fld.mul_any _ _ x y hx256 hy hS.fld).mono ?_); rintro e w1 ⟨rfl, hb⟩))
         refine hK _ _ ?_ hb
         show _ = _
         with_reducible rfl
       exact Stab.Goals.nil
     case last3 =>
       intro us w' hE hS hp
       obtain ⟨h0, h1', h8, -⟩ := hp
       replace h0 : us 0 = _ := h0
       replace h1' : us 1 = _ := h1'
       replace h8 : us 8 = _ := h8
       simp only [List.drop_succ_cons, List.drop_zero, h0, h1', h8, Nat.zero_add, Nat.reduceAdd]
       have hrw := HROW.out.ext ((Stab.Ext.drew _).trans hE)
       have c1 := hS.cx
       have z1 := (hrw.cell hlt).2
       have HN := Lib.hid (HST.out _ hrw)
       have HF2 := Lib.hid ((HFR.out.next (Vm.Fr.of_below ((Stab.Ext.drew wr).trans hE))).next (Vm.Fr.cell w' ⟨r, q, none⟩ (.int .u8 (Fld.gm x y : Nat))))
       clear hE hS h0 h1' h8 hrw
       go_wp2_with fail
       go_roundw
       case rel => exact ⟨q + 1, by omega, by go_num, HN.out, HF2.out⟩
       case measure => simp [intOf]; omega
   · obtain rfl : q = L := by omega
     have HN := Lib.hid (hrow.congr (g := fun k => Fld.gm (f k) y) fun j hj => by simp only [if_pos hj])
     have HFR := Lib.hid hfr
     have d1 : ¬ ((q : Int) < (q : Int)) := by omega
     clear hrow hfr
     go_wp2_with fail
     go_end0
     exact ⟨rfl, HN.out, HFR.out⟩
structure PRd (fb F r k r2 : Nat) (x z : Nat) (W : World) : Prop where
 fp : W.cell? ⟨fb, 0, none⟩ = some (.pointer (some ⟨F, 0, none⟩))
 fld : Fld.At W F
 cx : W.cell? ⟨r, k, none⟩ = some (.int .u8 (x : Nat))
 cz : W.cell? ⟨r2, k, none⟩ = some (.int .u8 (z : Nat))
theorem PRd.ext {fb F r k r2 x z : Nat} {W W' : World} (h : PRd fb F r k r2 x z W) (hE : Stab.Ext W W') : PRd fb F r k r2 x z W' := ⟨hE.cell h.fp, h.fld.ext hE, hE.cell h.cx, hE.cell h.cz⟩
def plusF (f g : Nat → Nat) (y : Nat) (k : Nat) : Nat := Nat.xor (f k) (Fld.gm (g k) y)
theorem plusF_lt {f g : Nat → Nat} {y k : Nat} (h : f k < 256) : plusF f g y k < 256 := Nat.xor_lt_two_pow (n := 8) h (Fld.gm_lt _ _)
set_option maxRecDepth 100000 in
set_option maxHeartbeats 8000000 in
theorem plus_any {w : World} {fb F r r2 L c c2 : Nat} {f g : Nat → Nat} (y : Nat) (hr : RowAt w r L c f) (hr2 : RowAt w r2 L c2 g) (hb : ∀ j, j < L → f j < 256) (hb2 : ∀ j, j < L → g j < 256) (hy : y < 256) (hL : L ≤ 1000) (hfp : w.cell? ⟨fb, 0, none⟩ = some (.pointer (some ⟨F, 0, none⟩))) (hF : Fld.At w F) (h1 : fb ≠ r) (h2 : F ≠ r) (h3 : r2 ≠ r) :
   Calls Tryz.prog 207 #[.slice (some ⟨r, 0, none⟩) L c, .slice (some ⟨r2, 0, none⟩) L c2, .int .u8 (y : Nat), .pointer (some ⟨fb, 0, none⟩)] w (TimesPost w r L c (plusF f g y)) := by
 have HR := Lib.hid hr
 have HR2 := Lib.hid hr2
 have HFP := Lib.hid hfp
 have HF := Lib.hid hF
 have HB := Lib.hid hb
 have HB2 := Lib.hid hb2
 clear hr hr2 hfp hF hb hb2
 go_enter Tryz.func207, Tryz.ntmps207
 go_wp2_with fail
 go_loopw [10] (fun i wr => ∃ q : Nat, q ≤ L ∧ i = .int .i64 (q : Int) ∧ RowAt wr r L c (fun k => if k < q then plusF f g y k else f k) ∧ Vm.Fr [r] w wr) (fun i _ => L - (intOf i).toNat)
 case atStart => exact ⟨0, by omega, rfl, HR.out.congr fun j _ => by rw [if_neg (Nat.not_lt_zero _)], Vm.Fr.refl _ _⟩
 case round =>
   obtain ⟨q, hq, rfl, hrow, hfr⟩ := hrel
   by_cases hlt : q < L
   · have hlt2 : (q : Int) < (L : Int) := by omega
     have hx256 := HB.out q hlt
     have hz256 := HB2.out q hlt
     have hc := (hrow.cell hlt).1
     rw [if_neg (Nat.lt_irrefl _)] at hc
     have HRD := Lib.hid (show PRd fb F r q r2 (f q) (g q) wr from ⟨(World.cell?_of_block (a := ⟨fb, 0, none⟩) (hfr.block fb (Spr.lt_cell HFP.out) (by simp; omega))).trans HFP.out, at_keep HF.out (hfr.block F (at_lt HF.out) (by simp; omega)), hc, ((HR2.out.keep (hfr.block r2 HR2.out.lt (by simp; omega))).cell hlt).1⟩)
     have HROW := Lib.hid hrow
     have HFR := Lib.hid hfr
     have hst := fun W (hW : RowAt W r L c (fun k => if k < q then plusF f g y k else f k)) => hW.set_ (g := fun k => if k < q + 1 then plusF f g y k else f k) hlt (fun j hj => by
       by_cases he : j = q
       · subst he; simp
       · rw [if_neg he]
         by_cases h3 : j < q
         · rw [if_pos (by omega), if_pos h3]
         · rw [if_neg (by omega), if_neg h3])
     simp only [Nat.lt_add_one, if_true] at hst
     have HST := Lib.hid hst
     have HGM := Lib.hid (Fld.gm_lt (g q) y)
     have HPF := Lib.hid (show plusF f g y q = Nat.xor (f q) (Fld.gm (g q) y) from rfl)
     generalize hfx : f q = x at *
     generalize hgz : g q = z at *
     clear hc hrow hfr hst hfx hgz
     go_wp2_with fail
     refine Stab.wp_region_stable 15 30 [some 13, some 14, some 15, some 16, some 17, some 18, some 19, some 20, some 21, some 22, some 23, some 24, some 25, some 26, some 27] [[], [], [], [], [], [3, 4], [5], [], [], [], [8, 9], [10], [], [7, 11, 12], [2, 6, 13]] [0, 1, 14] (PRd fb F r q r2 x z) [Stab.eqv ?r3e0, Stab.eqv ?r3e1, Stab.eqv ?r3e2, Stab.eqv ?r3e3, Stab.eqv ?r3e4, Stab.eqv ?r3e5, Stab.eqv ?r3e6, Stab.eqv ?r3e7, Stab.eqv ?r3e8, Stab.eqv ?r3e9, Stab.eqv ?r3e10, Stab.eqv ?r3e11, Stab.eqv ?r3e12, Stab.eqv ?r3e13, Stab.eqv ?r3e14] (by kernel_rfl) rfl (by kernel_rfl) (by kernel_rfl) (fun us => by simp only [Stab.putAll, Act.put, List.setIfInBounds_toArray, List.set_cons_zero, List.set_cons_succ]; rfl) (HRD.out.ext (Stab.Ext.drew _)) (fun _ _ h hE => h.ext hE) ?goals3 ?last3
     case goals3 =>
       simp only [List.take_succ_cons, List.take_zero]
       refine Stab.Goals.plain rfl rfl (fun us w cK hE hS hp hK => ?_) ?_
       · go_simp
         refine hK _ _ ?_ (Stab.Ext.refl _)
         show _ = _
         with_reducible rfl
       refine Stab.Goals.plain rfl rfl (fun us w cK hE hS hp hK => ?_) ?_
       · go_simp
         refine hK _ _ ?_ (Stab.Ext.refl _)
         show _ = _
         with_reducible rfl
       refine Stab.Goals.plain rfl rfl (fun us w cK hE hS hp hK => ?_) ?_
       · have s0 := hS.fp; have s1 := hS.cx; have s2 := hS.cz
         go_simp
         refine hK _ _ ?_ (Stab.Ext.refl _)
         show _ = _
         with_reducible rfl
       refine Stab.Goals.plain rfl rfl (fun us w cK hE hS hp hK => ?_) ?_
       · go_simp
         refine hK _ _ ?_ (Stab.Ext.refl _)
         show _ = _
         with_reducible rfl
       refine Stab.Goals.plain rfl rfl (fun us w cK hE hS hp hK => ?_) ?_
       · go_simp
         refine hK _ _ ?_ (Stab.Ext.refl _)
         show _ = _
         with_reducible rfl
       refine Stab.Goals.plain rfl rfl (fun us w cK hE hS hp hK => ?_) ?_
       · obtain ⟨h3, h4, -⟩ := hp
         replace h3 : us 3 = _ := h3
         replace h4 : us 4 = _ := h4
         go_simp
         refine hK _ _ ?_ (Stab.Ext.refl _)
         show _ = _
         with_reducible rfl
       refine Stab.Goals.plain rfl rfl (fun us w cK hE hS hp hK => ?_) ?_
       · obtain ⟨h5, -⟩ := hp
         replace h5 : us 5 = _ := h5
         have s0 := hS.fp; have s1 := hS.cx; have s2 := hS.cz
         go_simp
         refine hK _ _ ?_ (Stab.Ext.refl _)
         show _ = _
         with_reducible rfl
       refine Stab.Goals.plain rfl rfl (fun us w cK hE hS hp hK => ?_) ?_
       · have s0 := hS.fp; have s1 := hS.cx; have s2 := hS.cz
         go_simp
         refine hK _ _ ?_ (Stab.Ext.refl _)
         show _ = _
         with_reducible rfl
       refine Stab.Goals.plain rfl rfl (fun us w cK hE hS hp hK => ?_) ?_
       · go_simp
         refine hK _ _ ?_ (Stab.Ext.refl _)
         show _ = _
         with_reducible rfl
       refine Stab.Goals.plain rfl rfl (fun us w cK hE hS hp hK => ?_) ?_
       · go_simp
         refine hK _ _ ?_ (Stab.Ext.refl _)
         show _ = _
         with_reducible rfl
       refine Stab.Goals.plain rfl rfl (fun us w cK hE hS hp hK => ?_) ?_
       · obtain ⟨h8, h9, -⟩ := hp
         replace h8 : us 8 = _ := h8
         replace h9 : us 9 = _ := h9
         go_simp
         refine hK _ _ ?_ (Stab.Ext.refl _)
         show _ = _
         with_reducible rfl
       refine Stab.Goals.plain rfl rfl (fun us w cK hE hS hp hK => ?_) ?_
       · obtain ⟨h10, -⟩ := hp
         replace h10 : us 10 = _ := h10
         have s0 := hS.fp; have s1 := hS.cx; have s2 := hS.cz
         go_simp
         refine hK _ _ ?_ (Stab.Ext.refl _)
         show _ = _
         with_reducible rfl
       refine Stab.Goals.plain rfl rfl (fun us w cK hE hS hp hK => ?_) ?_
       · go_simp
         refine hK _ _ ?_ (Stab.Ext.refl _)
         show _ = _
         with_reducible rfl
       refine Stab.Goals.plain rfl rfl (fun us w cK hE hS hp hK => ?_) ?_
       · obtain ⟨h7, h11, h12, -⟩ := hp
         replace h7 : us 7 = _ := h7
         replace h11 : us 11 = _ := h11
         replace h12 : us 12 = _ := h12
         go_simp
         go_wp2_with (go_at_call 145; ((with_reducible refine (Fld.mul_any _ _ z y hz256 hy hS.fld).mono ?_); rintro e w1 ⟨rfl, hb⟩))
         refine hK _ _ ?_ hb
         show _ = _
         with_reducible rfl
       refine Stab.Goals.plain rfl rfl (fun us w cK hE hS hp hK => ?_) ?_
       · obtain ⟨h2, h6, h13, -⟩ := hp
         replace h2 : us 2 = _ := h2
         replace h6 : us 6 = _ := h6
         replace h13 : us 13 = _ := h13
         go_simp
         go_wp2_with (go_at_call 144; ((with_reducible refine (Fld.add_any _ x _ hx256 HGM.out _).mono ?_); rintro e w1 ⟨rfl, rfl⟩))
         refine hK _ _ ?_ (Stab.Ext.refl _)
         show _ = _
         with_reducible rfl
       exact Stab.Goals.nil
     case last3 =>
       intro us w' hE hS hp
       obtain ⟨h0, h1', h8, -⟩ := hp
       replace h0 : us 0 = _ := h0
       replace h1' : us 1 = _ := h1'
       replace h8 : us 14 = _ := h8
       simp only [List.drop_succ_cons, List.drop_zero, h0, h1', h8, Nat.zero_add, Nat.reduceAdd]
       have hrw := HROW.out.ext ((Stab.Ext.drew _).trans hE)
       have c1 := hS.cx
       have z1 := (hrw.cell hlt).2
       have hn := HST.out _ hrw
       rw [HPF.out] at hn
       have HN := Lib.hid hn
       have HF2 := Lib.hid ((HFR.out.next (Vm.Fr.of_below ((Stab.Ext.drew wr).trans hE))).next (Vm.Fr.cell w' ⟨r, q, none⟩ (.int .u8 (Nat.xor x (Fld.gm z y) : Nat))))
       clear hE hS h0 h1' h8 hrw hn
       go_wp2_with fail
       go_roundw
       case rel => exact ⟨q + 1, by omega, by go_num, HN.out, HF2.out⟩
       case measure => simp [intOf]; omega
   · obtain rfl : q = L := by omega
     have HN := Lib.hid (hrow.congr (g := plusF f g y) fun j hj => by simp only [if_pos hj])
     have HFR := Lib.hid hfr
     have d1 : ¬ ((q : Int) < (q : Int)) := by omega
     clear hrow hfr
     go_wp2_with fail
     go_end0
     exact ⟨rfl, HN.out, HFR.out⟩
end Sol
end Go.Proofs.YtnbkhdbligjifaaGreatDoor
