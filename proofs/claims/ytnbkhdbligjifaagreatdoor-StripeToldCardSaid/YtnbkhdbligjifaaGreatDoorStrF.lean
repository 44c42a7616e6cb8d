/-
 The stripe package: what Read keeps of each shard.
-/
import Derived.Test.YtnbkhdbligjifaaGreatDoorStrE
import Derived.Test.YtnbkhdbligjifaaGreatDoorTwoA
set_option linter.unusedVariables false
set_option linter.unusedSimpArgs false
set_option maxRecDepth 100000
set_option maxHeartbeats 40000000
namespace Go.Proofs.YtnbkhdbligjifaaGreatDoor
open Go Go.RowKit Go.Shelf Vm
namespace Str
open Hlt
attribute [local go_sem] Oper.semAt_some
attribute [local go_sem ↓] appSem_eq
noncomputable def hvL (p : PW) (d : ByteArray) (k n : Int) (q : Nat) : List Nat := (List.range q).filter fun j => (gotN p d k n j).sound
noncomputable def pyL (p : PW) (d : ByteArray) (k n : Int) (q : Nat) : List ByteArray := (hvL p d k n q).map fun j => (gotN p d k n j).pay
noncomputable def moreR (p : PW) (d : ByteArray) (k n : Nat) (q : Nat) : Bool := decide ((hvL p d k n (q + 1)).length < k)
theorem hvL_len (p : PW) (d : ByteArray) (k n : Int) (q : Nat) : (hvL p d k n q).length ≤ q := Nat.le_trans (List.length_filter_le _ _) (by simp)
theorem pyL_len (p : PW) (d : ByteArray) (k n : Int) (q : Nat) : (pyL p d k n q).length = (hvL p d k n q).length := by simp [pyL]
theorem hvL_yes {p : PW} {d : ByteArray} {k n : Int} {q : Nat} (h : (gotN p d k n q).sound = true) : hvL p d k n (q + 1) = hvL p d k n q ++ [q] ∧ pyL p d k n (q + 1) = pyL p d k n q ++ [(gotN p d k n q).pay] := by
 have : hvL p d k n (q + 1) = hvL p d k n q ++ [q] := by simp [hvL, List.range_succ, h]
 exact ⟨this, by unfold pyL; rw [this, List.map_append]; rfl⟩
theorem hvL_no {p : PW} {d : ByteArray} {k n : Int} {q : Nat} (h : (gotN p d k n q).sound = false) : hvL p d k n (q + 1) = hvL p d k n q ∧ pyL p d k n (q + 1) = pyL p d k n q := by
 have : hvL p d k n (q + 1) = hvL p d k n q := by simp [hvL, List.range_succ, h]
 exact ⟨this, by unfold pyL; rw [this]⟩
def strsV (l : List ByteArray) : List Value := l.map fun x => .string x
def nums (l : List Nat) : List Value := l.map fun x => .int .i64 (x : Nat)
structure RdS (base A1 A2 c4 : Nat) (k n : Int) (v1 v2 : Value) (hs : List Nat) (ps : List ByteArray) (W : World) : Prop where
 i1 : Boxed W A1 54 v1
 i2 : Boxed W A2 60 v2
 c : Blk W c4 25 #[.int .i64 k, .int .i64 n]
 a0 : W.ownsRow base 3 1 v1 hs.length (nums hs)
 b0 : W.ownsRow base 9 1 v2 hs.length (strsV ps)
 base : base ≤ W.heap.size
def rdO (A1 A2 c4 : Nat) (v1 v2 : Value) : List Nat := A1 :: A2 :: c4 :: (v1.ownBlock.toList ++ v2.ownBlock.toList)
def RdI (base A1 A2 c4 : Nat) (p : PW) (d : ByteArray) (k n : Int) (q : Nat) (S : List Nat) (W : World) : Prop :=
 ∃ v1 v2, S = rdO A1 A2 c4 v1 v2 ∧ RdS base A1 A2 c4 k n v1 v2 (hvL p d k n q) (pyL p d k n q) W
theorem RdS.keep {base A1 A2 c4 : Nat} {k n : Int} {v1 v2 : Value} {hs : List Nat} {ps : List ByteArray} {W W' : World} {Y : List Nat} (h : RdS base A1 A2 c4 k n v1 v2 hs ps W) (hf : Fr Y W W') (hY : ∀ y, y ∈ Y → y ∉ rdO A1 A2 c4 v1 v2) : RdS base A1 A2 c4 k n v1 v2 hs ps W' where
 i1 := (hf.block A1 h.i1.lt fun hm => hY _ hm (by simp [rdO])).trans h.i1
 i2 := (hf.block A2 h.i2.lt fun hm => hY _ hm (by simp [rdO])).trans h.i2
 c := hf.blk h.c fun hm => hY _ hm (by simp [rdO])
 a0 := row_heap h.a0 fun g hg => hf.block g (row_lt h.a0 hg) fun hm => hY _ hm (by simp [rdO, hg])
 b0 := row_heap h.b0 fun g hg => hf.block g (row_lt h.b0 hg) fun hm => hY _ hm (by simp [rdO, hg])
 base := Nat.le_trans h.base hf.size
theorem RdS.lt {base A1 A2 c4 : Nat} {k n : Int} {v1 v2 : Value} {hs : List Nat} {ps : List ByteArray} {W : World} (h : RdS base A1 A2 c4 k n v1 v2 hs ps W) : ∀ x, x ∈ rdO A1 A2 c4 v1 v2 → x < W.heap.size := by
 intro x hx
 simp only [rdO, List.mem_cons, List.mem_append, Option.mem_toList] at hx
 rcases hx with rfl | rfl | rfl | hx | hx
 ·exact h.i1.lt
 ·exact h.i2.lt
 ·exact h.c.lt
 ·exact row_lt h.a0 hx
 ·exact row_lt h.b0 hx
theorem rdI_st {base A1 A2 c4 : Nat} {p : PW} {d : ByteArray} {k n : Int} : ∀ q S W W' Y, RdI base A1 A2 c4 p d k n q S W → Fr Y W W' → (∀ y, y ∈ Y → y ∉ S) → RdI base A1 A2 c4 p d k n q S W' := by
 rintro q S W W' Y ⟨v1, v2, rfl, h⟩ hf hY
 exact ⟨v1, v2, rfl, h.keep hf hY⟩
theorem own_app_at {P : Program} {t e : TypeId} {z : Value} {bytes : Nat} (ht : P.underlying t = some (.slice e)) (he : (P.info? e).map (fun i => (i.zero, i.size, i.bytes)) = some (some z, 1, bytes)) (hzs : z.cells.size = 1) (hb0 : 0 < bytes)
 {w : World} {base n gb c : Nat} {v : Value} {xs : List Value} {a : Value} (hv : w.ownsRow base e 1 v n xs) (hb : Blk w gb e #[a]) (h1 : a.oneCell' = true)
 (hby : (n + 1) * bytes ≤ 70368744177664) (hbase : base ≤ w.heap.size) :
 ∃ g cap w', (appSem #[t, t] t #[v, .slice (some ⟨gb, 0, none⟩) 1 c]).run P w = .ok (.slice (some ⟨g, 0, none⟩) (n + 1) cap) w' ∧ w'.ownsRow base e 1 (.slice (some ⟨g, 0, none⟩) (n + 1) cap) (n + 1) (xs ++ [a]) ∧
  w.grownBy w' v.ownBlock ∧ w'.ownsRow base e 1 v n xs ∧ (∀ b u, w.ownsRow b e 1 u (n + 1) (xs ++ [a]) → w'.ownsRow b e 1 u (n + 1) (xs ++ [a])) ∧ (v.ownBlock = some g ∨ g = w.heap.size) := by
 obtain ⟨g, cap, w', r1, r2, r3, r4, r5⟩ := own_app_kept (c := c) ht he hzs hb0 hv hb h1 hby hbase
 obtain ⟨g2, cap2, w2, q1, -, -, -, q5⟩ := own_app (t := t) (c := c) ht he hzs (by omega) hb0 hv hb (m := 1) (by simp) (by simp [h1]) (by omega) (by omega) hbase
 rw [r1] at q1
 injection q1 with q1 q2
 injection q1 with q1
 injection q1 with q1
 injection q1 with q1
 subst q1
 exact ⟨g, cap, w', r1, r2, r3, r4, r5, q5⟩
def oneE2 (lo base : Nat) (e1 e2 : TypeId) (v1 v2 : Value) (n1 n2 : Nat) (xs1 xs2 : List Value) (a c : Value) : Stab.EVal (EAB base e1 e2 v1 v2 n1 n2 xs1 xs2 a c) :=
 ⟨fun v W => (∃ g cap, v = .slice (some ⟨g, 0, none⟩) (n1 + 1) cap ∧ (v1.ownBlock = some g ∨ lo ≤ g)) ∧ W.ownsRow base e1 1 v (n1 + 1) (xs1 ++ [a]), fun v _ _ h hE => ⟨h.1, hE.a1 v h.2⟩⟩
def twoE2 (lo base : Nat) (e1 e2 : TypeId) (v1 v2 : Value) (n1 n2 : Nat) (xs1 xs2 : List Value) (a c : Value) : Stab.EVal (EAB base e1 e2 v1 v2 n1 n2 xs1 xs2 a c) :=
 ⟨fun v W => (∃ g cap, v = .slice (some ⟨g, 0, none⟩) (n2 + 1) cap ∧ (v2.ownBlock = some g ∨ lo ≤ g)) ∧ W.ownsRow base e2 1 v (n2 + 1) (xs2 ++ [c]), fun v _ _ h hE => ⟨h.1, hE.b1 v h.2⟩⟩
structure RdF (lo base A1 A2 : Nat) (v1 v2 : Value) (m : Nat) (xs1 xs2 : List Value) (W : World) : Prop where
 i1 : Boxed W A1 54 v1
 i2 : Boxed W A2 60 v2
 a0 : W.ownsRow base 3 1 v1 m xs1
 b0 : W.ownsRow base 9 1 v2 m xs2
 base : base ≤ W.heap.size
 lo : lo ≤ W.heap.size
theorem read1_any {base A1 A2 c4 : Nat} (hA : A1 < base ∧ A2 < base ∧ c4 < base ∧ A1 ≠ A2 ∧ c4 ≠ A1 ∧ c4 ≠ A2) (p : PW) (d : ByteArray) (k n : Nat) (q : Nat) (hq : q < 1000) (S : List Nat) (W : World) (hI : RdI base A1 A2 c4 p d k n q S W) :
 Calls Tryz.prog 62 #[.int .i64 (q : Int), .string (gotN p d k n q).pay, .bool (gotN p d k n q).sound, .pointer (some ⟨A1, 0, none⟩), .pointer (some ⟨A2, 0, none⟩), .pointer (some ⟨c4, 0, none⟩)] W (OnP (RdI base A1 A2 c4 p d k n) (moreR p d k n) q S W) := by
 obtain ⟨v1, v2, rfl, hI⟩ := hI
 obtain ⟨ha1, ha2, ha3, ha4, ha5, ha6⟩ := hA
 refine (callsIn_wide (n := 5)).1 ?_
 have h15 : 1 ≤ 5 := by omega
 refine callsIn_of_wp Tryz.func62 rfl trivial ?_ rfl
 simp only [Tryz.ntmps62, List.size_toArray, List.length_cons, List.length_nil, Nat.reduceAdd, Nat.reduceSub, Array.replicate_succ, Array.replicate_zero, List.push_toArray, List.append_toArray, List.nil_append, List.cons_append]
 have hln := hvL_len p d k n q
 obtain ⟨B1, c1, hv1⟩ := row_shape hI.a0
 obtain ⟨B2, c2, hv2⟩ := row_shape hI.b0
 subst hv1 hv2
 have g1 := hI.i1.cell
 have g2 := hI.i2.cell
 have g3 := hI.c.cell 0
 simp only [List.getElem?_toArray, List.getElem?_cons_zero] at g3
 cases hs : (gotN p d k n q).sound with
 | false =>
   obtain ⟨h1, h2⟩ := hvL_no hs
   have HP := Lib.hid (show OnP (RdI base A1 A2 c4 p d k n) (moreR p d k n) q (rdO A1 A2 c4 (.slice B1 (hvL p d k n q).length c1) (.slice B2 (hvL p d k n q).length c2)) W (.returned (.bool (moreR p d k n q))) W from
    ⟨rfl, _, ⟨_, _, rfl, by rw [h1, h2]; exact hI⟩, Fr.refl _ _, fun x hx => .inl hx, hI.lt⟩)
   have HM := Lib.hid (show moreR p d k n q = decide ((hvL p d k n q).length < k) by unfold moreR; rw [h1])
   clear hI h1 h2
   gi_wp2_with fail
   go_ret
   have := HP.out
   rw [HM.out] at this
   exact this
 | true =>
   obtain ⟨h1, h2⟩ := hvL_yes hs
   have hm : moreR p d k n q = decide ((hvL p d k n q).length + 1 < k) := by unfold moreR; rw [h1, List.length_append]; rfl
   have hpl := pyL_len p d k n q
   generalize hhs : hvL p d k n q = hs at *
   generalize hps : pyL p d k n q = ps at *
   generalize (gotN p d k n q).pay = pay at *
   have FIN : ∀ (R W2 : World) (u1 u2 : Value), EAB base 3 9 (.slice B1 hs.length c1) (.slice B2 hs.length c2) hs.length hs.length (nums hs) (strsV ps) (.int .i64 (q : Nat)) (.string pay) W R → R.ownsRow base 3 1 u1 (hs.length + 1) (nums hs ++ [.int .i64 (q : Nat)]) → R.ownsRow base 9 1 u2 (hs.length + 1) (strsV ps ++ [.string pay]) → (∀ g, u1.ownBlock = some g → (Value.slice B1 hs.length c1).ownBlock = some g ∨ W.heap.size ≤ g) → (∀ g, u2.ownBlock = some g → (Value.slice B2 hs.length c2).ownBlock = some g ∨ W.heap.size ≤ g) → W2 = (R.setCell ⟨A1, 0, none⟩ u1).setCell ⟨A2, 0, none⟩ u2 →
    (R.cell? ⟨A1, 0, none⟩ = some (.slice B1 hs.length c1) ∧ R.frozen? ⟨A1, 0, none⟩ = false ∧ R.cell? ⟨A2, 0, none⟩ = some (.slice B2 hs.length c2) ∧ R.frozen? ⟨A2, 0, none⟩ = false ∧ R.cell? ⟨c4, 0, none⟩ = some (.int .i64 (k : Int))) ∧ OnP (RdI base A1 A2 c4 p d k n) (moreR p d k n) q (rdO A1 A2 c4 (.slice B1 hs.length c1) (.slice B2 hs.length c2)) W (.returned (.bool (decide (hs.length + 1 < k)))) W2 := by
    rintro R W2 u1 u2 hT hr1 hr2 ho1 ho2 rfl
    have q1 : Boxed R A1 54 (.slice B1 hs.length c1) := (hT.blk _ hI.i1.lt (hI.i1.not_row (by decide) hI.a0) (hI.i1.not_row (by decide) hI.b0)).trans hI.i1
    have q2 : Boxed R A2 60 (.slice B2 hs.length c2) := (hT.blk _ hI.i2.lt (hI.i2.not_row (by decide) hI.a0) (hI.i2.not_row (by decide) hI.b0)).trans hI.i2
    have q3 : Blk R c4 25 #[.int .i64 (k : Int), .int .i64 (n : Int)] := (hT.blk _ hI.c.lt (fun e => by have := (hI.a0.lt c4 e.symm).1; omega) (fun e => by have := (hI.b0.lt c4 e.symm).1; omega)).trans hI.c
    have q3c := q3.cell 0
    simp only [List.getElem?_toArray, List.getElem?_cons_zero] at q3c
    refine ⟨⟨q1.cell, q1.frozen, q2.cell, q2.frozen, q3c⟩, by rw [hm], rdO A1 A2 c4 u1 u2, ⟨u1, u2, rfl, ?_⟩, ?_, ?_, ?_⟩
    rotate_left
    ·refine ⟨hT.os, hT.tape, hT.output, by have := hT.size; simp only [World.setCell, Array.size_modify]; omega, fun x hx hn => ?_⟩
     simp only [rdO, List.mem_cons, List.mem_append, Option.mem_toList, not_or] at hn
     obtain ⟨n1, n2, n3, n4, n5⟩ := hn
     exact (Below.heap_setCell _ _ _ _ (by simpa using n2)).trans ((Below.heap_setCell _ _ _ _ (by simpa using n1)).trans (hT.blk x hx (fun e => n4 e.symm) (fun e => n5 e.symm)))
    ·intro x hx
     simp only [rdO, List.mem_cons, List.mem_append, Option.mem_toList] at hx ⊢
     rcases hx with hx | hx | hx | hx | hx
     ·exact .inl (.inl hx)
     ·exact .inl (.inr (.inl hx))
     ·exact .inl (.inr (.inr (.inl hx)))
     ·exact (ho1 x hx).imp (fun h => .inr (.inr (.inr (.inl h)))) id
     ·exact (ho2 x hx).imp (fun h => .inr (.inr (.inr (.inr h)))) id
    ·intro x hx
     have hsz := hT.size
     simp only [World.setCell, Array.size_modify]
     simp only [rdO, List.mem_cons, List.mem_append, Option.mem_toList] at hx
     rcases hx with rfl | rfl | rfl | hx | hx
     ·have := hI.i1.lt; omega
     ·have := hI.i2.lt; omega
     ·have := hI.c.lt; omega
     ·exact row_lt hr1 hx
     ·exact row_lt hr2 hx
    ·rw [h1, h2]
     have s1 : Boxed (R.setCell ⟨A1, 0, none⟩ u1) A1 54 u1 := q1.set u1
     have s2 : Boxed (R.setCell ⟨A1, 0, none⟩ u1) A2 60 (.slice B2 hs.length c2) := (Below.heap_setCell _ _ _ _ (by simpa using Ne.symm ha4)).trans q2
     refine ⟨(Below.heap_setCell _ _ _ _ (by simpa using ha4)).trans s1, s2.set u2, (Below.heap_setCell _ _ _ _ (by simpa using ha6)).trans ((Below.heap_setCell _ _ _ _ (by simpa using ha5)).trans q3), ?_, ?_, ?_⟩
     ·rw [List.length_append, show nums (hs ++ [q]) = nums hs ++ [.int .i64 (q : Nat)] by simp [nums]]
      exact row_heap (row_heap hr1 fun g hg => Below.heap_setCell _ _ _ _ fun e => by have := (hr1.lt g hg).1; simp at e; omega) fun g hg => Below.heap_setCell _ _ _ _ fun e => by have := (hr1.lt g hg).1; simp at e; omega
     ·rw [List.length_append, show strsV (ps ++ [pay]) = strsV ps ++ [.string pay] by simp [strsV]]
      exact row_heap (row_heap hr2 fun g hg => Below.heap_setCell _ _ _ _ fun e => by have := (hr2.lt g hg).1; simp at e; omega) fun g hg => Below.heap_setCell _ _ _ _ fun e => by have := (hr2.lt g hg).1; simp at e; omega
     ·have := hT.size; have := hI.base; simp only [World.setCell, Array.size_modify]; omega
   have HFIN := Lib.hid FIN
   have HI := Lib.hid hI
   have it : (Tryz.prog.info? 3).map (fun i => (i.zero, i.size, i.bytes)) = some (some (.int .i64 0), 1, 8) := by kernel_rfl
   have is_ : (Tryz.prog.info? 9).map (fun i => (i.zero, i.size, i.bytes)) = some (some (.string ⟨#[]⟩), 1, 16) := by kernel_rfl
   have hSS : ∀ w', EAB base 3 9 (.slice B1 hs.length c1) (.slice B2 hs.length c2) hs.length hs.length (nums hs) (strsV ps) (.int .i64 (q : Nat)) (.string pay) W.drew w' → RdF W.heap.size base A1 A2 (.slice B1 hs.length c1) (.slice B2 hs.length c2) hs.length (nums hs) (strsV ps) w' := fun w' hE => by
    have hE' := (EAB.ext (Stab.Ext.drew W)).trans hE
    exact ⟨(hE'.blk _ hI.i1.lt (hI.i1.not_row (by decide) hI.a0) (hI.i1.not_row (by decide) hI.b0)).trans hI.i1, (hE'.blk _ hI.i2.lt (hI.i2.not_row (by decide) hI.a0) (hI.i2.not_row (by decide) hI.b0)).trans hI.i2, hE'.a0 hI.a0, hE'.b0 hI.b0, Nat.le_trans hI.base hE'.size, hE'.size⟩
   clear FIN hI h1 h2 hm g1 g2 g3
   gi_wp2_with fail
   refine Stab.wpIn_region_E 8 24 [some 11, some 12, some 13, some 14, some 15, some 16, some 17, some 18] [[], [], [1], [0, 2], [], [], [5], [4, 6, 3]] [3, 7] (RdF W.heap.size base A1 A2 (.slice B1 hs.length c1) (.slice B2 hs.length c2) hs.length (nums hs) (strsV ps))
    [Stab.eqE (EAB base 3 9 (.slice B1 hs.length c1) (.slice B2 hs.length c2) hs.length hs.length (nums hs) (strsV ps) (.int .i64 (q : Nat)) (.string pay)) ?v0, Stab.eqE _ ?v1, ptrE base 3 9 (.slice B1 hs.length c1) (.slice B2 hs.length c2) hs.length hs.length (nums hs) (strsV ps) (.int .i64 (q : Nat)) (.string pay) 3 #[.int .i64 (q : Nat)], oneE2 W.heap.size base 3 9 (.slice B1 hs.length c1) (.slice B2 hs.length c2) hs.length hs.length (nums hs) (strsV ps) (.int .i64 (q : Nat)) (.string pay), Stab.eqE _ ?v4, Stab.eqE _ ?v5, ptrE base 3 9 (.slice B1 hs.length c1) (.slice B2 hs.length c2) hs.length hs.length (nums hs) (strsV ps) (.int .i64 (q : Nat)) (.string pay) 9 #[.string pay], twoE2 W.heap.size base 3 9 (.slice B1 hs.length c1) (.slice B2 hs.length c2) hs.length hs.length (nums hs) (strsV ps) (.int .i64 (q : Nat)) (.string pay)]
    rfl (by kernel_rfl) rfl (by kernel_rfl) (fun ⟨_, _, h⟩ => (by have h : OnP _ _ _ _ _ _ _ := h; exact absurd h.1 (by simp))) (by kernel_rfl) (by kernel_rfl) (fun us => by simp only [Stab.putAll, Act.put, List.setIfInBounds_toArray, List.set_cons_zero, List.set_cons_succ]; rfl)
    EAB.refl (fun _ _ _ => EAB.trans) hSS ?goals2 ?last2
   case goals2 =>
    simp only [List.take_succ_cons, List.take_zero]
    refine Stab.GoalsE.plain rfl rfl (fun us w cK hE hS hp hK => ?_) ?_
    ·skip
     have d1 := hS.i1.cell
     go_simp
     refine hK _ _ ?_ EAB.refl
     show _ = _
     with_reducible rfl
    refine Stab.GoalsE.plain rfl rfl (fun us w cK hE hS hp hK => ?_) ?_
    ·skip
     go_simp
     refine hK _ _ ?_ EAB.refl
     show _ = _
     with_reducible rfl
    refine Stab.GoalsE.plain rfl rfl (fun us w cK hE hS hp hK => ?_) ?_
    ·skip
     obtain ⟨h1, -⟩ := hp
     replace h1 : us 1 = _ := h1
     go_simp
     exact hK _ _ ⟨_, rfl, fun e => by have := row_lt hS.a0 e.symm; omega, fun e => by have := row_lt hS.b0 e.symm; omega, Blk.new _ _ _⟩ (EAB.ext (Stab.Ext.alloc _ _))
    refine Stab.GoalsE.plain rfl rfl (fun us w cK hE hS hp hK => ?_) ?_
    ·obtain ⟨h0, ⟨z, h2, -, -, hz⟩, -⟩ := hp
     replace h0 : us 0 = _ := h0
     obtain ⟨g, cap, wa, hrun, o1, hg, k0, k1, k2⟩ := own_app_at (c := 1) Tryz.underlying54 it rfl (by omega) hS.a0 hz rfl (by omega) hS.base
     refine wp_app rfl rfl (by go_simp) (by go_simp) hrun ?_
     refine ⟨rfl, ?_⟩
     exact hK _ _ ⟨⟨g, cap, rfl, k2.imp id fun h => by have := hS.lo; omega⟩, o1⟩ (EAB.one (by decide) hS.a0 hg k0 k1)
    refine Stab.GoalsE.plain rfl rfl (fun us w cK hE hS hp hK => ?_) ?_
    ·skip
     have d1 := hS.i2.cell
     go_simp
     refine hK _ _ ?_ EAB.refl
     show _ = _
     with_reducible rfl
    refine Stab.GoalsE.plain rfl rfl (fun us w cK hE hS hp hK => ?_) ?_
    ·skip
     go_simp
     refine hK _ _ ?_ EAB.refl
     show _ = _
     with_reducible rfl
    refine Stab.GoalsE.plain rfl rfl (fun us w cK hE hS hp hK => ?_) ?_
    ·skip
     obtain ⟨h5, -⟩ := hp
     replace h5 : us 5 = _ := h5
     go_simp
     exact hK _ _ ⟨_, rfl, fun e => by have := row_lt hS.a0 e.symm; omega, fun e => by have := row_lt hS.b0 e.symm; omega, Blk.new _ _ _⟩ (EAB.ext (Stab.Ext.alloc _ _))
    refine Stab.GoalsE.plain rfl rfl (fun us w cK hE hS hp hK => ?_) ?_
    ·obtain ⟨h4, ⟨z, h6, -, -, hz⟩, -⟩ := hp
     replace h4 : us 4 = _ := h4
     obtain ⟨g, cap, wa, hrun, o1, hg, k0, k1, k2⟩ := own_app_at (c := 1) Tryz.underlying60 is_ rfl (by omega) hS.b0 hz rfl (by omega) hS.base
     refine wp_app rfl rfl (by go_simp) (by go_simp) hrun ?_
     refine ⟨rfl, ?_⟩
     exact hK _ _ ⟨⟨g, cap, rfl, k2.imp id fun h => by have := hS.lo; omega⟩, o1⟩ (EAB.two (by decide) hS.b0 hg k0 k1)
    exact Stab.GoalsE.nil
   case last2 =>
    intro us W9 hE9 hS hp
    obtain ⟨⟨⟨ga, ca, h3, ho1⟩, r1⟩, ⟨⟨gb, cb, h8, ho2⟩, r2⟩, -⟩ := hp
    rw [h3] at r1
    rw [h8] at r2
    simp only [List.drop_succ_cons, List.drop_zero, h3, h8]
    have k1 : ∀ g, (Value.slice (some ⟨ga, 0, none⟩) (hs.length + 1) ca).ownBlock = some g → (Value.slice B1 hs.length c1).ownBlock = some g ∨ W.heap.size ≤ g := fun g hg => by
     have : ga = g := by simpa [Value.ownBlock] using hg
     rw [← this]; exact ho1
    have k2 : ∀ g, (Value.slice (some ⟨gb, 0, none⟩) (hs.length + 1) cb).ownBlock = some g → (Value.slice B2 hs.length c2).ownBlock = some g ∨ W.heap.size ≤ g := fun g hg => by
     have : gb = g := by simpa [Value.ownBlock] using hg
     rw [← this]; exact ho2
    obtain ⟨⟨q1, z1, q2, z2, q4⟩, hfin⟩ := HFIN.out W9 _ _ _ ((EAB.ext (Stab.Ext.drew W)).trans hE9) r1 r2 k1 k2 rfl
    clear k1 k2
    have HFF := Lib.hid hfin
    clear hS r1 r2 hE9 hfin
    go_wp2_with fail
    gi_wp2_with fail
    go_ret
    have hff := HFF.out
    rw [← show decide ((hs.length : Int) + 1 < (k : Int)) = decide (hs.length + 1 < k) from decide_eq_decide.2 (by omega)] at hff
    exact hff
end Str
end Go.Proofs.YtnbkhdbligjifaaGreatDoor
