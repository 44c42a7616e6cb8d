/-
 The stripe package: objects are put and synced (spread). The stripe package: a blob is written (Write).
-/
import Derived.Test.YtnbkhdbligjifaaGreatDoorStrC
import Derived.Test.YtnbkhdbligjifaaGreatDoorShdName
import Derived.Sort.OwnSortedInts
set_option linter.unusedVariables false
set_option linter.unusedSimpArgs false
set_option maxRecDepth 100000
set_option maxHeartbeats 40000000
namespace Go.Proofs.YtnbkhdbligjifaaGreatDoor
open Go Go.RowKit Vm
namespace Str
open Hlt
attribute [local go_sem ↓] appSem_eq
def obAt (l : List POb) (i : Nat) : POb := l.getD i (⟨#[]⟩, ⟨#[]⟩)
def putE1 (l : List POb) (p : PW) (i : Nat) : Int := callE p i (putE (p.st i) (obAt l i).1 (obAt l i).2)
def putP1 (l : List POb) (p : PW) (i : Nat) : PW := callP p i (putS (p.st i) (obAt l i).1 (obAt l i).2)
def putN (l : List POb) : List Nat → List Nat → PW → Int × List Nat × PW
 | [], held, p => (0, held, p)
 | i :: r, held, p => if putE1 l p i = 0 then putN l r (held ++ [i]) (putP1 l p i) else if putE1 l p i = 56 ∨ putE1 l p i = 52 then (putE1 l p i, held, putP1 l p i) else putN l r held (putP1 l p i)
def synE1 (p : PW) (i : Nat) : Int := callE p i (syncV (p.st i))
def synP1 (p : PW) (i : Nat) : PW := callP p i (syncS (p.st i))
def synN : List Nat → Nat → PW → Int × Nat × PW
 | [], m, p => (0, m, p)
 | i :: r, m, p => if synE1 p i = 0 then synN r (m + 1) (synP1 p i) else if synE1 p i = 56 then (56, m, synP1 p i) else synN r m (synP1 p i)
def rise (l : List Nat) : List Nat := ((l.map fun x : Nat => (x : Int)).mergeSort fun x y => decide (x ≤ y)).map Int.toNat
theorem rise_ints (l : List Nat) : ((l.map fun x : Nat => (x : Int)).mergeSort fun x y => decide (x ≤ y)).map (Value.int .i64) = intsV (rise l) := by
 unfold rise intsV
 rw [List.map_map]
 refine List.map_congr_left fun x hx => ?_
 obtain ⟨y, _, rfl⟩ := List.mem_map.1 (List.mem_mergeSort.1 hx)
 rfl
theorem rise_len (l : List Nat) : (rise l).length = l.length := by simp [rise]
theorem rise_perm (l : List Nat) : (rise l).Perm l := by
 unfold rise
 refine ((List.mergeSort_perm _ _).map _).trans ?_
 rw [List.map_map]
 exact List.Perm.of_eq (by rw [show (Int.toNat ∘ fun x : Nat => (x : Int)) = id from rfl, List.map_id])
def spreadR (l : List POb) (p : PW) (k : Nat) : Int × PW :=
 if (askN l p l.length).cut = true then (56, (askN l p l.length).p)
 else if (askN l p l.length).held.length + (askN l p l.length).todo.length < k then (55, (askN l p l.length).p)
 else if (putN l (askN l p l.length).todo (askN l p l.length).held (askN l p l.length).p).1 ≠ 0 then ((putN l (askN l p l.length).todo (askN l p l.length).held (askN l p l.length).p).1, (putN l (askN l p l.length).todo (askN l p l.length).held (askN l p l.length).p).2.2)
 else if (putN l (askN l p l.length).todo (askN l p l.length).held (askN l p l.length).p).2.1.length < k then (53, (putN l (askN l p l.length).todo (askN l p l.length).held (askN l p l.length).p).2.2)
 else if (synN (rise (putN l (askN l p l.length).todo (askN l p l.length).held (askN l p l.length).p).2.1) 0 (putN l (askN l p l.length).todo (askN l p l.length).held (askN l p l.length).p).2.2).1 ≠ 0 then (56, (synN (rise (putN l (askN l p l.length).todo (askN l p l.length).held (askN l p l.length).p).2.1) 0 (putN l (askN l p l.length).todo (askN l p l.length).held (askN l p l.length).p).2.2).2.2)
 else if (synN (rise (putN l (askN l p l.length).todo (askN l p l.length).held (askN l p l.length).p).2.1) 0 (putN l (askN l p l.length).todo (askN l p l.length).held (askN l p l.length).p).2.2).2.1 < k then (53, (synN (rise (putN l (askN l p l.length).todo (askN l p l.length).held (askN l p l.length).p).2.1) 0 (putN l (askN l p l.length).todo (askN l p l.length).held (askN l p l.length).p).2.2).2.2)
 else (0, (synN (rise (putN l (askN l p l.length).todo (askN l p l.length).held (askN l p l.length).p).2.1) 0 (putN l (askN l p l.length).todo (askN l p l.length).held (askN l p l.length).p).2.2).2.2)
/-! ### bounds -/
structure Bnd (L M : Nat) (s : PSt) : Prop where
 len : s.seen.length ≤ L
 key : ∀ x ∈ s.seen, x.1.size ≤ 80 ∧ x.2.size ≤ 65536
 wr : s.writes.length ≤ M
 room : -9223372036854775808 ≤ s.room ∧ s.room ≤ 9223372036854775807
theorem Bnd.ok {L M : Nat} {s : PSt} (h : Bnd L M s) (hL : L ≤ 10000) (hM : M ≤ 1000000) : s.Ok := ⟨⟨by have := h.len; omega, h.key⟩, by have := h.wr; omega, h.room⟩
theorem Bnd.up {L M L' M' : Nat} {s : PSt} (h : Bnd L M s) (hL : L ≤ L') (hM : M ≤ M') : Bnd L' M' s := ⟨Nat.le_trans h.len hL, h.key, Nat.le_trans h.wr hM, h.room⟩
theorem refS_eq (s : PSt) : (refS s).seen = s.seen ∧ (refS s).writes = s.writes ∧ (refS s).room = s.room := by
 unfold refS
 split <;> exact ⟨rfl, rfl, rfl⟩
theorem put_len1 (m : TMap) (N D : ByteArray) : (TMap.put m N D).length ≤ m.length + 1 := by
 induction m with
 | nil => simp [TMap.put]
 | cons p m ih =>
   obtain ⟨a, b⟩ := p
   unfold TMap.put
   split <;> simp <;> omega
theorem put_mem1 {m : TMap} {N D : ByteArray} {x : ByteArray × ByteArray} (h : x ∈ TMap.put m N D) : x = (N, D) ∨ x ∈ m := by
 induction m with
 | nil => simpa [TMap.put] using h
 | cons p m ih =>
   obtain ⟨a, b⟩ := p
   unfold TMap.put at h
   split at h
   ·simp only [List.mem_cons] at h ⊢
    rcases h with h | h
    ·left; simp_all
    ·exact .inr (.inr h)
   ·simp only [List.mem_cons] at h ⊢
    rcases h with h | h
    ·exact .inr (.inl h)
    ·exact (ih h).imp id .inr
theorem putS_bnd {L M : Nat} {s : PSt} (h : Bnd L M s) (n d : ByteArray) : Bnd (L + 1) (M + 1) (putS s n d) := by
 have h0 : Bnd (L + 1) (M + 1) s := h.up (by omega) (by omega)
 obtain ⟨e1, e2, e3⟩ := refS_eq s
 unfold putS
 split
 ·exact h0
 rename_i hn
 split
 ·exact h0
 split
 ·exact h0
 have hr : Bnd (L + 1) (M + 1) (refS s) := ⟨by rw [e1]; exact h0.len, by rw [e1]; exact h0.key, by rw [e2]; exact h0.wr, by rw [e3]; exact h0.room⟩
 split
 ·exact hr
 ·refine ⟨?_, fun x hx => ?_, ?_, hr.room⟩
  ·exact Nat.le_trans (put_len1 _ _ _) (by have := h.len; omega)
  ·have hx := hx
   rcases put_mem1 hx with rfl | hx
   ·show n.size ≤ 80 ∧ d.size ≤ 65536; omega
   ·exact h.key x hx
  ·show (s.writes ++ [(n, d, false)]).length ≤ _
   have := h.wr
   simp; omega
theorem callP_bnd {L M : Nat} {p : PW} (h : ∀ i, Bnd L M (p.st i)) {L' M' : Nat} (hL : L ≤ L') (hM : M ≤ M') (i : Int) {s' : PSt} (hs : Bnd L' M' s') : ∀ j, Bnd L' M' ((callP p i s').st j) := fun j => by
 unfold callP
 split
 ·split
  ·exact (h j).up hL hM
  ·show Bnd L' M' (upd p.st i.toNat s' j)
   by_cases hj : j = i.toNat
   ·rw [hj, upd_same]; exact hs
   ·rw [upd_ne _ _ hj]; exact (h j).up hL hM
 ·exact (h j).up hL hM
theorem NRow.at_ {base : Nat} {O : List Nat} {A : Option Addr} {c m : Nat} {l : List Nat} {w : World} (h : NRow base O (.slice A m c) l w) {q : Nat} (hq : q < l.length) : ∃ g, A = some ⟨g, 0, none⟩ ∧ w.cell? ⟨g, q, none⟩ = some (.int .i64 (l[q] : Nat)) := by
 obtain ⟨g, cap, hv, -⟩ := (OwnG.of h.row).addr (by omega)
 cases hv
 exact ⟨g, rfl, (OwnG.of h.row).cells rfl q _ (by simp [intsV, List.getElem?_eq_getElem hq])⟩
theorem ba_list (x : ByteArray) : (⟨x.data.toList.toArray⟩ : ByteArray) = x := by simp
theorem putB_any {w : World} {b : Nat} {p : PW} {O : List Nat} (h : WAt w b p O) (l : List POb) (i : Nat) (hl : (obAt l i).1.size ≤ 1000000 ∧ (obAt l i).2.size ≤ 1000000) (hs : (p.st i).Ok) :
 Calls Tryz.prog 39 #[.pointer (some ⟨b, 0, none⟩), .int .i64 (i : Int), .agg #[.string (obAt l i).1, .string (obAt l i).2]] w (WPost w b O (.int .i64 (putE1 l p i)) (putP1 l p i)) := by
 have := wput_any h (i : Int) (obAt l i).1.data.toList (obAt l i).2.data.toList (by simpa using hl.1) (by simpa using hl.2) hs
 rw [ba_list, ba_list] at this
 exact this
theorem synB_any {w : World} {b : Nat} {p : PW} {O : List Nat} (h : WAt w b p O) (i : Nat) :
 Calls Tryz.prog 40 #[.pointer (some ⟨b, 0, none⟩), .int .i64 (i : Int)] w (WPost w b O (.int .i64 (synE1 p i)) (synP1 p i)) := wsync_any h (i : Int)
def SortP (base : Nat) (O : List Nat) (v : Value) (l : List Nat) (g : Nat) (w : World) (e : Ending) (w' : World) : Prop := e = .returned (.tuple #[]) ∧ NRow base O v (rise l) w' ∧ Fr [g] w w'
theorem sort_any {base : Nat} {O : List Nat} {A : Option Addr} {c m : Nat} {l : List Nat} {w : World} (h : NRow base O (.slice A m c) l w) (h0 : 0 < l.length) (hl : l.length ≤ 100000) :
 ∃ g, A = some ⟨g, 0, none⟩ ∧ Calls Tryz.prog 94 #[.slice A m c] w (SortP base O (.slice A m c) l g w) := by
 rcases h.row.2 with ⟨_, h2⟩ | ⟨g, cap, cur, hv, hb, hg, h1, h2, h3, h4⟩
 ·omega
 ·cases hv
  have hz : (l.map fun x : Nat => (x : Int)).length = l.length := by simp
  have hi : (l.map fun x : Nat => (x : Int)).map (Value.int .i64) = intsV l := by rw [List.map_map]; rfl
  have ht : cur.toList.take (l.map fun x : Nat => (x : Int)).length = (l.map fun x : Nat => (x : Int)).map (Value.int .i64) := by rw [hz, hi, ← h4, Nat.mul_one]
  have hs := Tryz.slices_Sort_int g 0 c (l.map fun x : Nat => (x : Int)) w (holds_of_blockI hg ht) (Array.getElem?_eq_some_iff.1 hg).1 (by rw [hz]; omega)
  rw [hz] at hs
  refine ⟨g, rfl, hs.mono ?_⟩
  rintro e w' ⟨rfl, n, os, rfl⟩
  have hgr := Go.grownBy_sortedI (w := w) (g := g) (n := n) (os := os) ((l.map fun x : Nat => (x : Int)).mergeSort fun x y => decide (x ≤ y)).toArray
  refine ⟨rfl, ⟨?_, h.off⟩, ⟨hgr.os, hgr.tape, hgr.output, hgr.size, fun k hk hkO => hgr.block k hk fun e => hkO (by simp at e; simp [e])⟩⟩
  have := Go.ownsRow_sortedI (w := w) (n := n) (os := os) (ss := l.map fun x : Nat => (x : Int)) (ts := (l.map fun x : Nat => (x : Int)).mergeSort fun x y => decide (x ≤ y)) (cap := c) (by simp) hb hg (by rw [hz]; exact h1) h2 h3
  rw [hz, rise_ints] at this
  rw [rise_len]
  exact this
theorem getP_st (p : PW) (i : Int) : (getP p i).st = p.st ∧ (getP p i).n = p.n := by
 unfold getP
 split <;> exact ⟨rfl, rfl⟩
theorem askN_st (l : List POb) (p : PW) : ∀ q, (askN l p q).p.st = p.st ∧ (askN l p q).p.n = p.n
 | 0 => ⟨rfl, rfl⟩
 | q + 1 => by
   obtain ⟨h1, h2⟩ := askN_st l p q
   rw [askN]
   unfold askStep
   obtain ⟨g1, g2⟩ := getP_st (askN l p q).p q
   repeat' split
   all_goals first | exact ⟨h1, h2⟩ | exact ⟨g1.trans h1, g2.trans h2⟩
def SprPost (w : World) (O : List Nat) (b : Nat) (l : List POb) (p : PW) (k : Nat) (e : Ending) (w' : World) : Prop :=
 ∃ O', e = .returned (.int .i64 (spreadR l p k).1) ∧ WB w O b (spreadR l p k).2 O' w'
theorem spread_any {w : World} {b : Nat} {p : PW} {O : List Nat} (h : WAt w b p O) {vl : Value} {l : List POb} {bl : Nat} (hl : ObjsAt w bl vl l) (hoff : ∀ g, vl.ownBlock = some g → g ∉ O) (hlen : l.length ≤ 1000) (hsz : ∀ i, (obAt l i).1.size ≤ 1000000 ∧ (obAt l i).2.size ≤ 1000000)
 {L M : Nat} (hb : ∀ i, Bnd L M (p.st i)) (hL : L + l.length ≤ 10000) (hM : M + l.length ≤ 1000000) (k n : Nat) (h1 : 1 ≤ k) (hk : k ≤ 1000) :
 Calls Tryz.prog 59 #[.pointer (some ⟨b, 0, none⟩), .agg #[.int .i64 (k : Int), .int .i64 (n : Int)], vl] w (SprPost w O b l p k) := by
 have hE0 := Stab.Ext.alloc w (.cells #[.int .i64 (k : Int), .int .i64 (n : Int)] 25)
 have bx := Blk.new w 25 #[.int .i64 (k : Int), .int .i64 (n : Int)]
 have c0 := bx.cell 0
 simp only [List.getElem?_toArray, List.getElem?_cons_zero] at c0
 obtain ⟨A, cap, rfl⟩ := OwnG.shape hl
 have HASK := Lib.hid (ask_any (h.keep (Fr.of_below (O := []) hE0) (by simp)) (hl.ext hE0) hoff hlen)
 have HL := Lib.hid hl
 have HOFF := Lib.hid hoff
 have HE0 := Lib.hid hE0
 have HBX := Lib.hid bx
 have HLT := Lib.hid h.lt
 have HLN := Lib.hid (askN_lt l p l.length)
 have HSZ := Lib.hid hsz
 have HB := Lib.hid hb
 have hR : spreadR l p k = spreadR l p k := rfl
 conv at hR => rhs; unfold spreadR
 have HR := Lib.hid hR
 have hbO : w.heap.size ∉ O := fun hm => by have := h.lt _ hm; omega
 have hbl : w.heap.size < (w.alloc (.cells #[.int .i64 (k : Int), .int .i64 (n : Int)] 25)).heap.size := bx.lt
 have HL0 := Lib.hid (hl.ext hE0)
 have HK := Lib.hid (show ∀ (e : Ending) (w' : World), (∃ O', e = .returned (.int .i64 (spreadR l p k).1) ∧ WB (w.alloc (.cells #[.int .i64 (k : Int), .int .i64 (n : Int)] 25)) O b (spreadR l p k).2 O' w') → SprPost w O b l p k e w' from fun e w' ⟨O', h1, h2⟩ => ⟨O', h1, h2.front hE0⟩)
 clear h hl hoff hE0 hsz hb bx hR
 go_enter Tryz.func59, Tryz.ntmps59
 generalize hw0 : w.alloc (.cells #[.int .i64 (k : Int), .int .i64 (n : Int)] 25) = w0 at *
 go_wp2_with (go_at_call 93; with_reducible refine HASK.out.mono ?_)
 rintro e w1 ⟨vh, vt, O1, rfl, hI⟩
 clear HASK
 obtain ⟨Ah, ch, hvh⟩ := row_shape hI.h.row
 obtain ⟨At, ct, hvt⟩ := row_shape hI.t.row
 subst hvh hvt
 have hast : (askN l p l.length).p.st = p.st := (askN_st l p l.length).1
 generalize askN l p l.length = a at *
 have c1 := (World.cell?_of_block (a := ⟨w.heap.size, 0, none⟩) (hI.wb.fr.block _ hbl hbO)).trans c0
 obtain ⟨hln1, hln2⟩ := HLN.out
 rw [List.length_append] at hln2
 have HI := Lib.hid hI
 cases hcut : a.cut with
 | true =>
   have hr := Lib.hid (show spreadR l p k = (56, a.p) from HR.out.trans (if_pos hcut))
   clear hI
   go_wp2_with fail
   go_ret
   exact HK.out _ _ ⟨O1, by rw [hr.out]; rfl, by rw [hr.out]; exact HI.out.wb⟩
 | false =>
   have HR2 := Lib.hid (HR.out.trans (if_neg (by rw [hcut]; exact Bool.false_ne_true)))
   clear HR
   by_cases hk1 : a.held.length + a.todo.length < k
   ·have hr := Lib.hid (show spreadR l p k = (55, a.p) from HR2.out.trans (if_pos hk1))
    have hk2 : ((a.held.length : Nat) : Int) + ((a.todo.length : Nat) : Int) < (k : Int) := by omega
    clear hI
    go_wp2_with fail
    go_ret
    exact HK.out _ _ ⟨O1, by rw [hr.out]; rfl, by rw [hr.out]; exact HI.out.wb⟩
   ·have HR3 := Lib.hid (HR2.out.trans (if_neg hk1))
    have hk2 : ¬ ((a.held.length : Nat) : Int) + ((a.todo.length : Nat) : Int) < (k : Int) := by omega
    clear HR2 hI
    go_wp2_with fail
    have hS0 : ∀ i, Bnd (L + 0) (M + 0) (a.p.st i) := fun i => by rw [hast]; exact HB.out i
    go_loopw [7, 38] (fun vh i wr => ∃ (q : Nat) (hd : List Nat) (p' : PW) (O' : List Nat), q ≤ a.todo.length ∧ i = .int .i64 (q : Int) ∧ AInv w0 O b vh (.slice At a.todo.length ct) ⟨false, hd, a.todo, p'⟩ O' wr ∧ putN l a.todo a.held a.p = putN l (a.todo.drop q) hd p' ∧ (∀ i, Bnd (L + q) (M + q) (p'.st i)) ∧ hd.length ≤ a.held.length + q ∧ ∀ x ∈ hd, x < l.length) (fun _ i _ => a.todo.length - (intOf i).toNat)
    case atStart => exact ⟨0, a.held, a.p, O1, by omega, rfl, ⟨HI.out.wb, HI.out.h, HI.out.t, HI.out.ne⟩, rfl, hS0, by omega, fun x hx => hln1 x (List.mem_append_left _ hx)⟩
    case round =>
     obtain ⟨q, hd, p', O', hq, rfl, hJ, hput, hbn, hhl, hhd⟩ := hrel
     have d1 := (World.cell?_of_block (a := ⟨w.heap.size, 0, none⟩) (hJ.wb.fr.block _ hbl hbO)).trans c0
     by_cases hlt : q < a.todo.length
     ·have hlt2 : (q : Int) < (a.todo.length : Int) := by omega
      obtain ⟨g, hg, r2⟩ := hJ.t.at_ hlt
      subst hg
      have htl : a.todo[q] < l.length := hln1 _ (List.mem_append_right _ (List.getElem_mem _))
      rw [List.drop_eq_getElem_cons hlt, putN] at hput
      generalize a.todo[q] = t at *
      obtain ⟨g2, cap2, hv2, r0, r1⟩ := HL0.out.cells htl
      obtain ⟨rfl, rfl⟩ : A = some ⟨g2, 0, none⟩ ∧ cap = cap2 := by cases hv2; exact ⟨rfl, rfl⟩
      have hgl : g2 < w0.heap.size := lt_cell r0
      replace r0 := (World.cell?_of_block (a := ⟨g2, t * 2, none⟩) (hJ.wb.fr.block g2 hgl (HOFF.out g2 rfl))).trans r0
      replace r1 := (World.cell?_of_block (a := ⟨g2, t * 2 + 1, none⟩) (hJ.wb.fr.block g2 hgl (HOFF.out g2 rfl))).trans r1
      have hob : l[t] = obAt l t := by rw [obAt, List.getD, List.getElem?_eq_getElem htl, Option.getD_some]
      rw [hob] at r0 r1
      have htl2 : (t : Int) < (l.length : Int) := by omega
      have HPUT := Lib.hid (fun W (hE : Stab.Ext wr W) => putB_any (hJ.wb.ext hE).at_ l t (HSZ.out t) ((hbn t).ok (by omega) (by omega)))
      have hps := putS_bnd (hbn t) (obAt l t).1 (obAt l t).2
      have hbn2 : ∀ i, Bnd (L + (q + 1)) (M + (q + 1)) ((putP1 l p' t).st i) := callP_bnd hbn (by omega) (by omega) (t : Int) hps
      have HJ := Lib.hid hJ
      have HBN := Lib.hid hbn2
      obtain ⟨Ah2, ch2, hvh2⟩ := row_shape hJ.h.row
      subst hvh2
      simp only at HPUT r0 r1
      generalize putE1 l p' t = er at *
      generalize putP1 l p' t = p2 at *
      generalize obAt l t = ob at *
      obtain ⟨nm, dt⟩ := ob
      simp only at r0 r1 HPUT
      have HPN := Lib.hid hput
      clear hJ hbn hbn2 hps hob hv2 hput
      go_wp2_with (go_at_call 39; with_reducible refine (HPUT.out _ (Stab.Ext.refl _)).mono ?_)
      intro e w4 hq4
      obtain ⟨O3, hJ4, -⟩ := HJ.out.next hq4
      obtain ⟨rfl, -⟩ := hq4
      have HJ4 := Lib.hid hJ4
      by_cases h0 : er = 0
      ·subst h0
       have HP := Lib.hid (HPN.out.trans (if_pos rfl))
       obtain ⟨g6, c6, w6, hrun, hown, -, hgr, hwh⟩ := own_app_new (c := 1) (m := 1) (C := #[.int .i64 (t : Nat)]) Tryz.underlying54 info_int rfl (by omega) (by omega) (show w4.ownsRow w0.heap.size 3 1 (.slice Ah2 hd.length ch2) hd.length (intsV hd) from hJ4.h.row) rfl (by simp [Value.oneCell']) (by omega) (by omega) hJ4.wb.fr.size
       have HN := Lib.hid (hJ4.moreh hown hgr hwh)
       clear hJ4 hown hgr hwh HPN
       go_wp2_with fail
       go_roundw
       case rel => exact ⟨q + 1, hd ++ [t], p2, O3, by omega, by go_num, ⟨HN.out.wb, HN.out.h, HN.out.t, HN.out.ne⟩, HP.out, HBN.out, by rw [List.length_append]; simp; omega, fun x hx => by
        rcases List.mem_append.1 hx with hx | hx
        ·exact hhd x hx
        ·rw [List.mem_singleton.1 hx]; exact htl⟩
       case measure => simp [intOf]; omega
      ·by_cases h5 : er = 56 ∨ er = 52
       ·have hp := HPN.out.trans ((if_neg h0).trans (if_pos h5))
        have hr := Lib.hid (show spreadR l p k = (er, p2) from HR3.out.trans ((if_pos (by rw [hp]; exact h0)).trans (by rw [hp])))
        clear hJ4 HPN
        rcases h5 with rfl | rfl
        all_goals
         go_wp2_with fail
         go_ret
         exact HK.out _ _ ⟨O3, by rw [hr.out]; rfl, by rw [hr.out]; exact HJ4.out.wb⟩
       ·have HP := Lib.hid (HPN.out.trans ((if_neg h0).trans (if_neg h5)))
        obtain ⟨h6, h7⟩ := not_or.1 h5
        clear hJ4 HPN h5
        go_wp2_with fail
        go_roundw
        case rel => exact ⟨q + 1, hd, p2, O3, by omega, by go_num, ⟨HJ4.out.wb, HJ4.out.h, HJ4.out.t, HJ4.out.ne⟩, HP.out, HBN.out, by omega, hhd⟩
        case measure => simp [intOf]; omega
     ·have hqe : q = a.todo.length := by omega
      subst hqe
      rw [List.drop_length, putN] at hput
      rw [hput] at HR3
      have HR4 := Lib.hid (HR3.out.trans (if_neg (by simp)))
      simp only at HR4
      have HJ := Lib.hid hJ
      obtain ⟨Ah2, ch2, hvh2⟩ := row_shape hJ.h.row
      subst hvh2
      have d0 : ¬ ((a.todo.length : Nat) : Int) < ((a.todo.length : Nat) : Int) := by omega
      clear hJ HR3 hput hbn
      by_cases hk3 : hd.length < k
      ·have hk4 : ((hd.length : Nat) : Int) < (k : Int) := by omega
       have hr := Lib.hid (show spreadR l p k = (53, p') from HR4.out.trans (if_pos hk3))
       go_wp2_with fail
       go_ret
       exact HK.out _ _ ⟨O', by rw [hr.out]; rfl, by rw [hr.out]; exact HJ.out.wb⟩
      ·have hk4 : ¬ ((hd.length : Nat) : Int) < (k : Int) := by omega
       have HR5 := Lib.hid (HR4.out.trans (if_neg hk3))
       clear HR4
       obtain ⟨gs, rfl, hsort⟩ := sort_any (show NRow w0.heap.size O' (.slice Ah2 hd.length ch2) hd wr from HJ.out.h) (by omega) (by omega)
       have HSORT := Lib.hid hsort
       clear hsort
       go_wp2_with (go_at_call 94; with_reducible refine HSORT.out.mono ?_)
       rintro e w5 ⟨rfl, hr5, hf5⟩
       have hwb5 : WB w0 O b p' O' w5 := HJ.out.wb.keep hf5 fun x hx => by
        simp only [List.mem_singleton] at hx
        subst hx
        exact ⟨HJ.out.h.off x rfl, (HJ.out.h.row.lt x rfl).1⟩
       have HR5' := Lib.hid hr5
       have HW5 := Lib.hid hwb5
       have hrl := rise_len hd
       clear hr5 hf5 hwb5 HSORT
       go_wp2_with fail
       go_loopw [13, 70] (fun m i wx => ∃ (q mm : Nat) (p2 : PW) (O2 : List Nat), q ≤ hd.length ∧ i = .int .i64 (q : Int) ∧ m = .int .i64 (mm : Int) ∧ mm ≤ q ∧ WB w0 O b p2 O2 wx ∧ NRow w0.heap.size O2 (.slice (some ⟨gs, 0, none⟩) hd.length ch2) (rise hd) wx ∧ synN (rise hd) 0 p' = synN ((rise hd).drop q) mm p2) (fun _ i _ => hd.length - (intOf i).toNat)
       case atStart => exact ⟨0, 0, p', O', by omega, rfl, rfl, by omega, HW5.out, HR5'.out, rfl⟩
       case round =>
        obtain ⟨q, mm, p2, O2, hq, rfl, rfl, hmm, hwx, hrx, hsy⟩ := hrel
        have d1 := (World.cell?_of_block (a := ⟨w.heap.size, 0, none⟩) (hwx.fr.block _ hbl hbO)).trans c0
        by_cases hlt : q < hd.length
        ·have hlt2 : (q : Int) < (hd.length : Int) := by omega
         obtain ⟨g, hg, r2⟩ := hrx.at_ (q := q) (by omega)
         cases hg
         rw [List.drop_eq_getElem_cons (by omega), synN] at hsy
         generalize (rise hd)[q] = t at *
         have HSY := Lib.hid (fun W hE => synB_any (hwx.ext (w' := W) hE).at_ t)
         generalize synE1 p2 t = er at *
         generalize synP1 p2 t = p3 at *
         have HWX := Lib.hid hwx
         have HRX := Lib.hid hrx
         have HSN := Lib.hid hsy
         clear hwx hrx hsy
         go_wp2_with (go_at_call 40; with_reducible refine (HSY.out _ (Stab.Ext.refl _)).mono ?_)
         intro e w6 hq6
         obtain ⟨O3, hw6, hf6, hk6⟩ := HWX.out.next hq6
         have HR6 := Lib.hid (HRX.out.next hf6 hk6)
         have HW6 := Lib.hid hw6
         obtain ⟨rfl, -⟩ := hq6
         clear hw6 hf6 hk6
         by_cases h0 : er = 0
         ·subst h0
          have HP := Lib.hid (HSN.out.trans (if_pos rfl))
          clear HSN
          go_wp2_with fail
          go_roundw
          case rel => exact ⟨q + 1, mm + 1, p3, O3, by omega, by go_num, by go_num, by omega, HW6.out, HR6.out, HP.out⟩
          case measure => simp [intOf]; omega
         ·by_cases h5 : er = 56
          ·subst h5
           have hp := HSN.out.trans ((if_neg h0).trans (if_pos rfl))
           have hr := Lib.hid (show spreadR l p k = (56, p3) from HR5.out.trans ((if_pos (by rw [hp]; simp)).trans (by rw [hp])))
           clear HSN
           go_wp2_with fail
           go_ret
           exact HK.out _ _ ⟨O3, by rw [hr.out]; rfl, by rw [hr.out]; exact HW6.out⟩
          ·have HP := Lib.hid (HSN.out.trans ((if_neg h0).trans (if_neg h5)))
           clear HSN
           go_wp2_with fail
           go_roundw
           case rel => exact ⟨q + 1, mm, p3, O3, by omega, by go_num, rfl, by omega, HW6.out, HR6.out, HP.out⟩
           case measure => simp [intOf]; omega
        ·have hqe : q = hd.length := by omega
         subst hqe
         rw [← hrl, List.drop_length, synN] at hsy
         rw [hsy] at HR5
         have HR6 := Lib.hid (HR5.out.trans (if_neg (by simp)))
         simp only at HR6
         have HWX := Lib.hid hwx
         have d0 : ¬ ((hd.length : Nat) : Int) < ((hd.length : Nat) : Int) := by omega
         clear hwx hrx hsy HR5
         by_cases hk5 : mm < k
         ·have hk6 : (mm : Int) < (k : Int) := by omega
          have hr := Lib.hid (show spreadR l p k = (53, p2) from HR6.out.trans (if_pos hk5))
          go_wp2_with fail
          go_ret
          exact HK.out _ _ ⟨O2, by rw [hr.out]; rfl, by rw [hr.out]; exact HWX.out⟩
         ·have hk6 : ¬ (mm : Int) < (k : Int) := by omega
          have hr := Lib.hid (show spreadR l p k = (0, p2) from HR6.out.trans (if_neg hk5))
          go_wp2_with fail
          go_ret
          exact HK.out _ _ ⟨O2, by rw [hr.out]; rfl, by rw [hr.out]; exact HWX.out⟩
end Str
end Go.Proofs.YtnbkhdbligjifaaGreatDoor
namespace Go.Proofs.YtnbkhdbligjifaaGreatDoor
open Go Go.RowKit Vm
namespace Str
open Hlt
theorem obAt_objs {k n : Nat} {d s : ByteArray} {i : Nat} (h : i < n) : obAt (objsOf k n d s n) i = (nmB d i, datB k n d.data.toList s i) := by
 rw [obAt, List.getD, objsOf_get h, Option.getD_some]
theorem obAt_small {k n : Nat} {d s : ByteArray} (hk : 0 < k) (hk2 : k ≤ 12) (hn : n ≤ 12) (hd : d.size = 32) (hs : s.size ≤ 32768) (i : Nat) : (obAt (objsOf k n d s n) i).1.size ≤ 1000000 ∧ (obAt (objsOf k n d s n) i).2.size ≤ 1000000 := by
 by_cases h : i < n
 ·rw [obAt_objs h]
  have h1 := nmB_size d hd i (by omega)
  have h2 := datB_size (k := k) (n := n) (d := d.data.toList) (s := s) (i := i) hk hk2 (by simpa using hd) hs
  exact ⟨by show (nmB d i).size ≤ _; omega, by show (datB k n d.data.toList s i).size ≤ _; omega⟩
 ·rw [obAt, List.getD, List.getElem?_eq_none (by rw [objsOf_len]; omega), Option.getD_none]
  exact ⟨Nat.zero_le _, Nat.zero_le _⟩
def writeR (p : PW) (k n : Nat) (s : ByteArray) : Int × PW := spreadR (objsOf k n (dgB s) s n) p k
def WrPost (w : World) (O : List Nat) (b : Nat) (p : PW) (k n : Nat) (s : ByteArray) (e : Ending) (w' : World) : Prop :=
 ∃ O', e = .returned (.tuple #[.string (if (writeR p k n s).1 = 0 then dgB s else ⟨#[]⟩), .int .i64 (writeR p k n s).1]) ∧ WB w O b (writeR p k n s).2 O' w'
theorem write_any {G : Nat} (hnew : ∀ w : World, G ≤ w.heap.size → Calls Tryz.prog 139 #[] w (Spr.NewPost w)) {w : World} (hG : G ≤ w.heap.size) (hv : Shd.Vars w) {b : Nat} {p : PW} {O : List Nat} (h : WAt w b p O)
 (k n : Nat) (hk : Shd.codeB (k : Int) (n : Int) = true) (hn : p.n = n) (s : ByteArray) (hs : s.size ≤ 32768) {L M : Nat} (hb : ∀ i, Bnd L M (p.st i)) (hL : L + 12 ≤ 10000) (hM : M + 12 ≤ 1000000) :
 Calls Tryz.prog 27 #[.pointer (some ⟨b, 0, none⟩), .agg #[.int .i64 (k : Int), .int .i64 (n : Int)], .string s] w (WrPost w O b p k n s) := by
 obtain ⟨h1, h2, h3⟩ := (Shd.codeB_iff _ _).1 hk
 have hE0 := Stab.Ext.alloc w (.cells #[.int .i64 (k : Int), .int .i64 (n : Int)] 25)
 have bx := Blk.new w 25 #[.int .i64 (k : Int), .int .i64 (n : Int)]
 have c0 := bx.cell 0
 have c1 := bx.cell 1
 simp only [List.getElem?_toArray, List.getElem?_cons_zero, List.getElem?_cons_succ] at c0 c1
 have h0 : WAt (w.alloc (.cells #[.int .i64 (k : Int), .int .i64 (n : Int)] 25)) b p O := h.keep (Fr.of_below (O := []) hE0) (by simp)
 have hfit : fitsE p (k : Int) (n : Int) = 0 := fitsE_ok.2 ⟨hk, by omega⟩
 have hF := fits_any h0 (k : Int) (n : Int)
 rw [hfit] at hF
 have HF := Lib.hid hF
 have HE0 := Lib.hid hE0
 have H := Lib.hid h
 have HNEW := Lib.hid hnew
 have HG := Lib.hid hG
 have HV := Lib.hid hv
 have HB := Lib.hid hb
 have HK := Lib.hid hk
 clear h h0 hF hfit hE0 bx hnew hv hb hk hG
 go_enter Tryz.func27, Tryz.ntmps27
 generalize hw0 : w.alloc (.cells #[.int .i64 (k : Int), .int .i64 (n : Int)] 25) = w0 at *
 go_wp2_with (go_at_call 57; with_reducible refine HF.out.mono ?_)
 rintro e w1 ⟨rfl, hb1⟩
 have hE1 : Stab.Ext w0 w1 := hb1
 have d0 := hE1.cell c0
 have d1 := hE1.cell c1
 have hE := HE0.out.trans hE1
 have HOB := Lib.hid (objects_any HNEW.out (Nat.le_trans HG.out hE.size) (HV.out.below hE) k n HK.out s hs)
 have HE1 := Lib.hid hE
 clear hb1 hE1 hE
 go_wp2_with (go_at_call 58; with_reducible refine HOB.out.mono ?_)
 rintro e w2 ⟨v, rfl, hob, hb2⟩
 have hE2 : Stab.Ext w1 w2 := hb2
 have e0 := hE2.cell d0
 have e1 := hE2.cell d1
 have hE := HE1.out.trans hE2
 have hol := objsOf_len k n (dgB s) s n
 have hlt := H.out.lt
 have HSP := Lib.hid (spread_any (H.out.keep (Fr.of_below (O := []) hE) (by simp)) hob (fun g hg hm => by
  have := hlt g hm
  have := (OwnG.lt hob g hg).1
  have := HE1.out.size
  omega) (by omega) (obAt_small (by omega) (by omega) (by omega) (dgB_size s) hs) HB.out (by omega) (by omega) k n (by omega) (by omega))
 have HE2 := Lib.hid hE
 obtain ⟨A, cap, hvs⟩ := OwnG.shape hob
 subst hvs
 clear hb2 hE2 hE hob hlt hol
 go_wp2_with (go_at_call 59; with_reducible refine HSP.out.mono ?_)
 rintro e w3 ⟨O3, rfl, hwb⟩
 have HW := Lib.hid (show WB w O b (writeR p k n s).2 O3 w3 from hwb.front HE2.out)
 have HR := Lib.hid (show (spreadR (objsOf k n (dgB s) s n) p k).1 = (writeR p k n s).1 from rfl)
 rw [HR.out]
 clear hwb HSP HOB
 by_cases hr : (writeR p k n s).1 = 0
 ·have HP := Lib.hid (show ∀ e w', e = .returned (.tuple #[.string (dgB s), .int .i64 0]) → WB w O b (writeR p k n s).2 O3 w' → WrPost w O b p k n s e w' from fun e w' he hw => ⟨O3, by rw [hr, if_pos rfl]; exact he, hw⟩)
  rw [hr]
  clear hr HR
  go_wp2_with fail
  go_ret2
  exact HP.out _ _ rfl HW.out
 ·have HP := Lib.hid (show ∀ e w', e = .returned (.tuple #[.string ⟨#[]⟩, .int .i64 (writeR p k n s).1]) → WB w O b (writeR p k n s).2 O3 w' → WrPost w O b p k n s e w' from fun e w' he hw => ⟨O3, by rw [if_neg hr]; exact he, hw⟩)
  obtain ⟨er, her⟩ : ∃ er, er = (writeR p k n s).1 := ⟨_, rfl⟩
  rw [← her] at HP hr ⊢
  clear HR her
  go_wp2_with fail
  go_ret2
  exact HP.out _ _ rfl HW.out
theorem write_bad {w : World} {b : Nat} {p : PW} {O : List Nat} (h : WAt w b p O) (k n : Int) (hf : fitsE p k n ≠ 0) (s : ByteArray) :
 Calls Tryz.prog 27 #[.pointer (some ⟨b, 0, none⟩), .agg #[.int .i64 k, .int .i64 n], .string s] w fun e w' => e = .returned (.tuple #[.string ⟨#[]⟩, .int .i64 1]) ∧ Below w.heap.size w w' := by
 have hE0 := Stab.Ext.alloc w (.cells #[.int .i64 k, .int .i64 n] 25)
 have bx := Blk.new w 25 #[.int .i64 k, .int .i64 n]
 have c0 := bx.cell 0
 have c1 := bx.cell 1
 simp only [List.getElem?_toArray, List.getElem?_cons_zero, List.getElem?_cons_succ] at c0 c1
 have hfit : fitsE p k n = 1 := by unfold fitsE at hf ⊢; split <;> simp_all
 have hF := fits_any (h.keep (Fr.of_below (O := []) hE0) (by simp)) k n
 rw [hfit] at hF
 have HF := Lib.hid hF
 have HE0 := Lib.hid hE0
 clear h hF hfit hE0 bx hf
 go_enter Tryz.func27, Tryz.ntmps27
 generalize hw0 : w.alloc (.cells #[.int .i64 k, .int .i64 n] 25) = w0 at *
 go_wp2_with (go_at_call 57; with_reducible refine HF.out.mono ?_)
 rintro e w1 ⟨rfl, hb1⟩
 have HE1 := Lib.hid (HE0.out.trans (show Stab.Ext w0 w1 from hb1))
 clear hb1
 go_wp2_with fail
 go_ret2
 exact ⟨rfl, HE1.out⟩
end Str
end Go.Proofs.YtnbkhdbligjifaaGreatDoor
