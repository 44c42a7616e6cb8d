/-
 A range over a function, where the round may use that what it is handed comes next ('ok pre x'): the iterator's contract 'SeqOk', and the law for the caller. No program is named. The health package: which, the iterator over what was got; Of. The code package: may a code be, a shard's size.
-/
import Derived.RangeFuncNested
import Derived.RangeFuncBound
import Derived.RangeFuncCalls
import Derived.RangeFuncLeaves
import Derived.RangeFuncBox
import Derived.Shelf.Abstract
import Derived.Shelf.RegionOpen
import Derived.WalkKit
import Derived.OwnWalkIn
import Derived.TacticsInMore
import Derived.LoopNIn
import Derived.LoopIn
import Derived.Maps.AppendAt
import Derived.Test.YtnbkhdbligjifaaGreatDoorHltB
import Derived.Test.YtnbkhdbligjifaaGreatDoorWldB
import Derived.WalkLawsBesides
import Derived.WalkSpells
import Derived.Lib.Hide
import Derived.Handy
set_option linter.unusedVariables false
set_option linter.unusedSimpArgs false
set_option maxRecDepth 100000
set_option maxHeartbeats 40000000
namespace Go.Proofs.YtnbkhdbligjifaaGreatDoor
open Go.RowKit Go.Shelf
def SeqOk {α : Type} (n : Nat) (P : Program) (g : Nat) (lb : Array Value) (encs : α → Array Value) (Kp : World → World → Prop) (S Sp : List α → Prop) (ok : List α → α → Prop) (w : World) : Prop :=
 ∀ (l : Nat) (J Jx : List α → World → Prop) (W : World), Below w.heap.size w W → AbidesFrom W.heap.size J → AbidesFrom W.heap.size Jx →
  (∀ pre x W1, J pre W1 → ok pre x → YieldAt Fence.wide (n - 1) P l (encs x) W1 fun e W' =>
   (e = .returned (.bool true) ∧ J (pre ++ [x]) W' ∧ Kp W1 W') ∨ (e = .returned (.bool false) ∧ Jx (pre ++ [x]) W')) →
  J [] W →
  CallsIn Fence.wide n P g (#[.func (.yield l) #[] #[]] ++ lb) W fun e W' => (∃ v, e = .returned v) ∧ ((∃ xs, S xs ∧ J xs W') ∨ (∃ pre, Sp pre ∧ Jx pre W'))
def recOf (fn : FuncId) (a : Act) (ps : Array Tmp) (assign body : Code) (D : Nat) (st : LoopState) (pend : Option Code) : Loop :=
 { state := st, pending := pend, fn, tmps := a.tmps, params := ps, assign, body, defers := D }
variable {n : Nat} {P : Program}
theorem round_end {fn : FuncId} {a : Act} {ps : Array Tmp} {assign body : Code} {w W W3 : World} (jump : Option Code)
 (hl : W.heap[w.heap.size + 1]? = some (.loop (recOf fn a ps assign body w.heap.size .ready none))) (hk : W.heap[w.heap.size]? = some (.deferred (some [])))
 (hk3 : KeepsFrom w.heap.size (W.putObj (w.heap.size + 1) (.loop { recOf fn a ps assign body w.heap.size .ready none with state := .busy })) W3) :
 (Instr.endRound (w.heap.size + 1) jump).run P W3 = .ok (.bool jump.isNone) (W3.putObj (w.heap.size + 1) (.loop (recOf fn a ps assign body w.heap.size (if jump.isNone then .ready else .done) jump))) ∧
 W3.heap[w.heap.size + 1]? = some (.loop { recOf fn a ps assign body w.heap.size .ready none with state := .busy }) ∧
 (W3.putObj (w.heap.size + 1) (.loop (recOf fn a ps assign body w.heap.size (if jump.isNone then .ready else .done) jump))).heap[w.heap.size + 1]? = some (.loop (recOf fn a ps assign body w.heap.size (if jump.isNone then .ready else .done) jump)) ∧
 (W3.putObj (w.heap.size + 1) (.loop (recOf fn a ps assign body w.heap.size (if jump.isNone then .ready else .done) jump))).heap[w.heap.size]? = some (.deferred (some [])) := by
 have hlt : w.heap.size + 1 < W.heap.size := (Array.getElem?_eq_some_iff.1 hl).1
 have hl2 : (W.putObj (w.heap.size + 1) (.loop { recOf fn a ps assign body w.heap.size .ready none with state := .busy })).heap[w.heap.size + 1]? = some (.loop { recOf fn a ps assign body w.heap.size .ready none with state := .busy }) := World.putObj_heap_same hlt
 have hk2 : (W.putObj (w.heap.size + 1) (.loop { recOf fn a ps assign body w.heap.size .ready none with state := .busy })).heap[w.heap.size]? = some (.deferred (some [])) := (World.putObj_heap_other (by omega)).trans hk
 have hl3 := hk3.same _ _ (by omega) hl2 rfl
 have hr := run_endRound (P := P) jump hl3
 refine ⟨?_, hl3, World.putObj_heap_same (Array.getElem?_eq_some_iff.1 hl3).1, (World.putObj_heap_other (by omega)).trans (hk3.same _ _ (Nat.le_refl _) hk2 rfl)⟩
 simpa [recOf] using hr
theorem range_ok {α : Type} {g : Operand} {ps : Array Tmp} {assign body : Code} {Q : Exit → Act → World → Prop} {a : Act} {w : World}
 (h1 : 1 ≤ n) {gf : Nat} {lb : Array Value} (hg : a.eval g = .func (.func gf) #[] lb) (eg : ∀ args w, (callFunc gf args).run P w = .ok (.enter gf args) w)
 {encs : α → Array Value} {Kp : World → World → Prop} {S Sp : List α → Prop} {ok : List α → α → Prop} {w0 : World} (hseq : SeqOk (n - 1) P gf lb encs Kp S Sp ok w0)
 (hKt : ∀ {A B C : World}, Kp A B → Kp B C → Kp A C) (hKb : ∀ (W : World) (l : Nat) (o o' : Obj), w.heap.size ≤ l → W.heap[l]? = some o → o.isCells = false → o.isWalk = false → Kp W (W.putObj l o')) (hb0 : Below w0.heap.size w0 w) (hps : ∀ x, (encs x).size = ps.size)
 (I : List α → World → Prop) (Ix : Code → List α → World → Prop) (hI : OwnFrom w.heap.size I) (hIx : ∀ c, OwnFrom w.heap.size (Ix c)) (h0 : I [] w) (a₁ : α → Act)
 (hassign : ∀ (l : Nat) (x : α) (W : World) (K : Act → World → Prop), K (a₁ x) W →
  assign.wpIn (Fence.wide.inRound l) (n - 1 - 1) P (Exit.then K (fun _ _ _ => False)) { tmps := (ps.zip (encs x)).foldl (fun t (p, v) => t.setIfInBounds p v) a.tmps, defers := [] } W)
 (hbody : ∀ (l : Nat) (pre : List α) (x : α) (W : World), I pre W → ok pre x → body.wpIn (Fence.wide.inRound l) (n - 1 - 1) P (ownPostG w.heap.size Kp I Ix (pre ++ [x]) W) (a₁ x) W)
 (hdone : ∀ (D : Nat) (xs : List α) (W : World), w.heap.size ≤ D → S xs → I xs W → W.heap[D]? = some (.deferred (some [])) → Q .normal { a with defers := { target := .collected D, args := #[] } :: a.defers } W)
 (hstop : ∀ (D : Nat) (c : Code) (pre : List α) (W : World), w.heap.size ≤ D → Sp pre → Ix c pre W → W.heap[D]? = some (.deferred (some [])) → c.wpIn Fence.wide n P Q { a with defers := { target := .collected D, args := #[] } :: a.defers } W) :
 (Code.rangeFunc g ps assign body).wpIn Fence.wide n P Q a w := by
 refine wpIn_rangeFunc ?_
 intro fn hfn
 obtain ⟨W1, hW1⟩ : ∃ W1, (w.alloc (.deferred (some []))).alloc (.loop (recOf fn a ps assign body w.heap.size .ready none)) = W1 := ⟨_, rfl⟩
 have hL1 : W1.heap[w.heap.size + 1]? = some (.loop (recOf fn a ps assign body w.heap.size .ready none)) := by
  rw [← hW1]; have := World.alloc_heap_new (w.alloc (.deferred (some []))) (.loop (recOf fn a ps assign body w.heap.size .ready none)); rwa [World.size_alloc] at this
 have hK1 : W1.heap[w.heap.size]? = some (.deferred (some [])) := by
  rw [← hW1]; exact (Below.heap_alloc _ _ _ (by simp)).trans (World.alloc_heap_new w _)
 have hI1 : I [] W1 := by rw [← hW1]; exact hI.alloc _ (hI.alloc _ h0)
 have hb1 : Below w0.heap.size w0 W1 := by
  rw [← hW1]; exact hb0.trans ((((Below.refl _ w).alloc (Nat.le_refl _) _).alloc (by simp) _).mono hb0.size)
 have hs1 : W1.heap.size = w.heap.size + 2 := by rw [← hW1]; simp
 refine ⟨w.heap.size + 1, [{ target := .collected w.heap.size, args := #[] }], W1, { target := .fn (.func gf) lb, args := #[.func (.yield (w.heap.size + 1)) #[] #[]] }, W1, gf,
  #[.func (.yield (w.heap.size + 1)) #[] #[]] ++ lb, W1, ?_, ?_, ?_, ?_, fun _ => h1, ?_⟩
 ·rw [← hW1]; exact run_enterLoop_outer _ _ _ _ _
 ·simp only [resolve, hg]
  simp [go_sem]
 ·intro f' hf'; trivial
 ·simp [invoke, go_sem, eg]
 ·have hnw : ∀ {A : World} {row : Option Nat}, (∀ r, row = some r → W1.heap.size ≤ r ∧ ∃ o : Obj, A.heap[r]? = some o ∧ o.isWalk = true) → (∀ r, row = some r → w.heap.size ≤ r ∧ ∃ o : Obj, A.heap[r]? = some o ∧ o.isCells = false) :=
   fun hr r e => by obtain ⟨hB, o, ho, hw⟩ := hr r e; exact ⟨by omega, o, ho, Obj.not_cells_of_walk hw⟩
  refine (hseq (w.heap.size + 1)
   (fun pre W => I pre W ∧ W.heap[w.heap.size + 1]? = some (.loop (recOf fn a ps assign body w.heap.size .ready none)) ∧ W.heap[w.heap.size]? = some (.deferred (some [])))
   (fun pre W => ∃ c, Ix c pre W ∧ W.heap[w.heap.size + 1]? = some (.loop (recOf fn a ps assign body w.heap.size .done (some c))) ∧ W.heap[w.heap.size]? = some (.deferred (some [])))
   W1 hb1
   (fun s A B row hs hg' hr => ⟨hI s A B row hs.1 hg' (hnw hr), (grownBy_keeps hg' (fun r e => (hr r e).2) hs.2.1 rfl).trans hs.2.1, (grownBy_keeps hg' (fun r e => (hr r e).2) hs.2.2 rfl).trans hs.2.2⟩)
   (fun s A B row hs hg' hr => by
    obtain ⟨c, hc, hl, hk⟩ := hs
    exact ⟨c, hIx c s A B row hc hg' (hnw hr), (grownBy_keeps hg' (fun r e => (hr r e).2) hl rfl).trans hl, (grownBy_keeps hg' (fun r e => (hr r e).2) hk rfl).trans hk⟩)
   ?_ ⟨hI1, hL1, hK1⟩).mono ?_
  ·rintro pre x W ⟨hi, hl, hk⟩ hx
   have hy := run_yield (P := P) (args := encs x) hl (hps x)
   refine ⟨fn, _, assign, body, hy, roundIn_of_wpIn hfn (hassign _ x W _ ⟨_, run_beginRound hl rfl, ?_⟩)⟩
   have hw2 : Kp W (W.putObj (w.heap.size + 1) (.loop { recOf fn a ps assign body w.heap.size .ready none with state := .busy })) := hKb _ _ _ _ (by omega) hl rfl rfl
   refine wpIn_mono (hbody _ pre x _ (hI.putObj _ hi (by omega) hl rfl) hx) ?_
   rintro e a3 W3 hp
   cases e with
   | normal =>
     obtain ⟨hk3, hkp3, hi3⟩ := hp
     obtain ⟨hr, hl3, hl4, hk4⟩ := round_end (P := P) none hl hk hk3
     exact ⟨_, _, hr, .inl ⟨rfl, ⟨hI.putObj _ hi3 (by omega) hl3 rfl, hl4, hk4⟩, hKt (hKt hw2 hkp3) (hKb _ _ _ _ (by omega) hl3 rfl rfl)⟩⟩
   | ret =>
     obtain ⟨hk3, hi3⟩ := hp
     obtain ⟨hr, hl3, hl4, hk4⟩ := round_end (P := P) (some .ret) hl hk hk3
     exact ⟨_, _, hr, .inr ⟨rfl, .ret, (hIx _).putObj _ hi3 (by omega) hl3 rfl, hl4, hk4⟩⟩
   | exit id =>
     obtain ⟨hk3, hi3⟩ := hp
     obtain ⟨hr, hl3, hl4, hk4⟩ := round_end (P := P) (some (.exit id)) hl hk hk3
     exact ⟨_, _, hr, .inr ⟨rfl, .exit id, (hIx _).putObj _ hi3 (by omega) hl3 rfl, hl4, hk4⟩⟩
   | goto t =>
     obtain ⟨hk3, hi3⟩ := hp
     obtain ⟨hr, hl3, hl4, hk4⟩ := round_end (P := P) (some (.goto t)) hl hk hk3
     exact ⟨_, _, hr, .inr ⟨rfl, .goto t, (hIx _).putObj _ hi3 (by omega) hl3 rfl, hl4, hk4⟩⟩
   | panic ch => exact hp.elim
   | outgrown => exact hp.elim
  ·rintro e W2 ⟨⟨v, rfl⟩, (⟨xs, hS, hi, hl, hk⟩ | ⟨pre, hSp, c, hi, hl, hk⟩)⟩
   ·have hr := run_endLoop (P := P) hl (by simp [recOf])
    exact ⟨none, _, hr, hdone _ xs _ (Nat.le_refl _) hS (hI.putObj _ hi (by omega) hl rfl) ((World.putObj_heap_other (by omega)).trans hk)⟩
   ·have hr := run_endLoop (P := P) hl (by simp [recOf])
    exact ⟨some c, _, hr, hstop _ c pre _ (Nat.le_refl _) hSp ((hIx c).putObj _ hi (by omega) hl rfl) ((World.putObj_heap_other (by omega)).trans hk)⟩
end Go.Proofs.YtnbkhdbligjifaaGreatDoor
namespace Go.Proofs.YtnbkhdbligjifaaGreatDoor
open Go Go.RowKit Go.Shelf Vm
namespace Hlt
attribute [local go_sem] Oper.semAt_some
def sel (s : Bool) : Nat → List Got → List (Nat × Got)
 | _, [] => []
 | i, g :: r => if g.sound = s then (i, g) :: sel s (i + 1) r else sel s (i + 1) r
def encG (x : Nat × Got) : Array Value := #[.int .i64 (x.1 : Nat), .agg #[.bool x.2.sound, .bool x.2.there, .string x.2.pay]]
theorem drop_got (l : List Got) (q : Nat) (h : q < l.length) : l.drop q = l[q] :: l.drop (q + 1) := List.drop_eq_getElem_cons h
theorem BlobIs.rowc {w : World} {B b : Nat} {k n : Int} {d : ByteArray} {gv : Value} {l : List Got} (h : BlobIs w B b k n d gv l) {q : Nat} (hq : q < l.length) :
 ∃ g cap, gv = .slice (some ⟨g, 0, none⟩) l.length cap ∧ w.cell? ⟨g, q * 3, none⟩ = some (.bool l[q].sound) ∧ w.cell? ⟨g, q * 3 + 1, none⟩ = some (.bool l[q].there) ∧ w.cell? ⟨g, q * 3 + 2, none⟩ = some (.string l[q].pay) := by
 rcases h.row.2 with ⟨_, h0⟩ | ⟨g, cap, cur, rfl, _, hg, hn, _, hs, ht⟩
 ·omega
 ·have hb : Blk w g 100 cur := hg
  obtain ⟨o1, o2, o3⟩ := gotsV_get l q l[q] (List.getElem?_eq_getElem hq)
  refine ⟨g, cap, rfl, ?_, ?_, ?_⟩
  ·rw [hb.cell, ← Array.getElem?_toList, ← o1, ← ht, List.getElem?_take_of_lt (by omega)]
  ·rw [hb.cell, ← Array.getElem?_toList, ← o2, ← ht, List.getElem?_take_of_lt (by omega)]
  ·rw [hb.cell, ← Array.getElem?_toList, ← o3, ← ht, List.getElem?_take_of_lt (by omega)]
structure Wch (bb bs B b : Nat) (k n : Int) (d : ByteArray) (gv : Value) (l : List Got) (s : Bool) (W : World) : Prop where
 bb_ : Blk W bb 88 #[.pointer (some ⟨B, 0, none⟩)]
 bs_ : Blk W bs 4 #[.bool s]
 blob : BlobIs W B b k n d gv l
def wchO (bb bs B : Nat) (gv : Value) : List Nat := bb :: bs :: bOwn B gv
theorem Wch.keep {bb bs B b : Nat} {k n : Int} {d : ByteArray} {gv : Value} {l : List Got} {s : Bool} {W W' : World} (h : Wch bb bs B b k n d gv l s W) (hk : ∀ x, x ∈ wchO bb bs B gv → W'.heap[x]? = W.heap[x]?) : Wch bb bs B b k n d gv l s W' where
 bb_ := (hk bb (by simp [wchO])).trans h.bb_
 bs_ := (hk bs (by simp [wchO])).trans h.bs_
 blob := ⟨(hk B (by simp [wchO, bOwn])).trans h.blob.blk, row_heap h.blob.row fun g hg => hk g (by simp [wchO, bOwn, hg]), h.blob.ne⟩
theorem Wch.lt {bb bs B b : Nat} {k n : Int} {d : ByteArray} {gv : Value} {l : List Got} {s : Bool} {W : World} (h : Wch bb bs B b k n d gv l s W) : ∀ x, x ∈ wchO bb bs B gv → x < W.heap.size := by
 intro x hx
 simp only [wchO, List.mem_cons] at hx
 rcases hx with rfl | rfl | hx
 ·exact h.bb_.lt
 ·exact h.bs_.lt
 ·exact h.blob.lt x hx
theorem Wch.ext {bb bs B b : Nat} {k n : Int} {d : ByteArray} {gv : Value} {l : List Got} {s : Bool} {W W' : World} (h : Wch bb bs B b k n d gv l s W) (hE : Stab.Ext W W') : Wch bb bs B b k n d gv l s W' :=
 h.keep fun x hx => hE.block x (h.lt x hx)
theorem which1_in (m : Nat) (hm : 2 ≤ m) (lp : Nat) {bb bs B b : Nat} {k n : Int} {d : ByteArray} {gv : Value} {l : List Got} {s : Bool} (hll : l.length ≤ 1000) (Kp : World → World → Prop) (hKp : ∀ W W', Kp W W' → ∀ x, x ∈ wchO bb bs B gv → W'.heap[x]? = W.heap[x]?)
 (J Jx : List (Nat × Got) → World → Prop) (hJ : ∀ pre W W', J pre W → Stab.Ext W W' → J pre W')
 (hY : ∀ pre x W, J pre W → pre ++ [x] <+: sel s 0 l → YieldAt Fence.wide (m - 1) Tryz.prog lp (encG x) W fun e W' =>
  (e = .returned (.bool true) ∧ J (pre ++ [x]) W' ∧ Kp W W') ∨ (e = .returned (.bool false) ∧ Jx (pre ++ [x]) W'))
 (W : World) (hW : Wch bb bs B b k n d gv l s W) (h0 : J [] W) :
 CallsIn Fence.wide m Tryz.prog 86 #[.func (.yield lp) #[] #[], .pointer (some ⟨bb, 0, none⟩), .pointer (some ⟨bs, 0, none⟩)] W fun e W' => (∃ v, e = .returned v) ∧
  ((∃ ys, ys = sel s 0 l ∧ J ys W') ∨ (∃ pre, pre <+: sel s 0 l ∧ Jx pre W')) := by
 have h1 : 1 ≤ m := by omega
 have hc0 := hW.bb_.cell 0
 have hc1 := hW.blob.blk.cell 4
 simp only [List.getElem?_toArray, List.getElem?_cons_zero, List.getElem?_cons_succ] at hc0 hc1
 obtain ⟨A, cap, hgv⟩ := row_shape hW.blob.row
 have HW := Lib.hid hW
 have HGV := Lib.hid hgv
 clear hW
 rw [hgv] at hc1
 refine callsIn_of_wp Tryz.func86 rfl trivial ?_ rfl
 simp only [Tryz.ntmps86, List.size_toArray, List.length_cons, List.length_nil, Nat.reduceAdd, Nat.reduceSub, Array.replicate_succ, Array.replicate_zero, List.push_toArray, List.append_toArray, List.nil_append, List.cons_append]
 gi_wp2
 gi_loopw [11] (fun i wr => ∃ (q : Nat) (pre : List (Nat × Got)), q ≤ l.length ∧ i = .int .i64 (q : Int) ∧ pre ++ sel s q (l.drop q) = sel s 0 l ∧ J pre wr ∧ Wch bb bs B b k n d gv l s wr) (fun i _ => l.length - (intOf i).toNat)
 case atStart => exact ⟨0, [], Nat.zero_le _, rfl, rfl, h0, HW.out⟩
 case round =>
  obtain ⟨q, pre, hq, rfl, hpre, hJr, hWr⟩ := hrel
  by_cases hlt : q < l.length
  ·have hlt2 : (q : Int) < (l.length : Int) := by omega
   obtain ⟨g, cap', hgv', r0, r1, r2⟩ := hWr.blob.rowc hlt
   obtain ⟨rfl, rfl⟩ : A = some ⟨g, 0, none⟩ ∧ cap = cap' := by rw [hgv] at hgv'; cases hgv'; exact ⟨rfl, rfl⟩
   have s1 := hWr.bs_.cell 0
   simp only [List.getElem?_toArray, List.getElem?_cons_zero] at s1
   rw [drop_got l q hlt, sel] at hpre
   have hx2 := Stab.Ext.alloc wr (.cells #[.bool l[q].sound, .bool l[q].there, .string l[q].pay] 100)
   have hJ2 := hJ _ _ _ hJr hx2
   have HW2 := Lib.hid (hWr.ext hx2)
   have hgl := lt_cell r0
   have hsl := lt_cell s1
   generalize hgq : l[q] = gq at *
   obtain ⟨gs, gt, gp⟩ := gq
   simp only at r0 r1 r2 hpre
   by_cases hs : gs = s
   ·subst hs
    rw [if_pos rfl] at hpre
    have hlen : pre ++ [(q, ⟨gs, gt, gp⟩)] <+: sel gs 0 l := ⟨_, by rw [← hpre, List.append_assoc]; rfl⟩
    obtain ⟨fn, tmps, assign, body, hy, hRd⟩ := hY pre (q, ⟨gs, gt, gp⟩) _ hJ2 hlen
    rw [show pre ++ (q, (⟨gs, gt, gp⟩ : Got)) :: sel gs (q + 1) (l.drop (q + 1)) = (pre ++ [(q, ⟨gs, gt, gp⟩)]) ++ sel gs (q + 1) (l.drop (q + 1)) by simp] at hpre
    have HP := Lib.hid hpre
    clear hpre hlen hY hJr hJ2 hWr hgv hgv' hc0 hc1 hgq
    simp only [encG] at hy
    gi_wp2_with fail
    refine hRd.mono ?_
    rintro e W3 (⟨rfl, hJ3, hk3⟩ | ⟨rfl, hJx3⟩)
    ·have HW3 := Lib.hid (HW2.out.keep (hKp _ _ hk3))
     clear hk3
     gi_wp2
     go_roundw
     case rel => exact ⟨q + 1, _, by omega, by go_num, HP.out, hJ3, HW3.out⟩
     case measure => simp [intOf]; omega
    ·gi_wp2
     refine bodyPost_ret (results_none rfl _ _ _) rfl ?_
     exact ⟨⟨_, rfl⟩, .inr ⟨_, ⟨_, HP.out⟩, hJx3⟩⟩
   ·rw [if_neg hs] at hpre
    have HP := Lib.hid hpre
    have hsb : (gs == s) = false := by simpa using hs
    clear hpre hY hJr hWr hgv hgv' hc0 hc1 hgq
    gi_wp2_with fail
    refine ⟨fun f hf => (by cases hf), ?_⟩
    gi_wp2_with fail
    go_roundw
    case rel => exact ⟨q + 1, _, by omega, by go_num, HP.out, hJ2, HW2.out⟩
    case measure => simp [intOf]; omega
  ·obtain rfl : q = l.length := by omega
   rw [List.drop_of_length_le (Nat.le_refl _), sel, List.append_nil] at hpre
   have d1 : ¬ ((l.length : Int) < (l.length : Int)) := by omega
   have HP := Lib.hid hpre
   clear hY hpre
   gi_wp2_with fail
   go_end0
   exact ⟨⟨_, rfl⟩, .inl (HP.out ▸ hJr)⟩
theorem which_seq (m : Nat) (hm : 2 ≤ m) {bb bs B b : Nat} {k n : Int} {d : ByteArray} {gv : Value} {l : List Got} {s : Bool} (hll : l.length ≤ 1000) (Kp : World → World → Prop) (hKp : ∀ W W', Kp W W' → ∀ x, x ∈ wchO bb bs B gv → W'.heap[x]? = W.heap[x]?)
 (w : World) (hw : Wch bb bs B b k n d gv l s w) :
 SeqOk m Tryz.prog 86 #[.pointer (some ⟨bb, 0, none⟩), .pointer (some ⟨bs, 0, none⟩)] encG Kp (fun ys => ys = sel s 0 l) (fun pre => pre <+: sel s 0 l) (fun pre x => pre ++ [x] <+: sel s 0 l) w :=
 fun lp J Jx W hW hA _ hY h0 => which1_in m hm lp hll Kp hKp J Jx (fun pre W1 W2 h1 hE => hA pre W1 W2 none h1 ⟨hE.os, hE.tape, hE.output, hE.size, fun k hk _ => hE.block k hk⟩ (fun r e => by cases e)) hY W (hw.keep fun x hx => hW.block x (hw.lt x hx)) h0
theorem which_any (B : Nat) (s : Bool) (w : World) :
 Calls Tryz.prog 46 #[.pointer (some ⟨B, 0, none⟩), .bool s] w fun e w' => e = .returned (.func (.func 86) #[] #[.pointer (some ⟨w.heap.size, 0, none⟩), .pointer (some ⟨w.heap.size + 1, 0, none⟩)]) ∧ (w.alloc (.cells #[.pointer (some ⟨B, 0, none⟩)] 88)).alloc (.cells #[.bool s] 4) = w' := by
 go_enter Tryz.func46, Tryz.ntmps46
 go_wp2_with fail
 go_ret
 exact ⟨rfl, rfl⟩
/-! ### Of -/
theorem info_bool : (Tryz.prog.info? 4).map (fun i => (i.zero, i.size, i.bytes)) = some (some (.bool false), 1, 1) := by kernel_rfl
def marksV (m : Nat) (pre : List (Nat × Got)) : Array Value := ((List.range m).map fun i => Value.bool (pre.any fun x => x.1 == i)).toArray
theorem marksV_size (m : Nat) (pre : List (Nat × Got)) : (marksV m pre).size = m := by simp [marksV]
theorem marksV_nil (m : Nat) : marksV m [] = Array.replicate m (.bool false) := by
 apply Array.ext_getElem?
 intro i
 by_cases h : i < m
 ·simp [marksV, h]
 ·simp [marksV, h]
theorem marksV_set (m : Nat) (pre : List (Nat × Got)) (x : Nat × Got) (hx : x.1 < m) : (marksV m pre).setIfInBounds x.1 (.bool true) = marksV m (pre ++ [x]) := by
 apply Array.ext_getElem?
 intro i
 rw [Array.getElem?_setIfInBounds]
 by_cases h : i < m
 ·by_cases hi : x.1 = i
  ·subst hi; simp [marksV, h]
  ·rw [if_neg hi]
   simp [marksV, h, hi]
 ·rw [if_neg (by omega)]
  simp [marksV, h]
theorem sel_mem (s : Bool) : ∀ (l : List Got) (i j : Nat) (g : Got), (j, g) ∈ sel s i l ↔ i ≤ j ∧ l[j - i]? = some g ∧ g.sound = s
 | [], i, j, g => by simp [sel]
 | a :: l, i, j, g => by
   have ih := sel_mem s l (i + 1) j g
   unfold sel
   by_cases ha : a.sound = s
   ·rw [if_pos ha]
    simp only [List.mem_cons, Prod.mk.injEq, ih]
    constructor
    ·rintro (⟨rfl, rfl⟩ | ⟨h1, h2, h3⟩)
     ·exact ⟨Nat.le_refl _, by simp, ha⟩
     ·exact ⟨by omega, by rw [show j - i = (j - (i + 1)) + 1 by omega, List.getElem?_cons_succ]; exact h2, h3⟩
    ·rintro ⟨h1, h2, h3⟩
     by_cases hj : j = i
     ·subst hj; simp at h2; exact .inl ⟨rfl, h2.symm⟩
     ·rw [show j - i = (j - (i + 1)) + 1 by omega, List.getElem?_cons_succ] at h2
      exact .inr ⟨by omega, h2, h3⟩
   ·rw [if_neg ha, ih]
    constructor
    ·rintro ⟨h1, h2, h3⟩
     exact ⟨by omega, by rw [show j - i = (j - (i + 1)) + 1 by omega, List.getElem?_cons_succ]; exact h2, h3⟩
    ·rintro ⟨h1, h2, h3⟩
     by_cases hj : j = i
     ·subst hj; simp at h2; subst h2; exact absurd h3 ha
     ·rw [show j - i = (j - (i + 1)) + 1 by omega, List.getElem?_cons_succ] at h2
      exact ⟨by omega, h2, h3⟩
theorem marks_all (l : List Got) : marksV l.length (sel true 0 l) = (l.map fun g => Value.bool g.sound).toArray := by
 apply Array.ext_getElem?
 intro i
 by_cases h : i < l.length
 ·have hg : l[i]? = some l[i] := List.getElem?_eq_getElem h
  simp only [marksV, List.getElem?_toArray, List.getElem?_map, List.getElem?_range h, Option.map_some, hg]
  congr 2
  cases hs : l[i].sound with
  | true => exact List.any_eq_true.2 ⟨(i, l[i]), (sel_mem true l 0 i l[i]).2 ⟨Nat.zero_le _, by simp, hs⟩, by simp⟩
  | false =>
    rw [List.any_eq_false]
    rintro ⟨j, g⟩ hm
    obtain ⟨_, h2, h3⟩ := (sel_mem true l 0 j g).1 hm
    intro hj
    simp only [beq_iff_eq] at hj
    subst hj
    rw [Nat.sub_zero, hg] at h2
    cases h2
    rw [hs] at h3
    cases h3
 ·simp [marksV, h]
def OfPost (w : World) (O : List Nat) (b : Nat) (p : PW) (k n : Nat) (d : ByteArray) (e : Ending) (w' : World) : Prop :=
 ∃ A O', e = .returned (.tuple #[.slice (some ⟨A, 0, none⟩) n n, .int .i64 0]) ∧ Blk w' A 4 ((lookL p d k n n).map fun g => Value.bool g.sound).toArray ∧ WB w O b (PW.adv p n) O' w' ∧ A ∉ O' ∧ w.heap.size ≤ A
theorem of_any {w : World} {b : Nat} {p : PW} {O : List Nat} (h : WAt w b p O) (hc : Calm p) (hO : Far O) (hv : Shd.Vars w) (k n : Nat) (hk : Shd.codeB (k : Int) (n : Int) = true) (hn : n = p.n) (d : ByteArray) (hd : d.size = 32) :
 Calls Tryz.prog 15 #[.pointer (some ⟨b, 0, none⟩), .agg #[.int .i64 (k : Int), .int .i64 (n : Int)], .string d] w (OfPost w O b p k n d) := by
 obtain ⟨h1, h2, h3⟩ := (Shd.codeB_iff _ _).1 hk
 have hE0 := Stab.Ext.alloc w (.cells #[.int .i64 (k : Int), .int .i64 (n : Int)] 25)
 have bx := Blk.new w 25 #[.int .i64 (k : Int), .int .i64 (n : Int)]
 have k0 := bx.cell 0
 have k1 := bx.cell 1
 have HLOOK := Lib.hid (look_any (h.keep (Fr.of_below (O := []) hE0) (by simp)) hc hO (hv.below hE0) k n hk hn d hd)
 have HE0 := Lib.hid hE0
 have HN := Lib.hid hn
 clear h hc hO hv hk bx hE0 hn
 refine (callsIn_wide (n := 5)).1 ?_
 have h15 : 1 ≤ 5 := by omega
 have hw32 : Fence.wide.fn 45 := trivial
 have hw33 : Fence.wide.fn 46 := trivial
 refine callsIn_of_wp_marks Tryz.func15 rfl trivial ?_ rfl
 simp only [Tryz.ntmps15, List.size_toArray, List.length_cons, List.length_nil, Nat.reduceAdd, Nat.reduceSub, Array.replicate_succ, Array.replicate_zero, List.push_toArray, List.append_toArray, List.nil_append, List.cons_append]
 gi_wp2_with (gi_at_call 45; refine (callsIn_wide.2 HLOOK.out).mono ?_)
 rintro e w1 ⟨B, gv, O1, rfl, hblob, hwb, hoff⟩
 have hlen := lookL_len p d k n n
 obtain ⟨A, cap, hgv⟩ := row_shape hblob.row
 rw [hlen] at hgv
 have c4 := hblob.blk.cell 4
 simp only [List.getElem?_toArray, List.getElem?_cons_zero, List.getElem?_cons_succ] at c4
 rw [hgv] at c4
 have HBLOB := Lib.hid hblob
 have HWB := Lib.hid (hwb.front HE0.out)
 have HOFF := Lib.hid hoff
 have HGV := Lib.hid hgv
 clear hblob hwb hoff hgv hlen
 have hmk := run_mk (P := Tryz.prog) (t := 36) (e := 4) (z := .bool false) (bytes := 1) Tryz.underlying36 info_bool rfl n (by omega) (by omega)
 have e1 := Stab.Ext.alloc w1 (.cells (Array.replicate n (.bool false)) 4)
 have e2 := Stab.Ext.alloc (w1.alloc (.cells (Array.replicate n (.bool false)) 4)) (.cells #[.slice (some ⟨w1.heap.size, 0, none⟩) n n] 36)
 have e3 := Stab.Ext.alloc ((w1.alloc (.cells (Array.replicate n (.bool false)) 4)).alloc (.cells #[.slice (some ⟨w1.heap.size, 0, none⟩) n n] 36)) (.cells #[.pointer (some ⟨B, 0, none⟩)] 88)
 have e4 := Stab.Ext.alloc (((w1.alloc (.cells (Array.replicate n (.bool false)) 4)).alloc (.cells #[.slice (some ⟨w1.heap.size, 0, none⟩) n n] 36)).alloc (.cells #[.pointer (some ⟨B, 0, none⟩)] 88)) (.cells #[.bool true] 4)
 have b1 := (((Blk.new w1 4 (Array.replicate n (.bool false))).alloc (.cells #[.slice (some ⟨w1.heap.size, 0, none⟩) n n] 36)).alloc (.cells #[.pointer (some ⟨B, 0, none⟩)] 88)).alloc (.cells #[.bool true] 4)
 have b2 := ((Blk.new (w1.alloc (.cells (Array.replicate n (.bool false)) 4)) 36 #[.slice (some ⟨w1.heap.size, 0, none⟩) n n]).alloc (.cells #[.pointer (some ⟨B, 0, none⟩)] 88)).alloc (.cells #[.bool true] 4)
 have b3 := (Blk.new ((w1.alloc (.cells (Array.replicate n (.bool false)) 4)).alloc (.cells #[.slice (some ⟨w1.heap.size, 0, none⟩) n n] 36)) 88 #[.pointer (some ⟨B, 0, none⟩)]).alloc (.cells #[.bool true] 4)
 have b4 := Blk.new (((w1.alloc (.cells (Array.replicate n (.bool false)) 4)).alloc (.cells #[.slice (some ⟨w1.heap.size, 0, none⟩) n n] 36)).alloc (.cells #[.pointer (some ⟨B, 0, none⟩)] 88)) 4 #[.bool true]
 have hE5 := ((e1.trans e2).trans e3).trans e4
 have hs5 : ((((w1.alloc (.cells (Array.replicate n (.bool false)) 4)).alloc (.cells #[.slice (some ⟨w1.heap.size, 0, none⟩) n n] 36)).alloc (.cells #[.pointer (some ⟨B, 0, none⟩)] 88)).alloc (.cells #[.bool true] 4)).heap.size = w1.heap.size + 4 := by simp
 simp only [World.size_alloc] at b2 b3 b4
 gi_wp2_with (gi_at_call 46; refine (callsIn_wide.2 (which_any _ _ _)).mono ?_; rintro e w9 ⟨rfl, rfl⟩)
 clear e1 e2 e3 e4 c4
 generalize ((((w1.alloc (.cells (Array.replicate n (.bool false)) 4)).alloc (.cells #[.slice (some ⟨w1.heap.size, 0, none⟩) n n] 36)).alloc (.cells #[.pointer (some ⟨B, 0, none⟩)] 88)).alloc (.cells #[.bool true] 4)) = w5 at *
 have q2 : w1.heap.size + 1 + 1 = w1.heap.size + 2 := rfl
 have q3 : w1.heap.size + 2 + 1 = w1.heap.size + 3 := rfl
 rw [q2] at *
 rw [q3] at *
 clear q2 q3
 have hlen := lookL_len p d k n n
 have hW5 : Wch (w1.heap.size + 2) (w1.heap.size + 3) B b k n d gv (lookL p d k n n) true w5 := ⟨b3, b4, HBLOB.out.keep (Fr.of_below (O := []) hE5) (by simp)⟩
 have hlow : ∀ x, x ∈ wchO (w1.heap.size + 2) (w1.heap.size + 3) B gv → x ≠ w1.heap.size ∧ x < w5.heap.size := fun x hx => by
  refine ⟨fun he => ?_, hW5.lt x hx⟩
  simp only [wchO, List.mem_cons] at hx
  rcases hx with h4 | h4 | h4
  ·omega
  ·omega
  ·have := HBLOB.out.lt x h4; omega
 refine range_ok h15 (gf := 86) (lb := #[.pointer (some ⟨w1.heap.size + 2, 0, none⟩), .pointer (some ⟨w1.heap.size + 3, 0, none⟩)]) rfl (enters_of Tryz.func86 (by kernel_rfl) rfl)
  (which_seq 4 (by omega) (by rw [hlen]; omega) (fun W W' => ∀ x, x < w5.heap.size → x ≠ w1.heap.size → W'.heap[x]? = W.heap[x]?) (fun W W' hK x hx => hK x (hlow x hx).2 (hlow x hx).1) w5 hW5)
  (fun hA hB x hx hn => (hB x hx hn).trans (hA x hx hn)) (fun W l o o' hl _ _ _ x hx _ => World.putObj_heap_other (by omega)) (Below.refl _ _) (fun _ => rfl)
  (fun pre W => Blk W w1.heap.size 4 (marksV n pre) ∧ Fr [w1.heap.size] w5 W)
  (fun _ _ _ => False)
  (fun pre A1 A2 row ⟨hb, hf⟩ hg hr => by
   have hne : some w1.heap.size ≠ row := fun he => by have := (hr _ he.symm).1; omega
   exact ⟨(hg.block _ hb.lt hne).trans hb, ⟨hg.os.trans hf.os, hg.tape.trans hf.tape, hg.output.trans hf.output, Nat.le_trans hf.size hg.size, fun x hx hxn => (hg.block x (Nat.lt_of_lt_of_le hx hf.size) (fun he => by have := (hr _ he.symm).1; omega)).trans (hf.block x hx hxn)⟩⟩)
  (fun _ _ _ _ _ hs _ _ => hs)
  ⟨by rw [marksV_nil]; exact b1, Fr.refl _ _⟩
  (fun x => { tmps := #[.pointer (some ⟨b, 0, none⟩), .agg #[.int .i64 (k : Int), .int .i64 (n : Int)], .string d, undef, .pointer (some ⟨w.heap.size, 0, none⟩), undef, .slice none 0 0, .int .i64 0, .pointer (some ⟨B, 0, none⟩), .int .i64 0, .pointer (some ⟨w1.heap.size + 1, 0, none⟩), .int .i64 (x.1 : Nat),
   .tuple #[.pointer (some ⟨B, 0, none⟩), .int .i64 0], .pointer (some ⟨b, 0, none⟩), .agg #[.int .i64 (k : Int), .int .i64 (n : Int)], .string d, .tuple #[.pointer (some ⟨B, 0, none⟩), .int .i64 0], .pointer (some ⟨B, 0, none⟩), .int .i64 0, .int .i64 0, .bool false, undef, .pointer (some ⟨B, 0, none⟩), .pointer (some ⟨B, 0, none⟩), .pointer (some ⟨B, 4, none⟩),
   .slice A n cap, .int .i64 (n : Int), .slice (some ⟨w1.heap.size, 0, none⟩) n n, .pointer (some ⟨B, 0, none⟩), .func (.func 86) #[] #[.pointer (some ⟨w1.heap.size + 2, 0, none⟩), .pointer (some ⟨w1.heap.size + 3, 0, none⟩)], .int .i64 (x.1 : Nat), .agg #[.bool x.2.sound, .bool x.2.there, .string x.2.pay], undef, undef, undef, undef], defers := [] }) ?assign ?body ?done ?stop
 case assign =>
  intro lp x W K hK
  simp only [encG]
  gi_wp2
  exact hK
 case body =>
  rintro lp pre x W ⟨hb, hf⟩ hpx
  have hx1 : x.1 < n := by
   have hm : x ∈ sel true 0 (lookL p d k n n) := hpx.subset (by simp)
   have h5 := ((sel_mem true _ 0 x.1 x.2).1 hm).2.1
   have := (List.getElem?_eq_some_iff.1 h5).1
   rw [hlen] at this
   omega
  have hx2 : (x.1 : Int) < (n : Int) := by omega
  have g0 : W.cell? ⟨w1.heap.size + 1, 0, none⟩ = some (.slice (some ⟨w1.heap.size, 0, none⟩) n n) := (World.cell?_of_block (hf.block _ b2.lt (by simp))).trans (b2.cell 0)
  have g1 : W.cell? ⟨w1.heap.size, x.1, none⟩ = (marksV n pre)[x.1]? := hb.cell x.1
  have g2 : ∃ u, (marksV n pre)[x.1]? = some u := ⟨_, Array.getElem?_eq_getElem (by rw [marksV_size]; exact hx1)⟩
  obtain ⟨u, hu⟩ := g2
  rw [hu] at g1
  have g3 := hb.frozen x.1
  have hset := hb.set_ x.1 (.bool true)
  rw [marksV_set n pre x hx1] at hset
  have HSET := Lib.hid hset
  have HF := Lib.hid (hf.trans (Fr.cell W ⟨w1.heap.size, x.1, none⟩ (.bool true)) (fun k hk _ => hk))
  clear hpx hset hb hf hu
  gi_wp2_with fail
  exact ⟨(KeepsOthers.setCell _ _ _).from _, fun z hz hzn => Below.heap_setCell _ _ _ _ (by simpa using hzn), HSET.out, HF.out⟩
 case done =>
  rintro D ys W hD rfl ⟨hb, hf⟩ hK
  have g0 : W.cell? ⟨w1.heap.size + 1, 0, none⟩ = some (.slice (some ⟨w1.heap.size, 0, none⟩) n n) := (World.cell?_of_block (hf.block _ b2.lt (by simp))).trans (b2.cell 0)
  have HB := Lib.hid hb
  have HF := Lib.hid hf
  clear hb hf
  gi_wp2
  refine ⟨by simp, .inl ⟨_, _, rfl, run_takeDeferred hK, ?_⟩⟩
  have hm := marks_all (lookL p d k n n)
  rw [hlen] at hm
  have hb2 := HB.out
  rw [hm] at hb2
  have hD : w5.heap.size ≤ D := hD
  have hf1 : Fr [] w1 W := (Fr.of_below (O := []) hE5).trans HF.out fun k hk hl => by simp only [List.mem_singleton] at hk; omega
  have hf2 : ∀ o, Fr [] w1 (W.putObj D o) := fun o => hf1.trans (O' := [D]) ⟨rfl, rfl, rfl, by simp [World.putObj], fun k hk hn => World.putObj_heap_other (by simpa using fun he : k = D => hn (by simp [he]))⟩ fun k hk hl => by simp only [List.mem_singleton] at hk; omega
  exact ⟨_, results_tmp2 rfl _ _ _, w1.heap.size, O1, rfl, (World.putObj_heap_other (by omega)).trans hb2, HWB.out.ext (hf2 _).below, fun hm => by have := HWB.out.lt _ hm; omega, HWB.out.fr.size⟩
 case stop =>
  rintro D c pre W _ _ h _
  exact h.elim
end Hlt
end Go.Proofs.YtnbkhdbligjifaaGreatDoor
namespace Go.Proofs.YtnbkhdbligjifaaGreatDoor
open Go Go.RowKit
namespace Cod
def codeB (k n : Int) : Bool := decide (1 ≤ k) && (decide (k ≤ n) && decide (n ≤ 12))
theorem codeB_iff (k n : Int) : codeB k n = true ↔ 1 ≤ k ∧ k ≤ n ∧ n ≤ 12 := by simp [codeB]
theorem mayCode_any (k n : Int) (w : World) :
 Calls Tryz.prog 87 #[.agg #[.int .i64 k, .int .i64 n]] w fun e w' => e = .returned (.bool (codeB k n)) ∧ Below w.heap.size w w' := by
 by_cases g0 : 1 ≤ k
 ·by_cases g1 : k ≤ n
  ·by_cases g2 : n ≤ 12
   ·have HE : Hid (codeB k n = true) := Lib.hid ((codeB_iff k n).2 (by omega))
    go_enter Tryz.func87, Tryz.ntmps87
    go_wp2_with fail
    go_ret
    exact ⟨by rw [HE.out]; rfl, (Below.refl _ _).alloc (Nat.le_refl _) _⟩
   ·have HE : Hid (codeB k n = false) := Lib.hid (Bool.eq_false_iff.2 fun h => by have := (codeB_iff k n).1 h; omega)
    go_enter Tryz.func87, Tryz.ntmps87
    go_wp2_with fail
    go_ret
    exact ⟨by rw [HE.out]; rfl, (Below.refl _ _).alloc (Nat.le_refl _) _⟩
  ·have HE : Hid (codeB k n = false) := Lib.hid (Bool.eq_false_iff.2 fun h => by have := (codeB_iff k n).1 h; omega)
   go_enter Tryz.func87, Tryz.ntmps87
   go_wp2_with fail
   go_ret
   exact ⟨by rw [HE.out]; rfl, (Below.refl _ _).alloc (Nat.le_refl _) _⟩
 ·have HE : Hid (codeB k n = false) := Lib.hid (Bool.eq_false_iff.2 fun h => by have := (codeB_iff k n).1 h; omega)
  go_enter Tryz.func87, Tryz.ntmps87
  go_wp2_with fail
  go_ret
  exact ⟨by rw [HE.out]; rfl, (Below.refl _ _).alloc (Nat.le_refl _) _⟩
def sizeN (k n : Int) : Int := (8 + n + k - 1) / k
def SizePost (k n m : Int) (w : World) (e : Ending) (w' : World) : Prop :=
 e = .returned (if codeB k n = false ∨ m < 0 then .tuple #[.int .i64 0, .int .i64 1] else if 32768 < m then .tuple #[.int .i64 0, .int .i64 40] else .tuple #[.int .i64 (sizeN k m), .int .i64 0]) ∧ Below w.heap.size w w'
theorem size_any (k n m : Int) (w : World) : Calls Tryz.prog 70 #[.agg #[.int .i64 k, .int .i64 n], .int .i64 m] w (SizePost k n m w) := by
 have HM := Lib.hid (mayCode_any k n (w.alloc (.cells #[.int .i64 k, .int .i64 n] 25)))
 have hb0 : Below w.heap.size w (w.alloc (.cells #[.int .i64 k, .int .i64 n] 25)) := (Below.refl _ _).alloc (Nat.le_refl _) _
 have bx := Blk.new w 25 #[.int .i64 k, .int .i64 n]
 have HB0 := Lib.hid hb0
 have k0 := bx.cell 0
 have HBX := Lib.hid bx
 cases hc : codeB k n with
 | false =>
   have HP := Lib.hid (show ∀ w', Below w.heap.size w w' → SizePost k n m w (.returned (.tuple #[.int .i64 0, .int .i64 1])) w' from fun w' hb => ⟨by rw [if_pos (.inl hc)], hb⟩)
   rw [hc] at HM
   go_enter Tryz.func70, Tryz.ntmps70
   go_wp2_with (go_at_call 87; with_reducible refine HM.out.mono ?_)
   rintro e w1 ⟨rfl, hb⟩
   have HB := Lib.hid (HB0.out.trans (Below.mono hb HB0.out.size))
   clear hb
   go_wp2_with fail
   go_ret2
   exact HP.out _ HB.out
 | true =>
   have hk := (codeB_iff k n).1 hc
   obtain ⟨hk1, hk2, hk3⟩ := hk
   rw [hc] at HM
   by_cases h0 : m < 0
   ·have HP := Lib.hid (show ∀ w', Below w.heap.size w w' → SizePost k n m w (.returned (.tuple #[.int .i64 0, .int .i64 1])) w' from fun w' hb => ⟨by rw [if_pos (.inr h0)], hb⟩)
    go_enter Tryz.func70, Tryz.ntmps70
    go_wp2_with (go_at_call 87; with_reducible refine HM.out.mono ?_)
    rintro e w1 ⟨rfl, hb⟩
    have HB := Lib.hid (HB0.out.trans (Below.mono hb HB0.out.size))
    clear hb
    go_wp2_with fail
    go_ret2
    exact HP.out _ HB.out
   ·have h1 : 0 ≤ m := by omega
    clear h0
    by_cases h2 : 32768 < m
    ·have HP := Lib.hid (show ∀ w', Below w.heap.size w w' → SizePost k n m w (.returned (.tuple #[.int .i64 0, .int .i64 40])) w' from fun w' hb => ⟨by rw [if_neg (by simp [hc]; omega), if_pos h2], hb⟩)
     go_enter Tryz.func70, Tryz.ntmps70
     go_wp2_with (go_at_call 87; with_reducible refine HM.out.mono ?_)
     rintro e w1 ⟨rfl, hb⟩
     have HB := Lib.hid (HB0.out.trans (Below.mono hb HB0.out.size))
     clear hb
     go_wp2_with fail
     go_ret2
     exact HP.out _ HB.out
    ·have h3 : m ≤ 32768 := by omega
     clear h2
     have HP := Lib.hid (show ∀ w', Below w.heap.size w w' → SizePost k n m w (.returned (.tuple #[.int .i64 ((8 + m + k - 1) / k), .int .i64 0])) w' from fun w' hb => ⟨by rw [if_neg (by simp [hc]; omega), if_neg (by omega)]; rfl, hb⟩)
     go_enter Tryz.func70, Tryz.ntmps70
     go_wp2_with (go_at_call 87; with_reducible refine HM.out.mono ?_)
     rintro e w1 ⟨rfl, hb⟩
     have HB := Lib.hid (HB0.out.trans (Below.mono hb HB0.out.size))
     have hk0 : w1.cell? ⟨w.heap.size, 0, none⟩ = some (.int .i64 k) := (hb.cell (p := ⟨w.heap.size, 0, none⟩) (by simp)).trans k0
     have hkne : (k == 0) = false := by simp; omega
     clear hb k0 bx hb0
     go_wp2_with fail
     go_ret2
     exact HP.out _ HB.out
end Cod
end Go.Proofs.YtnbkhdbligjifaaGreatDoor
