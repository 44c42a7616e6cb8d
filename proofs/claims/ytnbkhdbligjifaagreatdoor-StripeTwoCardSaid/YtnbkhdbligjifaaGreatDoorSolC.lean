/-
 A range over a function whose round lays its variable into a box of its own. A drawn region inside a round of a range over a function: what is walked outside holds there too. Matrices: may one be? Its rows are as long as the first one. Matrices in memory; a row times a number, a row plus a row times a number. A row with zeros behind it; the copy of a row.
-/
import Derived.Test.YtnbkhdbligjifaaGreatDoorCodA
import Derived.Test.YtnbkhdbligjifaaGreatDoorMem
import Derived.Test.YtnbkhdbligjifaaGreatDoorVMaps
import Derived.OrdersIn
import Derived.OwnWalkIn
import Derived.RangeFuncIn
import Derived.RangeFuncBox
import Derived.Test.YtnbkhdbligjifaaGreatDoorCodG
import Derived.Test.YtnbkhdbligjifaaGreatDoorStoH
import Derived.Test.YtnbkhdbligjifaaGreatDoorWldB
import Derived.Lib.AppendStr
set_option linter.unusedVariables false
set_option linter.unusedSimpArgs false
set_option maxRecDepth 100000
set_option maxHeartbeats 40000000
namespace Go.Proofs.YtnbkhdbligjifaaGreatDoor
open Go.RowKit Go.Shelf
variable {n : Nat} {P : Program}
end Go.Proofs.YtnbkhdbligjifaaGreatDoor
namespace Go.Proofs.YtnbkhdbligjifaaGreatDoor
open Go Go.RowKit
namespace Stab
variable {P : Program} {Q : Exit → Act → World → Prop} {F : Fence} {n : Nat}
theorem wide_fn (hw : F.plain = Fence.wide) (f : FuncId) : F.fn f := (show F.plain.fn f by rw [hw]; trivial)
theorem wide_depth (hw : F.plain = Fence.wide) : F.depth = none := (show F.plain.depth = none by rw [hw]; rfl)
theorem wide_fenced (hw : F.plain = Fence.wide) : Machine.fenced P F = Machine.fenced P Fence.wide := by rw [← fenced_plain P F, hw]
theorem callsIn_round (hw : F.plain = Fence.wide) {f : FuncId} {args : Array Value} {w : World} {R : Ending → World → Prop} (h : Calls P f args w R) : CallsIn F n P f args w R :=
 ⟨wide_fn hw f, fun cs _ => let ⟨e, w', fr, r, s, x⟩ := h cs; ⟨e, w', fr, r, by rw [wide_fenced hw]; exact comesIn_wide.2 s, x⟩⟩
theorem rowsIn_round (hw : F.plain = Fence.wide) {row : String} {args : Array Value} {w : World} {R : Value → World → Prop} (h : Rows P row args w R) : RowsIn F n P row args w R :=
 fun c cs _ => let ⟨v, w', r, s⟩ := h c cs; ⟨v, w', r, by rw [wide_fenced hw]; exact stepsIn_wide.2 s⟩
theorem upon_round (hw : F.plain = Fence.wide) {o : Oper} {a : Act} {next next' : Act → World → Prop} (hn : ∀ a w, next a w → next' a w) {r : Result Next} (h : o.upon P a next Q r) : o.uponIn F n P a next' Q r := by
 cases r with
 | ok x w' =>
   cases x <;> simp only [Oper.upon, Oper.uponIn] at h ⊢ <;>
    first
     | exact hn _ _ h
     | exact h
     | exact ⟨fun h0 => (by rw [wide_depth hw] at h0; cases h0), callsIn_round hw (h.mono fun e w'' he => by cases e <;> first | exact hn _ _ he | exact he)⟩
     | exact ⟨fun h0 => (by rw [wide_depth hw] at h0; cases h0), rowsIn_round hw (h.mono fun _ _ he => hn _ _ he)⟩
 | halt x w' => cases x <;> simp only [Oper.upon, Oper.uponIn] at h ⊢ <;> exact h
theorem wp_round (hw : F.plain = Fence.wide) {o : Oper} (ho : ∀ c, o.op ≠ .defer c) {a : Act} {w : World} {next next' : Act → World → Prop} (hn : ∀ a w, next a w → next' a w) (h : o.wp P a w next Q) : o.wpIn F n P a w next' Q :=
 ⟨fun f _ => wide_fn hw f, by rw [Oper.semAt_plain _ _ _ ho]; exact upon_round hw hn h⟩
def noDefer (l : List Oper) : Bool := l.all fun o => match o.op with | .defer _ => false | _ => true
theorem noDefer_get {l : List Oper} (h : noDefer l = true) {i : Nat} {o : Oper} (ho : l.toArray[i]? = some o) (c : _) : o.op ≠ .defer c := by
 intro hc
 have hm : o ∈ l := List.mem_of_getElem? (by simpa using ho)
 have := List.all_eq_true.1 h o hm
 rw [hc] at this
 cases this
theorem any_round (hw : F.plain = Fence.wide) {md : Region.Mode} {l : List Oper} (hd : noDefer l = true) (hL : ¬ LetsOut Q) : ∀ (f : Nat) (listed : Array Bool) (a : Act) (w : World), wpAny P md l.toArray Q f listed a w → wpAnyIn F n P md l.toArray Q f listed a w
 | 0, _, _, _, h => h
 | f + 1, listed, a, w, h => by
   refine ⟨h.1, fun i hi => ?_⟩
   have h2 := h.2 i hi
   unfold wpOp at h2
   unfold wpOpIn
   split
   ·rename_i hn
    simp only [hn] at h2
    exact any_round hw hd hL f _ _ _ h2
   ·rename_i o ho
    simp only [ho] at h2
    split
    ·rename_i h3
     simp only [h3, if_true] at h2
     exact wp_round hw (noDefer_get hd ho) (fun a w hh => any_round hw hd hL f _ a w hh) (h2.resolve_right fun hh => hL hh.2)
    ·rename_i h3
     simp only [h3] at h2
     exact ⟨fun f _ => wide_fn hw f, any_round hw hd hL f _ _ _ h2⟩
theorem Goals.store {w0 : World} {S : World → Prop} {Vs : List SVal} {G : (Nat → Value) → Act} {i : Nat} {o : Oper} {r : List Oper} {m : List Nat} {ns : List (List Nat)} (hgd : o.guard = none) (hd : o.dst = none)
 (h : ∀ (us : Nat → Value) (w : World) (K : Value → World → Prop), Ext w0 w → S w → PreL (vals Vs) us w m → (∀ v w', vals Vs i v w' → Ext w w' → K v w') →
  Oper.wp P o (G us) w (fun a' w' => a'.defers = (G us).defers ∧ K undef w') Q)
 (hr : Goals P Q w0 S Vs G (i + 1) r ns) : Goals P Q w0 S Vs G i (o :: r) (m :: ns) := by
 refine ⟨fun us w K hE hS hp hK => ?_, hr⟩
 have := h us w K hE hS hp hK
 rw [hgd, hd]
 exact this
theorem Goals.take {w0 : World} {S : World → Prop} {Vs : List SVal} {G : (Nat → Value) → Act} {i : Nat} {o : Oper} {r : List Oper} {m : List Nat} {ns : List (List Nat)} {d : Tmp} {j : Nat} {b : Bool} (hgd : o.guard = some (j, b)) (hd : o.dst = some d)
 (h : ∀ (us : Nat → Value) (w : World) (K : Value → World → Prop), Ext w0 w → S w → PreL (vals Vs) us w m → (∀ v w', vals Vs i v w' → Ext w w' → K v w') →
  us j = .bool b ∧ Oper.wp P o (G us) w (fun a' w' => a'.defers = (G us).defers ∧ K (a'.eval (.tmp d)) w') Q)
 (hr : Goals P Q w0 S Vs G (i + 1) r ns) : Goals P Q w0 S Vs G i (o :: r) (m :: ns) :=
 Goals.guarded hgd hd (fun us w K hE hS hp hK => let ⟨h1, h2⟩ := h us w K hE hS hp hK; ⟨b, h1, fun _ => h2, fun hn => absurd rfl hn⟩) hr
theorem Goals.skip {w0 : World} {S : World → Prop} {Vs : List SVal} {G : (Nat → Value) → Act} {i : Nat} {o : Oper} {r : List Oper} {m : List Nat} {ns : List (List Nat)} {d : Tmp} {j : Nat} {b : Bool} (hgd : o.guard = some (j, b)) (hd : o.dst = some d)
 (h : ∀ (us : Nat → Value) (w : World) (K : Value → World → Prop), Ext w0 w → S w → PreL (vals Vs) us w m → (∀ v w', vals Vs i v w' → Ext w w' → K v w') → us j = .bool (!b) ∧ K undef w)
 (hr : Goals P Q w0 S Vs G (i + 1) r ns) : Goals P Q w0 S Vs G i (o :: r) (m :: ns) :=
 Goals.guarded hgd hd (fun us w K hE hS hp hK => let ⟨h1, h2⟩ := h us w K hE hS hp hK; ⟨!b, h1, fun hn => (by cases b <;> cases hn), fun _ => h2⟩) hr
/-! ### with any relation between worlds -/
def GoalE (P : Program) (Q : Exit → Act → World → Prop) (E : World → World → Prop) (w0 : World) (S : World → Prop) (V : Nat → Value → World → Prop) (G : (Nat → Value) → Act) (i : Nat) (o : Oper) (ns : List Nat) : Prop :=
 ∀ (us : Nat → Value) (w : World) (K : Value → World → Prop), E w0 w → S w → PreL V us w ns → (∀ v w', V i v w' → E w w' → K v w') → Oper.wp P o (G us) w (fun a' w' => a'.defers = (G us).defers ∧ K (slot o.dst a') w') Q
def GoalsE (P : Program) (Q : Exit → Act → World → Prop) (E : World → World → Prop) (w0 : World) (S : World → Prop) (V : Nat → Value → World → Prop) (G : (Nat → Value) → Act) : Nat → List Oper → List (List Nat) → Prop
 | _, [], _ => True
 | i, o :: r, ns => (o.guard = none ∧ GoalE P Q E w0 S V G i o (ns.headD [])) ∧ GoalsE P Q E w0 S V G (i + 1) r ns.tail
section
variable {E : World → World → Prop} {w0 : World} {S : World → Prop} {V : Nat → Value → World → Prop} {G : (Nat → Value) → Act}
theorem GoalsE.to (hS : ∀ w, E w0 w → S w) : ∀ {l : List Oper} {i : Nat} {ns : List (List Nat)}, GoalsE P Q E w0 S V G i l ns → OpGoals P Q E w0 V G i l ns
 | [], _, _, _ => trivial
 | _ :: _, _, _, h => ⟨fun us w K hE hp hK => by rw [h.1.1]; exact h.1.2 us w K hE (hS w hE) hp hK, GoalsE.to hS h.2⟩
theorem GoalsE.nil {i : Nat} {ns : List (List Nat)} : GoalsE P Q E w0 S V G i [] ns := trivial
theorem GoalsE.plain {i : Nat} {o : Oper} {r : List Oper} {m : List Nat} {ns : List (List Nat)} {d : Tmp} (hgd : o.guard = none) (hd : o.dst = some d)
 (h : ∀ (us : Nat → Value) (w : World) (K : Value → World → Prop), E w0 w → S w → PreL V us w m → (∀ v w', V i v w' → E w w' → K v w') → Oper.wp P o (G us) w (fun a' w' => a'.defers = (G us).defers ∧ K (a'.eval (.tmp d)) w') Q)
 (hr : GoalsE P Q E w0 S V G (i + 1) r ns) : GoalsE P Q E w0 S V G i (o :: r) (m :: ns) :=
 ⟨⟨hgd, fun us w K hE hS hp hK => by have := h us w K hE hS hp hK; rw [hd]; exact this⟩, hr⟩
structure EVal (E : World → World → Prop) where
 p : Value → World → Prop
 st : ∀ v w w', p v w → E w w' → p v w'
def eqE (E : World → World → Prop) (x : Value) : EVal E := ⟨fun v _ => v = x, fun _ _ _ h _ => h⟩
def anyE (E : World → World → Prop) : EVal E := ⟨fun _ _ => True, fun _ _ _ _ _ => trivial⟩
def valsE {E : World → World → Prop} (l : List (EVal E)) (j : Nat) : Value → World → Prop := (l.getD j (anyE E)).p
theorem wpIn_region_E {id : Nat} {l : List Oper} {a0 : Act} {w : World} (m size : Nat) (ds : List (Option Tmp)) (ns : List (List Nat)) (keep : List Nat) (S : World → Prop) (Vs : List (EVal E))
 (hw : F.plain = Fence.wide) (hm : P.follows .mixedOrders = true) (hsize : a0.tmps.size = size) (hd : noDefer l = true) (hL : ¬ LetsOut Q) (hB : okB l m size ds ns = true) (hk : keep.all (fun j => decide (j < m)) = true) (hF : ∀ us, putAll us 0 ds a0 = G us)
 (hr : E w.drew w.drew) (htr : ∀ a b c, E a b → E b c → E a c) (hS : ∀ w', E w.drew w' → S w')
 (hg : GoalsE P Q E w.drew S (valsE Vs) G 0 (l.take m) ns) (hend : ∀ us w', E w.drew w' → S w' → PreL (valsE Vs) us w' keep → wpList P l.toArray Q (l.drop m) (G us) w') : (Code.region id l.toArray true).wpIn F n P Q a0 w := by
 subst hsize
 have hB' := hB
 simp only [okB, Bool.and_eq_true, decide_eq_true_eq] at hB'
 have hn : m ≤ l.length := hB'.1.1.1.1.1.1.1
 refine wpIn_region_any hm (any_round hw hd hL _ _ _ _ ?_)
 have h := stable_any (P := P) (Q := Q) (E := E) (V := valsE Vs) (a0 := a0) (w0 := w.drew) (keep := keep) hF hB htr (fun j v w1 w2 hv hE => ((Vs.getD j (anyE E)).st v w1 w2 hv hE)) hk
  (hg.to hS) (fun us w' hE hp => hend us w' hE (hS _ hE) hp) m (Array.replicate l.toArray.size false) a0 w.drew ⟨List.range m, by simp, fun j hj => .inr (List.mem_range.2 hj)⟩
  ⟨⟨by simp, fun j oj _ hl => (by rw [getD_replicate_false] at hl; cases hl), fun t _ ht => getD_in (by simpa using ht) (getD_replicate_false _ _)⟩, hr, rfl, rfl, fun _ _ => rfl,
    fun j _ hl => (by rw [getD_replicate_false] at hl; cases hl)⟩
 rw [show m + (l.length - m) = l.toArray.size by simp; omega] at h
 exact h
end
end Stab
end Go.Proofs.YtnbkhdbligjifaaGreatDoor
namespace Go.Proofs.YtnbkhdbligjifaaGreatDoor
open Go Go.RowKit
namespace Sol
structure Rect (ls : List (List Nat)) (n L : Nat) : Prop where
 rows : ls.length = n
 cols : ∀ l ∈ ls, l.length = L
 n1 : 1 ≤ n
 l1 : 1 ≤ L
theorem Rect.row {ls : List (List Nat)} {n L : Nat} (h : Rect ls n L) {i : Nat} (hi : i < n) : ∃ l, ls[i]? = some l ∧ l.length = L ∧ l = ls.getD i [] := by
 have hl := h.rows
 have hg : ls[i]? = some ls[i] := List.getElem?_eq_getElem (by omega)
 exact ⟨ls[i], hg, h.cols _ (List.getElem_mem _), by rw [List.getD, hg]; rfl⟩
def Tbl (w : World) (g o n L : Nat) : Prop := ∀ i, i < n → ∃ b o' c, w.cell? ⟨g, o + i, none⟩ = some (.slice (some ⟨b, o', none⟩) L c)
theorem Tbl.ext {w w' : World} {g o n L : Nat} (h : Tbl w g o n L) (hE : Stab.Ext w w') : Tbl w' g o n L := fun i hi => by
 obtain ⟨b, o', c, h⟩ := h i hi
 exact ⟨b, o', c, hE.cell h⟩
theorem rows_tbl {w : World} {v : Value} {ls : List (List Nat)} {n L : Nat} (h : Spr.Rows w v ls) (hr : Rect ls n L) : ∃ g o cap, v = .slice (some ⟨g, o, none⟩) n cap ∧ Tbl w g o n L := by
 obtain ⟨g, o, cap, rfl, hc⟩ := h
 refine ⟨g, o, cap, by rw [hr.rows], fun i hi => ?_⟩
 obtain ⟨l, hl, hlen, -⟩ := hr.row hi
 obtain ⟨u, hu, b, o', c, rfl, -⟩ := hc i l hl
 exact ⟨b, o', c, by rw [hu, hlen]⟩
def Quiet (v : Value) (w : World) (e : Ending) (w' : World) : Prop := e = .returned v ∧ Below w.heap.size w w'
theorem mMay1_any {w : World} {g o n L cap mb : Nat} (ht : Tbl w g o n L) (hn : 1 ≤ n) (hm : w.cell? ⟨mb, 0, none⟩ = some (.slice (some ⟨g, o, none⟩) n cap)) (A : Option Addr) (c : Nat) :
 Calls Tryz.prog 204 #[.slice A L c, .pointer (some ⟨mb, 0, none⟩)] w fun e w' => e = .returned (.bool false) ∧ w = w' := by
 obtain ⟨b, o', c', h0⟩ := ht 0 (by omega)
 rw [Nat.add_zero] at h0
 have hn0 : (0 : Int) < (n : Int) := by omega
 have hne : ((L : Int) != (L : Int)) = false := by simp
 go_enter Tryz.func204, Tryz.ntmps204
 go_wp2_with fail
 go_ret
 exact ⟨rfl, rfl⟩
theorem mMayidx_any {w : World} {g o n L cap mb : Nat} (ht : Tbl w g o n L) (hn : 1 ≤ n) (hn2 : n ≤ 1000) (hm : w.cell? ⟨mb, 0, none⟩ = some (.slice (some ⟨g, o, none⟩) n cap)) :
 Calls Tryz.prog 225 #[.slice (some ⟨g, o, none⟩) n cap, .func (.func 204) #[] #[.pointer (some ⟨mb, 0, none⟩)]] w fun e w' => e = .returned (.int .i64 (-1)) ∧ w = w' := by
 go_enter Tryz.func225, Tryz.ntmps225
 go_wp2_with fail
 go_loopw [8] (fun i wr => ∃ q : Nat, q ≤ n ∧ i = .int .i64 (q : Int) ∧ wr = w) (fun i _ => n - (intOf i).toNat)
 case atStart => exact ⟨0, by omega, rfl, rfl⟩
 case round =>
  obtain ⟨q, hq, rfl, rfl⟩ := hrel
  by_cases hlt : q < n
  ·have hlt2 : (q : Int) < (n : Int) := by omega
   obtain ⟨b, o', c, hc⟩ := ht q hlt
   have HC := Lib.hid (mMay1_any ht hn hm (some ⟨b, o', none⟩) c)
   go_wp2_with (go_at_call 204; with_reducible refine HC.out.mono ?_; rintro e w1 ⟨rfl, rfl⟩)
   go_roundw
   case rel => exact ⟨q + 1, by omega, by go_num, trivial⟩
   case measure => simp [intOf]; omega
  ·obtain rfl : q = n := by omega
   have d1 : ¬ ((q : Int) < (q : Int)) := by omega
   go_wp2_with fail
   go_ret
   exact ⟨rfl, rfl⟩
theorem mMayhas_any {w : World} {g o n L cap mb : Nat} (ht : Tbl w g o n L) (hn : 1 ≤ n) (hn2 : n ≤ 1000) (hm : w.cell? ⟨mb, 0, none⟩ = some (.slice (some ⟨g, o, none⟩) n cap)) :
 Calls Tryz.prog 203 #[.slice (some ⟨g, o, none⟩) n cap, .func (.func 204) #[] #[.pointer (some ⟨mb, 0, none⟩)]] w fun e w' => e = .returned (.bool false) ∧ w = w' := by
 have HC := Lib.hid (mMayidx_any ht hn hn2 hm)
 clear hm
 go_enter Tryz.func203, Tryz.ntmps203
 go_wp2_with (go_at_call 225; with_reducible refine HC.out.mono ?_; rintro e w1 ⟨rfl, rfl⟩)
 go_ret
 exact ⟨rfl, rfl⟩
theorem mMay_any {w : World} {v : Value} {ls : List (List Nat)} {n L : Nat} (h : Spr.Rows w v ls) (hr : Rect ls n L) (hn : n ≤ 12) (hL : L ≤ 12) : Calls Tryz.prog 178 #[v] w (Quiet (.bool true) w) := by
 obtain ⟨g, o, cap, rfl, ht⟩ := rows_tbl h hr
 have hE := Stab.Ext.alloc w (.cells #[.slice (some ⟨g, o, none⟩) n cap] 132)
 have bx := Blk.new w 132 #[.slice (some ⟨g, o, none⟩) n cap]
 obtain ⟨b, o', c', h0⟩ := ht 0 hr.n1
 rw [Nat.add_zero] at h0
 have hgl := Spr.lt_cell h0
 have HC := Lib.hid (mMayhas_any (ht.ext hE) hr.n1 (by omega) (bx.cell 0))
 have HE := Lib.hid hE
 have hn1 := hr.n1
 have hl1 := hr.l1
 have d1 : ¬ ((n : Int) < 1) := by omega
 have d2 : ¬ ((12 : Int) < (n : Int)) := by omega
 have d3 : ¬ ((L : Int) < 1) := by omega
 have d4 : ¬ ((12 : Int) < (L : Int)) := by omega
 have d5 : (0 : Int) < (n : Int) := by omega
 clear h hr ht hE bx
 go_enter Tryz.func178, Tryz.ntmps178
 go_wp2_with (go_at_call 203; with_reducible refine HC.out.mono ?_; rintro e w1 ⟨rfl, rfl⟩)
 go_ret
 exact ⟨rfl, HE.out⟩
theorem sMay1_any {w : World} {g o n L cap mb : Nat} (ht : Tbl w g o n L) (hn : 1 ≤ n) (hm : w.cell? ⟨mb, 0, none⟩ = some (.slice (some ⟨g, o, none⟩) n cap)) (A : Option Addr) (c : Nat) :
 Calls Tryz.prog 205 #[.slice A L c, .pointer (some ⟨mb, 0, none⟩)] w fun e w' => e = .returned (.bool false) ∧ w = w' := by
 obtain ⟨b, o', c', h0⟩ := ht 0 (by omega)
 rw [Nat.add_zero] at h0
 have hn0 : (0 : Int) < (n : Int) := by omega
 have hne : ((L : Int) != (L : Int)) = false := by simp
 go_enter Tryz.func205, Tryz.ntmps205
 go_wp2_with fail
 go_ret
 exact ⟨rfl, rfl⟩
theorem sMayidx_any {w : World} {g o n L cap mb : Nat} (ht : Tbl w g o n L) (hn : 1 ≤ n) (hn2 : n ≤ 1000) (hm : w.cell? ⟨mb, 0, none⟩ = some (.slice (some ⟨g, o, none⟩) n cap)) :
 Calls Tryz.prog 225 #[.slice (some ⟨g, o, none⟩) n cap, .func (.func 205) #[] #[.pointer (some ⟨mb, 0, none⟩)]] w fun e w' => e = .returned (.int .i64 (-1)) ∧ w = w' := by
 go_enter Tryz.func225, Tryz.ntmps225
 go_wp2_with fail
 go_loopw [8] (fun i wr => ∃ q : Nat, q ≤ n ∧ i = .int .i64 (q : Int) ∧ wr = w) (fun i _ => n - (intOf i).toNat)
 case atStart => exact ⟨0, by omega, rfl, rfl⟩
 case round =>
  obtain ⟨q, hq, rfl, rfl⟩ := hrel
  by_cases hlt : q < n
  ·have hlt2 : (q : Int) < (n : Int) := by omega
   obtain ⟨b, o', c, hc⟩ := ht q hlt
   have HC := Lib.hid (sMay1_any ht hn hm (some ⟨b, o', none⟩) c)
   go_wp2_with (go_at_call 205; with_reducible refine HC.out.mono ?_; rintro e w1 ⟨rfl, rfl⟩)
   go_roundw
   case rel => exact ⟨q + 1, by omega, by go_num, trivial⟩
   case measure => simp [intOf]; omega
  ·obtain rfl : q = n := by omega
   have d1 : ¬ ((q : Int) < (q : Int)) := by omega
   go_wp2_with fail
   go_ret
   exact ⟨rfl, rfl⟩
theorem sMayhas_any {w : World} {g o n L cap mb : Nat} (ht : Tbl w g o n L) (hn : 1 ≤ n) (hn2 : n ≤ 1000) (hm : w.cell? ⟨mb, 0, none⟩ = some (.slice (some ⟨g, o, none⟩) n cap)) :
 Calls Tryz.prog 203 #[.slice (some ⟨g, o, none⟩) n cap, .func (.func 205) #[] #[.pointer (some ⟨mb, 0, none⟩)]] w fun e w' => e = .returned (.bool false) ∧ w = w' := by
 have HC := Lib.hid (sMayidx_any ht hn hn2 hm)
 clear hm
 go_enter Tryz.func203, Tryz.ntmps203
 go_wp2_with (go_at_call 225; with_reducible refine HC.out.mono ?_; rintro e w1 ⟨rfl, rfl⟩)
 go_ret
 exact ⟨rfl, rfl⟩
theorem sMay_any {w : World} {v : Value} {ls : List (List Nat)} {n L : Nat} (h : Spr.Rows w v ls) (hr : Rect ls n L) (hn : n ≤ 255) (hL : L ≤ 255) : Calls Tryz.prog 179 #[v] w (Quiet (.bool true) w) := by
 obtain ⟨g, o, cap, rfl, ht⟩ := rows_tbl h hr
 have hE := Stab.Ext.alloc w (.cells #[.slice (some ⟨g, o, none⟩) n cap] 132)
 have bx := Blk.new w 132 #[.slice (some ⟨g, o, none⟩) n cap]
 obtain ⟨b, o', c', h0⟩ := ht 0 hr.n1
 rw [Nat.add_zero] at h0
 have hgl := Spr.lt_cell h0
 have HC := Lib.hid (sMayhas_any (ht.ext hE) hr.n1 (by omega) (bx.cell 0))
 have HE := Lib.hid hE
 have hn1 := hr.n1
 have hl1 := hr.l1
 have d1 : ¬ ((n : Int) < 1) := by omega
 have d2 : ¬ ((255 : Int) < (n : Int)) := by omega
 have d3 : ¬ ((L : Int) < 1) := by omega
 have d4 : ¬ ((255 : Int) < (L : Int)) := by omega
 have d5 : (0 : Int) < (n : Int) := by omega
 clear h hr ht hE bx
 go_enter Tryz.func179, Tryz.ntmps179
 go_wp2_with (go_at_call 203; with_reducible refine HC.out.mono ?_; rintro e w1 ⟨rfl, rfl⟩)
 go_ret
 exact ⟨rfl, HE.out⟩
end Sol
end Go.Proofs.YtnbkhdbligjifaaGreatDoor
namespace Go.Proofs.YtnbkhdbligjifaaGreatDoor
open Go Go.RowKit
namespace Sol
def cellsL (f : Nat → Nat) (L : Nat) : List Value := (List.range L).map (Spr.by8 f)
theorem cellsL_get (f : Nat → Nat) {L k : Nat} (h : k < L) : (cellsL f L)[k]? = some (.int .u8 (f k : Nat)) := by simp [cellsL, h, Spr.by8]
theorem cellsL_len (f : Nat → Nat) (L : Nat) : (cellsL f L).length = L := by simp [cellsL]
theorem cellsL_set (f g : Nat → Nat) {L k : Nat} (hk : k < L) (hg : ∀ j, j < L → g j = if j = k then g k else f j) : (cellsL f L).set k (.int .u8 (g k : Nat)) = cellsL g L := by
 apply List.ext_getElem?
 intro i
 rw [List.getElem?_set]
 by_cases hi : i < L
 ·rw [cellsL_get f hi, cellsL_get g hi, cellsL_len]
  by_cases he : k = i
  ·subst he; rw [if_pos rfl, if_pos hk]
  ·rw [if_neg he, hg i hi, if_neg (fun h => he h.symm)]
 ·rw [cellsL_len]
  have h1 : (cellsL f L)[i]? = none := List.getElem?_eq_none (by rw [cellsL_len]; omega)
  have h2 : (cellsL g L)[i]? = none := List.getElem?_eq_none (by rw [cellsL_len]; omega)
  rw [h1, h2, if_neg (by omega)]
theorem cellsL_congr {f g : Nat → Nat} {L : Nat} (h : ∀ j, j < L → f j = g j) : cellsL f L = cellsL g L := by
 unfold cellsL
 refine List.map_congr_left fun j hj => ?_
 unfold Spr.by8
 rw [h j (List.mem_range.1 hj)]
def RowAt (w : World) (r L c : Nat) (f : Nat → Nat) : Prop := w.ownsRow 0 5 1 (.slice (some ⟨r, 0, none⟩) L c) L (cellsL f L)
section
variable {w w' : World} {r L c : Nat} {f g : Nat → Nat}
theorem RowAt.cell (h : RowAt w r L c f) {k : Nat} (hk : k < L) : w.cell? ⟨r, k, none⟩ = some (.int .u8 (f k : Nat)) ∧ w.frozen? ⟨r, k, none⟩ = false := by
 rcases h.2 with ⟨h1, _⟩ | ⟨g', cap, cur, h1, _, hg, hn, _, hs, ht⟩
 ·cases h1
 ·cases h1
  have hb : Blk w r 5 cur := hg
  refine ⟨?_, hb.frozen _⟩
  rw [hb.cell, ← Array.getElem?_toList, ← cellsL_get f hk, ← ht, List.getElem?_take_of_lt (by omega)]
theorem RowAt.lt (h : RowAt w r L c f) : r < w.heap.size := Vm.row_lt h rfl
theorem RowAt.set_ (h : RowAt w r L c f) {k : Nat} (hk : k < L) (hg : ∀ j, j < L → g j = if j = k then g k else f j) : RowAt (w.setCell ⟨r, k, none⟩ (.int .u8 (g k : Nat))) r L c g := by
 have := Vm.row_set h k (by omega) (.int .u8 (g k : Nat))
 rw [cellsL_set f g hk hg] at this
 exact this
theorem RowAt.keep (h : RowAt w r L c f) (hk : w'.heap[r]? = w.heap[r]?) : RowAt w' r L c f := Vm.row_heap h fun g hg => by
 have : g = r := by simpa [Value.ownBlock] using hg.symm
 subst this; exact hk
theorem RowAt.ext (h : RowAt w r L c f) (hE : Stab.Ext w w') : RowAt w' r L c f := h.keep (hE.block r h.lt)
theorem RowAt.congr (h : RowAt w r L c f) (hf : ∀ j, j < L → f j = g j) : RowAt w r L c g := by
 unfold RowAt at *
 rwa [← cellsL_congr hf]
end
structure TRd (fb F r k : Nat) (x : Nat) (W : World) : Prop where
 fp : W.cell? ⟨fb, 0, none⟩ = some (.pointer (some ⟨F, 0, none⟩))
 fld : Fld.At W F
 cx : W.cell? ⟨r, k, none⟩ = some (.int .u8 (x : Nat))
theorem TRd.ext {fb F r k x : Nat} {W W' : World} (h : TRd fb F r k x W) (hE : Stab.Ext W W') : TRd fb F r k x W' := ⟨hE.cell h.fp, h.fld.ext hE, hE.cell h.cx⟩
theorem at_keep {w w' : World} {F : Nat} (h : Fld.At w F) (hk : w'.heap[F]? = w.heap[F]?) : Fld.At w' F :=
 ⟨fun i hi => (World.cell?_of_block (a := ⟨F, i, none⟩) hk).trans (h.pw i hi), fun i hi => (World.cell?_of_block (a := ⟨F, 510 + i, none⟩) hk).trans (h.lg i hi)⟩
theorem at_lt {w : World} {F : Nat} (h : Fld.At w F) : F < w.heap.size := Spr.lt_cell (h.pw 0 (by decide))
def TimesPost (w : World) (r L c : Nat) (f : Nat → Nat) (e : Ending) (w' : World) : Prop := e = .returned (.tuple #[]) ∧ RowAt w' r L c f ∧ Vm.Fr [r] w w'
theorem times_any {w : World} {fb F r L c : Nat} {f : Nat → Nat} (y : Nat) (hr : RowAt w r L c f) (hb : ∀ j, j < L → f j < 256) (hy : y < 256) (hL : L ≤ 1000) (hfp : w.cell? ⟨fb, 0, none⟩ = some (.pointer (some ⟨F, 0, none⟩))) (hF : Fld.At w F) (h1 : fb ≠ r) (h2 : F ≠ r) :
 Calls Tryz.prog 206 #[.slice (some ⟨r, 0, none⟩) L c, .int .u8 (y : Nat), .pointer (some ⟨fb, 0, none⟩)] w (TimesPost w r L c (fun k => Fld.gm (f k) y)) := by
 have HR := Lib.hid hr
 have HFP := Lib.hid hfp
 have HF := Lib.hid hF
 have HB := Lib.hid hb
 clear hr hfp hF hb
 go_enter Tryz.func206, Tryz.ntmps206
 go_wp2_with fail
 go_loopw [8] (fun i wr => ∃ q : Nat, q ≤ L ∧ i = .int .i64 (q : Int) ∧ RowAt wr r L c (fun k => if k < q then Fld.gm (f k) y else f k) ∧ Vm.Fr [r] w wr) (fun i _ => L - (intOf i).toNat)
 case atStart => exact ⟨0, by omega, rfl, HR.out.congr fun j _ => by rw [if_neg (Nat.not_lt_zero _)], Vm.Fr.refl _ _⟩
 case round =>
  obtain ⟨q, hq, rfl, hrow, hfr⟩ := hrel
  by_cases hlt : q < L
  ·have hlt2 : (q : Int) < (L : Int) := by omega
   have hx256 := HB.out q hlt
   have hc := (hrow.cell hlt).1
   rw [if_neg (Nat.lt_irrefl _)] at hc
   have HRD := Lib.hid (show TRd fb F r q (f q) wr from ⟨(World.cell?_of_block (a := ⟨fb, 0, none⟩) (hfr.block fb (Spr.lt_cell HFP.out) (by simp; omega))).trans HFP.out, at_keep HF.out (hfr.block F (at_lt HF.out) (by simp; omega)), hc⟩)
   have HROW := Lib.hid hrow
   have HFR := Lib.hid hfr
   have hst := fun W (hW : RowAt W r L c (fun k => if k < q then Fld.gm (f k) y else f k)) => hW.set_ (g := fun k => if k < q + 1 then Fld.gm (f k) y else f k) hlt (fun j hj => by
    by_cases he : j = q
    ·subst he; simp
    ·rw [if_neg he]
     by_cases h3 : j < q
     ·rw [if_pos (by omega), if_pos h3]
     ·rw [if_neg (by omega), if_neg h3])
   simp only [Nat.lt_add_one, if_true] at hst
   have HST := Lib.hid hst
   have HGM := Lib.hid (Fld.gm_lt (f q) y)
   generalize hfx : f q = x at *
   clear hc hrow hfr hst hfx
   go_wp2_with fail
   refine Stab.rg 9 [[], [], [], [], [], [3, 4], [5], [], [2, 6, 7]] [0, 1, 8] (TRd fb F r q x) [Stab.eqv ?_, Stab.eqv ?_, Stab.eqv ?_, Stab.eqv ?_, Stab.eqv ?_, Stab.eqv ?_, Stab.eqv ?_, Stab.eqv ?_, Stab.eqv ?_] (HRD.out.ext (Stab.Ext.drew _)) (fun _ _ h hE => h.ext hE) ?goals3 ?last3
   case goals3 =>
    simp only [List.take_succ_cons, List.take_zero]
    iterate 8
     refine Stab.gp (fun us w _ hE hS hp hK => ?_) ?_
     ·((try have e0 : _ = _ := hp.1); (try have e1 : _ = _ := hp.2.1); (try have e2 : _ = _ := hp.2.2.1); have s0 := hS.fp; have s1 := hS.cx; go_simp; exact hK _ _ (by show _ = _; with_reducible rfl) (Stab.Ext.refl _))
    refine Stab.Goals.plain rfl rfl (fun us w cK hE hS hp hK => ?_) ?_
    ·obtain ⟨h2, h6, h7, -⟩ := hp
     replace h2 : us 2 = _ := h2
     replace h6 : us 6 = _ := h6
     replace h7 : us 7 = _ := h7
     go_simp
     go_wp2_with (go_at_call 145; ((with_reducible refine (Fld.mul_any _ _ x y hx256 hy hS.fld).mono ?_); rintro e w1 ⟨rfl, hb⟩))
     refine hK _ _ ?_ hb
     show _ = _
     with_reducible rfl
    exact Stab.Goals.nil
   case last3 =>
    intro us w' hE hS hp
    obtain ⟨h0, h1', h8, -⟩ := hp
    replace h0 : us 0 = _ := h0
    replace h1' : us 1 = _ := h1'
    replace h8 : us 8 = _ := h8
    simp only [List.drop_succ_cons, List.drop_zero, h0, h1', h8, Nat.zero_add, Nat.reduceAdd]
    have hrw := HROW.out.ext ((Stab.Ext.drew _).trans hE)
    have c1 := hS.cx
    have z1 := (hrw.cell hlt).2
    have HN := Lib.hid (HST.out _ hrw)
    have HF2 := Lib.hid ((HFR.out.next (Vm.Fr.of_below ((Stab.Ext.drew wr).trans hE))).next (Vm.Fr.cell w' ⟨r, q, none⟩ (.int .u8 (Fld.gm x y : Nat))))
    clear hE hS h0 h1' h8 hrw
    go_wp2_with fail
    go_roundw
    case rel => exact ⟨q + 1, by omega, by go_num, HN.out, HF2.out⟩
    case measure => simp [intOf]; omega
  ·obtain rfl : q = L := by omega
   have HN := Lib.hid (hrow.congr (g := fun k => Fld.gm (f k) y) fun j hj => by simp only [if_pos hj])
   have HFR := Lib.hid hfr
   have d1 : ¬ ((q : Int) < (q : Int)) := by omega
   clear hrow hfr
   go_wp2_with fail
   go_end0
   exact ⟨rfl, HN.out, HFR.out⟩
structure PRd (fb F r k r2 : Nat) (x z : Nat) (W : World) : Prop where
 fp : W.cell? ⟨fb, 0, none⟩ = some (.pointer (some ⟨F, 0, none⟩))
 fld : Fld.At W F
 cx : W.cell? ⟨r, k, none⟩ = some (.int .u8 (x : Nat))
 cz : W.cell? ⟨r2, k, none⟩ = some (.int .u8 (z : Nat))
theorem PRd.ext {fb F r k r2 x z : Nat} {W W' : World} (h : PRd fb F r k r2 x z W) (hE : Stab.Ext W W') : PRd fb F r k r2 x z W' := ⟨hE.cell h.fp, h.fld.ext hE, hE.cell h.cx, hE.cell h.cz⟩
def plusF (f g : Nat → Nat) (y : Nat) (k : Nat) : Nat := Nat.xor (f k) (Fld.gm (g k) y)
theorem plusF_lt {f g : Nat → Nat} {y k : Nat} (h : f k < 256) : plusF f g y k < 256 := Nat.xor_lt_two_pow (n := 8) h (Fld.gm_lt _ _)
theorem plus_any {w : World} {fb F r r2 L c c2 : Nat} {f g : Nat → Nat} (y : Nat) (hr : RowAt w r L c f) (hr2 : RowAt w r2 L c2 g) (hb : ∀ j, j < L → f j < 256) (hb2 : ∀ j, j < L → g j < 256) (hy : y < 256) (hL : L ≤ 1000) (hfp : w.cell? ⟨fb, 0, none⟩ = some (.pointer (some ⟨F, 0, none⟩))) (hF : Fld.At w F) (h1 : fb ≠ r) (h2 : F ≠ r) (h3 : r2 ≠ r) :
 Calls Tryz.prog 207 #[.slice (some ⟨r, 0, none⟩) L c, .slice (some ⟨r2, 0, none⟩) L c2, .int .u8 (y : Nat), .pointer (some ⟨fb, 0, none⟩)] w (TimesPost w r L c (plusF f g y)) := by
 have HR := Lib.hid hr
 have HR2 := Lib.hid hr2
 have HFP := Lib.hid hfp
 have HF := Lib.hid hF
 have HB := Lib.hid hb
 have HB2 := Lib.hid hb2
 clear hr hr2 hfp hF hb hb2
 go_enter Tryz.func207, Tryz.ntmps207
 go_wp2_with fail
 go_loopw [10] (fun i wr => ∃ q : Nat, q ≤ L ∧ i = .int .i64 (q : Int) ∧ RowAt wr r L c (fun k => if k < q then plusF f g y k else f k) ∧ Vm.Fr [r] w wr) (fun i _ => L - (intOf i).toNat)
 case atStart => exact ⟨0, by omega, rfl, HR.out.congr fun j _ => by rw [if_neg (Nat.not_lt_zero _)], Vm.Fr.refl _ _⟩
 case round =>
  obtain ⟨q, hq, rfl, hrow, hfr⟩ := hrel
  by_cases hlt : q < L
  ·have hlt2 : (q : Int) < (L : Int) := by omega
   have hx256 := HB.out q hlt
   have hz256 := HB2.out q hlt
   have hc := (hrow.cell hlt).1
   rw [if_neg (Nat.lt_irrefl _)] at hc
   have HRD := Lib.hid (show PRd fb F r q r2 (f q) (g q) wr from ⟨(World.cell?_of_block (a := ⟨fb, 0, none⟩) (hfr.block fb (Spr.lt_cell HFP.out) (by simp; omega))).trans HFP.out, at_keep HF.out (hfr.block F (at_lt HF.out) (by simp; omega)), hc, ((HR2.out.keep (hfr.block r2 HR2.out.lt (by simp; omega))).cell hlt).1⟩)
   have HROW := Lib.hid hrow
   have HFR := Lib.hid hfr
   have hst := fun W (hW : RowAt W r L c (fun k => if k < q then plusF f g y k else f k)) => hW.set_ (g := fun k => if k < q + 1 then plusF f g y k else f k) hlt (fun j hj => by
    by_cases he : j = q
    ·subst he; simp
    ·rw [if_neg he]
     by_cases h3 : j < q
     ·rw [if_pos (by omega), if_pos h3]
     ·rw [if_neg (by omega), if_neg h3])
   simp only [Nat.lt_add_one, if_true] at hst
   have HST := Lib.hid hst
   have HGM := Lib.hid (Fld.gm_lt (g q) y)
   have HPF := Lib.hid (show plusF f g y q = Nat.xor (f q) (Fld.gm (g q) y) from rfl)
   generalize hfx : f q = x at *
   generalize hgz : g q = z at *
   clear hc hrow hfr hst hfx hgz
   go_wp2_with fail
   refine Stab.rg 15 [[], [], [], [], [], [3, 4], [5], [], [], [], [8, 9], [10], [], [7, 11, 12], [2, 6, 13]] [0, 1, 14] (PRd fb F r q r2 x z) [Stab.eqv ?_, Stab.eqv ?_, Stab.eqv ?_, Stab.eqv ?_, Stab.eqv ?_, Stab.eqv ?_, Stab.eqv ?_, Stab.eqv ?_, Stab.eqv ?_, Stab.eqv ?_, Stab.eqv ?_, Stab.eqv ?_, Stab.eqv ?_, Stab.eqv ?_, Stab.eqv ?_] (HRD.out.ext (Stab.Ext.drew _)) (fun _ _ h hE => h.ext hE) ?goals3 ?last3
   case goals3 =>
    simp only [List.take_succ_cons, List.take_zero]
    iterate 13
     refine Stab.gp (fun us w _ hE hS hp hK => ?_) ?_
     ·((try have e0 : _ = _ := hp.1); (try have e1 : _ = _ := hp.2.1); (try have e2 : _ = _ := hp.2.2.1); have s0 := hS.fp; have s1 := hS.cx; have s2 := hS.cz; go_simp; exact hK _ _ (by show _ = _; with_reducible rfl) (Stab.Ext.refl _))
    refine Stab.Goals.plain rfl rfl (fun us w cK hE hS hp hK => ?_) ?_
    ·obtain ⟨h7, h11, h12, -⟩ := hp
     replace h7 : us 7 = _ := h7
     replace h11 : us 11 = _ := h11
     replace h12 : us 12 = _ := h12
     go_simp
     go_wp2_with (go_at_call 145; ((with_reducible refine (Fld.mul_any _ _ z y hz256 hy hS.fld).mono ?_); rintro e w1 ⟨rfl, hb⟩))
     refine hK _ _ ?_ hb
     show _ = _
     with_reducible rfl
    refine Stab.Goals.plain rfl rfl (fun us w cK hE hS hp hK => ?_) ?_
    ·obtain ⟨h2, h6, h13, -⟩ := hp
     replace h2 : us 2 = _ := h2
     replace h6 : us 6 = _ := h6
     replace h13 : us 13 = _ := h13
     go_simp
     go_wp2_with (go_at_call 144; ((with_reducible refine (Fld.add_any _ x _ hx256 HGM.out _).mono ?_); rintro e w1 ⟨rfl, rfl⟩))
     refine hK _ _ ?_ (Stab.Ext.refl _)
     show _ = _
     with_reducible rfl
    exact Stab.Goals.nil
   case last3 =>
    intro us w' hE hS hp
    obtain ⟨h0, h1', h8, -⟩ := hp
    replace h0 : us 0 = _ := h0
    replace h1' : us 1 = _ := h1'
    replace h8 : us 14 = _ := h8
    simp only [List.drop_succ_cons, List.drop_zero, h0, h1', h8, Nat.zero_add, Nat.reduceAdd]
    have hrw := HROW.out.ext ((Stab.Ext.drew _).trans hE)
    have c1 := hS.cx
    have z1 := (hrw.cell hlt).2
    have hn := HST.out _ hrw
    rw [HPF.out] at hn
    have HN := Lib.hid hn
    have HF2 := Lib.hid ((HFR.out.next (Vm.Fr.of_below ((Stab.Ext.drew wr).trans hE))).next (Vm.Fr.cell w' ⟨r, q, none⟩ (.int .u8 (Nat.xor x (Fld.gm z y) : Nat))))
    clear hE hS h0 h1' h8 hrw hn
    go_wp2_with fail
    go_roundw
    case rel => exact ⟨q + 1, by omega, by go_num, HN.out, HF2.out⟩
    case measure => simp [intOf]; omega
  ·obtain rfl : q = L := by omega
   have HN := Lib.hid (hrow.congr (g := plusF f g y) fun j hj => by simp only [if_pos hj])
   have HFR := Lib.hid hfr
   have d1 : ¬ ((q : Int) < (q : Int)) := by omega
   clear hrow hfr
   go_wp2_with fail
   go_end0
   exact ⟨rfl, HN.out, HFR.out⟩
end Sol
end Go.Proofs.YtnbkhdbligjifaaGreatDoor
namespace Go.Proofs.YtnbkhdbligjifaaGreatDoor
open Go Go.RowKit
namespace Sol
def zstr (m : Nat) : ByteArray := ⟨Array.replicate m 0⟩
theorem zstr_size (m : Nat) : (zstr m).size = m := by simp [zstr, ByteArray.size]
theorem zeroCells_u8 (m : Nat) : Builtin.zeroCells (Value.int .u8 0).cells m = (List.replicate m (Value.int .u8 0)).toArray := by
 have h1 : (Value.int .u8 0).cells = #[Value.int .u8 0] := rfl
 rw [h1]
 apply Array.ext'
 simp only [Builtin.zeroCells, Array.toList_map, Array.toList_range]
 apply List.ext_getElem
 ·simp
 ·intro i h1 h2
  simp [Nat.mod_one]
theorem first_zstr (m : Nat) : Array.map (fun (b : UInt8) => Value.int .u8 (b.toNat : Int)) ((zstr m).extract 0 m).data = (List.replicate m (Value.int .u8 0)).toArray := by
 apply Array.ext'
 simp [zstr]
theorem run_append_made {P : Program} {t ti ts ty e : TypeId} {i : TypeInfo} (ht : P.underlying t = some (.slice e)) (hti : P.underlying ti = some (.int .i64)) (hts : P.underlying ts = some .string) (hi : P.info? e = some i) (hz : i.zero = some (.int .u8 0)) (hsize : i.size = 1) (hby : i.bytes = 1)
 (w : World) (base : Option Addr) (n cap m : Nat) (h : n + m ≤ 1000000000) :
 (Builtin.append_ #[t, ti] ty #[.slice base n cap, .int .i64 (m : Int)]).run P w = (Builtin.append_ #[t, ts] ty #[.slice base n cap, .string (zstr m)]).run P w := by
 have hw : IntKind.i64.wrap (m : Int) = (m : Int) := by rw [IntKind.wrap_i64]; omega
 have h0 : ¬ ((m : Int) < 0) := by omega
 have h48 : ¬ (281474976710656 < (m : Int)) := by omega
 have hmax : ¬ (9223372036854775807 < ((n : Int) + (m : Int))) := by omega
 have hzc := zeroCells_u8 m
 have hfz := first_zstr m
 have hfl : List.take m (List.map (fun (b : UInt8) => Value.int .u8 (b.toNat : Int)) (zstr m).data.toList) = List.replicate m (Value.int .u8 0) := by simp [zstr]
 have hfa : (Array.map (fun (b : UInt8) => Value.int .u8 (b.toNat : Int)) (zstr m).data).extract 0 m = (List.replicate m (Value.int .u8 0)).toArray := by
  apply Array.ext'
  simp [zstr]
 by_cases hm : m = 0
 ·subst hm
  have hw0 : IntKind.i64.wrap 0 = 0 := by rw [IntKind.wrap_i64]; omega
  by_cases hr : n ≤ cap
  ·simp [Builtin.append_, run_underlying ht, run_underlying hti, run_underlying hts, sizeOf, typeInfo, hi, hsize, hby, asInt, asIntOf, hw0, zstr_size, Builtin.lenOf, hr, Builtin.firstCells, hfz]
  ·have hg := growslice_fits (bytes := 1) (need := n) (old := cap) (by omega) (by omega)
   have hmax0 : ¬ (9223372036854775807 < (n : Int)) := by omega
   have hg2 : ¬ (281474976710656 < Builtin.nextslicecap n cap) := by omega
   simp [Builtin.append_, run_underlying ht, run_underlying hti, run_underlying hts, sizeOf, typeInfo, zeroValue, hi, hz, hsize, hby, asInt, asIntOf, hw0, zstr_size, Builtin.lenOf, hr, Builtin.firstCells, hfz, hg2, hmax0, Question.forced]
 ·by_cases hr : n + m ≤ cap
  ·simp [Builtin.append_, run_underlying ht, run_underlying hti, run_underlying hts, sizeOf, typeInfo, zeroValue, hi, hz, hsize, hby, asInt, asIntOf, hw, h0, h48, zstr_size, Builtin.lenOf, hr, Builtin.firstCells, hfl, hfa, hzc, hm]
  ·have hg := growslice_fits (bytes := 1) (need := n + m) (old := cap) (by omega) (by omega)
   have hg2 : ¬ (281474976710656 < Builtin.nextslicecap (n + m) cap) := by omega
   simp [Builtin.append_, run_underlying ht, run_underlying hti, run_underlying hts, sizeOf, typeInfo, zeroValue, hi, hz, hsize, hby, asInt, asIntOf, hw, h0, h48, zstr_size, Builtin.lenOf, hr, Builtin.firstCells, hfl, hfa, hzc, hm, hg2, hmax, Question.forced]
theorem app_zeros {P : Program} {t ti ts ty e : TypeId} (ht : P.underlying t = some (.slice e)) (hti : P.underlying ti = some (.int .i64)) (hts : P.underlying ts = some .string) (he : (P.info? e).map (fun i => (i.zero, i.size, i.bytes)) = some (some (.int .u8 0), 1, 1))
 {w : World} {base n m : Nat} {v : Value} {xs : List Value} (hv : w.ownsRow base e 1 v n xs) (hb : n + m ≤ 1000000000) (hbase : base ≤ w.heap.size) :
 ∃ v' w', (appSem #[t, ti] ty #[v, .int .i64 (m : Int)]).run P w = .ok v' w' ∧ w'.ownsRow base e 1 v' (n + m) (xs ++ List.replicate m (Value.int .u8 0)) ∧ Below base w w' := by
 obtain ⟨i, hi, hz0, hz1, hz2⟩ := info_parts he
 obtain ⟨v', w', h1, h2, h3, -⟩ := Lib.run_append_own_string (P := P) w base t ts ty e i ht hts hi hz0 hz1 hz2 v n xs hv (zstr m) (by rw [zstr_size]; unfold maxLen; omega) (by rw [zstr_size]; omega) hbase
 rw [zstr_size] at h2
 have hc : Lib.strCells (zstr m) = List.replicate m (Value.int .u8 0) := by simp [Lib.strCells, zstr]
 rw [hc] at h2
 refine ⟨v', w', ?_, h2, (Below.refl _ _).grown h3 hbase (fun k hk => (hv.lt k hk).1)⟩
 obtain ⟨a, c, rfl⟩ : ∃ a c, v = .slice a n c := by
  rcases hv.2 with ⟨rfl, rfl⟩ | ⟨g, cap, cur, rfl, _⟩
  ·exact ⟨_, _, rfl⟩
  ·exact ⟨_, _, rfl⟩
 rw [← h1]
 exact run_append_made ht hti hts hi hz0 hz1 hz2 w a n c m hb
attribute [local go_sem ↓] appSem_eq
theorem info_u8 : (Tryz.prog.info? 5).map (fun i => (i.zero, i.size, i.bytes)) = some (some (.int .u8 0), 1, 1) := by kernel_rfl
theorem cellsL_one (f : Nat → Nat) (L : Nat) : ∀ x ∈ cellsL f L, x.oneCell' = true := by
 intro x hx
 simp only [cellsL, List.mem_map, Spr.by8] at hx
 obtain ⟨i, _, rfl⟩ := hx
 rfl
theorem clone8_any {w : World} {r n c : Nat} {f : Nat → Nat} (h : RowAt w r n c f) (hn : n ≤ 1000000) :
 Calls Tryz.prog 208 #[.slice (some ⟨r, 0, none⟩) n c] w (Vm.ClonePost w 5 1 n (cellsL f n)) := by
 have hE : (w.alloc (.cells #[] 5)).ownsRow w.heap.size 5 1 (.slice (some ⟨w.heap.size, 0, none⟩) 0 0) 0 [] :=
  ⟨rfl, .inr ⟨w.heap.size, 0, #[], rfl, Nat.le_refl _, heap_alloc_new w _, Nat.le_refl _, by unfold maxLen; omega, rfl, rfl⟩⟩
 obtain ⟨v', w', hrun, hown, hb'⟩ := Vm.app_row Tryz.underlying136 info_u8 rfl (by omega) (by omega) hE (own_ext h (Stab.Ext.alloc w (.cells #[] 5))) (cellsL_one f n) (by omega) (by simp)
 have HO := Lib.hid hown
 have HB := Lib.hid (((Below.refl w.heap.size w).alloc (Nat.le_refl _) (.cells #[] 5)).trans hb')
 have hq := fun w => Vm.ne_nil Tryz.underlying136 ⟨r, 0, none⟩ n c w
 clear h hown hb' hE
 go_enter Tryz.func208, Tryz.ntmps208
 go_wp2_with fail
 go_ret
 exact ⟨_, rfl, by simpa using HO.out, HB.out⟩
end Sol
end Go.Proofs.YtnbkhdbligjifaaGreatDoor
