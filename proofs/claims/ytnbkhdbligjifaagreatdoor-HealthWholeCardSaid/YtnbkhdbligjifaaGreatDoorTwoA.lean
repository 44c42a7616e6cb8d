/-
 A drawn region inside a round of a range over a function: what is walked outside holds there too. Two rows of the call's own, each appended to in one region; numbers and texts of a row.
-/
import Derived.Test.YtnbkhdbligjifaaGreatDoorVMaps
import Derived.OrdersIn
import Derived.OwnWalkIn
import Derived.RangeFuncIn
import Derived.RangeFuncBox
import Derived.Test.YtnbkhdbligjifaaGreatDoorRangeB
import Derived.Test.YtnbkhdbligjifaaGreatDoorCodL
set_option linter.unusedVariables false
set_option linter.unusedSimpArgs false
namespace Go.Proofs.YtnbkhdbligjifaaGreatDoor
open Go Go.RowKit
namespace Stab
variable {P : Program} {Q : Exit → Act → World → Prop} {F : Fence} {n : Nat}
theorem wide_fn (hw : F.plain = Fence.wide) (f : FuncId) : F.fn f := (show F.plain.fn f by rw [hw]; trivial)
theorem wide_depth (hw : F.plain = Fence.wide) : F.depth = none := (show F.plain.depth = none by rw [hw]; rfl)
theorem wide_fenced (hw : F.plain = Fence.wide) : Machine.fenced P F = Machine.fenced P Fence.wide := by rw [← fenced_plain P F, hw]
theorem callsIn_round (hw : F.plain = Fence.wide) {f : FuncId} {args : Array Value} {w : World} {R : Ending → World → Prop} (h : Calls P f args w R) : CallsIn F n P f args w R :=
 ⟨wide_fn hw f, fun cs _ => let ⟨e, w', fr, r, s, x⟩ := h cs; ⟨e, w', fr, r, by rw [wide_fenced hw]; exact comesIn_wide.2 s, x⟩⟩
theorem rowsIn_round (hw : F.plain = Fence.wide) {row : String} {args : Array Value} {w : World} {R : Value → World → Prop} (h : Rows P row args w R) : RowsIn F n P row args w R :=
 fun c cs _ => let ⟨v, w', r, s⟩ := h c cs; ⟨v, w', r, by rw [wide_fenced hw]; exact stepsIn_wide.2 s⟩
theorem upon_round (hw : F.plain = Fence.wide) {o : Oper} {a : Act} {next next' : Act → World → Prop} (hn : ∀ a w, next a w → next' a w) {r : Result Next} (h : o.upon P a next Q r) : o.uponIn F n P a next' Q r := by
 cases r with
 | ok x w' =>
   cases x <;> simp only [Oper.upon, Oper.uponIn] at h ⊢ <;>
    first
     | exact hn _ _ h
     | exact h
     | exact ⟨fun h0 => (by rw [wide_depth hw] at h0; cases h0), callsIn_round hw (h.mono fun e w'' he => by cases e <;> first | exact hn _ _ he | exact he)⟩
     | exact ⟨fun h0 => (by rw [wide_depth hw] at h0; cases h0), rowsIn_round hw (h.mono fun _ _ he => hn _ _ he)⟩
 | halt x w' => cases x <;> simp only [Oper.upon, Oper.uponIn] at h ⊢ <;> exact h
theorem wp_round (hw : F.plain = Fence.wide) {o : Oper} (ho : ∀ c, o.op ≠ .defer c) {a : Act} {w : World} {next next' : Act → World → Prop} (hn : ∀ a w, next a w → next' a w) (h : o.wp P a w next Q) : o.wpIn F n P a w next' Q :=
 ⟨fun f _ => wide_fn hw f, by rw [Oper.semAt_plain _ _ _ ho]; exact upon_round hw hn h⟩
def noDefer (l : List Oper) : Bool := l.all fun o => match o.op with | .defer _ => false | _ => true
theorem noDefer_get {l : List Oper} (h : noDefer l = true) {i : Nat} {o : Oper} (ho : l.toArray[i]? = some o) (c : _) : o.op ≠ .defer c := by
 intro hc
 have hm : o ∈ l := List.mem_of_getElem? (by simpa using ho)
 have := List.all_eq_true.1 h o hm
 rw [hc] at this
 cases this
theorem any_round (hw : F.plain = Fence.wide) {md : Region.Mode} {l : List Oper} (hd : noDefer l = true) (hL : ¬ LetsOut Q) : ∀ (f : Nat) (listed : Array Bool) (a : Act) (w : World), wpAny P md l.toArray Q f listed a w → wpAnyIn F n P md l.toArray Q f listed a w
 | 0, _, _, _, h => h
 | f + 1, listed, a, w, h => by
   refine ⟨h.1, fun i hi => ?_⟩
   have h2 := h.2 i hi
   unfold wpOp at h2
   unfold wpOpIn
   split
   ·rename_i hn
    simp only [hn] at h2
    exact any_round hw hd hL f _ _ _ h2
   ·rename_i o ho
    simp only [ho] at h2
    split
    ·rename_i h3
     simp only [h3, if_true] at h2
     exact wp_round hw (noDefer_get hd ho) (fun a w hh => any_round hw hd hL f _ a w hh) (h2.resolve_right fun hh => hL hh.2)
    ·rename_i h3
     simp only [h3] at h2
     exact ⟨fun f _ => wide_fn hw f, any_round hw hd hL f _ _ _ h2⟩
theorem wpIn_region_stable {id : Nat} {l : List Oper} {a0 : Act} {w : World} {G : (Nat → Value) → Act} (m size : Nat) (ds : List (Option Tmp)) (ns : List (List Nat)) (keep : List Nat) (S : World → Prop) (Vs : List SVal)
 (hw : F.plain = Fence.wide) (hm : P.follows .mixedOrders = true) (hsize : a0.tmps.size = size) (hd : noDefer l = true) (hL : ¬ LetsOut Q) (hB : okB l m size ds ns = true) (hk : keep.all (fun j => decide (j < m)) = true) (hF : ∀ us, putAll us 0 ds a0 = G us)
 (hS0 : S w.drew) (hS : ∀ w1 w2, S w1 → Ext w1 w2 → S w2)
 (hg : Goals P Q w.drew S Vs G 0 (l.take m) ns) (hend : ∀ us w', Ext w.drew w' → S w' → PreL (vals Vs) us w' keep → wpList P l.toArray Q (l.drop m) (G us) w') : (Code.region id l.toArray true).wpIn F n P Q a0 w := by
 subst hsize
 have hB' := hB
 simp only [okB, Bool.and_eq_true, decide_eq_true_eq] at hB'
 have hn : m ≤ l.length := hB'.1.1.1.1.1.1.1
 refine wpIn_region_any hm (any_round hw hd hL _ _ _ _ ?_)
 have h := stable_any (P := P) (Q := Q) (E := Ext) (V := vals Vs) (a0 := a0) (w0 := w.drew) (keep := keep) hF hB (fun _ _ _ => Ext.trans) (fun j v w1 w2 hv hE => ((Vs.getD j anyv).st v w1 w2 hv hE)) hk
  (Goals.to (fun w' hE => hS _ _ hS0 hE) hg) (fun us w' hE hp => hend us w' hE (hS _ _ hS0 hE) hp) m (Array.replicate l.toArray.size false) a0 w.drew ⟨List.range m, by simp, fun j hj => .inr (List.mem_range.2 hj)⟩
  ⟨⟨by simp, fun j oj _ hl => (by rw [getD_replicate_false] at hl; cases hl), fun t _ ht => getD_in (by simpa using ht) (getD_replicate_false _ _)⟩, Ext.refl _, rfl, rfl, fun _ _ => rfl,
    fun j _ hl => (by rw [getD_replicate_false] at hl; cases hl)⟩
 rw [show m + (l.length - m) = l.toArray.size by simp; omega] at h
 exact h
theorem Goals.store {w0 : World} {S : World → Prop} {Vs : List SVal} {G : (Nat → Value) → Act} {i : Nat} {o : Oper} {r : List Oper} {m : List Nat} {ns : List (List Nat)} (hgd : o.guard = none) (hd : o.dst = none)
 (h : ∀ (us : Nat → Value) (w : World) (K : Value → World → Prop), Ext w0 w → S w → PreL (vals Vs) us w m → (∀ v w', vals Vs i v w' → Ext w w' → K v w') →
  Oper.wp P o (G us) w (fun a' w' => a'.defers = (G us).defers ∧ K undef w') Q)
 (hr : Goals P Q w0 S Vs G (i + 1) r ns) : Goals P Q w0 S Vs G i (o :: r) (m :: ns) := by
 refine ⟨fun us w K hE hS hp hK => ?_, hr⟩
 have := h us w K hE hS hp hK
 rw [hgd, hd]
 exact this
theorem Goals.take {w0 : World} {S : World → Prop} {Vs : List SVal} {G : (Nat → Value) → Act} {i : Nat} {o : Oper} {r : List Oper} {m : List Nat} {ns : List (List Nat)} {d : Tmp} {j : Nat} {b : Bool} (hgd : o.guard = some (j, b)) (hd : o.dst = some d)
 (h : ∀ (us : Nat → Value) (w : World) (K : Value → World → Prop), Ext w0 w → S w → PreL (vals Vs) us w m → (∀ v w', vals Vs i v w' → Ext w w' → K v w') →
  us j = .bool b ∧ Oper.wp P o (G us) w (fun a' w' => a'.defers = (G us).defers ∧ K (a'.eval (.tmp d)) w') Q)
 (hr : Goals P Q w0 S Vs G (i + 1) r ns) : Goals P Q w0 S Vs G i (o :: r) (m :: ns) :=
 Goals.guarded hgd hd (fun us w K hE hS hp hK => let ⟨h1, h2⟩ := h us w K hE hS hp hK; ⟨b, h1, fun _ => h2, fun hn => absurd rfl hn⟩) hr
theorem Goals.skip {w0 : World} {S : World → Prop} {Vs : List SVal} {G : (Nat → Value) → Act} {i : Nat} {o : Oper} {r : List Oper} {m : List Nat} {ns : List (List Nat)} {d : Tmp} {j : Nat} {b : Bool} (hgd : o.guard = some (j, b)) (hd : o.dst = some d)
 (h : ∀ (us : Nat → Value) (w : World) (K : Value → World → Prop), Ext w0 w → S w → PreL (vals Vs) us w m → (∀ v w', vals Vs i v w' → Ext w w' → K v w') → us j = .bool (!b) ∧ K undef w)
 (hr : Goals P Q w0 S Vs G (i + 1) r ns) : Goals P Q w0 S Vs G i (o :: r) (m :: ns) :=
 Goals.guarded hgd hd (fun us w K hE hS hp hK => let ⟨h1, h2⟩ := h us w K hE hS hp hK; ⟨!b, h1, fun hn => (by cases b <;> cases hn), fun _ => h2⟩) hr
theorem ext_same {W : World} {g : Nat} {t : TypeId} {v : Value} (h : Boxed W g t v) : Ext W (W.setCell ⟨g, 0, none⟩ v) :=
 ⟨rfl, rfl, rfl, by simp [World.setCell], fun k hk => by
  by_cases hkg : k = g
  ·subst hkg; exact (h.set v).trans h.symm
  ·exact Below.heap_setCell _ _ _ _ hkg⟩
/-! ### with any relation between worlds -/
def GoalE (P : Program) (Q : Exit → Act → World → Prop) (E : World → World → Prop) (w0 : World) (S : World → Prop) (V : Nat → Value → World → Prop) (G : (Nat → Value) → Act) (i : Nat) (o : Oper) (ns : List Nat) : Prop :=
 ∀ (us : Nat → Value) (w : World) (K : Value → World → Prop), E w0 w → S w → PreL V us w ns → (∀ v w', V i v w' → E w w' → K v w') → Oper.wp P o (G us) w (fun a' w' => a'.defers = (G us).defers ∧ K (slot o.dst a') w') Q
def GoalsE (P : Program) (Q : Exit → Act → World → Prop) (E : World → World → Prop) (w0 : World) (S : World → Prop) (V : Nat → Value → World → Prop) (G : (Nat → Value) → Act) : Nat → List Oper → List (List Nat) → Prop
 | _, [], _ => True
 | i, o :: r, ns => (o.guard = none ∧ GoalE P Q E w0 S V G i o (ns.headD [])) ∧ GoalsE P Q E w0 S V G (i + 1) r ns.tail
section
variable {E : World → World → Prop} {w0 : World} {S : World → Prop} {V : Nat → Value → World → Prop} {G : (Nat → Value) → Act}
theorem GoalsE.to (hS : ∀ w, E w0 w → S w) : ∀ {l : List Oper} {i : Nat} {ns : List (List Nat)}, GoalsE P Q E w0 S V G i l ns → OpGoals P Q E w0 V G i l ns
 | [], _, _, _ => trivial
 | _ :: _, _, _, h => ⟨fun us w K hE hp hK => by rw [h.1.1]; exact h.1.2 us w K hE (hS w hE) hp hK, GoalsE.to hS h.2⟩
theorem GoalsE.nil {i : Nat} {ns : List (List Nat)} : GoalsE P Q E w0 S V G i [] ns := trivial
theorem GoalsE.plain {i : Nat} {o : Oper} {r : List Oper} {m : List Nat} {ns : List (List Nat)} {d : Tmp} (hgd : o.guard = none) (hd : o.dst = some d)
 (h : ∀ (us : Nat → Value) (w : World) (K : Value → World → Prop), E w0 w → S w → PreL V us w m → (∀ v w', V i v w' → E w w' → K v w') → Oper.wp P o (G us) w (fun a' w' => a'.defers = (G us).defers ∧ K (a'.eval (.tmp d)) w') Q)
 (hr : GoalsE P Q E w0 S V G (i + 1) r ns) : GoalsE P Q E w0 S V G i (o :: r) (m :: ns) :=
 ⟨⟨hgd, fun us w K hE hS hp hK => by have := h us w K hE hS hp hK; rw [hd]; exact this⟩, hr⟩
structure EVal (E : World → World → Prop) where
 p : Value → World → Prop
 st : ∀ v w w', p v w → E w w' → p v w'
def eqE (E : World → World → Prop) (x : Value) : EVal E := ⟨fun v _ => v = x, fun _ _ _ h _ => h⟩
def anyE (E : World → World → Prop) : EVal E := ⟨fun _ _ => True, fun _ _ _ _ _ => trivial⟩
def valsE {E : World → World → Prop} (l : List (EVal E)) (j : Nat) : Value → World → Prop := (l.getD j (anyE E)).p
theorem wpIn_region_E {id : Nat} {l : List Oper} {a0 : Act} {w : World} (m size : Nat) (ds : List (Option Tmp)) (ns : List (List Nat)) (keep : List Nat) (S : World → Prop) (Vs : List (EVal E))
 (hw : F.plain = Fence.wide) (hm : P.follows .mixedOrders = true) (hsize : a0.tmps.size = size) (hd : noDefer l = true) (hL : ¬ LetsOut Q) (hB : okB l m size ds ns = true) (hk : keep.all (fun j => decide (j < m)) = true) (hF : ∀ us, putAll us 0 ds a0 = G us)
 (hr : E w.drew w.drew) (htr : ∀ a b c, E a b → E b c → E a c) (hS : ∀ w', E w.drew w' → S w')
 (hg : GoalsE P Q E w.drew S (valsE Vs) G 0 (l.take m) ns) (hend : ∀ us w', E w.drew w' → S w' → PreL (valsE Vs) us w' keep → wpList P l.toArray Q (l.drop m) (G us) w') : (Code.region id l.toArray true).wpIn F n P Q a0 w := by
 subst hsize
 have hB' := hB
 simp only [okB, Bool.and_eq_true, decide_eq_true_eq] at hB'
 have hn : m ≤ l.length := hB'.1.1.1.1.1.1.1
 refine wpIn_region_any hm (any_round hw hd hL _ _ _ _ ?_)
 have h := stable_any (P := P) (Q := Q) (E := E) (V := valsE Vs) (a0 := a0) (w0 := w.drew) (keep := keep) hF hB htr (fun j v w1 w2 hv hE => ((Vs.getD j (anyE E)).st v w1 w2 hv hE)) hk
  (hg.to hS) (fun us w' hE hp => hend us w' hE (hS _ hE) hp) m (Array.replicate l.toArray.size false) a0 w.drew ⟨List.range m, by simp, fun j hj => .inr (List.mem_range.2 hj)⟩
  ⟨⟨by simp, fun j oj _ hl => (by rw [getD_replicate_false] at hl; cases hl), fun t _ ht => getD_in (by simpa using ht) (getD_replicate_false _ _)⟩, hr, rfl, rfl, fun _ _ => rfl,
    fun j _ hl => (by rw [getD_replicate_false] at hl; cases hl)⟩
 rw [show m + (l.length - m) = l.toArray.size by simp; omega] at h
 exact h
end
end Stab
end Go.Proofs.YtnbkhdbligjifaaGreatDoor
namespace Go.Proofs.YtnbkhdbligjifaaGreatDoor
open Go Go.RowKit Vm
theorem row_far {W : World} {b b' : Nat} {e e' : TypeId} {s s' : Nat} {v v' : Value} {n n' : Nat} {xs xs' : List Value} (h : W.ownsRow b e s v n xs) (h' : W.ownsRow b' e' s' v' n' xs') (hne : e ≠ e') {g : Nat} (hg : v.ownBlock = some g) : v'.ownBlock ≠ some g := by
 intro hg'
 rcases h.2 with ⟨rfl, _⟩ | ⟨g1, c1, u1, rfl, _, h1, _⟩
 ·cases hg
 rcases h'.2 with ⟨rfl, _⟩ | ⟨g2, c2, u2, rfl, _, h2, _⟩
 ·cases hg'
 have q1 : g1 = g := by simpa [Value.ownBlock] using hg
 have q2 : g2 = g := by simpa [Value.ownBlock] using hg'
 subst q1; subst q2
 rw [h1] at h2
 simp at h2
 exact hne h2.2
theorem row_cells {W : World} {b : Nat} {e : TypeId} {s : Nat} {v : Value} {n : Nat} {xs : List Value} (h : W.ownsRow b e s v n xs) {g : Nat} (hg : v.ownBlock = some g) : ∃ o : Obj, W.heap[g]? = some o ∧ o.isCells = true := by
 rcases h.2 with ⟨rfl, _⟩ | ⟨g1, c1, u1, rfl, _, h1, _⟩
 ·cases hg
 ·have q1 : g1 = g := by simpa [Value.ownBlock] using hg
  subst q1
  exact ⟨_, h1, rfl⟩
theorem keeps_grown {W W' : World} {row : Option Nat} (h : W.grownBy W' row) (hc : ∀ g, row = some g → ∃ o : Obj, W.heap[g]? = some o ∧ o.isCells = true) : KeepsOthers W W' :=
 ⟨h.size, fun k o hk ho => by
  rw [h.block k (Array.getElem?_eq_some_iff.1 hk).1 fun e => by
   obtain ⟨o', h1, h2⟩ := hc k e.symm
   rw [hk] at h1; cases h1; rw [ho] at h2; cases h2]
  exact hk⟩
theorem keeps_ext {W W' : World} (h : Stab.Ext W W') : KeepsOthers W W' := ⟨h.size, fun k o hk _ => (h.block k (Array.getElem?_eq_some_iff.1 hk).1).trans hk⟩
theorem own_app_kept {P : Program} {t e : TypeId} {z : Value} {bytes : Nat} (ht : P.underlying t = some (.slice e)) (he : (P.info? e).map (fun i => (i.zero, i.size, i.bytes)) = some (some z, 1, bytes)) (hzs : z.cells.size = 1) (hb0 : 0 < bytes)
 {w : World} {base n gb c : Nat} {v : Value} {xs : List Value} {a : Value} (hv : w.ownsRow base e 1 v n xs) (hb : Blk w gb e #[a]) (h1 : a.oneCell' = true)
 (hby : (n + 1) * bytes ≤ 70368744177664) (hbase : base ≤ w.heap.size) :
 ∃ g cap w', (appSem #[t, t] t #[v, .slice (some ⟨gb, 0, none⟩) 1 c]).run P w = .ok (.slice (some ⟨g, 0, none⟩) (n + 1) cap) w' ∧ w'.ownsRow base e 1 (.slice (some ⟨g, 0, none⟩) (n + 1) cap) (n + 1) (xs ++ [a]) ∧
  w.grownBy w' v.ownBlock ∧ w'.ownsRow base e 1 v n xs ∧ ∀ b u, w.ownsRow b e 1 u (n + 1) (xs ++ [a]) → w'.ownsRow b e 1 u (n + 1) (xs ++ [a]) := by
 obtain ⟨g, cap, w', hrun, h2, -, h4, -⟩ := own_app (t := t) (c := c) ht he hzs (by omega) hb0 hv hb (m := 1) (by simp) (by simp [h1]) (by omega) (by omega) hbase
 refine ⟨g, cap, w', hrun, h2, h4, ?_⟩
 obtain ⟨i, hi, hz0, hz1, hz2⟩ := info_parts he
 have hle : n + 1 ≤ (n + 1) * bytes := Nat.le_mul_of_pos_right _ hb0
 have hnews : ∀ j u, [a][j]? = some u → w.cell? ((⟨gb, 0, none⟩ : Addr).add j) = some u := Stab.cells_blk (l := [a]) (by simpa using hb)
 have moved : Stab.Ext w w' → w'.ownsRow base e 1 v n xs ∧ ∀ b u, w.ownsRow b e 1 u (n + 1) (xs ++ [a]) → w'.ownsRow b e 1 u (n + 1) (xs ++ [a]) := fun hE => ⟨own_ext hv hE, fun b u hu => own_ext hu hE⟩
 have hE2 : ∀ o, Stab.Ext w (w.drew.alloc o) := fun o => (Stab.Ext.drew _).trans (Stab.Ext.alloc _ _)
 rcases hv.2 with ⟨rfl, rfl⟩ | ⟨g0, cap0, cur, rfl, hbg, hg, hnc, hcm, hcs, htake⟩
 ·have hr := run_append_nil (P := P) w t t e i z ht hi hz0 ⟨gb, 0, none⟩ 1 c [a] (by rw [hz1]; rfl) hnews (by omega) (by omega) (by rw [hz2]; omega)
  have he' : (appSem #[t, t] t #[.slice none 0 0, .slice (some ⟨gb, 0, none⟩) 1 c]).run P w = _ := hr
  have hw := (Result.ok.inj (he'.symm.trans hrun)).2
  subst hw
  exact moved (hE2 _)
 ·by_cases hroom : n + 1 ≤ cap0
  ·have hr := run_append_room (P := P) w t t e i ht hi g0 n cap0 cur hg ⟨gb, 0, none⟩ 1 c [a] (by rw [hz1]; rfl) hnews (by simpa using h1) hroom (by rw [hz1, hcs]; simpa using hroom)
   have he' : (appSem #[t, t] t #[.slice (some ⟨g0, 0, none⟩) n cap0, .slice (some ⟨gb, 0, none⟩) 1 c]).run P w = _ := hr
   have hw := (Result.ok.inj (he'.symm.trans hrun)).2
   subst hw
   rw [hz1, Nat.mul_one] at h2 ⊢
   rw [Nat.mul_one] at hcs htake
   have hxl : xs.length = n := by have := hv.1; omega
   have hnew := setRow_heap w g0 cur (cur.toList.take n ++ [a] ++ cur.toList.drop (n + [a].length)).toArray e (0, 0) hg
   have hsz : (cur.toList.take n ++ [a] ++ cur.toList.drop (n + [a].length)).toArray.size = cap0 := by simp; omega
   refine ⟨⟨hv.1, .inr ⟨g0, cap0, _, rfl, hbg, hnew, hnc, hcm, by omega, ?_⟩⟩, fun b u hu => ?_⟩
   ·rw [Nat.mul_one, htake, List.append_assoc, List.take_left' (by omega)]
   ·rcases hu.2 with ⟨_, h0⟩ | ⟨g1, cap1, cur1, rfl, hb1, hg1, hn1, hm1, hs1, ht1⟩
    ·omega
    ·by_cases hgg : g1 = g0
     ·subst hgg
      rw [hg] at hg1
      cases hg1
      refine ⟨hu.1, .inr ⟨g1, cap1, _, rfl, hb1, hnew, hn1, hm1, by omega, ?_⟩⟩
      rw [Nat.mul_one, htake, List.take_left' (by simp; omega)]
     ·exact ⟨hu.1, .inr ⟨g1, cap1, cur1, rfl, hb1, (setRow_other w g0 g1 _ hgg).trans hg1, hn1, hm1, hs1, ht1⟩⟩
  ·have holds : ∀ j u, xs[j]? = some u → w.cell? ((⟨g0, 0, none⟩ : Addr).add j) = some u := hv.cells (g := g0) rfl
   have hr := run_append_grow (P := P) w t t e i z ht hi hz0 ⟨g0, 0, none⟩ n cap0 xs (by rw [hz1]; exact hv.1) holds ⟨gb, 0, none⟩ 1 c [a] (by rw [hz1]; rfl) hnews (by omega) (by omega) (growslice_fits (by omega) (by rw [hz2]; omega))
   have he' : (appSem #[t, t] t #[.slice (some ⟨g0, 0, none⟩) n cap0, .slice (some ⟨gb, 0, none⟩) 1 c]).run P w = _ := hr
   have hw := (Result.ok.inj (he'.symm.trans hrun)).2
   subst hw
   exact moved (hE2 _)
structure EAB (base : Nat) (e1 e2 : TypeId) (v1 v2 : Value) (n1 n2 : Nat) (xs1 xs2 : List Value) (a c : Value) (w w' : World) : Prop where
 os : w'.os = w.os
 tape : w'.tape = w.tape
 output : w'.output = w.output
 size : w.heap.size ≤ w'.heap.size
 blk : ∀ k, k < w.heap.size → some k ≠ v1.ownBlock → some k ≠ v2.ownBlock → w'.heap[k]? = w.heap[k]?
 keep : KeepsOthers w w'
 a0 : w.ownsRow base e1 1 v1 n1 xs1 → w'.ownsRow base e1 1 v1 n1 xs1
 b0 : w.ownsRow base e2 1 v2 n2 xs2 → w'.ownsRow base e2 1 v2 n2 xs2
 a1 : ∀ u, w.ownsRow base e1 1 u (n1 + 1) (xs1 ++ [a]) → w'.ownsRow base e1 1 u (n1 + 1) (xs1 ++ [a])
 b1 : ∀ u, w.ownsRow base e2 1 u (n2 + 1) (xs2 ++ [c]) → w'.ownsRow base e2 1 u (n2 + 1) (xs2 ++ [c])
section
variable {base : Nat} {e1 e2 : TypeId} {v1 v2 : Value} {n1 n2 : Nat} {xs1 xs2 : List Value} {a c : Value} {w w' w2 : World}
theorem EAB.ext (h : Stab.Ext w w') : EAB base e1 e2 v1 v2 n1 n2 xs1 xs2 a c w w' :=
 ⟨h.os, h.tape, h.output, h.size, fun k hk _ _ => h.block k hk, keeps_ext h, fun k => own_ext k h, fun k => own_ext k h, fun _ k => own_ext k h, fun _ k => own_ext k h⟩
theorem EAB.refl : EAB base e1 e2 v1 v2 n1 n2 xs1 xs2 a c w w := EAB.ext (Stab.Ext.refl _)
theorem EAB.trans (h : EAB base e1 e2 v1 v2 n1 n2 xs1 xs2 a c w w') (k : EAB base e1 e2 v1 v2 n1 n2 xs1 xs2 a c w' w2) : EAB base e1 e2 v1 v2 n1 n2 xs1 xs2 a c w w2 :=
 ⟨k.os.trans h.os, k.tape.trans h.tape, k.output.trans h.output, Nat.le_trans h.size k.size, fun x hx p q => (k.blk x (Nat.lt_of_lt_of_le hx h.size) p q).trans (h.blk x hx p q), h.keep.trans k.keep,
  fun x => k.a0 (h.a0 x), fun x => k.b0 (h.b0 x), fun u x => k.a1 u (h.a1 u x), fun u x => k.b1 u (h.b1 u x)⟩
theorem EAB.one (hne : e1 ≠ e2) (h0 : w.ownsRow base e1 1 v1 n1 xs1) (hg : w.grownBy w' v1.ownBlock) (k0 : w'.ownsRow base e1 1 v1 n1 xs1) (k1 : ∀ b u, w.ownsRow b e1 1 u (n1 + 1) (xs1 ++ [a]) → w'.ownsRow b e1 1 u (n1 + 1) (xs1 ++ [a])) :
 EAB base e1 e2 v1 v2 n1 n2 xs1 xs2 a c w w' :=
 have far : ∀ {b s u m ys}, w.ownsRow b e2 s u m ys → w'.ownsRow b e2 s u m ys := fun hu => row_heap hu fun g hgu => hg.block g (row_lt hu hgu) fun e => row_far hu h0 (Ne.symm hne) hgu e.symm
 ⟨hg.os, hg.tape, hg.output, hg.size, fun k hk p _ => hg.block k hk p, keeps_grown hg fun g hgg => row_cells h0 hgg, fun _ => k0, far, fun u => k1 base u, fun u => far⟩
theorem EAB.two (hne : e1 ≠ e2) (h0 : w.ownsRow base e2 1 v2 n2 xs2) (hg : w.grownBy w' v2.ownBlock) (k0 : w'.ownsRow base e2 1 v2 n2 xs2) (k1 : ∀ b u, w.ownsRow b e2 1 u (n2 + 1) (xs2 ++ [c]) → w'.ownsRow b e2 1 u (n2 + 1) (xs2 ++ [c])) :
 EAB base e1 e2 v1 v2 n1 n2 xs1 xs2 a c w w' :=
 have far : ∀ {b s u m ys}, w.ownsRow b e1 s u m ys → w'.ownsRow b e1 s u m ys := fun hu => row_heap hu fun g hgu => hg.block g (row_lt hu hgu) fun e => row_far hu h0 hne hgu e.symm
 ⟨hg.os, hg.tape, hg.output, hg.size, fun k hk _ q => hg.block k hk q, keeps_grown hg fun g hgg => row_cells h0 hgg, far, fun _ => k0, fun u => far, fun u => k1 base u⟩
def ptrE (base : Nat) (e1 e2 : TypeId) (v1 v2 : Value) (n1 n2 : Nat) (xs1 xs2 : List Value) (a c : Value) (t : TypeId) (cs : Array Value) : Stab.EVal (EAB base e1 e2 v1 v2 n1 n2 xs1 xs2 a c) :=
 ⟨fun v W => ∃ g, v = .slice (some ⟨g, 0, none⟩) 1 1 ∧ some g ≠ v1.ownBlock ∧ some g ≠ v2.ownBlock ∧ Blk W g t cs, fun _ _ _ ⟨g, h1, h2, h3, h4⟩ hE => ⟨g, h1, h2, h3, (hE.blk g h4.lt h2 h3).trans h4⟩⟩
def oneE (base : Nat) (e1 e2 : TypeId) (v1 v2 : Value) (n1 n2 : Nat) (xs1 xs2 : List Value) (a c : Value) : Stab.EVal (EAB base e1 e2 v1 v2 n1 n2 xs1 xs2 a c) :=
 ⟨fun v W => (∃ g cap, v = .slice (some ⟨g, 0, none⟩) (n1 + 1) cap) ∧ W.ownsRow base e1 1 v (n1 + 1) (xs1 ++ [a]), fun v _ _ h hE => ⟨h.1, hE.a1 v h.2⟩⟩
def twoE (base : Nat) (e1 e2 : TypeId) (v1 v2 : Value) (n1 n2 : Nat) (xs1 xs2 : List Value) (a c : Value) : Stab.EVal (EAB base e1 e2 v1 v2 n1 n2 xs1 xs2 a c) :=
 ⟨fun v W => (∃ g cap, v = .slice (some ⟨g, 0, none⟩) (n2 + 1) cap) ∧ W.ownsRow base e2 1 v (n2 + 1) (xs2 ++ [c]), fun v _ _ h hE => ⟨h.1, hE.b1 v h.2⟩⟩
end
theorem wp_app {P : Program} {o : Oper} {a : Act} {K : Act → World → Prop} {Q : Exit → Act → World → Prop} {w w' : World} {s x : Operand} {t : TypeId} {v u r : Value}
 (ho : o.op = .call { callee := .builtin .append, args := #[s, x], argTypes := #[t, t] }) (hty : o.type = t) (hs : a.eval s = v) (hx : a.eval x = u) (hr : (appSem #[t, t] t #[v, u]).run P w = .ok r w') (h : K (a.put o.dst r) w') : o.wp P a w K Q := by
 have hr' : (Builtin.append_ #[t, t] t #[v, u]).run P w = .ok r w' := hr
 unfold Oper.wp execOp
 simp only [ho, hty, resolve, invoke, builtin, Sem.run_bind, Sem.run_pure, Result.andThen_ok, List.map_toArray, List.map_cons, List.map_nil, hs, hx, hr']
 exact h
theorem ints_row {W : World} {b : Nat} {e : TypeId} {v : Value} {l : List Nat} (h : W.ownsRow b e 1 v l.length (l.map fun x => .int .i64 (x : Nat))) : Cod.IntsN W v l := by
 rcases h.2 with ⟨rfl, h0⟩ | ⟨g, cap, cur, rfl, _, hg, hn, _, _, ht⟩
 ·have : l = [] := List.eq_nil_of_length_eq_zero h0
  subst this
  exact ⟨none, 0, rfl, Nat.le_refl _, fun i x hi => by cases hi⟩
 ·refine ⟨_, cap, rfl, hn, fun i x hi => ⟨g, 0, rfl, ?_⟩⟩
  have := h.cells (g := g) rfl i (.int .i64 (x : Nat)) (by rw [List.getElem?_map, hi]; rfl)
  rwa [show (⟨g, 0, none⟩ : Addr).add i = ⟨g, 0 + i, none⟩ by cases i <;> simp [Addr.add]] at this
theorem strs_row {W : World} {b : Nat} {e : TypeId} {v : Value} {l : List (List UInt8)} (h : W.ownsRow b e 1 v l.length (l.map fun x => .string ⟨x.toArray⟩)) : Cod.StrsN W v l := by
 rcases h.2 with ⟨rfl, h0⟩ | ⟨g, cap, cur, rfl, _, hg, hn, _, _, ht⟩
 ·have : l = [] := List.eq_nil_of_length_eq_zero h0
  subst this
  exact ⟨none, 0, rfl, Nat.le_refl _, fun i x hi => by cases hi⟩
 ·refine ⟨_, cap, rfl, hn, fun i x hi => ⟨g, 0, rfl, ?_⟩⟩
  have := h.cells (g := g) rfl i (.string ⟨x.toArray⟩) (by rw [List.getElem?_map, hi]; rfl)
  rwa [show (⟨g, 0, none⟩ : Addr).add i = ⟨g, 0 + i, none⟩ by cases i <;> simp [Addr.add]] at this
end Go.Proofs.YtnbkhdbligjifaaGreatDoor
