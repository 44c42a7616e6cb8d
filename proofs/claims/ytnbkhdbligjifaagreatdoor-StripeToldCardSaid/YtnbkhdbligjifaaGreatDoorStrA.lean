/-
 The law HealthLooks: its walk. A row of faults as an argument, opened; numbers and texts; what the listed variables give the walks. A store in memory: its crash. A world in memory: its crash. A row of what survives as an argument, opened. A code, a bool and rows of bools and texts as arguments, opened. The stripe package: does a code fit a world; may a digest be asked for.
-/
import Derived.Test.YtnbkhdbligjifaaGreatDoorWldH
import Derived.Test.YtnbkhdbligjifaaGreatDoorRows
import Derived.Lib.SmallJoins
import Derived.LaidMore
import Derived.ProofKit
import Derived.OpenShut
import Derived.ShutString
import Derived.Stop.LaidErr
import Derived.Lib.LaidTab
import Derived.Handed
import Derived.HandedShaped
import Derived.Deep.Slices
import Derived.Deep.Fields
import Derived.ChangeSame
import Derived.Test.YtnbkhdbligjifaaGreatDoorWldB
import Derived.Test.YtnbkhdbligjifaaGreatDoorShdMake
import Derived.Test.YtnbkhdbligjifaaGreatDoorCodA
set_option linter.unusedVariables false
set_option linter.unusedSimpArgs false
set_option maxRecDepth 100000
set_option maxHeartbeats 40000000
namespace Go.Proofs.YtnbkhdbligjifaaGreatDoor
open Go Go.RowKit Vm
open scoped Classical
namespace Hlt
structure FaultsAt (w : World) (v : Value) (l : List Flt) : Prop where
 shape : ∃ A c, v = .slice A l.length c ∧ l.length ≤ c ∧ (0 < l.length → ∃ g o, A = some ⟨g, o, none⟩ ∧ g < w.heap.size ∧ ∀ i f, l[i]? = some f → w.cell? ⟨g, o + i * 5, none⟩ = some (.int .u8 f.kind) ∧ w.cell? ⟨g, o + i * 5 + 1, none⟩ = some (.int .i64 f.store) ∧
  w.cell? ⟨g, o + i * 5 + 2, none⟩ = some (.int .i64 f.n) ∧ w.cell? ⟨g, o + i * 5 + 3, none⟩ = some (.int .i64 f.at_) ∧ w.cell? ⟨g, o + i * 5 + 4, none⟩ = some (.int .i64 f.c))
 fits : ∀ f ∈ l, f.fits
end Hlt
end Go.Proofs.YtnbkhdbligjifaaGreatDoor
namespace Go.Proofs.YtnbkhdbligjifaaGreatDoor
open Go.ChangeShapes Go.WideShapes Go.ChangeAt Go.RowKit Go.Joins Go.Deep
namespace Shd
section
variable {H : Type} {enc : TypeId × Value → H} {P : Program} {w : World} {base : Nat} {spare : Nat → Bool} {held : Bool}
theorem open_slice_fields {t e : TypeId} {fs : Array Field} {fuel : Nat} {cs : List Value} {x : DataW H × List MemPlace} (ht : P.underlying t = some (.slice e)) (he : P.underlying e = some (.struct fs))
 (hone : oneCellFields P fs = true) (hC : P.cellsOf e = fs.size) (h : DataW.trod enc P w base spare held fuel t cs = some x) :
 (cs = [.slice none 0 0] ∧ x = (.nil, [])) ∨
 ∃ (a : Addr) (len cap m : Nat) (D : Nat → DataW H) (Pl : Nat → List MemPlace), cs = [.slice (some a) len cap] ∧ base ≤ a.block ∧ len ≤ cap ∧ cap ≤ maxLen ∧ m = (if spare a.block then cap else len) ∧
  x = (.slice ((List.range len).map D) ((List.range (m - len)).map fun j => D (len + j)), MemPlace.row a (m * fs.size) ++ (List.range m).flatMap Pl) ∧
  ∀ i, i < m → ∃ (ys : List (DataW H × List MemPlace)) (n : Nat), D i = .agg (ys.map (·.1)) ∧ Pl i = ys.flatMap (·.2) ∧ ys.length = fs.size ∧
   ∀ (j : Nat) (f : Field), fs[j]? = some f → ∃ (v : Value) (y : DataW H × List MemPlace), w.cell? (a.add (i * fs.size + j)) = some v ∧ ys[j]? = some y ∧ DataW.trod enc P w base spare held n f.type [v] = some y := by
 rcases open_slice ht h with h0 | ⟨a, len, cap, m, n, D, Pl, hcs, hb, hl, hm, hmm, hx, hi⟩
 ·exact .inl h0
 ·refine .inr ⟨a, len, cap, m, D, Pl, hcs, hb, hl, hm, hmm, by rw [hC] at hx; exact hx, fun i him => ?_⟩
  obtain ⟨cs', hc, ht'⟩ := hi i him
  rw [hC] at hc
  obtain ⟨ys, n', hn', hy, hlen, hyl, hf⟩ := DataW.trod_struct he ht'
  obtain ⟨_, hcl, hat⟩ := World.cells?_some hc
  simp only [Prod.mk.injEq] at hy
  refine ⟨ys, n', hy.1, hy.2, hyl, fun j f hj => ?_⟩
  obtain ⟨ho, hk⟩ := hone_of hone j f hj
  have hjl : j < fs.size := (Array.getElem?_eq_some_iff.1 hj).1
  have hcell := hat j hjl
  have hv : cs'[j]? = some (cs'[j]'(by omega)) := List.getElem?_eq_getElem (by omega)
  have h1 := hf j f hj
  rw [ho, hk] at h1
  have hone' : (cs'.drop j).take 1 = [cs'[j]'(by omega)] := by
   rw [List.drop_eq_getElem_cons (by omega)]
   rfl
  rw [hone'] at h1
  have hys : ys[j]? = some (ys[j]'(by omega)) := List.getElem?_eq_getElem (by omega)
  refine ⟨_, _, ?_, hys, h1.trans hys⟩
  rw [← Go.Deep.add_add, hcell, hv]
end
theorem open_i64 {H : Type} {enc : TypeId × Value → H} {w : World} {base : Nat} {spare : Nat → Bool} {held : Bool} {b0 : Nat} {r : Reach} {v : Value} {d : DataW H} {p : List MemPlace}
 (hv : Value.okWide Tryz.prog w r b0 3 v) (h : DataW.Trod enc Tryz.prog w base spare held 3 v d p) : ∃ a : Int, v = .int .i64 a ∧ I64 a := by
 obtain ⟨x, rfl, _, _, wx⟩ := open_int Tryz.underlying3 hv h
 have := bounds_i64 wx
 exact ⟨x, rfl, by omega, by omega⟩
theorem open_str {H : Type} {enc : TypeId × Value → H} {w : World} {base : Nat} {spare : Nat → Bool} {held : Bool} {b0 : Nat} {r : Reach} {v : Value} {d : DataW H} {p : List MemPlace}
 (hv : Value.okWide Tryz.prog w r b0 9 v) (h : DataW.Trod enc Tryz.prog w base spare held 9 v d p) : ∃ s : ByteArray, v = .string s := by
 obtain ⟨s, rfl, _, _, _⟩ := Go.ChangeMaps.open_string Tryz.underlying9 hv h
 exact ⟨s, rfl⟩
theorem int_of_shape {P : Program} {w : World} {g : Nat} {t : TypeId} {zero : Array Value} (h : w.ShapedOpen P) (hg : g < P.globals.size)
 (h0 : ((begin P (fun _ _ => 0) default).world.heap[g]?).bind Obj.row? = some (zero, t)) (hz : zero.size = 1)
 (hb : P.buildable t = true) (hc : P.cellTypes P.depth t = some [t]) (hu : P.underlying t = some (.int .i64)) : ∃ m, w.cell? ⟨g, 0, none⟩ = some (.int .i64 m) := by
 obtain ⟨cs, hh, hs, hr⟩ := h.1 g zero t hg h0
 obtain ⟨ts, hts, _, hall⟩ := hr hb
 rw [hc] at hts
 cases hts
 have h1 : 0 < cs.size := by omega
 obtain ⟨u, hu', hok⟩ := hall 0 cs[0] (by simp [h1])
 have : u = t := by simpa using hu'.symm
 subst this
 have hcell : w.cell? ⟨g, 0, none⟩ = some cs[0] := by simp [World.cell?, hh, h1]
 rw [hcell]
 unfold Cell.ok at hok
 rw [hu] at hok
 cases hv : cs[0] <;> rw [hv] at hok <;> first | (simp at hok; done) | (simp at hok; obtain ⟨rfl, _⟩ := hok; exact ⟨_, rfl⟩) | exact ⟨_, rfl⟩
theorem tPow : (Tryz.prog.globals[(0 : Nat)]?).map (·.type) = some 268 := by kernel_rfl
theorem vars_of3 {W : World} (hs : W.ShapedOpen Tryz.prog) {a b : String × DataW Unit} {rest : List (String × DataW Unit)}
 (hL : laidMet Tryz.prog (a :: b :: ("internal/strconv.uint64pow10", Rows.laid_internal_strconv_uint64pow10) :: rest) W) : Vars W := by
 have h3 := hL.tail.tail
 have hp : Lib.TabIs Tryz.prog W "internal/strconv.uint64pow10" .u64 Lib.pow10Tab := Lib.tabIs_of_head gPow tPow Tryz.underlying268 Tryz.underlying177 (by kernel_rfl) (by kernel_rfl) h3
 have hrow : ((((begin Tryz.prog (fun _ _ => 0) default).world.heap[(5 : Nat)]?).bind Obj.row?).map fun z => (z.1.size, z.2)) = some (1, 3) := by kernel_rfl
 obtain ⟨⟨zero, t⟩, hz, hzt⟩ := Option.map_eq_some_iff.1 hrow
 simp only [Prod.mk.injEq] at hzt
 obtain ⟨hzs, rfl⟩ := hzt
 obtain ⟨m, hm⟩ := int_of_shape hs (of_decide_eq_true (by kernel_rfl)) hz hzs (by kernel_rfl) (by kernel_rfl) Tryz.underlying3
 exact ⟨⟨m, hm⟩, ⟨0, 0, rfl⟩, ⟨0, 0, rfl⟩, hp⟩
theorem handed {H : Type} {enc : TypeId × Value → H} {a : Assume} {C : Checked} {os : Os} {f : FuncId} {fn : Func} {s : ChangeSpec} {conds : List PathCond} {apart fresh handsOn again : Bool} {X : World → Array Value → Prop}
 (hX : ∀ (w w' : World) (args : Array Value), w.heap = w'.heap → X w args → X w' args)
 (own : ownKnob C.prog.godebug = none) (started : os.Started) (noInit : C.prog.inits.idxOf? f = none) (hfn : C.prog.funcs[f]? = some fn)
 (witness : ∃ (w : World) (tape : Tape) (i : Input), w.os = os ∧ (w.forCall tape i).Shaped C.prog ∧ i.vars = [] ∧ Input.okWide C.prog (w.forCall tape i) .any w.heap.size f i ∧
  ((s.pre enc C.prog fn conds apart (w.forCall tape i).memory i.args ∧ X (w.forCall tape i).memory i.args) ∧ sizedMet enc C.prog fn (OpenSpec.ofChange s) apart (w.forCall tape i).memory i.args) ∧ a.holds C.prog (lone (Frame.enter C.prog f i.args .normal) [] (w.forCall tape i)))
 (contract : ∀ (W : World) (base : Nat) (args : Array Value) (ds gs : List (DataW H)) (before : List MemPlace),
  (∀ (j : Nat) t v, fn.params[j]? = some t → args[j]? = some v → Value.okWide C.prog W .any base t v) →
  DataW.Whole enc C.prog fn.params.toList s.vars apart W args.toList ds gs before →
  W.ShapedOpen C.prog → X W args →
  Calls C.prog f args W fun e W' => ∃ v, e = .returned v ∧ s.post enc C.prog fn apart fresh handsOn again W args v W') :
 ReturnsInHanded a C os f .any (fun w args => (s.pre enc C.prog fn conds apart w args ∧ X w args) ∧ sizedMet enc C.prog fn (OpenSpec.ofChange s) apart w args) (s.post enc C.prog fn apart fresh handsOn again) := by
 refine returnsInHanded_of_calls own started noInit witness ?_
 intro w tape i _ hsh _ hok hpre hholds
 obtain ⟨_, _, _, fn', hfn', _, _, _, _, hval⟩ := hok
 have e : fn' = fn := Option.some.inj (hfn'.symm.trans hfn)
 subst e
 obtain ⟨⟨⟨ds, gs, before, hw, hc⟩, hx⟩, hz⟩ := hpre
 have hw' := DataW.Whole.of_heap (w' := w.forCall tape i) (by rfl) hw
 refine (contract (w.forCall tape i) w.heap.size i.args ds gs before hval hw' hsh (hX _ _ _ (by rfl) hx)).mono fun e W' ⟨v, he, hp⟩ => ?_
 subst he
 exact ChangeSpec.post_blind hp
end Shd
namespace Hlt
open Vm
theorem list_of {α : Type} {P : Nat → α → Prop} : ∀ n : Nat, (∀ i, i < n → ∃ f, P i f) → ∃ l : List α, l.length = n ∧ ∀ i f, l[i]? = some f → P i f
 | 0, _ => ⟨[], rfl, fun i f h => by simp at h⟩
 | n + 1, h => by
   obtain ⟨l, hl, hp⟩ := list_of n fun i hi => h i (by omega)
   obtain ⟨f, hf⟩ := h n (by omega)
   refine ⟨l ++ [f], by simp [hl], fun i g hg => ?_⟩
   by_cases hi : i < l.length
   ·rw [List.getElem?_append_left hi] at hg
    exact hp i g hg
   ·rw [List.getElem?_append_right (by omega)] at hg
    have h0 : i - l.length = 0 := by
     have := (List.getElem?_eq_some_iff.1 hg).1
     simp at this
     omega
    rw [h0] at hg
    simp at hg
    subst hg
    obtain rfl : i = n := by omega
    exact hf
theorem open_faults {H : Type} {enc : TypeId × Value → H} {w : World} {base : Nat} {held : Bool} {b0 : Nat} {r : Reach} {v : Value} {d : DataW H} {p : List MemPlace}
 (hv : Value.okWide Tryz.prog w r b0 22 v) (h : DataW.Trod enc Tryz.prog w base (fun _ => true) held 22 v d p) : ∃ l : List Flt, FaultsAt w v l := by
 obtain ⟨a0, len0, cap0, rfl⟩ := okWide_slice Tryz.underlying22 hv
 obtain ⟨fuel, hf⟩ := h
 rcases Shd.open_slice_fields Tryz.underlying22 Tryz.underlying34 (by kernel_rfl) (by kernel_rfl) hf with ⟨hc, _⟩ | ⟨a, len, cap, m, D, Pl, hc, hb, hlc, hcm, hm, _, hi⟩
 ·simp [Value.cells] at hc
  obtain ⟨rfl, rfl, rfl⟩ := hc
  exact ⟨[], ⟨none, 0, rfl, Nat.le_refl _, fun h => absurd h (Nat.lt_irrefl _)⟩, fun f hf => by cases hf⟩
 ·simp [Value.cells] at hc
  obtain ⟨rfl, rfl, rfl⟩ := hc
  simp only [if_true] at hm
  subst hm
  have key : ∀ i, i < len0 → ∃ f : Flt, f.fits ∧ w.cell? (a.add (i * 5 + 0)) = some (.int .u8 f.kind) ∧ w.cell? (a.add (i * 5 + 1)) = some (.int .i64 f.store) ∧ w.cell? (a.add (i * 5 + 2)) = some (.int .i64 f.n) ∧ w.cell? (a.add (i * 5 + 3)) = some (.int .i64 f.at_) ∧ w.cell? (a.add (i * 5 + 4)) = some (.int .i64 f.c) := by
   intro i hil
   obtain ⟨ys, n, _, _, _, hff⟩ := hi i (by omega)
   obtain ⟨v0, y0, c0, _, t0⟩ := hff 0 _ rfl
   obtain ⟨v1, y1, c1, _, t1⟩ := hff 1 _ rfl
   obtain ⟨v2, y2, c2, _, t2⟩ := hff 2 _ rfl
   obtain ⟨v3, y3, c3, _, t3⟩ := hff 3 _ rfl
   obtain ⟨v4, y4, c4, _, t4⟩ := hff 4 _ rfl
   obtain ⟨x0, e0, _, w0⟩ := DataW.trod_int Tryz.underlying5 t0
   obtain ⟨x1, e1, _, w1⟩ := DataW.trod_int Tryz.underlying3 t1
   obtain ⟨x2, e2, _, w2⟩ := DataW.trod_int Tryz.underlying3 t2
   obtain ⟨x3, e3, _, w3⟩ := DataW.trod_int Tryz.underlying3 t3
   obtain ⟨x4, e4, _, w4⟩ := DataW.trod_int Tryz.underlying3 t4
   simp at e0 e1 e2 e3 e4
   subst e0; subst e1; subst e2; subst e3; subst e4
   have q0 := bounds_u8 w0
   have q2 := bounds_i64 w2
   have q3 := bounds_i64 w3
   have q4 := bounds_i64 w4
   exact ⟨⟨x0, x1, x2, x3, x4⟩, ⟨⟨by show 0 ≤ x0; omega, by show x0 ≤ 255; omega⟩, ⟨by show _ ≤ x2; omega, by show x2 ≤ _; omega⟩, ⟨by show _ ≤ x3; omega, by show x3 ≤ _; omega⟩, ⟨by show _ ≤ x4; omega, by show x4 ≤ _; omega⟩⟩, c0, c1, c2, c3, c4⟩
  obtain ⟨l, rfl, hp⟩ := list_of len0 key
  refine ⟨l, ⟨some a, _, rfl, hlc, fun h0 => ?_⟩, fun f hf => ?_⟩
  ·obtain ⟨g, o, sp⟩ := a
   have h5 := (hp 0 l[0] (List.getElem?_eq_getElem h0)).2.1
   have hsp : sp = none := by simpa [Addr.add] using World.cell?_spot h5
   subst hsp
   have hadd : ∀ j, (⟨g, o, none⟩ : Addr).add j = ⟨g, o + j, none⟩ := fun j => by unfold Addr.add; split <;> simp_all
   refine ⟨g, o, rfl, ?_, fun i f hf => ?_⟩
   ·rw [hadd] at h5; exact lt_cell h5
   ·obtain ⟨_, q0, q1, q2, q3, q4⟩ := hp i f hf
    rw [hadd] at q0 q1 q2 q3 q4
    exact ⟨q0, q1, q2, q3, q4⟩
  ·obtain ⟨i, hi, rfl⟩ := List.mem_iff_getElem.1 hf
   exact (hp i _ (List.getElem?_eq_getElem hi)).1
end Hlt
end Go.Proofs.YtnbkhdbligjifaaGreatDoor
namespace Go.Proofs.YtnbkhdbligjifaaGreatDoor
open Go Go.RowKit
namespace Vm
theorem wcells_get : ∀ (l : List (ByteArray × ByteArray × Bool)) (k : Nat) (n d : ByteArray) (x : Bool), l[k]? = some (n, d, x) → (wcells l)[k * 3]? = some (.string n) ∧ (wcells l)[k * 3 + 1]? = some (.string d) ∧ (wcells l)[k * 3 + 2]? = some (.bool x)
 | [], k, _, _, _, h => by simp at h
 | y :: l, 0, n, d, x, h => by
   simp only [List.getElem?_cons_zero, Option.some.injEq] at h
   subst h
   exact ⟨rfl, rfl, rfl⟩
 | y :: l, k + 1, n, d, x, h => by
   have ih := wcells_get l k n d x (by simpa using h)
   have hw : wcells (y :: l) = wcell y ++ wcells l := rfl
   have hl : (wcell y).length = 3 := rfl
   rw [hw, List.getElem?_append_right (by omega), List.getElem?_append_right (by omega), List.getElem?_append_right (by omega), hl]
   rw [show (k + 1) * 3 - 3 = k * 3 by omega, show (k + 1) * 3 + 1 - 3 = k * 3 + 1 by omega, show (k + 1) * 3 + 2 - 3 = k * 3 + 2 by omega]
   exact ih
theorem SIs.rowc {w : World} {B g m : Nat} {s : PSt} {ws : Value} (h : SIs w B s g m ws) {k : Nat} {n d : ByteArray} {x : Bool} (hk : s.writes[k]? = some (n, d, x)) :
 ∃ r cap, ws = .slice (some ⟨r, 0, none⟩) s.writes.length cap ∧ w.cell? ⟨r, k * 3, none⟩ = some (.string n) ∧ w.cell? ⟨r, k * 3 + 1, none⟩ = some (.string d) ∧ w.cell? ⟨r, k * 3 + 2, none⟩ = some (.bool x) := by
 have hl : k < s.writes.length := (List.getElem?_eq_some_iff.1 hk).1
 rcases h.row.2 with ⟨_, h0⟩ | ⟨r, cap, cur, rfl, _, hg, hn, _, hs, ht⟩
 ·omega
 ·have hb : Blk w r 155 cur := hg
  have ho := wcells_get _ _ _ _ _ hk
  refine ⟨r, cap, rfl, ?_, ?_, ?_⟩
  ·rw [hb.cell, ← Array.getElem?_toList, ← ho.1, ← ht, List.getElem?_take_of_lt (by omega)]
  ·rw [hb.cell, ← Array.getElem?_toList, ← ho.2.1, ← ht, List.getElem?_take_of_lt (by omega)]
  ·rw [hb.cell, ← Array.getElem?_toList, ← ho.2.2, ← ht, List.getElem?_take_of_lt (by omega)]
theorem SIs.drew {w : World} {B g m : Nat} {s : PSt} {ws : Value} (h : SIs w B s g m ws) : SIs w.drew B s g m ws := h.keep (Fr.of_below (O := []) (Stab.Ext.drew _)) (by simp)
def IntsAt (W : World) (v : Value) (ks : List Int) : Prop := ∃ A cap, v = .slice A ks.length cap ∧ ∀ j x, ks[j]? = some x → ∃ g o, A = some ⟨g, o, none⟩ ∧ W.cell? ⟨g, o + j, none⟩ = some (.int .i64 x)
end Vm
end Go.Proofs.YtnbkhdbligjifaaGreatDoor
namespace Go.Proofs.YtnbkhdbligjifaaGreatDoor
open Go Go.RowKit
namespace Vm
def KeepAt (O : List Nat) (W : World) (v : Value) (ks : List Int) : Prop := ∃ A cap, v = .slice A ks.length cap ∧ ∀ j x, ks[j]? = some x → ∃ g o, A = some ⟨g, o, none⟩ ∧ g ∉ O ∧ W.cell? ⟨g, o + j, none⟩ = some (.int .i64 x)
theorem KeepAt.ints {O : List Nat} {W : World} {v : Value} {ks : List Int} (h : KeepAt O W v ks) : IntsAt W v ks := by
 obtain ⟨A, cap, h1, h2⟩ := h
 exact ⟨A, cap, h1, fun j x hx => by obtain ⟨g, o, q1, _, q2⟩ := h2 j x hx; exact ⟨g, o, q1, q2⟩⟩
theorem KeepAt.keep {O : List Nat} {W W' : World} {v : Value} {ks : List Int} (h : KeepAt O W v ks) (hf : Fr O W W') : KeepAt O W' v ks := by
 obtain ⟨A, cap, h1, h2⟩ := h
 exact ⟨A, cap, h1, fun j x hx => by obtain ⟨g, o, q1, q0, q2⟩ := h2 j x hx; exact ⟨g, o, q1, q0, (World.cell?_of_block (hf.block g (lt_cell q2) q0)).trans q2⟩⟩
theorem KeepAt.nil (O : List Nat) (W : World) : KeepAt O W (.slice none 0 0) [] := ⟨none, 0, rfl, fun j x hx => by simp at hx⟩
theorem KeepAt.form {O : List Nat} {W : World} {v : Value} {ks : List Int} (h : KeepAt O W v ks) : ∃ A cap, v = .slice A ks.length cap := by
 obtain ⟨A, cap, h1, _⟩ := h
 exact ⟨A, cap, h1⟩
theorem WIs.congr {w : World} {b : Nat} {p p' : PW} {v : Value} {Bf : Nat → Nat} {Of : Nat → List Nat} (h : WIs w b p v Bf Of) (hn : p'.n = p.n) (hs : ∀ i, i < p.n → p'.st i = p.st i) (hu : p'.sus = p.sus) (hc : p'.calls = p.calls) (hl : p'.left = p.left) (hd : p'.dark = p.dark) : WIs w b p' v Bf Of where
 blk := by
  have := h.blk
  unfold wCells at this ⊢
  rw [hc, hl, hd]
  exact this
 row := by rw [hn, hu]; exact h.row
 st := fun i hi => by rw [hn] at hi; rw [hs i hi]; exact h.st i hi
 apart := by rw [hn]; exact h.apart
 off := by rw [hn]; exact h.off
 ne := h.ne
end Vm
end Go.Proofs.YtnbkhdbligjifaaGreatDoor
namespace Go.Proofs.YtnbkhdbligjifaaGreatDoor
open Go.ChangeShapes Go.WideShapes Go.ChangeAt Go.RowKit Go.Joins Go.Deep
namespace Hlt
open Vm
end Hlt
end Go.Proofs.YtnbkhdbligjifaaGreatDoor
namespace Go.Proofs.YtnbkhdbligjifaaGreatDoor
open Go.ChangeShapes Go.WideShapes Go.ChangeAt Go.RowKit Go.Joins Go.Deep
namespace Hlt
open Vm
section
variable {H : Type} {enc : TypeId × Value → H} {w : World} {base : Nat} {held : Bool} {b0 : Nat} {r : Reach}
theorem open_code {v : Value} {d : DataW H} {p : List MemPlace} (hv : Value.okWide Tryz.prog w r b0 25 v) (h : DataW.Trod enc Tryz.prog w base (fun _ => true) held 25 v d p) :
 ∃ (K N : Int), v = .agg #[.int .i64 K, .int .i64 N] ∧ Shd.I64 K ∧ Shd.I64 N := by
 obtain ⟨v0, v1, y0, y1, n, rfl, _, _, h0, h1⟩ := open_agg2 Tryz.underlying25 (by kernel_rfl) (by kernel_rfl) hv h
 obtain ⟨K, e0, _, w0⟩ := DataW.trod_int Tryz.underlying3 h0
 obtain ⟨N, e1, _, w1⟩ := DataW.trod_int Tryz.underlying3 h1
 simp at e0 e1
 subst e0; subst e1
 have q0 := bounds_i64 w0
 have q1 := bounds_i64 w1
 exact ⟨K, N, rfl, ⟨by omega, by omega⟩, ⟨by omega, by omega⟩⟩
end
end Hlt
end Go.Proofs.YtnbkhdbligjifaaGreatDoor
namespace Go.Proofs.YtnbkhdbligjifaaGreatDoor
open Go Go.RowKit Vm
namespace Str
open Hlt
def fitsE (p : PW) (k n : Int) : Int := if Cod.codeB k n = true ∧ (p.n : Int) = n then 0 else 1
theorem fitsE_ok {p : PW} {k n : Int} : fitsE p k n = 0 ↔ Cod.codeB k n = true ∧ (p.n : Int) = n := by unfold fitsE; split <;> simp_all
structure FtRd (bx b : Nat) (k n : Int) (p : PW) (O : List Nat) (W : World) : Prop where
 c0 : W.cell? ⟨bx, 0, none⟩ = some (.int .i64 k)
 c1 : W.cell? ⟨bx, 1, none⟩ = some (.int .i64 n)
 at_ : WAt W b p O
theorem FtRd.ext {bx b : Nat} {k n : Int} {p : PW} {O : List Nat} {w w' : World} (h : FtRd bx b k n p O w) (hE : Stab.Ext w w') : FtRd bx b k n p O w' := ⟨hE.cell h.c0, hE.cell h.c1, h.at_.keep (Fr.of_below (O := []) hE) (by simp)⟩
theorem fits_any {w : World} {b : Nat} {p : PW} {O : List Nat} (h : WAt w b p O) (k n : Int) :
 Calls Tryz.prog 57 #[.pointer (some ⟨b, 0, none⟩), .agg #[.int .i64 k, .int .i64 n]] w fun e w' => e = .returned (.int .i64 (fitsE p k n)) ∧ Below w.heap.size w w' := by
 have hE0 := Stab.Ext.alloc w (.cells #[.int .i64 k, .int .i64 n] 25)
 have bx := Blk.new w 25 #[.int .i64 k, .int .i64 n]
 have HB0 := Lib.hid hE0
 have HR := Lib.hid (show FtRd w.heap.size b k n p O (w.alloc (.cells #[.int .i64 k, .int .i64 n] 25)) from ⟨bx.cell 0, bx.cell 1, h.keep (Fr.of_below (O := []) hE0) (by simp)⟩)
 have HCD := Lib.hid (show ∀ W : World, Calls Tryz.prog 87 #[.agg #[.int .i64 k, .int .i64 n]] W fun e w' => e = .returned (.bool (Cod.codeB k n)) ∧ Below W.heap.size W w' from fun W => Cod.mayCode_any k n W)
 have HN := Lib.hid (show ∀ W : World, FtRd w.heap.size b k n p O W → Calls Tryz.prog 37 #[.pointer (some ⟨b, 0, none⟩)] W fun e w' => e = .returned (.int .i64 (p.n : Int)) ∧ W = w' from fun W hW => n_any hW.at_)
 clear h hE0 bx
 cases hc : Cod.codeB k n with
 | false =>
   rw [hc] at HCD
   have HF := Lib.hid (show fitsE p k n = 1 by simp [fitsE, hc])
   clear hc
   go_enter Tryz.func57, Tryz.ntmps57
   go_wp2_with fail
   refine Stab.wp_region_stable 11 19 [some 9, some 10, some 11, some 12, some 13, some 14, some 15, some 16, some 17, some 18, some 8] [[], [0], [1], [2], [3], [4, 3], [3], [6, 3], [5, 7, 3], [3, 8], [9]] [10] (FtRd w.heap.size b k n p O) [Stab.eqv ?r3fe0, Stab.eqv ?r3fe1, Stab.eqv ?r3fe2, Stab.eqv ?r3fe3, Stab.eqv ?r3fe4, Stab.eqv ?r3fe5, Stab.eqv ?r3fe6, Stab.eqv ?r3fe7, Stab.eqv ?r3fe8, Stab.eqv ?r3fe9, Stab.eqv ?r3fe10] (by kernel_rfl) rfl (by kernel_rfl) (by kernel_rfl) (fun us => by simp only [Stab.putAll, Act.put, List.setIfInBounds_toArray, List.set_cons_zero, List.set_cons_succ]; rfl) (HR.out.ext (Stab.Ext.drew _)) (fun _ _ h hE => h.ext hE) ?goals3f ?last3f
   case goals3f =>
    simp only [List.take_succ_cons, List.take_zero]
    refine Stab.Goals.plain rfl rfl (fun us w cK hE hS hp hK => ?_) ?_
    ·obtain ⟨s0, s1, -⟩ := hS
     go_simp
     refine hK _ _ ?_ (Stab.Ext.refl _)
     show _ = _
     with_reducible rfl
    refine Stab.Goals.plain rfl rfl (fun us w cK hE hS hp hK => ?_) ?_
    ·obtain ⟨h0, -⟩ := hp
     replace h0 : us 0 = _ := h0
     go_simp
     go_wp2_with (go_at_call 87; ((with_reducible refine (HCD.out _).mono ?_); rintro e w1 ⟨rfl, hb⟩))
     refine hK _ _ ?_ hb
     show _ = _
     with_reducible rfl
    refine Stab.Goals.plain rfl rfl (fun us w cK hE hS hp hK => ?_) ?_
    ·obtain ⟨h1, -⟩ := hp
     replace h1 : us 1 = _ := h1
     go_simp
     refine hK _ _ ?_ (Stab.Ext.refl _)
     show _ = _
     with_reducible rfl
    refine Stab.Goals.plain rfl rfl (fun us w cK hE hS hp hK => ?_) ?_
    ·obtain ⟨h2, -⟩ := hp
     replace h2 : us 2 = _ := h2
     go_simp
     refine hK _ _ ?_ (Stab.Ext.refl _)
     show _ = _
     with_reducible rfl
    refine Stab.Goals.guarded rfl rfl (fun us w cK hE hS hp hK => ?_) ?_
    ·obtain ⟨h3, -⟩ := hp
     replace h3 : us 3 = _ := h3
     refine ⟨_, h3, fun h => (by cases h), fun _ => ?_⟩
     refine hK _ _ ?_ (Stab.Ext.refl _)
     show _ = _
     with_reducible rfl
    refine Stab.Goals.guarded rfl rfl (fun us w cK hE hS hp hK => ?_) ?_
    ·obtain ⟨h4, h3, -⟩ := hp
     replace h4 : us 4 = _ := h4
     replace h3 : us 3 = _ := h3
     refine ⟨_, h3, fun h => (by cases h), fun _ => ?_⟩
     refine hK _ _ ?_ (Stab.Ext.refl _)
     show _ = _
     with_reducible rfl
    refine Stab.Goals.guarded rfl rfl (fun us w cK hE hS hp hK => ?_) ?_
    ·obtain ⟨h3, -⟩ := hp
     replace h3 : us 3 = _ := h3
     refine ⟨_, h3, fun h => (by cases h), fun _ => ?_⟩
     refine hK _ _ ?_ (Stab.Ext.refl _)
     show _ = _
     with_reducible rfl
    refine Stab.Goals.guarded rfl rfl (fun us w cK hE hS hp hK => ?_) ?_
    ·obtain ⟨h6, h3, -⟩ := hp
     replace h6 : us 6 = _ := h6
     replace h3 : us 3 = _ := h3
     refine ⟨_, h3, fun h => (by cases h), fun _ => ?_⟩
     refine hK _ _ ?_ (Stab.Ext.refl _)
     show _ = _
     with_reducible rfl
    refine Stab.Goals.guarded rfl rfl (fun us w cK hE hS hp hK => ?_) ?_
    ·obtain ⟨h5, h7, h3, -⟩ := hp
     replace h5 : us 5 = _ := h5
     replace h7 : us 7 = _ := h7
     replace h3 : us 3 = _ := h3
     refine ⟨_, h3, fun h => (by cases h), fun _ => ?_⟩
     refine hK _ _ ?_ (Stab.Ext.refl _)
     show _ = _
     with_reducible rfl
    refine Stab.Goals.plain rfl rfl (fun us w cK hE hS hp hK => ?_) ?_
    ·obtain ⟨h3, h8, -⟩ := hp
     replace h3 : us 3 = _ := h3
     replace h8 : us 8 = _ := h8
     go_simp
     refine hK _ _ ?_ (Stab.Ext.refl _)
     show _ = _
     with_reducible rfl
    refine Stab.Goals.plain rfl rfl (fun us w cK hE hS hp hK => ?_) ?_
    ·obtain ⟨h9, -⟩ := hp
     replace h9 : us 9 = _ := h9
     go_simp
     refine hK _ _ ?_ (Stab.Ext.refl _)
     show _ = _
     with_reducible rfl
    exact Stab.Goals.nil
   case last3f =>
    intro us w1 hE hS hp
    obtain ⟨h9, -⟩ := hp
    replace h9 : us 10 = _ := h9
    have HE1 := Lib.hid (HB0.out.trans ((Stab.Ext.drew _).trans hE))
    simp only [List.drop_succ_cons, List.drop_zero, h9, Nat.zero_add, Nat.reduceAdd]
    clear hS hE
    go_wp2_with fail
    go_ret
    rw [HF.out]
    exact ⟨rfl, HE1.out⟩
 | true =>
   rw [hc] at HCD
   have HF := Lib.hid (show fitsE p k n = if (p.n : Int) = n then 0 else 1 by simp [fitsE, hc])
   clear hc
   by_cases hn : (p.n : Int) = n
   case pos =>
    rw [if_pos hn] at HF
    have hnn : ((p.n : Int) == n) = true := by simp [hn]
    go_enter Tryz.func57, Tryz.ntmps57
    go_wp2_with fail
    refine Stab.wp_region_stable 11 19 [some 9, some 10, some 11, some 12, some 13, some 14, some 15, some 16, some 17, some 18, some 8] [[], [0], [1], [2], [3], [4, 3], [3], [6, 3], [5, 7, 3], [3, 8], [9]] [10] (FtRd w.heap.size b k n p O) [Stab.eqv ?r3ge0, Stab.eqv ?r3ge1, Stab.eqv ?r3ge2, Stab.eqv ?r3ge3, Stab.eqv ?r3ge4, Stab.eqv ?r3ge5, Stab.eqv ?r3ge6, Stab.eqv ?r3ge7, Stab.eqv ?r3ge8, Stab.eqv ?r3ge9, Stab.eqv ?r3ge10] (by kernel_rfl) rfl (by kernel_rfl) (by kernel_rfl) (fun us => by simp only [Stab.putAll, Act.put, List.setIfInBounds_toArray, List.set_cons_zero, List.set_cons_succ]; rfl) (HR.out.ext (Stab.Ext.drew _)) (fun _ _ h hE => h.ext hE) ?goals3g ?last3g
    case goals3g =>
     simp only [List.take_succ_cons, List.take_zero]
     refine Stab.Goals.plain rfl rfl (fun us w cK hE hS hp hK => ?_) ?_
     ·obtain ⟨s0, s1, -⟩ := hS
      go_simp
      refine hK _ _ ?_ (Stab.Ext.refl _)
      show _ = _
      with_reducible rfl
     refine Stab.Goals.plain rfl rfl (fun us w cK hE hS hp hK => ?_) ?_
     ·obtain ⟨h0, -⟩ := hp
      replace h0 : us 0 = _ := h0
      go_simp
      go_wp2_with (go_at_call 87; ((with_reducible refine (HCD.out _).mono ?_); rintro e w1 ⟨rfl, hb⟩))
      refine hK _ _ ?_ hb
      show _ = _
      with_reducible rfl
     refine Stab.Goals.plain rfl rfl (fun us w cK hE hS hp hK => ?_) ?_
     ·obtain ⟨h1, -⟩ := hp
      replace h1 : us 1 = _ := h1
      go_simp
      refine hK _ _ ?_ (Stab.Ext.refl _)
      show _ = _
      with_reducible rfl
     refine Stab.Goals.plain rfl rfl (fun us w cK hE hS hp hK => ?_) ?_
     ·obtain ⟨h2, -⟩ := hp
      replace h2 : us 2 = _ := h2
      go_simp
      refine hK _ _ ?_ (Stab.Ext.refl _)
      show _ = _
      with_reducible rfl
     refine Stab.Goals.guarded rfl rfl (fun us w cK hE hS hp hK => ?_) ?_
     ·obtain ⟨h3, -⟩ := hp
      replace h3 : us 3 = _ := h3
      refine ⟨_, h3, fun _ => ?_, fun h => absurd rfl h⟩
      go_simp
      refine hK _ _ ?_ (Stab.Ext.refl _)
      show _ = _
      with_reducible rfl
     refine Stab.Goals.guarded rfl rfl (fun us w cK hE hS hp hK => ?_) ?_
     ·obtain ⟨h4, h3, -⟩ := hp
      replace h4 : us 4 = _ := h4
      replace h3 : us 3 = _ := h3
      refine ⟨_, h3, fun _ => ?_, fun h => absurd rfl h⟩
      go_simp
      go_wp2_with (go_at_call 37; ((with_reducible refine (HN.out _ hS).mono ?_); rintro e w1 ⟨rfl, rfl⟩))
      refine hK _ _ ?_ (Stab.Ext.refl _)
      show _ = _
      with_reducible rfl
     refine Stab.Goals.guarded rfl rfl (fun us w cK hE hS hp hK => ?_) ?_
     ·obtain ⟨h3, -⟩ := hp
      replace h3 : us 3 = _ := h3
      refine ⟨_, h3, fun _ => ?_, fun h => absurd rfl h⟩
      go_simp
      refine hK _ _ ?_ (Stab.Ext.refl _)
      show _ = _
      with_reducible rfl
     refine Stab.Goals.guarded rfl rfl (fun us w cK hE hS hp hK => ?_) ?_
     ·obtain ⟨h6, h3, -⟩ := hp
      replace h6 : us 6 = _ := h6
      replace h3 : us 3 = _ := h3
      refine ⟨_, h3, fun _ => ?_, fun h => absurd rfl h⟩
      obtain ⟨s0, s1, -⟩ := hS
      go_simp
      refine hK _ _ ?_ (Stab.Ext.refl _)
      show _ = _
      with_reducible rfl
     refine Stab.Goals.guarded rfl rfl (fun us w cK hE hS hp hK => ?_) ?_
     ·obtain ⟨h5, h7, h3, -⟩ := hp
      replace h5 : us 5 = _ := h5
      replace h7 : us 7 = _ := h7
      replace h3 : us 3 = _ := h3
      refine ⟨_, h3, fun _ => ?_, fun h => absurd rfl h⟩
      go_simp
      refine hK _ _ ?_ (Stab.Ext.refl _)
      show _ = _
      with_reducible rfl
     refine Stab.Goals.plain rfl rfl (fun us w cK hE hS hp hK => ?_) ?_
     ·obtain ⟨h3, h8, -⟩ := hp
      replace h3 : us 3 = _ := h3
      replace h8 : us 8 = _ := h8
      go_simp
      refine hK _ _ ?_ (Stab.Ext.refl _)
      show _ = _
      with_reducible rfl
     refine Stab.Goals.plain rfl rfl (fun us w cK hE hS hp hK => ?_) ?_
     ·obtain ⟨h9, -⟩ := hp
      replace h9 : us 9 = _ := h9
      go_simp
      refine hK _ _ ?_ (Stab.Ext.refl _)
      show _ = _
      with_reducible rfl
     exact Stab.Goals.nil
    case last3g =>
     intro us w1 hE hS hp
     obtain ⟨h9, -⟩ := hp
     replace h9 : us 10 = _ := h9
     have HE1 := Lib.hid (HB0.out.trans ((Stab.Ext.drew _).trans hE))
     simp only [List.drop_succ_cons, List.drop_zero, h9, Nat.zero_add, Nat.reduceAdd]
     clear hS hE
     go_wp2_with fail
     go_ret
     rw [HF.out]
     exact ⟨rfl, HE1.out⟩
   case neg =>
    rw [if_neg hn] at HF
    have hnn : ((p.n : Int) == n) = false := by simp [hn]
    go_enter Tryz.func57, Tryz.ntmps57
    go_wp2_with fail
    refine Stab.wp_region_stable 11 19 [some 9, some 10, some 11, some 12, some 13, some 14, some 15, some 16, some 17, some 18, some 8] [[], [0], [1], [2], [3], [4, 3], [3], [6, 3], [5, 7, 3], [3, 8], [9]] [10] (FtRd w.heap.size b k n p O) [Stab.eqv ?r3he0, Stab.eqv ?r3he1, Stab.eqv ?r3he2, Stab.eqv ?r3he3, Stab.eqv ?r3he4, Stab.eqv ?r3he5, Stab.eqv ?r3he6, Stab.eqv ?r3he7, Stab.eqv ?r3he8, Stab.eqv ?r3he9, Stab.eqv ?r3he10] (by kernel_rfl) rfl (by kernel_rfl) (by kernel_rfl) (fun us => by simp only [Stab.putAll, Act.put, List.setIfInBounds_toArray, List.set_cons_zero, List.set_cons_succ]; rfl) (HR.out.ext (Stab.Ext.drew _)) (fun _ _ h hE => h.ext hE) ?goals3h ?last3h
    case goals3h =>
     simp only [List.take_succ_cons, List.take_zero]
     refine Stab.Goals.plain rfl rfl (fun us w cK hE hS hp hK => ?_) ?_
     ·obtain ⟨s0, s1, -⟩ := hS
      go_simp
      refine hK _ _ ?_ (Stab.Ext.refl _)
      show _ = _
      with_reducible rfl
     refine Stab.Goals.plain rfl rfl (fun us w cK hE hS hp hK => ?_) ?_
     ·obtain ⟨h0, -⟩ := hp
      replace h0 : us 0 = _ := h0
      go_simp
      go_wp2_with (go_at_call 87; ((with_reducible refine (HCD.out _).mono ?_); rintro e w1 ⟨rfl, hb⟩))
      refine hK _ _ ?_ hb
      show _ = _
      with_reducible rfl
     refine Stab.Goals.plain rfl rfl (fun us w cK hE hS hp hK => ?_) ?_
     ·obtain ⟨h1, -⟩ := hp
      replace h1 : us 1 = _ := h1
      go_simp
      refine hK _ _ ?_ (Stab.Ext.refl _)
      show _ = _
      with_reducible rfl
     refine Stab.Goals.plain rfl rfl (fun us w cK hE hS hp hK => ?_) ?_
     ·obtain ⟨h2, -⟩ := hp
      replace h2 : us 2 = _ := h2
      go_simp
      refine hK _ _ ?_ (Stab.Ext.refl _)
      show _ = _
      with_reducible rfl
     refine Stab.Goals.guarded rfl rfl (fun us w cK hE hS hp hK => ?_) ?_
     ·obtain ⟨h3, -⟩ := hp
      replace h3 : us 3 = _ := h3
      refine ⟨_, h3, fun _ => ?_, fun h => absurd rfl h⟩
      go_simp
      refine hK _ _ ?_ (Stab.Ext.refl _)
      show _ = _
      with_reducible rfl
     refine Stab.Goals.guarded rfl rfl (fun us w cK hE hS hp hK => ?_) ?_
     ·obtain ⟨h4, h3, -⟩ := hp
      replace h4 : us 4 = _ := h4
      replace h3 : us 3 = _ := h3
      refine ⟨_, h3, fun _ => ?_, fun h => absurd rfl h⟩
      go_simp
      go_wp2_with (go_at_call 37; ((with_reducible refine (HN.out _ hS).mono ?_); rintro e w1 ⟨rfl, rfl⟩))
      refine hK _ _ ?_ (Stab.Ext.refl _)
      show _ = _
      with_reducible rfl
     refine Stab.Goals.guarded rfl rfl (fun us w cK hE hS hp hK => ?_) ?_
     ·obtain ⟨h3, -⟩ := hp
      replace h3 : us 3 = _ := h3
      refine ⟨_, h3, fun _ => ?_, fun h => absurd rfl h⟩
      go_simp
      refine hK _ _ ?_ (Stab.Ext.refl _)
      show _ = _
      with_reducible rfl
     refine Stab.Goals.guarded rfl rfl (fun us w cK hE hS hp hK => ?_) ?_
     ·obtain ⟨h6, h3, -⟩ := hp
      replace h6 : us 6 = _ := h6
      replace h3 : us 3 = _ := h3
      refine ⟨_, h3, fun _ => ?_, fun h => absurd rfl h⟩
      obtain ⟨s0, s1, -⟩ := hS
      go_simp
      refine hK _ _ ?_ (Stab.Ext.refl _)
      show _ = _
      with_reducible rfl
     refine Stab.Goals.guarded rfl rfl (fun us w cK hE hS hp hK => ?_) ?_
     ·obtain ⟨h5, h7, h3, -⟩ := hp
      replace h5 : us 5 = _ := h5
      replace h7 : us 7 = _ := h7
      replace h3 : us 3 = _ := h3
      refine ⟨_, h3, fun _ => ?_, fun h => absurd rfl h⟩
      go_simp
      refine hK _ _ ?_ (Stab.Ext.refl _)
      show _ = _
      with_reducible rfl
     refine Stab.Goals.plain rfl rfl (fun us w cK hE hS hp hK => ?_) ?_
     ·obtain ⟨h3, h8, -⟩ := hp
      replace h3 : us 3 = _ := h3
      replace h8 : us 8 = _ := h8
      go_simp
      refine hK _ _ ?_ (Stab.Ext.refl _)
      show _ = _
      with_reducible rfl
     refine Stab.Goals.plain rfl rfl (fun us w cK hE hS hp hK => ?_) ?_
     ·obtain ⟨h9, -⟩ := hp
      replace h9 : us 9 = _ := h9
      go_simp
      refine hK _ _ ?_ (Stab.Ext.refl _)
      show _ = _
      with_reducible rfl
     exact Stab.Goals.nil
    case last3h =>
     intro us w1 hE hS hp
     obtain ⟨h9, -⟩ := hp
     replace h9 : us 10 = _ := h9
     have HE1 := Lib.hid (HB0.out.trans ((Stab.Ext.drew _).trans hE))
     simp only [List.drop_succ_cons, List.drop_zero, h9, Nat.zero_add, Nat.reduceAdd]
     clear hS hE
     go_wp2_with fail
     go_ret
     rw [HF.out]
     exact ⟨rfl, HE1.out⟩
def askedE (p : PW) (k n : Int) (d : ByteArray) : Int := if fitsE p k n = 0 then if d.size = 32 then 0 else 1 else fitsE p k n
theorem asked_any {w : World} {b : Nat} {p : PW} {O : List Nat} (h : WAt w b p O) (k n : Int) (d : ByteArray) (hdz : d.size ≤ 1000000000) :
 Calls Tryz.prog 60 #[.pointer (some ⟨b, 0, none⟩), .agg #[.int .i64 k, .int .i64 n], .string d] w fun e w' => e = .returned (.int .i64 (askedE p k n d)) ∧ Below w.heap.size w w' := by
 have hE0 := Stab.Ext.alloc w (.cells #[.int .i64 k, .int .i64 n] 25)
 have HE0 := Lib.hid hE0
 have HF := Lib.hid (fits_any (h.keep (Fr.of_below (O := []) hE0) (by simp)) k n)
 have HA := Lib.hid (show askedE p k n d = if fitsE p k n = 0 then if d.size = 32 then 0 else 1 else fitsE p k n from rfl)
 clear h hE0
 generalize askedE p k n d = a at *
 generalize fitsE p k n = f at *
 go_enter Tryz.func60, Tryz.ntmps60
 go_wp2_with (go_at_call 57; with_reducible refine HF.out.mono ?_)
 rintro e w1 ⟨rfl, hb⟩
 have HB := Lib.hid (HE0.out.trans hb)
 clear hb
 by_cases hf : f = 0
 ·subst hf
  by_cases hd : d.size = 32
  ·have hdi : (d.size : Int) = 32 := by omega
   go_wp2_with fail
   go_ret
   exact ⟨by simp [HA.out, hd], HB.out⟩
  ·have hdi : ¬ (d.size : Int) = 32 := by omega
   go_wp2_with fail
   go_ret
   exact ⟨by simp [HA.out, hd], HB.out⟩
 ·go_wp2_with fail
  go_ret
  exact ⟨by simp [HA.out, hf], HB.out⟩
end Str
end Go.Proofs.YtnbkhdbligjifaaGreatDoor
