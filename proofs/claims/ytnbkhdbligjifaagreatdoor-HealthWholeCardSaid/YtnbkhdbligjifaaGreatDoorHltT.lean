/-
 The law HealthAlone: its walk.
-/
import Derived.Test.YtnbkhdbligjifaaGreatDoorHltS
import Derived.Test.YtnbkhdbligjifaaGreatDoorHltW
set_option linter.unusedVariables false
set_option linter.unusedSimpArgs false
namespace Go.Proofs.YtnbkhdbligjifaaGreatDoor
open Go Go.RowKit Vm
open scoped Classical
namespace Hlt
structure StI (w3 : World) (O : List Nat) (b bx k L : Nat) (p : PW) (O' : List Nat) (wr : World) : Prop where
 wb : WB w3 O b p O' wr
 fit : WFit L 3 p
 box : Blk wr bx 25 #[.int .i64 (k : Int), .int .i64 3]
 off : bx ∉ O'
section
variable {w w3 wr wr2 : World} {O O' : List Nat} {b bx k L : Nat} {p p2 : PW}
theorem StI.ext (h : StI w3 O b bx k L p O' wr) (hE : Stab.Ext wr wr2) : StI w3 O b bx k L p O' wr2 := ⟨h.wb.ext hE, h.fit, h.box.below hE h.box.lt, h.off⟩
theorem StI.below {c : Nat} (h : StI w3 O b bx k L p O' wr) (hlow : ∀ x, x ∈ O → c ≤ x) (hE : Below w.heap.size w w3) (hc : w.heap.size ≤ c := by omega) : Below w.heap.size w wr := new_below hE h.wb.fr fun x hx => Nat.le_trans hc (hlow x hx)
theorem StI.strike (h : StI w3 O b bx k L p O' wr) (hL : L ≤ 1000) (f : Flt) (hf : f.fits) : Calls Tryz.prog 13 #[.pointer (some ⟨b, 0, none⟩), .agg #[.int .u8 f.kind, .int .i64 f.store, .int .i64 f.n, .int .i64 f.at_, .int .i64 f.c]] wr (WPost wr b O' (.int .i64 (p.strikeE f)) (p.struck f)) :=
 wstrike_any h.wb.at_ f hf ((h.fit.fits _).ok hL).small
theorem StI.next (h : StI w3 O b bx k L p O' wr) {p' : PW} {L' : Nat} (hp' : WFit L' 3 p') {x : Value} {e : Ending} (hp : WPost wr b O' x p' e wr2) : ∃ O5, StI w3 O b bx k L' p' O5 wr2 ∧ Fr O' wr wr2 ∧ (∀ y, y ∈ O5 → y ∈ O' ∨ wr.heap.size ≤ y) := by
 obtain ⟨O5, h1, h2, h3⟩ := h.wb.next hp
 refine ⟨O5, ⟨h1, hp', h2.blk h.box h.off, fun hm => ?_⟩, h2, h3⟩
 rcases h3 _ hm with h4 | h4
 ·exact h.off h4
 ·have := h.box.lt; omega
theorem StI.far (h : StI w3 O b bx k L p O' wr) (hO : Far O) (hG : Tryz.prog.globals.size ≤ w3.heap.size) : Far O' := fun x hx => by
 rcases h.wb.own x hx with h4 | h4
 ·exact hO x h4
 ·exact Nat.le_trans hG h4
theorem StI.vars (h : StI w3 O b bx k L p O' wr) (hO : Far O) (hv : Shd.Vars w3) : Shd.Vars wr := vars_fr hv h.wb.fr hO
end
structure AlRd (b cb A : Nat) (p pc : PW) (O OC : List Nat) (xs : List Value) (W : World) : Prop where
 at_ : WAt W b p O
 cat : WAt W cb pc OC
 a : Blk W A 4 xs.toArray
theorem AlRd.ext {b cb A : Nat} {p pc : PW} {O OC : List Nat} {xs : List Value} {W W' : World} (h : AlRd b cb A p pc O OC xs W) (hE : Stab.Ext W W') : AlRd b cb A p pc O OC xs W' :=
 ⟨h.at_.keep (Fr.of_below (O := []) hE) (by simp), h.cat.keep (Fr.of_below (O := []) hE) (by simp), h.a.below hE h.a.lt⟩
structure AlRk (A g j q : Nat) (nm : ByteArray) (W : World) : Prop where
 s : W.cell? ⟨A, j, none⟩ = some (.bool false)
 c : W.cell? ⟨g, q * 2, none⟩ = some (.string nm)
theorem AlRk.ext {A g j q : Nat} {nm : ByteArray} {W W' : World} (h : AlRk A g j q nm W) (hE : Stab.Ext W W') : AlRk A g j q nm W' := ⟨hE.cell h.s, hE.cell h.c⟩
end Hlt
end Go.Proofs.YtnbkhdbligjifaaGreatDoor
