/-
 A region that draws its order, operation by operation: what yields its value in every world that meets S is taken first, laid out at once. No program is named.
-/
import Derived.Deep.RegionHeld3
import Derived.WalkKit
set_option linter.unusedVariables false
set_option linter.unusedSimpArgs false
namespace Go.Proofs.YtnbkhdbligjifaaGreatDoor
open Go.RowKit
section
variable {P : Program} {ops : Array Oper} {Q : Exit → Act → World → Prop} {md : Region.Mode} {S : World → Prop}
def bm (n k : Nat) : Array Bool := ((List.range n).map fun i => k.testBit i).toArray
theorem at_of_drop {i : Nat} {oi : Oper} {rest : List Oper} (h : ops.toList.drop i = oi :: rest) : ops[i]? = some oi := by
 have h2 : (ops.toList.drop i)[0]? = some oi := by rw [h]; rfl
 rw [List.getElem?_drop, Nat.add_zero] at h2
 rw [← Array.getElem?_toList]; exact h2
theorem takeH (i : Nat) (d : Option Tmp) (listed' : Array Bool) {oi : Oper} {rest : List Oper} {v : Value} {fuel : Nat} {listed : Array Bool} {a : Act} {w : World} (hi : ops.toList.drop i = oi :: rest) (hd : oi.dst = d)
   (hl : listed.setIfInBounds i true = listed') (hs : Region.noSelect ops = true) (hf : Region.free md ops listed i = true) (hr : (Region.ready md ops listed).contains i = true)
   (hQ : ∀ c a w, Q (.panic c) (a.put d v) w → Q (.panic c) a w) (hw : Region.wanted oi (yielded ops a.tmps) = true) (hy : ∀ w, S w → (execOp a.eval oi).run P w = .ok (.value v) w) (hS : S w)
   (h : wpAnyH P md ops Q S fuel listed' (a.put d v) w) : wpAnyH P md ops Q S (fuel + 1) listed a w := by
 subst hd; subst hl
 exact wpAnyH_take (at_of_drop hi) hs hf hr hQ (.inl ⟨hw, hy⟩) hS h
theorem passH (i : Nat) (d : Option Tmp) (listed' : Array Bool) {oi : Oper} {rest : List Oper} {fuel : Nat} {listed : Array Bool} {a : Act} {w : World} (hi : ops.toList.drop i = oi :: rest) (hd : oi.dst = d)
   (hl : listed.setIfInBounds i true = listed') (hs : Region.noSelect ops = true) (hf : Region.free md ops listed i = true) (hr : (Region.ready md ops listed).contains i = true)
   (hQ : ∀ c a w, Q (.panic c) (a.put d undef) w → Q (.panic c) a w) (hw : Region.wanted oi (yielded ops a.tmps) = false) (hS : S w)
   (h : wpAnyH P md ops Q S fuel listed' (a.put d undef) w) : wpAnyH P md ops Q S (fuel + 1) listed a w := by
 subst hd; subst hl
 exact wpAnyH_take (at_of_drop hi) hs hf hr hQ (.inr ⟨hw, rfl⟩) hS h
theorem takeK (i : Nat) (d : Option Tmp) (listed' : Array Bool) {oi : Oper} {rest : List Oper} {v : Value} {fuel : Nat} {listed : Array Bool} {a : Act} {w : World} (hy : ∀ w, S w → (execOp a.eval oi).run P w = .ok (.value v) w) (h : wpAnyH P md ops Q S fuel listed' (a.put d v) w)
   (hi : ops.toList.drop i = oi :: rest := by rfl) (hd : oi.dst = d := by rfl) (hl : listed.setIfInBounds i true = listed' := by kernel_rfl) (hs : Region.noSelect ops = true := by kernel_rfl) (hf : Region.free md ops listed i = true := by kernel_rfl) (hr : (Region.ready md ops listed).contains i = true := by kernel_rfl)
   (hQ : ∀ c a w, Q (.panic c) (a.put d v) w → Q (.panic c) a w := by exact fun _ _ _ h => h) (hw : Region.wanted oi (yielded ops a.tmps) = true := by rfl) (hS : S w := by assumption) : wpAnyH P md ops Q S (fuel + 1) listed a w :=
 takeH i d listed' hi hd hl hs hf hr hQ hw hy hS h
theorem passK (i : Nat) (d : Option Tmp) (listed' : Array Bool) {oi : Oper} {rest : List Oper} {fuel : Nat} {listed : Array Bool} {a : Act} {w : World} (h : wpAnyH P md ops Q S fuel listed' (a.put d undef) w)
   (hi : ops.toList.drop i = oi :: rest := by rfl) (hd : oi.dst = d := by rfl) (hl : listed.setIfInBounds i true = listed' := by kernel_rfl) (hs : Region.noSelect ops = true := by kernel_rfl) (hf : Region.free md ops listed i = true := by kernel_rfl) (hr : (Region.ready md ops listed).contains i = true := by kernel_rfl)
   (hQ : ∀ c a w, Q (.panic c) (a.put d undef) w → Q (.panic c) a w := by exact fun _ _ _ h => h) (hw : Region.wanted oi (yielded ops a.tmps) = false := by rfl) (hS : S w := by assumption) : wpAnyH P md ops Q S (fuel + 1) listed a w :=
 passH i d listed' hi hd hl hs hf hr hQ hw hS h
theorem oneH (i : Nat) (listed' : Array Bool) {oi : Oper} {rest : List Oper} {fuel : Nat} {listed : Array Bool} {a : Act} {w : World} (hi : ops.toList.drop i = oi :: rest) (hl : listed.setIfInBounds i true = listed')
   (hr : Region.ready md ops listed = [i]) (hw : Region.wanted oi (yielded ops a.tmps) = true)
   (h : ∀ K' : Act → World → Prop, Shut (∀ a w, S w → (S w → wpAnyH P md ops Q S fuel listed' a w) → K' a w) → Oper.wp P oi a w K' Q) : wpAnyH P md ops Q S (fuel + 1) listed a w := by
 subst hl
 refine wpAnyH_ready hr (by simp) (AllReadyH.cons (at_of_drop hi) (fun K hK => ?_) AllReadyH.nil)
 rw [hw, if_pos rfl]
 exact h K hK
theorem startH {id : Nat} {a : Act} {w : World} (listed' : Array Bool) (hm : P.follows .mixedOrders = true) (hl : Array.replicate ops.size false = listed') (hS : S w.drew)
   (h : S w.drew → wpAnyH P .any ops Q S ops.size listed' a w.drew) : (Code.region id ops true).wp P Q a w := by
 subst hl
 exact wp_region_held_drew hm hS h
end
end Go.Proofs.YtnbkhdbligjifaaGreatDoor
