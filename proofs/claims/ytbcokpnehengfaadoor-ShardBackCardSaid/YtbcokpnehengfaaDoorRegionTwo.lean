/-
  A region's walk where two operations are ready at once (a call and an allocation that know nothing of each other). No program is named.
-/
import Derived.Test.YtbcokpnehengfaaDoorRegionN
namespace Go.Proofs.YtbcokpnehengfaaDoor
open Go.RowKit

section
variable {P : Program} {ops : Array Oper} {Q : Exit → Act → World → Prop} {md : Region.Mode} {S : World → Prop}

/-- operations i and j are both ready: the proof goes on from either -/
theorem twoH (i j : Nat) (li lj : Array Bool) {oi oj : Oper} {resti restj : List Oper} {fuel : Nat} {listed : Array Bool} {a : Act} {w : World} (hi : ops.toList.drop i = oi :: resti) (hj : ops.toList.drop j = oj :: restj)
    (hli : listed.setIfInBounds i true = li) (hlj : listed.setIfInBounds j true = lj)
    (hr : Region.ready md ops listed = [i, j]) (hwi : Region.wanted oi (yielded ops a.tmps) = true) (hwj : Region.wanted oj (yielded ops a.tmps) = true)
    (h1 : ∀ K' : Act → World → Prop, Shut (∀ a w, S w → (S w → wpAnyH P md ops Q S fuel li a w) → K' a w) → Oper.wp P oi a w K' Q)
    (h2 : ∀ K' : Act → World → Prop, Shut (∀ a w, S w → (S w → wpAnyH P md ops Q S fuel lj a w) → K' a w) → Oper.wp P oj a w K' Q) : wpAnyH P md ops Q S (fuel + 1) listed a w := by
  subst hli; subst hlj
  refine wpAnyH_ready hr (by simp) (AllReadyH.cons (at_of_drop hi) (fun K hK => ?_) (AllReadyH.cons (at_of_drop hj) (fun K hK => ?_) AllReadyH.nil))
  · rw [hwi, if_pos rfl]
    exact h1 K hK
  · rw [hwj, if_pos rfl]
    exact h2 K hK
end

end Go.Proofs.YtbcokpnehengfaaDoor
