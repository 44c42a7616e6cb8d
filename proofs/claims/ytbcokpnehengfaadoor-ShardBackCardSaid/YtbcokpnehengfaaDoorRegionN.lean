/-
  The beginning of a region's walk, its operations counted. No program is named.
-/
import Derived.Test.YtbcokpnehengfaaDoorRegion
namespace Go.Proofs.YtbcokpnehengfaaDoor
open Go.RowKit

section
variable {P : Program} {ops : Array Oper} {Q : Exit → Act → World → Prop} {S : World → Prop}

theorem startN {id : Nat} {a : Act} {w : World} (n : Nat) (listed' : Array Bool) (hm : P.follows .mixedOrders = true) (hn : ops.size = n) (hl : Array.replicate n false = listed') (hS : S w.drew)
    (h : S w.drew → wpAnyH P .any ops Q S n listed' a w.drew) : (Code.region id ops true).wp P Q a w := by
  subst hl; subst hn
  exact wp_region_held_drew hm hS h
end

end Go.Proofs.YtbcokpnehengfaaDoor
