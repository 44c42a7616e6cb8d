/-
 A region that draws its order, operation by operation: what yields its value in every world that meets S is taken first, laid out at once. No program is named.
-/
import Derived.Deep.RegionHeld3
import Derived.WalkKit
set_option linter.unusedVariables false
set_option linter.unusedSimpArgs false
namespace Go.Proofs.YtnbkhdbligjifaaGreatDoor
open Go.RowKit
section
variable {P : Program} {ops : Array Oper} {Q : Exit → Act → World → Prop} {md : Region.Mode} {S : World → Prop}
def bm (n k : Nat) : Array Bool := ((List.range n).map fun i => k.testBit i).toArray
theorem at_of_drop {i : Nat} {oi : Oper} {rest : List Oper} (h : ops.toList.drop i = oi :: rest) : ops[i]? = some oi := by
 have h2 : (ops.toList.drop i)[0]? = some oi := by rw [h]; rfl
 rw [List.getElem?_drop, Nat.add_zero] at h2
 rw [← Array.getElem?_toList]; exact h2
theorem takeH (i : Nat) (d : Option Tmp) (listed' : Array Bool) {oi : Oper} {rest : List Oper} {v : Value} {fuel : Nat} {listed : Array Bool} {a : Act} {w : World} (hi : ops.toList.drop i = oi :: rest) (hd : oi.dst = d)
 (hl : listed.setIfInBounds i true = listed') (hs : Region.noSelect ops = true) (hf : Region.free md ops listed i = true) (hr : (Region.ready md ops listed).contains i = true)
 (hQ : ∀ c a w, Q (.panic c) (a.put d v) w → Q (.panic c) a w) (hw : Region.wanted oi (yielded ops a.tmps) = true) (hy : ∀ w, S w → (execOp a.eval oi).run P w = .ok (.value v) w) (hS : S w)
 (h : wpAnyH P md ops Q S fuel listed' (a.put d v) w) : wpAnyH P md ops Q S (fuel + 1) listed a w := by
 subst hd; subst hl
 exact wpAnyH_take (at_of_drop hi) hs hf hr hQ (.inl ⟨hw, hy⟩) hS h
theorem passH (i : Nat) (d : Option Tmp) (listed' : Array Bool) {oi : Oper} {rest : List Oper} {fuel : Nat} {listed : Array Bool} {a : Act} {w : World} (hi : ops.toList.drop i = oi :: rest) (hd : oi.dst = d)
 (hl : listed.setIfInBounds i true = listed') (hs : Region.noSelect ops = true) (hf : Region.free md ops listed i = true) (hr : (Region.ready md ops listed).contains i = true)
 (hQ : ∀ c a w, Q (.panic c) (a.put d undef) w → Q (.panic c) a w) (hw : Region.wanted oi (yielded ops a.tmps) = false) (hS : S w)
 (h : wpAnyH P md ops Q S fuel listed' (a.put d undef) w) : wpAnyH P md ops Q S (fuel + 1) listed a w := by
 subst hd; subst hl
 exact wpAnyH_take (at_of_drop hi) hs hf hr hQ (.inr ⟨hw, rfl⟩) hS h
theorem oneH (i : Nat) (listed' : Array Bool) {oi : Oper} {rest : List Oper} {fuel : Nat} {listed : Array Bool} {a : Act} {w : World} (hi : ops.toList.drop i = oi :: rest) (hl : listed.setIfInBounds i true = listed')
 (hr : Region.ready md ops listed = [i]) (hw : Region.wanted oi (yielded ops a.tmps) = true)
 (h : ∀ K' : Act → World → Prop, Shut (∀ a w, S w → (S w → wpAnyH P md ops Q S fuel listed' a w) → K' a w) → Oper.wp P oi a w K' Q) : wpAnyH P md ops Q S (fuel + 1) listed a w := by
 subst hl
 refine wpAnyH_ready hr (by simp) (AllReadyH.cons (at_of_drop hi) (fun K hK => ?_) AllReadyH.nil)
 rw [hw, if_pos rfl]
 exact h K hK
theorem startH {id : Nat} {a : Act} {w : World} (listed' : Array Bool) (hm : P.follows .mixedOrders = true) (hl : Array.replicate ops.size false = listed') (hS : S w.drew)
 (h : S w.drew → wpAnyH P .any ops Q S ops.size listed' a w.drew) : (Code.region id ops true).wp P Q a w := by
 subst hl
 exact wp_region_held_drew hm hS h
/-! ### operation by operation, as the text has them -/
theorem bm_zero (n : Nat) : Array.replicate n false = bm n (2 ^ 0 - 1) := by
 apply Array.ext_getElem?
 intro j
 by_cases h : j < n <;> simp [bm, h]
theorem bm_next (n i : Nat) : (bm n (2 ^ i - 1)).setIfInBounds i true = bm n (2 ^ (i + 1) - 1) := by
 apply Array.ext_getElem?
 intro j
 rw [Array.getElem?_setIfInBounds]
 unfold bm
 by_cases hj : j < n
 ·by_cases he : i = j
  ·subst he
   simp [hj, Nat.testBit_two_pow_sub_one]
  ·simp [hj, he, Nat.testBit_two_pow_sub_one]
   omega
 ·by_cases he : i = j
  ·subst he; simp [hj]
  ·simp [hj, he]
def wpAt (P : Program) (md : Region.Mode) (ops : Array Oper) (Q : Exit → Act → World → Prop) (S : World → Prop) (i : Nat) (a : Act) (w : World) : Prop := wpAnyH P md ops Q S (ops.size - i) (bm ops.size (2 ^ i - 1)) a w
theorem at_lt {i : Nat} {oi : Oper} {rest : List Oper} (h : ops.toList.drop i = oi :: rest) : ops.size - i = (ops.size - (i + 1)) + 1 := by
 have := congrArg List.length h
 rw [List.length_drop, List.length_cons, Array.length_toList] at this
 omega
theorem takeT {i : Nat} {d : Option Tmp} {oi : Oper} {rest : List Oper} {v : Value} {a : Act} {w : World} (hy : ∀ w, S w → (execOp a.eval oi).run P w = .ok (.value v) w) (h : wpAt P md ops Q S (i + 1) (a.put d v) w)
 (hi : ops.toList.drop i = oi :: rest := by rfl) (hd : oi.dst = d := by rfl) (hs : Region.noSelect ops = true := by kernel_rfl) (hf : Region.free md ops (bm ops.size (2 ^ i - 1)) i = true := by kernel_rfl) (hr : (Region.ready md ops (bm ops.size (2 ^ i - 1))).contains i = true := by kernel_rfl)
 (hQ : ∀ c a w, Q (.panic c) (a.put d v) w → Q (.panic c) a w := by exact fun _ _ _ h => h) (hw : Region.wanted oi (yielded ops a.tmps) = true := by rfl) (hS : S w := by assumption) : wpAt P md ops Q S i a w := by
 unfold wpAt
 rw [at_lt hi]
 exact takeH i d _ hi hd (bm_next _ _) hs hf hr hQ hw hy hS h
theorem passT {i : Nat} {d : Option Tmp} {oi : Oper} {rest : List Oper} {a : Act} {w : World} (h : wpAt P md ops Q S (i + 1) (a.put d undef) w)
 (hi : ops.toList.drop i = oi :: rest := by rfl) (hd : oi.dst = d := by rfl) (hw : Region.wanted oi (yielded ops a.tmps) = false := by rfl) (hs : Region.noSelect ops = true := by kernel_rfl) (hf : Region.free md ops (bm ops.size (2 ^ i - 1)) i = true := by kernel_rfl) (hr : (Region.ready md ops (bm ops.size (2 ^ i - 1))).contains i = true := by kernel_rfl)
 (hQ : ∀ c a w, Q (.panic c) (a.put d undef) w → Q (.panic c) a w := by exact fun _ _ _ h => h) (hS : S w := by assumption) : wpAt P md ops Q S i a w := by
 unfold wpAt
 rw [at_lt hi]
 exact passH i d _ hi hd (bm_next _ _) hs hf hr hQ hw hS h
theorem oneT {i : Nat} {oi : Oper} {rest : List Oper} {a : Act} {w : World} (h : ∀ K' : Act → World → Prop, Shut (∀ a w, S w → (S w → wpAt P md ops Q S (i + 1) a w) → K' a w) → Oper.wp P oi a w K' Q)
 (hi : ops.toList.drop i = oi :: rest := by rfl) (hr : Region.ready md ops (bm ops.size (2 ^ i - 1)) = [i] := by kernel_rfl) (hw : Region.wanted oi (yielded ops a.tmps) = true := by rfl) : wpAt P md ops Q S i a w := by
 unfold wpAt
 rw [at_lt hi]
 exact oneH i _ hi (bm_next _ _) hr hw h
theorem doneT {i : Nat} {a : Act} {w : World} (h : Q .normal a w) (hr : Region.ready md ops (bm ops.size (2 ^ i - 1)) = [] := by kernel_rfl) : wpAt P md ops Q S i a w := wpAnyH_done hr h _
theorem startT {id : Nat} {a : Act} {w : World} (hS : S w.drew) (h : S w.drew → wpAt P .any ops Q S 0 a w.drew) (hm : P.follows .mixedOrders = true := by kernel_rfl) : (Code.region id ops true).wp P Q a w :=
 startH _ hm (bm_zero _) hS h
end
end Go.Proofs.YtnbkhdbligjifaaGreatDoor
