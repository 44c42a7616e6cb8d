/-
  That the world holds the first state: quorum.names.
-/
import Derived.Test.YtfkchheildfkpaaGreatDoorRfNat
import Derived.Lib.LaidTab
import Derived.Stop.LaidErr
namespace Go.Proofs.YtfkchheildfkpaaGreatDoor.Refl
open Go Go.RowKit
namespace Abs
set_option linter.unusedVariables false

def textData {H : Type} (l : List (List UInt8)) : DataW H := .agg (l.map fun s => .lit (.string s))
theorem cells_of_texts {H : Type} {enc : TypeId × Value → H} {P : Program} {w : World} {base : Nat} {sp : Nat → Bool} {held : Bool} {fuel : Nat} {t e : TypeId} {n : Nat} {cs : List Value} {zs : List (List UInt8)} {p : List MemPlace}
    (ht : P.underlying t = some (.array n e)) (he : P.underlying e = some .string) (hce : P.cellsOf e = 1) (hct : P.cellsOf t = n)
    (h : DataW.trod enc P w base sp held fuel t cs = some (textData zs, p)) : cs = zs.map fun z => Value.string ⟨z.toArray⟩ := by
  cases fuel with
  | zero => simp [DataW.trod] at h
  | succ fuel =>
    simp only [DataW.trod, ht, hce, hct, Nat.mul_one] at h
    split at h
    · rename_i hl
      obtain ⟨xs, hm, hx⟩ := Option.map_eq_some_iff.1 h
      have hxs : xs.map (·.1) = zs.map fun z => (DataW.lit (.string z) : DataW H) := by
        have := congrArg Prod.fst hx
        simpa [textData] using this
      have hxl : xs.length = n := by simpa using Lib.mapM_length hm
      have hzl : zs.length = n := by
        have := congrArg List.length hxs
        simp at this
        omega
      apply List.ext_getElem?
      intro i
      by_cases hi : i < n
      · obtain ⟨b, hb, hf⟩ := Lib.mapM_at hm i i (by simp [hi])
        obtain ⟨s, hc, rfl, _⟩ := DataW.trod_string he hf
        have h1 : cs[i]? = some (.string s) := by
          have := congrArg (·[0]?) hc
          simpa [List.getElem?_take, List.getElem?_drop] using this
        have h2 : (xs.map (·.1))[i]? = some (DataW.lit (.string s.data.toList) : DataW H) := by simp [hb]
        rw [hxs] at h2
        simp only [List.getElem?_map, Option.map_eq_some_iff, DataW.lit.injEq, Lit.string.injEq] at h2
        obtain ⟨z', hz', rfl⟩ := h2
        simp [h1, hz']
      · rw [List.getElem?_eq_none (by omega), List.getElem?_eq_none (by simp; omega)]
    · cases h

set_option maxRecDepth 100000 in
theorem names_ok {W : World} {G : Nat} (hG : 0 < G) {rest : List (String × DataW Unit)} (hs : W.ShapedOpen Tryz.prog) (hL : laidMet Tryz.prog (("strongbox/quorum.names", textData [[109, 48], [109, 49]]) :: rest) W) :
    HeapOk ⟨Tryz.prog, compC Tryz.prog G, G, W⟩ namesHeap (fun _ => 2) := by
  have hg : Tryz.prog.globalNamed "strongbox/quorum.names" = some 0 := by kernel_rfl
  have hty : (Tryz.prog.globals[(0 : Nat)]?).map (·.type) = some 134 := by kernel_rfl
  obtain ⟨ps, ⟨g', t', cs, fuel, p, q, hg', ht', hvar, hd, _, _⟩, _⟩ := hL
  obtain rfl := Option.some.inj (hg.symm.trans hg')
  obtain rfl := Option.some.inj (hty.symm.trans ht')
  have hcs := cells_of_texts Tryz.underlying134 Tryz.underlying9 (by kernel_rfl) (by kernel_rfl) hd
  have hrow : ((((begin Tryz.prog (fun _ _ => 0) default).world.heap[(0 : Nat)]?).bind Obj.row?).map fun z => (z.1.size, z.2)) = some (2, 134) := by kernel_rfl
  obtain ⟨⟨zero, t⟩, hz, hzt⟩ := Option.map_eq_some_iff.1 hrow
  simp only [Prod.mk.injEq] at hzt
  obtain ⟨hzs, rfl⟩ := hzt
  obtain ⟨cs', hcell, hsz, _⟩ := hs.1 0 zero _ (of_decide_eq_true (by kernel_rfl)) hz
  have hat : ∀ i, i < 2 → cs'[i]? = cs[i]? := fun i hi => by
    rw [← World.var?_cell hg hvar i]
    simp [World.cell?, hcell]
  intro b blk hb
  have hb : setB (T.leaf : T ABlock).get 0 (.cells (putCells .leaf 0 [.str 2 27952, .str 2 27953]) undefA 2 false 134) b = some blk := by
    rw [← put_setB _ _ (by decide)]
    exact hb
  by_cases e : b = 0
  · subst e
    rw [setB_same] at hb
    cases hb
    refine ⟨hG, rfl, _, hcell, cs', 0, 0, rfl, by rw [hsz, hzs], Nat.le_refl _, (fun h => by cases h), fun i hi => ?_⟩
    rw [hat i hi]
    have hcs2 : cs = #[.string ⟨#[109, 48]⟩, .string ⟨#[109, 49]⟩] := Array.toList_inj.1 (by simpa using hcs)
    rw [hcs2]
    rcases (by omega : i = 0 ∨ i = 1) with rfl | rfl
    · exact ⟨_, rfl, ⟨_, rfl, rfl, by decide⟩⟩
    · exact ⟨_, rfl, ⟨_, rfl, rfl, by decide⟩⟩
  · rw [setB_other _ _ e, T.get_leaf] at hb
    cases hb
end Abs
end Go.Proofs.YtfkchheildfkpaaGreatDoor.Refl
