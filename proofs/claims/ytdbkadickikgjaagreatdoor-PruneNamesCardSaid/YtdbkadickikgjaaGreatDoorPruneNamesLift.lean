/-
 That the world holds the first state: quorum.names. The call, in every world that the row lets in.
-/
import Derived.Test.YtdbkadickikgjaaGreatDoorRfNat
import Derived.Lib.LaidTab
import Derived.Stop.LaidErr
import Derived.Test.YtdbkadickikgjaaGreatDoorRows
import Derived.Test.YtdbkadickikgjaaGreatDoorCards
import Derived.Test.YtdbkadickikgjaaGreatDoorTie
import Derived.Lib.SmallJoins
import Derived.LaidMore
import Derived.ProofKit
import Derived.OpenShut
import Derived.ShutString
import Derived.Handed
import Derived.HandedShaped
import Derived.Test.YtdbkadickikgjaaGreatDoorRfRun
import Derived.SevenTiedAt
import Derived.MakeChecks
import Derived.Carry
import Derived.Lay
namespace Go.Proofs.YtdbkadickikgjaaGreatDoor.Refl
open Go Go.RowKit
namespace Abs
set_option linter.unusedVariables false

def textData {H : Type} (l : List (List UInt8)) : DataW H := .agg (l.map fun s => .lit (.string s))
theorem cells_of_texts {H : Type} {enc : TypeId × Value → H} {P : Program} {w : World} {base : Nat} {sp : Nat → Bool} {held : Bool} {fuel : Nat} {t e : TypeId} {n : Nat} {cs : List Value} {zs : List (List UInt8)} {p : List MemPlace}
    (ht : P.underlying t = some (.array n e)) (he : P.underlying e = some .string) (hce : P.cellsOf e = 1) (hct : P.cellsOf t = n)
    (h : DataW.trod enc P w base sp held fuel t cs = some (textData zs, p)) : cs = zs.map fun z => Value.string ⟨z.toArray⟩ := by
  cases fuel with
  | zero => simp [DataW.trod] at h
  | succ fuel =>
    simp only [DataW.trod, ht, hce, hct, Nat.mul_one] at h
    split at h
    · rename_i hl
      obtain ⟨xs, hm, hx⟩ := Option.map_eq_some_iff.1 h
      have hxs : xs.map (·.1) = zs.map fun z => (DataW.lit (.string z) : DataW H) := by
        have := congrArg Prod.fst hx
        simpa [textData] using this
      have hxl : xs.length = n := by simpa using Lib.mapM_length hm
      have hzl : zs.length = n := by
        have := congrArg List.length hxs
        simp at this
        omega
      apply List.ext_getElem?
      intro i
      by_cases hi : i < n
      · obtain ⟨b, hb, hf⟩ := Lib.mapM_at hm i i (by simp [hi])
        obtain ⟨s, hc, rfl, _⟩ := DataW.trod_string he hf
        have h1 : cs[i]? = some (.string s) := by
          have := congrArg (·[0]?) hc
          simpa [List.getElem?_take, List.getElem?_drop] using this
        have h2 : (xs.map (·.1))[i]? = some (DataW.lit (.string s.data.toList) : DataW H) := by simp [hb]
        rw [hxs] at h2
        simp only [List.getElem?_map, Option.map_eq_some_iff, DataW.lit.injEq, Lit.string.injEq] at h2
        obtain ⟨z', hz', rfl⟩ := h2
        simp [h1, hz']
      · rw [List.getElem?_eq_none (by omega), List.getElem?_eq_none (by simp; omega)]
    · cases h

set_option maxRecDepth 100000 in
theorem names_ok {W : World} {G : Nat} (hG : 0 < G) {rest : List (String × DataW Unit)} (hs : W.ShapedOpen Tryz.prog) (hL : laidMet Tryz.prog (("strongbox/quorum.names", textData [[109, 48], [109, 49]]) :: rest) W) :
    HeapOk ⟨Tryz.prog, compC Tryz.prog G, G, W⟩ namesHeap (fun _ => 2) := by
  have hg : Tryz.prog.globalNamed "strongbox/quorum.names" = some 0 := by kernel_rfl
  have hty : (Tryz.prog.globals[(0 : Nat)]?).map (·.type) = some 181 := by kernel_rfl
  obtain ⟨ps, ⟨g', t', cs, fuel, p, q, hg', ht', hvar, hd, _, _⟩, _⟩ := hL
  obtain rfl := Option.some.inj (hg.symm.trans hg')
  obtain rfl := Option.some.inj (hty.symm.trans ht')
  have hcs := cells_of_texts Tryz.underlying181 Tryz.underlying9 (by kernel_rfl) (by kernel_rfl) hd
  have hrow : ((((begin Tryz.prog (fun _ _ => 0) default).world.heap[(0 : Nat)]?).bind Obj.row?).map fun z => (z.1.size, z.2)) = some (2, 181) := by kernel_rfl
  obtain ⟨⟨zero, t⟩, hz, hzt⟩ := Option.map_eq_some_iff.1 hrow
  simp only [Prod.mk.injEq] at hzt
  obtain ⟨hzs, rfl⟩ := hzt
  obtain ⟨cs', hcell, hsz, _⟩ := hs.1 0 zero _ (of_decide_eq_true (by kernel_rfl)) hz
  have hat : ∀ i, i < 2 → cs'[i]? = cs[i]? := fun i hi => by
    rw [← World.var?_cell hg hvar i]
    simp [World.cell?, hcell]
  intro b blk hb
  have hb : setB (T.leaf : T ABlock).get 0 (.cells (putCells .leaf 0 [.str 2 27952, .str 2 27953]) undefA 2 false 181) b = some blk := by
    rw [← put_setB _ _ (by decide)]
    exact hb
  by_cases e : b = 0
  · subst e
    rw [setB_same] at hb
    cases hb
    refine ⟨hG, rfl, _, hcell, cs', 0, 0, rfl, by rw [hsz, hzs], Nat.le_refl _, (fun h => by cases h), fun i hi => ?_⟩
    rw [hat i hi]
    have hcs2 : cs = #[.string ⟨#[109, 48]⟩, .string ⟨#[109, 49]⟩] := Array.toList_inj.1 (by simpa using hcs)
    rw [hcs2]
    rcases (by omega : i = 0 ∨ i = 1) with rfl | rfl
    · exact ⟨_, rfl, ⟨_, rfl, rfl, by decide⟩⟩
    · exact ⟨_, rfl, ⟨_, rfl, rfl, by decide⟩⟩
  · rw [setB_other _ _ e, T.get_leaf] at hb
    cases hb
end Abs
end Go.Proofs.YtdbkadickikgjaaGreatDoor.Refl
namespace Go.Proofs.YtdbkadickikgjaaGreatDoor
open Go.ChangeShapes Go.WideShapes Go.ChangeAt Go.RowKit Go.Joins
namespace Shd

/-- the builder of a row that lists variables, and hands on the world's shape -/
theorem handed {H : Type} {enc : TypeId × Value → H} {a : Assume} {C : Checked} {os : Os} {f : FuncId} {fn : Func} {s : ChangeSpec} {conds : List PathCond} {apart fresh handsOn again : Bool} {X : World → Array Value → Prop}
    (hX : ∀ (w w' : World) (args : Array Value), w.heap = w'.heap → X w args → X w' args)
    (own : ownKnob C.prog.godebug = none) (started : os.Started) (noInit : C.prog.inits.idxOf? f = none) (hfn : C.prog.funcs[f]? = some fn)
    (witness : ∃ (w : World) (tape : Tape) (i : Input), w.os = os ∧ (w.forCall tape i).Shaped C.prog ∧ i.vars = [] ∧ Input.okWide C.prog (w.forCall tape i) .any w.heap.size f i ∧
      ((s.pre enc C.prog fn conds apart (w.forCall tape i).memory i.args ∧ X (w.forCall tape i).memory i.args) ∧ sizedMet enc C.prog fn (OpenSpec.ofChange s) apart (w.forCall tape i).memory i.args) ∧ a.holds C.prog (lone (Frame.enter C.prog f i.args .normal) [] (w.forCall tape i)))
    (contract : ∀ (W : World) (base : Nat) (args : Array Value) (ds gs : List (DataW H)) (before : List MemPlace),
      (∀ (j : Nat) t v, fn.params[j]? = some t → args[j]? = some v → Value.okWide C.prog W .any base t v) →
      DataW.Whole enc C.prog fn.params.toList s.vars apart W args.toList ds gs before →
      W.ShapedOpen C.prog → X W args →
      Calls C.prog f args W fun e W' => ∃ v, e = .returned v ∧ s.post enc C.prog fn apart fresh handsOn again W args v W') :
    ReturnsInHanded a C os f .any (fun w args => (s.pre enc C.prog fn conds apart w args ∧ X w args) ∧ sizedMet enc C.prog fn (OpenSpec.ofChange s) apart w args) (s.post enc C.prog fn apart fresh handsOn again) := by
  refine returnsInHanded_of_calls own started noInit witness ?_
  intro w tape i _ hsh _ hok hpre hholds
  obtain ⟨_, _, _, fn', hfn', _, _, _, _, hval⟩ := hok
  have e : fn' = fn := Option.some.inj (hfn'.symm.trans hfn)
  subst e
  obtain ⟨⟨⟨ds, gs, before, hw, hc⟩, hx⟩, hz⟩ := hpre
  have hw' := DataW.Whole.of_heap (w' := w.forCall tape i) (by rfl) hw
  refine (contract (w.forCall tape i) w.heap.size i.args ds gs before hval hw' hsh (hX _ _ _ (by rfl) hx)).mono fun e W' ⟨v, he, hp⟩ => ?_
  subst he
  exact ChangeSpec.post_blind hp

end Shd
end Go.Proofs.YtdbkadickikgjaaGreatDoor
namespace Go.Proofs.YtdbkadickikgjaaGreatDoor.pruneNames
open Go.ChangeShapes Go.WideShapes Go.ChangeAt Go.RowKit
set_option linter.unusedVariables false

theorem own : ownKnob Tryz.prog.godebug = none := by kernel_rfl
theorem laidOut : laidOutB Tryz.prog = true := by kernel_rfl

set_option maxRecDepth 100000 in
theorem lifted (os : Os) (started : os.Started) (H : Type) (enc : TypeId × Value → H) :
    ReturnsInHanded {} Tryz.checked os 3 .any (fun w args => (Rows.pruneNamesSpec.pre enc Tryz.prog Tryz.f3 [] false w args ∧ laidMetH Tryz.prog Rows.pruneNamesRow.laid w) ∧ sizedMet enc Tryz.prog Tryz.f3 (OpenSpec.ofChange Rows.pruneNamesSpec) false w args)
      (Rows.pruneNamesSpec.post enc Tryz.prog Tryz.f3 false true false false) := by
  refine Shd.handed (C := Tryz.checked) (X := fun w _ => laidMetH Tryz.prog Rows.pruneNamesRow.laid w) (fun _ _ _ hh h => h.of_heap hh) own started (by kernel_rfl) Tryz.func3
    (ChangeSpec.witness_shaped (enc := enc) (C := Tryz.checked) (os := os) (X := fun w _ => laidMetH Tryz.prog Rows.pruneNamesRow.laid w) false (World.laidAll Tryz.prog os Rows.pruneNamesRow.laid) #[] 8 (World.laidAll_os _ _ _) (World.shaped_of_ZipB (by kernel_rfl) (by kernel_rfl)) (by kernel_rfl) (by kernel_rfl) (by kernel_rfl)
      (by rw [MakeChecks.laidMetH_plain _ _ _ (by kernel_rfl)]; exact laidMet_laidAll _ (by kernel_rfl) (by kernel_rfl))) ?_
  intro W base args ds gs before hval0 hW hsh hL
  have hval : ∀ (j : Nat) t v, Tryz.f3.params[j]? = some t → args[j]? = some v → Value.okWide Tryz.prog W .any base t v := hval0
  have hW' := hW
  obtain ⟨p, q, hA0, hV, rfl, hfz, hnd⟩ := hW
  have hA : DataW.TrodAll enc Tryz.prog W 0 (fun _ => true) true Tryz.f3.params.toList args.toList ds p := hA0
  rw [Tryz.params3] at hA hval
  obtain ⟨rfl, rfl, rfl⟩ := trodAll_none hA

  obtain ⟨rfl, rfl⟩ := trodVars_none hV
  rw [MakeChecks.laidMetH_plain _ _ _ (by kernel_rfl)] at hL
  have hG : 7 ≤ W.heap.size := by
    obtain ⟨o, _, ho, _⟩ := hsh.2 7 (of_decide_eq_true (by kernel_rfl)) (of_decide_eq_true (by kernel_rfl))
    have := (Array.getElem?_eq_some_iff.1 ho).1
    omega


  clear hA0 hval0
  refine (Refl.Abs.true_any W hG (Refl.Abs.names_ok (of_decide_eq_true (by kernel_rfl)) hsh hL.tail.tail.tail.tail)).mono fun e W' ⟨he, bel⟩ => ?_
  subst he
  exact ⟨_, rfl, _, _, _, [], _, [], hW', trodAll_mk1 (shut_bool Tryz.underlying4 _), trodAll_mk0, rfl, bel.frame _, fun h => by cases h⟩
end Go.Proofs.YtdbkadickikgjaaGreatDoor.pruneNames
