/-
  No cell of these rows narrows 'for every input' (looked for: loops, veiled, ifaces, maps, wideKeys, modest, calm, conditions, laid).
  DERIVED. THE GIVEN ROWS OF THIS SEAT. 11 by the template 'for every input the law returns true; each argument reads behind the call as it read before'; 0 by the template 'total and deterministic' (their statements: YtiblljellcgjbaaTotals.lean).
  GIVEN WITH THE SEED: the statements are not yours to turn. If you find one false, say at which input.
  Laid BY PROGRAM, IN A SANDBOX (cutbox-rows.mjs): the forced cells as the released guide's own fill.sh prints them over the translation e6cc6d3c200b4b05… (all of the seat's roots in one cut). By AI agents, Wed Nov 11 2026. No macro, syntax, notation, axiom, sorry.
-/
import Derived.Test.YtiblljellcgjbaaChecked
import GoSem.Claim
import GoSem.ClaimJoined
import GoSem.ClaimMapViews
import Derived.JoinedTies
import Derived.KernelRfl
namespace Go.Proofs.Ytiblljellcgjbaa
/- THE CELL 'sum', in the pinned program and in every row, IS THE sha256 OF THE DUMP (.gsa) THAT YtiblljellcgjbaaProg.lean LOADS. Nothing in Lean hashes anything: it is a label: what it is worth is what the hold of that sum in a sandbox is worth. -/
noncomputable def Try.pinned : Pinned := { name := "ytiblljellcgjbaa", sum := "e6cc6d3c200b4b0502ada53aacc8b6664f7a6538c7773393c9fc666b8a932a23", checked := Try.checked }
namespace Rows
def none {H : Type} : Left H := { results := [], args := [] }

/-- 'strongboxlaw13.GearNames': WHATEVER THE INPUT: true; the input reads as it did. -/
def gearNamesSpec : ChangeSpec := { name := "gearNames", fn := fun _ => fun
  | [] => { results := [.lit (.bool true)], args := [] }
  | _ => none }
def gearNamesRow : OpenClaim := { program := "ytiblljellcgjbaa", sum := "e6cc6d3c200b4b0502ada53aacc8b6664f7a6538c7773393c9fc666b8a932a23", func := "strongbox/strongboxlaw13.GearNames", spec := "gearNames", unfollowed := true, recurses := true, apart := false }
def GearNamesSaid : Prop := gearNamesRow.holds Try.pinned (OpenSpec.ofChange gearNamesSpec)

/-- ITS FALSE NEIGHBOUR: 'it returns false'. Refute it at one input. -/
def gearNamesWrong : ChangeSpec := { name := "gearNames", fn := fun _ => fun
  | [] => { results := [.lit (.bool false)], args := [] }
  | _ => none }
def GearNamesWrongFalsely : Prop := gearNamesRow.holds Try.pinned (OpenSpec.ofChange gearNamesWrong)

/-- 'strongboxlaw13.GearRolls': WHATEVER THE INPUT: true; the input reads as it did. -/
def gearRollsSpec : ChangeSpec := { name := "gearRolls", fn := fun _ => fun
  | [d1, d2, d3] => { results := [.lit (.bool true)], args := [d1, d2, d3] }
  | _ => none }
def gearRollsRow : OpenClaim := { program := "ytiblljellcgjbaa", sum := "e6cc6d3c200b4b0502ada53aacc8b6664f7a6538c7773393c9fc666b8a932a23", func := "strongbox/strongboxlaw13.GearRolls", spec := "gearRolls", unfollowed := true, recurses := true, apart := false }
def GearRollsSaid : Prop := gearRollsRow.holds Try.pinned (OpenSpec.ofChange gearRollsSpec)

/-- ITS FALSE NEIGHBOUR: 'it returns false'. Refute it at one input. -/
def gearRollsWrong : ChangeSpec := { name := "gearRolls", fn := fun _ => fun
  | [d1, d2, d3] => { results := [.lit (.bool false)], args := [d1, d2, d3] }
  | _ => none }
def GearRollsWrongFalsely : Prop := gearRollsRow.holds Try.pinned (OpenSpec.ofChange gearRollsWrong)

/-- 'strongboxlaw13.GearWindow': WHATEVER THE INPUT: true; the input reads as it did. -/
def gearWindowSpec : ChangeSpec := { name := "gearWindow", fn := fun _ => fun
  | [d1, d2, d3] => { results := [.lit (.bool true)], args := [d1, d2, d3] }
  | _ => none }
def gearWindowRow : OpenClaim := { program := "ytiblljellcgjbaa", sum := "e6cc6d3c200b4b0502ada53aacc8b6664f7a6538c7773393c9fc666b8a932a23", func := "strongbox/strongboxlaw13.GearWindow", spec := "gearWindow", unfollowed := true, recurses := true, apart := false }
def GearWindowSaid : Prop := gearWindowRow.holds Try.pinned (OpenSpec.ofChange gearWindowSpec)

/-- ITS FALSE NEIGHBOUR: 'it returns false'. Refute it at one input. -/
def gearWindowWrong : ChangeSpec := { name := "gearWindow", fn := fun _ => fun
  | [d1, d2, d3] => { results := [.lit (.bool false)], args := [d1, d2, d3] }
  | _ => none }
def GearWindowWrongFalsely : Prop := gearWindowRow.holds Try.pinned (OpenSpec.ofChange gearWindowWrong)

/-- 'strongboxlaw13.GearOther': WHATEVER THE INPUT: true; the input reads as it did. -/
def gearOtherSpec : ChangeSpec := { name := "gearOther", fn := fun _ => fun
  | [d1, d2, d3, d4] => { results := [.lit (.bool true)], args := [d1, d2, d3, d4] }
  | _ => none }
def gearOtherRow : OpenClaim := { program := "ytiblljellcgjbaa", sum := "e6cc6d3c200b4b0502ada53aacc8b6664f7a6538c7773393c9fc666b8a932a23", func := "strongbox/strongboxlaw13.GearOther", spec := "gearOther", unfollowed := true, recurses := true, apart := false }
def GearOtherSaid : Prop := gearOtherRow.holds Try.pinned (OpenSpec.ofChange gearOtherSpec)

/-- ITS FALSE NEIGHBOUR: 'it returns false'. Refute it at one input. -/
def gearOtherWrong : ChangeSpec := { name := "gearOther", fn := fun _ => fun
  | [d1, d2, d3, d4] => { results := [.lit (.bool false)], args := [d1, d2, d3, d4] }
  | _ => none }
def GearOtherWrongFalsely : Prop := gearOtherRow.holds Try.pinned (OpenSpec.ofChange gearOtherWrong)

/-- 'strongboxlaw13.GearRow': WHATEVER THE INPUT: true; the input reads as it did. -/
def gearRowSpec : ChangeSpec := { name := "gearRow", fn := fun _ => fun
  | [d1, d2] => { results := [.lit (.bool true)], args := [d1, d2] }
  | _ => none }
def gearRowRow : OpenClaim := { program := "ytiblljellcgjbaa", sum := "e6cc6d3c200b4b0502ada53aacc8b6664f7a6538c7773393c9fc666b8a932a23", func := "strongbox/strongboxlaw13.GearRow", spec := "gearRow", unfollowed := true, recurses := true, apart := false }
def GearRowSaid : Prop := gearRowRow.holds Try.pinned (OpenSpec.ofChange gearRowSpec)

/-- ITS FALSE NEIGHBOUR: 'it returns false'. Refute it at one input. -/
def gearRowWrong : ChangeSpec := { name := "gearRow", fn := fun _ => fun
  | [d1, d2] => { results := [.lit (.bool false)], args := [d1, d2] }
  | _ => none }
def GearRowWrongFalsely : Prop := gearRowRow.holds Try.pinned (OpenSpec.ofChange gearRowWrong)

/-- 'strongboxlaw14.CutTells': WHATEVER THE INPUT: true; the input reads as it did. -/
def cutTellsSpec : ChangeSpec := { name := "cutTells", fn := fun _ => fun
  | [d] => { results := [.lit (.bool true)], args := [d] }
  | _ => none }
def cutTellsRow : OpenClaim := { program := "ytiblljellcgjbaa", sum := "e6cc6d3c200b4b0502ada53aacc8b6664f7a6538c7773393c9fc666b8a932a23", func := "strongbox/strongboxlaw14.CutTells", spec := "cutTells", unfollowed := true, recurses := true, apart := false }
def CutTellsSaid : Prop := cutTellsRow.holds Try.pinned (OpenSpec.ofChange cutTellsSpec)

/-- ITS FALSE NEIGHBOUR: 'it returns false'. Refute it at one input. -/
def cutTellsWrong : ChangeSpec := { name := "cutTells", fn := fun _ => fun
  | [d] => { results := [.lit (.bool false)], args := [d] }
  | _ => none }
def CutTellsWrongFalsely : Prop := cutTellsRow.holds Try.pinned (OpenSpec.ofChange cutTellsWrong)

/-- 'strongboxlaw14.CutNames': WHATEVER THE INPUT: true; the input reads as it did. -/
def cutNamesSpec : ChangeSpec := { name := "cutNames", fn := fun _ => fun
  | [] => { results := [.lit (.bool true)], args := [] }
  | _ => none }
def cutNamesRow : OpenClaim := { program := "ytiblljellcgjbaa", sum := "e6cc6d3c200b4b0502ada53aacc8b6664f7a6538c7773393c9fc666b8a932a23", func := "strongbox/strongboxlaw14.CutNames", spec := "cutNames", unfollowed := true, recurses := true, apart := false }
def CutNamesSaid : Prop := cutNamesRow.holds Try.pinned (OpenSpec.ofChange cutNamesSpec)

/-- ITS FALSE NEIGHBOUR: 'it returns false'. Refute it at one input. -/
def cutNamesWrong : ChangeSpec := { name := "cutNames", fn := fun _ => fun
  | [] => { results := [.lit (.bool false)], args := [] }
  | _ => none }
def CutNamesWrongFalsely : Prop := cutNamesRow.holds Try.pinned (OpenSpec.ofChange cutNamesWrong)

/-- 'strongboxlaw14.CutWhole': WHATEVER THE INPUT: true; the input reads as it did. -/
def cutWholeSpec : ChangeSpec := { name := "cutWhole", fn := fun _ => fun
  | [d] => { results := [.lit (.bool true)], args := [d] }
  | _ => none }
def cutWholeRow : OpenClaim := { program := "ytiblljellcgjbaa", sum := "e6cc6d3c200b4b0502ada53aacc8b6664f7a6538c7773393c9fc666b8a932a23", func := "strongbox/strongboxlaw14.CutWhole", spec := "cutWhole", unfollowed := true, recurses := true, apart := false }
def CutWholeSaid : Prop := cutWholeRow.holds Try.pinned (OpenSpec.ofChange cutWholeSpec)

/-- ITS FALSE NEIGHBOUR: 'it returns false'. Refute it at one input. -/
def cutWholeWrong : ChangeSpec := { name := "cutWhole", fn := fun _ => fun
  | [d] => { results := [.lit (.bool false)], args := [d] }
  | _ => none }
def CutWholeWrongFalsely : Prop := cutWholeRow.holds Try.pinned (OpenSpec.ofChange cutWholeWrong)

/-- 'strongboxlaw14.CutLocal': WHATEVER THE INPUT: true; the input reads as it did. -/
def cutLocalSpec : ChangeSpec := { name := "cutLocal", fn := fun _ => fun
  | [d1, d2, d3, d4] => { results := [.lit (.bool true)], args := [d1, d2, d3, d4] }
  | _ => none }
def cutLocalRow : OpenClaim := { program := "ytiblljellcgjbaa", sum := "e6cc6d3c200b4b0502ada53aacc8b6664f7a6538c7773393c9fc666b8a932a23", func := "strongbox/strongboxlaw14.CutLocal", spec := "cutLocal", unfollowed := true, recurses := true, apart := false }
def CutLocalSaid : Prop := cutLocalRow.holds Try.pinned (OpenSpec.ofChange cutLocalSpec)

/-- ITS FALSE NEIGHBOUR: 'it returns false'. Refute it at one input. -/
def cutLocalWrong : ChangeSpec := { name := "cutLocal", fn := fun _ => fun
  | [d1, d2, d3, d4] => { results := [.lit (.bool false)], args := [d1, d2, d3, d4] }
  | _ => none }
def CutLocalWrongFalsely : Prop := cutLocalRow.holds Try.pinned (OpenSpec.ofChange cutLocalWrong)

/-- 'strongboxlaw14.CutMany': WHATEVER THE INPUT: true; the input reads as it did. -/
def cutManySpec : ChangeSpec := { name := "cutMany", fn := fun _ => fun
  | [d] => { results := [.lit (.bool true)], args := [d] }
  | _ => none }
def cutManyRow : OpenClaim := { program := "ytiblljellcgjbaa", sum := "e6cc6d3c200b4b0502ada53aacc8b6664f7a6538c7773393c9fc666b8a932a23", func := "strongbox/strongboxlaw14.CutMany", spec := "cutMany", unfollowed := true, recurses := true, apart := false }
def CutManySaid : Prop := cutManyRow.holds Try.pinned (OpenSpec.ofChange cutManySpec)

/-- ITS FALSE NEIGHBOUR: 'it returns false'. Refute it at one input. -/
def cutManyWrong : ChangeSpec := { name := "cutMany", fn := fun _ => fun
  | [d] => { results := [.lit (.bool false)], args := [d] }
  | _ => none }
def CutManyWrongFalsely : Prop := cutManyRow.holds Try.pinned (OpenSpec.ofChange cutManyWrong)

/-- 'strongboxlaw14.CutAlone': WHATEVER THE INPUT: true; the input reads as it did. -/
def cutAloneSpec : ChangeSpec := { name := "cutAlone", fn := fun _ => fun
  | [d1, d2] => { results := [.lit (.bool true)], args := [d1, d2] }
  | _ => none }
def cutAloneRow : OpenClaim := { program := "ytiblljellcgjbaa", sum := "e6cc6d3c200b4b0502ada53aacc8b6664f7a6538c7773393c9fc666b8a932a23", func := "strongbox/strongboxlaw14.CutAlone", spec := "cutAlone", unfollowed := true, recurses := true, apart := false }
def CutAloneSaid : Prop := cutAloneRow.holds Try.pinned (OpenSpec.ofChange cutAloneSpec)

/-- ITS FALSE NEIGHBOUR: 'it returns false'. Refute it at one input. -/
def cutAloneWrong : ChangeSpec := { name := "cutAlone", fn := fun _ => fun
  | [d1, d2] => { results := [.lit (.bool false)], args := [d1, d2] }
  | _ => none }
def CutAloneWrongFalsely : Prop := cutAloneRow.holds Try.pinned (OpenSpec.ofChange cutAloneWrong)

/- THE SECOND FORM. 'bulk': how many values and letters a reading holds, each counted each time it is reached (what is shared counts as often as it is met; a slice's spare places count too). A statement '..UptoSaid' is the law's where the arguments, and the package variables that the reading takes, are together of bulk at most 1048576: NARROWER than '..Said'. Prove '..Said' where nothing that the law and all that it calls make is longer than what came in: it says more and counts as full. Else prove '..UptoSaid'. A law counts once. -/
mutual
def uptoBulk {H : Type} : DataW H → Nat
  | .lit (.string bytes) => bytes.length + 1
  | .lit _ => 1
  | .nil => 1
  | .ptr d => uptoBulk d + 1
  | .slice elems spare => uptoBulkAll elems + uptoBulkAll spare + 1
  | .agg parts => uptoBulkAll parts + 1
  | .iface _ d => uptoBulk d + 1
  | .map entries => uptoBulkEntries entries + 1
  | .held _ => 1
def uptoBulkAll {H : Type} : List (DataW H) → Nat
  | [] => 0
  | d :: r => uptoBulk d + uptoBulkAll r
def uptoBulkEntries {H : Type} : List (Lit × DataW H) → Nat
  | [] => 0
  | x :: r => uptoBulkEntry x + uptoBulkEntries r
def uptoBulkEntry {H : Type} : Lit × DataW H → Nat
  | (.string bytes, d) => bytes.length + uptoBulk d + 1
  | (_, d) => uptoBulk d + 1
 end
def uptoSmall : (H : Type) → List (DataW H) → Bool := fun _ ds => decide (uptoBulkAll ds ≤ 1048576)
def OpenSpec.upto (s : _root_.Go.ChangeSpec) : _root_.Go.OpenSpec := { _root_.Go.OpenSpec.ofChange s with cond := some uptoSmall }

/-- 'strongboxlaw13.GearNames', WHERE WHAT IT READS IS OF BULK AT MOST 1048576: true; the input reads as it did. -/
def gearNamesUptoRow : OpenClaim := { program := "ytiblljellcgjbaa", sum := "e6cc6d3c200b4b0502ada53aacc8b6664f7a6538c7773393c9fc666b8a932a23", func := "strongbox/strongboxlaw13.GearNames", spec := "gearNames", unfollowed := true, recurses := true, apart := false, narrowed := true }
def GearNamesUptoSaid : Prop := gearNamesUptoRow.holds Try.pinned (OpenSpec.upto gearNamesSpec)

/-- 'strongboxlaw13.GearRolls', WHERE WHAT IT READS IS OF BULK AT MOST 1048576: true; the input reads as it did. -/
def gearRollsUptoRow : OpenClaim := { program := "ytiblljellcgjbaa", sum := "e6cc6d3c200b4b0502ada53aacc8b6664f7a6538c7773393c9fc666b8a932a23", func := "strongbox/strongboxlaw13.GearRolls", spec := "gearRolls", unfollowed := true, recurses := true, apart := false, narrowed := true }
def GearRollsUptoSaid : Prop := gearRollsUptoRow.holds Try.pinned (OpenSpec.upto gearRollsSpec)

/-- 'strongboxlaw13.GearWindow', WHERE WHAT IT READS IS OF BULK AT MOST 1048576: true; the input reads as it did. -/
def gearWindowUptoRow : OpenClaim := { program := "ytiblljellcgjbaa", sum := "e6cc6d3c200b4b0502ada53aacc8b6664f7a6538c7773393c9fc666b8a932a23", func := "strongbox/strongboxlaw13.GearWindow", spec := "gearWindow", unfollowed := true, recurses := true, apart := false, narrowed := true }
def GearWindowUptoSaid : Prop := gearWindowUptoRow.holds Try.pinned (OpenSpec.upto gearWindowSpec)

/-- 'strongboxlaw13.GearOther', WHERE WHAT IT READS IS OF BULK AT MOST 1048576: true; the input reads as it did. -/
def gearOtherUptoRow : OpenClaim := { program := "ytiblljellcgjbaa", sum := "e6cc6d3c200b4b0502ada53aacc8b6664f7a6538c7773393c9fc666b8a932a23", func := "strongbox/strongboxlaw13.GearOther", spec := "gearOther", unfollowed := true, recurses := true, apart := false, narrowed := true }
def GearOtherUptoSaid : Prop := gearOtherUptoRow.holds Try.pinned (OpenSpec.upto gearOtherSpec)

/-- 'strongboxlaw13.GearRow', WHERE WHAT IT READS IS OF BULK AT MOST 1048576: true; the input reads as it did. -/
def gearRowUptoRow : OpenClaim := { program := "ytiblljellcgjbaa", sum := "e6cc6d3c200b4b0502ada53aacc8b6664f7a6538c7773393c9fc666b8a932a23", func := "strongbox/strongboxlaw13.GearRow", spec := "gearRow", unfollowed := true, recurses := true, apart := false, narrowed := true }
def GearRowUptoSaid : Prop := gearRowUptoRow.holds Try.pinned (OpenSpec.upto gearRowSpec)

/-- 'strongboxlaw14.CutTells', WHERE WHAT IT READS IS OF BULK AT MOST 1048576: true; the input reads as it did. -/
def cutTellsUptoRow : OpenClaim := { program := "ytiblljellcgjbaa", sum := "e6cc6d3c200b4b0502ada53aacc8b6664f7a6538c7773393c9fc666b8a932a23", func := "strongbox/strongboxlaw14.CutTells", spec := "cutTells", unfollowed := true, recurses := true, apart := false, narrowed := true }
def CutTellsUptoSaid : Prop := cutTellsUptoRow.holds Try.pinned (OpenSpec.upto cutTellsSpec)

/-- 'strongboxlaw14.CutNames', WHERE WHAT IT READS IS OF BULK AT MOST 1048576: true; the input reads as it did. -/
def cutNamesUptoRow : OpenClaim := { program := "ytiblljellcgjbaa", sum := "e6cc6d3c200b4b0502ada53aacc8b6664f7a6538c7773393c9fc666b8a932a23", func := "strongbox/strongboxlaw14.CutNames", spec := "cutNames", unfollowed := true, recurses := true, apart := false, narrowed := true }
def CutNamesUptoSaid : Prop := cutNamesUptoRow.holds Try.pinned (OpenSpec.upto cutNamesSpec)

/-- 'strongboxlaw14.CutWhole', WHERE WHAT IT READS IS OF BULK AT MOST 1048576: true; the input reads as it did. -/
def cutWholeUptoRow : OpenClaim := { program := "ytiblljellcgjbaa", sum := "e6cc6d3c200b4b0502ada53aacc8b6664f7a6538c7773393c9fc666b8a932a23", func := "strongbox/strongboxlaw14.CutWhole", spec := "cutWhole", unfollowed := true, recurses := true, apart := false, narrowed := true }
def CutWholeUptoSaid : Prop := cutWholeUptoRow.holds Try.pinned (OpenSpec.upto cutWholeSpec)

/-- 'strongboxlaw14.CutLocal', WHERE WHAT IT READS IS OF BULK AT MOST 1048576: true; the input reads as it did. -/
def cutLocalUptoRow : OpenClaim := { program := "ytiblljellcgjbaa", sum := "e6cc6d3c200b4b0502ada53aacc8b6664f7a6538c7773393c9fc666b8a932a23", func := "strongbox/strongboxlaw14.CutLocal", spec := "cutLocal", unfollowed := true, recurses := true, apart := false, narrowed := true }
def CutLocalUptoSaid : Prop := cutLocalUptoRow.holds Try.pinned (OpenSpec.upto cutLocalSpec)

/-- 'strongboxlaw14.CutMany', WHERE WHAT IT READS IS OF BULK AT MOST 1048576: true; the input reads as it did. -/
def cutManyUptoRow : OpenClaim := { program := "ytiblljellcgjbaa", sum := "e6cc6d3c200b4b0502ada53aacc8b6664f7a6538c7773393c9fc666b8a932a23", func := "strongbox/strongboxlaw14.CutMany", spec := "cutMany", unfollowed := true, recurses := true, apart := false, narrowed := true }
def CutManyUptoSaid : Prop := cutManyUptoRow.holds Try.pinned (OpenSpec.upto cutManySpec)

/-- 'strongboxlaw14.CutAlone', WHERE WHAT IT READS IS OF BULK AT MOST 1048576: true; the input reads as it did. -/
def cutAloneUptoRow : OpenClaim := { program := "ytiblljellcgjbaa", sum := "e6cc6d3c200b4b0502ada53aacc8b6664f7a6538c7773393c9fc666b8a932a23", func := "strongbox/strongboxlaw14.CutAlone", spec := "cutAlone", unfollowed := true, recurses := true, apart := false, narrowed := true }
def CutAloneUptoSaid : Prop := cutAloneUptoRow.holds Try.pinned (OpenSpec.upto cutAloneSpec)

end Rows
end Go.Proofs.Ytiblljellcgjbaa
