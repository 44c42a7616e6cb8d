/-
  DERIVED. GIVEN WITH THE SEED: THE CARDS: each row of YtbcokpnehengfaaDoorRows.lean that lists a variable, with what it lists TIED to the program's text (the seventh form; the later family's looks); each row that meets fmt, with fmt's text TOLD by the authors' own Lean function (tested against real Go, not proved from fmt's source: count such statements apart). THE CARD IS WHAT COUNTS. Prove the row's statement (the work); the ties are given (YtbcokpnehengfaaDoorTie.lean); close each card by the builder's one call (the guide's Derived/Test/ToyasCard.lean, 'card_holds'). Laid BY PROGRAM, IN A SANDBOX (cutbox-door.mjs). By AI agents, Wed Nov 11 2026. No macro, syntax, notation, axiom, sorry.
-/
import Derived.Test.YtbcokpnehengfaaDoorRows
import GoSem.ClaimSeven
namespace Go.Proofs.YtbcokpnehengfaaDoor
namespace Rows

/-- THE TIED CARD OF 'strongboxlaw06.ShardMakes'. -/
def shardMakesCard : Claim7 := { stood := { row := shardMakesRow, standIns := [], harness := (true, "b65b2dd41bbb5fff31c0155825b136c3a1f0335e0ecf49b885d575406f358ec9"), looks := true }, kinds := [], alts := [], laidByText := true, laidKinds := [.data, .data, .data, .sentinel, .sentinel], laidTests := true, laidLooks := .later }
def ShardMakesCardSaid : Prop := Claim7.holds Tryd.pinned (.plain (OpenSpec.ofChange shardMakesSpec)) shardMakesCard

/-- THE TIED CARD OF 'strongboxlaw06.ShardNames'. -/
def shardNamesCard : Claim7 := { stood := { row := shardNamesRow, standIns := [], harness := (true, "b65b2dd41bbb5fff31c0155825b136c3a1f0335e0ecf49b885d575406f358ec9"), looks := true }, kinds := [], alts := [], laidByText := true, laidKinds := [.data, .data, .data, .sentinel, .sentinel], laidTests := true, laidLooks := .later }
def ShardNamesCardSaid : Prop := Claim7.holds Tryd.pinned (.plain (OpenSpec.ofChange shardNamesSpec)) shardNamesCard

/-- THE TIED CARD OF 'strongboxlaw06.ShardBack'. -/
def shardBackCard : Claim7 := { stood := { row := shardBackRow, standIns := [], harness := (true, "b65b2dd41bbb5fff31c0155825b136c3a1f0335e0ecf49b885d575406f358ec9"), looks := true }, kinds := [], alts := [], laidByText := true, laidKinds := [.data, .data, .data, .sentinel, .sentinel], laidTests := true, laidLooks := .later }
def ShardBackCardSaid : Prop := Claim7.holds Tryd.pinned (.plain (OpenSpec.ofChange shardBackSpec)) shardBackCard

/-- THE TIED CARD OF 'strongboxlaw06.ShardLays'. -/
def shardLaysCard : Claim7 := { stood := { row := shardLaysRow, standIns := [], harness := (true, "b65b2dd41bbb5fff31c0155825b136c3a1f0335e0ecf49b885d575406f358ec9"), looks := true }, kinds := [], alts := [], laidByText := true, laidKinds := [.data, .data, .data, .sentinel, .sentinel], laidTests := true, laidLooks := .later }
def ShardLaysCardSaid : Prop := Claim7.holds Tryd.pinned (.plain (OpenSpec.ofChange shardLaysSpec)) shardLaysCard

/-- THE TIED CARD OF 'strongboxlaw06.ShardApart'. -/
def shardApartCard : Claim7 := { stood := { row := shardApartRow, standIns := [], harness := (true, "b65b2dd41bbb5fff31c0155825b136c3a1f0335e0ecf49b885d575406f358ec9"), looks := true }, kinds := [], alts := [], laidByText := true, laidKinds := [.data, .data, .data, .sentinel, .sentinel], laidTests := true, laidLooks := .later }
def ShardApartCardSaid : Prop := Claim7.holds Tryd.pinned (.plain (OpenSpec.ofChange shardApartSpec)) shardApartCard

/-- THE SECOND FORM's CARD OF 'strongboxlaw06.ShardMakes'. -/
def shardMakesUptoCard : Claim7 := { stood := { row := shardMakesUptoRow, standIns := [], harness := (true, "b65b2dd41bbb5fff31c0155825b136c3a1f0335e0ecf49b885d575406f358ec9"), looks := true }, kinds := [], alts := [], laidByText := true, laidKinds := [.data, .data, .data, .sentinel, .sentinel], laidTests := true, laidLooks := .later }
def ShardMakesUptoCardSaid : Prop := Claim7.holds Tryd.pinned (.plain (OpenSpec.upto shardMakesSpec)) shardMakesUptoCard

/-- THE SECOND FORM's CARD OF 'strongboxlaw06.ShardNames'. -/
def shardNamesUptoCard : Claim7 := { stood := { row := shardNamesUptoRow, standIns := [], harness := (true, "b65b2dd41bbb5fff31c0155825b136c3a1f0335e0ecf49b885d575406f358ec9"), looks := true }, kinds := [], alts := [], laidByText := true, laidKinds := [.data, .data, .data, .sentinel, .sentinel], laidTests := true, laidLooks := .later }
def ShardNamesUptoCardSaid : Prop := Claim7.holds Tryd.pinned (.plain (OpenSpec.upto shardNamesSpec)) shardNamesUptoCard

/-- THE SECOND FORM's CARD OF 'strongboxlaw06.ShardBack'. -/
def shardBackUptoCard : Claim7 := { stood := { row := shardBackUptoRow, standIns := [], harness := (true, "b65b2dd41bbb5fff31c0155825b136c3a1f0335e0ecf49b885d575406f358ec9"), looks := true }, kinds := [], alts := [], laidByText := true, laidKinds := [.data, .data, .data, .sentinel, .sentinel], laidTests := true, laidLooks := .later }
def ShardBackUptoCardSaid : Prop := Claim7.holds Tryd.pinned (.plain (OpenSpec.upto shardBackSpec)) shardBackUptoCard

/-- THE SECOND FORM's CARD OF 'strongboxlaw06.ShardLays'. -/
def shardLaysUptoCard : Claim7 := { stood := { row := shardLaysUptoRow, standIns := [], harness := (true, "b65b2dd41bbb5fff31c0155825b136c3a1f0335e0ecf49b885d575406f358ec9"), looks := true }, kinds := [], alts := [], laidByText := true, laidKinds := [.data, .data, .data, .sentinel, .sentinel], laidTests := true, laidLooks := .later }
def ShardLaysUptoCardSaid : Prop := Claim7.holds Tryd.pinned (.plain (OpenSpec.upto shardLaysSpec)) shardLaysUptoCard

/-- THE SECOND FORM's CARD OF 'strongboxlaw06.ShardApart'. -/
def shardApartUptoCard : Claim7 := { stood := { row := shardApartUptoRow, standIns := [], harness := (true, "b65b2dd41bbb5fff31c0155825b136c3a1f0335e0ecf49b885d575406f358ec9"), looks := true }, kinds := [], alts := [], laidByText := true, laidKinds := [.data, .data, .data, .sentinel, .sentinel], laidTests := true, laidLooks := .later }
def ShardApartUptoCardSaid : Prop := Claim7.holds Tryd.pinned (.plain (OpenSpec.upto shardApartSpec)) shardApartUptoCard
end Rows
end Go.Proofs.YtbcokpnehengfaaDoor
