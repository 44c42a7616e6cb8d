/-
 What the program's types uint8 and string are.
-/
import Derived.Test.YtdbkadickikgjaaGreatDoorProg
import Derived.WalkKit
namespace Go.Proofs.YtdbkadickikgjaaGreatDoor
open Go.RowKit
namespace R1
theorem info_u8 : (Tryz.prog.info? 5).map (fun i => (i.zero, i.size, i.bytes)) = some (some (.int .u8 0), 1, 1) := by kernel_rfl
theorem info_str : (Tryz.prog.info? 9).map (fun i => (i.zero, i.size, i.bytes)) = some (some (.string ⟨#[]⟩), 1, 16) := by kernel_rfl
end R1
end Go.Proofs.YtdbkadickikgjaaGreatDoor
