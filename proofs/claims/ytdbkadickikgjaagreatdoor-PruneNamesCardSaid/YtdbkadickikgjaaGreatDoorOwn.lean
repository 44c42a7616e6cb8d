/-
 Rows of the call's own: an append onto one, text out of one. No program is named.
-/
import Derived.Test.YtdbkadickikgjaaGreatDoorStabV
import Derived.Deep.AppendLies
namespace Go.Proofs.YtdbkadickikgjaaGreatDoor
open Go.RowKit
section
variable {P : Program} {t e : TypeId} {z : Value} {size bytes : Nat}
end
end Go.Proofs.YtdbkadickikgjaaGreatDoor
