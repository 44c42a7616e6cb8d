/-
 The digest of bytes, by its plain words.
-/
import Derived.Test.YtfkchheildfkpaaGreatDoorShaNew
namespace Go.Proofs.YtfkchheildfkpaaGreatDoor
open Go.RowKit
namespace Shd
def sumL (l : List UInt8) : List UInt8 := Sha.digest Sha.R64 Sha.S0 l
theorem sumL_len (l : List UInt8) : (sumL l).length = 32 := Sha.stBytes_length _
end Shd
end Go.Proofs.YtfkchheildfkpaaGreatDoor
