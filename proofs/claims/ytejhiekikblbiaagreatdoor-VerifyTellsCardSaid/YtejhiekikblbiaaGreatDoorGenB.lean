/-
  Bundles in memory. No condition.
-/
import Derived.Test.YtejhiekikblbiaaGreatDoorGen
import Derived.Test.YtejhiekikblbiaaGreatDoorVe3
namespace Go.Proofs.YtejhiekikblbiaaGreatDoor
open Go.RowKit

end Go.Proofs.YtejhiekikblbiaaGreatDoor
