/-
  Tokens and their links in memory and as arguments, small facts on rows. No condition.
-/
import Derived.Test.YtejhiekikblbiaaGreatDoorMgJ
import Derived.Test.YtejhiekikblbiaaGreatDoorMgI
namespace Go.Proofs.YtejhiekikblbiaaGreatDoor
open Go.RowKit Go.ChangeShapes Go.WideShapes Go.Deep
end Go.Proofs.YtejhiekikblbiaaGreatDoor
