/-
  More of package octet: Unhex, Cut, Pad, the reference's Xor, Cut and Pad, and the comparison of lists of texts, return the named plain functions. Condition: sizes as each contract says.
-/
import Derived.Test.YtmnpbpfeoackiaaOct
namespace Go.Proofs.Ytmnpbpfeoackiaa
open Go.RowKit



end Go.Proofs.Ytmnpbpfeoackiaa
