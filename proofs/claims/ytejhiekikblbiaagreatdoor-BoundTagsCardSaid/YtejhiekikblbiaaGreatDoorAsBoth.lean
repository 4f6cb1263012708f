/-
  The row's condition says that the library's variable errors.errorType holds the type of error and that package sha's table holds the constants; a world that meets it. No condition.
-/
import Derived.Test.YtejhiekikblbiaaGreatDoorAsLaid
import Derived.Test.YtejhiekikblbiaaGreatDoorShaLaid
namespace Go.Proofs.YtejhiekikblbiaaGreatDoor
open Go.ChangeShapes Go.WideShapes Go.RowKit

def laidBoth : List (String × DataW Unit) := [("errors.errorType", Rows.laid_errors_errorType), ("porter/sha.constants", Rows.laid_porter_sha_constants)]
theorem both_of_laid {W : World} (h : laidMetH Tryz.prog laidBoth W) : ErrT W ∧ Tab W := by
  have h' : laidMet Tryz.prog laidSha W ∧ handlesMet Tryz.prog laidErr W := h
  exact ⟨handle_of_met h'.2, tab_of_laid (by rw [MakeChecks.laidMetH_plain _ _ _ (by kernel_rfl)]; exact h'.1)⟩
theorem doorBoth_met (os : Os) (args : Array Value) : laidMetH Tryz.prog laidBoth ((World.doorLaid Tryz.prog 400 os).forCall (fun _ _ => 0) ⟨#[], args, []⟩).memory :=
  laidMetH_of_parts3 (fuel := 8) (laidMet_of_run' 8 (by kernel_rfl) (by kernel_rfl)) (by kernel_rfl) (by kernel_rfl)
end Go.Proofs.YtejhiekikblbiaaGreatDoor
