/-
  The row's condition says that the library's variable errors.errorType holds the type of error; a world that meets it. No condition.
-/
import Derived.Test.YtmnpbpfeoackiaaDoorRows
import Derived.Test.YtmnpbpfeoackiaaDoorTkAs
import Derived.LaidLaws
import Derived.LaidMore
import Derived.LaidHandle
import Derived.ProofKit
namespace Go.Proofs.YtmnpbpfeoackiaaDoor
open Go.ChangeShapes Go.WideShapes Go.RowKit

def laidErr : List (String × DataW Unit) := [("errors.errorType", Rows.laid_errors_errorType)]
theorem Tryd.etv : Tryd.prog.globalNamed "errors.errorType" = some 0 := by kernel_rfl
theorem Tryd.rtv : (Tryd.prog.cutTypes.find? (·.1 == "internal/reflectlite.rtype")).map (·.2) = some 184 := by kernel_rfl
theorem Tryd.oneRow : ((List.range 236).filter fun t => Tryd.prog.rowNamed t [101, 114, 114, 111, 114]) = [77] := by kernel_rfl
theorem Tryd.sizeT : Tryd.prog.types.size = 236 := by kernel_rfl
theorem handle_of_met {W : World} (h : handlesMet Tryd.prog laidErr W) : ErrT W := by
  obtain ⟨name, u, ty, e1, e2, e3, e4, e5⟩ := h _ (List.mem_singleton.2 rfl)
  have en : name = [101, 114, 114, 111, 114] := (Option.some.inj e1).symm
  subst en
  obtain rfl := Option.some.inj (Tryd.rtv.symm.trans e2)
  have hm : ty ∈ (List.range 236).filter fun t => Tryd.prog.rowNamed t [101, 114, 114, 111, 114] := List.mem_filter.2 ⟨List.mem_range.2 (by rw [← Tryd.sizeT]; exact e3), e4⟩
  rw [Tryd.oneRow] at hm
  obtain rfl := List.mem_singleton.1 hm
  have hh : typeHandle Tryd.prog 77 = .pointer (some ⟨3, 77, none⟩) := by kernel_rfl
  rw [hh] at e5
  have h0 := World.var?_cell Tryd.etv e5 0
  unfold ErrT
  simpa using h0
theorem handle_of_laid {W : World} (h : laidMetH Tryd.prog laidErr W) : ErrT W := by
  have h' : laidMet Tryd.prog [] W ∧ handlesMet Tryd.prog laidErr W := h
  exact handle_of_met h'.2
theorem doorErr_met (os : Os) (args : Array Value) : laidMetH Tryd.prog laidErr ((World.doorLaid Tryd.prog 400 os).forCall (fun _ _ => 0) ⟨#[], args, []⟩).memory :=
  laidMetH_of_parts3 (fuel := 8) (laidMet_of_run' 8 (by kernel_rfl) (by kernel_rfl)) (by kernel_rfl) (by kernel_rfl)
end Go.Proofs.YtmnpbpfeoackiaaDoor
