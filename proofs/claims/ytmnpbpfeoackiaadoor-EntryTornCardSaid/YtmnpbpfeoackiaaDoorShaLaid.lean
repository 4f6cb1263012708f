/-
  The row's condition says that package sha's table holds the constants; a world that meets it. No condition.
-/
import Derived.Test.YtmnpbpfeoackiaaDoorRows
import Derived.Test.YtmnpbpfeoackiaaDoorMhB
import Derived.Lib.LaidTab
import Derived.LaidMore
import Derived.LaidHandle
import Derived.ProofKit
namespace Go.Proofs.YtmnpbpfeoackiaaDoor
open Go.ChangeShapes Go.WideShapes Go.RowKit

def laidSha : List (String × DataW Unit) := [("porter/sha.constants", Rows.laid_porter_sha_constants)]
theorem laid_tab : (Rows.laid_porter_sha_constants : DataW Unit) = Lib.tabData .u32 (kTab.map fun x => (x.toNat : Int)) := by rfl
theorem Tryd.gSha : Tryd.prog.globalNamed "porter/sha.constants" = some 1 := by kernel_rfl
theorem tab_of_laid {W : World} (h : laidMetH Tryd.prog laidSha W) : Tab W := by
  rw [MakeChecks.laidMetH_plain _ _ _ (by kernel_rfl)] at h
  unfold laidSha at h
  rw [laid_tab] at h
  have hT := Lib.tabIs_of_head Tryd.gSha (by kernel_rfl) Tryd.underlying202 Tryd.underlying153 (by kernel_rfl) (by kernel_rfl) h
  have hc : ∀ i, i < 64 → W.cell? ⟨1, i, none⟩ = some (W32 (kTab.getD i 0)) := fun i hi => by
    have := hT.cell Tryd.gSha i (by rw [List.length_map]; exact hi)
    rw [this]
    congr 2
    have hk : i < kTab.length := hi
    rw [List.getD_eq_getElem?_getD, List.getElem?_map, List.getElem?_eq_getElem hk, List.getD_eq_getElem?_getD, List.getElem?_eq_getElem hk]
    rfl
  exact ⟨World.block_lt_of_cell? _ _ (hc 0 (by decide)), hc⟩
theorem door_met (os : Os) (args : Array Value) : laidMetH Tryd.prog laidSha ((World.doorLaid Tryd.prog 400 os).forCall (fun _ _ => 0) ⟨#[], args, []⟩).memory :=
  laidMetH_of_parts3 (fuel := 8) (laidMet_of_run' 8 (by kernel_rfl) (by kernel_rfl)) (by kernel_rfl) (by kernel_rfl)
end Go.Proofs.YtmnpbpfeoackiaaDoor
