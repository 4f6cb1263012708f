/-
  Eight words that come in as an argument. No condition.
-/
import Derived.Test.YteclfeeeaokddaaDoorSha3
import Derived.OpenShut
import Derived.ChangeArms
import Derived.ProofKit
namespace Go.Proofs.YteclfeeeaokddaaDoor
open Go.RowKit Go.ChangeShapes Go.WideShapes

def W32' (x : UInt32) : Value := .int .u32 x.toNat
theorem words_open {H : Type} {enc : TypeId × Value → H} {W : World} {r : Reach} {b0 : Nat} {v : Value} {d : DataW H} {ps : List MemPlace}
    (hv : Value.okWide Tryd.prog W r b0 27 v) (h : DataW.Trod enc Tryd.prog W 0 (fun _ => true) true 27 v d ps) : ∃ s : St, v = stV s ∧ True := by
  have hct : Tryd.prog.cellsOf 27 = 8 := by kernel_rfl
  have hce : Tryd.prog.cellsOf 25 = 1 := by kernel_rfl
  obtain ⟨cs, rfl, hsz⟩ : ∃ cs, v = .agg cs ∧ cs.size = 8 := by
    simp only [Value.okWide, Tryd.underlying27] at hv
    obtain ⟨cs, h1, h2, _⟩ := hv
    exact ⟨cs, h1, h2.trans hct⟩
  obtain ⟨fuel, hf⟩ := h
  obtain ⟨xs, m, _, _, _, hxl, hel⟩ := DataW.trod_array Tryd.underlying27 hf
  have each : ∀ i, i < 8 → ∃ x : UInt32, cs[i]? = some (W32' x) := fun i hi => by
    have h1 := hel i hi
    rw [hce, List.getElem?_eq_getElem (by omega)] at h1
    obtain ⟨n, h2, _, hw⟩ := DataW.trod_int Tryd.underlying25 h1
    have e1 : IntKind.u32.min = 0 := rfl
    have e2 : IntKind.u32.max = 4294967295 := rfl
    simp only [Lit.wf, Bool.and_eq_true, decide_eq_true_eq] at hw
    rw [e1, e2] at hw
    refine ⟨UInt32.ofNat n.toNat, ?_⟩
    have h3 : cs.toList[i]? = some (.int .u32 n) := by
      have := congrArg (·[0]?) h2
      simpa [List.getElem?_take, List.getElem?_drop, Value.cells] using this
    rw [Array.getElem?_toList] at h3
    rw [h3]
    unfold W32'
    rw [UInt32.toNat_ofNat', Nat.mod_eq_of_lt (by omega)]
    congr 2
    omega
  obtain ⟨x0, k0⟩ := each 0 (by omega)
  obtain ⟨x1, k1⟩ := each 1 (by omega)
  obtain ⟨x2, k2⟩ := each 2 (by omega)
  obtain ⟨x3, k3⟩ := each 3 (by omega)
  obtain ⟨x4, k4⟩ := each 4 (by omega)
  obtain ⟨x5, k5⟩ := each 5 (by omega)
  obtain ⟨x6, k6⟩ := each 6 (by omega)
  obtain ⟨x7, k7⟩ := each 7 (by omega)
  refine ⟨⟨x0, x1, x2, x3, x4, x5, x6, x7⟩, ?_, trivial⟩
  congr 1
  apply Array.ext_getElem?
  intro i
  match i with
  | 0 => exact k0
  | 1 => exact k1
  | 2 => exact k2
  | 3 => exact k3
  | 4 => exact k4
  | 5 => exact k5
  | 6 => exact k6
  | 7 => exact k7
  | i + 8 => rw [Array.getElem?_eq_none (by omega), Array.getElem?_eq_none (by simp)]
end Go.Proofs.YteclfeeeaokddaaDoor
