/-
  Chapter 4's laws with their arguments as the rows hand them; two strings that come in as an argument. Condition: the package's table holds the constants.
-/
import Derived.Test.YteffocenfkcofaaDoorHm11
import Derived.OpenShut
import Derived.ChangeArms
import Derived.ProofKit
namespace Go.Proofs.YteffocenfkcofaaDoor
open Go.RowKit Go.ChangeShapes Go.WideShapes
open Go.ChangeMaps (open_string)

theorem hmacSums_walk2 (a b : ByteArray) (v : Value) (l : List (List UInt8)) (w : World) (hT : Tab w) (_ha : a.size ≤ maxLen) (_hb : b.size ≤ maxLen) (h : Rd w w.heap.size 1 v l.length (l.map Str)) (_hn : l.length ≤ maxLen) (_hb : ∀ s ∈ l, s.length ≤ maxLen) :
    Calls Tryd.prog 12 #[.string a, .string b, v] w fun e w' => e = .returned (.bool true) ∧ Ext w w' := by
  have q := hmacSums_walk (toL a) (toL b) v l w hT h
  rw [ofL_toL, ofL_toL] at q
  exact q
theorem hmacFrames_walk2 (v : Value) (l : List (List UInt8)) (a : ByteArray) (w : World) (hT : Tab w) (h : Rd w w.heap.size 1 v l.length (l.map Str)) (_hn : l.length ≤ maxLen) (_hb : ∀ s ∈ l, s.length ≤ maxLen) (_ha : a.size ≤ maxLen) :
    Calls Tryd.prog 11 #[v, .string a] w fun e w' => e = .returned (.bool true) ∧ Ext w w' := by
  have q := hmacFrames_walk v l (toL a) w hT h
  rw [ofL_toL] at q
  exact q

/-- Two strings. -/
def pairV (s : List UInt8 × List UInt8) : Value := .agg #[.string (ofL s.1), .string (ofL s.2)]
set_option maxRecDepth 100000 in
theorem pair_open {H : Type} {enc : TypeId × Value → H} {W : World} {r : Reach} {b0 : Nat} {v : Value} {d : DataW H} {ps : List MemPlace}
    (hv : Value.okWide Tryd.prog W r b0 22 v) (h : DataW.Trod enc Tryd.prog W 0 (fun _ => true) true 22 v d ps) : ∃ s, v = pairV s ∧ True := by
  have hct : Tryd.prog.cellsOf 22 = 2 := by kernel_rfl
  have hce : Tryd.prog.cellsOf 9 = 1 := by kernel_rfl
  obtain ⟨cs, rfl, hsz⟩ : ∃ cs, v = .agg cs ∧ cs.size = 2 := by
    simp only [Value.okWide, Tryd.underlying22] at hv
    obtain ⟨cs, h1, h2, _⟩ := hv
    exact ⟨cs, h1, h2.trans hct⟩
  obtain ⟨fuel, hf⟩ := h
  obtain ⟨xs, m, _, _, _, hxl, hel⟩ := DataW.trod_array Tryd.underlying22 hf
  have each : ∀ i, i < 2 → ∃ x : List UInt8, cs[i]? = some (.string (ofL x)) := fun i hi => by
    have h1 := hel i hi
    rw [hce, List.getElem?_eq_getElem (by omega)] at h1
    obtain ⟨n, h2, _, _⟩ := DataW.trod_string Tryd.underlying9 h1
    have h3 : cs.toList[i]? = some (.string n) := by
      have := congrArg (·[0]?) h2
      simpa [List.getElem?_take, List.getElem?_drop, Value.cells] using this
    rw [Array.getElem?_toList] at h3
    exact ⟨toL n, by rw [h3, ofL_toL]⟩
  obtain ⟨x0, k0⟩ := each 0 (by omega)
  obtain ⟨x1, k1⟩ := each 1 (by omega)
  refine ⟨⟨x0, x1⟩, ?_, trivial⟩
  unfold pairV
  congr 1
  apply Array.ext_getElem?
  intro i
  match i with
  | 0 => exact k0
  | 1 => exact k1
  | i + 2 => rw [Array.getElem?_eq_none (by omega), Array.getElem?_eq_none (by simp)]
theorem hmacApart_walk2 (a b : List UInt8 × List UInt8) (w : World) (hT : Tab w) (_ : True) (_ : True) : Calls Tryd.prog 3 #[pairV a, pairV b] w fun e w' => e = .returned (.bool true) ∧ Ext w w' :=
  hmacApart_walk a.1 a.2 b.1 b.2 w hT
end Go.Proofs.YteffocenfkcofaaDoor
