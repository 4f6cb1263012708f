/-
  An array of two strings that comes in as an argument. No condition.
-/
import Derived.Test.YtmnpbpfeoackiaaDoorShelf
import Derived.Test.YtmnpbpfeoackiaaDoorPost
import Derived.Test.YtmnpbpfeoackiaaDoorRow
import Derived.Laws.IdiomArrays
namespace Go.Proofs.YtmnpbpfeoackiaaDoor
open Go.RowKit Go.ChangeShapes Go.WideShapes

theorem trod_array2 {H : Type} {enc : TypeId × Value → H} {P : Program} {w : World} {base : Nat} {spare : Nat → Bool} {held : Bool} {t e : TypeId} {fuel : Nat} {c0 c1 : Value} {x : DataW H × List MemPlace} (ht : P.underlying t = some (.array 2 e)) (hce : P.cellsOf e = 1)
    (h : DataW.trod enc P w base spare held fuel t [c0, c1] = some x) :
    ∃ y0 y1 n, DataW.trod enc P w base spare held n e [c0] = some y0 ∧ DataW.trod enc P w base spare held n e [c1] = some y1 := by
  cases fuel with
  | zero => simp [DataW.trod] at h
  | succ n =>
    unfold DataW.trod at h
    rw [ht] at h
    have r2 : List.range 2 = [0, 1] := rfl
    simp [r2, hce] at h
    obtain ⟨_, h⟩ := h
    cases h0 : DataW.trod enc P w base spare held n e [c0] with
    | none => simp [h0] at h
    | some y0 =>
      cases h1 : DataW.trod enc P w base spare held n e [c1] with
      | none => simp [h0, h1] at h
      | some y1 => exact ⟨y0, y1, n, h0, h1⟩
set_option maxRecDepth 100000 in
theorem arr2_open {H : Type} {enc : TypeId × Value → H} {W : World} {r : Reach} {b0 : Nat} {v : Value} {d : DataW H} {ps : List MemPlace}
    (hv : Value.okWide Tryd.prog W r b0 67 v) (h : DataW.Trod enc Tryd.prog W 0 (fun _ => true) true 67 v d ps) :
    ∃ a0 a1 : List UInt8, v = .agg #[.string (ofL a0), .string (ofL a1)] ∧ a1.length ≤ maxLen := by
  have hct : Tryd.prog.cellsOf 67 = 2 := by kernel_rfl
  have hci : Tryd.prog.cellsOf 9 = 1 := by kernel_rfl
  obtain ⟨cs, rfl, hsz⟩ : ∃ cs, v = .agg cs ∧ cs.size = 2 := by
    simp only [Value.okWide, Tryd.underlying67] at hv
    obtain ⟨cs, h1, h2, _⟩ := hv
    exact ⟨cs, h1, h2.trans hct⟩
  obtain ⟨fuel, hf⟩ := h
  have hcl : cs.toList.length = 2 := by rw [Array.length_toList]; exact hsz
  obtain ⟨c0, c1, hcs⟩ : ∃ c0 c1, cs.toList = [c0, c1] := by
    match h4 : cs.toList, hcl with
    | [c0, c1], _ => exact ⟨c0, c1, rfl⟩
  have hval : (Value.agg cs).cells.toList = [c0, c1] := hcs
  rw [hval] at hf
  obtain ⟨y0, y1, n, h0, h1⟩ := trod_array2 Tryd.underlying67 hci hf
  obtain ⟨k0, e0, _, _⟩ := DataW.trod_string Tryd.underlying9 h0
  obtain ⟨k1, e1, _, r1⟩ := DataW.trod_string Tryd.underlying9 h1
  obtain rfl : c0 = .string k0 := by simpa using e0
  obtain rfl : c1 = .string k1 := by simpa using e1
  have e : cs = #[.string k0, .string k1] := by
    cases cs
    simp only at hcs
    rw [hcs]
  exact ⟨toL k0, toL k1, by rw [e, ofL_toL, ofL_toL], by rw [length_toL]; exact r1⟩
end Go.Proofs.YtmnpbpfeoackiaaDoor
