/-
  An array of three integers that comes in as an argument. No condition. · An array of four integers that comes in as an argument. No condition.
-/
import Derived.Test.YtmnpbpfeoackiaaDoorShelf
import Derived.Test.YtmnpbpfeoackiaaDoorPost
import Derived.Test.YtmnpbpfeoackiaaDoorRow
import Derived.Laws.IdiomArrays
namespace Go.Proofs.YtmnpbpfeoackiaaDoor
open Go.RowKit Go.ChangeShapes Go.WideShapes

set_option maxRecDepth 100000 in
theorem arr3_open {H : Type} {enc : TypeId × Value → H} {W : World} {r : Reach} {b0 : Nat} {v : Value} {d : DataW H} {ps : List MemPlace}
    (hv : Value.okWide Tryd.prog W r b0 58 v) (h : DataW.Trod enc Tryd.prog W 0 (fun _ => true) true 58 v d ps) :
    ∃ a0 a1 a2 : Int, v = .agg #[.int .i64 a0, .int .i64 a1, .int .i64 a2] := by
  have hct : Tryd.prog.cellsOf 58 = 3 := by kernel_rfl
  have hci : Tryd.prog.cellsOf 3 = 1 := by kernel_rfl
  obtain ⟨cs, rfl, hsz⟩ : ∃ cs, v = .agg cs ∧ cs.size = 3 := by
    simp only [Value.okWide, Tryd.underlying58] at hv
    obtain ⟨cs, h1, h2, _⟩ := hv
    exact ⟨cs, h1, h2.trans hct⟩
  obtain ⟨fuel, hf⟩ := h
  have hcl : cs.toList.length = 3 := by rw [Array.length_toList]; exact hsz
  obtain ⟨c0, c1, c2, hcs⟩ : ∃ c0 c1 c2, cs.toList = [c0, c1, c2] := by
    match h4 : cs.toList, hcl with
    | [c0, c1, c2], _ => exact ⟨c0, c1, c2, rfl⟩
  have hval : (Value.agg cs).cells.toList = [c0, c1, c2] := hcs
  rw [hval] at hf
  obtain ⟨y0, y1, y2, n, _, h0, h1, h2⟩ := trod_array3 Tryd.underlying58 hci hf
  obtain ⟨k0, e0, _, _⟩ := DataW.trod_int Tryd.underlying3 h0
  obtain ⟨k1, e1, _, _⟩ := DataW.trod_int Tryd.underlying3 h1
  obtain ⟨k2, e2, _, _⟩ := DataW.trod_int Tryd.underlying3 h2
  obtain rfl : c0 = .int .i64 k0 := by simpa using e0
  obtain rfl : c1 = .int .i64 k1 := by simpa using e1
  obtain rfl : c2 = .int .i64 k2 := by simpa using e2
  have e : cs = #[.int .i64 k0, .int .i64 k1, .int .i64 k2] := by
    cases cs
    simp only at hcs
    rw [hcs]
  exact ⟨k0, k1, k2, by rw [e]⟩
end Go.Proofs.YtmnpbpfeoackiaaDoor

namespace Go.Proofs.YtmnpbpfeoackiaaDoor
open Go.RowKit Go.ChangeShapes Go.WideShapes

set_option maxRecDepth 100000 in
theorem arr4_open {H : Type} {enc : TypeId × Value → H} {W : World} {r : Reach} {b0 : Nat} {v : Value} {d : DataW H} {ps : List MemPlace}
    (hv : Value.okWide Tryd.prog W r b0 46 v) (h : DataW.Trod enc Tryd.prog W 0 (fun _ => true) true 46 v d ps) :
    ∃ a0 a1 a2 a3 : Int, v = .agg #[.int .i64 a0, .int .i64 a1, .int .i64 a2, .int .i64 a3] ∧ (-9223372036854775808 ≤ a0 ∧ a0 ≤ 9223372036854775807) ∧ (-9223372036854775808 ≤ a2 ∧ a2 ≤ 9223372036854775807) := by
  have hct : Tryd.prog.cellsOf 46 = 4 := by kernel_rfl
  have hci : Tryd.prog.cellsOf 3 = 1 := by kernel_rfl
  obtain ⟨cs, rfl, hsz⟩ : ∃ cs, v = .agg cs ∧ cs.size = 4 := by
    simp only [Value.okWide, Tryd.underlying46] at hv
    obtain ⟨cs, h1, h2, _⟩ := hv
    exact ⟨cs, h1, h2.trans hct⟩
  obtain ⟨fuel, hf⟩ := h
  have hcl : cs.toList.length = 4 := by rw [Array.length_toList]; exact hsz
  obtain ⟨c0, c1, c2, c3, hcs⟩ : ∃ c0 c1 c2 c3, cs.toList = [c0, c1, c2, c3] := by
    match h4 : cs.toList, hcl with
    | [c0, c1, c2, c3], _ => exact ⟨c0, c1, c2, c3, rfl⟩
  have hval : (Value.agg cs).cells.toList = [c0, c1, c2, c3] := hcs
  rw [hval] at hf
  obtain ⟨y0, y1, y2, y3, n, _, h0, h1, h2, h3⟩ := trod_array4 Tryd.underlying46 hci hf
  obtain ⟨k0, e0, _, r0⟩ := DataW.trod_int Tryd.underlying3 h0
  obtain ⟨k1, e1, _, r1⟩ := DataW.trod_int Tryd.underlying3 h1
  obtain ⟨k2, e2, _, r2⟩ := DataW.trod_int Tryd.underlying3 h2
  obtain ⟨k3, e3, _, r3⟩ := DataW.trod_int Tryd.underlying3 h3
  obtain rfl : c0 = .int .i64 k0 := by simpa using e0
  obtain rfl : c1 = .int .i64 k1 := by simpa using e1
  obtain rfl : c2 = .int .i64 k2 := by simpa using e2
  obtain rfl : c3 = .int .i64 k3 := by simpa using e3
  have e : cs = #[.int .i64 k0, .int .i64 k1, .int .i64 k2, .int .i64 k3] := by
    cases cs
    simp only at hcs
    rw [hcs]
  simp only [Lit.wf, Bool.and_eq_true, decide_eq_true_eq] at r0 r2
  exact ⟨k0, k1, k2, k3, by rw [e], ⟨r0.1, r0.2⟩, ⟨r2.1, r2.2⟩⟩
end Go.Proofs.YtmnpbpfeoackiaaDoor
