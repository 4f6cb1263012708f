/-
  A root that comes in as an argument. No condition.
-/
import Derived.Test.YtjpcedgonjmchaaRootWalk3
namespace Go.Proofs.Ytjpcedgonjmchaa
open Go.RowKit Go.ChangeShapes Go.WideShapes

set_option maxRecDepth 100000 in
theorem open_root {H : Type} {enc : TypeId × Value → H} {W : World} {r : Reach} {b0 : Nat} {v : Value} {d : DataW H} {ps : List MemPlace}
    (hv : Value.okWide Try.prog W r b0 23 v) (h : DataW.Trod enc Try.prog W 0 (fun _ => true) true 23 v d ps) :
    ∃ q : Root, v = rootV q ∧ q.t.length ≤ maxLen := by
  obtain ⟨v0, v1, v2, v3, y0, y1, y2, y3, n, rfl, _, _, h0, h1, h2, h3⟩ := Joins.open_agg4 Try.underlying23 (by kernel_rfl) (by kernel_rfl) hv h
  obtain ⟨s, e0, _, z0⟩ := DataW.trod_string Try.underlying9 h0
  obtain ⟨k, e1, _, _⟩ := DataW.trod_int Try.underlying3 h1
  obtain ⟨e, e2, _, _⟩ := DataW.trod_int Try.underlying3 h2
  obtain ⟨m, e3, _, _⟩ := DataW.trod_int Try.underlying3 h3
  obtain rfl : v0 = .string s := by simpa using e0
  obtain rfl : v1 = .int .i64 k := by simpa using e1
  obtain rfl : v2 = .int .i64 e := by simpa using e2
  obtain rfl : v3 = .int .i64 m := by simpa using e3
  exact ⟨⟨toL s, k, e, m⟩, by simp [rootV, rootCells, ofL_toL], by rw [length_toL]; exact z0⟩
end Go.Proofs.Ytjpcedgonjmchaa
