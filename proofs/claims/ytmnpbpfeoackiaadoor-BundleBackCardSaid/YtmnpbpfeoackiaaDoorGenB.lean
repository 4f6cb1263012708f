/-
  Bundles in memory. No condition.
-/
import Derived.Test.YtmnpbpfeoackiaaDoorGen
namespace Go.Proofs.YtmnpbpfeoackiaaDoor
open Go.RowKit

/-- A bundle as a value. -/
def bunV (id : List UInt8) (vl : Value) (tag : List UInt8) (vm : Value) : Value := .agg #[.string (ofL id), vl, .string (ofL tag), vm]
/-- A token among tokens that are only read, its cells. -/
theorem RdToks.tok {w : World} {A : Option Addr} {n c : Nat} {l : List TokA} (h : RdToks w w.heap.size (.slice A n c) l) (k : Nat) (hk : k < l.length) : ∃ b off, A = some ⟨b, off, none⟩ ∧ n = l.length ∧ ∀ W, Ext w W → W.cell? ⟨b, off + k * 3, none⟩ = some (.string (ofL l[k].id)) ∧ W.cell? ⟨b, off + k * 3 + 1, none⟩ = some (.slice l[k].A l[k].l.length l[k].c) ∧ W.cell? ⟨b, off + k * 3 + 2, none⟩ = some (.string (ofL l[k].tag)) := by
  obtain ⟨A', c', e, _, hc⟩ := h.cells
  cases e
  obtain ⟨b, off, rfl, hb, hcell⟩ := hc (by omega)
  exact ⟨b, off, rfl, rfl, fun W hW => ⟨((bcell hW).1 b _ hb).trans (hcell k hk).1, ((bcell hW).1 b _ hb).trans (hcell k hk).2.1, ((bcell hW).1 b _ hb).trans (hcell k hk).2.2⟩⟩
end Go.Proofs.YtmnpbpfeoackiaaDoor
