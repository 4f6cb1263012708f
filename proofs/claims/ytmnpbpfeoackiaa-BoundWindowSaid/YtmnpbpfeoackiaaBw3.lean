/-
  The maps of package rate: what they hold of one class, one tenant. No condition.
-/
import Derived.Test.YtmnpbpfeoackiaaBw2
import Derived.MapKept
import Derived.Carry
namespace Go.Proofs.Ytmnpbpfeoackiaa
open Go.RowKit

/-- The class's name. -/
def gold : ByteArray := ⟨#[103, 111, 108, 100]⟩
/-- The tenant and the class. -/
def whoV : Value := .agg #[.string ⟨#[97]⟩, .string ⟨#[103, 111, 108, 100]⟩]
def clsMap (v : Value) : Array MapEntry := #[{ key := .string ⟨#[103, 111, 108, 100]⟩, val := v, born := 0 }]
theorem run_clsGet (m : Nat) (v : Value) (W : World) (h : W.heap[m]? = some (.map (clsMap v) 1)) :
    (Instr.lookup 54 (.map (some m)) (.string ⟨#[103, 111, 108, 100]⟩) true).run Try.prog W = .ok (.tuple #[v, .bool true]) W := by
  have hk : Try.prog.underlying 9 = some .string := Try.underlying9
  have hc : (Instr.checkKey (clsMap v).isEmpty 10000 9 (.string ⟨#[103, 111, 108, 100]⟩)).run Try.prog W = .ok () W := MapKept.run_checkKey (k := .string ⟨#[103, 111, 108, 100]⟩) hk (by simp [MapKept.IsKey]) _ 9999
  have hf : Instr.findNow .string (.string ⟨#[103, 111, 108, 100]⟩) (clsMap v).toList 0 = some (some (0, v)) := by
    have e : ((⟨#[103, 111, 108, 100]⟩ : ByteArray) == ⟨#[103, 111, 108, 100]⟩) = true := by decide
    simp [clsMap, Instr.findNow, Instr.sameNow, e]
  simp [Instr.lookup, run_underlying Try.underlying54, MapKept.run_getObj_map h, hc, MapKept.run_findKey hk hf, Result.andThen]
theorem run_clsPut (m : Nat) (v : Value) (W : World) (h : W.heap[m]? = some (.map #[] 0)) :
    (Instr.mapUpdate 54 (.map (some m)) (.string ⟨#[103, 111, 108, 100]⟩) v).run Try.prog W = .ok () { W with heap := W.heap.setIfInBounds m (.map (clsMap v) 1) } := by
  have hk : Try.prog.underlying 9 = some .string := Try.underlying9
  have hf : Instr.findNow .string (.string ⟨#[103, 111, 108, 100]⟩) ([] : List MapEntry) 0 = some none := rfl
  have hc : (Instr.checkKey false 10000 9 (.string ⟨#[103, 111, 108, 100]⟩)).run Try.prog W = .ok () W := MapKept.run_checkKey (k := .string ⟨#[103, 111, 108, 100]⟩) hk (by simp [MapKept.IsKey]) false 9999
  simp [Instr.mapUpdate, run_underlying Try.underlying54, MapKept.run_getObj_map h, hc, MapKept.run_findKey hk hf, MapKept.run_setObj_map _ h, Result.andThen, clsMap]
theorem run_seenGet (m : Nat) (W : World) (h : W.heap[m]? = some (.map #[] 0)) :
    (Instr.lookup 79 (.map (some m)) (.string ⟨#[103, 111, 108, 100]⟩) true).run Try.prog W = .ok (.tuple #[.int .i64 0, .bool false]) W := by
  have hk : Try.prog.underlying 9 = some .string := Try.underlying9
  have hc : (Instr.checkKey true 10000 9 (.string ⟨#[103, 111, 108, 100]⟩)).run Try.prog W = .ok () W := MapKept.run_checkKey (k := .string ⟨#[103, 111, 108, 100]⟩) hk (by simp [MapKept.IsKey]) _ 9999
  have hf : Instr.findNow .string (.string ⟨#[103, 111, 108, 100]⟩) (#[] : Array MapEntry).toList 0 = some none := rfl
  simp [Instr.lookup, run_underlying Try.underlying79, MapKept.run_getObj_map h, hc, MapKept.run_findKey hk hf, Result.andThen]
theorem run_seenPut (m : Nat) (n : Int) (W : World) (h : W.heap[m]? = some (.map #[] 0)) :
    (Instr.mapUpdate 79 (.map (some m)) (.string ⟨#[103, 111, 108, 100]⟩) (.int .i64 n)).run Try.prog W = .ok () { W with heap := W.heap.setIfInBounds m (.map (clsMap (.int .i64 n)) 1) } := by
  have hk : Try.prog.underlying 9 = some .string := Try.underlying9
  have hf : Instr.findNow .string (.string ⟨#[103, 111, 108, 100]⟩) ([] : List MapEntry) 0 = some none := rfl
  have hc : (Instr.checkKey false 10000 9 (.string ⟨#[103, 111, 108, 100]⟩)).run Try.prog W = .ok () W := MapKept.run_checkKey (k := .string ⟨#[103, 111, 108, 100]⟩) hk (by simp [MapKept.IsKey]) false 9999
  simp [Instr.mapUpdate, run_underlying Try.underlying79, MapKept.run_getObj_map h, hc, MapKept.run_findKey hk hf, MapKept.run_setObj_map _ h, Result.andThen, clsMap]
/-- The map of buckets. -/
def bkMap : Option (Nat × Nat × Nat × Nat) → Array MapEntry
  | none => #[]
  | some (c, f, h, a) => #[{ key := whoV, val := .agg #[.int .i64 c, .int .i64 f, .int .i64 h, .int .i64 a], born := 0 }]
def bkClock : Option (Nat × Nat × Nat × Nat) → Nat
  | none => 0
  | some _ => 1
theorem run_whoCheck (b : Bool) (W : World) : (Instr.checkKey b 10000 61 whoV).run Try.prog W = .ok () W := by kernel_rfl
theorem run_whoFind (v : Value) (W : World) : (Instr.findKey 61 whoV [{ key := whoV, val := v, born := 0 }]).run Try.prog W = .ok (some (0, v)) W := by kernel_rfl
theorem run_whoNone (W : World) : (Instr.findKey 61 whoV []).run Try.prog W = .ok none W := by kernel_rfl
theorem who_same : Instr.sameBits 10000 whoV whoV = true := by kernel_rfl
/-- What the lookup returns. -/
def bkGot : Option (Nat × Nat × Nat × Nat) → (Nat × Nat × Nat × Nat) × Bool
  | none => ((0, 0, 0, 0), false)
  | some x => (x, true)
theorem run_bkGet (m : Nat) (o : Option (Nat × Nat × Nat × Nat)) (W : World) (h : W.heap[m]? = some (.map (bkMap o) (bkClock o))) :
    (Instr.lookup 55 (.map (some m)) whoV true).run Try.prog W = .ok (.tuple #[.agg #[.int .i64 (bkGot o).1.1, .int .i64 (bkGot o).1.2.1, .int .i64 (bkGot o).1.2.2.1, .int .i64 (bkGot o).1.2.2.2], .bool (bkGot o).2]) W := by
  cases o with
  | none =>
    have hc := run_whoCheck true W
    simp [Instr.lookup, run_underlying Try.underlying55, MapKept.run_getObj_map h, bkMap, hc, run_whoNone, Result.andThen, bkGot]
  | some x =>
    obtain ⟨c, f, hh, a⟩ := x
    have hc := run_whoCheck false W
    simp [Instr.lookup, run_underlying Try.underlying55, MapKept.run_getObj_map h, bkMap, hc, run_whoFind, Result.andThen, bkGot]
theorem run_bkPut (m : Nat) (o : Option (Nat × Nat × Nat × Nat)) (c f hh a : Nat) (W : World) (h : W.heap[m]? = some (.map (bkMap o) (bkClock o))) :
    (Instr.mapUpdate 55 (.map (some m)) whoV (.agg #[.int .i64 c, .int .i64 f, .int .i64 hh, .int .i64 a])).run Try.prog W = .ok () { W with heap := W.heap.setIfInBounds m (.map (bkMap (some (c, f, hh, a))) (bkClock (some (c, f, hh, a)))) } := by
  have hc := run_whoCheck false W
  cases o with
  | none =>
    simp [Instr.mapUpdate, run_underlying Try.underlying55, MapKept.run_getObj_map h, bkMap, bkClock, hc, run_whoNone, MapKept.run_setObj_map _ h, Result.andThen]
  | some x =>
    obtain ⟨c', f', hh', a'⟩ := x
    have hk : (Instr.keyThatStays whoV whoV).run Try.prog W = .ok whoV W := by simp [Instr.keyThatStays, who_same]
    simp [Instr.mapUpdate, run_underlying Try.underlying55, MapKept.run_getObj_map h, bkMap, bkClock, hc, run_whoFind, hk, MapKept.run_setObj_map _ h, Result.andThen]
/-- A map is turned. -/
theorem map_turn {w : World} {b : Nat} {o o' : Obj} (hb : w.heap[b]? = some o) : ∃ V : World, { w with heap := w.heap.setIfInBounds b o' } = V ∧ V.heap[b]? = some o' ∧ (∀ k, k ≠ b → V.heap[k]? = w.heap[k]?) ∧ (∀ w0 : World, Ext w0 w → w0.heap.size ≤ b → Ext w0 V) := by
  have hlt := (Array.getElem?_eq_some_iff.1 hb).1
  have h2 : ∀ k, k ≠ b → ({ w with heap := w.heap.setIfInBounds b o' } : World).heap[k]? = w.heap[k]? := fun k hk => Array.getElem?_setIfInBounds_ne (Ne.symm hk)
  refine ⟨_, rfl, Array.getElem?_setIfInBounds_self_of_lt hlt, h2, fun w0 h hs => ⟨h.os, h.tape, h.output, ?_, fun k hk => (h2 k (by omega)).trans (h.block k hk)⟩⟩
  show _ ≤ (w.heap.setIfInBounds b o').size
  rw [Array.size_setIfInBounds]
  exact h.size
end Go.Proofs.Ytmnpbpfeoackiaa
