/-
  Package sha: the words at first, words as bytes. No condition.
-/
import Derived.Test.YteffocenfkcofaaDoorSha2
namespace Go.Proofs.YteffocenfkcofaaDoor
open Go.RowKit

/-- Eight words as cells. -/
abbrev stCells (v : St) : Array Value := #[.int .u32 v.a.toNat, .int .u32 v.b.toNat, .int .u32 v.c.toNat, .int .u32 v.d.toNat, .int .u32 v.e.toNat, .int .u32 v.f.toNat, .int .u32 v.g.toNat, .int .u32 v.h.toNat]
abbrev stV (v : St) : Value := .agg (stCells v)

set_option maxRecDepth 100000 in
set_option maxHeartbeats 1000000 in
theorem first_any (w : World) : Calls Tryd.prog 74 #[] w fun e w' => e = .returned (stV initS) ∧ Ext w w' := by
  go_enter Tryd.func74, Tryd.ntmps74
  go_wp2
  refine bodyPost_ret (v := stV initS) (by simp [results, Tryd.results74, go_sem]; decide) rfl ?_
  exact ⟨rfl, (Ext.rfl' _).al _⟩

theorem tell_cell (x : UInt32) : (tell4 x).map U8 = [.int .u8 ((x.toNat : Int) / 16777216 % 256), .int .u8 ((x.toNat : Int) / 65536 % 256), .int .u8 ((x.toNat : Int) / 256 % 256), .int .u8 ((x.toNat : Int) % 256)] := by
  have k : ∀ (y : UInt32), U8 y.toUInt8 = .int .u8 ((y.toNat : Int) % 256) := fun y => by
    unfold U8
    rw [UInt32.toNat_toUInt8]
    congr 1
  have s1 : (24 : UInt32).toNat % 32 = 24 := by decide
  have s2 : (16 : UInt32).toNat % 32 = 16 := by decide
  have s3 : (8 : UInt32).toNat % 32 = 8 := by decide
  unfold tell4
  simp only [List.map_cons, List.map_nil, k, UInt32.toNat_shiftRight, s1, s2, s3, Nat.shiftRight_eq_div_pow]
  rfl

set_option maxRecDepth 100000 in
set_option maxHeartbeats 4000000 in
theorem tell_any (v : St) (w : World) : Calls Tryd.prog 72 #[stV v] w fun e w' => e = .returned (.string (ofL (tellS v))) ∧ Ext w w' := by
  obtain ⟨a, b, c, d, e, f, g, h⟩ := v
  have i0 : ∀ W, (Instr.index 92 (stV ⟨a, b, c, d, e, f, g, h⟩) (.int .i64 0)).run Tryd.prog W = .ok (.int .u32 a.toNat) W := fun W => by
    simp [Instr.index, run_underlying Tryd.underlying92, asIntOf, go_sem]
  have i1 : ∀ W, (Instr.index 92 (stV ⟨a, b, c, d, e, f, g, h⟩) (.int .i64 1)).run Tryd.prog W = .ok (.int .u32 b.toNat) W := fun W => by
    simp [Instr.index, run_underlying Tryd.underlying92, asIntOf, go_sem]
  have i2 : ∀ W, (Instr.index 92 (stV ⟨a, b, c, d, e, f, g, h⟩) (.int .i64 2)).run Tryd.prog W = .ok (.int .u32 c.toNat) W := fun W => by
    simp [Instr.index, run_underlying Tryd.underlying92, asIntOf, go_sem]
  have i3 : ∀ W, (Instr.index 92 (stV ⟨a, b, c, d, e, f, g, h⟩) (.int .i64 3)).run Tryd.prog W = .ok (.int .u32 d.toNat) W := fun W => by
    simp [Instr.index, run_underlying Tryd.underlying92, asIntOf, go_sem]
  have i4 : ∀ W, (Instr.index 92 (stV ⟨a, b, c, d, e, f, g, h⟩) (.int .i64 4)).run Tryd.prog W = .ok (.int .u32 e.toNat) W := fun W => by
    simp [Instr.index, run_underlying Tryd.underlying92, asIntOf, go_sem]
  have i5 : ∀ W, (Instr.index 92 (stV ⟨a, b, c, d, e, f, g, h⟩) (.int .i64 5)).run Tryd.prog W = .ok (.int .u32 f.toNat) W := fun W => by
    simp [Instr.index, run_underlying Tryd.underlying92, asIntOf, go_sem]
  have i6 : ∀ W, (Instr.index 92 (stV ⟨a, b, c, d, e, f, g, h⟩) (.int .i64 6)).run Tryd.prog W = .ok (.int .u32 g.toNat) W := fun W => by
    simp [Instr.index, run_underlying Tryd.underlying92, asIntOf, go_sem]
  have i7 : ∀ W, (Instr.index 92 (stV ⟨a, b, c, d, e, f, g, h⟩) (.int .i64 7)).run Tryd.prog W = .ok (.int .u32 h.toNat) W := fun W => by
    simp [Instr.index, run_underlying Tryd.underlying92, asIntOf, go_sem]
  have hl : (tellS ⟨a, b, c, d, e, f, g, h⟩).map U8 = [.int .u8 ((a.toNat : Int) / 16777216 % 256), .int .u8 ((a.toNat : Int) / 65536 % 256), .int .u8 ((a.toNat : Int) / 256 % 256), .int .u8 ((a.toNat : Int) % 256), .int .u8 ((b.toNat : Int) / 16777216 % 256), .int .u8 ((b.toNat : Int) / 65536 % 256), .int .u8 ((b.toNat : Int) / 256 % 256), .int .u8 ((b.toNat : Int) % 256), .int .u8 ((c.toNat : Int) / 16777216 % 256), .int .u8 ((c.toNat : Int) / 65536 % 256), .int .u8 ((c.toNat : Int) / 256 % 256), .int .u8 ((c.toNat : Int) % 256), .int .u8 ((d.toNat : Int) / 16777216 % 256), .int .u8 ((d.toNat : Int) / 65536 % 256), .int .u8 ((d.toNat : Int) / 256 % 256), .int .u8 ((d.toNat : Int) % 256), .int .u8 ((e.toNat : Int) / 16777216 % 256), .int .u8 ((e.toNat : Int) / 65536 % 256), .int .u8 ((e.toNat : Int) / 256 % 256), .int .u8 ((e.toNat : Int) % 256), .int .u8 ((f.toNat : Int) / 16777216 % 256), .int .u8 ((f.toNat : Int) / 65536 % 256), .int .u8 ((f.toNat : Int) / 256 % 256), .int .u8 ((f.toNat : Int) % 256), .int .u8 ((g.toNat : Int) / 16777216 % 256), .int .u8 ((g.toNat : Int) / 65536 % 256), .int .u8 ((g.toNat : Int) / 256 % 256), .int .u8 ((g.toNat : Int) % 256), .int .u8 ((h.toNat : Int) / 16777216 % 256), .int .u8 ((h.toNat : Int) / 65536 % 256), .int .u8 ((h.toNat : Int) / 256 % 256), .int .u8 ((h.toNat : Int) % 256)] := by
    unfold tellS
    simp only [List.map_append, tell_cell]
    rfl
  have hw : ∀ (w1 : World) (j : Nat) (u : Value), ((tellS ⟨a, b, c, d, e, f, g, h⟩).map U8)[j]? = some u → (w1.alloc (.cells #[.int .u8 ((a.toNat : Int) / 16777216 % 256), .int .u8 ((a.toNat : Int) / 65536 % 256), .int .u8 ((a.toNat : Int) / 256 % 256), .int .u8 ((a.toNat : Int) % 256), .int .u8 ((b.toNat : Int) / 16777216 % 256), .int .u8 ((b.toNat : Int) / 65536 % 256), .int .u8 ((b.toNat : Int) / 256 % 256), .int .u8 ((b.toNat : Int) % 256), .int .u8 ((c.toNat : Int) / 16777216 % 256), .int .u8 ((c.toNat : Int) / 65536 % 256), .int .u8 ((c.toNat : Int) / 256 % 256), .int .u8 ((c.toNat : Int) % 256), .int .u8 ((d.toNat : Int) / 16777216 % 256), .int .u8 ((d.toNat : Int) / 65536 % 256), .int .u8 ((d.toNat : Int) / 256 % 256), .int .u8 ((d.toNat : Int) % 256), .int .u8 ((e.toNat : Int) / 16777216 % 256), .int .u8 ((e.toNat : Int) / 65536 % 256), .int .u8 ((e.toNat : Int) / 256 % 256), .int .u8 ((e.toNat : Int) % 256), .int .u8 ((f.toNat : Int) / 16777216 % 256), .int .u8 ((f.toNat : Int) / 65536 % 256), .int .u8 ((f.toNat : Int) / 256 % 256), .int .u8 ((f.toNat : Int) % 256), .int .u8 ((g.toNat : Int) / 16777216 % 256), .int .u8 ((g.toNat : Int) / 65536 % 256), .int .u8 ((g.toNat : Int) / 256 % 256), .int .u8 ((g.toNat : Int) % 256), .int .u8 ((h.toNat : Int) / 16777216 % 256), .int .u8 ((h.toNat : Int) / 65536 % 256), .int .u8 ((h.toNat : Int) / 256 % 256), .int .u8 ((h.toNat : Int) % 256)] 108)).cell? ((⟨w1.heap.size, 0, none⟩ : Addr).add j) = some u := by
    intro w1 j u hu
    rw [hl] at hu
    rw [WideShapes.add_plain]
    refine (cell_of_row _ w1.heap.size _ _ _ _ (heap_alloc_new w1 _)).trans ?_
    rw [Nat.zero_add]
    simpa using hu
  obtain ⟨w1, hw1⟩ : ∃ w1, w1 = w.alloc (.cells (stCells ⟨a, b, c, d, e, f, g, h⟩) 92) := ⟨_, rfl⟩
  have hz1 : w1.heap.size = w.heap.size + 1 := by rw [hw1]; simp
  have E1 : Ext w w1 := by rw [hw1]; exact (Ext.rfl' _).al _
  have hs : (convert 77 9 (.slice (some ⟨w1.heap.size, 0, none⟩) 32 32)).run Tryd.prog (w1.alloc (.cells #[.int .u8 ((a.toNat : Int) / 16777216 % 256), .int .u8 ((a.toNat : Int) / 65536 % 256), .int .u8 ((a.toNat : Int) / 256 % 256), .int .u8 ((a.toNat : Int) % 256), .int .u8 ((b.toNat : Int) / 16777216 % 256), .int .u8 ((b.toNat : Int) / 65536 % 256), .int .u8 ((b.toNat : Int) / 256 % 256), .int .u8 ((b.toNat : Int) % 256), .int .u8 ((c.toNat : Int) / 16777216 % 256), .int .u8 ((c.toNat : Int) / 65536 % 256), .int .u8 ((c.toNat : Int) / 256 % 256), .int .u8 ((c.toNat : Int) % 256), .int .u8 ((d.toNat : Int) / 16777216 % 256), .int .u8 ((d.toNat : Int) / 65536 % 256), .int .u8 ((d.toNat : Int) / 256 % 256), .int .u8 ((d.toNat : Int) % 256), .int .u8 ((e.toNat : Int) / 16777216 % 256), .int .u8 ((e.toNat : Int) / 65536 % 256), .int .u8 ((e.toNat : Int) / 256 % 256), .int .u8 ((e.toNat : Int) % 256), .int .u8 ((f.toNat : Int) / 16777216 % 256), .int .u8 ((f.toNat : Int) / 65536 % 256), .int .u8 ((f.toNat : Int) / 256 % 256), .int .u8 ((f.toNat : Int) % 256), .int .u8 ((g.toNat : Int) / 16777216 % 256), .int .u8 ((g.toNat : Int) / 65536 % 256), .int .u8 ((g.toNat : Int) / 256 % 256), .int .u8 ((g.toNat : Int) % 256), .int .u8 ((h.toNat : Int) / 16777216 % 256), .int .u8 ((h.toNat : Int) / 65536 % 256), .int .u8 ((h.toNat : Int) / 256 % 256), .int .u8 ((h.toNat : Int) % 256)] 108)) = .ok (.string (ofL (tellS ⟨a, b, c, d, e, f, g, h⟩))) _ :=
    run_str_cells _ _ _ _ Tryd.underlying77 Tryd.underlying5 Tryd.underlying9 ⟨w1.heap.size, 0, none⟩ 32 32 (tellS ⟨a, b, c, d, e, f, g, h⟩) (length_tellS _) (hw w1)
  clear hw hl
  rw [hz1] at hs
  have HS := Lib.hid hs; clear hs
  have HW1 := Lib.hid hw1
  clear hz1
  have I0 := Lib.hid i0; clear i0
  have I1 := Lib.hid i1; clear i1
  have I2 := Lib.hid i2; clear i2
  have I3 := Lib.hid i3; clear i3
  have I4 := Lib.hid i4; clear i4
  have I5 := Lib.hid i5; clear i5
  have I6 := Lib.hid i6; clear i6
  have I7 := Lib.hid i7; clear i7
  have hc : ∀ W, Ext w1 W → W.heap[w.heap.size]? = some (.cells (stCells ⟨a, b, c, d, e, f, g, h⟩) 92 (0, 0)) := fun W h => (h.block w.heap.size (by rw [hw1]; simp)).trans (by rw [hw1]; exact heap_alloc_new w _)
  clear hc hw1
  go_enter Tryd.func72, Tryd.ntmps72
  go_wp2
  refine wp_loop_rounds 9 ?_
  rw [rounds_succ]
  have ii := I0.out
  clear I0
  go_wp2
  clear ii
  rw [rounds_succ]
  have ii := I1.out
  clear I1
  go_wp2
  clear ii
  rw [rounds_succ]
  have ii := I2.out
  clear I2
  go_wp2
  clear ii
  rw [rounds_succ]
  have ii := I3.out
  clear I3
  go_wp2
  clear ii
  rw [rounds_succ]
  have ii := I4.out
  clear I4
  go_wp2
  clear ii
  rw [rounds_succ]
  have ii := I5.out
  clear I5
  go_wp2
  clear ii
  rw [rounds_succ]
  have ii := I6.out
  clear I6
  go_wp2
  clear ii
  rw [rounds_succ]
  have ii := I7.out
  clear I7
  go_wp2
  clear ii
  rw [rounds_succ]
  have hs := HS.out
  rw [HW1.out] at hs
  go_wp2
  go_ret
  exact ⟨rfl, ((Ext.rfl' _).al _).al _⟩
end Go.Proofs.YteffocenfkcofaaDoor
