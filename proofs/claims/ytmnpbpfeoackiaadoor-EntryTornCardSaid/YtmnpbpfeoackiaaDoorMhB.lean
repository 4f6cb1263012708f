/-
  Package sha: the 64 words of a block. Condition: the block has 64 bytes. · Package sha: a step over a block. Conditions: the package's table holds the 64 constants. · Package sha: over all blocks of a text, the sum of a text. Conditions: the package's table holds the constants; at most 1000000 bytes, 900000 for a sum. · SHA-256 over lists: blocks of a text in two parts, the running sum of a text that is added part by part. No program in sight.
-/
import Derived.Test.YtmnpbpfeoackiaaDoorSha5
import Derived.Test.YtmnpbpfeoackiaaDoorArr
import Derived.Deep.WholeRow
import Derived.Test.YtmnpbpfeoackiaaDoorShaPlain
import Derived.Test.YtmnpbpfeoackiaaDoorOctPlain
namespace Go.Proofs.YtmnpbpfeoackiaaDoor
open Go.RowKit

/-! ### words of 32 bits as the model's numbers -/
abbrev W32 (x : UInt32) : Value := .int .u32 x.toNat
theorem u32_add (x y : UInt32) : ((x.toNat : Int) + y.toNat) % 4294967296 = ((x + y).toNat : Int) := by
  rw [UInt32.toNat_add]; omega
theorem u32_wadd (x y : UInt32) : IntKind.u32.wrap ((x.toNat : Int) + y.toNat) = ((x + y).toNat : Int) := by
  rw [← u32_add]; rfl
theorem u32_xor (x y : UInt32) : bits .xor .u32 (x.toNat : Int) y.toNat = ((x ^^^ y).toNat : Int) := by
  rw [UInt32.toNat_xor, u32_xor_nat _ _ x.toNat_lt y.toNat_lt]
theorem u32_and (x y : UInt32) : bits .and .u32 (x.toNat : Int) y.toNat = ((x &&& y).toNat : Int) := by
  rw [UInt32.toNat_and, u32_and_nat _ _ x.toNat_lt y.toNat_lt]
theorem u32_not (x : UInt32) : bits .xor .u32 4294967295 (x.toNat : Int) = ((~~~x).toNat : Int) := by
  have h := u32_xor 4294967295 x
  rw [show ((4294967295 : UInt32).toNat : Int) = 4294967295 from rfl] at h
  rw [h]
  congr 1
theorem u32_shr3 (x : UInt32) : (x.toNat : Int) / (8 : Int) = ((x >>> 3).toNat : Int) := by
  rw [UInt32.toNat_shiftRight, show (3 : UInt32).toNat % 32 = 3 from rfl, Nat.shiftRight_eq_div_pow]; rfl
theorem u32_shr10 (x : UInt32) : (x.toNat : Int) / (1024 : Int) = ((x >>> 10).toNat : Int) := by
  rw [UInt32.toNat_shiftRight, show (10 : UInt32).toNat % 32 = 10 from rfl, Nat.shiftRight_eq_div_pow]; rfl

/-! ### the schedule -/
theorem length_firstW (b : List UInt8) : (firstW b).length = 16 := by simp [firstW]
theorem take_firstW (b : List UInt8) (t : Nat) (h : t < 16) : (firstW b).take (t + 1) = (firstW b).take t ++ [word4 (b.drop (4 * t))] := by
  rw [List.take_succ_eq_append_getElem (by rw [length_firstW]; exact h)]
  simp [firstW]
theorem moreW_zero (w : List UInt32) : moreW 0 w = w := rfl
theorem moreW_succ (n : Nat) (w : List UInt32) : moreW (n + 1) w = moreW n (w ++ [nextW w]) := rfl
theorem length_moreW : ∀ (n : Nat) (w : List UInt32), (moreW n w).length = w.length + n
  | 0, w => rfl
  | n + 1, w => by rw [moreW_succ, length_moreW n]; simp; omega
theorem length_schedL (b : List UInt8) : (schedL b).length = 64 := by unfold schedL; rw [length_moreW, length_firstW]

theorem Tryd.info64 {n : Nat} (h : n = 64) : (Tryd.prog.info? 202).map (·.size) = some n := by rw [h]; kernel_rfl
theorem sched_size (b : List UInt8) : ((schedL b).map W32).toArray.size = 64 := by simp [length_schedL]
theorem word_at (b : List UInt8) (t : Nat) (w : World) (hb : b.length = 64) (ht : t < 16) : Calls Tryd.prog 143 #[.string ((ofL b).extract (4 * t) 64)] w fun e w' => e = .returned (W32 (word4 (b.drop (4 * t)))) ∧ Ext w w' := by
  have h : (ofL b).extract (4 * t) 64 = ofL (b.drop (4 * t)) := by
    have := extract_from (ofL b) (4 * t)
    rw [size_ofL, hb, toL_ofL] at this
    exact this
  rw [h]
  exact word_any _ w (by rw [List.length_drop]; omega)

set_option maxRecDepth 100000 in
set_option maxHeartbeats 4000000 in
theorem schedule_any (b : List UInt8) (w : World) (hb : b.length = 64) : Calls Tryd.prog 137 #[.string (ofL b)] w fun e w' => e = .returned (.agg ((schedL b).map W32).toArray) ∧ Ext w w' := by
  go_enter Tryd.func137, Tryd.ntmps137
  go_wp2
  go_loopw [10] (fun i wr => ∃ t : Nat, t ≤ 16 ∧ i = .int .i64 t ∧ Ext w wr ∧ Arr wr w.heap.size 202 (List.replicate 64 (.int .u32 0)) ∧ Arr wr (w.heap.size + 1) 202 (((firstW b).take t).map W32 ++ List.replicate (64 - t) (.int .u32 0))) (fun i _ => 16 - (intOf i).toNat)
  case atStart =>
    refine ⟨0, by omega, rfl, ((Ext.rfl' _).al _).al _, ?_, ?_⟩
    · exact (Arr.new w 202 (List.replicate 64 (.int .u32 0))).alloc _
    · have := Arr.new (w.alloc (.cells (List.replicate 64 (Value.int .u32 0)).toArray 202)) 202 (List.replicate 64 (.int .u32 0))
      simpa using this
  case round =>
    obtain ⟨t, ht, rfl, hE, hA0, hA1⟩ := hrel
    by_cases hlt : t < 16
    · have hc0 : ∀ W, Ext wr W → W.cell? ⟨w.heap.size + 1, t, none⟩ = some (.int .u32 0) ∧ W.frozen? ⟨w.heap.size + 1, t, none⟩ = false := fun W hW => by
        have hA := hA1.ext hW hA1.lt
        refine ⟨?_, hA.frozen t⟩
        rw [hA.cell t, cell_fill _ _ _ t (by simp [length_firstW]; omega) (by omega)]
      have HC := Lib.hid hc0; clear hc0
      go_wp2_with ((with_reducible refine (word_at b t _ hb hlt).mono ?_); rintro e w2 ⟨rfl, hE2⟩; obtain ⟨hc, hf⟩ := HC.out w2 hE2)
      go_roundw
      case rel =>
        have h1 := (hA1.ext hE2 hA1.lt).set t (W32 (word4 (b.drop (4 * t))))
        refine ⟨t + 1, by omega, by go_num, (hE.tr hE2).st (by simp) _, (hA0.ext hE2 hA0.lt).other _ (by omega), ?_⟩
        rw [set_fillK _ _ _ _ t (by simp [length_firstW]; omega) (by omega)] at h1
        rw [take_firstW b t hlt, List.map_append]
        exact h1
      case measure => simp [intOf]; omega
    · rw [List.take_of_length_le (by rw [length_firstW]; omega), show 64 - t = 48 by omega] at hA1
      go_wp2
      go_loopw [5] (fun i wr => ∃ ws : List UInt32, 16 ≤ ws.length ∧ ws.length ≤ 64 ∧ i = .int .i64 ws.length ∧ Ext w wr ∧ Arr wr w.heap.size 202 (List.replicate 64 (.int .u32 0)) ∧ Arr wr (w.heap.size + 1) 202 (ws.map W32 ++ List.replicate (64 - ws.length) (.int .u32 0)) ∧ moreW (64 - ws.length) ws = schedL b) (fun i _ => 64 - (intOf i).toNat)
      case atStart => exact ⟨firstW b, by rw [length_firstW]; omega, by rw [length_firstW]; omega, by rw [length_firstW]; rfl, hE, hA0, by rw [length_firstW]; exact hA1, by rw [length_firstW]; rfl⟩
      case round =>
        obtain ⟨ws, h16, h64, rfl, hE, hA0, hA1, hs0⟩ := hrel
        have hs := Lib.hid hs0; clear hs0
        by_cases hlt : ws.length < 64
        · obtain ⟨t, ht⟩ : ∃ t, ws.length = t := ⟨_, rfl⟩
          have hc0 : ∀ j, j < t → wr.cell? ⟨w.heap.size + 1, j, none⟩ = some (W32 (ws.getD j 0)) := fun j hj => by
            rw [hA1.cell j, List.getElem?_append_left (by simp; omega), List.getElem?_map, List.getElem?_eq_getElem (by omega), List.getD_eq_getElem?_getD, List.getElem?_eq_getElem (by omega)]
            rfl
          have hct : wr.cell? ⟨w.heap.size + 1, t, none⟩ = some (.int .u32 0) := by
            rw [hA1.cell t, cell_fill _ _ _ t (by simp; omega) (by omega)]
          have hft := hA1.frozen t
          rw [ht] at h16 h64 hlt ⊢
          have HT := Lib.hid ht; clear ht
          have c15 := hc0 (t - 15) (by omega)
          have c2 := hc0 (t - 2) (by omega)
          have c7 := hc0 (t - 7) (by omega)
          have c16 := hc0 (t - 16) (by omega)
          have HC := Lib.hid hc0; clear hc0
          generalize hx15 : ws.getD (t - 15) 0 = x15 at c15
          generalize hx2 : ws.getD (t - 2) 0 = x2 at c2
          generalize hx7 : ws.getD (t - 7) 0 = x7 at c7
          generalize hx16 : ws.getD (t - 16) 0 = x16 at c16
          have HX15 := Lib.hid hx15; have HX2 := Lib.hid hx2; have HX7 := Lib.hid hx7; have HX16 := Lib.hid hx16
          clear hx15 hx2 hx7 hx16
          have n15 : ((t : Int) - 15).toNat = t - 15 := by omega
          have n2 : ((t : Int) - 2).toNat = t - 2 := by omega
          have n7 : ((t : Int) - 7).toNat = t - 7 := by omega
          have n16 : ((t : Int) - 16).toNat = t - 16 := by omega
          have p15 : 0 ≤ (t : Int) - 15 := by omega
          have p2 : 0 ≤ (t : Int) - 2 := by omega
          have p7 : 0 ≤ (t : Int) - 7 := by omega
          have p16 : 0 ≤ (t : Int) - 16 := by omega
          have q15 : (15 : Int) ≤ t := by omega
          have q2 : (2 : Int) ≤ t := by omega
          have q7 : (7 : Int) ≤ t := by omega
          have q16 : (16 : Int) ≤ t := by omega
          have r15 : (t : Int) - 15 < 64 := by omega
          have r2 : (t : Int) - 2 < 64 := by omega
          have r7 : (t : Int) - 7 < 64 := by omega
          have r16 : (t : Int) - 16 < 64 := by omega
          have w15 : IntKind.i64.wrap ((t : Int) - 15) = (t : Int) - 15 := IntWalk.i64_in _ (by omega)
          have w2 : IntKind.i64.wrap ((t : Int) - 2) = (t : Int) - 2 := IntWalk.i64_in _ (by omega)
          have w7 : IntKind.i64.wrap ((t : Int) - 7) = (t : Int) - 7 := IntWalk.i64_in _ (by omega)
          have w16 : IntKind.i64.wrap ((t : Int) - 16) = (t : Int) - 16 := IntWalk.i64_in _ (by omega)
          go_upto_region 10 with fail
          obtain ⟨s0, hs0⟩ : ∃ s0, ssg0 x15 = s0 := ⟨_, rfl⟩
          obtain ⟨s1, hs1⟩ : ∃ s1, ssg1 x2 = s1 := ⟨_, rfl⟩
          have F0 : bits .xor .u32 (bits .xor .u32 ((rotr x15 7).toNat : Int) (rotr x15 18).toNat) ((x15.toNat : Int) / (8 : Int)) = (s0.toNat : Int) := by
            rw [u32_xor, u32_shr3, u32_xor, ← hs0]; rfl
          have F1 : bits .xor .u32 (bits .xor .u32 ((rotr x2 17).toNat : Int) (rotr x2 19).toNat) ((x2.toNat : Int) / (1024 : Int)) = (s1.toNat : Int) := by
            rw [u32_xor, u32_shr10, u32_xor, ← hs1]; rfl
          obtain ⟨a1, ha1⟩ : ∃ a1, s1 + x7 = a1 := ⟨_, rfl⟩
          obtain ⟨a2, ha2⟩ : ∃ a2, a1 + s0 = a2 := ⟨_, rfl⟩
          obtain ⟨a3, ha3⟩ : ∃ a3, a2 + x16 = a3 := ⟨_, rfl⟩
          have hn : nextW ws = a3 := by
            unfold nextW
            rw [HT.out, HX2.out, HX7.out, HX15.out, HX16.out, hs0, hs1, ha1, ha2, ha3]
          have A1 : IntKind.u32.wrap ((s1.toNat : Int) + x7.toNat) = a1.toNat := by rw [u32_wadd, ha1]
          have A2 : IntKind.u32.wrap ((a1.toNat : Int) + s0.toNat) = a2.toNat := by rw [u32_wadd, ha2]
          have A3 : IntKind.u32.wrap ((a2.toNat : Int) + x16.toNat) = a3.toNat := by rw [u32_wadd, ha3]
          have HN := Lib.hid hn
          clear hs0 hs1 ha1 ha2 ha3 hn HX2 HX7 HX15 HX16
          go_quiet (fail)
          go_wp2_with (first
            | ((with_reducible refine (rot7 _ _).mono ?_); rintro e w' ⟨rfl, rfl⟩)
            | ((with_reducible refine (rot18 _ _).mono ?_); rintro e w' ⟨rfl, rfl⟩)
            | ((with_reducible refine (rot17 _ _).mono ?_); rintro e w' ⟨rfl, rfl⟩)
            | ((with_reducible refine (rot19 _ _).mono ?_); rintro e w' ⟨rfl, rfl⟩))
          refine wp_still_tail_any 15 (by kernel_rfl) (by kernel_rfl) ?_
          intro W hW
          have k7 : W.cell? ⟨w.heap.size + 1, t - 7, none⟩ = some (W32 x7) := by rw [hW]; exact c7
          have k16 : W.cell? ⟨w.heap.size + 1, t - 16, none⟩ = some (W32 x16) := by rw [hW]; exact c16
          have kt : W.cell? ⟨w.heap.size + 1, t, none⟩ = some (.int .u32 0) := by rw [hW]; exact hct
          have kf : W.frozen? ⟨w.heap.size + 1, t, none⟩ = false := by rw [hW]; exact hft
          have hEW : Ext w W := by rw [hW]; exact (hE.drN _).dr
          have hAW0 : Arr W w.heap.size 202 (List.replicate 64 (.int .u32 0)) := by rw [hW]; exact hA0
          have hAW1 : Arr W (w.heap.size + 1) 202 (ws.map W32 ++ List.replicate (64 - t) (.int .u32 0)) := by
            have := HT.out
            rw [hW, ← this]; exact hA1
          clear hW c15 c2 c7 c16 hct hft
          simp only [List.take_succ_cons, List.take_zero, List.drop_succ_cons, List.drop_zero]
          repeat still_step
          refine wpStill_nil ?_
          go_wp2
          go_roundw
          case rel =>
            have hl : (ws ++ [a3]).length = t + 1 := by rw [List.length_append, HT.out]; rfl
            have h1 := hAW1.set t (W32 a3)
            rw [set_fillK _ _ _ _ t (by rw [List.length_map]; exact HT.out) (by omega), show 64 - t - 1 = 64 - (t + 1) by omega] at h1
            have h2 := hs.out
            rw [HT.out, show 64 - t = (64 - (t + 1)) + 1 by omega, moreW_succ, HN.out] at h2
            exact ⟨ws ++ [a3], by omega, by omega, by rw [hl]; go_num, hEW.st (by simp) _, hAW0.other _ (by omega), by rw [hl, List.map_append]; exact h1, by rw [hl]; exact h2⟩
          case measure => simp [intOf]; omega
        · have hl : ws.length = 64 := by omega
          have hw : ws = schedL b := by have := hs.out; rw [hl] at this; exact this
          rw [hl, Nat.sub_self, List.replicate_zero, List.append_nil, hw] at hA1
          have hA0' := Arr.row hA0 ((schedL b).map W32)
          have hE' := hE.row (Nat.le_refl _) ((schedL b).map W32).toArray
          have HA1 := Lib.hid hA1; have HA0 := Lib.hid hA0; have HA0' := Lib.hid hA0'
          have hn : ¬ ws.length < 64 := hlt
          clear hA1 hA0 hA0' hw hl hs h16 h64
          go_upto_region 14 with fail
          refine wp_region_list ?_
          refine wpList_load_row rfl 202 _ rfl (w.heap.size + 1) rfl _ _ _ _ HA1.out Tryd.underlying202 rfl (Tryd.info64 (sched_size b)) ?_
          refine wpList_store_row rfl 202 _ _ rfl w.heap.size _ rfl rfl _ _ HA0.out (Tryd.info64 (sched_size b)) (by rw [sched_size]; rfl) (by simp [Value.oneCell']) ?_
          go_wp2
          refine bodyPost_ret (v := .agg ((schedL b).map W32).toArray) (results_cell_row rfl _ _ w.heap.size _ _ _ _ rfl HA0'.out Tryd.underlying202 rfl (Tryd.info64 (sched_size b))) rfl ?_
          exact ⟨rfl, hE'⟩
end Go.Proofs.YtmnpbpfeoackiaaDoor

namespace Go.Proofs.YtmnpbpfeoackiaaDoor
open Go.RowKit

/-- The package's table holds the constants. -/
def Tab (w : World) : Prop := 1 < w.heap.size ∧ ∀ i, i < 64 → w.cell? ⟨1, i, none⟩ = some (W32 (kTab.getD i 0))
theorem Tab.ext {w w' : World} (h : Tab w) (hE : Ext w w') : Tab w' :=
  ⟨by have := hE.size; have := h.1; omega, fun i hi => ((bcell hE).1 _ _ h.1).trans (h.2 i hi)⟩
theorem schedule_as (b : List UInt8) (S : List UInt32) (hb : b.length = 64) (hS : schedL b = S) (w : World) : Calls Tryd.prog 137 #[.string (ofL b)] w fun e w' => e = .returned (.agg (S.map W32).toArray) ∧ Ext w w' := by
  rw [← hS]; exact schedule_any b w hb

theorem index8_0 (x0 x1 x2 x3 x4 x5 x6 x7 : UInt32) (W : World) : (Instr.index 154 (.agg #[W32 x0, W32 x1, W32 x2, W32 x3, W32 x4, W32 x5, W32 x6, W32 x7]) (.int .i64 0)).run Tryd.prog W = .ok (W32 x0) W := by
  simp [Instr.index, run_underlying Tryd.underlying154, asIntOf, go_sem]
theorem index8_1 (x0 x1 x2 x3 x4 x5 x6 x7 : UInt32) (W : World) : (Instr.index 154 (.agg #[W32 x0, W32 x1, W32 x2, W32 x3, W32 x4, W32 x5, W32 x6, W32 x7]) (.int .i64 1)).run Tryd.prog W = .ok (W32 x1) W := by
  simp [Instr.index, run_underlying Tryd.underlying154, asIntOf, go_sem]
theorem index8_2 (x0 x1 x2 x3 x4 x5 x6 x7 : UInt32) (W : World) : (Instr.index 154 (.agg #[W32 x0, W32 x1, W32 x2, W32 x3, W32 x4, W32 x5, W32 x6, W32 x7]) (.int .i64 2)).run Tryd.prog W = .ok (W32 x2) W := by
  simp [Instr.index, run_underlying Tryd.underlying154, asIntOf, go_sem]
theorem index8_3 (x0 x1 x2 x3 x4 x5 x6 x7 : UInt32) (W : World) : (Instr.index 154 (.agg #[W32 x0, W32 x1, W32 x2, W32 x3, W32 x4, W32 x5, W32 x6, W32 x7]) (.int .i64 3)).run Tryd.prog W = .ok (W32 x3) W := by
  simp [Instr.index, run_underlying Tryd.underlying154, asIntOf, go_sem]
theorem index8_4 (x0 x1 x2 x3 x4 x5 x6 x7 : UInt32) (W : World) : (Instr.index 154 (.agg #[W32 x0, W32 x1, W32 x2, W32 x3, W32 x4, W32 x5, W32 x6, W32 x7]) (.int .i64 4)).run Tryd.prog W = .ok (W32 x4) W := by
  simp [Instr.index, run_underlying Tryd.underlying154, asIntOf, go_sem]
theorem index8_5 (x0 x1 x2 x3 x4 x5 x6 x7 : UInt32) (W : World) : (Instr.index 154 (.agg #[W32 x0, W32 x1, W32 x2, W32 x3, W32 x4, W32 x5, W32 x6, W32 x7]) (.int .i64 5)).run Tryd.prog W = .ok (W32 x5) W := by
  simp [Instr.index, run_underlying Tryd.underlying154, asIntOf, go_sem]
theorem index8_6 (x0 x1 x2 x3 x4 x5 x6 x7 : UInt32) (W : World) : (Instr.index 154 (.agg #[W32 x0, W32 x1, W32 x2, W32 x3, W32 x4, W32 x5, W32 x6, W32 x7]) (.int .i64 6)).run Tryd.prog W = .ok (W32 x6) W := by
  simp [Instr.index, run_underlying Tryd.underlying154, asIntOf, go_sem]
theorem index8_7 (x0 x1 x2 x3 x4 x5 x6 x7 : UInt32) (W : World) : (Instr.index 154 (.agg #[W32 x0, W32 x1, W32 x2, W32 x3, W32 x4, W32 x5, W32 x6, W32 x7]) (.int .i64 7)).run Tryd.prog W = .ok (W32 x7) W := by
  simp [Instr.index, run_underlying Tryd.underlying154, asIntOf, go_sem]
theorem store64 (S : List UInt32) (hl : S.length = 64) (W : World) : (storeCells ⟨W.heap.size, 0, none⟩ (S.map W32)).run Tryd.prog (W.alloc (.cells #[.int .u32 0, .int .u32 0, .int .u32 0, .int .u32 0, .int .u32 0, .int .u32 0, .int .u32 0, .int .u32 0, .int .u32 0, .int .u32 0, .int .u32 0, .int .u32 0, .int .u32 0, .int .u32 0, .int .u32 0, .int .u32 0, .int .u32 0, .int .u32 0, .int .u32 0, .int .u32 0, .int .u32 0, .int .u32 0, .int .u32 0, .int .u32 0, .int .u32 0, .int .u32 0, .int .u32 0, .int .u32 0, .int .u32 0, .int .u32 0, .int .u32 0, .int .u32 0, .int .u32 0, .int .u32 0, .int .u32 0, .int .u32 0, .int .u32 0, .int .u32 0, .int .u32 0, .int .u32 0, .int .u32 0, .int .u32 0, .int .u32 0, .int .u32 0, .int .u32 0, .int .u32 0, .int .u32 0, .int .u32 0, .int .u32 0, .int .u32 0, .int .u32 0, .int .u32 0, .int .u32 0, .int .u32 0, .int .u32 0, .int .u32 0, .int .u32 0, .int .u32 0, .int .u32 0, .int .u32 0, .int .u32 0, .int .u32 0, .int .u32 0, .int .u32 0] 202)) = .ok () (W.alloc (.cells (S.map W32).toArray 202)) := by
  have := run_storeCells_new (P := Tryd.prog) W 202 #[.int .u32 0, .int .u32 0, .int .u32 0, .int .u32 0, .int .u32 0, .int .u32 0, .int .u32 0, .int .u32 0, .int .u32 0, .int .u32 0, .int .u32 0, .int .u32 0, .int .u32 0, .int .u32 0, .int .u32 0, .int .u32 0, .int .u32 0, .int .u32 0, .int .u32 0, .int .u32 0, .int .u32 0, .int .u32 0, .int .u32 0, .int .u32 0, .int .u32 0, .int .u32 0, .int .u32 0, .int .u32 0, .int .u32 0, .int .u32 0, .int .u32 0, .int .u32 0, .int .u32 0, .int .u32 0, .int .u32 0, .int .u32 0, .int .u32 0, .int .u32 0, .int .u32 0, .int .u32 0, .int .u32 0, .int .u32 0, .int .u32 0, .int .u32 0, .int .u32 0, .int .u32 0, .int .u32 0, .int .u32 0, .int .u32 0, .int .u32 0, .int .u32 0, .int .u32 0, .int .u32 0, .int .u32 0, .int .u32 0, .int .u32 0, .int .u32 0, .int .u32 0, .int .u32 0, .int .u32 0, .int .u32 0, .int .u32 0, .int .u32 0, .int .u32 0] (S.map W32).toArray (Tryd.info64 (by simp [hl])) (by simp [hl]) (by simp [Value.oneCell'])
  simpa using this

set_option maxRecDepth 100000 in
set_option maxHeartbeats 4000000 in
theorem step_any (v : St) (b : List UInt8) (w : World) (hT : Tab w) (hb : b.length = 64) : Calls Tryd.prog 132 #[stV v, .string (ofL b)] w fun e w' => e = .returned (stV (stepS v b)) ∧ Ext w w' := by
  obtain ⟨S, hS⟩ : ∃ S, schedL b = S := ⟨_, rfl⟩
  have hc := schedule_as b S hb hS
  have hl : S.length = 64 := by rw [← hS, length_schedL]
  have hr : stepS v b = addS v (roundsS S v 64) := by unfold stepS; rw [if_neg (by omega), hS]
  have HC := Lib.hid hc; clear hc hS
  have HR := Lib.hid hr; clear hr
  obtain ⟨a, b1, c, d, e, f, g, i⟩ := v
  go_enter Tryd.func132, Tryd.ntmps132
  have hst := store64 S hl
  go_upto_region 4 with ((with_reducible refine (HC.out _).mono ?_); rintro e w2 ⟨rfl, hE2⟩)
  have A0 : Arr (w2.alloc (.cells (S.map W32).toArray 202)) w.heap.size 176 [W32 a, W32 b1, W32 c, W32 d, W32 e, W32 f, W32 g, W32 i] :=
    (((Arr.new w 176 [W32 a, W32 b1, W32 c, W32 d, W32 e, W32 f, W32 g, W32 i]).alloc _).ext hE2 (by simp; omega)).alloc _
  have A1 : Arr (w2.alloc (.cells (S.map W32).toArray 202)) (w.heap.size + 1) 176 (List.replicate 8 (.int .u32 0)) := by
    have h := Arr.new (w.alloc (.cells (stCells ⟨a, b1, c, d, e, f, g, i⟩) 176)) 176 (List.replicate 8 (.int .u32 0))
    rw [show (w.alloc (.cells (stCells ⟨a, b1, c, d, e, f, g, i⟩) 176)).heap.size = w.heap.size + 1 by simp] at h
    exact (h.ext hE2 (by simp)).alloc _
  have A2 : Arr (w2.alloc (.cells (S.map W32).toArray 202)) w2.heap.size 202 (S.map W32) := Arr.new _ _ _
  have hE : Ext w (w2.alloc (.cells (S.map W32).toArray 202)) := ((((Ext.rfl' w).al _).al _).tr hE2).al _
  have hz : w.heap.size + 1 < w2.heap.size := by have := hE2.size; simp at this; omega
  have T1 : Tab (w2.alloc (.cells (S.map W32).toArray 202)) := hT.ext hE
  generalize w2.alloc (.cells (S.map W32).toArray 202) = W at *
  clear hE2 hst
  have c0 := A0.cell 0
  have c1 := A0.cell 1
  have c2 := A0.cell 2
  have c3 := A0.cell 3
  have c4 := A0.cell 4
  have c5 := A0.cell 5
  have c6 := A0.cell 6
  have c7 := A0.cell 7
  simp only [List.getElem?_cons_zero, List.getElem?_cons_succ] at c0 c1 c2 c3 c4 c5 c6 c7
  go_quiet (fail)
  clear c0 c1 c2 c3 c4 c5 c6 c7
  go_wp2
  have hE0 : Ext w (W.drewN nq) := hE.drN nq
  have B0 := A0.drew nq; have B1 := A1.drew nq; have B2 := A2.drew nq
  clear A0 A1 A2 hE T1
  generalize W.drewN nq = W' at *
  go_loopw [6, 7, 8, 9, 10, 11, 12, 13, 43] (fun x6 x7 x8 x9 x10 x11 x12 x13 tt wr => ∃ t : Nat, ∃ u : St, t ≤ 64 ∧ tt = .int .i64 t ∧ x6 = W32 u.a ∧ x7 = W32 u.b ∧ x8 = W32 u.c ∧ x9 = W32 u.d ∧ x10 = W32 u.e ∧ x11 = W32 u.f ∧ x12 = W32 u.g ∧ x13 = W32 u.h ∧ roundsS S ⟨a, b1, c, d, e, f, g, i⟩ t = u ∧ Ext w wr ∧
    Arr wr w.heap.size 176 [W32 a, W32 b1, W32 c, W32 d, W32 e, W32 f, W32 g, W32 i] ∧ Arr wr (w.heap.size + 1) 176 (List.replicate 8 (.int .u32 0)) ∧ Arr wr w2.heap.size 202 (S.map W32)) (fun _ _ _ _ _ _ _ _ tt _ => 64 - (intOf tt).toNat)
  case atStart => exact ⟨0, ⟨a, b1, c, d, e, f, g, i⟩, by omega, rfl, rfl, rfl, rfl, rfl, rfl, rfl, rfl, rfl, rfl, hE0, B0, B1, B2⟩
  case round =>
    obtain ⟨t, ⟨ya, yb, yc, yd, ye, yf, yg, yh⟩, ht, rfl, rfl, rfl, rfl, rfl, rfl, rfl, rfl, rfl, hR0, hE, A0, A1, A2⟩ := hrel
    have HRr := Lib.hid hR0; clear hR0
    clear hE0 B0 B1 B2
    by_cases hlt : t < 64
    · have T1 := hT.ext hE
      have ck0 := T1.2 t hlt
      have cs0 : wr.cell? ⟨w2.heap.size, t, none⟩ = some (W32 (S.getD t 0)) := by
        rw [A2.cell t, List.getElem?_map, List.getElem?_eq_getElem (by omega), List.getD_eq_getElem?_getD, List.getElem?_eq_getElem (by omega)]
        rfl
      generalize hk : kTab.getD t 0 = k at ck0
      generalize hx : S.getD t 0 = x at cs0
      obtain ⟨s1, h1⟩ : ∃ s1, bsg1 ye = s1 := ⟨_, rfl⟩
      obtain ⟨s0, h0⟩ : ∃ s0, bsg0 ya = s0 := ⟨_, rfl⟩
      obtain ⟨a1, e1⟩ : ∃ z, yh + s1 = z := ⟨_, rfl⟩
      obtain ⟨ef, e2⟩ : ∃ z, ye &&& yf = z := ⟨_, rfl⟩
      obtain ⟨ne, e3⟩ : ∃ z, ~~~ye = z := ⟨_, rfl⟩
      obtain ⟨neg, e4⟩ : ∃ z, ne &&& yg = z := ⟨_, rfl⟩
      obtain ⟨ch, e5⟩ : ∃ z, ef ^^^ neg = z := ⟨_, rfl⟩
      obtain ⟨a2, e6⟩ : ∃ z, a1 + ch = z := ⟨_, rfl⟩
      obtain ⟨a3, e7⟩ : ∃ z, a2 + k = z := ⟨_, rfl⟩
      obtain ⟨t1, e8⟩ : ∃ z, a3 + x = z := ⟨_, rfl⟩
      obtain ⟨m1, e9⟩ : ∃ z, ya &&& yb = z := ⟨_, rfl⟩
      obtain ⟨m2, e10⟩ : ∃ z, ya &&& yc = z := ⟨_, rfl⟩
      obtain ⟨m3, e11⟩ : ∃ z, m1 ^^^ m2 = z := ⟨_, rfl⟩
      obtain ⟨m4, e12⟩ : ∃ z, yb &&& yc = z := ⟨_, rfl⟩
      obtain ⟨m5, e13⟩ : ∃ z, m3 ^^^ m4 = z := ⟨_, rfl⟩
      obtain ⟨t2, e14⟩ : ∃ z, s0 + m5 = z := ⟨_, rfl⟩
      obtain ⟨na, e15⟩ : ∃ z, t1 + t2 = z := ⟨_, rfl⟩
      obtain ⟨nd, e16⟩ : ∃ z, yd + t1 = z := ⟨_, rfl⟩
      have hround : roundS ⟨ya, yb, yc, yd, ye, yf, yg, yh⟩ k x = ⟨na, ya, yb, yc, nd, ye, yf, yg⟩ := by
        unfold roundS
        simp only [h0, h1, e1, e2, e3, e4, e5, e6, e7, e8, e9, e10, e11, e12, e13, e14, e15, e16]
      have hnext : roundsS S ⟨a, b1, c, d, e, f, g, i⟩ (t + 1) = ⟨na, ya, yb, yc, nd, ye, yf, yg⟩ := by
        rw [← hround, ← hk, ← hx, ← HRr.out]; rfl
      have HN := Lib.hid hnext
      have F1 : bits .xor .u32 (bits .xor .u32 ((rotr ye 6).toNat : Int) (rotr ye 11).toNat) ((rotr ye 25).toNat : Int) = (s1.toNat : Int) := by
        rw [u32_xor, u32_xor, ← h1]; rfl
      have F0 : bits .xor .u32 (bits .xor .u32 ((rotr ya 2).toNat : Int) (rotr ya 13).toNat) ((rotr ya 22).toNat : Int) = (s0.toNat : Int) := by
        rw [u32_xor, u32_xor, ← h0]; rfl
      have G1 : IntKind.u32.wrap ((yh.toNat : Int) + s1.toNat) = a1.toNat := by rw [u32_wadd, e1]
      have G2 : bits .and .u32 (ye.toNat : Int) yf.toNat = ef.toNat := by rw [u32_and, e2]
      have G3 : bits .xor .u32 (if IntKind.u32.signed = true then (-1 : Int) else IntKind.u32.max) (ye.toNat : Int) = ne.toNat := by rw [← e3]; exact u32_not ye
      have G4 : bits .and .u32 (ne.toNat : Int) yg.toNat = neg.toNat := by rw [u32_and, e4]
      have G5 : bits .xor .u32 (ef.toNat : Int) neg.toNat = ch.toNat := by rw [u32_xor, e5]
      have G6 : IntKind.u32.wrap ((a1.toNat : Int) + ch.toNat) = a2.toNat := by rw [u32_wadd, e6]
      have G7 : IntKind.u32.wrap ((a2.toNat : Int) + k.toNat) = a3.toNat := by rw [u32_wadd, e7]
      have G8 : IntKind.u32.wrap ((a3.toNat : Int) + x.toNat) = t1.toNat := by rw [u32_wadd, e8]
      have G9 : bits .and .u32 (ya.toNat : Int) yb.toNat = m1.toNat := by rw [u32_and, e9]
      have G10 : bits .and .u32 (ya.toNat : Int) yc.toNat = m2.toNat := by rw [u32_and, e10]
      have G11 : bits .xor .u32 (m1.toNat : Int) m2.toNat = m3.toNat := by rw [u32_xor, e11]
      have G12 : bits .and .u32 (yb.toNat : Int) yc.toNat = m4.toNat := by rw [u32_and, e12]
      have G13 : bits .xor .u32 (m3.toNat : Int) m4.toNat = m5.toNat := by rw [u32_xor, e13]
      have G14 : ((s0.toNat : Int) + m5.toNat) % 4294967296 = t2.toNat := by rw [u32_add, e14]
      have G15 : ((t1.toNat : Int) + t2.toNat) % 4294967296 = na.toNat := by rw [u32_add, e15]
      have G16 : ((yd.toNat : Int) + t1.toNat) % 4294967296 = nd.toNat := by rw [u32_add, e16]
      clear hk hx h0 h1 e1 e2 e3 e4 e5 e6 e7 e8 e9 e10 e11 e12 e13 e14 e15 e16 hround hnext HRr T1
      go_upto_region 9 with (first
        | ((with_reducible refine (rot6 _ _).mono ?_); rintro e w' ⟨rfl, rfl⟩)
        | ((with_reducible refine (rot11 _ _).mono ?_); rintro e w' ⟨rfl, rfl⟩)
        | ((with_reducible refine (rot25 _ _).mono ?_); rintro e w' ⟨rfl, rfl⟩))
      go_quiet (fail)
      go_wp2_with (first
        | ((with_reducible refine (rot2 _ _).mono ?_); rintro e w' ⟨rfl, rfl⟩)
        | ((with_reducible refine (rot13 _ _).mono ?_); rintro e w' ⟨rfl, rfl⟩)
        | ((with_reducible refine (rot22 _ _).mono ?_); rintro e w' ⟨rfl, rfl⟩))
      go_roundw
      case rel => exact ⟨t + 1, ⟨na, ya, yb, yc, nd, ye, yf, yg⟩, by omega, by go_num, (by first | rfl | (show Value.int .u32 _ = Value.int .u32 _; rw [G15])), rfl, rfl, rfl, (by first | rfl | (show Value.int .u32 _ = Value.int .u32 _; rw [G16])), rfl, rfl, rfl, HN.out, hE.drN _, A0, A1, A2⟩
      case measure => simp [intOf]; omega
    · have h64 : t = 64 := by omega
      obtain ⟨z0, hz0⟩ : ∃ z, a + ya = z := ⟨_, rfl⟩
      have S0 : ((a.toNat : Int) + ya.toNat) % 4294967296 = z0.toNat := by rw [u32_add, hz0]
      obtain ⟨z1, hz1⟩ : ∃ z, b1 + yb = z := ⟨_, rfl⟩
      have S1 : ((b1.toNat : Int) + yb.toNat) % 4294967296 = z1.toNat := by rw [u32_add, hz1]
      obtain ⟨z2, hz2⟩ : ∃ z, c + yc = z := ⟨_, rfl⟩
      have S2 : ((c.toNat : Int) + yc.toNat) % 4294967296 = z2.toNat := by rw [u32_add, hz2]
      obtain ⟨z3, hz3⟩ : ∃ z, d + yd = z := ⟨_, rfl⟩
      have S3 : ((d.toNat : Int) + yd.toNat) % 4294967296 = z3.toNat := by rw [u32_add, hz3]
      obtain ⟨z4, hz4⟩ : ∃ z, e + ye = z := ⟨_, rfl⟩
      have S4 : ((e.toNat : Int) + ye.toNat) % 4294967296 = z4.toNat := by rw [u32_add, hz4]
      obtain ⟨z5, hz5⟩ : ∃ z, f + yf = z := ⟨_, rfl⟩
      have S5 : ((f.toNat : Int) + yf.toNat) % 4294967296 = z5.toNat := by rw [u32_add, hz5]
      obtain ⟨z6, hz6⟩ : ∃ z, g + yg = z := ⟨_, rfl⟩
      have S6 : ((g.toNat : Int) + yg.toNat) % 4294967296 = z6.toNat := by rw [u32_add, hz6]
      obtain ⟨z7, hz7⟩ : ∃ z, i + yh = z := ⟨_, rfl⟩
      have S7 : ((i.toNat : Int) + yh.toNat) % 4294967296 = z7.toNat := by rw [u32_add, hz7]
      have hr : stepS ⟨a, b1, c, d, e, f, g, i⟩ b = ⟨z0, z1, z2, z3, z4, z5, z6, z7⟩ := by
        have h1 := HRr.out
        rw [h64] at h1
        rw [HR.out, h1]
        unfold addS
        simp only [hz0, hz1, hz2, hz3, hz4, hz5, hz6, hz7]
      have HRR := Lib.hid hr
      clear hr hz0 hz1 hz2 hz3 hz4 hz5 hz6 hz7 h64 HRr A2
      go_wp2
      refine wp_loop_rounds 9 ?_
      rw [rounds_succ]
      have ck := A0.cell 0
      have ix := index8_0 ya yb yc yd ye yf yg yh
      have cf := A0.frozen 0
      simp only [List.getElem?_cons_zero] at ck
      go_wp2
      clear ck cf ix
      have A0x1 := A0.set 0 (W32 z0)
      simp only [List.set_cons_zero] at A0x1
      have A1x1 := A1.other (g' := w.heap.size) (j := 0) (W32 z0) (by omega)
      have hEx1 := hE.st (p := ⟨w.heap.size, 0, none⟩) (Nat.le_refl _) (W32 z0)
      clear A0 A1 hE S0
      generalize World.setCell _ ⟨w.heap.size, 0, none⟩ (W32 z0) = V0 at *
      rw [rounds_succ]
      have ck := A0x1.cell 1
      have ix := index8_1 ya yb yc yd ye yf yg yh
      have cf := A0x1.frozen 1
      simp only [List.getElem?_cons_zero, List.getElem?_cons_succ] at ck
      go_wp2
      clear ck cf ix
      have A0x2 := A0x1.set 1 (W32 z1)
      simp only [List.set_cons_zero, List.set_cons_succ] at A0x2
      have A1x2 := A1x1.other (g' := w.heap.size) (j := 1) (W32 z1) (by omega)
      have hEx2 := hEx1.st (p := ⟨w.heap.size, 1, none⟩) (Nat.le_refl _) (W32 z1)
      clear A0x1 A1x1 hEx1 S1
      generalize World.setCell _ ⟨w.heap.size, 1, none⟩ (W32 z1) = V1 at *
      rw [rounds_succ]
      have ck := A0x2.cell 2
      have ix := index8_2 ya yb yc yd ye yf yg yh
      have cf := A0x2.frozen 2
      simp only [List.getElem?_cons_zero, List.getElem?_cons_succ] at ck
      go_wp2
      clear ck cf ix
      have A0x3 := A0x2.set 2 (W32 z2)
      simp only [List.set_cons_zero, List.set_cons_succ] at A0x3
      have A1x3 := A1x2.other (g' := w.heap.size) (j := 2) (W32 z2) (by omega)
      have hEx3 := hEx2.st (p := ⟨w.heap.size, 2, none⟩) (Nat.le_refl _) (W32 z2)
      clear A0x2 A1x2 hEx2 S2
      generalize World.setCell _ ⟨w.heap.size, 2, none⟩ (W32 z2) = V2 at *
      rw [rounds_succ]
      have ck := A0x3.cell 3
      have ix := index8_3 ya yb yc yd ye yf yg yh
      have cf := A0x3.frozen 3
      simp only [List.getElem?_cons_zero, List.getElem?_cons_succ] at ck
      go_wp2
      clear ck cf ix
      have A0x4 := A0x3.set 3 (W32 z3)
      simp only [List.set_cons_zero, List.set_cons_succ] at A0x4
      have A1x4 := A1x3.other (g' := w.heap.size) (j := 3) (W32 z3) (by omega)
      have hEx4 := hEx3.st (p := ⟨w.heap.size, 3, none⟩) (Nat.le_refl _) (W32 z3)
      clear A0x3 A1x3 hEx3 S3
      generalize World.setCell _ ⟨w.heap.size, 3, none⟩ (W32 z3) = V3 at *
      rw [rounds_succ]
      have ck := A0x4.cell 4
      have ix := index8_4 ya yb yc yd ye yf yg yh
      have cf := A0x4.frozen 4
      simp only [List.getElem?_cons_zero, List.getElem?_cons_succ] at ck
      go_wp2
      clear ck cf ix
      have A0x5 := A0x4.set 4 (W32 z4)
      simp only [List.set_cons_zero, List.set_cons_succ] at A0x5
      have A1x5 := A1x4.other (g' := w.heap.size) (j := 4) (W32 z4) (by omega)
      have hEx5 := hEx4.st (p := ⟨w.heap.size, 4, none⟩) (Nat.le_refl _) (W32 z4)
      clear A0x4 A1x4 hEx4 S4
      generalize World.setCell _ ⟨w.heap.size, 4, none⟩ (W32 z4) = V4 at *
      rw [rounds_succ]
      have ck := A0x5.cell 5
      have ix := index8_5 ya yb yc yd ye yf yg yh
      have cf := A0x5.frozen 5
      simp only [List.getElem?_cons_zero, List.getElem?_cons_succ] at ck
      go_wp2
      clear ck cf ix
      have A0x6 := A0x5.set 5 (W32 z5)
      simp only [List.set_cons_zero, List.set_cons_succ] at A0x6
      have A1x6 := A1x5.other (g' := w.heap.size) (j := 5) (W32 z5) (by omega)
      have hEx6 := hEx5.st (p := ⟨w.heap.size, 5, none⟩) (Nat.le_refl _) (W32 z5)
      clear A0x5 A1x5 hEx5 S5
      generalize World.setCell _ ⟨w.heap.size, 5, none⟩ (W32 z5) = V5 at *
      rw [rounds_succ]
      have ck := A0x6.cell 6
      have ix := index8_6 ya yb yc yd ye yf yg yh
      have cf := A0x6.frozen 6
      simp only [List.getElem?_cons_zero, List.getElem?_cons_succ] at ck
      go_wp2
      clear ck cf ix
      have A0x7 := A0x6.set 6 (W32 z6)
      simp only [List.set_cons_zero, List.set_cons_succ] at A0x7
      have A1x7 := A1x6.other (g' := w.heap.size) (j := 6) (W32 z6) (by omega)
      have hEx7 := hEx6.st (p := ⟨w.heap.size, 6, none⟩) (Nat.le_refl _) (W32 z6)
      clear A0x6 A1x6 hEx6 S6
      generalize World.setCell _ ⟨w.heap.size, 6, none⟩ (W32 z6) = V6 at *
      rw [rounds_succ]
      have ck := A0x7.cell 7
      have ix := index8_7 ya yb yc yd ye yf yg yh
      have cf := A0x7.frozen 7
      simp only [List.getElem?_cons_zero, List.getElem?_cons_succ] at ck
      go_wp2
      clear ck cf ix
      have A0x8 := A0x7.set 7 (W32 z7)
      simp only [List.set_cons_zero, List.set_cons_succ] at A0x8
      have A1x8 := A1x7.other (g' := w.heap.size) (j := 7) (W32 z7) (by omega)
      have hEx8 := hEx7.st (p := ⟨w.heap.size, 7, none⟩) (Nat.le_refl _) (W32 z7)
      clear A0x7 A1x7 hEx7 S7
      generalize World.setCell _ ⟨w.heap.size, 7, none⟩ (W32 z7) = V7 at *
      rw [rounds_succ]
      go_upto_region 19 with fail
      have R1 := A1x8.row [W32 z0, W32 z1, W32 z2, W32 z3, W32 z4, W32 z5, W32 z6, W32 z7]
      have hEr := hEx8.row (g := w.heap.size + 1) (by omega) #[W32 z0, W32 z1, W32 z2, W32 z3, W32 z4, W32 z5, W32 z6, W32 z7]
      refine wp_region_list ?_
      refine wpList_load_row rfl 176 _ rfl w.heap.size rfl _ _ _ _ A0x8 Tryd.underlying176 rfl (by kernel_rfl) ?_
      refine wpList_store_row rfl 176 _ _ rfl (w.heap.size + 1) _ rfl rfl _ _ A1x8 (by kernel_rfl) rfl (by simp [Value.oneCell']) ?_
      go_wp2
      refine bodyPost_ret (v := stV ⟨z0, z1, z2, z3, z4, z5, z6, z7⟩) (results_cell_row rfl _ _ (w.heap.size + 1) _ _ _ _ rfl R1 Tryd.underlying176 rfl (by kernel_rfl)) rfl ?_
      exact ⟨by rw [HRR.out], hEr⟩

/-- A block that is no block: nothing turns. -/
theorem step_no (v : St) (s : List UInt8) (w : World) (hs : s.length ≠ 64) : Calls Tryd.prog 132 #[stV v, .string (ofL s)] w fun e w' => e = .returned (stV v) ∧ Ext w w' := by
  have h1 : ((s.length : Int) != 64) = true := by simp; omega
  have hsz := size_ofL s
  clear hs
  obtain ⟨a, b1, c, d, e, f, g, i⟩ := v
  go_enter Tryd.func132, Tryd.ntmps132
  go_wp2
  exact bodyPost_ret (v := stV ⟨a, b1, c, d, e, f, g, i⟩) (by simp [results, Tryd.results132, go_sem]) rfl ⟨rfl, ((Ext.rfl' _).al _).al _⟩
end Go.Proofs.YtmnpbpfeoackiaaDoor

namespace Go.Proofs.YtmnpbpfeoackiaaDoor
open Go.RowKit

theorem own_ext {w w' : World} {base : Nat} {e : TypeId} {size n : Nat} {v : Value} {xs : List Value} (h : w.ownsRow base e size v n xs) (hE : ∀ k, base ≤ k → k < w.heap.size → w'.heap[k]? = w.heap[k]?) : w'.ownsRow base e size v n xs := by
  refine ⟨h.1, ?_⟩
  rcases h.2 with hn | ⟨g, cap, cur, rfl, hb, hg, rest⟩
  · exact .inl hn
  · refine .inr ⟨g, cap, cur, rfl, hb, ?_, rest⟩
    rw [hE g hb (Array.getElem?_eq_some_iff.1 hg).1]
    exact hg
theorem own_slice {w : World} {base : Nat} {e : TypeId} {size n : Nat} {v : Value} {xs : List Value} (h : w.ownsRow base e size v n xs) : ∃ A c, v = .slice A n c := by
  rcases h.2 with ⟨rfl, rfl⟩ | ⟨g, cap, cur, rfl, _⟩
  · exact ⟨_, _, rfl⟩
  · exact ⟨_, _, rfl⟩
theorem own_at {w : World} {base : Nat} {e : TypeId} {size n c : Nat} {A : Option Addr} {xs : List Value} (h : w.ownsRow base e size (.slice A n c) n xs) (hn : 0 < n) :
    ∃ g, A = some ⟨g, 0, none⟩ ∧ base ≤ g ∧ g < w.heap.size ∧ ∀ j u, xs[j]? = some u → w.cell? ⟨g, j, none⟩ = some u := by
  rcases h.2 with ⟨_, rfl⟩ | ⟨g, cap, cur, he, hb, hg, _⟩
  · omega
  · cases he
    refine ⟨g, rfl, hb, (h.lt g rfl).2, fun j u hu => ?_⟩
    have hj : j < xs.length := (List.getElem?_eq_some_iff.1 hu).1
    rw [h.cellAt j (by have := h.1; omega)]
    exact hu
/-- Eight words as a list of cells. -/
abbrev stL (v : St) : List Value := [W32 v.a, W32 v.b, W32 v.c, W32 v.d, W32 v.e, W32 v.f, W32 v.g, W32 v.h]
theorem step_all (v : St) (s : List UInt8) (w : World) (hT : Tab w) : Calls Tryd.prog 132 #[stV v, .string (ofL s)] w fun e w' => e = .returned (stV (stepS v s)) ∧ Ext w w' := by
  by_cases h : s.length = 64
  · exact step_any v s w hT h
  · rw [show stepS v s = v from if_pos h]
    exact step_no v s w h

set_option maxRecDepth 100000 in
set_option maxHeartbeats 4000000 in
theorem over_any (v : St) (s : List UInt8) (w : World) (hT : Tab w) (hs : s.length ≤ 1000000) : Calls Tryd.prog 120 #[stV v, .string (ofL s)] w fun e w' => e = .returned (stV ((cutL 64 s).foldl stepS v)) ∧ Ext w w' := by
  obtain ⟨L, hL⟩ : ∃ L, cutL 64 s = L := ⟨_, rfl⟩
  have hll : L.length ≤ 1000000 := by rw [← hL]; exact Nat.le_trans (length_cutL 64 s) hs
  have hc : ∀ w, Calls Tryd.prog 131 #[.string (ofL s), .int .i64 64] w (RetOwn w 9 1 L.length (L.map Str)) := fun w => by
    have := cut_any (ofL s) 64 w (by rw [size_ofL]; exact hs)
    rw [toL_ofL, show (64 : Int).toNat = 64 from rfl, hL] at this
    exact this
  have HC := Lib.hid hc
  rw [hL]
  clear hc hL hs
  obtain ⟨fin, hfin⟩ : ∃ fin, L.foldl stepS v = fin := ⟨_, rfl⟩
  rw [hfin]
  have HF := Lib.hid hfin; clear hfin
  obtain ⟨a, b1, c, d, e, f, g, i⟩ := v
  go_enter Tryd.func120, Tryd.ntmps120
  go_wp2_with ((with_reducible refine (HC.out _).mono ?_); rintro e w2 ⟨vs, rfl, hown, hE2⟩; obtain ⟨A, cp, rfl⟩ := own_slice hown)
  have hz : w.heap.size + 1 + 1 ≤ w2.heap.size := by have := hE2.size; simpa using this
  have hE : Ext w w2 := (((Ext.rfl' w).al _).al _).tr hE2
  have A0 : Arr w2 w.heap.size 176 (stL ⟨a, b1, c, d, e, f, g, i⟩) := ((Arr.new w 176 (stL ⟨a, b1, c, d, e, f, g, i⟩)).alloc _).ext hE2 (by simp; omega)
  have A1 : Arr w2 (w.heap.size + 1) 176 (List.replicate 8 (.int .u32 0)) := by
    have h := Arr.new (w.alloc (.cells (stCells ⟨a, b1, c, d, e, f, g, i⟩) 176)) 176 (List.replicate 8 (.int .u32 0))
    rw [show (w.alloc (.cells (stCells ⟨a, b1, c, d, e, f, g, i⟩) 176)).heap.size = w.heap.size + 1 by simp] at h
    exact h.ext hE2 (by simp)
  have hown2 : w2.ownsRow (w.heap.size + 2) 9 1 (.slice A L.length cp) L.length (L.map Str) := by simpa using hown
  clear hown hE2
  go_loopw [10] (fun kk wr => ∃ k : Nat, ∃ u : St, k ≤ L.length ∧ kk = .int .i64 k ∧ (L.drop k).foldl stepS u = fin ∧ Ext w wr ∧ Arr wr w.heap.size 176 (stL u) ∧ Arr wr (w.heap.size + 1) 176 (List.replicate 8 (.int .u32 0)) ∧ wr.ownsRow (w.heap.size + 2) 9 1 (.slice A L.length cp) L.length (L.map Str)) (fun kk _ => L.length - (intOf kk).toNat)
  case atStart => exact ⟨0, ⟨a, b1, c, d, e, f, g, i⟩, by omega, rfl, HF.out, hE, A0, A1, hown2⟩
  case round =>
    clear hE A0 A1 hown2 hz
    obtain ⟨k, ⟨ya, yb, yc, yd, ye, yf, yg, yh⟩, hk, rfl, hR0, hE, A0, A1, hown⟩ := hrel
    have HR := Lib.hid hR0; clear hR0
    by_cases hlt : k < L.length
    · obtain ⟨bb, rfl, hbb, hbl, hcell⟩ := own_at hown (by omega)
      have ce := hcell k (Str L[k]) (by simp [List.getElem?_eq_getElem hlt])
      obtain ⟨x, hx⟩ : ∃ x, L[k] = x := ⟨_, rfl⟩
      obtain ⟨u, hu⟩ : ∃ u, stepS ⟨ya, yb, yc, yd, ye, yf, yg, yh⟩ x = u := ⟨_, rfl⟩
      have hst := HR.out
      rw [List.drop_eq_getElem_cons hlt, List.foldl_cons, hx, hu] at hst
      have HR2 := Lib.hid hst
      have hcs : ∀ w, Tab w → Calls Tryd.prog 132 #[stV ⟨ya, yb, yc, yd, ye, yf, yg, yh⟩, .string (ofL x)] w fun e w' => e = .returned (stV u) ∧ Ext w w' := fun w hw => by rw [← hu]; exact step_all _ x w hw
      rw [hx] at ce
      unfold Str at ce
      have HCS := Lib.hid hcs
      clear hst hcs hx hu HR hcell
      obtain ⟨ua, ub, uc, ud, ue, uf, ug, uh⟩ := u
      go_upto_region 4 with fail
      refine wp_region_list ?_
      refine wpList_load_row rfl 176 _ rfl w.heap.size rfl _ _ _ _ A0 Tryd.underlying176 rfl (by kernel_rfl) ?_
      go_wp2_with ((with_reducible refine (HCS.out _ (hT.ext hE)).mono ?_); rintro e w3 ⟨rfl, hE3⟩; have B0 := A0.ext hE3 A0.lt; have B1 := A1.ext hE3 A1.lt; have hown3 := own_ext hown (fun k _ hk => hE3.block k hk); have hEn := hE.tr hE3; clear A0 A1 hE hE3 hown; have c0 := B0.cell 0; have c1 := B0.cell 1; have c2 := B0.cell 2; have c3 := B0.cell 3; have c4 := B0.cell 4; have c5 := B0.cell 5; have c6 := B0.cell 6; have c7 := B0.cell 7; simp only [List.getElem?_cons_zero, List.getElem?_cons_succ] at c0 c1 c2 c3 c4 c5 c6 c7; have f0 := B0.frozen 0; have f1 := B0.frozen 1; have f2 := B0.frozen 2; have f3 := B0.frozen 3; have f4 := B0.frozen 4; have f5 := B0.frozen 5; have f6 := B0.frozen 6; have f7 := B0.frozen 7)
      go_roundw
      case rel =>
        refine ⟨k + 1, ⟨ua, ub, uc, ud, ue, uf, ug, uh⟩, by omega, by go_num, HR2.out, ((((((((hEn.st (p := ⟨w.heap.size, 0, none⟩) (Nat.le_refl _) (W32 ua)).st (p := ⟨w.heap.size, 1, none⟩) (Nat.le_refl _) (W32 ub)).st (p := ⟨w.heap.size, 2, none⟩) (Nat.le_refl _) (W32 uc)).st (p := ⟨w.heap.size, 3, none⟩) (Nat.le_refl _) (W32 ud)).st (p := ⟨w.heap.size, 4, none⟩) (Nat.le_refl _) (W32 ue)).st (p := ⟨w.heap.size, 5, none⟩) (Nat.le_refl _) (W32 uf)).st (p := ⟨w.heap.size, 6, none⟩) (Nat.le_refl _) (W32 ug)).st (p := ⟨w.heap.size, 7, none⟩) (Nat.le_refl _) (W32 uh)), ((((((((B0.set 0 (W32 ua)).set 1 (W32 ub)).set 2 (W32 uc)).set 3 (W32 ud)).set 4 (W32 ue)).set 5 (W32 uf)).set 6 (W32 ug)).set 7 (W32 uh)), ((((((((B1.other (g' := w.heap.size) (j := 0) (W32 ua) (by omega)).other (g' := w.heap.size) (j := 1) (W32 ub) (by omega)).other (g' := w.heap.size) (j := 2) (W32 uc) (by omega)).other (g' := w.heap.size) (j := 3) (W32 ud) (by omega)).other (g' := w.heap.size) (j := 4) (W32 ue) (by omega)).other (g' := w.heap.size) (j := 5) (W32 uf) (by omega)).other (g' := w.heap.size) (j := 6) (W32 ug) (by omega)).other (g' := w.heap.size) (j := 7) (W32 uh) (by omega)), ?_⟩
        refine own_ext hown3 fun j hj _ => ?_
        simp only [heap_setCell_other _ ⟨w.heap.size, _, none⟩ j _ (show j ≠ w.heap.size by omega)]
      case measure => simp [intOf]; omega
    · have hf : (⟨ya, yb, yc, yd, ye, yf, yg, yh⟩ : St) = fin := by
        have := HR.out
        rw [List.drop_of_length_le (by omega)] at this
        exact this
      subst hf
      have R1 := A1.row (stL ⟨ya, yb, yc, yd, ye, yf, yg, yh⟩)
      have hEr := hE.row (g := w.heap.size + 1) (by omega) (stCells ⟨ya, yb, yc, yd, ye, yf, yg, yh⟩)
      go_upto_region 6 with fail
      refine wp_region_list ?_
      refine wpList_load_row rfl 176 _ rfl w.heap.size rfl _ _ _ _ A0 Tryd.underlying176 rfl (by kernel_rfl) ?_
      refine wpList_store_row rfl 176 _ _ rfl (w.heap.size + 1) _ rfl rfl _ _ A1 (by kernel_rfl) rfl (by simp [Value.oneCell']) ?_
      go_wp2
      refine bodyPost_ret (v := stV ⟨ya, yb, yc, yd, ye, yf, yg, yh⟩) (results_cell_row rfl _ _ (w.heap.size + 1) _ _ _ _ rfl R1 Tryd.underlying176 rfl (by kernel_rfl)) rfl ?_
      exact ⟨rfl, hEr⟩
end Go.Proofs.YtmnpbpfeoackiaaDoor

namespace Go.Proofs.YtmnpbpfeoackiaaDoor
open Go.RowKit

theorem cutL_append : ∀ (n : Nat) (a b : List UInt8), a.length = 64 * n → cutL 64 (a ++ b) = cutL 64 a ++ cutL 64 b
  | 0, a, b, h => by
    have : a = [] := List.eq_nil_of_length_eq_zero (by omega)
    subst this
    rfl
  | n + 1, a, b, h => by
    rw [cutL_cons (by omega) (by rw [List.length_append]; omega), cutL_cons (by omega) (show 0 < a.length by omega), List.take_append_of_le_length (by omega), List.drop_append_of_le_length (by omega),
      cutL_append n (a.drop 64) b (by rw [List.length_drop]; omega)]
    rfl
/-- The words behind all blocks. -/
def foldS (v : St) (s : List UInt8) : St := (cutL 64 s).foldl stepS v
theorem foldS_append (n : Nat) (v : St) (a b : List UInt8) (h : a.length = 64 * n) : foldS v (a ++ b) = foldS (foldS v a) b := by
  unfold foldS
  rw [cutL_append n a b h, List.foldl_append]
theorem overS_fold : ∀ (n : Nat) (v : St) (s : List UInt8), s.length = 64 * n → overS n v s = foldS v s
  | 0, v, s, h => by
    have : s = [] := List.eq_nil_of_length_eq_zero (by omega)
    subst this
    rfl
  | n + 1, v, s, h => by
    unfold foldS
    rw [cutL_cons (by omega) (by omega), List.foldl_cons]
    exact overS_fold n _ _ (by rw [List.length_drop]; omega)
theorem sumL_fold (s : List UInt8) : sumL s = tellS (foldS initS (shaPad s)) := by
  unfold sumL
  rw [overS_fold _ _ _ (by have := shaPad_whole s; omega)]

/-- The words behind the whole blocks of a text, and what is left of it. -/
def stOf (t : List UInt8) : St := foldS initS (t.take (t.length / 64 * 64))
def tlOf (t : List UInt8) : List UInt8 := t.drop (t.length / 64 * 64)
theorem length_tlOf (t : List UInt8) : (tlOf t).length = t.length % 64 := by unfold tlOf; rw [List.length_drop]; omega
theorem split_tl (t : List UInt8) : t.take (t.length / 64 * 64) ++ tlOf t = t := List.take_append_drop _ _
theorem length_hd (t : List UInt8) : (t.take (t.length / 64 * 64)).length = 64 * (t.length / 64) := by rw [List.length_take]; omega
theorem parts_eq (t s : List UInt8) : (t ++ s).take ((t ++ s).length / 64 * 64) = t.take (t.length / 64 * 64) ++ (tlOf t ++ s).take ((tlOf t ++ s).length / 64 * 64) ∧
    (t ++ s).drop ((t ++ s).length / 64 * 64) = (tlOf t ++ s).drop ((tlOf t ++ s).length / 64 * 64) := by
  have e : t ++ s = t.take (t.length / 64 * 64) ++ (tlOf t ++ s) := by rw [← List.append_assoc, split_tl]
  have hl : (t ++ s).length / 64 * 64 = (t.take (t.length / 64 * 64)).length + (tlOf t ++ s).length / 64 * 64 := by
    rw [length_hd, List.length_append, List.length_append, length_tlOf]
    omega
  rw [hl]
  constructor
  · conv => lhs; rw [e]
    rw [List.take_length_add_append]
  · conv => lhs; rw [e]
    rw [List.drop_length_add_append]
theorem stOf_add (t s : List UInt8) : foldS (stOf t) ((tlOf t ++ s).take ((tlOf t ++ s).length / 64 * 64)) = stOf (t ++ s) := by
  unfold stOf
  rw [(parts_eq t s).1, foldS_append _ _ _ _ (length_hd t)]
theorem tlOf_add (t s : List UInt8) : (tlOf t ++ s).drop ((tlOf t ++ s).length / 64 * 64) = tlOf (t ++ s) := (parts_eq t s).2.symm
theorem sum_parts (t : List UInt8) : tellS (foldS (stOf t) (tlOf t ++ endingL t.length)) = sumL t := by
  rw [sumL_fold]
  unfold stOf shaPad
  rw [← foldS_append _ _ _ _ (length_hd t), ← List.append_assoc, split_tl]
theorem stOf_nil : stOf [] = initS := rfl
theorem tlOf_nil : tlOf [] = [] := rfl
end Go.Proofs.YtmnpbpfeoackiaaDoor
