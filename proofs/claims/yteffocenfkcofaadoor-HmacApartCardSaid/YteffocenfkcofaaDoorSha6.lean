/-
  Package sha: the 64 words of a block. Condition: the block has 64 bytes.
-/
import Derived.Test.YteffocenfkcofaaDoorSha5
import Derived.Test.YteffocenfkcofaaDoorArr
namespace Go.Proofs.YteffocenfkcofaaDoor
open Go.RowKit

/-! ### words of 32 bits as the model's numbers -/
abbrev W32 (x : UInt32) : Value := .int .u32 x.toNat
theorem u32_add (x y : UInt32) : ((x.toNat : Int) + y.toNat) % 4294967296 = ((x + y).toNat : Int) := by
  rw [UInt32.toNat_add]; omega
theorem u32_wadd (x y : UInt32) : IntKind.u32.wrap ((x.toNat : Int) + y.toNat) = ((x + y).toNat : Int) := by
  rw [← u32_add]; rfl
theorem u32_xor (x y : UInt32) : bits .xor .u32 (x.toNat : Int) y.toNat = ((x ^^^ y).toNat : Int) := by
  rw [UInt32.toNat_xor, u32_xor_nat _ _ x.toNat_lt y.toNat_lt]
theorem u32_and (x y : UInt32) : bits .and .u32 (x.toNat : Int) y.toNat = ((x &&& y).toNat : Int) := by
  rw [UInt32.toNat_and, u32_and_nat _ _ x.toNat_lt y.toNat_lt]
theorem u32_not (x : UInt32) : bits .xor .u32 4294967295 (x.toNat : Int) = ((~~~x).toNat : Int) := by
  have h := u32_xor 4294967295 x
  rw [show ((4294967295 : UInt32).toNat : Int) = 4294967295 from rfl] at h
  rw [h]
  congr 1
theorem u32_shr3 (x : UInt32) : (x.toNat : Int) / (8 : Int) = ((x >>> 3).toNat : Int) := by
  rw [UInt32.toNat_shiftRight, show (3 : UInt32).toNat % 32 = 3 from rfl, Nat.shiftRight_eq_div_pow]; rfl
theorem u32_shr10 (x : UInt32) : (x.toNat : Int) / (1024 : Int) = ((x >>> 10).toNat : Int) := by
  rw [UInt32.toNat_shiftRight, show (10 : UInt32).toNat % 32 = 10 from rfl, Nat.shiftRight_eq_div_pow]; rfl

/-! ### the schedule -/
theorem length_firstW (b : List UInt8) : (firstW b).length = 16 := by simp [firstW]
theorem take_firstW (b : List UInt8) (t : Nat) (h : t < 16) : (firstW b).take (t + 1) = (firstW b).take t ++ [word4 (b.drop (4 * t))] := by
  rw [List.take_succ_eq_append_getElem (by rw [length_firstW]; exact h)]
  simp [firstW]
theorem moreW_zero (w : List UInt32) : moreW 0 w = w := rfl
theorem moreW_succ (n : Nat) (w : List UInt32) : moreW (n + 1) w = moreW n (w ++ [nextW w]) := rfl
theorem length_moreW : ∀ (n : Nat) (w : List UInt32), (moreW n w).length = w.length + n
  | 0, w => rfl
  | n + 1, w => by rw [moreW_succ, length_moreW n]; simp; omega
theorem length_schedL (b : List UInt8) : (schedL b).length = 64 := by unfold schedL; rw [length_moreW, length_firstW]

theorem Tryd.info64 {n : Nat} (h : n = 64) : (Tryd.prog.info? 116).map (·.size) = some n := by rw [h]; kernel_rfl
theorem sched_size (b : List UInt8) : ((schedL b).map W32).toArray.size = 64 := by simp [length_schedL]
theorem word_at (b : List UInt8) (t : Nat) (w : World) (hb : b.length = 64) (ht : t < 16) : Calls Tryd.prog 105 #[.string ((ofL b).extract (4 * t) 64)] w fun e w' => e = .returned (W32 (word4 (b.drop (4 * t)))) ∧ Ext w w' := by
  have h : (ofL b).extract (4 * t) 64 = ofL (b.drop (4 * t)) := by
    have := extract_from (ofL b) (4 * t)
    rw [size_ofL, hb, toL_ofL] at this
    exact this
  rw [h]
  exact word_any _ w (by rw [List.length_drop]; omega)

set_option maxRecDepth 100000 in
set_option maxHeartbeats 4000000 in
theorem schedule_any (b : List UInt8) (w : World) (hb : b.length = 64) : Calls Tryd.prog 99 #[.string (ofL b)] w fun e w' => e = .returned (.agg ((schedL b).map W32).toArray) ∧ Ext w w' := by
  go_enter Tryd.func99, Tryd.ntmps99
  go_wp2
  go_loopw [10] (fun i wr => ∃ t : Nat, t ≤ 16 ∧ i = .int .i64 t ∧ Ext w wr ∧ Arr wr w.heap.size 116 (List.replicate 64 (.int .u32 0)) ∧ Arr wr (w.heap.size + 1) 116 (((firstW b).take t).map W32 ++ List.replicate (64 - t) (.int .u32 0))) (fun i _ => 16 - (intOf i).toNat)
  case atStart =>
    refine ⟨0, by omega, rfl, ((Ext.rfl' _).al _).al _, ?_, ?_⟩
    · exact (Arr.new w 116 (List.replicate 64 (.int .u32 0))).alloc _
    · have := Arr.new (w.alloc (.cells (List.replicate 64 (Value.int .u32 0)).toArray 116)) 116 (List.replicate 64 (.int .u32 0))
      simpa using this
  case round =>
    obtain ⟨t, ht, rfl, hE, hA0, hA1⟩ := hrel
    by_cases hlt : t < 16
    · have hc0 : ∀ W, Ext wr W → W.cell? ⟨w.heap.size + 1, t, none⟩ = some (.int .u32 0) ∧ W.frozen? ⟨w.heap.size + 1, t, none⟩ = false := fun W hW => by
        have hA := hA1.ext hW hA1.lt
        refine ⟨?_, hA.frozen t⟩
        rw [hA.cell t, cell_fill _ _ _ t (by simp [length_firstW]; omega) (by omega)]
      have HC := Lib.hid hc0; clear hc0
      go_wp2_with ((with_reducible refine (word_at b t _ hb hlt).mono ?_); rintro e w2 ⟨rfl, hE2⟩; obtain ⟨hc, hf⟩ := HC.out w2 hE2)
      go_roundw
      case rel =>
        have h1 := (hA1.ext hE2 hA1.lt).set t (W32 (word4 (b.drop (4 * t))))
        refine ⟨t + 1, by omega, by go_num, (hE.tr hE2).st (by simp) _, (hA0.ext hE2 hA0.lt).other _ (by omega), ?_⟩
        rw [set_fillK _ _ _ _ t (by simp [length_firstW]; omega) (by omega)] at h1
        rw [take_firstW b t hlt, List.map_append]
        exact h1
      case measure => simp [intOf]; omega
    · rw [List.take_of_length_le (by rw [length_firstW]; omega), show 64 - t = 48 by omega] at hA1
      go_wp2
      go_loopw [5] (fun i wr => ∃ ws : List UInt32, 16 ≤ ws.length ∧ ws.length ≤ 64 ∧ i = .int .i64 ws.length ∧ Ext w wr ∧ Arr wr w.heap.size 116 (List.replicate 64 (.int .u32 0)) ∧ Arr wr (w.heap.size + 1) 116 (ws.map W32 ++ List.replicate (64 - ws.length) (.int .u32 0)) ∧ moreW (64 - ws.length) ws = schedL b) (fun i _ => 64 - (intOf i).toNat)
      case atStart => exact ⟨firstW b, by rw [length_firstW]; omega, by rw [length_firstW]; omega, by rw [length_firstW]; rfl, hE, hA0, by rw [length_firstW]; exact hA1, by rw [length_firstW]; rfl⟩
      case round =>
        obtain ⟨ws, h16, h64, rfl, hE, hA0, hA1, hs0⟩ := hrel
        have hs := Lib.hid hs0; clear hs0
        by_cases hlt : ws.length < 64
        · obtain ⟨t, ht⟩ : ∃ t, ws.length = t := ⟨_, rfl⟩
          have hc0 : ∀ j, j < t → wr.cell? ⟨w.heap.size + 1, j, none⟩ = some (W32 (ws.getD j 0)) := fun j hj => by
            rw [hA1.cell j, List.getElem?_append_left (by simp; omega), List.getElem?_map, List.getElem?_eq_getElem (by omega), List.getD_eq_getElem?_getD, List.getElem?_eq_getElem (by omega)]
            rfl
          have hct : wr.cell? ⟨w.heap.size + 1, t, none⟩ = some (.int .u32 0) := by
            rw [hA1.cell t, cell_fill _ _ _ t (by simp; omega) (by omega)]
          have hft := hA1.frozen t
          rw [ht] at h16 h64 hlt ⊢
          have HT := Lib.hid ht; clear ht
          have c15 := hc0 (t - 15) (by omega)
          have c2 := hc0 (t - 2) (by omega)
          have c7 := hc0 (t - 7) (by omega)
          have c16 := hc0 (t - 16) (by omega)
          have HC := Lib.hid hc0; clear hc0
          generalize hx15 : ws.getD (t - 15) 0 = x15 at c15
          generalize hx2 : ws.getD (t - 2) 0 = x2 at c2
          generalize hx7 : ws.getD (t - 7) 0 = x7 at c7
          generalize hx16 : ws.getD (t - 16) 0 = x16 at c16
          have HX15 := Lib.hid hx15; have HX2 := Lib.hid hx2; have HX7 := Lib.hid hx7; have HX16 := Lib.hid hx16
          clear hx15 hx2 hx7 hx16
          have n15 : ((t : Int) - 15).toNat = t - 15 := by omega
          have n2 : ((t : Int) - 2).toNat = t - 2 := by omega
          have n7 : ((t : Int) - 7).toNat = t - 7 := by omega
          have n16 : ((t : Int) - 16).toNat = t - 16 := by omega
          have p15 : 0 ≤ (t : Int) - 15 := by omega
          have p2 : 0 ≤ (t : Int) - 2 := by omega
          have p7 : 0 ≤ (t : Int) - 7 := by omega
          have p16 : 0 ≤ (t : Int) - 16 := by omega
          have q15 : (15 : Int) ≤ t := by omega
          have q2 : (2 : Int) ≤ t := by omega
          have q7 : (7 : Int) ≤ t := by omega
          have q16 : (16 : Int) ≤ t := by omega
          have r15 : (t : Int) - 15 < 64 := by omega
          have r2 : (t : Int) - 2 < 64 := by omega
          have r7 : (t : Int) - 7 < 64 := by omega
          have r16 : (t : Int) - 16 < 64 := by omega
          have w15 : IntKind.i64.wrap ((t : Int) - 15) = (t : Int) - 15 := IntWalk.i64_in _ (by omega)
          have w2 : IntKind.i64.wrap ((t : Int) - 2) = (t : Int) - 2 := IntWalk.i64_in _ (by omega)
          have w7 : IntKind.i64.wrap ((t : Int) - 7) = (t : Int) - 7 := IntWalk.i64_in _ (by omega)
          have w16 : IntKind.i64.wrap ((t : Int) - 16) = (t : Int) - 16 := IntWalk.i64_in _ (by omega)
          go_upto_region 10 with fail
          obtain ⟨s0, hs0⟩ : ∃ s0, ssg0 x15 = s0 := ⟨_, rfl⟩
          obtain ⟨s1, hs1⟩ : ∃ s1, ssg1 x2 = s1 := ⟨_, rfl⟩
          have F0 : bits .xor .u32 (bits .xor .u32 ((rotr x15 7).toNat : Int) (rotr x15 18).toNat) ((x15.toNat : Int) / (8 : Int)) = (s0.toNat : Int) := by
            rw [u32_xor, u32_shr3, u32_xor, ← hs0]; rfl
          have F1 : bits .xor .u32 (bits .xor .u32 ((rotr x2 17).toNat : Int) (rotr x2 19).toNat) ((x2.toNat : Int) / (1024 : Int)) = (s1.toNat : Int) := by
            rw [u32_xor, u32_shr10, u32_xor, ← hs1]; rfl
          obtain ⟨a1, ha1⟩ : ∃ a1, s1 + x7 = a1 := ⟨_, rfl⟩
          obtain ⟨a2, ha2⟩ : ∃ a2, a1 + s0 = a2 := ⟨_, rfl⟩
          obtain ⟨a3, ha3⟩ : ∃ a3, a2 + x16 = a3 := ⟨_, rfl⟩
          have hn : nextW ws = a3 := by
            unfold nextW
            rw [HT.out, HX2.out, HX7.out, HX15.out, HX16.out, hs0, hs1, ha1, ha2, ha3]
          have A1 : IntKind.u32.wrap ((s1.toNat : Int) + x7.toNat) = a1.toNat := by rw [u32_wadd, ha1]
          have A2 : IntKind.u32.wrap ((a1.toNat : Int) + s0.toNat) = a2.toNat := by rw [u32_wadd, ha2]
          have A3 : IntKind.u32.wrap ((a2.toNat : Int) + x16.toNat) = a3.toNat := by rw [u32_wadd, ha3]
          have HN := Lib.hid hn
          clear hs0 hs1 ha1 ha2 ha3 hn HX2 HX7 HX15 HX16
          go_quiet (fail)
          go_wp2_with (first
            | ((with_reducible refine (rot7 _ _).mono ?_); rintro e w' ⟨rfl, rfl⟩)
            | ((with_reducible refine (rot18 _ _).mono ?_); rintro e w' ⟨rfl, rfl⟩)
            | ((with_reducible refine (rot17 _ _).mono ?_); rintro e w' ⟨rfl, rfl⟩)
            | ((with_reducible refine (rot19 _ _).mono ?_); rintro e w' ⟨rfl, rfl⟩))
          refine wp_still_tail_any 15 (by kernel_rfl) (by kernel_rfl) ?_
          intro W hW
          have k7 : W.cell? ⟨w.heap.size + 1, t - 7, none⟩ = some (W32 x7) := by rw [hW]; exact c7
          have k16 : W.cell? ⟨w.heap.size + 1, t - 16, none⟩ = some (W32 x16) := by rw [hW]; exact c16
          have kt : W.cell? ⟨w.heap.size + 1, t, none⟩ = some (.int .u32 0) := by rw [hW]; exact hct
          have kf : W.frozen? ⟨w.heap.size + 1, t, none⟩ = false := by rw [hW]; exact hft
          have hEW : Ext w W := by rw [hW]; exact (hE.drN _).dr
          have hAW0 : Arr W w.heap.size 116 (List.replicate 64 (.int .u32 0)) := by rw [hW]; exact hA0
          have hAW1 : Arr W (w.heap.size + 1) 116 (ws.map W32 ++ List.replicate (64 - t) (.int .u32 0)) := by
            have := HT.out
            rw [hW, ← this]; exact hA1
          clear hW c15 c2 c7 c16 hct hft
          simp only [List.take_succ_cons, List.take_zero, List.drop_succ_cons, List.drop_zero]
          repeat still_step
          refine wpStill_nil ?_
          go_wp2
          go_roundw
          case rel =>
            have hl : (ws ++ [a3]).length = t + 1 := by rw [List.length_append, HT.out]; rfl
            have h1 := hAW1.set t (W32 a3)
            rw [set_fillK _ _ _ _ t (by rw [List.length_map]; exact HT.out) (by omega), show 64 - t - 1 = 64 - (t + 1) by omega] at h1
            have h2 := hs.out
            rw [HT.out, show 64 - t = (64 - (t + 1)) + 1 by omega, moreW_succ, HN.out] at h2
            exact ⟨ws ++ [a3], by omega, by omega, by rw [hl]; go_num, hEW.st (by simp) _, hAW0.other _ (by omega), by rw [hl, List.map_append]; exact h1, by rw [hl]; exact h2⟩
          case measure => simp [intOf]; omega
        · have hl : ws.length = 64 := by omega
          have hw : ws = schedL b := by have := hs.out; rw [hl] at this; exact this
          rw [hl, Nat.sub_self, List.replicate_zero, List.append_nil, hw] at hA1
          have hA0' := Arr.row hA0 ((schedL b).map W32)
          have hE' := hE.row (Nat.le_refl _) ((schedL b).map W32).toArray
          have HA1 := Lib.hid hA1; have HA0 := Lib.hid hA0; have HA0' := Lib.hid hA0'
          have hn : ¬ ws.length < 64 := hlt
          clear hA1 hA0 hA0' hw hl hs h16 h64
          go_upto_region 14 with fail
          refine wp_region_list ?_
          refine wpList_load_row rfl 116 _ rfl (w.heap.size + 1) rfl _ _ _ _ HA1.out Tryd.underlying116 rfl (Tryd.info64 (sched_size b)) ?_
          refine wpList_store_row rfl 116 _ _ rfl w.heap.size _ rfl rfl _ _ HA0.out (Tryd.info64 (sched_size b)) (by rw [sched_size]; rfl) (by simp [Value.oneCell']) ?_
          go_wp2
          refine bodyPost_ret (v := .agg ((schedL b).map W32).toArray) (results_cell_row rfl _ _ w.heap.size _ _ _ _ rfl HA0'.out Tryd.underlying116 rfl (Tryd.info64 (sched_size b))) rfl ?_
          exact ⟨rfl, hE'⟩
end Go.Proofs.YteffocenfkcofaaDoor
