/-
  Package sha's reference: a step over a block, with constants that are told by roots. Condition: at most 1000000 bytes.
-/
import Derived.Test.YteclfeeeaokddaaDoorSha21
namespace Go.Proofs.YteclfeeeaokddaaDoor
open Go.RowKit

theorem rStep_no (v : St) (s : List UInt8) (w : World) (hs : s.length ≠ 64) : Calls Tryd.prog 13 #[stV v, .string (ofL s)] w fun e w' => e = .returned (stV v) ∧ Ext w w' := by
  have h1 : ((s.length : Int) != 64) = true := by simp; omega
  have hsz := size_ofL s
  clear hs
  obtain ⟨a, b1, c, d, e, f, g, i⟩ := v
  go_enter Tryd.func13, Tryd.ntmps13
  go_wp2
  exact bodyPost_ret (v := stV ⟨a, b1, c, d, e, f, g, i⟩) (by simp [results, Tryd.results13, go_sem]) rfl ⟨rfl, ((Ext.rfl' _).al _).al _⟩

set_option maxRecDepth 100000 in
set_option maxHeartbeats 4000000 in
theorem rStep_64 (v : St) (s : List UInt8) (w : World) (hs : s.length = 64) : Calls Tryd.prog 13 #[stV v, .string (ofL s)] w fun e w' => e = .returned (stV (stepS v s)) ∧ Ext w w' := by
  obtain ⟨u, hu⟩ : ∃ u, stepS v s = u := ⟨_, rfl⟩
  rw [hu]
  have HS := Kp.mk (show ∀ (kb kc : Nat) (w : World), kb < w.heap.size → (∀ i, i < 64 → w.cell? ⟨kb, i, none⟩ = some (W32 (kTab.getD i 0))) →
      Calls Tryd.prog 24 #[stV v, .string (ofL s), .int .i64 0, .slice (some ⟨kb, 0, none⟩) 64 kc] w fun e w' => e = .returned (stV u) ∧ Ext w w' from fun kb kc w hb hk => by
    have := rstep_any v s 0 kb kc w (by omega) (by omega) hb hk
    rw [List.drop_zero, List.take_of_length_le (by omega), hu] at this
    exact this)
  have hsz := size_ofL s
  clear hu
  obtain ⟨a, b1, c, d, e, f, g, i⟩ := v
  obtain ⟨ua, ub, uc, ud, ue, uf, ug, uh⟩ := u
  go_enter Tryd.func13, Tryd.ntmps13
  go_upto_region 3 with fail
  have A0 : Arr ((w.alloc (.cells (stCells ⟨a, b1, c, d, e, f, g, i⟩) 26)).alloc (.cells (List.replicate 8 (Value.int .u32 0)).toArray 26)) w.heap.size 26 (stL ⟨a, b1, c, d, e, f, g, i⟩) := (Arr.new w 26 (stL ⟨a, b1, c, d, e, f, g, i⟩)).alloc _
  have A1 : Arr ((w.alloc (.cells (stCells ⟨a, b1, c, d, e, f, g, i⟩) 26)).alloc (.cells (List.replicate 8 (Value.int .u32 0)).toArray 26)) (w.heap.size + 1) 26 (List.replicate 8 (.int .u32 0)) := by
    have h := Arr.new (w.alloc (.cells (stCells ⟨a, b1, c, d, e, f, g, i⟩) 26)) 26 (List.replicate 8 (.int .u32 0))
    rw [show (w.alloc (.cells (stCells ⟨a, b1, c, d, e, f, g, i⟩) 26)).heap.size = w.heap.size + 1 by simp] at h
    exact h
  have hE : Ext w ((w.alloc (.cells (stCells ⟨a, b1, c, d, e, f, g, i⟩) 26)).alloc (.cells (List.replicate 8 (Value.int .u32 0)).toArray 26)) := ((Ext.rfl' _).al _).al _
  rw [show (List.replicate 8 (Value.int .u32 0)).toArray = #[.int .u32 0, .int .u32 0, .int .u32 0, .int .u32 0, .int .u32 0, .int .u32 0, .int .u32 0, .int .u32 0] from rfl] at A0 A1 hE
  generalize (w.alloc (.cells (stCells ⟨a, b1, c, d, e, f, g, i⟩) 26)).alloc (.cells #[.int .u32 0, .int .u32 0, .int .u32 0, .int .u32 0, .int .u32 0, .int .u32 0, .int .u32 0, .int .u32 0] 26) = W0 at *
  refine wp_region_tail (n := 4) (fun i' v W => match i' with
    | 0 => v = stV ⟨a, b1, c, d, e, f, g, i⟩
    | 1 => v = .string (ofL s)
    | 2 => ∃ p cc, v = .slice (some ⟨p, 0, none⟩) 64 cc ∧ p < W.heap.size ∧ ∀ k, k < 64 → W.cell? ⟨p, k, none⟩ = some (W32 (kTab.getD k 0))
    | 3 => v = stV ⟨ua, ub, uc, ud, ue, uf, ug, uh⟩
    | _ => True) (by kernel_rfl) rfl rfl (by kernel_rfl) rfl (by kernel_rfl) (by kernel_rfl) ?_ ?_ ?_
  · intro i' v W1 W2 e1 e2 h
    match i', h with
    | 0, h => exact h
    | 1, h => exact h
    | 2, ⟨p, cc, h1, h2, h3⟩ => exact ⟨p, cc, h1, Nat.lt_of_lt_of_le h2 e2.size, fun k hk => ((bcell e2).1 p k h2).trans (h3 k hk)⟩
    | 3, h => exact h
    | (i' + 4), h => exact h
  · refine locals_cons (fun u W hW hd => ?_) ?_
    · have B := A0.ext hW A0.lt
      have c0 := B.cell 0; have c1 := B.cell 1; have c2 := B.cell 2; have c3 := B.cell 3; have c4 := B.cell 4; have c5 := B.cell 5; have c6 := B.cell 6; have c7 := B.cell 7
      simp only [List.getElem?_cons_zero, List.getElem?_cons_succ] at c0 c1 c2 c3 c4 c5 c6 c7
      exact leaves_val rfl (v := stV ⟨a, b1, c, d, e, f, g, i⟩) (by go_simp) rfl
    refine locals_cons (fun u W hW hd => leaves_val rfl (v := .string (ofL s)) (by go_simp) rfl) ?_
    refine locals_cons (fun u W hW hd => ?_) ?_
    · refine leaves_call rfl (f := 28) (args := #[]) (by go_simp) ((const_any W).mono ?_)
      rintro e9 W9 ⟨v9, rfl, ho, h9⟩
      refine ⟨_, rfl, h9, ?_⟩
      obtain ⟨AA, cc, rfl⟩ := own_slice ho
      obtain ⟨g9, rfl, _, hgl, hcell⟩ := own_at ho (by omega)
      exact ⟨g9, cc, rfl, hgl, fun k hk => hcell k _ (map_get _ _ hk)⟩
    refine locals_cons (fun u W hW hd => ?_) locals_nil
    · have h0 : u 0 = _ := hd 0 (by kernel_rfl)
      have h1 : u 1 = _ := hd 1 (by kernel_rfl)
      obtain ⟨p, cc, h2, h3, h4⟩ := hd 2 (by kernel_rfl)
      exact leaves_call rfl (f := 24) (args := #[stV ⟨a, b1, c, d, e, f, g, i⟩, .string (ofL s), .int .i64 0, .slice (some ⟨p, 0, none⟩) 64 cc]) (by go_simp) ((HS.out p cc W h3 h4).mono (by rintro e9 W9 ⟨rfl, h9⟩; exact ⟨_, rfl, h9, rfl⟩))
  · intro x W1 hE1 hV
    have h3 : x 3 = stV ⟨ua, ub, uc, ud, ue, uf, ug, uh⟩ := hV 3 (by decide)
    clear hV HS
    have B1 := A1.ext hE1 A1.lt
    have c0 := B1.cell 0; have c1 := B1.cell 1; have c2 := B1.cell 2; have c3 := B1.cell 3; have c4 := B1.cell 4; have c5 := B1.cell 5; have c6 := B1.cell 6; have c7 := B1.cell 7
    simp [List.replicate] at c0 c1 c2 c3 c4 c5 c6 c7
    have f0 := B1.frozen 0; have f1 := B1.frozen 1; have f2 := B1.frozen 2; have f3 := B1.frozen 3; have f4 := B1.frozen 4; have f5 := B1.frozen 5; have f6 := B1.frozen 6; have f7 := B1.frozen 7
    refine ⟨rfl, _, by go_simp; rfl, ?_⟩
    clear c0 c1 c2 c3 c4 c5 c6 c7 f0 f1 f2 f3 f4 f5 f6 f7
    have B2 := ((((((((B1.set 0 (W32 ua)).set 1 (W32 ub)).set 2 (W32 uc)).set 3 (W32 ud)).set 4 (W32 ue)).set 5 (W32 uf)).set 6 (W32 ug)).set 7 (W32 uh))
    have hE2 := (((((((((hE.tr hE1).st (p := ⟨w.heap.size + 1, 0, none⟩) (show w.heap.size ≤ w.heap.size + 1 by omega) (W32 ua)).st (p := ⟨w.heap.size + 1, 1, none⟩) (show w.heap.size ≤ w.heap.size + 1 by omega) (W32 ub)).st (p := ⟨w.heap.size + 1, 2, none⟩) (show w.heap.size ≤ w.heap.size + 1 by omega) (W32 uc)).st (p := ⟨w.heap.size + 1, 3, none⟩) (show w.heap.size ≤ w.heap.size + 1 by omega) (W32 ud)).st (p := ⟨w.heap.size + 1, 4, none⟩) (show w.heap.size ≤ w.heap.size + 1 by omega) (W32 ue)).st (p := ⟨w.heap.size + 1, 5, none⟩) (show w.heap.size ≤ w.heap.size + 1 by omega) (W32 uf)).st (p := ⟨w.heap.size + 1, 6, none⟩) (show w.heap.size ≤ w.heap.size + 1 by omega) (W32 ug)).st (p := ⟨w.heap.size + 1, 7, none⟩) (show w.heap.size ≤ w.heap.size + 1 by omega) (W32 uh))
    rw [show List.replicate 8 (Value.int .u32 0) = [.int .u32 0, .int .u32 0, .int .u32 0, .int .u32 0, .int .u32 0, .int .u32 0, .int .u32 0, .int .u32 0] from rfl] at B2
    simp only [List.set_cons_zero, List.set_cons_succ] at B2
    clear B1 A0 A1 hE hE1
    generalize World.setCell _ ⟨w.heap.size + 1, 7, none⟩ (W32 uh) = W2 at *
    go_wp2
    refine bodyPost_ret (v := stV ⟨ua, ub, uc, ud, ue, uf, ug, uh⟩) (results_cell_row rfl _ _ (w.heap.size + 1) _ _ _ _ rfl B2 Tryd.underlying26 rfl (by kernel_rfl)) rfl ?_
    exact ⟨rfl, hE2⟩
theorem rStep_all (v : St) (s : List UInt8) (w : World) : Calls Tryd.prog 13 #[stV v, .string (ofL s)] w fun e w' => e = .returned (stV (stepS v s)) ∧ Ext w w' := by
  by_cases h : s.length = 64
  · exact rStep_64 v s w h
  · rw [show stepS v s = v from if_pos h]
    exact rStep_no v s w h
end Go.Proofs.YteclfeeeaokddaaDoor
