/-
  Package sha: over all blocks of a text, the sum of a text. Conditions: the package's table holds the constants; at most 1000000 bytes, 900000 for a sum.
-/
import Derived.Test.YteffocenfkcofaaDoorSha7
namespace Go.Proofs.YteffocenfkcofaaDoor
open Go.RowKit

theorem own_ext {w w' : World} {base : Nat} {e : TypeId} {size n : Nat} {v : Value} {xs : List Value} (h : w.ownsRow base e size v n xs) (hE : ∀ k, base ≤ k → k < w.heap.size → w'.heap[k]? = w.heap[k]?) : w'.ownsRow base e size v n xs := by
  refine ⟨h.1, ?_⟩
  rcases h.2 with hn | ⟨g, cap, cur, rfl, hb, hg, rest⟩
  · exact .inl hn
  · refine .inr ⟨g, cap, cur, rfl, hb, ?_, rest⟩
    rw [hE g hb (Array.getElem?_eq_some_iff.1 hg).1]
    exact hg
theorem own_slice {w : World} {base : Nat} {e : TypeId} {size n : Nat} {v : Value} {xs : List Value} (h : w.ownsRow base e size v n xs) : ∃ A c, v = .slice A n c := by
  rcases h.2 with ⟨rfl, rfl⟩ | ⟨g, cap, cur, rfl, _⟩
  · exact ⟨_, _, rfl⟩
  · exact ⟨_, _, rfl⟩
theorem own_at {w : World} {base : Nat} {e : TypeId} {size n c : Nat} {A : Option Addr} {xs : List Value} (h : w.ownsRow base e size (.slice A n c) n xs) (hn : 0 < n) :
    ∃ g, A = some ⟨g, 0, none⟩ ∧ base ≤ g ∧ g < w.heap.size ∧ ∀ j u, xs[j]? = some u → w.cell? ⟨g, j, none⟩ = some u := by
  rcases h.2 with ⟨_, rfl⟩ | ⟨g, cap, cur, he, hb, hg, _⟩
  · omega
  · cases he
    refine ⟨g, rfl, hb, (h.lt g rfl).2, fun j u hu => ?_⟩
    have hj : j < xs.length := (List.getElem?_eq_some_iff.1 hu).1
    rw [h.cellAt j (by have := h.1; omega)]
    exact hu
/-- Eight words as a list of cells. -/
abbrev stL (v : St) : List Value := [W32 v.a, W32 v.b, W32 v.c, W32 v.d, W32 v.e, W32 v.f, W32 v.g, W32 v.h]
theorem step_all (v : St) (s : List UInt8) (w : World) (hT : Tab w) : Calls Tryd.prog 92 #[stV v, .string (ofL s)] w fun e w' => e = .returned (stV (stepS v s)) ∧ Ext w w' := by
  by_cases h : s.length = 64
  · exact step_any v s w hT h
  · rw [show stepS v s = v from if_pos h]
    exact step_no v s w h

set_option maxRecDepth 100000 in
set_option maxHeartbeats 4000000 in
theorem over_any (v : St) (s : List UInt8) (w : World) (hT : Tab w) (hs : s.length ≤ 1000000) : Calls Tryd.prog 73 #[stV v, .string (ofL s)] w fun e w' => e = .returned (stV ((cutL 64 s).foldl stepS v)) ∧ Ext w w' := by
  obtain ⟨L, hL⟩ : ∃ L, cutL 64 s = L := ⟨_, rfl⟩
  have hll : L.length ≤ 1000000 := by rw [← hL]; exact Nat.le_trans (length_cutL 64 s) hs
  have hc : ∀ w, Calls Tryd.prog 91 #[.string (ofL s), .int .i64 64] w (RetOwn w 9 1 L.length (L.map Str)) := fun w => by
    have := cut_any (ofL s) 64 w (by rw [size_ofL]; exact hs)
    rw [toL_ofL, show (64 : Int).toNat = 64 from rfl, hL] at this
    exact this
  have HC := Lib.hid hc
  rw [hL]
  clear hc hL hs
  obtain ⟨fin, hfin⟩ : ∃ fin, L.foldl stepS v = fin := ⟨_, rfl⟩
  rw [hfin]
  have HF := Lib.hid hfin; clear hfin
  obtain ⟨a, b1, c, d, e, f, g, i⟩ := v
  go_enter Tryd.func73, Tryd.ntmps73
  go_wp2_with ((with_reducible refine (HC.out _).mono ?_); rintro e w2 ⟨vs, rfl, hown, hE2⟩; obtain ⟨A, cp, rfl⟩ := own_slice hown)
  have hz : w.heap.size + 1 + 1 ≤ w2.heap.size := by have := hE2.size; simpa using this
  have hE : Ext w w2 := (((Ext.rfl' w).al _).al _).tr hE2
  have A0 : Arr w2 w.heap.size 92 (stL ⟨a, b1, c, d, e, f, g, i⟩) := ((Arr.new w 92 (stL ⟨a, b1, c, d, e, f, g, i⟩)).alloc _).ext hE2 (by simp; omega)
  have A1 : Arr w2 (w.heap.size + 1) 92 (List.replicate 8 (.int .u32 0)) := by
    have h := Arr.new (w.alloc (.cells (stCells ⟨a, b1, c, d, e, f, g, i⟩) 92)) 92 (List.replicate 8 (.int .u32 0))
    rw [show (w.alloc (.cells (stCells ⟨a, b1, c, d, e, f, g, i⟩) 92)).heap.size = w.heap.size + 1 by simp] at h
    exact h.ext hE2 (by simp)
  have hown2 : w2.ownsRow (w.heap.size + 2) 9 1 (.slice A L.length cp) L.length (L.map Str) := by simpa using hown
  clear hown hE2
  go_loopw [10] (fun kk wr => ∃ k : Nat, ∃ u : St, k ≤ L.length ∧ kk = .int .i64 k ∧ (L.drop k).foldl stepS u = fin ∧ Ext w wr ∧ Arr wr w.heap.size 92 (stL u) ∧ Arr wr (w.heap.size + 1) 92 (List.replicate 8 (.int .u32 0)) ∧ wr.ownsRow (w.heap.size + 2) 9 1 (.slice A L.length cp) L.length (L.map Str)) (fun kk _ => L.length - (intOf kk).toNat)
  case atStart => exact ⟨0, ⟨a, b1, c, d, e, f, g, i⟩, by omega, rfl, HF.out, hE, A0, A1, hown2⟩
  case round =>
    clear hE A0 A1 hown2 hz
    obtain ⟨k, ⟨ya, yb, yc, yd, ye, yf, yg, yh⟩, hk, rfl, hR0, hE, A0, A1, hown⟩ := hrel
    have HR := Lib.hid hR0; clear hR0
    by_cases hlt : k < L.length
    · obtain ⟨bb, rfl, hbb, hbl, hcell⟩ := own_at hown (by omega)
      have ce := hcell k (Str L[k]) (by simp [List.getElem?_eq_getElem hlt])
      obtain ⟨x, hx⟩ : ∃ x, L[k] = x := ⟨_, rfl⟩
      obtain ⟨u, hu⟩ : ∃ u, stepS ⟨ya, yb, yc, yd, ye, yf, yg, yh⟩ x = u := ⟨_, rfl⟩
      have hst := HR.out
      rw [List.drop_eq_getElem_cons hlt, List.foldl_cons, hx, hu] at hst
      have HR2 := Lib.hid hst
      have hcs : ∀ w, Tab w → Calls Tryd.prog 92 #[stV ⟨ya, yb, yc, yd, ye, yf, yg, yh⟩, .string (ofL x)] w fun e w' => e = .returned (stV u) ∧ Ext w w' := fun w hw => by rw [← hu]; exact step_all _ x w hw
      rw [hx] at ce
      unfold Str at ce
      have HCS := Lib.hid hcs
      clear hst hcs hx hu HR hcell
      obtain ⟨ua, ub, uc, ud, ue, uf, ug, uh⟩ := u
      go_upto_region 4 with fail
      refine wp_region_list ?_
      refine wpList_load_row rfl 92 _ rfl w.heap.size rfl _ _ _ _ A0 Tryd.underlying92 rfl (by kernel_rfl) ?_
      go_wp2_with ((with_reducible refine (HCS.out _ (hT.ext hE)).mono ?_); rintro e w3 ⟨rfl, hE3⟩; have B0 := A0.ext hE3 A0.lt; have B1 := A1.ext hE3 A1.lt; have hown3 := own_ext hown (fun k _ hk => hE3.block k hk); have hEn := hE.tr hE3; clear A0 A1 hE hE3 hown; have c0 := B0.cell 0; have c1 := B0.cell 1; have c2 := B0.cell 2; have c3 := B0.cell 3; have c4 := B0.cell 4; have c5 := B0.cell 5; have c6 := B0.cell 6; have c7 := B0.cell 7; simp only [List.getElem?_cons_zero, List.getElem?_cons_succ] at c0 c1 c2 c3 c4 c5 c6 c7; have f0 := B0.frozen 0; have f1 := B0.frozen 1; have f2 := B0.frozen 2; have f3 := B0.frozen 3; have f4 := B0.frozen 4; have f5 := B0.frozen 5; have f6 := B0.frozen 6; have f7 := B0.frozen 7)
      go_roundw
      case rel =>
        refine ⟨k + 1, ⟨ua, ub, uc, ud, ue, uf, ug, uh⟩, by omega, by go_num, HR2.out, ((((((((hEn.st (p := ⟨w.heap.size, 0, none⟩) (Nat.le_refl _) (W32 ua)).st (p := ⟨w.heap.size, 1, none⟩) (Nat.le_refl _) (W32 ub)).st (p := ⟨w.heap.size, 2, none⟩) (Nat.le_refl _) (W32 uc)).st (p := ⟨w.heap.size, 3, none⟩) (Nat.le_refl _) (W32 ud)).st (p := ⟨w.heap.size, 4, none⟩) (Nat.le_refl _) (W32 ue)).st (p := ⟨w.heap.size, 5, none⟩) (Nat.le_refl _) (W32 uf)).st (p := ⟨w.heap.size, 6, none⟩) (Nat.le_refl _) (W32 ug)).st (p := ⟨w.heap.size, 7, none⟩) (Nat.le_refl _) (W32 uh)), ((((((((B0.set 0 (W32 ua)).set 1 (W32 ub)).set 2 (W32 uc)).set 3 (W32 ud)).set 4 (W32 ue)).set 5 (W32 uf)).set 6 (W32 ug)).set 7 (W32 uh)), ((((((((B1.other (g' := w.heap.size) (j := 0) (W32 ua) (by omega)).other (g' := w.heap.size) (j := 1) (W32 ub) (by omega)).other (g' := w.heap.size) (j := 2) (W32 uc) (by omega)).other (g' := w.heap.size) (j := 3) (W32 ud) (by omega)).other (g' := w.heap.size) (j := 4) (W32 ue) (by omega)).other (g' := w.heap.size) (j := 5) (W32 uf) (by omega)).other (g' := w.heap.size) (j := 6) (W32 ug) (by omega)).other (g' := w.heap.size) (j := 7) (W32 uh) (by omega)), ?_⟩
        refine own_ext hown3 fun j hj _ => ?_
        simp only [heap_setCell_other _ ⟨w.heap.size, _, none⟩ j _ (show j ≠ w.heap.size by omega)]
      case measure => simp [intOf]; omega
    · have hf : (⟨ya, yb, yc, yd, ye, yf, yg, yh⟩ : St) = fin := by
        have := HR.out
        rw [List.drop_of_length_le (by omega)] at this
        exact this
      subst hf
      have R1 := A1.row (stL ⟨ya, yb, yc, yd, ye, yf, yg, yh⟩)
      have hEr := hE.row (g := w.heap.size + 1) (by omega) (stCells ⟨ya, yb, yc, yd, ye, yf, yg, yh⟩)
      go_upto_region 6 with fail
      refine wp_region_list ?_
      refine wpList_load_row rfl 92 _ rfl w.heap.size rfl _ _ _ _ A0 Tryd.underlying92 rfl (by kernel_rfl) ?_
      refine wpList_store_row rfl 92 _ _ rfl (w.heap.size + 1) _ rfl rfl _ _ A1 (by kernel_rfl) rfl (by simp [Value.oneCell']) ?_
      go_wp2
      refine bodyPost_ret (v := stV ⟨ya, yb, yc, yd, ye, yf, yg, yh⟩) (results_cell_row rfl _ _ (w.heap.size + 1) _ _ _ _ rfl R1 Tryd.underlying92 rfl (by kernel_rfl)) rfl ?_
      exact ⟨rfl, hEr⟩
end Go.Proofs.YteffocenfkcofaaDoor
