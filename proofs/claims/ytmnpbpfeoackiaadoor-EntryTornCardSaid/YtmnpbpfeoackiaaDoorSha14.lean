/-
  Package sha's reference: its table, the sum of a text. Condition: at most 900000 bytes.
-/
import Derived.Test.YtmnpbpfeoackiaaDoorSha13
namespace Go.Proofs.YtmnpbpfeoackiaaDoor
open Go.RowKit

/-- A new slice of the 64 constants. -/
def TabPost (w : World) (e : Ending) (w' : World) : Prop := ∃ p c, e = .returned (.slice (some ⟨p, 0, none⟩) 64 c) ∧ p < w'.heap.size ∧ (∀ i, i < 64 → w'.cell? ⟨p, i, none⟩ = some (W32 (kTab.getD i 0))) ∧ Ext w w'
theorem kTab_cells : kTab.map W32 = [.int .u32 1116352408, .int .u32 1899447441, .int .u32 3049323471, .int .u32 3921009573, .int .u32 961987163, .int .u32 1508970993, .int .u32 2453635748, .int .u32 2870763221, .int .u32 3624381080, .int .u32 310598401, .int .u32 607225278, .int .u32 1426881987, .int .u32 1925078388, .int .u32 2162078206, .int .u32 2614888103, .int .u32 3248222580, .int .u32 3835390401, .int .u32 4022224774, .int .u32 264347078, .int .u32 604807628, .int .u32 770255983, .int .u32 1249150122, .int .u32 1555081692, .int .u32 1996064986, .int .u32 2554220882, .int .u32 2821834349, .int .u32 2952996808, .int .u32 3210313671, .int .u32 3336571891, .int .u32 3584528711, .int .u32 113926993, .int .u32 338241895, .int .u32 666307205, .int .u32 773529912, .int .u32 1294757372, .int .u32 1396182291, .int .u32 1695183700, .int .u32 1986661051, .int .u32 2177026350, .int .u32 2456956037, .int .u32 2730485921, .int .u32 2820302411, .int .u32 3259730800, .int .u32 3345764771, .int .u32 3516065817, .int .u32 3600352804, .int .u32 4094571909, .int .u32 275423344, .int .u32 430227734, .int .u32 506948616, .int .u32 659060556, .int .u32 883997877, .int .u32 958139571, .int .u32 1322822218, .int .u32 1537002063, .int .u32 1747873779, .int .u32 1955562222, .int .u32 2024104815, .int .u32 2227730452, .int .u32 2361852424, .int .u32 2428436474, .int .u32 2756734187, .int .u32 3204031479, .int .u32 3329325298] := by rfl
theorem length_kTab : kTab.length = 64 := rfl
set_option maxRecDepth 100000 in
theorem table_any (w : World) : Calls Tryd.prog 105 #[] w (TabPost w) := by
  have hA := Arr.new w 153 [.int .u32 1116352408, .int .u32 1899447441, .int .u32 3049323471, .int .u32 3921009573, .int .u32 961987163, .int .u32 1508970993, .int .u32 2453635748, .int .u32 2870763221, .int .u32 3624381080, .int .u32 310598401, .int .u32 607225278, .int .u32 1426881987, .int .u32 1925078388, .int .u32 2162078206, .int .u32 2614888103, .int .u32 3248222580, .int .u32 3835390401, .int .u32 4022224774, .int .u32 264347078, .int .u32 604807628, .int .u32 770255983, .int .u32 1249150122, .int .u32 1555081692, .int .u32 1996064986, .int .u32 2554220882, .int .u32 2821834349, .int .u32 2952996808, .int .u32 3210313671, .int .u32 3336571891, .int .u32 3584528711, .int .u32 113926993, .int .u32 338241895, .int .u32 666307205, .int .u32 773529912, .int .u32 1294757372, .int .u32 1396182291, .int .u32 1695183700, .int .u32 1986661051, .int .u32 2177026350, .int .u32 2456956037, .int .u32 2730485921, .int .u32 2820302411, .int .u32 3259730800, .int .u32 3345764771, .int .u32 3516065817, .int .u32 3600352804, .int .u32 4094571909, .int .u32 275423344, .int .u32 430227734, .int .u32 506948616, .int .u32 659060556, .int .u32 883997877, .int .u32 958139571, .int .u32 1322822218, .int .u32 1537002063, .int .u32 1747873779, .int .u32 1955562222, .int .u32 2024104815, .int .u32 2227730452, .int .u32 2361852424, .int .u32 2428436474, .int .u32 2756734187, .int .u32 3204031479, .int .u32 3329325298]
  go_enter Tryd.func105, Tryd.ntmps105
  go_wp2
  refine bodyPost_ret (v := .slice (some ⟨w.heap.size, 0, none⟩) 64 64) (by simp [results, Tryd.results105, go_sem]) rfl ⟨_, _, rfl, by simp, fun i hi => ?_, (Ext.rfl' _).al _⟩
  refine (hA.cell i).trans ?_
  rw [← kTab_cells]
  exact map_get _ _ (by rw [length_kTab]; exact hi)

theorem fold_block (u : St) (P : List UInt8) (p : Nat) (h : p < P.length) : foldS u (P.drop p) = foldS (stepS u ((P.drop p).take 64)) (P.drop (p + 64)) := by
  unfold foldS
  rw [cutL_cons (by omega) (by rw [List.length_drop]; omega), List.foldl_cons, List.drop_drop]

set_option maxRecDepth 100000 in
set_option maxHeartbeats 4000000 in
theorem rsum_any (s : List UInt8) (w : World) (hs : s.length ≤ 900000) : Calls Tryd.prog 81 #[.string (ofL s)] w fun e w' => e = .returned (.string (ofL (sumL s))) ∧ Ext w w' := by
  obtain ⟨P, hP⟩ : ∃ P, shaPad s = P := ⟨_, rfl⟩
  have hl : P.length ≤ 1000000 := by rw [← hP]; have := shaPad_le s; omega
  have h64 : P.length % 64 = 0 := by rw [← hP]; exact shaPad_whole s
  obtain ⟨u, hu⟩ : ∃ u, foldS initS P = u := ⟨_, rfl⟩
  have hr : sumL s = tellS u := by rw [sumL_fold, hP, hu]
  rw [hr]
  have HP := Kp.mk (show ∀ w, Calls Tryd.prog 104 #[.string (ofL s)] w fun e w' => e = .returned (.string (ofL P)) ∧ Ext w w' from fun w => by rw [← hP]; exact rspad_any s w (by omega))
  obtain ⟨iv, hi⟩ : ∃ iv, initS = iv := ⟨_, rfl⟩
  rw [hi] at hu
  have HI := Kp.mk (show ∀ w, Calls Tryd.prog 106 #[] w fun e w' => e = .returned (stV iv) ∧ Ext w w' from fun w => by rw [← hi]; exact rfirst_any w)
  have HU := Kp.mk hu
  have HL := Kp.mk h64
  have hsz := size_ofL P
  clear hr hu hP hi h64
  obtain ⟨ia, ib, ic, id', ie, if', ig, ih⟩ := iv
  go_enter Tryd.func81, Tryd.ntmps81
  go_wp2_with fail
  refine (HP.out _).mono ?_
  rintro e w1 ⟨rfl, hE1⟩
  go_wp2_with fail
  refine (table_any _).mono ?_
  rintro e w2 ⟨kb, kc, rfl, hkb, hk, hE2⟩
  have E2 := hE1.tr hE2
  have HK := Kp.mk hk; clear hk
  go_wp2_with fail
  refine (HI.out _).mono ?_
  rintro e w3 ⟨rfl, hE3⟩
  have E3 := E2.tr hE3
  have hkb3 : kb < w3.heap.size := by have := hE3.size; omega
  have HK3 := Kp.mk (show ∀ i, i < 64 → w3.cell? ⟨kb, i, none⟩ = some (W32 (kTab.getD i 0)) from fun i hi => ((bcell hE3).1 kb i hkb).trans (HK.out i hi))
  have X0 := Arr.new w3 154 (stL ⟨ia, ib, ic, id', ie, if', ig, ih⟩)
  have EX : Ext w (w3.alloc (.cells (stCells ⟨ia, ib, ic, id', ie, if', ig, ih⟩) 154)) := E3.al _
  have XK : (w3.alloc (.cells (stCells ⟨ia, ib, ic, id', ie, if', ig, ih⟩) 154)).heap[kb]? = w3.heap[kb]? := Below.heap_alloc w3 _ kb hkb3
  clear hE1 hE2 hE3 E2 hkb HK
  obtain ⟨g5, hg5⟩ : ∃ g5, w3.heap.size = g5 := ⟨_, rfl⟩
  have hg0 : w.heap.size ≤ g5 := by have := E3.size; omega
  go_wp2
  have hkw := hkb3
  rw [hg5] at X0 hkb3
  clear hg5 E3
  generalize w3.alloc (.cells (stCells ⟨ia, ib, ic, id', ie, if', ig, ih⟩) 154) = wx at *
  go_loopw [6] (fun x6 wr => ∃ p : Nat, ∃ v : St, p ≤ P.length ∧ p % 64 = 0 ∧ x6 = .int .i64 p ∧ foldS v (P.drop p) = u ∧ Ext w wr ∧ Arr wr g5 154 (stL v) ∧ wr.heap[kb]? = w3.heap[kb]?) (fun x6 _ => P.length - (intOf x6).toNat)
  case atStart => exact ⟨0, ⟨ia, ib, ic, id', ie, if', ig, ih⟩, by omega, rfl, rfl, HU.out, EX, X0, XK⟩
  case round =>
    clear EX X0 XK HU
    obtain ⟨p, v, hp, hp64, rfl, hR0, hE, A0, hG⟩ := hrel
    have HR := Kp.mk hR0; have HP64 := Kp.mk hp64
    clear hR0 hp64
    by_cases hlt : p < P.length
    · have hp2 : p + 64 ≤ P.length := by have := HP64.out; have := HL.out; omega
      obtain ⟨v2, hv2⟩ : ∃ v2, stepS v ((P.drop p).take 64) = v2 := ⟨_, rfl⟩
      have HR2 := Kp.mk (show foldS v2 (P.drop (p + 64)) = u by rw [← hv2, ← fold_block _ _ _ hlt]; exact HR.out)
      have hkr : kb < wr.heap.size := by
        have h1 : w3.heap[kb]? ≠ none := fun hh => by rw [Array.getElem?_eq_none_iff] at hh; omega
        rw [← hG] at h1
        exact Nat.lt_of_not_le fun hh => h1 (Array.getElem?_eq_none hh)
      have HS := Kp.mk (show Calls Tryd.prog 107 #[stV v, .string (ofL P), .int .i64 p, .slice (some ⟨kb, 0, none⟩) 64 kc] wr fun e w' => e = .returned (stV v2) ∧ Ext wr w' from by
        rw [← hv2]; exact rstep_any v P p kb kc wr hp2 hl hkr (fun i hi => (World.cell?_of_block (a := ⟨kb, i, none⟩) hG).trans (HK3.out i hi)))
      clear hv2 HR
      obtain ⟨ya, yb, yc, yd, ye, yf, yg, yh⟩ := v
      obtain ⟨ua, ub, uc, ud, ue, uf, ug, uh⟩ := v2
      have c0 := A0.cell 0
      have c1 := A0.cell 1
      have c2 := A0.cell 2
      have c3 := A0.cell 3
      have c4 := A0.cell 4
      have c5 := A0.cell 5
      have c6 := A0.cell 6
      have c7 := A0.cell 7
      simp only [List.getElem?_cons_zero, List.getElem?_cons_succ] at c0 c1 c2 c3 c4 c5 c6 c7
      go_wp2_with ((with_reducible refine HS.out.mono ?_); rintro e w4 ⟨rfl, hE4⟩; have B0 := A0.ext hE4 A0.lt; have hEn := hE.tr hE4; have G0 := (hE4.block kb hkr).trans hG; clear hE hE4 A0 hG c0 c1 c2 c3 c4 c5 c6 c7; have c0 := B0.cell 0; have c1 := B0.cell 1; have c2 := B0.cell 2; have c3 := B0.cell 3; have c4 := B0.cell 4; have c5 := B0.cell 5; have c6 := B0.cell 6; have c7 := B0.cell 7; simp only [List.getElem?_cons_zero, List.getElem?_cons_succ] at c0 c1 c2 c3 c4 c5 c6 c7; have f0 := B0.frozen 0; have f1 := B0.frozen 1; have f2 := B0.frozen 2; have f3 := B0.frozen 3; have f4 := B0.frozen 4; have f5 := B0.frozen 5; have f6 := B0.frozen 6; have f7 := B0.frozen 7)
      go_roundw
      case rel => exact ⟨p + 64, ⟨ua, ub, uc, ud, ue, uf, ug, uh⟩, by omega, by have := HP64.out; omega, by go_num, HR2.out, ((((((((hEn.st (p := ⟨g5, 0, none⟩) (show w.heap.size ≤ g5 by omega) (W32 ua)).st (p := ⟨g5, 1, none⟩) (show w.heap.size ≤ g5 by omega) (W32 ub)).st (p := ⟨g5, 2, none⟩) (show w.heap.size ≤ g5 by omega) (W32 uc)).st (p := ⟨g5, 3, none⟩) (show w.heap.size ≤ g5 by omega) (W32 ud)).st (p := ⟨g5, 4, none⟩) (show w.heap.size ≤ g5 by omega) (W32 ue)).st (p := ⟨g5, 5, none⟩) (show w.heap.size ≤ g5 by omega) (W32 uf)).st (p := ⟨g5, 6, none⟩) (show w.heap.size ≤ g5 by omega) (W32 ug)).st (p := ⟨g5, 7, none⟩) (show w.heap.size ≤ g5 by omega) (W32 uh)), ((((((((B0.set 0 (W32 ua)).set 1 (W32 ub)).set 2 (W32 uc)).set 3 (W32 ud)).set 4 (W32 ue)).set 5 (W32 uf)).set 6 (W32 ug)).set 7 (W32 uh)), ((heap_setCell_other _ ⟨g5, 7, none⟩ kb (W32 uh) (show kb ≠ g5 by omega)).trans ((heap_setCell_other _ ⟨g5, 6, none⟩ kb (W32 ug) (show kb ≠ g5 by omega)).trans ((heap_setCell_other _ ⟨g5, 5, none⟩ kb (W32 uf) (show kb ≠ g5 by omega)).trans ((heap_setCell_other _ ⟨g5, 4, none⟩ kb (W32 ue) (show kb ≠ g5 by omega)).trans ((heap_setCell_other _ ⟨g5, 3, none⟩ kb (W32 ud) (show kb ≠ g5 by omega)).trans ((heap_setCell_other _ ⟨g5, 2, none⟩ kb (W32 uc) (show kb ≠ g5 by omega)).trans ((heap_setCell_other _ ⟨g5, 1, none⟩ kb (W32 ub) (show kb ≠ g5 by omega)).trans ((heap_setCell_other _ ⟨g5, 0, none⟩ kb (W32 ua) (show kb ≠ g5 by omega)).trans G0))))))))⟩
      case measure => simp [intOf]; omega
    · have hf : v = u := by
        have := HR.out
        rw [List.drop_of_length_le (by omega)] at this
        exact this
      subst hf
      clear HR
      obtain ⟨ya, yb, yc, yd, ye, yf, yg, yh⟩ := v
      have c0 := A0.cell 0
      have c1 := A0.cell 1
      have c2 := A0.cell 2
      have c3 := A0.cell 3
      have c4 := A0.cell 4
      have c5 := A0.cell 5
      have c6 := A0.cell 6
      have c7 := A0.cell 7
      simp only [List.getElem?_cons_zero, List.getElem?_cons_succ] at c0 c1 c2 c3 c4 c5 c6 c7
      go_wp2_with ((with_reducible refine (rtell_any ⟨ya, yb, yc, yd, ye, yf, yg, yh⟩ _).mono ?_); rintro e w4 ⟨rfl, hE4⟩)
      go_ret
      exact ⟨rfl, hE.tr hE4⟩
end Go.Proofs.YtmnpbpfeoackiaaDoor
