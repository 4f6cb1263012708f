/-
  The laws of chapter 3: ShaSteps returns true. Condition: the package's table holds the constants.
-/
import Derived.Test.YteclfeeeaokddaaDoorSha22
import Derived.ChangeKeysEq
import Derived.Laws.StructEq
namespace Go.Proofs.YteclfeeeaokddaaDoor
open Go.RowKit

set_option maxRecDepth 100000 in
theorem st_eql (v : St) (W : World) : (binOp .eql 27 (stV v) (stV v)).run Tryd.prog W = .ok (.bool true) W := by
  obtain ⟨a, b, c, d, e, f, g, h⟩ := v
  obtain ⟨i, hi, hz, hsz, hby⟩ := Tryd.elemU32.hi
  have hc : Tryd.prog.cellsOf 25 = 1 := by kernel_rfl
  have h2 := fun (W : World) (a b : Int) => run_equalIn_int (P := Tryd.prog) W 9998 _ .u32 .u32 a b Tryd.underlying25
  rw [run_eql_struct, run_equalIn_array W 9999 _ _ Tryd.underlying27 hi, hc]
  simp [Op.eqItems, List.range, List.range.loop, part, go_sem, h2]

set_option maxRecDepth 100000 in
set_option maxHeartbeats 4000000 in
theorem shaSteps_go (v : St) (s : List UInt8) (w : World) (hT : Tab w) (hs : s.length ≤ 200) : Calls Tryd.prog 4 #[stV v, .string (ofL s)] w fun e w' => e = .returned (.bool true) ∧ Ext w w' := by
  obtain ⟨u, hu⟩ : ∃ u, stepS v s = u := ⟨_, rfl⟩
  obtain ⟨T, hTl⟩ : ∃ T, tellS v = T := ⟨_, rfl⟩
  obtain ⟨iv, hiv⟩ : ∃ iv, initS = iv := ⟨_, rfl⟩
  have HS := Kp.mk (show ∀ w, Tab w → Calls Tryd.prog 12 #[stV v, .string (ofL s)] w fun e w' => e = .returned (stV u) ∧ Ext w w' from fun w h => by rw [← hu]; exact step_all v s w h)
  have HR := Kp.mk (show ∀ w, Calls Tryd.prog 13 #[stV v, .string (ofL s)] w fun e w' => e = .returned (stV u) ∧ Ext w w' from fun w => by rw [← hu]; exact rStep_all v s w)
  have HT := Kp.mk (show ∀ w, Calls Tryd.prog 14 #[stV v] w fun e w' => e = .returned (.string (ofL T)) ∧ Ext w w' from fun w => by rw [← hTl]; exact tell_any v w)
  have HRT := Kp.mk (show ∀ w, Calls Tryd.prog 15 #[stV v] w fun e w' => e = .returned (.string (ofL T)) ∧ Ext w w' from fun w => by rw [← hTl]; exact rtell_any v w)
  have HF := Kp.mk (show ∀ w, Calls Tryd.prog 16 #[] w fun e w' => e = .returned (stV iv) ∧ Ext w w' from fun w => by rw [← hiv]; exact first_any w)
  have HRF := Kp.mk (show ∀ w, Calls Tryd.prog 17 #[] w fun e w' => e = .returned (stV iv) ∧ Ext w w' from fun w => by rw [← hiv]; exact rfirst_any w)
  have hsz := size_ofL s
  clear hu hTl hiv
  obtain ⟨a, b1, c, d, e, f, g, ih⟩ := v
  obtain ⟨ua, ub, uc, ud, ue, uf, ug, uh⟩ := u
  have A00 : ∀ w : World, Arr (w.alloc (.cells (stCells ⟨a, b1, c, d, e, f, g, ih⟩) 27)) w.heap.size 27 (stL ⟨a, b1, c, d, e, f, g, ih⟩) := fun w => Arr.new w _ _
  have A0 := A00 w
  have hE0 : Ext w (w.alloc (.cells (stCells ⟨a, b1, c, d, e, f, g, ih⟩) 27)) := (Ext.rfl' w).al _
  clear A00
  go_enter Tryd.func4, Tryd.ntmps4
  go_upto_region 3 with fail
  generalize w.alloc (.cells (stCells ⟨a, b1, c, d, e, f, g, ih⟩) 27) = W0 at *
  · skip
    refine wp_region_locals (fun i v W => match i with
      | 0 => v = stV ⟨a, b1, c, d, e, f, g, ih⟩
      | 1 => v = .string (ofL s)
      | 2 => v = stV ⟨ua, ub, uc, ud, ue, uf, ug, uh⟩
      | 3 => v = stV ⟨a, b1, c, d, e, f, g, ih⟩
      | 4 => v = .string (ofL s)
      | 5 => v = stV ⟨ua, ub, uc, ud, ue, uf, ug, uh⟩
      | 6 => v = .bool true
      | 7 => v = .bool true
      | 8 => v = stV ⟨a, b1, c, d, e, f, g, ih⟩
      | 9 => v = .string (ofL T)
      | 10 => v = stV ⟨a, b1, c, d, e, f, g, ih⟩
      | 11 => v = .string (ofL T)
      | 12 => v = .bool true
      | 13 => v = .bool true
      | 14 => v = .bool true
      | 15 => v = stV iv
      | 16 => v = stV iv
      | 17 => v = .bool true
      | 18 => v = .bool true
      | 19 => v = .bool true
      | 20 => v = .bool true
      | 21 => v = .bool true
      | 22 => v = .bool true
      | _ => True) (by kernel_rfl) (by kernel_rfl) (by kernel_rfl) ?_ ?_ ?_
    · intro i v W1 W2 e1 e2 h
      match i, h with
      | 0, h => exact h
      | 1, h => exact h
      | 2, h => exact h
      | 3, h => exact h
      | 4, h => exact h
      | 5, h => exact h
      | 6, h => exact h
      | 7, h => exact h
      | 8, h => exact h
      | 9, h => exact h
      | 10, h => exact h
      | 11, h => exact h
      | 12, h => exact h
      | 13, h => exact h
      | 14, h => exact h
      | 15, h => exact h
      | 16, h => exact h
      | 17, h => exact h
      | 18, h => exact h
      | 19, h => exact h
      | 20, h => exact h
      | 21, h => exact h
      | 22, h => exact h
      | (i + 23), h => exact h
    · refine locals_cons (fun u W hW hd => ?_) ?_
      · have B := A0.ext hW A0.lt
        have c0 := B.cell 0; have c1 := B.cell 1; have c2 := B.cell 2; have c3 := B.cell 3; have c4 := B.cell 4; have c5 := B.cell 5; have c6 := B.cell 6; have c7 := B.cell 7
        simp only [List.getElem?_cons_zero, List.getElem?_cons_succ] at c0 c1 c2 c3 c4 c5 c6 c7
        exact leaves_val rfl (v := stV ⟨a, b1, c, d, e, f, g, ih⟩) (by go_simp) rfl
      refine locals_cons (fun u W hW hd => leaves_val rfl (v := .string (ofL s)) (by go_simp) rfl) ?_
      refine locals_cons (fun u W hW hd => ?_) ?_
      · have h0 : u 0 = _ := hd 0 (by kernel_rfl)
        have h1 : u 1 = _ := hd 1 (by kernel_rfl)
        exact leaves_call rfl (f := 12) (args := #[stV ⟨a, b1, c, d, e, f, g, ih⟩, .string (ofL s)]) (by go_simp) ((HS.out W (hT.ext (hE0.tr hW))).mono (by rintro e9 W9 ⟨rfl, h9⟩; exact ⟨_, rfl, h9, rfl⟩))
      refine locals_cons (fun u W hW hd => ?_) ?_
      · have B := A0.ext hW A0.lt
        have c0 := B.cell 0; have c1 := B.cell 1; have c2 := B.cell 2; have c3 := B.cell 3; have c4 := B.cell 4; have c5 := B.cell 5; have c6 := B.cell 6; have c7 := B.cell 7
        simp only [List.getElem?_cons_zero, List.getElem?_cons_succ] at c0 c1 c2 c3 c4 c5 c6 c7
        exact leaves_val rfl (v := stV ⟨a, b1, c, d, e, f, g, ih⟩) (by go_simp) rfl
      refine locals_cons (fun u W hW hd => leaves_val rfl (v := .string (ofL s)) (by go_simp) rfl) ?_
      refine locals_cons (fun u W hW hd => ?_) ?_
      · have h3 : u 3 = _ := hd 3 (by kernel_rfl)
        have h4 : u 4 = _ := hd 4 (by kernel_rfl)
        exact leaves_call rfl (f := 13) (args := #[stV ⟨a, b1, c, d, e, f, g, ih⟩, .string (ofL s)]) (by go_simp) ((HR.out W).mono (by rintro e9 W9 ⟨rfl, h9⟩; exact ⟨_, rfl, h9, rfl⟩))
      refine locals_cons (fun u W hW hd => ?_) ?_
      · have h2 : u 2 = _ := hd 2 (by kernel_rfl)
        have h5 : u 5 = _ := hd 5 (by kernel_rfl)
        have q := st_eql ⟨ua, ub, uc, ud, ue, uf, ug, uh⟩
        exact leaves_val rfl (v := .bool true) (by go_simp) rfl
      refine locals_cons (fun u W hW hd => ?_) ?_
      · have h6 : u 6 = _ := hd 6 (by kernel_rfl)
        exact leaves_val rfl (v := .bool true) (by go_simp) rfl
      refine locals_cons (fun u W hW hd => ?_) ?_
      · have h7 : u 7 = _ := hd 7 (by kernel_rfl)
        have B := A0.ext hW A0.lt
        have c0 := B.cell 0; have c1 := B.cell 1; have c2 := B.cell 2; have c3 := B.cell 3; have c4 := B.cell 4; have c5 := B.cell 5; have c6 := B.cell 6; have c7 := B.cell 7
        simp only [List.getElem?_cons_zero, List.getElem?_cons_succ] at c0 c1 c2 c3 c4 c5 c6 c7
        exact leaves_val (by simp [Region.wanted, yielded, go_sem, h7]) (v := stV ⟨a, b1, c, d, e, f, g, ih⟩) (by go_simp) rfl
      refine locals_cons (fun u W hW hd => ?_) ?_
      · have h7 : u 7 = _ := hd 7 (by kernel_rfl)
        have h8 : u 8 = _ := hd 8 (by kernel_rfl)
        exact leaves_call (by simp [Region.wanted, yielded, go_sem, h7]) (f := 14) (args := #[stV ⟨a, b1, c, d, e, f, g, ih⟩]) (by go_simp) ((HT.out W).mono (by rintro e9 W9 ⟨rfl, h9⟩; exact ⟨_, rfl, h9, rfl⟩))
      refine locals_cons (fun u W hW hd => ?_) ?_
      · have h7 : u 7 = _ := hd 7 (by kernel_rfl)
        have B := A0.ext hW A0.lt
        have c0 := B.cell 0; have c1 := B.cell 1; have c2 := B.cell 2; have c3 := B.cell 3; have c4 := B.cell 4; have c5 := B.cell 5; have c6 := B.cell 6; have c7 := B.cell 7
        simp only [List.getElem?_cons_zero, List.getElem?_cons_succ] at c0 c1 c2 c3 c4 c5 c6 c7
        exact leaves_val (by simp [Region.wanted, yielded, go_sem, h7]) (v := stV ⟨a, b1, c, d, e, f, g, ih⟩) (by go_simp) rfl
      refine locals_cons (fun u W hW hd => ?_) ?_
      · have h7 : u 7 = _ := hd 7 (by kernel_rfl)
        have h10 : u 10 = _ := hd 10 (by kernel_rfl)
        exact leaves_call (by simp [Region.wanted, yielded, go_sem, h7]) (f := 15) (args := #[stV ⟨a, b1, c, d, e, f, g, ih⟩]) (by go_simp) ((HRT.out W).mono (by rintro e9 W9 ⟨rfl, h9⟩; exact ⟨_, rfl, h9, rfl⟩))
      refine locals_cons (fun u W hW hd => ?_) ?_
      · have h7 : u 7 = _ := hd 7 (by kernel_rfl)
        have h9 : u 9 = _ := hd 9 (by kernel_rfl)
        have h11 : u 11 = _ := hd 11 (by kernel_rfl)
        exact leaves_val (by simp [Region.wanted, yielded, go_sem, h7]) (v := .bool true) (by go_simp) rfl
      refine locals_cons (fun u W hW hd => ?_) ?_
      · have h7 : u 7 = _ := hd 7 (by kernel_rfl)
        have h12 : u 12 = _ := hd 12 (by kernel_rfl)
        exact leaves_val rfl (v := .bool true) (by go_simp) rfl
      refine locals_cons (fun u W hW hd => ?_) ?_
      · have h13 : u 13 = _ := hd 13 (by kernel_rfl)
        exact leaves_val rfl (v := .bool true) (by go_simp) rfl
      refine locals_cons (fun u W hW hd => ?_) ?_
      · have h14 : u 14 = _ := hd 14 (by kernel_rfl)
        exact leaves_call (by simp [Region.wanted, yielded, go_sem, h14]) (f := 16) (args := #[]) (by go_simp) ((HF.out W).mono (by rintro e9 W9 ⟨rfl, h9⟩; exact ⟨_, rfl, h9, rfl⟩))
      refine locals_cons (fun u W hW hd => ?_) ?_
      · have h14 : u 14 = _ := hd 14 (by kernel_rfl)
        exact leaves_call (by simp [Region.wanted, yielded, go_sem, h14]) (f := 17) (args := #[]) (by go_simp) ((HRF.out W).mono (by rintro e9 W9 ⟨rfl, h9⟩; exact ⟨_, rfl, h9, rfl⟩))
      refine locals_cons (fun u W hW hd => ?_) ?_
      · have h14 : u 14 = _ := hd 14 (by kernel_rfl)
        have h15 : u 15 = _ := hd 15 (by kernel_rfl)
        have h16 : u 16 = _ := hd 16 (by kernel_rfl)
        have q := st_eql iv
        exact leaves_val (by simp [Region.wanted, yielded, go_sem, h14]) (v := .bool true) (by go_simp) rfl
      refine locals_cons (fun u W hW hd => ?_) ?_
      · have h14 : u 14 = _ := hd 14 (by kernel_rfl)
        have h17 : u 17 = _ := hd 17 (by kernel_rfl)
        exact leaves_val rfl (v := .bool true) (by go_simp) rfl
      refine locals_cons (fun u W hW hd => ?_) ?_
      · have h18 : u 18 = _ := hd 18 (by kernel_rfl)
        exact leaves_val rfl (v := .bool true) (by go_simp) rfl
      refine locals_cons (fun u W hW hd => ?_) ?_
      · have h19 : u 19 = _ := hd 19 (by kernel_rfl)
        exact leaves_call (by simp [Region.wanted, yielded, go_sem, h19]) (f := 7) (args := #[]) (by go_simp) ((works_any W (hT.ext (hE0.tr hW))).mono (by rintro e9 W9 ⟨rfl, h9⟩; exact ⟨_, rfl, h9, rfl⟩))
      refine locals_cons (fun u W hW hd => ?_) ?_
      · have h19 : u 19 = _ := hd 19 (by kernel_rfl)
        have h20 : u 20 = _ := hd 20 (by kernel_rfl)
        exact leaves_val rfl (v := .bool true) (by go_simp) rfl
      refine locals_cons (fun u W hW hd => ?_) locals_nil
      · have h21 : u 21 = _ := hd 21 (by kernel_rfl)
        exact leaves_val rfl (v := .bool true) (by go_simp) rfl
    · intro x W1 hW1 hV
      have h22 : x 22 = .bool true := hV 22 (by decide)
      clear hV
      go_wp2
      refine bodyPost_ret (v := .bool true) (by simp [results, Tryd.results4, go_sem, h22]) rfl ?_
      exact ⟨rfl, hE0.tr hW1⟩
theorem shaSteps_walk (v : St) (s : ByteArray) (w : World) (hT : Tab w) (_h : True) (_hs0 : s.size ≤ 9223372036854775807) : Calls Tryd.prog 4 #[stV v, .string s] w fun e w' => e = .returned (.bool true) ∧ Ext w w' := by
  by_cases hs : s.size ≤ 200
  · obtain ⟨l, rfl⟩ : ∃ l, s = ofL l := ⟨toL s, (ofL_toL s).symm⟩
    exact shaSteps_go v l w hT (by rw [← size_ofL]; exact hs)
  · obtain ⟨a, b1, c, d, e, f, g, ih⟩ := v
    have T1 := hT.ext ((Ext.rfl' w).al (.cells (stCells ⟨a, b1, c, d, e, f, g, ih⟩) 27))
    go_enter Tryd.func4, Tryd.ntmps4
    go_wp2_with ((with_reducible refine (works_any _ T1).mono ?_); rintro e w5 ⟨rfl, hE5⟩)
    go_ret
    exact ⟨rfl, ((Ext.rfl' w).al _).tr hE5⟩
end Go.Proofs.YteclfeeeaokddaaDoor
