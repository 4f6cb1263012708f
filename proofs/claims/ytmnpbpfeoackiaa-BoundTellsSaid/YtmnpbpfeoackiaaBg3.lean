/-
  Packages record, bound: the text of the change that makes the state that holds nothing; the chapter's examples. No condition.
-/
import Derived.Test.YtmnpbpfeoackiaaBg2
namespace Go.Proofs.Ytmnpbpfeoackiaa
open Go.RowKit

set_option maxRecDepth 100000 in
set_option maxHeartbeats 1000000 in
theorem rput_zero (w : World) : Calls Try.prog 38 #[evV] w fun e w' => e = .returned (.tuple #[.string (ofL recL), .int .i64 0]) ∧ Ext w w' := by
  obtain ⟨W, hW, E0, A0⟩ : ∃ W, w.alloc (.cells #[.int .i64 4, .string ⟨#[]⟩, .int .i64 0, .int .i64 0, .string ⟨#[]⟩] 71) = W ∧ Ext w W ∧ Arr W w.heap.size 71 evC := ⟨_, rfl, (Ext.rfl' w).al _, Arr.new w _ evC⟩
  have HW := Kp.mk hW
  have a0 := A0.cell 0; have a1 := A0.cell 1; have a2 := A0.cell 2; have a3 := A0.cell 3; have a4 := A0.cell 4
  simp only [evC, List.getElem?_cons_zero, List.getElem?_cons_succ] at a0 a1 a2 a3 a4
  have cF := form_zero W
  have cT := Kp.mk (show ∀ W : World, Calls Try.prog 39 #[.string ⟨#[]⟩] W fun e w' => e = .returned (.string (ofL [0])) ∧ Ext W w' from fun W => by
    have h := ftext_any ⟨#[]⟩ W (by decide)
    exact h)
  have cN := Kp.mk (show ∀ W : World, Calls Try.prog 37 #[.int .u64 0] W fun e w' => e = .returned (.string (ofL [0])) ∧ Ext W w' from fun W => by
    have h := fnum_any 0 W (by show _ < _; omega)
    exact h)
  have w8 : IntKind.u8.wrap (4 : Int) = 4 := rfl
  have w64 : IntKind.u64.wrap (0 : Int) = 0 := rfl
  clear hW
  unfold evV at cF ⊢
  replace cF := Kp.mk cF
  go_enter Try.func38, Try.ntmps38
  go_upto_region 1 with fail
  rw [HW.out]
  clear HW
  go_wp2_with fail
  refine cF.out.mono ?_
  rintro e w1 ⟨rfl, E1⟩
  have A1 := A0.ext E1 A0.lt
  have F1 := E0.tr E1
  clear A0 E0 E1 a0 a1 a2 a3 a4 cF
  go_upto_region 3 with fail
  refine wp_region_locals (fun i v W => match i with
    | 0 => v = .pointer (some ⟨w.heap.size, 0, none⟩)
    | 1 => v = .int .i64 4
    | 2 => v = .int .u8 4
    | 3 => ∃ b, v = .slice (some ⟨b, 0, none⟩) 1 1 ∧ Arr W b 5 [.int .u8 4]
    | 4 => v = .string (ofL [4])
    | 5 => v = .pointer (some ⟨w.heap.size, 1, none⟩)
    | 6 => v = .string ⟨#[]⟩
    | 7 => v = .string (ofL [0])
    | 8 => v = .pointer (some ⟨w.heap.size, 3, none⟩)
    | 9 => v = .int .i64 0
    | 10 => v = .int .u64 0
    | 11 => v = .string (ofL [0])
    | 12 => v = .pointer (some ⟨w.heap.size, 2, none⟩)
    | 13 => v = .int .i64 0
    | 14 => v = .int .u64 0
    | 15 => v = .string (ofL [0])
    | 16 => v = .pointer (some ⟨w.heap.size, 4, none⟩)
    | 17 => v = .string ⟨#[]⟩
    | 18 => v = .string (ofL [0])
    | 19 => ∃ b, v = .slice (some ⟨b, 0, none⟩) 5 5 ∧ Arr W b 9 [.string (ofL [4]), .string (ofL [0]), .string (ofL [0]), .string (ofL [0]), .string (ofL [0])]
    | 20 => v = .string (ofL recL)
    | 21 => v = .string (ofL recL)
    | 22 => v = .int .i64 0
    | _ => True) (by kernel_rfl) (by kernel_rfl) (by kernel_rfl) ?_ ?_ ?_
  · intro i v W1 W2 e1 e2 h
    match i, h with
    | 0, h => exact h
    | 1, h => exact h
    | 2, h => exact h
    | 3, ⟨b, h1, h2⟩ => exact ⟨b, h1, h2.ext e2 h2.lt⟩
    | 4, h => exact h
    | 5, h => exact h
    | 6, h => exact h
    | 7, h => exact h
    | 8, h => exact h
    | 9, h => exact h
    | 10, h => exact h
    | 11, h => exact h
    | 12, h => exact h
    | 13, h => exact h
    | 14, h => exact h
    | 15, h => exact h
    | 16, h => exact h
    | 17, h => exact h
    | 18, h => exact h
    | 19, ⟨b, h1, h2⟩ => exact ⟨b, h1, h2.ext e2 h2.lt⟩
    | 20, h => exact h
    | 21, h => exact h
    | 22, h => exact h
    | (i + 23), h => exact h
  · refine locals_cons (fun u W hW hd => leaves_val rfl (v := .pointer (some ⟨w.heap.size, 0, none⟩)) (by go_simp) rfl) ?_
    refine locals_cons (fun u W hW hd => ?_) ?_
    · have h0 : u 0 = _ := hd 0 (by kernel_rfl)
      have q := (A1.ext hW A1.lt).cell 0
      simp only [evC, List.getElem?_cons_zero] at q
      exact leaves_val rfl (v := .int .i64 4) (by go_simp) rfl
    refine locals_cons (fun u W hW hd => ?_) ?_
    · have h1 : u 1 = _ := hd 1 (by kernel_rfl)
      exact leaves_val rfl (v := .int .u8 4) (by go_simp) rfl
    refine locals_cons (fun u W hW hd => ?_) ?_
    · have h2 : u 2 = _ := hd 2 (by kernel_rfl)
      exact leaves_new rfl (v := .slice (some ⟨W.heap.size, 0, none⟩) 1 1) (w' := W.alloc (.cells #[.int .u8 4] 5)) (by go_simp) ((Ext.rfl' W).al _) ⟨_, rfl, Arr.new W _ [.int .u8 4]⟩
    refine locals_cons (fun u W hW hd => ?_) ?_
    · have h3 := hd 3 (by kernel_rfl)
      obtain ⟨b, h3, hA⟩ := h3
      have hs := run_str_cells (P := Try.prog) W 92 9 5 Try.underlying92 Try.underlying5 Try.underlying9 ⟨b, 0, none⟩ 1 1 [4] rfl (by intro j y hy; rw [WideShapes.add_plain, hA.cell, Nat.zero_add]; exact hy)
      exact leaves_val rfl (v := .string (ofL [4])) (by go_simp) rfl
    refine locals_cons (fun u W hW hd => leaves_val rfl (v := .pointer (some ⟨w.heap.size, 1, none⟩)) (by go_simp) rfl) ?_
    refine locals_cons (fun u W hW hd => ?_) ?_
    · have h5 : u 5 = _ := hd 5 (by kernel_rfl)
      have q := (A1.ext hW A1.lt).cell 1
      simp only [evC, List.getElem?_cons_zero, List.getElem?_cons_succ] at q
      exact leaves_val rfl (v := .string ⟨#[]⟩) (by go_simp) rfl
    refine locals_cons (fun u W hW hd => ?_) ?_
    · have h6 : u 6 = _ := hd 6 (by kernel_rfl)
      exact leaves_call rfl (f := 39) (args := #[.string ⟨#[]⟩]) (by go_simp) ((cT.out W).mono (by rintro e9 W9 ⟨rfl, h9⟩; exact ⟨_, rfl, h9, rfl⟩))
    refine locals_cons (fun u W hW hd => leaves_val rfl (v := .pointer (some ⟨w.heap.size, 3, none⟩)) (by go_simp) rfl) ?_
    refine locals_cons (fun u W hW hd => ?_) ?_
    · have h8 : u 8 = _ := hd 8 (by kernel_rfl)
      have q := (A1.ext hW A1.lt).cell 3
      simp only [evC, List.getElem?_cons_zero, List.getElem?_cons_succ] at q
      exact leaves_val rfl (v := .int .i64 0) (by go_simp) rfl
    refine locals_cons (fun u W hW hd => ?_) ?_
    · have h9 : u 9 = _ := hd 9 (by kernel_rfl)
      exact leaves_val rfl (v := .int .u64 0) (by go_simp) rfl
    refine locals_cons (fun u W hW hd => ?_) ?_
    · have h10 : u 10 = _ := hd 10 (by kernel_rfl)
      exact leaves_call rfl (f := 37) (args := #[.int .u64 0]) (by go_simp) ((cN.out W).mono (by rintro e9 W9 ⟨rfl, h9⟩; exact ⟨_, rfl, h9, rfl⟩))
    refine locals_cons (fun u W hW hd => leaves_val rfl (v := .pointer (some ⟨w.heap.size, 2, none⟩)) (by go_simp) rfl) ?_
    refine locals_cons (fun u W hW hd => ?_) ?_
    · have h12 : u 12 = _ := hd 12 (by kernel_rfl)
      have q := (A1.ext hW A1.lt).cell 2
      simp only [evC, List.getElem?_cons_zero, List.getElem?_cons_succ] at q
      exact leaves_val rfl (v := .int .i64 0) (by go_simp) rfl
    refine locals_cons (fun u W hW hd => ?_) ?_
    · have h13 : u 13 = _ := hd 13 (by kernel_rfl)
      exact leaves_val rfl (v := .int .u64 0) (by go_simp) rfl
    refine locals_cons (fun u W hW hd => ?_) ?_
    · have h14 : u 14 = _ := hd 14 (by kernel_rfl)
      exact leaves_call rfl (f := 37) (args := #[.int .u64 0]) (by go_simp) ((cN.out W).mono (by rintro e9 W9 ⟨rfl, h9⟩; exact ⟨_, rfl, h9, rfl⟩))
    refine locals_cons (fun u W hW hd => leaves_val rfl (v := .pointer (some ⟨w.heap.size, 4, none⟩)) (by go_simp) rfl) ?_
    refine locals_cons (fun u W hW hd => ?_) ?_
    · have h16 : u 16 = _ := hd 16 (by kernel_rfl)
      have q := (A1.ext hW A1.lt).cell 4
      simp only [evC, List.getElem?_cons_zero, List.getElem?_cons_succ] at q
      exact leaves_val rfl (v := .string ⟨#[]⟩) (by go_simp) rfl
    refine locals_cons (fun u W hW hd => ?_) ?_
    · have h17 : u 17 = _ := hd 17 (by kernel_rfl)
      exact leaves_call rfl (f := 39) (args := #[.string ⟨#[]⟩]) (by go_simp) ((cT.out W).mono (by rintro e9 W9 ⟨rfl, h9⟩; exact ⟨_, rfl, h9, rfl⟩))
    refine locals_cons (fun u W hW hd => ?_) ?_
    · have h4 := hd 4 (by kernel_rfl)
      have h7 : u 7 = _ := hd 7 (by kernel_rfl)
      have h11 : u 11 = _ := hd 11 (by kernel_rfl)
      have h15 : u 15 = _ := hd 15 (by kernel_rfl)
      have h18 : u 18 = _ := hd 18 (by kernel_rfl)
      have h4 : u 4 = .string (ofL [4]) := h4
      exact leaves_new rfl (v := .slice (some ⟨W.heap.size, 0, none⟩) 5 5) (w' := W.alloc (.cells #[.string (ofL [4]), .string (ofL [0]), .string (ofL [0]), .string (ofL [0]), .string (ofL [0])] 9)) (by go_simp) ((Ext.rfl' W).al _) ⟨_, rfl, Arr.new W _ [.string (ofL [4]), .string (ofL [0]), .string (ofL [0]), .string (ofL [0]), .string (ofL [0])]⟩
    refine locals_cons (fun u W hW hd => ?_) ?_
    · have h19 := hd 19 (by kernel_rfl)
      obtain ⟨b, h19, hA⟩ := h19
      exact leaves_call rfl (f := 40) (args := #[.slice (some ⟨b, 0, none⟩) 5 5]) (by go_simp) ((joined_any b 5 [[4], [0], [0], [0], [0]] W (by intro j y hy; rw [hA.cell]; match j, hy with | 0, hy => (cases hy; rfl) | 1, hy => (cases hy; rfl) | 2, hy => (cases hy; rfl) | 3, hy => (cases hy; rfl) | 4, hy => (cases hy; rfl)) hA.lt (by decide) (by decide) (by decide)).mono (fun e9 W9 h9 => ⟨_, h9.1, h9.2, rfl⟩))
    refine locals_cons (fun u W hW hd => ?_) ?_
    · have h20 := hd 20 (by kernel_rfl)
      have h20 : u 20 = .string (ofL recL) := h20
      exact leaves_val rfl (v := u 20) (by go_simp) h20
    exact locals_cons (fun u W hW hd => leaves_val rfl (v := .int .i64 0) (by go_simp) rfl) locals_nil
  · intro u W4 hW hV
    have h21 : u 21 = .string (ofL recL) := hV 21 (by decide)
    have h22 : u 22 = .int .i64 0 := hV 22 (by decide)
    have F4 := F1.tr hW
    clear hV hW A1 F1
    go_simp
    go_wp2
    go_ret2
    exact ⟨rfl, F4⟩
end Go.Proofs.Ytmnpbpfeoackiaa
