/-
  Chapter 35's examples hold. Condition: the package's table holds the constants.
-/
import Derived.Test.YtejhiekikblbiaaDoorMgJ
namespace Go.Proofs.YtejhiekikblbiaaDoor
open Go.RowKit

def b9S : List UInt8 := [98, 101, 102, 111, 114, 101, 32, 57]
set_option maxRecDepth 100000 in
set_option maxHeartbeats 4000000 in
theorem howorks_any (w : World) (hT : Tab w) : Calls Tryd.prog 12 #[] w fun e w' => e = .returned (.bool true) ∧ Ext w w' := by
  obtain ⟨X, hX⟩ : ∃ X, nextL [116] (b9S, []) = X := ⟨_, rfl⟩
  obtain ⟨Y, hY⟩ : ∃ Y, bindL [116] X = Y := ⟨_, rfl⟩
  have lX : X.length = 32 := by rw [← hX]; exact length_partsL _ _
  obtain ⟨W0, hW0⟩ : ∃ W0, w.alloc (.cells #[.string ⟨#[97]⟩, .slice none 0 0, .string ⟨#[116]⟩] 24) = W0 := ⟨_, rfl⟩
  have E0 : Ext w W0 := by rw [← hW0]; exact (Ext.rfl' w).al _
  have B1 : Arr W0 w.heap.size 24 [.string ⟨#[97]⟩, .slice none 0 0, .string ⟨#[116]⟩] := by rw [← hW0]; exact Arr.new w _ [.string ⟨#[97]⟩, .slice none 0 0, .string ⟨#[116]⟩]
  have cA := Kp.mk (show Calls Tryd.prog 24 #[.agg #[.string ⟨#[97]⟩, .slice none 0 0, .string ⟨#[116]⟩], .string ⟨#[98, 101, 102, 111, 114, 101, 32, 57]⟩] W0 fun e w' => ∃ v, e = .returned (.tuple #[.agg #[.string ⟨#[97]⟩, v, .string (ofL X)], .int .i64 0]) ∧ w'.ownsRow W0.heap.size 52 2 v 1 [.string ⟨#[98, 101, 102, 111, 114, 101, 32, 57]⟩, .string ⟨#[]⟩] ∧ Ext W0 w' from by
    have h := hoadd_any [97] [116] b9S none 0 [] W0 (hT.ext E0) ⟨none, 0, rfl, by decide, rfl, fun h => absurd h (by decide)⟩ (by decide) (by decide) (by decide)
    rw [addL_ok (by decide) (by decide)] at h
    refine h.mono fun e w' ⟨v, h1, h2, h3⟩ => ⟨v, by rw [h1, ← hX]; rfl, h2, h3⟩)
  have cN := Kp.mk (show ∀ W, Tab W → Calls Tryd.prog 43 #[.string ⟨#[116]⟩, .agg #[.string ⟨#[98, 101, 102, 111, 114, 101, 32, 57]⟩, .string ⟨#[]⟩]] W fun e w' => e = .returned (.string (ofL X)) ∧ Ext W w' from fun W h => by rw [← hX]; exact next_any [116] (b9S, []) W h (by decide) (by decide))
  have cB := Kp.mk (show ∀ W, Tab W → Calls Tryd.prog 44 #[.string ⟨#[116]⟩, .string (ofL X)] W fun e w' => e = .returned (.string (ofL Y)) ∧ Ext W w' from fun W h => by rw [← hY]; exact bind_any [116] X W h (by decide) (by omega))
  have cH := Kp.mk (show ∀ (A : Option Addr) (c : Nat) (W : World), Tab W → RdLinks W W.heap.size (.slice A 1 c) [(b9S, [])] → Calls Tryd.prog 14 #[.agg #[.string ⟨#[97]⟩, .slice none 0 0, .string ⟨#[116]⟩], .agg #[.string ⟨#[97]⟩, .slice A 1 c, .string (ofL X)]] W fun e w' => ∃ v, e = .returned v ∧ Ext W w' ∧ ∃ A8 c8, v = .agg #[.string ⟨#[97]⟩, .slice A8 1 c8, .string (ofL Y)] from fun A c W h1 h2 => by
    have h := hobind_any [97] [116] [97] X none 0 0 A c [(b9S, [])] W h1 h2 (by decide) (by decide) (by omega)
    rw [hY] at h
    refine h.mono fun e w' ⟨v, h1, h2, h3⟩ => ?_
    obtain ⟨A8, c8, rfl⟩ := own_slice h2
    exact ⟨_, h1, h3, A8, c8, rfl⟩)
  have hle : ∀ W, (binOp .eql 52 (.agg #[.string ⟨#[98, 101, 102, 111, 114, 101, 32, 57]⟩, .string ⟨#[]⟩]) (.agg #[.string ⟨#[98, 101, 102, 111, 114, 101, 32, 57]⟩, .string ⟨#[]⟩])).run Tryd.prog W = .ok (.bool true) W := fun W => link_eql (b9S, []) (b9S, []) W
  have HW := Kp.mk hW0
  have HLE := Kp.mk hle
  clear hX hY hW0 hle lX
  go_enter Tryd.func12, Tryd.ntmps12
  go_wp2_with fail
  rw [HW.out]
  refine cA.out.mono ?_
  rintro e w1 ⟨v, rfl, own, E1⟩
  obtain ⟨g, c9, rfl⟩ := ownsRow_succ own
  have F1 := E0.tr E1
  have A1 := B1.ext E1 B1.lt
  have hown := Kp.mk own
  clear own
  go_upto_region 3 with fail
  obtain ⟨W2, hW2⟩ : ∃ W2 : World, W2 = w1.alloc (.cells #[.string ⟨#[97]⟩, .slice (some ⟨g, 0, none⟩) 1 c9, .string (ofL X)] 24) := ⟨_, rfl⟩
  rw [← hW2]
  have E2 : Ext w1 W2 := by rw [hW2]; exact (Ext.rfl' w1).al _
  have A2 : Arr W2 w1.heap.size 24 [.string ⟨#[97]⟩, .slice (some ⟨g, 0, none⟩) 1 c9, .string (ofL X)] := by rw [hW2]; exact Arr.new w1 _ _
  have hL : RdLinks W2 W2.heap.size (.slice (some ⟨g, 0, none⟩) 1 c9) [(b9S, [])] := rd_at (own_links (l := [(b9S, [])]) hown.out rfl) E2
  have TC := Kp.mk (show ∀ W, Ext W2 W → W.cell? ⟨g, 0, none⟩ = some (.string ⟨#[98, 101, 102, 111, 114, 101, 32, 57]⟩) ∧ W.cell? ⟨g, 1, none⟩ = some (.string ⟨#[]⟩) from fun W hW =>
    ⟨((bcell (E2.tr hW)).1 g 0 (hown.out.lt g rfl).2).trans (hown.out.cellAt 0 (by decide)), ((bcell (E2.tr hW)).1 g 1 (hown.out.lt g rfl).2).trans (hown.out.cellAt 1 (by decide))⟩)
  have B2 := A1.ext E2 A1.lt
  have F2 := F1.tr E2
  clear hW2 E2 E0 E1 F1 A1 B1 HW cA hown
  refine wp_region_locals (fun i v W => match i with
    | 0 => v = .int .i64 0
    | 1 => v = .bool true
    | 2 => v = .bool true
    | 3 => v = .pointer (some ⟨w1.heap.size, 1, none⟩)
    | 4 => v = .slice (some ⟨g, 0, none⟩) 1 c9
    | 5 => v = .int .i64 1
    | 6 => v = .bool true
    | 7 => v = .bool true
    | 8 => v = .bool true
    | 9 => v = .pointer (some ⟨w1.heap.size, 1, none⟩)
    | 10 => v = .slice (some ⟨g, 0, none⟩) 1 c9
    | 11 => v = .pointer (some ⟨g, 0, none⟩)
    | 12 => v = .agg #[.string ⟨#[98, 101, 102, 111, 114, 101, 32, 57]⟩, .string ⟨#[]⟩]
    | 13 => v = .agg #[.string ⟨#[98, 101, 102, 111, 114, 101, 32, 57]⟩, .string ⟨#[]⟩]
    | 14 => v = .bool true
    | 15 => v = .bool true
    | 16 => v = .bool true
    | 17 => v = .pointer (some ⟨w1.heap.size, 2, none⟩)
    | 18 => v = .string (ofL X)
    | 19 => v = .pointer (some ⟨w1.heap.size, 1, none⟩)
    | 20 => v = .slice (some ⟨g, 0, none⟩) 1 c9
    | 21 => v = .pointer (some ⟨g, 0, none⟩)
    | 22 => v = .agg #[.string ⟨#[98, 101, 102, 111, 114, 101, 32, 57]⟩, .string ⟨#[]⟩]
    | 23 => v = .string (ofL X)
    | 24 => v = .bool true
    | 25 => v = .bool true
    | 26 => v = .bool true
    | 27 => v = .agg #[.string ⟨#[97]⟩, .slice none 0 0, .string ⟨#[116]⟩]
    | 28 => v = .agg #[.string ⟨#[97]⟩, .slice (some ⟨g, 0, none⟩) 1 c9, .string (ofL X)]
    | 29 => ∃ A8 c8, v = .agg #[.string ⟨#[97]⟩, .slice A8 1 c8, .string (ofL Y)]
    | 30 => v = .string (ofL Y)
    | 31 => v = .pointer (some ⟨w1.heap.size, 2, none⟩)
    | 32 => v = .string (ofL X)
    | 33 => v = .string (ofL Y)
    | 34 => v = .bool true
    | 35 => v = .bool true
    | 36 => v = .bool true
    | _ => True) (by kernel_rfl) (by kernel_rfl) (by kernel_rfl) ?_ ?_ ?_
  · intro i v W1 W2 e1 e2 h
    match i, h with
    | 0, h => exact h
    | 1, h => exact h
    | 2, h => exact h
    | 3, h => exact h
    | 4, h => exact h
    | 5, h => exact h
    | 6, h => exact h
    | 7, h => exact h
    | 8, h => exact h
    | 9, h => exact h
    | 10, h => exact h
    | 11, h => exact h
    | 12, h => exact h
    | 13, h => exact h
    | 14, h => exact h
    | 15, h => exact h
    | 16, h => exact h
    | 17, h => exact h
    | 18, h => exact h
    | 19, h => exact h
    | 20, h => exact h
    | 21, h => exact h
    | 22, h => exact h
    | 23, h => exact h
    | 24, h => exact h
    | 25, h => exact h
    | 26, h => exact h
    | 27, h => exact h
    | 28, h => exact h
    | 29, h => exact h
    | 30, h => exact h
    | 31, h => exact h
    | 32, h => exact h
    | 33, h => exact h
    | 34, h => exact h
    | 35, h => exact h
    | 36, h => exact h
    | (i + 37), h => exact h
  · refine locals_cons (fun u W hW hd => leaves_val rfl (v := .int .i64 0) (by go_simp) rfl) ?_
    refine locals_cons (fun u W hW hd => ?_) ?_
    · have h0 : u 0 = _ := hd 0 (by kernel_rfl)
      exact leaves_val rfl (v := .bool true) (by go_simp) rfl
    refine locals_cons (fun u W hW hd => ?_) ?_
    · have h1 : u 1 = _ := hd 1 (by kernel_rfl)
      exact leaves_val rfl (v := .bool true) (by go_simp) rfl
    refine locals_cons (fun u W hW hd => ?_) ?_
    · have h2 : u 2 = _ := hd 2 (by kernel_rfl)
      exact leaves_val (by simp [Region.wanted, yielded, go_sem, h2]) (v := .pointer (some ⟨w1.heap.size, 1, none⟩)) (by go_simp) rfl
    refine locals_cons (fun u W hW hd => ?_) ?_
    · have h2 : u 2 = _ := hd 2 (by kernel_rfl)
      have h3 : u 3 = _ := hd 3 (by kernel_rfl)
      have q1 := (A2.ext hW A2.lt).cell 1
      simp only [List.getElem?_cons_zero, List.getElem?_cons_succ] at q1
      exact leaves_val (by simp [Region.wanted, yielded, go_sem, h2]) (v := .slice (some ⟨g, 0, none⟩) 1 c9) (by go_simp) rfl
    refine locals_cons (fun u W hW hd => ?_) ?_
    · have h2 : u 2 = _ := hd 2 (by kernel_rfl)
      have h4 : u 4 = _ := hd 4 (by kernel_rfl)
      exact leaves_val (by simp [Region.wanted, yielded, go_sem, h2]) (v := .int .i64 1) (by go_simp) rfl
    refine locals_cons (fun u W hW hd => ?_) ?_
    · have h2 : u 2 = _ := hd 2 (by kernel_rfl)
      have h5 : u 5 = _ := hd 5 (by kernel_rfl)
      exact leaves_val (by simp [Region.wanted, yielded, go_sem, h2]) (v := .bool true) (by go_simp) rfl
    refine locals_cons (fun u W hW hd => ?_) ?_
    · have h2 : u 2 = _ := hd 2 (by kernel_rfl)
      have h6 : u 6 = _ := hd 6 (by kernel_rfl)
      exact leaves_val rfl (v := .bool true) (by go_simp) rfl
    refine locals_cons (fun u W hW hd => ?_) ?_
    · have h7 : u 7 = _ := hd 7 (by kernel_rfl)
      exact leaves_val rfl (v := .bool true) (by go_simp) rfl
    refine locals_cons (fun u W hW hd => ?_) ?_
    · have h8 : u 8 = _ := hd 8 (by kernel_rfl)
      exact leaves_val (by simp [Region.wanted, yielded, go_sem, h8]) (v := .pointer (some ⟨w1.heap.size, 1, none⟩)) (by go_simp) rfl
    refine locals_cons (fun u W hW hd => ?_) ?_
    · have h8 : u 8 = _ := hd 8 (by kernel_rfl)
      have h9 : u 9 = _ := hd 9 (by kernel_rfl)
      have q1 := (A2.ext hW A2.lt).cell 1
      simp only [List.getElem?_cons_zero, List.getElem?_cons_succ] at q1
      exact leaves_val (by simp [Region.wanted, yielded, go_sem, h8]) (v := .slice (some ⟨g, 0, none⟩) 1 c9) (by go_simp) rfl
    refine locals_cons (fun u W hW hd => ?_) ?_
    · have h8 : u 8 = _ := hd 8 (by kernel_rfl)
      have h10 : u 10 = _ := hd 10 (by kernel_rfl)
      exact leaves_val (by simp [Region.wanted, yielded, go_sem, h8]) (v := .pointer (some ⟨g, 0, none⟩)) (by go_simp) rfl
    refine locals_cons (fun u W hW hd => ?_) ?_
    · have h8 : u 8 = _ := hd 8 (by kernel_rfl)
      have h11 : u 11 = _ := hd 11 (by kernel_rfl)
      obtain ⟨r0, r1⟩ := TC.out W hW
      exact leaves_val (by simp [Region.wanted, yielded, go_sem, h8]) (v := .agg #[.string ⟨#[98, 101, 102, 111, 114, 101, 32, 57]⟩, .string ⟨#[]⟩]) (by go_simp) rfl
    refine locals_cons (fun u W hW hd => ?_) ?_
    · have h8 : u 8 = _ := hd 8 (by kernel_rfl)
      exact leaves_val (by simp [Region.wanted, yielded, go_sem, h8]) (v := .agg #[.string ⟨#[98, 101, 102, 111, 114, 101, 32, 57]⟩, .string ⟨#[]⟩]) (by go_simp) rfl
    refine locals_cons (fun u W hW hd => ?_) ?_
    · have h8 : u 8 = _ := hd 8 (by kernel_rfl)
      have h12 : u 12 = _ := hd 12 (by kernel_rfl)
      have h13 : u 13 = _ := hd 13 (by kernel_rfl)
      have hle := HLE.out
      exact leaves_val (by simp [Region.wanted, yielded, go_sem, h8]) (v := .bool true) (by go_simp) rfl
    refine locals_cons (fun u W hW hd => ?_) ?_
    · have h8 : u 8 = _ := hd 8 (by kernel_rfl)
      have h14 : u 14 = _ := hd 14 (by kernel_rfl)
      exact leaves_val rfl (v := .bool true) (by go_simp) rfl
    refine locals_cons (fun u W hW hd => ?_) ?_
    · have h15 : u 15 = _ := hd 15 (by kernel_rfl)
      exact leaves_val rfl (v := .bool true) (by go_simp) rfl
    refine locals_cons (fun u W hW hd => ?_) ?_
    · have h16 : u 16 = _ := hd 16 (by kernel_rfl)
      exact leaves_val (by simp [Region.wanted, yielded, go_sem, h16]) (v := .pointer (some ⟨w1.heap.size, 2, none⟩)) (by go_simp) rfl
    refine locals_cons (fun u W hW hd => ?_) ?_
    · have h16 : u 16 = _ := hd 16 (by kernel_rfl)
      have h17 : u 17 = _ := hd 17 (by kernel_rfl)
      have q2 := (A2.ext hW A2.lt).cell 2
      simp only [List.getElem?_cons_zero, List.getElem?_cons_succ] at q2
      exact leaves_val (by simp [Region.wanted, yielded, go_sem, h16]) (v := .string (ofL X)) (by go_simp) rfl
    refine locals_cons (fun u W hW hd => ?_) ?_
    · have h16 : u 16 = _ := hd 16 (by kernel_rfl)
      exact leaves_val (by simp [Region.wanted, yielded, go_sem, h16]) (v := .pointer (some ⟨w1.heap.size, 1, none⟩)) (by go_simp) rfl
    refine locals_cons (fun u W hW hd => ?_) ?_
    · have h16 : u 16 = _ := hd 16 (by kernel_rfl)
      have h19 : u 19 = _ := hd 19 (by kernel_rfl)
      have q1 := (A2.ext hW A2.lt).cell 1
      simp only [List.getElem?_cons_zero, List.getElem?_cons_succ] at q1
      exact leaves_val (by simp [Region.wanted, yielded, go_sem, h16]) (v := .slice (some ⟨g, 0, none⟩) 1 c9) (by go_simp) rfl
    refine locals_cons (fun u W hW hd => ?_) ?_
    · have h16 : u 16 = _ := hd 16 (by kernel_rfl)
      have h20 : u 20 = _ := hd 20 (by kernel_rfl)
      exact leaves_val (by simp [Region.wanted, yielded, go_sem, h16]) (v := .pointer (some ⟨g, 0, none⟩)) (by go_simp) rfl
    refine locals_cons (fun u W hW hd => ?_) ?_
    · have h16 : u 16 = _ := hd 16 (by kernel_rfl)
      have h21 : u 21 = _ := hd 21 (by kernel_rfl)
      obtain ⟨r0, r1⟩ := TC.out W hW
      exact leaves_val (by simp [Region.wanted, yielded, go_sem, h16]) (v := .agg #[.string ⟨#[98, 101, 102, 111, 114, 101, 32, 57]⟩, .string ⟨#[]⟩]) (by go_simp) rfl
    refine locals_cons (fun u W hW hd => ?_) ?_
    · have h16 : u 16 = _ := hd 16 (by kernel_rfl)
      have h22 : u 22 = _ := hd 22 (by kernel_rfl)
      exact leaves_call (by simp [Region.wanted, yielded, go_sem, h16]) (f := 43) (args := #[.string ⟨#[116]⟩, .agg #[.string ⟨#[98, 101, 102, 111, 114, 101, 32, 57]⟩, .string ⟨#[]⟩]]) (by go_simp) ((cN.out W (hT.ext (F2.tr hW))).mono (by rintro e9 W9 ⟨rfl, h9⟩; exact ⟨_, rfl, h9, rfl⟩))
    refine locals_cons (fun u W hW hd => ?_) ?_
    · have h16 : u 16 = _ := hd 16 (by kernel_rfl)
      have h18 : u 18 = _ := hd 18 (by kernel_rfl)
      have h23 : u 23 = _ := hd 23 (by kernel_rfl)
      exact leaves_val (by simp [Region.wanted, yielded, go_sem, h16]) (v := .bool true) (by go_simp) rfl
    refine locals_cons (fun u W hW hd => ?_) ?_
    · have h16 : u 16 = _ := hd 16 (by kernel_rfl)
      have h24 : u 24 = _ := hd 24 (by kernel_rfl)
      exact leaves_val rfl (v := .bool true) (by go_simp) rfl
    refine locals_cons (fun u W hW hd => ?_) ?_
    · have h25 : u 25 = _ := hd 25 (by kernel_rfl)
      exact leaves_val rfl (v := .bool true) (by go_simp) rfl
    refine locals_cons (fun u W hW hd => ?_) ?_
    · have h26 : u 26 = _ := hd 26 (by kernel_rfl)
      have q0 := (B2.ext hW B2.lt).cell 0; have q1 := (B2.ext hW B2.lt).cell 1; have q2 := (B2.ext hW B2.lt).cell 2
      simp only [List.getElem?_cons_zero, List.getElem?_cons_succ] at q0 q1 q2
      exact leaves_val (by simp [Region.wanted, yielded, go_sem, h26]) (v := .agg #[.string ⟨#[97]⟩, .slice none 0 0, .string ⟨#[116]⟩]) (by go_simp) rfl
    refine locals_cons (fun u W hW hd => ?_) ?_
    · have h26 : u 26 = _ := hd 26 (by kernel_rfl)
      have q0 := (A2.ext hW A2.lt).cell 0; have q1 := (A2.ext hW A2.lt).cell 1; have q2 := (A2.ext hW A2.lt).cell 2
      simp only [List.getElem?_cons_zero, List.getElem?_cons_succ] at q0 q1 q2
      exact leaves_val (by simp [Region.wanted, yielded, go_sem, h26]) (v := .agg #[.string ⟨#[97]⟩, .slice (some ⟨g, 0, none⟩) 1 c9, .string (ofL X)]) (by go_simp) rfl
    refine locals_cons (fun u W hW hd => ?_) ?_
    · have h26 : u 26 = _ := hd 26 (by kernel_rfl)
      have h27 : u 27 = _ := hd 27 (by kernel_rfl)
      have h28 : u 28 = _ := hd 28 (by kernel_rfl)
      exact leaves_call (by simp [Region.wanted, yielded, go_sem, h26]) (f := 14) (args := #[.agg #[.string ⟨#[97]⟩, .slice none 0 0, .string ⟨#[116]⟩], .agg #[.string ⟨#[97]⟩, .slice (some ⟨g, 0, none⟩) 1 c9, .string (ofL X)]]) (by go_simp) (cH.out _ _ W (hT.ext (F2.tr hW)) (rd_at hL hW))
    refine locals_cons (fun u W hW hd => ?_) ?_
    · have h26 : u 26 = _ := hd 26 (by kernel_rfl)
      have h29 := hd 29 (by kernel_rfl)
      obtain ⟨A8, c8, e29⟩ := h29
      exact leaves_val (by simp [Region.wanted, yielded, go_sem, h26]) (v := .string (ofL Y)) (by go_simp) rfl
    refine locals_cons (fun u W hW hd => ?_) ?_
    · have h26 : u 26 = _ := hd 26 (by kernel_rfl)
      exact leaves_val (by simp [Region.wanted, yielded, go_sem, h26]) (v := .pointer (some ⟨w1.heap.size, 2, none⟩)) (by go_simp) rfl
    refine locals_cons (fun u W hW hd => ?_) ?_
    · have h26 : u 26 = _ := hd 26 (by kernel_rfl)
      have h31 : u 31 = _ := hd 31 (by kernel_rfl)
      have q2 := (A2.ext hW A2.lt).cell 2
      simp only [List.getElem?_cons_zero, List.getElem?_cons_succ] at q2
      exact leaves_val (by simp [Region.wanted, yielded, go_sem, h26]) (v := .string (ofL X)) (by go_simp) rfl
    refine locals_cons (fun u W hW hd => ?_) ?_
    · have h26 : u 26 = _ := hd 26 (by kernel_rfl)
      have h32 : u 32 = _ := hd 32 (by kernel_rfl)
      exact leaves_call (by simp [Region.wanted, yielded, go_sem, h26]) (f := 44) (args := #[.string ⟨#[116]⟩, .string (ofL X)]) (by go_simp) ((cB.out W (hT.ext (F2.tr hW))).mono (by rintro e9 W9 ⟨rfl, h9⟩; exact ⟨_, rfl, h9, rfl⟩))
    refine locals_cons (fun u W hW hd => ?_) ?_
    · have h26 : u 26 = _ := hd 26 (by kernel_rfl)
      have h30 : u 30 = _ := hd 30 (by kernel_rfl)
      have h33 : u 33 = _ := hd 33 (by kernel_rfl)
      exact leaves_val (by simp [Region.wanted, yielded, go_sem, h26]) (v := .bool true) (by go_simp) rfl
    refine locals_cons (fun u W hW hd => ?_) ?_
    · have h26 : u 26 = _ := hd 26 (by kernel_rfl)
      have h34 : u 34 = _ := hd 34 (by kernel_rfl)
      exact leaves_val rfl (v := .bool true) (by go_simp) rfl
    refine locals_cons (fun u W hW hd => ?_) locals_nil
    · have h35 : u 35 = _ := hd 35 (by kernel_rfl)
      exact leaves_val rfl (v := .bool true) (by go_simp) rfl
  · intro u W hW hV
    have h36 : u 36 = .bool true := hV 36 (by decide)
    clear hV
    go_wp2
    exact bodyPost_ret (v := .bool true) (by simp [results, Tryd.results12, go_sem, h36]) rfl ⟨rfl, F2.tr hW⟩
end Go.Proofs.YtejhiekikblbiaaDoor
