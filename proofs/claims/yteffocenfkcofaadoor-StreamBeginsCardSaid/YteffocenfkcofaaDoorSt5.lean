/-
  Chapter 5's examples hold; StreamBack returns true. Condition: the package's table holds the constants.
-/
import Derived.Test.YteffocenfkcofaaDoorSt4
namespace Go.Proofs.YteffocenfkcofaaDoor
open Go.RowKit

set_option maxRecDepth 100000 in
set_option maxHeartbeats 4000000 in
theorem stworks_any (w : World) (hT : Tab w) : Calls Tryd.prog 34 #[] w fun e w' => e = .returned (.bool true) ∧ Ext w w' := by
  obtain ⟨B, hB⟩ : ∃ B, blockL [107] [110] 0 = B := ⟨_, rfl⟩
  have lB : B.length = 32 := by rw [← hB]; exact length_blockL _ _ _
  have ht3 : takeL [107] [110] 3 = B.take 3 := by rw [← hB, ← streamC_takeL [107] [110] 1 3 (by decide)]; rfl
  have cB := Kp.mk (show ∀ W, Tab W → Calls Tryd.prog 35 #[.string ⟨#[107]⟩, .string ⟨#[110]⟩, .int .i64 0] W fun e w' => e = .returned (.string (ofL B)) ∧ Ext W w' from fun W h => by rw [← hB]; exact stblock_any [107] [110] 0 W h (by decide) (by decide) (by decide))
  have cT := Kp.mk (show ∀ W, Tab W → Calls Tryd.prog 37 #[.string ⟨#[107]⟩, .string ⟨#[110]⟩, .int .i64 3] W fun e w' => e = .returned (.string (ofL (B.take 3))) ∧ Ext W w' from fun W h => by rw [← ht3]; exact take_nat [107] [110] 3 W h (by decide) (by decide) (by decide))
  have cP := Kp.mk (show ∀ W v, Tab W → Rd W W.heap.size 1 v 3 ((blockP [110] 0).map Str) → Calls Tryd.prog 47 #[.string ⟨#[107]⟩, v] W fun e w' => e = .returned (.string (ofL B)) ∧ Ext W w' from fun W v h1 h2 => by rw [← hB]; exact parts_any [107] (blockP [110] 0) v W h1 (by decide) h2 (by decide))
  have cM := Kp.mk (show ∀ W, Tab W → Calls Tryd.prog 39 #[.string ⟨#[107]⟩, .string ⟨#[110]⟩, .string ⟨#[]⟩] W fun e w' => e = .returned (.string ⟨#[]⟩) ∧ Ext W w' from fun W h => mix_any [107] [110] [] W h (by decide) (by decide) (by decide))
  have cN := Kp.mk (show ∀ W, Calls Tryd.prog 35 #[.string ⟨#[107]⟩, .string ⟨#[110]⟩, .int .i64 (-1)] W fun e w' => e = .returned (.string ⟨#[]⟩) ∧ Ext W w' from fun W => stblock_neg _ _ (-1) W (by decide))
  have hsz : (ofL B).size = 32 := by rw [size_ofL, lB]
  have hex : (ofL B).extract 0 3 = ofL (B.take 3) := by rw [extract_to, toL_ofL]
  clear hB lB ht3
  go_enter Tryd.func34, Tryd.ntmps34
  go_wp2_with fail
  refine (cB.out _ hT).mono ?_
  rintro e w1 ⟨rfl, E1⟩
  go_upto_region 2 with fail
  refine wp_region_locals (fun i v W => match i with
    | 0 => v = .string (ofL B)
    | 1 => v = .int .i64 32
    | 2 => v = .bool true
    | 3 => v = .bool true
    | 4 => v = .string (ofL (B.take 3))
    | 5 => v = .string (ofL B)
    | 6 => v = .string (ofL (B.take 3))
    | 7 => v = .bool true
    | 8 => v = .bool true
    | 9 => v = .bool true
    | 10 => v = .string (ofL B)
    | 11 => Rd W W.heap.size 1 v 3 ((blockP [110] 0).map Str)
    | 12 => v = .string (ofL B)
    | 13 => v = .bool true
    | 14 => v = .bool true
    | 15 => v = .bool true
    | 16 => v = .string ⟨#[]⟩
    | 17 => v = .bool true
    | 18 => v = .bool true
    | 19 => v = .bool true
    | 20 => v = .string ⟨#[]⟩
    | 21 => v = .bool true
    | 22 => v = .bool true
    | 23 => v = .bool true
    | _ => True) (by kernel_rfl) (by kernel_rfl) (by kernel_rfl) ?_ ?_ ?_
  · intro i v W1 W2 e1 e2 h
    match i, h with
    | 0, h => exact h
    | 1, h => exact h
    | 2, h => exact h
    | 3, h => exact h
    | 4, h => exact h
    | 5, h => exact h
    | 6, h => exact h
    | 7, h => exact h
    | 8, h => exact h
    | 9, h => exact h
    | 10, h => exact h
    | 11, h => exact rd_at h e2
    | 12, h => exact h
    | 13, h => exact h
    | 14, h => exact h
    | 15, h => exact h
    | 16, h => exact h
    | 17, h => exact h
    | 18, h => exact h
    | 19, h => exact h
    | 20, h => exact h
    | 21, h => exact h
    | 22, h => exact h
    | 23, h => exact h
    | (i + 24), h => exact h
  · refine locals_cons (fun u W hW hd => leaves_val rfl (v := .string (ofL B)) (by go_simp) rfl) ?_
    refine locals_cons (fun u W hW hd => ?_) ?_
    · have h0 : u 0 = _ := hd 0 (by kernel_rfl)
      exact leaves_val rfl (v := .int .i64 32) (by go_simp) rfl
    refine locals_cons (fun u W hW hd => ?_) ?_
    · have h1 : u 1 = _ := hd 1 (by kernel_rfl)
      exact leaves_val rfl (v := .bool true) (by go_simp) rfl
    refine locals_cons (fun u W hW hd => ?_) ?_
    · have h2 : u 2 = _ := hd 2 (by kernel_rfl)
      exact leaves_val rfl (v := .bool true) (by go_simp) rfl
    refine locals_cons (fun u W hW hd => ?_) ?_
    · have h3 : u 3 = _ := hd 3 (by kernel_rfl)
      exact leaves_call (by simp [Region.wanted, yielded, go_sem, h3]) (f := 37) (args := #[.string ⟨#[107]⟩, .string ⟨#[110]⟩, .int .i64 3]) (by go_simp) ((cT.out W (hT.ext (E1.tr hW))).mono (by rintro e9 W9 ⟨rfl, h9⟩; exact ⟨_, rfl, h9, rfl⟩))
    refine locals_cons (fun u W hW hd => ?_) ?_
    · have h3 : u 3 = _ := hd 3 (by kernel_rfl)
      exact leaves_val (by simp [Region.wanted, yielded, go_sem, h3]) (v := .string (ofL B)) (by go_simp) rfl
    refine locals_cons (fun u W hW hd => ?_) ?_
    · have h3 : u 3 = _ := hd 3 (by kernel_rfl)
      have h5 : u 5 = _ := hd 5 (by kernel_rfl)
      exact leaves_val (by simp [Region.wanted, yielded, go_sem, h3]) (v := .string (ofL (B.take 3))) (by go_simp) rfl
    refine locals_cons (fun u W hW hd => ?_) ?_
    · have h3 : u 3 = _ := hd 3 (by kernel_rfl)
      have h4 : u 4 = _ := hd 4 (by kernel_rfl)
      have h6 : u 6 = _ := hd 6 (by kernel_rfl)
      exact leaves_val (by simp [Region.wanted, yielded, go_sem, h3]) (v := .bool true) (by go_simp) rfl
    refine locals_cons (fun u W hW hd => ?_) ?_
    · have h3 : u 3 = _ := hd 3 (by kernel_rfl)
      have h7 : u 7 = _ := hd 7 (by kernel_rfl)
      exact leaves_val rfl (v := .bool true) (by go_simp) rfl
    refine locals_cons (fun u W hW hd => ?_) ?_
    · have h8 : u 8 = _ := hd 8 (by kernel_rfl)
      exact leaves_val rfl (v := .bool true) (by go_simp) rfl
    refine locals_cons (fun u W hW hd => ?_) ?_
    · have h9 : u 9 = _ := hd 9 (by kernel_rfl)
      exact leaves_val (by simp [Region.wanted, yielded, go_sem, h9]) (v := .string (ofL B)) (by go_simp) rfl
    refine locals_cons (fun u W hW hd => ?_) ?_
    · have h9 : u 9 = _ := hd 9 (by kernel_rfl)
      exact leaves_new (by simp [Region.wanted, yielded, go_sem, h9]) (v := .slice (some ⟨W.heap.size, 0, none⟩) 3 3) (by go_simp) ((Ext.rfl' W).al _) (rd_lit W 9 #[.string ⟨#[115, 116, 114, 101, 97, 109]⟩, .string ⟨#[110]⟩, .string ⟨#[0, 0, 0, 0, 0, 0, 0, 0]⟩] 3 rfl (by decide))
    refine locals_cons (fun u W hW hd => ?_) ?_
    · have h9 : u 9 = _ := hd 9 (by kernel_rfl)
      have h11 := hd 11 (by kernel_rfl)
      exact leaves_call (by simp [Region.wanted, yielded, go_sem, h9]) (f := 47) (args := #[.string ⟨#[107]⟩, u 11]) (by go_simp) ((cP.out W _ (hT.ext (E1.tr hW)) h11).mono (by rintro e9 W9 ⟨rfl, h9⟩; exact ⟨_, rfl, h9, rfl⟩))
    refine locals_cons (fun u W hW hd => ?_) ?_
    · have h9 : u 9 = _ := hd 9 (by kernel_rfl)
      have h10 : u 10 = _ := hd 10 (by kernel_rfl)
      have h12 : u 12 = _ := hd 12 (by kernel_rfl)
      exact leaves_val (by simp [Region.wanted, yielded, go_sem, h9]) (v := .bool true) (by go_simp) rfl
    refine locals_cons (fun u W hW hd => ?_) ?_
    · have h9 : u 9 = _ := hd 9 (by kernel_rfl)
      have h13 : u 13 = _ := hd 13 (by kernel_rfl)
      exact leaves_val rfl (v := .bool true) (by go_simp) rfl
    refine locals_cons (fun u W hW hd => ?_) ?_
    · have h14 : u 14 = _ := hd 14 (by kernel_rfl)
      exact leaves_val rfl (v := .bool true) (by go_simp) rfl
    refine locals_cons (fun u W hW hd => ?_) ?_
    · have h15 : u 15 = _ := hd 15 (by kernel_rfl)
      exact leaves_call (by simp [Region.wanted, yielded, go_sem, h15]) (f := 39) (args := #[.string ⟨#[107]⟩, .string ⟨#[110]⟩, .string ⟨#[]⟩]) (by go_simp) ((cM.out W (hT.ext (E1.tr hW))).mono (by rintro e9 W9 ⟨rfl, h9⟩; exact ⟨_, rfl, h9, rfl⟩))
    refine locals_cons (fun u W hW hd => ?_) ?_
    · have h15 : u 15 = _ := hd 15 (by kernel_rfl)
      have h16 : u 16 = _ := hd 16 (by kernel_rfl)
      exact leaves_val (by simp [Region.wanted, yielded, go_sem, h15]) (v := .bool true) (by go_simp) rfl
    refine locals_cons (fun u W hW hd => ?_) ?_
    · have h15 : u 15 = _ := hd 15 (by kernel_rfl)
      have h17 : u 17 = _ := hd 17 (by kernel_rfl)
      exact leaves_val rfl (v := .bool true) (by go_simp) rfl
    refine locals_cons (fun u W hW hd => ?_) ?_
    · have h18 : u 18 = _ := hd 18 (by kernel_rfl)
      exact leaves_val rfl (v := .bool true) (by go_simp) rfl
    refine locals_cons (fun u W hW hd => ?_) ?_
    · have h19 : u 19 = _ := hd 19 (by kernel_rfl)
      exact leaves_call (by simp [Region.wanted, yielded, go_sem, h19]) (f := 35) (args := #[.string ⟨#[107]⟩, .string ⟨#[110]⟩, .int IntKind.i64 (-1)]) (by go_simp) ((cN.out W).mono (by rintro e9 W9 ⟨rfl, h9⟩; exact ⟨_, rfl, h9, rfl⟩))
    refine locals_cons (fun u W hW hd => ?_) ?_
    · have h19 : u 19 = _ := hd 19 (by kernel_rfl)
      have h20 : u 20 = _ := hd 20 (by kernel_rfl)
      exact leaves_val (by simp [Region.wanted, yielded, go_sem, h19]) (v := .bool true) (by go_simp) rfl
    refine locals_cons (fun u W hW hd => ?_) ?_
    · have h19 : u 19 = _ := hd 19 (by kernel_rfl)
      have h21 : u 21 = _ := hd 21 (by kernel_rfl)
      exact leaves_val rfl (v := .bool true) (by go_simp) rfl
    refine locals_cons (fun u W hW hd => ?_) locals_nil
    · have h22 : u 22 = _ := hd 22 (by kernel_rfl)
      exact leaves_val rfl (v := .bool true) (by go_simp) rfl
  · intro u W hW hV
    have h23 : u 23 = .bool true := hV 23 (by decide)
    clear hV
    go_wp2
    exact bodyPost_ret (v := .bool true) (by simp [results, Tryd.results34, go_sem, h23]) rfl ⟨rfl, E1.tr hW⟩

set_option maxRecDepth 100000 in
set_option maxHeartbeats 4000000 in
theorem streamBack_walk (k n t : List UInt8) (w : World) (hT : Tab w) : Calls Tryd.prog 9 #[.string (ofL k), .string (ofL n), .string (ofL t)] w fun e w' => e = .returned (.bool true) ∧ Ext w w' := by
  have cW := Kp.mk stworks_any
  have zk : (ofL k).size = k.length := size_ofL _
  have zn : (ofL n).size = n.length := size_ofL _
  have zt : (ofL t).size = t.length := size_ofL _
  by_cases g1 : 100 < k.length
  · go_enter Tryd.func9, Tryd.ntmps9
    go_wp2_with fail
    refine (cW.out _ hT).mono ?_
    rintro e w9 ⟨rfl, E9⟩
    go_wp2
    go_ret
    exact ⟨rfl, E9⟩
  · by_cases g2 : 100 < n.length
    · go_enter Tryd.func9, Tryd.ntmps9
      go_wp2_with fail
      refine (cW.out _ hT).mono ?_
      rintro e w9 ⟨rfl, E9⟩
      go_wp2
      go_ret
      exact ⟨rfl, E9⟩
    · by_cases g3 : 300 < t.length
      · go_enter Tryd.func9, Tryd.ntmps9
        go_wp2_with fail
        refine (cW.out _ hT).mono ?_
        rintro e w9 ⟨rfl, E9⟩
        go_wp2
        go_ret
        exact ⟨rfl, E9⟩
      · obtain ⟨M, hM⟩ : ∃ M, smixL k n t = M := ⟨_, rfl⟩
        have hMM : smixL k n M = t := by rw [← hM]; exact smix_mix k n t
        have lM : M.length = t.length := by rw [← hM]; exact length_smixL k n t
        have c1 := Kp.mk (show ∀ W, Tab W → Calls Tryd.prog 39 #[.string (ofL k), .string (ofL n), .string (ofL t)] W fun e w' => e = .returned (.string (ofL M)) ∧ Ext W w' from fun W h => by rw [← hM]; exact mix_any k n t W h (by omega) (by omega) (by omega))
        have c2 := Kp.mk (show ∀ W, Tab W → Calls Tryd.prog 39 #[.string (ofL k), .string (ofL n), .string (ofL M)] W fun e w' => e = .returned (.string (ofL t)) ∧ Ext W w' from fun W h => by
          have q := mix_any k n M W h (by omega) (by omega) (by omega)
          rw [hMM] at q
          exact q)
        have zM : (ofL M).size = t.length := by rw [size_ofL, lM]
        clear hM hMM lM
        go_enter Tryd.func9, Tryd.ntmps9
        go_wp2_with fail
        refine (c1.out _ hT).mono ?_
        rintro e w1 ⟨rfl, E1⟩
        go_wp2_with fail
        refine (c2.out _ (hT.ext E1)).mono ?_
        rintro e w2 ⟨rfl, E2⟩
        have F2 := E1.tr E2
        go_wp2_with fail
        refine (cW.out _ (hT.ext F2)).mono ?_
        rintro e w3 ⟨rfl, E3⟩
        go_wp2
        go_ret
        exact ⟨rfl, F2.tr E3⟩
end Go.Proofs.YteffocenfkcofaaDoor
