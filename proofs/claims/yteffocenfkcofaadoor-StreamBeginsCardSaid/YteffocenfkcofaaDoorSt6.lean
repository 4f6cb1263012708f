/-
  Chapter 5's laws: StreamBytes and StreamBegins return true. Condition: the package's table holds the constants.
-/
import Derived.Test.YteffocenfkcofaaDoorSt5
namespace Go.Proofs.YteffocenfkcofaaDoor
open Go.RowKit

/-- What a block is, by the program and by the reference. -/
theorem block_both (k n : List UInt8) (z : Int) (hz : z ≤ 9223372036854775807) (hk : k.length ≤ 100000) (hn : n.length ≤ 100000) : ∃ X : List UInt8, (∀ W, Tab W → Calls Tryd.prog 35 #[.string (ofL k), .string (ofL n), .int .i64 z] W fun e w' => e = .returned (.string (ofL X)) ∧ Ext W w') ∧ (∀ W, Calls Tryd.prog 36 #[.string (ofL k), .string (ofL n), .int .i64 z] W fun e w' => e = .returned (.string (ofL X)) ∧ Ext W w') := by
  by_cases h : z < 0
  · exact ⟨[], fun W _ => stblock_neg _ _ z W h, fun W => rstblock_neg _ _ z W h⟩
  · obtain ⟨m, rfl⟩ : ∃ m : Nat, z = m := ⟨z.toNat, by omega⟩
    exact ⟨blockL k n m, fun W hT => stblock_any k n m W hT hk hn (by omega), fun W => rstblock_any k n m W hk hn (by omega)⟩
theorem take_both (k n : List UInt8) (z : Int) (hz : z ≤ 65536) (hk : k.length ≤ 100000) (hn : n.length ≤ 100000) : ∃ X : List UInt8, (∀ W, Tab W → Calls Tryd.prog 37 #[.string (ofL k), .string (ofL n), .int .i64 z] W fun e w' => e = .returned (.string (ofL X)) ∧ Ext W w') ∧ (∀ W, Calls Tryd.prog 38 #[.string (ofL k), .string (ofL n), .int .i64 z] W fun e w' => e = .returned (.string (ofL X)) ∧ Ext W w') := by
  by_cases h : z < 1
  · refine ⟨[], fun W hT => ?_, fun W => rtake_low _ _ z W h⟩
    have q := take_any k n z W hT hk hn
    rw [show (min z 65536).toNat = 0 by omega] at q
    exact q
  · obtain ⟨m, rfl⟩ : ∃ m : Nat, z = m := ⟨z.toNat, by omega⟩
    exact ⟨takeL k n m, fun W hT => take_nat k n m W hT hk hn (by omega), fun W => rtake_any k n m W hk hn (by omega)⟩

set_option maxRecDepth 100000 in
set_option maxHeartbeats 4000000 in
theorem streamBytes_walk (k t : List UInt8) (z : Int) (w : World) (hT : Tab w) (hz : z ≤ 9223372036854775807) : Calls Tryd.prog 8 #[.string (ofL k), .string (ofL t), .int .i64 z] w fun e w' => e = .returned (.bool true) ∧ Ext w w' := by
  have cW := Kp.mk stworks_any
  have zk : (ofL k).size = k.length := size_ofL _
  have zt : (ofL t).size = t.length := size_ofL _
  by_cases g1 : 100 < k.length
  · go_enter Tryd.func8, Tryd.ntmps8
    go_wp2_with fail
    refine (cW.out _ hT).mono ?_
    rintro e w9 ⟨rfl, E9⟩
    go_wp2
    go_ret
    exact ⟨rfl, E9⟩
  · by_cases g2 : 200 < t.length
    · go_enter Tryd.func8, Tryd.ntmps8
      go_wp2_with fail
      refine (cW.out _ hT).mono ?_
      rintro e w9 ⟨rfl, E9⟩
      go_wp2
      go_ret
      exact ⟨rfl, E9⟩
    · obtain ⟨X, hb1, hb2⟩ := block_both k t z hz (by omega) (by omega)
      have b1 := Kp.mk hb1; have b2 := Kp.mk hb2
      have m1 := Kp.mk (show ∀ W, Tab W → Calls Tryd.prog 39 #[.string (ofL k), .string ⟨#[110]⟩, .string (ofL t)] W fun e w' => e = .returned (.string (ofL (smixL k [110] t))) ∧ Ext W w' from fun W h => mix_any k [110] t W h (by omega) (by decide) (by omega))
      have m2 := Kp.mk (show ∀ W, Calls Tryd.prog 40 #[.string (ofL k), .string ⟨#[110]⟩, .string (ofL t)] W fun e w' => e = .returned (.string (ofL (smixL k [110] t))) ∧ Ext W w' from fun W => rmix_any k [110] t W (by omega) (by decide) (by omega))
      obtain ⟨M, hM⟩ : ∃ M, smixL k [110] t = M := ⟨_, rfl⟩
      rw [hM] at m1 m2
      clear hM hb1 hb2
      by_cases g3 : 200 < z
      · have d3 : decide ((200 : Int) < z) = true := by simp; omega
        by_cases g4 : z ≤ 65536
        · have d4 : decide (z ≤ (65536 : Int)) = true := by simp; omega
          go_enter Tryd.func8, Tryd.ntmps8
          go_wp2_with fail
          refine (cW.out _ hT).mono ?_
          rintro e w9 ⟨rfl, E9⟩
          go_wp2
          go_ret
          exact ⟨rfl, E9⟩
        · have d4 : decide (z ≤ (65536 : Int)) = false := by simp; omega
          obtain ⟨S, ht1, ht2⟩ := take_both k t 70 (by omega) (by omega) (by omega)
          have t1 := Kp.mk ht1; have t2 := Kp.mk ht2
          clear ht1 ht2
          go_enter Tryd.func8, Tryd.ntmps8
          go_wp2_with fail
          refine (b1.out _ hT).mono ?_
          rintro e w1 ⟨rfl, E1⟩
          go_wp2_with fail
          refine (b2.out _).mono ?_
          rintro e w2 ⟨rfl, E2⟩
          have F2 := E1.tr E2
          clear E1 E2
          go_wp2_with fail
          refine (t1.out _ (hT.ext F2)).mono ?_
          rintro e w3 ⟨rfl, E3⟩
          have F3 := F2.tr E3
          clear F2 E3
          go_wp2_with fail
          refine (t2.out _).mono ?_
          rintro e w4 ⟨rfl, E4⟩
          have F4 := F3.tr E4
          clear F3 E4
          go_wp2_with fail
          refine (m1.out _ (hT.ext F4)).mono ?_
          rintro e w5 ⟨rfl, E5⟩
          have F5 := F4.tr E5
          clear F4 E5
          go_wp2_with fail
          refine (m2.out _).mono ?_
          rintro e w6 ⟨rfl, E6⟩
          have F6 := F5.tr E6
          clear F5 E6
          go_wp2_with fail
          refine (cW.out _ (hT.ext F6)).mono ?_
          rintro e w7 ⟨rfl, E7⟩
          go_wp2
          go_ret
          exact ⟨rfl, F6.tr E7⟩
      · have d3 : decide ((200 : Int) < z) = false := by simp; omega
        obtain ⟨S, ht1, ht2⟩ := take_both k t z (by omega) (by omega) (by omega)
        have t1 := Kp.mk ht1; have t2 := Kp.mk ht2
        clear ht1 ht2
        go_enter Tryd.func8, Tryd.ntmps8
        go_wp2_with fail
        refine (b1.out _ hT).mono ?_
        rintro e w1 ⟨rfl, E1⟩
        go_wp2_with fail
        refine (b2.out _).mono ?_
        rintro e w2 ⟨rfl, E2⟩
        have F2 := E1.tr E2
        clear E1 E2
        go_wp2_with fail
        refine (t1.out _ (hT.ext F2)).mono ?_
        rintro e w3 ⟨rfl, E3⟩
        have F3 := F2.tr E3
        clear F2 E3
        go_wp2_with fail
        refine (t2.out _).mono ?_
        rintro e w4 ⟨rfl, E4⟩
        have F4 := F3.tr E4
        clear F3 E4
        go_wp2_with fail
        refine (m1.out _ (hT.ext F4)).mono ?_
        rintro e w5 ⟨rfl, E5⟩
        have F5 := F4.tr E5
        clear F4 E5
        go_wp2_with fail
        refine (m2.out _).mono ?_
        rintro e w6 ⟨rfl, E6⟩
        have F6 := F5.tr E6
        clear F5 E6
        go_wp2_with fail
        refine (cW.out _ (hT.ext F6)).mono ?_
        rintro e w7 ⟨rfl, E7⟩
        go_wp2
        go_ret
        exact ⟨rfl, F6.tr E7⟩

set_option maxRecDepth 100000 in
set_option maxHeartbeats 4000000 in
theorem streamBegins_walk (k t : List UInt8) (z : Int) (w : World) (hT : Tab w) : Calls Tryd.prog 10 #[.string (ofL k), .string (ofL t), .int .i64 z] w fun e w' => e = .returned (.bool true) ∧ Ext w w' := by
  have cW := Kp.mk stworks_any
  have zk : (ofL k).size = k.length := size_ofL _
  have zt : (ofL t).size = t.length := size_ofL _
  by_cases g1 : 100 < k.length
  · go_enter Tryd.func10, Tryd.ntmps10
    go_wp2_with fail
    refine (cW.out _ hT).mono ?_
    rintro e w9 ⟨rfl, E9⟩
    go_wp2
    go_ret
    exact ⟨rfl, E9⟩
  · by_cases g2 : 300 < t.length
    · go_enter Tryd.func10, Tryd.ntmps10
      go_wp2_with fail
      refine (cW.out _ hT).mono ?_
      rintro e w9 ⟨rfl, E9⟩
      go_wp2
      go_ret
      exact ⟨rfl, E9⟩
    · by_cases g3 : z < 0
      · go_enter Tryd.func10, Tryd.ntmps10
        go_wp2_with fail
        refine (cW.out _ hT).mono ?_
        rintro e w9 ⟨rfl, E9⟩
        go_wp2
        go_ret
        exact ⟨rfl, E9⟩
      · obtain ⟨m, rfl⟩ : ∃ m : Nat, z = m := ⟨z.toNat, by omega⟩
        by_cases g4 : t.length < m
        · go_enter Tryd.func10, Tryd.ntmps10
          go_wp2_with fail
          refine (cW.out _ hT).mono ?_
          rintro e w9 ⟨rfl, E9⟩
          go_wp2
          go_ret
          exact ⟨rfl, E9⟩
        · obtain ⟨S, hS⟩ : ∃ S, takeL k [110] t.length = S := ⟨_, rfl⟩
          obtain ⟨M, hM⟩ : ∃ M, smixL k [110] t = M := ⟨_, rfl⟩
          have lS : S.length = t.length := by rw [← hS]; exact length_takeL _ _ _
          have lM : M.length = t.length := by rw [← hM]; exact length_smixL _ _ _
          have zS : (ofL S).size = t.length := by rw [size_ofL, lS]
          have zM : (ofL M).size = t.length := by rw [size_ofL, lM]
          have c1 := Kp.mk (show ∀ W, Tab W → Calls Tryd.prog 37 #[.string (ofL k), .string ⟨#[110]⟩, .int .i64 t.length] W fun e w' => e = .returned (.string (ofL S)) ∧ Ext W w' from fun W h => by rw [← hS]; exact take_nat k [110] t.length W h (by omega) (by decide) (by omega))
          have c2 := Kp.mk (show ∀ W, Tab W → Calls Tryd.prog 39 #[.string (ofL k), .string ⟨#[110]⟩, .string (ofL t)] W fun e w' => e = .returned (.string (ofL M)) ∧ Ext W w' from fun W h => by rw [← hM]; exact mix_any k [110] t W h (by omega) (by decide) (by omega))
          have c3 := Kp.mk (show ∀ W, Tab W → Calls Tryd.prog 37 #[.string (ofL k), .string ⟨#[110]⟩, .int .i64 m] W fun e w' => e = .returned (.string (ofL (S.take m))) ∧ Ext W w' from fun W h => by
            rw [← hS, takeL_take k [110] m t.length (by omega)]; exact take_nat k [110] m W h (by omega) (by decide) (by omega))
          have c4 := Kp.mk (show ∀ W, Tab W → Calls Tryd.prog 39 #[.string (ofL k), .string ⟨#[110]⟩, .string (ofL (t.take m))] W fun e w' => e = .returned (.string (ofL (M.take m))) ∧ Ext W w' from fun W h => by
            rw [← hM, ← smix_take k [110] t m (by omega)]; exact mix_any k [110] (t.take m) W h (by omega) (by decide) (by rw [List.length_take]; omega))
          have x1 : (ofL S).extract 0 m = ofL (S.take m) := by rw [extract_to, toL_ofL]
          have x2 : (ofL t).extract 0 m = ofL (t.take m) := by rw [extract_to, toL_ofL]
          have x3 : (ofL M).extract 0 m = ofL (M.take m) := by rw [extract_to, toL_ofL]
          have hmt : ¬ t.length < m := g4
          clear hS hM lS lM
          go_enter Tryd.func10, Tryd.ntmps10
          go_wp2_with fail
          refine (c1.out _ hT).mono ?_
          rintro e w1 ⟨rfl, E1⟩
          go_wp2_with fail
          refine (c2.out _ (hT.ext E1)).mono ?_
          rintro e w2 ⟨rfl, E2⟩
          have F2 := E1.tr E2
          clear E1 E2 c1 c2
          go_upto_region 7 with fail
          refine wp_region_locals (fun i v W => match i with
            | 0 => v = .string (ofL k)
            | 1 => v = .int .i64 m
            | 2 => v = .string (ofL (S.take m))
            | 3 => v = .string (ofL S)
            | 4 => v = .int .i64 m
            | 5 => v = .string (ofL (S.take m))
            | 6 => v = .bool true
            | 7 => v = .bool true
            | 8 => v = .string (ofL k)
            | 9 => v = .string (ofL t)
            | 10 => v = .int .i64 m
            | 11 => v = .string (ofL (t.take m))
            | 12 => v = .string (ofL (M.take m))
            | 13 => v = .string (ofL M)
            | 14 => v = .int .i64 m
            | 15 => v = .string (ofL (M.take m))
            | 16 => v = .bool true
            | 17 => v = .bool true
            | 18 => v = .bool true
            | 19 => v = .bool true
            | 20 => v = .bool true
            | 21 => v = .bool true
            | _ => True) (by kernel_rfl) (by kernel_rfl) (by kernel_rfl) ?_ ?_ ?_
          · intro i v W1 W2 e1 e2 h
            match i, h with
            | 0, h => exact h
            | 1, h => exact h
            | 2, h => exact h
            | 3, h => exact h
            | 4, h => exact h
            | 5, h => exact h
            | 6, h => exact h
            | 7, h => exact h
            | 8, h => exact h
            | 9, h => exact h
            | 10, h => exact h
            | 11, h => exact h
            | 12, h => exact h
            | 13, h => exact h
            | 14, h => exact h
            | 15, h => exact h
            | 16, h => exact h
            | 17, h => exact h
            | 18, h => exact h
            | 19, h => exact h
            | 20, h => exact h
            | 21, h => exact h
            | (i + 22), h => exact h
          · refine locals_cons (fun u W hW hd => leaves_val rfl (v := .string (ofL k)) (by go_simp) rfl) ?_
            refine locals_cons (fun u W hW hd => leaves_val rfl (v := .int .i64 m) (by go_simp) rfl) ?_
            refine locals_cons (fun u W hW hd => ?_) ?_
            · have h0 : u 0 = _ := hd 0 (by kernel_rfl)
              have h1 : u 1 = _ := hd 1 (by kernel_rfl)
              exact leaves_call rfl (f := 37) (args := #[.string (ofL k), .string ⟨#[110]⟩, .int .i64 m]) (by go_simp) ((c3.out W (hT.ext (F2.tr hW))).mono (by rintro e9 W9 ⟨rfl, h9⟩; exact ⟨_, rfl, h9, rfl⟩))
            refine locals_cons (fun u W hW hd => leaves_val rfl (v := .string (ofL S)) (by go_simp) rfl) ?_
            refine locals_cons (fun u W hW hd => leaves_val rfl (v := .int .i64 m) (by go_simp) rfl) ?_
            refine locals_cons (fun u W hW hd => ?_) ?_
            · have h3 : u 3 = _ := hd 3 (by kernel_rfl)
              have h4 : u 4 = _ := hd 4 (by kernel_rfl)
              exact leaves_val rfl (v := .string (ofL (S.take m))) (by go_simp) rfl
            refine locals_cons (fun u W hW hd => ?_) ?_
            · have h2 : u 2 = _ := hd 2 (by kernel_rfl)
              have h5 : u 5 = _ := hd 5 (by kernel_rfl)
              exact leaves_val rfl (v := .bool true) (by go_simp) rfl
            refine locals_cons (fun u W hW hd => ?_) ?_
            · have h6 : u 6 = _ := hd 6 (by kernel_rfl)
              exact leaves_val rfl (v := .bool true) (by go_simp) rfl
            refine locals_cons (fun u W hW hd => ?_) ?_
            · have h7 : u 7 = _ := hd 7 (by kernel_rfl)
              exact leaves_val (by simp [Region.wanted, yielded, go_sem, h7]) (v := .string (ofL k)) (by go_simp) rfl
            refine locals_cons (fun u W hW hd => ?_) ?_
            · have h7 : u 7 = _ := hd 7 (by kernel_rfl)
              exact leaves_val (by simp [Region.wanted, yielded, go_sem, h7]) (v := .string (ofL t)) (by go_simp) rfl
            refine locals_cons (fun u W hW hd => ?_) ?_
            · have h7 : u 7 = _ := hd 7 (by kernel_rfl)
              exact leaves_val (by simp [Region.wanted, yielded, go_sem, h7]) (v := .int .i64 m) (by go_simp) rfl
            refine locals_cons (fun u W hW hd => ?_) ?_
            · have h7 : u 7 = _ := hd 7 (by kernel_rfl)
              have h9 : u 9 = _ := hd 9 (by kernel_rfl)
              have h10 : u 10 = _ := hd 10 (by kernel_rfl)
              exact leaves_val (by simp [Region.wanted, yielded, go_sem, h7]) (v := .string (ofL (t.take m))) (by go_simp) rfl
            refine locals_cons (fun u W hW hd => ?_) ?_
            · have h7 : u 7 = _ := hd 7 (by kernel_rfl)
              have h8 : u 8 = _ := hd 8 (by kernel_rfl)
              have h11 : u 11 = _ := hd 11 (by kernel_rfl)
              exact leaves_call (by simp [Region.wanted, yielded, go_sem, h7]) (f := 39) (args := #[.string (ofL k), .string ⟨#[110]⟩, .string (ofL (t.take m))]) (by go_simp) ((c4.out W (hT.ext (F2.tr hW))).mono (by rintro e9 W9 ⟨rfl, h9⟩; exact ⟨_, rfl, h9, rfl⟩))
            refine locals_cons (fun u W hW hd => ?_) ?_
            · have h7 : u 7 = _ := hd 7 (by kernel_rfl)
              exact leaves_val (by simp [Region.wanted, yielded, go_sem, h7]) (v := .string (ofL M)) (by go_simp) rfl
            refine locals_cons (fun u W hW hd => ?_) ?_
            · have h7 : u 7 = _ := hd 7 (by kernel_rfl)
              exact leaves_val (by simp [Region.wanted, yielded, go_sem, h7]) (v := .int .i64 m) (by go_simp) rfl
            refine locals_cons (fun u W hW hd => ?_) ?_
            · have h7 : u 7 = _ := hd 7 (by kernel_rfl)
              have h13 : u 13 = _ := hd 13 (by kernel_rfl)
              have h14 : u 14 = _ := hd 14 (by kernel_rfl)
              exact leaves_val (by simp [Region.wanted, yielded, go_sem, h7]) (v := .string (ofL (M.take m))) (by go_simp) rfl
            refine locals_cons (fun u W hW hd => ?_) ?_
            · have h7 : u 7 = _ := hd 7 (by kernel_rfl)
              have h12 : u 12 = _ := hd 12 (by kernel_rfl)
              have h15 : u 15 = _ := hd 15 (by kernel_rfl)
              exact leaves_val (by simp [Region.wanted, yielded, go_sem, h7]) (v := .bool true) (by go_simp) rfl
            refine locals_cons (fun u W hW hd => ?_) ?_
            · have h7 : u 7 = _ := hd 7 (by kernel_rfl)
              have h16 : u 16 = _ := hd 16 (by kernel_rfl)
              exact leaves_val rfl (v := .bool true) (by go_simp) rfl
            refine locals_cons (fun u W hW hd => ?_) ?_
            · have h17 : u 17 = _ := hd 17 (by kernel_rfl)
              exact leaves_val rfl (v := .bool true) (by go_simp) rfl
            refine locals_cons (fun u W hW hd => ?_) ?_
            · have h18 : u 18 = _ := hd 18 (by kernel_rfl)
              exact leaves_call (by simp [Region.wanted, yielded, go_sem, h18]) (f := 34) (args := #[]) (by go_simp) ((cW.out W (hT.ext (F2.tr hW))).mono (by rintro e9 W9 ⟨rfl, h9⟩; exact ⟨_, rfl, h9, rfl⟩))
            refine locals_cons (fun u W hW hd => ?_) ?_
            · have h18 : u 18 = _ := hd 18 (by kernel_rfl)
              have h19 : u 19 = _ := hd 19 (by kernel_rfl)
              exact leaves_val rfl (v := .bool true) (by go_simp) rfl
            refine locals_cons (fun u W hW hd => ?_) locals_nil
            · have h20 : u 20 = _ := hd 20 (by kernel_rfl)
              exact leaves_val rfl (v := .bool true) (by go_simp) rfl
          · intro u W hW hV
            have h21 : u 21 = .bool true := hV 21 (by decide)
            clear hV
            go_wp2
            exact bodyPost_ret (v := .bool true) (by simp [results, Tryd.results10, go_sem, h21]) rfl ⟨rfl, F2.tr hW⟩
end Go.Proofs.YteffocenfkcofaaDoor
