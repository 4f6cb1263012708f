/-
  Chapter 34's laws: ChainMakes and ChainTags return true. Condition: the package's table holds the constants.
-/
import Derived.Test.YteffocenfkcofaaDoorCh8
namespace Go.Proofs.YteffocenfkcofaaDoor
open Go.RowKit

theorem rd_parts {w w' : World} {e : TypeId} {n : Nat} {xs : List Value} {en : Ending} (h : RetOwn w e 1 n xs en w') : ∃ v, en = .returned v ∧ Ext w w' ∧ Rd w' w'.heap.size 1 v n xs := by
  obtain ⟨v, h1, h2, h3⟩ := h
  exact ⟨v, h1, h3, Rd.own h2 (by decide)⟩

set_option maxRecDepth 100000 in
set_option maxHeartbeats 4000000 in
theorem chainMakes_walk (k id : List UInt8) (x : LinkL) (w : World) (hT : Tab w) :
    Calls Tryd.prog 7 #[.string (ofL k), .string (ofL id), linkV x] w fun e w' => e = .returned (.bool true) ∧ Ext w w' := by
  obtain ⟨a, b⟩ := x
  have cW := Kp.mk chworks_any
  have E0 : Ext w (w.alloc (.cells #[.string (ofL a), .string (ofL b)] 41)) := (Ext.rfl' w).al _
  have zk : (ofL k).size = k.length := size_ofL _
  have zi : (ofL id).size = id.length := size_ofL _
  have za : (ofL a).size = a.length := size_ofL _
  have zb : (ofL b).size = b.length := size_ofL _
  unfold linkV
  dsimp only
  by_cases g1 : 200 < k.length
  · go_enter Tryd.func7, Tryd.ntmps7
    go_wp2_with fail
    refine (cW.out _ (hT.ext E0)).mono ?_
    rintro e w1 ⟨rfl, E1⟩
    go_wp2
    go_ret
    exact ⟨rfl, E0.tr E1⟩
  · by_cases g2 : 500 < id.length
    · go_enter Tryd.func7, Tryd.ntmps7
      go_wp2_with fail
      refine (cW.out _ (hT.ext E0)).mono ?_
      rintro e w1 ⟨rfl, E1⟩
      go_wp2
      go_ret
      exact ⟨rfl, E0.tr E1⟩
    · by_cases g3 : 500 < a.length
      · go_enter Tryd.func7, Tryd.ntmps7
        go_wp2_with fail
        refine (cW.out _ (hT.ext E0)).mono ?_
        rintro e w1 ⟨rfl, E1⟩
        go_wp2
        go_ret
        exact ⟨rfl, E0.tr E1⟩
      · by_cases g4 : 500 < b.length
        · go_enter Tryd.func7, Tryd.ntmps7
          go_wp2_with fail
          refine (cW.out _ (hT.ext E0)).mono ?_
          rintro e w1 ⟨rfl, E1⟩
          go_wp2
          go_ret
          exact ⟨rfl, E0.tr E1⟩
        · obtain ⟨X1, h1⟩ : ∃ X, rootL k id = X := ⟨_, rfl⟩
          obtain ⟨X2, h2⟩ : ∃ X, nextL k (a, b) = X := ⟨_, rfl⟩
          obtain ⟨X3, h3⟩ : ∃ X, bindL k id = X := ⟨_, rfl⟩
          obtain ⟨X4, h4⟩ : ∃ X, sealL k = X := ⟨_, rfl⟩
          obtain ⟨P, hP⟩ : ∃ P, nextParts (a, b) = P := ⟨_, rfl⟩
          have hPl : (frameL P).length ≤ 400000 := by have := len_next (a, b); rw [← hP]; simp only at this; omega
          have c1 := Kp.mk (show ∀ W, Tab W → Calls Tryd.prog 26 #[.string (ofL k), .string (ofL id)] W fun e w' => e = .returned (.string (ofL X1)) ∧ Ext W w' from fun W h => by rw [← h1]; exact root_any k id W h (by omega) (by omega))
          have c2 := Kp.mk (show ∀ W, Tab W → Calls Tryd.prog 25 #[.string (ofL k), .agg #[.string (ofL a), .string (ofL b)]] W fun e w' => e = .returned (.string (ofL X2)) ∧ Ext W w' from fun W h => by rw [← h2]; exact next_any k (a, b) W h (by omega) (by simp only; omega))
          have c3 := Kp.mk (show ∀ W, Tab W → Calls Tryd.prog 30 #[.string (ofL k), .string (ofL id)] W fun e w' => e = .returned (.string (ofL X3)) ∧ Ext W w' from fun W h => by rw [← h3]; exact bind_any k id W h (by omega) (by omega))
          have c4 := Kp.mk (show ∀ W, Tab W → Calls Tryd.prog 32 #[.string (ofL k)] W fun e w' => e = .returned (.string (ofL X4)) ∧ Ext W w' from fun W h => by rw [← h4]; exact seal_any k W h (by omega))
          have d1 := Kp.mk (fun W => (rrootParts_any id W).mono fun _ _ h => rd_parts h)
          have d2 := Kp.mk (show ∀ W, Calls Tryd.prog 29 #[.agg #[.string (ofL a), .string (ofL b)]] W fun e w' => ∃ v, e = .returned v ∧ Ext W w' ∧ Rd w' w'.heap.size 1 v P.length (P.map Str) from fun W => by rw [← hP]; exact (rnextParts_any (a, b) W).mono fun _ _ h => rd_parts h)
          have d3 := Kp.mk (fun W => (rbindParts_any id W).mono fun _ _ h => rd_parts h)
          have d4 := Kp.mk (fun W => (rsealParts_any W).mono fun _ _ h => rd_parts h)
          have p1 := Kp.mk (show ∀ W v, Rd W W.heap.size 1 v 2 ((rootParts id).map Str) → Calls Tryd.prog 27 #[.string (ofL k), v] W fun e w' => e = .returned (.string (ofL X1)) ∧ Ext W w' from fun W v h => by rw [← h1]; exact rparts_any k (rootParts id) v W (by omega) h (by rw [len_root]; omega))
          have p2 := Kp.mk (show ∀ W v, Rd W W.heap.size 1 v P.length (P.map Str) → Calls Tryd.prog 27 #[.string (ofL k), v] W fun e w' => e = .returned (.string (ofL X2)) ∧ Ext W w' from fun W v h => by
            have h5 := rparts_any k P v W (by omega) h (by omega)
            have h6 : hmacL k (frameL P) = X2 := by rw [← hP]; exact h2
            rw [h6] at h5
            exact h5)
          have p3 := Kp.mk (show ∀ W v, Rd W W.heap.size 1 v 2 ((bindParts id).map Str) → Calls Tryd.prog 27 #[.string (ofL k), v] W fun e w' => e = .returned (.string (ofL X3)) ∧ Ext W w' from fun W v h => by rw [← h3]; exact rparts_any k (bindParts id) v W (by omega) h (by rw [len_bind]; omega))
          have p4 := Kp.mk (show ∀ W v, Rd W W.heap.size 1 v 1 (sealParts.map Str) → Calls Tryd.prog 27 #[.string (ofL k), v] W fun e w' => e = .returned (.string (ofL X4)) ∧ Ext W w' from fun W v h => by rw [← h4]; exact rparts_any k sealParts v W (by omega) h (by rw [len_seal]; omega))
          have A0 := Arr.new w 41 [.string (ofL a), .string (ofL b)]
          obtain ⟨W0, hW0⟩ : ∃ W0, w.alloc (.cells #[.string (ofL a), .string (ofL b)] 41) = W0 := ⟨_, rfl⟩
          have HW0 := Kp.mk hW0
          rw [show w.alloc (.cells [.string (ofL a), .string (ofL b)].toArray 41) = W0 from hW0] at A0
          rw [hW0] at E0
          clear hW0 h1 h2 h3 h4 hP hPl
          go_enter Tryd.func7, Tryd.ntmps7
          go_upto_region 3 with fail
          rw [HW0.out]
          refine wp_region_locals (fun i v W => match i with
            | 0 => v = .string (ofL k)
            | 1 => v = .string (ofL id)
            | 2 => v = .string (ofL X1)
            | 3 => v = .string (ofL k)
            | 4 => v = .string (ofL id)
            | 5 => Rd W W.heap.size 1 v 2 ((rootParts id).map Str)
            | 6 => v = .string (ofL X1)
            | 7 => v = .bool true
            | 8 => v = .bool true
            | 9 => v = .string (ofL k)
            | 10 => v = .agg #[.string (ofL a), .string (ofL b)]
            | 11 => v = .string (ofL X2)
            | 12 => v = .string (ofL k)
            | 13 => v = .agg #[.string (ofL a), .string (ofL b)]
            | 14 => Rd W W.heap.size 1 v P.length (P.map Str)
            | 15 => v = .string (ofL X2)
            | 16 => v = .bool true
            | 17 => v = .bool true
            | 18 => v = .bool true
            | 19 => v = .string (ofL k)
            | 20 => v = .string (ofL id)
            | 21 => v = .string (ofL X3)
            | 22 => v = .string (ofL k)
            | 23 => v = .string (ofL id)
            | 24 => Rd W W.heap.size 1 v 2 ((bindParts id).map Str)
            | 25 => v = .string (ofL X3)
            | 26 => v = .bool true
            | 27 => v = .bool true
            | 28 => v = .bool true
            | 29 => v = .string (ofL k)
            | 30 => v = .string (ofL X4)
            | 31 => v = .string (ofL k)
            | 32 => Rd W W.heap.size 1 v 1 (sealParts.map Str)
            | 33 => v = .string (ofL X4)
            | 34 => v = .bool true
            | 35 => v = .bool true
            | 36 => v = .bool true
            | 37 => v = .bool true
            | 38 => v = .bool true
            | 39 => v = .bool true
            | _ => True) (by kernel_rfl) (by kernel_rfl) (by kernel_rfl) ?_ ?_ ?_
          · intro i v W1 W2 e1 e2 h
            match i, h with
            | 0, h => exact h
            | 1, h => exact h
            | 2, h => exact h
            | 3, h => exact h
            | 4, h => exact h
            | 5, h => exact rd_at h e2
            | 6, h => exact h
            | 7, h => exact h
            | 8, h => exact h
            | 9, h => exact h
            | 10, h => exact h
            | 11, h => exact h
            | 12, h => exact h
            | 13, h => exact h
            | 14, h => exact rd_at h e2
            | 15, h => exact h
            | 16, h => exact h
            | 17, h => exact h
            | 18, h => exact h
            | 19, h => exact h
            | 20, h => exact h
            | 21, h => exact h
            | 22, h => exact h
            | 23, h => exact h
            | 24, h => exact rd_at h e2
            | 25, h => exact h
            | 26, h => exact h
            | 27, h => exact h
            | 28, h => exact h
            | 29, h => exact h
            | 30, h => exact h
            | 31, h => exact h
            | 32, h => exact rd_at h e2
            | 33, h => exact h
            | 34, h => exact h
            | 35, h => exact h
            | 36, h => exact h
            | 37, h => exact h
            | 38, h => exact h
            | 39, h => exact h
            | (i + 40), h => exact h
          · refine locals_cons (fun u W hW hd => leaves_val rfl (v := .string (ofL k)) (by go_simp) rfl) ?_
            refine locals_cons (fun u W hW hd => leaves_val rfl (v := .string (ofL id)) (by go_simp) rfl) ?_
            refine locals_cons (fun u W hW hd => ?_) ?_
            · have h0 : u 0 = _ := hd 0 (by kernel_rfl)
              have h1 : u 1 = _ := hd 1 (by kernel_rfl)
              exact leaves_call rfl (f := 26) (args := #[.string (ofL k), .string (ofL id)]) (by go_simp) ((c1.out W (hT.ext (E0.tr hW))).mono (by rintro e9 W9 ⟨rfl, h9⟩; exact ⟨_, rfl, h9, rfl⟩))
            refine locals_cons (fun u W hW hd => leaves_val rfl (v := .string (ofL k)) (by go_simp) rfl) ?_
            refine locals_cons (fun u W hW hd => leaves_val rfl (v := .string (ofL id)) (by go_simp) rfl) ?_
            refine locals_cons (fun u W hW hd => ?_) ?_
            · have h4 : u 4 = _ := hd 4 (by kernel_rfl)
              exact leaves_call rfl (f := 28) (args := #[.string (ofL id)]) (by go_simp) (d1.out W)
            refine locals_cons (fun u W hW hd => ?_) ?_
            · have h3 : u 3 = _ := hd 3 (by kernel_rfl)
              have h5 := hd 5 (by kernel_rfl)
              exact leaves_call rfl (f := 27) (args := #[.string (ofL k), u 5]) (by go_simp) ((p1.out W _ h5).mono (by rintro e9 W9 ⟨rfl, h9⟩; exact ⟨_, rfl, h9, rfl⟩))
            refine locals_cons (fun u W hW hd => ?_) ?_
            · have h2 : u 2 = _ := hd 2 (by kernel_rfl)
              have h6 : u 6 = _ := hd 6 (by kernel_rfl)
              exact leaves_val rfl (v := .bool true) (by go_simp) rfl
            refine locals_cons (fun u W hW hd => ?_) ?_
            · have h7 : u 7 = _ := hd 7 (by kernel_rfl)
              exact leaves_val rfl (v := .bool true) (by go_simp) rfl
            refine locals_cons (fun u W hW hd => ?_) ?_
            · have h8 : u 8 = _ := hd 8 (by kernel_rfl)
              exact leaves_val (by simp [Region.wanted, yielded, go_sem, h8]) (v := .string (ofL k)) (by go_simp) rfl
            refine locals_cons (fun u W hW hd => ?_) ?_
            · have h8 : u 8 = _ := hd 8 (by kernel_rfl)
              have hA := A0.ext hW A0.lt
              have q0 := hA.cell 0; have q1 := hA.cell 1
              simp only [List.getElem?_cons_zero, List.getElem?_cons_succ] at q0 q1
              exact leaves_val (by simp [Region.wanted, yielded, go_sem, h8]) (v := .agg #[.string (ofL a), .string (ofL b)]) (by go_simp) rfl
            refine locals_cons (fun u W hW hd => ?_) ?_
            · have h8 : u 8 = _ := hd 8 (by kernel_rfl)
              have h9 : u 9 = _ := hd 9 (by kernel_rfl)
              have h10 : u 10 = _ := hd 10 (by kernel_rfl)
              exact leaves_call (by simp [Region.wanted, yielded, go_sem, h8]) (f := 25) (args := #[.string (ofL k), .agg #[.string (ofL a), .string (ofL b)]]) (by go_simp) ((c2.out W (hT.ext (E0.tr hW))).mono (by rintro e9 W9 ⟨rfl, h9⟩; exact ⟨_, rfl, h9, rfl⟩))
            refine locals_cons (fun u W hW hd => ?_) ?_
            · have h8 : u 8 = _ := hd 8 (by kernel_rfl)
              exact leaves_val (by simp [Region.wanted, yielded, go_sem, h8]) (v := .string (ofL k)) (by go_simp) rfl
            refine locals_cons (fun u W hW hd => ?_) ?_
            · have h8 : u 8 = _ := hd 8 (by kernel_rfl)
              have hA := A0.ext hW A0.lt
              have q0 := hA.cell 0; have q1 := hA.cell 1
              simp only [List.getElem?_cons_zero, List.getElem?_cons_succ] at q0 q1
              exact leaves_val (by simp [Region.wanted, yielded, go_sem, h8]) (v := .agg #[.string (ofL a), .string (ofL b)]) (by go_simp) rfl
            refine locals_cons (fun u W hW hd => ?_) ?_
            · have h8 : u 8 = _ := hd 8 (by kernel_rfl)
              have h13 : u 13 = _ := hd 13 (by kernel_rfl)
              exact leaves_call (by simp [Region.wanted, yielded, go_sem, h8]) (f := 29) (args := #[.agg #[.string (ofL a), .string (ofL b)]]) (by go_simp) (d2.out W)
            refine locals_cons (fun u W hW hd => ?_) ?_
            · have h8 : u 8 = _ := hd 8 (by kernel_rfl)
              have h12 : u 12 = _ := hd 12 (by kernel_rfl)
              have h14 := hd 14 (by kernel_rfl)
              exact leaves_call (by simp [Region.wanted, yielded, go_sem, h8]) (f := 27) (args := #[.string (ofL k), u 14]) (by go_simp) ((p2.out W _ h14).mono (by rintro e9 W9 ⟨rfl, h9⟩; exact ⟨_, rfl, h9, rfl⟩))
            refine locals_cons (fun u W hW hd => ?_) ?_
            · have h8 : u 8 = _ := hd 8 (by kernel_rfl)
              have h11 : u 11 = _ := hd 11 (by kernel_rfl)
              have h15 : u 15 = _ := hd 15 (by kernel_rfl)
              exact leaves_val (by simp [Region.wanted, yielded, go_sem, h8]) (v := .bool true) (by go_simp) rfl
            refine locals_cons (fun u W hW hd => ?_) ?_
            · have h8 : u 8 = _ := hd 8 (by kernel_rfl)
              have h16 : u 16 = _ := hd 16 (by kernel_rfl)
              exact leaves_val rfl (v := .bool true) (by go_simp) rfl
            refine locals_cons (fun u W hW hd => ?_) ?_
            · have h17 : u 17 = _ := hd 17 (by kernel_rfl)
              exact leaves_val rfl (v := .bool true) (by go_simp) rfl
            refine locals_cons (fun u W hW hd => ?_) ?_
            · have h18 : u 18 = _ := hd 18 (by kernel_rfl)
              exact leaves_val (by simp [Region.wanted, yielded, go_sem, h18]) (v := .string (ofL k)) (by go_simp) rfl
            refine locals_cons (fun u W hW hd => ?_) ?_
            · have h18 : u 18 = _ := hd 18 (by kernel_rfl)
              exact leaves_val (by simp [Region.wanted, yielded, go_sem, h18]) (v := .string (ofL id)) (by go_simp) rfl
            refine locals_cons (fun u W hW hd => ?_) ?_
            · have h18 : u 18 = _ := hd 18 (by kernel_rfl)
              have h19 : u 19 = _ := hd 19 (by kernel_rfl)
              have h20 : u 20 = _ := hd 20 (by kernel_rfl)
              exact leaves_call (by simp [Region.wanted, yielded, go_sem, h18]) (f := 30) (args := #[.string (ofL k), .string (ofL id)]) (by go_simp) ((c3.out W (hT.ext (E0.tr hW))).mono (by rintro e9 W9 ⟨rfl, h9⟩; exact ⟨_, rfl, h9, rfl⟩))
            refine locals_cons (fun u W hW hd => ?_) ?_
            · have h18 : u 18 = _ := hd 18 (by kernel_rfl)
              exact leaves_val (by simp [Region.wanted, yielded, go_sem, h18]) (v := .string (ofL k)) (by go_simp) rfl
            refine locals_cons (fun u W hW hd => ?_) ?_
            · have h18 : u 18 = _ := hd 18 (by kernel_rfl)
              exact leaves_val (by simp [Region.wanted, yielded, go_sem, h18]) (v := .string (ofL id)) (by go_simp) rfl
            refine locals_cons (fun u W hW hd => ?_) ?_
            · have h18 : u 18 = _ := hd 18 (by kernel_rfl)
              have h23 : u 23 = _ := hd 23 (by kernel_rfl)
              exact leaves_call (by simp [Region.wanted, yielded, go_sem, h18]) (f := 31) (args := #[.string (ofL id)]) (by go_simp) (d3.out W)
            refine locals_cons (fun u W hW hd => ?_) ?_
            · have h18 : u 18 = _ := hd 18 (by kernel_rfl)
              have h22 : u 22 = _ := hd 22 (by kernel_rfl)
              have h24 := hd 24 (by kernel_rfl)
              exact leaves_call (by simp [Region.wanted, yielded, go_sem, h18]) (f := 27) (args := #[.string (ofL k), u 24]) (by go_simp) ((p3.out W _ h24).mono (by rintro e9 W9 ⟨rfl, h9⟩; exact ⟨_, rfl, h9, rfl⟩))
            refine locals_cons (fun u W hW hd => ?_) ?_
            · have h18 : u 18 = _ := hd 18 (by kernel_rfl)
              have h21 : u 21 = _ := hd 21 (by kernel_rfl)
              have h25 : u 25 = _ := hd 25 (by kernel_rfl)
              exact leaves_val (by simp [Region.wanted, yielded, go_sem, h18]) (v := .bool true) (by go_simp) rfl
            refine locals_cons (fun u W hW hd => ?_) ?_
            · have h18 : u 18 = _ := hd 18 (by kernel_rfl)
              have h26 : u 26 = _ := hd 26 (by kernel_rfl)
              exact leaves_val rfl (v := .bool true) (by go_simp) rfl
            refine locals_cons (fun u W hW hd => ?_) ?_
            · have h27 : u 27 = _ := hd 27 (by kernel_rfl)
              exact leaves_val rfl (v := .bool true) (by go_simp) rfl
            refine locals_cons (fun u W hW hd => ?_) ?_
            · have h28 : u 28 = _ := hd 28 (by kernel_rfl)
              exact leaves_val (by simp [Region.wanted, yielded, go_sem, h28]) (v := .string (ofL k)) (by go_simp) rfl
            refine locals_cons (fun u W hW hd => ?_) ?_
            · have h28 : u 28 = _ := hd 28 (by kernel_rfl)
              have h29 : u 29 = _ := hd 29 (by kernel_rfl)
              exact leaves_call (by simp [Region.wanted, yielded, go_sem, h28]) (f := 32) (args := #[.string (ofL k)]) (by go_simp) ((c4.out W (hT.ext (E0.tr hW))).mono (by rintro e9 W9 ⟨rfl, h9⟩; exact ⟨_, rfl, h9, rfl⟩))
            refine locals_cons (fun u W hW hd => ?_) ?_
            · have h28 : u 28 = _ := hd 28 (by kernel_rfl)
              exact leaves_val (by simp [Region.wanted, yielded, go_sem, h28]) (v := .string (ofL k)) (by go_simp) rfl
            refine locals_cons (fun u W hW hd => ?_) ?_
            · have h28 : u 28 = _ := hd 28 (by kernel_rfl)
              exact leaves_call (by simp [Region.wanted, yielded, go_sem, h28]) (f := 33) (args := #[]) (by go_simp) (d4.out W)
            refine locals_cons (fun u W hW hd => ?_) ?_
            · have h28 : u 28 = _ := hd 28 (by kernel_rfl)
              have h31 : u 31 = _ := hd 31 (by kernel_rfl)
              have h32 := hd 32 (by kernel_rfl)
              exact leaves_call (by simp [Region.wanted, yielded, go_sem, h28]) (f := 27) (args := #[.string (ofL k), u 32]) (by go_simp) ((p4.out W _ h32).mono (by rintro e9 W9 ⟨rfl, h9⟩; exact ⟨_, rfl, h9, rfl⟩))
            refine locals_cons (fun u W hW hd => ?_) ?_
            · have h28 : u 28 = _ := hd 28 (by kernel_rfl)
              have h30 : u 30 = _ := hd 30 (by kernel_rfl)
              have h33 : u 33 = _ := hd 33 (by kernel_rfl)
              exact leaves_val (by simp [Region.wanted, yielded, go_sem, h28]) (v := .bool true) (by go_simp) rfl
            refine locals_cons (fun u W hW hd => ?_) ?_
            · have h28 : u 28 = _ := hd 28 (by kernel_rfl)
              have h34 : u 34 = _ := hd 34 (by kernel_rfl)
              exact leaves_val rfl (v := .bool true) (by go_simp) rfl
            refine locals_cons (fun u W hW hd => ?_) ?_
            · have h35 : u 35 = _ := hd 35 (by kernel_rfl)
              exact leaves_val rfl (v := .bool true) (by go_simp) rfl
            refine locals_cons (fun u W hW hd => ?_) ?_
            · have h36 : u 36 = _ := hd 36 (by kernel_rfl)
              exact leaves_call (by simp [Region.wanted, yielded, go_sem, h36]) (f := 18) (args := #[]) (by go_simp) ((cW.out W (hT.ext (E0.tr hW))).mono (by rintro e9 W9 ⟨rfl, h9⟩; exact ⟨_, rfl, h9, rfl⟩))
            refine locals_cons (fun u W hW hd => ?_) ?_
            · have h36 : u 36 = _ := hd 36 (by kernel_rfl)
              have h37 : u 37 = _ := hd 37 (by kernel_rfl)
              exact leaves_val rfl (v := .bool true) (by go_simp) rfl
            refine locals_cons (fun u W hW hd => ?_) locals_nil
            · have h38 : u 38 = _ := hd 38 (by kernel_rfl)
              exact leaves_val rfl (v := .bool true) (by go_simp) rfl
          · intro u W hW hV
            have h39 : u 39 = .bool true := hV 39 (by decide)
            clear hV
            go_wp2
            exact bodyPost_ret (v := .bool true) (by simp [results, Tryd.results7, go_sem, h39]) rfl ⟨rfl, E0.tr hW⟩
end Go.Proofs.YteffocenfkcofaaDoor
