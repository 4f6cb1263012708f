/-
  Package box's reference: Seal, Open. Conditions: texts of at most 100000 bytes.
-/
import Derived.Test.YtjpdhdfophjnpaaDoorBx1
namespace Go.Proofs.YtjpdhdfophjnpaaDoor
open Go.RowKit

set_option maxRecDepth 100000 in
set_option maxHeartbeats 2000000 in
theorem rseal_box (k n t : List UInt8) (w : World) (hk : k.length ≤ 100000) : Calls Tryd.prog 22 #[.string (ofL k), .string (ofL n), .string (ofL t)] w fun e w' => e = .returned (resV (sealR k n t)) ∧ Ext w w' := by
  have zn : (ofL n).size = n.length := size_ofL _
  have zt : (ofL t).size = t.length := size_ofL _
  by_cases g1 : n.length = 16
  · by_cases g2 : 4096 < t.length
    · have d1 : ((n.length : Int) != 16) = false := by simp; omega
      rw [sealR_limit g1 g2]
      clear g1
      go_enter Tryd.func22, Tryd.ntmps22
      go_wp2
      exact bodyPost_ret (v := .tuple #[.string ⟨#[]⟩, .int .i64 3]) (by simp [results, Tryd.results22, go_sem]) rfl ⟨rfl, Ext.rfl' _⟩
    · rw [sealR_ok g1 (by omega)]
      obtain ⟨H, hH⟩ : ∃ H, hideKL k = H := ⟨_, rfl⟩
      obtain ⟨T, hTk⟩ : ∃ T, tagKL k = T := ⟨_, rfl⟩
      have lH : H.length = 32 := by rw [← hH]; exact length_partsL _ _
      have lT : T.length = 32 := by rw [← hTk]; exact length_partsL _ _
      obtain ⟨M, hM⟩ : ∃ M, smixL H n t = M := ⟨_, rfl⟩
      have lM : M.length = t.length := by rw [← hM]; exact length_smixL _ _ _
      obtain ⟨B, hB⟩ : ∃ B, n ++ M = B := ⟨_, rfl⟩
      have lB : B.length ≤ 5000 := by rw [← hB, List.length_append, lM]; omega
      obtain ⟨S, hS⟩ : ∃ S, hmacL T B = S := ⟨_, rfl⟩
      have lS : S.length = 32 := by rw [← hS]; exact length_hmacL _ _
      have hR : boxL k n t = B ++ S := by unfold boxL boxBody; rw [hH, hTk, hM, hB, hS]
      have c1 := Kp.mk (show ∀ W : World, _ from fun W => rparts_lit k [hideS] #[.string ⟨#[104, 105, 100, 101]⟩] rfl 1 rfl W (by omega) (by rw [len_hide]; omega) (by omega))
      rw [show partsL k [hideS] = H from hH] at c1
      have c2 := Kp.mk (show ∀ W, Calls Tryd.prog 50 #[.string (ofL H), .string (ofL n), .string (ofL t)] W fun e w' => e = .returned (.string (ofL M)) ∧ Ext W w' from fun W => by rw [← hM]; exact rmix_any H n t W (by omega) (by omega) (by omega))
      have c3 := Kp.mk (show ∀ W : World, _ from fun W => rparts_lit k [tagS] #[.string ⟨#[116, 97, 103]⟩] rfl 1 rfl W (by omega) (by rw [len_tag]; omega) (by omega))
      rw [show partsL k [tagS] = T from hTk] at c3
      have c4 := Kp.mk (show ∀ W, Calls Tryd.prog 51 #[.string (ofL T), .string (ofL B)] W fun e w' => e = .returned (.string (ofL S)) ∧ Ext W w' from fun W => by rw [← hS]; exact rhmac_any T B W (by omega) (by omega))
      have a1 : ofL n ++ ofL M = ofL B := by rw [ofL_append, hB]
      have a2 : ofL B ++ ofL S = ofL (B ++ S) := ofL_append _ _
      have zM : (ofL M).size = t.length := by rw [size_ofL, lM]
      have zB : (ofL B).size = B.length := size_ofL _
      have zS : (ofL S).size = 32 := by rw [size_ofL, lS]
      have d1 : ((n.length : Int) != 16) = false := by simp; omega
      rw [hR]
      have hn16 : n.length ≤ 16 := by omega
      clear g1 hH hTk hM hB hS hR lH lT lM lS
      go_enter Tryd.func22, Tryd.ntmps22
      go_wp2_with fail
      refine (c1.out _).mono ?_
      rintro e w1 ⟨rfl, E1⟩
      go_wp2_with fail
      refine (c2.out _).mono ?_
      rintro e w2 ⟨rfl, E2⟩
      have F2 := E1.tr E2
      clear E1 E2
      go_wp2_with fail
      refine (c3.out _).mono ?_
      rintro e w3 ⟨rfl, E3⟩
      have F3 := F2.tr E3
      clear F2 E3
      go_wp2_with fail
      refine (c4.out _).mono ?_
      rintro e w4 ⟨rfl, E4⟩
      have F4 := F3.tr E4
      go_wp2
      exact bodyPost_ret (v := .tuple #[.string (ofL (B ++ S)), .int .i64 0]) (by simp [results, Tryd.results22, go_sem]) rfl ⟨rfl, F4⟩
  · have d1 : ((n.length : Int) != 16) = true := by simp; omega
    rw [sealR_arg g1]
    clear g1
    go_enter Tryd.func22, Tryd.ntmps22
    go_wp2
    exact bodyPost_ret (v := .tuple #[.string ⟨#[]⟩, .int .i64 7]) (by simp [results, Tryd.results22, go_sem]) rfl ⟨rfl, Ext.rfl' _⟩

set_option maxRecDepth 100000 in
set_option maxHeartbeats 2000000 in
theorem ropen_box (k s : List UInt8) (w : World) (hk : k.length ≤ 100000) : Calls Tryd.prog 24 #[.string (ofL k), .string (ofL s)] w fun e w' => e = .returned (resV (openR k s)) ∧ Ext w w' := by
  have zs : (ofL s).size = s.length := size_ofL _
  by_cases g1 : s.length < 48
  · rw [openR_end g1]
    go_enter Tryd.func24, Tryd.ntmps24
    go_wp2
    exact bodyPost_ret (v := .tuple #[.string ⟨#[]⟩, .int .i64 1]) (by simp [results, Tryd.results24, go_sem]) rfl ⟨rfl, Ext.rfl' _⟩
  · by_cases g2 : 4144 < s.length
    · rw [openR_limit g2]
      go_enter Tryd.func24, Tryd.ntmps24
      go_wp2
      exact bodyPost_ret (v := .tuple #[.string ⟨#[]⟩, .int .i64 3]) (by simp [results, Tryd.results24, go_sem]) rfl ⟨rfl, Ext.rfl' _⟩
    · obtain ⟨nn, hnn⟩ : ∃ nn, s.length - 32 = nn := ⟨_, rfl⟩
      have hni : (s.length : Int) - 32 = nn := by omega
      have hn1 : 16 ≤ nn := by omega
      have hn2 : nn ≤ s.length := by omega
      have hw1 : IntKind.i64.wrap (nn : Int) = nn := IntWalk.i64_in _ (by omega)
      obtain ⟨H, hH⟩ : ∃ H, hideKL k = H := ⟨_, rfl⟩
      obtain ⟨N, hN⟩ : ∃ N, s.take 16 = N := ⟨_, rfl⟩
      obtain ⟨C, hC⟩ : ∃ C, (s.drop 16).take (nn - 16) = C := ⟨_, rfl⟩
      obtain ⟨T, hTx⟩ : ∃ T, smixL H N C = T := ⟨_, rfl⟩
      have lH : H.length = 32 := by rw [← hH]; exact length_partsL _ _
      have lN : N.length = 16 := by rw [← hN, List.length_take]; omega
      have lC : C.length = nn - 16 := by rw [← hC, List.length_take, List.length_drop]; omega
      have lT : T.length = nn - 16 := by rw [← hTx, length_smixL, lC]
      have hag := Kp.mk (again_eq (k := k) (s := s) (by omega) (by omega))
      rw [hH, hN, hnn, hC, hTx] at hag
      have hop := Kp.mk (openR_mid (k := k) (s := s) (by omega) (by omega))
      have hC2 : (s.take nn).drop 16 = C := by rw [← hC, List.drop_take]
      rw [hnn, hH, hN, hC2, hTx] at hop
      have x1 : (ofL s).extract 0 16 = ofL N := by rw [extract_to, toL_ofL, hN]
      have x2 : (ofL s).extract 16 nn = ofL C := by rw [ofL_extract, hC]
      have c1 := Kp.mk (show ∀ W v, Rd W W.heap.size 1 v 1 ([hideS].map Str) → Calls Tryd.prog 45 #[.string (ofL k), v] W fun e w' => e = .returned (.string (ofL H)) ∧ Ext W w' from fun W v h => by rw [← hH]; exact rparts_any k [hideS] v W (by omega) h (by rw [len_hide]; omega))
      have c2 := Kp.mk (show ∀ W, Calls Tryd.prog 50 #[.string (ofL H), .string (ofL N), .string (ofL C)] W fun e w' => e = .returned (.string (ofL T)) ∧ Ext W w' from fun W => by rw [← hTx]; exact rmix_any H N C W (by omega) (by omega) (by omega))
      have c3 := Kp.mk (show ∀ W, Calls Tryd.prog 22 #[.string (ofL k), .string (ofL N), .string (ofL T)] W fun e w' => e = .returned (.tuple #[.string (ofL (boxL k N T)), .int .i64 0]) ∧ Ext W w' from fun W => by
        have h := rseal_box k N T W hk
        rw [sealR_ok lN (by omega)] at h
        exact h)
      obtain ⟨Bx, hBx⟩ : ∃ Bx, boxL k N T = Bx := ⟨_, rfl⟩
      rw [hBx] at c3 hag
      obtain ⟨R, hR⟩ : ∃ R, openR k s = R := ⟨_, rfl⟩
      rw [hR] at hop ⊢
      clear hnn hH hN hC hTx hC2 lH lN lC lT hBx hR
      go_enter Tryd.func24, Tryd.ntmps24
      go_upto_region 6 with fail
      refine wp_region_locals (fun i v W => match i with
        | 0 => v = .string (ofL k)
        | 1 => Rd W W.heap.size 1 v 1 ([hideS].map Str)
        | 2 => v = .string (ofL H)
        | 3 => v = .string (ofL s)
        | 4 => v = .string (ofL N)
        | 5 => v = .string (ofL s)
        | 6 => v = .int .i64 nn
        | 7 => v = .string (ofL C)
        | 8 => v = .string (ofL T)
        | 9 => v = .string (ofL T)
        | _ => True) (by kernel_rfl) (by kernel_rfl) (by kernel_rfl) ?_ ?_ ?_
      · intro i v W1 W2 e1 e2 h
        match i, h with
        | 0, h => exact h
        | 1, h => exact rd_at h e2
        | 2, h => exact h
        | 3, h => exact h
        | 4, h => exact h
        | 5, h => exact h
        | 6, h => exact h
        | 7, h => exact h
        | 8, h => exact h
        | 9, h => exact h
        | (i + 10), h => exact h
      · refine locals_cons (fun u W hW hd => leaves_val rfl (v := .string (ofL k)) (by go_simp) rfl) ?_
        refine locals_cons (fun u W hW hd => ?_) ?_
        · exact leaves_new rfl (v := .slice (some ⟨W.heap.size, 0, none⟩) 1 1) (by go_simp) ((Ext.rfl' W).al _) (rd_lit W 9 #[.string ⟨#[104, 105, 100, 101]⟩] 1 rfl (by decide))
        refine locals_cons (fun u W hW hd => ?_) ?_
        · have h0 : u 0 = _ := hd 0 (by kernel_rfl)
          have h1 := hd 1 (by kernel_rfl)
          exact leaves_call rfl (f := 45) (args := #[.string (ofL k), u 1]) (by go_simp) ((c1.out W _ h1).mono (by rintro e9 W9 ⟨rfl, h9⟩; exact ⟨_, rfl, h9, rfl⟩))
        refine locals_cons (fun u W hW hd => leaves_val rfl (v := .string (ofL s)) (by go_simp) rfl) ?_
        refine locals_cons (fun u W hW hd => ?_) ?_
        · have h3 : u 3 = _ := hd 3 (by kernel_rfl)
          exact leaves_val rfl (v := .string (ofL N)) (by go_simp; omega) rfl
        refine locals_cons (fun u W hW hd => leaves_val rfl (v := .string (ofL s)) (by go_simp) rfl) ?_
        refine locals_cons (fun u W hW hd => leaves_val rfl (v := .int .i64 nn) (by go_simp) rfl) ?_
        refine locals_cons (fun u W hW hd => ?_) ?_
        · have h5 : u 5 = _ := hd 5 (by kernel_rfl)
          have h6 : u 6 = _ := hd 6 (by kernel_rfl)
          exact leaves_val rfl (v := .string (ofL C)) (by go_simp; omega) rfl
        refine locals_cons (fun u W hW hd => ?_) ?_
        · have h2 : u 2 = _ := hd 2 (by kernel_rfl)
          have h4 : u 4 = _ := hd 4 (by kernel_rfl)
          have h7 : u 7 = _ := hd 7 (by kernel_rfl)
          exact leaves_call rfl (f := 50) (args := #[.string (ofL H), .string (ofL N), .string (ofL C)]) (by go_simp) ((c2.out W).mono (by rintro e9 W9 ⟨rfl, h9⟩; exact ⟨_, rfl, h9, rfl⟩))
        refine locals_cons (fun u W hW hd => ?_) locals_nil
        · have h8 : u 8 = _ := hd 8 (by kernel_rfl)
          exact leaves_val rfl (v := .string (ofL T)) (by go_simp) rfl
      · intro u W hW hV
        have h9 : u 9 = .string (ofL T) := hV 9 (by decide)
        clear hV
        go_simp
        go_wp2_with fail
        refine (c3.out _).mono ?_
        rintro e w2 ⟨rfl, E2⟩
        have F2 := hW.tr E2
        by_cases he : Bx = s
        · have t1 : (Bx == s) = true := by simp [he]
          have hres := Kp.mk (show R = (T, 0) by rw [hop.out, if_pos (hag.out.1 he)])
          clear he
          go_wp2
          exact bodyPost_ret (v := .tuple #[.string (ofL T), .int .i64 0]) (by simp [results, Tryd.results24, go_sem, h9]) rfl ⟨by rw [hres.out]; rfl, F2⟩
        · have t1 : (Bx == s) = false := by simp [he]
          have hres := Kp.mk (show R = ([], 8) by rw [hop.out, if_neg (fun h => he (hag.out.2 h))])
          clear he
          go_wp2
          exact bodyPost_ret (v := .tuple #[.string ⟨#[]⟩, .int .i64 8]) (by simp [results, Tryd.results24, go_sem]) rfl ⟨by rw [hres.out]; rfl, F2⟩
end Go.Proofs.YtjpdhdfophjnpaaDoor
