/-
  Package box and its reference: Seal. Conditions: the package's table holds the constants; texts of at most 100000 bytes.
-/
import Derived.Test.YtjpdhdfophjnpaaDoorBxPlain
import Derived.Test.YtjpdhdfophjnpaaDoorSt4
import Derived.Test.YtjpdhdfophjnpaaDoorMgE
namespace Go.Proofs.YtjpdhdfophjnpaaDoor
open Go.RowKit

/-- A text and an error's number. -/
def resV (r : ResL) : Value := .tuple #[.string (ofL r.1), .int .i64 r.2]
theorem len_hide : (frameL [hideS]).length = 12 := by simp [frameL, length_be8, hideS]
theorem len_tag : (frameL [tagS]).length = 11 := by simp [frameL, length_be8, tagS]

set_option maxRecDepth 100000 in
set_option maxHeartbeats 2000000 in
theorem seal_box (k n t : List UInt8) (w : World) (hT : Tab w) (hk : k.length ≤ 100000) : Calls Tryd.prog 21 #[.string (ofL k), .string (ofL n), .string (ofL t)] w fun e w' => e = .returned (resV (sealR k n t)) ∧ Ext w w' := by
  have zn : (ofL n).size = n.length := size_ofL _
  have zt : (ofL t).size = t.length := size_ofL _
  by_cases g1 : n.length = 16
  · by_cases g2 : 4096 < t.length
    · have d1 : ((n.length : Int) != 16) = false := by simp; omega
      rw [sealR_limit g1 g2]
      clear g1
      go_enter Tryd.func21, Tryd.ntmps21
      go_wp2
      exact bodyPost_ret (v := .tuple #[.string ⟨#[]⟩, .int .i64 3]) (by simp [results, Tryd.results21, go_sem]) rfl ⟨rfl, Ext.rfl' _⟩
    · rw [sealR_ok g1 (by omega)]
      obtain ⟨H, hH⟩ : ∃ H, hideKL k = H := ⟨_, rfl⟩
      obtain ⟨T, hTk⟩ : ∃ T, tagKL k = T := ⟨_, rfl⟩
      have lH : H.length = 32 := by rw [← hH]; exact length_partsL _ _
      have lT : T.length = 32 := by rw [← hTk]; exact length_partsL _ _
      obtain ⟨M, hM⟩ : ∃ M, smixL H n t = M := ⟨_, rfl⟩
      have lM : M.length = t.length := by rw [← hM]; exact length_smixL _ _ _
      obtain ⟨B, hB⟩ : ∃ B, n ++ M = B := ⟨_, rfl⟩
      have lB : B.length ≤ 5000 := by rw [← hB, List.length_append, lM]; omega
      obtain ⟨S, hS⟩ : ∃ S, hmacL T B = S := ⟨_, rfl⟩
      have lS : S.length = 32 := by rw [← hS]; exact length_hmacL _ _
      have hR : boxL k n t = B ++ S := by unfold boxL boxBody; rw [hH, hTk, hM, hB, hS]
      have c1 := Kp.mk (show ∀ W, Tab W → _ from fun W h => parts_lit k [hideS] #[.string ⟨#[104, 105, 100, 101]⟩] rfl 1 rfl W h (by omega) (by rw [len_hide]; omega) (by omega))
      rw [show partsL k [hideS] = H from hH] at c1
      have c2 := Kp.mk (show ∀ W, Tab W → Calls Tryd.prog 47 #[.string (ofL H), .string (ofL n), .string (ofL t)] W fun e w' => e = .returned (.string (ofL M)) ∧ Ext W w' from fun W h => by rw [← hM]; exact mix_any H n t W h (by omega) (by omega) (by omega))
      have c3 := Kp.mk (show ∀ W, Tab W → _ from fun W h => parts_lit k [tagS] #[.string ⟨#[116, 97, 103]⟩] rfl 1 rfl W h (by omega) (by rw [len_tag]; omega) (by omega))
      rw [show partsL k [tagS] = T from hTk] at c3
      have c4 := Kp.mk (show ∀ W, Tab W → Calls Tryd.prog 49 #[.string (ofL T), .string (ofL B)] W fun e w' => e = .returned (.string (ofL S)) ∧ Ext W w' from fun W h => by rw [← hS]; exact hmac_any T B W h (by omega) (by omega))
      have a1 : ofL n ++ ofL M = ofL B := by rw [ofL_append, hB]
      have a2 : ofL B ++ ofL S = ofL (B ++ S) := ofL_append _ _
      have zM : (ofL M).size = t.length := by rw [size_ofL, lM]
      have zB : (ofL B).size = B.length := size_ofL _
      have zS : (ofL S).size = 32 := by rw [size_ofL, lS]
      have d1 : ((n.length : Int) != 16) = false := by simp; omega
      rw [hR]
      have hn16 : n.length ≤ 16 := by omega
      clear g1 hH hTk hM hB hS hR lH lT lM lS
      go_enter Tryd.func21, Tryd.ntmps21
      go_wp2_with fail
      refine (c1.out _ hT).mono ?_
      rintro e w1 ⟨rfl, E1⟩
      go_wp2_with fail
      refine (c2.out _ (hT.ext E1)).mono ?_
      rintro e w2 ⟨rfl, E2⟩
      have F2 := E1.tr E2
      clear E1 E2
      go_wp2_with fail
      refine (c3.out _ (hT.ext F2)).mono ?_
      rintro e w3 ⟨rfl, E3⟩
      have F3 := F2.tr E3
      clear F2 E3
      go_wp2_with fail
      refine (c4.out _ (hT.ext F3)).mono ?_
      rintro e w4 ⟨rfl, E4⟩
      have F4 := F3.tr E4
      go_wp2
      exact bodyPost_ret (v := .tuple #[.string (ofL (B ++ S)), .int .i64 0]) (by simp [results, Tryd.results21, go_sem]) rfl ⟨rfl, F4⟩
  · have d1 : ((n.length : Int) != 16) = true := by simp; omega
    rw [sealR_arg g1]
    clear g1
    go_enter Tryd.func21, Tryd.ntmps21
    go_wp2
    exact bodyPost_ret (v := .tuple #[.string ⟨#[]⟩, .int .i64 7]) (by simp [results, Tryd.results21, go_sem]) rfl ⟨rfl, Ext.rfl' _⟩
end Go.Proofs.YtjpdhdfophjnpaaDoor
