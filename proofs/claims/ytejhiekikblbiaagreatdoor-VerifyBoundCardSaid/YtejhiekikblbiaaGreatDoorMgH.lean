/-
  Package box in plain words over lists: a box, what it holds, the texts that are summed for it. No program in sight. · Package box and its reference: Seal. Conditions: the package's table holds the constants; texts of at most 100000 bytes. · Package box's reference: Seal, Open. Conditions: texts of at most 100000 bytes. · Package box: Open, a deferred call that turns a named result. Conditions: the contracts of what it calls. · Package box: Open, Nonce; the reference's Texts; chapter 6's examples hold. Conditions: the package's table holds the constants; texts of at most 100000 bytes. · Packages holder and notary in plain words over lists: a token with one link more, a ticket, a discharge. No program in sight.
-/
import Derived.Test.YtejhiekikblbiaaGreatDoorMgF
import Derived.Test.YtejhiekikblbiaaGreatDoorMgG
import Derived.Test.YtejhiekikblbiaaGreatDoorMgE
import Derived.Test.YtejhiekikblbiaaGreatDoorSha14
import Derived.Test.YtejhiekikblbiaaGreatDoorMgD
import Derived.Defers
import Derived.Recover
namespace Go.Proofs.YtejhiekikblbiaaGreatDoor
open Go.RowKit

def hideS : List UInt8 := [104, 105, 100, 101]
def tagS : List UInt8 := [116, 97, 103]
def hideKL (k : List UInt8) : List UInt8 := partsL k [hideS]
def tagKL (k : List UInt8) : List UInt8 := partsL k [tagS]
def boxBody (k n t : List UInt8) : List UInt8 := n ++ smixL (hideKL k) n t
def boxL (k n t : List UInt8) : List UInt8 := boxBody k n t ++ hmacL (tagKL k) (boxBody k n t)
/-- A text or what is wrong. -/
abbrev ResL := List UInt8 × Nat
def sealR (k n t : List UInt8) : ResL := if n.length ≠ 16 then ([], 7) else if 4096 < t.length then ([], 3) else (boxL k n t, 0)
def openR (k s : List UInt8) : ResL :=
  if s.length < 48 then ([], 1) else if 4144 < s.length then ([], 3) else
  if hmacL (tagKL k) (s.take (s.length - 32)) = s.drop (s.length - 32) then (smixL (hideKL k) (s.take 16) ((s.take (s.length - 32)).drop 16), 0) else ([], 8)
theorem length_boxBody (k n t : List UInt8) : (boxBody k n t).length = n.length + t.length := by unfold boxBody; rw [List.length_append, length_smixL]
theorem length_boxL (k n t : List UInt8) : (boxL k n t).length = n.length + t.length + 32 := by unfold boxL; rw [List.length_append, length_boxBody, length_hmacL]
theorem sealR_ok {k n t : List UInt8} (h1 : n.length = 16) (h2 : t.length ≤ 4096) : sealR k n t = (boxL k n t, 0) := by unfold sealR; rw [if_neg (by omega), if_neg (by omega)]
theorem sealR_arg {k n t : List UInt8} (h1 : n.length ≠ 16) : sealR k n t = ([], 7) := if_pos h1
theorem sealR_limit {k n t : List UInt8} (h1 : n.length = 16) (h2 : 4096 < t.length) : sealR k n t = ([], 3) := by unfold sealR; rw [if_neg (by omega), if_pos h2]
theorem openR_end {k s : List UInt8} (h : s.length < 48) : openR k s = ([], 1) := if_pos h
theorem openR_limit {k s : List UInt8} (h : 4144 < s.length) : openR k s = ([], 3) := by unfold openR; rw [if_neg (by omega), if_pos h]
theorem openR_mid {k s : List UInt8} (h1 : 48 ≤ s.length) (h2 : s.length ≤ 4144) : openR k s = if hmacL (tagKL k) (s.take (s.length - 32)) = s.drop (s.length - 32) then (smixL (hideKL k) (s.take 16) ((s.take (s.length - 32)).drop 16), 0) else ([], 8) := by
  unfold openR; rw [if_neg (by omega), if_neg (by omega)]
/-- What was sealed is opened. -/
theorem open_box (k n t : List UInt8) (h1 : n.length = 16) (h2 : t.length ≤ 4096) : openR k (boxL k n t) = (t, 0) := by
  have hl := length_boxL k n t
  have hb := length_boxBody k n t
  have e1 : (boxL k n t).take ((boxL k n t).length - 32) = boxBody k n t := by unfold boxL; exact List.take_left' (by rw [List.length_append, length_hmacL]; omega)
  have e2 : (boxL k n t).drop ((boxL k n t).length - 32) = hmacL (tagKL k) (boxBody k n t) := by unfold boxL; exact List.drop_left' (by rw [List.length_append, length_hmacL]; omega)
  have e3 : (boxL k n t).take 16 = n := by unfold boxL boxBody; rw [List.append_assoc]; exact List.take_left' h1
  have e4 : (boxBody k n t).drop 16 = smixL (hideKL k) n t := by unfold boxBody; exact List.drop_left' h1
  rw [openR_mid (by omega) (by omega), e1, e2, if_pos rfl, e3, e4, smix_mix]
/-- What is opened is the very box of what it holds. -/
theorem box_open {k s t : List UInt8} (h : openR k s = (t, 0)) : (s.take 16).length = 16 ∧ t.length ≤ 4096 ∧ boxL k (s.take 16) t = s := by
  by_cases h1 : s.length < 48
  · rw [openR_end h1] at h; cases h
  · by_cases h2 : 4144 < s.length
    · rw [openR_limit h2] at h; cases h
    · rw [openR_mid (by omega) (by omega)] at h
      split at h
      · rename_i htag
        have ht : smixL (hideKL k) (s.take 16) ((s.take (s.length - 32)).drop 16) = t := (Prod.mk.inj h).1
        have hb : boxBody k (s.take 16) t = s.take (s.length - 32) := by
          unfold boxBody
          rw [← ht, smix_mix]
          have : s.take 16 = (s.take (s.length - 32)).take 16 := by rw [List.take_take, Nat.min_eq_left (by omega)]
          rw [this, List.take_append_drop]
        refine ⟨by rw [List.length_take]; omega, by rw [← ht, length_smixL]; simp; omega, ?_⟩
        unfold boxL
        rw [hb, htag, List.take_append_drop]
      · cases h
/-- The reference opens by sealing again. -/
theorem again_eq {k s : List UInt8} (h1 : 48 ≤ s.length) (h2 : s.length ≤ 4144) :
    boxL k (s.take 16) (smixL (hideKL k) (s.take 16) ((s.drop 16).take (s.length - 32 - 16))) = s ↔ hmacL (tagKL k) (s.take (s.length - 32)) = s.drop (s.length - 32) := by
  have e : (s.drop 16).take (s.length - 32 - 16) = (s.take (s.length - 32)).drop 16 := by rw [List.drop_take]
  rw [e]
  have hb : boxBody k (s.take 16) (smixL (hideKL k) (s.take 16) ((s.take (s.length - 32)).drop 16)) = s.take (s.length - 32) := by
    unfold boxBody
    rw [smix_mix]
    have : s.take 16 = (s.take (s.length - 32)).take 16 := by rw [List.take_take, Nat.min_eq_left (by omega)]
    rw [this, List.take_append_drop]
  unfold boxL
  rw [hb]
  constructor
  · intro h
    have h3 : s.take (s.length - 32) ++ hmacL (tagKL k) (s.take (s.length - 32)) = s.take (s.length - 32) ++ s.drop (s.length - 32) := by rw [h, List.take_append_drop]
    exact List.append_cancel_left h3
  · intro h
    rw [h, List.take_append_drop]
/-- The texts that are summed for a box's tag. -/
def boxT (k s : List UInt8) : List (List UInt8) := pairT k [tagS] ++ [innerL (tagKL k) (s.take (s.length - 32)), outerL (tagKL k) (s.take (s.length - 32))]
theorem box_other {k m s : List UInt8} (hk : k.length = 32) (hm : m.length = 32) (hne : k ≠ m) (h1 : hmacL (tagKL k) (s.take (s.length - 32)) = s.drop (s.length - 32)) (h2 : hmacL (tagKL m) (s.take (s.length - 32)) = s.drop (s.length - 32)) : ClashM (boxT k s ++ boxT m s) := by
  have h := h1.trans h2.symm
  by_cases ht : tagKL k = tagKL m
  · rcases pair_clash hk hm (a := [tagS]) (b := [tagS]) (by intro p hp; simp at hp; rw [hp]; decide) (by intro p hp; simp at hp; rw [hp]; decide) ht with h3 | h3
    · exact absurd h3.1 hne
    · exact h3.more fun x hx => by
        rcases List.mem_append.1 hx with hx | hx
        · exact List.mem_append.2 (.inl (List.mem_append.2 (.inl hx)))
        · exact List.mem_append.2 (.inr (List.mem_append.2 (.inl hx)))
  · rcases apart (length_partsL k _) (length_partsL m _) (fun e => ht e.1) h with ⟨h3, h4⟩ | ⟨h3, h4⟩
    · exact ⟨innerL (tagKL k) (s.take (s.length - 32)), by simp [boxT], innerL (tagKL m) (s.take (s.length - 32)), by simp [boxT], h3, h4⟩
    · exact ⟨outerL (tagKL k) (s.take (s.length - 32)), by simp [boxT], outerL (tagKL m) (s.take (s.length - 32)), by simp [boxT], h3, h4⟩
end Go.Proofs.YtejhiekikblbiaaGreatDoor

namespace Go.Proofs.YtejhiekikblbiaaGreatDoor
open Go.RowKit

/-- A text and an error's number. -/
def resV (r : ResL) : Value := .tuple #[.string (ofL r.1), .int .i64 r.2]
theorem len_hide : (frameL [hideS]).length = 12 := by simp [frameL, length_be8, hideS]
theorem len_tag : (frameL [tagS]).length = 11 := by simp [frameL, length_be8, tagS]

set_option maxRecDepth 100000 in
set_option maxHeartbeats 2000000 in
theorem seal_box (k n t : List UInt8) (w : World) (hT : Tab w) (hk : k.length ≤ 100000) : Calls Tryz.prog 35 #[.string (ofL k), .string (ofL n), .string (ofL t)] w fun e w' => e = .returned (resV (sealR k n t)) ∧ Ext w w' := by
  have zn : (ofL n).size = n.length := size_ofL _
  have zt : (ofL t).size = t.length := size_ofL _
  by_cases g1 : n.length = 16
  · by_cases g2 : 4096 < t.length
    · have d1 : ((n.length : Int) != 16) = false := by simp; omega
      rw [sealR_limit g1 g2]
      clear g1
      go_enter Tryz.func35, Tryz.ntmps35
      go_wp2
      exact bodyPost_ret (v := .tuple #[.string ⟨#[]⟩, .int .i64 3]) (by simp [results, Tryz.results35, go_sem]) rfl ⟨rfl, Ext.rfl' _⟩
    · rw [sealR_ok g1 (by omega)]
      obtain ⟨H, hH⟩ : ∃ H, hideKL k = H := ⟨_, rfl⟩
      obtain ⟨T, hTk⟩ : ∃ T, tagKL k = T := ⟨_, rfl⟩
      have lH : H.length = 32 := by rw [← hH]; exact length_partsL _ _
      have lT : T.length = 32 := by rw [← hTk]; exact length_partsL _ _
      obtain ⟨M, hM⟩ : ∃ M, smixL H n t = M := ⟨_, rfl⟩
      have lM : M.length = t.length := by rw [← hM]; exact length_smixL _ _ _
      obtain ⟨B, hB⟩ : ∃ B, n ++ M = B := ⟨_, rfl⟩
      have lB : B.length ≤ 5000 := by rw [← hB, List.length_append, lM]; omega
      obtain ⟨S, hS⟩ : ∃ S, hmacL T B = S := ⟨_, rfl⟩
      have lS : S.length = 32 := by rw [← hS]; exact length_hmacL _ _
      have hR : boxL k n t = B ++ S := by unfold boxL boxBody; rw [hH, hTk, hM, hB, hS]
      have c1 := Kp.mk (show ∀ W, Tab W → _ from fun W h => parts_lit k [hideS] #[.string ⟨#[104, 105, 100, 101]⟩] rfl 1 rfl W h (by omega) (by rw [len_hide]; omega) (by omega))
      rw [show partsL k [hideS] = H from hH] at c1
      have c2 := Kp.mk (show ∀ W, Tab W → Calls Tryz.prog 75 #[.string (ofL H), .string (ofL n), .string (ofL t)] W fun e w' => e = .returned (.string (ofL M)) ∧ Ext W w' from fun W h => by rw [← hM]; exact mix_any H n t W h (by omega) (by omega) (by omega))
      have c3 := Kp.mk (show ∀ W, Tab W → _ from fun W h => parts_lit k [tagS] #[.string ⟨#[116, 97, 103]⟩] rfl 1 rfl W h (by omega) (by rw [len_tag]; omega) (by omega))
      rw [show partsL k [tagS] = T from hTk] at c3
      have c4 := Kp.mk (show ∀ W, Tab W → Calls Tryz.prog 76 #[.string (ofL T), .string (ofL B)] W fun e w' => e = .returned (.string (ofL S)) ∧ Ext W w' from fun W h => by rw [← hS]; exact hmac_any T B W h (by omega) (by omega))
      have a1 : ofL n ++ ofL M = ofL B := by rw [ofL_append, hB]
      have a2 : ofL B ++ ofL S = ofL (B ++ S) := ofL_append _ _
      have zM : (ofL M).size = t.length := by rw [size_ofL, lM]
      have zB : (ofL B).size = B.length := size_ofL _
      have zS : (ofL S).size = 32 := by rw [size_ofL, lS]
      have d1 : ((n.length : Int) != 16) = false := by simp; omega
      rw [hR]
      have hn16 : n.length ≤ 16 := by omega
      clear g1 hH hTk hM hB hS hR lH lT lM lS
      go_enter Tryz.func35, Tryz.ntmps35
      go_wp2_with fail
      refine (c1.out _ hT).mono ?_
      rintro e w1 ⟨rfl, E1⟩
      go_wp2_with fail
      refine (c2.out _ (hT.ext E1)).mono ?_
      rintro e w2 ⟨rfl, E2⟩
      have F2 := E1.tr E2
      clear E1 E2
      go_wp2_with fail
      refine (c3.out _ (hT.ext F2)).mono ?_
      rintro e w3 ⟨rfl, E3⟩
      have F3 := F2.tr E3
      clear F2 E3
      go_wp2_with fail
      refine (c4.out _ (hT.ext F3)).mono ?_
      rintro e w4 ⟨rfl, E4⟩
      have F4 := F3.tr E4
      go_wp2
      exact bodyPost_ret (v := .tuple #[.string (ofL (B ++ S)), .int .i64 0]) (by simp [results, Tryz.results35, go_sem]) rfl ⟨rfl, F4⟩
  · have d1 : ((n.length : Int) != 16) = true := by simp; omega
    rw [sealR_arg g1]
    clear g1
    go_enter Tryz.func35, Tryz.ntmps35
    go_wp2
    exact bodyPost_ret (v := .tuple #[.string ⟨#[]⟩, .int .i64 7]) (by simp [results, Tryz.results35, go_sem]) rfl ⟨rfl, Ext.rfl' _⟩
end Go.Proofs.YtejhiekikblbiaaGreatDoor

namespace Go.Proofs.YtejhiekikblbiaaGreatDoor
open Go.RowKit

set_option maxRecDepth 100000 in
set_option maxHeartbeats 2000000 in
theorem rseal_box (k n t : List UInt8) (w : World) (hk : k.length ≤ 100000) : Calls Tryz.prog 37 #[.string (ofL k), .string (ofL n), .string (ofL t)] w fun e w' => e = .returned (resV (sealR k n t)) ∧ Ext w w' := by
  have zn : (ofL n).size = n.length := size_ofL _
  have zt : (ofL t).size = t.length := size_ofL _
  by_cases g1 : n.length = 16
  · by_cases g2 : 4096 < t.length
    · have d1 : ((n.length : Int) != 16) = false := by simp; omega
      rw [sealR_limit g1 g2]
      clear g1
      go_enter Tryz.func37, Tryz.ntmps37
      go_wp2
      exact bodyPost_ret (v := .tuple #[.string ⟨#[]⟩, .int .i64 3]) (by simp [results, Tryz.results37, go_sem]) rfl ⟨rfl, Ext.rfl' _⟩
    · rw [sealR_ok g1 (by omega)]
      obtain ⟨H, hH⟩ : ∃ H, hideKL k = H := ⟨_, rfl⟩
      obtain ⟨T, hTk⟩ : ∃ T, tagKL k = T := ⟨_, rfl⟩
      have lH : H.length = 32 := by rw [← hH]; exact length_partsL _ _
      have lT : T.length = 32 := by rw [← hTk]; exact length_partsL _ _
      obtain ⟨M, hM⟩ : ∃ M, smixL H n t = M := ⟨_, rfl⟩
      have lM : M.length = t.length := by rw [← hM]; exact length_smixL _ _ _
      obtain ⟨B, hB⟩ : ∃ B, n ++ M = B := ⟨_, rfl⟩
      have lB : B.length ≤ 5000 := by rw [← hB, List.length_append, lM]; omega
      obtain ⟨S, hS⟩ : ∃ S, hmacL T B = S := ⟨_, rfl⟩
      have lS : S.length = 32 := by rw [← hS]; exact length_hmacL _ _
      have hR : boxL k n t = B ++ S := by unfold boxL boxBody; rw [hH, hTk, hM, hB, hS]
      have c1 := Kp.mk (show ∀ W : World, _ from fun W => rparts_lit k [hideS] #[.string ⟨#[104, 105, 100, 101]⟩] rfl 1 rfl W (by omega) (by rw [len_hide]; omega) (by omega))
      rw [show partsL k [hideS] = H from hH] at c1
      have c2 := Kp.mk (show ∀ W, Calls Tryz.prog 78 #[.string (ofL H), .string (ofL n), .string (ofL t)] W fun e w' => e = .returned (.string (ofL M)) ∧ Ext W w' from fun W => by rw [← hM]; exact rmix_any H n t W (by omega) (by omega) (by omega))
      have c3 := Kp.mk (show ∀ W : World, _ from fun W => rparts_lit k [tagS] #[.string ⟨#[116, 97, 103]⟩] rfl 1 rfl W (by omega) (by rw [len_tag]; omega) (by omega))
      rw [show partsL k [tagS] = T from hTk] at c3
      have c4 := Kp.mk (show ∀ W, Calls Tryz.prog 79 #[.string (ofL T), .string (ofL B)] W fun e w' => e = .returned (.string (ofL S)) ∧ Ext W w' from fun W => by rw [← hS]; exact rhmac_any T B W (by omega) (by omega))
      have a1 : ofL n ++ ofL M = ofL B := by rw [ofL_append, hB]
      have a2 : ofL B ++ ofL S = ofL (B ++ S) := ofL_append _ _
      have zM : (ofL M).size = t.length := by rw [size_ofL, lM]
      have zB : (ofL B).size = B.length := size_ofL _
      have zS : (ofL S).size = 32 := by rw [size_ofL, lS]
      have d1 : ((n.length : Int) != 16) = false := by simp; omega
      rw [hR]
      have hn16 : n.length ≤ 16 := by omega
      clear g1 hH hTk hM hB hS hR lH lT lM lS
      go_enter Tryz.func37, Tryz.ntmps37
      go_wp2_with fail
      refine (c1.out _).mono ?_
      rintro e w1 ⟨rfl, E1⟩
      go_wp2_with fail
      refine (c2.out _).mono ?_
      rintro e w2 ⟨rfl, E2⟩
      have F2 := E1.tr E2
      clear E1 E2
      go_wp2_with fail
      refine (c3.out _).mono ?_
      rintro e w3 ⟨rfl, E3⟩
      have F3 := F2.tr E3
      clear F2 E3
      go_wp2_with fail
      refine (c4.out _).mono ?_
      rintro e w4 ⟨rfl, E4⟩
      have F4 := F3.tr E4
      go_wp2
      exact bodyPost_ret (v := .tuple #[.string (ofL (B ++ S)), .int .i64 0]) (by simp [results, Tryz.results37, go_sem]) rfl ⟨rfl, F4⟩
  · have d1 : ((n.length : Int) != 16) = true := by simp; omega
    rw [sealR_arg g1]
    clear g1
    go_enter Tryz.func37, Tryz.ntmps37
    go_wp2
    exact bodyPost_ret (v := .tuple #[.string ⟨#[]⟩, .int .i64 7]) (by simp [results, Tryz.results37, go_sem]) rfl ⟨rfl, Ext.rfl' _⟩

set_option maxRecDepth 100000 in
set_option maxHeartbeats 2000000 in
theorem ropen_box (k s : List UInt8) (w : World) (hk : k.length ≤ 100000) : Calls Tryz.prog 41 #[.string (ofL k), .string (ofL s)] w fun e w' => e = .returned (resV (openR k s)) ∧ Ext w w' := by
  have zs : (ofL s).size = s.length := size_ofL _
  by_cases g1 : s.length < 48
  · rw [openR_end g1]
    go_enter Tryz.func41, Tryz.ntmps41
    go_wp2
    exact bodyPost_ret (v := .tuple #[.string ⟨#[]⟩, .int .i64 1]) (by simp [results, Tryz.results41, go_sem]) rfl ⟨rfl, Ext.rfl' _⟩
  · by_cases g2 : 4144 < s.length
    · rw [openR_limit g2]
      go_enter Tryz.func41, Tryz.ntmps41
      go_wp2
      exact bodyPost_ret (v := .tuple #[.string ⟨#[]⟩, .int .i64 3]) (by simp [results, Tryz.results41, go_sem]) rfl ⟨rfl, Ext.rfl' _⟩
    · obtain ⟨nn, hnn⟩ : ∃ nn, s.length - 32 = nn := ⟨_, rfl⟩
      have hni : (s.length : Int) - 32 = nn := by omega
      have hn1 : 16 ≤ nn := by omega
      have hn2 : nn ≤ s.length := by omega
      have hw1 : IntKind.i64.wrap (nn : Int) = nn := IntWalk.i64_in _ (by omega)
      obtain ⟨H, hH⟩ : ∃ H, hideKL k = H := ⟨_, rfl⟩
      obtain ⟨N, hN⟩ : ∃ N, s.take 16 = N := ⟨_, rfl⟩
      obtain ⟨C, hC⟩ : ∃ C, (s.drop 16).take (nn - 16) = C := ⟨_, rfl⟩
      obtain ⟨T, hTx⟩ : ∃ T, smixL H N C = T := ⟨_, rfl⟩
      have lH : H.length = 32 := by rw [← hH]; exact length_partsL _ _
      have lN : N.length = 16 := by rw [← hN, List.length_take]; omega
      have lC : C.length = nn - 16 := by rw [← hC, List.length_take, List.length_drop]; omega
      have lT : T.length = nn - 16 := by rw [← hTx, length_smixL, lC]
      have hag := Kp.mk (again_eq (k := k) (s := s) (by omega) (by omega))
      rw [hH, hN, hnn, hC, hTx] at hag
      have hop := Kp.mk (openR_mid (k := k) (s := s) (by omega) (by omega))
      have hC2 : (s.take nn).drop 16 = C := by rw [← hC, List.drop_take]
      rw [hnn, hH, hN, hC2, hTx] at hop
      have x1 : (ofL s).extract 0 16 = ofL N := by rw [extract_to, toL_ofL, hN]
      have x2 : (ofL s).extract 16 nn = ofL C := by rw [ofL_extract, hC]
      have c1 := Kp.mk (show ∀ W v, Rd W W.heap.size 1 v 1 ([hideS].map Str) → Calls Tryz.prog 43 #[.string (ofL k), v] W fun e w' => e = .returned (.string (ofL H)) ∧ Ext W w' from fun W v h => by rw [← hH]; exact rparts_any k [hideS] v W (by omega) h (by rw [len_hide]; omega))
      have c2 := Kp.mk (show ∀ W, Calls Tryz.prog 78 #[.string (ofL H), .string (ofL N), .string (ofL C)] W fun e w' => e = .returned (.string (ofL T)) ∧ Ext W w' from fun W => by rw [← hTx]; exact rmix_any H N C W (by omega) (by omega) (by omega))
      have c3 := Kp.mk (show ∀ W, Calls Tryz.prog 37 #[.string (ofL k), .string (ofL N), .string (ofL T)] W fun e w' => e = .returned (.tuple #[.string (ofL (boxL k N T)), .int .i64 0]) ∧ Ext W w' from fun W => by
        have h := rseal_box k N T W hk
        rw [sealR_ok lN (by omega)] at h
        exact h)
      obtain ⟨Bx, hBx⟩ : ∃ Bx, boxL k N T = Bx := ⟨_, rfl⟩
      rw [hBx] at c3 hag
      obtain ⟨R, hR⟩ : ∃ R, openR k s = R := ⟨_, rfl⟩
      rw [hR] at hop ⊢
      clear hnn hH hN hC hTx hC2 lH lN lC lT hBx hR
      go_enter Tryz.func41, Tryz.ntmps41
      go_upto_region 6 with fail
      refine wp_region_locals (fun i v W => match i with
        | 0 => v = .string (ofL k)
        | 1 => Rd W W.heap.size 1 v 1 ([hideS].map Str)
        | 2 => v = .string (ofL H)
        | 3 => v = .string (ofL s)
        | 4 => v = .string (ofL N)
        | 5 => v = .string (ofL s)
        | 6 => v = .int .i64 nn
        | 7 => v = .string (ofL C)
        | 8 => v = .string (ofL T)
        | 9 => v = .string (ofL T)
        | _ => True) (by kernel_rfl) (by kernel_rfl) (by kernel_rfl) ?_ ?_ ?_
      · intro i v W1 W2 e1 e2 h
        match i, h with
        | 0, h => exact h
        | 1, h => exact rd_at h e2
        | 2, h => exact h
        | 3, h => exact h
        | 4, h => exact h
        | 5, h => exact h
        | 6, h => exact h
        | 7, h => exact h
        | 8, h => exact h
        | 9, h => exact h
        | (i + 10), h => exact h
      · refine locals_cons (fun u W hW hd => leaves_val rfl (v := .string (ofL k)) (by go_simp) rfl) ?_
        refine locals_cons (fun u W hW hd => ?_) ?_
        · exact leaves_new rfl (v := .slice (some ⟨W.heap.size, 0, none⟩) 1 1) (by go_simp) ((Ext.rfl' W).al _) (rd_lit W 9 #[.string ⟨#[104, 105, 100, 101]⟩] 1 rfl (by decide))
        refine locals_cons (fun u W hW hd => ?_) ?_
        · have h0 : u 0 = _ := hd 0 (by kernel_rfl)
          have h1 := hd 1 (by kernel_rfl)
          exact leaves_call rfl (f := 43) (args := #[.string (ofL k), u 1]) (by go_simp) ((c1.out W _ h1).mono (by rintro e9 W9 ⟨rfl, h9⟩; exact ⟨_, rfl, h9, rfl⟩))
        refine locals_cons (fun u W hW hd => leaves_val rfl (v := .string (ofL s)) (by go_simp) rfl) ?_
        refine locals_cons (fun u W hW hd => ?_) ?_
        · have h3 : u 3 = _ := hd 3 (by kernel_rfl)
          exact leaves_val rfl (v := .string (ofL N)) (by go_simp; omega) rfl
        refine locals_cons (fun u W hW hd => leaves_val rfl (v := .string (ofL s)) (by go_simp) rfl) ?_
        refine locals_cons (fun u W hW hd => leaves_val rfl (v := .int .i64 nn) (by go_simp) rfl) ?_
        refine locals_cons (fun u W hW hd => ?_) ?_
        · have h5 : u 5 = _ := hd 5 (by kernel_rfl)
          have h6 : u 6 = _ := hd 6 (by kernel_rfl)
          exact leaves_val rfl (v := .string (ofL C)) (by go_simp; omega) rfl
        refine locals_cons (fun u W hW hd => ?_) ?_
        · have h2 : u 2 = _ := hd 2 (by kernel_rfl)
          have h4 : u 4 = _ := hd 4 (by kernel_rfl)
          have h7 : u 7 = _ := hd 7 (by kernel_rfl)
          exact leaves_call rfl (f := 78) (args := #[.string (ofL H), .string (ofL N), .string (ofL C)]) (by go_simp) ((c2.out W).mono (by rintro e9 W9 ⟨rfl, h9⟩; exact ⟨_, rfl, h9, rfl⟩))
        refine locals_cons (fun u W hW hd => ?_) locals_nil
        · have h8 : u 8 = _ := hd 8 (by kernel_rfl)
          exact leaves_val rfl (v := .string (ofL T)) (by go_simp) rfl
      · intro u W hW hV
        have h9 : u 9 = .string (ofL T) := hV 9 (by decide)
        clear hV
        go_simp
        go_wp2_with fail
        refine (c3.out _).mono ?_
        rintro e w2 ⟨rfl, E2⟩
        have F2 := hW.tr E2
        by_cases he : Bx = s
        · have t1 : (Bx == s) = true := by simp [he]
          have hres := Kp.mk (show R = (T, 0) by rw [hop.out, if_pos (hag.out.1 he)])
          clear he
          go_wp2
          exact bodyPost_ret (v := .tuple #[.string (ofL T), .int .i64 0]) (by simp [results, Tryz.results41, go_sem]) rfl ⟨by rw [hres.out]; rfl, F2⟩
        · have t1 : (Bx == s) = false := by simp [he]
          have hres := Kp.mk (show R = ([], 8) by rw [hop.out, if_neg (fun h => he (hag.out.2 h))])
          clear he
          go_wp2
          exact bodyPost_ret (v := .tuple #[.string ⟨#[]⟩, .int .i64 8]) (by simp [results, Tryz.results41, go_sem]) rfl ⟨by rw [hres.out]; rfl, F2⟩
end Go.Proofs.YtejhiekikblbiaaGreatDoor

namespace Go.Proofs.YtejhiekikblbiaaGreatDoor
open Go.RowKit

theorem shut_ok (e t : Nat) (w : World) (hc : w.cell? ⟨e, 0, none⟩ = some (.int .i64 0)) (u : FrameMode) :
    CallsD Tryz.prog 81 #[.pointer (some ⟨e, 0, none⟩), .pointer (some ⟨t, 0, none⟩)] u w fun en u' w' => u' = u ∧ (en = .returned (.tuple #[]) ∧ w' = w) := by
  go_enter_d Tryz.func81, Tryz.ntmps81
  go_wp2
  go_end0
  exact ⟨rfl, rfl⟩
theorem shut_bad (e t : Nat) (x : Int) (s : ByteArray) (w : World) (hx : x ≠ 0) (hc : w.cell? ⟨e, 0, none⟩ = some (.int .i64 x)) (ht : w.cell? ⟨t, 0, none⟩ = some (.string s)) (hz : w.frozen? ⟨t, 0, none⟩ = false) (u : FrameMode) :
    CallsD Tryz.prog 81 #[.pointer (some ⟨e, 0, none⟩), .pointer (some ⟨t, 0, none⟩)] u w fun en u' w' => u' = u ∧ (en = .returned (.tuple #[]) ∧ w' = w.setCell ⟨t, 0, none⟩ (.string ⟨#[]⟩)) := by
  go_enter_d Tryz.func81, Tryz.ntmps81
  go_wp2
  go_end0
  exact ⟨rfl, rfl⟩

set_option maxRecDepth 100000 in
set_option maxHeartbeats 2000000 in
theorem open_end (k s : List UInt8) (w : World) (g1 : s.length < 48) : Calls Tryz.prog 39 #[.string (ofL k), .string (ofL s)] w fun e w' => e = .returned (.tuple #[.string ⟨#[]⟩, .int .i64 1]) ∧ Ext w w' := by
  have zs : (ofL s).size = s.length := size_ofL _
  have hmf : ∀ (fn : Fn) (first cap : Array Value) (w : World), (Instr.makeFunc fn first cap).run Tryz.prog w = .ok (.func fn first cap) w := fun _ _ _ _ => rfl
  go_enter_defers Tryz.func39, Tryz.ntmps39
  go_wp2
  refine leaves_cons (f := 81) (args := #[.pointer (some ⟨w.heap.size + 1, 0, none⟩), .pointer (some ⟨w.heap.size, 0, none⟩)]) (by simp) (by simp [go_sem]) ?_
  refine (shut_bad (w.heap.size + 1) w.heap.size 1 ⟨#[]⟩ _ (by decide) ?_ ?_ ?_ .returning).mono ?_
  · simp [go_sem]
  · simp [go_sem]
  · simp [go_sem]
  rintro e u' w'' ⟨rfl, rfl, rfl⟩
  refine ⟨.tuple #[.string ⟨#[]⟩, .int .i64 1], ?_, ?_⟩
  · simp [results, Tryz.results39, go_sem]
  · exact ⟨rfl, (((Ext.rfl' w).al _).al _).st (Nat.le_refl _) _⟩
set_option maxRecDepth 100000 in
set_option maxHeartbeats 2000000 in
theorem open_limit (k s : List UInt8) (w : World) (g1 : 4144 < s.length) : Calls Tryz.prog 39 #[.string (ofL k), .string (ofL s)] w fun e w' => e = .returned (.tuple #[.string ⟨#[]⟩, .int .i64 3]) ∧ Ext w w' := by
  have zs : (ofL s).size = s.length := size_ofL _
  have hmf : ∀ (fn : Fn) (first cap : Array Value) (w : World), (Instr.makeFunc fn first cap).run Tryz.prog w = .ok (.func fn first cap) w := fun _ _ _ _ => rfl
  go_enter_defers Tryz.func39, Tryz.ntmps39
  go_wp2
  refine leaves_cons (f := 81) (args := #[.pointer (some ⟨w.heap.size + 1, 0, none⟩), .pointer (some ⟨w.heap.size, 0, none⟩)]) (by simp) (by simp [go_sem]) ?_
  refine (shut_bad (w.heap.size + 1) w.heap.size 3 ⟨#[]⟩ _ (by decide) ?_ ?_ ?_ .returning).mono ?_
  · simp [go_sem]
  · simp [go_sem]
  · simp [go_sem]
  rintro e u' w'' ⟨rfl, rfl, rfl⟩
  clear hmf
  refine ⟨.tuple #[.string ⟨#[]⟩, .int .i64 3], ?_, ?_⟩
  · simp [results, Tryz.results39, go_sem]
  · exact ⟨rfl, (((Ext.rfl' w).al _).al _).st (Nat.le_refl _) _⟩

set_option maxRecDepth 100000 in
set_option maxHeartbeats 4000000 in
theorem open_good (k s : List UInt8) (w : World) (hT : Tab w) (nn : Nat) (hnn : s.length - 32 = nn) (g1 : 48 ≤ s.length) (g2 : s.length ≤ 4144) (H TK S Bd D N C T : List UInt8)
    (hB : s.take nn = Bd) (hD : s.drop nn = D) (hN : Bd.take 16 = N) (hC : Bd.drop 16 = C)
    (c1 : ∀ W v, Tab W → Rd W W.heap.size 1 v 1 ([([104, 105, 100, 101] : List UInt8)].map Str) → Calls Tryz.prog 56 #[.string (ofL k), v] W fun e w' => e = .returned (.string (ofL H)) ∧ Ext W w')
    (c2 : ∀ W, Tab W → Calls Tryz.prog 75 #[.string (ofL H), .string (ofL N), .string (ofL C)] W fun e w' => e = .returned (.string (ofL T)) ∧ Ext W w')
    (c3 : ∀ W, Tab W → Calls Tryz.prog 56 #[.string (ofL k), .slice (some ⟨W.heap.size, 0, none⟩) 1 1] (W.alloc (.cells #[.string ⟨#[116, 97, 103]⟩] 9)) fun e w' => e = .returned (.string (ofL TK)) ∧ Ext W w')
    (c4 : ∀ W, Tab W → Calls Tryz.prog 76 #[.string (ofL TK), .string (ofL Bd)] W fun e w' => e = .returned (.string (ofL S)) ∧ Ext W w')
    (c5 : ∀ W, Calls Tryz.prog 82 #[.string (ofL S), .string (ofL D)] W fun e w' => e = .returned (.bool true) ∧ Ext W w') :
    Calls Tryz.prog 39 #[.string (ofL k), .string (ofL s)] w fun e w' => e = .returned (.tuple #[.string (ofL T), .int .i64 0]) ∧ Ext w w' := by
  have zs : (ofL s).size = s.length := size_ofL _
  have hmf : ∀ (fn : Fn) (first cap : Array Value) (w : World), (Instr.makeFunc fn first cap).run Tryz.prog w = .ok (.func fn first cap) w := fun _ _ _ _ => rfl
  have hni : (s.length : Int) - 32 = nn := by omega
  have hn1 : 16 ≤ nn := by omega
  have hn2 : nn ≤ s.length := by omega
  have hw1 : IntKind.i64.wrap (nn : Int) = nn := IntWalk.i64_in _ (by omega)
  have x1 : (ofL s).extract 0 nn = ofL Bd := by rw [extract_to, toL_ofL, hB]
  have x2 : (ofL s).extract nn s.length = ofL D := by rw [← size_ofL s, extract_from, toL_ofL, hD]
  have lB : Bd.length = nn := by rw [← hB, List.length_take]; omega
  have zB : (ofL Bd).size = Bd.length := size_ofL _
  have x3 : (ofL Bd).extract 0 16 = ofL N := by rw [extract_to, toL_ofL, hN]
  have x4 : (ofL Bd).extract 16 Bd.length = ofL C := by rw [← size_ofL Bd, extract_from, toL_ofL, hC]
  have k1 := Kp.mk c1; have k2 := Kp.mk c2; have k3 := Kp.mk c3; have k4 := Kp.mk c4; have k5 := Kp.mk c5
  clear c1 c2 c3 c4 c5 hB hD hN hC
  go_enter_defers Tryz.func39, Tryz.ntmps39
  go_upto_region 6 with fail
  refine wp_region_locals (fun i v W => match i with
    | 0 => v = .string (ofL s)
    | 1 => v = .string (ofL s)
    | 2 => v = .int .i64 s.length
    | 3 => v = .int .i64 nn
    | 4 => v = .string (ofL Bd)
    | 5 => v = .string (ofL s)
    | 6 => v = .string (ofL s)
    | 7 => v = .int .i64 s.length
    | 8 => v = .int .i64 nn
    | 9 => v = .string (ofL D)
    | 10 => v = .string (ofL Bd)
    | 11 => v = .string (ofL D)
    | _ => True) (by kernel_rfl) (by kernel_rfl) (by kernel_rfl) ?_ ?_ ?_
  · intro i v W1 W2 e1 e2 h
    match i, h with
    | 0, h => exact h
    | 1, h => exact h
    | 2, h => exact h
    | 3, h => exact h
    | 4, h => exact h
    | 5, h => exact h
    | 6, h => exact h
    | 7, h => exact h
    | 8, h => exact h
    | 9, h => exact h
    | 10, h => exact h
    | 11, h => exact h
    | (i + 12), h => exact h
  · refine locals_cons (fun u W hW hd => leaves_val rfl (v := .string (ofL s)) (by go_simp) rfl) ?_
    refine locals_cons (fun u W hW hd => leaves_val rfl (v := .string (ofL s)) (by go_simp) rfl) ?_
    refine locals_cons (fun u W hW hd => ?_) ?_
    · have h1 : u 1 = _ := hd 1 (by kernel_rfl)
      exact leaves_val rfl (v := .int .i64 s.length) (by go_simp) rfl
    refine locals_cons (fun u W hW hd => ?_) ?_
    · have h2 : u 2 = _ := hd 2 (by kernel_rfl)
      exact leaves_val rfl (v := .int .i64 nn) (by go_simp) rfl
    refine locals_cons (fun u W hW hd => ?_) ?_
    · have h0 : u 0 = _ := hd 0 (by kernel_rfl)
      have h3 : u 3 = _ := hd 3 (by kernel_rfl)
      exact leaves_val rfl (v := .string (ofL Bd)) (by go_simp) rfl
    refine locals_cons (fun u W hW hd => leaves_val rfl (v := .string (ofL s)) (by go_simp) rfl) ?_
    refine locals_cons (fun u W hW hd => leaves_val rfl (v := .string (ofL s)) (by go_simp) rfl) ?_
    refine locals_cons (fun u W hW hd => ?_) ?_
    · have h6 : u 6 = _ := hd 6 (by kernel_rfl)
      exact leaves_val rfl (v := .int .i64 s.length) (by go_simp) rfl
    refine locals_cons (fun u W hW hd => ?_) ?_
    · have h7 : u 7 = _ := hd 7 (by kernel_rfl)
      exact leaves_val rfl (v := .int .i64 nn) (by go_simp) rfl
    refine locals_cons (fun u W hW hd => ?_) ?_
    · have h5 : u 5 = _ := hd 5 (by kernel_rfl)
      have h8 : u 8 = _ := hd 8 (by kernel_rfl)
      exact leaves_val rfl (v := .string (ofL D)) (by go_simp) rfl
    refine locals_cons (fun u W hW hd => ?_) ?_
    · have h4 : u 4 = _ := hd 4 (by kernel_rfl)
      exact leaves_val rfl (v := .string (ofL Bd)) (by go_simp) rfl
    refine locals_cons (fun u W hW hd => ?_) locals_nil
    · have h9 : u 9 = _ := hd 9 (by kernel_rfl)
      exact leaves_val rfl (v := .string (ofL D)) (by go_simp) rfl
  · intro u W hW hV
    have h6 : u 10 = .string (ofL Bd) := hV 10 (by decide)
    have h7 : u 11 = .string (ofL D) := hV 11 (by decide)
    clear hV
    have F0 : Ext w W := (((Ext.rfl' w).al _).al _).tr hW
    have ct0 := ((bcell hW).1 w.heap.size 0 (by simp; omega)).trans (show _ = some (Value.string ⟨#[]⟩) by simp [go_sem, World.cell?_alloc_past])
    have ce0 := ((bcell hW).1 (w.heap.size + 1) 0 (by simp)).trans (show _ = some (Value.int .i64 0) by simp [go_sem])
    have zt0 := ((bcell hW).2 w.heap.size 0 (by simp; omega)).trans (show _ = false by simp [go_sem])
    have ze0 := ((bcell hW).2 (w.heap.size + 1) 0 (by simp)).trans (show _ = false by simp [go_sem])
    have hs0 : w.heap.size + 2 ≤ W.heap.size := by have := hW.size; simpa using this
    clear hW
    go_simp
    go_wp2_with fail
    refine (k3.out _ (hT.ext F0)).mono ?_
    rintro e w1 ⟨rfl, E1⟩
    go_wp2_with fail
    refine (k4.out _ (hT.ext (F0.tr E1))).mono ?_
    rintro e w2 ⟨rfl, E2⟩
    have E12 := E1.tr E2
    clear E1 E2
    go_wp2_with fail
    refine (k5.out _).mono ?_
    rintro e w3 ⟨rfl, E3⟩
    have E13 := E12.tr E3
    clear E12 E3
    have F3 := F0.tr E13
    have ct3 := ((bcell E13).1 w.heap.size 0 (by omega)).trans ct0
    have ce3 := ((bcell E13).1 (w.heap.size + 1) 0 (by omega)).trans ce0
    have zt3 := ((bcell E13).2 w.heap.size 0 (by omega)).trans zt0
    have ze3 := ((bcell E13).2 (w.heap.size + 1) 0 (by omega)).trans ze0
    have hs3 : w.heap.size + 2 ≤ w3.heap.size := by have := E13.size; omega
    clear ct0 ce0 zt0 ze0 hs0 F0 E13
    clear k3 k4 k5 x1 x2 h6 h7
    have q1 : ¬ (nn : Int) < 16 := by omega
    have q2 : (16 : Int) ≤ nn := by omega
    rw [lB] at x4
    go_upto_region 9 with fail
    obtain ⟨xx, hxx⟩ : ∃ xx : Int, xx = 0 := ⟨_, rfl⟩
    rw [← hxx] at ce3
    have F4 := F3; have ct4 := ct3; have ce4 := ce3; have zt4 := zt3; have ze4 := ze3; have hs4 := hs3
    clear F3 ct3 ce3 zt3 ze3 hs3
    refine wp_region_locals (fun i v W => match i with
      | 0 => v = .string (ofL Bd)
      | 1 => v = .string (ofL N)
      | 2 => v = .string (ofL Bd)
      | 3 => v = .string (ofL C)
      | 4 => v = .string (ofL N)
      | 5 => v = .string (ofL C)
      | _ => True) (by kernel_rfl) (by kernel_rfl) (by kernel_rfl) ?_ ?_ ?_
    · intro i v W1 W2 e1 e2 h
      match i, h with
      | 0, h => exact h
      | 1, h => exact h
      | 2, h => exact h
      | 3, h => exact h
      | 4, h => exact h
      | 5, h => exact h
      | (i + 6), h => exact h
    · refine locals_cons (fun u W hW hd => leaves_val rfl (v := .string (ofL Bd)) (by go_simp) rfl) ?_
      refine locals_cons (fun u W hW hd => ?_) ?_
      · have h0 : u 0 = _ := hd 0 (by kernel_rfl)
        exact leaves_val rfl (v := .string (ofL N)) (by go_simp) rfl
      refine locals_cons (fun u W hW hd => leaves_val rfl (v := .string (ofL Bd)) (by go_simp) rfl) ?_
      refine locals_cons (fun u W hW hd => ?_) ?_
      · have h2 : u 2 = _ := hd 2 (by kernel_rfl)
        exact leaves_val rfl (v := .string (ofL C)) (by go_simp) rfl
      refine locals_cons (fun u W hW hd => ?_) ?_
      · have h1 : u 1 = _ := hd 1 (by kernel_rfl)
        exact leaves_val rfl (v := .string (ofL N)) (by go_simp) rfl
      refine locals_cons (fun u W hW hd => ?_) locals_nil
      · have h3 : u 3 = _ := hd 3 (by kernel_rfl)
        exact leaves_val rfl (v := .string (ofL C)) (by go_simp) rfl
    · intro u2 W5 E5 hV2
      have h8 : u2 4 = .string (ofL N) := hV2 4 (by decide)
      have h9 : u2 5 = .string (ofL C) := hV2 5 (by decide)
      clear hV2
      have ct5 := ((bcell E5).1 w.heap.size 0 (by omega)).trans ct4
      have ce5 := ((bcell E5).1 (w.heap.size + 1) 0 (by omega)).trans ce4
      have zt5 := ((bcell E5).2 w.heap.size 0 (by omega)).trans zt4
      have ze5 := ((bcell E5).2 (w.heap.size + 1) 0 (by omega)).trans ze4
      have hs5 : w.heap.size + 2 ≤ W5.heap.size := by have := E5.size; omega
      have F5 := F4.tr E5
      clear E5 F4 ct4 ce4 zt4 ze4 hs4
      go_simp
      go_upto_region 10 with fail
      obtain ⟨KS, hKS⟩ : ∃ KS : List (World → Prop), KS = [fun W => ∃ s, Has w.heap.size (.string s) W, fun W => Has w.heap.size (.string (ofL T)) W, fun W => Has (w.heap.size + 1) (.int .i64 xx) W] := ⟨_, rfl⟩
      have hs6 : ∀ W, Moves w.heap.size (w.heap.size + 2) KS W5 W → Ext w W ∧ w.heap.size + 2 ≤ W.heap.size := fun W m => ⟨F5.trans m.below, by have := m.size; omega⟩
      have HR : StepsRel (Moves w.heap.size (w.heap.size + 2) KS) := moves_steps _ _ KS (by rw [hKS]; intro K hK W h; simp at hK; rcases hK with rfl | rfl | rfl <;> exact h)
      have RE : ∀ {a b : World}, Moves w.heap.size (w.heap.size + 2) KS W5 a → Ext a b → Moves w.heap.size (w.heap.size + 2) KS a b := fun {a b} m e => moves_ext (by have := (hs6 _ m).2; omega) e (by
        rw [hKS]; intro K hK h; simp at hK
        rcases hK with rfl | rfl | rfl
        · obtain ⟨s, h⟩ := h; exact ⟨s, h.ext e⟩
        · exact h.ext e
        · exact h.ext e)
      have ht5 : ∃ s, Has w.heap.size (.string s) W5 := ⟨_, ct5, zt5⟩
      have he5 : Has (w.heap.size + 1) (.int .i64 xx) W5 := ⟨ce5, ze5⟩
      have kt : ∀ W, Moves w.heap.size (w.heap.size + 2) KS W5 W → ∃ s, Has w.heap.size (.string s) W := fun W m => m.keeps (fun W => ∃ s, Has w.heap.size (.string s) W) (by rw [hKS]; simp) ht5
      have ke : ∀ W, Moves w.heap.size (w.heap.size + 2) KS W5 W → Has (w.heap.size + 1) (.int .i64 xx) W := fun W m => m.keeps (fun W => Has (w.heap.size + 1) (.int .i64 xx) W) (by rw [hKS]; simp) he5
      clear ct5 ce5 zt5 ze5
      refine wp_region_rel HR (fun i v W => match i with
        | 0 => v = .string (ofL k)
        | 1 => ∃ b, w.heap.size + 2 ≤ b ∧ v = .slice (some ⟨b, 0, none⟩) 1 1 ∧ W.cell? ⟨b, 0, none⟩ = some (.string ⟨#[104, 105, 100, 101]⟩)
        | 2 => v = .string (ofL H)
        | 3 => v = .string (ofL N)
        | 4 => v = .string (ofL C)
        | 5 => v = .string (ofL T)
        | 6 => v = .int .i64 xx
        | 7 => Has w.heap.size (.string (ofL T)) W
        | _ => True) (by kernel_rfl) (by kernel_rfl) (by kernel_rfl) ?_ ?_ ?_
      · intro i v W1 W2 e1 e2 h
        match i, h with
        | 0, h => exact h
        | 1, ⟨b, h1, h2, h3⟩ => exact ⟨b, h1, h2, e2.cell h1 h3⟩
        | 2, h => exact h
        | 3, h => exact h
        | 4, h => exact h
        | 5, h => exact h
        | 6, h => exact h
        | 7, h => exact e2.keeps (fun W => Has w.heap.size (.string (ofL T)) W) (by rw [hKS]; simp) h
        | (i + 8), h => trivial
      · refine localsG_cons (fun u W hW hd => rel_val HR rfl (v := .string (ofL k)) (by go_simp) rfl) ?_
        refine localsG_cons (fun u W hW hd => ?_) ?_
        · exact rel_new rfl (v := .slice (some ⟨W.heap.size, 0, none⟩) 1 1) (w' := W.alloc (.cells #[.string ⟨#[104, 105, 100, 101]⟩] 9)) (by go_simp) (RE hW ((Ext.rfl' W).al _)) ⟨W.heap.size, (hs6 W hW).2, rfl, by simp [go_sem]⟩
        refine localsG_cons (fun u W hW hd => ?_) ?_
        · have h0 : u 0 = _ := hd 0 (by kernel_rfl)
          obtain ⟨b, hb, h1, hc⟩ := hd 1 (by kernel_rfl)
          exact rel_call rfl (f := 56) (args := #[.string (ofL k), .slice (some ⟨b, 0, none⟩) 1 1]) (by go_simp) ((k1.out W _ (hT.ext (hs6 W hW).1) (rd_one hc)).mono (by rintro e9 W9 ⟨rfl, h9⟩; exact ⟨_, rfl, RE hW h9, rfl⟩))
        refine localsG_cons (fun u W hW hd => rel_val HR rfl (v := .string (ofL N)) (by go_simp) rfl) ?_
        refine localsG_cons (fun u W hW hd => rel_val HR rfl (v := .string (ofL C)) (by go_simp) rfl) ?_
        refine localsG_cons (fun u W hW hd => ?_) ?_
        · have h2 : u 2 = _ := hd 2 (by kernel_rfl)
          have h3 : u 3 = _ := hd 3 (by kernel_rfl)
          have h4 : u 4 = _ := hd 4 (by kernel_rfl)
          exact rel_call rfl (f := 75) (args := #[.string (ofL H), .string (ofL N), .string (ofL C)]) (by go_simp) ((k2.out W (hT.ext (hs6 W hW).1)).mono (by rintro e9 W9 ⟨rfl, h9⟩; exact ⟨_, rfl, RE hW h9, rfl⟩))
        refine localsG_cons (fun u W hW hd => ?_) ?_
        · obtain ⟨hc, hz⟩ := ke W hW
          exact rel_val HR rfl (v := .int .i64 xx) (by go_simp) rfl
        refine localsG_cons (fun u W hW hd => ?_) ?_
        · have h5 : u 5 = _ := hd 5 (by kernel_rfl)
          obtain ⟨sx, hx⟩ := kt W hW
          have hc := hx.1
          have hz := hx.2
          exact rel_skip rfl (w' := W.setCell ⟨w.heap.size, 0, none⟩ (.string (ofL T))) (by go_simp) (moves_set (Nat.le_refl _) (by omega) _ (by
            rw [hKS]; intro K hK h; simp at hK
            rcases hK with rfl | rfl | rfl
            · exact ⟨_, hx.set _⟩
            · exact hx.set _
            · exact h.setNe (by omega) _)) (hx.set _)
        refine localsG_cons (fun u W hW hd => ?_) localsG_nil
        · have h6 : u 6 = _ := hd 6 (by kernel_rfl)
          have hx := ke W hW
          have hc := hx.1
          have hz := hx.2
          exact rel_skip rfl (w' := W.setCell ⟨w.heap.size + 1, 0, none⟩ (.int .i64 xx)) (by go_simp) (moves_set (by omega) (by omega) _ (by
            rw [hKS]; intro K hK h; simp at hK
            rcases hK with rfl | rfl | rfl
            · obtain ⟨s, h⟩ := h; exact ⟨s, h.setNe (by omega) _⟩
            · exact h.setNe (by omega) _
            · exact hx.set _)) trivial
      · intro u3 W6 m6 hV3
        have h5 : u3 5 = .string (ofL T) := hV3 5 (by decide)
        have h6 : u3 6 = .int .i64 xx := hV3 6 (by decide)
        have hh6 : Has w.heap.size (.string (ofL T)) W6 := hV3 7 (by decide)
        have hh7 := ke W6 m6
        have F6 := (hs6 W6 m6).1
        clear hV3 m6 ke kt he5 ht5 RE HR hs6 hKS F5 hs5 hT k1 k2 x3 x4
        go_simp
        go_wp2
        refine leaves_cons (f := 81) (args := #[.pointer (some ⟨w.heap.size + 1, 0, none⟩), .pointer (some ⟨w.heap.size, 0, none⟩)]) (by simp) (by simp [go_sem]) ?_
        subst hxx
        refine (shut_ok (w.heap.size + 1) w.heap.size W6 hh7.1 .returning).mono ?_
        rintro e u' w'' ⟨rfl, rfl, rfl⟩
        have q1 := hh6.1
        have q2 := hh7.1
        clear hmf
        refine ⟨.tuple #[.string (ofL T), .int .i64 0], ?_, ?_⟩
        · simp [results, Tryz.results39, go_sem, q1, q2]
        · exact ⟨rfl, F6⟩
set_option maxRecDepth 100000 in
set_option maxHeartbeats 4000000 in
theorem open_bad (k s : List UInt8) (w : World) (hT : Tab w) (nn : Nat) (hnn : s.length - 32 = nn) (g1 : 48 ≤ s.length) (g2 : s.length ≤ 4144) (H TK S Bd D N C T : List UInt8)
    (hB : s.take nn = Bd) (hD : s.drop nn = D) (hN : Bd.take 16 = N) (hC : Bd.drop 16 = C)
    (c1 : ∀ W v, Tab W → Rd W W.heap.size 1 v 1 ([([104, 105, 100, 101] : List UInt8)].map Str) → Calls Tryz.prog 56 #[.string (ofL k), v] W fun e w' => e = .returned (.string (ofL H)) ∧ Ext W w')
    (c2 : ∀ W, Tab W → Calls Tryz.prog 75 #[.string (ofL H), .string (ofL N), .string (ofL C)] W fun e w' => e = .returned (.string (ofL T)) ∧ Ext W w')
    (c3 : ∀ W, Tab W → Calls Tryz.prog 56 #[.string (ofL k), .slice (some ⟨W.heap.size, 0, none⟩) 1 1] (W.alloc (.cells #[.string ⟨#[116, 97, 103]⟩] 9)) fun e w' => e = .returned (.string (ofL TK)) ∧ Ext W w')
    (c4 : ∀ W, Tab W → Calls Tryz.prog 76 #[.string (ofL TK), .string (ofL Bd)] W fun e w' => e = .returned (.string (ofL S)) ∧ Ext W w')
    (c5 : ∀ W, Calls Tryz.prog 82 #[.string (ofL S), .string (ofL D)] W fun e w' => e = .returned (.bool false) ∧ Ext W w') :
    Calls Tryz.prog 39 #[.string (ofL k), .string (ofL s)] w fun e w' => e = .returned (.tuple #[.string ⟨#[]⟩, .int .i64 8]) ∧ Ext w w' := by
  have zs : (ofL s).size = s.length := size_ofL _
  have hmf : ∀ (fn : Fn) (first cap : Array Value) (w : World), (Instr.makeFunc fn first cap).run Tryz.prog w = .ok (.func fn first cap) w := fun _ _ _ _ => rfl
  have hni : (s.length : Int) - 32 = nn := by omega
  have hn1 : 16 ≤ nn := by omega
  have hn2 : nn ≤ s.length := by omega
  have hw1 : IntKind.i64.wrap (nn : Int) = nn := IntWalk.i64_in _ (by omega)
  have x1 : (ofL s).extract 0 nn = ofL Bd := by rw [extract_to, toL_ofL, hB]
  have x2 : (ofL s).extract nn s.length = ofL D := by rw [← size_ofL s, extract_from, toL_ofL, hD]
  have lB : Bd.length = nn := by rw [← hB, List.length_take]; omega
  have zB : (ofL Bd).size = Bd.length := size_ofL _
  have x3 : (ofL Bd).extract 0 16 = ofL N := by rw [extract_to, toL_ofL, hN]
  have x4 : (ofL Bd).extract 16 Bd.length = ofL C := by rw [← size_ofL Bd, extract_from, toL_ofL, hC]
  have k1 := Kp.mk c1; have k2 := Kp.mk c2; have k3 := Kp.mk c3; have k4 := Kp.mk c4; have k5 := Kp.mk c5
  clear c1 c2 c3 c4 c5 hB hD hN hC
  go_enter_defers Tryz.func39, Tryz.ntmps39
  go_upto_region 6 with fail
  refine wp_region_locals (fun i v W => match i with
    | 0 => v = .string (ofL s)
    | 1 => v = .string (ofL s)
    | 2 => v = .int .i64 s.length
    | 3 => v = .int .i64 nn
    | 4 => v = .string (ofL Bd)
    | 5 => v = .string (ofL s)
    | 6 => v = .string (ofL s)
    | 7 => v = .int .i64 s.length
    | 8 => v = .int .i64 nn
    | 9 => v = .string (ofL D)
    | 10 => v = .string (ofL Bd)
    | 11 => v = .string (ofL D)
    | _ => True) (by kernel_rfl) (by kernel_rfl) (by kernel_rfl) ?_ ?_ ?_
  · intro i v W1 W2 e1 e2 h
    match i, h with
    | 0, h => exact h
    | 1, h => exact h
    | 2, h => exact h
    | 3, h => exact h
    | 4, h => exact h
    | 5, h => exact h
    | 6, h => exact h
    | 7, h => exact h
    | 8, h => exact h
    | 9, h => exact h
    | 10, h => exact h
    | 11, h => exact h
    | (i + 12), h => exact h
  · refine locals_cons (fun u W hW hd => leaves_val rfl (v := .string (ofL s)) (by go_simp) rfl) ?_
    refine locals_cons (fun u W hW hd => leaves_val rfl (v := .string (ofL s)) (by go_simp) rfl) ?_
    refine locals_cons (fun u W hW hd => ?_) ?_
    · have h1 : u 1 = _ := hd 1 (by kernel_rfl)
      exact leaves_val rfl (v := .int .i64 s.length) (by go_simp) rfl
    refine locals_cons (fun u W hW hd => ?_) ?_
    · have h2 : u 2 = _ := hd 2 (by kernel_rfl)
      exact leaves_val rfl (v := .int .i64 nn) (by go_simp) rfl
    refine locals_cons (fun u W hW hd => ?_) ?_
    · have h0 : u 0 = _ := hd 0 (by kernel_rfl)
      have h3 : u 3 = _ := hd 3 (by kernel_rfl)
      exact leaves_val rfl (v := .string (ofL Bd)) (by go_simp) rfl
    refine locals_cons (fun u W hW hd => leaves_val rfl (v := .string (ofL s)) (by go_simp) rfl) ?_
    refine locals_cons (fun u W hW hd => leaves_val rfl (v := .string (ofL s)) (by go_simp) rfl) ?_
    refine locals_cons (fun u W hW hd => ?_) ?_
    · have h6 : u 6 = _ := hd 6 (by kernel_rfl)
      exact leaves_val rfl (v := .int .i64 s.length) (by go_simp) rfl
    refine locals_cons (fun u W hW hd => ?_) ?_
    · have h7 : u 7 = _ := hd 7 (by kernel_rfl)
      exact leaves_val rfl (v := .int .i64 nn) (by go_simp) rfl
    refine locals_cons (fun u W hW hd => ?_) ?_
    · have h5 : u 5 = _ := hd 5 (by kernel_rfl)
      have h8 : u 8 = _ := hd 8 (by kernel_rfl)
      exact leaves_val rfl (v := .string (ofL D)) (by go_simp) rfl
    refine locals_cons (fun u W hW hd => ?_) ?_
    · have h4 : u 4 = _ := hd 4 (by kernel_rfl)
      exact leaves_val rfl (v := .string (ofL Bd)) (by go_simp) rfl
    refine locals_cons (fun u W hW hd => ?_) locals_nil
    · have h9 : u 9 = _ := hd 9 (by kernel_rfl)
      exact leaves_val rfl (v := .string (ofL D)) (by go_simp) rfl
  · intro u W hW hV
    have h6 : u 10 = .string (ofL Bd) := hV 10 (by decide)
    have h7 : u 11 = .string (ofL D) := hV 11 (by decide)
    clear hV
    have F0 : Ext w W := (((Ext.rfl' w).al _).al _).tr hW
    have ct0 := ((bcell hW).1 w.heap.size 0 (by simp; omega)).trans (show _ = some (Value.string ⟨#[]⟩) by simp [go_sem, World.cell?_alloc_past])
    have ce0 := ((bcell hW).1 (w.heap.size + 1) 0 (by simp)).trans (show _ = some (Value.int .i64 0) by simp [go_sem])
    have zt0 := ((bcell hW).2 w.heap.size 0 (by simp; omega)).trans (show _ = false by simp [go_sem])
    have ze0 := ((bcell hW).2 (w.heap.size + 1) 0 (by simp)).trans (show _ = false by simp [go_sem])
    have hs0 : w.heap.size + 2 ≤ W.heap.size := by have := hW.size; simpa using this
    clear hW
    go_simp
    go_wp2_with fail
    refine (k3.out _ (hT.ext F0)).mono ?_
    rintro e w1 ⟨rfl, E1⟩
    go_wp2_with fail
    refine (k4.out _ (hT.ext (F0.tr E1))).mono ?_
    rintro e w2 ⟨rfl, E2⟩
    have E12 := E1.tr E2
    clear E1 E2
    go_wp2_with fail
    refine (k5.out _).mono ?_
    rintro e w3 ⟨rfl, E3⟩
    have E13 := E12.tr E3
    clear E12 E3
    have F3 := F0.tr E13
    have ct3 := ((bcell E13).1 w.heap.size 0 (by omega)).trans ct0
    have ce3 := ((bcell E13).1 (w.heap.size + 1) 0 (by omega)).trans ce0
    have zt3 := ((bcell E13).2 w.heap.size 0 (by omega)).trans zt0
    have ze3 := ((bcell E13).2 (w.heap.size + 1) 0 (by omega)).trans ze0
    have hs3 : w.heap.size + 2 ≤ w3.heap.size := by have := E13.size; omega
    clear ct0 ce0 zt0 ze0 hs0 F0 E13
    clear k3 k4 k5 x1 x2 h6 h7
    have q1 : ¬ (nn : Int) < 16 := by omega
    have q2 : (16 : Int) ≤ nn := by omega
    rw [lB] at x4
    go_upto_region 9 with fail
    obtain ⟨xx, hxx⟩ : ∃ xx : Int, xx = 8 := ⟨_, rfl⟩
    rw [← hxx]
    have hy : Has w.heap.size (.string ⟨#[]⟩) w3 := ⟨ct3, zt3⟩
    have hz : Has (w.heap.size + 1) (.int .i64 0) w3 := ⟨ce3, ze3⟩
    have hy2 := hy.setNe (c := w.heap.size + 1) (by omega) (.int .i64 xx)
    have hz2 := hz.set (.int .i64 xx)
    have F4 : Ext w (w3.setCell ⟨w.heap.size + 1, 0, none⟩ (.int .i64 xx)) := F3.st (by show w.heap.size ≤ w.heap.size + 1; omega) _
    have hs4 : w.heap.size + 2 ≤ (w3.setCell ⟨w.heap.size + 1, 0, none⟩ (.int .i64 xx)).heap.size := by simp; omega
    obtain ⟨ct4, zt4⟩ := hy2
    obtain ⟨ce4, ze4⟩ := hz2
    clear F3 ct3 ce3 zt3 ze3 hs3 hy hz
    refine wp_region_locals (fun i v W => match i with
      | 0 => v = .string (ofL Bd)
      | 1 => v = .string (ofL N)
      | 2 => v = .string (ofL Bd)
      | 3 => v = .string (ofL C)
      | 4 => v = .string (ofL N)
      | 5 => v = .string (ofL C)
      | _ => True) (by kernel_rfl) (by kernel_rfl) (by kernel_rfl) ?_ ?_ ?_
    · intro i v W1 W2 e1 e2 h
      match i, h with
      | 0, h => exact h
      | 1, h => exact h
      | 2, h => exact h
      | 3, h => exact h
      | 4, h => exact h
      | 5, h => exact h
      | (i + 6), h => exact h
    · refine locals_cons (fun u W hW hd => leaves_val rfl (v := .string (ofL Bd)) (by go_simp) rfl) ?_
      refine locals_cons (fun u W hW hd => ?_) ?_
      · have h0 : u 0 = _ := hd 0 (by kernel_rfl)
        exact leaves_val rfl (v := .string (ofL N)) (by go_simp) rfl
      refine locals_cons (fun u W hW hd => leaves_val rfl (v := .string (ofL Bd)) (by go_simp) rfl) ?_
      refine locals_cons (fun u W hW hd => ?_) ?_
      · have h2 : u 2 = _ := hd 2 (by kernel_rfl)
        exact leaves_val rfl (v := .string (ofL C)) (by go_simp) rfl
      refine locals_cons (fun u W hW hd => ?_) ?_
      · have h1 : u 1 = _ := hd 1 (by kernel_rfl)
        exact leaves_val rfl (v := .string (ofL N)) (by go_simp) rfl
      refine locals_cons (fun u W hW hd => ?_) locals_nil
      · have h3 : u 3 = _ := hd 3 (by kernel_rfl)
        exact leaves_val rfl (v := .string (ofL C)) (by go_simp) rfl
    · intro u2 W5 E5 hV2
      have h8 : u2 4 = .string (ofL N) := hV2 4 (by decide)
      have h9 : u2 5 = .string (ofL C) := hV2 5 (by decide)
      clear hV2
      have ct5 := ((bcell E5).1 w.heap.size 0 (by omega)).trans ct4
      have ce5 := ((bcell E5).1 (w.heap.size + 1) 0 (by omega)).trans ce4
      have zt5 := ((bcell E5).2 w.heap.size 0 (by omega)).trans zt4
      have ze5 := ((bcell E5).2 (w.heap.size + 1) 0 (by omega)).trans ze4
      have hs5 : w.heap.size + 2 ≤ W5.heap.size := by have := E5.size; omega
      have F5 := F4.tr E5
      clear E5 F4 ct4 ce4 zt4 ze4 hs4
      go_simp
      go_upto_region 10 with fail
      obtain ⟨KS, hKS⟩ : ∃ KS : List (World → Prop), KS = [fun W => ∃ s, Has w.heap.size (.string s) W, fun W => Has w.heap.size (.string (ofL T)) W, fun W => Has (w.heap.size + 1) (.int .i64 xx) W] := ⟨_, rfl⟩
      have hs6 : ∀ W, Moves w.heap.size (w.heap.size + 2) KS W5 W → Ext w W ∧ w.heap.size + 2 ≤ W.heap.size := fun W m => ⟨F5.trans m.below, by have := m.size; omega⟩
      have HR : StepsRel (Moves w.heap.size (w.heap.size + 2) KS) := moves_steps _ _ KS (by rw [hKS]; intro K hK W h; simp at hK; rcases hK with rfl | rfl | rfl <;> exact h)
      have RE : ∀ {a b : World}, Moves w.heap.size (w.heap.size + 2) KS W5 a → Ext a b → Moves w.heap.size (w.heap.size + 2) KS a b := fun {a b} m e => moves_ext (by have := (hs6 _ m).2; omega) e (by
        rw [hKS]; intro K hK h; simp at hK
        rcases hK with rfl | rfl | rfl
        · obtain ⟨s, h⟩ := h; exact ⟨s, h.ext e⟩
        · exact h.ext e
        · exact h.ext e)
      have ht5 : ∃ s, Has w.heap.size (.string s) W5 := ⟨_, ct5, zt5⟩
      have he5 : Has (w.heap.size + 1) (.int .i64 xx) W5 := ⟨ce5, ze5⟩
      have kt : ∀ W, Moves w.heap.size (w.heap.size + 2) KS W5 W → ∃ s, Has w.heap.size (.string s) W := fun W m => m.keeps (fun W => ∃ s, Has w.heap.size (.string s) W) (by rw [hKS]; simp) ht5
      have ke : ∀ W, Moves w.heap.size (w.heap.size + 2) KS W5 W → Has (w.heap.size + 1) (.int .i64 xx) W := fun W m => m.keeps (fun W => Has (w.heap.size + 1) (.int .i64 xx) W) (by rw [hKS]; simp) he5
      clear ct5 ce5 zt5 ze5
      refine wp_region_rel HR (fun i v W => match i with
        | 0 => v = .string (ofL k)
        | 1 => ∃ b, w.heap.size + 2 ≤ b ∧ v = .slice (some ⟨b, 0, none⟩) 1 1 ∧ W.cell? ⟨b, 0, none⟩ = some (.string ⟨#[104, 105, 100, 101]⟩)
        | 2 => v = .string (ofL H)
        | 3 => v = .string (ofL N)
        | 4 => v = .string (ofL C)
        | 5 => v = .string (ofL T)
        | 6 => v = .int .i64 xx
        | 7 => Has w.heap.size (.string (ofL T)) W
        | _ => True) (by kernel_rfl) (by kernel_rfl) (by kernel_rfl) ?_ ?_ ?_
      · intro i v W1 W2 e1 e2 h
        match i, h with
        | 0, h => exact h
        | 1, ⟨b, h1, h2, h3⟩ => exact ⟨b, h1, h2, e2.cell h1 h3⟩
        | 2, h => exact h
        | 3, h => exact h
        | 4, h => exact h
        | 5, h => exact h
        | 6, h => exact h
        | 7, h => exact e2.keeps (fun W => Has w.heap.size (.string (ofL T)) W) (by rw [hKS]; simp) h
        | (i + 8), h => trivial
      · refine localsG_cons (fun u W hW hd => rel_val HR rfl (v := .string (ofL k)) (by go_simp) rfl) ?_
        refine localsG_cons (fun u W hW hd => ?_) ?_
        · exact rel_new rfl (v := .slice (some ⟨W.heap.size, 0, none⟩) 1 1) (w' := W.alloc (.cells #[.string ⟨#[104, 105, 100, 101]⟩] 9)) (by go_simp) (RE hW ((Ext.rfl' W).al _)) ⟨W.heap.size, (hs6 W hW).2, rfl, by simp [go_sem]⟩
        refine localsG_cons (fun u W hW hd => ?_) ?_
        · have h0 : u 0 = _ := hd 0 (by kernel_rfl)
          obtain ⟨b, hb, h1, hc⟩ := hd 1 (by kernel_rfl)
          exact rel_call rfl (f := 56) (args := #[.string (ofL k), .slice (some ⟨b, 0, none⟩) 1 1]) (by go_simp) ((k1.out W _ (hT.ext (hs6 W hW).1) (rd_one hc)).mono (by rintro e9 W9 ⟨rfl, h9⟩; exact ⟨_, rfl, RE hW h9, rfl⟩))
        refine localsG_cons (fun u W hW hd => rel_val HR rfl (v := .string (ofL N)) (by go_simp) rfl) ?_
        refine localsG_cons (fun u W hW hd => rel_val HR rfl (v := .string (ofL C)) (by go_simp) rfl) ?_
        refine localsG_cons (fun u W hW hd => ?_) ?_
        · have h2 : u 2 = _ := hd 2 (by kernel_rfl)
          have h3 : u 3 = _ := hd 3 (by kernel_rfl)
          have h4 : u 4 = _ := hd 4 (by kernel_rfl)
          exact rel_call rfl (f := 75) (args := #[.string (ofL H), .string (ofL N), .string (ofL C)]) (by go_simp) ((k2.out W (hT.ext (hs6 W hW).1)).mono (by rintro e9 W9 ⟨rfl, h9⟩; exact ⟨_, rfl, RE hW h9, rfl⟩))
        refine localsG_cons (fun u W hW hd => ?_) ?_
        · obtain ⟨hc, hz⟩ := ke W hW
          exact rel_val HR rfl (v := .int .i64 xx) (by go_simp) rfl
        refine localsG_cons (fun u W hW hd => ?_) ?_
        · have h5 : u 5 = _ := hd 5 (by kernel_rfl)
          obtain ⟨sx, hx⟩ := kt W hW
          have hc := hx.1
          have hz := hx.2
          exact rel_skip rfl (w' := W.setCell ⟨w.heap.size, 0, none⟩ (.string (ofL T))) (by go_simp) (moves_set (Nat.le_refl _) (by omega) _ (by
            rw [hKS]; intro K hK h; simp at hK
            rcases hK with rfl | rfl | rfl
            · exact ⟨_, hx.set _⟩
            · exact hx.set _
            · exact h.setNe (by omega) _)) (hx.set _)
        refine localsG_cons (fun u W hW hd => ?_) localsG_nil
        · have h6 : u 6 = _ := hd 6 (by kernel_rfl)
          have hx := ke W hW
          have hc := hx.1
          have hz := hx.2
          exact rel_skip rfl (w' := W.setCell ⟨w.heap.size + 1, 0, none⟩ (.int .i64 xx)) (by go_simp) (moves_set (by omega) (by omega) _ (by
            rw [hKS]; intro K hK h; simp at hK
            rcases hK with rfl | rfl | rfl
            · obtain ⟨s, h⟩ := h; exact ⟨s, h.setNe (by omega) _⟩
            · exact h.setNe (by omega) _
            · exact hx.set _)) trivial
      · intro u3 W6 m6 hV3
        have h5 : u3 5 = .string (ofL T) := hV3 5 (by decide)
        have h6 : u3 6 = .int .i64 xx := hV3 6 (by decide)
        have hh6 : Has w.heap.size (.string (ofL T)) W6 := hV3 7 (by decide)
        have hh7 := ke W6 m6
        have F6 := (hs6 W6 m6).1
        clear hV3 m6 ke kt he5 ht5 RE HR hs6 hKS F5 hs5 hT k1 k2 x3 x4
        go_simp
        go_wp2
        refine leaves_cons (f := 81) (args := #[.pointer (some ⟨w.heap.size + 1, 0, none⟩), .pointer (some ⟨w.heap.size, 0, none⟩)]) (by simp) (by simp [go_sem]) ?_
        subst hxx
        refine (shut_bad (w.heap.size + 1) w.heap.size 8 _ W6 (by decide) hh7.1 hh6.1 hh6.2 .returning).mono ?_
        rintro e u' w'' ⟨rfl, rfl, rfl⟩
        have q1 := (hh6.set (.string ⟨#[]⟩)).1
        have q2 := (hh7.setNe (c := w.heap.size) (by omega) (.string ⟨#[]⟩)).1
        clear hmf
        refine ⟨.tuple #[.string ⟨#[]⟩, .int .i64 8], ?_, ?_⟩
        · simp [results, Tryz.results39, go_sem, q1, q2]
        · exact ⟨rfl, F6.st (Nat.le_refl _) _⟩
end Go.Proofs.YtejhiekikblbiaaGreatDoor

namespace Go.Proofs.YtejhiekikblbiaaGreatDoor
open Go.RowKit

theorem open_any (k s : List UInt8) (w : World) (hT : Tab w) (hk : k.length ≤ 100000) : Calls Tryz.prog 39 #[.string (ofL k), .string (ofL s)] w fun e w' => e = .returned (resV (openR k s)) ∧ Ext w w' := by
  by_cases g1 : s.length < 48
  · rw [openR_end g1]; exact open_end k s w g1
  · by_cases g2 : 4144 < s.length
    · rw [openR_limit g2]; exact open_limit k s w g2
    · have hN : (s.take (s.length - 32)).take 16 = s.take 16 := by rw [List.take_take, Nat.min_eq_left (by omega)]
      have lB : (s.take (s.length - 32)).length = s.length - 32 := by rw [List.length_take]; omega
      have lC : ((s.take (s.length - 32)).drop 16).length ≤ 5000 := by rw [List.length_drop, lB]; omega
      have lN : (s.take 16).length ≤ 16 := by rw [List.length_take]; omega
      have lH : (hideKL k).length = 32 := length_partsL _ _
      have lTK : (tagKL k).length = 32 := length_partsL _ _
      have lS : (hmacL (tagKL k) (s.take (s.length - 32))).length = 32 := length_hmacL _ _
      have c1 : ∀ W v, Tab W → Rd W W.heap.size 1 v 1 ([([104, 105, 100, 101] : List UInt8)].map Str) → Calls Tryz.prog 56 #[.string (ofL k), v] W fun e w' => e = .returned (.string (ofL (hideKL k))) ∧ Ext W w' :=
        fun W v h1 h2 => parts_any k [hideS] v W h1 (by omega) h2 (by rw [len_hide]; omega)
      have c2 : ∀ W, Tab W → Calls Tryz.prog 75 #[.string (ofL (hideKL k)), .string (ofL (s.take 16)), .string (ofL ((s.take (s.length - 32)).drop 16))] W fun e w' => e = .returned (.string (ofL (smixL (hideKL k) (s.take 16) ((s.take (s.length - 32)).drop 16)))) ∧ Ext W w' :=
        fun W h => mix_any _ _ _ W h (by omega) (by omega) (by omega)
      have c3 : ∀ W, Tab W → Calls Tryz.prog 56 #[.string (ofL k), .slice (some ⟨W.heap.size, 0, none⟩) 1 1] (W.alloc (.cells #[.string ⟨#[116, 97, 103]⟩] 9)) fun e w' => e = .returned (.string (ofL (tagKL k))) ∧ Ext W w' :=
        fun W h => parts_lit k [tagS] #[.string ⟨#[116, 97, 103]⟩] rfl 1 rfl W h (by omega) (by rw [len_tag]; omega) (by omega)
      have c4 : ∀ W, Tab W → Calls Tryz.prog 76 #[.string (ofL (tagKL k)), .string (ofL (s.take (s.length - 32)))] W fun e w' => e = .returned (.string (ofL (hmacL (tagKL k) (s.take (s.length - 32))))) ∧ Ext W w' :=
        fun W h => hmac_any _ _ W h (by omega) (by omega)
      have c5 : ∀ W, _ := fun W => same_any (hmacL (tagKL k) (s.take (s.length - 32))) (s.drop (s.length - 32)) W (by omega) (by rw [List.length_drop]; omega)
      rw [openR_mid (by omega) (by omega)]
      by_cases he : hmacL (tagKL k) (s.take (s.length - 32)) = s.drop (s.length - 32)
      · rw [if_pos he]
        exact open_good k s w hT _ rfl (by omega) (by omega) _ _ _ _ _ _ _ _ rfl rfl hN rfl c1 c2 c3 c4 (fun W => (c5 W).mono fun e w' h => ⟨h.1.trans (by rw [decide_eq_true lS, ← he]; simp), h.2⟩)
      · rw [if_neg he]
        exact open_bad k s w hT _ rfl (by omega) (by omega) _ _ _ _ _ _ _ _ rfl rfl hN rfl c1 c2 c3 c4 (fun W => (c5 W).mono fun e w' h => ⟨h.1.trans (by rw [beq_eq_false_iff_ne.2 he, Bool.and_false]), h.2⟩)

set_option maxRecDepth 100000 in
set_option maxHeartbeats 2000000 in
theorem rboxTexts_any (k s : List UInt8) (w : World) (hk : k.length ≤ 100000) (h1 : 48 ≤ s.length) (h2 : s.length ≤ 4144) : Calls Tryz.prog 53 #[.string (ofL k), .string (ofL s)] w (RetOwn w 9 1 4 ((boxT k s).map Str)) := by
  have zs : (ofL s).size = s.length := size_ofL _
  obtain ⟨nn, hnn⟩ : ∃ nn, s.length - 32 = nn := ⟨_, rfl⟩
  have hni : (s.length : Int) - 32 = nn := by omega
  have hw1 : IntKind.i64.wrap (nn : Int) = nn := IntWalk.i64_in _ (by omega)
  have hn2 : nn ≤ s.length := by omega
  obtain ⟨Bd, hB⟩ : ∃ Bd, s.take nn = Bd := ⟨_, rfl⟩
  have lB : Bd.length = nn := by rw [← hB, List.length_take]; omega
  have x1 : (ofL s).extract 0 nn = ofL Bd := by rw [extract_to, toL_ofL, hB]
  obtain ⟨T, hT⟩ : ∃ T, tagKL k = T := ⟨_, rfl⟩
  have lT : T.length = 32 := by rw [← hT]; exact length_partsL _ _
  obtain ⟨F, hF⟩ : ∃ F, frameL [tagS] = F := ⟨_, rfl⟩
  have lF : F.length = 11 := by rw [← hF]; exact len_tag
  have cF := Kp.mk (show ∀ W, Calls Tryz.prog 38 #[.slice (some ⟨W.heap.size, 0, none⟩) 1 1] (W.alloc (.cells #[.string ⟨#[116, 97, 103]⟩] 9)) fun e w' => e = .returned (.string (ofL F)) ∧ Ext W w' from fun W => by
    rw [← hF]
    exact (rframe_any [tagS] _ _ (rd_lit W 9 #[.string ⟨#[116, 97, 103]⟩] 1 rfl (by decide)) (by rw [len_tag]; omega)).mono fun e w' h => ⟨h.1, ((Ext.rfl' W).al _).tr h.2⟩)
  have cX := Kp.mk (show ∀ W : World, _ from fun W => rtexts_any k F W (by omega) (by omega))
  have cP := Kp.mk (show ∀ W v, Rd W W.heap.size 1 v 1 ([tagS].map Str) → Calls Tryz.prog 43 #[.string (ofL k), v] W fun e w' => e = .returned (.string (ofL T)) ∧ Ext W w' from fun W v h => by rw [← hT]; exact rparts_any k [tagS] v W (by omega) h (by rw [len_tag]; omega))
  have cY := Kp.mk (show ∀ W, Calls Tryz.prog 52 #[.string (ofL T), .string (ofL Bd)] W fun e w' => ∃ v, e = .returned v ∧ Ext W w' ∧ Rd w' w'.heap.size 1 v 2 [Str (innerL T Bd), Str (outerL T Bd)] from fun W => (rtexts_any T Bd W (by omega) (by omega)).mono fun e w' ⟨v, h1, h2, h3⟩ => ⟨v, h1, h3, Rd.own h2 (by decide)⟩)
  have hb := Kp.mk (show boxT k s = [innerL k F, outerL k F] ++ [innerL T Bd, outerL T Bd] by unfold boxT pairT; rw [hF, hT, hnn, hB])
  clear hnn hB hT hF
  go_enter Tryz.func53, Tryz.ntmps53
  go_wp2_with fail
  refine (cF.out _).mono ?_
  rintro e w1 ⟨rfl, E1⟩
  go_wp2_with fail
  refine (cX.out _).mono ?_
  rintro e w2 ⟨v2, rfl, own2, E2⟩
  have F2 := E1.tr E2
  have hs1 := E1.size
  have hs12 := E2.size
  clear E2
  go_upto_region 4 with fail
  refine wp_region_tails (fun i v W => match i with
    | 0 => v = v2
    | 1 => v = .string (ofL k)
    | 2 => Rd W W.heap.size 1 v 1 ([tagS].map Str)
    | 3 => v = .string (ofL T)
    | 4 => v = .string (ofL s)
    | 5 => v = .string (ofL s)
    | 6 => v = .int .i64 s.length
    | 7 => v = .int .i64 nn
    | 8 => v = .string (ofL Bd)
    | 9 => Rd W W.heap.size 1 v 2 ([Str (innerL T Bd), Str (outerL T Bd)])
    | _ => True) 10 (by kernel_rfl) (by kernel_rfl) (by kernel_rfl) (by decide) (by kernel_rfl) (by kernel_rfl) (by kernel_rfl) ?_ ?_ ?_
  · intro i v W1 W2 e1 e2 h
    match i, h with
    | 0, h => exact h
    | 1, h => exact h
    | 2, h => exact rd_at h e2
    | 3, h => exact h
    | 4, h => exact h
    | 5, h => exact h
    | 6, h => exact h
    | 7, h => exact h
    | 8, h => exact h
    | 9, h => exact rd_at h e2
    | (i + 10), h => exact h
  · refine localsR_cons (fun u W hW hd => leaves_val rfl (v := v2) (by go_simp) rfl) ?_
    refine localsR_cons (fun u W hW hd => leaves_val rfl (v := .string (ofL k)) (by go_simp) rfl) ?_
    refine localsR_cons (fun u W hW hd => ?_) ?_
    · exact leaves_new rfl (v := .slice (some ⟨W.heap.size, 0, none⟩) 1 1) (by go_simp) ((Ext.rfl' W).al _) (rd_lit W 9 #[.string ⟨#[116, 97, 103]⟩] 1 rfl (by decide))
    refine localsR_cons (fun u W hW hd => ?_) ?_
    · have h1 : u 1 = _ := hd 1 (by kernel_rfl)
      have h2 := hd 2 (by kernel_rfl)
      exact leaves_call rfl (f := 43) (args := #[.string (ofL k), u 2]) (by go_simp) ((cP.out W _ h2).mono (by rintro e9 W9 ⟨rfl, h9⟩; exact ⟨_, rfl, h9, rfl⟩))
    refine localsR_cons (fun u W hW hd => leaves_val rfl (v := .string (ofL s)) (by go_simp) rfl) ?_
    refine localsR_cons (fun u W hW hd => leaves_val rfl (v := .string (ofL s)) (by go_simp) rfl) ?_
    refine localsR_cons (fun u W hW hd => ?_) ?_
    · have h5 : u 5 = _ := hd 5 (by kernel_rfl)
      exact leaves_val rfl (v := .int .i64 s.length) (by go_simp) rfl
    refine localsR_cons (fun u W hW hd => ?_) ?_
    · have h6 : u 6 = _ := hd 6 (by kernel_rfl)
      exact leaves_val rfl (v := .int .i64 nn) (by go_simp) rfl
    refine localsR_cons (fun u W hW hd => ?_) ?_
    · have h4 : u 4 = _ := hd 4 (by kernel_rfl)
      have h7 : u 7 = _ := hd 7 (by kernel_rfl)
      exact leaves_val rfl (v := .string (ofL Bd)) (by go_simp) rfl
    refine localsR_cons (fun u W hW hd => ?_) localsR_nil
    · have h3 : u 3 = _ := hd 3 (by kernel_rfl)
      have h8 : u 8 = _ := hd 8 (by kernel_rfl)
      exact leaves_call rfl (f := 52) (args := #[.string (ofL T), .string (ofL Bd)]) (by go_simp) (cY.out W)
  · intro u W hW hV
    have h0 : u 0 = v2 := hV 0 (by decide)
    obtain ⟨Ax, cx, h9, _, _, hcx⟩ := hV 9 (by decide)
    clear hV
    obtain ⟨bx, ox, rfl, hbx, hcx⟩ := hcx (by omega)
    have hown2 := own_ext own2 (fun j _ hj => hW.block j hj)
    have F3 := F2.tr hW
    have hs2 := F2.size
    have hs3 := F3.size
    have hsW := hW.size
    refine wpl_app_at Tryz.elemStr rfl _ _ rfl hown2 2 (by go_simp) (by go_simp; exact ⟨rfl, rfl⟩) rfl (fun j u hu => by rw [WideShapes.add_plain]; exact hcx j u hu) (by intro u hu; simp at hu; rcases hu with rfl | rfl <;> rfl) (by omega) (by omega) (by omega) ?_
    intro v3 w3 hown3 hg3
    have F4 := F3.own hg3 hown2 (by omega)
    clear hown2 own2 F3 hg3 F2 E1 hW hcx
    go_wp2
    refine bodyPost_ret (v := v3) (by simp [results, Tryz.results53, go_sem]) rfl ⟨v3, rfl, ?_, F4⟩
    exact own_eq (own_more hown3 (by omega)) (by rw [hb.out]; rfl) (by omega)

theorem j_opens : openR [106] (boxL [107] [48, 49, 50, 51, 52, 53, 54, 55, 56, 57, 97, 98, 99, 100, 101, 102] [116, 101, 120, 116]) = ([], 8) := by decide +kernel
end Go.Proofs.YtejhiekikblbiaaGreatDoor

namespace Go.Proofs.YtejhiekikblbiaaGreatDoor
open Go.RowKit

/-- A token: its ID, its links, its tag. -/
structure TokL where
  id : List UInt8
  links : List LinkL
  tag : List UInt8
def tok0 : TokL := ⟨[], [], []⟩
def withL (t : TokL) (x : LinkL) : TokL := ⟨t.id, t.links ++ [x], nextL t.tag x⟩
def addL (t : TokL) (s : List UInt8) : TokL × Nat := if 64 ≤ t.links.length ∨ 2048 < s.length then (tok0, 3) else (withL t (s, []), 0)
def thirdR (t : TokL) (cid key nonce : List UInt8) : TokL × Nat :=
  if 64 ≤ t.links.length ∨ 4144 < cid.length then (tok0, 3) else
  if (sealR (sealL t.tag) nonce key).2 = 0 then (withL t (cid, (sealR (sealL t.tag) nonce key).1), 0) else (tok0, (sealR (sealL t.tag) nonce key).2)
def bindT (t d : TokL) : TokL := ⟨d.id, d.links, bindL t.tag d.tag⟩
theorem addL_limit {t : TokL} {s : List UInt8} (h : 64 ≤ t.links.length ∨ 2048 < s.length) : addL t s = (tok0, 3) := if_pos h
theorem addL_ok {t : TokL} {s : List UInt8} (h1 : t.links.length < 64) (h2 : s.length ≤ 2048) : addL t s = (withL t (s, []), 0) := if_neg (by omega)
theorem thirdR_limit {t : TokL} {c k n : List UInt8} (h : 64 ≤ t.links.length ∨ 4144 < c.length) : thirdR t c k n = (tok0, 3) := if_pos h
theorem thirdR_seal {t : TokL} {c k n : List UInt8} (h1 : t.links.length < 64) (h2 : c.length ≤ 4144) :
    thirdR t c k n = if (sealR (sealL t.tag) n k).2 = 0 then (withL t (c, (sealR (sealL t.tag) n k).1), 0) else (tok0, (sealR (sealL t.tag) n k).2) := if_neg (by omega)
theorem sealR_fst {k n t : List UInt8} : (sealR k n t).1.length ≤ n.length + t.length + 32 := by
  unfold sealR
  split
  · simp
  · split
    · simp
    · rw [length_boxL]; exact Nat.le_refl _
theorem sealR_bound {k n t : List UInt8} (h : (sealR k n t).2 = 0) : n.length = 16 ∧ t.length ≤ 4096 ∧ (sealR k n t).1 = boxL k n t := by
  by_cases h1 : n.length ≠ 16
  · rw [sealR_arg h1] at h; cases h
  · by_cases h2 : 4096 < t.length
    · rw [sealR_limit (by omega) h2] at h; cases h
    · rw [sealR_ok (by omega) (by omega)]; exact ⟨by omega, by omega, rfl⟩
theorem sealR_err {k n t : List UInt8} : (sealR k n t).2 = 0 ∨ (sealR k n t).2 = 3 ∨ (sealR k n t).2 = 7 := by
  unfold sealR
  split
  · exact .inr (.inr rfl)
  · split
    · exact .inr (.inl rfl)
    · exact .inl rfl
theorem openR_bound (k s : List UInt8) : (openR k s).1.length ≤ s.length := by
  unfold openR
  split
  · simp
  · split
    · simp
    · split
      · simp only [length_smixL, List.length_drop, List.length_take]; omega
      · simp
theorem openR_err (k s : List UInt8) : (openR k s).2 = 0 ∨ (openR k s).2 = 1 ∨ (openR k s).2 = 3 ∨ (openR k s).2 = 8 := by
  unfold openR
  split
  · simp
  · split
    · simp
    · split
      · simp
      · simp

/-! ### a notary -/
def ticketR (m n k t : List UInt8) : ResL := sealR m n (frameL [k, t])
/-- What a ticket was made of: key, text, error. -/
def readR (m s : List UInt8) : List UInt8 × List UInt8 × Nat :=
  if (openR m s).2 = 0 then (match splitL (openR m s).1 with
    | some [a, b] => (a, b, 0)
    | _ => ([], [], 2)) else ([], [], (openR m s).2)
/-- Caveats are added, one by one, while all goes well. -/
def addsL (t : TokL) : List (List UInt8) → TokL × Nat
  | [] => (t, 0)
  | c :: r => if (addL t c).2 = 0 then addsL (addL t c).1 r else (tok0, (addL t c).2)
def dischargeR (m s : List UInt8) (l : List (List UInt8)) : TokL × Nat :=
  if (readR m s).2.2 = 0 then addsL ⟨s, [], rootL (readR m s).1 s⟩ l else (tok0, (readR m s).2.2)
theorem addsL_tag (k id : List UInt8) : ∀ (l : List (List UInt8)) (t : TokL), t.id = id → t.tag = lastL k id t.links → (addsL t l).2 = 0 → (addsL t l).1.id = id ∧ (addsL t l).1.links = t.links ++ l.map (fun c => (c, [])) ∧ (addsL t l).1.tag = lastL k id (addsL t l).1.links
  | [], t, h1, h2, _ => ⟨h1, by simp [addsL], h2⟩
  | c :: r, t, h1, h2, h3 => by
    unfold addsL at h3 ⊢
    by_cases h : (addL t c).2 = 0
    · rw [if_pos h] at h3 ⊢
      have hA : addL t c = (withL t (c, []), 0) := by
        unfold addL at h ⊢
        split at h
        · cases h
        · rename_i h4; rw [if_neg h4]
      rw [hA] at h3 ⊢
      obtain ⟨a, b, d⟩ := addsL_tag k id r (withL t (c, [])) h1 (by show nextL t.tag (c, []) = lastL k id (t.links ++ [(c, [])]); rw [lastL_snoc, h2]) h3
      exact ⟨a, by rw [b]; simp [withL], d⟩
    · rw [if_neg h] at h3; exact absurd h3 h
theorem addsL_ok : ∀ (l : List (List UInt8)) (t : TokL), t.links.length + l.length ≤ 64 → (∀ c ∈ l, c.length ≤ 2048) → (addsL t l).2 = 0
  | [], t, _, _ => rfl
  | c :: r, t, h1, h2 => by
    have hA : addL t c = (withL t (c, []), 0) := addL_ok (by simp at h1; omega) (h2 c (by simp))
    unfold addsL
    rw [hA, if_pos rfl]
    exact addsL_ok r _ (by simp [withL] at h1 ⊢; omega) (fun x hx => h2 x (by simp [hx]))
end Go.Proofs.YtejhiekikblbiaaGreatDoor
