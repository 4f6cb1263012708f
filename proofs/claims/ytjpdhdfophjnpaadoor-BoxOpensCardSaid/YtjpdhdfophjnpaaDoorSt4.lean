/-
  Package stream and its reference: mixing, the reference's first bytes; the chapter's examples. Conditions: the package's table holds the constants; texts of at most 100000 bytes.
-/
import Derived.Test.YtjpdhdfophjnpaaDoorSt3
import Derived.Test.YtjpdhdfophjnpaaDoorMgE
namespace Go.Proofs.YtjpdhdfophjnpaaDoor
open Go.RowKit

set_option maxHeartbeats 1000000 in
theorem rtake_nat (k n : List UInt8) (m : Nat) (w : World) (hm1 : 1 ≤ m) (hm2 : m ≤ 65536) (hk : k.length ≤ 100000) (hn : n.length ≤ 100000) : Calls Tryd.prog 77 #[.string (ofL k), .string (ofL n), .int .i64 m] w fun e w' => e = .returned (.string (ofL (takeL k n m))) ∧ Ext w w' := by
  have hd : decide ((65536 : Int) < (m : Int)) = false := by simp; omega
  have hd2 : decide ((m : Int) < 1) = false := by simp; omega
  go_enter Tryd.func77, Tryd.ntmps77
  go_wp2
  go_loopw [8, 7] (fun i o wr => ∃ c : Nat, i = .int .i64 c ∧ c ≤ m ∧ o = .string (ofL (streamC k n c)) ∧ Ext w wr) (fun i _ _ => m - (intOf i).toNat)
  case atStart => exact ⟨0, rfl, by omega, rfl, Ext.rfl' _⟩
  case round =>
    obtain ⟨c, rfl, hcm, rfl, hE⟩ := hrel
    obtain ⟨O, hO⟩ : ∃ O, streamC k n c = O := ⟨_, rfl⟩
    have lO : O.length = 32 * c := by rw [← hO, length_streamC]
    have hsz : (ofL O).size = 32 * c := by rw [size_ofL, lO]
    rw [hO]
    by_cases hlt : 32 * c < m
    · have cB := Kp.mk (rstblock_any k n c wr hk hn (by omega))
      obtain ⟨X, hX⟩ : ∃ X, blockL k n c = X := ⟨_, rfl⟩
      have hap := Kp.mk (show ofL O ++ ofL X = ofL (streamC k n (c + 1)) by rw [ofL_append, streamC, hO, hX])
      have hszX : (ofL X).size = 32 := by rw [size_ofL, ← hX, length_blockL]
      rw [hX] at cB
      have hdl : decide (((32 * c : Nat) : Int) < (m : Int)) = true := by simp; omega
      clear hX hO lO
      go_wp2_with fail
      refine cB.out.mono ?_
      rintro e w3 ⟨rfl, E3⟩
      go_wp2
      go_roundw
      case rel => exact ⟨c + 1, by go_num, by omega, by rw [← hap.out], hE.tr E3⟩
      case measure => simp [intOf]; omega
    · have hfin := Kp.mk (show (ofL O).extract 0 m = ofL (takeL k n m) by rw [extract_to, toL_ofL, ← hO, streamC_takeL k n c m (by omega)])
      have hdl : decide (((32 * c : Nat) : Int) < (m : Int)) = false := by simp; omega
      have hle : m ≤ 32 * c := by omega
      have hx := hfin.out
      clear hO lO hfin
      go_wp2
      go_ret
      exact ⟨rfl, hE⟩

theorem rtake_low (k n : ByteArray) (z : Int) (w : World) (hz : z < 1) : Calls Tryd.prog 77 #[.string k, .string n, .int .i64 z] w fun e w' => e = .returned (.string ⟨#[]⟩) ∧ Ext w w' := by
  have hd : decide ((65536 : Int) < z) = false := by simp; omega
  have hd2 : decide (z < 1) = true := by simp; omega
  have hd3 : decide ((0 : Int) < z) = false := by simp; omega
  go_enter Tryd.func77, Tryd.ntmps77
  go_wp2
  go_loopw [8, 7] (fun i o wr => i = .int .i64 0 ∧ o = .string ⟨#[]⟩ ∧ Ext w wr) (fun _ _ _ => 0)
  case atStart => exact ⟨rfl, rfl, Ext.rfl' _⟩
  case round =>
    obtain ⟨rfl, rfl, hE⟩ := hrel
    go_wp2
    go_ret
    exact ⟨rfl, hE⟩
theorem take_nat (k n : List UInt8) (m : Nat) (w : World) (hT : Tab w) (hk : k.length ≤ 100000) (hn : n.length ≤ 100000) (hm : m ≤ 65536) : Calls Tryd.prog 70 #[.string (ofL k), .string (ofL n), .int .i64 m] w fun e w' => e = .returned (.string (ofL (takeL k n m))) ∧ Ext w w' := by
  have h := take_any k n (m : Int) w hT hk hn
  rw [show (min (m : Int) 65536).toNat = m by omega] at h
  exact h
theorem rtake_any (k n : List UInt8) (m : Nat) (w : World) (hk : k.length ≤ 100000) (hn : n.length ≤ 100000) (hm : m ≤ 65536) : Calls Tryd.prog 77 #[.string (ofL k), .string (ofL n), .int .i64 m] w fun e w' => e = .returned (.string (ofL (takeL k n m))) ∧ Ext w w' := by
  by_cases h0 : m = 0
  · subst h0
    exact rtake_low (ofL k) (ofL n) 0 w (by omega)
  · exact rtake_nat k n m w (by omega) hm hk hn

theorem mix_any (k n t : List UInt8) (w : World) (hT : Tab w) (hk : k.length ≤ 100000) (hn : n.length ≤ 100000) (ht : t.length ≤ 65536) : Calls Tryd.prog 47 #[.string (ofL k), .string (ofL n), .string (ofL t)] w fun e w' => e = .returned (.string (ofL (smixL k n t))) ∧ Ext w w' := by
  have hsz : (ofL t).size = t.length := size_ofL _
  have cT := Kp.mk (take_nat k n t.length w hT hk hn ht)
  obtain ⟨S, hS⟩ : ∃ S, takeL k n t.length = S := ⟨_, rfl⟩
  have lS : S.length ≤ 1000000 := by rw [← hS, length_takeL]; omega
  have cX := Kp.mk (fun W => xork t S W (by omega) lS)
  rw [show smixL k n t = xorL t S by unfold smixL; rw [hS]]
  rw [hS] at cT
  obtain ⟨M, hM⟩ : ∃ M, xorL t S = M := ⟨_, rfl⟩
  rw [hM] at cX ⊢
  have hd : decide ((65536 : Int) < (t.length : Int)) = false := by simp; omega
  clear hS hM lS
  go_enter Tryd.func47, Tryd.ntmps47
  go_wp2_with fail
  refine cT.out.mono ?_
  rintro e w1 ⟨rfl, E1⟩
  go_wp2_with fail
  refine (cX.out _).mono ?_
  rintro e w2 ⟨rfl, E2⟩
  go_wp2
  go_ret
  exact ⟨rfl, E1.tr E2⟩
theorem rmix_any (k n t : List UInt8) (w : World) (hk : k.length ≤ 100000) (hn : n.length ≤ 100000) (ht : t.length ≤ 65536) : Calls Tryd.prog 50 #[.string (ofL k), .string (ofL n), .string (ofL t)] w fun e w' => e = .returned (.string (ofL (smixL k n t))) ∧ Ext w w' := by
  have hsz : (ofL t).size = t.length := size_ofL _
  have cT := Kp.mk (rtake_any k n t.length w hk hn ht)
  obtain ⟨S, hS⟩ : ∃ S, takeL k n t.length = S := ⟨_, rfl⟩
  have lS : S.length ≤ 1000000 := by rw [← hS, length_takeL]; omega
  have cX := Kp.mk (fun W => rxork t S W (by omega) lS)
  rw [show smixL k n t = xorL t S by unfold smixL; rw [hS]]
  rw [hS] at cT
  obtain ⟨M, hM⟩ : ∃ M, xorL t S = M := ⟨_, rfl⟩
  rw [hM] at cX ⊢
  have hd : decide ((65536 : Int) < (t.length : Int)) = false := by simp; omega
  clear hS hM lS
  go_enter Tryd.func50, Tryd.ntmps50
  go_wp2_with fail
  refine cT.out.mono ?_
  rintro e w1 ⟨rfl, E1⟩
  go_wp2_with fail
  refine (cX.out _).mono ?_
  rintro e w2 ⟨rfl, E2⟩
  go_wp2
  go_ret
  exact ⟨rfl, E1.tr E2⟩
end Go.Proofs.YtjpdhdfophjnpaaDoor
