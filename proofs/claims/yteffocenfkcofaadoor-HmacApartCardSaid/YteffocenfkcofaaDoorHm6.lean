/-
  Package hmac's reference: keys, texts, tags, parts. Condition: at most 800000 bytes.
-/
import Derived.Test.YteffocenfkcofaaDoorHm5
namespace Go.Proofs.YteffocenfkcofaaDoor
open Go.RowKit

theorem rbyteU (b : UInt8) (w : World) : Calls Tryd.prog 85 #[.int .i64 b.toNat] w fun e w' => e = .returned (.string (ofL [b])) ∧ Ext w w' := by
  have h := rbyte_any (b.toNat : Int) w
  rw [byte_of_nat] at h
  exact h
theorem rep_snoc (b : UInt8) (j : Nat) : ofL (List.replicate j b) ++ ofL [b] = ofL (List.replicate (j + 1) b) := by rw [ofL_append, ← List.replicate_succ']
theorem rxork (a c : List UInt8) (w : World) (ha : a.length ≤ 1000000) (hc : c.length ≤ 1000000) : Calls Tryd.prog 67 #[.string (ofL a), .string (ofL c)] w fun e w' => e = .returned (.string (ofL (xorL a c))) ∧ Ext w w' := by
  have h := rxor_any (ofL a) (ofL c) w (by rw [size_ofL]; omega) (by rw [size_ofL]; omega)
  rw [toL_ofL, toL_ofL] at h
  exact h
theorem rpadk (k : List UInt8) (w : World) (hk : k.length ≤ 1000000) : Calls Tryd.prog 86 #[.string (ofL k), .int .i64 64] w fun e w' => e = .returned (.string (ofL (padL k 64))) ∧ Ext w w' := by
  have h := rpad_any (ofL k) 64 w (by rw [size_ofL]; omega)
  rw [toL_ofL] at h
  exact h

set_option maxHeartbeats 1000000 in
theorem rwith_any (k : List UInt8) (b : UInt8) (w : World) (hk : k.length ≤ 1000000) : Calls Tryd.prog 55 #[.string (ofL k), .int .i64 b.toNat] w fun e w' => e = .returned (.string (ofL (xorL k (List.replicate 64 b)))) ∧ Ext w w' := by
  obtain ⟨X, hX⟩ : ∃ X, xorL k (List.replicate 64 b) = X := ⟨_, rfl⟩
  have cX := Kp.mk (show ∀ w, Calls Tryd.prog 67 #[.string (ofL k), .string (ofL (List.replicate 64 b))] w fun e w' => e = .returned (.string (ofL X)) ∧ Ext w w' from fun w => by rw [← hX]; exact rxork k _ w hk (by simp))
  have hb := b.toNat_lt
  rw [hX]
  clear hX
  go_enter Tryd.func55, Tryd.ntmps55
  go_wp2
  go_loopw [5] (fun o wr => ∃ j : Nat, j ≤ 64 ∧ o = .string (ofL (List.replicate j b)) ∧ Ext w wr) (fun o _ => 64 - strSz o)
  case atStart => exact ⟨0, by omega, rfl, Ext.rfl' _⟩
  case round =>
    obtain ⟨j, hj, rfl, hE⟩ := hrel
    have hsz : (ofL (List.replicate j b)).size = j := by rw [size_ofL, List.length_replicate]
    by_cases hlt : j < 64
    · have hap := rep_snoc b j
      have hsz2 : (ofL (List.replicate (j + 1) b)).size = j + 1 := by rw [size_ofL, List.length_replicate]
      go_wp2_with ((with_reducible refine (rbyteU b _).mono ?_); rintro e w2 ⟨rfl, hE2⟩)
      go_roundw
      case rel => exact ⟨j + 1, by omega, rfl, hE.tr hE2⟩
      case measure =>
        rw [show ∀ r : ByteArray, strSz (.string r) = r.size from fun _ => rfl, show ∀ r : ByteArray, strSz (.string r) = r.size from fun _ => rfl, hsz, hsz2]
        omega
    · obtain rfl : j = 64 := by omega
      clear hj hlt
      go_wp2_with fail
      refine (cX.out _).mono ?_
      rintro e w2 ⟨rfl, hE2⟩
      go_wp2
      go_ret
      exact ⟨rfl, hE.tr hE2⟩

/-- A key as 64 bytes. -/
theorem rkey_any (k : List UInt8) (w : World) (hk : k.length ≤ 800000) : Calls Tryd.prog 56 #[.string (ofL k)] w fun e w' => e = .returned (.string (ofL (padL (keyL k) 64))) ∧ Ext w w' := by
  obtain ⟨K, hK⟩ : ∃ K, keyL k = K := ⟨_, rfl⟩
  have hKl : K.length ≤ 64 := by
    rw [← hK]; unfold keyL
    split
    · rw [length_sumL]; omega
    · omega
  have cP := Kp.mk (fun w => rpadk K w (by omega))
  obtain ⟨X, hX⟩ : ∃ X, padL K 64 = X := ⟨_, rfl⟩
  rw [hX] at cP
  rw [hK, hX]
  clear hX
  by_cases h64 : 64 < k.length
  · have cS := Kp.mk (show ∀ w, Calls Tryd.prog 54 #[.string (ofL k)] w fun e w' => e = .returned (.string (ofL K)) ∧ Ext w w' from fun w => by
      rw [← hK]; unfold keyL; rw [if_pos h64]; exact rsum_any k w (by omega))
    clear hK
    go_enter Tryd.func56, Tryd.ntmps56
    go_wp2_with fail
    refine (cS.out _).mono ?_
    rintro e w1 ⟨rfl, E1⟩
    go_wp2_with fail
    refine (cP.out _).mono ?_
    rintro e w2 ⟨rfl, E2⟩
    go_wp2
    go_ret
    exact ⟨rfl, E1.tr E2⟩
  · obtain rfl : K = k := by rw [← hK]; unfold keyL; rw [if_neg h64]
    clear hK
    go_enter Tryd.func56, Tryd.ntmps56
    go_wp2_with fail
    refine (cP.out _).mono ?_
    rintro e w2 ⟨rfl, E2⟩
    go_wp2
    go_ret
    exact ⟨rfl, E2⟩

set_option maxHeartbeats 2000000 in
theorem rtexts_any (k s : List UInt8) (w : World) (hk : k.length ≤ 800000) (hs : s.length ≤ 800000) : Calls Tryd.prog 16 #[.string (ofL k), .string (ofL s)] w (RetOwn w 9 1 2 [Str (innerL k s), Str (outerL k s)]) := by
  obtain ⟨P, hP⟩ : ∃ P, padL (keyL k) 64 = P := ⟨_, rfl⟩
  have hKl : (keyL k).length ≤ 64 := by
    unfold keyL
    split
    · rw [length_sumL]; omega
    · omega
  have lP : P.length = 64 := by rw [← hP, length_pad64 _ hKl]
  obtain ⟨I, hI⟩ : ∃ I, xorL P (List.replicate 64 54) = I := ⟨_, rfl⟩
  obtain ⟨D, hD⟩ : ∃ D, xorL P (List.replicate 64 92) = D := ⟨_, rfl⟩
  have lI : I.length = 64 := by rw [← hI, length_xorL, lP]; rfl
  have lD : D.length = 64 := by rw [← hD, length_xorL, lP]; rfl
  obtain ⟨U, hU⟩ : ∃ U, sumL (I ++ s) = U := ⟨_, rfl⟩
  have lU : U.length = 32 := by rw [← hU, length_sumL]
  have e1 : innerL k s = I ++ s := by unfold innerL hideL; rw [hP, hI]
  have e2 : outerL k s = D ++ U := by unfold outerL hideL; rw [e1, hP, hD, hU]
  have cK := Kp.mk (show ∀ w, Calls Tryd.prog 56 #[.string (ofL k)] w fun e w' => e = .returned (.string (ofL P)) ∧ Ext w w' from fun w => by rw [← hP]; exact rkey_any k w hk)
  have c54 := Kp.mk (show ∀ w, Calls Tryd.prog 55 #[.string (ofL P), .int .i64 54] w fun e w' => e = .returned (.string (ofL I)) ∧ Ext w w' from fun w => by rw [← hI]; exact rwith_any P 54 w (by omega))
  have c92 := Kp.mk (show ∀ w, Calls Tryd.prog 55 #[.string (ofL P), .int .i64 92] w fun e w' => e = .returned (.string (ofL D)) ∧ Ext w w' from fun w => by rw [← hD]; exact rwith_any P 92 w (by omega))
  have cU := Kp.mk (show ∀ w, Calls Tryd.prog 54 #[.string (ofL (I ++ s))] w fun e w' => e = .returned (.string (ofL U)) ∧ Ext w w' from fun w => by rw [← hU]; exact rsum_any _ w (by rw [List.length_append]; omega))
  have a1 := ofL_append I s
  have a2 := ofL_append D U
  have z1 : (ofL I).size = 64 := by rw [size_ofL, lI]
  have z2 : (ofL D).size = 64 := by rw [size_ofL, lD]
  have z3 : (ofL U).size = 32 := by rw [size_ofL, lU]
  rw [e1, e2]
  clear hP hI hD hU e1 e2 hKl
  go_enter Tryd.func16, Tryd.ntmps16
  go_wp2_with fail
  refine (cK.out _).mono ?_
  rintro e w1 ⟨rfl, E1⟩
  go_wp2_with fail
  refine (c54.out _).mono ?_
  rintro e w2 ⟨rfl, E2⟩
  have F2 := E1.tr E2
  clear E1 E2
  go_wp2_with fail
  refine (cK.out _).mono ?_
  rintro e w3 ⟨rfl, E3⟩
  go_wp2_with fail
  refine (c92.out _).mono ?_
  rintro e w4 ⟨rfl, E4⟩
  have F4 := (F2.tr E3).tr E4
  clear F2 E3 E4
  go_wp2_with fail
  refine (cU.out _).mono ?_
  rintro e w5 ⟨rfl, E5⟩
  have F5 := F4.tr E5
  clear F4 E5
  go_wp2
  go_ret
  exact ⟨_, rfl, own_more (World.ownsRow_lit w5 #[Str (I ++ s), Str (D ++ U)] 2 (Nat.le_refl _) (by decide) rfl) F5.size, F5.al _⟩
end Go.Proofs.YteffocenfkcofaaDoor
