/-
  The laws of chapter 3: ShaPads returns true. Condition: the package's table holds the constants.
-/
import Derived.Test.YteclfeeeaokddaaDoorSha15
namespace Go.Proofs.YteclfeeeaokddaaDoor
open Go.RowKit

theorem be8_get (N j : Nat) (h : j < 8) : ((be8 N).getD j 0).toNat = N / 256 ^ (7 - j) % 256 := by
  have k : ∀ m : Nat, ((m % 256).toUInt8).toNat = m % 256 := fun m => by rw [Nat.toUInt8, UInt8.toNat_ofNat', show 2 ^ 8 = 256 from rfl, Nat.mod_mod]
  match j, h with
  | 0, _ => exact k _
  | 1, _ => exact k _
  | 2, _ => exact k _
  | 3, _ => exact k _
  | 4, _ => exact k _
  | 5, _ => exact k _
  | 6, _ => exact k _
  | 7, _ => exact (k N).trans (by simp)
theorem be8_step (N j : Nat) (h : j < 8) : 256 * (N / 256 ^ (8 - j)) + ((be8 N).getD j 0).toNat = N / 256 ^ (8 - (j + 1)) := by
  rw [be8_get N j h, show 8 - (j + 1) = 7 - j by omega, show 8 - j = (7 - j) + 1 by omega, Nat.pow_succ, ← Nat.div_div_eq_div_mul]
  exact Nat.div_add_mod _ 256
theorem pad_at (l : List UInt8) : (shaPad l).getD l.length 0 = 128 ∧ (∀ i, l.length < i → i + 8 < (shaPad l).length → (shaPad l).getD i 0 = 0) ∧ (∀ j, j < 8 → (shaPad l).getD ((shaPad l).length - 8 + j) 0 = (be8 (8 * l.length)).getD j 0) ∧ (shaPad l).take l.length = l := by
  obtain ⟨z, hz⟩ : ∃ z, (119 - l.length % 64) % 64 = z := ⟨_, rfl⟩
  have e : shaPad l = l ++ (128 :: (List.replicate z 0 ++ be8 (8 * l.length))) := by unfold shaPad endingL; rw [hz]
  have hl : (shaPad l).length = l.length + (9 + z) := by rw [e]; simp [be8]; omega
  refine ⟨?_, fun i h1 h2 => ?_, fun j hj => ?_, ?_⟩
  · rw [e, List.getD_eq_getElem?_getD, List.getElem?_append_right (Nat.le_refl _), Nat.sub_self]; rfl
  · rw [hl] at h2
    obtain ⟨m, rfl⟩ : ∃ m, i = l.length + (m + 1) := ⟨i - l.length - 1, by omega⟩
    rw [e, List.getD_eq_getElem?_getD, List.getElem?_append_right (by omega), Nat.add_sub_cancel_left, List.getElem?_cons_succ, List.getElem?_append_left (by rw [List.length_replicate]; omega), List.getElem?_replicate, if_pos (by omega)]
    rfl
  · rw [hl, show l.length + (9 + z) - 8 + j = l.length + (z + j + 1) by omega, e, List.getD_eq_getElem?_getD, List.getElem?_append_right (by omega), Nat.add_sub_cancel_left, List.getElem?_cons_succ,
      List.getElem?_append_right (by rw [List.length_replicate]; omega), List.length_replicate, Nat.add_sub_cancel_left, ← List.getD_eq_getElem?_getD]
  · rw [e, List.take_left]

set_option maxRecDepth 100000 in
set_option maxHeartbeats 4000000 in
theorem shaPads_go (s : ByteArray) (w : World) (hT : Tab w) (hs : s.size ≤ 2000) : Calls Tryd.prog 6 #[.string s] w fun e w' => e = .returned (.bool true) ∧ Ext w w' := by
  obtain ⟨l, rfl⟩ : ∃ l, s = ofL l := ⟨toL s, (ofL_toL s).symm⟩
  obtain ⟨n, hn⟩ : ∃ n, l.length = n := ⟨_, rfl⟩
  have hsz : (ofL l).size = n := by rw [size_ofL, hn]
  rw [hsz] at hs
  obtain ⟨P, hP⟩ : ∃ P, shaPad l = P := ⟨_, rfl⟩
  obtain ⟨p128, p0, p8, ptk⟩ := pad_at l
  rw [hP, hn] at p128 p0 p8 ptk
  have hl1 : P.length % 64 = 0 := by rw [← hP]; exact shaPad_whole l
  have hl2 : n + 9 ≤ P.length := by rw [← hP, ← hn]; unfold shaPad; rw [List.length_append, length_endingL]; omega
  have hl3 : P.length ≤ n + 72 := by rw [← hP, ← hn]; exact shaPad_le l
  have H3 := Kp.mk (show ∀ w, Calls Tryd.prog 10 #[.string (ofL l)] w fun e w' => e = .returned (.string (ofL P)) ∧ Ext w w' from fun w => by rw [← hP]; exact pad_sha l w (by omega))
  have hps : (ofL P).size = P.length := size_ofL P
  obtain ⟨m, hm⟩ : ∃ m, P.length = m := ⟨_, rfl⟩
  rw [hm] at hl1 hl2 hl3 hps p0 p8
  have t1 : ((m : Int) % 64 != 0) = false := by simp; omega
  have hex : (ofL P).extract 0 n = ofL l := by rw [extract_to, toL_ofL, ptk]
  have g128 : ∀ h, (ofL P)[n]'h = 128 := fun h => by rw [ofL_at]; exact p128
  have HP0 := Kp.mk p0; have HP8 := Kp.mk p8; have HL1 := Kp.mk hl1
  clear hP hm p128 p0 p8 ptk hl1 hn
  go_enter Tryd.func6, Tryd.ntmps6
  go_wp2_with fail
  refine (H3.out _).mono ?_
  rintro e w1 ⟨rfl, hE1⟩
  clear H3
  go_wp2
  clear t1 hex g128
  obtain ⟨N, hN⟩ : ∃ N, 8 * n = N := ⟨_, rfl⟩
  have hN2 : N ≤ 16000 := by omega
  obtain ⟨q, hq⟩ : ∃ q, m - 8 = q := ⟨_, rfl⟩
  go_loopw [4, 5] (fun x4 x5 wr => ∃ j i v : Nat, j ≤ 8 ∧ q + j = i ∧ x5 = .int .i64 i ∧ N / 256 ^ (8 - j) = v ∧ x4 = .int .i64 v ∧ Ext w wr) (fun _ x5 _ => m - (intOf x5).toNat)
  case atStart => exact ⟨0, q, 0, by omega, rfl, by congr 1; omega, Nat.div_eq_of_lt (by omega), rfl, hE1⟩
  case round =>
    clear hE1
    obtain ⟨j, i, v, hj, hi, rfl, hv0, rfl, hE⟩ := hrel
    have HV := Kp.mk hv0; clear hv0
    by_cases hlt : j < 8
    · obtain ⟨c, hc⟩ : ∃ c, P.getD i 0 = c := ⟨_, rfl⟩
      have hc8 : (be8 N).getD j 0 = c := by
        have := HP8.out j hlt
        rw [hq, hi, hN, hc] at this
        exact this.symm
      obtain ⟨v2, hv2⟩ : ∃ v2, N / 256 ^ (8 - (j + 1)) = v2 := ⟨_, rfl⟩
      have hst := be8_step N j hlt
      rw [HV.out, hc8, hv2] at hst
      have hv2N : v2 ≤ N := by rw [← hv2]; exact Nat.div_le_self _ _
      have g : ∀ h, (ofL P)[i]'h = c := fun h => by rw [ofL_at]; exact hc
      have im : i < m := by omega
      have e1 : 256 * (v : Int) + c.toNat = v2 := by omega
      have hcb := c.toNat_lt
      have b1 : v ≤ 16000 := by omega
      have HV2 := Kp.mk hv2; have HQ := Kp.mk hq; have HI := Kp.mk hi
      clear hc hc8 hst hv2 HV hq hi hN
      go_wp2
      go_roundw
      case rel => exact ⟨j + 1, i + 1, v2, by omega, by have := HI.out; omega, by go_num, HV2.out, by first | rfl | (congr 1), hE⟩
      case measure => simp [intOf]; omega
    · have hv : v = N := by have := HV.out; rw [show 8 - j = 0 by omega] at this; simpa using this.symm
      have him : ¬ i < m := by omega
      clear HV
      subst hv
      have HN := Kp.mk hN; have HQ := Kp.mk hq
      clear hN hq hi
      go_wp2
      go_loopw [6] (fun x6 wr => ∃ i : Nat, n + 1 ≤ i ∧ i + 8 ≤ m ∧ x6 = .int .i64 i ∧ Ext w wr) (fun x6 _ => m - (intOf x6).toNat)
      case atStart => exact ⟨n + 1, by omega, by omega, by go_num, hE⟩
      case round =>
        clear him hE hj hlt
        obtain ⟨i, hi1, hi2, rfl, hE⟩ := hrel
        by_cases hlt : i + 8 < m
        · have g : ∀ h, (ofL P)[i]'h = 0 := fun h => by rw [ofL_at]; exact HP0.out i (by omega) hlt
          have im : i < m := by omega
          have im2 : (i : Int) < (m : Int) - 8 := by omega
          go_wp2
          go_roundw
          case rel => exact ⟨i + 1, by omega, by omega, by go_num, hE⟩
          case measure => simp [intOf]; omega
        · have im : ¬ ((i : Int) < (m : Int) - 8) := by omega
          have hN3 : 8 * (n : Int) = v := by have := HN.out; omega
          go_wp2_with ((with_reducible refine (works_any _ (hT.ext hE)).mono ?_); rintro e w5 ⟨rfl, hE5⟩)
          go_ret
          exact ⟨rfl, hE.tr hE5⟩
theorem shaPads_walk (s : ByteArray) (w : World) (hT : Tab w) (_hs0 : s.size ≤ 9223372036854775807) : Calls Tryd.prog 6 #[.string s] w fun e w' => e = .returned (.bool true) ∧ Ext w w' := by
  by_cases hs : s.size ≤ 2000
  · exact shaPads_go s w hT hs
  · go_enter Tryd.func6, Tryd.ntmps6
    go_wp2_with ((with_reducible refine (works_any _ hT).mono ?_); rintro e w5 ⟨rfl, hE5⟩)
    go_ret
    exact ⟨rfl, hE5⟩
end Go.Proofs.YteclfeeeaokddaaDoor
