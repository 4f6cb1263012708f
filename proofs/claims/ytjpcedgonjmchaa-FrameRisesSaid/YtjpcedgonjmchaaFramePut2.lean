/-
  Package frame's reference: Put. Condition: the mark is one that an int holds.
-/
import Derived.Test.YtjpcedgonjmchaaFramePut
import Derived.Test.YtjpcedgonjmchaaFrame2
namespace Go.Proofs.Ytjpcedgonjmchaa
open Go.RowKit

theorem byteOf_small {k : Nat} (_h : k ≤ 255) : byteOf (k : Int) = k.toUInt8 := by
  unfold byteOf
  rw [show ((k : Int) % 256).toNat = k by omega]

set_option maxRecDepth 100000 in
set_option maxHeartbeats 2000000 in
theorem rfput (f : Frm) (w : World) (hm : f.m < 9223372036854775808) :
    Calls Try.prog 16 #[.int .i64 f.m, .int .i64 f.k, .string (ofL f.t)] w fun e w' => e = .returned (.tuple #[.string (ofL (frPut f).1), .int .i64 (frPut f).2]) ∧ Ext w w' := by
  obtain ⟨m, k, t⟩ := f
  have hsz : (ofL t).size = t.length := size_ofL _
  dsimp only at hm
  by_cases ha : m < 1 ∨ k < 0 ∨ 255 < k
  · rw [frPut_arg ha]
    have hcase : decide (m < 1) = true ∨ (decide (m < 1) = false ∧ decide (k < 0) = true) ∨ (decide (m < 1) = false ∧ decide (k < 0) = false ∧ decide (255 < k) = true) := by
      simp only [decide_eq_true_eq, decide_eq_false_iff_not]
      omega
    clear ha
    rcases hcase with q1 | ⟨q1, q2⟩ | ⟨q1, q2, q3⟩ <;>
    · go_enter Try.func16, Try.ntmps16
      go_wp2
      refine bodyPost_ret (v := .tuple #[.string (ofL []), .int .i64 7]) (by simp [results, Try.results16, go_sem]; rfl) rfl ?_
      exact ⟨rfl, Ext.rfl' _⟩
  · have hcase : decide (m < 1) = false ∧ decide (k < 0) = false ∧ decide (255 < k) = false := by
      simp only [decide_eq_false_iff_not]
      omega
    obtain ⟨q1, q2, q3⟩ := hcase
    by_cases hl : 110 < t.length
    · rw [frPut_limit ha hl]
      have q4 : decide ((110 : Int) < t.length) = true := by simp; omega
      clear ha hl
      go_enter Try.func16, Try.ntmps16
      go_wp2
      refine bodyPost_ret (v := .tuple #[.string (ofL []), .int .i64 3]) (by simp [results, Try.results16, go_sem]; rfl) rfl ?_
      exact ⟨rfl, Ext.rfl' _⟩
    · rw [frPut_ok ha hl]
      have q4 : decide ((110 : Int) < t.length) = false := by simp; omega
      obtain ⟨m, rfl⟩ : ∃ n : Nat, m = n := ⟨m.toNat, by omega⟩
      obtain ⟨k, rfl⟩ : ∃ n : Nat, k = n := ⟨k.toNat, by omega⟩
      have hk : k ≤ 255 := by omega
      have hm' : m < 9223372036854775808 := by omega
      have hl : t.length ≤ 110 := by omega
      have hP := padL_110 hl
      have zP : (padL t 110).length = 110 := by rw [hP]; simp; omega
      have zM : (leN 8 m).length = 8 := length_leN 8 m
      have hF : frBytes m k t = leN 8 m ++ ([k.toUInt8] ++ ([t.length.toUInt8] ++ (padL t 110 ++ leN 8 m))) := by
        rw [hP, List.append_assoc]; rfl
      rw [Int.toNat_natCast, Int.toNat_natCast, hF]
      have b1 := byteOf_small hk
      have b2 := byteOf_small (k := t.length) (by omega)
      obtain ⟨P, hPe⟩ : ∃ P, padL t 110 = P := ⟨_, rfl⟩
      rw [hPe] at zP ⊢
      obtain ⟨M, hMe⟩ : ∃ M, leN 8 m = M := ⟨_, rfl⟩
      rw [hMe] at zM ⊢
      obtain ⟨K, hK⟩ : ∃ K, [k.toUInt8] = K := ⟨_, rfl⟩
      obtain ⟨T, hT⟩ : ∃ T, [t.length.toUInt8] = T := ⟨_, rfl⟩
      rw [hK, hT]
      have zK : K.length = 1 := by rw [← hK]; rfl
      have zT : T.length = 1 := by rw [← hT]; rfl
      have sizes : (ofL M).size = 8 ∧ (ofL K).size = 1 ∧ (ofL T).size = 1 ∧ (ofL P).size = 110 := by simp only [size_ofL]; omega
      obtain ⟨zM, zK, zT, zP⟩ := sizes
      obtain ⟨S1, x1, y1⟩ : ∃ S : ByteArray, ofL M ++ ofL K = S ∧ S.size = 9 := ⟨_, rfl, by rw [ByteArray.size_append]; omega⟩
      obtain ⟨S2, x2, y2⟩ : ∃ S : ByteArray, S1 ++ ofL T = S ∧ S.size = 10 := ⟨_, rfl, by rw [ByteArray.size_append]; omega⟩
      obtain ⟨S3, x3, y3⟩ : ∃ S : ByteArray, S2 ++ ofL P = S ∧ S.size = 120 := ⟨_, rfl, by rw [ByteArray.size_append]; omega⟩
      have x4 : S3 ++ ofL M = ofL (M ++ (K ++ (T ++ (P ++ M)))) := by rw [← x3, ← x2, ← x1]; simp only [ofL_append, List.append_assoc]
      obtain ⟨S4, hS4⟩ : ∃ S, ofL (M ++ (K ++ (T ++ (P ++ M)))) = S := ⟨_, rfl⟩
      rw [hS4] at x4
      dsimp only
      rw [hS4]
      clear hS4
      have HPe := Lib.hid hPe; clear hPe hP
      have HMe := Lib.hid hMe; clear hMe
      have HK := Lib.hid (b1 ▸ hK : [byteOf (k : Int)] = K); clear hK b1
      have HT := Lib.hid (b2 ▸ hT : [byteOf (t.length : Int)] = T); clear hT b2
      clear hF ha
      go_enter Try.func16, Try.ntmps16
      go_wp2_with fail
      refine (rmark_any m _ hm').mono ?_
      rintro e w1 ⟨rfl, E1⟩
      rw [HMe.out]
      go_wp2_with fail
      refine (rbyte_any _ _).mono ?_
      rintro e w2 ⟨rfl, E2⟩
      rw [HK.out]
      go_wp2_with fail
      refine (rbyte_any _ _).mono ?_
      rintro e w3 ⟨rfl, E3⟩
      rw [HT.out]
      go_wp2_with fail
      refine (rpad_any (ofL t) 110 _ (by omega)).mono ?_
      rintro e w4 ⟨rfl, E4⟩
      rw [toL_ofL, HPe.out]
      go_wp2_with fail
      refine (rmark_any m _ hm').mono ?_
      rintro e w5 ⟨rfl, E5⟩
      rw [HMe.out]
      go_wp2
      refine bodyPost_ret (v := .tuple #[.string S4, .int .i64 0]) (by simp [results, Try.results16, go_sem]) rfl ?_
      exact ⟨rfl, (((E1.tr E2).tr E3).tr E4).tr E5⟩
end Go.Proofs.Ytjpcedgonjmchaa
