/-
  Package entry and its reference: how many blocks a text has. No condition.
-/
import Derived.Test.YtmnpbpfeoackiaaBg1
namespace Go.Proofs.Ytmnpbpfeoackiaa
open Go.RowKit

/-- How many blocks a text has. -/
def blkN (n : Int) : Nat := if n < 0 ∨ 65536 < n then 0 else if n ≤ 102 then 1 else 1 + ((n + 7) / 110).toNat
theorem blkN_bad {n : Int} (h : n < 0 ∨ 65536 < n) : blkN n = 0 := if_pos h
theorem blkN_one {n : Int} (h1 : 0 ≤ n) (h2 : n ≤ 102) : blkN n = 1 := by unfold blkN; rw [if_neg (by omega), if_pos h2]
theorem blkN_more {n : Int} (h1 : 102 < n) (h2 : n ≤ 65536) : blkN n = 1 + ((n + 7) / 110).toNat := by unfold blkN; rw [if_neg (by omega), if_neg (by omega)]
theorem blkN_le (n : Int) : blkN n ≤ 596 := by
  unfold blkN
  split
  · omega
  · split <;> omega
set_option maxRecDepth 100000 in
theorem eblocks_any (n : Int) (w : World) : Calls Try.prog 25 #[.int .i64 n] w fun e w' => e = .returned (.int .i64 (blkN n)) ∧ w' = w := by
  by_cases h : n < 0 ∨ 65536 < n
  · rw [blkN_bad h]
    have hcase : decide (n < 0) = true ∨ (decide (n < 0) = false ∧ decide ((65536 : Int) < n) = true) := by
      simp only [decide_eq_true_eq, decide_eq_false_iff_not]
      omega
    clear h
    rcases hcase with q1 | ⟨q1, q2⟩ <;>
    · go_enter Try.func25, Try.ntmps25
      go_wp2
      go_ret
      exact ⟨rfl, rfl⟩
  · have q1 : decide (n < 0) = false := by simp; omega
    have q2 : decide ((65536 : Int) < n) = false := by simp; omega
    by_cases h2 : n ≤ 102
    · rw [blkN_one (by omega) h2]
      have q3 : decide (n ≤ 102) = true := by simp; omega
      clear h h2
      go_enter Try.func25, Try.ntmps25
      go_wp2
      go_ret
      exact ⟨rfl, rfl⟩
    · rw [blkN_more (by omega) (by omega)]
      have q3 : decide (n ≤ 102) = false := by simp; omega
      obtain ⟨m, rfl⟩ : ∃ m : Nat, n = m + 102 := ⟨(n - 102).toNat, by omega⟩
      have hm : m ≤ 65434 := by omega
      have hd := Kp.mk (show ((1 + (((m : Int) + 102 + 7) / 110).toNat : Nat) : Int) = 1 + ((m : Int) + 110 - 1) / 110 by omega)
      clear h h2
      go_enter Try.func25, Try.ntmps25
      go_wp2
      go_ret
      exact ⟨by rw [hd.out]; rfl, rfl⟩
set_option maxRecDepth 100000 in
theorem rblocks_any (n : Int) (w : World) : Calls Try.prog 28 #[.int .i64 n] w fun e w' => e = .returned (.int .i64 (blkN n)) ∧ w' = w := by
  by_cases h : n < 0 ∨ 65536 < n
  · rw [blkN_bad h]
    have hcase : decide (n < 0) = true ∨ (decide (n < 0) = false ∧ decide ((65536 : Int) < n) = true) := by
      simp only [decide_eq_true_eq, decide_eq_false_iff_not]
      omega
    clear h
    rcases hcase with q1 | ⟨q1, q2⟩ <;>
    · go_enter Try.func28, Try.ntmps28
      go_wp2
      go_ret
      exact ⟨rfl, rfl⟩
  · have q1 : decide (n < 0) = false := by simp; omega
    have q2 : decide ((65536 : Int) < n) = false := by simp; omega
    obtain ⟨m, rfl⟩ : ∃ m : Nat, n = m := ⟨n.toNat, by omega⟩
    have hm : m ≤ 65536 := by omega
    clear h
    go_enter Try.func28, Try.ntmps28
    go_upto_region 4 with fail
    go_wp2
    go_loopw [3, 4] (fun k l wr => ∃ c : Nat, k = .int .i64 ((1 + c : Nat) : Int) ∧ l = .int .i64 ((m : Int) - 102 - 110 * c) ∧ (c = 0 ∨ 110 * c < m - 102 + 110) ∧ wr = w) (fun _ l _ => (intOf l + 110).toNat)
    case atStart => exact ⟨0, rfl, by simp, .inl rfl, rfl⟩
    case round =>
      obtain ⟨c, rfl, rfl, hc, rfl⟩ := hrel
      by_cases hl : (0 : Int) < (m : Int) - 102 - 110 * c
      · have q3 : decide ((0 : Int) < (m : Int) - 102 - 110 * c) = true := by simp; omega
        have hcm : 110 * c + 102 < m := by omega
        clear hc
        go_wp2
        go_roundw
        case rel => exact ⟨c + 1, by go_num, by go_num, .inr (by omega), trivial⟩
        case measure => simp [intOf]; omega
      · have q3 : decide ((0 : Int) < (m : Int) - 102 - 110 * c) = false := by simp; omega
        have hf : blkN (m : Int) = 1 + c := by
          by_cases h1 : m ≤ 102
          · rw [blkN_one (by omega) (by omega)]; omega
          · rw [blkN_more (by omega) (by omega)]; omega
        have HF := Kp.mk hf
        clear hf hc
        go_wp2
        go_ret
        rw [HF.out]
        exact ⟨rfl, rfl⟩

end Go.Proofs.Ytmnpbpfeoackiaa
