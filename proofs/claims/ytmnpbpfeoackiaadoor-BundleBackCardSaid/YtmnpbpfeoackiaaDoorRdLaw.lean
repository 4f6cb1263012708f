/-
  A reader in plain words: what is put is read, what is read well was put so. No program in sight.
-/
import Derived.Test.YtmnpbpfeoackiaaDoorFldLaws
namespace Go.Proofs.YtmnpbpfeoackiaaDoor
open Go.RowKit

theorem rText_len (x : RS) (m : Int) : (rText x m).2.1.length ≤ x.1.length := by
  have h := rNum_len x m.toNat
  rw [rText_eq]
  split
  · exact h
  · split
    · simp
    · simp; omega
theorem rFail_le (x : RS) (e : Int) : (rFail x e).1.length ≤ x.1.length := by unfold rFail; split <;> simp
theorem rByte_len (x : RS) : (rByte x).2.1.length ≤ x.1.length := by
  unfold rByte
  split
  · exact Nat.le_refl _
  · split
    · simp
    · simp

theorem rNum_put {n most : Nat} (hn : n < 18446744073709551616) (hm : n ≤ most) (r : List UInt8) : rNum (vput n ++ r, 0) most = (n, (r, 0)) := by
  rw [rNum_ok (vtake_vput hn r) hm, List.drop_left]
theorem rText_put {a : List UInt8} {m : Nat} (ha : a.length ≤ m) (hm : m < 18446744073709551616) (r : List UInt8) : rText (fText a ++ r, 0) (m : Int) = (a, (r, 0)) := by
  unfold fText
  rw [List.append_assoc, rText_ok (vtake_vput (by omega) (a ++ r)) (by rw [Int.toNat_natCast]; exact ha) (by rw [List.drop_left]; simp), List.drop_left, List.take_left, List.drop_left]

/-- A number that is read well is there as it is put. -/
theorem rNum_good {x : RS} {m : Nat} (h : (rNum x m).2.2 = 0) : x.2 = 0 ∧ x.1 = vput (rNum x m).1 ++ (rNum x m).2.1 ∧ (rNum x m).1 ≤ m ∧ (rNum x m).1 < 18446744073709551616 := by
  by_cases h0 : x.2 = 0
  · refine ⟨h0, ?_⟩
    rcases hv : vtake x.1 with ⟨n, k, er⟩
    unfold rNum at h ⊢
    rw [if_neg (by simp [h0]), hv] at h
    rw [if_neg (by simp [h0]), hv]
    by_cases he : er = 0
    · subst he
      by_cases hm : m < n
      · simp [hm] at h
      · have hk := vtake_ok hv
        simp only [ne_eq, hm, if_false]
        simp
        exact ⟨by rw [← hk.2.1, List.take_append_drop], by omega, hk.1⟩
    · simp [he] at h
  · rw [rNum_bad m h0] at h
    exact absurd h h0
theorem rText_good {x : RS} {m : Nat} (h : (rText x (m : Int)).2.2 = 0) : x.2 = 0 ∧ x.1 = fText (rText x (m : Int)).1 ++ (rText x (m : Int)).2.1 ∧ (rText x (m : Int)).1.length ≤ m := by
  rw [rText_eq, Int.toNat_natCast] at h ⊢
  by_cases h0 : (rNum x m).2.2 = 0
  · have hg := rNum_good h0
    rw [if_neg (by simp [h0])] at h ⊢
    by_cases hl : (rNum x m).2.1.length < (rNum x m).1
    · rw [if_pos hl] at h; simp at h
    · rw [if_neg hl]
      refine ⟨hg.1, ?_, ?_⟩
      · simp only []
        unfold fText
        rw [List.length_take, Nat.min_eq_left (by omega), List.append_assoc, List.take_append_drop]
        exact hg.2.1
      · simp only [List.length_take]
        have := hg.2.2.1
        omega
  · rw [if_pos h0] at h
    exact absurd h h0
theorem rFail_good {x : RS} {e : Int} (he : e ≠ 0) (h : (rFail x e).2 = 0) : False := by
  unfold rFail at h
  split at h
  · rename_i h1; rcases h1 with h1 | h1
    · exact h1 h
    · exact he h1
  · exact he h
theorem rEnd_good {x : RS} (h : (rEnd x).2 = 0) : x = ([], 0) := by
  unfold rEnd at h
  split at h
  · exact (rFail_good (by decide) h).elim
  · rename_i h1
    simp at h1
    exact Prod.ext h1 h
theorem rByte_good {x : RS} (h : (rByte x).2.2 = 0) : x.2 = 0 ∧ x.1 = (rByte x).1 :: (rByte x).2.1 := by
  unfold rByte at h ⊢
  by_cases h0 : x.2 = 0
  · rw [if_neg (by simp [h0])] at h ⊢
    obtain ⟨s, e⟩ := x
    cases s with
    | nil => simp at h
    | cons c r => exact ⟨h0, by simp⟩
  · rw [if_pos h0] at h
    exact absurd h h0
end Go.Proofs.YtmnpbpfeoackiaaDoor
