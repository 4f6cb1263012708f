/-
  A torn write of a block, in plain words. No program in sight.
-/
import Derived.Test.YtmnpbpfeoackiaaDoorFramePlain
namespace Go.Proofs.YtmnpbpfeoackiaaDoor
open Go.RowKit

def tornL (a b : List UInt8) (k : Nat) : List UInt8 := a.take k ++ b.drop k
theorem torn_low {a b : List UInt8} {k : Nat} (ha : a.length = 128) (hk : k ≤ 120) : (tornL a b k).drop 120 = b.drop 120 := by
  unfold tornL
  rw [List.drop_append, List.drop_of_length_le (by rw [List.length_take]; omega), List.nil_append, List.drop_drop, List.length_take]
  congr 1; omega
theorem torn_high {a b : List UInt8} {k : Nat} (ha : a.length = 128) (hk : 120 ≤ k) (hk2 : k ≤ 128) : (tornL a b k).drop 120 = (a.drop 120).take (k - 120) ++ (b.drop 120).drop (k - 120) := by
  unfold tornL
  rw [List.drop_append_of_le_length (by rw [List.length_take]; omega), List.drop_take, List.drop_drop]
  congr 2; omega
theorem torn_whole {a b : List UInt8} {k : Nat} (_ha : a.length = 128) (hk : 120 ≤ k) (hk2 : k ≤ 128) (h : (b.drop 120).drop (k - 120) = (a.drop 120).drop (k - 120)) : tornL a b k = a := by
  rw [List.drop_drop, List.drop_drop, show 120 + (k - 120) = k by omega] at h
  unfold tornL
  rw [h, List.take_append_drop]
theorem torn_len {a b : List UInt8} {k : Nat} (ha : a.length = 128) (hb : b.length = 128) (hk : k ≤ 128) : (tornL a b k).length = 128 := by
  unfold tornL; rw [List.length_append, List.length_take, List.length_drop]; omega

theorem torn_law {f : Frm} {a b : List UInt8} {k : Nat} (hb : b.length = 128) (hk : k ≤ 128) (ha : frGet a = (f, true)) (hn : a.drop 120 ≠ b.drop 120)
    (ht : (frGet (tornL a b k)).2 = true) (hm : (frGet (tornL a b k)).1.m = f.m) : tornL a b k = a := by
  have ga : frGood a := by
    unfold frGet at ha; split at ha
    · assumption
    · simp at ha
  have gt : frGood (tornL a b k) := by
    unfold frGet at ht; split at ht
    · assumption
    · cases ht
  have hl := ga.1
  have fa : frOf a = f := by unfold frGet at ha; rw [if_pos ga] at ha; exact congrArg Prod.fst ha
  have ft : (frOf (tornL a b k)).m = f.m := by unfold frGet at hm; rw [if_pos gt] at hm; exact hm
  rw [← fa] at ft
  unfold frOf at ft
  dsimp only at ft
  have e1 : (tornL a b k).take 8 = a.take 8 := numN_inj (by rw [List.length_take, List.length_take, torn_len hl hb hk, hl]) (by omega)
  rw [gt.2.1, ga.2.1] at e1
  by_cases hk1 : k ≤ 120
  · rw [torn_low hl hk1] at e1
    exact absurd e1.symm hn
  · rw [torn_high hl (by omega) hk] at e1
    have e2 := (List.take_append_drop (k - 120) (a.drop 120)).symm
    exact torn_whole hl (by omega) hk (List.append_cancel_left (e1.trans e2))
end Go.Proofs.YtmnpbpfeoackiaaDoor
