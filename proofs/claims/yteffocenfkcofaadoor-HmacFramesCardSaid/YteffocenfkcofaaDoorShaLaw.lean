/-
  SHA-256 over lists: blocks of a text in two parts, the running sum of a text that is added part by part. No program in sight.
-/
import Derived.Test.YteffocenfkcofaaDoorShaPlain
import Derived.Test.YteffocenfkcofaaDoorOctPlain
namespace Go.Proofs.YteffocenfkcofaaDoor
open Go.RowKit

theorem cutL_append : ∀ (n : Nat) (a b : List UInt8), a.length = 64 * n → cutL 64 (a ++ b) = cutL 64 a ++ cutL 64 b
  | 0, a, b, h => by
    have : a = [] := List.eq_nil_of_length_eq_zero (by omega)
    subst this
    rfl
  | n + 1, a, b, h => by
    rw [cutL_cons (by omega) (by rw [List.length_append]; omega), cutL_cons (by omega) (show 0 < a.length by omega), List.take_append_of_le_length (by omega), List.drop_append_of_le_length (by omega),
      cutL_append n (a.drop 64) b (by rw [List.length_drop]; omega)]
    rfl
/-- The words behind all blocks. -/
def foldS (v : St) (s : List UInt8) : St := (cutL 64 s).foldl stepS v
theorem foldS_append (n : Nat) (v : St) (a b : List UInt8) (h : a.length = 64 * n) : foldS v (a ++ b) = foldS (foldS v a) b := by
  unfold foldS
  rw [cutL_append n a b h, List.foldl_append]
theorem overS_fold : ∀ (n : Nat) (v : St) (s : List UInt8), s.length = 64 * n → overS n v s = foldS v s
  | 0, v, s, h => by
    have : s = [] := List.eq_nil_of_length_eq_zero (by omega)
    subst this
    rfl
  | n + 1, v, s, h => by
    unfold foldS
    rw [cutL_cons (by omega) (by omega), List.foldl_cons]
    exact overS_fold n _ _ (by rw [List.length_drop]; omega)
theorem sumL_fold (s : List UInt8) : sumL s = tellS (foldS initS (shaPad s)) := by
  unfold sumL
  rw [overS_fold _ _ _ (by have := shaPad_whole s; omega)]

/-- The words behind the whole blocks of a text, and what is left of it. -/
def stOf (t : List UInt8) : St := foldS initS (t.take (t.length / 64 * 64))
def tlOf (t : List UInt8) : List UInt8 := t.drop (t.length / 64 * 64)
theorem length_tlOf (t : List UInt8) : (tlOf t).length = t.length % 64 := by unfold tlOf; rw [List.length_drop]; omega
theorem split_tl (t : List UInt8) : t.take (t.length / 64 * 64) ++ tlOf t = t := List.take_append_drop _ _
theorem length_hd (t : List UInt8) : (t.take (t.length / 64 * 64)).length = 64 * (t.length / 64) := by rw [List.length_take]; omega
theorem parts_eq (t s : List UInt8) : (t ++ s).take ((t ++ s).length / 64 * 64) = t.take (t.length / 64 * 64) ++ (tlOf t ++ s).take ((tlOf t ++ s).length / 64 * 64) ∧
    (t ++ s).drop ((t ++ s).length / 64 * 64) = (tlOf t ++ s).drop ((tlOf t ++ s).length / 64 * 64) := by
  have e : t ++ s = t.take (t.length / 64 * 64) ++ (tlOf t ++ s) := by rw [← List.append_assoc, split_tl]
  have hl : (t ++ s).length / 64 * 64 = (t.take (t.length / 64 * 64)).length + (tlOf t ++ s).length / 64 * 64 := by
    rw [length_hd, List.length_append, List.length_append, length_tlOf]
    omega
  rw [hl]
  constructor
  · conv => lhs; rw [e]
    rw [List.take_length_add_append]
  · conv => lhs; rw [e]
    rw [List.drop_length_add_append]
theorem stOf_add (t s : List UInt8) : foldS (stOf t) ((tlOf t ++ s).take ((tlOf t ++ s).length / 64 * 64)) = stOf (t ++ s) := by
  unfold stOf
  rw [(parts_eq t s).1, foldS_append _ _ _ _ (length_hd t)]
theorem tlOf_add (t s : List UInt8) : (tlOf t ++ s).drop ((tlOf t ++ s).length / 64 * 64) = tlOf (t ++ s) := (parts_eq t s).2.symm
theorem sum_parts (t : List UInt8) : tellS (foldS (stOf t) (tlOf t ++ endingL t.length)) = sumL t := by
  rw [sumL_fold]
  unfold stOf shaPad
  rw [← foldS_append _ _ _ _ (length_hd t), ← List.append_assoc, split_tl]
theorem stOf_nil : stOf [] = initS := rfl
theorem tlOf_nil : tlOf [] = [] := rfl
end Go.Proofs.YteffocenfkcofaaDoor
