/-
  Package box in plain words over lists: a box, what it holds, the texts that are summed for it. No program in sight.
-/
import Derived.Test.YtjpdhdfophjnpaaDoorMgF
import Derived.Test.YtjpdhdfophjnpaaDoorSt1
namespace Go.Proofs.YtjpdhdfophjnpaaDoor
open Go.RowKit

def hideS : List UInt8 := [104, 105, 100, 101]
def tagS : List UInt8 := [116, 97, 103]
def hideKL (k : List UInt8) : List UInt8 := partsL k [hideS]
def tagKL (k : List UInt8) : List UInt8 := partsL k [tagS]
def boxBody (k n t : List UInt8) : List UInt8 := n ++ smixL (hideKL k) n t
def boxL (k n t : List UInt8) : List UInt8 := boxBody k n t ++ hmacL (tagKL k) (boxBody k n t)
/-- A text or what is wrong. -/
abbrev ResL := List UInt8 × Nat
def sealR (k n t : List UInt8) : ResL := if n.length ≠ 16 then ([], 7) else if 4096 < t.length then ([], 3) else (boxL k n t, 0)
def openR (k s : List UInt8) : ResL :=
  if s.length < 48 then ([], 1) else if 4144 < s.length then ([], 3) else
  if hmacL (tagKL k) (s.take (s.length - 32)) = s.drop (s.length - 32) then (smixL (hideKL k) (s.take 16) ((s.take (s.length - 32)).drop 16), 0) else ([], 8)
theorem length_boxBody (k n t : List UInt8) : (boxBody k n t).length = n.length + t.length := by unfold boxBody; rw [List.length_append, length_smixL]
theorem length_boxL (k n t : List UInt8) : (boxL k n t).length = n.length + t.length + 32 := by unfold boxL; rw [List.length_append, length_boxBody, length_hmacL]
theorem sealR_ok {k n t : List UInt8} (h1 : n.length = 16) (h2 : t.length ≤ 4096) : sealR k n t = (boxL k n t, 0) := by unfold sealR; rw [if_neg (by omega), if_neg (by omega)]
theorem sealR_arg {k n t : List UInt8} (h1 : n.length ≠ 16) : sealR k n t = ([], 7) := if_pos h1
theorem sealR_limit {k n t : List UInt8} (h1 : n.length = 16) (h2 : 4096 < t.length) : sealR k n t = ([], 3) := by unfold sealR; rw [if_neg (by omega), if_pos h2]
theorem openR_end {k s : List UInt8} (h : s.length < 48) : openR k s = ([], 1) := if_pos h
theorem openR_limit {k s : List UInt8} (h : 4144 < s.length) : openR k s = ([], 3) := by unfold openR; rw [if_neg (by omega), if_pos h]
theorem openR_mid {k s : List UInt8} (h1 : 48 ≤ s.length) (h2 : s.length ≤ 4144) : openR k s = if hmacL (tagKL k) (s.take (s.length - 32)) = s.drop (s.length - 32) then (smixL (hideKL k) (s.take 16) ((s.take (s.length - 32)).drop 16), 0) else ([], 8) := by
  unfold openR; rw [if_neg (by omega), if_neg (by omega)]
/-- What was sealed is opened. -/
theorem open_box (k n t : List UInt8) (h1 : n.length = 16) (h2 : t.length ≤ 4096) : openR k (boxL k n t) = (t, 0) := by
  have hl := length_boxL k n t
  have hb := length_boxBody k n t
  have e1 : (boxL k n t).take ((boxL k n t).length - 32) = boxBody k n t := by unfold boxL; exact List.take_left' (by rw [List.length_append, length_hmacL]; omega)
  have e2 : (boxL k n t).drop ((boxL k n t).length - 32) = hmacL (tagKL k) (boxBody k n t) := by unfold boxL; exact List.drop_left' (by rw [List.length_append, length_hmacL]; omega)
  have e3 : (boxL k n t).take 16 = n := by unfold boxL boxBody; rw [List.append_assoc]; exact List.take_left' h1
  have e4 : (boxBody k n t).drop 16 = smixL (hideKL k) n t := by unfold boxBody; exact List.drop_left' h1
  rw [openR_mid (by omega) (by omega), e1, e2, if_pos rfl, e3, e4, smix_mix]
/-- What is opened is the very box of what it holds. -/
theorem box_open {k s t : List UInt8} (h : openR k s = (t, 0)) : (s.take 16).length = 16 ∧ t.length ≤ 4096 ∧ boxL k (s.take 16) t = s := by
  by_cases h1 : s.length < 48
  · rw [openR_end h1] at h; cases h
  · by_cases h2 : 4144 < s.length
    · rw [openR_limit h2] at h; cases h
    · rw [openR_mid (by omega) (by omega)] at h
      split at h
      · rename_i htag
        have ht : smixL (hideKL k) (s.take 16) ((s.take (s.length - 32)).drop 16) = t := (Prod.mk.inj h).1
        have hb : boxBody k (s.take 16) t = s.take (s.length - 32) := by
          unfold boxBody
          rw [← ht, smix_mix]
          have : s.take 16 = (s.take (s.length - 32)).take 16 := by rw [List.take_take, Nat.min_eq_left (by omega)]
          rw [this, List.take_append_drop]
        refine ⟨by rw [List.length_take]; omega, by rw [← ht, length_smixL]; simp; omega, ?_⟩
        unfold boxL
        rw [hb, htag, List.take_append_drop]
      · cases h
/-- The reference opens by sealing again. -/
theorem again_eq {k s : List UInt8} (h1 : 48 ≤ s.length) (h2 : s.length ≤ 4144) :
    boxL k (s.take 16) (smixL (hideKL k) (s.take 16) ((s.drop 16).take (s.length - 32 - 16))) = s ↔ hmacL (tagKL k) (s.take (s.length - 32)) = s.drop (s.length - 32) := by
  have e : (s.drop 16).take (s.length - 32 - 16) = (s.take (s.length - 32)).drop 16 := by rw [List.drop_take]
  rw [e]
  have hb : boxBody k (s.take 16) (smixL (hideKL k) (s.take 16) ((s.take (s.length - 32)).drop 16)) = s.take (s.length - 32) := by
    unfold boxBody
    rw [smix_mix]
    have : s.take 16 = (s.take (s.length - 32)).take 16 := by rw [List.take_take, Nat.min_eq_left (by omega)]
    rw [this, List.take_append_drop]
  unfold boxL
  rw [hb]
  constructor
  · intro h
    have h3 : s.take (s.length - 32) ++ hmacL (tagKL k) (s.take (s.length - 32)) = s.take (s.length - 32) ++ s.drop (s.length - 32) := by rw [h, List.take_append_drop]
    exact List.append_cancel_left h3
  · intro h
    rw [h, List.take_append_drop]
/-- The texts that are summed for a box's tag. -/
def boxT (k s : List UInt8) : List (List UInt8) := pairT k [tagS] ++ [innerL (tagKL k) (s.take (s.length - 32)), outerL (tagKL k) (s.take (s.length - 32))]
theorem box_other {k m s : List UInt8} (hk : k.length = 32) (hm : m.length = 32) (hne : k ≠ m) (h1 : hmacL (tagKL k) (s.take (s.length - 32)) = s.drop (s.length - 32)) (h2 : hmacL (tagKL m) (s.take (s.length - 32)) = s.drop (s.length - 32)) : ClashM (boxT k s ++ boxT m s) := by
  have h := h1.trans h2.symm
  by_cases ht : tagKL k = tagKL m
  · rcases pair_clash hk hm (a := [tagS]) (b := [tagS]) (by intro p hp; simp at hp; rw [hp]; decide) (by intro p hp; simp at hp; rw [hp]; decide) ht with h3 | h3
    · exact absurd h3.1 hne
    · exact h3.more fun x hx => by
        rcases List.mem_append.1 hx with hx | hx
        · exact List.mem_append.2 (.inl (List.mem_append.2 (.inl hx)))
        · exact List.mem_append.2 (.inr (List.mem_append.2 (.inl hx)))
  · rcases apart (length_partsL k _) (length_partsL m _) (fun e => ht e.1) h with ⟨h3, h4⟩ | ⟨h3, h4⟩
    · exact ⟨innerL (tagKL k) (s.take (s.length - 32)), by simp [boxT], innerL (tagKL m) (s.take (s.length - 32)), by simp [boxT], h3, h4⟩
    · exact ⟨outerL (tagKL k) (s.take (s.length - 32)), by simp [boxT], outerL (tagKL m) (s.take (s.length - 32)), by simp [boxT], h3, h4⟩
end Go.Proofs.YtjpdhdfophjnpaaDoor
