/-
  Texts that clash; how long the summed texts of a token are. No condition.
-/
import Derived.Test.YtejhiekikblbiaaGreatDoorMgI
namespace Go.Proofs.YtejhiekikblbiaaGreatDoor
open Go.RowKit

theorem clash_idx {xs : List (List UInt8)} (h : ClashM xs) : ∃ i j, j < i ∧ i < xs.length ∧ ClashAt xs i j := by
  obtain ⟨p, hp, q, hq, hne, hs⟩ := h
  obtain ⟨i, hi⟩ := List.mem_iff_getElem?.1 hp
  obtain ⟨j, hj⟩ := List.mem_iff_getElem?.1 hq
  have li : i < xs.length := (List.getElem?_eq_some_iff.1 hi).1
  have lj : j < xs.length := (List.getElem?_eq_some_iff.1 hj).1
  have ei : xs.getD i [] = p := by rw [List.getD_eq_getElem?_getD, hi]; rfl
  have ej : xs.getD j [] = q := by rw [List.getD_eq_getElem?_getD, hj]; rfl
  rcases Nat.lt_trichotomy i j with h | h | h
  · exact ⟨j, i, h, lj, by rw [ei, ej]; exact hs, by rw [ei, ej]; exact hne⟩
  · subst h
    rw [ei] at ej
    exact absurd ej hne
  · exact ⟨i, j, h, li, by rw [ei, ej]; exact hs.symm, by rw [ei, ej]; exact hne.symm⟩
theorem pairT_len (k : List UInt8) (ps : List (List UInt8)) (h : (frameL ps).length ≤ 400000) : ∀ p ∈ pairT k ps, p.length ≤ 900000 := by
  intro p hp
  simp [pairT] at hp
  rcases hp with rfl | rfl
  · unfold innerL; rw [List.length_append, length_hideL]; omega
  · unfold outerL; rw [List.length_append, length_hideL, length_sumL]; omega
theorem texts_len (k id : List UInt8) (l : List LinkL) (hi : id.length ≤ 100000) (hs : Short1 l) : ∀ p ∈ textsL k id l, p.length ≤ 900000 := by
  have key : ∀ (l : List LinkL) (t : List UInt8), Short1 l → ∀ p ∈ moreT t l, p.length ≤ 900000 := by
    intro l
    induction l with
    | nil => intro t _ p hp; simp [moreT] at hp
    | cons x l ih =>
      intro t h p hp
      rw [moreT] at hp
      rcases List.mem_append.1 hp with hp | hp
      · exact pairT_len t _ (by have h1 := len_next x; have h2 := h x (by simp); omega) p hp
      · exact ih _ (fun y hy => h y (by simp [hy])) p hp
  intro p hp
  unfold textsL at hp
  rcases List.mem_append.1 hp with hp | hp
  · exact pairT_len k _ (by rw [len_root]; omega) p hp
  · exact key l _ hs p hp
theorem small_fits {id tag : List UInt8} {l : List LinkL} (h : Small id tag l) : ∀ x ∈ l, Fits x := fun x hx => by
  have := h.2.2.2.1 x hx
  unfold Fits
  omega

end Go.Proofs.YtejhiekikblbiaaGreatDoor
