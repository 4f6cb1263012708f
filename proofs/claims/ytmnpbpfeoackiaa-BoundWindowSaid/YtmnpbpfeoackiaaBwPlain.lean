/-
  A bucket in plain words over numbers: what it holds at a time, one taken; how many are taken within a time. No program in sight.
-/
import Derived.Test.YtmnpbpfeoackiaaBase
namespace Go.Proofs.Ytmnpbpfeoackiaa
open Go.RowKit

/-- A bucket: what it holds, the time. -/
def bkAt (cap fill : Nat) (b : Nat × Nat) (now : Nat) : Nat × Nat := if now ≤ b.2 then b else (min cap (b.1 + fill * (now - b.2)), now)
/-- One is taken. -/
def bkTake (cap fill : Nat) (b : Nat × Nat) (now : Nat) : (Nat × Nat) × Bool :=
  if (bkAt cap fill b now).1 = 0 then (bkAt cap fill b now, false) else (((bkAt cap fill b now).1 - 1, (bkAt cap fill b now).2), true)
/-- What was taken from l0 on for l1: n; the bucket is b; the last time was last. -/
structure BkInv (cap fill l0 l1 : Nat) (b : Nat × Nat) (last n : Nat) : Prop where
  capB : b.1 ≤ cap
  time : b.2 ≤ last
  most : n ≤ cap + fill * l1
  none : b.2 < l0 → n = 0
  some : l0 ≤ b.2 → b.2 ≤ l0 + l1 → n + b.1 ≤ cap + fill * (b.2 - l0)
theorem BkInv.begin (cap fill l0 l1 : Nat) : BkInv cap fill l0 l1 (0, 0) 0 0 := ⟨Nat.zero_le _, Nat.le_refl _, Nat.zero_le _, fun _ => rfl, fun _ _ => by simp⟩
theorem bkAt_cap {cap fill now : Nat} {b : Nat × Nat} (h : b.1 ≤ cap) : (bkAt cap fill b now).1 ≤ cap := by
  unfold bkAt
  split
  · exact h
  · exact Nat.min_le_left _ _
theorem bkAt_time {cap fill now : Nat} {b : Nat × Nat} (h : b.2 ≤ now) : (bkAt cap fill b now).2 = now := by
  unfold bkAt
  split
  · omega
  · rfl
theorem bkTake_at (cap fill : Nat) (b : Nat × Nat) (now : Nat) : (bkTake cap fill b now).1.2 = (bkAt cap fill b now).2 ∧ (bkTake cap fill b now).1.1 ≤ (bkAt cap fill b now).1 := by
  unfold bkTake
  split
  · exact ⟨rfl, Nat.le_refl _⟩
  · exact ⟨rfl, Nat.sub_le _ _⟩
theorem BkInv.step {cap fill l0 l1 last n now : Nat} {b : Nat × Nat} (h : BkInv cap fill l0 l1 b last n) (hn : last ≤ now) :
    BkInv cap fill l0 l1 (bkTake cap fill b now).1 now (if (bkTake cap fill b now).2 = true ∧ l0 ≤ now ∧ now - l0 ≤ l1 then n + 1 else n) := by
  have ht := h.time
  have c1 := bkAt_cap (fill := fill) (now := now) h.capB
  have t1 := bkAt_time (cap := cap) (fill := fill) (b := b) (now := now) (Nat.le_trans ht hn)
  have key : l0 ≤ now → now ≤ l0 + l1 → n + (bkAt cap fill b now).1 ≤ cap + fill * (now - l0) := by
    intro h0 h1
    by_cases hb : b.2 < l0
    · have := h.none hb
      omega
    · have h2 := h.some (by omega) (by omega)
      unfold bkAt
      split
      · rename_i h3
        have : b.2 = now := by omega
        rw [this] at h2
        exact h2
      · dsimp only
        have h3 : fill * (now - l0) = fill * (b.2 - l0) + fill * (now - b.2) := by rw [← Nat.mul_add]; congr 1; omega
        have h4 := Nat.min_le_right cap (b.1 + fill * (now - b.2))
        omega
  obtain ⟨e1, e2⟩ := bkTake_at cap fill b now
  have hmul : l0 ≤ now → now ≤ l0 + l1 → fill * (now - l0) ≤ fill * l1 := fun h0 h1 => Nat.mul_le_mul_left _ (by omega)
  have hb : (bkTake cap fill b now).2 = true → (bkTake cap fill b now).1.1 + 1 = (bkAt cap fill b now).1 := by
    unfold bkTake
    split
    · intro h; cases h
    · intro _; dsimp only; omega
  refine ⟨Nat.le_trans e2 c1, by rw [e1, t1]; exact Nat.le_refl _, ?_, ?_, ?_⟩
  · split
    · rename_i hc
      have := key hc.2.1 (by omega)
      have := hmul hc.2.1 (by omega)
      have := hb hc.1
      omega
    · exact h.most
  · rw [e1, t1]
    intro h0
    rw [if_neg (by omega)]
    exact h.none (by omega)
  · rw [e1, t1]
    intro h0 h1
    have := key h0 h1
    split
    · rename_i hc
      have := hb hc.1
      omega
    · omega
end Go.Proofs.Ytmnpbpfeoackiaa
