/-
  Frames as plain lists: what Put writes, what Get accepts; a torn write. No program in sight.
-/
import Derived.Test.YtmnpbpfeoackiaaDoorOctPlain
namespace Go.Proofs.YtmnpbpfeoackiaaDoor
open Go.RowKit

/-- A number's bytes, the lowest first. -/
def leN : Nat → Nat → List UInt8
  | 0, _ => []
  | k + 1, n => (n % 256).toUInt8 :: leN k (n / 256)
def numN : List UInt8 → Nat
  | [] => 0
  | b :: r => b.toNat + 256 * numN r
theorem length_leN : ∀ k n, (leN k n).length = k
  | 0, _ => rfl
  | k + 1, n => by simp [leN, length_leN k]
theorem numN_leN : ∀ k n, n < 256 ^ k → numN (leN k n) = n
  | 0, n, h => by simp at h; simp [leN, numN, h]
  | k + 1, n, h => by
    have h1 : n / 256 < 256 ^ k := by rw [Nat.pow_succ] at h; omega
    have h2 : (n % 256).toUInt8.toNat = n % 256 := by rw [UInt8.toNat_ofNat']; omega
    simp only [leN, numN]
    rw [numN_leN k _ h1, h2]
    omega
theorem leN_numN : ∀ l, leN l.length (numN l) = l
  | [] => rfl
  | b :: r => by
    have hb := b.toNat_lt
    simp only [List.length_cons, leN, numN]
    rw [show (b.toNat + 256 * numN r) / 256 = numN r by omega, leN_numN r]
    congr 1
    apply UInt8.toNat_inj.1
    rw [UInt8.toNat_ofNat']
    omega
theorem numN_lt : ∀ l, numN l < 256 ^ l.length
  | [] => by decide
  | b :: r => by
    have := numN_lt r
    have hb := b.toNat_lt
    simp only [List.length_cons, numN, Nat.pow_succ]
    omega
theorem numN_append : ∀ a b, numN (a ++ b) = numN a + 256 ^ a.length * numN b
  | [], b => by simp [numN]
  | x :: a, b => by
    have h := numN_append a b
    simp only [List.cons_append, numN, List.length_cons, Nat.pow_succ, h]
    rw [Nat.mul_comm (256 ^ a.length) 256, Nat.mul_assoc, Nat.mul_add]
    omega
theorem numN_inj {a b : List UInt8} (h : a.length = b.length) (h2 : numN a = numN b) : a = b := by
  rw [← leN_numN a, ← leN_numN b, h, h2]

structure Frm where
  m : Int
  k : Int
  t : List UInt8
deriving DecidableEq

def frBytes (m : Nat) (k : Nat) (t : List UInt8) : List UInt8 :=
  leN 8 m ++ (k.toUInt8 :: t.length.toUInt8 :: (t ++ (List.replicate (110 - t.length) 0 ++ leN 8 m)))
def frPut (f : Frm) : List UInt8 × Int :=
  if f.m < 1 ∨ f.k < 0 ∨ 255 < f.k then ([], 7)
  else if 110 < f.t.length then ([], 3)
  else (frBytes f.m.toNat f.k.toNat f.t, 0)
theorem frPut_arg {f : Frm} (h : f.m < 1 ∨ f.k < 0 ∨ 255 < f.k) : frPut f = ([], 7) := if_pos h
theorem frPut_limit {f : Frm} (h : ¬ (f.m < 1 ∨ f.k < 0 ∨ 255 < f.k)) (h2 : 110 < f.t.length) : frPut f = ([], 3) := by unfold frPut; rw [if_neg h, if_pos h2]
theorem frPut_ok {f : Frm} (h : ¬ (f.m < 1 ∨ f.k < 0 ∨ 255 < f.k)) (h2 : ¬ 110 < f.t.length) : frPut f = (frBytes f.m.toNat f.k.toNat f.t, 0) := by unfold frPut; rw [if_neg h, if_neg h2]
theorem length_frBytes {m k : Nat} {t : List UInt8} (h : t.length ≤ 110) : (frBytes m k t).length = 128 := by
  unfold frBytes; simp [length_leN]; omega

/-- What is read: the mark, the kind, the text; and whether it is a frame. -/
def frOf (s : List UInt8) : Frm := ⟨((numN (s.take 8) : Nat) : Int), ((s.getD 8 0).toNat : Int), (s.drop 10).take (min (s.getD 9 0).toNat 110)⟩
def frGood (s : List UInt8) : Prop :=
  s.length = 128 ∧ s.take 8 = s.drop 120 ∧ (s.getD 7 0).toNat ≤ 127 ∧ (s.getD 9 0).toNat ≤ 110 ∧
    (∀ i, i < 120 → 10 + (s.getD 9 0).toNat ≤ i → s.getD i 0 = 0) ∧ numN (s.take 8) ≠ 0
theorem list8 {l : List UInt8} (h : l.length = 8) : ∃ a b c d e f g i, l = [a, b, c, d, e, f, g, i] := by
  match l, h with
  | [a, b, c, d, e, f, g, i], _ => exact ⟨a, b, c, d, e, f, g, i, rfl⟩
theorem getD_take (l : List UInt8) (n i : Nat) (h : i < n) : (l.take n).getD i 0 = l.getD i 0 := by
  simp [List.getD_eq_getElem?_getD, h]
theorem num8_small {l : List UInt8} (h : l.length = 8) : numN l < 9223372036854775808 ↔ (l.getD 7 0).toNat ≤ 127 := by
  obtain ⟨a, b, c, d, e, f, g, i, rfl⟩ := list8 h
  have := a.toNat_lt; have := b.toNat_lt; have := c.toNat_lt; have := d.toNat_lt; have := e.toNat_lt; have := f.toNat_lt; have := g.toNat_lt; have := i.toNat_lt
  simp [numN]
  omega

/-- The 128 bytes in their places. -/
theorem split128 (s : List UInt8) (h : s.length = 128) : s = s.take 8 ++ (s.getD 8 0 :: s.getD 9 0 :: ((s.drop 10).take 110 ++ s.drop 120)) := by
  have e1 : s = s.take 8 ++ s.drop 8 := (List.take_append_drop 8 s).symm
  have e2 : s.drop 8 = s.getD 8 0 :: s.drop 9 := by
    rw [List.drop_eq_getElem_cons (by omega)]; simp [List.getD_eq_getElem?_getD, List.getElem?_eq_getElem (show 8 < s.length by omega)]
  have e3 : s.drop 9 = s.getD 9 0 :: s.drop 10 := by
    rw [List.drop_eq_getElem_cons (by omega)]; simp [List.getD_eq_getElem?_getD, List.getElem?_eq_getElem (show 9 < s.length by omega)]
  have e4 : s.drop 10 = (s.drop 10).take 110 ++ s.drop 120 := by
    have := (List.take_append_drop 110 (s.drop 10)).symm
    rw [List.drop_drop] at this
    exact this
  rw [← e4, ← e3, ← e2]; exact e1

theorem frBytes_take {m k : Nat} {t : List UInt8} : (frBytes m k t).take 8 = leN 8 m := by
  unfold frBytes; rw [List.take_append_of_le_length (by rw [length_leN]; omega), List.take_of_length_le (by rw [length_leN]; omega)]
theorem frBytes_8 {m k : Nat} {t : List UInt8} : (frBytes m k t).getD 8 0 = k.toUInt8 := by
  unfold frBytes; simp [List.getD_eq_getElem?_getD, length_leN]
theorem frBytes_9 {m k : Nat} {t : List UInt8} : (frBytes m k t).getD 9 0 = t.length.toUInt8 := by
  unfold frBytes; simp [List.getD_eq_getElem?_getD, List.getElem?_append, length_leN]
theorem frBytes_drop10 {m k : Nat} {t : List UInt8} : (frBytes m k t).drop 10 = t ++ (List.replicate (110 - t.length) 0 ++ leN 8 m) := by
  unfold frBytes
  rw [show 10 = (leN 8 m).length + 2 by rw [length_leN], ← List.drop_drop, List.drop_left]
  rfl
theorem frBytes_drop {m k : Nat} {t : List UInt8} (h : t.length ≤ 110) : (frBytes m k t).drop 120 = leN 8 m := by
  rw [show 120 = 10 + 110 by omega, ← List.drop_drop, frBytes_drop10, ← List.append_assoc]
  rw [List.drop_append_of_le_length (by simp; omega), List.drop_of_length_le (by simp; omega)]
  rfl

theorem frOf_bytes {m k : Nat} {t : List UInt8} (hm : m < 9223372036854775808) (hk : k ≤ 255) (ht : t.length ≤ 110) : frOf (frBytes m k t) = ⟨m, k, t⟩ := by
  have h9 : t.length.toUInt8.toNat = t.length := by rw [UInt8.toNat_ofNat']; omega
  have h8 : k.toUInt8.toNat = k := by rw [UInt8.toNat_ofNat']; omega
  unfold frOf
  rw [frBytes_take, frBytes_8, frBytes_9, frBytes_drop10, numN_leN 8 m (by omega), h8, h9, Nat.min_eq_left ht, List.take_left]
theorem frGood_bytes {m k : Nat} {t : List UInt8} (h1 : 1 ≤ m) (hm : m < 9223372036854775808) (ht : t.length ≤ 110) : frGood (frBytes m k t) := by
  have h9 : t.length.toUInt8.toNat = t.length := by rw [UInt8.toNat_ofNat']; omega
  have n8 := numN_leN 8 m (by omega)
  refine ⟨length_frBytes ht, by rw [frBytes_take, frBytes_drop ht], ?_, ?_, ?_, ?_⟩
  · rw [← getD_take _ 8 7 (by omega), frBytes_take]
    exact (num8_small (length_leN 8 m)).1 (by rw [n8]; exact hm)
  · rw [frBytes_9, h9]; exact ht
  · intro i hi2 hi
    rw [frBytes_9, h9] at hi
    obtain ⟨j, rfl⟩ : ∃ j, i = 10 + j := ⟨i - 10, by omega⟩
    have : (frBytes m k t).getD (10 + j) 0 = ((frBytes m k t).drop 10).getD j 0 := by simp [List.getD_eq_getElem?_getD, List.getElem?_drop]
    rw [this, frBytes_drop10, List.getD_eq_getElem?_getD, List.getElem?_append_right (by omega), List.getElem?_append_left (by simp; omega), List.getElem?_replicate]
    split <;> rfl
  · rw [frBytes_take, n8]; omega

/-- A good block is what is put of what is read. -/
theorem frBytes_of {s : List UInt8} (h : frGood s) : s = frBytes (numN (s.take 8)) (s.getD 8 0).toNat (frOf s).t ∧ (frOf s).t.length = (s.getD 9 0).toNat := by
  obtain ⟨hl, he, h7, h9, hz, hn⟩ := h
  have ht : (frOf s).t = (s.drop 10).take (s.getD 9 0).toNat := by unfold frOf; rw [Nat.min_eq_left h9]
  have k2 : (s.getD 9 0).toNat.toUInt8 = s.getD 9 0 := by apply UInt8.toNat_inj.1; rw [UInt8.toNat_ofNat']; have := (s.getD 9 0).toNat_lt; omega
  have hs := split128 s hl
  obtain ⟨c, hc⟩ : ∃ c, s.getD 9 0 = c := ⟨_, rfl⟩
  rw [hc] at ht h9 hz k2 hs ⊢
  obtain ⟨n9, hn9⟩ : ∃ n, c.toNat = n := ⟨_, rfl⟩
  rw [hn9] at ht h9 hz k2 ⊢
  have hlen : (frOf s).t.length = n9 := by rw [ht, List.length_take, List.length_drop]; omega
  refine ⟨?_, hlen⟩
  have e1 : leN 8 (numN (s.take 8)) = s.take 8 := by
    have := leN_numN (s.take 8)
    rwa [show (s.take 8).length = 8 by rw [List.length_take]; omega] at this
  have e2 : (s.drop 10).take 110 = (frOf s).t ++ List.replicate (110 - (frOf s).t.length) 0 := by
    rw [hlen, ht]
    apply List.ext_getElem?
    intro j
    by_cases hj : j < n9
    · rw [List.getElem?_take, if_pos (by omega), List.getElem?_append_left (by rw [List.length_take, List.length_drop]; omega), List.getElem?_take, if_pos hj]
    · by_cases hj2 : j < 110
      · rw [List.getElem?_take, if_pos hj2, List.getElem?_append_right (by rw [List.length_take, List.length_drop]; omega), List.getElem?_drop]
        have hz' := hz (10 + j) (by omega) (by omega)
        rw [List.getD_eq_getElem?_getD, List.getElem?_eq_getElem (by omega)] at hz'
        rw [List.getElem?_eq_getElem (by omega), List.getElem?_replicate, if_pos (by rw [List.length_take, List.length_drop]; omega)]
        simpa using hz'
      · rw [List.getElem?_eq_none (by rw [List.length_take, List.length_drop]; omega), List.getElem?_eq_none (by rw [List.length_append, List.length_take, List.length_drop, List.length_replicate]; omega)]
  have k1 : (s.getD 8 0).toNat.toUInt8 = s.getD 8 0 := by apply UInt8.toNat_inj.1; rw [UInt8.toNat_ofNat']; have := (s.getD 8 0).toNat_lt; omega
  unfold frBytes
  rw [e1, hlen, k1, k2]
  have e3 := hs
  rw [e2, ← he, hlen, List.append_assoc] at e3
  exact e3

instance (s : List UInt8) : Decidable (frGood s) := by unfold frGood; infer_instance
def frGet (s : List UInt8) : Frm × Bool := if frGood s then (frOf s, true) else (⟨0, 0, []⟩, false)

/-- What is read of a block that is put, and the other way round. -/
theorem frGet_put {f : Frm} (hm : f.m < 9223372036854775808) (h : (frPut f).2 = 0) : frGet (frPut f).1 = (f, true) := by
  obtain ⟨m, k, t⟩ := f
  by_cases ha : m < 1 ∨ k < 0 ∨ 255 < k
  · rw [frPut_arg ha] at h; exact absurd h (by decide)
  · by_cases hl : 110 < t.length
    · rw [frPut_limit ha hl] at h; exact absurd h (by decide)
    · rw [frPut_ok ha hl]
      simp only [not_or, Int.not_lt] at ha hm
      dsimp only at hm ha ⊢
      unfold frGet
      rw [if_pos (frGood_bytes (by omega) (by omega) (by omega)), frOf_bytes (by omega) (by omega) (by omega)]
      rw [Int.toNat_of_nonneg (by omega), Int.toNat_of_nonneg (by omega)]
theorem frPut_of {s : List UInt8} (h : frGood s) : frPut (frOf s) = (s, 0) := by
  obtain ⟨h1, h2⟩ := frBytes_of h
  obtain ⟨hl, he, h7, h9, hz, hn⟩ := h
  have hb := (s.getD 8 0).toNat_lt
  rw [frPut_ok (by unfold frOf; simp only [not_or, Int.not_lt]; omega) (by omega)]
  refine Prod.ext ?_ rfl
  show frBytes (frOf s).m.toNat (frOf s).k.toNat (frOf s).t = s
  unfold frOf at h1 ⊢
  simp only [Int.toNat_natCast]
  exact h1.symm
/-- The program's test. -/
theorem frGood_iff {s : List UInt8} (hm : (frOf s).m < 9223372036854775808) : (frPut (frOf s)).2 = 0 ∧ (frPut (frOf s)).1 = s ↔ frGood s := by
  constructor
  · rintro ⟨h, h2⟩
    have := frGet_put hm h
    rw [h2] at this
    unfold frGet at this
    split at this
    · assumption
    · simp at this
  · intro h
    rw [frPut_of h]
    exact ⟨rfl, rfl⟩
end Go.Proofs.YtmnpbpfeoackiaaDoor
