/-
  Package hmac in plain words over lists: eight bytes of a number, frames, their parts, a tag. No program in sight.
-/
import Derived.Test.YteffocenfkcofaaDoorShaPlain
import Derived.Test.YteffocenfkcofaaDoorOctPlain
namespace Go.Proofs.YteffocenfkcofaaDoor
open Go.RowKit

/-! ### eight bytes of a number -/
/-- The last k bytes of a number, the highest first. -/
def beK (n : Nat) : Nat → List UInt8
  | 0 => []
  | k + 1 => (n / 256 ^ k % 256).toUInt8 :: beK n k
theorem length_beK (n : Nat) : ∀ k, (beK n k).length = k
  | 0 => rfl
  | k + 1 => by rw [beK, List.length_cons, length_beK n k]
theorem be8_beK (n : Nat) : be8 n = beK n 8 := by simp [be8, beK]
theorem length_be8 (n : Nat) : (be8 n).length = 8 := rfl
/-- What digits say. -/
def beN (l : List UInt8) : Nat := l.foldl (fun n b => n * 256 + b.toNat) 0
theorem beN_snoc (l : List UInt8) (b : UInt8) : beN (l ++ [b]) = beN l * 256 + b.toNat := by simp [beN]
theorem foldl_be (l : List UInt8) : ∀ n : Nat, l.foldl (fun n b => n * 256 + b.toNat) n = n * 256 ^ l.length + beN l := by
  induction l with
  | nil => intro n; simp [beN]
  | cons b l ih =>
    intro n
    unfold beN
    rw [List.foldl_cons, List.foldl_cons, ih, ih, List.length_cons, Nat.pow_succ, Nat.add_mul, Nat.add_assoc, Nat.mul_assoc, Nat.mul_comm 256, Nat.zero_mul, Nat.zero_add]
theorem beN_cons (b : UInt8) (l : List UInt8) : beN (b :: l) = b.toNat * 256 ^ l.length + beN l := by
  have := foldl_be l (0 * 256 + b.toNat)
  unfold beN at this ⊢
  rw [List.foldl_cons, this]
  simp
theorem beN_lt (l : List UInt8) : beN l < 256 ^ l.length := by
  induction l with
  | nil => simp [beN]
  | cons b l ih =>
    have hb := b.toNat_lt
    have h : b.toNat * 256 ^ l.length ≤ 255 * 256 ^ l.length := Nat.mul_le_mul_right _ (by omega)
    rw [beN_cons, List.length_cons, Nat.pow_succ]
    omega
theorem beN_beK (n : Nat) : ∀ k, beN (beK n k) = n % 256 ^ k
  | 0 => by simp [beK, beN, Nat.mod_one]
  | k + 1 => by
    rw [beK, beN_cons, length_beK, beN_beK n k, Nat.pow_succ, Nat.mod_mul]
    simp only [UInt8.toNat_ofNat', Nat.toUInt8_eq]
    rw [Nat.mod_mod, Nat.mul_comm, Nat.add_comm]
theorem beN_be8 (n : Nat) (h : n < 18446744073709551616) : beN (be8 n) = n := by
  rw [be8_beK, beN_beK]
  exact Nat.mod_eq_of_lt h
theorem beK_beN : ∀ l : List UInt8, beK (beN l) l.length = l := by
  have key : ∀ (l : List UInt8) (m : Nat), beK (m * 256 ^ l.length + beN l) l.length = l := by
    intro l
    induction l with
    | nil => intro m; rfl
    | cons b l ih =>
      intro m
      have hlt := beN_lt l
      have hb := b.toNat_lt
      have e : m * 256 ^ (b :: l).length + beN (b :: l) = (m * 256 + b.toNat) * 256 ^ l.length + beN l := by
        rw [beN_cons, List.length_cons, Nat.pow_succ, Nat.add_mul, Nat.mul_assoc, Nat.mul_comm 256, Nat.add_assoc]
      rw [e, List.length_cons, beK, ih]
      congr 1
      rw [Nat.mul_comm, Nat.mul_add_div (Nat.pow_pos (by decide)), Nat.div_eq_of_lt hlt, Nat.add_zero]
      apply UInt8.toNat_inj.1
      simp
  intro l
  have := key l 0
  simpa using this
theorem be8_beN (l : List UInt8) (h : l.length = 8) : be8 (beN l) = l := by
  rw [be8_beK, ← h]
  exact beK_beN l

/-! ### frames -/
def frameL : List (List UInt8) → List UInt8
  | [] => []
  | p :: l => be8 p.length ++ (p ++ frameL l)
theorem frameL_append (a b : List (List UInt8)) : frameL (a ++ b) = frameL a ++ frameL b := by
  induction a with
  | nil => rfl
  | cons p a ih => simp only [List.cons_append, frameL, ih, List.append_assoc]
theorem frameL_snoc (a : List (List UInt8)) (p : List UInt8) : frameL (a ++ [p]) = frameL a ++ (be8 p.length ++ p) := by
  rw [frameL_append]; simp [frameL]

/-- What the iterator gives: the parts, one by one; false: here it is none. -/
def itemsF : Nat → List UInt8 → List (List UInt8 × Bool)
  | 0, _ => []
  | k + 1, s =>
    if s.length = 0 then [] else
    if s.length < 8 then [([], false)] else
    if (s.drop 8).length < beN (s.take 8) then [([], false)] else
    ((s.drop 8).take (beN (s.take 8)), true) :: itemsF k ((s.drop 8).drop (beN (s.take 8)))
def itemsL (s : List UInt8) : List (List UInt8 × Bool) := itemsF s.length s
theorem itemsF_more : ∀ (k j : Nat) (s : List UInt8), s.length ≤ k → s.length ≤ j → itemsF k s = itemsF j s
  | 0, 0, s, _, _ => rfl
  | 0, j + 1, s, h, _ => by simp only [itemsF]; rw [if_pos (by omega)]
  | k + 1, 0, s, _, h => by simp only [itemsF]; rw [if_pos (by omega)]
  | k + 1, j + 1, s, h1, h2 => by
    simp only [itemsF]
    split
    · rfl
    · split
      · rfl
      · split
        · rfl
        · rw [itemsF_more k j _ (by simp only [List.length_drop]; omega) (by simp only [List.length_drop]; omega)]
theorem itemsL_nil {s : List UInt8} (h : s.length = 0) : itemsL s = [] := by unfold itemsL; rw [h]; rfl
theorem itemsL_short {s : List UInt8} (h0 : 0 < s.length) (h : s.length < 8) : itemsL s = [([], false)] := by
  unfold itemsL
  obtain ⟨m, hm⟩ : ∃ m, s.length = m + 1 := ⟨s.length - 1, by omega⟩
  rw [hm]; simp only [itemsF]; rw [if_neg (by omega), if_pos h]
theorem itemsL_far {s : List UInt8} (h : 8 ≤ s.length) (hn : (s.drop 8).length < beN (s.take 8)) : itemsL s = [([], false)] := by
  unfold itemsL
  obtain ⟨m, hm⟩ : ∃ m, s.length = m + 1 := ⟨s.length - 1, by omega⟩
  rw [hm]; simp only [itemsF]; rw [if_neg (by omega), if_neg (by omega), if_pos hn]
theorem itemsL_cons {s : List UInt8} (h : 8 ≤ s.length) (hn : beN (s.take 8) ≤ (s.drop 8).length) :
    itemsL s = ((s.drop 8).take (beN (s.take 8)), true) :: itemsL ((s.drop 8).drop (beN (s.take 8))) := by
  unfold itemsL
  obtain ⟨m, hm⟩ : ∃ m, s.length = m + 1 := ⟨s.length - 1, by omega⟩
  rw [hm]
  conv => lhs; rw [itemsF]
  rw [if_neg (by omega), if_neg (by omega), if_neg (by omega), itemsF_more m _ _ (by simp only [List.length_drop]; omega) (Nat.le_refl _)]

/-- The parts, none where some item is none. -/
def splitOf : List (List UInt8 × Bool) → Option (List (List UInt8))
  | [] => some []
  | x :: l => if x.2 then (splitOf l).map (x.1 :: ·) else none
def splitL (s : List UInt8) : Option (List (List UInt8)) := splitOf (itemsL s)
theorem splitOf_good : ∀ l : List (List UInt8 × Bool), (∀ x ∈ l, x.2 = true) → splitOf l = some (l.map (·.1))
  | [], _ => rfl
  | x :: l, h => by
    rw [splitOf, if_pos (h x (by simp)), splitOf_good l (fun y hy => h y (by simp [hy]))]; rfl
theorem splitOf_bad : ∀ l : List (List UInt8 × Bool), (∃ x ∈ l, x.2 = false) → splitOf l = none
  | [], h => by obtain ⟨x, hx, _⟩ := h; cases hx
  | x :: l, h => by
    rw [splitOf]
    split
    · obtain ⟨y, hy, hf⟩ := h
      rcases List.mem_cons.1 hy with rfl | hy
      · simp_all
      · rw [splitOf_bad l ⟨y, hy, hf⟩]; rfl
    · rfl
theorem splitL_nil {s : List UInt8} (h : s.length = 0) : splitL s = some [] := by unfold splitL; rw [itemsL_nil h]; rfl
theorem splitL_short {s : List UInt8} (h0 : 0 < s.length) (h : s.length < 8) : splitL s = none := by unfold splitL; rw [itemsL_short h0 h]; rfl
theorem splitL_far {s : List UInt8} (h : 8 ≤ s.length) (hn : (s.drop 8).length < beN (s.take 8)) : splitL s = none := by unfold splitL; rw [itemsL_far h hn]; rfl
theorem splitL_cons {s : List UInt8} (h : 8 ≤ s.length) (hn : beN (s.take 8) ≤ (s.drop 8).length) :
    splitL s = (splitL ((s.drop 8).drop (beN (s.take 8)))).map ((s.drop 8).take (beN (s.take 8)) :: ·) := by
  unfold splitL; rw [itemsL_cons h hn]; rfl

theorem split_frame : ∀ l : List (List UInt8), (∀ p ∈ l, p.length < 18446744073709551616) → splitL (frameL l) = some l
  | [], _ => splitL_nil rfl
  | p :: l, h => by
    have hp := h p (by simp)
    have hd : (frameL (p :: l)).drop 8 = p ++ frameL l := by simp only [frameL]; exact List.drop_left' (length_be8 _)
    have ht : (frameL (p :: l)).take 8 = be8 p.length := by simp only [frameL]; exact List.take_left' (length_be8 _)
    have hn : beN ((frameL (p :: l)).take 8) = p.length := by rw [ht, beN_be8 _ hp]
    have hl : (frameL (p :: l)).length = 8 + (p.length + (frameL l).length) := by simp only [frameL, List.length_append, length_be8]
    rw [splitL_cons (by omega) (by rw [hn, hd, List.length_append]; omega), hn, hd, List.drop_left, List.take_left, split_frame l (fun q hq => h q (by simp [hq]))]
    rfl
theorem frame_split : ∀ (k : Nat) (s : List UInt8) (l : List (List UInt8)), s.length ≤ k → splitL s = some l → frameL l = s
  | 0, s, l, hk, h => by
    have : s = [] := List.eq_nil_of_length_eq_zero (by omega)
    subst this
    rw [splitL_nil rfl] at h; cases h; rfl
  | k + 1, s, l, hk, h => by
    by_cases h0 : s.length = 0
    · rw [splitL_nil h0] at h; cases h
      exact (List.eq_nil_of_length_eq_zero h0).symm
    · by_cases h8 : s.length < 8
      · rw [splitL_short (by omega) h8] at h; cases h
      · by_cases hn : (s.drop 8).length < beN (s.take 8)
        · rw [splitL_far (by omega) hn] at h; cases h
        · rw [splitL_cons (by omega) (by omega)] at h
          obtain ⟨m, hm, rfl⟩ := Option.map_eq_some_iff.1 h
          have ih := frame_split k _ m (by simp only [List.length_drop]; omega) hm
          rw [frameL, ih, List.length_take, Nat.min_eq_left (by omega), be8_beN _ (by rw [List.length_take]; omega), List.take_append_drop, List.take_append_drop]
theorem frame_inj {a b : List (List UInt8)} (ha : ∀ p ∈ a, p.length < 18446744073709551616) (hb : ∀ p ∈ b, p.length < 18446744073709551616) (h : frameL a = frameL b) : a = b := by
  have h1 := split_frame a ha
  rw [h, split_frame b hb] at h1
  exact (Option.some.inj h1).symm

/-! ### tags -/
def keyL (k : List UInt8) : List UInt8 := if 64 < k.length then sumL k else k
/-- 64 bytes of a key, each exclusive or another one. -/
def hideL (k : List UInt8) (b : UInt8) : List UInt8 := xorL (padL k 64) (List.replicate 64 b)
theorem padL_64 (k : List UInt8) : padL k 64 = k ++ List.replicate (64 - k.length) 0 := rfl
def innerL (k s : List UInt8) : List UInt8 := hideL (keyL k) 54 ++ s
def outerL (k s : List UInt8) : List UInt8 := hideL (keyL k) 92 ++ sumL (innerL k s)
def hmacL (k s : List UInt8) : List UInt8 := sumL (outerL k s)
theorem length_hmacL (k s : List UInt8) : (hmacL k s).length = 32 := length_tellS _
theorem length_sumL (s : List UInt8) : (sumL s).length = 32 := length_tellS _
theorem length_hideL (k : List UInt8) (b : UInt8) : (hideL k b).length = 64 := by
  unfold hideL; rw [length_xorL, padL_64]; simp; omega
theorem hideL_inj {k m : List UInt8} {b : UInt8} (h1 : k.length = 32) (h2 : m.length = 32) (h : hideL k b = hideL m b) : k = m := by
  unfold hideL at h
  have h3 : xorL (xorL (padL k 64) (List.replicate 64 b)) (List.replicate 64 b) = xorL (xorL (padL m 64) (List.replicate 64 b)) (List.replicate 64 b) := by rw [h]
  rw [padL_64, padL_64, xorL_self, xorL_self, List.take_of_length_le (by simp; omega), List.take_of_length_le (by simp; omega)] at h3
  exact (List.append_inj h3 (by omega)).1
/-- Two unlike pairs with one tag: the texts that were summed clash. -/
theorem apart {k s m t : List UInt8} (h1 : k.length = 32) (h2 : m.length = 32) (hne : ¬ (k = m ∧ s = t)) (h : hmacL k s = hmacL m t) :
    (innerL k s ≠ innerL m t ∧ sumL (innerL k s) = sumL (innerL m t)) ∨ (outerL k s ≠ outerL m t ∧ sumL (outerL k s) = sumL (outerL m t)) := by
  by_cases hi : innerL k s = innerL m t
  · exfalso
    have hkk : keyL k = k := by unfold keyL; rw [if_neg (by omega)]
    have hmm : keyL m = m := by unfold keyL; rw [if_neg (by omega)]
    unfold innerL at hi
    rw [hkk, hmm] at hi
    have := List.append_inj hi (by rw [length_hideL, length_hideL])
    exact hne ⟨hideL_inj h1 h2 this.1, this.2⟩
  · by_cases hs : sumL (innerL k s) = sumL (innerL m t)
    · exact .inl ⟨hi, hs⟩
    · right
      refine ⟨fun e => ?_, h⟩
      unfold outerL at e
      exact hs (List.append_inj e (by rw [length_hideL, length_hideL])).2
end Go.Proofs.YteffocenfkcofaaDoor
