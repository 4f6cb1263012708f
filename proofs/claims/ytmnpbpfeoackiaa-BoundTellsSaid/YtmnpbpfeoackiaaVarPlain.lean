/-
  Plain functions that stand for package varint and its reference, and their laws. No program in sight. No condition.
-/
import Derived.Test.YtmnpbpfeoackiaaOctPlain
import Derived.IntWalk
namespace Go.Proofs.Ytmnpbpfeoackiaa

/-- A number below 2 to the 64. -/
def U64 (n : Nat) : Prop := n < 18446744073709551616
theorem U64.lt {n : Nat} (h : U64 n) : n < 18446744073709551616 := h
theorem U64.wrap {n : Nat} (h : U64 n) : IntKind.u64.wrap (n : Int) = n := IntWalk.u64_in _ (by have := h.lt; omega)
theorem U64.le {n m : Nat} (h : U64 n) (hm : m ≤ n) : U64 m := Nat.lt_of_le_of_lt hm h

def vputF : Nat → Nat → List UInt8
  | 0, _ => []
  | f + 1, n => if n < 128 then [n.toUInt8] else (n % 128 + 128).toUInt8 :: vputF f (n / 128)
def vput (n : Nat) : List UInt8 := vputF 10 n
theorem vputF_more : ∀ f n, n < 128 ^ f → ∀ g, f ≤ g → 0 < f → vputF g n = vputF f n
  | 0, _, _, _, _, h => absurd h (by omega)
  | f + 1, n, hn, g, hg, _ => by
    obtain ⟨g, rfl⟩ : ∃ g', g = g' + 1 := ⟨g - 1, by omega⟩
    simp only [vputF]
    split
    · rfl
    · rename_i h
      have hf : 0 < f := by
        rcases Nat.eq_zero_or_pos f with h0 | h0
        · subst h0; simp at hn; omega
        · exact h0
      rw [vputF_more f (n / 128) (by rw [Nat.pow_succ] at hn; omega) g (by omega) hf]
theorem vput_lt {n : Nat} (h : n < 128) : vput n = [n.toUInt8] := by unfold vput; rw [vputF, if_pos h]
theorem vput_ge {n : Nat} (h : ¬ n < 128) (hn : n < 18446744073709551616) : vput n = (n % 128 + 128).toUInt8 :: vput (n / 128) := by
  unfold vput
  rw [vputF, if_neg h]
  congr 1
  exact (vputF_more 9 (n / 128) (by have : (128 : Nat) ^ 9 = 9223372036854775808 := by decide
                                    omega) 10 (by omega) (by omega)).symm
theorem length_vputF : ∀ f n, (vputF f n).length ≤ f
  | 0, _ => by simp [vputF]
  | f + 1, n => by
    simp only [vputF]
    split
    · simp
    · have := length_vputF f (n / 128); simp; omega
theorem length_vput (n : Nat) : (vput n).length ≤ 10 := length_vputF 10 n
theorem vput_pos (n : Nat) : 0 < (vput n).length := by
  unfold vput
  rw [vputF]
  split <;> simp

/-- How many bytes of 128 or more a list begins with. -/
def vlead : List UInt8 → Nat
  | [] => 0
  | b :: l => if 128 ≤ b.toNat then vlead l + 1 else 0
theorem vlead_le : ∀ l, vlead l ≤ l.length
  | [] => by simp [vlead]
  | b :: l => by have := vlead_le l; simp only [vlead]; split <;> simp <;> omega
/-- The number that digits tell, the lowest first. -/
def vval : List UInt8 → Nat
  | [] => 0
  | b :: l => b.toNat % 128 + 128 * vval l
theorem vval_lt : ∀ l, vval l < 128 ^ l.length
  | [] => by simp [vval]
  | b :: l => by
    have := vval_lt l
    have h := Nat.mod_lt b.toNat (show 128 > 0 by omega)
    simp only [vval, List.length_cons, Nat.pow_succ]
    omega
theorem vval_snoc : ∀ l (b : UInt8), vval (l ++ [b]) = vval l + 128 ^ l.length * (b.toNat % 128)
  | [], b => by simp [vval]
  | c :: l, b => by
    simp only [List.cons_append, vval, vval_snoc l b, List.length_cons, Nat.pow_succ]
    rw [Nat.mul_add, ← Nat.mul_assoc, Nat.mul_comm (128 ^ l.length) 128]
    omega
/-- varint's Take. -/
def vtake (s : List UInt8) : Nat × Nat × Nat :=
  if 10 ≤ vlead s then (0, 0, 2) else if vlead s = s.length then (0, 0, 1)
  else if vval (s.take (vlead s + 1)) < 18446744073709551616 ∧ vput (vval (s.take (vlead s + 1))) = s.take (vlead s + 1) then (vval (s.take (vlead s + 1)), vlead s + 1, 0) else (0, 0, 2)

/-- Digits: all but the last are 128 or more, the last is below. -/
def Digs : List UInt8 → Prop
  | [] => False
  | [b] => b.toNat < 128
  | b :: c :: l => 128 ≤ b.toNat ∧ Digs (c :: l)
theorem digs_vput : ∀ f n, n < 128 ^ f → 0 < f → Digs (vputF f n) ∧ vval (vputF f n) = n
  | 0, _, _, h => absurd h (by omega)
  | f + 1, n, hn, _ => by
    simp only [vputF]
    split
    · rename_i h
      have e : (n.toUInt8).toNat = n := by simp; omega
      exact ⟨by simp only [Digs]; rw [e]; exact h, by simp only [vval]; rw [e]; omega⟩
    · rename_i h
      have hf : 0 < f := by
        rcases Nat.eq_zero_or_pos f with h0 | h0
        · subst h0; simp at hn; omega
        · exact h0
      obtain ⟨i1, i2⟩ := digs_vput f (n / 128) (by rw [Nat.pow_succ] at hn; omega) hf
      have e : ((n % 128 + 128).toUInt8).toNat = n % 128 + 128 := by simp; omega
      refine ⟨?_, by simp only [vval]; rw [e, i2]; omega⟩
      cases hv : vputF f (n / 128) with
      | nil => rw [hv] at i1; exact i1.elim
      | cons c l => rw [hv] at i1; exact ⟨by rw [e]; omega, i1⟩
theorem vput_digs {n : Nat} (hn : n < 18446744073709551616) : Digs (vput n) ∧ vval (vput n) = n :=
  digs_vput 10 n (by have : (128 : Nat) ^ 10 = 1180591620717411303424 := by decide
                     omega) (by omega)
theorem vlead_digs : ∀ l, Digs l → ∀ r, vlead (l ++ r) + 1 = l.length
  | [], h, _ => h.elim
  | [b], h, r => by simp only [Digs] at h; simp [vlead]; omega
  | b :: c :: l, h, r => by
    have := vlead_digs (c :: l) h.2 r
    have h1 := h.1
    simp only [List.cons_append, vlead, List.length_cons] at this ⊢
    rw [if_pos h1]
    omega
theorem vlead_step : ∀ (l : List UInt8) (k : Nat) (h : k < l.length), k ≤ vlead l → (128 ≤ l[k].toNat → k + 1 ≤ vlead l) ∧ (l[k].toNat < 128 → vlead l = k)
  | [], k, h, _ => absurd h (by simp)
  | b :: l, 0, h, _ => by simp only [vlead, List.getElem_cons_zero]; constructor <;> intro h1 <;> split <;> omega
  | b :: l, k + 1, h, hk => by
    simp only [vlead] at hk ⊢
    split at hk
    · rename_i hb
      rw [if_pos hb]
      have := vlead_step l k (by simpa using h) (by omega)
      simp only [List.getElem_cons_succ]
      exact ⟨fun h1 => by have := this.1 h1; omega, fun h1 => by have := this.2 h1; omega⟩
    · omega
theorem digs_take : ∀ (l : List UInt8), vlead l < l.length → Digs (l.take (vlead l + 1))
  | [], h => absurd h (by simp [vlead])
  | b :: l, h => by
    by_cases hb : 128 ≤ b.toNat
    · have e : vlead (b :: l) = vlead l + 1 := by simp only [vlead]; rw [if_pos hb]
      have hl : vlead l < l.length := by rw [e] at h; simpa using h
      have := digs_take l hl
      rw [e, List.take_succ_cons]
      cases ht : l.take (vlead l + 1) with
      | nil => rw [ht] at this; exact this.elim
      | cons c r => rw [ht] at this; exact ⟨hb, this⟩
    · have e : vlead (b :: l) = 0 := by simp only [vlead]; rw [if_neg hb]
      rw [e]
      simp only [List.take_succ_cons, List.take_zero, Digs]
      omega
/-- What Take tells of a number's bytes and whatever is behind. -/
theorem vtake_vput {n : Nat} (hn : n < 18446744073709551616) (r : List UInt8) : vtake (vput n ++ r) = (n, (vput n).length, 0) := by
  obtain ⟨h1, h2⟩ := vput_digs hn
  have hl := vlead_digs _ h1 r
  have hle := length_vput n
  have ht : (vput n ++ r).take (vlead (vput n ++ r) + 1) = vput n := by rw [hl]; simp
  unfold vtake
  rw [ht, h2, if_neg (by omega), if_neg (by simp; omega), if_pos ⟨hn, rfl⟩, hl]
/-- What Take has told, where it told a number. -/
theorem vtake_ok {s : List UInt8} {n k : Nat} (h : vtake s = (n, k, 0)) : n < 18446744073709551616 ∧ s.take k = vput n ∧ 0 < k ∧ k ≤ s.length := by
  unfold vtake at h
  split at h
  · simp at h
  · split at h
    · simp at h
    · split at h
      · rename_i h1 h2 h3
        simp only [Prod.mk.injEq] at h
        obtain ⟨rfl, rfl, -⟩ := h
        have := vlead_le s
        exact ⟨h3.1, h3.2.symm, by omega, by omega⟩
      · simp at h
theorem vtake_err {s : List UInt8} {n k e : Nat} (h : vtake s = (n, k, e)) (he : e ≠ 0) : n = 0 ∧ k = 0 ∧ (e = 1 ∨ e = 2) := by
  unfold vtake at h
  split at h
  · simp at h; omega
  · split at h
    · simp at h; omega
    · split at h <;> simp at h <;> omega
/-- A list of digits is a number's bytes just if it is one digit, or its last is not 0. -/
def lastOk : List UInt8 → Bool
  | [] => false
  | [_] => true
  | [_, c] => c.toNat != 0
  | _ :: c :: d :: l => lastOk (c :: d :: l)
theorem vval_pos : ∀ l, Digs l → (l.getLast?.map (·.toNat)) ≠ some 0 → 0 < vval l
  | [], h, _ => h.elim
  | [b], h, h0 => by simp only [Digs] at h; simp at h0; simp only [vval]; omega
  | b :: c :: l, h, h0 => by
    have := vval_pos (c :: l) h.2 (by simpa using h0)
    simp only [vval] at this ⊢
    omega
theorem vput_val : ∀ l, Digs l → vval l < 18446744073709551616 → (l.length = 1 ∨ (l.getLast?.map (·.toNat)) ≠ some 0) → vput (vval l) = l
  | [], h, _, _ => h.elim
  | [b], h, _, _ => by
    simp only [Digs] at h
    have e : vval [b] = b.toNat := by simp only [vval]; omega
    rw [e, vput_lt h]; simp
  | b :: c :: l, h, hn, h0 => by
    have h0' : ((c :: l).getLast?.map (·.toNat)) ≠ some 0 := by
      rcases h0 with h0 | h0
      · simp at h0
      · simpa using h0
    have hp := vval_pos (c :: l) h.2 h0'
    have h1 := h.1
    have hb := b.toNat_lt
    have e : vval (b :: c :: l) = b.toNat % 128 + 128 * vval (c :: l) := rfl
    rw [e] at hn ⊢
    rw [vput_ge (by omega) hn]
    have e1 : (b.toNat % 128 + 128 * vval (c :: l)) % 128 + 128 = b.toNat := by omega
    have e2 : (b.toNat % 128 + 128 * vval (c :: l)) / 128 = vval (c :: l) := by omega
    rw [e1, e2, vput_val (c :: l) h.2 (by omega) (Or.inr h0')]
    simp
theorem vput_last : ∀ f n, 0 < f → n < 128 ^ f → ((vputF f n).getLast?.map (·.toNat)) = some 0 → n = 0
  | 0, _, h, _, _ => absurd h (by omega)
  | f + 1, n, _, hn, h => by
    rw [vputF] at h
    split at h
    · rename_i hl
      simp at h; omega
    · rename_i hl
      have hf : 0 < f := by
        rcases Nat.eq_zero_or_pos f with h0 | h0
        · subst h0; simp at hn; omega
        · exact h0
      have hd := (digs_vput f (n / 128) (by rw [Nat.pow_succ] at hn; omega) hf).1
      have h' : ((vputF f (n / 128)).getLast?.map (·.toNat)) = some 0 := by
        cases hv : vputF f (n / 128) with
        | nil => rw [hv] at hd; exact hd.elim
        | cons c l => rw [hv] at h; simpa using h
      have := vput_last f (n / 128) hf (by rw [Nat.pow_succ] at hn; omega) h'
      omega
theorem vput_not {l : List UInt8} (h1 : l.length ≠ 1) (h2 : (l.getLast?.map (·.toNat)) = some 0) (n : Nat) (hn : n < 18446744073709551616) : vput n ≠ l := by
  intro h
  have hb : n < 128 ^ 10 := by
    have : (128 : Nat) ^ 10 = 1180591620717411303424 := by decide
    omega
  have := vput_last 10 n (by omega) hb (by unfold vput at h; rw [h]; exact h2)
  subst this
  apply h1
  rw [← h, vput_lt (by omega)]
  rfl
theorem take_last (l : List UInt8) (k : Nat) (h : k < l.length) : (l.take (k + 1)).getLast? = some l[k] := by
  rw [List.take_succ_eq_append_getElem h]; exact List.getLast?_concat
theorem pow9 : (128 : Nat) ^ 9 = 9223372036854775808 := by decide
theorem vtake_nine {l : List UInt8} (h : 9 < l.length) (hk : vlead l = 9) (hd : 1 < l[9].toNat) (hd2 : l[9].toNat < 128) : vtake l = (0, 0, 2) := by
  unfold vtake
  have hv : vval (l.take 10) = vval (l.take 9) + 128 ^ 9 * l[9].toNat := by
    rw [List.take_succ_eq_append_getElem h, vval_snoc, Nat.mod_eq_of_lt hd2, List.length_take, Nat.min_eq_left (by omega)]
  rw [hk, if_neg (by omega), if_neg (by omega), if_neg]
  rintro ⟨h1, -⟩
  rw [hv, pow9] at h1
  omega
theorem vtake_zero {l : List UInt8} {k : Nat} (h : k < l.length) (hk : vlead l = k) (h10 : k < 10) (h0 : 0 < k) (hd : l[k].toNat = 0) : vtake l = (0, 0, 2) := by
  unfold vtake
  rw [hk, if_neg (by omega), if_neg (by omega), if_neg]
  rintro ⟨h1, h2⟩
  refine vput_not ?_ ?_ _ h1 h2
  · simp; omega
  · rw [take_last l k h]; simp [hd]
theorem vtake_yes {l : List UInt8} {k : Nat} (h : k < l.length) (hk : vlead l = k) (h10 : k < 10) (hd : l[k].toNat < 128) (h0 : k = 0 ∨ l[k].toNat ≠ 0) (h9 : k < 9 ∨ l[k].toNat ≤ 1) :
    vtake l = (vval (l.take (k + 1)), k + 1, 0) ∧ vval (l.take (k + 1)) < 18446744073709551616 := by
  have hv : vval (l.take (k + 1)) = vval (l.take k) + 128 ^ k * l[k].toNat := by
    rw [List.take_succ_eq_append_getElem h, vval_snoc, Nat.mod_eq_of_lt hd, List.length_take, Nat.min_eq_left (by omega)]
  have hlt := vval_lt (l.take k)
  rw [List.length_take, Nat.min_eq_left (by omega)] at hlt
  have hb : vval (l.take (k + 1)) < 18446744073709551616 := by
    rw [hv]
    rcases h9 with h9 | h9
    · have h1 : (128 : Nat) ^ k * l[k].toNat ≤ 128 ^ k * 127 := Nat.mul_le_mul_left _ (by omega)
      have h2 : (128 : Nat) ^ k ≤ 128 ^ 8 := Nat.pow_le_pow_right (by omega) (by omega)
      have h3 : (128 : Nat) ^ 8 = 72057594037927936 := by decide
      omega
    · have h1 : (128 : Nat) ^ k * l[k].toNat ≤ 128 ^ k * 1 := Nat.mul_le_mul_left _ (by omega)
      have h2 : (128 : Nat) ^ k ≤ 128 ^ 9 := Nat.pow_le_pow_right (by omega) (by omega)
      rw [pow9] at h2
      omega
  refine ⟨?_, hb⟩
  unfold vtake
  rw [hk, if_neg (by omega), if_neg (by omega), if_pos]
  refine ⟨hb, vput_val _ ?_ hb ?_⟩
  · have := digs_take l (by omega)
    rwa [hk] at this
  · rw [take_last l k h]
    rcases h0 with h0 | h0
    · left; simp; omega
    · right; simpa using h0
theorem vtake_long {l : List UInt8} (h : 10 ≤ vlead l) : vtake l = (0, 0, 2) := if_pos h
theorem vtake_end {l : List UInt8} (h : vlead l = l.length) (h2 : ¬ 10 ≤ l.length) : vtake l = (0, 0, 1) := by
  unfold vtake
  rw [h, if_neg h2, if_pos rfl]
theorem vval_or (l : List UInt8) (k : Nat) (h : k < l.length) : vval (l.take k) ||| (l[k].toNat % 128) * 2 ^ (7 * k) = vval (l.take (k + 1)) := by
  have hlt := vval_lt (l.take k)
  rw [List.length_take, Nat.min_eq_left (by omega), show (128 : Nat) = 2 ^ 7 by decide, ← Nat.pow_mul] at hlt
  rw [List.take_succ_eq_append_getElem h, vval_snoc, List.length_take, Nat.min_eq_left (by omega), show (128 : Nat) ^ k = 2 ^ (7 * k) by rw [show (128 : Nat) = 2 ^ 7 by decide, ← Nat.pow_mul]]
  rw [Nat.or_comm, Nat.mul_comm, ← Nat.two_pow_add_eq_or_of_lt hlt]
  omega
theorem vval_drop_le : ∀ (l : List UInt8) (i : Nat), vval (l.drop i) ≤ vval l
  | l, 0 => by simp
  | [], i + 1 => by simp
  | b :: l, i + 1 => by
    have := vval_drop_le l i
    simp only [List.drop_succ_cons, vval]
    omega
theorem vtake_big {l : List UInt8} {k : Nat} (h : k < l.length) (hk : vlead l = k) (h10 : k < 10) (hb : 18446744073709551616 ≤ vval (l.take (k + 1))) : vtake l = (0, 0, 2) := by
  unfold vtake
  rw [hk, if_neg (by omega), if_neg (by omega), if_neg]
  rintro ⟨h1, -⟩
  omega
theorem vtake_eq {l : List UInt8} {k n : Nat} (h : k < l.length) (hk : vlead l = k) (h10 : k < 10) (hn : n = vval (l.take (k + 1))) (hb : n < 18446744073709551616) :
    vtake l = if vput n = l.take (k + 1) then (n, k + 1, 0) else (0, 0, 2) := by
  subst hn
  unfold vtake
  rw [hk, if_neg (by omega), if_neg (by omega)]
  by_cases hq : vput (vval (l.take (k + 1))) = l.take (k + 1)
  · rw [if_pos ⟨hb, hq⟩, if_pos hq]
  · rw [if_neg (fun h => hq h.2), if_neg hq]
end Go.Proofs.Ytmnpbpfeoackiaa
