/-
  Plain functions on lists of bytes that stand for package octet's functions, and their laws. No program in sight. No condition.
-/
import Derived.Test.YtmnpbpfeoackiaaBase
import Derived.Lib.Bytealg
import Derived.Lib.Repeat
namespace Go.Proofs.Ytmnpbpfeoackiaa

theorem drop_cons {α : Type} (l : List α) (k : Nat) (h : k < l.length) : l.drop k = l[k] :: l.drop (k + 1) := List.drop_eq_getElem_cons h
theorem drop_all {α : Type} (l : List α) (k : Nat) (h : ¬ k < l.length) : l.drop k = [] := List.drop_of_length_le (by omega)
theorem dropL (a : ByteArray) (k : Nat) (h : k < a.size) : (toL a).drop k = a[k] :: (toL a).drop (k + 1) := by
  rw [drop_cons (toL a) k (by rw [length_toL]; exact h), toL_get a k h]
theorem dropE (a : ByteArray) (k : Nat) (h : ¬ k < a.size) : (toL a).drop k = [] := drop_all _ _ (by rw [length_toL]; exact h)
theorem set_fill (l : List UInt8) (n : Nat) (x : UInt8) (h : l.length < n) : ((l ++ List.replicate (n - l.length) 0).map U8).set l.length (U8 x) = ((l ++ [x]) ++ List.replicate (n - (l ++ [x]).length) 0).map U8 := by
  obtain ⟨m, hm⟩ : ∃ m, n - l.length = m + 1 := ⟨n - l.length - 1, by omega⟩
  have : n - (l ++ [x]).length = m := by simp; omega
  rw [this, hm, List.replicate_succ, ← List.map_set]
  congr 1
  simp

/-! ### xor -/
def xorL (a b : List UInt8) : List UInt8 := List.zipWith (fun x y => x ^^^ y) a b
theorem xorL_cons (x y : UInt8) (a b : List UInt8) : xorL (x :: a) (y :: b) = (x ^^^ y) :: xorL a b := rfl
theorem xorL_nil_left (b : List UInt8) : xorL [] b = [] := rfl
theorem xorL_nil_right (a : List UInt8) : xorL a [] = [] := by unfold xorL; simp
theorem length_xorL (a b : List UInt8) : (xorL a b).length = min a.length b.length := by simp [xorL]
theorem U8_xor (x y : UInt8) : U8 (x ^^^ y) = .int .u8 (bits .xor .u8 (x.toNat : Int) (y.toNat : Int)) := by
  rw [u8_xor_nat _ _ x.toNat_lt y.toNat_lt]; rfl
def xr (x y : Nat) : Nat → Nat
  | 0 => 0
  | k + 1 => xr x y k + if x / 2 ^ k % 2 = y / 2 ^ k % 2 then 0 else 2 ^ k
theorem xr_eq (x y : Nat) : ∀ k, xr x y k = (x ^^^ y) % 2 ^ k
  | 0 => by simp [xr, Nat.mod_one]
  | k + 1 => by
    have h := Nat.testBit_xor x y k
    rw [Nat.testBit_eq_decide_div_mod_eq, Nat.testBit_eq_decide_div_mod_eq, Nat.testBit_eq_decide_div_mod_eq] at h
    rw [xr, xr_eq x y k, Nat.mod_pow_succ]
    have h1 := Nat.mod_two_eq_zero_or_one ((x ^^^ y) / 2 ^ k)
    have h2 := Nat.mod_two_eq_zero_or_one (x / 2 ^ k)
    have h3 := Nat.mod_two_eq_zero_or_one (y / 2 ^ k)
    rcases h1 with h1 | h1 <;> rcases h2 with h2 | h2 <;> rcases h3 with h3 | h3 <;> simp [h1, h2, h3] at h ⊢
theorem xr_byte (x y : UInt8) : xr x.toNat y.toNat 8 = (x ^^^ y).toNat := by
  rw [xr_eq, UInt8.toNat_xor]
  exact Nat.mod_eq_of_lt (by have := (x ^^^ y).toNat_lt; rw [UInt8.toNat_xor] at this; omega)
theorem byte_of_nat (x : UInt8) : byteOf (x.toNat : Int) = x := by
  have := x.toNat_lt
  unfold byteOf
  rw [Int.emod_eq_of_lt (by omega) (by omega)]
  simp
theorem byteOf_nat (n : Nat) (h : n < 256) : byteOf (n : Int) = n.toUInt8 := by
  unfold byteOf
  rw [Int.emod_eq_of_lt (by omega) (by omega)]
  simp
theorem xr_step (x y k : Nat) : xr x y (k + 1) = if x / 2 ^ k % 2 = y / 2 ^ k % 2 then xr x y k else xr x y k + 2 ^ k := by
  rw [xr]; split <;> simp
theorem xr_le (x y k : Nat) : xr x y k < 2 ^ k := by rw [xr_eq]; exact Nat.mod_lt _ (Nat.two_pow_pos k)
theorem xorL_self (a b : List UInt8) : xorL (xorL a b) b = a.take (min a.length b.length) := by
  induction a generalizing b with
  | nil => simp [xorL]
  | cons x a ih =>
    cases b with
    | nil => simp [xorL]
    | cons y b => rw [xorL_cons, xorL_cons, ih]; simp [UInt8.xor_assoc]
theorem xorL_comm (a b : List UInt8) : xorL a b = xorL b a := by
  unfold xorL
  rw [List.zipWith_comm]
  congr 1
  funext x y
  exact UInt8.xor_comm _ _

theorem xor_zero (a b : Nat) : a ^^^ b = 0 ↔ a = b := by
  constructor
  · intro h
    apply Nat.eq_of_testBit_eq
    intro i
    have := congrArg (fun n => Nat.testBit n i) h
    simpa [Nat.testBit_xor] using this
  · rintro rfl; simp
theorem byte_eq {a b : UInt8} (h : a = b) : ((a.toNat : Int) != b.toNat) = false := by simp [h]
theorem byte_ne {a b : UInt8} (h : ¬ a = b) : ((a.toNat : Int) != b.toNat) = true := by
  have : ¬ a.toNat = b.toNat := fun e => h (UInt8.toNat_inj.1 e)
  simp; omega

/-! ### orders -/
def cmpL : List UInt8 → List UInt8 → Int
  | [], [] => 0
  | [], _ :: _ => -1
  | _ :: _, [] => 1
  | a :: r, b :: s => if a < b then -1 else if b < a then 1 else cmpL r s
theorem cmpL_eq : ∀ a b, Lib.compareBytes a b = cmpL a b
  | [], [] => rfl
  | [], _ :: _ => rfl
  | _ :: _, [] => rfl
  | a :: r, b :: s => by simp only [Lib.compareBytes, cmpL, cmpL_eq r s]
def comL : List UInt8 → List UInt8 → Nat
  | a :: r, b :: s => if a = b then comL r s + 1 else 0
  | _, _ => 0
theorem comL_le : ∀ a b, comL a b ≤ a.length ∧ comL a b ≤ b.length
  | [], _ => by simp [comL]
  | _ :: _, [] => by simp [comL]
  | a :: r, b :: s => by
    have := comL_le r s
    simp only [comL]
    split <;> simp <;> omega

theorem ofInt64 (a : Nat) (ha : a < 9223372036854775808) : (BitVec.ofInt 64 (a : Int)).toNat = a := by
  rw [BitVec.ofInt_natCast, BitVec.toNat_ofNat]; exact Nat.mod_eq_of_lt (by omega)
theorem i64_or_nat (a b : Nat) (ha : a < 9223372036854775808) (hb : b < 9223372036854775808) : bits .or .i64 (a : Int) (b : Int) = ((a ||| b : Nat) : Int) := by
  have hx : a ||| b < 2 ^ 63 := Nat.or_lt_two_pow (by omega) (by omega)
  show IntKind.i64.wrap ((BitVec.ofInt 64 (a : Int) ||| BitVec.ofInt 64 (b : Int)).toNat : Int) = _
  rw [BitVec.toNat_or, ofInt64 a ha, ofInt64 b hb, IntKind.wrap_i64]
  omega
theorem and127' : ∀ x : Fin 256, x.val &&& 127 = x.val % 128 := by decide +kernel
theorem and127 (x : Nat) (h : x < 256) : x &&& 127 = x % 128 := and127' ⟨x, h⟩
theorem or128' : ∀ x : Fin 256, x.val ||| 128 = x.val % 128 + 128 := by decide +kernel
theorem or128 (x : Nat) (h : x < 256) : x ||| 128 = x % 128 + 128 := or128' ⟨x, h⟩
theorem or16 : ∀ x y : Fin 16, (x.val * 16) ||| y.val = x.val * 16 + y.val := by decide
theorem or_digits (x y : Int) (h1 : 0 ≤ x) (h2 : x < 16) (h3 : 0 ≤ y) (h4 : y < 16) : Value.int .u8 (bits .or .i64 (x * 16) y % 256) = U8 (x * 16 + y).toNat.toUInt8 := by
  obtain ⟨x, rfl⟩ := Int.eq_ofNat_of_zero_le h1
  obtain ⟨y, rfl⟩ := Int.eq_ofNat_of_zero_le h3
  rw [show ((x : Int) * 16) = ((x * 16 : Nat) : Int) by omega, i64_or_nat _ _ (by omega) (by omega), or16 ⟨x, by omega⟩ ⟨y, by omega⟩]
  unfold U8
  congr 1

/-! ### digits -/
def digs : List UInt8 := [48, 49, 50, 51, 52, 53, 54, 55, 56, 57, 97, 98, 99, 100, 101, 102]
def hexD (n : Nat) : UInt8 := digs.getD n 0
def hexL : List UInt8 → List UInt8
  | [] => []
  | b :: l => hexD (b.toNat / 16) :: hexD (b.toNat % 16) :: hexL l
theorem length_hexL : ∀ l, (hexL l).length = 2 * l.length
  | [] => rfl
  | b :: l => by simp [hexL, length_hexL l]; omega
theorem digs_cut' : ∀ n : Fin 16, (ByteArray.mk #[48, 49, 50, 51, 52, 53, 54, 55, 56, 57, 97, 98, 99, 100, 101, 102]).extract n (n + 1) = ofL [hexD n] := by decide +kernel
theorem digs_cut (n : Nat) (h : n < 16) : (ByteArray.mk #[48, 49, 50, 51, 52, 53, 54, 55, 56, 57, 97, 98, 99, 100, 101, 102]).extract n (n + 1) = ofL [hexD n] := digs_cut' ⟨n, h⟩
theorem digs_get' : ∀ n : Fin 16, (ByteArray.mk #[48, 49, 50, 51, 52, 53, 54, 55, 56, 57, 97, 98, 99, 100, 101, 102])[n.val]'(by have := n.isLt; exact this) = hexD n := by decide +kernel
theorem digs_get (i : Int) (n : Nat) (hi : i = n) (hn : n < 16) (h : i.toNat < (ByteArray.mk #[48, 49, 50, 51, 52, 53, 54, 55, 56, 57, 97, 98, 99, 100, 101, 102]).size) :
    Value.int .u8 ((ByteArray.mk #[48, 49, 50, 51, 52, 53, 54, 55, 56, 57, 97, 98, 99, 100, 101, 102])[i.toNat].toNat : Int) = U8 (hexD n) := by
  subst hi
  unfold U8
  congr 3
  exact digs_get' ⟨n, hn⟩
def idx (c : UInt8) : Int := Lib.indexByte digs c
def okH (t : List UInt8) : Bool := t.length % 2 == 0 && t.all fun c => decide (0 ≤ idx c)
def unhexL : List UInt8 → List UInt8
  | a :: b :: r => (idx a * 16 + idx b).toNat.toUInt8 :: unhexL r
  | _ => []
theorem idx_hexD : ∀ n : Fin 16, idx (hexD n) = n := by decide
theorem idx_bd : ∀ n : Fin 256, -1 ≤ idx (UInt8.ofNat n) ∧ idx (UInt8.ofNat n) < 16 ∧ (0 ≤ idx (UInt8.ofNat n) → hexD (idx (UInt8.ofNat n)).toNat = UInt8.ofNat n) := by decide +kernel
theorem idx_bds (c : UInt8) : -1 ≤ idx c ∧ idx c < 16 ∧ (0 ≤ idx c → hexD (idx c).toNat = c) := by
  have h := idx_bd ⟨c.toNat, c.toNat_lt⟩
  simpa using h
theorem idx_hexD' (n : Nat) (h : n < 16) : idx (hexD n) = n := idx_hexD ⟨n, h⟩
theorem okH_hexL : ∀ l, okH (hexL l) = true := by
  intro l
  unfold okH
  rw [length_hexL]
  simp only [Nat.mul_mod_right, BEq.rfl, Bool.true_and]
  induction l with
  | nil => rfl
  | cons b l ih =>
    have := b.toNat_lt
    simp only [hexL, List.all_cons, ih, idx_hexD' (b.toNat / 16) (by omega), idx_hexD' (b.toNat % 16) (by omega)]
    simp; omega
theorem unhexL_hexL : ∀ l, unhexL (hexL l) = l
  | [] => rfl
  | b :: l => by
    have := b.toNat_lt
    simp only [hexL, unhexL, unhexL_hexL l, idx_hexD' (b.toNat / 16) (by omega), idx_hexD' (b.toNat % 16) (by omega)]
    congr 1
    rw [show (((b.toNat / 16 : Nat) : Int) * 16 + ((b.toNat % 16 : Nat) : Int)).toNat = b.toNat by omega]
    simp
theorem hexL_unhexL : ∀ t, okH t = true → hexL (unhexL t) = t
  | [], _ => rfl
  | [c], h => by simp [okH] at h
  | a :: b :: r, h => by
    have ha := idx_bds a
    have hb := idx_bds b
    simp only [okH, List.length_cons, List.all_cons, Bool.and_eq_true, decide_eq_true_eq, beq_iff_eq] at h
    have hr : okH r = true := by
      simp only [okH, Bool.and_eq_true, beq_iff_eq]
      exact ⟨by omega, h.2.2.2⟩
    simp only [unhexL, hexL, hexL_unhexL r hr]
    have e : ((idx a * 16 + idx b).toNat.toUInt8).toNat = (idx a * 16 + idx b).toNat := by
      simp; omega
    rw [e, show (idx a * 16 + idx b).toNat / 16 = (idx a).toNat by omega, show (idx a * 16 + idx b).toNat % 16 = (idx b).toNat by omega, ha.2.2 h.2.1, hb.2.2 h.2.2.1]
def unhexR (t : List UInt8) : List UInt8 := if okH t = true then unhexL t else []
theorem unhexR_yes {t : List UInt8} (h : okH t = true) : unhexR t = unhexL t := if_pos h
theorem unhexR_no {t : List UInt8} (h : okH t = false) : unhexR t = [] := if_neg (by simp [h])
theorem okH_odd {t : List UInt8} (h : ¬ t.length % 2 = 0) : okH t = false := by unfold okH; simp [h]
theorem okH_step (a b : UInt8) (r : List UInt8) : okH (a :: b :: r) = (decide (0 ≤ idx a) && decide (0 ≤ idx b) && okH r) := by
  unfold okH
  simp only [List.length_cons, List.all_cons]
  rw [show (r.length + 1 + 1) % 2 = r.length % 2 by omega]
  cases decide (0 ≤ idx a) <;> cases decide (0 ≤ idx b) <;> simp

/-! ### pieces, padding -/
/-- The pieces of a string. -/
def cutF (n : Nat) : Nat → List UInt8 → List (List UInt8)
  | 0, _ => []
  | f + 1, l => if n = 0 ∨ l = [] then [] else l.take n :: cutF n f (l.drop n)
def cutL (n : Nat) (l : List UInt8) : List (List UInt8) := cutF n l.length l
theorem cutF_more (n : Nat) : ∀ f l, l.length ≤ f → cutF n f l = cutF n l.length l
  | 0, l, h => by
    have h0 : l = [] := List.eq_nil_of_length_eq_zero (by omega)
    rw [h0]; rfl
  | f + 1, l, h => by
    cases l with
    | nil => simp [cutF]
    | cons x l =>
      simp only [List.length_cons, cutF]
      split
      · rfl
      · rename_i h0
        have hn : 0 < n := by omega
        rw [cutF_more n f _ (by simp at h ⊢; omega), cutF_more n l.length _ (by simp; omega)]
theorem cutL_zero (l : List UInt8) : cutL 0 l = [] := by unfold cutL; cases l <;> simp [cutF]
theorem cutL_nil (n : Nat) : cutL n [] = [] := rfl
theorem cutL_cons {n : Nat} {l : List UInt8} (hn : 0 < n) (hl : 0 < l.length) : cutL n l = l.take n :: cutL n (l.drop n) := by
  unfold cutL
  obtain ⟨m, hm⟩ : ∃ m, l.length = m + 1 := ⟨l.length - 1, by omega⟩
  rw [hm, cutF, if_neg (by rintro (h | h); omega; rw [h] at hl; simp at hl), cutF_more n m _ (by simp; omega)]
theorem length_cutF (n : Nat) : ∀ f l, (cutF n f l).length ≤ f
  | 0, _ => by simp [cutF]
  | f + 1, l => by
    simp only [cutF]
    split
    · simp
    · have := length_cutF n f (l.drop n); simp; omega
theorem length_cutL (n : Nat) (l : List UInt8) : (cutL n l).length ≤ l.length := length_cutF n _ l
theorem cutL_last {n : Nat} {l : List UInt8} (hn : 0 < n) (hl : 0 < l.length) (h : l.length ≤ n) : cutL n l = [l] := by
  rw [cutL_cons hn hl, List.take_of_length_le h, List.drop_of_length_le h, cutL_nil]
theorem cutF_good {n : Nat} (hn : 0 < n) : ∀ f l, l.length ≤ f → (cutF n f l).flatten = l ∧ ∀ k (h : k < (cutF n f l).length), 0 < (cutF n f l)[k].length ∧ (cutF n f l)[k].length ≤ n ∧ (k + 1 < (cutF n f l).length → (cutF n f l)[k].length = n)
  | 0, l, h => by
    have h0 : l = [] := List.eq_nil_of_length_eq_zero (by omega)
    subst h0
    exact ⟨rfl, fun k h => by simp [cutF] at h⟩
  | f + 1, l, h => by
    by_cases h0 : l = []
    · subst h0; simp [cutF]
    · have hl : 0 < l.length := List.length_pos_iff.2 h0
      have hc : cutF n (f + 1) l = l.take n :: cutF n f (l.drop n) := by rw [cutF, if_neg (by rintro (h | h); omega; exact h0 h)]
      obtain ⟨i1, i2⟩ := cutF_good hn f (l.drop n) (by simp; omega)
      rw [hc]
      refine ⟨by rw [List.flatten_cons, i1, List.take_append_drop], fun k hk => ?_⟩
      cases k with
      | zero =>
        refine ⟨by simp; omega, by simp; omega, fun h1 => ?_⟩
        have : 0 < (cutF n f (l.drop n)).length := by simpa using h1
        have h3 : l.drop n ≠ [] := by
          intro h4
          rw [h4] at this
          cases f <;> simp [cutF] at this
        have h5 : 0 < (l.drop n).length := List.length_pos_iff.2 h3
        simp at h5 ⊢
        omega
      | succ k =>
        have := i2 k (by simpa using hk)
        simpa using this
theorem cutL_good {n : Nat} (hn : 0 < n) (l : List UInt8) : (cutL n l).flatten = l ∧ ∀ k (h : k < (cutL n l).length), 0 < (cutL n l)[k].length ∧ (cutL n l)[k].length ≤ n ∧ (k + 1 < (cutL n l).length → (cutL n l)[k].length = n) := cutF_good hn _ l (Nat.le_refl _)
/-- A string with zero bytes behind. -/
def padL (l : List UInt8) (n : Int) : List UInt8 := l ++ List.replicate ((min n 65536).toNat - l.length) 0
theorem repeatL_zero (c : Nat) : Lib.repeatL [0] c = List.replicate c 0 := by
  induction c with
  | zero => rfl
  | succ c ih => rw [Lib.repeatL, ih]; rfl
end Go.Proofs.Ytmnpbpfeoackiaa
