/-
  Package sha: four bytes as a word. Condition: at least four bytes are there.
-/
import Derived.Test.YteffocenfkcofaaDoorSha1
import Derived.Deep.DeepCutAuto
namespace Go.Proofs.YteffocenfkcofaaDoor
open Go.RowKit

theorem ofL_at (s : List UInt8) (i : Nat) (h : i < (ofL s).size) : (ofL s)[i]'h = s.getD i 0 := by
  have h' : i < s.length := by rw [← size_ofL s]; exact h
  rw [toL_get _ _ h, List.getD_eq_getElem?_getD, List.getElem?_eq_getElem h']
  simp [toL_ofL]
theorem u8_32 (b : UInt8) : b.toUInt32.toNat = b.toNat := by simp
set_option maxRecDepth 100000 in
theorem or3_nat (A B C D : Nat) (hA : A < 256) (hB : B < 256) (hC : C < 256) (hD : D < 256) :
    bits .or .u32 (bits .or .u32 (bits .or .u32 ((A : Int) * 16777216) ((B : Int) * 65536)) ((C : Int) * 256)) (D : Int) = ((((A * 16777216 ||| B * 65536) ||| C * 256) ||| D : Nat) : Int) := by
  have l : ∀ p q : Nat, p < 4294967296 → q < 4294967296 → p ||| q < 4294967296 := fun p q hp hq => Nat.or_lt_two_pow (n := 32) hp hq
  have h1 : A * 16777216 < 4294967296 := Nat.mul_lt_mul_of_pos_right (show A < 256 from hA) (by decide)
  have h2 : B * 65536 < 4294967296 := Nat.lt_of_lt_of_le (Nat.mul_lt_mul_of_pos_right hB (by decide)) (by decide)
  have h3 : C * 256 < 4294967296 := Nat.lt_of_lt_of_le (Nat.mul_lt_mul_of_pos_right hC (by decide)) (by decide)
  have h4 : D < 4294967296 := Nat.lt_of_lt_of_le hD (by decide)
  rw [show ((A : Int) * 16777216) = ((A * 16777216 : Nat) : Int) from (Int.natCast_mul A 16777216).symm, show ((B : Int) * 65536) = ((B * 65536 : Nat) : Int) from (Int.natCast_mul B 65536).symm, show ((C : Int) * 256) = ((C * 256 : Nat) : Int) from (Int.natCast_mul C 256).symm]
  rw [u32_or_nat _ _ h1 h2, u32_or_nat _ _ (l _ _ h1 h2) h3, u32_or_nat _ _ (l _ _ (l _ _ h1 h2) h3) h4]
theorem shl_nat (a : UInt8) (k : UInt32) (n : Nat) (hk : k.toNat % 32 = n) (hn : n ≤ 24) : (a.toUInt32 <<< k).toNat = a.toNat * 2 ^ n := by
  rw [UInt32.toNat_shiftLeft, u8_32, hk, Nat.shiftLeft_eq]
  have h1 : 2 ^ n ≤ 2 ^ 24 := Nat.pow_le_pow_right (by decide) hn
  have h2 := a.toNat_lt
  have h3 : a.toNat * 2 ^ n ≤ 255 * 2 ^ 24 := Nat.mul_le_mul (by omega) h1
  exact Nat.mod_eq_of_lt (Nat.lt_of_le_of_lt h3 (by decide))
theorem word_val (a b c d : UInt8) :
    bits .or .u32 (bits .or .u32 (bits .or .u32 ((a.toNat : Int) * 16777216) ((b.toNat : Int) * 65536)) ((c.toNat : Int) * 256)) (d.toNat : Int) =
    (((a.toUInt32 <<< 24) ||| (b.toUInt32 <<< 16) ||| (c.toUInt32 <<< 8) ||| d.toUInt32).toNat : Int) := by
  rw [or3_nat _ _ _ _ a.toNat_lt b.toNat_lt c.toNat_lt d.toNat_lt, UInt32.toNat_or, UInt32.toNat_or, UInt32.toNat_or, shl_nat a 24 24 (by decide) (by decide), shl_nat b 16 16 (by decide) (by decide), shl_nat c 8 8 (by decide) (by decide), u8_32]

set_option maxRecDepth 100000 in
set_option maxHeartbeats 1000000 in
theorem word_any (s : List UInt8) (w : World) (hs : 4 ≤ s.length) : Calls Tryd.prog 105 #[.string (ofL s)] w fun e w' => e = .returned (.int .u32 (word4 s).toNat) ∧ Ext w w' := by
  have hsz : (ofL s).size = s.length := size_ofL _
  obtain ⟨a, ha⟩ : ∃ a, s.getD 0 0 = a := ⟨_, rfl⟩
  obtain ⟨b, hb⟩ : ∃ a, s.getD 1 0 = a := ⟨_, rfl⟩
  obtain ⟨c, hc⟩ : ∃ a, s.getD 2 0 = a := ⟨_, rfl⟩
  obtain ⟨d, hd⟩ : ∃ a, s.getD 3 0 = a := ⟨_, rfl⟩
  have g0 : ∀ h, (ofL s)[0]'h = a := fun h => by rw [← ha, ofL_at]
  have g1 : ∀ h, (ofL s)[1]'h = b := fun h => by rw [← hb, ofL_at]
  have g2 : ∀ h, (ofL s)[2]'h = c := fun h => by rw [← hc, ofL_at]
  have g3 : ∀ h, (ofL s)[3]'h = d := fun h => by rw [← hd, ofL_at]
  have v := word_val a b c d
  have hw : word4 s = (a.toUInt32 <<< 24) ||| (b.toUInt32 <<< 16) ||| (c.toUInt32 <<< 8) ||| d.toUInt32 := by unfold word4; rw [ha, hb, hc, hd]
  rw [← hw] at v
  have b1 := a.toNat_lt; have b2 := b.toNat_lt; have b3 := c.toNat_lt; have b4 := d.toNat_lt
  have i1 : (0 : Int) < s.length := by omega
  have i2 : (1 : Int) < s.length := by omega
  have i3 : (2 : Int) < s.length := by omega
  have i4 : (3 : Int) < s.length := by omega
  clear ha hb hc hd hw hs
  go_enter Tryd.func105, Tryd.ntmps105
  go_upto_region 1 with fail
  go_quiet (fail)
  go_wp2

  go_ret
  exact ⟨rfl, (Ext.rfl' _).drN _⟩
end Go.Proofs.YteffocenfkcofaaDoor
