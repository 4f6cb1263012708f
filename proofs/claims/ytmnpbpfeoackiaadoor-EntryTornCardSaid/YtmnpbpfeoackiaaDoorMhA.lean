/-
  Package sha: words turned, four bytes as a word. No condition. · Package sha: four bytes as a word. Condition: at least four bytes are there. · Package sha: the words at first, words as bytes. No condition. · Package sha's reference: the words at first. No condition. · append(v, make([]T, k)...) onto a slice of the call's own, of elements of one cell: the row with k zero values behind. Condition: Go's own limits on lengths and bytes.
-/
import Derived.Test.YtmnpbpfeoackiaaDoorShaPlain
import Derived.Test.YtmnpbpfeoackiaaDoorProg
import Derived.Deep.DeepCutAuto
import Derived.Test.YtmnpbpfeoackiaaDoorBase
import Derived.Lib.AppendZerosOnto
namespace Go.Proofs.YtmnpbpfeoackiaaDoor
open Go.RowKit

theorem rot_val (x : UInt32) (n : Nat) (h0 : 0 < n) (h : n < 32) : bits .or .u32 (((x.toNat : Int) * ((2 ^ (32 - n) : Nat) : Int)) % 4294967296) ((x.toNat : Int) / ((2 ^ n : Nat) : Int)) = ((rotr x n).toNat : Int) ∧
    bits .or .u32 ((x.toNat : Int) / ((2 ^ n : Nat) : Int)) (((x.toNat : Int) * ((2 ^ (32 - n) : Nat) : Int)) % 4294967296) = ((rotr x n).toNat : Int) := by
  have hx := x.toNat_lt
  have e1 : ((x.toNat : Int) * ((2 ^ (32 - n) : Nat) : Int)) % 4294967296 = ((x.toNat * 2 ^ (32 - n) % 4294967296 : Nat) : Int) := by
    rw [← Int.natCast_mul]; rfl
  have e2 : ((x.toNat : Int) / ((2 ^ n : Nat) : Int)) = ((x.toNat / 2 ^ n : Nat) : Int) := (Int.natCast_ediv _ _).symm
  have hd : x.toNat / 2 ^ n ≤ x.toNat := Nat.div_le_self _ _
  have n1 : n.toUInt32.toNat % 32 = n := by rw [show n.toUInt32.toNat = n from by rw [Nat.toUInt32, UInt32.toNat_ofNat']; omega]; omega
  have n2 : (32 - n).toUInt32.toNat % 32 = 32 - n := by rw [show (32 - n).toUInt32.toNat = 32 - n from by rw [Nat.toUInt32, UInt32.toNat_ofNat']; omega]; omega
  have key : (rotr x n).toNat = x.toNat / 2 ^ n ||| x.toNat * 2 ^ (32 - n) % 4294967296 := by
    unfold rotr
    rw [UInt32.toNat_or, UInt32.toNat_shiftRight, UInt32.toNat_shiftLeft, n1, n2, Nat.shiftRight_eq_div_pow, Nat.shiftLeft_eq]
  rw [e1, e2, u32_or_nat _ _ (Nat.mod_lt _ (by decide)) (by omega), u32_or_nat _ _ (by omega) (Nat.mod_lt _ (by decide)), key]
  exact ⟨by rw [Nat.or_comm], rfl⟩

set_option maxRecDepth 100000 in
theorem rot2 (x : UInt32) (w : World) : Calls Tryd.prog 138 #[.int .u32 x.toNat, .int .i64 (-2)] w fun e w' => e = .returned (.int .u32 (rotr x 2).toNat) ∧ w' = w := by
  have r : bits .or .u32 ((x.toNat : Int) * 1073741824 % 4294967296) ((x.toNat : Int) / 4) = ((rotr x 2).toNat : Int) := (rot_val x 2 (by decide) (by decide)).1
  have hk : bits BinOp.and IntKind.u64 (IntKind.u64.wrap (-2)) 31 = 30 := by decide
  have hx := x.toNat_lt
  go_enter Tryd.func138, Tryd.ntmps138
  go_wp2
  go_ret
  exact ⟨rfl, rfl⟩
set_option maxRecDepth 100000 in
theorem ror2 (x : UInt32) (w : World) : Calls Tryd.prog 126 #[.int .u32 x.toNat, .int .i64 2] w fun e w' => e = .returned (.int .u32 (rotr x 2).toNat) ∧ w' = w := by
  have r : bits .or .u32 ((x.toNat : Int) / 4) ((x.toNat : Int) * 1073741824 % 4294967296) = ((rotr x 2).toNat : Int) := (rot_val x 2 (by decide) (by decide)).2
  have hx := x.toNat_lt
  go_enter Tryd.func126, Tryd.ntmps126
  go_wp2
  go_ret
  exact ⟨rfl, rfl⟩
set_option maxRecDepth 100000 in
theorem rot6 (x : UInt32) (w : World) : Calls Tryd.prog 138 #[.int .u32 x.toNat, .int .i64 (-6)] w fun e w' => e = .returned (.int .u32 (rotr x 6).toNat) ∧ w' = w := by
  have r : bits .or .u32 ((x.toNat : Int) * 67108864 % 4294967296) ((x.toNat : Int) / 64) = ((rotr x 6).toNat : Int) := (rot_val x 6 (by decide) (by decide)).1
  have hk : bits BinOp.and IntKind.u64 (IntKind.u64.wrap (-6)) 31 = 26 := by decide
  have hx := x.toNat_lt
  go_enter Tryd.func138, Tryd.ntmps138
  go_wp2
  go_ret
  exact ⟨rfl, rfl⟩
set_option maxRecDepth 100000 in
theorem ror6 (x : UInt32) (w : World) : Calls Tryd.prog 126 #[.int .u32 x.toNat, .int .i64 6] w fun e w' => e = .returned (.int .u32 (rotr x 6).toNat) ∧ w' = w := by
  have r : bits .or .u32 ((x.toNat : Int) / 64) ((x.toNat : Int) * 67108864 % 4294967296) = ((rotr x 6).toNat : Int) := (rot_val x 6 (by decide) (by decide)).2
  have hx := x.toNat_lt
  go_enter Tryd.func126, Tryd.ntmps126
  go_wp2
  go_ret
  exact ⟨rfl, rfl⟩
set_option maxRecDepth 100000 in
theorem rot7 (x : UInt32) (w : World) : Calls Tryd.prog 138 #[.int .u32 x.toNat, .int .i64 (-7)] w fun e w' => e = .returned (.int .u32 (rotr x 7).toNat) ∧ w' = w := by
  have r : bits .or .u32 ((x.toNat : Int) * 33554432 % 4294967296) ((x.toNat : Int) / 128) = ((rotr x 7).toNat : Int) := (rot_val x 7 (by decide) (by decide)).1
  have hk : bits BinOp.and IntKind.u64 (IntKind.u64.wrap (-7)) 31 = 25 := by decide
  have hx := x.toNat_lt
  go_enter Tryd.func138, Tryd.ntmps138
  go_wp2
  go_ret
  exact ⟨rfl, rfl⟩
set_option maxRecDepth 100000 in
theorem ror7 (x : UInt32) (w : World) : Calls Tryd.prog 126 #[.int .u32 x.toNat, .int .i64 7] w fun e w' => e = .returned (.int .u32 (rotr x 7).toNat) ∧ w' = w := by
  have r : bits .or .u32 ((x.toNat : Int) / 128) ((x.toNat : Int) * 33554432 % 4294967296) = ((rotr x 7).toNat : Int) := (rot_val x 7 (by decide) (by decide)).2
  have hx := x.toNat_lt
  go_enter Tryd.func126, Tryd.ntmps126
  go_wp2
  go_ret
  exact ⟨rfl, rfl⟩
set_option maxRecDepth 100000 in
theorem rot11 (x : UInt32) (w : World) : Calls Tryd.prog 138 #[.int .u32 x.toNat, .int .i64 (-11)] w fun e w' => e = .returned (.int .u32 (rotr x 11).toNat) ∧ w' = w := by
  have r : bits .or .u32 ((x.toNat : Int) * 2097152 % 4294967296) ((x.toNat : Int) / 2048) = ((rotr x 11).toNat : Int) := (rot_val x 11 (by decide) (by decide)).1
  have hk : bits BinOp.and IntKind.u64 (IntKind.u64.wrap (-11)) 31 = 21 := by decide
  have hx := x.toNat_lt
  go_enter Tryd.func138, Tryd.ntmps138
  go_wp2
  go_ret
  exact ⟨rfl, rfl⟩
set_option maxRecDepth 100000 in
theorem ror11 (x : UInt32) (w : World) : Calls Tryd.prog 126 #[.int .u32 x.toNat, .int .i64 11] w fun e w' => e = .returned (.int .u32 (rotr x 11).toNat) ∧ w' = w := by
  have r : bits .or .u32 ((x.toNat : Int) / 2048) ((x.toNat : Int) * 2097152 % 4294967296) = ((rotr x 11).toNat : Int) := (rot_val x 11 (by decide) (by decide)).2
  have hx := x.toNat_lt
  go_enter Tryd.func126, Tryd.ntmps126
  go_wp2
  go_ret
  exact ⟨rfl, rfl⟩
set_option maxRecDepth 100000 in
theorem rot13 (x : UInt32) (w : World) : Calls Tryd.prog 138 #[.int .u32 x.toNat, .int .i64 (-13)] w fun e w' => e = .returned (.int .u32 (rotr x 13).toNat) ∧ w' = w := by
  have r : bits .or .u32 ((x.toNat : Int) * 524288 % 4294967296) ((x.toNat : Int) / 8192) = ((rotr x 13).toNat : Int) := (rot_val x 13 (by decide) (by decide)).1
  have hk : bits BinOp.and IntKind.u64 (IntKind.u64.wrap (-13)) 31 = 19 := by decide
  have hx := x.toNat_lt
  go_enter Tryd.func138, Tryd.ntmps138
  go_wp2
  go_ret
  exact ⟨rfl, rfl⟩
set_option maxRecDepth 100000 in
theorem ror13 (x : UInt32) (w : World) : Calls Tryd.prog 126 #[.int .u32 x.toNat, .int .i64 13] w fun e w' => e = .returned (.int .u32 (rotr x 13).toNat) ∧ w' = w := by
  have r : bits .or .u32 ((x.toNat : Int) / 8192) ((x.toNat : Int) * 524288 % 4294967296) = ((rotr x 13).toNat : Int) := (rot_val x 13 (by decide) (by decide)).2
  have hx := x.toNat_lt
  go_enter Tryd.func126, Tryd.ntmps126
  go_wp2
  go_ret
  exact ⟨rfl, rfl⟩
set_option maxRecDepth 100000 in
theorem rot17 (x : UInt32) (w : World) : Calls Tryd.prog 138 #[.int .u32 x.toNat, .int .i64 (-17)] w fun e w' => e = .returned (.int .u32 (rotr x 17).toNat) ∧ w' = w := by
  have r : bits .or .u32 ((x.toNat : Int) * 32768 % 4294967296) ((x.toNat : Int) / 131072) = ((rotr x 17).toNat : Int) := (rot_val x 17 (by decide) (by decide)).1
  have hk : bits BinOp.and IntKind.u64 (IntKind.u64.wrap (-17)) 31 = 15 := by decide
  have hx := x.toNat_lt
  go_enter Tryd.func138, Tryd.ntmps138
  go_wp2
  go_ret
  exact ⟨rfl, rfl⟩
set_option maxRecDepth 100000 in
theorem ror17 (x : UInt32) (w : World) : Calls Tryd.prog 126 #[.int .u32 x.toNat, .int .i64 17] w fun e w' => e = .returned (.int .u32 (rotr x 17).toNat) ∧ w' = w := by
  have r : bits .or .u32 ((x.toNat : Int) / 131072) ((x.toNat : Int) * 32768 % 4294967296) = ((rotr x 17).toNat : Int) := (rot_val x 17 (by decide) (by decide)).2
  have hx := x.toNat_lt
  go_enter Tryd.func126, Tryd.ntmps126
  go_wp2
  go_ret
  exact ⟨rfl, rfl⟩
set_option maxRecDepth 100000 in
theorem rot18 (x : UInt32) (w : World) : Calls Tryd.prog 138 #[.int .u32 x.toNat, .int .i64 (-18)] w fun e w' => e = .returned (.int .u32 (rotr x 18).toNat) ∧ w' = w := by
  have r : bits .or .u32 ((x.toNat : Int) * 16384 % 4294967296) ((x.toNat : Int) / 262144) = ((rotr x 18).toNat : Int) := (rot_val x 18 (by decide) (by decide)).1
  have hk : bits BinOp.and IntKind.u64 (IntKind.u64.wrap (-18)) 31 = 14 := by decide
  have hx := x.toNat_lt
  go_enter Tryd.func138, Tryd.ntmps138
  go_wp2
  go_ret
  exact ⟨rfl, rfl⟩
set_option maxRecDepth 100000 in
theorem ror18 (x : UInt32) (w : World) : Calls Tryd.prog 126 #[.int .u32 x.toNat, .int .i64 18] w fun e w' => e = .returned (.int .u32 (rotr x 18).toNat) ∧ w' = w := by
  have r : bits .or .u32 ((x.toNat : Int) / 262144) ((x.toNat : Int) * 16384 % 4294967296) = ((rotr x 18).toNat : Int) := (rot_val x 18 (by decide) (by decide)).2
  have hx := x.toNat_lt
  go_enter Tryd.func126, Tryd.ntmps126
  go_wp2
  go_ret
  exact ⟨rfl, rfl⟩
set_option maxRecDepth 100000 in
theorem rot19 (x : UInt32) (w : World) : Calls Tryd.prog 138 #[.int .u32 x.toNat, .int .i64 (-19)] w fun e w' => e = .returned (.int .u32 (rotr x 19).toNat) ∧ w' = w := by
  have r : bits .or .u32 ((x.toNat : Int) * 8192 % 4294967296) ((x.toNat : Int) / 524288) = ((rotr x 19).toNat : Int) := (rot_val x 19 (by decide) (by decide)).1
  have hk : bits BinOp.and IntKind.u64 (IntKind.u64.wrap (-19)) 31 = 13 := by decide
  have hx := x.toNat_lt
  go_enter Tryd.func138, Tryd.ntmps138
  go_wp2
  go_ret
  exact ⟨rfl, rfl⟩
set_option maxRecDepth 100000 in
theorem ror19 (x : UInt32) (w : World) : Calls Tryd.prog 126 #[.int .u32 x.toNat, .int .i64 19] w fun e w' => e = .returned (.int .u32 (rotr x 19).toNat) ∧ w' = w := by
  have r : bits .or .u32 ((x.toNat : Int) / 524288) ((x.toNat : Int) * 8192 % 4294967296) = ((rotr x 19).toNat : Int) := (rot_val x 19 (by decide) (by decide)).2
  have hx := x.toNat_lt
  go_enter Tryd.func126, Tryd.ntmps126
  go_wp2
  go_ret
  exact ⟨rfl, rfl⟩
set_option maxRecDepth 100000 in
theorem rot22 (x : UInt32) (w : World) : Calls Tryd.prog 138 #[.int .u32 x.toNat, .int .i64 (-22)] w fun e w' => e = .returned (.int .u32 (rotr x 22).toNat) ∧ w' = w := by
  have r : bits .or .u32 ((x.toNat : Int) * 1024 % 4294967296) ((x.toNat : Int) / 4194304) = ((rotr x 22).toNat : Int) := (rot_val x 22 (by decide) (by decide)).1
  have hk : bits BinOp.and IntKind.u64 (IntKind.u64.wrap (-22)) 31 = 10 := by decide
  have hx := x.toNat_lt
  go_enter Tryd.func138, Tryd.ntmps138
  go_wp2
  go_ret
  exact ⟨rfl, rfl⟩
set_option maxRecDepth 100000 in
theorem ror22 (x : UInt32) (w : World) : Calls Tryd.prog 126 #[.int .u32 x.toNat, .int .i64 22] w fun e w' => e = .returned (.int .u32 (rotr x 22).toNat) ∧ w' = w := by
  have r : bits .or .u32 ((x.toNat : Int) / 4194304) ((x.toNat : Int) * 1024 % 4294967296) = ((rotr x 22).toNat : Int) := (rot_val x 22 (by decide) (by decide)).2
  have hx := x.toNat_lt
  go_enter Tryd.func126, Tryd.ntmps126
  go_wp2
  go_ret
  exact ⟨rfl, rfl⟩
set_option maxRecDepth 100000 in
theorem rot25 (x : UInt32) (w : World) : Calls Tryd.prog 138 #[.int .u32 x.toNat, .int .i64 (-25)] w fun e w' => e = .returned (.int .u32 (rotr x 25).toNat) ∧ w' = w := by
  have r : bits .or .u32 ((x.toNat : Int) * 128 % 4294967296) ((x.toNat : Int) / 33554432) = ((rotr x 25).toNat : Int) := (rot_val x 25 (by decide) (by decide)).1
  have hk : bits BinOp.and IntKind.u64 (IntKind.u64.wrap (-25)) 31 = 7 := by decide
  have hx := x.toNat_lt
  go_enter Tryd.func138, Tryd.ntmps138
  go_wp2
  go_ret
  exact ⟨rfl, rfl⟩
set_option maxRecDepth 100000 in
theorem ror25 (x : UInt32) (w : World) : Calls Tryd.prog 126 #[.int .u32 x.toNat, .int .i64 25] w fun e w' => e = .returned (.int .u32 (rotr x 25).toNat) ∧ w' = w := by
  have r : bits .or .u32 ((x.toNat : Int) / 33554432) ((x.toNat : Int) * 128 % 4294967296) = ((rotr x 25).toNat : Int) := (rot_val x 25 (by decide) (by decide)).2
  have hx := x.toNat_lt
  go_enter Tryd.func126, Tryd.ntmps126
  go_wp2
  go_ret
  exact ⟨rfl, rfl⟩
end Go.Proofs.YtmnpbpfeoackiaaDoor

namespace Go.Proofs.YtmnpbpfeoackiaaDoor
open Go.RowKit

theorem ofL_at (s : List UInt8) (i : Nat) (h : i < (ofL s).size) : (ofL s)[i]'h = s.getD i 0 := by
  have h' : i < s.length := by rw [← size_ofL s]; exact h
  rw [toL_get _ _ h, List.getD_eq_getElem?_getD, List.getElem?_eq_getElem h']
  simp [toL_ofL]
theorem u8_32 (b : UInt8) : b.toUInt32.toNat = b.toNat := by simp
set_option maxRecDepth 100000 in
theorem or3_nat (A B C D : Nat) (hA : A < 256) (hB : B < 256) (hC : C < 256) (hD : D < 256) :
    bits .or .u32 (bits .or .u32 (bits .or .u32 ((A : Int) * 16777216) ((B : Int) * 65536)) ((C : Int) * 256)) (D : Int) = ((((A * 16777216 ||| B * 65536) ||| C * 256) ||| D : Nat) : Int) := by
  have l : ∀ p q : Nat, p < 4294967296 → q < 4294967296 → p ||| q < 4294967296 := fun p q hp hq => Nat.or_lt_two_pow (n := 32) hp hq
  have h1 : A * 16777216 < 4294967296 := Nat.mul_lt_mul_of_pos_right (show A < 256 from hA) (by decide)
  have h2 : B * 65536 < 4294967296 := Nat.lt_of_lt_of_le (Nat.mul_lt_mul_of_pos_right hB (by decide)) (by decide)
  have h3 : C * 256 < 4294967296 := Nat.lt_of_lt_of_le (Nat.mul_lt_mul_of_pos_right hC (by decide)) (by decide)
  have h4 : D < 4294967296 := Nat.lt_of_lt_of_le hD (by decide)
  rw [show ((A : Int) * 16777216) = ((A * 16777216 : Nat) : Int) from (Int.natCast_mul A 16777216).symm, show ((B : Int) * 65536) = ((B * 65536 : Nat) : Int) from (Int.natCast_mul B 65536).symm, show ((C : Int) * 256) = ((C * 256 : Nat) : Int) from (Int.natCast_mul C 256).symm]
  rw [u32_or_nat _ _ h1 h2, u32_or_nat _ _ (l _ _ h1 h2) h3, u32_or_nat _ _ (l _ _ (l _ _ h1 h2) h3) h4]
theorem shl_nat (a : UInt8) (k : UInt32) (n : Nat) (hk : k.toNat % 32 = n) (hn : n ≤ 24) : (a.toUInt32 <<< k).toNat = a.toNat * 2 ^ n := by
  rw [UInt32.toNat_shiftLeft, u8_32, hk, Nat.shiftLeft_eq]
  have h1 : 2 ^ n ≤ 2 ^ 24 := Nat.pow_le_pow_right (by decide) hn
  have h2 := a.toNat_lt
  have h3 : a.toNat * 2 ^ n ≤ 255 * 2 ^ 24 := Nat.mul_le_mul (by omega) h1
  exact Nat.mod_eq_of_lt (Nat.lt_of_le_of_lt h3 (by decide))
theorem word_val (a b c d : UInt8) :
    bits .or .u32 (bits .or .u32 (bits .or .u32 ((a.toNat : Int) * 16777216) ((b.toNat : Int) * 65536)) ((c.toNat : Int) * 256)) (d.toNat : Int) =
    (((a.toUInt32 <<< 24) ||| (b.toUInt32 <<< 16) ||| (c.toUInt32 <<< 8) ||| d.toUInt32).toNat : Int) := by
  rw [or3_nat _ _ _ _ a.toNat_lt b.toNat_lt c.toNat_lt d.toNat_lt, UInt32.toNat_or, UInt32.toNat_or, UInt32.toNat_or, shl_nat a 24 24 (by decide) (by decide), shl_nat b 16 16 (by decide) (by decide), shl_nat c 8 8 (by decide) (by decide), u8_32]

set_option maxRecDepth 100000 in
set_option maxHeartbeats 1000000 in
theorem word_any (s : List UInt8) (w : World) (hs : 4 ≤ s.length) : Calls Tryd.prog 143 #[.string (ofL s)] w fun e w' => e = .returned (.int .u32 (word4 s).toNat) ∧ Ext w w' := by
  have hsz : (ofL s).size = s.length := size_ofL _
  obtain ⟨a, ha⟩ : ∃ a, s.getD 0 0 = a := ⟨_, rfl⟩
  obtain ⟨b, hb⟩ : ∃ a, s.getD 1 0 = a := ⟨_, rfl⟩
  obtain ⟨c, hc⟩ : ∃ a, s.getD 2 0 = a := ⟨_, rfl⟩
  obtain ⟨d, hd⟩ : ∃ a, s.getD 3 0 = a := ⟨_, rfl⟩
  have g0 : ∀ h, (ofL s)[0]'h = a := fun h => by rw [← ha, ofL_at]
  have g1 : ∀ h, (ofL s)[1]'h = b := fun h => by rw [← hb, ofL_at]
  have g2 : ∀ h, (ofL s)[2]'h = c := fun h => by rw [← hc, ofL_at]
  have g3 : ∀ h, (ofL s)[3]'h = d := fun h => by rw [← hd, ofL_at]
  have v := word_val a b c d
  have hw : word4 s = (a.toUInt32 <<< 24) ||| (b.toUInt32 <<< 16) ||| (c.toUInt32 <<< 8) ||| d.toUInt32 := by unfold word4; rw [ha, hb, hc, hd]
  rw [← hw] at v
  have b1 := a.toNat_lt; have b2 := b.toNat_lt; have b3 := c.toNat_lt; have b4 := d.toNat_lt
  have i1 : (0 : Int) < s.length := by omega
  have i2 : (1 : Int) < s.length := by omega
  have i3 : (2 : Int) < s.length := by omega
  have i4 : (3 : Int) < s.length := by omega
  clear ha hb hc hd hw hs
  go_enter Tryd.func143, Tryd.ntmps143
  go_upto_region 1 with fail
  go_quiet (fail)
  go_wp2

  go_ret
  exact ⟨rfl, (Ext.rfl' _).drN _⟩
end Go.Proofs.YtmnpbpfeoackiaaDoor

namespace Go.Proofs.YtmnpbpfeoackiaaDoor
open Go.RowKit

/-- Eight words as cells. -/
abbrev stCells (v : St) : Array Value := #[.int .u32 v.a.toNat, .int .u32 v.b.toNat, .int .u32 v.c.toNat, .int .u32 v.d.toNat, .int .u32 v.e.toNat, .int .u32 v.f.toNat, .int .u32 v.g.toNat, .int .u32 v.h.toNat]
abbrev stV (v : St) : Value := .agg (stCells v)

set_option maxRecDepth 100000 in
set_option maxHeartbeats 1000000 in
theorem first_any (w : World) : Calls Tryd.prog 121 #[] w fun e w' => e = .returned (stV initS) ∧ Ext w w' := by
  go_enter Tryd.func121, Tryd.ntmps121
  go_wp2
  refine bodyPost_ret (v := stV initS) (by simp [results, Tryd.results121, go_sem]; decide) rfl ?_
  exact ⟨rfl, (Ext.rfl' _).al _⟩

theorem tell_cell (x : UInt32) : (tell4 x).map U8 = [.int .u8 ((x.toNat : Int) / 16777216 % 256), .int .u8 ((x.toNat : Int) / 65536 % 256), .int .u8 ((x.toNat : Int) / 256 % 256), .int .u8 ((x.toNat : Int) % 256)] := by
  have k : ∀ (y : UInt32), U8 y.toUInt8 = .int .u8 ((y.toNat : Int) % 256) := fun y => by
    unfold U8
    rw [UInt32.toNat_toUInt8]
    congr 1
  have s1 : (24 : UInt32).toNat % 32 = 24 := by decide
  have s2 : (16 : UInt32).toNat % 32 = 16 := by decide
  have s3 : (8 : UInt32).toNat % 32 = 8 := by decide
  unfold tell4
  simp only [List.map_cons, List.map_nil, k, UInt32.toNat_shiftRight, s1, s2, s3, Nat.shiftRight_eq_div_pow]
  rfl

set_option maxRecDepth 100000 in
set_option maxHeartbeats 4000000 in
theorem tell_any (v : St) (w : World) : Calls Tryd.prog 119 #[stV v] w fun e w' => e = .returned (.string (ofL (tellS v))) ∧ Ext w w' := by
  obtain ⟨a, b, c, d, e, f, g, h⟩ := v
  have i0 : ∀ W, (Instr.index 176 (stV ⟨a, b, c, d, e, f, g, h⟩) (.int .i64 0)).run Tryd.prog W = .ok (.int .u32 a.toNat) W := fun W => by
    simp [Instr.index, run_underlying Tryd.underlying176, asIntOf, go_sem]
  have i1 : ∀ W, (Instr.index 176 (stV ⟨a, b, c, d, e, f, g, h⟩) (.int .i64 1)).run Tryd.prog W = .ok (.int .u32 b.toNat) W := fun W => by
    simp [Instr.index, run_underlying Tryd.underlying176, asIntOf, go_sem]
  have i2 : ∀ W, (Instr.index 176 (stV ⟨a, b, c, d, e, f, g, h⟩) (.int .i64 2)).run Tryd.prog W = .ok (.int .u32 c.toNat) W := fun W => by
    simp [Instr.index, run_underlying Tryd.underlying176, asIntOf, go_sem]
  have i3 : ∀ W, (Instr.index 176 (stV ⟨a, b, c, d, e, f, g, h⟩) (.int .i64 3)).run Tryd.prog W = .ok (.int .u32 d.toNat) W := fun W => by
    simp [Instr.index, run_underlying Tryd.underlying176, asIntOf, go_sem]
  have i4 : ∀ W, (Instr.index 176 (stV ⟨a, b, c, d, e, f, g, h⟩) (.int .i64 4)).run Tryd.prog W = .ok (.int .u32 e.toNat) W := fun W => by
    simp [Instr.index, run_underlying Tryd.underlying176, asIntOf, go_sem]
  have i5 : ∀ W, (Instr.index 176 (stV ⟨a, b, c, d, e, f, g, h⟩) (.int .i64 5)).run Tryd.prog W = .ok (.int .u32 f.toNat) W := fun W => by
    simp [Instr.index, run_underlying Tryd.underlying176, asIntOf, go_sem]
  have i6 : ∀ W, (Instr.index 176 (stV ⟨a, b, c, d, e, f, g, h⟩) (.int .i64 6)).run Tryd.prog W = .ok (.int .u32 g.toNat) W := fun W => by
    simp [Instr.index, run_underlying Tryd.underlying176, asIntOf, go_sem]
  have i7 : ∀ W, (Instr.index 176 (stV ⟨a, b, c, d, e, f, g, h⟩) (.int .i64 7)).run Tryd.prog W = .ok (.int .u32 h.toNat) W := fun W => by
    simp [Instr.index, run_underlying Tryd.underlying176, asIntOf, go_sem]
  have hl : (tellS ⟨a, b, c, d, e, f, g, h⟩).map U8 = [.int .u8 ((a.toNat : Int) / 16777216 % 256), .int .u8 ((a.toNat : Int) / 65536 % 256), .int .u8 ((a.toNat : Int) / 256 % 256), .int .u8 ((a.toNat : Int) % 256), .int .u8 ((b.toNat : Int) / 16777216 % 256), .int .u8 ((b.toNat : Int) / 65536 % 256), .int .u8 ((b.toNat : Int) / 256 % 256), .int .u8 ((b.toNat : Int) % 256), .int .u8 ((c.toNat : Int) / 16777216 % 256), .int .u8 ((c.toNat : Int) / 65536 % 256), .int .u8 ((c.toNat : Int) / 256 % 256), .int .u8 ((c.toNat : Int) % 256), .int .u8 ((d.toNat : Int) / 16777216 % 256), .int .u8 ((d.toNat : Int) / 65536 % 256), .int .u8 ((d.toNat : Int) / 256 % 256), .int .u8 ((d.toNat : Int) % 256), .int .u8 ((e.toNat : Int) / 16777216 % 256), .int .u8 ((e.toNat : Int) / 65536 % 256), .int .u8 ((e.toNat : Int) / 256 % 256), .int .u8 ((e.toNat : Int) % 256), .int .u8 ((f.toNat : Int) / 16777216 % 256), .int .u8 ((f.toNat : Int) / 65536 % 256), .int .u8 ((f.toNat : Int) / 256 % 256), .int .u8 ((f.toNat : Int) % 256), .int .u8 ((g.toNat : Int) / 16777216 % 256), .int .u8 ((g.toNat : Int) / 65536 % 256), .int .u8 ((g.toNat : Int) / 256 % 256), .int .u8 ((g.toNat : Int) % 256), .int .u8 ((h.toNat : Int) / 16777216 % 256), .int .u8 ((h.toNat : Int) / 65536 % 256), .int .u8 ((h.toNat : Int) / 256 % 256), .int .u8 ((h.toNat : Int) % 256)] := by
    unfold tellS
    simp only [List.map_append, tell_cell]
    rfl
  have hw : ∀ (w1 : World) (j : Nat) (u : Value), ((tellS ⟨a, b, c, d, e, f, g, h⟩).map U8)[j]? = some u → (w1.alloc (.cells #[.int .u8 ((a.toNat : Int) / 16777216 % 256), .int .u8 ((a.toNat : Int) / 65536 % 256), .int .u8 ((a.toNat : Int) / 256 % 256), .int .u8 ((a.toNat : Int) % 256), .int .u8 ((b.toNat : Int) / 16777216 % 256), .int .u8 ((b.toNat : Int) / 65536 % 256), .int .u8 ((b.toNat : Int) / 256 % 256), .int .u8 ((b.toNat : Int) % 256), .int .u8 ((c.toNat : Int) / 16777216 % 256), .int .u8 ((c.toNat : Int) / 65536 % 256), .int .u8 ((c.toNat : Int) / 256 % 256), .int .u8 ((c.toNat : Int) % 256), .int .u8 ((d.toNat : Int) / 16777216 % 256), .int .u8 ((d.toNat : Int) / 65536 % 256), .int .u8 ((d.toNat : Int) / 256 % 256), .int .u8 ((d.toNat : Int) % 256), .int .u8 ((e.toNat : Int) / 16777216 % 256), .int .u8 ((e.toNat : Int) / 65536 % 256), .int .u8 ((e.toNat : Int) / 256 % 256), .int .u8 ((e.toNat : Int) % 256), .int .u8 ((f.toNat : Int) / 16777216 % 256), .int .u8 ((f.toNat : Int) / 65536 % 256), .int .u8 ((f.toNat : Int) / 256 % 256), .int .u8 ((f.toNat : Int) % 256), .int .u8 ((g.toNat : Int) / 16777216 % 256), .int .u8 ((g.toNat : Int) / 65536 % 256), .int .u8 ((g.toNat : Int) / 256 % 256), .int .u8 ((g.toNat : Int) % 256), .int .u8 ((h.toNat : Int) / 16777216 % 256), .int .u8 ((h.toNat : Int) / 65536 % 256), .int .u8 ((h.toNat : Int) / 256 % 256), .int .u8 ((h.toNat : Int) % 256)] 197)).cell? ((⟨w1.heap.size, 0, none⟩ : Addr).add j) = some u := by
    intro w1 j u hu
    rw [hl] at hu
    rw [WideShapes.add_plain]
    refine (cell_of_row _ w1.heap.size _ _ _ _ (heap_alloc_new w1 _)).trans ?_
    rw [Nat.zero_add]
    simpa using hu
  obtain ⟨w1, hw1⟩ : ∃ w1, w1 = w.alloc (.cells (stCells ⟨a, b, c, d, e, f, g, h⟩) 176) := ⟨_, rfl⟩
  have hz1 : w1.heap.size = w.heap.size + 1 := by rw [hw1]; simp
  have E1 : Ext w w1 := by rw [hw1]; exact (Ext.rfl' _).al _
  have hs : (convert 56 9 (.slice (some ⟨w1.heap.size, 0, none⟩) 32 32)).run Tryd.prog (w1.alloc (.cells #[.int .u8 ((a.toNat : Int) / 16777216 % 256), .int .u8 ((a.toNat : Int) / 65536 % 256), .int .u8 ((a.toNat : Int) / 256 % 256), .int .u8 ((a.toNat : Int) % 256), .int .u8 ((b.toNat : Int) / 16777216 % 256), .int .u8 ((b.toNat : Int) / 65536 % 256), .int .u8 ((b.toNat : Int) / 256 % 256), .int .u8 ((b.toNat : Int) % 256), .int .u8 ((c.toNat : Int) / 16777216 % 256), .int .u8 ((c.toNat : Int) / 65536 % 256), .int .u8 ((c.toNat : Int) / 256 % 256), .int .u8 ((c.toNat : Int) % 256), .int .u8 ((d.toNat : Int) / 16777216 % 256), .int .u8 ((d.toNat : Int) / 65536 % 256), .int .u8 ((d.toNat : Int) / 256 % 256), .int .u8 ((d.toNat : Int) % 256), .int .u8 ((e.toNat : Int) / 16777216 % 256), .int .u8 ((e.toNat : Int) / 65536 % 256), .int .u8 ((e.toNat : Int) / 256 % 256), .int .u8 ((e.toNat : Int) % 256), .int .u8 ((f.toNat : Int) / 16777216 % 256), .int .u8 ((f.toNat : Int) / 65536 % 256), .int .u8 ((f.toNat : Int) / 256 % 256), .int .u8 ((f.toNat : Int) % 256), .int .u8 ((g.toNat : Int) / 16777216 % 256), .int .u8 ((g.toNat : Int) / 65536 % 256), .int .u8 ((g.toNat : Int) / 256 % 256), .int .u8 ((g.toNat : Int) % 256), .int .u8 ((h.toNat : Int) / 16777216 % 256), .int .u8 ((h.toNat : Int) / 65536 % 256), .int .u8 ((h.toNat : Int) / 256 % 256), .int .u8 ((h.toNat : Int) % 256)] 197)) = .ok (.string (ofL (tellS ⟨a, b, c, d, e, f, g, h⟩))) _ :=
    run_str_cells _ _ _ _ Tryd.underlying56 Tryd.underlying5 Tryd.underlying9 ⟨w1.heap.size, 0, none⟩ 32 32 (tellS ⟨a, b, c, d, e, f, g, h⟩) (length_tellS _) (hw w1)
  clear hw hl
  rw [hz1] at hs
  have HS := Lib.hid hs; clear hs
  have HW1 := Lib.hid hw1
  clear hz1
  have I0 := Lib.hid i0; clear i0
  have I1 := Lib.hid i1; clear i1
  have I2 := Lib.hid i2; clear i2
  have I3 := Lib.hid i3; clear i3
  have I4 := Lib.hid i4; clear i4
  have I5 := Lib.hid i5; clear i5
  have I6 := Lib.hid i6; clear i6
  have I7 := Lib.hid i7; clear i7
  have hc : ∀ W, Ext w1 W → W.heap[w.heap.size]? = some (.cells (stCells ⟨a, b, c, d, e, f, g, h⟩) 176 (0, 0)) := fun W h => (h.block w.heap.size (by rw [hw1]; simp)).trans (by rw [hw1]; exact heap_alloc_new w _)
  clear hc hw1
  go_enter Tryd.func119, Tryd.ntmps119
  go_wp2
  refine wp_loop_rounds 9 ?_
  rw [rounds_succ]
  have ii := I0.out
  clear I0
  go_wp2
  clear ii
  rw [rounds_succ]
  have ii := I1.out
  clear I1
  go_wp2
  clear ii
  rw [rounds_succ]
  have ii := I2.out
  clear I2
  go_wp2
  clear ii
  rw [rounds_succ]
  have ii := I3.out
  clear I3
  go_wp2
  clear ii
  rw [rounds_succ]
  have ii := I4.out
  clear I4
  go_wp2
  clear ii
  rw [rounds_succ]
  have ii := I5.out
  clear I5
  go_wp2
  clear ii
  rw [rounds_succ]
  have ii := I6.out
  clear I6
  go_wp2
  clear ii
  rw [rounds_succ]
  have ii := I7.out
  clear I7
  go_wp2
  clear ii
  rw [rounds_succ]
  have hs := HS.out
  rw [HW1.out] at hs
  go_wp2
  go_ret
  exact ⟨rfl, ((Ext.rfl' _).al _).al _⟩
end Go.Proofs.YtmnpbpfeoackiaaDoor

namespace Go.Proofs.YtmnpbpfeoackiaaDoor
open Go.RowKit

set_option maxRecDepth 100000 in
set_option maxHeartbeats 1000000 in
theorem rfirst_any (w : World) : Calls Tryd.prog 106 #[] w fun e w' => e = .returned (stV initS) ∧ Ext w w' := by
  go_enter Tryd.func106, Tryd.ntmps106
  go_wp2
  refine bodyPost_ret (v := stV initS) (by simp [results, Tryd.results106, go_sem]; decide) rfl ?_
  exact ⟨rfl, (Ext.rfl' _).al _⟩

end Go.Proofs.YtmnpbpfeoackiaaDoor

namespace Go.Proofs.YtmnpbpfeoackiaaDoor
open Go.RowKit

theorem toList_zero1 (z : Value) (k : Nat) : (Builtin.zeroCells #[z] k).toList = List.replicate k z := by
  unfold Builtin.zeroCells
  simp only [List.size_toArray, List.length_cons, List.length_nil, Nat.zero_add, Nat.mul_one, Nat.mod_one]
  apply List.ext_getElem
  · simp
  · intro i h1 h2
    simp

section
variable {P : Program} {t e : TypeId} {z : Value} {bytes : Nat}

theorem run_append_room_zeros (w : World) (t tn ty e : TypeId) (i : TypeInfo) (z : Value) (kq kn : IntKind) (ht : P.underlying t = some (.slice e)) (htn : P.underlying tn = some (.int kn)) (hi : P.info? e = some i) (hz : i.zero = some z)
    (hz1 : z.cells = #[z]) (hsz : i.size = 1) (h1 : z.oneCell' = true)
    (g sLen sCap : Nat) (cur : Array Value) (hg : w.heap[g]? = some (.cells cur e (0, 0))) (k : Nat) (h63 : (k : Int) ≤ 9223372036854775807) (h48 : k * i.bytes ≤ 281474976710656)
    (hroom : sLen + k ≤ sCap) (hfit : sLen + k ≤ cur.size) :
    (Builtin.append_ #[t, tn] ty #[.slice (some ⟨g, 0, none⟩) sLen sCap, .int kq k]).run P w =
      .ok (.slice (some ⟨g, 0, none⟩) (sLen + k) sCap) (w.setRow g (cur.toList.take sLen ++ List.replicate k z ++ cur.toList.drop (sLen + k)).toArray) := by
  have hw : IntKind.i64.wrap (k : Int) = k := by rw [IntKind.wrap_i64]; omega
  have h48i : ¬ (281474976710656 < (k : Int) * (i.bytes : Int)) := by
    rw [← Int.natCast_mul]
    omega
  have hneg : ¬ ((k : Int) < 0) := by omega
  have hst := run_storeCells_at P g sLen e (List.replicate k z) 0 cur w hg (by simpa using hfit) (by intro v hv; rw [List.eq_of_mem_replicate hv]; exact h1)
  simp only [Nat.add_zero, List.length_replicate] at hst
  by_cases hk : k = 0
  · subst hk
    simp only [List.replicate_zero, Nat.add_zero, storeCells] at hst
    have hw0 : IntKind.i64.wrap (0 : Int) = 0 := by rw [IntKind.wrap_i64]; omega
    have hr0 : sLen ≤ sCap := by omega
    simp [Builtin.append_, run_underlying ht, run_underlying htn, sizeOf, typeInfo, hi, asInt, asIntOf, hw0, hr0, storeCells]
    simpa using hst
  · have hz2 : (Builtin.zeroCells #[z] k).toList = List.replicate k z := toList_zero1 z k
    simp [Builtin.append_, run_underlying ht, run_underlying htn, sizeOf, typeInfo, zeroValue, hi, hz, asInt, asIntOf, hw, hneg, h48i, hroom, hsz, hk, hz1, hz2, Addr.add_lit, hst]

/-- append(v, make([]T, k)...), v a slice of the call's own. -/
theorem run_app_zeros (E : Elem P t e z 1 bytes) (hz1 : z.cells = #[z]) (h1 : z.oneCell' = true) (w : World) (tn ty : TypeId) (kq kn : IntKind) (htn : P.underlying tn = some (.int kn))
    {base : Nat} {v : Value} {n : Nat} {xs : List Value} (hown : w.ownsRow base e 1 v n xs) (k : Nat) (h63 : n + k ≤ 9223372036854775807) (hbytes : (n + k) * bytes ≤ 140737488355328) (hbase : base ≤ w.heap.size) :
    ∃ v' w', (Builtin.append_ #[t, tn] ty #[v, .int kq k]).run P w = .ok v' w' ∧ w'.ownsRow base e 1 v' (n + k) (xs ++ List.replicate k z) ∧ w.grownBy w' v.ownBlock := by
  obtain ⟨i, hi, hz, hsz, hby⟩ := E.hi
  have ht := E.ht
  subst hby
  have hkb : k * i.bytes ≤ (n + k) * i.bytes := Nat.mul_le_mul_right _ (by omega)
  have hlen : (xs ++ List.replicate k z).length = (n + k) * 1 := by rw [List.length_append, hown.1]; simp
  have hxn : xs.length = n := by simpa using hown.1
  have grown : ∀ (old : Nat), old < n + k → ∀ (row : Option Nat),
      (w.drew.alloc (.cells (xs.toArray ++ Builtin.zeroCells z.cells k ++ Builtin.zeroCells z.cells (grownCap w (n + k) old e - (n + k))) e)).ownsRow base e 1
        (.slice (some ⟨w.heap.size, 0, none⟩) (n + k) (grownCap w (n + k) old e)) (n + k) (xs ++ List.replicate k z) ∧
      w.grownBy (w.drew.alloc (.cells (xs.toArray ++ Builtin.zeroCells z.cells k ++ Builtin.zeroCells z.cells (grownCap w (n + k) old e - (n + k))) e)) row := by
    intro old ho row
    have hge := grownCap_ge w (n + k) old e
    have hcm : grownCap w (n + k) old e ≤ maxLen := grownCap_le_maxLen w (n + k) old e (by unfold maxLen; omega)
    refine ⟨⟨hlen, .inr ⟨w.heap.size, _, _, rfl, hbase, heap_alloc_new w.drew _, hge, hcm, ?_, ?_⟩⟩, ⟨rfl, rfl, rfl, by simp, fun k hk _ => Below.heap_alloc w.drew _ k hk⟩⟩
    · simp only [Array.size_append, List.size_toArray, size_zeroCells, E.hz, hxn]
      omega
    · rw [hz1]
      simp only [Array.toList_append, toList_zero1]
      rw [← hlen]
      exact List.take_left
  rcases hown.2 with ⟨rfl, rfl⟩ | ⟨g, cap, cur, rfl, hbg, hg, hnc, hcm, hcs, htake⟩
  · have hx : xs = [] := List.eq_nil_of_length_eq_zero hxn
    subst hx
    by_cases hk : k = 0
    · subst hk
      refine ⟨.slice none 0 0, w, ?_, by simpa using World.ownsRow_nil w base e 1, ⟨rfl, rfl, rfl, Nat.le_refl _, fun _ _ _ => rfl⟩⟩
      have hw : IntKind.i64.wrap (0 : Int) = 0 := by rw [IntKind.wrap_i64]; omega
      simp [Builtin.append_, run_underlying ht, run_underlying htn, sizeOf, typeInfo, hi, asInt, asIntOf, hw]
    · have hr := Lib.run_append_nil_zeros (P := P) w t tn ty e i z kq kn ht htn hi hz k (by omega) (by omega) (by omega) (by omega)
      have hgr := grown 0 (by omega) (Value.ownBlock (.slice none 0 0))
      simp only [Nat.zero_add, List.nil_append, Array.empty_append] at hgr ⊢
      exact ⟨_, _, hr, hgr.1, hgr.2⟩
  · by_cases hroom : n + k ≤ cap
    · have hfit : n + k ≤ cur.size := by omega
      have hr := run_append_room_zeros (P := P) w t tn ty e i z kq kn ht htn hi hz hz1 hsz h1 g n cap cur hg k (by omega) (by omega) hroom hfit
      refine ⟨_, _, hr, ⟨hlen, .inr ⟨g, cap, _, rfl, hbg, setRow_heap w g cur _ e _ hg, hroom, hcm, ?_, ?_⟩⟩, ⟨rfl, rfl, rfl, by simp, fun k _ hk => setRow_other w g k _ (fun e => hk (by simp [Value.ownBlock, e]))⟩⟩
      · simp only [List.size_toArray, List.length_append, List.length_take, List.length_drop, Array.length_toList, List.length_replicate]
        omega
      · rw [Nat.mul_one] at htake
        rw [htake, ← hlen]
        exact List.take_left
    · by_cases hk : k = 0
      · omega
      · have holds : ∀ j u, xs[j]? = some u → w.drew.cell? ((⟨g, 0, none⟩ : Addr).add j) = some u := fun j u hu => hown.cells (g := g) rfl j u hu
        have hold := run_firstCells_some (P := P) w.drew i.size n ⟨g, 0, none⟩ n cap xs (by rw [hsz, hxn, Nat.mul_one]) holds
        have hr := Lib.run_append_grow_zeros (P := P) w t tn ty e i z kq kn ht htn hi hz (some ⟨g, 0, none⟩) n cap xs hold k (by omega) (by omega) (by omega) (by omega) (by omega) (growslice_fits (by omega) hbytes)
        have hgr := grown cap (by omega) (Value.ownBlock (.slice (some ⟨g, 0, none⟩) n cap))
        exact ⟨_, _, hr, hgr.1, hgr.2⟩

/-- The operation at a plain list. -/
theorem wpl_app_zeros (E : Elem P t e z 1 bytes) (hz1 : z.cells = #[z]) (h1 : z.oneCell' = true) (w : World) {ops : Array Oper} {rest : List Oper} {o : Oper} {a : Act} {Q : Exit → Act → World → Prop} (hgd : o.guard = none) (s x : Operand) (tn : TypeId) {kq kn : IntKind} (htn : P.underlying tn = some (.int kn))
    (ho : o.op = .call { callee := .builtin .append, args := #[s, x], argTypes := #[t, tn] })
    {base : Nat} {v : Value} {n : Nat} {xs : List Value} (hown : w.ownsRow base e 1 v n xs) (k : Nat) {K : Int} (hs : a.eval s = v) (hx : a.eval x = .int kq K) (hK : K = k) (h63 : n + k ≤ 9223372036854775807) (hbytes : (n + k) * bytes ≤ 140737488355328) (hbase : base ≤ w.heap.size)
    (h : ∀ v' w', w'.ownsRow base e 1 v' (n + k) (xs ++ List.replicate k z) → w.grownBy w' v.ownBlock → wpList P ops Q rest (a.put o.dst v') w') : wpList P ops Q (o :: rest) a w := by
  subst hK
  obtain ⟨v', w', hr, h2, h3⟩ := run_app_zeros E hz1 h1 w tn o.type kq kn htn hown k h63 hbytes hbase
  exact Lib.wpList_append_run w hgd s x t tn ho _ _ hs hx v' w' hr (h v' w' h2 h3)
end
end Go.Proofs.YtmnpbpfeoackiaaDoor
