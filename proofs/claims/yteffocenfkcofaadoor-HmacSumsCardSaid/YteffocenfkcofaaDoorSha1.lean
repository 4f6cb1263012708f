/-
  Package sha: words turned, four bytes as a word. No condition.
-/
import Derived.Test.YteffocenfkcofaaDoorShaPlain
import Derived.Test.YteffocenfkcofaaDoorProg
namespace Go.Proofs.YteffocenfkcofaaDoor
open Go.RowKit

theorem rot_val (x : UInt32) (n : Nat) (h0 : 0 < n) (h : n < 32) : bits .or .u32 (((x.toNat : Int) * ((2 ^ (32 - n) : Nat) : Int)) % 4294967296) ((x.toNat : Int) / ((2 ^ n : Nat) : Int)) = ((rotr x n).toNat : Int) ∧
    bits .or .u32 ((x.toNat : Int) / ((2 ^ n : Nat) : Int)) (((x.toNat : Int) * ((2 ^ (32 - n) : Nat) : Int)) % 4294967296) = ((rotr x n).toNat : Int) := by
  have hx := x.toNat_lt
  have e1 : ((x.toNat : Int) * ((2 ^ (32 - n) : Nat) : Int)) % 4294967296 = ((x.toNat * 2 ^ (32 - n) % 4294967296 : Nat) : Int) := by
    rw [← Int.natCast_mul]; rfl
  have e2 : ((x.toNat : Int) / ((2 ^ n : Nat) : Int)) = ((x.toNat / 2 ^ n : Nat) : Int) := (Int.natCast_ediv _ _).symm
  have hd : x.toNat / 2 ^ n ≤ x.toNat := Nat.div_le_self _ _
  have n1 : n.toUInt32.toNat % 32 = n := by rw [show n.toUInt32.toNat = n from by rw [Nat.toUInt32, UInt32.toNat_ofNat']; omega]; omega
  have n2 : (32 - n).toUInt32.toNat % 32 = 32 - n := by rw [show (32 - n).toUInt32.toNat = 32 - n from by rw [Nat.toUInt32, UInt32.toNat_ofNat']; omega]; omega
  have key : (rotr x n).toNat = x.toNat / 2 ^ n ||| x.toNat * 2 ^ (32 - n) % 4294967296 := by
    unfold rotr
    rw [UInt32.toNat_or, UInt32.toNat_shiftRight, UInt32.toNat_shiftLeft, n1, n2, Nat.shiftRight_eq_div_pow, Nat.shiftLeft_eq]
  rw [e1, e2, u32_or_nat _ _ (Nat.mod_lt _ (by decide)) (by omega), u32_or_nat _ _ (by omega) (Nat.mod_lt _ (by decide)), key]
  exact ⟨by rw [Nat.or_comm], rfl⟩

set_option maxRecDepth 100000 in
theorem rot2 (x : UInt32) (w : World) : Calls Tryd.prog 100 #[.int .u32 x.toNat, .int .i64 (-2)] w fun e w' => e = .returned (.int .u32 (rotr x 2).toNat) ∧ w' = w := by
  have r : bits .or .u32 ((x.toNat : Int) * 1073741824 % 4294967296) ((x.toNat : Int) / 4) = ((rotr x 2).toNat : Int) := (rot_val x 2 (by decide) (by decide)).1
  have hk : bits BinOp.and IntKind.u64 (IntKind.u64.wrap (-2)) 31 = 30 := by decide
  have hx := x.toNat_lt
  go_enter Tryd.func100, Tryd.ntmps100
  go_wp2
  go_ret
  exact ⟨rfl, rfl⟩
set_option maxRecDepth 100000 in
theorem ror2 (x : UInt32) (w : World) : Calls Tryd.prog 97 #[.int .u32 x.toNat, .int .i64 2] w fun e w' => e = .returned (.int .u32 (rotr x 2).toNat) ∧ w' = w := by
  have r : bits .or .u32 ((x.toNat : Int) / 4) ((x.toNat : Int) * 1073741824 % 4294967296) = ((rotr x 2).toNat : Int) := (rot_val x 2 (by decide) (by decide)).2
  have hx := x.toNat_lt
  go_enter Tryd.func97, Tryd.ntmps97
  go_wp2
  go_ret
  exact ⟨rfl, rfl⟩
set_option maxRecDepth 100000 in
theorem rot6 (x : UInt32) (w : World) : Calls Tryd.prog 100 #[.int .u32 x.toNat, .int .i64 (-6)] w fun e w' => e = .returned (.int .u32 (rotr x 6).toNat) ∧ w' = w := by
  have r : bits .or .u32 ((x.toNat : Int) * 67108864 % 4294967296) ((x.toNat : Int) / 64) = ((rotr x 6).toNat : Int) := (rot_val x 6 (by decide) (by decide)).1
  have hk : bits BinOp.and IntKind.u64 (IntKind.u64.wrap (-6)) 31 = 26 := by decide
  have hx := x.toNat_lt
  go_enter Tryd.func100, Tryd.ntmps100
  go_wp2
  go_ret
  exact ⟨rfl, rfl⟩
set_option maxRecDepth 100000 in
theorem ror6 (x : UInt32) (w : World) : Calls Tryd.prog 97 #[.int .u32 x.toNat, .int .i64 6] w fun e w' => e = .returned (.int .u32 (rotr x 6).toNat) ∧ w' = w := by
  have r : bits .or .u32 ((x.toNat : Int) / 64) ((x.toNat : Int) * 67108864 % 4294967296) = ((rotr x 6).toNat : Int) := (rot_val x 6 (by decide) (by decide)).2
  have hx := x.toNat_lt
  go_enter Tryd.func97, Tryd.ntmps97
  go_wp2
  go_ret
  exact ⟨rfl, rfl⟩
set_option maxRecDepth 100000 in
theorem rot7 (x : UInt32) (w : World) : Calls Tryd.prog 100 #[.int .u32 x.toNat, .int .i64 (-7)] w fun e w' => e = .returned (.int .u32 (rotr x 7).toNat) ∧ w' = w := by
  have r : bits .or .u32 ((x.toNat : Int) * 33554432 % 4294967296) ((x.toNat : Int) / 128) = ((rotr x 7).toNat : Int) := (rot_val x 7 (by decide) (by decide)).1
  have hk : bits BinOp.and IntKind.u64 (IntKind.u64.wrap (-7)) 31 = 25 := by decide
  have hx := x.toNat_lt
  go_enter Tryd.func100, Tryd.ntmps100
  go_wp2
  go_ret
  exact ⟨rfl, rfl⟩
set_option maxRecDepth 100000 in
theorem ror7 (x : UInt32) (w : World) : Calls Tryd.prog 97 #[.int .u32 x.toNat, .int .i64 7] w fun e w' => e = .returned (.int .u32 (rotr x 7).toNat) ∧ w' = w := by
  have r : bits .or .u32 ((x.toNat : Int) / 128) ((x.toNat : Int) * 33554432 % 4294967296) = ((rotr x 7).toNat : Int) := (rot_val x 7 (by decide) (by decide)).2
  have hx := x.toNat_lt
  go_enter Tryd.func97, Tryd.ntmps97
  go_wp2
  go_ret
  exact ⟨rfl, rfl⟩
set_option maxRecDepth 100000 in
theorem rot11 (x : UInt32) (w : World) : Calls Tryd.prog 100 #[.int .u32 x.toNat, .int .i64 (-11)] w fun e w' => e = .returned (.int .u32 (rotr x 11).toNat) ∧ w' = w := by
  have r : bits .or .u32 ((x.toNat : Int) * 2097152 % 4294967296) ((x.toNat : Int) / 2048) = ((rotr x 11).toNat : Int) := (rot_val x 11 (by decide) (by decide)).1
  have hk : bits BinOp.and IntKind.u64 (IntKind.u64.wrap (-11)) 31 = 21 := by decide
  have hx := x.toNat_lt
  go_enter Tryd.func100, Tryd.ntmps100
  go_wp2
  go_ret
  exact ⟨rfl, rfl⟩
set_option maxRecDepth 100000 in
theorem ror11 (x : UInt32) (w : World) : Calls Tryd.prog 97 #[.int .u32 x.toNat, .int .i64 11] w fun e w' => e = .returned (.int .u32 (rotr x 11).toNat) ∧ w' = w := by
  have r : bits .or .u32 ((x.toNat : Int) / 2048) ((x.toNat : Int) * 2097152 % 4294967296) = ((rotr x 11).toNat : Int) := (rot_val x 11 (by decide) (by decide)).2
  have hx := x.toNat_lt
  go_enter Tryd.func97, Tryd.ntmps97
  go_wp2
  go_ret
  exact ⟨rfl, rfl⟩
set_option maxRecDepth 100000 in
theorem rot13 (x : UInt32) (w : World) : Calls Tryd.prog 100 #[.int .u32 x.toNat, .int .i64 (-13)] w fun e w' => e = .returned (.int .u32 (rotr x 13).toNat) ∧ w' = w := by
  have r : bits .or .u32 ((x.toNat : Int) * 524288 % 4294967296) ((x.toNat : Int) / 8192) = ((rotr x 13).toNat : Int) := (rot_val x 13 (by decide) (by decide)).1
  have hk : bits BinOp.and IntKind.u64 (IntKind.u64.wrap (-13)) 31 = 19 := by decide
  have hx := x.toNat_lt
  go_enter Tryd.func100, Tryd.ntmps100
  go_wp2
  go_ret
  exact ⟨rfl, rfl⟩
set_option maxRecDepth 100000 in
theorem ror13 (x : UInt32) (w : World) : Calls Tryd.prog 97 #[.int .u32 x.toNat, .int .i64 13] w fun e w' => e = .returned (.int .u32 (rotr x 13).toNat) ∧ w' = w := by
  have r : bits .or .u32 ((x.toNat : Int) / 8192) ((x.toNat : Int) * 524288 % 4294967296) = ((rotr x 13).toNat : Int) := (rot_val x 13 (by decide) (by decide)).2
  have hx := x.toNat_lt
  go_enter Tryd.func97, Tryd.ntmps97
  go_wp2
  go_ret
  exact ⟨rfl, rfl⟩
set_option maxRecDepth 100000 in
theorem rot17 (x : UInt32) (w : World) : Calls Tryd.prog 100 #[.int .u32 x.toNat, .int .i64 (-17)] w fun e w' => e = .returned (.int .u32 (rotr x 17).toNat) ∧ w' = w := by
  have r : bits .or .u32 ((x.toNat : Int) * 32768 % 4294967296) ((x.toNat : Int) / 131072) = ((rotr x 17).toNat : Int) := (rot_val x 17 (by decide) (by decide)).1
  have hk : bits BinOp.and IntKind.u64 (IntKind.u64.wrap (-17)) 31 = 15 := by decide
  have hx := x.toNat_lt
  go_enter Tryd.func100, Tryd.ntmps100
  go_wp2
  go_ret
  exact ⟨rfl, rfl⟩
set_option maxRecDepth 100000 in
theorem ror17 (x : UInt32) (w : World) : Calls Tryd.prog 97 #[.int .u32 x.toNat, .int .i64 17] w fun e w' => e = .returned (.int .u32 (rotr x 17).toNat) ∧ w' = w := by
  have r : bits .or .u32 ((x.toNat : Int) / 131072) ((x.toNat : Int) * 32768 % 4294967296) = ((rotr x 17).toNat : Int) := (rot_val x 17 (by decide) (by decide)).2
  have hx := x.toNat_lt
  go_enter Tryd.func97, Tryd.ntmps97
  go_wp2
  go_ret
  exact ⟨rfl, rfl⟩
set_option maxRecDepth 100000 in
theorem rot18 (x : UInt32) (w : World) : Calls Tryd.prog 100 #[.int .u32 x.toNat, .int .i64 (-18)] w fun e w' => e = .returned (.int .u32 (rotr x 18).toNat) ∧ w' = w := by
  have r : bits .or .u32 ((x.toNat : Int) * 16384 % 4294967296) ((x.toNat : Int) / 262144) = ((rotr x 18).toNat : Int) := (rot_val x 18 (by decide) (by decide)).1
  have hk : bits BinOp.and IntKind.u64 (IntKind.u64.wrap (-18)) 31 = 14 := by decide
  have hx := x.toNat_lt
  go_enter Tryd.func100, Tryd.ntmps100
  go_wp2
  go_ret
  exact ⟨rfl, rfl⟩
set_option maxRecDepth 100000 in
theorem ror18 (x : UInt32) (w : World) : Calls Tryd.prog 97 #[.int .u32 x.toNat, .int .i64 18] w fun e w' => e = .returned (.int .u32 (rotr x 18).toNat) ∧ w' = w := by
  have r : bits .or .u32 ((x.toNat : Int) / 262144) ((x.toNat : Int) * 16384 % 4294967296) = ((rotr x 18).toNat : Int) := (rot_val x 18 (by decide) (by decide)).2
  have hx := x.toNat_lt
  go_enter Tryd.func97, Tryd.ntmps97
  go_wp2
  go_ret
  exact ⟨rfl, rfl⟩
set_option maxRecDepth 100000 in
theorem rot19 (x : UInt32) (w : World) : Calls Tryd.prog 100 #[.int .u32 x.toNat, .int .i64 (-19)] w fun e w' => e = .returned (.int .u32 (rotr x 19).toNat) ∧ w' = w := by
  have r : bits .or .u32 ((x.toNat : Int) * 8192 % 4294967296) ((x.toNat : Int) / 524288) = ((rotr x 19).toNat : Int) := (rot_val x 19 (by decide) (by decide)).1
  have hk : bits BinOp.and IntKind.u64 (IntKind.u64.wrap (-19)) 31 = 13 := by decide
  have hx := x.toNat_lt
  go_enter Tryd.func100, Tryd.ntmps100
  go_wp2
  go_ret
  exact ⟨rfl, rfl⟩
set_option maxRecDepth 100000 in
theorem ror19 (x : UInt32) (w : World) : Calls Tryd.prog 97 #[.int .u32 x.toNat, .int .i64 19] w fun e w' => e = .returned (.int .u32 (rotr x 19).toNat) ∧ w' = w := by
  have r : bits .or .u32 ((x.toNat : Int) / 524288) ((x.toNat : Int) * 8192 % 4294967296) = ((rotr x 19).toNat : Int) := (rot_val x 19 (by decide) (by decide)).2
  have hx := x.toNat_lt
  go_enter Tryd.func97, Tryd.ntmps97
  go_wp2
  go_ret
  exact ⟨rfl, rfl⟩
set_option maxRecDepth 100000 in
theorem rot22 (x : UInt32) (w : World) : Calls Tryd.prog 100 #[.int .u32 x.toNat, .int .i64 (-22)] w fun e w' => e = .returned (.int .u32 (rotr x 22).toNat) ∧ w' = w := by
  have r : bits .or .u32 ((x.toNat : Int) * 1024 % 4294967296) ((x.toNat : Int) / 4194304) = ((rotr x 22).toNat : Int) := (rot_val x 22 (by decide) (by decide)).1
  have hk : bits BinOp.and IntKind.u64 (IntKind.u64.wrap (-22)) 31 = 10 := by decide
  have hx := x.toNat_lt
  go_enter Tryd.func100, Tryd.ntmps100
  go_wp2
  go_ret
  exact ⟨rfl, rfl⟩
set_option maxRecDepth 100000 in
theorem ror22 (x : UInt32) (w : World) : Calls Tryd.prog 97 #[.int .u32 x.toNat, .int .i64 22] w fun e w' => e = .returned (.int .u32 (rotr x 22).toNat) ∧ w' = w := by
  have r : bits .or .u32 ((x.toNat : Int) / 4194304) ((x.toNat : Int) * 1024 % 4294967296) = ((rotr x 22).toNat : Int) := (rot_val x 22 (by decide) (by decide)).2
  have hx := x.toNat_lt
  go_enter Tryd.func97, Tryd.ntmps97
  go_wp2
  go_ret
  exact ⟨rfl, rfl⟩
set_option maxRecDepth 100000 in
theorem rot25 (x : UInt32) (w : World) : Calls Tryd.prog 100 #[.int .u32 x.toNat, .int .i64 (-25)] w fun e w' => e = .returned (.int .u32 (rotr x 25).toNat) ∧ w' = w := by
  have r : bits .or .u32 ((x.toNat : Int) * 128 % 4294967296) ((x.toNat : Int) / 33554432) = ((rotr x 25).toNat : Int) := (rot_val x 25 (by decide) (by decide)).1
  have hk : bits BinOp.and IntKind.u64 (IntKind.u64.wrap (-25)) 31 = 7 := by decide
  have hx := x.toNat_lt
  go_enter Tryd.func100, Tryd.ntmps100
  go_wp2
  go_ret
  exact ⟨rfl, rfl⟩
set_option maxRecDepth 100000 in
theorem ror25 (x : UInt32) (w : World) : Calls Tryd.prog 97 #[.int .u32 x.toNat, .int .i64 25] w fun e w' => e = .returned (.int .u32 (rotr x 25).toNat) ∧ w' = w := by
  have r : bits .or .u32 ((x.toNat : Int) / 33554432) ((x.toNat : Int) * 128 % 4294967296) = ((rotr x 25).toNat : Int) := (rot_val x 25 (by decide) (by decide)).2
  have hx := x.toNat_lt
  go_enter Tryd.func97, Tryd.ntmps97
  go_wp2
  go_ret
  exact ⟨rfl, rfl⟩
end Go.Proofs.YteffocenfkcofaaDoor
