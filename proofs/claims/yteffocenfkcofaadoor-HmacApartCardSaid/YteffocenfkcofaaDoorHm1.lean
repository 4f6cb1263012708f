/-
  Package hmac: eight bytes of a number, in the program and in the reference. Condition: at most 100000000.
-/
import Derived.Test.YteffocenfkcofaaDoorBld
import Derived.Test.YteffocenfkcofaaDoorHmPlain
import Derived.Test.YteffocenfkcofaaDoorOct3
import Derived.Test.YteffocenfkcofaaDoorArr
namespace Go.Proofs.YteffocenfkcofaaDoor
open Go.RowKit

theorem be_set (n k : Nat) (h : k < 8) : ((List.replicate (8 - k) 0 ++ beK n k).map U8).set (7 - k) (U8 (n / 256 ^ k % 256).toUInt8) = (List.replicate (8 - (k + 1)) 0 ++ beK n (k + 1)).map U8 := by
  rw [← List.map_set]
  congr 1
  obtain ⟨j, hj⟩ : ∃ j, 7 - k = j := ⟨_, rfl⟩
  rw [show 8 - k = j + 1 by omega, show 8 - (k + 1) = j by omega, hj, beK, List.replicate_succ', List.append_assoc]
  rw [List.set_append_right _ _ (by simp)]
  simp

theorem U8_be (n k : Nat) : Value.int .u8 ((n : Int) / 2 ^ (8 * k) % 256) = U8 (n / 256 ^ k % 256).toUInt8 := by
  have h : ((2 : Int) ^ (8 * k)) = ((256 ^ k : Nat) : Int) := by rw [Int.pow_mul]; simp
  unfold U8
  rw [h, Nat.toUInt8, UInt8.toNat_ofNat', show 2 ^ 8 = 256 from rfl, Nat.mod_mod]
  congr 1
theorem Tryd.strArr8 {w : World} {g : Nat} (l : List UInt8) (hl : l.length = 8) (h : Arr w g 103 (l.map U8)) : (convert 77 9 (.slice (some ⟨g, 0, none⟩) 8 8)).run Tryd.prog w = .ok (.string (ofL l)) w :=
  run_str_cells w _ _ _ Tryd.underlying77 Tryd.underlying5 Tryd.underlying9 ⟨g, 0, none⟩ 8 8 l hl (fun j u hu => by
    have hadd : (⟨g, 0, none⟩ : Addr).add j = ⟨g, j, none⟩ := by unfold Addr.add; split <;> simp_all
    rw [hadd, h.cell j]; exact hu)

set_option maxRecDepth 100000 in
set_option maxHeartbeats 2000000 in
theorem long_any (n : Nat) (w : World) (_hn : n ≤ 100000000) : Calls Tryd.prog 68 #[.int .i64 n] w fun e w' => e = .returned (.string (ofL (be8 n))) ∧ Ext w w' := by
  go_enter Tryd.func68, Tryd.ntmps68
  go_wp2
  go_loopw [5] (fun x wr => ∃ k : Nat, k ≤ 8 ∧ x = .int .i64 k ∧ Ext w wr ∧ Arr wr w.heap.size 103 ((List.replicate (8 - k) 0 ++ beK n k).map U8)) (fun x _ => 8 - (intOf x).toNat)
  case atStart => exact ⟨0, by omega, rfl, (Ext.rfl' _).al _, Arr.new _ _ _⟩
  case round =>
    obtain ⟨k, hk, rfl, hE, hA⟩ := hrel
    by_cases hlt : k < 8
    · have hc : ∃ u, wr.cell? ⟨w.heap.size, 7 - k, none⟩ = some u := ⟨_, (hA.cell _).trans (List.getElem?_eq_getElem (by simp [length_beK]; omega))⟩
      obtain ⟨u, hc⟩ := hc
      have hf := hA.frozen (7 - k)
      go_wp2
      rw [U8_be n k]
      refine ⟨⟨k + 1, by omega, by go_num, hE.st (by simp) _, ?_⟩, by simp [intOf]; omega⟩
      rw [← be_set n k hlt]
      exact hA.set (7 - k) _
    · obtain rfl : k = 8 := by omega
      have hcv := Tryd.strArr8 (w := wr) (g := w.heap.size) (be8 n) rfl (by simpa [be8_beK] using hA)
      go_wp2
      go_ret
      exact ⟨rfl, hE⟩

theorem rlong_any (n : Nat) (w : World) (hn : n ≤ 100000000) : Calls Tryd.prog 70 #[.int .i64 n] w fun e w' => e = .returned (.string (ofL (be8 n))) ∧ Ext w w' := by
  go_enter Tryd.func70, Tryd.ntmps70
  go_wp2
  go_loopw [4, 3, 0] (fun i o x wr => ∃ k : Nat, k ≤ 8 ∧ i = .int .i64 k ∧ o = .string (ofL (beK n k)) ∧ x = .int .i64 ((n / 256 ^ k : Nat) : Int) ∧ Ext w wr) (fun i _ _ _ => 8 - (intOf i).toNat)
  case atStart => exact ⟨0, by omega, rfl, rfl, by simp, Ext.rfl' _⟩
  case round =>
    obtain ⟨k, hk, rfl, rfl, rfl, hE⟩ := hrel
    by_cases hlt : k < 8
    · obtain ⟨m, hm⟩ : ∃ m, n / 256 ^ k = m := ⟨_, rfl⟩
      have hm2 : n / 256 ^ (k + 1) = m / 256 := by rw [Nat.pow_succ, ← Nat.div_div_eq_div_mul, hm]
      have hml : m ≤ 100000000 := by rw [← hm]; exact Nat.le_trans (Nat.div_le_self _ _) hn
      have hsz : (ofL (beK n k)).size = k := by rw [size_ofL, length_beK]
      have happ : ofL [byteOf ((m : Int) % 256)] ++ ofL (beK n k) = ofL (beK n (k + 1)) := by
        rw [ofL_append, beK, hm]
        congr 1
        show byteOf ((m : Int) % 256) :: beK n k = _
        congr 1
        rw [show (m : Int) % 256 = ((m % 256 : Nat) : Int) by omega, byteOf_nat _ (by omega)]
      rw [hm]
      have HM := Lib.hid hm; have HM2 := Lib.hid hm2; have HA := Lib.hid happ
      clear hm hm2 happ
      go_wp2_with ((with_reducible refine (rbyte_any _ _).mono ?_); rintro e w2 ⟨rfl, hE2⟩)
      go_roundw
      case rel => exact ⟨k + 1, by omega, by go_num, by rw [HA.out], by rw [HM2.out]; go_num, hE.tr hE2⟩
      case measure => simp [intOf]; omega
    · go_wp2
      go_ret
      obtain rfl : k = 8 := by omega
      exact ⟨ret_str (by rw [be8_beK]), hE⟩
end Go.Proofs.YteffocenfkcofaaDoor
