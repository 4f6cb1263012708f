/-
  More of package octet: Unhex, Cut, Pad, the reference's Xor, Cut and Pad, and the comparison of lists of texts, return the named plain functions. Condition: sizes as each contract says.
-/
import Derived.Test.YteffocenfkcofaaDoorOct
namespace Go.Proofs.YteffocenfkcofaaDoor
open Go.RowKit



set_option maxHeartbeats 400000 in
theorem rxor_any (a b : ByteArray) (w : World) (ha : a.size ≤ 1000000) (hb : b.size ≤ 1000000) :
    Calls Tryd.prog 67 #[.string a, .string b] w fun e w' => e = .returned (.string (ofL (xorL (toL a) (toL b)))) ∧ Ext w w' := by
  go_enter Tryd.func67, Tryd.ntmps67
  go_wp2
  go_loopw [5, 6] (fun o i wr => ∃ k : Nat, ∃ acc : List UInt8, k ≤ min a.size b.size ∧ i = .int .i64 k ∧ o = .string (ofL acc) ∧ acc.length ≤ k ∧ Ext w wr ∧ acc ++ xorL ((toL a).drop k) ((toL b).drop k) = xorL (toL a) (toL b)) (fun _ i _ => min a.size b.size - (intOf i).toNat)
  case atStart => exact ⟨0, [], by simp, rfl, rfl, by simp, Ext.rfl' _, by simp⟩
  case round =>
    obtain ⟨k, acc, hk, rfl, rfl, hl, hE, hs0⟩ := hrel
    have hs := Lib.hid hs0; clear hs0
    by_cases h1 : k < a.size
    · by_cases h2 : k < b.size
      · have hx := a[k].toNat_lt
        have hy := b[k].toNat_lt
        go_wp2
        go_quiet (fail)
        go_wp2
        obtain ⟨wo, hwo⟩ : ∃ wo : World, wo = wr.drewN nq := ⟨_, rfl⟩
        have hEo : Ext w wo := by rw [hwo]; exact hE.drN _
        rw [← hwo]
        clear hwo
        go_loopw [7, 8, 9, 10, 11] (fun x y n bt j wj => ∃ i : Nat, i ≤ 8 ∧ j = .int .i64 i ∧ x = .int .i64 (a[k].toNat / 2 ^ i : Nat) ∧ y = .int .i64 (b[k].toNat / 2 ^ i : Nat) ∧ n = .int .i64 (xr a[k].toNat b[k].toNat i) ∧ bt = .int .i64 (2 ^ i : Nat) ∧ wj = wo) (fun _ _ _ _ j _ => 8 - (intOf j).toNat)
        case atStart => exact ⟨0, by omega, rfl, by simp, by simp, rfl, rfl, rfl⟩
        case round =>
          obtain ⟨i, hi, rfl, rfl, rfl, rfl, rfl, rfl⟩ := hrel
          by_cases hlt : i < 8
          · have hxr := xr_le a[k].toNat b[k].toNat i
            have hst := xr_step a[k].toNat b[k].toNat i
            have hp : 2 ^ i ≤ 128 := Nat.pow_le_pow_right (by omega) (show i ≤ 7 by omega)
            have hd1 : a[k].toNat / 2 ^ i ≤ 255 := Nat.le_trans (Nat.div_le_self _ _) (by omega)
            have hd2 : b[k].toNat / 2 ^ i ≤ 255 := Nat.le_trans (Nat.div_le_self _ _) (by omega)
            have e1 : a[k].toNat / 2 ^ i / 2 = a[k].toNat / 2 ^ (i + 1) := by rw [Nat.div_div_eq_div_mul, ← Nat.pow_succ]
            have e2 : b[k].toNat / 2 ^ i / 2 = b[k].toNat / 2 ^ (i + 1) := by rw [Nat.div_div_eq_div_mul, ← Nat.pow_succ]
            have e3 : 2 ^ (i + 1) = 2 ^ i * 2 := Nat.pow_succ 2 i
            generalize hX : a[k].toNat / 2 ^ i = X at *
            generalize hY : b[k].toNat / 2 ^ i = Y at *
            generalize hN : xr a[k].toNat b[k].toNat i = N at *
            generalize hP : 2 ^ i = p at *
            have E1 := Lib.hid e1; have E2 := Lib.hid e2; have E3 := Lib.hid e3; have HS := Lib.hid hst
            clear hX hY hN hP e1 e2 e3 hst
            by_cases hq : X % 2 = Y % 2
            · have t : ((X : Int) % 2 != (Y : Int) % 2) = false := by simp; omega
              have hN2 : xr a[k].toNat b[k].toNat (i + 1) = N := by rw [HS.out, if_pos hq]
              have HN2 := Lib.hid hN2; clear hN2
              have Hq := Lib.hid hq; clear hq
              go_wp2
              go_roundw
              case rel => exact ⟨i + 1, by omega, by go_num, by rw [← E1.out]; go_num, by rw [← E2.out]; go_num, by rw [HN2.out], by rw [E3.out]; go_num, by first | trivial | rfl⟩
              case measure => simp [intOf]; omega
            · have t : ((X : Int) % 2 != (Y : Int) % 2) = true := by simp; omega
              have hN2 : xr a[k].toNat b[k].toNat (i + 1) = N + p := by rw [HS.out, if_neg hq]
              have HN2 := Lib.hid hN2; clear hN2
              have Hq := Lib.hid hq; clear hq
              go_wp2
              go_roundw
              case rel => exact ⟨i + 1, by omega, by go_num, by rw [← E1.out]; go_num, by rw [← E2.out]; go_num, by rw [HN2.out]; go_num, by rw [E3.out]; go_num, by first | trivial | rfl⟩
              case measure => simp [intOf]; omega
          · obtain rfl : i = 8 := by omega
            have hb8 := xr_byte a[k] b[k]
            have hby := byte_of_nat (a[k] ^^^ b[k])
            generalize xr a[k].toNat b[k].toNat 8 = N at *
            have H8 := Lib.hid hb8; clear hb8
            go_wp2_with (go_at_call 85; refine (rbyte_any _ _).mono ?_; rintro e w' ⟨rfl, hE2⟩)
            go_roundw
            case rel =>
              have hst := hs.out
              rw [dropL a k h1, dropL b k h2, xorL_cons] at hst
              rw [H8.out, hby]
              exact ⟨k + 1, acc ++ [a[k] ^^^ b[k]], by omega, by go_num, by rw [ofL_append], by simp; omega, hEo.tr hE2, by rw [← hst]; simp⟩
            case measure => simp [intOf]; omega
      · go_wp2
        go_ret
        exact ⟨ret_str (by have := hs.out; rw [dropE b k h2, xorL_nil_right, List.append_nil] at this; rw [this]), hE⟩
    · go_wp2
      go_ret
      exact ⟨ret_str (by have := hs.out; rw [dropE a k h1, xorL_nil_left, List.append_nil] at this; rw [this]), hE⟩
end Go.Proofs.YteffocenfkcofaaDoor
