/-
  More of package octet: Unhex, Cut, Pad, the reference's Xor, Cut and Pad, and the comparison of lists of texts, return the named plain functions. Condition: sizes as each contract says.
-/
import Derived.Test.YteclfeeeaokddaaOct
namespace Go.Proofs.Yteclfeeeaokddaa
open Go.RowKit

theorem idx_any (c : UInt8) (w : World) : Calls Try.prog 40 #[.string ⟨#[48, 49, 50, 51, 52, 53, 54, 55, 56, 57, 97, 98, 99, 100, 101, 102]⟩, .int .u8 c.toNat] w fun e w' => e = .returned (.int .i64 (idx c)) ∧ w' = w :=
  (Try.strings_IndexByte _ _ w).mono fun e w' ⟨h1, h2⟩ => ⟨by rw [h1]; simp [idx, digs], h2⟩

set_option maxHeartbeats 400000 in
theorem unhex_any (t : ByteArray) (w : World) (hs : t.size ≤ 1000000) :
    Calls Try.prog 12 #[.string t] w fun e w' => e = .returned (.tuple #[.string (ofL (unhexR (toL t))), .bool (okH (toL t))]) ∧ Ext w w' := by
  by_cases hev : t.size % 2 = 0
  · have hev' : ((t.size : Int) % 2 != 0) = false := by simp; omega
    have Hev := Lib.hid hev; clear hev
    go_enter Try.func12, Try.ntmps12
    go_wp2_with (at_make; refine wpl_make Try.elemU8 rfl _ rfl _ _ rfl (t.size / 2) rfl rfl ?c1 ?c2 ?c3 ?c4 ?_)
    case c1 => omega
    case c2 => omega
    case c3 => omega
    case c4 => omega
    intro w1 hown hE
    go_wp2
    go_loopw [18] (fun i wr => ∃ k : Nat, ∃ acc : List UInt8, k ≤ t.size / 2 ∧ i = .int .i64 k ∧ Ext w wr ∧ acc.length = k ∧ (okH ((toL t).drop (2 * k)) = okH (toL t)) ∧ acc ++ unhexL ((toL t).drop (2 * k)) = unhexL (toL t) ∧
        wr.ownsRow w.heap.size 5 1 (.slice (some ⟨w.heap.size, 0, none⟩) (t.size / 2) (t.size / 2)) (t.size / 2) ((acc ++ List.replicate (t.size / 2 - acc.length) 0).map U8)) (fun i _ => t.size / 2 - (intOf i).toNat)
    case atStart =>
      refine ⟨0, [], by omega, by first | rfl | simp, hE, rfl, rfl, rfl, ?_⟩
      simpa [U8] using hown
    case round =>
      obtain ⟨k, acc, hk, rfl, hE1, hacc0, hok0, hsp0, hown1⟩ := hrel
      have hacc := Lib.hid hacc0; clear hacc0
      have hok := Lib.hid hok0; clear hok0
      have hsp := Lib.hid hsp0; clear hsp0
      by_cases hlt : k < t.size / 2
      · obtain ⟨hc, hf⟩ := own_cell hown1 k hlt
        have h1 : 2 * k < t.size := by omega
        have h2 : 2 * k + 1 < t.size := by omega
        have a1 : IntKind.i64.wrap (2 * (k : Int)) = 2 * (k : Int) := IntWalk.i64_in _ (by omega)
        have a2 : IntKind.i64.wrap (2 * (k : Int) + 1) = 2 * (k : Int) + 1 := IntWalk.i64_in _ (by omega)
        have a3 : (2 * (k : Int)).toNat = 2 * k := by omega
        have a4 : (2 * (k : Int) + 1).toNat = 2 * k + 1 := by omega
        have a5 : 0 ≤ 2 * (k : Int) := by omega
        have a6 : 0 ≤ 2 * (k : Int) + 1 := by omega
        have a7 : 2 * (k : Int) < t.size := by omega
        have a8 : 2 * (k : Int) + 1 < t.size := by omega
        have b1 := idx_bds t[2 * k]
        have b2 := idx_bds t[2 * k + 1]
        have c1 := b1.1; have c2 := b1.2.1; have d1 := b2.1; have d2 := b2.2.1; clear b1 b2
        have hst1 := hok.out
        have hst2 := hsp.out
        rw [dropL t (2 * k) h1, dropL t (2 * k + 1) h2, okH_step] at hst1
        rw [dropL t (2 * k) h1, dropL t (2 * k + 1) h2, unhexL] at hst2
        have HS2 := Lib.hid hst2; clear hst2
        by_cases hA : 0 ≤ idx t[2 * k]
        · have nA : decide (idx t[2 * k] < 0) = false := by simp; omega
          by_cases hB : 0 ≤ idx t[2 * k + 1]
          · have nB : decide (idx t[2 * k + 1] < 0) = false := by simp; omega
            rw [decide_eq_true hA, decide_eq_true hB, Bool.true_and, Bool.true_and] at hst1
            have HS1 := Lib.hid hst1; clear hst1
            go_wp2
            go_quiet ((go_at_call 40; exact Calls.quiet_of_same (idx_any _ _)))
            go_wp2
            go_roundw
            case rel =>
              have hn := own_set hown1 k (U8 (idx t[2 * k] * 16 + idx t[2 * k + 1]).toNat.toUInt8) hE1 (Nat.le_refl _)
              have hl := hacc.out
              subst hl
              rw [set_fill _ _ _ (by omega)] at hn
              rw [or_digits _ _ hA c2 hB d2]
              exact ⟨acc.length + 1, acc ++ [(idx t[2 * acc.length] * 16 + idx t[2 * acc.length + 1]).toNat.toUInt8], by omega, by go_num, hn.2.drN nq, by simp, HS1.out, by rw [← HS2.out, List.append_assoc]; rfl, hn.1⟩
            case measure => simp [intOf]; omega
          · have nB : decide (idx t[2 * k + 1] < 0) = true := by simp; omega
            rw [decide_eq_false hB, Bool.and_false, Bool.false_and] at hst1
            have HS1 := Lib.hid hst1; clear hst1
            go_wp2
            go_quiet ((go_at_call 40; exact Calls.quiet_of_same (idx_any _ _)))
            go_wp2
            go_ret2
            exact ⟨by rw [unhexR_no HS1.out.symm, ← HS1.out]; rfl, hE1.drN _⟩
        · have nA : decide (idx t[2 * k] < 0) = true := by simp; omega
          rw [decide_eq_false hA, Bool.false_and, Bool.false_and] at hst1
          have HS1 := Lib.hid hst1; clear hst1
          go_wp2
          go_quiet ((go_at_call 40; exact Calls.quiet_of_same (idx_any _ _)))
          go_wp2
          go_ret2
          exact ⟨by rw [unhexR_no HS1.out.symm, ← HS1.out]; rfl, hE1.drN _⟩
      · have hl := hacc.out
        have hd : (toL t).drop (2 * k) = [] := dropE t _ (by have := Hev.out; omega)
        have hok' : okH (toL t) = true := by rw [← hok.out, hd]; rfl
        have he : acc = unhexL (toL t) := by rw [← hsp.out, hd]; simp [unhexL]
        rw [hl, show t.size / 2 - k = 0 by omega] at hown1
        simp only [List.replicate_zero, List.append_nil] at hown1
        have hcv := Try.str hown1
        have Hok' := Lib.hid hok'
        have He := Lib.hid he
        clear hl hd hok' he hacc
        go_wp2
        go_ret2
        exact ⟨by rw [unhexR_yes Hok'.out, Hok'.out, ← He.out]; rfl, hE1⟩
  · have hev' : ((t.size : Int) % 2 != 0) = true := by simp; omega
    have this : okH (toL t) = false := okH_odd (by rw [length_toL]; exact hev)
    rw [unhexR_no this, this]
    have Hev := Lib.hid hev; clear hev
    go_enter Try.func12, Try.ntmps12
    go_wp2
    go_ret2
    exact ⟨rfl, Ext.rfl' _⟩

set_option maxHeartbeats 400000 in
theorem rxor_any (a b : ByteArray) (w : World) (ha : a.size ≤ 1000000) (hb : b.size ≤ 1000000) :
    Calls Try.prog 35 #[.string a, .string b] w fun e w' => e = .returned (.string (ofL (xorL (toL a) (toL b)))) ∧ Ext w w' := by
  go_enter Try.func35, Try.ntmps35
  go_wp2
  go_loopw [5, 6] (fun o i wr => ∃ k : Nat, ∃ acc : List UInt8, k ≤ min a.size b.size ∧ i = .int .i64 k ∧ o = .string (ofL acc) ∧ acc.length ≤ k ∧ Ext w wr ∧ acc ++ xorL ((toL a).drop k) ((toL b).drop k) = xorL (toL a) (toL b)) (fun _ i _ => min a.size b.size - (intOf i).toNat)
  case atStart => exact ⟨0, [], by simp, rfl, rfl, by simp, Ext.rfl' _, by simp⟩
  case round =>
    obtain ⟨k, acc, hk, rfl, rfl, hl, hE, hs0⟩ := hrel
    have hs := Lib.hid hs0; clear hs0
    by_cases h1 : k < a.size
    · by_cases h2 : k < b.size
      · have hx := a[k].toNat_lt
        have hy := b[k].toNat_lt
        go_wp2
        go_quiet (fail)
        go_wp2
        obtain ⟨wo, hwo⟩ : ∃ wo : World, wo = wr.drewN nq := ⟨_, rfl⟩
        have hEo : Ext w wo := by rw [hwo]; exact hE.drN _
        rw [← hwo]
        clear hwo
        go_loopw [7, 8, 9, 10, 11] (fun x y n bt j wj => ∃ i : Nat, i ≤ 8 ∧ j = .int .i64 i ∧ x = .int .i64 (a[k].toNat / 2 ^ i : Nat) ∧ y = .int .i64 (b[k].toNat / 2 ^ i : Nat) ∧ n = .int .i64 (xr a[k].toNat b[k].toNat i) ∧ bt = .int .i64 (2 ^ i : Nat) ∧ wj = wo) (fun _ _ _ _ j _ => 8 - (intOf j).toNat)
        case atStart => exact ⟨0, by omega, rfl, by simp, by simp, rfl, rfl, rfl⟩
        case round =>
          obtain ⟨i, hi, rfl, rfl, rfl, rfl, rfl, rfl⟩ := hrel
          by_cases hlt : i < 8
          · have hxr := xr_le a[k].toNat b[k].toNat i
            have hst := xr_step a[k].toNat b[k].toNat i
            have hp : 2 ^ i ≤ 128 := Nat.pow_le_pow_right (by omega) (show i ≤ 7 by omega)
            have hd1 : a[k].toNat / 2 ^ i ≤ 255 := Nat.le_trans (Nat.div_le_self _ _) (by omega)
            have hd2 : b[k].toNat / 2 ^ i ≤ 255 := Nat.le_trans (Nat.div_le_self _ _) (by omega)
            have e1 : a[k].toNat / 2 ^ i / 2 = a[k].toNat / 2 ^ (i + 1) := by rw [Nat.div_div_eq_div_mul, ← Nat.pow_succ]
            have e2 : b[k].toNat / 2 ^ i / 2 = b[k].toNat / 2 ^ (i + 1) := by rw [Nat.div_div_eq_div_mul, ← Nat.pow_succ]
            have e3 : 2 ^ (i + 1) = 2 ^ i * 2 := Nat.pow_succ 2 i
            generalize hX : a[k].toNat / 2 ^ i = X at *
            generalize hY : b[k].toNat / 2 ^ i = Y at *
            generalize hN : xr a[k].toNat b[k].toNat i = N at *
            generalize hP : 2 ^ i = p at *
            have E1 := Lib.hid e1; have E2 := Lib.hid e2; have E3 := Lib.hid e3; have HS := Lib.hid hst
            clear hX hY hN hP e1 e2 e3 hst
            by_cases hq : X % 2 = Y % 2
            · have t : ((X : Int) % 2 != (Y : Int) % 2) = false := by simp; omega
              have hN2 : xr a[k].toNat b[k].toNat (i + 1) = N := by rw [HS.out, if_pos hq]
              have HN2 := Lib.hid hN2; clear hN2
              have Hq := Lib.hid hq; clear hq
              go_wp2
              go_roundw
              case rel => exact ⟨i + 1, by omega, by go_num, by rw [← E1.out]; go_num, by rw [← E2.out]; go_num, by rw [HN2.out], by rw [E3.out]; go_num, by first | trivial | rfl⟩
              case measure => simp [intOf]; omega
            · have t : ((X : Int) % 2 != (Y : Int) % 2) = true := by simp; omega
              have hN2 : xr a[k].toNat b[k].toNat (i + 1) = N + p := by rw [HS.out, if_neg hq]
              have HN2 := Lib.hid hN2; clear hN2
              have Hq := Lib.hid hq; clear hq
              go_wp2
              go_roundw
              case rel => exact ⟨i + 1, by omega, by go_num, by rw [← E1.out]; go_num, by rw [← E2.out]; go_num, by rw [HN2.out]; go_num, by rw [E3.out]; go_num, by first | trivial | rfl⟩
              case measure => simp [intOf]; omega
          · obtain rfl : i = 8 := by omega
            have hb8 := xr_byte a[k] b[k]
            have hby := byte_of_nat (a[k] ^^^ b[k])
            generalize xr a[k].toNat b[k].toNat 8 = N at *
            have H8 := Lib.hid hb8; clear hb8
            go_wp2_with (go_at_call 53; refine (rbyte_any _ _).mono ?_; rintro e w' ⟨rfl, hE2⟩)
            go_roundw
            case rel =>
              have hst := hs.out
              rw [dropL a k h1, dropL b k h2, xorL_cons] at hst
              rw [H8.out, hby]
              exact ⟨k + 1, acc ++ [a[k] ^^^ b[k]], by omega, by go_num, by rw [ofL_append], by simp; omega, hEo.tr hE2, by rw [← hst]; simp⟩
            case measure => simp [intOf]; omega
      · go_wp2
        go_ret
        exact ⟨ret_str (by have := hs.out; rw [dropE b k h2, xorL_nil_right, List.append_nil] at this; rw [this]), hE⟩
    · go_wp2
      go_ret
      exact ⟨ret_str (by have := hs.out; rw [dropE a k h1, xorL_nil_left, List.append_nil] at this; rw [this]), hE⟩
end Go.Proofs.Yteclfeeeaokddaa
