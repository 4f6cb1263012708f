/-
  Package entry and its reference: Mark, Blocks, number; the law's mark. No condition. · Package entry's reference: a number in four bytes; the law's mark. No condition. · The law's list of a disk's blocks; the reference's blocks of an entry. Conditions: the power is on; a text of at most 65600 bytes.
-/
import Derived.Test.YtmnpbpfeoackiaaDoorMhD
import Derived.Test.YtmnpbpfeoackiaaDoorMhL
namespace Go.Proofs.YtmnpbpfeoackiaaDoor
open Go.RowKit

set_option maxRecDepth 100000 in
theorem emark_any (gen index : Int) (head : Bool) (w : World) : Calls Tryd.prog 34 #[.int .i64 gen, .int .i64 index, .bool head] w fun e w' => e = .returned (.int .i64 (markN gen index head)) ∧ w' = w := by
  by_cases h : gen < 1 ∨ 1099511627776 < gen ∨ index < 0 ∨ 4095 < index
  · rw [markN_bad h]
    have hcase : decide (gen < 1) = true ∨ (decide (gen < 1) = false ∧ decide ((1099511627776 : Int) < gen) = true) ∨ (decide (gen < 1) = false ∧ decide ((1099511627776 : Int) < gen) = false ∧ decide (index < 0) = true) ∨ (decide (gen < 1) = false ∧ decide ((1099511627776 : Int) < gen) = false ∧ decide (index < 0) = false ∧ decide ((4095 : Int) < index) = true) := by
      simp only [decide_eq_true_eq, decide_eq_false_iff_not]
      omega
    clear h
    rcases hcase with q1 | ⟨q1, q2⟩ | ⟨q1, q2, q3⟩ | ⟨q1, q2, q3, q4⟩ <;>
    · go_enter Tryd.func34, Tryd.ntmps34
      go_wp2
      go_ret
      exact ⟨rfl, rfl⟩
  · rw [markN_ok h]
    obtain ⟨g, rfl⟩ : ∃ g : Nat, gen = g := ⟨gen.toNat, by omega⟩
    obtain ⟨i, rfl⟩ : ∃ i : Nat, index = i := ⟨index.toNat, by omega⟩
    have q1 : decide ((g : Int) < 1) = false := by simp; omega
    have q2 : decide ((1099511627776 : Int) < (g : Int)) = false := by simp; omega
    have q3 : decide ((i : Int) < 0) = false := by simp
    have q4 : decide ((4095 : Int) < (i : Int)) = false := by simp; omega
    have hg : g ≤ 1099511627776 := by omega
    have hi : i ≤ 4095 := by omega
    clear h
    cases head with
    | true =>
      go_enter Tryd.func34, Tryd.ntmps34
      go_wp2
      go_ret
      exact ⟨rfl, rfl⟩
    | false =>
      go_enter Tryd.func34, Tryd.ntmps34
      go_wp2
      go_ret
      exact ⟨by simp, rfl⟩
set_option maxRecDepth 100000 in
theorem rmk_any (gen index : Int) (head : Bool) (w : World) : Calls Tryd.prog 33 #[.int .i64 gen, .int .i64 index, .bool head] w fun e w' => e = .returned (.int .i64 (markN gen index head)) ∧ w' = w := by
  by_cases h : gen < 1 ∨ 1099511627776 < gen ∨ index < 0 ∨ 4095 < index
  · rw [markN_bad h]
    have hcase : decide (gen < 1) = true ∨ (decide (gen < 1) = false ∧ decide ((1099511627776 : Int) < gen) = true) ∨ (decide (gen < 1) = false ∧ decide ((1099511627776 : Int) < gen) = false ∧ decide (index < 0) = true) ∨ (decide (gen < 1) = false ∧ decide ((1099511627776 : Int) < gen) = false ∧ decide (index < 0) = false ∧ decide ((4095 : Int) < index) = true) := by
      simp only [decide_eq_true_eq, decide_eq_false_iff_not]
      omega
    clear h
    rcases hcase with q1 | ⟨q1, q2⟩ | ⟨q1, q2, q3⟩ | ⟨q1, q2, q3, q4⟩ <;>
    · go_enter Tryd.func33, Tryd.ntmps33
      go_wp2
      go_ret
      exact ⟨rfl, rfl⟩
  · rw [markN_ok h]
    obtain ⟨g, rfl⟩ : ∃ g : Nat, gen = g := ⟨gen.toNat, by omega⟩
    obtain ⟨i, rfl⟩ : ∃ i : Nat, index = i := ⟨index.toNat, by omega⟩
    have q1 : decide ((g : Int) < 1) = false := by simp; omega
    have q2 : decide ((1099511627776 : Int) < (g : Int)) = false := by simp; omega
    have q3 : decide ((i : Int) < 0) = false := by simp
    have q4 : decide ((4095 : Int) < (i : Int)) = false := by simp; omega
    have hg : g ≤ 1099511627776 := by omega
    have hi : i ≤ 4095 := by omega
    clear h
    cases head with
    | true =>
      go_enter Tryd.func33, Tryd.ntmps33
      go_wp2
      go_ret
      exact ⟨rfl, rfl⟩
    | false =>
      go_enter Tryd.func33, Tryd.ntmps33
      go_wp2
      go_ret
      exact ⟨by simp, rfl⟩
set_option maxRecDepth 100000 in
theorem eblocks_any (n : Int) (w : World) : Calls Tryd.prog 35 #[.int .i64 n] w fun e w' => e = .returned (.int .i64 (blkN n)) ∧ w' = w := by
  by_cases h : n < 0 ∨ 65536 < n
  · rw [blkN_bad h]
    have hcase : decide (n < 0) = true ∨ (decide (n < 0) = false ∧ decide ((65536 : Int) < n) = true) := by
      simp only [decide_eq_true_eq, decide_eq_false_iff_not]
      omega
    clear h
    rcases hcase with q1 | ⟨q1, q2⟩ <;>
    · go_enter Tryd.func35, Tryd.ntmps35
      go_wp2
      go_ret
      exact ⟨rfl, rfl⟩
  · have q1 : decide (n < 0) = false := by simp; omega
    have q2 : decide ((65536 : Int) < n) = false := by simp; omega
    by_cases h2 : n ≤ 102
    · rw [blkN_one (by omega) h2]
      have q3 : decide (n ≤ 102) = true := by simp; omega
      clear h h2
      go_enter Tryd.func35, Tryd.ntmps35
      go_wp2
      go_ret
      exact ⟨rfl, rfl⟩
    · rw [blkN_more (by omega) (by omega)]
      have q3 : decide (n ≤ 102) = false := by simp; omega
      obtain ⟨m, rfl⟩ : ∃ m : Nat, n = m + 102 := ⟨(n - 102).toNat, by omega⟩
      have hm : m ≤ 65434 := by omega
      have hd := Kp.mk (show ((1 + (((m : Int) + 102 + 7) / 110).toNat : Nat) : Int) = 1 + ((m : Int) + 110 - 1) / 110 by omega)
      clear h h2
      go_enter Tryd.func35, Tryd.ntmps35
      go_wp2
      go_ret
      exact ⟨by rw [hd.out]; rfl, rfl⟩
set_option maxRecDepth 100000 in
theorem rblocks_any (n : Int) (w : World) : Calls Tryd.prog 32 #[.int .i64 n] w fun e w' => e = .returned (.int .i64 (blkN n)) ∧ w' = w := by
  by_cases h : n < 0 ∨ 65536 < n
  · rw [blkN_bad h]
    have hcase : decide (n < 0) = true ∨ (decide (n < 0) = false ∧ decide ((65536 : Int) < n) = true) := by
      simp only [decide_eq_true_eq, decide_eq_false_iff_not]
      omega
    clear h
    rcases hcase with q1 | ⟨q1, q2⟩ <;>
    · go_enter Tryd.func32, Tryd.ntmps32
      go_wp2
      go_ret
      exact ⟨rfl, rfl⟩
  · have q1 : decide (n < 0) = false := by simp; omega
    have q2 : decide ((65536 : Int) < n) = false := by simp; omega
    obtain ⟨m, rfl⟩ : ∃ m : Nat, n = m := ⟨n.toNat, by omega⟩
    have hm : m ≤ 65536 := by omega
    clear h
    go_enter Tryd.func32, Tryd.ntmps32
    go_upto_region 4 with fail
    go_wp2
    go_loopw [3, 4] (fun k l wr => ∃ c : Nat, k = .int .i64 ((1 + c : Nat) : Int) ∧ l = .int .i64 ((m : Int) - 102 - 110 * c) ∧ (c = 0 ∨ 110 * c < m - 102 + 110) ∧ wr = w) (fun _ l _ => (intOf l + 110).toNat)
    case atStart => exact ⟨0, rfl, by simp, .inl rfl, rfl⟩
    case round =>
      obtain ⟨c, rfl, rfl, hc, rfl⟩ := hrel
      by_cases hl : (0 : Int) < (m : Int) - 102 - 110 * c
      · have q3 : decide ((0 : Int) < (m : Int) - 102 - 110 * c) = true := by simp; omega
        have hcm : 110 * c + 102 < m := by omega
        clear hc
        go_wp2
        go_roundw
        case rel => exact ⟨c + 1, by go_num, by go_num, .inr (by omega), trivial⟩
        case measure => simp [intOf]; omega
      · have q3 : decide ((0 : Int) < (m : Int) - 102 - 110 * c) = false := by simp; omega
        have hf : blkN (m : Int) = 1 + c := by
          by_cases h1 : m ≤ 102
          · rw [blkN_one (by omega) (by omega)]; omega
          · rw [blkN_more (by omega) (by omega)]; omega
        have HF := Kp.mk hf
        clear hf hc
        go_wp2
        go_ret
        rw [HF.out]
        exact ⟨rfl, rfl⟩
end Go.Proofs.YtmnpbpfeoackiaaDoor

namespace Go.Proofs.YtmnpbpfeoackiaaDoor
open Go.RowKit

set_option maxRecDepth 100000 in
theorem rnum4_any (n : Nat) (hn : n < 4294967296) (w : World) : Calls Tryd.prog 80 #[.int .i64 n] w fun e w' => e = .returned (.string (ofL (leN 4 n))) ∧ Ext w w' := by
  have hb : ofL (leN 4 n) = ofL [byteOf ((n : Int) % 256)] ++ ofL [byteOf ((n : Int) / 256 % 256)] ++ ofL [byteOf ((n : Int) / 65536 % 256)] ++ ofL [byteOf ((n : Int) / 16777216 % 256)] := by
    rw [ofL_append, ofL_append, ofL_append]
    congr 1
    have e1 : ((n : Int) / 256 % 256) = ((n / 256 : Nat) : Int) % 256 := by omega
    have e2 : ((n : Int) / 65536 % 256) = ((n / 65536 : Nat) : Int) % 256 := by omega
    have e3 : ((n : Int) / 16777216 % 256) = ((n / 16777216 : Nat) : Int) % 256 := by omega
    rw [e1, e2, e3, byteOf_rem, byteOf_rem, byteOf_rem, byteOf_rem]
    simp only [leN, List.cons_append, List.nil_append, Nat.div_div_eq_div_mul, Nat.reduceMul]
  have HB := Kp.mk hb
  clear hb
  go_enter Tryd.func80, Tryd.ntmps80
  go_wp2_with fail
  refine (rbyte_any _ _).mono ?_
  rintro e w1 ⟨rfl, E1⟩
  go_wp2_with fail
  refine (rbyte_any _ _).mono ?_
  rintro e w2 ⟨rfl, E2⟩
  go_wp2_with fail
  refine (rbyte_any _ _).mono ?_
  rintro e w3 ⟨rfl, E3⟩
  go_wp2_with fail
  refine (rbyte_any _ _).mono ?_
  rintro e w4 ⟨rfl, E4⟩
  go_wp2
  go_ret
  rw [HB.out]
  exact ⟨rfl, ((E1.tr E2).tr E3).tr E4⟩
set_option maxRecDepth 100000 in
theorem lmark_any (n : Nat) (h1 : 1 ≤ n) (h2 : n < 9223372036854775808) (w : World) : Calls Tryd.prog 42 #[.int .i64 n] w fun e w' => e = .returned (.string (ofL (leN 8 n))) ∧ Ext w w' := by
  have hf := rfput ⟨n, 0, []⟩ w (by dsimp only; omega)
  have hp : frPut ⟨(n : Int), 0, []⟩ = (frBytes n 0 [], 0) := frPut_ok (by dsimp only; omega) (by dsimp only; decide)
  rw [hp] at hf
  have hl : (ofL (frBytes n 0 [])).size = 128 := by rw [size_ofL, length_frBytes (by decide)]
  have hx : (ofL (frBytes n 0 [])).extract 0 8 = ofL (leN 8 n) := by rw [extract_to, toL_ofL, frBytes_take]
  have hf := Kp.mk hf
  clear hp
  go_enter Tryd.func42, Tryd.ntmps42
  go_wp2_with fail
  refine hf.out.mono ?_
  rintro e w1 ⟨rfl, E1⟩
  go_wp2
  go_ret
  exact ⟨rfl, E1⟩
end Go.Proofs.YtmnpbpfeoackiaaDoor

namespace Go.Proofs.YtmnpbpfeoackiaaDoor
open Go.RowKit

set_option maxRecDepth 100000 in
set_option maxHeartbeats 1000000 in
theorem all_disk {w : World} {B p g m : Nat} {d : Dk} (h : DkAt w B p g m d) (hd : d.dn = false) : Calls Tryd.prog 36 #[.pointer (some ⟨p, 0, none⟩)] w fun e w' => ∃ v, e = .returned v ∧ w'.ownsRow w.heap.size 9 1 v d.bs.length (d.bs.map Str) ∧ Ext w w' := by
  have hle := h.le
  obtain ⟨n, hn⟩ : ∃ n, d.bs.length = n := ⟨_, rfl⟩
  have cB := Kp.mk (show ∀ W, Ext w W → Calls Tryd.prog 77 #[.pointer (some ⟨p, 0, none⟩)] W fun e w' => e = .returned (.int .i64 n) ∧ w' = W from fun W hW => by rw [← hn]; exact dblocks_any (h.ext hW))
  have HH := Kp.mk h; have HD := Kp.mk hd; have HN := Kp.mk hn
  rw [hn] at hle ⊢
  clear h hd hn
  go_enter Tryd.func36, Tryd.ntmps36
  go_upto_region 3 with fail
  go_loopw [4, 3] (fun i o wr => ∃ k : Nat, i = .int .i64 k ∧ k ≤ n ∧ Ext w wr ∧ wr.ownsRow w.heap.size 9 1 o k ((d.bs.take k).map Str)) (fun i _ _ => n - (intOf i).toNat)
  case atStart => exact ⟨0, rfl, Nat.zero_le _, Ext.rfl' _, World.ownsRow_nil _ _ _ _⟩
  case round =>
    obtain ⟨k, rfl, hk, hE, hO⟩ := hrel
    go_wp2_with fail
    refine (cB.out _ hE).mono ?_
    rintro e wr ⟨rfl, rfl⟩
    by_cases hlt : k < n
    · have hkb : k < d.bs.length := by rw [HN.out]; exact hlt
      have hx := dread_ok (HH.out.ext hE) HD.out hkb
      have hnx := Kp.mk (show (d.bs.take k).map Str ++ [.string (ofL d.bs[k])] = (d.bs.take (k + 1)).map Str by rw [take_snoc d.bs k hkb, List.map_append]; rfl)
      obtain ⟨x, hxe⟩ : ∃ x, d.bs[k] = x := ⟨_, rfl⟩
      rw [hxe] at hx hnx
      have hx := Kp.mk hx
      clear hkb hxe
      go_wp2_with fail
      refine hx.out.mono ?_
      rintro e w3 ⟨rfl, E3⟩
      have F3 := hE.tr E3
      have O3 := own_ext hO (fun j _ hj => E3.block j hj)
      have hs3 := F3.size
      clear hE hO E3
      go_wp2_with (at_builtin; refine wpl_app Tryd.elemStr rfl _ _ rfl O3 1 rfl rfl rfl (by intro u hu; simp at hu; rw [hu]; rfl) (by omega) (by omega) hs3 ?_; intro v9 w9 own9 hg9; have F9 := F3.own hg9 O3 (Nat.le_refl _); clear hg9 O3 F3)
      go_roundw
      case rel => exact ⟨k + 1, by go_num, by omega, F9, own_eq own9 hnx.out rfl⟩
      case measure => simp [intOf]; omega
    · obtain rfl : k = n := by omega
      have hO2 := own_eq hO (show _ = d.bs.map Str by rw [List.take_of_length_le (by rw [HN.out]; exact Nat.le_refl _)]) rfl
      clear hO hlt hk
      go_wp2
      go_ret
      exact ⟨_, rfl, hO2, hE⟩
end Go.Proofs.YtmnpbpfeoackiaaDoor
