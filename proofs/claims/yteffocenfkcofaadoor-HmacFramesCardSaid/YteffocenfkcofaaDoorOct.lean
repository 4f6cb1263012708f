/-
  The functions of package octet and of its reference return the named plain functions of their arguments. Condition: the strings are at most 1000000 bytes long where a contract says so.
-/
import Derived.Test.YteffocenfkcofaaDoorRows
import Derived.Test.YteffocenfkcofaaDoorOctPlain
import Derived.Test.YteffocenfkcofaaDoorShelf
namespace Go.Proofs.YteffocenfkcofaaDoor
open Go.RowKit

theorem Tryd.elemU8 : Elem Tryd.prog 77 5 (.int .u8 0) 1 1 :=
  ⟨Tryd.underlying77, info_parts (by kernel_rfl), rfl, by decide⟩
theorem Tryd.elemStr : Elem Tryd.prog 26 9 (.string ⟨#[]⟩) 1 16 :=
  ⟨Tryd.underlying26, info_parts (by kernel_rfl), rfl, by decide⟩
theorem Tryd.str {w : World} {base : Nat} {v : Value} {n : Nat} {l : List UInt8} (hown : w.ownsRow base 5 1 v n (l.map U8)) : (convert 77 9 v).run Tryd.prog w = .ok (.string (ofL l)) w :=
  run_str_own _ _ _ Tryd.underlying77 Tryd.underlying5 Tryd.underlying9 hown
theorem Tryd.str1 (w : World) (n : Int) : (convert 77 9 (.slice (some ⟨w.heap.size, 0, none⟩) 1 1)).run Tryd.prog (w.alloc (.cells #[.int .u8 (n % 256)] 5)) = .ok (.string (ofL [byteOf n])) (w.alloc (.cells #[.int .u8 (n % 256)] 5)) :=
  Tryd.str (base := 0) (n := 1) (by rw [List.map_cons, U8_byteOf]; exact World.ownsRow_lit w _ 1 (Nat.zero_le _) (by decide) rfl)

set_option maxHeartbeats 400000 in
theorem rbyte_any (n : Int) (w : World) :
    Calls Tryd.prog 85 #[.int .i64 n] w fun e w' => e = .returned (.string (ofL [byteOf n])) ∧ Ext w w' := by
  have hs := Tryd.str1 w n
  go_enter Tryd.func85, Tryd.ntmps85
  go_wp2
  go_ret
  exact ⟨rfl, (Ext.rfl' _).al _⟩

set_option maxHeartbeats 400000 in
theorem xor_any (a b : ByteArray) (w : World) (ha : a.size ≤ 1000000) (hb : b.size ≤ 1000000) :
    Calls Tryd.prog 66 #[.string a, .string b] w fun e w' => e = .returned (.string (ofL (xorL (toL a) (toL b)))) ∧ Ext w w' := by
  go_enter Tryd.func66, Tryd.ntmps66
  go_wp2_with (at_make; refine wpl_make Tryd.elemU8 rfl _ rfl _ _ rfl (min a.size b.size) rfl rfl ?c1 ?c2 ?c3 ?c4 ?_)
  case c1 => omega
  case c2 => omega
  case c3 => omega
  case c4 => omega
  intro w1 hown hE
  go_wp2
  go_loopw [15] (fun i wr => ∃ k : Nat, ∃ acc : List UInt8, k ≤ min a.size b.size ∧ i = .int .i64 k ∧ Ext w wr ∧ acc.length = k ∧ acc ++ xorL ((toL a).drop k) ((toL b).drop k) = xorL (toL a) (toL b) ∧
      wr.ownsRow w.heap.size 5 1 (.slice (some ⟨w.heap.size, 0, none⟩) (min a.size b.size) (min a.size b.size)) (min a.size b.size) ((acc ++ List.replicate (min a.size b.size - acc.length) 0).map U8)) (fun i _ => min a.size b.size - (intOf i).toNat)
  case atStart =>
    refine ⟨0, [], by omega, rfl, hE, rfl, rfl, ?_⟩
    simpa [xorL, U8] using hown
  case round =>
    obtain ⟨k, acc, hk, rfl, hE1, hacc0, hspec0, hown1⟩ := hrel
    have hacc := Lib.hid hacc0; clear hacc0
    have hspec := Lib.hid hspec0; clear hspec0
    by_cases hlt : k < min a.size b.size
    · obtain ⟨hc, hf⟩ := own_cell hown1 k hlt
      have h1 : k < a.size := by omega
      have h2 : k < b.size := by omega
      go_wp2
      go_region
      go_wp2
      go_roundw
      case rel =>
        have hn := own_set hown1 k (U8 (a[k] ^^^ b[k])) hE1 (Nat.le_refl _)
        have hs := hspec.out
        rw [dropL a k h1, dropL b k h2, xorL_cons] at hs
        have hl := hacc.out
        subst hl
        rw [set_fill _ _ _ (by omega), U8_xor] at hn
        exact ⟨acc.length + 1, acc ++ [a[acc.length] ^^^ b[acc.length]], by omega, by go_num, hn.2.dr, by simp, by rw [← hs]; simp, hn.1.drew⟩
      case measure => simp [intOf]; omega
    · have hs := hspec.out
      have hl := hacc.out
      have he : acc = xorL (toL a) (toL b) := by
        rw [← hs]
        by_cases h : k < a.size
        · rw [dropE b k (by omega), xorL_nil_right]; simp
        · rw [dropE a k h, xorL_nil_left]; simp
      clear hs hacc
      rw [hl, show min a.size b.size - k = 0 by omega] at hown1
      simp only [List.replicate_zero, List.append_nil] at hown1
      have hcv := Tryd.str hown1
      clear hl
      go_wp2
      go_ret
      exact ⟨ret_str (by simp only [he]), hE1⟩

set_option maxHeartbeats 400000 in
theorem equal_any (a b : ByteArray) (w : World) (ha : a.size ≤ maxLen) (hb : b.size ≤ maxLen) :
    Calls Tryd.prog 71 #[.string a, .string b] w fun e w' => e = .returned (.bool (toL a == toL b)) ∧ Ext w w' := by
  unfold maxLen at ha hb
  by_cases hne : a.size = b.size
  · have hne' : ((a.size : Int) != b.size) = false := by simp; omega
    go_enter Tryd.func71, Tryd.ntmps71
    go_wp2
    go_loopw [5, 14] (fun u i wr => ∃ k : Nat, ∃ m : Nat, k ≤ b.size ∧ i = .int .i64 k ∧ u = .int .u8 m ∧ m < 256 ∧ Ext w wr ∧ (m = 0 ↔ (toL a).take k = (toL b).take k)) (fun _ i _ => b.size - (intOf i).toNat)
    case atStart => exact ⟨0, 0, by simp, rfl, rfl, by omega, Ext.rfl' _, by simp⟩
    case round =>
      obtain ⟨k, m, hk, rfl, rfl, hm, hE, hi0⟩ := hrel
      have hi := Lib.hid hi0; clear hi0
      by_cases hlt : k < b.size
      · have hla : k < a.size := by omega
        go_wp2
        go_quiet (fail)
        go_wp2
        go_roundw
        case rel =>
          have e1 := u8_xor_nat _ _ a[k].toNat_lt b[k].toNat_lt
          have hx : a[k].toNat ^^^ b[k].toNat < 256 := by have := (a[k] ^^^ b[k]).toNat_lt; rw [UInt8.toNat_xor] at this; omega
          rw [e1, u8_or_nat _ _ hm hx]
          refine ⟨k + 1, m ||| (a[k].toNat ^^^ b[k].toNat), by omega, by go_num, rfl, Nat.or_lt_two_pow (n := 8) hm hx, by first | exact hE.drN _ | exact hE.dr, ?_⟩
          rw [List.take_succ_eq_append_getElem (by rw [length_toL]; omega), List.take_succ_eq_append_getElem (by rw [length_toL]; omega), ← toL_get a k hla, ← toL_get b k hlt]
          rw [Nat.or_eq_zero_iff, xor_zero, hi.out]
          constructor
          · rintro ⟨h1, h2⟩
            rw [h1, UInt8.toNat_inj.1 h2]
          · intro h
            have := List.append_inj' h rfl
            exact ⟨this.1, by have := this.2; simp at this; rw [this]⟩
        case measure => simp [intOf]; omega
      · have hd : decide (m = 0) = (toL a == toL b) := by
          rw [Bool.eq_iff_iff]
          simp only [decide_eq_true_eq, beq_iff_eq]
          rw [hi.out, List.take_of_length_le (by rw [length_toL]; omega), List.take_of_length_le (by rw [length_toL]; omega)]
        have Hd := Lib.hid hd; clear hd
        go_wp2
        go_ret
        refine ⟨ret_bool ?_, hE⟩
        rw [← Hd.out]
        first | rfl | (rw [Bool.eq_iff_iff]; simp)
  · have hne' : ((a.size : Int) != b.size) = true := by simp; omega
    go_enter Tryd.func71, Tryd.ntmps71
    go_wp2
    go_ret
    refine ⟨ret_bool ?_, Ext.rfl' _⟩
    symm
    rw [beq_eq_false_iff_ne]
    intro h
    apply hne
    rw [← length_toL a, ← length_toL b, h]






end Go.Proofs.YteffocenfkcofaaDoor
