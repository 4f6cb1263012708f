/-
  The functions of package octet and of its reference return the named plain functions of their arguments. Condition: the strings are at most 1000000 bytes long where a contract says so.
-/
import Derived.Test.YtmnpbpfeoackiaaRows
import Derived.Test.YtmnpbpfeoackiaaOctPlain
import Derived.Test.YtmnpbpfeoackiaaShelf
namespace Go.Proofs.Ytmnpbpfeoackiaa
open Go.RowKit

theorem Try.elemU8 : Elem Try.prog 92 5 (.int .u8 0) 1 1 :=
  ⟨Try.underlying92, info_parts (by kernel_rfl), rfl, by decide⟩
theorem Try.elemStr : Elem Try.prog 75 9 (.string ⟨#[]⟩) 1 16 :=
  ⟨Try.underlying75, info_parts (by kernel_rfl), rfl, by decide⟩
theorem Try.str {w : World} {base : Nat} {v : Value} {n : Nat} {l : List UInt8} (hown : w.ownsRow base 5 1 v n (l.map U8)) : (convert 92 9 v).run Try.prog w = .ok (.string (ofL l)) w :=
  run_str_own _ _ _ Try.underlying92 Try.underlying5 Try.underlying9 hown
theorem Try.str1 (w : World) (n : Int) : (convert 92 9 (.slice (some ⟨w.heap.size, 0, none⟩) 1 1)).run Try.prog (w.alloc (.cells #[.int .u8 (n % 256)] 5)) = .ok (.string (ofL [byteOf n])) (w.alloc (.cells #[.int .u8 (n % 256)] 5)) :=
  Try.str (base := 0) (n := 1) (by rw [List.map_cons, U8_byteOf]; exact World.ownsRow_lit w _ 1 (Nat.zero_le _) (by decide) rfl)

set_option maxHeartbeats 400000 in
theorem rbyte_any (n : Int) (w : World) :
    Calls Try.prog 59 #[.int .i64 n] w fun e w' => e = .returned (.string (ofL [byteOf n])) ∧ Ext w w' := by
  have hs := Try.str1 w n
  go_enter Try.func59, Try.ntmps59
  go_wp2
  go_ret
  exact ⟨rfl, (Ext.rfl' _).al _⟩






set_option maxHeartbeats 400000 in
theorem rcompare_any (a b : ByteArray) (w : World) (ha : a.size ≤ maxLen) (_hb : b.size ≤ maxLen) :
    Calls Try.prog 58 #[.string a, .string b] w fun e w' => e = .returned (.int .i64 (cmpL (toL a) (toL b))) ∧ Ext w w' := by
  unfold maxLen at ha _hb
  go_enter Try.func58, Try.ntmps58
  go_wp2
  go_loopw [5] (fun i wr => ∃ k : Nat, k ≤ min a.size b.size ∧ i = .int .i64 k ∧ Ext w wr ∧ cmpL ((toL a).drop k) ((toL b).drop k) = cmpL (toL a) (toL b)) (fun i _ => min a.size b.size - (intOf i).toNat)
  case atStart => exact ⟨0, by simp, rfl, Ext.rfl' _, by simp⟩
  case round =>
    obtain ⟨k, hk, rfl, hE, hs0⟩ := hrel
    have hs := Lib.hid hs0; clear hs0
    by_cases h1 : k < a.size
    · by_cases h2 : k < b.size
      · have hst := hs.out
        rw [dropL a k h1, dropL b k h2, cmpL] at hst
        rcases Nat.lt_trichotomy a[k].toNat b[k].toNat with hq | hq | hq
        · have t : decide (a[k].toNat < b[k].toNat) = true := by simp; omega
          rw [if_pos (UInt8.lt_iff_toNat_lt.2 hq)] at hst
          have Hst := Lib.hid hst; clear hst
          go_wp2
          go_quiet (fail)
          go_wp2
          go_ret
          exact ⟨ret_int (by have := Hst.out; omega), hE.drN _⟩
        · have t : decide (a[k].toNat < b[k].toNat) = false := by simp; omega
          have t' : decide (b[k].toNat < a[k].toNat) = false := by simp; omega
          rw [if_neg (fun h => by have := UInt8.lt_iff_toNat_lt.1 h; omega), if_neg (fun h => by have := UInt8.lt_iff_toNat_lt.1 h; omega)] at hst
          have Hst := Lib.hid hst; clear hst
          have Hq := Lib.hid hq; clear hq
          go_wp2
          go_quiet (fail)
          go_wp2
          go_quiet (fail)
          go_wp2
          go_roundw
          case rel => exact ⟨k + 1, by omega, by go_num, by first | exact hE.drN _ | exact (hE.drN _).drN _, Hst.out⟩
          case measure => simp [intOf]; omega
        · have t : decide (a[k].toNat < b[k].toNat) = false := by simp; omega
          have t' : decide (b[k].toNat < a[k].toNat) = true := by simp; omega
          rw [if_neg (fun h => by have := UInt8.lt_iff_toNat_lt.1 h; omega), if_pos (UInt8.lt_iff_toNat_lt.2 hq)] at hst
          have Hst := Lib.hid hst; clear hst
          go_wp2
          go_quiet (fail)
          go_wp2
          go_quiet (fail)
          go_wp2
          go_ret
          exact ⟨ret_int (by have := Hst.out; omega), by first | exact hE.drN _ | exact (hE.drN _).drN _⟩
      · have he : (if (a.size : Int) < b.size then -1 else if (b.size : Int) < a.size then 1 else 0 : Int) = cmpL (toL a) (toL b) := by
          rw [← hs.out, dropE b k h2, dropL a k h1, cmpL, if_neg (by omega), if_pos (by omega)]
        have He := Lib.hid he; clear he
        have t1 : decide ((a.size : Int) < b.size) = false := by simp; omega
        have t2 : decide ((b.size : Int) < a.size) = true := by simp; omega
        go_wp2
        go_ret
        exact ⟨ret_int (by rw [← He.out, if_neg (by omega), if_pos (by omega)]), hE⟩
    · have he : (if (a.size : Int) < b.size then -1 else if (b.size : Int) < a.size then 1 else 0 : Int) = cmpL (toL a) (toL b) := by
        rw [← hs.out, dropE a k h1]
        by_cases h2 : k < b.size
        · rw [dropL b k h2, cmpL, if_pos (by omega)]
        · rw [dropE b k h2, cmpL, if_neg (by omega), if_neg (by omega)]
      have He := Lib.hid he; clear he
      by_cases h2 : k < b.size
      · have t1 : decide ((a.size : Int) < b.size) = true := by simp; omega
        go_wp2
        go_ret
        exact ⟨ret_int (by rw [← He.out, if_pos (by omega)]), hE⟩
      · have t1 : decide ((a.size : Int) < b.size) = false := by simp; omega
        have t2 : decide ((b.size : Int) < a.size) = false := by simp; omega
        go_wp2
        go_ret
        exact ⟨ret_int (by rw [← He.out, if_neg (by omega), if_neg (by omega)]), hE⟩


end Go.Proofs.Ytmnpbpfeoackiaa
