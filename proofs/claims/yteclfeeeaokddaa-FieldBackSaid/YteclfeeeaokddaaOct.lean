/-
  The functions of package octet and of its reference return the named plain functions of their arguments. Condition: the strings are at most 1000000 bytes long where a contract says so.
-/
import Derived.Test.YteclfeeeaokddaaRows
import Derived.Test.YteclfeeeaokddaaOctPlain
import Derived.Test.YteclfeeeaokddaaShelf
namespace Go.Proofs.Yteclfeeeaokddaa
open Go.RowKit

theorem Try.elemU8 : Elem Try.prog 58 5 (.int .u8 0) 1 1 :=
  ⟨Try.underlying58, info_parts (by kernel_rfl), rfl, by decide⟩
theorem Try.elemStr : Elem Try.prog 27 9 (.string ⟨#[]⟩) 1 16 :=
  ⟨Try.underlying27, info_parts (by kernel_rfl), rfl, by decide⟩
theorem Try.str {w : World} {base : Nat} {v : Value} {n : Nat} {l : List UInt8} (hown : w.ownsRow base 5 1 v n (l.map U8)) : (convert 58 9 v).run Try.prog w = .ok (.string (ofL l)) w :=
  run_str_own _ _ _ Try.underlying58 Try.underlying5 Try.underlying9 hown
theorem Try.str1 (w : World) (n : Int) : (convert 58 9 (.slice (some ⟨w.heap.size, 0, none⟩) 1 1)).run Try.prog (w.alloc (.cells #[.int .u8 (n % 256)] 5)) = .ok (.string (ofL [byteOf n])) (w.alloc (.cells #[.int .u8 (n % 256)] 5)) :=
  Try.str (base := 0) (n := 1) (by rw [List.map_cons, U8_byteOf]; exact World.ownsRow_lit w _ 1 (Nat.zero_le _) (by decide) rfl)

set_option maxHeartbeats 400000 in
theorem rbyte_any (n : Int) (w : World) :
    Calls Try.prog 53 #[.int .i64 n] w fun e w' => e = .returned (.string (ofL [byteOf n])) ∧ Ext w w' := by
  have hs := Try.str1 w n
  go_enter Try.func53, Try.ntmps53
  go_wp2
  go_ret
  exact ⟨rfl, (Ext.rfl' _).al _⟩

set_option maxHeartbeats 400000 in
theorem xor_any (a b : ByteArray) (w : World) (ha : a.size ≤ 1000000) (hb : b.size ≤ 1000000) :
    Calls Try.prog 15 #[.string a, .string b] w fun e w' => e = .returned (.string (ofL (xorL (toL a) (toL b)))) ∧ Ext w w' := by
  go_enter Try.func15, Try.ntmps15
  go_wp2_with (at_make; refine wpl_make Try.elemU8 rfl _ rfl _ _ rfl (min a.size b.size) rfl rfl ?c1 ?c2 ?c3 ?c4 ?_)
  case c1 => omega
  case c2 => omega
  case c3 => omega
  case c4 => omega
  intro w1 hown hE
  go_wp2
  go_loopw [15] (fun i wr => ∃ k : Nat, ∃ acc : List UInt8, k ≤ min a.size b.size ∧ i = .int .i64 k ∧ Ext w wr ∧ acc.length = k ∧ acc ++ xorL ((toL a).drop k) ((toL b).drop k) = xorL (toL a) (toL b) ∧
      wr.ownsRow w.heap.size 5 1 (.slice (some ⟨w.heap.size, 0, none⟩) (min a.size b.size) (min a.size b.size)) (min a.size b.size) ((acc ++ List.replicate (min a.size b.size - acc.length) 0).map U8)) (fun i _ => min a.size b.size - (intOf i).toNat)
  case atStart =>
    refine ⟨0, [], by omega, rfl, hE, rfl, rfl, ?_⟩
    simpa [xorL, U8] using hown
  case round =>
    obtain ⟨k, acc, hk, rfl, hE1, hacc0, hspec0, hown1⟩ := hrel
    have hacc := Lib.hid hacc0; clear hacc0
    have hspec := Lib.hid hspec0; clear hspec0
    by_cases hlt : k < min a.size b.size
    · obtain ⟨hc, hf⟩ := own_cell hown1 k hlt
      have h1 : k < a.size := by omega
      have h2 : k < b.size := by omega
      go_wp2
      go_region
      go_wp2
      go_roundw
      case rel =>
        have hn := own_set hown1 k (U8 (a[k] ^^^ b[k])) hE1 (Nat.le_refl _)
        have hs := hspec.out
        rw [dropL a k h1, dropL b k h2, xorL_cons] at hs
        have hl := hacc.out
        subst hl
        rw [set_fill _ _ _ (by omega), U8_xor] at hn
        exact ⟨acc.length + 1, acc ++ [a[acc.length] ^^^ b[acc.length]], by omega, by go_num, hn.2.dr, by simp, by rw [← hs]; simp, hn.1.drew⟩
      case measure => simp [intOf]; omega
    · have hs := hspec.out
      have hl := hacc.out
      have he : acc = xorL (toL a) (toL b) := by
        rw [← hs]
        by_cases h : k < a.size
        · rw [dropE b k (by omega), xorL_nil_right]; simp
        · rw [dropE a k h, xorL_nil_left]; simp
      clear hs hacc
      rw [hl, show min a.size b.size - k = 0 by omega] at hown1
      simp only [List.replicate_zero, List.append_nil] at hown1
      have hcv := Try.str hown1
      clear hl
      go_wp2
      go_ret
      exact ⟨ret_str (by simp only [he]), hE1⟩

set_option maxHeartbeats 400000 in
theorem equal_any (a b : ByteArray) (w : World) (ha : a.size ≤ maxLen) (hb : b.size ≤ maxLen) :
    Calls Try.prog 18 #[.string a, .string b] w fun e w' => e = .returned (.bool (toL a == toL b)) ∧ Ext w w' := by
  unfold maxLen at ha hb
  by_cases hne : a.size = b.size
  · have hne' : ((a.size : Int) != b.size) = false := by simp; omega
    go_enter Try.func18, Try.ntmps18
    go_wp2
    go_loopw [5, 14] (fun u i wr => ∃ k : Nat, ∃ m : Nat, k ≤ b.size ∧ i = .int .i64 k ∧ u = .int .u8 m ∧ m < 256 ∧ Ext w wr ∧ (m = 0 ↔ (toL a).take k = (toL b).take k)) (fun _ i _ => b.size - (intOf i).toNat)
    case atStart => exact ⟨0, 0, by simp, rfl, rfl, by omega, Ext.rfl' _, by simp⟩
    case round =>
      obtain ⟨k, m, hk, rfl, rfl, hm, hE, hi0⟩ := hrel
      have hi := Lib.hid hi0; clear hi0
      by_cases hlt : k < b.size
      · have hla : k < a.size := by omega
        go_wp2
        go_quiet (fail)
        go_wp2
        go_roundw
        case rel =>
          have e1 := u8_xor_nat _ _ a[k].toNat_lt b[k].toNat_lt
          have hx : a[k].toNat ^^^ b[k].toNat < 256 := by have := (a[k] ^^^ b[k]).toNat_lt; rw [UInt8.toNat_xor] at this; omega
          rw [e1, u8_or_nat _ _ hm hx]
          refine ⟨k + 1, m ||| (a[k].toNat ^^^ b[k].toNat), by omega, by go_num, rfl, Nat.or_lt_two_pow (n := 8) hm hx, by first | exact hE.drN _ | exact hE.dr, ?_⟩
          rw [List.take_succ_eq_append_getElem (by rw [length_toL]; omega), List.take_succ_eq_append_getElem (by rw [length_toL]; omega), ← toL_get a k hla, ← toL_get b k hlt]
          rw [Nat.or_eq_zero_iff, xor_zero, hi.out]
          constructor
          · rintro ⟨h1, h2⟩
            rw [h1, UInt8.toNat_inj.1 h2]
          · intro h
            have := List.append_inj' h rfl
            exact ⟨this.1, by have := this.2; simp at this; rw [this]⟩
        case measure => simp [intOf]; omega
      · have hd : decide (m = 0) = (toL a == toL b) := by
          rw [Bool.eq_iff_iff]
          simp only [decide_eq_true_eq, beq_iff_eq]
          rw [hi.out, List.take_of_length_le (by rw [length_toL]; omega), List.take_of_length_le (by rw [length_toL]; omega)]
        have Hd := Lib.hid hd; clear hd
        go_wp2
        go_ret
        refine ⟨ret_bool ?_, hE⟩
        rw [← Hd.out]
        first | rfl | (rw [Bool.eq_iff_iff]; simp)
  · have hne' : ((a.size : Int) != b.size) = true := by simp; omega
    go_enter Try.func18, Try.ntmps18
    go_wp2
    go_ret
    refine ⟨ret_bool ?_, Ext.rfl' _⟩
    symm
    rw [beq_eq_false_iff_ne]
    intro h
    apply hne
    rw [← length_toL a, ← length_toL b, h]

set_option maxHeartbeats 400000 in
theorem common_any (a b : ByteArray) (w : World) (ha : a.size ≤ maxLen) (hb : b.size ≤ maxLen) :
    Calls Try.prog 19 #[.string a, .string b] w fun e w' => e = .returned (.int .i64 (comL (toL a) (toL b))) ∧ Ext w w' := by
  unfold maxLen at ha hb
  go_enter Try.func19, Try.ntmps19
  go_wp2
  go_loopw [13] (fun i wr => ∃ k : Nat, k ≤ min a.size b.size ∧ i = .int .i64 k ∧ Ext w wr ∧ k + comL ((toL a).drop k) ((toL b).drop k) = comL (toL a) (toL b)) (fun i _ => min a.size b.size - (intOf i).toNat)
  case atStart => exact ⟨0, by simp, rfl, Ext.rfl' _, by simp⟩
  case round =>
    obtain ⟨k, hk, rfl, hE, hs0⟩ := hrel
    have hs := Lib.hid hs0; clear hs0
    by_cases hlt : k < min a.size b.size
    · have h1 : k < a.size := by omega
      have h2 : k < b.size := by omega
      have hst := hs.out
      rw [dropL a k h1, dropL b k h2, comL] at hst
      by_cases hq : a[k] = b[k]
      · have t := byte_eq hq
        rw [if_pos hq] at hst
        have Hst := Lib.hid hst; clear hst hq
        go_wp2
        go_quiet (fail)
        go_wp2
        go_roundw
        case rel => exact ⟨k + 1, by omega, by go_num, hE.drN _, by have := Hst.out; omega⟩
        case measure => simp [intOf]; omega
      · have t := byte_ne hq
        rw [if_neg hq] at hst
        have Hst := Lib.hid hst; clear hst hq
        go_wp2
        go_quiet (fail)
        go_wp2
        go_ret
        exact ⟨ret_int (by have := Hst.out; omega), hE.drN _⟩
    · have he : comL (toL a) (toL b) = min a.size b.size := by
        rw [← hs.out]
        by_cases h : k < a.size
        · rw [dropE b k (by omega)]; simp [comL]; omega
        · rw [dropE a k h]; simp [comL]; omega
      have He := Lib.hid he; clear he
      go_wp2
      go_ret
      exact ⟨ret_int (by rw [He.out]; omega), hE⟩

set_option maxHeartbeats 400000 in
theorem rcommon_any (a b : ByteArray) (w : World) (ha : a.size ≤ maxLen) (hb : b.size ≤ maxLen) :
    Calls Try.prog 20 #[.string a, .string b] w fun e w' => e = .returned (.int .i64 (comL (toL a) (toL b))) ∧ Ext w w' := by
  unfold maxLen at ha hb
  go_enter Try.func20, Try.ntmps20
  go_wp2
  go_loopw [5] (fun i wr => ∃ k : Nat, k ≤ min a.size b.size ∧ i = .int .i64 k ∧ Ext w wr ∧ k + comL ((toL a).drop k) ((toL b).drop k) = comL (toL a) (toL b)) (fun i _ => min a.size b.size - (intOf i).toNat)
  case atStart => exact ⟨0, by simp, rfl, Ext.rfl' _, by simp⟩
  case round =>
    obtain ⟨k, hk, rfl, hE, hs0⟩ := hrel
    have hs := Lib.hid hs0; clear hs0
    by_cases h1 : k < a.size
    · by_cases h2 : k < b.size
      · have hst := hs.out
        rw [dropL a k h1, dropL b k h2, comL] at hst
        have d1 : decide ((k : Int) < a.size) = true := by simp; omega
        have d2 : decide ((k : Int) < b.size) = true := by simp; omega
        by_cases hq : a[k] = b[k]
        · have t : ((a[k].toNat : Int) == b[k].toNat) = true := by simp [hq]
          rw [if_pos hq] at hst
          have Hst := Lib.hid hst; clear hst hq
          go_wp2
          go_quiet (fail)
          go_wp2
          go_roundw
          case rel => exact ⟨k + 1, by omega, by go_num, hE.drN _, by have := Hst.out; omega⟩
          case measure => simp [intOf]; omega
        · have t : ((a[k].toNat : Int) == b[k].toNat) = false := by have := byte_ne hq; simpa using this
          rw [if_neg hq] at hst
          have Hst := Lib.hid hst; clear hst hq
          go_wp2
          go_quiet (fail)
          go_wp2
          go_ret
          exact ⟨ret_int (by have := Hst.out; omega), hE.drN _⟩
      · have he : (k : Int) = comL (toL a) (toL b) := by rw [← hs.out, dropE b k h2]; cases (toL a).drop k <;> simp [comL]
        have He := Lib.hid he; clear he
        have d1 : decide ((k : Int) < a.size) = true := by simp; omega
        have d2 : decide ((k : Int) < b.size) = false := by simp; omega
        go_wp2
        go_quiet (fail)
        go_wp2
        go_ret
        exact ⟨ret_int He.out, hE.drN _⟩
    · have he : (k : Int) = comL (toL a) (toL b) := by rw [← hs.out, dropE a k h1]; simp [comL]
      have He := Lib.hid he; clear he
      have d1 : decide ((k : Int) < a.size) = false := by simp; omega
      go_wp2
      go_quiet (fail)
      go_wp2
      go_ret
      exact ⟨ret_int He.out, hE.drN _⟩

set_option maxHeartbeats 400000 in
theorem compare_any (a b : ByteArray) (w : World) :
    Calls Try.prog 16 #[.string a, .string b] w fun e w' => e = .returned (.int .i64 (cmpL (toL a) (toL b))) ∧ Ext w w' := by
  go_enter Try.func16, Try.ntmps16
  go_wp2_with (go_at_call 41; refine (Try.strings_Compare _ _ _).mono ?_; rintro e w' ⟨rfl, rfl⟩)
  go_ret
  exact ⟨ret_int (cmpL_eq _ _), Ext.rfl' _⟩

set_option maxHeartbeats 400000 in
theorem rcompare_any (a b : ByteArray) (w : World) (ha : a.size ≤ maxLen) (hb : b.size ≤ maxLen) :
    Calls Try.prog 17 #[.string a, .string b] w fun e w' => e = .returned (.int .i64 (cmpL (toL a) (toL b))) ∧ Ext w w' := by
  unfold maxLen at ha hb
  go_enter Try.func17, Try.ntmps17
  go_wp2
  go_loopw [5] (fun i wr => ∃ k : Nat, k ≤ min a.size b.size ∧ i = .int .i64 k ∧ Ext w wr ∧ cmpL ((toL a).drop k) ((toL b).drop k) = cmpL (toL a) (toL b)) (fun i _ => min a.size b.size - (intOf i).toNat)
  case atStart => exact ⟨0, by simp, rfl, Ext.rfl' _, by simp⟩
  case round =>
    obtain ⟨k, hk, rfl, hE, hs0⟩ := hrel
    have hs := Lib.hid hs0; clear hs0
    by_cases h1 : k < a.size
    · by_cases h2 : k < b.size
      · have hst := hs.out
        rw [dropL a k h1, dropL b k h2, cmpL] at hst
        rcases Nat.lt_trichotomy a[k].toNat b[k].toNat with hq | hq | hq
        · have t : decide (a[k].toNat < b[k].toNat) = true := by simp; omega
          rw [if_pos (UInt8.lt_iff_toNat_lt.2 hq)] at hst
          have Hst := Lib.hid hst; clear hst
          go_wp2
          go_quiet (fail)
          go_wp2
          go_ret
          exact ⟨ret_int (by have := Hst.out; omega), hE.drN _⟩
        · have t : decide (a[k].toNat < b[k].toNat) = false := by simp; omega
          have t' : decide (b[k].toNat < a[k].toNat) = false := by simp; omega
          rw [if_neg (fun h => by have := UInt8.lt_iff_toNat_lt.1 h; omega), if_neg (fun h => by have := UInt8.lt_iff_toNat_lt.1 h; omega)] at hst
          have Hst := Lib.hid hst; clear hst
          have Hq := Lib.hid hq; clear hq
          go_wp2
          go_quiet (fail)
          go_wp2
          go_quiet (fail)
          go_wp2
          go_roundw
          case rel => exact ⟨k + 1, by omega, by go_num, by first | exact hE.drN _ | exact (hE.drN _).drN _, Hst.out⟩
          case measure => simp [intOf]; omega
        · have t : decide (a[k].toNat < b[k].toNat) = false := by simp; omega
          have t' : decide (b[k].toNat < a[k].toNat) = true := by simp; omega
          rw [if_neg (fun h => by have := UInt8.lt_iff_toNat_lt.1 h; omega), if_pos (UInt8.lt_iff_toNat_lt.2 hq)] at hst
          have Hst := Lib.hid hst; clear hst
          go_wp2
          go_quiet (fail)
          go_wp2
          go_quiet (fail)
          go_wp2
          go_ret
          exact ⟨ret_int (by have := Hst.out; omega), by first | exact hE.drN _ | exact (hE.drN _).drN _⟩
      · have he : (if (a.size : Int) < b.size then -1 else if (b.size : Int) < a.size then 1 else 0 : Int) = cmpL (toL a) (toL b) := by
          rw [← hs.out, dropE b k h2, dropL a k h1, cmpL, if_neg (by omega), if_pos (by omega)]
        have He := Lib.hid he; clear he
        have t1 : decide ((a.size : Int) < b.size) = false := by simp; omega
        have t2 : decide ((b.size : Int) < a.size) = true := by simp; omega
        go_wp2
        go_ret
        exact ⟨ret_int (by rw [← He.out, if_neg (by omega), if_pos (by omega)]), hE⟩
    · have he : (if (a.size : Int) < b.size then -1 else if (b.size : Int) < a.size then 1 else 0 : Int) = cmpL (toL a) (toL b) := by
        rw [← hs.out, dropE a k h1]
        by_cases h2 : k < b.size
        · rw [dropL b k h2, cmpL, if_pos (by omega)]
        · rw [dropE b k h2, cmpL, if_neg (by omega), if_neg (by omega)]
      have He := Lib.hid he; clear he
      by_cases h2 : k < b.size
      · have t1 : decide ((a.size : Int) < b.size) = true := by simp; omega
        go_wp2
        go_ret
        exact ⟨ret_int (by rw [← He.out, if_pos (by omega)]), hE⟩
      · have t1 : decide ((a.size : Int) < b.size) = false := by simp; omega
        have t2 : decide ((b.size : Int) < a.size) = false := by simp; omega
        go_wp2
        go_ret
        exact ⟨ret_int (by rw [← He.out, if_neg (by omega), if_neg (by omega)]), hE⟩

set_option maxHeartbeats 400000 in
theorem rhex_any (s : ByteArray) (w : World) (hs : s.size ≤ 1000000) :
    Calls Try.prog 13 #[.string s] w fun e w' => e = .returned (.string (ofL (hexL (toL s)))) ∧ Ext w w' := by
  go_enter Try.func13, Try.ntmps13
  go_wp2
  go_loopw [4, 5] (fun o i wr => ∃ k : Nat, ∃ acc : List UInt8, k ≤ s.size ∧ i = .int .i64 k ∧ o = .string (ofL acc) ∧ Ext w wr ∧ acc.length ≤ 2 * k ∧ acc ++ hexL ((toL s).drop k) = hexL (toL s)) (fun _ i _ => s.size - (intOf i).toNat)
  case atStart => exact ⟨0, [], by simp, rfl, rfl, Ext.rfl' _, by simp, by simp⟩
  case round =>
    obtain ⟨k, acc, hk, rfl, rfl, hE, hl, hs0⟩ := hrel
    have hsp := Lib.hid hs0; clear hs0
    by_cases h1 : k < s.size
    · have hb := s[k].toNat_lt
      go_wp2
      go_quiet (fail)
      go_wp2
      go_quiet (fail)
      go_wp2
      go_roundw
      case rel =>
        have hst := hsp.out
        rw [dropL s k h1, hexL] at hst
        exact ⟨k + 1, acc ++ [hexD (s[k].toNat / 16), hexD (s[k].toNat % 16)], by omega, by go_num, by rw [digs_cut _ (by omega), digs_cut _ (by omega), ofL_append, ofL_append]; simp, by first | exact hE.drN _ | exact (hE.drN _).drN _, by simp; omega, by rw [← hst]; simp⟩
      case measure => simp [intOf]; omega
    · go_wp2
      go_ret
      exact ⟨ret_str (by have := hsp.out; rw [dropE s k h1, hexL, List.append_nil] at this; rw [this]), hE⟩

set_option maxHeartbeats 400000 in
theorem hex_any (s : ByteArray) (w : World) (hs : s.size ≤ 1000000) :
    Calls Try.prog 11 #[.string s] w fun e w' => e = .returned (.string (ofL (hexL (toL s)))) ∧ Ext w w' := by
  go_enter Try.func11, Try.ntmps11
  go_wp2_with (at_make; refine wpl_make0 Try.elemU8 _ rfl _ _ rfl (2 * s.size) rfl rfl ?c2 ?c3 ?c4 ?_)
  case c2 => omega
  case c3 => omega
  case c4 => omega
  intro w1 hown hE
  go_wp2
  go_loopw [3, 11] (fun o i wr => ∃ k : Nat, ∃ acc : List UInt8, k ≤ s.size ∧ i = .int .i64 k ∧ Ext w wr ∧ acc.length ≤ 2 * k ∧ wr.ownsRow w.heap.size 5 1 o acc.length (acc.map U8) ∧ acc ++ hexL ((toL s).drop k) = hexL (toL s)) (fun _ i _ => s.size - (intOf i).toNat)
  case atStart => exact ⟨0, [], by simp, rfl, hE, by simp, hown, by simp⟩
  case round =>
    obtain ⟨k, acc, hk, rfl, hE, hl, hown1, hs0⟩ := hrel
    have hsp := Lib.hid hs0; clear hs0
    by_cases h1 : k < s.size
    · have hb := s[k].toNat_lt
      have hand := u8_and15 (x := (s[k].toNat : Int)) (by omega) (by omega)
      go_wp2
      go_region_held3 (fun _ => True) (trivial) (first | (refine step_app Try.elemU8 rfl _ _ rfl (hown1.alloc _).drew 2 rfl rfl rfl (cells_lit _ _ _ _) (by intro u hu; simp at hu; rcases hu with rfl | rfl <;> rfl) (by omega) (by omega) (by have := hE.size; simp; omega) ?_; intro v' w' hown2 hg2))
      all_goals
        go_wp2
        go_roundw
        case rel =>
          have hst := hsp.out
          rw [dropL s k h1, hexL] at hst
          rw [digs_get _ (s[k].toNat / 16) (by omega) (by omega), digs_get _ (s[k].toNat % 16) (by omega) (by omega)] at hown2
          exact ⟨k + 1, acc ++ [hexD (s[k].toNat / 16), hexD (s[k].toNat % 16)], by omega, by go_num, (hE.al _).dr.own hg2 (hown1.alloc _).drew (Nat.le_refl _), by simp; omega, by simpa using hown2, by rw [← hst]; simp⟩
        case measure => simp [intOf]; omega
    · have hcv := Try.str hown1
      go_wp2
      go_ret
      exact ⟨ret_str (by have := hsp.out; rw [dropE s k h1, hexL, List.append_nil] at this; rw [this]), hE⟩
end Go.Proofs.Yteclfeeeaokddaa
