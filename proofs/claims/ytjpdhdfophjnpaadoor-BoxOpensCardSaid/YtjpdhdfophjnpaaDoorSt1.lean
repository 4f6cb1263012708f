/-
  Package stream in plain words; the number of a block, a block of a stream, in the program and in the reference. Conditions: the package's table holds the constants; texts of at most 100000 bytes.
-/
import Derived.Test.YtjpdhdfophjnpaaDoorMgF
namespace Go.Proofs.YtjpdhdfophjnpaaDoor
open Go.RowKit

def streamS : List UInt8 := [115, 116, 114, 101, 97, 109]
def blockP (n : List UInt8) (i : Nat) : List (List UInt8) := [streamS, n, be8 i]
def blockL (k n : List UInt8) (i : Nat) : List UInt8 := partsL k (blockP n i)
def streamC (k n : List UInt8) : Nat → List UInt8
  | 0 => []
  | c + 1 => streamC k n c ++ blockL k n c
def takeL (k n : List UInt8) (m : Nat) : List UInt8 := (streamC k n m).take m
def smixL (k n t : List UInt8) : List UInt8 := xorL t (takeL k n t.length)
theorem length_blockL (k n : List UInt8) (i : Nat) : (blockL k n i).length = 32 := length_partsL _ _
theorem length_streamC (k n : List UInt8) : ∀ c, (streamC k n c).length = 32 * c
  | 0 => rfl
  | c + 1 => by rw [streamC, List.length_append, length_streamC k n c, length_blockL]; omega
theorem streamC_take (k n : List UInt8) (c : Nat) : ∀ d m, m ≤ 32 * c → (streamC k n (c + d)).take m = (streamC k n c).take m
  | 0, m, _ => rfl
  | d + 1, m, h => by
    rw [show c + (d + 1) = (c + d) + 1 by omega, streamC, List.take_append_of_le_length (by rw [length_streamC]; omega), streamC_take k n c d m h]
theorem streamC_takeL (k n : List UInt8) (c m : Nat) (h : m ≤ 32 * c) : (streamC k n c).take m = takeL k n m := by
  unfold takeL
  rcases Nat.le_total c m with h1 | h1
  · obtain ⟨d, rfl⟩ := Nat.exists_eq_add_of_le h1
    exact (streamC_take k n c d _ h).symm
  · obtain ⟨d, rfl⟩ := Nat.exists_eq_add_of_le h1
    exact streamC_take k n m d m (by omega)
theorem length_takeL (k n : List UInt8) (m : Nat) : (takeL k n m).length = m := by unfold takeL; rw [List.length_take, length_streamC]; omega
theorem takeL_take (k n : List UInt8) (a m : Nat) (h : a ≤ m) : (takeL k n m).take a = takeL k n a := by
  unfold takeL
  rw [List.take_take, Nat.min_eq_left h]
  exact streamC_takeL k n m a (by omega)
theorem length_smixL (k n t : List UInt8) : (smixL k n t).length = t.length := by unfold smixL; rw [length_xorL, length_takeL]; omega
theorem smix_mix (k n t : List UInt8) : smixL k n (smixL k n t) = t := by
  have h := length_smixL k n t
  unfold smixL at h ⊢
  rw [h, xorL_self, length_takeL, Nat.min_self, List.take_length]
theorem smix_take (k n t : List UInt8) (a : Nat) (h : a ≤ t.length) : smixL k n (t.take a) = (smixL k n t).take a := by
  unfold smixL xorL
  rw [List.length_take, Nat.min_eq_left h, ← takeL_take k n a t.length h, List.take_zipWith]
theorem len_block (n : List UInt8) (i : Nat) : (frameL (blockP n i)).length = n.length + 38 := by simp [blockP, frameL, length_be8, streamS]; omega

set_option maxRecDepth 100000 in
set_option maxHeartbeats 2000000 in
theorem number_st (n : Nat) (w : World) (_hn : n ≤ 9223372036854775807) : Calls Tryd.prog 119 #[.int .i64 n] w fun e w' => e = .returned (.string (ofL (be8 n))) ∧ Ext w w' := by
  go_enter Tryd.func119, Tryd.ntmps119
  go_wp2
  go_loopw [5] (fun x wr => ∃ k : Nat, k ≤ 8 ∧ x = .int .i64 k ∧ Ext w wr ∧ Arr wr w.heap.size 125 ((List.replicate (8 - k) 0 ++ beK n k).map U8)) (fun x _ => 8 - (intOf x).toNat)
  case atStart => exact ⟨0, by omega, rfl, (Ext.rfl' _).al _, Arr.new _ _ _⟩
  case round =>
    obtain ⟨k, hk, rfl, hE, hA⟩ := hrel
    by_cases hlt : k < 8
    · have hc : ∃ u, wr.cell? ⟨w.heap.size, 7 - k, none⟩ = some u := ⟨_, (hA.cell _).trans (List.getElem?_eq_getElem (by simp [length_beK]; omega))⟩
      obtain ⟨u, hc⟩ := hc
      have hf := hA.frozen (7 - k)
      go_wp2
      rw [U8_be n k]
      refine ⟨⟨k + 1, by omega, by go_num, hE.st (by simp) _, ?_⟩, by simp [intOf]; omega⟩
      rw [← be_set n k hlt]
      exact hA.set (7 - k) _
    · obtain rfl : k = 8 := by omega
      have hcv := Tryd.strArr8 (w := wr) (g := w.heap.size) (be8 n) rfl (by simpa [be8_beK] using hA)
      go_wp2
      go_ret
      exact ⟨rfl, hE⟩

theorem rnumber_st (n : Nat) (w : World) (hn : n ≤ 9223372036854775807) : Calls Tryd.prog 117 #[.int .i64 n] w fun e w' => e = .returned (.string (ofL (be8 n))) ∧ Ext w w' := by
  go_enter Tryd.func117, Tryd.ntmps117
  go_wp2
  go_loopw [4, 3, 0] (fun i o x wr => ∃ k : Nat, k ≤ 8 ∧ i = .int .i64 k ∧ o = .string (ofL (beK n k)) ∧ x = .int .i64 ((n / 256 ^ k : Nat) : Int) ∧ Ext w wr) (fun i _ _ _ => 8 - (intOf i).toNat)
  case atStart => exact ⟨0, by omega, rfl, rfl, by simp, Ext.rfl' _⟩
  case round =>
    obtain ⟨k, hk, rfl, rfl, rfl, hE⟩ := hrel
    by_cases hlt : k < 8
    · obtain ⟨m, hm⟩ : ∃ m, n / 256 ^ k = m := ⟨_, rfl⟩
      have hm2 : n / 256 ^ (k + 1) = m / 256 := by rw [Nat.pow_succ, ← Nat.div_div_eq_div_mul, hm]
      have hml : m ≤ 9223372036854775807 := by rw [← hm]; exact Nat.le_trans (Nat.div_le_self _ _) hn
      have hsz : (ofL (beK n k)).size = k := by rw [size_ofL, length_beK]
      have happ : ofL [byteOf ((m : Int) % 256)] ++ ofL (beK n k) = ofL (beK n (k + 1)) := by
        rw [ofL_append, beK, hm]
        congr 1
        show byteOf ((m : Int) % 256) :: beK n k = _
        congr 1
        rw [show (m : Int) % 256 = ((m % 256 : Nat) : Int) by omega, byteOf_nat _ (by omega)]
      rw [hm]
      have HM := Lib.hid hm; have HM2 := Lib.hid hm2; have HA := Lib.hid happ
      clear hm hm2 happ
      go_wp2_with ((with_reducible refine (rbyte_any _ _).mono ?_); rintro e w2 ⟨rfl, hE2⟩)
      go_roundw
      case rel => exact ⟨k + 1, by omega, by go_num, by rw [HA.out], by rw [HM2.out]; go_num, hE.tr hE2⟩
      case measure => simp [intOf]; omega
    · go_wp2
      go_ret
      obtain rfl : k = 8 := by omega
      exact ⟨ret_str (by rw [be8_beK]), hE⟩

theorem stblock_any (k n : List UInt8) (i : Nat) (w : World) (hT : Tab w) (hk : k.length ≤ 100000) (hn : n.length ≤ 100000) (hi : i ≤ 9223372036854775807) : Calls Tryd.prog 110 #[.string (ofL k), .string (ofL n), .int .i64 i] w fun e w' => e = .returned (.string (ofL (blockL k n i))) ∧ Ext w w' := by
  obtain ⟨B, hB⟩ : ∃ B, be8 i = B := ⟨_, rfl⟩
  have cN := Kp.mk (show ∀ W, Calls Tryd.prog 119 #[.int .i64 i] W fun e w' => e = .returned (.string (ofL B)) ∧ Ext W w' from fun W => by rw [← hB]; exact number_st i W hi)
  have c := Kp.mk (show ∀ W, Tab W → _ from fun W h => parts_lit k (blockP n i) #[.string ⟨#[115, 116, 114, 101, 97, 109]⟩, .string (ofL n), .string (ofL B)] (by rw [← hB]; rfl) 3 rfl W h (by omega) (by rw [len_block]; omega) (by omega))
  obtain ⟨X, hX⟩ : ∃ X, blockL k n i = X := ⟨_, rfl⟩
  rw [show partsL k (blockP n i) = X from hX] at c
  rw [hX]
  clear hX hB
  go_enter Tryd.func110, Tryd.ntmps110
  go_wp2_with fail
  refine (cN.out _).mono ?_
  rintro e w1 ⟨rfl, E1⟩
  go_wp2_with fail
  refine (c.out _ (hT.ext E1)).mono ?_
  rintro e w2 ⟨rfl, E2⟩
  go_wp2
  go_ret
  exact ⟨rfl, E1.tr E2⟩
theorem rparts_lit (k : List UInt8) (l : List (List UInt8)) (cs : Array Value) (hcs : cs.toList = l.map Str) (n : Nat) (hn : l.length = n) (w : World) (hk : k.length ≤ 800000) (hl : (frameL l).length ≤ 800000) (hm : n ≤ 1000) (g : Nat := w.heap.size) (hg : w.heap.size = g := by rfl) :
    Calls Tryd.prog 45 #[.string (ofL k), .slice (some ⟨g, 0, none⟩) n n] (w.alloc (.cells cs 9)) fun e w' => e = .returned (.string (ofL (partsL k l))) ∧ Ext w w' := by
  subst hn hg
  have hsz : cs.size = l.length := by rw [← Array.length_toList, hcs, List.length_map]
  have h := rd_lit w 9 cs l.length hsz (by unfold maxLen; omega)
  rw [hcs] at h
  refine (rparts_any k l _ _ hk h hl).mono ?_
  rintro e w' ⟨he, hE⟩
  exact ⟨he, ((Ext.rfl' w).al _).tr hE⟩
theorem rstblock_any (k n : List UInt8) (i : Nat) (w : World) (hk : k.length ≤ 100000) (hn : n.length ≤ 100000) (hi : i ≤ 9223372036854775807) : Calls Tryd.prog 103 #[.string (ofL k), .string (ofL n), .int .i64 i] w fun e w' => e = .returned (.string (ofL (blockL k n i))) ∧ Ext w w' := by
  obtain ⟨B, hB⟩ : ∃ B, be8 i = B := ⟨_, rfl⟩
  have cN := Kp.mk (show ∀ W, Calls Tryd.prog 117 #[.int .i64 i] W fun e w' => e = .returned (.string (ofL B)) ∧ Ext W w' from fun W => by rw [← hB]; exact rnumber_st i W hi)
  have c := Kp.mk (show ∀ W : World, _ from fun W => rparts_lit k (blockP n i) #[.string ⟨#[115, 116, 114, 101, 97, 109]⟩, .string (ofL n), .string (ofL B)] (by rw [← hB]; rfl) 3 rfl W (by omega) (by rw [len_block]; omega) (by omega))
  obtain ⟨X, hX⟩ : ∃ X, blockL k n i = X := ⟨_, rfl⟩
  rw [show partsL k (blockP n i) = X from hX] at c
  rw [hX]
  clear hX hB
  go_enter Tryd.func103, Tryd.ntmps103
  go_wp2_with fail
  refine (cN.out _).mono ?_
  rintro e w1 ⟨rfl, E1⟩
  go_wp2_with fail
  refine (c.out _).mono ?_
  rintro e w2 ⟨rfl, E2⟩
  go_wp2
  go_ret
  exact ⟨rfl, E1.tr E2⟩
theorem stblock_neg (k n : ByteArray) (i : Int) (w : World) (hi : i < 0) : Calls Tryd.prog 110 #[.string k, .string n, .int .i64 i] w fun e w' => e = .returned (.string ⟨#[]⟩) ∧ Ext w w' := by
  go_enter Tryd.func110, Tryd.ntmps110
  go_wp2
  go_ret
  exact ⟨rfl, Ext.rfl' _⟩
theorem rstblock_neg (k n : ByteArray) (i : Int) (w : World) (hi : i < 0) : Calls Tryd.prog 103 #[.string k, .string n, .int .i64 i] w fun e w' => e = .returned (.string ⟨#[]⟩) ∧ Ext w w' := by
  go_enter Tryd.func103, Tryd.ntmps103
  go_wp2
  go_ret
  exact ⟨rfl, Ext.rfl' _⟩
end Go.Proofs.YtjpdhdfophjnpaaDoor
