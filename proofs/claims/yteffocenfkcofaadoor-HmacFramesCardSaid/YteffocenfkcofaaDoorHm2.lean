/-
  Package hmac: the frame of parts, in the program and in the reference. Condition: the frame is at most 1000000 bytes long.
-/
import Derived.Test.YteffocenfkcofaaDoorHm1
import Derived.Test.YteffocenfkcofaaDoorSha12
namespace Go.Proofs.YteffocenfkcofaaDoor
open Go.RowKit

theorem isBuilder_ext {T e : TypeId} {B b : Nat} {bs : List Value} {w w' : World} (h : Lib.IsBuilder T e B b bs w) (hE : Ext w w') : Lib.IsBuilder T e B b bs w' := by
  have key : ∀ p, Lib.BuilderAt T e B b p bs w → Lib.BuilderAt T e B b p bs w' := by
    rintro p ⟨hB, v, hb, hown, hne⟩
    exact ⟨hB, v, (hE.block b (Array.getElem?_eq_some_iff.1 hb).1).trans hb, own_ext hown (fun j _ hj => hE.block j hj), hne⟩
  exact h.elim (fun h => .inl (key _ h)) (fun h => .inr (key _ h))
theorem strCells_ofL (l : List UInt8) : Lib.strCells (ofL l) = Lib.byteCells l := rfl
theorem byteCells_append (a b : List UInt8) : Lib.byteCells a ++ Lib.byteCells b = Lib.byteCells (a ++ b) := by simp [Lib.byteCells]
theorem below_ext {w wr w' : World} (h : Ext w wr) (hB : Below w.heap.size wr w') : Ext w w' := Below.trans h hB
/-- A part written behind. -/
theorem bld_writeL (B b : Nat) (l p : List UInt8) (w : World) (h : Lib.IsBuilder 79 5 B b (Lib.byteCells l) w) (hlen : l.length + p.length ≤ 1000000) (hBw : B ≤ w.heap.size) :
    Calls Tryd.prog 63 #[.pointer (some ⟨b, 0, none⟩), .string (ofL p)] w fun e w' => e = .returned (.tuple #[.int .i64 p.length, .nilIface]) ∧ Lib.IsBuilder 79 5 B b (Lib.byteCells (l ++ p)) w' ∧ Below B w w' := by
  refine (bld_write B b _ (ofL p) w h (by rw [Lib.byteCells_length, size_ofL]; omega) hBw).mono ?_
  rintro e w' ⟨rfl, hb, hB⟩
  rw [strCells_ofL, byteCells_append] at hb
  exact ⟨by rw [size_ofL], .inr hb, hB⟩
theorem take_frame (l : List (List UInt8)) (k : Nat) (h : k < l.length) : frameL (l.take (k + 1)) = (frameL (l.take k) ++ be8 l[k].length) ++ l[k] := by
  rw [List.take_succ_eq_append_getElem h, frameL_snoc, List.append_assoc]
theorem take_frame_le (l : List (List UInt8)) (k : Nat) : (frameL (l.take k)).length ≤ (frameL l).length := by
  have h := frameL_append (l.take k) (l.drop k)
  rw [List.take_append_drop] at h
  rw [h, List.length_append]; omega

set_option maxHeartbeats 2000000 in
theorem frame_any (l : List (List UInt8)) (v : Value) (w : World) (h : Rd w w.heap.size 1 v l.length (l.map Str)) (hlen : (frameL l).length ≤ 1000000) :
    Calls Tryd.prog 42 #[v] w fun e w' => e = .returned (.string (ofL (frameL l))) ∧ Ext w w' := by
  obtain ⟨A, c, rfl, hn, hl, hca⟩ := h
  have Hca := Lib.hid hca; clear hca hl
  have HL := Lib.hid hlen; clear hlen
  go_enter Tryd.func42, Tryd.ntmps42
  go_wp2
  have hb0 := Lib.fresh_isBuilder 79 5 w
  have hE0 := (Ext.rfl' w).al (.cells #[.pointer none, .slice none 0 0] 79)
  go_loopw [8] (fun i wr => ∃ k : Nat, k ≤ l.length ∧ i = .int .i64 k ∧ Ext w wr ∧ Lib.IsBuilder 79 5 w.heap.size w.heap.size (Lib.byteCells (frameL (l.take k))) wr) (fun i _ => l.length - (intOf i).toNat)
  case atStart => exact ⟨0, by omega, rfl, hE0, hb0⟩
  case round =>
    clear hb0 hE0
    obtain ⟨k, hk, rfl, hE, hb⟩ := hrel
    by_cases hlt : k < l.length
    · obtain ⟨b, off, rfl, hbb, hc⟩ := Hca.out (by omega)
      obtain ⟨p, hp⟩ : ∃ p, l[k] = p := ⟨_, rfl⟩
      have f1 : wr.cell? ⟨b, off + k, none⟩ = some (Str p) := ((bcell hE).1 b _ hbb).trans (hc k _ (by simp [List.getElem?_eq_getElem hlt, hp]))
      unfold Str at f1
      clear hc Hca
      have ht := take_frame l k hlt
      have hle := take_frame_le l (k + 1)
      rw [hp] at ht
      rw [ht] at hle
      obtain ⟨O, hO⟩ : ∃ O, frameL (l.take k) = O := ⟨_, rfl⟩
      rw [hO] at hb ht hle
      have h1 : O.length + 8 + p.length ≤ 1000000 := by simp only [List.length_append, length_be8] at hle; have := HL.out; omega
      have HT := Lib.hid ht; clear ht hle hO hp
      go_wp2_with fail
      refine (long_any p.length _ (by omega)).mono ?_
      rintro e w2 ⟨rfl, hE2⟩
      have hb2 := isBuilder_ext hb hE2
      have hE2' := hE.tr hE2
      clear hb hE hE2
      go_wp2_with fail
      refine (bld_writeL _ _ O _ _ hb2 (by rw [length_be8]; omega) (by have := hE2'.size; omega)).mono ?_
      rintro e w3 ⟨rfl, hb3, hB3⟩
      have hE3 := below_ext hE2' hB3
      clear hb2 hE2' hB3
      go_wp2_with fail
      refine (bld_writeL _ _ _ p _ hb3 (by rw [List.length_append, length_be8]; omega) (by have := hE3.size; omega)).mono ?_
      rintro e w4 ⟨rfl, hb4, hB4⟩
      have hE4 := below_ext hE3 hB4
      clear hb3 hE3 hB4
      go_wp2
      go_roundw
      case rel => exact ⟨k + 1, by omega, by go_num, hE4, by rw [HT.out]; exact hb4⟩
      case measure => simp [intOf]; omega
    · rw [List.take_of_length_le (by omega)] at hb
      go_wp2_with fail
      refine (Tryd.Builder_String_any _ _ _ _ hb (by have := hE.size; omega)).mono ?_
      rintro e w2 ⟨rfl, hB⟩
      go_wp2
      go_ret
      exact ⟨rfl, below_ext hE hB⟩

set_option maxRecDepth 100000 in
set_option maxHeartbeats 4000000 in
theorem rframe_any (l : List (List UInt8)) (v : Value) (w : World) (h : Rd w w.heap.size 1 v l.length (l.map Str)) (hlen : (frameL l).length ≤ 1000000) :
    Calls Tryd.prog 45 #[v] w fun e w' => e = .returned (.string (ofL (frameL l))) ∧ Ext w w' := by
  obtain ⟨A, c, rfl, hn, hl, hca⟩ := h
  have Hca := Lib.hid hca; clear hca hl
  have HL := Lib.hid hlen; clear hlen
  go_enter Tryd.func45, Tryd.ntmps45
  go_wp2
  go_loopw [4, 3] (fun i o wr => ∃ k : Nat, k ≤ l.length ∧ i = .int .i64 k ∧ Ext w wr ∧ o = .string (ofL (frameL (l.take k)))) (fun i _ _ => l.length - (intOf i).toNat)
  case atStart => exact ⟨0, by omega, rfl, Ext.rfl' _, rfl⟩
  case round =>
    obtain ⟨k, hk, rfl, hE, rfl⟩ := hrel
    by_cases hlt : k < l.length
    · obtain ⟨b, off, rfl, hbb, hc⟩ := Hca.out (by omega)
      obtain ⟨p, hp⟩ : ∃ p, l[k] = p := ⟨_, rfl⟩
      have f1 : ∀ W, Ext wr W → W.cell? ⟨b, off + k, none⟩ = some (.string (ofL p)) := fun W hW => ((bcell (hE.tr hW)).1 b _ hbb).trans (hc k _ (by simp [List.getElem?_eq_getElem hlt, hp, Str]))
      clear hc Hca
      have ht := take_frame l k hlt
      have hle := take_frame_le l (k + 1)
      rw [hp] at ht
      rw [ht] at hle
      obtain ⟨O, hO⟩ : ∃ O, frameL (l.take k) = O := ⟨_, rfl⟩
      rw [hO] at ht hle ⊢
      have h1 : O.length + 8 + p.length ≤ 1000000 := by simp only [List.length_append, length_be8] at hle; have := HL.out; omega
      have h2 : (ofL O).size = O.length := size_ofL _
      have h3 : (ofL p).size = p.length := size_ofL _
      have h4 : (ofL (be8 p.length)).size = 8 := rfl
      have h5 : (ofL (O ++ be8 p.length)).size = O.length + 8 := by rw [size_ofL, List.length_append, length_be8]
      have a1 : ofL O ++ ofL (be8 p.length) = ofL (O ++ be8 p.length) := ofL_append _ _
      have a2 : ofL (O ++ be8 p.length) ++ ofL p = ofL (O ++ be8 p.length ++ p) := ofL_append _ _
      have HT := Lib.hid ht; have HC := Lib.hid f1; clear ht hle hO hp f1
      go_upto_region 5 with fail
      refine wp_region_tails (fun i v W => match i with
        | 0 => v = .string (ofL O)
        | 1 => v = .slice (some ⟨b, off, none⟩) l.length c
        | 2 => v = .int .i64 k
        | 3 => v = .pointer (some ⟨b, off + k, none⟩)
        | 4 => v = .string (ofL p)
        | 5 => v = .int .i64 p.length
        | 6 => v = .string (ofL (be8 p.length))
        | 7 => v = .string (ofL (O ++ be8 p.length))
        | 8 => v = .slice (some ⟨b, off, none⟩) l.length c
        | 9 => v = .int .i64 k
        | 10 => v = .pointer (some ⟨b, off + k, none⟩)
        | 11 => v = .string (ofL p)
        | 12 => v = .string (ofL (O ++ be8 p.length ++ p))
        | _ => True) 13 (by kernel_rfl) (by kernel_rfl) (by kernel_rfl) (by decide) (by kernel_rfl) (by kernel_rfl) (by kernel_rfl) ?_ ?_ ?_
      · intro i v W1 W2 e1 e2 h
        match i, h with
        | 0, h => exact h
        | 1, h => exact h
        | 2, h => exact h
        | 3, h => exact h
        | 4, h => exact h
        | 5, h => exact h
        | 6, h => exact h
        | 7, h => exact h
        | 8, h => exact h
        | 9, h => exact h
        | 10, h => exact h
        | 11, h => exact h
        | 12, h => exact h
        | (i + 13), h => exact h
      · refine localsR_cons (fun u W hW hd => leaves_val rfl (v := .string (ofL O)) (by go_simp) rfl) ?_
        refine localsR_cons (fun u W hW hd => leaves_val rfl (v := .slice (some ⟨b, off, none⟩) l.length c) (by go_simp) rfl) ?_
        refine localsR_cons (fun u W hW hd => leaves_val rfl (v := .int .i64 k) (by go_simp) rfl) ?_
        refine localsR_cons (fun u W hW hd => ?_) ?_
        · have h1 : u 1 = _ := hd 1 (by kernel_rfl)
          have h2 : u 2 = _ := hd 2 (by kernel_rfl)
          exact leaves_val rfl (v := .pointer (some ⟨b, off + k, none⟩)) (by go_simp) rfl
        refine localsR_cons (fun u W hW hd => ?_) ?_
        · have h3 : u 3 = _ := hd 3 (by kernel_rfl)
          have hc := HC.out W hW
          exact leaves_val rfl (v := .string (ofL p)) (by go_simp) rfl
        refine localsR_cons (fun u W hW hd => ?_) ?_
        · have h4 : u 4 = _ := hd 4 (by kernel_rfl)
          exact leaves_val rfl (v := .int .i64 p.length) (by go_simp) rfl
        refine localsR_cons (fun u W hW hd => ?_) ?_
        · have h5 : u 5 = _ := hd 5 (by kernel_rfl)
          exact leaves_call rfl (f := 70) (args := #[.int .i64 p.length]) (by go_simp) ((rlong_any p.length W (by omega)).mono (by rintro e9 W9 ⟨rfl, h9⟩; exact ⟨_, rfl, h9, rfl⟩))
        refine localsR_cons (fun u W hW hd => ?_) ?_
        · have h0 : u 0 = _ := hd 0 (by kernel_rfl)
          have h6 : u 6 = _ := hd 6 (by kernel_rfl)
          exact leaves_val rfl (v := .string (ofL (O ++ be8 p.length))) (by go_simp; omega) rfl
        refine localsR_cons (fun u W hW hd => leaves_val rfl (v := .slice (some ⟨b, off, none⟩) l.length c) (by go_simp) rfl) ?_
        refine localsR_cons (fun u W hW hd => leaves_val rfl (v := .int .i64 k) (by go_simp) rfl) ?_
        refine localsR_cons (fun u W hW hd => ?_) ?_
        · have h8 : u 8 = _ := hd 8 (by kernel_rfl)
          have h9 : u 9 = _ := hd 9 (by kernel_rfl)
          exact leaves_val rfl (v := .pointer (some ⟨b, off + k, none⟩)) (by go_simp) rfl
        refine localsR_cons (fun u W hW hd => ?_) ?_
        · have h10 : u 10 = _ := hd 10 (by kernel_rfl)
          have hc := HC.out W hW
          exact leaves_val rfl (v := .string (ofL p)) (by go_simp) rfl
        refine localsR_cons (fun u W hW hd => ?_) localsR_nil
        · have h7 : u 7 = _ := hd 7 (by kernel_rfl)
          have h11 : u 11 = _ := hd 11 (by kernel_rfl)
          exact leaves_val rfl (v := .string (ofL (O ++ be8 p.length ++ p))) (by go_simp; omega) rfl
      · intro u W hW hV
        have h12 : u 12 = .string (ofL (O ++ be8 p.length ++ p)) := hV 12 (by decide)
        clear hV a1 a2 h2 h3 h4 h5 HC
        have hEW := hE.tr hW
        rw [← HT.out] at h12
        go_wp2
        go_roundw
        case rel => exact ⟨k + 1, by omega, by go_num, hEW, rfl⟩
        case measure => simp [intOf]; omega
    · rw [List.take_of_length_le (by omega)]
      go_wp2
      go_ret
      exact ⟨rfl, hE⟩
end Go.Proofs.YteffocenfkcofaaDoor
