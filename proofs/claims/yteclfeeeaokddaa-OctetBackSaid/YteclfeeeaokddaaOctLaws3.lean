/-
  The law OctetBack returns true at every input. No condition but the reach of a string.
-/
import Derived.Test.YteclfeeeaokddaaOctLaws
namespace Go.Proofs.Yteclfeeeaokddaa
open Go.RowKit

theorem tailfacts (a b : ByteArray) : ∃ x : ByteArray, x = ofL ((toL a).take (min a.size b.size)) ∧ ((x.size : Int) == min (a.size : Int) b.size) = true ∧ x.size ≤ a.size ∧ (toL x == toL (a.extract 0 x.size)) = true := by
  refine ⟨_, rfl, ?_, ?_, ?_⟩
  · rw [size_ofL, List.length_take, length_toL]; simp; omega
  · rw [size_ofL, List.length_take, length_toL]; omega
  · rw [extract_to, toL_ofL, toL_ofL, size_ofL, List.length_take, length_toL]
    rw [show min (min a.size b.size) a.size = min a.size b.size by omega]
    simp

theorem flatten_step (L : List (List UInt8)) (k : Nat) (h : k < L.length) : (L.take (k + 1)).flatten = (L.take k).flatten ++ L[k] := by
  rw [List.take_succ_eq_append_getElem h, List.flatten_append, List.flatten_cons, List.flatten_nil, List.append_nil]
theorem flatten_le (L : List (List UInt8)) (k : Nat) : (L.take k).flatten.length ≤ L.flatten.length := by
  conv => rhs; rw [← List.take_append_drop k L]
  rw [List.flatten_append, List.length_append]; omega
theorem flatten_get_le (L : List (List UInt8)) (k : Nat) (h : k < L.length) : (L.take k).flatten.length + L[k].length ≤ L.flatten.length := by
  have := flatten_le L (k + 1)
  rw [flatten_step L k h] at this
  simpa using this

set_option maxHeartbeats 1000000 in
theorem octetBack_walk (a b : ByteArray) (n : Int) (w : World) (ha : a.size ≤ maxLen) (hb : b.size ≤ maxLen) : Calls Try.prog 4 #[.string a, .string b, .int .i64 n] w fun e w' => e = .returned (.bool true) ∧ Ext w w' := by
  by_cases h1 : a.size ≤ 2000
  · by_cases h2 : b.size ≤ 2000
    · have d1 : decide ((2000 : Int) < a.size) = false := by simp; omega
      have d2 : decide ((2000 : Int) < b.size) = false := by simp; omega
      have hx1 : (ofL (xorL (toL a) (toL b))).size ≤ 1000000 := by rw [size_ofL, length_xorL, length_toL]; omega
      have hx2 : xorL (toL (ofL (xorL (toL a) (toL b)))) (toL b) = (toL a).take (min a.size b.size) := by rw [toL_ofL, xorL_self, length_toL, length_toL]
      have hx3 : xorL (toL b) (toL a) = xorL (toL a) (toL b) := xorL_comm _ _
      by_cases hn : n < 1
      · have h0 : n.toNat = 0 := by omega
        have dn : decide ((1 : Int) ≤ n) = false := by simp; omega
        go_enter Try.func4, Try.ntmps4
        go_wp2_with fail
        refine (cut_any _ _ _ (by omega)).mono ?_
        rintro e w1 ⟨v1, rfl, ho1, hE1⟩
        rw [h0, cutL_zero] at ho1
        obtain ⟨A, c, rfl, -, -, -⟩ := Rd.own ho1 (by decide)
        clear ho1 h0
        go_wp2
        refine wp_loop_rounds 1 ?_
        rw [rounds_succ]
        go_wp2_with fail
        refine (xor_any _ _ _ (by omega) (by omega)).mono ?_
        rintro e w2 ⟨rfl, hE2⟩
        go_wp2_with fail
        refine (xor_any _ _ _ hx1 (by omega)).mono ?_
        rintro e w3 ⟨rfl, hE3⟩
        rw [hx2]
        obtain ⟨x, hx, q1, q2, q3⟩ := tailfacts a b
        rw [← hx]
        clear hx
        go_wp2_with fail
        refine (xor_any _ _ _ (by omega) (by omega)).mono ?_
        rintro e w4 ⟨rfl, hE4⟩
        go_wp2_with fail
        refine (xor_any _ _ _ (by omega) (by omega)).mono ?_
        rintro e w5 ⟨rfl, hE5⟩
        rw [hx3]
        go_wp2_with fail
        refine (works02 _).mono ?_
        rintro e w6 ⟨rfl, hE6⟩
        go_wp2
        go_ret
        exact ⟨rfl, ((((((hE1).tr hE2).tr hE3).tr hE4).tr hE5).tr hE6)⟩
      · have dn : decide ((1 : Int) ≤ n) = true := by simp; omega
        have dn' : decide (n < (1 : Int)) = false := by simp; omega
        obtain ⟨m, rfl⟩ := Int.eq_ofNat_of_zero_le (show 0 ≤ n by omega)
        obtain ⟨g1, g2⟩ := cutL_good (n := m) (by omega) (toL a)
        go_enter Try.func4, Try.ntmps4
        go_wp2_with fail
        refine (cut_any _ _ _ (by omega)).mono ?_
        rintro e w1 ⟨v1, rfl, ho1, hE1⟩
        rw [Int.toNat_natCast] at ho1
        have r1 := Rd.own ho1 (by decide)
        clear ho1
        generalize hL : cutL m (toL a) = L at *
        clear hL
        obtain ⟨A, c, rfl, hn1, -, hc⟩ := r1
        have G1 := Lib.hid g1; clear g1
        have G2 := Lib.hid g2; clear g2
        have Hc := Lib.hid hc; clear hc
        go_wp2
        go_loopw [8, 9] (fun s i wr => ∃ k : Nat, ∃ acc : List UInt8, k ≤ L.length ∧ i = .int .i64 k ∧ Ext w1 wr ∧ s = .string (ofL acc) ∧ acc = (L.take k).flatten) (fun _ i _ => L.length - (intOf i).toNat)
        case atStart => exact ⟨0, [], by simp, rfl, Ext.rfl' _, rfl, rfl⟩
        case round =>
          obtain ⟨k, acc, hk, rfl, hE, rfl, hacc0⟩ := hrel
          have hacc := Lib.hid hacc0; clear hacc0
          by_cases hlt : k < L.length
          · obtain ⟨bb, off, rfl, hbb, hc⟩ := Hc.out (by omega)
            have f1 : wr.cell? ⟨bb, off + k, none⟩ = some (.string (ofL L[k])) := ((bcell hE).1 bb _ hbb).trans (hc k _ (by simp [List.getElem?_eq_getElem hlt, Str]))
            clear hc Hc
            have p1 := (G2.out k hlt).1
            have p2 := (G2.out k hlt).2.1
            have p3 := Lib.hid (G2.out k hlt).2.2
            have t1 : (L[k] == []) = false := by
              cases hq : L[k] with
              | nil => rw [hq] at p1; simp at p1
              | cons x y => rfl
            have t2 : decide (m < L[k].length) = false := by simp; omega
            have l1 := flatten_get_le L k hlt
            have l2 := congrArg List.length G1.out
            rw [length_toL] at l2
            rw [l2, ← hacc.out] at l1
            clear l2
            by_cases hlast : k + 1 < L.length
            · have t3 := p3.out hlast
              have t4 : ((L[k].length : Int) != (m : Int)) = false := by simp; omega
              have t5 : (L[k].length != m) = false := by simp; omega
              have t6 : decide ((k : Int) + 1 < L.length) = true := by simp; omega
              have T3 := Lib.hid t3; clear t3
              go_wp2
              exact ⟨⟨k + 1, acc ++ L[k], by omega, by go_num, hE, by rw [ofL_append], by rw [hacc.out, flatten_step L k hlt]⟩, by simp [intOf]; omega⟩
            · have t6 : decide ((k : Int) + 1 < L.length) = false := by simp; omega
              go_wp2
              exact ⟨⟨k + 1, acc ++ L[k], by omega, by go_num, hE, by rw [ofL_append], by rw [hacc.out, flatten_step L k hlt]⟩, by simp [intOf]; omega⟩
          · have hs : acc = toL a := by rw [hacc.out, List.take_of_length_le (by omega)]; exact G1.out
            rw [hs, ofL_toL]
            have t7 : (toL a == toL a) = true := by simp
            clear hs
            go_wp2_with fail
            refine (xor_any _ _ _ (by omega) (by omega)).mono ?_
            rintro e w2 ⟨rfl, hE2⟩
            go_wp2_with fail
            refine (xor_any _ _ _ hx1 (by omega)).mono ?_
            rintro e w3 ⟨rfl, hE3⟩
            rw [hx2]
            obtain ⟨x, hx, q1, q2, q3⟩ := tailfacts a b
            rw [← hx]
            clear hx
            go_wp2_with fail
            refine (xor_any _ _ _ (by omega) (by omega)).mono ?_
            rintro e w4 ⟨rfl, hE4⟩
            go_wp2_with fail
            refine (xor_any _ _ _ (by omega) (by omega)).mono ?_
            rintro e w5 ⟨rfl, hE5⟩
            rw [hx3]
            go_wp2_with fail
            refine (works02 _).mono ?_
            rintro e w6 ⟨rfl, hE6⟩
            go_wp2
            go_ret
            exact ⟨rfl, ((((((hE1.tr hE).tr hE2).tr hE3).tr hE4).tr hE5).tr hE6)⟩
    · have d1 : decide ((2000 : Int) < a.size) = false := by simp; omega
      have d2 : decide ((2000 : Int) < b.size) = true := by simp; omega
      go_enter Try.func4, Try.ntmps4
      go_wp2_with (go_at_call 10; refine (works02 _).mono ?_; rintro e w6 ⟨rfl, hE6⟩)
      go_ret
      exact ⟨rfl, hE6⟩
  · have d1 : decide ((2000 : Int) < a.size) = true := by simp; omega
    go_enter Try.func4, Try.ntmps4
    go_wp2_with (go_at_call 10; refine (works02 _).mono ?_; rintro e w6 ⟨rfl, hE6⟩)
    go_ret
    exact ⟨rfl, hE6⟩
end Go.Proofs.Yteclfeeeaokddaa
