/-
  Cut and Pad of package octet and of its reference, and the comparison of lists of texts, return the named plain functions. Condition: sizes as each contract says.
-/
import Derived.Test.YtjpcedgonjmchaaOct2
namespace Go.Proofs.Ytjpcedgonjmchaa
open Go.RowKit



set_option maxHeartbeats 400000 in
theorem pad_any (a : ByteArray) (n : Int) (w : World) (ha : a.size ≤ 1000000) :
    Calls Try.prog 43 #[.string a, .int .i64 n] w fun e w' => e = .returned (.string (ofL (padL (toL a) n))) ∧ Ext w w' := by
  by_cases h : min n 65536 ≤ a.size
  · have hp : padL (toL a) n = toL a := by unfold padL; rw [length_toL, show (min n 65536).toNat - a.size = 0 by omega]; simp
    rw [hp, ofL_toL]
    clear hp
    go_enter Try.func43, Try.ntmps43
    go_wp2
    go_ret
    exact ⟨rfl, Ext.rfl' _⟩
  · go_enter Try.func43, Try.ntmps43
    go_wp2_with fail
    obtain ⟨c, hc⟩ : ∃ c : Nat, min n 65536 - (a.size : Int) = c := ⟨(min n 65536 - (a.size : Int)).toNat, by omega⟩
    have hc2 : c ≤ 65536 := by omega
    rw [hc]
    refine (Try.strings_Repeat _ c _ (by omega) (by simp [ByteArray.size]; omega)).mono ?_
    rintro e w' ⟨rfl, hE⟩
    have e1 : (Lib.repeatL (ByteArray.mk #[0]).data.toList c).toArray = (List.replicate c (0 : UInt8)).toArray := by rw [← repeatL_zero c]
    have hp : padL (toL a) n = toL a ++ List.replicate c 0 := by unfold padL; rw [length_toL, show (min n 65536).toNat - a.size = c by omega]
    have hsz : (ByteArray.mk (List.replicate c (0 : UInt8)).toArray).size = c := by simp [ByteArray.size]
    rw [e1]
    have e2 : (ByteArray.mk (List.replicate c (0 : UInt8)).toArray) = ofL (List.replicate c 0) := rfl
    rw [e2] at hsz ⊢
    generalize hz : ofL (List.replicate c 0) = z at *
    have HZ := Lib.hid hz; clear hz e1 e2 hc
    have HP := Lib.hid hp; clear hp
    have hz2 : z.size ≤ 65536 := by omega
    clear hsz
    go_wp2
    go_ret
    exact ⟨ret_str (by rw [HP.out, ← HZ.out]; exact toL_inj (by rw [toL_append, toL_ofL, toL_ofL])), hE⟩

set_option maxRecDepth 100000 in
set_option maxHeartbeats 400000 in
theorem rpad_any (a : ByteArray) (n : Int) (w : World) (ha : a.size ≤ 1000000) :
    Calls Try.prog 45 #[.string a, .int .i64 n] w fun e w' => e = .returned (.string (ofL (padL (toL a) n))) ∧ Ext w w' := by
  by_cases h : min n 65536 ≤ a.size
  · have hp : padL (toL a) n = toL a := by unfold padL; rw [length_toL, show (min n 65536).toNat - a.size = 0 by omega]; simp
    rw [hp, ofL_toL]
    clear hp
    by_cases h6 : 65536 < n
    · have h7 : (65536 : Int) ≤ a.size := by omega
      go_enter Try.func45, Try.ntmps45
      go_wp2
      go_ret
      exact ⟨rfl, Ext.rfl' _⟩
    · have h7 : n ≤ a.size := by omega
      go_enter Try.func45, Try.ntmps45
      go_wp2
      go_ret
      exact ⟨rfl, Ext.rfl' _⟩
  · obtain ⟨c, hc⟩ : ∃ c : Nat, min n 65536 - (a.size : Int) = c := ⟨(min n 65536 - (a.size : Int)).toNat, by omega⟩
    have hp : padL (toL a) n = toL a ++ List.replicate c 0 := by unfold padL; rw [length_toL, show (min n 65536).toNat - a.size = c by omega]
    have HP := Lib.hid hp; clear hp
    have hc2 : c ≤ 65536 := by omega
    have fin : ∀ z : ByteArray, z = ofL (List.replicate c 0) → a ++ z = ofL (padL (toL a) n) := fun z hz => by rw [HP.out, hz]; exact toL_inj (by rw [toL_append, toL_ofL, toL_ofL])
    have Fin := Lib.hid fin; clear fin
    by_cases h6 : 65536 < n
    · have hc' : (65536 : Int) - a.size = c := by omega
      clear hc
      have HC' := Lib.hid hc'; clear hc'
      have d1 : decide ((65536 : Int) ≤ (a.size : Int)) = false := by simp; omega
      have d2 : IntKind.i64.wrap (65536 - (a.size : Int)) = 65536 - (a.size : Int) := IntWalk.i64_in _ (by omega)
      have d3 : decide ((65536 : Int) < n) = true := by simp; omega
      go_enter Try.func45, Try.ntmps45
      go_wp2_with (at_make; refine wpl_make Try.elemU8 rfl _ rfl _ _ rfl c rfl rfl HC'.out HC'.out (by omega) (by omega) ?_)
      intro w1 hown hE
      have hcv := Try.str (l := List.replicate c 0) (by simpa [U8] using hown)
      have hz2 : (ofL (List.replicate c (0 : UInt8))).size ≤ 65536 := by rw [size_ofL]; simp; omega
      generalize hz : ofL (List.replicate c 0) = z at *
      have HZ := Lib.hid hz; clear hz
      go_wp2
      go_ret
      exact ⟨ret_str (Fin.out z rfl), hE⟩
    · have hc' : n - a.size = c := by omega
      clear hc
      go_enter Try.func45, Try.ntmps45
      go_wp2_with (at_make; refine wpl_make Try.elemU8 rfl _ rfl _ _ rfl c rfl rfl rfl rfl (by omega) (by omega) ?_)
      intro w1 hown hE
      have hcv := Try.str (l := List.replicate c 0) (by simpa [U8] using hown)
      have hz2 : (ofL (List.replicate c (0 : UInt8))).size ≤ 65536 := by rw [size_ofL]; simp; omega
      generalize hz : ofL (List.replicate c 0) = z at *
      have HZ := Lib.hid hz; clear hz
      go_wp2
      go_ret
      exact ⟨ret_str (Fin.out z rfl), hE⟩

end Go.Proofs.Ytjpcedgonjmchaa
