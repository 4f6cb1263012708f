/-
  Cut and Pad of package octet and of its reference, and the comparison of lists of texts, return the named plain functions. Condition: sizes as each contract says.
-/
import Derived.Test.YtmnpbpfeoackiaaDoorOct2
namespace Go.Proofs.YtmnpbpfeoackiaaDoor
open Go.RowKit

set_option maxHeartbeats 400000 in
theorem cut_any (a : ByteArray) (n : Int) (w : World) (ha : a.size ≤ 1000000) :
    Calls Tryd.prog 131 #[.string a, .int .i64 n] w (RetOwn w 9 1 (cutL n.toNat (toL a)).length ((cutL n.toNat (toL a)).map Str)) := by
  by_cases hn : n < 1
  · have h0 : n.toNat = 0 := by omega
    rw [h0, cutL_zero]
    clear h0
    go_enter Tryd.func131, Tryd.ntmps131
    go_wp2
    go_ret
    exact ⟨_, rfl, World.ownsRow_nil _ _ _ _, Ext.rfl' _⟩
  · go_enter Tryd.func131, Tryd.ntmps131
    go_wp2
    go_loopw [0, 5] (fun s o wr => ∃ r : ByteArray, ∃ acc : List (List UInt8), s = .string r ∧ r.size ≤ 1000000 ∧ Ext w wr ∧ acc.length ≤ 1000000 - r.size ∧ wr.ownsRow w.heap.size 9 1 o acc.length (acc.map Str) ∧ acc ++ cutL n.toNat (toL r) = cutL n.toNat (toL a)) (fun s _ _ => strSz s)
    case atStart => exact ⟨a, [], rfl, ha, Ext.rfl' _, by simp, World.ownsRow_nil _ _ _ _, rfl⟩
    case round =>
      obtain ⟨r, acc, rfl, hr, hE, hl, hown, hs0⟩ := hrel
      have hs := Lib.hid hs0; clear hs0
      by_cases h1 : 0 < r.size
      · by_cases h2 : n ≤ r.size
        · have m1 : min n (r.size : Int) = n := by omega
          go_wp2_with (at_builtin; refine wpl_app Tryd.elemStr rfl _ _ rfl hown 1 rfl rfl rfl (by intro u hu; simp at hu; rw [hu]; rfl) (by omega) (by omega) (by have := hE.size; omega) ?_; intro v' w' hown2 hg2)
          have hst := hs.out
          rw [cutL_cons (by omega) (by rw [length_toL]; omega)] at hst
          rw [extract_to] at hown2
          rw [extract_from]
          refine ⟨⟨_, acc ++ [(toL r).take n.toNat], rfl, ?_, hE.own hg2 hown (Nat.le_refl _), ?_, by simpa [Str] using hown2, by rw [toL_ofL, ← hst]; simp⟩, ?_⟩
          · rw [size_ofL, List.length_drop, length_toL]; omega
          · rw [size_ofL, List.length_drop, length_toL]; simp; omega
          · rw [strSz_str, strSz_str, size_ofL, List.length_drop, length_toL]; omega
        · have m1 : min n (r.size : Int) = r.size := by omega
          go_wp2_with (at_builtin; refine wpl_app Tryd.elemStr rfl _ _ rfl hown 1 rfl rfl rfl (by intro u hu; simp at hu; rw [hu]; rfl) (by omega) (by omega) (by have := hE.size; omega) ?_; intro v' w' hown2 hg2)
          have hst := hs.out
          rw [cutL_last (by omega) (by rw [length_toL]; omega) (by rw [length_toL]; omega)] at hst
          rw [show ByteArray.empty = ofL [] from rfl]
          refine ⟨⟨_, acc ++ [toL r], rfl, by simp [size_ofL], hE.own hg2 hown (Nat.le_refl _), ?_, by simpa [Str, ofL_toL] using hown2, by rw [toL_ofL, cutL_nil, ← hst]; simp⟩, ?_⟩
          · rw [size_ofL]; simp; omega
          · rw [strSz_str, strSz_str, size_ofL]; simp; omega
      · have hst := hs.out
        rw [show toL r = [] from List.eq_nil_of_length_eq_zero (by rw [length_toL]; omega), cutL_nil, List.append_nil] at hst
        have HST := Lib.hid hst; clear hst
        go_wp2
        go_ret
        rw [← HST.out]
        exact ⟨_, rfl, hown, hE⟩


set_option maxHeartbeats 400000 in
theorem pad_any (a : ByteArray) (n : Int) (w : World) (ha : a.size ≤ 1000000) :
    Calls Tryd.prog 101 #[.string a, .int .i64 n] w fun e w' => e = .returned (.string (ofL (padL (toL a) n))) ∧ Ext w w' := by
  by_cases h : min n 65536 ≤ a.size
  · have hp : padL (toL a) n = toL a := by unfold padL; rw [length_toL, show (min n 65536).toNat - a.size = 0 by omega]; simp
    rw [hp, ofL_toL]
    clear hp
    go_enter Tryd.func101, Tryd.ntmps101
    go_wp2
    go_ret
    exact ⟨rfl, Ext.rfl' _⟩
  · go_enter Tryd.func101, Tryd.ntmps101
    go_wp2_with fail
    obtain ⟨c, hc⟩ : ∃ c : Nat, min n 65536 - (a.size : Int) = c := ⟨(min n 65536 - (a.size : Int)).toNat, by omega⟩
    have hc2 : c ≤ 65536 := by omega
    rw [hc]
    refine (Tryd.strings_Repeat _ c _ (by omega) (by simp [ByteArray.size]; omega)).mono ?_
    rintro e w' ⟨rfl, hE⟩
    have e1 : (Lib.repeatL (ByteArray.mk #[0]).data.toList c).toArray = (List.replicate c (0 : UInt8)).toArray := by rw [← repeatL_zero c]
    have hp : padL (toL a) n = toL a ++ List.replicate c 0 := by unfold padL; rw [length_toL, show (min n 65536).toNat - a.size = c by omega]
    have hsz : (ByteArray.mk (List.replicate c (0 : UInt8)).toArray).size = c := by simp [ByteArray.size]
    rw [e1]
    have e2 : (ByteArray.mk (List.replicate c (0 : UInt8)).toArray) = ofL (List.replicate c 0) := rfl
    rw [e2] at hsz ⊢
    generalize hz : ofL (List.replicate c 0) = z at *
    have HZ := Lib.hid hz; clear hz e1 e2 hc
    have HP := Lib.hid hp; clear hp
    have hz2 : z.size ≤ 65536 := by omega
    clear hsz
    go_wp2
    go_ret
    exact ⟨ret_str (by rw [HP.out, ← HZ.out]; exact toL_inj (by rw [toL_append, toL_ofL, toL_ofL])), hE⟩

set_option maxRecDepth 100000 in
set_option maxHeartbeats 400000 in
theorem rpad_any (a : ByteArray) (n : Int) (w : World) (ha : a.size ≤ 1000000) :
    Calls Tryd.prog 103 #[.string a, .int .i64 n] w fun e w' => e = .returned (.string (ofL (padL (toL a) n))) ∧ Ext w w' := by
  by_cases h : min n 65536 ≤ a.size
  · have hp : padL (toL a) n = toL a := by unfold padL; rw [length_toL, show (min n 65536).toNat - a.size = 0 by omega]; simp
    rw [hp, ofL_toL]
    clear hp
    by_cases h6 : 65536 < n
    · have h7 : (65536 : Int) ≤ a.size := by omega
      go_enter Tryd.func103, Tryd.ntmps103
      go_wp2
      go_ret
      exact ⟨rfl, Ext.rfl' _⟩
    · have h7 : n ≤ a.size := by omega
      go_enter Tryd.func103, Tryd.ntmps103
      go_wp2
      go_ret
      exact ⟨rfl, Ext.rfl' _⟩
  · obtain ⟨c, hc⟩ : ∃ c : Nat, min n 65536 - (a.size : Int) = c := ⟨(min n 65536 - (a.size : Int)).toNat, by omega⟩
    have hp : padL (toL a) n = toL a ++ List.replicate c 0 := by unfold padL; rw [length_toL, show (min n 65536).toNat - a.size = c by omega]
    have HP := Lib.hid hp; clear hp
    have hc2 : c ≤ 65536 := by omega
    have fin : ∀ z : ByteArray, z = ofL (List.replicate c 0) → a ++ z = ofL (padL (toL a) n) := fun z hz => by rw [HP.out, hz]; exact toL_inj (by rw [toL_append, toL_ofL, toL_ofL])
    have Fin := Lib.hid fin; clear fin
    by_cases h6 : 65536 < n
    · have hc' : (65536 : Int) - a.size = c := by omega
      clear hc
      have HC' := Lib.hid hc'; clear hc'
      have d1 : decide ((65536 : Int) ≤ (a.size : Int)) = false := by simp; omega
      have d2 : IntKind.i64.wrap (65536 - (a.size : Int)) = 65536 - (a.size : Int) := IntWalk.i64_in _ (by omega)
      have d3 : decide ((65536 : Int) < n) = true := by simp; omega
      go_enter Tryd.func103, Tryd.ntmps103
      go_wp2_with (at_make; refine wpl_make Tryd.elemU8 rfl _ rfl _ _ rfl c rfl rfl HC'.out HC'.out (by omega) (by omega) ?_)
      intro w1 hown hE
      have hcv := Tryd.str (l := List.replicate c 0) (by simpa [U8] using hown)
      have hz2 : (ofL (List.replicate c (0 : UInt8))).size ≤ 65536 := by rw [size_ofL]; simp; omega
      generalize hz : ofL (List.replicate c 0) = z at *
      have HZ := Lib.hid hz; clear hz
      go_wp2
      go_ret
      exact ⟨ret_str (Fin.out z rfl), hE⟩
    · have hc' : n - a.size = c := by omega
      clear hc
      go_enter Tryd.func103, Tryd.ntmps103
      go_wp2_with (at_make; refine wpl_make Tryd.elemU8 rfl _ rfl _ _ rfl c rfl rfl rfl rfl (by omega) (by omega) ?_)
      intro w1 hown hE
      have hcv := Tryd.str (l := List.replicate c 0) (by simpa [U8] using hown)
      have hz2 : (ofL (List.replicate c (0 : UInt8))).size ≤ 65536 := by rw [size_ofL]; simp; omega
      generalize hz : ofL (List.replicate c 0) = z at *
      have HZ := Lib.hid hz; clear hz
      go_wp2
      go_ret
      exact ⟨ret_str (Fin.out z rfl), hE⟩

end Go.Proofs.YtmnpbpfeoackiaaDoor
