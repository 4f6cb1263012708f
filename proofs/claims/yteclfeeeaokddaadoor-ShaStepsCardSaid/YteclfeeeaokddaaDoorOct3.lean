/-
  Cut and Pad of package octet and of its reference, and the comparison of lists of texts, return the named plain functions. Condition: sizes as each contract says.
-/
import Derived.Test.YteclfeeeaokddaaDoorOct2
namespace Go.Proofs.YteclfeeeaokddaaDoor
open Go.RowKit

set_option maxHeartbeats 400000 in
theorem cut_any (a : ByteArray) (n : Int) (w : World) (ha : a.size ≤ 1000000) :
    Calls Tryd.prog 30 #[.string a, .int .i64 n] w (RetOwn w 9 1 (cutL n.toNat (toL a)).length ((cutL n.toNat (toL a)).map Str)) := by
  by_cases hn : n < 1
  · have h0 : n.toNat = 0 := by omega
    rw [h0, cutL_zero]
    clear h0
    go_enter Tryd.func30, Tryd.ntmps30
    go_wp2
    go_ret
    exact ⟨_, rfl, World.ownsRow_nil _ _ _ _, Ext.rfl' _⟩
  · go_enter Tryd.func30, Tryd.ntmps30
    go_wp2
    go_loopw [0, 5] (fun s o wr => ∃ r : ByteArray, ∃ acc : List (List UInt8), s = .string r ∧ r.size ≤ 1000000 ∧ Ext w wr ∧ acc.length ≤ 1000000 - r.size ∧ wr.ownsRow w.heap.size 9 1 o acc.length (acc.map Str) ∧ acc ++ cutL n.toNat (toL r) = cutL n.toNat (toL a)) (fun s _ _ => strSz s)
    case atStart => exact ⟨a, [], rfl, ha, Ext.rfl' _, by simp, World.ownsRow_nil _ _ _ _, rfl⟩
    case round =>
      obtain ⟨r, acc, rfl, hr, hE, hl, hown, hs0⟩ := hrel
      have hs := Lib.hid hs0; clear hs0
      by_cases h1 : 0 < r.size
      · by_cases h2 : n ≤ r.size
        · have m1 : min n (r.size : Int) = n := by omega
          go_wp2_with (at_builtin; refine wpl_app Tryd.elemStr rfl _ _ rfl hown 1 rfl rfl rfl (by intro u hu; simp at hu; rw [hu]; rfl) (by omega) (by omega) (by have := hE.size; omega) ?_; intro v' w' hown2 hg2)
          have hst := hs.out
          rw [cutL_cons (by omega) (by rw [length_toL]; omega)] at hst
          rw [extract_to] at hown2
          rw [extract_from]
          refine ⟨⟨_, acc ++ [(toL r).take n.toNat], rfl, ?_, hE.own hg2 hown (Nat.le_refl _), ?_, by simpa [Str] using hown2, by rw [toL_ofL, ← hst]; simp⟩, ?_⟩
          · rw [size_ofL, List.length_drop, length_toL]; omega
          · rw [size_ofL, List.length_drop, length_toL]; simp; omega
          · rw [strSz_str, strSz_str, size_ofL, List.length_drop, length_toL]; omega
        · have m1 : min n (r.size : Int) = r.size := by omega
          go_wp2_with (at_builtin; refine wpl_app Tryd.elemStr rfl _ _ rfl hown 1 rfl rfl rfl (by intro u hu; simp at hu; rw [hu]; rfl) (by omega) (by omega) (by have := hE.size; omega) ?_; intro v' w' hown2 hg2)
          have hst := hs.out
          rw [cutL_last (by omega) (by rw [length_toL]; omega) (by rw [length_toL]; omega)] at hst
          rw [show ByteArray.empty = ofL [] from rfl]
          refine ⟨⟨_, acc ++ [toL r], rfl, by simp [size_ofL], hE.own hg2 hown (Nat.le_refl _), ?_, by simpa [Str, ofL_toL] using hown2, by rw [toL_ofL, cutL_nil, ← hst]; simp⟩, ?_⟩
          · rw [size_ofL]; simp; omega
          · rw [strSz_str, strSz_str, size_ofL]; simp; omega
      · have hst := hs.out
        rw [show toL r = [] from List.eq_nil_of_length_eq_zero (by rw [length_toL]; omega), cutL_nil, List.append_nil] at hst
        have HST := Lib.hid hst; clear hst
        go_wp2
        go_ret
        rw [← HST.out]
        exact ⟨_, rfl, hown, hE⟩




end Go.Proofs.YteclfeeeaokddaaDoor
