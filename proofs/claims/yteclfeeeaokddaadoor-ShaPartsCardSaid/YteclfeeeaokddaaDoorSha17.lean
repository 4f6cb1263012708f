/-
  The laws of chapter 3: ShaParts returns true. Condition: the package's table holds the constants.
-/
import Derived.Test.YteclfeeeaokddaaDoorSha15
namespace Go.Proofs.YteclfeeeaokddaaDoor
open Go.RowKit

set_option maxRecDepth 100000 in
set_option maxHeartbeats 4000000 in
theorem shaParts_walk (v : Value) (xs : List (List UInt8)) (w : World) (hT : Tab w) (hv : Rd w w.heap.size 1 v xs.length (xs.map Str)) (_hn : xs.length ≤ maxLen) (_hb : ∀ s ∈ xs, s.length ≤ maxLen) : Calls Tryd.prog 5 #[v] w fun e w' => e = .returned (.bool true) ∧ Ext w w' := by
  obtain ⟨A, c, rfl, hn, hl, hcell⟩ := hv
  have HC := Kp.mk hcell
  clear hcell hl
  have hg0 := hT.1
  by_cases h12 : xs.length ≤ 12
  · go_enter Tryd.func5, Tryd.ntmps5
    go_wp2_with fail
    refine (new_any _).mono ?_
    rintro e w1 ⟨p, rfl, hp, hA1, hE1⟩
    go_wp2
    go_loopw [4, 5] (fun x4 x5 wr => ∃ k : Nat, ∃ t : List UInt8, k ≤ xs.length ∧ x5 = .int .i64 k ∧ x4 = .string (ofL t) ∧ t.length ≤ 300 * k ∧ HashAt wr p t ∧ Ext w wr) (fun _ x5 _ => xs.length - (intOf x5).toNat)
    case atStart => exact ⟨0, [], by omega, rfl, rfl, by simp, hA1, hE1⟩
    case round =>
      clear hA1 hE1
      obtain ⟨k, t, hk, rfl, rfl, hlt0, hA, hE⟩ := hrel
      have T0 := hT.ext hE
      by_cases hlt : k < xs.length
      · obtain ⟨b, off, rfl, hb, hcc⟩ := HC.out (by omega)
        obtain ⟨x, hx⟩ : ∃ x, xs[k] = x := ⟨_, rfl⟩
        have ce := hcc k (Str x) (by rw [List.getElem?_map, List.getElem?_eq_getElem hlt, hx]; rfl)
        unfold Str at ce
        have d0 := ((bcell hE).1 b (off + k) hb).trans ce
        have hxs := size_ofL x
        clear hcc hx
        by_cases h300 : x.length ≤ 300
        · have hpp : p ≠ b := by omega
          have HAdd := Kp.mk (add_any p t x wr T0 (by omega) hA (by omega))
          go_wp2_with fail
          refine HAdd.out.mono ?_
          rintro e w2 ⟨rfl, hA2, hg2⟩
          have T2 := T0.grown hg2 (by omega)
          have hE2 := hE.grown hg2 hp
          have d2 := ((bcell hE2).1 b (off + k) hb).trans ce
          obtain ⟨t2, ht2⟩ : ∃ t2, t ++ x = t2 := ⟨_, rfl⟩
          have hap : ofL t ++ ofL x = ofL t2 := by rw [ofL_append, ht2]
          have hl2 : t2.length = t.length + x.length := by rw [← ht2, List.length_append]
          rw [ht2] at hA2
          have hst := size_ofL t
          have hst2 := size_ofL t2
          have hcl := hA2.cells.2.2.2.2.2.2.2.2.2.2
          obtain ⟨S, hS⟩ : ∃ S, sumL t2 = S := ⟨_, rfl⟩
          have HL := Kp.mk (long_at p t2.length w2 hcl)
          have HS := Kp.mk (show Calls Tryd.prog 21 #[.pointer (some ⟨p, 0, none⟩)] w2 fun e w' => e = .returned (.string (ofL S)) ∧ Ext w2 w' from by rw [← hS]; exact hsum_any p t2 w2 T2 hA2 (by omega))
          have HM := Kp.mk (show ∀ w, Tab w → Calls Tryd.prog 8 #[.string (ofL t2)] w fun e w' => e = .returned (.string (ofL S)) ∧ Ext w w' from fun w h => by rw [← hS]; exact sum_any t2 w h (by omega))
          have HL2 := Kp.mk hl2
          have b2 : t2.length ≤ 300 * (k + 1) := by omega
          clear HAdd hg2 ht2 hl2 hcl hS hE T0 hA d0
          go_wp2_with fail
          refine HL.out.mono ?_
          rintro e w3 ⟨rfl, rfl⟩
          go_wp2_with fail
          refine HS.out.mono ?_
          rintro e w4 ⟨rfl, hE4⟩
          have hA4 : HashAt w4 p t2 := hA2.ext hE4 hA2.lt
          have hEw4 := hE2.tr hE4
          clear hE2 hE4 hA2 d2
          go_wp2_with fail
          refine (HM.out _ (hT.ext hEw4)).mono ?_
          rintro e w5 ⟨rfl, hE5⟩
          have hA5 : HashAt w5 p t2 := hA4.ext hE5 hA4.lt
          have hEw5 := hEw4.tr hE5
          clear hE5 hA4 hEw4 HL HS HM
          go_wp2
          go_roundw
          case rel => exact ⟨k + 1, t2, by omega, by go_num, rfl, b2, hA5, hEw5⟩
          case measure => simp [intOf]; omega
        · go_wp2_with ((with_reducible refine (works_any _ T0).mono ?_); rintro e w5 ⟨rfl, hE5⟩)
          go_ret
          exact ⟨rfl, hE.tr hE5⟩
      · obtain ⟨S, hS⟩ : ∃ S, sumL [] = S := ⟨_, rfl⟩
        have HN := Kp.mk (show ∀ w, Tab w → Calls Tryd.prog 21 #[.pointer none] w fun e w' => e = .returned (.string (ofL S)) ∧ Ext w w' from fun w h => by rw [← hS]; exact hsum_nil w h)
        have HZ := Kp.mk (show ∀ q w, Tab w → w.cell? ⟨q, 0, none⟩ = some (.bool false) → Calls Tryd.prog 21 #[.pointer (some ⟨q, 0, none⟩)] w fun e w' => e = .returned (.string (ofL S)) ∧ Ext w w' from fun q w h hc => by rw [← hS]; exact hsum_zero q w h hc)
        have HM := Kp.mk (show ∀ w, Tab w → Calls Tryd.prog 8 #[.string ⟨#[]⟩] w fun e w' => e = .returned (.string (ofL S)) ∧ Ext w w' from fun w h => by rw [← hS]; exact sum_any [] w h (by decide))
        clear hS hA
        go_wp2_with fail
        refine (add_nil _ _).mono ?_
        rintro e w2 ⟨rfl, rfl⟩
        have AZ := Arr.new w2 42 [.bool false, .int .u32 0, .int .u32 0, .int .u32 0, .int .u32 0, .int .u32 0, .int .u32 0, .int .u32 0, .int .u32 0, .string ⟨#[]⟩, .int .i64 0]
        have hEZ : Ext w (w2.alloc (.cells #[.bool false, .int .u32 0, .int .u32 0, .int .u32 0, .int .u32 0, .int .u32 0, .int .u32 0, .int .u32 0, .int .u32 0, .string ⟨#[]⟩, .int .i64 0] 42)) := hE.al _
        obtain ⟨q, hq⟩ : ∃ q, w2.heap.size = q := ⟨_, rfl⟩
        rw [hq] at AZ
        clear hE T0
        go_wp2_with fail
        clear hq
        generalize w2.alloc (.cells #[.bool false, .int .u32 0, .int .u32 0, .int .u32 0, .int .u32 0, .int .u32 0, .int .u32 0, .int .u32 0, .int .u32 0, .string ⟨#[]⟩, .int .i64 0] 42) = W3 at *
        have z0 := AZ.cell 0
        simp only [List.getElem?_cons_zero] at z0
        refine (add_zero q _ W3 z0).mono ?_
        rintro e w4 ⟨rfl, rfl⟩
        clear z0
        go_wp2_with fail
        refine (HN.out _ (hT.ext hEZ)).mono ?_
        rintro e w5 ⟨rfl, hE5⟩
        have A5 := AZ.ext hE5 AZ.lt
        have hEw5 := hEZ.tr hE5
        clear hE5 AZ hEZ HN
        go_wp2_with fail
        refine (HM.out _ (hT.ext hEw5)).mono ?_
        rintro e w6 ⟨rfl, hE6⟩
        have A6 := A5.ext hE6 A5.lt
        have hEw6 := hEw5.tr hE6
        clear hE6 A5 hEw5
        go_wp2_with fail
        refine (long_nil _).mono ?_
        rintro e w7 ⟨rfl, rfl⟩
        have z0 := A6.cell 0
        simp only [List.getElem?_cons_zero] at z0
        have HZ1 := Kp.mk (HZ.out q w7 (hT.ext hEw6) z0)
        clear HZ z0
        go_wp2_with fail
        refine HZ1.out.mono ?_
        rintro e w8 ⟨rfl, hE8⟩
        have A8 := A6.ext hE8 A6.lt
        have hEw8 := hEw6.tr hE8
        clear hE8 A6 hEw6 HZ1
        go_wp2_with fail
        refine (HM.out _ (hT.ext hEw8)).mono ?_
        rintro e w9 ⟨rfl, hE9⟩
        have A9 := A8.ext hE9 A8.lt
        have hEw9 := hEw8.tr hE9
        have z10 := A9.cell 10
        simp only [List.getElem?_cons_zero, List.getElem?_cons_succ] at z10
        have HL1 := Kp.mk (long_at q 0 w9 z10)
        clear hE9 A8 hEw8 z10 HM
        go_wp2_with fail
        refine HL1.out.mono ?_
        rintro e w10 ⟨rfl, rfl⟩
        go_wp2_with fail
        refine (works_any _ (hT.ext hEw9)).mono ?_
        rintro e w11 ⟨rfl, hE11⟩
        go_wp2
        go_ret
        exact ⟨rfl, hEw9.tr hE11⟩
  · go_enter Tryd.func5, Tryd.ntmps5
    go_wp2_with ((with_reducible refine (works_any _ hT).mono ?_); rintro e w5 ⟨rfl, hE5⟩)
    go_ret
    exact ⟨rfl, hE5⟩
end Go.Proofs.YteclfeeeaokddaaDoor
