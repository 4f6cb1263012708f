/-
  Package frame's reference: Get; and package frame: Tail. No condition.
-/
import Derived.Test.YtjpcedgonjmchaaFrameGet
import Derived.Test.YtjpcedgonjmchaaFrame4
namespace Go.Proofs.Ytjpcedgonjmchaa
open Go.RowKit

def frTail (s : List UInt8) : Int × Bool := if s.length ≠ 128 then (0, false) else if wrap64 ((numN (s.drop 120) : Nat) : Int) < 0 then (0, false) else (wrap64 ((numN (s.drop 120) : Nat) : Int), true)

set_option maxRecDepth 100000 in
set_option maxHeartbeats 2000000 in
theorem ftail (s : List UInt8) (w : World) :
    Calls Try.prog 19 #[.string (ofL s)] w fun e w' => e = .returned (.tuple #[.int .i64 (frTail s).1, .bool (frTail s).2]) ∧ w' = w := by
  have hsz : (ofL s).size = s.length := size_ofL _
  by_cases hl : s.length = 128
  · have x120 : (ofL s).extract 120 128 = ofL (s.drop 120) := by
      rw [ofL_extract, List.take_of_length_le (by rw [List.length_drop]; omega)]
    have l8 : (s.drop 120).length = 8 := by rw [List.length_drop]; omega
    obtain ⟨M, hM⟩ : ∃ M, wrap64 ((numN (s.drop 120) : Nat) : Int) = M := ⟨_, rfl⟩
    have hT : frTail s = if M < 0 then (0, false) else (M, true) := by unfold frTail; rw [if_neg (by omega), hM]
    rw [hT]
    have HM := Lib.hid hM; clear hM hT
    by_cases hn : M < 0
    · rw [if_pos hn]
      have d : decide (M < 0) = true := by simpa using hn
      clear hn
      go_enter Try.func19, Try.ntmps19
      go_wp2_with fail
      refine (number_any _ _ l8).mono ?_
      rintro e w1 ⟨rfl, rfl⟩
      rw [HM.out]
      go_wp2
      refine bodyPost_ret (v := .tuple #[.int .i64 0, .bool false]) (by simp [results, Try.results19, go_sem]) rfl ?_
      exact ⟨rfl, rfl⟩
    · rw [if_neg hn]
      have d : decide (M < 0) = false := by simpa using hn
      clear hn
      go_enter Try.func19, Try.ntmps19
      go_wp2_with fail
      refine (number_any _ _ l8).mono ?_
      rintro e w1 ⟨rfl, rfl⟩
      rw [HM.out]
      go_wp2
      refine bodyPost_ret (v := .tuple #[.int .i64 M, .bool true]) (by simp [results, Try.results19, go_sem]) rfl ?_
      exact ⟨rfl, rfl⟩
  · have hT : frTail s = (0, false) := if_pos hl
    rw [hT]
    have t : ((s.length : Int) != 128) = true := by rw [bne_iff_ne]; omega
    clear hT hl
    go_enter Try.func19, Try.ntmps19
    go_wp2
    refine bodyPost_ret (v := .tuple #[.int .i64 0, .bool false]) (by simp [results, Try.results19, go_sem]) rfl ?_
    exact ⟨rfl, rfl⟩

theorem frGet_bad {s : List UInt8} (h : ¬ frGood s) : frGet s = (⟨0, 0, []⟩, false) := if_neg h
theorem frGet_good {s : List UInt8} (h : frGood s) : frGet s = (frOf s, true) := if_pos h

set_option maxRecDepth 100000 in
set_option maxHeartbeats 2000000 in
theorem rfget (s : List UInt8) (w : World) :
    Calls Try.prog 18 #[.string (ofL s)] w fun e w' => e = .returned (.tuple #[.int .i64 (frGet s).1.m, .int .i64 (frGet s).1.k, .string (ofL (frGet s).1.t), .bool (frGet s).2]) ∧ Ext w w' := by
  have hsz : (ofL s).size = s.length := size_ofL _
  by_cases hl : s.length = 128
  · rw [hl] at hsz
    have x8 : (ofL s).extract 0 8 = ofL (s.take 8) := by rw [ofL_extract]; rfl
    have x120 : (ofL s).extract 120 128 = ofL (s.drop 120) := by
      rw [ofL_extract, List.take_of_length_le (by rw [List.length_drop]; omega)]
    have l8 : (s.take 8).length = 8 := by rw [List.length_take, hl]; rfl
    obtain ⟨c7, hc7⟩ : ∃ c, s.getD 7 0 = c := ⟨_, rfl⟩
    obtain ⟨c8, hc8⟩ : ∃ c, s.getD 8 0 = c := ⟨_, rfl⟩
    obtain ⟨c9, hc9⟩ : ∃ c, s.getD 9 0 = c := ⟨_, rfl⟩
    have g7 : ∀ h, (ofL s)[7]'h = c7 := fun h => by rw [← hc7, ofL_getD]
    have g8 : ∀ h, (ofL s)[8]'h = c8 := fun h => by rw [← hc8, ofL_getD]
    have g9 : ∀ h, (ofL s)[9]'h = c9 := fun h => by rw [← hc9, ofL_getD]
    by_cases hAB : s.take 8 = s.drop 120
    · by_cases h7 : 127 < c7.toNat
      · rw [frGet_bad (fun h => by have := h.2.2.1; rw [hc7] at this; omega)]
        have e1 : (ofL (s.take 8) == ofL (s.drop 120)) = true := by rw [hAB, beq_toListBytes]; simp
        have e2 : (ofL (s.take 8) != ofL (s.drop 120)) = false := by rw [bne, e1]; rfl
        have e3 : (s.take 8 == s.drop 120) = true := by rw [hAB]; simp
        have d7 : decide ((127 : Int) < c7.toNat) = true := by simp; omega
        clear hAB h7 hc7 hc8 hc9 l8
        go_enter Try.func18, Try.ntmps18
        go_upto_region 1 with fail
        go_quiet (fail)
        go_wp2
        refine bodyPost_ret (v := .tuple #[.int .i64 0, .int .i64 0, .string (ofL []), .bool false]) (by simp [results, Try.results18, go_sem]; rfl) rfl ?_
        exact ⟨rfl, (Ext.rfl' _).drN _⟩
      · have e1 : (ofL (s.take 8) == ofL (s.drop 120)) = true := by rw [hAB, beq_toListBytes]; simp
        have e2 : (ofL (s.take 8) != ofL (s.drop 120)) = false := by rw [bne, e1]; rfl
        have e3 : (s.take 8 == s.drop 120) = true := by rw [hAB]; simp
        have d7 : decide ((127 : Int) < c7.toNat) = false := by simp; omega
        by_cases h9 : 110 < c9.toNat
        · rw [frGet_bad (fun h => by have := h.2.2.2.1; rw [hc9] at this; omega)]
          have d9 : decide ((110 : Int) < c9.toNat) = true := by simp; omega
          clear hAB h7 hc7 hc8 hc9 l8 h9
          go_enter Try.func18, Try.ntmps18
          go_upto_region 1 with fail
          go_quiet (fail)
          go_wp2
          refine bodyPost_ret (v := .tuple #[.int .i64 0, .int .i64 0, .string (ofL []), .bool false]) (by simp [results, Try.results18, go_sem]; rfl) rfl ?_
          exact ⟨rfl, (Ext.rfl' _).drN _⟩
        · have d9 : decide ((110 : Int) < c9.toNat) = false := by simp; omega
          have h7' : ((s.take 8).getD 7 0).toNat ≤ 127 := by rw [getD_take _ 8 7 (by omega), hc7]; omega
          obtain ⟨n9, hn9⟩ : ∃ n, c9.toNat = n := ⟨_, rfl⟩
          have hn : n9 ≤ 110 := by omega
          have w9 : wrap64 (c9.toNat : Int) = (n9 : Int) := by rw [IntWalk.wrap64_in _ (by omega), hn9]
          have w8 : wrap64 (c8.toNat : Int) = (c8.toNat : Int) := IntWalk.wrap64_in _ (by have := c8.toNat_lt; omega)
          obtain ⟨N, hN⟩ : ∃ N, numN (s.take 8) = N := ⟨_, rfl⟩
          have HAB := Lib.hid hAB
          have HC7 := Lib.hid hc7
          have H7 := Lib.hid h7
          have HC9 := Lib.hid hc9
          have HC8 := Lib.hid hc8
          have HL := Lib.hid hl
          have HN9 := Lib.hid hn9
          have HNN := Lib.hid hN
          clear hAB h7 hc7 hc8 hc9 h9 hl hn9 hN
          go_enter Try.func18, Try.ntmps18
          go_upto_region 1 with fail
          go_quiet (fail)
          go_wp2_with fail
          refine (rNumber_any (s.take 8) _ l8 h7').mono ?_
          rintro e w1 ⟨rfl, rfl⟩
          rw [HNN.out]
          clear l8 h7'
          go_wp2
          go_loop [8] (fun i => ∃ k : Nat, i = .int .i64 k ∧ 10 + n9 ≤ k ∧ k ≤ 120 ∧ ∀ j, j < k → 10 + n9 ≤ j → s.getD j 0 = 0) (fun i => 120 - (intOf i).toNat)
          case atStart => exact ⟨10 + n9, by go_num, by omega, by omega, fun j h1 h2 => absurd h1 (by omega)⟩
          case round =>
            obtain ⟨k, rfl, hk1, hk2, hz⟩ := hrel
            have HZ := Lib.hid hz; clear hz
            by_cases hk : k < 120
            · have dk : decide ((k : Int) < 120) = true := by simp; omega
              obtain ⟨c, hc⟩ : ∃ c, s.getD k 0 = c := ⟨_, rfl⟩
              have gk : ∀ h, (ofL s)[k]'h = c := fun h => by rw [← hc, ofL_getD]
              by_cases h0 : c = 0
              · have t0 : ((c.toNat : Int) != 0) = false := by rw [h0]; rfl
                have HC := Lib.hid hc; clear hc
                have H0 := Lib.hid h0; clear h0
                go_wp2
                refine ⟨⟨k + 1, by go_num, by omega, by omega, fun j h1 h2 => ?_⟩, by simp [intOf]; omega⟩
                rcases Nat.lt_succ_iff_lt_or_eq.1 h1 with h1 | rfl
                · exact HZ.out j h1 h2
                · rw [HC.out, H0.out]
              · have t0 : ((c.toNat : Int) != 0) = true := by
                  rw [bne_iff_ne]; intro h; apply h0; apply UInt8.toNat_inj.1
                  have h' : c.toNat = 0 := by omega
                  exact h'
                have hbad : frGet s = (⟨0, 0, []⟩, false) := frGet_bad (fun h => h0 (by
                  have := h.2.2.2.2.1 k hk (by rw [HC9.out, HN9.out]; omega)
                  rw [hc] at this
                  exact this))
                have HB := Lib.hid hbad
                clear hc h0 hbad
                go_wp2
                refine bodyPost_ret (v := .tuple #[.int .i64 0, .int .i64 0, .string (ofL []), .bool false]) (by simp [results, Try.results18, go_sem]; rfl) rfl ?_
                rw [HB.out]
                exact ⟨rfl, (Ext.rfl' _).drN _⟩
            · have dk : decide ((k : Int) < 120) = false := by simp; omega
              by_cases hN0 : N = 0
              · have hbad : frGet s = (⟨0, 0, []⟩, false) := frGet_bad (fun h => h.2.2.2.2.2 (HNN.out.trans hN0))
                have HB := Lib.hid hbad
                have tN : ((N : Int) == 0) = true := by rw [hN0]; rfl
                clear hN0 hbad
                go_wp2
                refine bodyPost_ret (v := .tuple #[.int .i64 0, .int .i64 0, .string (ofL []), .bool false]) (by simp [results, Try.results18, go_sem]; rfl) rfl ?_
                rw [HB.out]
                exact ⟨rfl, (Ext.rfl' _).drN _⟩
              · have hgood : frGood s := by
                  have a1 := HC7.out; have a2 := H7.out; have a3 := HC9.out; have a4 := HN9.out
                  refine ⟨HL.out, HAB.out, by rw [a1]; omega, by rw [a3, a4]; exact hn, fun i hi h10 => ?_, by rw [HNN.out]; exact hN0⟩
                  rw [a3, a4] at h10
                  exact HZ.out i (by omega) h10
                have hG : frGet s = (⟨(N : Int), (c8.toNat : Int), (s.drop 10).take n9⟩, true) := by
                  rw [frGet_good hgood]
                  unfold frOf
                  rw [HNN.out, HC8.out, HC9.out, HN9.out, Nat.min_eq_left hn]
                have HB := Lib.hid hG
                have tN : ((N : Int) == 0) = false := by simp; omega
                obtain ⟨q, hq⟩ : ∃ q, 10 + n9 = q := ⟨_, rfl⟩
                have xt : (ofL s).extract 10 q = ofL ((s.drop 10).take n9) := by rw [ofL_extract, show q - 10 = n9 by omega]
                have q4 : wrap64 (10 + (n9 : Int)) = (q : Int) := by rw [IntWalk.wrap64_in _ (by omega)]; omega
                have q5 : IntKind.i64.wrap (10 + (n9 : Int)) = (q : Int) := by rw [IntWalk.i64_in _ (by omega)]; omega
                have q6 : (10 : Int) + (n9 : Int) = (q : Int) := by omega
                have q1 : (0 : Int) ≤ (q : Int) := by omega
                have q2 : (10 : Int) ≤ (q : Int) := by omega
                have q3 : (q : Int) ≤ 128 := by omega
                have q7 : 10 ≤ q := by omega
                have q8 : q ≤ 128 := by omega
                clear hN0 hgood hG hq
                go_upto_region 12 with fail
                go_quiet (fail)
                go_wp2
                refine bodyPost_ret (v := .tuple #[.int .i64 N, .int .i64 c8.toNat, .string (ofL ((s.drop 10).take n9)), .bool true]) (by simp [results, Try.results18, go_sem]) rfl ?_
                rw [HB.out]
                exact ⟨rfl, (Ext.rfl' _).drN _⟩
    · rw [frGet_bad (fun h => hAB h.2.1)]
      have e3 : (s.take 8 == s.drop 120) = false := by simpa using hAB
      have e1 : (ofL (s.take 8) == ofL (s.drop 120)) = false := by rw [beq_toListBytes, toList_eq_toL, toList_eq_toL, toL_ofL, toL_ofL]; exact e3
      have e2 : (ofL (s.take 8) != ofL (s.drop 120)) = true := by rw [bne, e1]; rfl
      clear hAB hc7 hc8 hc9 l8
      go_enter Try.func18, Try.ntmps18
      go_upto_region 1 with fail
      go_quiet (fail)
      go_wp2
      refine bodyPost_ret (v := .tuple #[.int .i64 0, .int .i64 0, .string (ofL []), .bool false]) (by simp [results, Try.results18, go_sem]; rfl) rfl ?_
      exact ⟨rfl, (Ext.rfl' _).drN _⟩
  · rw [frGet_bad (fun h => hl h.1)]
    have t : ((s.length : Int) != 128) = true := by rw [bne_iff_ne]; omega
    clear hl
    go_enter Try.func18, Try.ntmps18
    go_upto_region 1 with fail
    go_quiet (fail)
    go_wp2
    refine bodyPost_ret (v := .tuple #[.int .i64 0, .int .i64 0, .string (ofL []), .bool false]) (by simp [results, Try.results18, go_sem]; rfl) rfl ?_
    exact ⟨rfl, (Ext.rfl' _).drN _⟩
end Go.Proofs.Ytjpcedgonjmchaa
