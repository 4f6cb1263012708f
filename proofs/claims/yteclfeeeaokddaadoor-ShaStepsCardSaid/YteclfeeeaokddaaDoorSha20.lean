/-
  Package sha's reference: the constants out of cube roots: is a cube at most a bound, a root, the 64 constants. Condition: numbers below 2 to the 63.
-/
import Derived.Test.YteclfeeeaokddaaDoorSha19
namespace Go.Proofs.YteclfeeeaokddaaDoor
open Go.RowKit

set_option maxRecDepth 100000 in
set_option maxHeartbeats 4000000 in
theorem below_any (n p : Nat) (w : World) (hn : n < 9223372036854775808) (_hp : p < 9223372036854775808) :
    Calls Tryd.prog 35 #[V64 n, V64 p] w fun e w' => e = .returned (.bool (belowB n p)) ∧ Ext w w' := by
  obtain ⟨lo, hlo⟩ : ∃ lo, n % 4294967296 = lo := ⟨_, rfl⟩
  obtain ⟨hi, hhi⟩ : ∃ hi, n / 4294967296 = hi := ⟨_, rfl⟩
  have loB : lo < 4294967296 := by rw [← hlo]; exact Nat.mod_lt _ (by decide)
  have hiB : hi < 4294967296 := by rw [← hhi]; exact Nat.div_lt_of_lt_mul (by omega)
  have e1 : (n : Int) % 4294967296 = lo := by omega
  have e2 : (n : Int) / 4294967296 = hi := by omega
  have dd : Dig [lo, hi] := by intro x hx; simp at hx; rcases hx with rfl | rfl <;> assumption
  obtain ⟨d1, hd1⟩ : ∃ d1, timesL [lo, hi] n = d1 := ⟨_, rfl⟩
  have dd1 : Dig d1 := by rw [← hd1]; exact dig_timesL _ _
  have l1 : d1.length = 5 := by rw [← hd1, length_timesL]; rfl
  obtain ⟨c, hc⟩ : ∃ c, timesL d1 n = c := ⟨_, rfl⟩
  have dc : Dig c := by rw [← hc]; exact dig_timesL _ _
  have lc : c.length = 8 := by rw [← hc, length_timesL, l1]
  have T1 := Kp.mk (show ∀ v w, Rd w w.heap.size 1 v 2 [V64 lo, V64 hi] → Calls Tryd.prog 36 #[v, V64 n] w (RetOwn w 49 1 5 (d1.map V64)) from fun v w h => by
    rw [← hd1]; exact times_any [lo, hi] n v w h dd (by simp) (by omega))
  have T2 := Kp.mk (show ∀ v w, Rd w w.heap.size 1 v 5 (d1.map V64) → Calls Tryd.prog 36 #[v, V64 n] w (RetOwn w 49 1 8 (c.map V64)) from fun v w h => by
    rw [← hc]
    have := times_any d1 n v w (by rw [l1]; exact h) dd1 (by omega) (by omega)
    rw [l1] at this
    exact this)
  have HB := Kp.mk (show belowB n p = (!(decide (c.getD 7 0 + c.getD 6 0 + c.getD 5 0 + c.getD 4 0 > 0) || decide (p < c.getD 3 0)) && (decide (c.getD 3 0 < p) || (decide (c.getD 0 0 = 0) && decide (c.getD 1 0 = 0) && decide (c.getD 2 0 = 0)))) by
    unfold belowB
    rw [hlo, hhi, hd1, hc])
  obtain ⟨x0, h0⟩ : ∃ x, c.getD 0 0 = x := ⟨_, rfl⟩
  obtain ⟨x1, h1⟩ : ∃ x, c.getD 1 0 = x := ⟨_, rfl⟩
  obtain ⟨x2, h2⟩ : ∃ x, c.getD 2 0 = x := ⟨_, rfl⟩
  obtain ⟨x3, h3⟩ : ∃ x, c.getD 3 0 = x := ⟨_, rfl⟩
  obtain ⟨x4, h4⟩ : ∃ x, c.getD 4 0 = x := ⟨_, rfl⟩
  obtain ⟨x5, h5⟩ : ∃ x, c.getD 5 0 = x := ⟨_, rfl⟩
  obtain ⟨x6, h6⟩ : ∃ x, c.getD 6 0 = x := ⟨_, rfl⟩
  obtain ⟨x7, h7⟩ : ∃ x, c.getD 7 0 = x := ⟨_, rfl⟩
  have hxB : ∀ k x, k < 8 → c.getD k 0 = x → x < 4294967296 ∧ (c.map V64)[k]? = some (V64 x) := fun k x hk hx => by
    have e : c[k]'(by omega) = x := by rw [← hx, List.getD_eq_getElem?_getD, List.getElem?_eq_getElem (by omega)]; rfl
    exact ⟨by rw [← e]; exact dc _ (List.getElem_mem _), by rw [List.getElem?_map, List.getElem?_eq_getElem (by omega), e]; rfl⟩
  obtain ⟨b0, m0⟩ := hxB 0 x0 (by omega) h0
  obtain ⟨b1, m1⟩ := hxB 1 x1 (by omega) h1
  obtain ⟨b2, m2⟩ := hxB 2 x2 (by omega) h2
  obtain ⟨b3, m3⟩ := hxB 3 x3 (by omega) h3
  obtain ⟨b4, m4⟩ := hxB 4 x4 (by omega) h4
  obtain ⟨b5, m5⟩ := hxB 5 x5 (by omega) h5
  obtain ⟨b6, m6⟩ := hxB 6 x6 (by omega) h6
  obtain ⟨b7, m7⟩ := hxB 7 x7 (by omega) h7
  have hB := HB.out
  rw [h0, h1, h2, h3, h4, h5, h6, h7] at hB
  have HB2 := Kp.mk hB
  have M := Kp.mk (show _ ∧ _ ∧ _ ∧ _ ∧ _ ∧ _ ∧ _ ∧ _ from ⟨m0, m1, m2, m3, m4, m5, m6, m7⟩)
  clear hB HB hd1 hc dd dd1 dc l1 lc hlo hhi h0 h1 h2 h3 h4 h5 h6 h7 m0 m1 m2 m3 m4 m5 m6 m7 hxB
  go_enter Tryd.func35, Tryd.ntmps35
  go_wp2_with fail
  have A0 := Arr.new w 49 [V64 lo, V64 hi]
  have hE0 : Ext w (w.alloc (.cells #[V64 lo, V64 hi] 49)) := (Ext.rfl' w).al _
  refine (T1.out _ _ ⟨_, _, rfl, by omega, rfl, fun _ => ⟨_, 0, rfl, A0.lt, fun j u hu => by rw [Nat.zero_add, A0.cell j]; exact hu⟩⟩).mono ?_
  rintro e w2 ⟨v2, rfl, hown2, hE2⟩
  have R2 := Rd.own hown2 (by omega)
  have E2 := hE0.tr hE2
  have T2' := Kp.mk (T2.out v2 w2 R2)
  clear R2 hown2 hE2 hE0 A0 T1 T2
  go_wp2_with fail
  refine T2'.out.mono ?_
  rintro e w3 ⟨v3, rfl, hown3, hE3⟩
  have E3 := E2.tr hE3
  obtain ⟨AA, cc, rfl⟩ := own_slice hown3
  obtain ⟨g, rfl, hgb, hgl, hcell⟩ := own_at hown3 (by omega)
  obtain ⟨m0, m1, m2, m3, m4, m5, m6, m7⟩ := M.out
  have k0 := hcell 0 _ m0; have k1 := hcell 1 _ m1; have k2 := hcell 2 _ m2; have k3 := hcell 3 _ m3
  have k4 := hcell 4 _ m4; have k5 := hcell 5 _ m5; have k6 := hcell 6 _ m6; have k7 := hcell 7 _ m7
  clear T2' E2 hE3 hown3 hcell m0 m1 m2 m3 m4 m5 m6 m7 M e1 e2
  go_wp2
  refine wp_loop_rounds 5 ?_
  rw [rounds_succ]
  go_wp2
  rw [rounds_succ]
  go_wp2
  rw [rounds_succ]
  go_wp2
  rw [rounds_succ]
  go_wp2
  rw [rounds_succ]
  go_upto_region 7 with fail
  clear k4 k5 k6 k7
  obtain ⟨hs, hhs⟩ : ∃ hs, x7 + x6 + x5 + x4 = hs := ⟨_, rfl⟩
  have s1 : (x7 : Int) + x6 + x5 + x4 = hs := by omega
  have hB := HB2.out
  rw [hhs] at hB
  have hsB : hs < 17179869184 := by omega
  clear hhs HB2 b4 b5 b6 b7
  by_cases hA : 0 < hs
  · have hr : belowB n p = false := by rw [hB, decide_eq_true (show hs > 0 from hA)]; rfl
    have HR := Kp.mk hr
    clear hr hB
    go_wp2
    go_ret
    exact ⟨ret_bool HR.out.symm, E3⟩
  · by_cases hC : p < x3
    · have hr : belowB n p = false := by rw [hB, decide_eq_true hC, Bool.or_true]; rfl
      have HR := Kp.mk hr
      clear hr hB
      go_wp2
      go_ret
      exact ⟨ret_bool HR.out.symm, E3⟩
    · rw [decide_eq_false (show ¬ hs > 0 from hA), decide_eq_false hC] at hB
      by_cases hD : x3 < p
      · have hr : belowB n p = true := by rw [hB, decide_eq_true hD]; rfl
        have HR := Kp.mk hr
        clear hr hB
        go_wp2
        go_ret
        exact ⟨ret_bool HR.out.symm, E3⟩
      · rw [decide_eq_false hD] at hB
        by_cases q0 : x0 = 0
        · by_cases q1 : x1 = 0
          · by_cases q2 : x2 = 0
            · have hr : belowB n p = true := by rw [hB, decide_eq_true q0, decide_eq_true q1, decide_eq_true q2]; rfl
              have HR := Kp.mk hr
              clear hr hB
              subst q0 q1 q2
              go_wp2
              go_ret
              exact ⟨ret_bool HR.out.symm, E3⟩
            · have hr : belowB n p = false := by rw [hB, decide_eq_true q0, decide_eq_true q1, decide_eq_false q2]; rfl
              have HR := Kp.mk hr
              clear hr hB
              have t2 : ((x2 : Int) == 0) = false := by simp; omega
              subst q0 q1
              go_wp2
              go_ret
              exact ⟨ret_bool HR.out.symm, E3⟩
          · have hr : belowB n p = false := by rw [hB, decide_eq_true q0, decide_eq_false q1]; rfl
            have HR := Kp.mk hr
            clear hr hB
            have t2 : ((x1 : Int) == 0) = false := by simp; omega
            subst q0
            go_wp2
            go_ret
            exact ⟨ret_bool HR.out.symm, E3⟩
        · have hr : belowB n p = false := by rw [hB, decide_eq_false q0]; rfl
          have HR := Kp.mk hr
          clear hr hB
          have t2 : ((x0 : Int) == 0) = false := by simp; omega
          go_wp2
          go_ret
          exact ⟨ret_bool HR.out.symm, E3⟩

set_option maxRecDepth 100000 in
set_option maxHeartbeats 2000000 in
theorem root_any (p : Nat) (w : World) (hp : p < 1000) : Calls Tryd.prog 33 #[.int .i64 p] w fun e w' => e = .returned (.int .u32 (rootL p)) ∧ Ext w w' := by
  go_enter Tryd.func33, Tryd.ntmps33
  have hr : rootGo p 36 0 % 4294967296 = rootL p := rfl
  obtain ⟨fin, hfin⟩ : ∃ fin, rootGo p 36 0 = fin := ⟨_, rfl⟩
  rw [hfin] at hr
  have HF := Kp.mk hfin; have HR := Kp.mk hr
  clear hfin hr
  go_wp2
  go_loopw [3, 4] (fun x3 x4 wr => ∃ b k : Nat, ∃ j : Int, j + 1 = b ∧ x4 = .int .i64 j ∧ b ≤ 36 ∧ x3 = V64 k ∧ k + 2 ^ b ≤ 68719476736 ∧ rootGo p b k = fin ∧ Ext w wr) (fun _ x4 _ => (intOf x4 + 1).toNat)
  case atStart => exact ⟨36, 0, 35, rfl, rfl, by omega, rfl, by decide, HF.out, Ext.rfl' _⟩
  case round =>
    obtain ⟨b, k, j, hj, rfl, hb, rfl, hk, hs0, hE⟩ := hrel
    have HS := Kp.mk hs0; clear hs0
    by_cases hlt : 0 ≤ j
    · obtain ⟨m, rfl⟩ := Int.eq_ofNat_of_zero_le hlt
      obtain rfl : b = m + 1 := by omega
      have hm : m ≤ 35 := by omega
      obtain ⟨q, hq⟩ : ∃ q, 2 ^ m = q := ⟨_, rfl⟩
      rw [Nat.pow_succ, hq] at hk
      obtain ⟨t, ht⟩ : ∃ t, k + q = t := ⟨_, rfl⟩
      have Q1 : IntKind.u64.wrap ((2 : Int) ^ m) = (q : Int) := by
        have e : (2 : Int) ^ m = (q : Int) := by rw [← hq]; exact (Int.natCast_pow 2 m).symm
        rw [e, IntKind.wrap_u64]
        omega
      have Q2 : IntKind.u64.wrap ((k : Int) + q) = (t : Int) := by rw [IntKind.wrap_u64]; omega
      have ht2 : t + q ≤ 68719476736 := by omega
      have hst := HS.out
      rw [rootGo, hq, ht] at hst
      have HT := Kp.mk hst
      have HQ := Kp.mk hq
      have hkq : k + q ≤ 68719476736 := by omega
      clear hst hq HS hj hlt
      have HB := Kp.mk (show ∀ w, Calls Tryd.prog 35 #[V64 t, V64 p] w fun e w' => e = .returned (.bool (belowB t p)) ∧ Ext w w' from fun w => below_any t p w (by omega) (by omega))
      clear ht
      go_upto_region 6 with fail
      clear Q1 Q2
      cases hbb : belowB t p with
      | true =>
        have HB2 := Kp.mk (show ∀ w, Calls Tryd.prog 35 #[V64 t, V64 p] w fun e w' => e = .returned (.bool true) ∧ Ext w w' from fun w => by rw [← hbb]; exact HB.out w)
        have h2 := HT.out
        rw [if_pos hbb] at h2
        have HN := Kp.mk h2
        clear h2 hbb HB HT
        go_wp2_with fail
        refine (HB2.out _).mono ?_
        rintro e w2 ⟨rfl, hE2⟩
        go_wp2
        go_roundw
        case rel => exact ⟨m, t, (m : Int) - 1, by omega, by first | rfl | (congr 1), by omega, rfl, by rw [HQ.out]; omega, HN.out, hE.tr hE2⟩
        case measure => simp [intOf]
      | false =>
        have HB2 := Kp.mk (show ∀ w, Calls Tryd.prog 35 #[V64 t, V64 p] w fun e w' => e = .returned (.bool false) ∧ Ext w w' from fun w => by rw [← hbb]; exact HB.out w)
        have h2 := HT.out
        rw [if_neg (by rw [hbb]; decide)] at h2
        have HN := Kp.mk h2
        clear h2 hbb HB HT
        go_wp2_with fail
        refine (HB2.out _).mono ?_
        rintro e w2 ⟨rfl, hE2⟩
        go_wp2
        go_roundw
        case rel => exact ⟨m, k, (m : Int) - 1, by omega, by first | rfl | (congr 1), by omega, rfl, by rw [HQ.out]; omega, HN.out, hE.tr hE2⟩
        case measure => simp [intOf]
    · obtain rfl : b = 0 := by omega
      have hf : k = fin := HS.out
      have hres : k % 4294967296 = rootL p := by rw [hf]; exact HR.out
      have HRES := Kp.mk hres
      clear hf hres HS HF HR
      have hj1 : j < 0 := by omega
      go_wp2
      go_ret
      exact ⟨ret_int (by rw [← HRES.out]; omega), hE⟩
end Go.Proofs.YteclfeeeaokddaaDoor
