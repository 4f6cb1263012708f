/-
  The functions of package varint and of its reference return the named plain functions. Condition: the number is below 2 to the 64, the string at most 1000000 bytes long.
-/
import Derived.Test.YtmnpbpfeoackiaaDoorMgA
import Derived.Test.YtmnpbpfeoackiaaDoorVarPlain
namespace Go.Proofs.YtmnpbpfeoackiaaDoor
open Go.RowKit

set_option maxRecDepth 100000 in
set_option maxHeartbeats 400000 in
theorem vput_any (n : Nat) (w : World) (hn : U64 n) :
    Calls Tryd.prog 96 #[.int .u64 n] w fun e w' => e = .returned (.string (ofL (vput n))) ∧ Ext w w' := by
  go_enter Tryd.func96, Tryd.ntmps96
  go_wp2
  go_loopw [0, 3] (fun m o wr => ∃ k : Nat, ∃ acc : List UInt8, m = .int .u64 k ∧ k ≤ n ∧ Ext w wr ∧ acc.length ≤ n - k ∧ wr.ownsRow w.heap.size 5 1 o acc.length (acc.map U8) ∧ acc ++ vput k = vput n) (fun m _ _ => (intOf m).toNat)
  case atStart => exact ⟨n, [], rfl, Nat.le_refl _, Ext.rfl' _, by simp, World.ownsRow_nil _ _ _ _, rfl⟩
  case round =>
    obtain ⟨k, acc, rfl, hk, hE, hl, hown, hs0⟩ := hrel
    have hs := Lib.hid hs0; clear hs0
    have hku : U64 k := hn.le hk
    by_cases h1 : k < 128
    · have hb : Value.int .u8 (k : Int) = U8 k.toUInt8 := by unfold U8; congr 1; simp; omega
      have hst := hs.out
      rw [vput_lt h1] at hst
      have HS := Lib.hid hst; clear hst
      have HB := Lib.hid hb; clear hb
      have hl2 : acc.length ≤ 1000 := by
        have := congrArg List.length HS.out
        have h2 := length_vput n
        simp at this
        omega
      go_wp2_with (at_builtin; refine wpl_app Tryd.elemU8 rfl _ _ rfl hown 1 rfl rfl rfl (by intro u hu; simp at hu; rw [hu]; rfl) (by omega) (by omega) (by have := hE.size; omega) ?_; intro v' w' hown2 hg2; rw [HB.out] at hown2; have hcv := Tryd.str (l := acc ++ [k.toUInt8]) (by simpa using hown2))
      go_ret
      exact ⟨ret_str (by rw [HS.out]), hE.own hg2 hown (Nat.le_refl _)⟩
    · have hb : Value.int .u8 (bits .or .u8 ((k : Int) % 256) 128) = U8 (k % 128 + 128).toUInt8 := by
        have e : ((k : Int) % 256) = ((k % 256 : Nat) : Int) := by omega
        rw [e, show (128 : Int) = ((128 : Nat) : Int) by rfl, u8_or_nat _ _ (by omega) (by omega), or128 _ (by omega)]
        unfold U8; congr 1; simp; omega
      have hst := hs.out
      rw [vput_ge h1 hku] at hst
      have HS := Lib.hid hst; clear hst
      have HB := Lib.hid hb; clear hb
      have hl2 : acc.length ≤ 1000 := by
        have := congrArg List.length HS.out
        have h2 := length_vput n
        simp at this
        omega
      go_wp2_with (at_builtin; refine wpl_app Tryd.elemU8 rfl _ _ rfl hown 1 rfl rfl rfl (by intro u hu; simp at hu; rw [hu]; rfl) (by omega) (by omega) (by have := hE.size; omega) ?_; intro v' w' hown2 hg2; rw [HB.out] at hown2)
      exact ⟨⟨k / 128, acc ++ [(k % 128 + 128).toUInt8], by go_num, by omega, hE.own hg2 hown (Nat.le_refl _), by simp; omega, by simpa using hown2, by rw [← HS.out]; simp⟩, by simp [intOf]; omega⟩

set_option maxRecDepth 100000 in
set_option maxHeartbeats 400000 in
theorem rvput_any : ∀ (f n : Nat) (w : World), n < 128 ^ f → 0 < f → U64 n →
    Calls Tryd.prog 48 #[.int .u64 n] w fun e w' => e = .returned (.string (ofL (vput n))) ∧ Ext w w'
  | 0, _, _, _, h, _ => absurd h (by omega)
  | f + 1, n, w, hn, _, hb => by
    by_cases h : n < 128
    · go_enter Tryd.func48, Tryd.ntmps48
      go_wp2_with (go_at_call 50; refine (rbyte_any _ _).mono ?_; rintro e w' ⟨rfl, hE⟩)
      go_ret
      exact ⟨ret_str (by rw [vput_lt h, byteOf_nat _ (by omega)]), hE⟩
    · have hf : 0 < f := by
        rcases Nat.eq_zero_or_pos f with h0 | h0
        · subst h0; simp at hn; omega
        · exact h0
      have hn2 : n / 128 < 128 ^ f := by rw [Nat.pow_succ] at hn; omega
      have hg := vput_ge h hb
      have hl1 := length_vput (n / 128)
      have hb2 : U64 (n / 128) := hb.le (Nat.div_le_self _ _)
      have hdiv : ((n : Int) / 128) = ((n / 128 : Nat) : Int) := by omega
      have hmod : ((n : Int) % 128 + 128) = ((n % 128 + 128 : Nat) : Int) := by omega
      have hlt : n % 128 + 128 < 256 := by omega
      have hw := hb2.wrap
      obtain ⟨bb, hbb⟩ : ∃ bb : UInt8, bb = (n % 128 + 128).toUInt8 := ⟨_, rfl⟩
      have HBB := Lib.hid hbb; clear hbb
      have HW := Lib.hid hw; clear hw
      have HD := Lib.hid hdiv; clear hdiv
      have HM := Lib.hid hmod; clear hmod
      have HG := Lib.hid hg; clear hg
      have HN := Lib.hid hn; clear hn
      have HN2 := Lib.hid hn2; clear hn2
      go_enter Tryd.func48, Tryd.ntmps48
      go_wp2_with fail
      refine (rbyte_any _ _).mono ?_
      rintro e w1 ⟨rfl, hE1⟩
      rw [HM.out, byteOf_nat _ hlt, ← HBB.out]
      go_wp2_with fail
      rw [HD.out, HW.out]
      refine (rvput_any f (n / 128) _ HN2.out hf hb2).mono ?_
      rintro e w2 ⟨rfl, hE2⟩
      go_wp2
      go_ret
      exact ⟨ret_str (by rw [HG.out, ofL_append, ← HBB.out]; rfl), hE1.tr hE2⟩

theorem rvput_all (n : Nat) (w : World) (hn : U64 n) :
    Calls Tryd.prog 48 #[.int .u64 n] w fun e w' => e = .returned (.string (ofL (vput n))) ∧ Ext w w' :=
  rvput_any 10 n w (by have : (128 : Nat) ^ 10 = 1180591620717411303424 := by decide
                       have := hn.lt; omega) (by omega) hn

set_option maxRecDepth 100000 in
set_option maxHeartbeats 1000000 in
theorem vtake_any (s : ByteArray) (w : World) (hs : s.size ≤ 1000000) :
    Calls Tryd.prog 116 #[.string s] w fun e w' => e = .returned (.tuple #[.int .u64 (vtake (toL s)).1, .int .i64 (vtake (toL s)).2.1, .int .i64 (vtake (toL s)).2.2]) ∧ Ext w w' := by
  go_enter Tryd.func116, Tryd.ntmps116
  go_wp2
  go_loopw [2, 10] (fun m i wr => ∃ k n : Nat, k ≤ min s.size 10 ∧ i = .int .i64 k ∧ m = .int .u64 n ∧ Ext w wr ∧ k ≤ vlead (toL s) ∧ (k ≤ 9 → n = vval ((toL s).take k))) (fun _ i _ => 10 - (intOf i).toNat)
  case atStart => exact ⟨0, 0, by simp, rfl, rfl, Ext.rfl' _, by simp, fun _ => rfl⟩
  case round =>
    obtain ⟨k, n, hk, rfl, rfl, hE, hv, hn0⟩ := hrel
    have hn := Lib.hid hn0; clear hn0
    by_cases hlt : k < min s.size 10
    · have h1 : k < s.size := by omega
      have hd := s[k].toNat_lt
      have hst := vlead_step (toL s) k (by rw [length_toL]; exact h1) hv
      rw [← toL_get s k h1] at hst
      have HST := Lib.hid hst; clear hst
      have e127 : bits .and .u64 (s[k].toNat : Int) 127 = ((s[k].toNat % 128 : Nat) : Int) := by
        rw [show (127 : Int) = ((127 : Nat) : Int) by rfl, u64_and_nat _ _ (by omega) (by omega), and127 _ (by omega)]
      by_cases hA : s[k].toNat < 128
      · have t3 : decide ((s[k].toNat : Int) < 128) = true := by simp; omega
        by_cases hB : k = 9 ∧ 1 < s[k].toNat
        · have t1 : ((k : Int) == 9) = true := by simp; omega
          have t2 : decide ((1 : Int) < (s[k].toNat : Int)) = true := by simp; omega
          have hr : vtake (toL s) = (0, 0, 2) := by
            obtain ⟨rfl, h2⟩ := hB
            have hv9 := HST.out.2 hA
            rw [toL_get s 9 h1] at h2 hA
            exact vtake_nine (by rw [length_toL]; omega) hv9 h2 hA
          have HR := Lib.hid hr; clear hr
          have HB := Lib.hid hB; clear hB
          go_wp2
          refine bodyPost_ret (results_tmp3 rfl _ _ _) rfl ?_
          exact ⟨by rw [HR.out]; rfl, hE⟩
        · have t1 : (((k : Int) == 9) && decide ((1 : Int) < (s[k].toNat : Int))) = false := by
            rw [Bool.and_eq_false_iff]
            by_cases h9 : k = 9
            · right; simp; omega
            · left; simp; omega
          have hvk := HST.out.2 hA
          by_cases hC : s[k].toNat = 0 ∧ 0 < k
          · have t4 : ((s[k].toNat : Int) == 0) = true := by simp; omega
            have t5 : decide ((0 : Int) < (k : Int)) = true := by simp; omega
            have t5' : decide (0 < k) = true := by simp; omega
            have hr : vtake (toL s) = (0, 0, 2) := vtake_zero (by rw [length_toL]; exact h1) hvk (by omega) hC.2 (by rw [← toL_get s k h1]; exact hC.1)
            have HR := Lib.hid hr; clear hr
            have HC := Lib.hid hC; clear hC
            have HV := Lib.hid hvk; clear hvk
            by_cases h9 : k = 9
            · have t6 : ((k : Int) == 9) = true := by simp; omega
              have t7 : decide ((1 : Int) < (s[k].toNat : Int)) = false := by have := HC.out.1; simp; omega
              have H9 := Lib.hid h9; clear h9
              go_wp2
              refine bodyPost_ret (results_tmp3 rfl _ _ _) rfl ?_
              exact ⟨by rw [HR.out]; rfl, hE⟩
            · have t6 : ((k : Int) == 9) = false := by simp; omega
              have H9 := Lib.hid h9; clear h9
              go_wp2
              refine bodyPost_ret (results_tmp3 rfl _ _ _) rfl ?_
              exact ⟨by rw [HR.out]; rfl, hE⟩
          · have hr := vtake_yes (by rw [length_toL]; exact h1) hvk (by omega) (by rw [← toL_get s k h1]; exact hA) (by rw [← toL_get s k h1]; omega) (by rw [← toL_get s k h1]; omega)
            have hor := vval_or (toL s) k (by rw [length_toL]; exact h1)
            rw [← toL_get s k h1] at hor
            have hpow : s[k].toNat % 128 * 2 ^ (7 * k) < 18446744073709551616 := by
              have := Nat.right_le_or (n := vval ((toL s).take k)) (m := s[k].toNat % 128 * 2 ^ (7 * k))
              have := hr.2
              omega
            have hnv := hn.out (by omega)
            have hnlt : n < 18446744073709551616 := by
              have := Nat.left_le_or (n := vval ((toL s).take k)) (m := s[k].toNat % 128 * 2 ^ (7 * k))
              have := hr.2
              omega
            have hval : Value.int IntKind.u64 (bits BinOp.or IntKind.u64 (n : Int) (IntKind.u64.wrap ((s[k].toNat : Int) % 128 * 2 ^ (7 * k)))) = Value.int .u64 ((vval ((toL s).take (k + 1)) : Nat) : Int) := by
              have e : ((s[k].toNat : Int) % 128 * 2 ^ (7 * k)) = ((s[k].toNat % 128 * 2 ^ (7 * k) : Nat) : Int) := by push_cast; rfl
              rw [e, U64.wrap hpow, u64_or_nat _ _ hnlt hpow, ← hor, ← hnv]
            have HVAL := Lib.hid hval
            have HR := Lib.hid hr.1
            clear hval hr hor hpow hnv hnlt
            have HC := Lib.hid hC; clear hC
            have HV := Lib.hid hvk; clear hvk
            by_cases h9 : k = 9
            · have t6 : ((k : Int) == 9) = true := by simp; omega
              have t7 : decide ((1 : Int) < (s[k].toNat : Int)) = false := by simp; omega
              have t5 : decide ((0 : Int) < (k : Int)) = true := by simp; omega
              have t5' : decide (0 < k) = true := by simp; omega
              have t4 : ((s[k].toNat : Int) == 0) = false := by have := HC.out; simp; omega
              have H9 := Lib.hid h9; clear h9
              go_wp2
              refine bodyPost_ret (results_tmp3 rfl _ _ _) rfl ?_
              refine ⟨?_, hE⟩
              rw [HR.out, ← HVAL.out]
              rfl
            · have t6 : ((k : Int) == 9) = false := by simp; omega
              have H9 := Lib.hid h9; clear h9
              by_cases hz : s[k].toNat = 0
              · have t4 : ((s[k].toNat : Int) == 0) = true := by simp; omega
                have t5 : decide ((0 : Int) < (k : Int)) = false := by have := HC.out; simp; omega
                have t5' : decide (0 < k) = false := by have := HC.out; simp; omega
                have HZ := Lib.hid hz; clear hz
                go_wp2
                refine bodyPost_ret (results_tmp3 rfl _ _ _) rfl ?_
                refine ⟨?_, hE⟩
                rw [HR.out, ← HVAL.out]
                rfl
              · have t4 : ((s[k].toNat : Int) == 0) = false := by simp; omega
                have HZ := Lib.hid hz; clear hz
                go_wp2
                refine bodyPost_ret (results_tmp3 rfl _ _ _) rfl ?_
                refine ⟨?_, hE⟩
                rw [HR.out, ← HVAL.out]
                rfl
      · have t3 : decide ((s[k].toNat : Int) < 128) = false := by simp; omega
        have t1 : (((k : Int) == 9) && (decide ((1 : Int) < (s[k].toNat : Int)) && decide ((s[k].toNat : Int) < 128))) = false := by simp [t3]
        have hcont : ∃ k_1 n_1 : Nat, k_1 ≤ min s.size 10 ∧ Value.int IntKind.i64 ((k : Int) + 1) = Value.int IntKind.i64 (k_1 : Int) ∧ Value.int IntKind.u64 (bits BinOp.or IntKind.u64 (n : Int) (IntKind.u64.wrap ((s[k].toNat : Int) % 128 * 2 ^ (7 * k)))) = Value.int IntKind.u64 (n_1 : Int) ∧
            Ext w wr ∧ k_1 ≤ vlead (toL s) ∧ (k_1 ≤ 9 → n_1 = vval ((toL s).take k_1)) := by
          have hlead := HST.out.1 (by omega)
          have e : ((s[k].toNat : Int) % 128 * 2 ^ (7 * k)) = ((s[k].toNat % 128 * 2 ^ (7 * k) : Nat) : Int) := by push_cast; rfl
          have ew : IntKind.u64.wrap ((s[k].toNat % 128 * 2 ^ (7 * k) : Nat) : Int) = ((s[k].toNat % 128 * 2 ^ (7 * k) % 18446744073709551616 : Nat) : Int) := by
            rw [IntKind.wrap_u64]; omega
          rw [e, ew]
          have hnb : n < 18446744073709551616 := by
            have h := vval_lt ((toL s).take k)
            have h2 : (128 : Nat) ^ ((toL s).take k).length ≤ 128 ^ 9 := Nat.pow_le_pow_right (by omega) (by simp; omega)
            rw [pow9] at h2
            have := hn.out (by omega)
            omega
          rw [u64_or_nat _ _ hnb (Nat.mod_lt _ (by omega))]
          refine ⟨k + 1, _, by omega, by go_num, rfl, hE, hlead, fun h => ?_⟩
          have hnv := hn.out (by omega)
          have hor := vval_or (toL s) k (by rw [length_toL]; exact h1)
          rw [← toL_get s k h1] at hor
          rw [Nat.mod_eq_of_lt, hnv, hor]
          have h3 : s[k].toNat % 128 * 2 ^ (7 * k) ≤ 127 * 2 ^ (7 * k) := Nat.mul_le_mul_right _ (by omega)
          have h4 : 2 ^ (7 * k) ≤ 2 ^ 56 := Nat.pow_le_pow_right (by omega) (by omega)
          have h5 : (2 : Nat) ^ 56 = 72057594037927936 := by decide
          omega
        by_cases h9 : k = 9
        · have t1 : ((k : Int) == 9) = true := by simp; omega
          have t2 : decide ((1 : Int) < (s[k].toNat : Int)) = true := by simp; omega
          have H9 := Lib.hid h9; clear h9
          have HC := Lib.hid hcont; clear hcont
          go_wp2
          exact ⟨HC.out, by simp [intOf]; omega⟩
        · have t1 : ((k : Int) == 9) = false := by simp; omega
          have H9 := Lib.hid h9; clear h9
          have HC := Lib.hid hcont; clear hcont
          go_wp2
          exact ⟨HC.out, by simp [intOf]; omega⟩
    · have hke : k = min s.size 10 := by omega
      by_cases h10 : 10 ≤ s.size
      · have hr : vtake (toL s) = (0, 0, 2) := vtake_long (by omega)
        have HR := Lib.hid hr; clear hr
        have HK := Lib.hid hke; clear hke
        go_wp2
        refine bodyPost_ret (results_tmp3 rfl _ _ _) rfl ?_
        exact ⟨by rw [HR.out]; rfl, hE⟩
      · have hr : vtake (toL s) = (0, 0, 1) := vtake_end (by have := vlead_le (toL s); rw [length_toL] at this ⊢; omega) (by rw [length_toL]; omega)
        have HR := Lib.hid hr; clear hr
        have HK := Lib.hid hke; clear hke
        go_wp2
        refine bodyPost_ret (results_tmp3 rfl _ _ _) rfl ?_
        exact ⟨by rw [HR.out]; rfl, hE⟩

set_option maxRecDepth 100000 in
set_option maxHeartbeats 1000000 in
theorem rvtake_any (s : ByteArray) (w : World) (hs : s.size ≤ 1000000) :
    Calls Tryd.prog 94 #[.string s] w fun e w' => e = .returned (.tuple #[.int .u64 (vtake (toL s)).1, .int .i64 (vtake (toL s)).2.1, .int .i64 (vtake (toL s)).2.2]) ∧ Ext w w' := by
  go_enter Tryd.func94, Tryd.ntmps94
  go_wp2
  go_loopw [5] (fun i wr => ∃ k : Nat, k ≤ min s.size 10 ∧ i = .int .i64 k ∧ Ext w wr ∧ k ≤ vlead (toL s)) (fun i _ => 10 - (intOf i).toNat)
  case atStart => exact ⟨0, by simp, rfl, Ext.rfl' _, by simp⟩
  case round =>
    obtain ⟨k, hk, rfl, hE, hv⟩ := hrel
    by_cases h1 : k < s.size
    · have d1 : decide ((k : Int) < s.size) = true := by simp; omega
      by_cases h2 : k < 10
      · have d2 : decide ((k : Int) < 10) = true := by simp; omega
        have hst := vlead_step (toL s) k (by rw [length_toL]; exact h1) hv
        rw [← toL_get s k h1] at hst
        by_cases h3 : s[k].toNat < 128
        · have d3 : decide ((128 : Int) ≤ (s[k].toNat : Int)) = false := by simp; omega
          have e1 : ((k : Int) == 10) = false := by simp; omega
          have e2 : ((k : Int) == (s.size : Int)) = false := by simp; omega
          have e2' : (k == s.size) = false := by simp; omega
          have hvk := hst.2 h3
          have HV := Lib.hid hvk
          clear hst hvk hv
          have hT : (toL s).take (k + 1) = (toL s).take (k + 1) := rfl
          go_wp2
          go_loopw [6, 7] (fun m i wj => ∃ j n : Nat, j ≤ k + 1 ∧ i = .int .i64 ((j : Int) - 1) ∧ m = .int .u64 n ∧ U64 n ∧ n = vval (((toL s).take (k + 1)).drop j) ∧ wj = wr) (fun _ i _ => ((intOf i) + 1).toNat)
          case atStart => exact ⟨k + 1, 0, by omega, by go_num, rfl, by show (0 : Nat) < _; omega, by rw [List.drop_of_length_le (by simp; omega)]; rfl, rfl⟩
          case round =>
            obtain ⟨j, n, hj, rfl, rfl, hnu, hn0, rfl⟩ := hrel
            have hn := Lib.hid hn0; clear hn0
            by_cases hj0 : j = 0
            · subst hj0
              have hn0 := hn.out
              rw [List.drop_zero] at hn0
              have heq := vtake_eq (l := toL s) (by rw [length_toL]; exact h1) HV.out h2 hn0 hnu.lt
              have hlen : ((k : Int) + 1).toNat = k + 1 := by omega
              have hwr : IntKind.i64.wrap ((k : Int) + 1) = (k : Int) + 1 := IntWalk.i64_in _ (by omega)
              have hsl : (k : Int) + 1 ≤ s.size := by omega
              have hsl2 : k + 1 ≤ s.size := by omega
              have hsl3 : 0 ≤ (k : Int) + 1 := by omega
              have hex := extract_to s (k + 1)
              have hc0 : ((0 : Nat) : Int) - 1 = -1 := by omega
              rw [hc0]
              by_cases hq : vput n = (toL s).take (k + 1)
              · rw [if_pos hq] at heq
                have HR := Lib.hid heq; clear heq
                have tq : (vput n == (toL s).take (k + 1)) = true := by simp [hq]
                have HQ := Lib.hid hq; clear hq
                have HN0 := Lib.hid hn0; clear hn0
                go_wp2
                go_region_held3 (fun _ => True) (trivial) (first | (go_at_call 48; refine (rvput_all _ _ hnu).mono ?_; rintro e w' ⟨rfl, hE2⟩))
                all_goals
                  go_wp2
                  refine bodyPost_ret (results_tmp3 rfl _ _ _) rfl ?_
                  refine ⟨by rw [HR.out]; rfl, ?_⟩
                  first | exact hE.dr.tr hE2 | exact hE.tr hE2 | exact (hE.tr hE2).dr
              · rw [if_neg hq] at heq
                have HR := Lib.hid heq; clear heq
                have tq : (vput n == (toL s).take (k + 1)) = false := by simp [hq]
                have HQ := Lib.hid hq; clear hq
                have HN0 := Lib.hid hn0; clear hn0
                go_wp2
                go_region_held3 (fun _ => True) (trivial) (first | (go_at_call 48; refine (rvput_all _ _ hnu).mono ?_; rintro e w' ⟨rfl, hE2⟩))
                all_goals
                  go_wp2
                  refine bodyPost_ret (results_tmp3 rfl _ _ _) rfl ?_
                  refine ⟨by rw [HR.out]; rfl, ?_⟩
                  first | exact hE.dr.tr hE2 | exact hE.tr hE2 | exact (hE.tr hE2).dr
            · obtain ⟨i, rfl⟩ : ∃ i, j = i + 1 := ⟨j - 1, by omega⟩
              have hij : i < s.size := by omega
              have hdn : ((toL s).take (k + 1)).drop i = s[i] :: ((toL s).take (k + 1)).drop (i + 1) := by
                rw [List.drop_eq_getElem_cons (by simp [length_toL]; omega), List.getElem_take, ← toL_get s i hij]
              have hvn : vval (((toL s).take (k + 1)).drop i) = s[i].toNat % 128 + 128 * n := by rw [hdn, vval, hn.out]
              have c1 : ((i + 1 : Nat) : Int) - 1 = (i : Int) := by omega
              rw [c1]
              have c2 : decide ((0 : Int) ≤ (i : Int)) = true := by simp
              by_cases hbig : 144115188075855871 < n
              · have d4 : decide ((144115188075855871 : Int) < (n : Int)) = true := by simp; omega
                have hr : vtake (toL s) = (0, 0, 2) := by
                  refine vtake_big (by rw [length_toL]; exact h1) HV.out h2 ?_
                  have := vval_drop_le ((toL s).take (k + 1)) i
                  omega
                have HR := Lib.hid hr; clear hr
                have HB := Lib.hid hbig; clear hbig
                go_wp2
                refine bodyPost_ret (results_tmp3 rfl _ _ _) rfl ?_
                exact ⟨by rw [HR.out]; rfl, hE⟩
              · have d4 : decide ((144115188075855871 : Int) < (n : Int)) = false := by simp; omega
                have hsi := s[i].toNat_lt
                have w1 : IntKind.u64.wrap ((n : Int) * 128) = (n : Int) * 128 := IntWalk.u64_in _ (by omega)
                have w2 : IntKind.u64.wrap ((n : Int) * 128 + (s[i].toNat : Int) % 128) = ((s[i].toNat % 128 + 128 * n : Nat) : Int) := by
                  rw [IntWalk.u64_in _ (by omega)]; omega
                have hU : U64 (s[i].toNat % 128 + 128 * n) := by show _ < _; omega
                have HB := Lib.hid hbig; clear hbig
                have W1 := Lib.hid w1
                have HVN := Lib.hid hvn; clear hvn
                have HDN := Lib.hid hdn; clear hdn c1
                go_wp2
                go_roundw
                case rel => exact ⟨i, _, by omega, by go_num, rfl, hU, HVN.out.symm, by first | trivial | rfl⟩
                case measure => first | (simp [intOf]; done) | (simp [intOf]; omega)
        · have d3 : decide ((128 : Int) ≤ (s[k].toNat : Int)) = true := by simp; omega
          have hle := hst.1 (by omega)
          clear hst
          go_wp2
          go_roundw
          case rel => exact ⟨k + 1, by omega, by go_num, hE, hle⟩
          case measure => simp [intOf]; omega
      · have d2 : decide ((k : Int) < 10) = false := by simp; omega
        have e1 : ((k : Int) == 10) = true := by simp; omega
        have hr : vtake (toL s) = (0, 0, 2) := vtake_long (by omega)
        have HR := Lib.hid hr; clear hr
        go_wp2
        refine bodyPost_ret (results_tmp3 rfl _ _ _) rfl ?_
        exact ⟨by rw [HR.out]; rfl, hE⟩
    · have d1 : decide ((k : Int) < s.size) = false := by simp; omega
      by_cases h2 : k = 10
      · have e1 : ((k : Int) == 10) = true := by simp; omega
        have hr : vtake (toL s) = (0, 0, 2) := vtake_long (by omega)
        have HR := Lib.hid hr; clear hr
        have H2 := Lib.hid h2; clear h2
        go_wp2
        refine bodyPost_ret (results_tmp3 rfl _ _ _) rfl ?_
        exact ⟨by rw [HR.out]; rfl, hE⟩
      · have e1 : ((k : Int) == 10) = false := by simp; omega
        have e2 : ((k : Int) == (s.size : Int)) = true := by simp; omega
        have e2' : (k == s.size) = true := by simp; omega
        have hr : vtake (toL s) = (0, 0, 1) := vtake_end (by have := vlead_le (toL s); rw [length_toL] at this ⊢; omega) (by rw [length_toL]; omega)
        have HR := Lib.hid hr; clear hr
        have H2 := Lib.hid h2; clear h2
        go_wp2
        refine bodyPost_ret (results_tmp3 rfl _ _ _) rfl ?_
        exact ⟨by rw [HR.out]; rfl, hE⟩
end Go.Proofs.YtmnpbpfeoackiaaDoor
