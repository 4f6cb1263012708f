/-
  The functions of package varint and of its reference return the named plain functions. Condition: the number is below 2 to the 64, the string at most 1000000 bytes long.
-/
import Derived.Test.YtmnpbpfeoackiaaOct
import Derived.Test.YtmnpbpfeoackiaaVarPlain
namespace Go.Proofs.Ytmnpbpfeoackiaa
open Go.RowKit

set_option maxRecDepth 100000 in
set_option maxHeartbeats 400000 in
theorem vput_any (n : Nat) (w : World) (hn : U64 n) :
    Calls Try.prog 53 #[.int .u64 n] w fun e w' => e = .returned (.string (ofL (vput n))) ∧ Ext w w' := by
  go_enter Try.func53, Try.ntmps53
  go_wp2
  go_loopw [0, 3] (fun m o wr => ∃ k : Nat, ∃ acc : List UInt8, m = .int .u64 k ∧ k ≤ n ∧ Ext w wr ∧ acc.length ≤ n - k ∧ wr.ownsRow w.heap.size 5 1 o acc.length (acc.map U8) ∧ acc ++ vput k = vput n) (fun m _ _ => (intOf m).toNat)
  case atStart => exact ⟨n, [], rfl, Nat.le_refl _, Ext.rfl' _, by simp, World.ownsRow_nil _ _ _ _, rfl⟩
  case round =>
    obtain ⟨k, acc, rfl, hk, hE, hl, hown, hs0⟩ := hrel
    have hs := Lib.hid hs0; clear hs0
    have hku : U64 k := hn.le hk
    by_cases h1 : k < 128
    · have hb : Value.int .u8 (k : Int) = U8 k.toUInt8 := by unfold U8; congr 1; simp; omega
      have hst := hs.out
      rw [vput_lt h1] at hst
      have HS := Lib.hid hst; clear hst
      have HB := Lib.hid hb; clear hb
      have hl2 : acc.length ≤ 1000 := by
        have := congrArg List.length HS.out
        have h2 := length_vput n
        simp at this
        omega
      go_wp2_with (at_builtin; refine wpl_app Try.elemU8 rfl _ _ rfl hown 1 rfl rfl rfl (by intro u hu; simp at hu; rw [hu]; rfl) (by omega) (by omega) (by have := hE.size; omega) ?_; intro v' w' hown2 hg2; rw [HB.out] at hown2; have hcv := Try.str (l := acc ++ [k.toUInt8]) (by simpa using hown2))
      go_ret
      exact ⟨ret_str (by rw [HS.out]), hE.own hg2 hown (Nat.le_refl _)⟩
    · have hb : Value.int .u8 (bits .or .u8 ((k : Int) % 256) 128) = U8 (k % 128 + 128).toUInt8 := by
        have e : ((k : Int) % 256) = ((k % 256 : Nat) : Int) := by omega
        rw [e, show (128 : Int) = ((128 : Nat) : Int) by rfl, u8_or_nat _ _ (by omega) (by omega), or128 _ (by omega)]
        unfold U8; congr 1; simp; omega
      have hst := hs.out
      rw [vput_ge h1 hku] at hst
      have HS := Lib.hid hst; clear hst
      have HB := Lib.hid hb; clear hb
      have hl2 : acc.length ≤ 1000 := by
        have := congrArg List.length HS.out
        have h2 := length_vput n
        simp at this
        omega
      go_wp2_with (at_builtin; refine wpl_app Try.elemU8 rfl _ _ rfl hown 1 rfl rfl rfl (by intro u hu; simp at hu; rw [hu]; rfl) (by omega) (by omega) (by have := hE.size; omega) ?_; intro v' w' hown2 hg2; rw [HB.out] at hown2)
      exact ⟨⟨k / 128, acc ++ [(k % 128 + 128).toUInt8], by go_num, by omega, hE.own hg2 hown (Nat.le_refl _), by simp; omega, by simpa using hown2, by rw [← HS.out]; simp⟩, by simp [intOf]; omega⟩

set_option maxRecDepth 100000 in
set_option maxHeartbeats 400000 in
theorem rvput_any : ∀ (f n : Nat) (w : World), n < 128 ^ f → 0 < f → U64 n →
    Calls Try.prog 42 #[.int .u64 n] w fun e w' => e = .returned (.string (ofL (vput n))) ∧ Ext w w'
  | 0, _, _, _, h, _ => absurd h (by omega)
  | f + 1, n, w, hn, _, hb => by
    by_cases h : n < 128
    · go_enter Try.func42, Try.ntmps42
      go_wp2_with (go_at_call 59; refine (rbyte_any _ _).mono ?_; rintro e w' ⟨rfl, hE⟩)
      go_ret
      exact ⟨ret_str (by rw [vput_lt h, byteOf_nat _ (by omega)]), hE⟩
    · have hf : 0 < f := by
        rcases Nat.eq_zero_or_pos f with h0 | h0
        · subst h0; simp at hn; omega
        · exact h0
      have hn2 : n / 128 < 128 ^ f := by rw [Nat.pow_succ] at hn; omega
      have hg := vput_ge h hb
      have hl1 := length_vput (n / 128)
      have hb2 : U64 (n / 128) := hb.le (Nat.div_le_self _ _)
      have hdiv : ((n : Int) / 128) = ((n / 128 : Nat) : Int) := by omega
      have hmod : ((n : Int) % 128 + 128) = ((n % 128 + 128 : Nat) : Int) := by omega
      have hlt : n % 128 + 128 < 256 := by omega
      have hw := hb2.wrap
      obtain ⟨bb, hbb⟩ : ∃ bb : UInt8, bb = (n % 128 + 128).toUInt8 := ⟨_, rfl⟩
      have HBB := Lib.hid hbb; clear hbb
      have HW := Lib.hid hw; clear hw
      have HD := Lib.hid hdiv; clear hdiv
      have HM := Lib.hid hmod; clear hmod
      have HG := Lib.hid hg; clear hg
      have HN := Lib.hid hn; clear hn
      have HN2 := Lib.hid hn2; clear hn2
      go_enter Try.func42, Try.ntmps42
      go_wp2_with fail
      refine (rbyte_any _ _).mono ?_
      rintro e w1 ⟨rfl, hE1⟩
      rw [HM.out, byteOf_nat _ hlt, ← HBB.out]
      go_wp2_with fail
      rw [HD.out, HW.out]
      refine (rvput_any f (n / 128) _ HN2.out hf hb2).mono ?_
      rintro e w2 ⟨rfl, hE2⟩
      go_wp2
      go_ret
      exact ⟨ret_str (by rw [HG.out, ofL_append, ← HBB.out]; rfl), hE1.tr hE2⟩

theorem rvput_all (n : Nat) (w : World) (hn : U64 n) :
    Calls Try.prog 42 #[.int .u64 n] w fun e w' => e = .returned (.string (ofL (vput n))) ∧ Ext w w' :=
  rvput_any 10 n w (by have : (128 : Nat) ^ 10 = 1180591620717411303424 := by decide
                       have := hn.lt; omega) (by omega) hn

end Go.Proofs.Ytmnpbpfeoackiaa
