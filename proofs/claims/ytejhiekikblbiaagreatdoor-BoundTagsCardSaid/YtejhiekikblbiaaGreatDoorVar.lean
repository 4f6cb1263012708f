/-
  The functions of package varint and of its reference return the named plain functions. Condition: the number is below 2 to the 64, the string at most 1000000 bytes long.
-/
import Derived.Test.YtejhiekikblbiaaGreatDoorMgB
import Derived.Test.YtejhiekikblbiaaGreatDoorVarPlain
namespace Go.Proofs.YtejhiekikblbiaaGreatDoor
open Go.RowKit

set_option maxRecDepth 100000 in
set_option maxHeartbeats 400000 in
theorem vput_any (n : Nat) (w : World) (hn : U64 n) :
    Calls Tryz.prog 107 #[.int .u64 n] w fun e w' => e = .returned (.string (ofL (vput n))) ∧ Ext w w' := by
  go_enter Tryz.func107, Tryz.ntmps107
  go_wp2
  go_loopw [0, 3] (fun m o wr => ∃ k : Nat, ∃ acc : List UInt8, m = .int .u64 k ∧ k ≤ n ∧ Ext w wr ∧ acc.length ≤ n - k ∧ wr.ownsRow w.heap.size 5 1 o acc.length (acc.map U8) ∧ acc ++ vput k = vput n) (fun m _ _ => (intOf m).toNat)
  case atStart => exact ⟨n, [], rfl, Nat.le_refl _, Ext.rfl' _, by simp, World.ownsRow_nil _ _ _ _, rfl⟩
  case round =>
    obtain ⟨k, acc, rfl, hk, hE, hl, hown, hs0⟩ := hrel
    have hs := Lib.hid hs0; clear hs0
    have hku : U64 k := hn.le hk
    by_cases h1 : k < 128
    · have hb : Value.int .u8 (k : Int) = U8 k.toUInt8 := by unfold U8; congr 1; simp; omega
      have hst := hs.out
      rw [vput_lt h1] at hst
      have HS := Lib.hid hst; clear hst
      have HB := Lib.hid hb; clear hb
      have hl2 : acc.length ≤ 1000 := by
        have := congrArg List.length HS.out
        have h2 := length_vput n
        simp at this
        omega
      go_wp2_with (at_builtin; refine wpl_app Tryz.elemU8 rfl _ _ rfl hown 1 rfl rfl rfl (by intro u hu; simp at hu; rw [hu]; rfl) (by omega) (by omega) (by have := hE.size; omega) ?_; intro v' w' hown2 hg2; rw [HB.out] at hown2; have hcv := Tryz.str (l := acc ++ [k.toUInt8]) (by simpa using hown2))
      go_ret
      exact ⟨ret_str (by rw [HS.out]), hE.own hg2 hown (Nat.le_refl _)⟩
    · have hb : Value.int .u8 (bits .or .u8 ((k : Int) % 256) 128) = U8 (k % 128 + 128).toUInt8 := by
        have e : ((k : Int) % 256) = ((k % 256 : Nat) : Int) := by omega
        rw [e, show (128 : Int) = ((128 : Nat) : Int) by rfl, u8_or_nat _ _ (by omega) (by omega), or128 _ (by omega)]
        unfold U8; congr 1; simp; omega
      have hst := hs.out
      rw [vput_ge h1 hku] at hst
      have HS := Lib.hid hst; clear hst
      have HB := Lib.hid hb; clear hb
      have hl2 : acc.length ≤ 1000 := by
        have := congrArg List.length HS.out
        have h2 := length_vput n
        simp at this
        omega
      go_wp2_with (at_builtin; refine wpl_app Tryz.elemU8 rfl _ _ rfl hown 1 rfl rfl rfl (by intro u hu; simp at hu; rw [hu]; rfl) (by omega) (by omega) (by have := hE.size; omega) ?_; intro v' w' hown2 hg2; rw [HB.out] at hown2)
      exact ⟨⟨k / 128, acc ++ [(k % 128 + 128).toUInt8], by go_num, by omega, hE.own hg2 hown (Nat.le_refl _), by simp; omega, by simpa using hown2, by rw [← HS.out]; simp⟩, by simp [intOf]; omega⟩

end Go.Proofs.YtejhiekikblbiaaGreatDoor
