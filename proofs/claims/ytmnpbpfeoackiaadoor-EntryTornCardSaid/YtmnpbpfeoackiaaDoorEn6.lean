/-
  Package entry: what keeps an entry from being written. Conditions: as Dk1.
-/
import Derived.Test.YtmnpbpfeoackiaaDoorMhE
namespace Go.Proofs.YtmnpbpfeoackiaaDoor
open Go.RowKit

set_option maxRecDepth 100000 in
set_option maxHeartbeats 1000000 in
theorem echeck_any {w : World} {B p g m : Nat} {d : Dk} (h : DkAt w B p g m d) (fr gen index kind : Int) (s : List UInt8) : Calls Tryd.prog 74 #[.pointer (some ⟨p, 0, none⟩), .int .i64 fr, .int .i64 gen, .int .i64 index, .int .i64 kind, .string (ofL s)] w fun e w' => e = .returned (.int .i64 (checkE d.bs.length fr gen index kind s.length)) ∧ w' = w := by
  have hpos := h.pos
  have hle := h.le
  obtain ⟨n, hn⟩ : ∃ n, d.bs.length = n := ⟨_, rfl⟩
  have cB := Kp.mk (show Calls Tryd.prog 77 #[.pointer (some ⟨p, 0, none⟩)] w fun e w' => e = .returned (.int .i64 n) ∧ w' = w from by rw [← hn]; exact dblocks_any h)
  have cM := Kp.mk (emark_any gen index true w)
  have hsz : (ofL s).size = s.length := size_ofL _
  obtain ⟨L, hL⟩ : ∃ L, s.length = L := ⟨_, rfl⟩
  have cN := Kp.mk (eblocks_any L w)
  have hb0 : ((n : Int) == 0) = false := by simp; omega
  rw [hn] at hpos hle ⊢
  rw [hL] at hsz ⊢
  clear h hn hL
  by_cases h1 : fr < 0
  · have q1 : decide (fr < 0) = true := by simp; omega
    have hX := Kp.mk (show checkE n fr gen index kind L = 7 by unfold checkE; rw [if_pos (.inl h1)])
    clear h1
    go_enter Tryd.func74, Tryd.ntmps74
    go_wp2_with fail
    refine cB.out.mono ?_
    rintro e w ⟨rfl, rfl⟩
    go_wp2
    go_ret
    rw [hX.out]
    exact ⟨rfl, rfl⟩
  · have q1 : decide (fr < 0) = false := by simp; omega
    obtain ⟨mk, hmk⟩ : ∃ mk, markN gen index true = mk := ⟨_, rfl⟩
    rw [hmk] at cM
    by_cases h2 : mk = 0 ∨ kind < 0 ∨ 255 < kind
    · have hX := Kp.mk (show checkE n fr gen index kind L = 7 by unfold checkE; rw [hmk, if_pos (.inr h2)])
      have hcase : mk = 0 ∨ ((mk == 0) = false ∧ decide (kind < 0) = true) ∨ ((mk == 0) = false ∧ decide (kind < 0) = false ∧ decide ((255 : Int) < kind) = true) := by
        simp only [decide_eq_true_eq, decide_eq_false_iff_not, beq_eq_false_iff_ne]
        omega
      clear h1 h2 hmk
      rcases hcase with q2 | ⟨q2, q3⟩ | ⟨q2, q3, q4⟩
      · subst q2
        go_enter Tryd.func74, Tryd.ntmps74
        go_wp2_with fail
        refine cB.out.mono ?_
        rintro e w ⟨rfl, rfl⟩
        go_wp2_with fail
        refine cM.out.mono ?_
        rintro e w ⟨rfl, rfl⟩
        go_wp2
        go_ret
        rw [hX.out]
        exact ⟨rfl, rfl⟩
      all_goals
        go_enter Tryd.func74, Tryd.ntmps74
        go_wp2_with fail
        refine cB.out.mono ?_
        rintro e w ⟨rfl, rfl⟩
        go_wp2_with fail
        refine cM.out.mono ?_
        rintro e w ⟨rfl, rfl⟩
        go_wp2
        go_ret
        rw [hX.out]
        exact ⟨rfl, rfl⟩
    · have q2 : (mk == 0) = false := by simp; omega
      have q3 : decide (kind < 0) = false := by simp; omega
      have q4 : decide ((255 : Int) < kind) = false := by simp; omega
      have hX1 : checkE n fr gen index kind L = if 65536 < L then 3 else if 4095 < index + blkN L - 1 ∨ (n : Int) < fr ∨ (n : Int) < fr + index + blkN L then 19 else 0 := by
        unfold checkE
        rw [hmk, if_neg (by omega)]
      have hib : ¬ (gen < 1 ∨ 1099511627776 < gen ∨ index < 0 ∨ 4095 < index) := fun hb => by
        rw [markN_bad hb] at hmk
        omega
      by_cases h3 : 65536 < L
      · have q5 : decide ((65536 : Int) < (L : Int)) = true := by simp; omega
        rw [if_pos h3] at hX1
        have hX := Kp.mk hX1
        clear h1 h2 h3 hmk hX1 hib
        go_enter Tryd.func74, Tryd.ntmps74
        go_wp2_with fail
        refine cB.out.mono ?_
        rintro e w ⟨rfl, rfl⟩
        go_wp2_with fail
        refine cM.out.mono ?_
        rintro e w ⟨rfl, rfl⟩
        go_wp2
        go_ret
        rw [hX.out]
        exact ⟨rfl, rfl⟩
      · have q5 : decide ((65536 : Int) < (L : Int)) = false := by simp; omega
        rw [if_neg h3] at hX1
        have hbl := blkN_le (L : Int)
        obtain ⟨c, hc⟩ : ∃ c, blkN (L : Int) = c := ⟨_, rfl⟩
        rw [hc] at hX1 hbl cN
        obtain ⟨fp, rfl⟩ : ∃ fp : Nat, fr = fp := ⟨fr.toNat, by omega⟩
        obtain ⟨ix, rfl⟩ : ∃ ix : Nat, index = ix := ⟨index.toNat, by omega⟩
        have hix : ix ≤ 4095 := by omega
        have hc1 : 1 ≤ c := by
          rcases Nat.eq_zero_or_pos c with h0 | h0
          · rw [h0] at hc
            have := blkN_zero.1 hc
            omega
          · exact h0
        have hcase : (decide ((4095 : Int) < (ix : Int) + c - 1) = true ∧ checkE n fp gen ix kind L = 19) ∨ (decide ((4095 : Int) < (ix : Int) + c - 1) = false ∧ ¬ fp ≤ n ∧ checkE n fp gen ix kind L = 19) ∨
            (decide ((4095 : Int) < (ix : Int) + c - 1) = false ∧ fp ≤ 4096 ∧ fp ≤ n ∧ ¬ fp + ix + c ≤ n ∧ checkE n fp gen ix kind L = 19) ∨
            (decide ((4095 : Int) < (ix : Int) + c - 1) = false ∧ fp ≤ 4096 ∧ fp ≤ n ∧ fp + ix + c ≤ n ∧ checkE n fp gen ix kind L = 0) := by
          rw [hX1]
          simp only [decide_eq_true_eq, decide_eq_false_iff_not]
          by_cases a1 : (4095 : Int) < (ix : Int) + c - 1
          · exact .inl ⟨a1, if_pos (.inl a1)⟩
          · by_cases a2 : (n : Int) < (fp : Int)
            · exact .inr (.inl ⟨a1, by omega, if_pos (.inr (.inl a2))⟩)
            · by_cases a3 : (n : Int) < (fp : Int) + ix + c
              · exact .inr (.inr (.inl ⟨a1, by omega, by omega, by omega, if_pos (.inr (.inr a3))⟩))
              · exact .inr (.inr (.inr ⟨a1, by omega, by omega, by omega, if_neg (by omega)⟩))
        clear h1 h2 h3 hmk hX1 hib hc
        rcases hcase with ⟨a1, hX⟩ | ⟨a1, a2, hX⟩ | ⟨a1, a4, a2, a3, hX⟩ | ⟨a1, a4, a2, a3, hX⟩
        all_goals
          replace hX := Kp.mk hX
          go_enter Tryd.func74, Tryd.ntmps74
          go_wp2_with fail
          refine cB.out.mono ?_
          rintro e w ⟨rfl, rfl⟩
          go_wp2_with fail
          refine cM.out.mono ?_
          rintro e w ⟨rfl, rfl⟩
          go_wp2_with fail
          refine cN.out.mono ?_
          rintro e w ⟨rfl, rfl⟩
        · go_wp2
          go_ret
          rw [hX.out]
          exact ⟨rfl, rfl⟩
        · go_wp2_with fail
          refine cB.out.mono ?_
          rintro e w ⟨rfl, rfl⟩
          go_wp2
          go_ret
          rw [hX.out]
          exact ⟨rfl, rfl⟩
        all_goals
          go_wp2_with fail
          refine cB.out.mono ?_
          rintro e w ⟨rfl, rfl⟩
          go_wp2_with fail
          refine cB.out.mono ?_
          rintro e w ⟨rfl, rfl⟩
          go_wp2
          go_ret
          rw [hX.out]
          exact ⟨rfl, rfl⟩
set_option maxRecDepth 100000 in
theorem echeck_nil (fr gen index kind : Int) (s : ByteArray) (w : World) : Calls Tryd.prog 74 #[.pointer none, .int .i64 fr, .int .i64 gen, .int .i64 index, .int .i64 kind, .string s] w fun e w' => e = .returned (.int .i64 21) ∧ w' = w := by
  have cB := Kp.mk (dblocks_nil w)
  go_enter Tryd.func74, Tryd.ntmps74
  go_wp2_with fail
  refine cB.out.mono ?_
  rintro e w ⟨rfl, rfl⟩
  go_wp2
  go_ret
  exact ⟨rfl, rfl⟩
end Go.Proofs.YtmnpbpfeoackiaaDoor
