/-
  Package sha's reference: the 64 constants; a step with constants that are told by roots. No condition.
-/
import Derived.Test.YteclfeeeaokddaaDoorSha20
namespace Go.Proofs.YteclfeeeaokddaaDoor
open Go.RowKit

def ConstPost (w : World) (e : Ending) (w' : World) : Prop := ∃ v, e = .returned v ∧ w'.ownsRow w.heap.size 25 1 v 64 (kTab.map W32) ∧ Ext w w'
theorem constGo_succ (f p : Nat) (acc : List Nat) : constGo (f + 1) p acc = if acc.length < 64 then constGo f (p + 1) (if primeB p then acc ++ [rootL p] else acc) else acc := rfl
/-- No divisor from 2 up to d. -/
def primeTo (p d : Nat) : Bool := (List.range (d - 2)).all fun x => p % (x + 2) != 0
theorem primeTo_two (p : Nat) : primeTo p 2 = true := rfl
theorem primeTo_succ (p d : Nat) (h : 2 ≤ d) : primeTo p (d + 1) = (primeTo p d && (p % d != 0)) := by
  unfold primeTo
  obtain ⟨k, rfl⟩ : ∃ k, d = k + 2 := ⟨d - 2, by omega⟩
  rw [show k + 2 + 1 - 2 = k + 1 by omega, show k + 2 - 2 = k by omega, List.range_succ, List.all_append]
  simp
abbrev V32 (x : Nat) : Value := .int .u32 x

set_option maxRecDepth 100000 in
set_option maxHeartbeats 4000000 in
theorem const_any (w : World) : Calls Tryd.prog 28 #[] w (ConstPost w) := by
  obtain ⟨fin, hfin⟩ : ∃ fin, constGo 398 2 [] = fin := ⟨_, rfl⟩
  have hk : fin.map V32 = kTab.map W32 := by rw [← hfin, const_tab, List.map_map]; rfl
  have hl : fin.length = 64 := by rw [← hfin, const_tab, List.length_map]; rfl
  have HF := Kp.mk hfin; have HK := Kp.mk hk; have HL := Kp.mk hl
  clear hfin hk hl
  go_enter Tryd.func28, Tryd.ntmps28
  go_wp2
  go_loopw [1, 2] (fun x1 x2 wr => ∃ f p : Nat, ∃ acc : List Nat, ∃ v : Value, v = x1 ∧ p + f = 400 ∧ 2 ≤ p ∧ x2 = .int .i64 p ∧ acc.length ≤ 64 ∧ constGo f p acc = fin ∧ Ext w wr ∧ wr.ownsRow w.heap.size 25 1 v acc.length (acc.map V32)) (fun _ x2 _ => 400 - (intOf x2).toNat)
  case atStart => exact ⟨398, 2, [], _, rfl, by omega, by omega, rfl, by simp, HF.out, Ext.rfl' _, World.ownsRow_nil _ _ _ _⟩
  case round =>
    obtain ⟨f, p, acc, v, rfl, hpf, hp2, rfl, hal, hs0, hE, hown⟩ := hrel
    have HS := Kp.mk hs0; clear hs0
    obtain ⟨AA, cc, rfl⟩ := own_slice hown
    by_cases h64 : acc.length < 64
    · by_cases hf : 1 ≤ f
      · obtain ⟨f', rfl⟩ : ∃ f', f = f' + 1 := ⟨f - 1, by omega⟩
        have hp4 : p < 400 := by omega
        have hst := HS.out
        rw [constGo_succ, if_pos h64] at hst
        have HT := Kp.mk hst
        clear hst HS hf
        go_wp2
        go_loop [3, 4] (fun x3 x4 => ∃ d : Nat, ∃ bo : Bool, 2 ≤ d ∧ d ≤ p ∧ x4 = .int .i64 d ∧ x3 = .bool bo ∧ primeTo p d = bo) (fun _ x4 => p - (intOf x4).toNat)
        case atStart => exact ⟨2, true, by omega, hp2, rfl, rfl, rfl⟩
        case round =>
          obtain ⟨d, bo, hd1, hd2, rfl, rfl, hb0⟩ := hrel
          have HB := Kp.mk hb0; clear hb0
          by_cases hlt : d < p
          · obtain ⟨r, hr⟩ : ∃ r, (p % d != 0) = r := ⟨_, rfl⟩
            have hst := primeTo_succ p d hd1
            rw [HB.out, hr] at hst
            have hri : ((p : Int) % (d : Int) != 0) = r := by
              rw [← hr, ← Int.natCast_emod]
              rw [Bool.eq_iff_iff]
              simp
              omega
            have HST := Kp.mk hst
            have hd0 : ((d : Int) == 0) = false := by simp; omega
            clear hr hst HB
            cases bo with
            | true =>
              go_wp2
              go_round
              case rel => exact ⟨d + 1, r, by omega, by omega, by go_num, rfl, by rw [HST.out]; simp⟩
              case measure => simp [intOf]; omega
            | false =>
              go_wp2
              go_round
              case rel => exact ⟨d + 1, false, by omega, by omega, by go_num, rfl, by rw [HST.out]; rfl⟩
              case measure => simp [intOf]; omega
          · obtain rfl : d = p := by omega
            have hpr : primeB d = bo := HB.out
            have HP := Kp.mk hpr
            clear hpr HB hlt
            cases bo with
            | true =>
              have h2 := HT.out
              rw [if_pos HP.out] at h2
              obtain ⟨r, hr⟩ : ∃ r, rootL d = r := ⟨_, rfl⟩
              rw [hr] at h2
              have HN := Kp.mk h2
              have HR := Kp.mk (show ∀ w, Calls Tryd.prog 33 #[.int .i64 d] w fun e w' => e = .returned (.int .u32 r) ∧ Ext w w' from fun w => by rw [← hr]; exact root_any d w (by omega))
              clear h2 hr HT HP
              go_wp2_with (first
                | ((with_reducible refine (HR.out _).mono ?_); rintro e w2 ⟨rfl, hE2⟩; have hown2 := own_ext hown (fun j _ hj => hE2.block j hj); have hEw2 := hE.tr hE2; clear hown hE hE2)
                | (at_builtin; refine wpl_app Tryd.elemU32 rfl _ _ rfl hown2 1 rfl rfl rfl (by intro u hu; simp at hu; rw [hu]; rfl) (by omega) (by omega) hEw2.size ?_; intro v3 w3 hown3 hg3; have hE3 := hEw2.own hg3 hown2 (Nat.le_refl _); clear hown2 hg3))
              go_roundw
              case rel => exact ⟨f', d + 1, acc ++ [r], v3, rfl, by omega, by omega, by go_num, by rw [List.length_append, List.length_singleton]; omega, HN.out, hE3, own_eq hown3 (by rw [List.map_append]; rfl) (by rw [List.length_append]; rfl)⟩
              case measure => simp [intOf]; omega
            | false =>
              have h2 := HT.out
              rw [if_neg (by rw [HP.out]; decide)] at h2
              have HN := Kp.mk h2
              clear h2 HT HP
              go_wp2
              go_roundw
              case rel => exact ⟨f', d + 1, acc, _, rfl, by omega, by omega, by go_num, hal, HN.out, hE, hown⟩
              case measure => simp [intOf]; omega
      · have hf0 : f = 0 := by omega
        have h1 := HS.out
        rw [hf0] at h1
        have h2 : acc = fin := h1
        exact absurd HL.out (by rw [← h2]; omega)
    · have h65 : acc.length = 64 := by omega
      have h1 : acc = fin := by
        have h2 := HS.out
        cases f with
        | zero => exact h2
        | succ f => rw [constGo_succ, if_neg h64] at h2; exact h2
      have hown2 := own_eq hown (ys := kTab.map W32) (m := 64) (by rw [h1]; exact HK.out) h65
      have HO := Kp.mk hown2
      clear hown2 hown h1 HS hal
      go_wp2
      go_ret
      exact ⟨_, rfl, h65 ▸ HO.out, hE⟩
end Go.Proofs.YteclfeeeaokddaaDoor
