/-
  The chapter's examples hold, as package porterlaw02's works computes them.
-/
import Derived.Test.YteclfeeeaokddaaOct3
namespace Go.Proofs.Yteclfeeeaokddaa
open Go.RowKit

set_option maxHeartbeats 1000000 in
theorem works02 (w : World) : Calls Try.prog 10 #[] w fun e w' => e = .returned (.bool true) ∧ Ext w w' := by
  have e1 : hexL (toL ⟨#[97, 255]⟩) = [54, 49, 102, 102] := by decide +kernel
  have e2 : unhexR (toL ⟨#[54, 49, 102, 102]⟩) = [97, 255] := by decide +kernel
  have e3 : okH (toL ⟨#[54, 49, 102, 102]⟩) = true := by decide +kernel
  have e4 : (toL ⟨#[97, 98]⟩ == toL ⟨#[97, 98]⟩) = true := by decide +kernel
  have e5 : cmpL (toL ⟨#[97]⟩) (toL ⟨#[98]⟩) = -1 := by decide +kernel
  have e6 : xorL (toL ⟨#[97]⟩) (toL ⟨#[98]⟩) = [3] := by decide +kernel
  have hc : cutL (2 : Int).toNat (toL ⟨#[97, 98, 99, 100, 101]⟩) = [[97, 98], [99, 100], [101]] := by decide +kernel
  go_enter Try.func10, Try.ntmps10
  go_wp2_with fail
  refine (cut_any _ _ _ (by decide)).mono ?_
  rintro e w1 ⟨v, rfl, hown, hE1⟩
  rw [hc] at hown
  obtain ⟨A, c, rfl, -, -, hcell⟩ := Rd.own hown (by decide)
  obtain ⟨b, off, rfl, hb, hcell⟩ := hcell (by decide)
  have f2 : w1.cell? ⟨b, off + 2, none⟩ = some (.string (ofL [101])) := hcell 2 _ rfl
  clear hcell hc hown
  go_wp2_with fail
  refine (unhex_any _ _ (by decide)).mono ?_
  rintro e w2 ⟨rfl, hE2⟩
  rw [e2, e3]
  have F2 := ((bcell hE2).1 b _ hb).trans f2
  clear f2
  go_wp2_with fail
  refine (hex_any _ _ (by decide)).mono ?_
  rintro e w3 ⟨rfl, hE3⟩
  rw [e1]
  have f2 := ((bcell hE3).1 b _ (Nat.lt_of_lt_of_le hb hE2.size)).trans F2
  clear F2
  go_wp2_with (first
    | (go_at_call 18; refine (equal_any _ _ _ (by decide) (by decide)).mono ?_; rintro e w4 ⟨rfl, hE4⟩)
    | (go_at_call 16; refine (compare_any _ _ _).mono ?_; rintro e w5 ⟨rfl, hE5⟩; rw [e5])
    | (go_at_call 15; refine (xor_any _ _ _ (by decide) (by decide)).mono ?_; rintro e w6 ⟨rfl, hE6⟩; rw [e6]))
  go_ret
  exact ⟨rfl, (((((hE1.tr hE2).tr hE3).tr hE4).tr hE5).tr hE6)⟩

set_option maxHeartbeats 1000000 in
theorem octetOrders_walk (a b : ByteArray) (w : World) (ha : a.size ≤ maxLen) (hb : b.size ≤ maxLen) : Calls Try.prog 5 #[.string a, .string b] w fun e w' => e = .returned (.bool true) ∧ Ext w w' := by
  by_cases h : a.size ≤ 2000 ∧ b.size ≤ 2000
  · obtain ⟨h1, h2⟩ := h
    have d1 : decide ((2000 : Int) < a.size) = false := by simp; omega
    have d2 : decide ((2000 : Int) < b.size) = false := by simp; omega
    go_enter Try.func5, Try.ntmps5
    go_wp2_with (first
      | (go_at_call 16; refine (compare_any _ _ _).mono ?_; rintro e w1 ⟨rfl, hE1⟩)
      | (go_at_call 17; refine (rcompare_any _ _ _ ha hb).mono ?_; rintro e w2 ⟨rfl, hE2⟩)
      | (go_at_call 18; refine (equal_any _ _ _ ha hb).mono ?_; rintro e w3 ⟨rfl, hE3⟩)
      | (go_at_call 19; refine (common_any _ _ _ ha hb).mono ?_; rintro e w4 ⟨rfl, hE4⟩)
      | (go_at_call 20; refine (rcommon_any _ _ _ ha hb).mono ?_; rintro e w5 ⟨rfl, hE5⟩)
      | (go_at_call 10; refine (works02 _).mono ?_; rintro e w6 ⟨rfl, hE6⟩))
    go_ret
    exact ⟨rfl, (((((hE1.tr hE2).tr hE3).tr hE4).tr hE5).tr hE6)⟩
  · by_cases h1 : a.size ≤ 2000
    · have h2 : ¬ b.size ≤ 2000 := fun h2 => h ⟨h1, h2⟩
      have d1 : decide ((2000 : Int) < a.size) = false := by simp; omega
      have d2 : decide ((2000 : Int) < b.size) = true := by simp; omega
      clear h
      go_enter Try.func5, Try.ntmps5
      go_wp2_with (go_at_call 10; refine (works02 _).mono ?_; rintro e w6 ⟨rfl, hE6⟩)
      go_ret
      exact ⟨rfl, hE6⟩
    · have d1 : decide ((2000 : Int) < a.size) = true := by simp; omega
      clear h
      go_enter Try.func5, Try.ntmps5
      go_wp2_with (go_at_call 10; refine (works02 _).mono ?_; rintro e w6 ⟨rfl, hE6⟩)
      go_ret
      exact ⟨rfl, hE6⟩
end Go.Proofs.Yteclfeeeaokddaa
