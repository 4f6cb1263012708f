/-
  The laws of chapter 3: the chapter's example holds; ShaSums returns true. Condition: the package's table holds the constants.
-/
import Derived.Test.YteclfeeeaokddaaDoorSha14
namespace Go.Proofs.YteclfeeeaokddaaDoor
open Go.RowKit

def abcS : ByteArray := ⟨#[186, 120, 22, 191, 143, 1, 207, 234, 65, 65, 64, 222, 93, 174, 34, 35, 176, 3, 97, 163, 150, 23, 122, 156, 180, 16, 255, 97, 242, 0, 21, 173]⟩
theorem abc_lit : ofL (sumL [97, 98, 99]) = abcS := by rw [sum_abc]; rfl
theorem sum_abcS (w : World) (hT : Tab w) : Calls Tryd.prog 8 #[.string ⟨#[97, 98, 99]⟩] w fun e w' => e = .returned (.string abcS) ∧ Ext w w' := by
  rw [← abc_lit]
  exact sum_any [97, 98, 99] w hT (by decide)
theorem hsum_abcS (p : Nat) (w : World) (hT : Tab w) (h : HashAt w p [97, 98, 99]) : Calls Tryd.prog 21 #[.pointer (some ⟨p, 0, none⟩)] w fun e w' => e = .returned (.string abcS) ∧ Ext w w' := by
  rw [← abc_lit]
  exact hsum_any p _ w hT h (by decide)
theorem Tab.grown {w w' : World} {p : Nat} (h : Tab w) (hg : w.grownBy w' (some p)) (hp : 0 ≠ p) : Tab w' :=
  ⟨by have := hg.size; have := h.1; omega, fun i hi => (World.cell?_of_block (a := ⟨0, i, none⟩) (hg.block _ h.1 (fun hh => hp (Option.some.inj hh)))).trans (h.2 i hi)⟩
theorem Ext.grown {a w w' : World} {p : Nat} (h : Ext a w) (hg : w.grownBy w' (some p)) (hp : a.heap.size ≤ p) : Ext a w' := h.gr hg fun k hk => by have := Option.some.inj hk; omega

set_option maxRecDepth 100000 in
set_option maxHeartbeats 2000000 in
theorem works_any (w : World) (hT : Tab w) : Calls Tryd.prog 7 #[] w fun e w' => e = .returned (.bool true) ∧ Ext w w' := by
  have h0 := hT.1
  go_enter Tryd.func7, Tryd.ntmps7
  go_wp2_with fail
  refine (new_any _).mono ?_
  rintro e w1 ⟨p, rfl, hp, hA1, hE1⟩
  have T1 := hT.ext hE1
  have HA1 := Kp.mk (add_any p [] [97, 98] w1 T1 (by omega) hA1 (by decide))
  go_wp2_with fail
  refine HA1.out.mono ?_
  rintro e w2 ⟨rfl, hA2, hg2⟩
  have T2 := T1.grown hg2 (by omega)
  have hE2 := hE1.grown hg2 hp
  have HA2 := Kp.mk (add_any p [97, 98] [99] w2 T2 (by omega) hA2 (by decide))
  clear HA1 hA1 hg2 T1 hE1
  go_wp2_with fail
  refine HA2.out.mono ?_
  rintro e w3 ⟨rfl, hA3, hg3⟩
  have T3 := T2.grown hg3 (by omega)
  have hE3 := hE2.grown hg3 hp
  clear HA2 hA2 hg3 T2 hE2
  go_wp2_with fail
  refine (sum_abcS _ T3).mono ?_
  rintro e w4 ⟨rfl, hE4⟩
  have T4 := T3.ext hE4
  have hA4 : HashAt w4 p [97, 98, 99] := hA3.ext hE4 hA3.lt
  have HS := Kp.mk (hsum_abcS p w4 T4 hA4)
  have hEw4 := hE3.tr hE4
  clear hA3 hE3 T3 hE4
  go_wp2_with fail
  refine HS.out.mono ?_
  rintro e w5 ⟨rfl, hE5⟩
  have T5 := T4.ext hE5
  have hA5 : HashAt w5 p [97, 98, 99] := hA4.ext hE5 hA4.lt
  have hEw5 := hEw4.tr hE5
  clear HS hA4 T4 hEw4 hE5
  go_wp2_with fail
  refine (sum_abcS _ T5).mono ?_
  rintro e w6 ⟨rfl, hE6⟩
  have hA6 : HashAt w6 p [97, 98, 99] := hA5.ext hE6 hA5.lt
  have hc := hA6.cells.2.2.2.2.2.2.2.2.2.2
  have hEw6 := hEw5.tr hE6
  have HL := Kp.mk (long_at p 3 w6 hc)
  clear hA5 T5 hEw5 hE6 hA6 hc
  go_wp2_with fail
  refine HL.out.mono ?_
  rintro e w7 ⟨rfl, rfl⟩
  go_wp2
  go_ret
  exact ⟨rfl, hEw6⟩

set_option maxRecDepth 100000 in
set_option maxHeartbeats 2000000 in
theorem shaSums_go (s : ByteArray) (w : World) (hT : Tab w) (hs : s.size ≤ 2000) : Calls Tryd.prog 3 #[.string s] w fun e w' => e = .returned (.bool true) ∧ Ext w w' := by
  obtain ⟨l, rfl⟩ : ∃ l, s = ofL l := ⟨toL s, (ofL_toL s).symm⟩
  have hsz := size_ofL l
  rw [hsz] at hs
  obtain ⟨S, hS⟩ : ∃ S, sumL l = S := ⟨_, rfl⟩
  obtain ⟨P, hP⟩ : ∃ P, shaPad l = P := ⟨_, rfl⟩
  have H1 := Kp.mk (show ∀ w, Tab w → Calls Tryd.prog 8 #[.string (ofL l)] w fun e w' => e = .returned (.string (ofL S)) ∧ Ext w w' from fun w h => by rw [← hS]; exact sum_any l w h (by omega))
  have H2 := Kp.mk (show ∀ w, Calls Tryd.prog 9 #[.string (ofL l)] w fun e w' => e = .returned (.string (ofL S)) ∧ Ext w w' from fun w => by rw [← hS]; exact rsum_any l w (by omega))
  have H3 := Kp.mk (show ∀ w, Calls Tryd.prog 10 #[.string (ofL l)] w fun e w' => e = .returned (.string (ofL P)) ∧ Ext w w' from fun w => by rw [← hP]; exact pad_sha l w (by omega))
  have H4 := Kp.mk (show ∀ w, Calls Tryd.prog 11 #[.string (ofL l)] w fun e w' => e = .returned (.string (ofL P)) ∧ Ext w w' from fun w => by rw [← hP]; exact rspad_any l w (by omega))
  clear hS hP
  go_enter Tryd.func3, Tryd.ntmps3
  go_wp2_with fail
  refine (H1.out _ hT).mono ?_
  rintro e w1 ⟨rfl, hE1⟩
  go_wp2_with fail
  refine (H2.out _).mono ?_
  rintro e w2 ⟨rfl, hE2⟩
  go_wp2_with fail
  refine (H3.out _).mono ?_
  rintro e w3 ⟨rfl, hE3⟩
  go_wp2_with fail
  refine (H4.out _).mono ?_
  rintro e w4 ⟨rfl, hE4⟩
  have E4 := ((hE1.tr hE2).tr hE3).tr hE4
  clear hE1 hE2 hE3 hE4
  go_wp2_with fail
  refine (works_any _ (hT.ext E4)).mono ?_
  rintro e w5 ⟨rfl, hE5⟩
  go_wp2
  go_ret
  exact ⟨rfl, E4.tr hE5⟩
set_option maxHeartbeats 2000000 in
theorem shaSums_walk (s : ByteArray) (w : World) (hT : Tab w) (hs0 : s.size ≤ 9223372036854775807) : Calls Tryd.prog 3 #[.string s] w fun e w' => e = .returned (.bool true) ∧ Ext w w' := by
  by_cases hs : s.size ≤ 2000
  · exact shaSums_go s w hT hs
  · go_enter Tryd.func3, Tryd.ntmps3
    go_wp2_with ((with_reducible refine (works_any _ hT).mono ?_); rintro e w5 ⟨rfl, hE5⟩)
    go_ret
    exact ⟨rfl, hE5⟩
end Go.Proofs.YteclfeeeaokddaaDoor
