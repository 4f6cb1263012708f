/-
  Chapter 4's laws: the chapter's examples hold; HmacSums and HmacFrames return true. Condition: the package's table holds the constants.
-/
import Derived.Test.YteffocenfkcofaaDoorHm8
namespace Go.Proofs.YteffocenfkcofaaDoor
open Go.RowKit

def foxL : List UInt8 := [84, 104, 101, 32, 113, 117, 105, 99, 107, 32, 98, 114, 111, 119, 110, 32, 102, 111, 120, 32, 106, 117, 109, 112, 115, 32, 111, 118, 101, 114, 32, 116, 104, 101, 32, 108, 97, 122, 121, 32, 100, 111, 103]
theorem fox_tag : (hmacL [107, 101, 121] foxL).take 4 = [247, 188, 131, 244] := by decide +kernel
theorem split_ab : splitL [0, 0, 0, 0, 0, 0, 0, 2, 97, 98] = some [[97, 98]] := by decide +kernel

theorem Rd.at {w W : World} {B B' size n : Nat} {v : Value} {xs : List Value} (h : Rd w B size v n xs) (hE : Ext w W) (hB : B ≤ w.heap.size) (hB' : B ≤ B') : Rd W B' size v n xs := (h.ext hE hB).more hB'

set_option maxRecDepth 100000 in
set_option maxHeartbeats 2000000 in
theorem hworks_any (w : World) (hT : Tab w) : Calls Tryd.prog 13 #[] w fun e w' => e = .returned (.bool true) ∧ Ext w w' := by
  have cSp := Kp.mk (show ∀ w, Calls Tryd.prog 43 #[.string ⟨#[0, 0, 0, 0, 0, 0, 0, 2, 97, 98]⟩] w fun e w' => (∃ v, e = .returned (.tuple #[v, .bool true]) ∧ w'.ownsRow w.heap.size 9 1 v 1 [.string ⟨#[97, 98]⟩]) ∧ Ext w w' from fun w =>
    (split_any [0, 0, 0, 0, 0, 0, 0, 2, 97, 98] w (by decide)).mono fun e w' h => ⟨h.1 _ split_ab, h.2.2⟩)
  obtain ⟨X, hX⟩ : ∃ X, hmacL [107, 101, 121] foxL = X := ⟨_, rfl⟩
  have lX : X.length = 32 := by rw [← hX, length_hmacL]
  have hX4 : (ofL X).extract 0 4 = ⟨#[247, 188, 131, 244]⟩ := by rw [extract_to, toL_ofL, ← hX, fox_tag]; rfl
  have cSum := Kp.mk (show ∀ w, Tab w → Calls Tryd.prog 14 #[.string ⟨#[107, 101, 121]⟩, .string ⟨#[84, 104, 101, 32, 113, 117, 105, 99, 107, 32, 98, 114, 111, 119, 110, 32, 102, 111, 120, 32, 106, 117, 109, 112, 115, 32, 111, 118, 101, 114, 32, 116, 104, 101, 32, 108, 97, 122, 121, 32, 100, 111, 103]⟩] w fun e w' => e = .returned (.string (ofL X)) ∧ Ext w w' from fun w h => by
    rw [← hX]; exact hmac_any [107, 101, 121] foxL w h (by decide) (by decide))
  have cSame := Kp.mk (show ∀ w, Calls Tryd.prog 48 #[.string (ofL X), .string (ofL X)] w fun e w' => e = .returned (.bool true) ∧ Ext w w' from fun w => by
    have h := same_any X X w (by omega) (by omega)
    rw [decide_eq_true lX, beq_self_eq_true] at h
    exact h)
  have cSa := Kp.mk (show ∀ w, Calls Tryd.prog 48 #[.string ⟨#[97]⟩, .string ⟨#[97]⟩] w fun e w' => e = .returned (.bool false) ∧ Ext w w' from fun w => same_any [97] [97] w (by decide) (by decide))
  have zX : (ofL X).size = 32 := by rw [size_ofL, lX]
  clear hX
  go_enter Tryd.func13, Tryd.ntmps13
  go_wp2_with fail
  refine (cSp.out _).mono ?_
  rintro e w1 ⟨⟨v, rfl, hown⟩, E1⟩
  obtain ⟨g, cap, rfl⟩ := ownsRow_succ hown
  go_wp2_with fail
  refine (cSum.out _ (hT.ext E1)).mono ?_
  rintro e w2 ⟨rfl, E2⟩
  have hc2 : w2.cell? ⟨g, 0, none⟩ = some (.string ⟨#[97, 98]⟩) := ((bcell E2).1 g 0 (hown.lt g rfl).2).trans (own_cell hown 0 (by decide)).1
  have E2' := E1.tr E2
  clear hown E1 E2 cSp cSum
  go_wp2_with fail
  refine (cSame.out _).mono ?_
  rintro e w3 ⟨rfl, E3⟩
  clear hc2
  go_wp2_with fail
  refine (cSa.out _).mono ?_
  rintro e w4 ⟨rfl, E4⟩
  go_wp2
  go_ret
  exact ⟨rfl, (E2'.tr E3).tr E4⟩

set_option maxRecDepth 100000 in
set_option maxHeartbeats 4000000 in
theorem hmacSums_walk (k s : List UInt8) (v : Value) (l : List (List UInt8)) (w : World) (hT : Tab w) (h : Rd w w.heap.size 1 v l.length (l.map Str)) :
    Calls Tryd.prog 12 #[.string (ofL k), .string (ofL s), v] w fun e w' => e = .returned (.bool true) ∧ Ext w w' := by
  have zk : (ofL k).size = k.length := size_ofL k
  have zs : (ofL s).size = s.length := size_ofL s
  have cW := Kp.mk hworks_any
  by_cases hk : 200 < k.length
  · go_enter Tryd.func12, Tryd.ntmps12
    go_wp2_with fail
    refine (cW.out _ hT).mono ?_
    rintro e w1 ⟨rfl, E1⟩
    go_wp2
    go_ret
    exact ⟨rfl, E1⟩
  · by_cases hs : 500 < s.length
    · go_enter Tryd.func12, Tryd.ntmps12
      go_wp2_with fail
      refine (cW.out _ hT).mono ?_
      rintro e w1 ⟨rfl, E1⟩
      go_wp2
      go_ret
      exact ⟨rfl, E1⟩
    · have cSh := Kp.mk (short_any l 8 300 v w h (by omega))
      by_cases hsh : shortL l 8 300 = true
      · have hl2 : l.length ≤ 8 ∧ lenSum l ≤ 300 := by unfold shortL at hsh; simpa using hsh
        have hf : (frameL l).length ≤ 364 := by rw [length_frameL]; omega
        rw [hsh] at cSh
        obtain ⟨X, hX⟩ : ∃ X, hmacL k s = X := ⟨_, rfl⟩
        obtain ⟨Y, hY⟩ : ∃ Y, hmacL k (frameL l) = Y := ⟨_, rfl⟩
        have lX : X.length = 32 := by rw [← hX, length_hmacL]
        have c1 := Kp.mk (show ∀ w, Tab w → Calls Tryd.prog 14 #[.string (ofL k), .string (ofL s)] w fun e w' => e = .returned (.string (ofL X)) ∧ Ext w w' from fun w h => by rw [← hX]; exact hmac_any k s w h (by omega) (by omega))
        have c2 := Kp.mk (show ∀ w, Calls Tryd.prog 46 #[.string (ofL k), .string (ofL s)] w fun e w' => e = .returned (.string (ofL X)) ∧ Ext w w' from fun w => by rw [← hX]; exact rhmac_any k s w (by omega) (by omega))
        have c3 := Kp.mk (show ∀ W, Tab W → Ext w W → Calls Tryd.prog 47 #[.string (ofL k), v] W fun e w' => e = .returned (.string (ofL Y)) ∧ Ext W w' from fun W h1 h2 => by rw [← hY]; exact parts_any k l v W h1 (by omega) (h.at h2 (Nat.le_refl _) h2.size) (by omega))
        have c4 := Kp.mk (show ∀ W, Ext w W → Calls Tryd.prog 27 #[.string (ofL k), v] W fun e w' => e = .returned (.string (ofL Y)) ∧ Ext W w' from fun W h2 => by rw [← hY]; exact rparts_any k l v W (by omega) (h.at h2 (Nat.le_refl _) h2.size) (by omega))
        have c5 := Kp.mk (fun w => same_any k s w (by omega) (by omega))
        have c6 := Kp.mk (show ∀ w, Calls Tryd.prog 48 #[.string (ofL X), .string (ofL X)] w fun e w' => e = .returned (.bool true) ∧ Ext w w' from fun w => by
          have h := same_any X X w (by omega) (by omega)
          rw [decide_eq_true lX, beq_self_eq_true] at h
          exact h)
        obtain ⟨A, c, rfl, _, _, _⟩ := h
        clear hX hY hsh hl2 hf lX
        obtain ⟨d, hd⟩ : ∃ d, decide (k.length = 32) = d := ⟨_, rfl⟩
        obtain ⟨q, hq⟩ : ∃ q, (k == s) = q := ⟨_, rfl⟩
        have hd2 : ((k.length : Int) == 32) = d := by rw [← hd, Bool.eq_iff_iff]; simp; omega
        rw [hd, hq] at c5
        clear hd
        go_enter Tryd.func12, Tryd.ntmps12
        go_wp2_with fail
        refine cSh.out.mono ?_
        rintro e w1 ⟨rfl, E1⟩
        go_wp2_with fail
        refine (c1.out _ (hT.ext E1)).mono ?_
        rintro e w2 ⟨rfl, E2⟩
        have F2 := E1.tr E2
        clear E1 E2
        go_wp2_with fail
        refine (c2.out _).mono ?_
        rintro e w3 ⟨rfl, E3⟩
        have F3 := F2.tr E3
        clear F2 E3
        go_wp2_with fail
        refine (c3.out _ (hT.ext F3) F3).mono ?_
        rintro e w4 ⟨rfl, E4⟩
        have F4 := F3.tr E4
        clear F3 E4
        go_wp2_with fail
        refine (c4.out _ F4).mono ?_
        rintro e w5 ⟨rfl, E5⟩
        have F5 := F4.tr E5
        clear F4 E5
        go_wp2_with fail
        refine (c5.out _).mono ?_
        rintro e w6 ⟨rfl, E6⟩
        have F6 := F5.tr E6
        clear F5 E6
        cases d <;> cases q
        all_goals go_wp2_with fail
        all_goals refine (c6.out _).mono ?_
        all_goals rintro e w7 ⟨rfl, E7⟩
        all_goals have F7 := F6.tr E7
        all_goals clear F6 E7
        all_goals go_wp2_with fail
        all_goals refine (cW.out _ (hT.ext F7)).mono ?_
        all_goals rintro e w8 ⟨rfl, E8⟩
        all_goals go_wp2
        all_goals go_ret
        all_goals exact ⟨rfl, F7.tr E8⟩
      · have hsh2 : shortL l 8 300 = false := by simpa using hsh
        rw [hsh2] at cSh
        clear hsh hsh2
        obtain ⟨A, c, rfl, _, _, _⟩ := h
        go_enter Tryd.func12, Tryd.ntmps12
        go_wp2_with fail
        refine cSh.out.mono ?_
        rintro e w1 ⟨rfl, E1⟩
        go_wp2_with fail
        refine (cW.out _ (hT.ext E1)).mono ?_
        rintro e w2 ⟨rfl, E2⟩
        go_wp2
        go_ret
        exact ⟨rfl, E1.tr E2⟩
end Go.Proofs.YteffocenfkcofaaDoor
