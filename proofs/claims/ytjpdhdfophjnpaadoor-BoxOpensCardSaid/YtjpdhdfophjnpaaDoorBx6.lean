/-
  Chapter 6's laws: BoxOpens and BoxBack return true. Condition: the package's table holds the constants.
-/
import Derived.Test.YtjpdhdfophjnpaaDoorBx5
namespace Go.Proofs.YtjpdhdfophjnpaaDoor
open Go.RowKit

set_option maxRecDepth 100000 in
set_option maxHeartbeats 4000000 in
theorem boxOpens_walk (k s : List UInt8) (w : World) (hT : Tab w) : Calls Tryd.prog 5 #[.string (ofL k), .string (ofL s)] w fun e w' => e = .returned (.bool true) ∧ Ext w w' := by
  have cW := Kp.mk bxworks_any
  have zk : (ofL k).size = k.length := size_ofL _
  have zs : (ofL s).size = s.length := size_ofL _
  by_cases g1 : 100 < k.length
  · go_enter Tryd.func5, Tryd.ntmps5
    go_wp2_with fail
    refine (cW.out _ hT).mono ?_
    rintro e w9 ⟨rfl, E9⟩
    go_wp2
    go_ret
    exact ⟨rfl, E9⟩
  · by_cases g2 : 300 < s.length
    · by_cases g3 : s.length ≤ 4144
      · go_enter Tryd.func5, Tryd.ntmps5
        go_wp2_with fail
        refine (cW.out _ hT).mono ?_
        rintro e w9 ⟨rfl, E9⟩
        go_wp2
        go_ret
        exact ⟨rfl, E9⟩
      · by_cases g4 : 4300 < s.length
        · go_enter Tryd.func5, Tryd.ntmps5
          go_wp2_with fail
          refine (cW.out _ hT).mono ?_
          rintro e w9 ⟨rfl, E9⟩
          go_wp2
          go_ret
          exact ⟨rfl, E9⟩
        · have g5 : ¬ s.length < 16 := by omega
          obtain ⟨R, hR⟩ : ∃ R, openR k s = R := ⟨_, rfl⟩
          have c1 := Kp.mk (show ∀ W, Tab W → _ from fun W h => open_any k s W h (by omega))
          have c2 := Kp.mk (show ∀ W : World, _ from fun W => ropen_box k s W (by omega))
          rw [hR] at c1 c2
          clear hR
          obtain ⟨T, x⟩ := R
          unfold resV at c1 c2
          obtain ⟨y, hy⟩ : ∃ y : Int, y = x := ⟨_, rfl⟩
          simp only [← hy] at c1 c2
          clear hy
          have c3 := Kp.mk (show ∀ W : World, _ from fun W => nonce_any s W)
          have hn : nonceL s = s.take 16 := if_neg g5
          obtain ⟨N, hN⟩ : ∃ N, s.take 16 = N := ⟨_, rfl⟩
          have x1 : (ofL s).extract 0 16 = ofL N := by rw [extract_to, toL_ofL, hN]
          rw [hn, hN] at c3
          clear hn hN
          have g6 : ¬ ((s.length : Int) < 16) := by omega
          have g7 : (16 : Int) ≤ s.length := by omega
          go_enter Tryd.func5, Tryd.ntmps5
          go_wp2_with fail
          refine (c1.out _ hT).mono ?_
          rintro e w1 ⟨rfl, E1⟩
          go_wp2_with fail
          refine (c2.out _).mono ?_
          rintro e w2 ⟨rfl, E2⟩
          have F2 := E1.tr E2
          go_wp2_with fail
          refine (c3.out _).mono ?_
          rintro e w3 ⟨rfl, E3⟩
          have F3 := F2.tr E3
          go_wp2_with fail
          refine (cW.out _ (hT.ext F3)).mono ?_
          rintro e w9 ⟨rfl, E9⟩
          go_wp2
          go_ret
          exact ⟨rfl, F3.tr E9⟩
    · by_cases g4 : 4300 < s.length
      · exfalso; omega
      · obtain ⟨R, hR⟩ : ∃ R, openR k s = R := ⟨_, rfl⟩
        have c1 := Kp.mk (show ∀ W, Tab W → _ from fun W h => open_any k s W h (by omega))
        have c2 := Kp.mk (show ∀ W : World, _ from fun W => ropen_box k s W (by omega))
        rw [hR] at c1 c2
        clear hR
        obtain ⟨T, x⟩ := R
        unfold resV at c1 c2
        obtain ⟨y, hy⟩ : ∃ y : Int, y = x := ⟨_, rfl⟩
        simp only [← hy] at c1 c2
        clear hy
        have c3 := Kp.mk (show ∀ W : World, _ from fun W => nonce_any s W)
        by_cases g5 : s.length < 16
        · have hn : nonceL s = [] := if_pos g5
          rw [hn] at c3
          clear hn
          go_enter Tryd.func5, Tryd.ntmps5
          go_wp2_with fail
          refine (c1.out _ hT).mono ?_
          rintro e w1 ⟨rfl, E1⟩
          go_wp2_with fail
          refine (c2.out _).mono ?_
          rintro e w2 ⟨rfl, E2⟩
          have F2 := E1.tr E2
          go_wp2_with fail
          refine (c3.out _).mono ?_
          rintro e w3 ⟨rfl, E3⟩
          have F3 := F2.tr E3
          go_wp2_with fail
          refine (cW.out _ (hT.ext F3)).mono ?_
          rintro e w9 ⟨rfl, E9⟩
          go_wp2
          go_ret
          exact ⟨rfl, F3.tr E9⟩
        · have hn : nonceL s = s.take 16 := if_neg g5
          obtain ⟨N, hN⟩ : ∃ N, s.take 16 = N := ⟨_, rfl⟩
          have x1 : (ofL s).extract 0 16 = ofL N := by rw [extract_to, toL_ofL, hN]
          rw [hn, hN] at c3
          clear hn hN
          have g6 : ¬ ((s.length : Int) < 16) := by omega
          have g7 : (16 : Int) ≤ s.length := by omega
          go_enter Tryd.func5, Tryd.ntmps5
          go_wp2_with fail
          refine (c1.out _ hT).mono ?_
          rintro e w1 ⟨rfl, E1⟩
          go_wp2_with fail
          refine (c2.out _).mono ?_
          rintro e w2 ⟨rfl, E2⟩
          have F2 := E1.tr E2
          go_wp2_with fail
          refine (c3.out _).mono ?_
          rintro e w3 ⟨rfl, E3⟩
          have F3 := F2.tr E3
          go_wp2_with fail
          refine (cW.out _ (hT.ext F3)).mono ?_
          rintro e w9 ⟨rfl, E9⟩
          go_wp2
          go_ret
          exact ⟨rfl, F3.tr E9⟩

theorem open_res (k s : List UInt8) : (∃ t, openR k s = (t, 0)) ∨ (∃ x : Nat, x ≠ 0 ∧ openR k s = ([], x)) := by
  unfold openR
  split
  · exact .inr ⟨1, by decide, rfl⟩
  · split
    · exact .inr ⟨3, by decide, rfl⟩
    · split
      · exact .inl ⟨_, rfl⟩
      · exact .inr ⟨8, by decide, rfl⟩

set_option maxRecDepth 100000 in
set_option maxHeartbeats 4000000 in
theorem boxBack_walk (k t s : List UInt8) (w : World) (hT : Tab w) : Calls Tryd.prog 6 #[.string (ofL k), .string (ofL t), .string (ofL s)] w fun e w' => e = .returned (.bool true) ∧ Ext w w' := by
  have cW := Kp.mk bxworks_any
  have zk : (ofL k).size = k.length := size_ofL _
  have zt : (ofL t).size = t.length := size_ofL _
  have zs : (ofL s).size = s.length := size_ofL _
  by_cases g1 : 100 < k.length
  · go_enter Tryd.func6, Tryd.ntmps6
    go_wp2_with fail
    refine (cW.out _ hT).mono ?_
    rintro e w9 ⟨rfl, E9⟩
    go_wp2
    go_ret
    exact ⟨rfl, E9⟩
  · by_cases g2 : 500 < t.length
    · go_enter Tryd.func6, Tryd.ntmps6
      go_wp2_with fail
      refine (cW.out _ hT).mono ?_
      rintro e w9 ⟨rfl, E9⟩
      go_wp2
      go_ret
      exact ⟨rfl, E9⟩
    · by_cases g3 : 500 < s.length
      · go_enter Tryd.func6, Tryd.ntmps6
        go_wp2_with fail
        refine (cW.out _ hT).mono ?_
        rintro e w9 ⟨rfl, E9⟩
        go_wp2
        go_ret
        exact ⟨rfl, E9⟩
      · obtain ⟨B, hB⟩ : ∃ B, boxL k nonce0 t = B := ⟨_, rfl⟩
        have lB : B.length = t.length + 48 := by rw [← hB, length_boxL]; show 16 + _ + 32 = _; omega
        have h1 : openR k B = (t, 0) := by rw [← hB]; exact open_box _ _ _ rfl (by omega)
        have c1 := Kp.mk (show ∀ W, Tab W → Calls Tryd.prog 21 #[.string (ofL k), .string ⟨#[48, 49, 50, 51, 52, 53, 54, 55, 56, 57, 97, 98, 99, 100, 101, 102]⟩, .string (ofL t)] W fun e w' => e = .returned (.tuple #[.string (ofL B), .int .i64 0]) ∧ Ext W w' from fun W h => by
          have q := seal_box k nonce0 t W h (by omega)
          rw [sealR_ok rfl (by omega), hB] at q
          exact q)
        have c2 := Kp.mk (show ∀ W, Tab W → Calls Tryd.prog 23 #[.string (ofL k), .string (ofL B)] W fun e w' => e = .returned (.tuple #[.string (ofL t), .int .i64 0]) ∧ Ext W w' from fun W h => by
          have q := open_any k B W h (by omega)
          rw [h1] at q
          exact q)
        have zB : (ofL B).size = t.length + 48 := by rw [size_ofL, lB]
        have zB2 : B.length = t.length + 48 := lB
        have hw1 : IntKind.i64.wrap ((t.length : Int) + 48) = (t.length : Int) + 48 := IntWalk.i64_in _ (by omega)
        clear hB h1 lB
        rcases open_res k s with ⟨T, hR⟩ | ⟨x, hx, hR⟩
        · have c3 := Kp.mk (show ∀ W, Tab W → Calls Tryd.prog 23 #[.string (ofL k), .string (ofL s)] W fun e w' => e = .returned (.tuple #[.string (ofL T), .int .i64 0]) ∧ Ext W w' from fun W h => by
            have q := open_any k s W h (by omega)
            rw [hR] at q
            exact q)
          obtain ⟨b1, b2, b3⟩ := box_open hR
          obtain ⟨N, hN⟩ : ∃ N, s.take 16 = N := ⟨_, rfl⟩
          rw [hN] at b1 b3
          have c4 := Kp.mk (show ∀ W, Calls Tryd.prog 25 #[.string (ofL s)] W fun e w' => e = .returned (.string (ofL N)) ∧ Ext W w' from fun W => by
            have q := nonce_any s W
            rw [show nonceL s = N by unfold nonceL; rw [if_neg (by have : (s.take 16).length = 16 := by rw [hN]; exact b1
                                                                   rw [List.length_take] at this; omega), hN]] at q
            exact q)
          have c5 := Kp.mk (show ∀ W, Tab W → Calls Tryd.prog 21 #[.string (ofL k), .string (ofL N), .string (ofL T)] W fun e w' => e = .returned (.tuple #[.string (ofL s), .int .i64 0]) ∧ Ext W w' from fun W h => by
            have q := seal_box k N T W h (by omega)
            rw [sealR_ok b1 b2, b3] at q
            exact q)
          clear hR b1 b2 b3 hN
          go_enter Tryd.func6, Tryd.ntmps6
          go_wp2_with fail
          refine (c1.out _ hT).mono ?_
          rintro e w1 ⟨rfl, E1⟩
          go_wp2_with fail
          refine (c2.out _ (hT.ext E1)).mono ?_
          rintro e w2 ⟨rfl, E2⟩
          have F2 := E1.tr E2
          go_wp2_with fail
          refine (c3.out _ (hT.ext F2)).mono ?_
          rintro e w3 ⟨rfl, E3⟩
          have F3 := F2.tr E3
          go_wp2_with fail
          refine (c4.out _).mono ?_
          rintro e w4 ⟨rfl, E4⟩
          have F4 := F3.tr E4
          go_wp2_with fail
          refine (c5.out _ (hT.ext F4)).mono ?_
          rintro e w5 ⟨rfl, E5⟩
          have F5 := F4.tr E5
          go_wp2_with fail
          refine (cW.out _ (hT.ext F5)).mono ?_
          rintro e w9 ⟨rfl, E9⟩
          go_wp2
          go_ret
          exact ⟨rfl, F5.tr E9⟩
        · have c3 := Kp.mk (show ∀ W, Tab W → Calls Tryd.prog 23 #[.string (ofL k), .string (ofL s)] W fun e w' => e = .returned (.tuple #[.string ⟨#[]⟩, .int .i64 x]) ∧ Ext W w' from fun W h => by
            have q := open_any k s W h (by omega)
            rw [hR] at q
            exact q)
          have d1 : ((x : Int) != 0) = true := by simp; omega
          clear hR hx
          go_enter Tryd.func6, Tryd.ntmps6
          go_wp2_with fail
          refine (c1.out _ hT).mono ?_
          rintro e w1 ⟨rfl, E1⟩
          go_wp2_with fail
          refine (c2.out _ (hT.ext E1)).mono ?_
          rintro e w2 ⟨rfl, E2⟩
          have F2 := E1.tr E2
          go_wp2_with fail
          refine (c3.out _ (hT.ext F2)).mono ?_
          rintro e w3 ⟨rfl, E3⟩
          have F3 := F2.tr E3
          go_wp2_with fail
          refine (cW.out _ (hT.ext F3)).mono ?_
          rintro e w9 ⟨rfl, E9⟩
          go_wp2
          go_ret
          exact ⟨rfl, F3.tr E9⟩
end Go.Proofs.YtjpdhdfophjnpaaDoor
