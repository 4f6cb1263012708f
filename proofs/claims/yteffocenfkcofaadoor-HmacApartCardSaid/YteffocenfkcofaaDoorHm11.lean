/-
  Chapter 4's laws: HmacApart returns true. Condition: the package's table holds the constants.
-/
import Derived.Test.YteffocenfkcofaaDoorHm10
namespace Go.Proofs.YteffocenfkcofaaDoor
open Go.RowKit

theorem clash4 {k s m t : List UInt8} (h1 : k.length = 32) (h2 : m.length = 32) (hne : ¬ (k = m ∧ s = t)) (h : hmacL k s = hmacL m t) : ∃ i j, j < i ∧ i < [innerL k s, outerL k s, innerL m t, outerL m t].length ∧ ClashAt [innerL k s, outerL k s, innerL m t, outerL m t] i j := by
  rcases apart h1 h2 hne h with ⟨ha, hb⟩ | ⟨ha, hb⟩
  · exact ⟨2, 0, by decide, by simp, hb, ha⟩
  · exact ⟨3, 1, by decide, by simp, hb, ha⟩

set_option maxRecDepth 100000 in
set_option maxHeartbeats 4000000 in
theorem hmacApart_walk (k s m t : List UInt8) (w : World) (hT : Tab w) :
    Calls Tryd.prog 3 #[.agg #[.string (ofL k), .string (ofL s)], .agg #[.string (ofL m), .string (ofL t)]] w fun e w' => e = .returned (.bool true) ∧ Ext w w' := by
  have zk : (ofL k).size = k.length := size_ofL k
  have zs : (ofL s).size = s.length := size_ofL s
  have zm : (ofL m).size = m.length := size_ofL m
  have zt : (ofL t).size = t.length := size_ofL t
  have cW := Kp.mk hworks_any
  by_cases q1 : k.length = 32
  · by_cases q2 : m.length = 32
    · by_cases q3 : 300 < s.length
      · have d1 : ((k.length : Int) != 32) = false := by simp; omega
        have d2 : ((m.length : Int) != 32) = false := by simp; omega
        clear q1 q2
        go_enter Tryd.func3, Tryd.ntmps3
        go_wp2
        go_quiet (fail)
        go_wp2_with fail
        refine (cW.out _ (hT.ext ((((Ext.rfl' w).al _).al _).drN _))).mono ?_
        rintro e w1 ⟨rfl, E1⟩
        go_wp2
        go_ret
        exact ⟨rfl, ((((Ext.rfl' w).al _).al _).drN _).tr E1⟩
      · by_cases q4 : 300 < t.length
        · have d1 : ((k.length : Int) != 32) = false := by simp; omega
          have d2 : ((m.length : Int) != 32) = false := by simp; omega
          clear q1 q2
          go_enter Tryd.func3, Tryd.ntmps3
          go_wp2
          go_quiet (fail)
          go_wp2_with fail
          refine (cW.out _ (hT.ext ((((Ext.rfl' w).al _).al _).drN _))).mono ?_
          rintro e w1 ⟨rfl, E1⟩
          go_wp2
          go_ret
          exact ⟨rfl, ((((Ext.rfl' w).al _).al _).drN _).tr E1⟩
        · by_cases q5 : k = m ∧ s = t
          · have d1 : ((k.length : Int) != 32) = false := by simp; omega
            have d2 : ((m.length : Int) != 32) = false := by simp; omega
            have d5 : (k == m) = true := by simp [q5.1]
            have d6 : (s == t) = true := by simp [q5.2]
            clear q1 q2 q5
            go_enter Tryd.func3, Tryd.ntmps3
            go_wp2
            go_quiet (fail)
            go_wp2_with fail
            refine (cW.out _ (hT.ext ((((Ext.rfl' w).al _).al _).drN _))).mono ?_
            rintro e w1 ⟨rfl, E1⟩
            go_wp2
            go_ret
            exact ⟨rfl, ((((Ext.rfl' w).al _).al _).drN _).tr E1⟩
          · obtain ⟨X, hX⟩ : ∃ X, hmacL k s = X := ⟨_, rfl⟩
            obtain ⟨Y, hY⟩ : ∃ Y, hmacL m t = Y := ⟨_, rfl⟩
            have c1 := Kp.mk (show ∀ w, Tab w → Calls Tryd.prog 14 #[.string (ofL k), .string (ofL s)] w fun e w' => e = .returned (.string (ofL X)) ∧ Ext w w' from fun w h => by rw [← hX]; exact hmac_any k s w h (by omega) (by omega))
            have c2 := Kp.mk (show ∀ w, Tab w → Calls Tryd.prog 14 #[.string (ofL m), .string (ofL t)] w fun e w' => e = .returned (.string (ofL Y)) ∧ Ext w w' from fun w h => by rw [← hY]; exact hmac_any m t w h (by omega) (by omega))
            have c3 := Kp.mk (fun w => rtexts_any k s w (by omega) (by omega))
            have c4 := Kp.mk (fun w => rtexts_any m t w (by omega) (by omega))
            have cCl := Kp.mk (show X = Y → ∀ v w, Rd w w.heap.size 1 v (2 + 2) ([Str (innerL k s), Str (outerL k s)] ++ [Str (innerL m t), Str (outerL m t)]) → Calls Tryd.prog 15 #[v] w fun e w' => e = .returned (.bool true) ∧ Ext w w' from fun hXY v w hrd => by
              refine (clash_any [innerL k s, outerL k s, innerL m t, outerL m t] v w hrd ?_ (by simp)).mono ?_
              · intro p hp
                have li : ∀ k s : List UInt8, s.length ≤ 300 → (innerL k s).length ≤ 900000 := fun k s h => by unfold innerL; rw [List.length_append, length_hideL]; omega
                have lo : ∀ k s : List UInt8, (outerL k s).length ≤ 900000 := fun k s => by unfold outerL; rw [List.length_append, length_hideL, length_sumL]; omega
                simp at hp
                rcases hp with rfl | rfl | rfl | rfl
                · exact li _ _ (by omega)
                · exact lo _ _
                · exact li _ _ (by omega)
                · exact lo _ _
              · rintro e w' ⟨b, rfl, hb, hE⟩
                obtain ⟨i, j, h1, h2, h3⟩ := clash4 q1 q2 q5 (by rw [hX, hY, hXY])
                exact ⟨by rw [hb i j h1 h2 h3], hE⟩)
            have d1 : ((k.length : Int) != 32) = false := by simp; omega
            have d2 : ((m.length : Int) != 32) = false := by simp; omega
            clear hX hY
            by_cases q6 : k = m
            · have d5 : (k == m) = true := by simp [q6]
              have d6 : (s == t) = false := by simp; exact fun h => q5 ⟨q6, h⟩
              clear q1 q2 q5 q6
              go_enter Tryd.func3, Tryd.ntmps3
              go_wp2
              go_quiet (fail)
              go_wp2_with fail
              refine (c1.out _ (hT.ext ((((Ext.rfl' w).al _).al _).drN _))).mono ?_
              rintro e w1 ⟨rfl, E1⟩
              have F1 := ((((Ext.rfl' w).al _).al _).drN _).tr E1
              clear E1
              go_wp2_with fail
              refine (c2.out _ (hT.ext F1)).mono ?_
              rintro e w2 ⟨rfl, E2⟩
              have F2 := F1.tr E2
              clear F1 E2
              by_cases hXY : X = Y
              · have t1 : (X == Y) = true := by simp [hXY]
                have cC := Kp.mk (cCl.out hXY)
                clear hXY
                go_wp2_with fail
                refine (c3.out _).mono ?_
                rintro e w3 ⟨v3, rfl, own3, E3⟩
                have hsz3 := E3.size
                go_wp2_with fail
                refine (c4.out _).mono ?_
                rintro e w4 ⟨v4, rfl, own4, E4⟩
                have hsz4 := E4.size
                have own3' := own_ext own3 (fun j _ hj => E4.block j hj)
                obtain ⟨g4, cap4, rfl⟩ := ownsRow_succ own4
                have F4 := (F2.tr E3).tr E4
                have F2s := F2.size
                clear E3 E4 own3
                go_wp2_with (at_builtin; refine wpl_app_at Tryd.elemStr rfl _ _ rfl own3' 2 rfl rfl rfl (own4.cells rfl) (by intro u hu; simp at hu; rcases hu with rfl | rfl <;> rfl) (by omega) (by omega) (by omega) ?_; intro v5 w5 own5 hg5; have hrd := Rd.own own5 (by decide); have F5 := F4.own hg5 own3' (by omega); clear own3' own4 hg5 F4)
                refine (cC.out v5 w5 hrd).mono ?_
                rintro e w6 ⟨rfl, E6⟩
                go_wp2
                go_ret
                exact ⟨rfl, F5.tr E6⟩
              · have t1 : (X == Y) = false := by simp [hXY]
                clear hXY
                go_wp2_with fail
                refine (cW.out _ (hT.ext F2)).mono ?_
                rintro e w3 ⟨rfl, E3⟩
                go_wp2
                go_ret
                exact ⟨rfl, F2.tr E3⟩
            · have d5 : (k == m) = false := by simp [q6]
              clear q1 q2 q5 q6
              go_enter Tryd.func3, Tryd.ntmps3
              go_wp2
              go_quiet (fail)
              go_wp2_with fail
              refine (c1.out _ (hT.ext ((((Ext.rfl' w).al _).al _).drN _))).mono ?_
              rintro e w1 ⟨rfl, E1⟩
              have F1 := ((((Ext.rfl' w).al _).al _).drN _).tr E1
              clear E1
              go_wp2_with fail
              refine (c2.out _ (hT.ext F1)).mono ?_
              rintro e w2 ⟨rfl, E2⟩
              have F2 := F1.tr E2
              clear F1 E2
              by_cases hXY : X = Y
              · have t1 : (X == Y) = true := by simp [hXY]
                have cC := Kp.mk (cCl.out hXY)
                clear hXY
                go_wp2_with fail
                refine (c3.out _).mono ?_
                rintro e w3 ⟨v3, rfl, own3, E3⟩
                have hsz3 := E3.size
                go_wp2_with fail
                refine (c4.out _).mono ?_
                rintro e w4 ⟨v4, rfl, own4, E4⟩
                have hsz4 := E4.size
                have own3' := own_ext own3 (fun j _ hj => E4.block j hj)
                obtain ⟨g4, cap4, rfl⟩ := ownsRow_succ own4
                have F4 := (F2.tr E3).tr E4
                have F2s := F2.size
                clear E3 E4 own3
                go_wp2_with (at_builtin; refine wpl_app_at Tryd.elemStr rfl _ _ rfl own3' 2 rfl rfl rfl (own4.cells rfl) (by intro u hu; simp at hu; rcases hu with rfl | rfl <;> rfl) (by omega) (by omega) (by omega) ?_; intro v5 w5 own5 hg5; have hrd := Rd.own own5 (by decide); have F5 := F4.own hg5 own3' (by omega); clear own3' own4 hg5 F4)
                refine (cC.out v5 w5 hrd).mono ?_
                rintro e w6 ⟨rfl, E6⟩
                go_wp2
                go_ret
                exact ⟨rfl, F5.tr E6⟩
              · have t1 : (X == Y) = false := by simp [hXY]
                clear hXY
                go_wp2_with fail
                refine (cW.out _ (hT.ext F2)).mono ?_
                rintro e w3 ⟨rfl, E3⟩
                go_wp2
                go_ret
                exact ⟨rfl, F2.tr E3⟩
    · have d1 : ((k.length : Int) != 32) = false := by simp; omega
      have d2 : ((m.length : Int) != 32) = true := by simp; omega
      clear q1 q2
      go_enter Tryd.func3, Tryd.ntmps3
      go_wp2
      go_quiet (fail)
      go_wp2_with fail
      refine (cW.out _ (hT.ext ((((Ext.rfl' w).al _).al _).drN _))).mono ?_
      rintro e w1 ⟨rfl, E1⟩
      go_wp2
      go_ret
      exact ⟨rfl, ((((Ext.rfl' w).al _).al _).drN _).tr E1⟩
  · have d1 : ((k.length : Int) != 32) = true := by simp; omega
    clear q1
    go_enter Tryd.func3, Tryd.ntmps3
    go_wp2
    go_quiet (fail)
    go_wp2_with fail
    refine (cW.out _ (hT.ext ((((Ext.rfl' w).al _).al _).drN _))).mono ?_
    rintro e w1 ⟨rfl, E1⟩
    go_wp2
    go_ret
    exact ⟨rfl, ((((Ext.rfl' w).al _).al _).drN _).tr E1⟩
end Go.Proofs.YteffocenfkcofaaDoor
