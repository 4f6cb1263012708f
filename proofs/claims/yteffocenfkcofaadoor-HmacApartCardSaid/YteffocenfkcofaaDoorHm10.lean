/-
  Chapter 4's laws: HmacFrames returns true. Condition: the package's table holds the constants.
-/
import Derived.Test.YteffocenfkcofaaDoorHm9
namespace Go.Proofs.YteffocenfkcofaaDoor
open Go.RowKit

theorem rd_nil (w : World) (B : Nat) : Rd w B 1 (.slice none 0 0) ([] : List (List UInt8)).length (([] : List (List UInt8)).map Str) := ⟨none, 0, rfl, by simp, rfl, fun h => absurd h (by simp)⟩
theorem same_true (xs : List (List UInt8)) (va vb : Value) (w : World) (ha : Rd w w.heap.size 1 va xs.length (xs.map Str)) (hb : Rd w w.heap.size 1 vb xs.length (xs.map Str)) :
    Calls Tryd.prog 20 #[va, vb] w fun e w' => e = .returned (.bool true) ∧ Ext w w' := by
  have h := sameTexts_any xs xs va vb w ha hb
  rw [decide_eq_true (rfl : xs = xs)] at h
  exact h

set_option maxRecDepth 100000 in
set_option maxHeartbeats 4000000 in
theorem hmacFrames_walk (v : Value) (l : List (List UInt8)) (s : List UInt8) (w : World) (hT : Tab w) (h : Rd w w.heap.size 1 v l.length (l.map Str)) :
    Calls Tryd.prog 11 #[v, .string (ofL s)] w fun e w' => e = .returned (.bool true) ∧ Ext w w' := by
  have zs : (ofL s).size = s.length := size_ofL s
  have cW := Kp.mk hworks_any
  have cSh := Kp.mk (short_any l 12 400 v w h (by omega))
  by_cases hsh : shortL l 12 400 = true
  · rw [hsh] at cSh
    by_cases hs : 400 < s.length
    · clear h hsh
      go_enter Tryd.func11, Tryd.ntmps11
      go_wp2_with fail
      refine cSh.out.mono ?_
      rintro e w1 ⟨rfl, E1⟩
      go_wp2_with fail
      refine (cW.out _ (hT.ext E1)).mono ?_
      rintro e w2 ⟨rfl, E2⟩
      go_wp2
      go_ret
      exact ⟨rfl, E1.tr E2⟩
    · have hl2 : l.length ≤ 12 ∧ lenSum l ≤ 400 := by unfold shortL at hsh; simpa using hsh
      have hf : (frameL l).length ≤ 496 := by rw [length_frameL]; omega
      have hsp : splitL (frameL l) = some l := split_frame l (fun p hp => by have := mem_lenSum l p hp; omega)
      obtain ⟨f, hfl⟩ : ∃ f, frameL l = f := ⟨_, rfl⟩
      rw [hfl] at hf hsp
      have c1 := Kp.mk (show ∀ W, Ext w W → Calls Tryd.prog 42 #[v] W fun e w' => e = .returned (.string (ofL f)) ∧ Ext W w' from fun W h2 => by rw [← hfl]; exact frame_any l v W (h.at h2 (Nat.le_refl _) h2.size) (by rw [hfl]; omega))
      have c2 := Kp.mk (show ∀ W, Ext w W → Calls Tryd.prog 45 #[v] W fun e w' => e = .returned (.string (ofL f)) ∧ Ext W w' from fun W h2 => by rw [← hfl]; exact rframe_any l v W (h.at h2 (Nat.le_refl _) h2.size) (by rw [hfl]; omega))
      have c3 := Kp.mk (show ∀ W, Calls Tryd.prog 43 #[.string (ofL f)] W fun e w' => (∃ m, e = .returned (.tuple #[m, .bool true]) ∧ Rd w' w'.heap.size 1 m l.length (l.map Str)) ∧ Ext W w' from fun W =>
        (split_any f W (by omega)).mono fun e w' q => by
          obtain ⟨m, he, ho⟩ := q.1 _ hsp
          exact ⟨⟨m, he, Rd.own ho (by decide)⟩, q.2.2⟩)
      have hv := Kp.mk h
      clear hsp hfl hf hl2 hsh h
      have cSp := Kp.mk (fun W => split_any s W (by omega))
      have cRs := Kp.mk (fun W => rsplit_any s W (by omega))
      cases hq : splitL s with
      | none =>
        have d3 := Kp.mk (show ∀ W, Calls Tryd.prog 43 #[.string (ofL s)] W fun e w' => e = .returned (.tuple #[.slice none 0 0, .bool false]) ∧ Ext W w' from fun W => (cSp.out W).mono fun e w' q => ⟨q.2.1 hq, q.2.2⟩)
        have d4 := Kp.mk (show ∀ W, Calls Tryd.prog 44 #[.string (ofL s)] W fun e w' => e = .returned (.tuple #[.slice none 0 0, .bool false]) ∧ Ext W w' from fun W => (cRs.out W).mono fun e w' q => ⟨q.2.1 hq, q.2.2⟩)
        clear hq cSp cRs
        go_enter Tryd.func11, Tryd.ntmps11
        go_wp2_with fail
        refine cSh.out.mono ?_
        rintro e w1 ⟨rfl, E1⟩
        go_wp2_with fail
        refine (c1.out _ E1).mono ?_
        rintro e w2 ⟨rfl, E2⟩
        have F2 := E1.tr E2
        clear E1 E2
        go_wp2_with fail
        refine (c3.out _).mono ?_
        rintro e w3 ⟨⟨m, rfl, hm⟩, E3⟩
        have F3 := F2.tr E3
        have HM := Kp.mk hm
        clear F2 E3 hm
        go_wp2_with fail
        refine (d3.out _).mono ?_
        rintro e w4 ⟨rfl, E4⟩
        have F4 := F3.tr E4
        go_wp2_with fail
        refine (d4.out _).mono ?_
        rintro e w5 ⟨rfl, E5⟩
        have F5 := F4.tr E5
        have E45 := E4.tr E5
        clear F4 E5 E4 F3
        go_wp2_with fail
        refine (c2.out _ F5).mono ?_
        rintro e w6 ⟨rfl, E6⟩
        have F6 := F5.tr E6
        have E46 := E45.tr E6
        clear F5 E45 E6
        go_wp2_with fail
        refine (same_true l m v _ (HM.out.at E46 (Nat.le_refl _) E46.size) (hv.out.at F6 (Nat.le_refl _) F6.size)).mono ?_
        rintro e w7 ⟨rfl, E7⟩
        have F7 := F6.tr E7
        clear F6 E7 HM E46
        go_wp2_with fail
        refine (same_true [] _ _ _ (rd_nil _ _) (rd_nil _ _)).mono ?_
        rintro e w8 ⟨rfl, E8⟩
        have F8 := F7.tr E8
        clear F7 E8
        go_wp2_with fail
        refine (cW.out _ (hT.ext F8)).mono ?_
        rintro e w9 ⟨rfl, E9⟩
        go_wp2
        go_ret
        exact ⟨rfl, F8.tr E9⟩
      | some a =>
        have hfa : frameL a = s := frame_split _ s a (Nat.le_refl _) hq
        have d3 := Kp.mk (show ∀ W, Calls Tryd.prog 43 #[.string (ofL s)] W fun e w' => (∃ m, e = .returned (.tuple #[m, .bool true]) ∧ Rd w' w'.heap.size 1 m a.length (a.map Str)) ∧ Ext W w' from fun W => (cSp.out W).mono fun e w' q => by
          obtain ⟨m, he, ho⟩ := q.1 _ hq
          exact ⟨⟨m, he, Rd.own ho (by decide)⟩, q.2.2⟩)
        have d4 := Kp.mk (show ∀ W, Calls Tryd.prog 44 #[.string (ofL s)] W fun e w' => (∃ m, e = .returned (.tuple #[m, .bool true]) ∧ Rd w' w'.heap.size 1 m a.length (a.map Str)) ∧ Ext W w' from fun W => (cRs.out W).mono fun e w' q => by
          obtain ⟨m, he, ho⟩ := q.1 _ hq
          exact ⟨⟨m, he, Rd.own ho (by decide)⟩, q.2.2⟩)
        have d5 := Kp.mk (show ∀ W va, Rd W W.heap.size 1 va a.length (a.map Str) → Calls Tryd.prog 42 #[va] W fun e w' => e = .returned (.string (ofL s)) ∧ Ext W w' from fun W va h2 => by
          have h3 := frame_any a va W h2 (by rw [hfa]; omega)
          rw [hfa] at h3
          exact h3)
        clear hq cSp cRs hfa
        go_enter Tryd.func11, Tryd.ntmps11
        go_wp2_with fail
        refine cSh.out.mono ?_
        rintro e w1 ⟨rfl, E1⟩
        go_wp2_with fail
        refine (c1.out _ E1).mono ?_
        rintro e w2 ⟨rfl, E2⟩
        have F2 := E1.tr E2
        clear E1 E2
        go_wp2_with fail
        refine (c3.out _).mono ?_
        rintro e w3 ⟨⟨m, rfl, hm⟩, E3⟩
        have F3 := F2.tr E3
        have HM := Kp.mk hm
        clear F2 E3 hm
        go_wp2_with fail
        refine (d3.out _).mono ?_
        rintro e w4 ⟨⟨va, rfl, ha⟩, E4⟩
        have F4 := F3.tr E4
        have HA := Kp.mk ha
        clear ha
        go_wp2_with fail
        refine (d4.out _).mono ?_
        rintro e w5 ⟨⟨vb, rfl, hb⟩, E5⟩
        have F5 := F4.tr E5
        have E45 := E4.tr E5
        have HB := Kp.mk hb
        clear F4 E4 F3 hb
        go_wp2_with fail
        refine (c2.out _ F5).mono ?_
        rintro e w6 ⟨rfl, E6⟩
        have F6 := F5.tr E6
        have E46 := E45.tr E6
        have E56 := E5.tr E6
        clear F5 E45 E5
        go_wp2_with fail
        refine (same_true l m v _ (HM.out.at E46 (Nat.le_refl _) E46.size) (hv.out.at F6 (Nat.le_refl _) F6.size)).mono ?_
        rintro e w7 ⟨rfl, E7⟩
        have F7 := F6.tr E7
        have E57 := E56.tr E7
        have E67 := E6.tr E7
        clear F6 HM E46 E56 E6
        go_wp2_with fail
        refine (same_true a va vb _ (HA.out.at E57 (Nat.le_refl _) E57.size) (HB.out.at E67 (Nat.le_refl _) E67.size)).mono ?_
        rintro e w8 ⟨rfl, E8⟩
        have F8 := F7.tr E8
        have E58 := E57.tr E8
        clear F7 E8 E57 E67 E7 HB
        go_wp2_with fail
        refine (d5.out _ _ (HA.out.at E58 (Nat.le_refl _) E58.size)).mono ?_
        rintro e w9 ⟨rfl, E9⟩
        have F9 := F8.tr E9
        clear F8 E9 E58 HA
        go_wp2_with fail
        refine (cW.out _ (hT.ext F9)).mono ?_
        rintro e w10 ⟨rfl, E10⟩
        go_wp2
        go_ret
        exact ⟨rfl, F9.tr E10⟩
  · have hsh2 : shortL l 12 400 = false := by simpa using hsh
    rw [hsh2] at cSh
    clear hsh hsh2 h
    go_enter Tryd.func11, Tryd.ntmps11
    go_wp2_with fail
    refine cSh.out.mono ?_
    rintro e w1 ⟨rfl, E1⟩
    go_wp2_with fail
    refine (cW.out _ (hT.ext E1)).mono ?_
    rintro e w2 ⟨rfl, E2⟩
    go_wp2
    go_ret
    exact ⟨rfl, E1.tr E2⟩
end Go.Proofs.YteffocenfkcofaaDoor
