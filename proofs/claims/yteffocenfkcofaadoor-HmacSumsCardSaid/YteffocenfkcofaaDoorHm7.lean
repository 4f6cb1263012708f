/-
  Package hmac's reference: tags of texts and of parts; the parts of a frame. Condition: at most 800000 bytes.
-/
import Derived.Test.YteffocenfkcofaaDoorHm6
namespace Go.Proofs.YteffocenfkcofaaDoor
open Go.RowKit

set_option maxHeartbeats 1000000 in
theorem rhmac_any (k s : List UInt8) (w : World) (hk : k.length ≤ 800000) (hs : s.length ≤ 800000) : Calls Tryd.prog 46 #[.string (ofL k), .string (ofL s)] w fun e w' => e = .returned (.string (ofL (hmacL k s))) ∧ Ext w w' := by
  have cT := Kp.mk (rtexts_any k s w hk hs)
  have lO : (outerL k s).length = 96 := by unfold outerL; rw [List.length_append, length_hideL, length_sumL]
  obtain ⟨I, hI⟩ : ∃ I, innerL k s = I := ⟨_, rfl⟩
  obtain ⟨O, hO⟩ : ∃ O, outerL k s = O := ⟨_, rfl⟩
  obtain ⟨X, hX⟩ : ∃ X, sumL O = X := ⟨_, rfl⟩
  have cS := Kp.mk (show ∀ w, Calls Tryd.prog 54 #[.string (ofL O)] w fun e w' => e = .returned (.string (ofL X)) ∧ Ext w w' from fun w => by rw [← hX]; exact rsum_any O w (by rw [← hO, lO]; omega))
  have hR : hmacL k s = X := by unfold hmacL; rw [hO, hX]
  rw [hI, hO] at cT
  rw [hR]
  clear hX hR hI hO lO
  go_enter Tryd.func46, Tryd.ntmps46
  go_wp2_with fail
  refine cT.out.mono ?_
  rintro e w1 ⟨v, rfl, hown, E1⟩
  obtain ⟨g, cap, rfl⟩ := ownsRow_succ hown
  have c1 : w1.cell? ⟨g, 1, none⟩ = some (.string (ofL O)) := (own_cell hown 1 (by decide)).1
  go_wp2_with fail
  refine (cS.out _).mono ?_
  rintro e w2 ⟨rfl, E2⟩
  go_wp2
  go_ret
  exact ⟨rfl, E1.tr E2⟩

theorem rparts_any (k : List UInt8) (l : List (List UInt8)) (v : Value) (w : World) (hk : k.length ≤ 800000) (h : Rd w w.heap.size 1 v l.length (l.map Str)) (hlen : (frameL l).length ≤ 800000) :
    Calls Tryd.prog 27 #[.string (ofL k), v] w fun e w' => e = .returned (.string (ofL (hmacL k (frameL l)))) ∧ Ext w w' := by
  obtain ⟨X, hX⟩ : ∃ X, hmacL k (frameL l) = X := ⟨_, rfl⟩
  have cH := Kp.mk (show ∀ w, Calls Tryd.prog 46 #[.string (ofL k), .string (ofL (frameL l))] w fun e w' => e = .returned (.string (ofL X)) ∧ Ext w w' from fun w => by rw [← hX]; exact rhmac_any k _ w hk hlen)
  have cF := Kp.mk (rframe_any l v w h (by omega))
  rw [hX]
  clear hX h hlen
  go_enter Tryd.func27, Tryd.ntmps27
  go_wp2_with fail
  refine cF.out.mono ?_
  rintro e w1 ⟨rfl, E1⟩
  go_wp2_with fail
  refine (cH.out _).mono ?_
  rintro e w2 ⟨rfl, E2⟩
  go_wp2
  go_ret
  exact ⟨rfl, E1.tr E2⟩

theorem beN_take_le (l : List UInt8) (k j : Nat) (h : k ≤ j) (hj : j ≤ l.length) : beN (l.take k) ≤ beN (l.take j) := by
  induction j with
  | zero =>
    have h0 : k = 0 := by omega
    rw [h0]; exact Nat.le_refl _
  | succ j ih =>
    by_cases he : k = j + 1
    · rw [he]; exact Nat.le_refl _
    · have h1 := ih (by omega) (by omega)
      rw [List.take_succ_eq_append_getElem (show j < l.length by omega), beN_snoc]
      omega
/-- What the outer loop holds. -/
def RSp (w wr : World) (s : List UInt8) (at_ out : Value) : Prop :=
  ∃ (j : Nat) (pre : List (List UInt8)) (v : Value), v = out ∧ j ≤ s.length ∧ at_ = .int .i64 j ∧ pre.length ≤ j ∧ splitL s = (splitL (s.drop j)).map (pre ++ ·) ∧ wr.ownsRow w.heap.size 9 1 v pre.length (pre.map Str) ∧ Ext w wr

set_option maxRecDepth 100000 in
set_option maxHeartbeats 4000000 in
theorem rsplit_any (s : List UInt8) (w : World) (hs : s.length ≤ 1000000) : Calls Tryd.prog 44 #[.string (ofL s)] w (SplitPost w s) := by
  have hsz : (ofL s).size = s.length := size_ofL _
  go_enter Tryd.func44, Tryd.ntmps44
  go_wp2
  go_loopw [5, 4] (fun a o wr => RSp w wr s a o) (fun a _ _ => s.length - (intOf a).toNat)
  case atStart => exact ⟨0, [], _, rfl, Nat.zero_le _, rfl, by simp, by simp, World.ownsRow_nil _ _ _ _, Ext.rfl' _⟩
  case round =>
    obtain ⟨j, pre, v, rfl, hj, rfl, hpl, hsp0, hown, hE⟩ := hrel
    have hsp := Kp.mk hsp0; clear hsp0
    have d1 : IntKind.i64.wrap ((s.length : Int) - j) = (s.length : Int) - j := IntWalk.i64_in _ (by omega)
    have none_case : splitL (s.drop j) = none → ∀ W, Ext w W → SplitPost w s (.returned (.tuple #[.slice none 0 0, .bool false])) W := fun hn W hW => by
      have h : splitL s = none := by rw [hsp.out, hn]; rfl
      exact ⟨fun l hl => (by rw [h] at hl; cases hl), fun _ => rfl, hW⟩
    have NC := Kp.mk none_case; clear none_case
    by_cases h0 : j < s.length
    · by_cases h8 : s.length - j < 8
      · have hn := Kp.mk (splitL_short (s := s.drop j) (by rw [List.length_drop]; omega) (by rw [List.length_drop]; exact h8))
        have d2 : decide ((s.length : Int) - j < 8) = true := by simp; omega
        go_wp2
        refine bodyPost_ret (v := .tuple #[.slice none 0 0, .bool false]) (by simp [results, Tryd.results44, go_sem]) rfl ?_
        exact NC.out hn.out _ hE
      · have d2 : decide ((s.length : Int) - j < 8) = false := by simp; omega
        go_wp2
        go_loop [7, 6] (fun i n => ∃ k p m : Nat, k ≤ 8 ∧ p = j + k ∧ i = .int .i64 p ∧ n = .int .i64 m ∧ m = beN ((s.drop j).take k) ∧ m ≤ 1099511628032) (fun i _ => j + 8 - (intOf i).toNat)
        case atStart => exact ⟨0, j, 0, by omega, rfl, rfl, rfl, rfl, by omega⟩
        case round =>
          obtain ⟨k, p, m, hk, hp0, rfl, rfl, hm0, hml⟩ := hrel
          have hp := Kp.mk hp0; have hm := Kp.mk hm0
          have hps : p ≤ s.length := by omega
          by_cases hlt : k < 8
          · have d3 : decide ((p : Int) < (j : Int) + 8) = true := by simp; omega
            have hpl2 : p < s.length := by omega
            clear hp0 hm0
            by_cases hbig : 4294967296 < m
            · have hn := Kp.mk (splitL_far (s := s.drop j) (by rw [List.length_drop]; omega) (by
                have h1 := beN_take_le (s.drop j) k 8 (by omega) (by rw [List.length_drop]; omega)
                rw [← hm.out] at h1
                rw [List.length_drop, List.length_drop]
                omega))
              have d4 : decide ((4294967296 : Int) < (m : Int)) = true := by simp; omega
              go_wp2
              refine bodyPost_ret (v := .tuple #[.slice none 0 0, .bool false]) (by simp [results, Tryd.results44, go_sem]) rfl ?_
              exact NC.out hn.out _ hE
            · have d4 : decide ((4294967296 : Int) < (m : Int)) = false := by simp; omega
              obtain ⟨c, hcc⟩ : ∃ c, (s[p]).toNat = c := ⟨_, rfl⟩
              have hc256 : c < 256 := by rw [← hcc]; exact (s[p]).toNat_lt
              have e0 : ((ofL s)[p]'(by rw [hsz]; exact hpl2)).toNat = c := by rw [toL_get]; simp only [toL_ofL]; exact hcc
              have hm2 := Kp.mk (show m * 256 + c = beN ((s.drop j).take (k + 1)) from by
                have h1 := hp.out
                subst h1
                rw [List.take_succ_eq_append_getElem (by rw [List.length_drop]; omega), beN_snoc, ← hm.out, List.getElem_drop, hcc])
              clear hcc
              go_wp2
              go_round
              case rel => exact ⟨k + 1, p + 1, m * 256 + c, by omega, by have := hp.out; omega, by go_num, by go_num, hm2.out, by omega⟩
              case measure => simp [intOf]; have := hp.out; omega
          · obtain rfl : k = 8 := by omega
            subst hp0
            clear hm0 hp hlt hk
            obtain ⟨R, hR0⟩ : ∃ R, (s.drop j).drop 8 = R := ⟨_, rfl⟩
            have hRs := Kp.mk (show R = s.drop (j + 8) by rw [← hR0, List.drop_drop])
            have hRl : R.length = s.length - (j + 8) := by rw [hRs.out, List.length_drop]
            have hj8 : j + 8 ≤ s.length := by omega
            have d3 : decide ((j : Int) + 8 < (j : Int) + 8) = false := by simp
            have w1 : IntKind.i64.wrap ((s.length : Int) - ((j : Int) + 8)) = (s.length : Int) - ((j : Int) + 8) := IntWalk.i64_in _ (by omega)
            by_cases hfar : R.length < m
            · have hn := Kp.mk (splitL_far (s := s.drop j) (by rw [List.length_drop]; omega) (by rw [hR0, ← hm.out]; exact hfar))
              have d4 : decide ((s.length : Int) - ((j : Int) + 8) < (m : Int)) = true := by simp; omega
              clear hR0 hRl
              go_wp2
              refine bodyPost_ret (v := .tuple #[.slice none 0 0, .bool false]) (by simp [results, Tryd.results44, go_sem]) rfl ?_
              exact NC.out hn.out _ hE
            · have hn := Kp.mk (splitL_cons (s := s.drop j) (by rw [List.length_drop]; omega) (by rw [hR0, ← hm.out]; omega))
              rw [hR0, ← hm.out] at hn
              have d4 : decide ((s.length : Int) - ((j : Int) + 8) < (m : Int)) = false := by simp; omega
              have hml2 : j + 8 + m ≤ s.length := by omega
              obtain ⟨P, hP⟩ : ∃ P, R.take m = P := ⟨_, rfl⟩
              have ex : (ofL s).extract (j + 8) (j + 8 + m) = ofL P := by
                rw [ofL_extract, ← hP, hRs.out, show j + 8 + m - (j + 8) = m by omega]
              have t1 : ((j : Int) + 8).toNat = j + 8 := by omega
              have t2 : ((j : Int) + 8 + m).toNat = j + 8 + m := by omega
              have hs2 := Kp.mk (show splitL s = (splitL (s.drop (j + 8 + m))).map ((pre ++ [P]) ++ ·) from by
                rw [hsp.out, hn.out, hP, hRs.out, List.drop_drop, Option.map_map]
                congr 1
                funext x
                simp)
              have hszw := hE.size
              clear hR0 hRl hP hRs hn NC hsp hfar
              go_wp2_with (at_builtin; refine wpl_app Tryd.elemStr rfl _ _ rfl hown 1 rfl rfl rfl (by intro u hu; simp at hu; rw [hu]; rfl) (by omega) (by omega) (by omega) ?_; intro v2 w2 hown2 hg2; have hE2 := hE.own hg2 hown (Nat.le_refl _); clear hown hg2)
              go_roundw
              case rel => exact ⟨j + 8 + m, pre ++ [P], v2, rfl, hml2, by go_num, by rw [List.length_append]; simp; omega, hs2.out, own_eq hown2 (by simp [Str]) (by simp), hE2⟩
              case measure => simp [intOf]; omega
    · have hn := Kp.mk (splitL_nil (s := s.drop j) (by rw [List.length_drop]; omega))
      have hs2 := Kp.mk (show splitL s = some pre from by rw [hsp.out, hn.out]; simp)
      clear hsp NC hn
      go_wp2
      refine bodyPost_ret (v := .tuple #[v, .bool true]) (by simp [results, Tryd.results44, go_sem]) rfl ?_
      refine ⟨fun l hl => ?_, fun hn => ?_, hE⟩
      · rw [hs2.out] at hl; cases hl
        exact ⟨v, rfl, hown⟩
      · rw [hs2.out] at hn; cases hn
end Go.Proofs.YteffocenfkcofaaDoor
