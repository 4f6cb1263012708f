/-
  Package ring: whether a tenant may be. Condition: what is read is in memory.
-/
import Derived.Test.YtmnpbpfeoackiaaBt2
namespace Go.Proofs.Ytmnpbpfeoackiaa
open Go.RowKit

theorem wordn_any (n : List UInt8) (w : World) : Calls Try.prog 45 #[.string (ofL n)] w fun e w' => e = .returned (.bool (wordL n)) ∧ Ext w w' := by
  have h := word_any (ofL n) w
  rw [toL_ofL] at h
  exact h
set_option maxRecDepth 100000 in
set_option maxHeartbeats 2000000 in
theorem right_any {t : TnA} {w : World} (H : RdKys w t) (hl : t.keys.length ≤ 1000) : Calls Try.prog 50 #[tnV t] w fun e w' => e = .returned (.bool (bP (RightT t))) ∧ Ext w w' := by
  obtain ⟨W, hW, E0, A0⟩ : ∃ W, w.alloc (.cells #[.string (ofL t.name), .int .i64 t.ep, .int .i64 t.nx, .slice t.A t.keys.length t.c] 47) = W ∧ Ext w W ∧ Arr W w.heap.size 47 (tnC t) := ⟨_, rfl, (Ext.rfl' w).al _, Arr.new w _ (tnC t)⟩
  have HW := Kp.mk hW
  have hcl := Kp.mk (H.at E0).cells
  have cR := Kp.mk (fun W' (hW' : Ext W W') => krises_any (H.at (E0.tr hW')) hl)
  obtain ⟨n, hn⟩ : ∃ n, t.keys.length = n := ⟨_, rfl⟩
  rw [hn] at hcl hl
  simp only [hn] at cR
  have HN := Kp.mk hn
  obtain ⟨rb, hrb⟩ : ∃ b, bP (RightT t) = b := ⟨_, rfl⟩
  rw [hrb]
  have HB := Kp.mk hrb
  obtain ⟨wb, hwb⟩ : ∃ b, wordL t.name = b := ⟨_, rfl⟩
  obtain ⟨eb, heb⟩ : ∃ b, bP (FromP t.ep 0) = b := ⟨_, rfl⟩
  obtain ⟨xb, hxb⟩ : ∃ b, bP (FromP t.nx 1) = b := ⟨_, rfl⟩
  have cW := Kp.mk (fun W => wordn_any t.name W)
  have cE := Kp.mk (fun W => from_any t.ep 0 W)
  have cX := Kp.mk (fun W => from_any t.nx 1 W)
  rw [hwb] at cW
  rw [heb] at cE
  rw [hxb] at cX
  have HWB := Kp.mk hwb; have HEB := Kp.mk heb; have HXB := Kp.mk hxb
  unfold tnC at A0
  rw [hn] at A0 hW HW
  unfold tnV
  rw [hn]
  clear hW hn hrb hwb heb hxb
  go_enter Try.func50, Try.ntmps50
  go_upto_region 1 with fail
  rw [HW.out]
  clear HW
  have c0 := A0.cell 0
  simp only [List.getElem?_cons_zero] at c0
  go_wp2_with fail
  refine (cW.out _).mono ?_
  rintro e W1 ⟨rfl, E1⟩
  have A1 := A0.ext E1 A0.lt
  have F1 := E0.tr E1
  have c1 := A1.cell 1
  simp only [List.getElem?_cons_zero, List.getElem?_cons_succ] at c1
  clear c0 cW
  cases wb with
  | false =>
    have hno : ¬ RightT t := fun h => by have := h.1; rw [HWB.out] at this; cases this
    have EE := F1
    clear c1
    obtain rfl : rb = false := by rw [← HB.out]; exact bP_no hno
    clear hno HB
    go_wp2
    go_ret
    exact ⟨rfl, EE⟩
  | true =>
    go_wp2_with fail
    refine (cE.out _).mono ?_
    rintro e W2 ⟨rfl, E2⟩
    have A2 := A1.ext E2 A1.lt
    have G2 := E1.tr E2
    have c2 := A2.cell 2
    simp only [List.getElem?_cons_zero, List.getElem?_cons_succ] at c2
    clear c1 cE A1 F1 E1
    cases eb with
    | false =>
      have hno : ¬ RightT t := fun h => by have := bP_yes h.2.1; rw [HEB.out] at this; cases this
      have EE := E0.tr G2
      clear c2
      obtain rfl : rb = false := by rw [← HB.out]; exact bP_no hno
      clear hno HB
      go_wp2
      go_ret
      exact ⟨rfl, EE⟩
    | true =>
      go_wp2_with fail
      refine (cX.out _).mono ?_
      rintro e W3 ⟨rfl, E3⟩
      have A3 := A2.ext E3 A2.lt
      have G3 := G2.tr E3
      have c3 := A3.cell 3
      simp only [List.getElem?_cons_zero, List.getElem?_cons_succ] at c3
      clear c2 cX A2 G2 E2 E3
      cases xb with
      | false =>
        have hno : ¬ RightT t := fun h => by have := bP_yes h.2.2.1; rw [HXB.out] at this; cases this
        have EE := E0.tr G3
        clear c3
        obtain rfl : rb = false := by rw [← HB.out]; exact bP_no hno
        clear hno HB
        go_wp2
        go_ret
        exact ⟨rfl, EE⟩
      | true =>
        by_cases h8 : 8 < n
        · have q8 : decide ((8 : Int) < (n : Int)) = true := by simp; omega
          have hno : ¬ RightT t := fun h => by have := h.2.2.2.1; rw [HN.out] at this; omega
          have EE := E0.tr G3
          obtain rfl : rb = false := by rw [← HB.out]; exact bP_no hno
          clear hno HB
          go_wp2
          go_ret
          exact ⟨rfl, EE⟩
        · have q8 : decide ((8 : Int) < (n : Int)) = false := by simp; omega
          go_upto_region 4 with fail
          clear c3 A3 q8
          go_loopw [30] (fun i wr => ∃ j : Nat, i = .int .i64 j ∧ j ≤ n ∧ Ext W wr ∧ (∀ (k : Nat) (x : KyL), k < j → t.keys[k]? = some x → KeyP t.nx x)) (fun i _ => n - (intOf i).toNat)
          case atStart => exact ⟨0, rfl, Nat.zero_le _, G3, fun k _ h => absurd h (by omega)⟩
          case round =>
            clear G3
            obtain ⟨j, rfl, hjn, E, hpre⟩ := hrel
            have HPRE := Kp.mk hpre
            clear hpre
            have AR := A0.ext E A0.lt
            have EE := E0.tr E
            by_cases hlt : j < n
            · obtain ⟨b, off, hA, hbw, hcell⟩ := hcl.out (by omega)
              obtain ⟨x, hx⟩ : ∃ x, t.keys[j]? = some x := ⟨_, List.getElem?_eq_getElem (by rw [HN.out]; exact hlt)⟩
              obtain ⟨d0, d1⟩ := hcell j x hx wr E
              have HX := Kp.mk hx; have HA := Kp.mk hA
              rw [hA]
              clear hcell hx hA
              go_upto_region 6 with fail
              obtain ⟨V5, hV5, E5, B5⟩ : ∃ V, wr.alloc (.cells #[.int .i64 x.num, .string (ofL x.text)] 73) = V ∧ Ext wr V ∧ Arr V wr.heap.size 73 [.int .i64 x.num, .string (ofL x.text)] := ⟨_, rfl, (Ext.rfl' wr).al _, Arr.new wr _ [.int .i64 x.num, .string (ofL x.text)]⟩
              rw [hV5]
              have b0 := B5.cell 0; have b1 := B5.cell 1
              have A5 := AR.ext E5 AR.lt
              have c2 := A5.cell 2
              simp only [List.getElem?_cons_zero, List.getElem?_cons_succ] at b0 b1 c2
              replace E := E.tr E5
              replace EE := EE.tr E5
              have hsx : (ofL x.text).size = x.text.length := size_ofL _
              clear hV5 d0 d1 E5 B5 A5 AR
              by_cases p1 : x.num < 1
              · have q1 := decide_eq_true p1
                have hno : ¬ RightT t := fun h => by have := (h.2.2.2.2.1 j x HX.out).1; omega
                obtain rfl : rb = false := by rw [← HB.out]; exact bP_no hno
                clear hno HB
                go_wp2
                go_ret
                exact ⟨rfl, EE⟩
              · have q1 := decide_eq_false p1
                by_cases p2 : t.nx ≤ x.num
                · have q2 := decide_eq_true p2
                  have hno : ¬ RightT t := fun h => by have := (h.2.2.2.2.1 j x HX.out).2.1; omega
                  obtain rfl : rb = false := by rw [← HB.out]; exact bP_no hno
                  clear hno HB
                  go_wp2
                  go_ret
                  exact ⟨rfl, EE⟩
                · have q2 := decide_eq_false p2
                  by_cases p3 : x.text.length = 32
                  · have q3 : ((x.text.length : Int) != 32) = false := by rw [p3]; rfl
                    have HP2 := Kp.mk (show ∀ (k : Nat) (y : KyL), k < j + 1 → t.keys[k]? = some y → KeyP t.nx y from fun k y hk hy => by
                      by_cases hkj : k < j
                      · exact HPRE.out k y hkj hy
                      · obtain rfl : k = j := by omega
                        rw [HX.out] at hy
                        obtain rfl := Option.some.inj hy
                        exact ⟨by omega, by omega, p3⟩)
                    clear p3
                    go_wp2_with fail
                    go_roundw
                    case rel => exact ⟨j + 1, by go_num, hlt, E, HP2.out⟩
                    case measure => simp [intOf]; omega
                  · have q3 : ((x.text.length : Int) != 32) = true := by simp; omega
                    have hno : ¬ RightT t := fun h => p3 (h.2.2.2.2.1 j x HX.out).2.2
                    obtain rfl : rb = false := by rw [← HB.out]; exact bP_no hno
                    clear hno HB
                    go_wp2
                    go_ret
                    exact ⟨rfl, EE⟩
            · have c3 := AR.cell 3
              simp only [List.getElem?_cons_zero, List.getElem?_cons_succ] at c3
              have hall : ∀ (k : Nat) (x : KyL), t.keys[k]? = some x → KeyP t.nx x := fun k x hx => HPRE.out k x (by
                have := (List.getElem?_eq_some_iff.1 hx).1
                rw [HN.out] at this
                omega) hx
              have hbE : FromP t.ep 0 := Classical.byContradiction fun h => by have := HEB.out; rw [bP_no h] at this; cases this
              have hbX : FromP t.nx 1 := Classical.byContradiction fun h => by have := HXB.out; rw [bP_no h] at this; cases this
              have hrb : bP (RisesK t.keys) = rb := by
                rw [← HB.out]
                by_cases hr : RisesK t.keys
                · rw [bP_yes hr, bP_yes (show RightT t from ⟨HWB.out, hbE, hbX, by rw [HN.out]; omega, hall, hr⟩)]
                · rw [bP_no hr, bP_no (fun h : RightT t => hr h.2.2.2.2.2)]
              have cR2 := cR.out wr E
              rw [hrb] at cR2
              replace cR2 := Kp.mk cR2
              clear hall hbE hbX hrb HPRE cR
              go_wp2_with fail
              refine cR2.out.mono ?_
              rintro e W9 ⟨rfl, E9⟩
              go_wp2
              go_ret
              exact ⟨rfl, EE.tr E9⟩
end Go.Proofs.Ytmnpbpfeoackiaa
