/-
  The statements on bounds: BoundTags returns true. Conditions: the library's variable errors.errorType holds the type of error; the package's table holds the constants.
-/
import Derived.Test.YtejhiekikblbiaaGreatDoorMgK
import Derived.Test.YtejhiekikblbiaaGreatDoorBu3
import Derived.Test.YtejhiekikblbiaaGreatDoorBu11
import Derived.Test.YtejhiekikblbiaaGreatDoorTkPut
import Derived.Test.YtejhiekikblbiaaGreatDoorVe8
import Derived.Test.YtejhiekikblbiaaGreatDoorVe9
namespace Go.Proofs.YtejhiekikblbiaaGreatDoor
open Go.RowKit

theorem okT_small {t : TokA} (h : SmallT t) : OkT t := ⟨by have := h.1; omega, by have := h.2.1; omega, fun x hx => by have := h.2.2.2.1 x hx; omega, by have := h.2.2.1; omega⟩
theorem bunPut_short {t : TokL} {m : List TokL} (h : (bunPutR t m).2 = 0) : (bunPutR t m).1.length ≤ 65536 := by
  unfold bunPutR at h ⊢
  split at h
  · cases h
  · rename_i h0
    rw [if_neg h0]
    apply Classical.byContradiction
    intro h1
    exact h0 ⟨h, by omega⟩
set_option maxRecDepth 100000 in
set_option maxHeartbeats 4000000 in
theorem boundTags_walk (k : List UInt8) (t : TokA) (Am : Option Addr) (cm : Nat) (more : List TokA) (w : World) (hT : Tab w) (hE : ErrT w) (hl : RdLinks w w.heap.size (.slice t.A t.l.length t.c) t.l) (hm : RdToks w w.heap.size (.slice Am more.length cm) more) (hk : k.length ≤ 9223372036854775807) :
    Calls Tryz.prog 6 #[.string (ofL k), bunV t.id (.slice t.A t.l.length t.c) t.tag (.slice Am more.length cm)] w fun e w' => e = .returned (.bool true) ∧ Ext w w' := by
  obtain ⟨W, hW, E0, A0⟩ : ∃ W, w.alloc (.cells #[.string (ofL t.id), .slice t.A t.l.length t.c, .string (ofL t.tag), .slice Am more.length cm] 41) = W ∧ Ext w W ∧ Arr W w.heap.size 41 [.string (ofL t.id), .slice t.A t.l.length t.c, .string (ofL t.tag), .slice Am more.length cm] := ⟨_, rfl, (Ext.rfl' w).al _, Arr.new w _ [.string (ofL t.id), .slice t.A t.l.length t.c, .string (ofL t.tag), .slice Am more.length cm]⟩
  have HW := Kp.mk hW
  have zk : (ofL k).size = k.length := size_ofL _
  have a0 := A0.cell 0; have a1 := A0.cell 1; have a2 := A0.cell 2; have a3 := A0.cell 3
  simp only [List.getElem?_cons_zero, List.getElem?_cons_succ] at a0 a1 a2 a3
  by_cases hk1 : 100 < k.length
  · have d1 : decide ((100 : Int) < (k.length : Int)) = true := by simp; omega
    have F1 := E0
    clear hW hl hm hk1
    unfold bunV
    go_enter Tryz.func6, Tryz.ntmps6
    go_upto_region 1 with fail
    rw [HW.out]
    clear HW
    go_wp2_with fail
    refine (bo_works _).mono ?_
    rintro e w2 ⟨rfl, E2⟩
    go_wp2
    go_ret
    exact ⟨rfl, F1.tr E2⟩
  · have d1 : decide ((100 : Int) < (k.length : Int)) = false := by simp; omega
    obtain ⟨gb, hgb, cG⟩ := bgreat_det t more
    replace cG := cG Am cm W (rd_at hl E0) (hm.at E0)
    unfold bunV at cG ⊢
    replace cG := Kp.mk cG
    cases gb with
    | true =>
      clear hW hl hm hk1 hgb
      go_enter Tryz.func6, Tryz.ntmps6
      go_upto_region 1 with fail
      rw [HW.out]
      clear HW
      go_wp2_with fail
      refine cG.out.mono ?_
      rintro e w1 ⟨rfl, E1⟩
      have F1 := E0.tr E1
      clear a0 a1 a2 a3 A0 cG E0 E1
      go_wp2_with fail
      refine (bo_works _).mono ?_
      rintro e w2 ⟨rfl, E2⟩
      go_wp2
      go_ret
      exact ⟨rfl, F1.tr E2⟩
    | false =>
      obtain ⟨hn, hst, hsm⟩ := hgb.1 rfl
      have cP := fun (W : World) (h : Ext w W) => buput_any t Am cm more W (hE.ext h) (rd_at hl h) (hm.at h) (by have := hst.2.1; omega) (fun d hd => by have := (hsm d hd).2.1; omega) (by omega)
      have cV := fun (W : World) (h : Ext w W) => vwork_any k t.id t.tag t.A t.c t.l Am cm more W (hT.ext h) (rd_at hl h) (hm.at h) (by omega) (okT_small hst) (fun d hd => okT_small (hsm d hd)) (by omega)
      have cM := fun (W : World) (h : Ext w W) => vmost_any t.id t.tag t.A t.c t.l Am cm more W (rd_at hl h) (hm.at h) (by have := hst.2.2.1; omega) (fun d hd => by have := (hsm d hd).2.2.1; omega) (by omega)
      have hbm := fun h => bunPut_most (t := t.plain) (more := more.map TokA.plain) h
      have hwm := work_most k t.plain (more.map TokA.plain)
      have hlen := fun h => bunPut_short (t := t.plain) (m := more.map TokA.plain) h
      obtain ⟨⟨X, x⟩, hX⟩ : ∃ X, bunPutR t.plain (more.map TokA.plain) = X := ⟨_, rfl⟩
      obtain ⟨wk, hwk⟩ : ∃ n, (proveL k t.plain (more.map TokA.plain)).1.work = n := ⟨_, rfl⟩
      obtain ⟨mo, hmo⟩ : ∃ n, mostL t.plain (more.map TokA.plain) = n := ⟨_, rfl⟩
      simp only [hX] at cP
      rw [show (⟨t.id, t.l, t.tag⟩ : TokL) = t.plain from rfl] at cV cM
      simp only [hwk] at cV
      simp only [hmo] at cM
      rw [hX] at hbm hlen
      rw [hmo] at hbm hwm
      rw [hwk] at hwm
      dsimp only at hbm hlen
      have cB := fun (h : x = 0) (W : World) => btags_any X.length (by have := hlen h; omega) W
      unfold bunV at cP cV cM
      replace cP := Kp.mk cP; replace cV := Kp.mk cV; replace cM := Kp.mk cM; replace cB := Kp.mk cB
      replace hbm := Kp.mk hbm
      replace hwm := Kp.mk hwm
      have HM := Kp.mk hm
      have zX : (ofL X).size = X.length := size_ofL _
      clear hX hwk hmo hst hsm hgb hW hl hm hk1 hlen
      go_enter Tryz.func6, Tryz.ntmps6
      go_upto_region 1 with fail
      rw [HW.out]
      clear HW
      by_cases hl12 : 12 < t.l.length
      · have d2 : decide ((12 : Int) < (t.l.length : Int)) = true := by simp; omega
        go_wp2_with fail
        refine cG.out.mono ?_
        rintro e w1 ⟨rfl, E1⟩
        have F1 := E0.tr E1
        have A1 := A0.ext E1 A0.lt
        clear a0 a1 a2 a3 A0 cG E0 E1 hl12
        have a1 := A1.cell 1
        simp only [List.getElem?_cons_zero, List.getElem?_cons_succ] at a1
        go_wp2_with fail
        refine (bo_works _).mono ?_
        rintro e w2 ⟨rfl, E2⟩
        go_wp2
        go_ret
        exact ⟨rfl, F1.tr E2⟩
      · have d2 : decide ((12 : Int) < (t.l.length : Int)) = false := by simp; omega
        go_wp2_with fail
        refine cG.out.mono ?_
        rintro e w1 ⟨rfl, E1⟩
        have F0 := E0.tr E1
        have A1 := A0.ext E1 A0.lt
        clear a0 a1 a2 a3 A0 cG E0 E1 hl12
        have a1 := A1.cell 1
        simp only [List.getElem?_cons_zero, List.getElem?_cons_succ] at a1
        go_wp2_with fail
        go_loopw [5] (fun i wr => ∃ j : Nat, j ≤ more.length ∧ i = .int .i64 j ∧ Ext w wr ∧ Arr wr w.heap.size 41 [.string (ofL t.id), .slice t.A t.l.length t.c, .string (ofL t.tag), .slice Am more.length cm]) (fun i _ => more.length - (intOf i).toNat)
        case atStart => exact ⟨0, by omega, rfl, F0, A1⟩
        case round =>
          clear F0 A1 a1
          obtain ⟨j, hj, rfl, F1, hA⟩ := hrel
          have a3 := hA.cell 3
          simp only [List.getElem?_cons_zero, List.getElem?_cons_succ] at a3
          by_cases hlt : j < more.length
          · obtain ⟨bm, om, hAm, -, hcm⟩ := HM.out.tok j hlt
            subst hAm
            obtain ⟨q0, q1, q2⟩ := hcm wr F1
            obtain ⟨nl, hnl⟩ : ∃ nl, more[j].l.length = nl := ⟨_, rfl⟩
            rw [hnl] at q1
            clear hcm q0 q2 hnl
            by_cases h12 : 12 < nl
            · have d3 : decide ((12 : Int) < (nl : Int)) = true := by simp; omega
              clear h12
              go_wp2_with fail
              refine (bo_works _).mono ?_
              rintro e w2 ⟨rfl, E2⟩
              go_wp2
              go_ret
              exact ⟨rfl, F1.tr E2⟩
            · have d3 : decide ((12 : Int) < (nl : Int)) = false := by simp; omega
              clear h12
              go_wp2
              go_roundw
              case rel => exact ⟨j + 1, by omega, by go_num, F1, hA⟩
              case measure => simp [intOf]; omega
          · obtain rfl : j = more.length := by omega
            have a0 := hA.cell 0; have a1 := hA.cell 1; have a2 := hA.cell 2
            simp only [List.getElem?_cons_zero, List.getElem?_cons_succ] at a0 a1 a2
            go_wp2_with fail
            refine (cP.out _ F1).mono ?_
            rintro e w4 ⟨rfl, E4⟩
            have F4 := F1.tr E4
            have A4 := hA.ext E4 hA.lt
            clear a0 a1 a2 a3 hA F1 E4 cP
            by_cases hx : x = 0
            · have cB2 := Kp.mk (cB.out hx)
              have hb := hbm.out hx
              have hw := hwm.out
              obtain ⟨hf, hhf⟩ : ∃ n, X.length / 2 = n := ⟨_, rfl⟩
              rw [hhf] at hb cB2
              have tx : ((x : Int) != 0) = false := by simp; omega
              have g1 : wk ≤ hf := by omega
              have g2 : mo ≤ hf := by omega
              have a0 := A4.cell 0; have a1 := A4.cell 1; have a2 := A4.cell 2; have a3 := A4.cell 3
              simp only [List.getElem?_cons_zero, List.getElem?_cons_succ] at a0 a1 a2 a3
              clear hx hb hw hhf hbm hwm cB
              go_wp2_with fail
              refine (cV.out _ F4).mono ?_
              rintro e w5 ⟨rfl, E5⟩
              have F5 := F4.tr E5
              have A5 := A4.ext E5 A4.lt
              clear a0 a1 a2 a3 A4 F4 E5 cV
              have a0 := A5.cell 0; have a1 := A5.cell 1; have a2 := A5.cell 2; have a3 := A5.cell 3
              simp only [List.getElem?_cons_zero, List.getElem?_cons_succ] at a0 a1 a2 a3
              go_wp2_with fail
              refine (cB2.out _).mono ?_
              rintro e w6 ⟨rfl, E6⟩
              have F6 := F5.tr E6
              have A6 := A5.ext E6 A5.lt
              clear a0 a1 a2 a3 A5 F5 E6
              have a0 := A6.cell 0; have a1 := A6.cell 1; have a2 := A6.cell 2; have a3 := A6.cell 3
              simp only [List.getElem?_cons_zero, List.getElem?_cons_succ] at a0 a1 a2 a3
              go_wp2_with fail
              refine (cM.out _ F6).mono ?_
              rintro e w7 ⟨rfl, E7⟩
              have F7 := F6.tr E7
              clear a0 a1 a2 a3 A6 F6 E7 cM
              go_wp2_with fail
              refine (cB2.out _).mono ?_
              rintro e w8 ⟨rfl, E8⟩
              have F1 := F7.tr E8
              clear F7 E8 cB2
              go_wp2_with fail
              refine (bo_works _).mono ?_
              rintro e w2 ⟨rfl, E2⟩
              go_wp2
              go_ret
              exact ⟨rfl, F1.tr E2⟩
            · have tx : ((x : Int) != 0) = true := by simp; omega
              have F1 := F4
              clear hx hbm hwm cB cV cM A4 F4
              go_wp2_with fail
              refine (bo_works _).mono ?_
              rintro e w2 ⟨rfl, E2⟩
              go_wp2
              go_ret
              exact ⟨rfl, F1.tr E2⟩
end Go.Proofs.YtejhiekikblbiaaGreatDoor
