/-
  The statements on tokens: TokenPuts, TokenGets, TokenBack: each returns true. Condition: the library's variable errors.errorType holds the type of error.
-/
import Derived.Test.YtmnpbpfeoackiaaDoorTk6
namespace Go.Proofs.YtmnpbpfeoackiaaDoor
open Go.RowKit

set_option maxRecDepth 100000 in
set_option maxHeartbeats 2000000 in
theorem tokenGets_walk (s : List UInt8) (w : World) (hT : ErrT w) (hs : s.length ≤ 9223372036854775807) : Calls Tryd.prog 4 #[.string (ofL s)] w fun e w' => e = .returned (.bool true) ∧ Ext w w' := by
  have zs : (ofL s).size = s.length := size_ofL _
  by_cases h : 6000 < s.length
  · have d1 : decide ((6000 : Int) < (s.length : Int)) = true := by simp; omega
    clear h
    go_enter Tryd.func4, Tryd.ntmps4
    go_wp2_with fail
    refine (tk_works _ hT).mono ?_
    rintro e w1 ⟨rfl, E1⟩
    go_wp2
    go_ret
    exact ⟨rfl, E1⟩
  · have d1 : decide ((6000 : Int) < (s.length : Int)) = false := by simp; omega
    have cA := fun W => tkget_any s W (by omega)
    have cB := fun W => rtkget_any s W (by omega)
    obtain ⟨⟨⟨i, l, t⟩, x⟩, hR⟩ : ∃ R, tokGetR s = R := ⟨_, rfl⟩
    simp only [hR] at cA cB
    unfold TokGot at cA cB
    unfold tokV at cA cB
    dsimp only at cA cB
    have cA := Kp.mk cA; have cB := Kp.mk cB
    clear h hR
    go_enter Tryd.func4, Tryd.ntmps4
    go_wp2_with fail
    refine (cA.out _).mono ?_
    rintro e w1 ⟨v1, rfl, own1, E1⟩
    obtain ⟨A1, c1, rfl⟩ := own_slice own1
    have r1 := own_links own1 rfl
    obtain ⟨V, hV, EV, DV⟩ : ∃ V, w1.alloc (.cells #[.string (ofL i), .slice A1 l.length c1, .string (ofL t)] 24) = V ∧ Ext w1 V ∧ Arr V w1.heap.size 24 [.string (ofL i), .slice A1 l.length c1, .string (ofL t)] := ⟨_, rfl, (Ext.rfl' w1).al _, Arr.new w1 _ [.string (ofL i), .slice A1 l.length c1, .string (ofL t)]⟩
    have F1 := E1.tr EV
    have r2 := rd_at r1 EV
    have HV := Kp.mk hV
    clear hV own1 E1 EV r1
    go_upto_region 4 with fail
    rw [HV.out]
    clear HV
    go_wp2_with fail
    refine (cB.out _).mono ?_
    rintro e w2 ⟨v2, rfl, own2, E2⟩
    obtain ⟨A2, c2, rfl⟩ := own_slice own2
    have r3 := own_links own2 rfl
    obtain ⟨U, hU, EU, DU⟩ : ∃ V, w2.alloc (.cells #[.string (ofL i), .slice A2 l.length c2, .string (ofL t)] 24) = V ∧ Ext w2 V ∧ Arr V w2.heap.size 24 [.string (ofL i), .slice A2 l.length c2, .string (ofL t)] := ⟨_, rfl, (Ext.rfl' w2).al _, Arr.new w2 _ [.string (ofL i), .slice A2 l.length c2, .string (ofL t)]⟩
    have F2 := (F1.tr E2).tr EU
    have D2 := (DV.ext E2 DV.lt).ext EU (by have := E2.size; have := DV.lt; omega)
    have r4 := rd_at r2 (E2.tr EU)
    have r5 := rd_at r3 EU
    have cE := Kp.mk (sameToken_any i t (.slice A1 l.length c1) l i t (.slice A2 l.length c2) l U r4 r5)
    have HS := Kp.mk (show sameTok i t l i t l = true from decide_eq_true ⟨rfl, rfl, rfl⟩)
    have HU := Kp.mk hU
    clear hU own2 E2 EU r2 r3 r4 r5 F1 DV
    go_upto_region 5 with fail
    rw [HU.out]
    clear HU
    have a0 := D2.cell 0; have a1 := D2.cell 1; have a2 := D2.cell 2
    have b0 := DU.cell 0; have b1 := DU.cell 1; have b2 := DU.cell 2
    simp only [List.getElem?_cons_zero, List.getElem?_cons_succ] at a0 a1 a2 b0 b1 b2
    go_wp2_with fail
    refine cE.out.mono ?_
    rw [HS.out]
    rintro e w3 ⟨rfl, E3⟩
    have F3 := F2.tr E3
    clear a0 a1 a2 b0 b1 b2 D2 DU F2 E3 cE
    go_wp2_with fail
    refine (tk_works _ (hT.ext F3)).mono ?_
    rintro e w4 ⟨rfl, E4⟩
    go_wp2
    go_ret
    exact ⟨rfl, F3.tr E4⟩

set_option maxRecDepth 100000 in
set_option maxHeartbeats 4000000 in
theorem tokenPuts_walk (id tag : List UInt8) (A : Option Addr) (c : Nat) (l : List LinkL) (w : World) (hT : ErrT w) (hl : RdLinks w w.heap.size (.slice A l.length c) l) :
    Calls Tryd.prog 3 #[tokV id (.slice A l.length c) tag] w fun e w' => e = .returned (.bool true) ∧ Ext w w' := by
  obtain ⟨W, hW, E0, A0⟩ : ∃ W, w.alloc (.cells #[.string (ofL id), .slice A l.length c, .string (ofL tag)] 24) = W ∧ Ext w W ∧ Arr W w.heap.size 24 [.string (ofL id), .slice A l.length c, .string (ofL tag)] := ⟨_, rfl, (Ext.rfl' w).al _, Arr.new w _ [.string (ofL id), .slice A l.length c, .string (ofL tag)]⟩
  have HW := Kp.mk hW
  have a0 := A0.cell 0; have a1 := A0.cell 1; have a2 := A0.cell 2
  simp only [List.getElem?_cons_zero, List.getElem?_cons_succ] at a0 a1 a2
  obtain ⟨gb, hgb, cG⟩ := great_det id tag l
  have cG := Kp.mk cG; have HL := Kp.mk hl
  unfold tokV at *
  clear hW hl
  cases gb with
  | true =>
    go_enter Tryd.func3, Tryd.ntmps3
    go_wp2_with fail
    rw [HW.out]
    refine (cG.out _ _ (rd_at HL.out E0)).mono ?_
    rintro e w1 ⟨rfl, E1⟩
    have F1 := E0.tr E1
    clear a0 a1 a2 A0
    go_wp2_with fail
    refine (tk_works _ (hT.ext F1)).mono ?_
    rintro e w2 ⟨rfl, E2⟩
    go_wp2
    go_ret
    exact ⟨rfl, F1.tr E2⟩
  | false =>
    have hsm := hgb.1 rfl
    have hsh := toksmall_short hsm
    have hsh2 : TokShort id tagL l := ⟨hsh.1, by show 32 ≤ 10000; omega, hsh.2.2.1, hsh.2.2.2⟩
    have cP := Kp.mk (fun (W : World) (hE : Ext w W) => tkput_any id tag (.slice A l.length c) l W (hT.ext hE) (rd_at HL.out hE) hsh.2.1)
    have cR := Kp.mk (fun (W : World) (hE : Ext w W) => rtkput_any id tag (.slice A l.length c) l W (rd_at HL.out hE) hsh)
    have cQ := Kp.mk (fun (W : World) (hE : Ext w W) => rtkput_any id tagL (.slice A l.length c) l W (rd_at HL.out hE) hsh2)
    have cS := Kp.mk (fun (W : World) (hE : Ext w W) => tksize_any id tag (.slice A l.length c) l W (rd_at HL.out hE))
    have hsz := Kp.mk (size_put ⟨id, l, tag⟩)
    dsimp only at hsz
    obtain ⟨⟨X, x⟩, hX⟩ : ∃ R, tokPutR ⟨id, l, tag⟩ = R := ⟨_, rfl⟩
    obtain ⟨⟨Y, y⟩, hY⟩ : ∃ R, tokPutR ⟨id, l, tagL⟩ = R := ⟨_, rfl⟩
    obtain ⟨Z, hZ⟩ : ∃ R, tokSize ⟨id, l, tag⟩ = R := ⟨_, rfl⟩
    simp only [hX] at cP cR
    simp only [hY] at cQ
    simp only [hZ] at cS
    rw [hY, hZ] at hsz
    dsimp only at hsz
    have hlit2 : ofL tagL = ⟨#[48, 49, 50, 51, 52, 53, 54, 55, 56, 57, 97, 98, 99, 100, 101, 102, 48, 49, 50, 51, 52, 53, 54, 55, 56, 57, 97, 98, 99, 100, 101, 102]⟩ := rfl
    unfold tokV at cP cR cQ cS
    rw [hlit2] at cQ
    clear hX hY hZ hlit2 hsm hsh hsh2 hgb
    go_enter Tryd.func3, Tryd.ntmps3
    go_wp2_with fail
    rw [HW.out]
    refine (cG.out _ _ (rd_at HL.out E0)).mono ?_
    rintro e w1 ⟨rfl, E1⟩
    have F1 := E0.tr E1
    have A1 := A0.ext E1 A0.lt
    clear a0 a1 a2 A0 E0 E1 HW cG
    have a0 := A1.cell 0; have a1 := A1.cell 1; have a2 := A1.cell 2
    simp only [List.getElem?_cons_zero, List.getElem?_cons_succ] at a0 a1 a2
    go_wp2_with fail
    refine (cP.out _ F1).mono ?_
    rintro e w2 ⟨rfl, E2⟩
    have F2 := F1.tr E2
    have A2 := A1.ext E2 A1.lt
    clear a0 a1 a2 A1 F1 E2 cP
    have a0 := A2.cell 0; have a1 := A2.cell 1; have a2 := A2.cell 2
    simp only [List.getElem?_cons_zero, List.getElem?_cons_succ] at a0 a1 a2
    go_wp2_with fail
    refine (cR.out _ F2).mono ?_
    rintro e w3 ⟨rfl, E3⟩
    have F3 := F2.tr E3
    have A3 := A2.ext E3 A2.lt
    clear a0 a1 a2 A2 F2 E3 cR
    have a0 := A3.cell 0; have a1 := A3.cell 1; have a2 := A3.cell 2
    simp only [List.getElem?_cons_zero, List.getElem?_cons_succ] at a0 a1 a2
    obtain ⟨V, hV, EV, DV⟩ : ∃ V, w3.alloc (.cells #[.string (ofL id), .slice A l.length c, .string (ofL tag)] 24) = V ∧ Ext w3 V ∧ Arr V w3.heap.size 24 [.string (ofL id), .slice A l.length c, .string (ofL tag)] := ⟨_, rfl, (Ext.rfl' w3).al _, Arr.new w3 _ [.string (ofL id), .slice A l.length c, .string (ofL tag)]⟩
    have F4 := F3.tr EV
    have A4 := A3.ext EV A3.lt
    have hlt3 := A3.lt
    have HV := Kp.mk hV
    obtain ⟨ub, hub⟩ : ∃ ub, w3.heap.size = ub := ⟨_, rfl⟩
    rw [hub] at DV hlt3
    have HUB := Kp.mk hub
    clear hV hub EV A3 F3
    go_upto_region 6 with fail
    rw [HV.out, HUB.out]
    clear HV HUB a0 a1 a2
    have q2 := DV.cell 2; have z2 := DV.frozen 2
    simp only [List.getElem?_cons_zero, List.getElem?_cons_succ] at q2
    have D5 := DV.set 2 (.string ⟨#[48, 49, 50, 51, 52, 53, 54, 55, 56, 57, 97, 98, 99, 100, 101, 102, 48, 49, 50, 51, 52, 53, 54, 55, 56, 57, 97, 98, 99, 100, 101, 102]⟩)
    have A5 := A4.other (g' := ub) (j := 2) (.string ⟨#[48, 49, 50, 51, 52, 53, 54, 55, 56, 57, 97, 98, 99, 100, 101, 102, 48, 49, 50, 51, 52, 53, 54, 55, 56, 57, 97, 98, 99, 100, 101, 102]⟩) (by omega)
    have F5 := F4.st (p := ⟨ub, 2, none⟩) (by show w.heap.size ≤ ub; omega) (.string ⟨#[48, 49, 50, 51, 52, 53, 54, 55, 56, 57, 97, 98, 99, 100, 101, 102, 48, 49, 50, 51, 52, 53, 54, 55, 56, 57, 97, 98, 99, 100, 101, 102]⟩)
    obtain ⟨W5, hW5⟩ : ∃ W5, V.setCell ⟨ub, 2, none⟩ (.string ⟨#[48, 49, 50, 51, 52, 53, 54, 55, 56, 57, 97, 98, 99, 100, 101, 102, 48, 49, 50, 51, 52, 53, 54, 55, 56, 57, 97, 98, 99, 100, 101, 102]⟩) = W5 := ⟨_, rfl⟩
    rw [hW5] at D5 A5 F5
    have HW5 := Kp.mk hW5
    clear hW5 DV A4 F4
    go_upto_region 7 with fail
    rw [HW5.out]
    clear HW5 q2 z2
    have b0 := D5.cell 0; have b1 := D5.cell 1; have b2 := D5.cell 2
    simp only [List.getElem?_cons_zero, List.getElem?_cons_succ, List.set] at b0 b1 b2
    go_wp2_with fail
    refine (cQ.out _ F5).mono ?_
    rintro e w6 ⟨rfl, E6⟩
    have F6 := F5.tr E6
    have A6 := A5.ext E6 A5.lt
    clear b0 b1 b2 D5 A5 F5 E6 cQ
    have a0 := A6.cell 0; have a1 := A6.cell 1; have a2 := A6.cell 2
    simp only [List.getElem?_cons_zero, List.getElem?_cons_succ] at a0 a1 a2
    have zY : (ofL Y).size = Y.length := size_ofL _
    by_cases hy : y = 0
    · subst hy
      have hZ := hsz.out
      rw [if_pos rfl] at hZ
      subst hZ
      clear hsz
      go_wp2_with fail
      refine (cS.out _ F6).mono ?_
      rintro e w7 ⟨rfl, E7⟩
      have F7 := F6.tr E7
      clear a0 a1 a2 A6 F6 E7 cS
      go_wp2_with fail
      refine (tk_works _ (hT.ext F7)).mono ?_
      rintro e w8 ⟨rfl, E8⟩
      go_wp2
      go_ret
      exact ⟨rfl, F7.tr E8⟩
    · have ty : ((y : Int) == 0) = false := by simp; omega
      have hZ := hsz.out
      rw [if_neg hy] at hZ
      subst hZ
      clear hsz hy
      go_wp2_with fail
      refine (cS.out _ F6).mono ?_
      rintro e w7 ⟨rfl, E7⟩
      have F7 := F6.tr E7
      clear a0 a1 a2 A6 F6 E7 cS
      go_wp2_with fail
      refine (tk_works _ (hT.ext F7)).mono ?_
      rintro e w8 ⟨rfl, E8⟩
      go_wp2
      go_ret
      exact ⟨rfl, F7.tr E8⟩
end Go.Proofs.YtmnpbpfeoackiaaDoor
