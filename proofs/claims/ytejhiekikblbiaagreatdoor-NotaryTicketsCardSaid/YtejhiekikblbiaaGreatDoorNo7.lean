/-
  Chapter 36's laws: NotaryTickets returns true. Condition: the package's table holds the constants.
-/
import Derived.Test.YtejhiekikblbiaaGreatDoorNo6
import Derived.Test.YtejhiekikblbiaaGreatDoorMgI
import Derived.OpenShut
import Derived.ProofKit
namespace Go.Proofs.YtejhiekikblbiaaGreatDoor
open Go.RowKit Go.ChangeShapes Go.WideShapes

/-- Four strings. -/
structure Four where
  a : List UInt8
  b : List UInt8
  c : List UInt8
  d : List UInt8
def fourV (s : Four) : Value := .agg #[.string (ofL s.a), .string (ofL s.b), .string (ofL s.c), .string (ofL s.d)]
theorem sameTok_self (i t : List UInt8) (l : List LinkL) : sameTok i t l i t l = true := by simp [sameTok]
set_option maxRecDepth 100000 in
set_option maxHeartbeats 8000000 in
theorem notaryTickets_walk (m n k t tk : List UInt8) (vs : Value) (ls : List (List UInt8)) (w : World) (hT : Tab w) (hs : Rd w w.heap.size 1 vs ls.length (ls.map Str)) :
    Calls Tryz.prog 3 #[.agg #[.string (ofL m), .string (ofL n), .string (ofL k), .string (ofL t)], .string (ofL tk), vs] w fun e w' => e = .returned (.bool true) ∧ Ext w w' := by
  have cW := Kp.mk noworks_any
  have zm : (ofL m).size = m.length := size_ofL _
  have zk : (ofL k).size = k.length := size_ofL _
  have zt : (ofL t).size = t.length := size_ofL _
  have ztk : (ofL tk).size = tk.length := size_ofL _
  have HSl := Kp.mk hs
  obtain ⟨As, cs, rfl, hsm, _, hsc⟩ := hs
  obtain ⟨W0, hW0, E0, B1⟩ : ∃ W, w.alloc (.cells #[.string (ofL m), .string (ofL n), .string (ofL k), .string (ofL t)] 22) = W ∧ Ext w W ∧ Arr W w.heap.size 22 [.string (ofL m), .string (ofL n), .string (ofL k), .string (ofL t)] := ⟨_, rfl, (Ext.rfl' w).al _, Arr.new w _ [.string (ofL m), .string (ofL n), .string (ofL k), .string (ofL t)]⟩
  have cH := Kp.mk (fun (W : World) (hW : Ext w W) => short_any ls 70 4200 (.slice As ls.length cs) W (rd_at HSl.out hW) (by omega))
  have HW := Kp.mk hW0
  have q0 := B1.cell 0; have q1 := B1.cell 1; have q2 := B1.cell 2; have q3 := B1.cell 3
  simp only [List.getElem?_cons_zero, List.getElem?_cons_succ] at q0 q1 q2 q3
  clear hW0 hsc
  have F1 := E0
  by_cases g1 : 100 < m.length
  · go_enter Tryz.func3, Tryz.ntmps3
    go_upto_region 1 with fail
    rw [HW.out]
    go_wp2_with fail
    refine (cW.out _ (hT.ext F1)).mono ?_
    rintro e w9 ⟨rfl, E9⟩
    go_wp2
    go_ret
    exact ⟨rfl, F1.tr E9⟩
  · by_cases g2 : 200 < k.length
    · go_enter Tryz.func3, Tryz.ntmps3
      go_upto_region 1 with fail
      rw [HW.out]
      go_wp2_with fail
      refine (cW.out _ (hT.ext F1)).mono ?_
      rintro e w9 ⟨rfl, E9⟩
      go_wp2
      go_ret
      exact ⟨rfl, F1.tr E9⟩
    · by_cases g5 : 4200 < t.length
      · go_enter Tryz.func3, Tryz.ntmps3
        go_upto_region 1 with fail
        rw [HW.out]
        go_wp2_with fail
        refine (cW.out _ (hT.ext F1)).mono ?_
        rintro e w9 ⟨rfl, E9⟩
        go_wp2
        go_ret
        exact ⟨rfl, F1.tr E9⟩
      · by_cases g6 : 400 < tk.length
        · by_cases g3 : 300 < t.length
          · by_cases g4 : t.length ≤ 4096
            · go_enter Tryz.func3, Tryz.ntmps3
              go_upto_region 1 with fail
              rw [HW.out]
              go_wp2_with fail
              refine (cW.out _ (hT.ext F1)).mono ?_
              rintro e w9 ⟨rfl, E9⟩
              go_wp2
              go_ret
              exact ⟨rfl, F1.tr E9⟩
            · go_enter Tryz.func3, Tryz.ntmps3
              go_upto_region 1 with fail
              rw [HW.out]
              go_wp2_with fail
              refine (cW.out _ (hT.ext F1)).mono ?_
              rintro e w9 ⟨rfl, E9⟩
              go_wp2
              go_ret
              exact ⟨rfl, F1.tr E9⟩
          · go_enter Tryz.func3, Tryz.ntmps3
            go_upto_region 1 with fail
            rw [HW.out]
            go_wp2_with fail
            refine (cW.out _ (hT.ext F1)).mono ?_
            rintro e w9 ⟨rfl, E9⟩
            go_wp2
            go_ret
            exact ⟨rfl, F1.tr E9⟩
        · by_cases g3 : 300 < t.length
          · by_cases g4 : t.length ≤ 4096
            · go_enter Tryz.func3, Tryz.ntmps3
              go_upto_region 1 with fail
              rw [HW.out]
              go_wp2_with fail
              refine (cW.out _ (hT.ext F1)).mono ?_
              rintro e w9 ⟨rfl, E9⟩
              go_wp2
              go_ret
              exact ⟨rfl, F1.tr E9⟩
            · go_enter Tryz.func3, Tryz.ntmps3
              go_upto_region 1 with fail
              rw [HW.out]
              clear HW
              go_wp2_with fail
              refine (cH.out _ F1).mono ?_
              rintro e w2 ⟨rfl, E2⟩
              have F2 := F1.tr E2
              have C := B1.ext E2 B1.lt
              clear F1 B1 E0 E2 cH q0 q1 q2 q3
              obtain ⟨sb, hsb⟩ : ∃ sb, shortL ls 70 4200 = sb := ⟨_, rfl⟩
              rw [hsb]
              cases sb with
              | false =>
                have F1 := F2
                clear hsb
                go_wp2_with fail
                refine (cW.out _ (hT.ext F1)).mono ?_
                rintro e w9 ⟨rfl, E9⟩
                go_wp2
                go_ret
                exact ⟨rfl, F1.tr E9⟩
              | true =>
                have hls8 : ls.length ≤ 70 := by
                  unfold shortL at hsb
                  rw [Bool.and_eq_true, decide_eq_true_eq, decide_eq_true_eq] at hsb
                  exact hsb.1
                have hls1 := Kp.mk (show ∀ x ∈ ls, x.length ≤ 4200 from fun x hx => by
                  unfold shortL at hsb
                  rw [Bool.and_eq_true, decide_eq_true_eq, decide_eq_true_eq] at hsb
                  have := mem_lenSum ls x hx
                  omega)
                clear hsb
                have cT := Kp.mk (fun (W : World) (h : Tab W) => ticket_any m n k t W h (by omega) (by omega) (by omega))
                have cT2 := Kp.mk (fun (W : World) => rticket_any m n k t W (by omega) (by omega) (by omega))
                obtain ⟨⟨ta, te⟩, hTR⟩ : ∃ R, ticketR m n k t = R := ⟨_, rfl⟩
                rw [hTR] at cT cT2
                have cR := Kp.mk (fun (W : World) (h : Tab W) => read_any m tk W h (by omega) (by omega))
                have cR2 := Kp.mk (fun (W : World) => rread_any m tk W (by omega) (by omega))
                obtain ⟨⟨ra, rb, re⟩, hRR⟩ : ∃ R, readR m tk = R := ⟨_, rfl⟩
                rw [hRR] at cR cR2
                have cD := Kp.mk (fun (W : World) (h : Tab W) (h2 : Ext w W) => discharge_any m tk As cs ls W h (by omega) (by omega) (rd_at HSl.out h2) (fun x hx => by have := hls1.out x hx; omega))
                have cD2 := Kp.mk (fun (W : World) (h2 : Ext w W) => rdischarge_any m tk As cs ls W (by omega) (by omega) (rd_at HSl.out h2) (fun x hx => by have := hls1.out x hx; omega))
                obtain ⟨⟨⟨di, dl, dt⟩, dx⟩, hDR⟩ : ∃ R, dischargeR m tk ls = R := ⟨_, rfl⟩
                rw [hDR] at cD cD2
                unfold resV at cT cT2
                unfold readV at cR cR2
                unfold TokNew tokV at cD cD2
                dsimp only at cT cT2 cR cR2 cD cD2
                clear hTR hRR hDR
                have q0 := C.cell 0; have q1 := C.cell 1; have q2 := C.cell 2; have q3 := C.cell 3
                simp only [List.getElem?_cons_zero, List.getElem?_cons_succ] at q0 q1 q2 q3
                go_wp2_with fail
                refine (cT.out _ (hT.ext F2)).mono ?_
                rintro e w3 ⟨rfl, E3⟩
                have F3 := F2.tr E3
                have C2 := C.ext E3 C.lt
                clear q0 q1 q2 q3 C F2 E3 cT
                have C := C2
                clear C2
                have q0 := C.cell 0; have q1 := C.cell 1; have q2 := C.cell 2; have q3 := C.cell 3
                simp only [List.getElem?_cons_zero, List.getElem?_cons_succ] at q0 q1 q2 q3
                go_wp2_with fail
                refine (cT2.out _).mono ?_
                rintro e w4 ⟨rfl, E4⟩
                have F4 := F3.tr E4
                have C2 := C.ext E4 C.lt
                clear q0 q1 q2 q3 C F3 E4 cT2
                have C := C2
                clear C2
                have q0 := C.cell 0; have q1 := C.cell 1; have q2 := C.cell 2; have q3 := C.cell 3
                simp only [List.getElem?_cons_zero, List.getElem?_cons_succ] at q0 q1 q2 q3
                go_wp2_with fail
                refine (cR.out _ (hT.ext F4)).mono ?_
                rintro e w5 ⟨rfl, E5⟩
                have F5 := F4.tr E5
                have C2 := C.ext E5 C.lt
                clear q0 q1 q2 q3 C F4 E5 cR
                have C := C2
                clear C2
                have q0 := C.cell 0; have q1 := C.cell 1; have q2 := C.cell 2; have q3 := C.cell 3
                simp only [List.getElem?_cons_zero, List.getElem?_cons_succ] at q0 q1 q2 q3
                go_wp2_with fail
                refine (cR2.out _).mono ?_
                rintro e w6 ⟨rfl, E6⟩
                have F6 := F5.tr E6
                have C2 := C.ext E6 C.lt
                clear q0 q1 q2 q3 C F5 E6 cR2
                have C := C2
                clear C2
                have q0 := C.cell 0; have q1 := C.cell 1; have q2 := C.cell 2; have q3 := C.cell 3
                simp only [List.getElem?_cons_zero, List.getElem?_cons_succ] at q0 q1 q2 q3
                go_wp2_with fail
                refine (cD.out _ (hT.ext F6) F6).mono ?_
                rintro e w7 ⟨v7, rfl, own7, E7⟩
                obtain ⟨A7, c7, rfl⟩ := own_slice own7
                have F7 := F6.tr E7
                obtain ⟨nd, hnd⟩ : ∃ nd, dl.length = nd := ⟨_, rfl⟩
                rw [hnd] at own7 cD2
                obtain ⟨W8, hW8, E8, B8⟩ := tokbox w7 (.string (ofL di)) (.slice A7 nd c7) (.string (ofL dt))
                have HW8 := Kp.mk hW8
                have L8 : RdLinks W8 W8.heap.size (.slice A7 nd c7) dl := rd_at (own_links own7 hnd.symm) E8
                have F8 := F7.tr E8
                have C2 := C.ext (E7.tr E8) C.lt
                clear q0 q1 q2 q3 C F6 E7 own7 E8 F7 hW8 cD
                have C := C2
                clear C2
                rw [hnd]
                go_upto_region 8 with fail
                rw [HW8.out]
                clear HW8
                have q0 := C.cell 0; have q1 := C.cell 1; have q2 := C.cell 2; have q3 := C.cell 3
                simp only [List.getElem?_cons_zero, List.getElem?_cons_succ] at q0 q1 q2 q3
                go_wp2_with fail
                refine (cD2.out _ F8).mono ?_
                rintro e w9 ⟨v9, rfl, own9, E9⟩
                obtain ⟨A9, c9, rfl⟩ := own_slice own9
                have F9 := F8.tr E9
                have B9 := B8.ext E9 B8.lt
                have L9 := rd_at L8 E9
                obtain ⟨Wx, hWx, Ex, Bx⟩ := tokbox w9 (.string (ofL di)) (.slice A9 nd c9) (.string (ofL dt))
                have HWx := Kp.mk hWx
                have Lx : RdLinks Wx Wx.heap.size (.slice A9 nd c9) dl := rd_at (own_links own9 hnd.symm) Ex
                have Ly := rd_at L9 Ex
                have Fx := F9.tr Ex
                have By := B9.ext Ex B9.lt
                clear q0 q1 q2 q3 C F8 E9 own9 Ex F9 hWx cD2 B8 B9 L8 L9
                go_upto_region 9 with fail
                rw [HWx.out]
                clear HWx
                have r0 := By.cell 0; have r1 := By.cell 1; have r2 := By.cell 2
                have p0 := Bx.cell 0; have p1 := Bx.cell 1; have p2 := Bx.cell 2
                simp only [List.getElem?_cons_zero, List.getElem?_cons_succ] at r0 r1 r2 p0 p1 p2
                have cS := sameToken_any di dt (.slice A7 nd c7) dl di dt (.slice A9 nd c9) dl Wx Ly Lx
                rw [sameTok_self] at cS
                unfold tokV at cS
                have cS := Kp.mk cS
                go_wp2_with fail
                refine cS.out.mono ?_
                rintro e wS ⟨rfl, ES⟩
                have FS := Fx.tr ES
                clear r0 r1 r2 p0 p1 p2 By Bx Lx Ly Fx ES cS
                go_wp2_with fail
                refine (cW.out _ (hT.ext FS)).mono ?_
                rintro e wE ⟨rfl, EE⟩
                have FE := FS.tr EE
                go_wp2
                go_ret
                exact ⟨rfl, FE⟩
          · go_enter Tryz.func3, Tryz.ntmps3
            go_upto_region 1 with fail
            rw [HW.out]
            clear HW
            go_wp2_with fail
            refine (cH.out _ F1).mono ?_
            rintro e w2 ⟨rfl, E2⟩
            have F2 := F1.tr E2
            have C := B1.ext E2 B1.lt
            clear F1 B1 E0 E2 cH q0 q1 q2 q3
            obtain ⟨sb, hsb⟩ : ∃ sb, shortL ls 70 4200 = sb := ⟨_, rfl⟩
            rw [hsb]
            cases sb with
            | false =>
              have F1 := F2
              clear hsb
              go_wp2_with fail
              refine (cW.out _ (hT.ext F1)).mono ?_
              rintro e w9 ⟨rfl, E9⟩
              go_wp2
              go_ret
              exact ⟨rfl, F1.tr E9⟩
            | true =>
              have hls8 : ls.length ≤ 70 := by
                unfold shortL at hsb
                rw [Bool.and_eq_true, decide_eq_true_eq, decide_eq_true_eq] at hsb
                exact hsb.1
              have hls1 := Kp.mk (show ∀ x ∈ ls, x.length ≤ 4200 from fun x hx => by
                unfold shortL at hsb
                rw [Bool.and_eq_true, decide_eq_true_eq, decide_eq_true_eq] at hsb
                have := mem_lenSum ls x hx
                omega)
              clear hsb
              have cT := Kp.mk (fun (W : World) (h : Tab W) => ticket_any m n k t W h (by omega) (by omega) (by omega))
              have cT2 := Kp.mk (fun (W : World) => rticket_any m n k t W (by omega) (by omega) (by omega))
              obtain ⟨⟨ta, te⟩, hTR⟩ : ∃ R, ticketR m n k t = R := ⟨_, rfl⟩
              rw [hTR] at cT cT2
              have cR := Kp.mk (fun (W : World) (h : Tab W) => read_any m tk W h (by omega) (by omega))
              have cR2 := Kp.mk (fun (W : World) => rread_any m tk W (by omega) (by omega))
              obtain ⟨⟨ra, rb, re⟩, hRR⟩ : ∃ R, readR m tk = R := ⟨_, rfl⟩
              rw [hRR] at cR cR2
              have cD := Kp.mk (fun (W : World) (h : Tab W) (h2 : Ext w W) => discharge_any m tk As cs ls W h (by omega) (by omega) (rd_at HSl.out h2) (fun x hx => by have := hls1.out x hx; omega))
              have cD2 := Kp.mk (fun (W : World) (h2 : Ext w W) => rdischarge_any m tk As cs ls W (by omega) (by omega) (rd_at HSl.out h2) (fun x hx => by have := hls1.out x hx; omega))
              obtain ⟨⟨⟨di, dl, dt⟩, dx⟩, hDR⟩ : ∃ R, dischargeR m tk ls = R := ⟨_, rfl⟩
              rw [hDR] at cD cD2
              unfold resV at cT cT2
              unfold readV at cR cR2
              unfold TokNew tokV at cD cD2
              dsimp only at cT cT2 cR cR2 cD cD2
              clear hTR hRR hDR
              have q0 := C.cell 0; have q1 := C.cell 1; have q2 := C.cell 2; have q3 := C.cell 3
              simp only [List.getElem?_cons_zero, List.getElem?_cons_succ] at q0 q1 q2 q3
              go_wp2_with fail
              refine (cT.out _ (hT.ext F2)).mono ?_
              rintro e w3 ⟨rfl, E3⟩
              have F3 := F2.tr E3
              have C2 := C.ext E3 C.lt
              clear q0 q1 q2 q3 C F2 E3 cT
              have C := C2
              clear C2
              have q0 := C.cell 0; have q1 := C.cell 1; have q2 := C.cell 2; have q3 := C.cell 3
              simp only [List.getElem?_cons_zero, List.getElem?_cons_succ] at q0 q1 q2 q3
              go_wp2_with fail
              refine (cT2.out _).mono ?_
              rintro e w4 ⟨rfl, E4⟩
              have F4 := F3.tr E4
              have C2 := C.ext E4 C.lt
              clear q0 q1 q2 q3 C F3 E4 cT2
              have C := C2
              clear C2
              have q0 := C.cell 0; have q1 := C.cell 1; have q2 := C.cell 2; have q3 := C.cell 3
              simp only [List.getElem?_cons_zero, List.getElem?_cons_succ] at q0 q1 q2 q3
              go_wp2_with fail
              refine (cR.out _ (hT.ext F4)).mono ?_
              rintro e w5 ⟨rfl, E5⟩
              have F5 := F4.tr E5
              have C2 := C.ext E5 C.lt
              clear q0 q1 q2 q3 C F4 E5 cR
              have C := C2
              clear C2
              have q0 := C.cell 0; have q1 := C.cell 1; have q2 := C.cell 2; have q3 := C.cell 3
              simp only [List.getElem?_cons_zero, List.getElem?_cons_succ] at q0 q1 q2 q3
              go_wp2_with fail
              refine (cR2.out _).mono ?_
              rintro e w6 ⟨rfl, E6⟩
              have F6 := F5.tr E6
              have C2 := C.ext E6 C.lt
              clear q0 q1 q2 q3 C F5 E6 cR2
              have C := C2
              clear C2
              have q0 := C.cell 0; have q1 := C.cell 1; have q2 := C.cell 2; have q3 := C.cell 3
              simp only [List.getElem?_cons_zero, List.getElem?_cons_succ] at q0 q1 q2 q3
              go_wp2_with fail
              refine (cD.out _ (hT.ext F6) F6).mono ?_
              rintro e w7 ⟨v7, rfl, own7, E7⟩
              obtain ⟨A7, c7, rfl⟩ := own_slice own7
              have F7 := F6.tr E7
              obtain ⟨nd, hnd⟩ : ∃ nd, dl.length = nd := ⟨_, rfl⟩
              rw [hnd] at own7 cD2
              obtain ⟨W8, hW8, E8, B8⟩ := tokbox w7 (.string (ofL di)) (.slice A7 nd c7) (.string (ofL dt))
              have HW8 := Kp.mk hW8
              have L8 : RdLinks W8 W8.heap.size (.slice A7 nd c7) dl := rd_at (own_links own7 hnd.symm) E8
              have F8 := F7.tr E8
              have C2 := C.ext (E7.tr E8) C.lt
              clear q0 q1 q2 q3 C F6 E7 own7 E8 F7 hW8 cD
              have C := C2
              clear C2
              rw [hnd]
              go_upto_region 8 with fail
              rw [HW8.out]
              clear HW8
              have q0 := C.cell 0; have q1 := C.cell 1; have q2 := C.cell 2; have q3 := C.cell 3
              simp only [List.getElem?_cons_zero, List.getElem?_cons_succ] at q0 q1 q2 q3
              go_wp2_with fail
              refine (cD2.out _ F8).mono ?_
              rintro e w9 ⟨v9, rfl, own9, E9⟩
              obtain ⟨A9, c9, rfl⟩ := own_slice own9
              have F9 := F8.tr E9
              have B9 := B8.ext E9 B8.lt
              have L9 := rd_at L8 E9
              obtain ⟨Wx, hWx, Ex, Bx⟩ := tokbox w9 (.string (ofL di)) (.slice A9 nd c9) (.string (ofL dt))
              have HWx := Kp.mk hWx
              have Lx : RdLinks Wx Wx.heap.size (.slice A9 nd c9) dl := rd_at (own_links own9 hnd.symm) Ex
              have Ly := rd_at L9 Ex
              have Fx := F9.tr Ex
              have By := B9.ext Ex B9.lt
              clear q0 q1 q2 q3 C F8 E9 own9 Ex F9 hWx cD2 B8 B9 L8 L9
              go_upto_region 9 with fail
              rw [HWx.out]
              clear HWx
              have r0 := By.cell 0; have r1 := By.cell 1; have r2 := By.cell 2
              have p0 := Bx.cell 0; have p1 := Bx.cell 1; have p2 := Bx.cell 2
              simp only [List.getElem?_cons_zero, List.getElem?_cons_succ] at r0 r1 r2 p0 p1 p2
              have cS := sameToken_any di dt (.slice A7 nd c7) dl di dt (.slice A9 nd c9) dl Wx Ly Lx
              rw [sameTok_self] at cS
              unfold tokV at cS
              have cS := Kp.mk cS
              go_wp2_with fail
              refine cS.out.mono ?_
              rintro e wS ⟨rfl, ES⟩
              have FS := Fx.tr ES
              clear r0 r1 r2 p0 p1 p2 By Bx Lx Ly Fx ES cS
              go_wp2_with fail
              refine (cW.out _ (hT.ext FS)).mono ?_
              rintro e wE ⟨rfl, EE⟩
              have FE := FS.tr EE
              go_wp2
              go_ret
              exact ⟨rfl, FE⟩
set_option maxRecDepth 100000 in
theorem four_open {H : Type} {enc : TypeId × Value → H} {W : World} {r : Reach} {b0 : Nat} {v : Value} {d : DataW H} {ps : List MemPlace}
    (hv : Value.okWide Tryz.prog W r b0 22 v) (h : DataW.Trod enc Tryz.prog W 0 (fun _ => true) true 22 v d ps) : ∃ s, v = fourV s ∧ True := by
  have hct : Tryz.prog.cellsOf 22 = 4 := by kernel_rfl
  have hce : Tryz.prog.cellsOf 9 = 1 := by kernel_rfl
  obtain ⟨cs, rfl, hsz⟩ : ∃ cs, v = .agg cs ∧ cs.size = 4 := by
    simp only [Value.okWide, Tryz.underlying22] at hv
    obtain ⟨cs, h1, h2, _⟩ := hv
    exact ⟨cs, h1, h2.trans hct⟩
  obtain ⟨fuel, hf⟩ := h
  obtain ⟨xs, m, _, _, _, hxl, hel⟩ := DataW.trod_array Tryz.underlying22 hf
  have each : ∀ i, i < 4 → ∃ x : List UInt8, cs[i]? = some (.string (ofL x)) := fun i hi => by
    have h1 := hel i hi
    rw [hce, List.getElem?_eq_getElem (by omega)] at h1
    obtain ⟨n, h2, _, _⟩ := DataW.trod_string Tryz.underlying9 h1
    have h3 : cs.toList[i]? = some (.string n) := by
      have := congrArg (·[0]?) h2
      simpa [List.getElem?_take, List.getElem?_drop, Value.cells] using this
    rw [Array.getElem?_toList] at h3
    exact ⟨toL n, by rw [h3, ofL_toL]⟩
  obtain ⟨x0, k0⟩ := each 0 (by omega)
  obtain ⟨x1, k1⟩ := each 1 (by omega)
  obtain ⟨x2, k2⟩ := each 2 (by omega)
  obtain ⟨x3, k3⟩ := each 3 (by omega)
  refine ⟨⟨x0, x1, x2, x3⟩, ?_, trivial⟩
  unfold fourV
  congr 1
  apply Array.ext_getElem?
  intro i
  match i with
  | 0 => exact k0
  | 1 => exact k1
  | 2 => exact k2
  | 3 => exact k3
  | i + 4 => rw [Array.getElem?_eq_none (by omega), Array.getElem?_eq_none (by simp)]
theorem notaryTickets_walk2 (s : Four) (tk : ByteArray) (v : Value) (ls : List (List UInt8)) (w : World) (hT : Tab w) (_ : True) (_hk : tk.size ≤ maxLen) (hr : Rd w w.heap.size 1 v ls.length (ls.map Str)) (_ : ls.length ≤ maxLen) (_ : ∀ s ∈ ls, s.length ≤ maxLen) : Calls Tryz.prog 3 #[fourV s, .string tk, v] w fun e w' => e = .returned (.bool true) ∧ Ext w w' := by
  have q := notaryTickets_walk s.a s.b s.c s.d (toL tk) v ls w hT hr
  rw [ofL_toL] at q
  exact q
end Go.Proofs.YtejhiekikblbiaaGreatDoor
