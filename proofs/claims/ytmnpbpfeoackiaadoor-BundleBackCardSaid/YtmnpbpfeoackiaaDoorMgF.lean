/-
  The statements on bundles: BundlePuts, BundleGets: each returns true. Condition: the library's variable errors.errorType holds the type of error. · The statements on bundles: BundleBack returns true. Condition: the library's variable errors.errorType holds the type of error. · The statements on bundles, over arguments as they come in. Condition: the library's variable errors.errorType holds the type of error.
-/
import Derived.Test.YtmnpbpfeoackiaaDoorBu11
import Derived.Test.YtmnpbpfeoackiaaDoorBu12
import Derived.Test.YtmnpbpfeoackiaaDoorBun
namespace Go.Proofs.YtmnpbpfeoackiaaDoor
open Go.RowKit

theorem toksmallT {t : TokA} (h : SmallT t) : TokShort t.id t.tag t.l := toksmall_short h

set_option maxRecDepth 100000 in
set_option maxHeartbeats 4000000 in
theorem bundleGets_walk (s : List UInt8) (w : World) (hT : ErrT w) (hs : s.length ≤ 9223372036854775807) : Calls Tryd.prog 7 #[.string (ofL s)] w fun e w' => e = .returned (.bool true) ∧ Ext w w' := by
  have zs : (ofL s).size = s.length := size_ofL _
  by_cases h3 : 66000 < s.length
  · have d1 : decide ((6000 : Int) < (s.length : Int)) = true := by simp; omega
    have d2 : decide ((s.length : Int) ≤ (65536 : Int)) = false := by simp; omega
    have d3 : decide ((66000 : Int) < (s.length : Int)) = true := by simp; omega
    clear h3
    go_enter Tryd.func7, Tryd.ntmps7
    go_wp2_with fail
    refine (bu_works _ hT).mono ?_
    rintro e w1 ⟨rfl, E1⟩
    go_wp2
    go_ret
    exact ⟨rfl, E1⟩
  · have d3 : decide ((66000 : Int) < (s.length : Int)) = false := by simp; omega
    have cA := fun W => buget_any s W (by omega)
    have cB := fun W => rbget_any s W (by omega)
    obtain ⟨⟨⟨⟨i, l, t⟩, m⟩, x⟩, hR⟩ : ∃ R, bunGetR s = R := ⟨_, rfl⟩
    simp only [hR] at cA cB
    unfold BunGot at cA cB
    unfold bunV at cA cB
    dsimp only at cA cB
    replace cA := Kp.mk cA; replace cB := Kp.mk cB
    clear hR
    by_cases h1 : 6000 < s.length
    · have d1 : decide ((6000 : Int) < (s.length : Int)) = true := by simp; omega
      by_cases h2 : s.length ≤ 65536
      · have d2 : decide ((s.length : Int) ≤ (65536 : Int)) = true := by simp; omega
        clear h1 h2 h3 cA cB d3
        go_enter Tryd.func7, Tryd.ntmps7
        go_wp2_with fail
        refine (bu_works _ hT).mono ?_
        rintro e w1 ⟨rfl, E1⟩
        go_wp2
        go_ret
        exact ⟨rfl, E1⟩
      · have d2 : decide ((s.length : Int) ≤ (65536 : Int)) = false := by simp; omega
        clear h1 h2 h3
        go_enter Tryd.func7, Tryd.ntmps7
        go_wp2_with fail
        refine (cA.out _).mono ?_
        rintro e w1 ⟨A1, c1, M1, n1, ts1, rfl, hl1, ht1, hp1, E1⟩
        obtain ⟨V, hV, EV, DV⟩ : ∃ V, w1.alloc (.cells #[.string (ofL i), .slice A1 l.length c1, .string (ofL t), .slice M1 m.length n1] 38) = V ∧ Ext w1 V ∧ Arr V w1.heap.size 38 [.string (ofL i), .slice A1 l.length c1, .string (ofL t), .slice M1 m.length n1] := ⟨_, rfl, (Ext.rfl' w1).al _, Arr.new w1 _ [.string (ofL i), .slice A1 l.length c1, .string (ofL t), .slice M1 m.length n1]⟩
        have F1 := E1.tr EV
        have hl2 := rd_at hl1 EV
        have ht2 := ht1.at EV
        replace hp1 := Kp.mk hp1
        have HV := Kp.mk hV
        clear hV E1 EV hl1 ht1 cA
        go_upto_region 4 with fail
        rw [HV.out]
        clear HV
        go_wp2_with fail
        refine (cB.out _).mono ?_
        rintro e w2 ⟨A2, c2, M2, n2, ts2, rfl, hl3, ht3, hp2, E2⟩
        obtain ⟨U, hU, EU, DU⟩ : ∃ V, w2.alloc (.cells #[.string (ofL i), .slice A2 l.length c2, .string (ofL t), .slice M2 m.length n2] 38) = V ∧ Ext w2 V ∧ Arr V w2.heap.size 38 [.string (ofL i), .slice A2 l.length c2, .string (ofL t), .slice M2 m.length n2] := ⟨_, rfl, (Ext.rfl' w2).al _, Arr.new w2 _ [.string (ofL i), .slice A2 l.length c2, .string (ofL t), .slice M2 m.length n2]⟩
        have F2 := (F1.tr E2).tr EU
        have D2 := (DV.ext E2 DV.lt).ext EU (by have := E2.size; have := DV.lt; omega)
        have cE := (sameBundle_any i t i t (.slice A1 l.length c1) (.slice A2 l.length c2) (.slice M1 m.length n1) (.slice M2 m.length n2) l l ts1 ts2 U (rd_at hl2 (E2.tr EU)) (rd_at hl3 EU) (ht2.at (E2.tr EU)) (ht3.at EU)).mono (R' := fun e w' => e = .returned (.bool true) ∧ Ext U w') (fun e w' ⟨b, h4, h5, h6⟩ => ⟨by rw [h4, h5.2 ⟨rfl, hp1.out.trans hp2.symm⟩], h6⟩)
        unfold bunV at cE
        replace cE := Kp.mk cE
        have HU := Kp.mk hU
        clear hU E2 EU hl2 hl3 ht2 ht3 hp1 hp2 F1 DV cB
        go_upto_region 5 with fail
        rw [HU.out]
        clear HU
        have a0 := D2.cell 0; have a1 := D2.cell 1; have a2 := D2.cell 2; have a3 := D2.cell 3
        have b0 := DU.cell 0; have b1 := DU.cell 1; have b2 := DU.cell 2; have b3 := DU.cell 3
        simp only [List.getElem?_cons_zero, List.getElem?_cons_succ] at a0 a1 a2 a3 b0 b1 b2 b3
        go_wp2_with fail
        refine cE.out.mono ?_
        rintro e w3 ⟨rfl, E3⟩
        have F3 := F2.tr E3
        clear a0 a1 a2 a3 b0 b1 b2 b3 D2 DU F2 E3 cE
        go_wp2_with fail
        refine (bu_works _ (hT.ext F3)).mono ?_
        rintro e w4 ⟨rfl, E4⟩
        go_wp2
        go_ret
        exact ⟨rfl, F3.tr E4⟩
    · have d1 : decide ((6000 : Int) < (s.length : Int)) = false := by simp; omega
      clear h1 h3
      go_enter Tryd.func7, Tryd.ntmps7
      go_wp2_with fail
      refine (cA.out _).mono ?_
      rintro e w1 ⟨A1, c1, M1, n1, ts1, rfl, hl1, ht1, hp1, E1⟩
      obtain ⟨V, hV, EV, DV⟩ : ∃ V, w1.alloc (.cells #[.string (ofL i), .slice A1 l.length c1, .string (ofL t), .slice M1 m.length n1] 38) = V ∧ Ext w1 V ∧ Arr V w1.heap.size 38 [.string (ofL i), .slice A1 l.length c1, .string (ofL t), .slice M1 m.length n1] := ⟨_, rfl, (Ext.rfl' w1).al _, Arr.new w1 _ [.string (ofL i), .slice A1 l.length c1, .string (ofL t), .slice M1 m.length n1]⟩
      have F1 := E1.tr EV
      have hl2 := rd_at hl1 EV
      have ht2 := ht1.at EV
      replace hp1 := Kp.mk hp1
      have HV := Kp.mk hV
      clear hV E1 EV hl1 ht1 cA
      go_upto_region 4 with fail
      rw [HV.out]
      clear HV
      go_wp2_with fail
      refine (cB.out _).mono ?_
      rintro e w2 ⟨A2, c2, M2, n2, ts2, rfl, hl3, ht3, hp2, E2⟩
      obtain ⟨U, hU, EU, DU⟩ : ∃ V, w2.alloc (.cells #[.string (ofL i), .slice A2 l.length c2, .string (ofL t), .slice M2 m.length n2] 38) = V ∧ Ext w2 V ∧ Arr V w2.heap.size 38 [.string (ofL i), .slice A2 l.length c2, .string (ofL t), .slice M2 m.length n2] := ⟨_, rfl, (Ext.rfl' w2).al _, Arr.new w2 _ [.string (ofL i), .slice A2 l.length c2, .string (ofL t), .slice M2 m.length n2]⟩
      have F2 := (F1.tr E2).tr EU
      have D2 := (DV.ext E2 DV.lt).ext EU (by have := E2.size; have := DV.lt; omega)
      have cE := (sameBundle_any i t i t (.slice A1 l.length c1) (.slice A2 l.length c2) (.slice M1 m.length n1) (.slice M2 m.length n2) l l ts1 ts2 U (rd_at hl2 (E2.tr EU)) (rd_at hl3 EU) (ht2.at (E2.tr EU)) (ht3.at EU)).mono (R' := fun e w' => e = .returned (.bool true) ∧ Ext U w') (fun e w' ⟨b, h4, h5, h6⟩ => ⟨by rw [h4, h5.2 ⟨rfl, hp1.out.trans hp2.symm⟩], h6⟩)
      unfold bunV at cE
      replace cE := Kp.mk cE
      have HU := Kp.mk hU
      clear hU E2 EU hl2 hl3 ht2 ht3 hp1 hp2 F1 DV cB
      go_upto_region 5 with fail
      rw [HU.out]
      clear HU
      have a0 := D2.cell 0; have a1 := D2.cell 1; have a2 := D2.cell 2; have a3 := D2.cell 3
      have b0 := DU.cell 0; have b1 := DU.cell 1; have b2 := DU.cell 2; have b3 := DU.cell 3
      simp only [List.getElem?_cons_zero, List.getElem?_cons_succ] at a0 a1 a2 a3 b0 b1 b2 b3
      go_wp2_with fail
      refine cE.out.mono ?_
      rintro e w3 ⟨rfl, E3⟩
      have F3 := F2.tr E3
      clear a0 a1 a2 a3 b0 b1 b2 b3 D2 DU F2 E3 cE
      go_wp2_with fail
      refine (bu_works _ (hT.ext F3)).mono ?_
      rintro e w4 ⟨rfl, E4⟩
      go_wp2
      go_ret
      exact ⟨rfl, F3.tr E4⟩

set_option maxRecDepth 100000 in
set_option maxHeartbeats 4000000 in
theorem bundlePuts_walk (t : TokA) (Am : Option Addr) (cm : Nat) (more : List TokA) (w : World) (hT : ErrT w) (hl : RdLinks w w.heap.size (.slice t.A t.l.length t.c) t.l) (hm : RdToks w w.heap.size (.slice Am more.length cm) more) :
    Calls Tryd.prog 6 #[bunV t.id (.slice t.A t.l.length t.c) t.tag (.slice Am more.length cm)] w fun e w' => e = .returned (.bool true) ∧ Ext w w' := by
  obtain ⟨W, hW, E0, A0⟩ : ∃ W, w.alloc (.cells #[.string (ofL t.id), .slice t.A t.l.length t.c, .string (ofL t.tag), .slice Am more.length cm] 38) = W ∧ Ext w W ∧ Arr W w.heap.size 38 [.string (ofL t.id), .slice t.A t.l.length t.c, .string (ofL t.tag), .slice Am more.length cm] := ⟨_, rfl, (Ext.rfl' w).al _, Arr.new w _ [.string (ofL t.id), .slice t.A t.l.length t.c, .string (ofL t.tag), .slice Am more.length cm]⟩
  have HW := Kp.mk hW
  have a0 := A0.cell 0; have a1 := A0.cell 1; have a2 := A0.cell 2; have a3 := A0.cell 3
  simp only [List.getElem?_cons_zero, List.getElem?_cons_succ] at a0 a1 a2 a3
  obtain ⟨gb, hgb, cG⟩ := bgreat_det t more
  replace cG := cG Am cm W (rd_at hl E0) (hm.at E0)
  unfold bunV at cG ⊢
  replace cG := Kp.mk cG
  cases gb with
  | true =>
    clear hgb hW hl hm
    go_enter Tryd.func6, Tryd.ntmps6
    go_upto_region 1 with fail
    rw [HW.out]
    clear HW
    go_wp2_with fail
    refine cG.out.mono ?_
    rintro e w1 ⟨rfl, E1⟩
    have F1 := E0.tr E1
    clear a0 a1 a2 a3 A0
    go_wp2_with fail
    refine (bu_works _ (hT.ext F1)).mono ?_
    rintro e w2 ⟨rfl, E2⟩
    go_wp2
    go_ret
    exact ⟨rfl, F1.tr E2⟩
  | false =>
    obtain ⟨hn, hst, hsm⟩ := hgb.1 rfl
    have cP := fun (W : World) (hE : Ext w W) => buput_any t Am cm more W (hT.ext hE) (rd_at hl hE) (hm.at hE) (by have := (toksmallT hst).2.1; omega) (fun d hd => (toksmallT (hsm d hd)).2.1) (by omega)
    have cR := fun (W : World) (hE : Ext w W) => rbput_any t Am cm more W (rd_at hl hE) (hm.at hE) (toksmallT hst) (fun d hd => toksmallT (hsm d hd)) (by omega)
    have cS := fun (W : World) (hE : Ext w W) => busize_any t Am cm more W (rd_at hl hE) (hm.at hE) (by omega)
    have cZ := fun (W : World) (hE : Ext w W) => rbsize_any t Am cm more W (rd_at hl hE) (hm.at hE) (toksmallT hst) (fun d hd => toksmallT (hsm d hd)) (by omega)
    have cW := Kp.mk (fun (W : World) (hE : Ext w W) => bu_works W (hT.ext hE))
    obtain ⟨⟨X, x⟩, hX⟩ : ∃ R, bunPutR t.plain (more.map TokA.plain) = R := ⟨_, rfl⟩
    obtain ⟨Z, hZ⟩ : ∃ R, bunSize t.plain (more.map TokA.plain) = R := ⟨_, rfl⟩
    simp only [hX] at cP cR
    simp only [hZ] at cS cZ
    unfold bunV at cP cR cS cZ
    replace cP := Kp.mk cP; replace cR := Kp.mk cR; replace cS := Kp.mk cS; replace cZ := Kp.mk cZ
    clear hX hZ hn hst hsm hgb hW hl hm
    go_enter Tryd.func6, Tryd.ntmps6
    go_upto_region 1 with fail
    rw [HW.out]
    clear HW
    go_wp2_with fail
    refine cG.out.mono ?_
    rintro e w1 ⟨rfl, E1⟩
    have F1 := E0.tr E1
    have A1 := A0.ext E1 A0.lt
    clear a0 a1 a2 a3 A0 E0 E1 cG
    have a0 := A1.cell 0; have a1 := A1.cell 1; have a2 := A1.cell 2; have a3 := A1.cell 3
    simp only [List.getElem?_cons_zero, List.getElem?_cons_succ] at a0 a1 a2 a3
    go_wp2_with fail
    refine (cP.out _ F1).mono ?_
    rintro e w2 ⟨rfl, E2⟩
    have F2 := F1.tr E2
    have A2 := A1.ext E2 A1.lt
    clear a0 a1 a2 a3 A1 F1 E2 cP
    have a0 := A2.cell 0; have a1 := A2.cell 1; have a2 := A2.cell 2; have a3 := A2.cell 3
    simp only [List.getElem?_cons_zero, List.getElem?_cons_succ] at a0 a1 a2 a3
    go_wp2_with fail
    refine (cR.out _ F2).mono ?_
    rintro e w3 ⟨rfl, E3⟩
    have F3 := F2.tr E3
    have A3 := A2.ext E3 A2.lt
    clear a0 a1 a2 a3 A2 F2 E3 cR
    go_upto_region 5 with fail
    refine wp_region_localsE (fun i v W => match i with
      | 0 => v = .string (ofL X)
      | 1 => v = .string (ofL X)
      | 2 => v = .bool true
      | 3 => v = .bool true
      | 4 => v = .int .i64 x
      | 5 => v = .int .i64 x
      | 6 => v = .bool true
      | 7 => v = .bool true
      | 8 => v = .bool true
      | 9 => v = .agg #[.string (ofL t.id), .slice t.A t.l.length t.c, .string (ofL t.tag), .slice Am more.length cm]
      | 10 => v = .int .i64 Z
      | 11 => v = .agg #[.string (ofL t.id), .slice t.A t.l.length t.c, .string (ofL t.tag), .slice Am more.length cm]
      | 12 => v = .int .i64 Z
      | 13 => v = .bool true
      | 14 => v = .bool true
      | 15 => v = .bool true
      | 16 => v = .bool true
      | 17 => v = .bool true
      | 18 => v = .bool true
      | _ => True) (by kernel_rfl) (by kernel_rfl) (by kernel_rfl) (by kernel_rfl) ?_ ?_ ?_
    · intro i v W1 W2 e1 e2 h
      match i, h with
      | 0, h => exact h
      | 1, h => exact h
      | 2, h => exact h
      | 3, h => exact h
      | 4, h => exact h
      | 5, h => exact h
      | 6, h => exact h
      | 7, h => exact h
      | 8, h => exact h
      | 9, h => exact h
      | 10, h => exact h
      | 11, h => exact h
      | 12, h => exact h
      | 13, h => exact h
      | 14, h => exact h
      | 15, h => exact h
      | 16, h => exact h
      | 17, h => exact h
      | 18, h => exact h
      | (i + 19), h => exact h
    · intro HF
      refine locals_cons (fun u W hW hd => ?_) ?_
      · refine opLeaves_ev HF rfl fun ev zc zg zf zt => ?_
        have t3 : ev (.tmp 3) = .string (ofL X) := zt 3
        clear zt
        exact ev_val (v := .string (ofL X)) (by go_simp) rfl
      refine locals_cons (fun u W hW hd => ?_) ?_
      · refine opLeaves_ev HF rfl fun ev zc zg zf zt => ?_
        have t5 : ev (.tmp 5) = .string (ofL X) := zt 5
        clear zt
        exact ev_val (v := .string (ofL X)) (by go_simp) rfl
      refine locals_cons (fun u W hW hd => ?_) ?_
      · refine opLeaves_ev HF rfl fun ev zc zg zf zt => ?_
        have t20 : ev (.tmp 20) = u 0 := zt 20
        have t21 : ev (.tmp 21) = u 1 := zt 21
        clear zt
        have h0 : u 0 = _ := hd 0 (by kernel_rfl)
        have h1 : u 1 = _ := hd 1 (by kernel_rfl)
        exact ev_val (v := .bool true) (by go_simp) rfl
      refine locals_cons (fun u W hW hd => ?_) ?_
      · refine opLeaves_ev HF rfl fun ev zc zg zf zt => ?_
        have t22 : ev (.tmp 22) = u 2 := zt 22
        clear zt
        have h2 : u 2 = _ := hd 2 (by kernel_rfl)
        exact ev_val (v := .bool true) (by go_simp) rfl
      refine locals_cons (fun u W hW hd => ?_) ?_
      · have h3 : u 3 = _ := hd 3 (by kernel_rfl)
        exact leaves_val (by simp [Region.wanted, yielded, go_sem, h3]) (v := .int .i64 x) (by go_simp) rfl
      refine locals_cons (fun u W hW hd => ?_) ?_
      · have h3 : u 3 = _ := hd 3 (by kernel_rfl)
        exact leaves_val (by simp [Region.wanted, yielded, go_sem, h3]) (v := .int .i64 x) (by go_simp) rfl
      refine locals_cons (fun u W hW hd => ?_) ?_
      · have h3 : u 3 = _ := hd 3 (by kernel_rfl)
        have h4 : u 4 = _ := hd 4 (by kernel_rfl)
        have h5 : u 5 = _ := hd 5 (by kernel_rfl)
        exact leaves_val (by simp [Region.wanted, yielded, go_sem, h3]) (v := .bool true) (by go_simp) rfl
      refine locals_cons (fun u W hW hd => ?_) ?_
      · refine opLeaves_ev HF rfl fun ev zc zg zf zt => ?_
        have t23 : ev (.tmp 23) = u 3 := zt 23
        have t26 : ev (.tmp 26) = u 6 := zt 26
        clear zt
        have h3 : u 3 = _ := hd 3 (by kernel_rfl)
        have h6 : u 6 = _ := hd 6 (by kernel_rfl)
        exact ev_val (v := .bool true) (by go_simp) rfl
      refine locals_cons (fun u W hW hd => ?_) ?_
      · refine opLeaves_ev HF rfl fun ev zc zg zf zt => ?_
        have t27 : ev (.tmp 27) = u 7 := zt 27
        clear zt
        have h7 : u 7 = _ := hd 7 (by kernel_rfl)
        exact ev_val (v := .bool true) (by go_simp) rfl
      refine locals_cons (fun u W hW hd => ?_) ?_
      · have h8 : u 8 = _ := hd 8 (by kernel_rfl)
        have a0 := (A3.ext hW A3.lt).cell 0; have a1 := (A3.ext hW A3.lt).cell 1; have a2 := (A3.ext hW A3.lt).cell 2; have a3 := (A3.ext hW A3.lt).cell 3
        simp only [List.getElem?_cons_zero, List.getElem?_cons_succ] at a0 a1 a2 a3
        exact leaves_val (by simp [Region.wanted, yielded, go_sem, h8]) (v := .agg #[.string (ofL t.id), .slice t.A t.l.length t.c, .string (ofL t.tag), .slice Am more.length cm]) (by go_simp) rfl
      refine locals_cons (fun u W hW hd => ?_) ?_
      · have h8 : u 8 = _ := hd 8 (by kernel_rfl)
        have h9 : u 9 = _ := hd 9 (by kernel_rfl)
        exact leaves_call (by simp [Region.wanted, yielded, go_sem, h8]) (f := 24) (args := #[.agg #[.string (ofL t.id), .slice t.A t.l.length t.c, .string (ofL t.tag), .slice Am more.length cm]]) (by go_simp) ((cS.out W (F3.tr hW)).mono (by rintro e9 W9 ⟨rfl, h9⟩; exact ⟨_, rfl, h9, rfl⟩))
      refine locals_cons (fun u W hW hd => ?_) ?_
      · have h8 : u 8 = _ := hd 8 (by kernel_rfl)
        have a0 := (A3.ext hW A3.lt).cell 0; have a1 := (A3.ext hW A3.lt).cell 1; have a2 := (A3.ext hW A3.lt).cell 2; have a3 := (A3.ext hW A3.lt).cell 3
        simp only [List.getElem?_cons_zero, List.getElem?_cons_succ] at a0 a1 a2 a3
        exact leaves_val (by simp [Region.wanted, yielded, go_sem, h8]) (v := .agg #[.string (ofL t.id), .slice t.A t.l.length t.c, .string (ofL t.tag), .slice Am more.length cm]) (by go_simp) rfl
      refine locals_cons (fun u W hW hd => ?_) ?_
      · have h8 : u 8 = _ := hd 8 (by kernel_rfl)
        have h11 : u 11 = _ := hd 11 (by kernel_rfl)
        exact leaves_call (by simp [Region.wanted, yielded, go_sem, h8]) (f := 25) (args := #[.agg #[.string (ofL t.id), .slice t.A t.l.length t.c, .string (ofL t.tag), .slice Am more.length cm]]) (by go_simp) ((cZ.out W (F3.tr hW)).mono (by rintro e9 W9 ⟨rfl, h9⟩; exact ⟨_, rfl, h9, rfl⟩))
      refine locals_cons (fun u W hW hd => ?_) ?_
      · have h8 : u 8 = _ := hd 8 (by kernel_rfl)
        have h10 : u 10 = _ := hd 10 (by kernel_rfl)
        have h12 : u 12 = _ := hd 12 (by kernel_rfl)
        exact leaves_val (by simp [Region.wanted, yielded, go_sem, h8]) (v := .bool true) (by go_simp) rfl
      refine locals_cons (fun u W hW hd => ?_) ?_
      · refine opLeaves_ev HF rfl fun ev zc zg zf zt => ?_
        have t28 : ev (.tmp 28) = u 8 := zt 28
        have t33 : ev (.tmp 33) = u 13 := zt 33
        clear zt
        have h8 : u 8 = _ := hd 8 (by kernel_rfl)
        have h13 : u 13 = _ := hd 13 (by kernel_rfl)
        exact ev_val (v := .bool true) (by go_simp) rfl
      refine locals_cons (fun u W hW hd => ?_) ?_
      · refine opLeaves_ev HF rfl fun ev zc zg zf zt => ?_
        have t34 : ev (.tmp 34) = u 14 := zt 34
        clear zt
        have h14 : u 14 = _ := hd 14 (by kernel_rfl)
        exact ev_val (v := .bool true) (by go_simp) rfl
      refine locals_cons (fun u W hW hd => ?_) ?_
      · have h15 : u 15 = _ := hd 15 (by kernel_rfl)
        exact leaves_call (by simp [Region.wanted, yielded, go_sem, h15]) (f := 21) (args := #[]) (by go_simp) ((cW.out W (F3.tr hW)).mono (by rintro e9 W9 ⟨rfl, h9⟩; exact ⟨_, rfl, h9, rfl⟩))
      refine locals_cons (fun u W hW hd => ?_) ?_
      · refine opLeaves_ev HF rfl fun ev zc zg zf zt => ?_
        have t35 : ev (.tmp 35) = u 15 := zt 35
        have t36 : ev (.tmp 36) = u 16 := zt 36
        clear zt
        have h15 : u 15 = _ := hd 15 (by kernel_rfl)
        have h16 : u 16 = _ := hd 16 (by kernel_rfl)
        exact ev_val (v := .bool true) (by go_simp) rfl
      refine locals_cons (fun u W hW hd => ?_) locals_nil
      · refine opLeaves_ev HF rfl fun ev zc zg zf zt => ?_
        have t37 : ev (.tmp 37) = u 17 := zt 37
        clear zt
        have h17 : u 17 = _ := hd 17 (by kernel_rfl)
        exact ev_val (v := .bool true) (by go_simp) rfl
    · intro u W4 hW hV
      have h18 : u 18 = .bool true := hV 18 (by decide)
      have F4 := F3.tr hW
      clear hV hW A3 F3 cS cZ cW
      go_simp
      go_wp2
      go_ret
      exact ⟨rfl, F4⟩
end Go.Proofs.YtmnpbpfeoackiaaDoor

namespace Go.Proofs.YtmnpbpfeoackiaaDoor
open Go.RowKit

theorem get_tag32 (s : List UInt8) : (tokGetR s).1.tag.length ≤ 32 := by
  unfold tokGetR
  split
  · exact Nat.zero_le _
  · split
    · exact Nat.zero_le _
    · split
      · exact Nat.zero_le _
      · dsimp only; omega
theorem take_tag32 (x : RS) : (takeGet x).1.tag.length ≤ 32 := by
  unfold takeGet
  split
  · exact Nat.zero_le _
  · exact get_tag32 _
theorem takes_tag32 : ∀ (n : Nat) (x : RS), ∀ d ∈ (takesGet n x).1, d.tag.length ≤ 32
  | 0, x, d, h => by cases h
  | n + 1, x, d, h => by
    rw [takesGet_step] at h
    rcases List.mem_append.1 h with h | h
    · exact takes_tag32 n x d h
    · rw [List.mem_singleton.1 h]; exact take_tag32 _
theorem bunGet_short (s : List UInt8) : (bunGetR s).1.1.tag.length ≤ 32 ∧ (bunGetR s).1.2.length ≤ 8 ∧ ∀ d ∈ (bunGetR s).1.2, d.tag.length ≤ 32 := by
  unfold bunGetR
  split
  · exact ⟨Nat.zero_le _, Nat.zero_le _, fun d h => by cases h⟩
  · split
    · exact ⟨Nat.zero_le _, Nat.zero_le _, fun d h => by cases h⟩
    · refine ⟨take_tag32 _, ?_, takes_tag32 _ _⟩
      show (takesGet _ _).1.length ≤ 8
      rw [length_takesGet]
      exact rNum_le _ 8
theorem size_ok {t : TokL} (h : (tokPutR t).2 = 0) : tokSize t = (tokPutR t).1.length ∧ tokSize t ≠ 0 := by
  unfold tokPutR at h ⊢
  unfold tokSize
  cases hc : tokBad t with
  | true => rw [hc] at h; cases h
  | false =>
    rw [hc] at h
    simp only [Bool.false_eq_true, if_false] at h ⊢
    by_cases ht : t.tag.length = 32
    · rw [if_pos ht]
      exact ⟨by dsimp only; rw [List.length_append, ht], by omega⟩
    · rw [if_neg ht] at h; cases h
theorem bunAcc_size2 (t : TokL) (m : List TokL) : ∀ k, k ≤ 1 + m.length → (∀ j, j < k → (tokPutR (bunTok t m j)).2 = 0) → (bunAcc t m k).length + (if k = 0 then (vput m.length).length else 0) = sizeAcc t m k
  | 0, _, _ => by rw [if_pos rfl]; show 0 + _ = _; unfold sizeAcc; omega
  | k + 1, hk, h => by
    have ih := bunAcc_size2 t m k (by omega) (fun j hj => h j (by omega))
    have h0 := (size_ok (h k (by omega))).1
    rw [bunAcc_step _ _ k (by omega), if_neg (show ¬ k + 1 = 0 by omega)]
    show _ = sizeAcc t m k + ((vput (tokSize (bunTok t m k))).length + tokSize (bunTok t m k))
    rw [← ih, h0, List.length_append, List.length_append]
    unfold fText
    rw [List.length_append]
    split
    · omega
    · rw [List.length_nil]; omega
theorem bunSize_ok {t : TokL} {m : List TokL} (h : (bunPutR t m).2 = 0) : bunSize t m = (bunPutR t m).1.length ∧ (bunPutR t m).1.length ≤ 65536 := by
  obtain ⟨a, b, c⟩ := bunPut_len h
  obtain ⟨h8, h1, h2, _⟩ := bunPut0_ok c
  have hall : ∀ j, j < 1 + m.length → (tokPutR (bunTok t m j)).2 = 0 := fun j hj => by
    cases j with
    | zero => exact h1
    | succ j =>
      rw [bunTok_get _ _ j (by omega)]
      exact (moresPut_each _ h2 _ (List.getElem_mem _)).1
  refine ⟨?_, a⟩
  rw [b, bunPut0_all t m h8 hall, bunSize_all t m h8 (fun j hj => (size_ok (hall j hj)).2)]
  have h3 := bunAcc_size2 t m (1 + m.length) (Nat.le_refl _) hall
  rw [if_neg (by omega)] at h3
  exact h3.symm

set_option maxRecDepth 100000 in
set_option maxHeartbeats 4000000 in
theorem bundleBack_walk (t : TokA) (Am : Option Addr) (cm : Nat) (more : List TokA) (s : List UInt8) (w : World) (hT : ErrT w) (hl : RdLinks w w.heap.size (.slice t.A t.l.length t.c) t.l) (hm : RdToks w w.heap.size (.slice Am more.length cm) more) (hs : s.length ≤ 9223372036854775807) :
    Calls Tryd.prog 8 #[bunV t.id (.slice t.A t.l.length t.c) t.tag (.slice Am more.length cm), .string (ofL s)] w fun e w' => e = .returned (.bool true) ∧ Ext w w' := by
  obtain ⟨W, hW, E0, A0⟩ : ∃ W, w.alloc (.cells #[.string (ofL t.id), .slice t.A t.l.length t.c, .string (ofL t.tag), .slice Am more.length cm] 38) = W ∧ Ext w W ∧ Arr W w.heap.size 38 [.string (ofL t.id), .slice t.A t.l.length t.c, .string (ofL t.tag), .slice Am more.length cm] := ⟨_, rfl, (Ext.rfl' w).al _, Arr.new w _ [.string (ofL t.id), .slice t.A t.l.length t.c, .string (ofL t.tag), .slice Am more.length cm]⟩
  have HW := Kp.mk hW
  have a0 := A0.cell 0; have a1 := A0.cell 1; have a2 := A0.cell 2; have a3 := A0.cell 3
  simp only [List.getElem?_cons_zero, List.getElem?_cons_succ] at a0 a1 a2 a3
  obtain ⟨gb, hgb, cG⟩ := bgreat_det t more
  replace cG := cG Am cm W (rd_at hl E0) (hm.at E0)
  have zs : (ofL s).size = s.length := size_ofL _
  unfold bunV at cG ⊢
  replace cG := Kp.mk cG
  cases gb with
  | true =>
    clear hgb hW hl hm
    go_enter Tryd.func8, Tryd.ntmps8
    go_upto_region 1 with fail
    rw [HW.out]
    clear HW
    go_wp2_with fail
    refine cG.out.mono ?_
    rintro e w1 ⟨rfl, E1⟩
    have F1 := E0.tr E1
    clear a0 a1 a2 a3 A0
    go_wp2_with fail
    refine (bu_works _ (hT.ext F1)).mono ?_
    rintro e w2 ⟨rfl, E2⟩
    go_wp2
    go_ret
    exact ⟨rfl, F1.tr E2⟩
  | false =>
    by_cases h6 : 6000 < s.length
    · have d1 : decide ((6000 : Int) < (s.length : Int)) = true := by simp; omega
      clear h6 hgb hW hl hm
      go_enter Tryd.func8, Tryd.ntmps8
      go_upto_region 1 with fail
      rw [HW.out]
      clear HW
      go_wp2_with fail
      refine cG.out.mono ?_
      rintro e w1 ⟨rfl, E1⟩
      have F1 := E0.tr E1
      clear a0 a1 a2 a3 A0
      go_wp2_with fail
      refine (bu_works _ (hT.ext F1)).mono ?_
      rintro e w2 ⟨rfl, E2⟩
      go_wp2
      go_ret
      exact ⟨rfl, F1.tr E2⟩
    · have d1 : decide ((6000 : Int) < (s.length : Int)) = false := by simp; omega
      obtain ⟨hn, hst, hsm⟩ := hgb.1 rfl
      have cP := fun (W : World) (hE : Ext w W) => buput_any t Am cm more W (hT.ext hE) (rd_at hl hE) (hm.at hE) (by have := (toksmallT hst).2.1; omega) (fun d hd => (toksmallT (hsm d hd)).2.1) (by omega)
      have cS := fun (W : World) (hE : Ext w W) => busize_any t Am cm more W (rd_at hl hE) (hm.at hE) (by omega)
      have cB := fun W => buget_any s W (by omega)
      have hbs := bunGet_short s
      have hback := fun h => bunPut_get (s := s) h
      obtain ⟨⟨⟨⟨bi, bl, bt⟩, bm⟩, g⟩, hR⟩ : ∃ R, bunGetR s = R := ⟨_, rfl⟩
      simp only [hR] at cB
      rw [hR] at hbs hback
      dsimp only at hbs hback
      unfold BunGot bunV at cB
      dsimp only at cB
      replace cB := Kp.mk cB
      replace hbs := Kp.mk hbs
      replace hback := Kp.mk hback
      have hfwd := fun h => bunGet_put (t := t.plain) (m := more.map TokA.plain) h
      have hsz := fun h => bunSize_ok (t := t.plain) (m := more.map TokA.plain) h
      obtain ⟨⟨X, x⟩, hX⟩ : ∃ X, bunPutR t.plain (more.map TokA.plain) = X := ⟨_, rfl⟩
      obtain ⟨Z, hZ⟩ : ∃ R, bunSize t.plain (more.map TokA.plain) = R := ⟨_, rfl⟩
      simp only [hX] at cP
      simp only [hZ] at cS
      rw [hX] at hfwd hsz
      rw [hZ] at hsz
      dsimp only at hfwd hsz
      unfold bunV at cP cS
      replace cP := Kp.mk cP; replace cS := Kp.mk cS
      replace hfwd := Kp.mk hfwd; replace hsz := Kp.mk hsz
      have HL := Kp.mk hl; have HM := Kp.mk hm
      have zX : (ofL X).size = X.length := size_ofL _
      clear hR hX hZ hn hst hsm hgb hW hl hm h6
      go_enter Tryd.func8, Tryd.ntmps8
      go_upto_region 1 with fail
      rw [HW.out]
      clear HW
      go_wp2_with fail
      refine cG.out.mono ?_
      rintro e w1 ⟨rfl, E1⟩
      have F1 := E0.tr E1
      have A1 := A0.ext E1 A0.lt
      clear a0 a1 a2 a3 A0 E0 E1 cG
      have a0 := A1.cell 0; have a1 := A1.cell 1; have a2 := A1.cell 2; have a3 := A1.cell 3
      simp only [List.getElem?_cons_zero, List.getElem?_cons_succ] at a0 a1 a2 a3
      go_wp2_with fail
      refine (cP.out _ F1).mono ?_
      rintro e w2 ⟨rfl, E2⟩
      have F2 := F1.tr E2
      have A2 := A1.ext E2 A1.lt
      clear a0 a1 a2 a3 A1 F1 E2 cP
      by_cases hx : x = 0
      · have hf := hfwd.out hx
        obtain ⟨hZX, hXl⟩ := hsz.out hx
        have cF := fun W => buget_any X W (by omega)
        simp only [hf] at cF
        unfold BunGot bunV at cF
        dsimp only at cF
        simp only [show t.plain.id = t.id from rfl, show t.plain.tag = t.tag from rfl, show t.plain.links = t.l from rfl, List.length_map] at cF
        replace cF := Kp.mk cF
        subst hx
        clear hf hfwd hsz
        go_wp2_with fail
        refine (cF.out _).mono ?_
        rintro e w3 ⟨A3, c3, M3, n3, ts3, rfl, r3, q3, hts3, E3⟩
        obtain ⟨U, hU, EU, DU⟩ : ∃ V, w3.alloc (.cells #[.string (ofL t.id), .slice A3 t.l.length c3, .string (ofL t.tag), .slice M3 more.length n3] 38) = V ∧ Ext w3 V ∧ Arr V w3.heap.size 38 [.string (ofL t.id), .slice A3 t.l.length c3, .string (ofL t.tag), .slice M3 more.length n3] := ⟨_, rfl, (Ext.rfl' w3).al _, Arr.new w3 _ [.string (ofL t.id), .slice A3 t.l.length c3, .string (ofL t.tag), .slice M3 more.length n3]⟩
        have F4 := (F2.tr E3).tr EU
        have D4 := (A2.ext E3 A2.lt).ext EU (by have := E3.size; have := A2.lt; omega)
        have cE := (sameBundle_any t.id t.tag t.id t.tag (.slice t.A t.l.length t.c) (.slice A3 t.l.length c3) (.slice Am more.length cm) (.slice M3 more.length n3) t.l t.l more ts3 U (rd_at HL.out F4) (rd_at r3 EU) (HM.out.at F4) (q3.at EU)).mono (R' := fun e w' => e = .returned (.bool true) ∧ Ext U w') (fun e w' ⟨b, h4, h5, h6⟩ => ⟨by rw [h4, h5.2 ⟨rfl, hts3.symm⟩], h6⟩)
        unfold bunV at cE
        replace cE := Kp.mk cE
        have HU := Kp.mk hU
        clear hU E3 EU r3 q3 hts3 F2 A2 cF
        go_upto_region 6 with fail
        rw [HU.out]
        clear HU
        have a0 := D4.cell 0; have a1 := D4.cell 1; have a2 := D4.cell 2; have a3 := D4.cell 3
        have b0 := DU.cell 0; have b1 := DU.cell 1; have b2 := DU.cell 2; have b3 := DU.cell 3
        simp only [List.getElem?_cons_zero, List.getElem?_cons_succ] at a0 a1 a2 a3 b0 b1 b2 b3
        go_wp2_with fail
        refine cE.out.mono ?_
        rintro e w4 ⟨rfl, E4⟩
        have F5 := F4.tr E4
        have A5 := D4.ext E4 D4.lt
        clear a0 a1 a2 a3 b0 b1 b2 b3 D4 DU F4 E4 cE
        have a0 := A5.cell 0; have a1 := A5.cell 1; have a2 := A5.cell 2; have a3 := A5.cell 3
        simp only [List.getElem?_cons_zero, List.getElem?_cons_succ] at a0 a1 a2 a3
        go_wp2_with fail
        refine (cS.out _ F5).mono ?_
        rintro e w6 ⟨rfl, E6⟩
        have FR := F5.tr E6
        have tz : ((X.length : Int) != (Z : Int)) = false := by rw [hZX]; simp
        clear a0 a1 a2 a3 A5 F5 E6 cS hZX hXl HL HM
        go_wp2_with fail
        refine (cB.out _).mono ?_
        rintro e w5 ⟨A5, c5, M5, n5, ts, rfl, r5, q5, hts, E5⟩
        obtain ⟨V5, hV5, EV5, D5⟩ : ∃ V, w5.alloc (.cells #[.string (ofL bi), .slice A5 bl.length c5, .string (ofL bt), .slice M5 bm.length n5] 38) = V ∧ Ext w5 V ∧ Arr V w5.heap.size 38 [.string (ofL bi), .slice A5 bl.length c5, .string (ofL bt), .slice M5 bm.length n5] := ⟨_, rfl, (Ext.rfl' w5).al _, Arr.new w5 _ [.string (ofL bi), .slice A5 bl.length c5, .string (ofL bt), .slice M5 bm.length n5]⟩
        have F6 := (FR.tr E5).tr EV5
        have hln : ts.length = bm.length := by rw [← hts, List.length_map]
        have cC := buput_any ⟨bi, bt, A5, c5, bl⟩ M5 n5 ts V5 (hT.ext F6) (rd_at r5 EV5) (by rw [hln]; exact q5.at EV5) (by have := hbs.out.1; show bt.length ≤ 10000; omega) (fun d hd => by
          have h1 := hbs.out.2.2 d.plain (by rw [← hts]; exact List.mem_map_of_mem hd)
          have h2 : d.plain.tag = d.tag := rfl
          rw [h2] at h1; omega) (by rw [hln]; have := hbs.out.2.1; omega)
        rw [hts, hln] at cC
        unfold bunV at cC
        dsimp only [TokA.plain] at cC
        replace cC := Kp.mk cC
        have HV5 := Kp.mk hV5
        clear hV5 E5 EV5 r5 q5 hts hln FR cB
        go_upto_region 9 with fail
        rw [HV5.out]
        clear HV5
        have b0 := D5.cell 0; have b1 := D5.cell 1; have b2 := D5.cell 2; have b3 := D5.cell 3
        simp only [List.getElem?_cons_zero, List.getElem?_cons_succ] at b0 b1 b2 b3
        go_wp2_with fail
        refine cC.out.mono ?_
        rintro e w7 ⟨rfl, E7⟩
        have F7 := F6.tr E7
        clear b0 b1 b2 b3 D5 F6 E7 cC
        by_cases hg : g = 0
        · have hp := hback.out hg
          subst hg
          rw [hp]
          dsimp only
          clear hp hback
          go_wp2_with fail
          refine (bu_works _ (hT.ext F7)).mono ?_
          rintro e w8 ⟨rfl, E8⟩
          go_wp2
          go_ret
          exact ⟨rfl, F7.tr E8⟩
        · have t9 : (g != 0) = true := bne_iff_ne.2 hg
          clear hg hback
          go_wp2_with fail
          refine (bu_works _ (hT.ext F7)).mono ?_
          rintro e w8 ⟨rfl, E8⟩
          go_wp2
          go_ret
          exact ⟨rfl, F7.tr E8⟩
      · have tx : ((x : Int) == 0) = false := by simp; omega
        have FR := F2
        clear hx hfwd hsz F2 A2 HL HM
        go_wp2_with fail
        refine (cB.out _).mono ?_
        rintro e w5 ⟨A5, c5, M5, n5, ts, rfl, r5, q5, hts, E5⟩
        obtain ⟨V5, hV5, EV5, D5⟩ : ∃ V, w5.alloc (.cells #[.string (ofL bi), .slice A5 bl.length c5, .string (ofL bt), .slice M5 bm.length n5] 38) = V ∧ Ext w5 V ∧ Arr V w5.heap.size 38 [.string (ofL bi), .slice A5 bl.length c5, .string (ofL bt), .slice M5 bm.length n5] := ⟨_, rfl, (Ext.rfl' w5).al _, Arr.new w5 _ [.string (ofL bi), .slice A5 bl.length c5, .string (ofL bt), .slice M5 bm.length n5]⟩
        have F6 := (FR.tr E5).tr EV5
        have hln : ts.length = bm.length := by rw [← hts, List.length_map]
        have cC := buput_any ⟨bi, bt, A5, c5, bl⟩ M5 n5 ts V5 (hT.ext F6) (rd_at r5 EV5) (by rw [hln]; exact q5.at EV5) (by have := hbs.out.1; show bt.length ≤ 10000; omega) (fun d hd => by
          have h1 := hbs.out.2.2 d.plain (by rw [← hts]; exact List.mem_map_of_mem hd)
          have h2 : d.plain.tag = d.tag := rfl
          rw [h2] at h1; omega) (by rw [hln]; have := hbs.out.2.1; omega)
        rw [hts, hln] at cC
        unfold bunV at cC
        dsimp only [TokA.plain] at cC
        replace cC := Kp.mk cC
        have HV5 := Kp.mk hV5
        clear hV5 E5 EV5 r5 q5 hts hln FR cB
        go_upto_region 9 with fail
        rw [HV5.out]
        clear HV5
        have b0 := D5.cell 0; have b1 := D5.cell 1; have b2 := D5.cell 2; have b3 := D5.cell 3
        simp only [List.getElem?_cons_zero, List.getElem?_cons_succ] at b0 b1 b2 b3
        go_wp2_with fail
        refine cC.out.mono ?_
        rintro e w7 ⟨rfl, E7⟩
        have F7 := F6.tr E7
        clear b0 b1 b2 b3 D5 F6 E7 cC
        by_cases hg : g = 0
        · have hp := hback.out hg
          subst hg
          rw [hp]
          dsimp only
          clear hp hback
          go_wp2_with fail
          refine (bu_works _ (hT.ext F7)).mono ?_
          rintro e w8 ⟨rfl, E8⟩
          go_wp2
          go_ret
          exact ⟨rfl, F7.tr E8⟩
        · have t9 : (g != 0) = true := bne_iff_ne.2 hg
          clear hg hback
          go_wp2_with fail
          refine (bu_works _ (hT.ext F7)).mono ?_
          rintro e w8 ⟨rfl, E8⟩
          go_wp2
          go_ret
          exact ⟨rfl, F7.tr E8⟩
end Go.Proofs.YtmnpbpfeoackiaaDoor

namespace Go.Proofs.YtmnpbpfeoackiaaDoor
open Go.RowKit

theorem bundleGets_walk2 (s : ByteArray) (w : World) (hT : ErrT w) (hs : s.size ≤ 9223372036854775807) : Calls Tryd.prog 7 #[.string s] w fun e w' => e = .returned (.bool true) ∧ Ext w w' := by
  have h := bundleGets_walk (toL s) w hT (by rw [length_toL]; exact hs)
  rw [ofL_toL] at h
  exact h
theorem bundlePuts_walk2 (t : TokA) (Am : Option Addr) (cm : Nat) (more : List TokA) (w : World) (hT : ErrT w) (ht : TokOk w t) (hr : Rd w w.heap.size 3 (.slice Am more.length cm) more.length (toksCells more)) (hm : ∀ x ∈ more, TokOk w x) :
    Calls Tryd.prog 6 #[bunV t.id (.slice t.A t.l.length t.c) t.tag (.slice Am more.length cm)] w fun e w' => e = .returned (.bool true) ∧ Ext w w' := bundlePuts_walk t Am cm more w hT ht.1 ⟨hr, fun x hx => (hm x hx).1⟩
theorem bundleBack_walk2 (t : TokA) (Am : Option Addr) (cm : Nat) (more : List TokA) (s : ByteArray) (w : World) (hT : ErrT w) (ht : TokOk w t) (hr : Rd w w.heap.size 3 (.slice Am more.length cm) more.length (toksCells more)) (hm : ∀ x ∈ more, TokOk w x) (hs : s.size ≤ 9223372036854775807) :
    Calls Tryd.prog 8 #[bunV t.id (.slice t.A t.l.length t.c) t.tag (.slice Am more.length cm), .string s] w fun e w' => e = .returned (.bool true) ∧ Ext w w' := by
  have h := bundleBack_walk t Am cm more (toL s) w hT ht.1 ⟨hr, fun x hx => (hm x hx).1⟩ (by rw [length_toL]; exact hs)
  rw [ofL_toL] at h
  exact h
end Go.Proofs.YtmnpbpfeoackiaaDoor
