/-
  Chapter 35's laws: HolderAdds returns true. Condition: the package's table holds the constants.
-/
import Derived.Test.YtejhiekikblbiaaDoorHo9
import Derived.Test.YtejhiekikblbiaaDoorMgI
namespace Go.Proofs.YtejhiekikblbiaaDoor
open Go.RowKit

/-- A token and an error's number, the token only read. -/
def TokGot (w : World) (T : TokL) (y : Int) (e : Ending) (w' : World) : Prop := ∃ A c, e = .returned (.tuple #[.agg #[.string (ofL T.id), .slice A T.links.length c, .string (ofL T.tag)], .int .i64 y]) ∧ RdLinks w' w'.heap.size (.slice A T.links.length c) T.links ∧ Ext w w'
theorem TokNew.got {w : World} {r : TokL × Nat} {e : Ending} {w' : World} (h : TokNew w r e w') : TokGot w r.1 r.2 e w' := by
  obtain ⟨v, rfl, h2, h3⟩ := h
  obtain ⟨A, c, rfl⟩ := own_slice h2
  exact ⟨A, c, rfl, own_links h2 rfl, h3⟩
theorem sameTok_self (i t : List UInt8) (l : List LinkL) : sameTok i t l i t l = true := decide_eq_true ⟨rfl, rfl, rfl⟩
/-- A new box of a token. -/
theorem tok_box (w : World) (a b c : Value) : ∃ V, w.alloc (.cells #[a, b, c] 24) = V ∧ Ext w V ∧ Arr V w.heap.size 24 [a, b, c] := ⟨_, rfl, (Ext.rfl' w).al _, Arr.new w _ [a, b, c]⟩

set_option maxRecDepth 100000 in
set_option maxHeartbeats 4000000 in
theorem holderAdds_walk (id tag : List UInt8) (A : Option Addr) (c : Nat) (l : List LinkL) (s p q : List UInt8) (w : World) (hT : Tab w) (hl : RdLinks w w.heap.size (.slice A l.length c) l) :
    Calls Tryd.prog 5 #[tokV id (.slice A l.length c) tag, .string (ofL s), .agg #[.string (ofL p), .string (ofL q)]] w fun e w' => e = .returned (.bool true) ∧ Ext w w' := by
  have cW := Kp.mk howorks_any
  have zs : (ofL s).size = s.length := size_ofL _
  have zp : (ofL p).size = p.length := size_ofL _
  have HL := Kp.mk hl
  obtain ⟨W0, hW0, E0, B1, B2⟩ : ∃ W, (w.alloc (.cells #[.string (ofL id), .slice A l.length c, .string (ofL tag)] 24)).alloc (.cells #[.string (ofL p), .string (ofL q)] 44) = W ∧ Ext w W ∧ Arr W w.heap.size 24 [.string (ofL id), .slice A l.length c, .string (ofL tag)] ∧ Arr W (w.heap.size + 1) 44 [.string (ofL p), .string (ofL q)] := by
    refine ⟨_, rfl, ((Ext.rfl' w).al _).al _, (Arr.new w _ [.string (ofL id), .slice A l.length c, .string (ofL tag)]).alloc _, ?_⟩
    have h := Arr.new (w.alloc (.cells #[.string (ofL id), .slice A l.length c, .string (ofL tag)] 24)) 44 [.string (ofL p), .string (ofL q)]
    rw [World.size_alloc] at h
    exact h
  obtain ⟨b, hb, hgr⟩ := great35_det id tag l
  have cG := Kp.mk (hgr (.slice A l.length c) W0 (rd_at HL.out E0))
  clear hgr
  have HW := Kp.mk hW0
  clear hl hW0
  unfold tokV at *
  go_enter Tryd.func5, Tryd.ntmps5
  go_wp2_with fail
  rw [HW.out]
  refine cG.out.mono ?_
  rintro e w1 ⟨rfl, E1⟩
  have F1 := E0.tr E1
  have C1 := B1.ext E1 B1.lt
  have C2 := B2.ext E1 B2.lt
  have q0 := C1.cell 0; have q1 := C1.cell 1; have q2 := C1.cell 2; have p0 := C2.cell 0; have p1 := C2.cell 1
  simp only [List.getElem?_cons_zero, List.getElem?_cons_succ] at q0 q1 q2 p0 p1
  clear B1 B2 E0 E1 HW cG
  cases b with
  | true =>
    go_wp2_with fail
    refine (cW.out _ (hT.ext F1)).mono ?_
    rintro e w9 ⟨rfl, E9⟩
    go_wp2
    go_ret
    exact ⟨rfl, F1.tr E9⟩
  | false =>
    have hsm := hb rfl
    have hl70 := hsm.2.2.1
    have htl := hsm.2.1
    have hil := hsm.1
    by_cases g1 : 4200 < s.length
    · have g2 : ¬ s.length ≤ 2048 := by omega
      go_wp2_with fail
      refine (cW.out _ (hT.ext F1)).mono ?_
      rintro e w9 ⟨rfl, E9⟩
      go_wp2
      go_ret
      exact ⟨rfl, F1.tr E9⟩
    · by_cases g2 : s.length ≤ 2048
      · by_cases g3 : 200 < s.length
        · go_wp2_with fail
          refine (cW.out _ (hT.ext F1)).mono ?_
          rintro e w9 ⟨rfl, E9⟩
          go_wp2
          go_ret
          exact ⟨rfl, F1.tr E9⟩
        · by_cases g4 : 4200 < p.length
          · have g5 : ¬ p.length ≤ 4096 := by omega
            go_wp2_with fail
            refine (cW.out _ (hT.ext F1)).mono ?_
            rintro e w9 ⟨rfl, E9⟩
            go_wp2
            go_ret
            exact ⟨rfl, F1.tr E9⟩
          · by_cases g5 : p.length ≤ 4096
            · by_cases g6 : 200 < p.length
              · go_wp2_with fail
                refine (cW.out _ (hT.ext F1)).mono ?_
                rintro e w9 ⟨rfl, E9⟩
                go_wp2
                go_ret
                exact ⟨rfl, F1.tr E9⟩
              · have HS := Kp.mk hsm
                obtain ⟨T, y, c1, c2⟩ : ∃ (T : TokL) (y : Int), (∀ W, Tab W → RdLinks W W.heap.size (.slice A l.length c) l → Calls Tryd.prog 24 #[.agg #[.string (ofL id), .slice A l.length c, .string (ofL tag)], .string (ofL s)] W (TokGot W T y)) ∧ (∀ W, RdLinks W W.heap.size (.slice A l.length c) l → Calls Tryd.prog 25 #[.agg #[.string (ofL id), .slice A l.length c, .string (ofL tag)], .string (ofL s)] W (TokGot W T y)) :=
                  ⟨_, _, fun W h1 h2 => (hoadd_any id tag s A c l W h1 h2 (by omega) (by omega) (by omega)).mono fun _ _ h => h.got, fun W h2 => (rhoadd_any id tag s A c l W h2 (by omega) (by omega) (by omega)).mono fun _ _ h => h.got⟩
                obtain ⟨U, z, c3, c4⟩ : ∃ (U : TokL) (z : Int), (∀ W, Tab W → RdLinks W W.heap.size (.slice A l.length c) l → Calls Tryd.prog 26 #[.agg #[.string (ofL id), .slice A l.length c, .string (ofL tag)], .string (ofL s), .string (ofL p), .string (ofL q)] W (TokGot W U z)) ∧ (∀ W, RdLinks W W.heap.size (.slice A l.length c) l → Calls Tryd.prog 27 #[.agg #[.string (ofL id), .slice A l.length c, .string (ofL tag)], .string (ofL s), .string (ofL p), .string (ofL q)] W (TokGot W U z)) :=
                  ⟨_, _, fun W h1 h2 => (hothird_any id tag s p q A c l W h1 h2 (by omega) (by omega) (by omega)).mono fun _ _ h => h.got, fun W h2 => (rhothird_any id tag s p q A c l W h2 (by omega) (by omega) (by omega)).mono fun _ _ h => h.got⟩
                have K1 := Kp.mk c1; have K2 := Kp.mk c2; have K3 := Kp.mk c3; have K4 := Kp.mk c4
                clear c1 c2 c3 c4 hsm
                go_wp2_with fail
                refine (K1.out _ (hT.ext F1) (rd_at HL.out F1)).mono ?_
                rintro e w2 ⟨A2, k2, rfl, R2, E2⟩
                have F2 := F1.tr E2
                obtain ⟨V2, hV2, G2, M2⟩ := tok_box w2 (.string (ofL T.id)) (.slice A2 T.links.length k2) (.string (ofL T.tag))
                have HV2 := Kp.mk hV2
                clear hV2 q0 q1 q2 p0 p1
                go_upto_region 4 with fail
                rw [HV2.out]
                have D2 := C1.ext (E2.tr G2) C1.lt
                have X2 := C2.ext (E2.tr G2) C2.lt
                have q0 := D2.cell 0; have q1 := D2.cell 1; have q2 := D2.cell 2
                simp only [List.getElem?_cons_zero, List.getElem?_cons_succ] at q0 q1 q2
                go_wp2_with fail
                have F3 := F2.tr G2
                refine (K2.out _ (rd_at HL.out F3)).mono ?_
                rintro e w3 ⟨A3, k3, rfl, R3, E3⟩
                have N2 := M2.ext E3 M2.lt
                have S2 := rd_at R2 (G2.tr E3)
                have F4 := F3.tr E3
                obtain ⟨V3, hV3, G3, M3⟩ := tok_box w3 (.string (ofL T.id)) (.slice A3 T.links.length k3) (.string (ofL T.tag))
                have HV3 := Kp.mk hV3
                have D3 := D2.ext (E3.tr G3) D2.lt
                have X3 := X2.ext (E3.tr G3) X2.lt
                clear hV3 q0 q1 q2
                go_upto_region 5 with fail
                rw [HV3.out]
                have q0 := D3.cell 0; have q1 := D3.cell 1; have q2 := D3.cell 2; have p0 := X3.cell 0; have p1 := X3.cell 1
                simp only [List.getElem?_cons_zero, List.getElem?_cons_succ] at q0 q1 q2 p0 p1
                go_wp2_with fail
                have F5 := F4.tr G3
                refine (K3.out _ (hT.ext F5) (rd_at HL.out F5)).mono ?_
                rintro e w4 ⟨A4, k4, rfl, R4, E4⟩
                have N3 := M3.ext E4 M3.lt
                have N22 := N2.ext (G3.tr E4) N2.lt
                have S3 := rd_at R3 (G3.tr E4)
                have S22 := rd_at S2 (G3.tr E4)
                have F6 := F5.tr E4
                obtain ⟨V4, hV4, G4, M4⟩ := tok_box w4 (.string (ofL U.id)) (.slice A4 U.links.length k4) (.string (ofL U.tag))
                have HV4 := Kp.mk hV4
                have D4 := D3.ext (E4.tr G4) D3.lt
                have X4 := X3.ext (E4.tr G4) X3.lt
                clear hV4 q0 q1 q2 p0 p1
                go_upto_region 6 with fail
                rw [HV4.out]
                have q0 := D4.cell 0; have q1 := D4.cell 1; have q2 := D4.cell 2; have p0 := X4.cell 0; have p1 := X4.cell 1
                simp only [List.getElem?_cons_zero, List.getElem?_cons_succ] at q0 q1 q2 p0 p1
                go_wp2_with fail
                have F7 := F6.tr G4
                refine (K4.out _ (rd_at HL.out F7)).mono ?_
                rintro e w5 ⟨A5, k5, rfl, R5, E5⟩
                have N4 := M4.ext E5 M4.lt
                have N33 := N3.ext (G4.tr E5) N3.lt
                have N222 := N22.ext (G4.tr E5) N22.lt
                have S4 := rd_at R4 (G4.tr E5)
                have S33 := rd_at S3 (G4.tr E5)
                have S222 := rd_at S22 (G4.tr E5)
                have F8 := F7.tr E5
                obtain ⟨V5, hV5, G5, M5⟩ := tok_box w5 (.string (ofL U.id)) (.slice A5 U.links.length k5) (.string (ofL U.tag))
                have HV5 := Kp.mk hV5
                have F9 := F8.tr G5
                have z2 := N222.ext G5 N222.lt
                have z3 := N33.ext G5 N33.lt
                have z4 := N4.ext G5 N4.lt
                have L2 := rd_at S222 G5
                have L3 := rd_at S33 G5
                have L4 := rd_at S4 G5
                have L5 := rd_at R5 G5
                have cS := Kp.mk (sameToken_any T.id T.tag (.slice A2 T.links.length k2) T.links T.id T.tag (.slice A3 T.links.length k3) T.links V5 L2 L3)
                have cU := Kp.mk (fun (W : World) (hW : Ext V5 W) => sameToken_any U.id U.tag (.slice A4 U.links.length k4) U.links U.id U.tag (.slice A5 U.links.length k5) U.links W (rd_at L4 hW) (rd_at L5 hW))
                rw [sameTok_self] at cS cU
                unfold tokV at cS cU
                clear hV5 q0 q1 q2 p0 p1 C1 C2 D2 X2 D3 X3 D4 X4 N2 N22 N222 N3 N33 N4 S2 S22 S222 S3 S33 S4 R2 R3 R4 R5 L2 L3 L4 L5 M2 M3 M4 E2 E3 E4 E5 G2 G3 G4 F1 F2 F3 F4 F5 F6 F7 HV2 HV3 HV4 K1 K2 K3 K4
                go_upto_region 7 with fail
                rw [HV5.out]
                have r0 := z2.cell 0; have r1 := z2.cell 1; have r2 := z2.cell 2
                have s0 := z3.cell 0; have s1 := z3.cell 1; have s2 := z3.cell 2
                simp only [List.getElem?_cons_zero, List.getElem?_cons_succ] at r0 r1 r2 s0 s1 s2
                go_wp2_with fail
                refine cS.out.mono ?_
                rintro e w6 ⟨rfl, E6⟩
                have y4 := z4.ext E6 z4.lt
                have y5 := M5.ext E6 M5.lt
                clear r0 r1 r2 s0 s1 s2 z2 z3 z4 M5 HV5 cS
                have r0 := y4.cell 0; have r1 := y4.cell 1; have r2 := y4.cell 2
                have s0 := y5.cell 0; have s1 := y5.cell 1; have s2 := y5.cell 2
                simp only [List.getElem?_cons_zero, List.getElem?_cons_succ] at r0 r1 r2 s0 s1 s2
                go_wp2_with fail
                refine (cU.out _ E6).mono ?_
                rintro e w7 ⟨rfl, E7⟩
                have F10 := (F9.tr E6).tr E7
                clear r0 r1 r2 s0 s1 s2 y4 y5 cU F9 E6 E7
                go_wp2_with fail
                refine (cW.out _ (hT.ext F10)).mono ?_
                rintro e w9 ⟨rfl, E9⟩
                go_wp2
                go_ret
                exact ⟨rfl, F10.tr E9⟩
            · have HS := Kp.mk hsm
              obtain ⟨T, y, c1, c2⟩ : ∃ (T : TokL) (y : Int), (∀ W, Tab W → RdLinks W W.heap.size (.slice A l.length c) l → Calls Tryd.prog 24 #[.agg #[.string (ofL id), .slice A l.length c, .string (ofL tag)], .string (ofL s)] W (TokGot W T y)) ∧ (∀ W, RdLinks W W.heap.size (.slice A l.length c) l → Calls Tryd.prog 25 #[.agg #[.string (ofL id), .slice A l.length c, .string (ofL tag)], .string (ofL s)] W (TokGot W T y)) :=
                ⟨_, _, fun W h1 h2 => (hoadd_any id tag s A c l W h1 h2 (by omega) (by omega) (by omega)).mono fun _ _ h => h.got, fun W h2 => (rhoadd_any id tag s A c l W h2 (by omega) (by omega) (by omega)).mono fun _ _ h => h.got⟩
              obtain ⟨U, z, c3, c4⟩ : ∃ (U : TokL) (z : Int), (∀ W, Tab W → RdLinks W W.heap.size (.slice A l.length c) l → Calls Tryd.prog 26 #[.agg #[.string (ofL id), .slice A l.length c, .string (ofL tag)], .string (ofL s), .string (ofL p), .string (ofL q)] W (TokGot W U z)) ∧ (∀ W, RdLinks W W.heap.size (.slice A l.length c) l → Calls Tryd.prog 27 #[.agg #[.string (ofL id), .slice A l.length c, .string (ofL tag)], .string (ofL s), .string (ofL p), .string (ofL q)] W (TokGot W U z)) :=
                ⟨_, _, fun W h1 h2 => (hothird_any id tag s p q A c l W h1 h2 (by omega) (by omega) (by omega)).mono fun _ _ h => h.got, fun W h2 => (rhothird_any id tag s p q A c l W h2 (by omega) (by omega) (by omega)).mono fun _ _ h => h.got⟩
              have K1 := Kp.mk c1; have K2 := Kp.mk c2; have K3 := Kp.mk c3; have K4 := Kp.mk c4
              clear c1 c2 c3 c4 hsm
              go_wp2_with fail
              refine (K1.out _ (hT.ext F1) (rd_at HL.out F1)).mono ?_
              rintro e w2 ⟨A2, k2, rfl, R2, E2⟩
              have F2 := F1.tr E2
              obtain ⟨V2, hV2, G2, M2⟩ := tok_box w2 (.string (ofL T.id)) (.slice A2 T.links.length k2) (.string (ofL T.tag))
              have HV2 := Kp.mk hV2
              clear hV2 q0 q1 q2 p0 p1
              go_upto_region 4 with fail
              rw [HV2.out]
              have D2 := C1.ext (E2.tr G2) C1.lt
              have X2 := C2.ext (E2.tr G2) C2.lt
              have q0 := D2.cell 0; have q1 := D2.cell 1; have q2 := D2.cell 2
              simp only [List.getElem?_cons_zero, List.getElem?_cons_succ] at q0 q1 q2
              go_wp2_with fail
              have F3 := F2.tr G2
              refine (K2.out _ (rd_at HL.out F3)).mono ?_
              rintro e w3 ⟨A3, k3, rfl, R3, E3⟩
              have N2 := M2.ext E3 M2.lt
              have S2 := rd_at R2 (G2.tr E3)
              have F4 := F3.tr E3
              obtain ⟨V3, hV3, G3, M3⟩ := tok_box w3 (.string (ofL T.id)) (.slice A3 T.links.length k3) (.string (ofL T.tag))
              have HV3 := Kp.mk hV3
              have D3 := D2.ext (E3.tr G3) D2.lt
              have X3 := X2.ext (E3.tr G3) X2.lt
              clear hV3 q0 q1 q2
              go_upto_region 5 with fail
              rw [HV3.out]
              have q0 := D3.cell 0; have q1 := D3.cell 1; have q2 := D3.cell 2; have p0 := X3.cell 0; have p1 := X3.cell 1
              simp only [List.getElem?_cons_zero, List.getElem?_cons_succ] at q0 q1 q2 p0 p1
              go_wp2_with fail
              have F5 := F4.tr G3
              refine (K3.out _ (hT.ext F5) (rd_at HL.out F5)).mono ?_
              rintro e w4 ⟨A4, k4, rfl, R4, E4⟩
              have N3 := M3.ext E4 M3.lt
              have N22 := N2.ext (G3.tr E4) N2.lt
              have S3 := rd_at R3 (G3.tr E4)
              have S22 := rd_at S2 (G3.tr E4)
              have F6 := F5.tr E4
              obtain ⟨V4, hV4, G4, M4⟩ := tok_box w4 (.string (ofL U.id)) (.slice A4 U.links.length k4) (.string (ofL U.tag))
              have HV4 := Kp.mk hV4
              have D4 := D3.ext (E4.tr G4) D3.lt
              have X4 := X3.ext (E4.tr G4) X3.lt
              clear hV4 q0 q1 q2 p0 p1
              go_upto_region 6 with fail
              rw [HV4.out]
              have q0 := D4.cell 0; have q1 := D4.cell 1; have q2 := D4.cell 2; have p0 := X4.cell 0; have p1 := X4.cell 1
              simp only [List.getElem?_cons_zero, List.getElem?_cons_succ] at q0 q1 q2 p0 p1
              go_wp2_with fail
              have F7 := F6.tr G4
              refine (K4.out _ (rd_at HL.out F7)).mono ?_
              rintro e w5 ⟨A5, k5, rfl, R5, E5⟩
              have N4 := M4.ext E5 M4.lt
              have N33 := N3.ext (G4.tr E5) N3.lt
              have N222 := N22.ext (G4.tr E5) N22.lt
              have S4 := rd_at R4 (G4.tr E5)
              have S33 := rd_at S3 (G4.tr E5)
              have S222 := rd_at S22 (G4.tr E5)
              have F8 := F7.tr E5
              obtain ⟨V5, hV5, G5, M5⟩ := tok_box w5 (.string (ofL U.id)) (.slice A5 U.links.length k5) (.string (ofL U.tag))
              have HV5 := Kp.mk hV5
              have F9 := F8.tr G5
              have z2 := N222.ext G5 N222.lt
              have z3 := N33.ext G5 N33.lt
              have z4 := N4.ext G5 N4.lt
              have L2 := rd_at S222 G5
              have L3 := rd_at S33 G5
              have L4 := rd_at S4 G5
              have L5 := rd_at R5 G5
              have cS := Kp.mk (sameToken_any T.id T.tag (.slice A2 T.links.length k2) T.links T.id T.tag (.slice A3 T.links.length k3) T.links V5 L2 L3)
              have cU := Kp.mk (fun (W : World) (hW : Ext V5 W) => sameToken_any U.id U.tag (.slice A4 U.links.length k4) U.links U.id U.tag (.slice A5 U.links.length k5) U.links W (rd_at L4 hW) (rd_at L5 hW))
              rw [sameTok_self] at cS cU
              unfold tokV at cS cU
              clear hV5 q0 q1 q2 p0 p1 C1 C2 D2 X2 D3 X3 D4 X4 N2 N22 N222 N3 N33 N4 S2 S22 S222 S3 S33 S4 R2 R3 R4 R5 L2 L3 L4 L5 M2 M3 M4 E2 E3 E4 E5 G2 G3 G4 F1 F2 F3 F4 F5 F6 F7 HV2 HV3 HV4 K1 K2 K3 K4
              go_upto_region 7 with fail
              rw [HV5.out]
              have r0 := z2.cell 0; have r1 := z2.cell 1; have r2 := z2.cell 2
              have s0 := z3.cell 0; have s1 := z3.cell 1; have s2 := z3.cell 2
              simp only [List.getElem?_cons_zero, List.getElem?_cons_succ] at r0 r1 r2 s0 s1 s2
              go_wp2_with fail
              refine cS.out.mono ?_
              rintro e w6 ⟨rfl, E6⟩
              have y4 := z4.ext E6 z4.lt
              have y5 := M5.ext E6 M5.lt
              clear r0 r1 r2 s0 s1 s2 z2 z3 z4 M5 HV5 cS
              have r0 := y4.cell 0; have r1 := y4.cell 1; have r2 := y4.cell 2
              have s0 := y5.cell 0; have s1 := y5.cell 1; have s2 := y5.cell 2
              simp only [List.getElem?_cons_zero, List.getElem?_cons_succ] at r0 r1 r2 s0 s1 s2
              go_wp2_with fail
              refine (cU.out _ E6).mono ?_
              rintro e w7 ⟨rfl, E7⟩
              have F10 := (F9.tr E6).tr E7
              clear r0 r1 r2 s0 s1 s2 y4 y5 cU F9 E6 E7
              go_wp2_with fail
              refine (cW.out _ (hT.ext F10)).mono ?_
              rintro e w9 ⟨rfl, E9⟩
              go_wp2
              go_ret
              exact ⟨rfl, F10.tr E9⟩
      · by_cases g4 : 4200 < p.length
        · have g5 : ¬ p.length ≤ 4096 := by omega
          go_wp2_with fail
          refine (cW.out _ (hT.ext F1)).mono ?_
          rintro e w9 ⟨rfl, E9⟩
          go_wp2
          go_ret
          exact ⟨rfl, F1.tr E9⟩
        · by_cases g5 : p.length ≤ 4096
          · by_cases g6 : 200 < p.length
            · go_wp2_with fail
              refine (cW.out _ (hT.ext F1)).mono ?_
              rintro e w9 ⟨rfl, E9⟩
              go_wp2
              go_ret
              exact ⟨rfl, F1.tr E9⟩
            · have HS := Kp.mk hsm
              obtain ⟨T, y, c1, c2⟩ : ∃ (T : TokL) (y : Int), (∀ W, Tab W → RdLinks W W.heap.size (.slice A l.length c) l → Calls Tryd.prog 24 #[.agg #[.string (ofL id), .slice A l.length c, .string (ofL tag)], .string (ofL s)] W (TokGot W T y)) ∧ (∀ W, RdLinks W W.heap.size (.slice A l.length c) l → Calls Tryd.prog 25 #[.agg #[.string (ofL id), .slice A l.length c, .string (ofL tag)], .string (ofL s)] W (TokGot W T y)) :=
                ⟨_, _, fun W h1 h2 => (hoadd_any id tag s A c l W h1 h2 (by omega) (by omega) (by omega)).mono fun _ _ h => h.got, fun W h2 => (rhoadd_any id tag s A c l W h2 (by omega) (by omega) (by omega)).mono fun _ _ h => h.got⟩
              obtain ⟨U, z, c3, c4⟩ : ∃ (U : TokL) (z : Int), (∀ W, Tab W → RdLinks W W.heap.size (.slice A l.length c) l → Calls Tryd.prog 26 #[.agg #[.string (ofL id), .slice A l.length c, .string (ofL tag)], .string (ofL s), .string (ofL p), .string (ofL q)] W (TokGot W U z)) ∧ (∀ W, RdLinks W W.heap.size (.slice A l.length c) l → Calls Tryd.prog 27 #[.agg #[.string (ofL id), .slice A l.length c, .string (ofL tag)], .string (ofL s), .string (ofL p), .string (ofL q)] W (TokGot W U z)) :=
                ⟨_, _, fun W h1 h2 => (hothird_any id tag s p q A c l W h1 h2 (by omega) (by omega) (by omega)).mono fun _ _ h => h.got, fun W h2 => (rhothird_any id tag s p q A c l W h2 (by omega) (by omega) (by omega)).mono fun _ _ h => h.got⟩
              have K1 := Kp.mk c1; have K2 := Kp.mk c2; have K3 := Kp.mk c3; have K4 := Kp.mk c4
              clear c1 c2 c3 c4 hsm
              go_wp2_with fail
              refine (K1.out _ (hT.ext F1) (rd_at HL.out F1)).mono ?_
              rintro e w2 ⟨A2, k2, rfl, R2, E2⟩
              have F2 := F1.tr E2
              obtain ⟨V2, hV2, G2, M2⟩ := tok_box w2 (.string (ofL T.id)) (.slice A2 T.links.length k2) (.string (ofL T.tag))
              have HV2 := Kp.mk hV2
              clear hV2 q0 q1 q2 p0 p1
              go_upto_region 4 with fail
              rw [HV2.out]
              have D2 := C1.ext (E2.tr G2) C1.lt
              have X2 := C2.ext (E2.tr G2) C2.lt
              have q0 := D2.cell 0; have q1 := D2.cell 1; have q2 := D2.cell 2
              simp only [List.getElem?_cons_zero, List.getElem?_cons_succ] at q0 q1 q2
              go_wp2_with fail
              have F3 := F2.tr G2
              refine (K2.out _ (rd_at HL.out F3)).mono ?_
              rintro e w3 ⟨A3, k3, rfl, R3, E3⟩
              have N2 := M2.ext E3 M2.lt
              have S2 := rd_at R2 (G2.tr E3)
              have F4 := F3.tr E3
              obtain ⟨V3, hV3, G3, M3⟩ := tok_box w3 (.string (ofL T.id)) (.slice A3 T.links.length k3) (.string (ofL T.tag))
              have HV3 := Kp.mk hV3
              have D3 := D2.ext (E3.tr G3) D2.lt
              have X3 := X2.ext (E3.tr G3) X2.lt
              clear hV3 q0 q1 q2
              go_upto_region 5 with fail
              rw [HV3.out]
              have q0 := D3.cell 0; have q1 := D3.cell 1; have q2 := D3.cell 2; have p0 := X3.cell 0; have p1 := X3.cell 1
              simp only [List.getElem?_cons_zero, List.getElem?_cons_succ] at q0 q1 q2 p0 p1
              go_wp2_with fail
              have F5 := F4.tr G3
              refine (K3.out _ (hT.ext F5) (rd_at HL.out F5)).mono ?_
              rintro e w4 ⟨A4, k4, rfl, R4, E4⟩
              have N3 := M3.ext E4 M3.lt
              have N22 := N2.ext (G3.tr E4) N2.lt
              have S3 := rd_at R3 (G3.tr E4)
              have S22 := rd_at S2 (G3.tr E4)
              have F6 := F5.tr E4
              obtain ⟨V4, hV4, G4, M4⟩ := tok_box w4 (.string (ofL U.id)) (.slice A4 U.links.length k4) (.string (ofL U.tag))
              have HV4 := Kp.mk hV4
              have D4 := D3.ext (E4.tr G4) D3.lt
              have X4 := X3.ext (E4.tr G4) X3.lt
              clear hV4 q0 q1 q2 p0 p1
              go_upto_region 6 with fail
              rw [HV4.out]
              have q0 := D4.cell 0; have q1 := D4.cell 1; have q2 := D4.cell 2; have p0 := X4.cell 0; have p1 := X4.cell 1
              simp only [List.getElem?_cons_zero, List.getElem?_cons_succ] at q0 q1 q2 p0 p1
              go_wp2_with fail
              have F7 := F6.tr G4
              refine (K4.out _ (rd_at HL.out F7)).mono ?_
              rintro e w5 ⟨A5, k5, rfl, R5, E5⟩
              have N4 := M4.ext E5 M4.lt
              have N33 := N3.ext (G4.tr E5) N3.lt
              have N222 := N22.ext (G4.tr E5) N22.lt
              have S4 := rd_at R4 (G4.tr E5)
              have S33 := rd_at S3 (G4.tr E5)
              have S222 := rd_at S22 (G4.tr E5)
              have F8 := F7.tr E5
              obtain ⟨V5, hV5, G5, M5⟩ := tok_box w5 (.string (ofL U.id)) (.slice A5 U.links.length k5) (.string (ofL U.tag))
              have HV5 := Kp.mk hV5
              have F9 := F8.tr G5
              have z2 := N222.ext G5 N222.lt
              have z3 := N33.ext G5 N33.lt
              have z4 := N4.ext G5 N4.lt
              have L2 := rd_at S222 G5
              have L3 := rd_at S33 G5
              have L4 := rd_at S4 G5
              have L5 := rd_at R5 G5
              have cS := Kp.mk (sameToken_any T.id T.tag (.slice A2 T.links.length k2) T.links T.id T.tag (.slice A3 T.links.length k3) T.links V5 L2 L3)
              have cU := Kp.mk (fun (W : World) (hW : Ext V5 W) => sameToken_any U.id U.tag (.slice A4 U.links.length k4) U.links U.id U.tag (.slice A5 U.links.length k5) U.links W (rd_at L4 hW) (rd_at L5 hW))
              rw [sameTok_self] at cS cU
              unfold tokV at cS cU
              clear hV5 q0 q1 q2 p0 p1 C1 C2 D2 X2 D3 X3 D4 X4 N2 N22 N222 N3 N33 N4 S2 S22 S222 S3 S33 S4 R2 R3 R4 R5 L2 L3 L4 L5 M2 M3 M4 E2 E3 E4 E5 G2 G3 G4 F1 F2 F3 F4 F5 F6 F7 HV2 HV3 HV4 K1 K2 K3 K4
              go_upto_region 7 with fail
              rw [HV5.out]
              have r0 := z2.cell 0; have r1 := z2.cell 1; have r2 := z2.cell 2
              have s0 := z3.cell 0; have s1 := z3.cell 1; have s2 := z3.cell 2
              simp only [List.getElem?_cons_zero, List.getElem?_cons_succ] at r0 r1 r2 s0 s1 s2
              go_wp2_with fail
              refine cS.out.mono ?_
              rintro e w6 ⟨rfl, E6⟩
              have y4 := z4.ext E6 z4.lt
              have y5 := M5.ext E6 M5.lt
              clear r0 r1 r2 s0 s1 s2 z2 z3 z4 M5 HV5 cS
              have r0 := y4.cell 0; have r1 := y4.cell 1; have r2 := y4.cell 2
              have s0 := y5.cell 0; have s1 := y5.cell 1; have s2 := y5.cell 2
              simp only [List.getElem?_cons_zero, List.getElem?_cons_succ] at r0 r1 r2 s0 s1 s2
              go_wp2_with fail
              refine (cU.out _ E6).mono ?_
              rintro e w7 ⟨rfl, E7⟩
              have F10 := (F9.tr E6).tr E7
              clear r0 r1 r2 s0 s1 s2 y4 y5 cU F9 E6 E7
              go_wp2_with fail
              refine (cW.out _ (hT.ext F10)).mono ?_
              rintro e w9 ⟨rfl, E9⟩
              go_wp2
              go_ret
              exact ⟨rfl, F10.tr E9⟩
          · have HS := Kp.mk hsm
            obtain ⟨T, y, c1, c2⟩ : ∃ (T : TokL) (y : Int), (∀ W, Tab W → RdLinks W W.heap.size (.slice A l.length c) l → Calls Tryd.prog 24 #[.agg #[.string (ofL id), .slice A l.length c, .string (ofL tag)], .string (ofL s)] W (TokGot W T y)) ∧ (∀ W, RdLinks W W.heap.size (.slice A l.length c) l → Calls Tryd.prog 25 #[.agg #[.string (ofL id), .slice A l.length c, .string (ofL tag)], .string (ofL s)] W (TokGot W T y)) :=
              ⟨_, _, fun W h1 h2 => (hoadd_any id tag s A c l W h1 h2 (by omega) (by omega) (by omega)).mono fun _ _ h => h.got, fun W h2 => (rhoadd_any id tag s A c l W h2 (by omega) (by omega) (by omega)).mono fun _ _ h => h.got⟩
            obtain ⟨U, z, c3, c4⟩ : ∃ (U : TokL) (z : Int), (∀ W, Tab W → RdLinks W W.heap.size (.slice A l.length c) l → Calls Tryd.prog 26 #[.agg #[.string (ofL id), .slice A l.length c, .string (ofL tag)], .string (ofL s), .string (ofL p), .string (ofL q)] W (TokGot W U z)) ∧ (∀ W, RdLinks W W.heap.size (.slice A l.length c) l → Calls Tryd.prog 27 #[.agg #[.string (ofL id), .slice A l.length c, .string (ofL tag)], .string (ofL s), .string (ofL p), .string (ofL q)] W (TokGot W U z)) :=
              ⟨_, _, fun W h1 h2 => (hothird_any id tag s p q A c l W h1 h2 (by omega) (by omega) (by omega)).mono fun _ _ h => h.got, fun W h2 => (rhothird_any id tag s p q A c l W h2 (by omega) (by omega) (by omega)).mono fun _ _ h => h.got⟩
            have K1 := Kp.mk c1; have K2 := Kp.mk c2; have K3 := Kp.mk c3; have K4 := Kp.mk c4
            clear c1 c2 c3 c4 hsm
            go_wp2_with fail
            refine (K1.out _ (hT.ext F1) (rd_at HL.out F1)).mono ?_
            rintro e w2 ⟨A2, k2, rfl, R2, E2⟩
            have F2 := F1.tr E2
            obtain ⟨V2, hV2, G2, M2⟩ := tok_box w2 (.string (ofL T.id)) (.slice A2 T.links.length k2) (.string (ofL T.tag))
            have HV2 := Kp.mk hV2
            clear hV2 q0 q1 q2 p0 p1
            go_upto_region 4 with fail
            rw [HV2.out]
            have D2 := C1.ext (E2.tr G2) C1.lt
            have X2 := C2.ext (E2.tr G2) C2.lt
            have q0 := D2.cell 0; have q1 := D2.cell 1; have q2 := D2.cell 2
            simp only [List.getElem?_cons_zero, List.getElem?_cons_succ] at q0 q1 q2
            go_wp2_with fail
            have F3 := F2.tr G2
            refine (K2.out _ (rd_at HL.out F3)).mono ?_
            rintro e w3 ⟨A3, k3, rfl, R3, E3⟩
            have N2 := M2.ext E3 M2.lt
            have S2 := rd_at R2 (G2.tr E3)
            have F4 := F3.tr E3
            obtain ⟨V3, hV3, G3, M3⟩ := tok_box w3 (.string (ofL T.id)) (.slice A3 T.links.length k3) (.string (ofL T.tag))
            have HV3 := Kp.mk hV3
            have D3 := D2.ext (E3.tr G3) D2.lt
            have X3 := X2.ext (E3.tr G3) X2.lt
            clear hV3 q0 q1 q2
            go_upto_region 5 with fail
            rw [HV3.out]
            have q0 := D3.cell 0; have q1 := D3.cell 1; have q2 := D3.cell 2; have p0 := X3.cell 0; have p1 := X3.cell 1
            simp only [List.getElem?_cons_zero, List.getElem?_cons_succ] at q0 q1 q2 p0 p1
            go_wp2_with fail
            have F5 := F4.tr G3
            refine (K3.out _ (hT.ext F5) (rd_at HL.out F5)).mono ?_
            rintro e w4 ⟨A4, k4, rfl, R4, E4⟩
            have N3 := M3.ext E4 M3.lt
            have N22 := N2.ext (G3.tr E4) N2.lt
            have S3 := rd_at R3 (G3.tr E4)
            have S22 := rd_at S2 (G3.tr E4)
            have F6 := F5.tr E4
            obtain ⟨V4, hV4, G4, M4⟩ := tok_box w4 (.string (ofL U.id)) (.slice A4 U.links.length k4) (.string (ofL U.tag))
            have HV4 := Kp.mk hV4
            have D4 := D3.ext (E4.tr G4) D3.lt
            have X4 := X3.ext (E4.tr G4) X3.lt
            clear hV4 q0 q1 q2 p0 p1
            go_upto_region 6 with fail
            rw [HV4.out]
            have q0 := D4.cell 0; have q1 := D4.cell 1; have q2 := D4.cell 2; have p0 := X4.cell 0; have p1 := X4.cell 1
            simp only [List.getElem?_cons_zero, List.getElem?_cons_succ] at q0 q1 q2 p0 p1
            go_wp2_with fail
            have F7 := F6.tr G4
            refine (K4.out _ (rd_at HL.out F7)).mono ?_
            rintro e w5 ⟨A5, k5, rfl, R5, E5⟩
            have N4 := M4.ext E5 M4.lt
            have N33 := N3.ext (G4.tr E5) N3.lt
            have N222 := N22.ext (G4.tr E5) N22.lt
            have S4 := rd_at R4 (G4.tr E5)
            have S33 := rd_at S3 (G4.tr E5)
            have S222 := rd_at S22 (G4.tr E5)
            have F8 := F7.tr E5
            obtain ⟨V5, hV5, G5, M5⟩ := tok_box w5 (.string (ofL U.id)) (.slice A5 U.links.length k5) (.string (ofL U.tag))
            have HV5 := Kp.mk hV5
            have F9 := F8.tr G5
            have z2 := N222.ext G5 N222.lt
            have z3 := N33.ext G5 N33.lt
            have z4 := N4.ext G5 N4.lt
            have L2 := rd_at S222 G5
            have L3 := rd_at S33 G5
            have L4 := rd_at S4 G5
            have L5 := rd_at R5 G5
            have cS := Kp.mk (sameToken_any T.id T.tag (.slice A2 T.links.length k2) T.links T.id T.tag (.slice A3 T.links.length k3) T.links V5 L2 L3)
            have cU := Kp.mk (fun (W : World) (hW : Ext V5 W) => sameToken_any U.id U.tag (.slice A4 U.links.length k4) U.links U.id U.tag (.slice A5 U.links.length k5) U.links W (rd_at L4 hW) (rd_at L5 hW))
            rw [sameTok_self] at cS cU
            unfold tokV at cS cU
            clear hV5 q0 q1 q2 p0 p1 C1 C2 D2 X2 D3 X3 D4 X4 N2 N22 N222 N3 N33 N4 S2 S22 S222 S3 S33 S4 R2 R3 R4 R5 L2 L3 L4 L5 M2 M3 M4 E2 E3 E4 E5 G2 G3 G4 F1 F2 F3 F4 F5 F6 F7 HV2 HV3 HV4 K1 K2 K3 K4
            go_upto_region 7 with fail
            rw [HV5.out]
            have r0 := z2.cell 0; have r1 := z2.cell 1; have r2 := z2.cell 2
            have s0 := z3.cell 0; have s1 := z3.cell 1; have s2 := z3.cell 2
            simp only [List.getElem?_cons_zero, List.getElem?_cons_succ] at r0 r1 r2 s0 s1 s2
            go_wp2_with fail
            refine cS.out.mono ?_
            rintro e w6 ⟨rfl, E6⟩
            have y4 := z4.ext E6 z4.lt
            have y5 := M5.ext E6 M5.lt
            clear r0 r1 r2 s0 s1 s2 z2 z3 z4 M5 HV5 cS
            have r0 := y4.cell 0; have r1 := y4.cell 1; have r2 := y4.cell 2
            have s0 := y5.cell 0; have s1 := y5.cell 1; have s2 := y5.cell 2
            simp only [List.getElem?_cons_zero, List.getElem?_cons_succ] at r0 r1 r2 s0 s1 s2
            go_wp2_with fail
            refine (cU.out _ E6).mono ?_
            rintro e w7 ⟨rfl, E7⟩
            have F10 := (F9.tr E6).tr E7
            clear r0 r1 r2 s0 s1 s2 y4 y5 cU F9 E6 E7
            go_wp2_with fail
            refine (cW.out _ (hT.ext F10)).mono ?_
            rintro e w9 ⟨rfl, E9⟩
            go_wp2
            go_ret
            exact ⟨rfl, F10.tr E9⟩
theorem holderAdds_walk2 (t : TokA) (b : ByteArray) (p : List UInt8 × List UInt8) (w : World) (hT : Tab w) (ht : TokOk w t) (_hb : b.size ≤ maxLen) (_ : True) : Calls Tryd.prog 5 #[tokAV t, .string b, pairV p] w fun e w' => e = .returned (.bool true) ∧ Ext w w' := by
  have q := holderAdds_walk t.id t.tag t.A t.c t.l (toL b) p.1 p.2 w hT ht.1
  rw [ofL_toL] at q
  exact q
end Go.Proofs.YtejhiekikblbiaaDoor
