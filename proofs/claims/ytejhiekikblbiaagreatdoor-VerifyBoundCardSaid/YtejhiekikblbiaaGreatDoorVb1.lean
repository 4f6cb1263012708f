/-
  Chapter 37's laws: VerifyBound returns true. Condition: the package's table holds the constants.
-/
import Derived.Test.YtejhiekikblbiaaGreatDoorVbPlain
import Derived.Test.YtejhiekikblbiaaGreatDoorMgM
import Derived.Test.YtejhiekikblbiaaGreatDoorNo4
import Derived.Test.YtejhiekikblbiaaGreatDoorMgJ
import Derived.Test.YtejhiekikblbiaaGreatDoorRp2
namespace Go.Proofs.YtejhiekikblbiaaGreatDoor
open Go.RowKit

set_option maxRecDepth 100000 in
@[go_sem] theorem Tryz.p_field4 (a b c d e : Value) (W : World) : (Instr.field 47 (.agg #[a, b, c, d, e]) 4).run Tryz.prog W = .ok e W := by kernel_rfl
theorem nilD : ∀ d ∈ ([] : List (List UInt8)), d.length ≤ 100000 := fun d h => by cases h
theorem one_tok {W : World} {g : Nat} {i t : List UInt8} {A : Option Addr} {n : Nat} {B : Nat} (h : W.ownsRow B 33 3 (.slice (some ⟨g, 0, none⟩) 1 1) 1 [.string (ofL i), .slice A 0 n, .string (ofL t)]) : RdToks W W.heap.size (.slice (some ⟨g, 0, none⟩) 1 1) [⟨i, t, A, n, []⟩] :=
  ⟨Rd.own h (by decide), fun d hd => by
    rw [List.mem_singleton.1 hd]
    exact ⟨A, n, rfl, by simp, rfl, fun h => absurd h (by simp)⟩⟩
theorem nil_rd (W : World) (A : Option Addr) (c : Nat) : RdLinks W W.heap.size (.slice A 0 c) [] := ⟨A, c, rfl, by decide, rfl, fun h => absurd h (by decide)⟩
set_option maxRecDepth 100000 in
set_option maxHeartbeats 16000000 in
theorem verifyBound_walk (k a b : List UInt8) (w : World) (hT : Tab w) :
    Calls Tryz.prog 5 #[.string (ofL k), .string (ofL a), .string (ofL b)] w fun e w' => e = .returned (.bool true) ∧ Ext w w' := by
  have cW := Kp.mk veworks_any
  have zk : (ofL k).size = k.length := size_ofL _
  have za : (ofL a).size = a.length := size_ofL _
  have zb : (ofL b).size = b.length := size_ofL _
  by_cases g1 : k.length = 32
  · have d1 : ((k.length : Int) != 32) = false := by simp; omega
    by_cases g2 : a = b
    · subst g2
      have F1 := Ext.rfl' w
      clear g1
      go_enter Tryz.func5, Tryz.ntmps5
      go_wp2_with fail
      refine (cW.out _ (hT.ext F1)).mono ?_
      rintro e w9 ⟨rfl, E9⟩
      go_wp2
      go_ret
      exact ⟨rfl, F1.tr E9⟩
    · have d2 : (a == b) = false := by simp [g2]
      by_cases g3 : 300 < a.length
      · have F1 := Ext.rfl' w
        clear g1
        go_enter Tryz.func5, Tryz.ntmps5
        go_wp2_with fail
        refine (cW.out _ (hT.ext F1)).mono ?_
        rintro e w9 ⟨rfl, E9⟩
        go_wp2
        go_ret
        exact ⟨rfl, F1.tr E9⟩
      · by_cases g4 : 300 < b.length
        · have F1 := Ext.rfl' w
          clear g1
          go_enter Tryz.func5, Tryz.ntmps5
          go_wp2_with fail
          refine (cW.out _ (hT.ext F1)).mono ?_
          rintro e w9 ⟨rfl, E9⟩
          go_wp2
          go_ret
          exact ⟨rfl, F1.tr E9⟩
        · obtain ⟨R, S, dt, SB, T1, Tx, Ty, hB⟩ := bound_ex k a b (by omega) (by omega) g2
          have lR := hB.lenR; have lS := hB.lenS; have lD := hB.lenD; have lB := hB.lenB; have l1 := hB.len1; have lx := hB.lenx; have ly := hB.leny
          have hk10 : k.length ≤ 10000 := by omega
          obtain ⟨BX, hBX⟩ : ∃ BX, bindL Tx dt = BX := ⟨_, rfl⟩
          obtain ⟨BY, hBY⟩ : ∃ BY, bindL Ty dt = BY := ⟨_, rfl⟩
          have lBX : BX.length = 32 := by rw [← hBX]; exact length_partsL _ _
          have lBY : BY.length = 32 := by rw [← hBY]; exact length_partsL _ _
          have hsame := hB.same; have hmix := hB.mixed; have hmix0 := hB.mixed0; have hcl := hB.clash; have hln := hB.lens; have hsh := hB.short
          rw [hBX] at hsame hmix hmix0 hcl
          rw [hBY] at hmix hmix0 hcl hln hsh
          obtain ⟨PX, hPX⟩ : ∃ PX, proveL k ⟨idS, [(S, SB), (a, [])], Tx⟩ [⟨S, [], BX⟩] = PX := ⟨_, rfl⟩
          obtain ⟨PM, hPM⟩ : ∃ PM, proveL k ⟨idS, [(S, SB), (a, [])], Tx⟩ [⟨S, [], BY⟩] = PM := ⟨_, rfl⟩
          obtain ⟨PY, hPY⟩ : ∃ PY, proveL k ⟨idS, [(S, SB), (b, [])], Ty⟩ [⟨S, [], BY⟩] = PY := ⟨_, rfl⟩
          rw [hPX] at hsame
          rw [hPM] at hmix hmix0 hcl hln hsh
          rw [hPY] at hcl hln hsh
          have cR := Kp.mk (show ∀ W, Tab W → Calls Tryz.prog 24 #[.string (ofL k), .string ⟨#[105, 100]⟩] W fun e w' => e = .returned (.string (ofL R)) ∧ Ext W w' from fun W h => by
            have q := root_any k idS W h (by omega) (by decide)
            rw [hB.root] at q
            exact q)
          have cT := Kp.mk (show ∀ W, Tab W → Calls Tryz.prog 9 #[.string ⟨#[110, 111, 116, 97, 114, 121]⟩, .string ⟨#[48, 49, 50, 51, 52, 53, 54, 55, 56, 57, 97, 98, 99, 100, 101, 102]⟩, .string ⟨#[99, 107]⟩, .string ⟨#[116, 101, 120, 116]⟩] W fun e w' => e = .returned (.tuple #[.string (ofL S), .int .i64 0]) ∧ Ext W w' from fun W h => by
            have q := ticket_any notaryS nonceN ckS textS W h (by decide) (by decide) (by decide)
            rw [hB.ticket] at q
            exact q)
          have cD := Kp.mk (show ∀ W, Tab W → Calls Tryz.prog 13 #[.string ⟨#[110, 111, 116, 97, 114, 121]⟩, .string (ofL S), .slice none 0 0] W fun e w' => ∃ A c, e = .returned (.tuple #[.agg #[.string (ofL S), .slice A 0 c, .string (ofL dt)], .int .i64 0]) ∧ Ext W w' from fun W h => by
            have q := discharge_any notaryS S none 0 [] W h (by decide) (by omega) ⟨none, 0, rfl, by decide, rfl, fun h => absurd h (by decide)⟩ nilD
            rw [hB.disch] at q
            refine q.mono fun e w' ⟨v, h1, h2, h3⟩ => ?_
            obtain ⟨A, c, rfl⟩ := own_slice h2
            exact ⟨A, c, h1, h3⟩)
          have cH := Kp.mk (show ∀ W, Tab W → Calls Tryz.prog 25 #[.agg #[.string ⟨#[105, 100]⟩, .slice none 0 0, .string (ofL R)], .string (ofL S), .string ⟨#[99, 107]⟩, .string ⟨#[102, 101, 100, 99, 98, 97, 57, 56, 55, 54, 53, 52, 51, 50, 49, 48]⟩] W fun e w' => ∃ A c, e = .returned (.tuple #[.agg #[.string ⟨#[105, 100]⟩, .slice A 1 c, .string (ofL T1)], .int .i64 0]) ∧ RdLinks w' w'.heap.size (.slice A 1 c) [(S, SB)] ∧ Ext W w' from fun W h => by
            have q := hothird_any idS R S ckS nonceF none 0 [] W h (nil_rd W none 0) (by decide) (by omega) (by omega)
            rw [hB.third] at q
            refine q.mono fun e w' ⟨v, h1, h2, h3⟩ => ?_
            obtain ⟨A, c, rfl⟩ := own_slice h2
            exact ⟨A, c, h1, own_links h2 rfl, h3⟩)
          have cA := Kp.mk (show ∀ (A : Option Addr) (c : Nat) (W : World), Tab W → RdLinks W W.heap.size (.slice A 1 c) [(S, SB)] → Calls Tryz.prog 26 #[.agg #[.string ⟨#[105, 100]⟩, .slice A 1 c, .string (ofL T1)], .string (ofL a)] W fun e w' => ∃ A c, e = .returned (.tuple #[.agg #[.string ⟨#[105, 100]⟩, .slice A 2 c, .string (ofL Tx)], .int .i64 0]) ∧ RdLinks w' w'.heap.size (.slice A 2 c) [(S, SB), (a, [])] ∧ Ext W w' from fun A c W h h2 => by
            have q := hoadd_any idS T1 a A c [(S, SB)] W h h2 (by simp) (by omega) (by omega)
            rw [hB.addx] at q
            refine q.mono fun e w' ⟨v, h1, h2, h3⟩ => ?_
            obtain ⟨A, c, rfl⟩ := own_slice h2
            exact ⟨A, c, h1, own_links h2 rfl, h3⟩)
          have cA2 := Kp.mk (show ∀ (A : Option Addr) (c : Nat) (W : World), Tab W → RdLinks W W.heap.size (.slice A 1 c) [(S, SB)] → Calls Tryz.prog 26 #[.agg #[.string ⟨#[105, 100]⟩, .slice A 1 c, .string (ofL T1)], .string (ofL b)] W fun e w' => ∃ A c, e = .returned (.tuple #[.agg #[.string ⟨#[105, 100]⟩, .slice A 2 c, .string (ofL Ty)], .int .i64 0]) ∧ RdLinks w' w'.heap.size (.slice A 2 c) [(S, SB), (b, [])] ∧ Ext W w' from fun A c W h h2 => by
            have q := hoadd_any idS T1 b A c [(S, SB)] W h h2 (by simp) (by omega) (by omega)
            rw [hB.addy] at q
            refine q.mono fun e w' ⟨v, h1, h2, h3⟩ => ?_
            obtain ⟨A, c, rfl⟩ := own_slice h2
            exact ⟨A, c, h1, own_links h2 rfl, h3⟩)
          have okx : ∀ (y T : List UInt8) (A : Option Addr) (c : Nat), y.length ≤ 300 → T.length = 32 → OkT ⟨idS, T, A, c, [(S, SB), (y, [])]⟩ := fun y T A c hy hT => ⟨by show idS.length ≤ 10000; decide, by dsimp only; omega, fun x hx => by
            simp at hx
            rcases hx with rfl | rfl
            · exact ⟨by dsimp only; omega, by dsimp only; omega⟩
            · exact ⟨by dsimp only; omega, by simp⟩, by simp⟩
          have okd : ∀ (T : List UInt8) (A : Option Addr) (c : Nat), T.length = 32 → ∀ d ∈ [(⟨S, T, A, c, []⟩ : TokA)], OkT d := fun T A c hT d hd => by
            rw [List.mem_singleton.1 hd]
            exact ⟨by dsimp only; omega, by dsimp only; omega, fun x hx => (by cases hx), by simp⟩
          have HB := Kp.mk hB; have HBX := Kp.mk hBX; have HBY := Kp.mk hBY
          have OKX := Kp.mk okx; have OKD := Kp.mk okd
          have HPX := Kp.mk hPX; have HPM := Kp.mk hPM; have HPY := Kp.mk hPY
          have HMX := Kp.mk hmix; have HM0 := Kp.mk hmix0; have HCL := Kp.mk hcl; have HLN := Kp.mk hln; have HSH := Kp.mk hsh; have HSA := Kp.mk hsame
          clear hB hBX hBY okx okd hPX hPM hPY hmix hmix0 hcl hln hsh hsame g1 g2
          go_enter Tryz.func5, Tryz.ntmps5
          go_wp2_with fail
          refine (cR.out _ hT).mono ?_
          rintro e w1 ⟨rfl, E1⟩
          obtain ⟨W2, hW2, G2, B2⟩ := tokbox w1 (.string ⟨#[105, 100]⟩) (.slice none 0 0) (.string (ofL R))
          have HW2 := Kp.mk hW2
          have F2 := E1.tr G2
          clear hW2 E1 G2 cR
          go_upto_region 4 with fail
          rw [HW2.out]
          clear HW2
          go_wp2_with fail
          refine (cT.out _ (hT.ext F2)).mono ?_
          rintro e w3 ⟨rfl, E3⟩
          have F3 := F2.tr E3
          have B3 := B2.ext E3 B2.lt
          clear F2 B2 E3 cT
          go_wp2_with fail
          refine (cD.out _ (hT.ext F3)).mono ?_
          rintro e w4 ⟨Ad, cd, rfl, E4⟩
          obtain ⟨W5, hW5, G5, D5⟩ := tokbox w4 (.string (ofL S)) (.slice Ad 0 cd) (.string (ofL dt))
          have HW5 := Kp.mk hW5
          have F5 := F3.tr (E4.tr G5)
          have B5 := B3.ext (E4.tr G5) B3.lt
          clear F3 B3 E4 G5 hW5 cD
          go_upto_region 6 with fail
          rw [HW5.out]
          clear HW5
          have q0 := B5.cell 0; have q1 := B5.cell 1; have q2 := B5.cell 2
          simp only [List.getElem?_cons_zero, List.getElem?_cons_succ] at q0 q1 q2
          go_wp2_with fail
          refine (cH.out _ (hT.ext F5)).mono ?_
          rintro e w6 ⟨At, ct, rfl, L6, E6⟩
          obtain ⟨W7, hW7, G7, C7⟩ := tokbox w6 (.string ⟨#[105, 100]⟩) (.slice At 1 ct) (.string (ofL T1))
          have HW7 := Kp.mk hW7
          have F7 := F5.tr (E6.tr G7)
          have D7 := D5.ext (E6.tr G7) D5.lt
          have L7 := rd_at L6 G7
          clear F5 B5 D5 E6 G7 hW7 cH q0 q1 q2 L6
          go_upto_region 7 with fail
          rw [HW7.out]
          clear HW7
          have q0 := C7.cell 0; have q1 := C7.cell 1; have q2 := C7.cell 2
          simp only [List.getElem?_cons_zero, List.getElem?_cons_succ] at q0 q1 q2
          go_wp2_with fail
          refine (cA.out _ _ _ (hT.ext F7) L7).mono ?_
          rintro e w8 ⟨Ax, cx, rfl, L8, E8⟩
          obtain ⟨W9, hW9, G9, X9⟩ := tokbox w8 (.string ⟨#[105, 100]⟩) (.slice Ax 2 cx) (.string (ofL Tx))
          have HW9 := Kp.mk hW9
          have F9 := F7.tr (E8.tr G9)
          have D9 := D7.ext (E8.tr G9) D7.lt
          have C9 := C7.ext (E8.tr G9) C7.lt
          have L9 := rd_at L7 (E8.tr G9)
          have LX9 := rd_at L8 G9
          clear F7 D7 C7 L7 L8 E8 G9 hW9 cA q0 q1 q2
          go_upto_region 8 with fail
          rw [HW9.out]
          clear HW9
          have q0 := C9.cell 0; have q1 := C9.cell 1; have q2 := C9.cell 2
          simp only [List.getElem?_cons_zero, List.getElem?_cons_succ] at q0 q1 q2
          go_wp2_with fail
          refine (cA2.out _ _ _ (hT.ext F9) L9).mono ?_
          rintro e w10 ⟨Ay, cy, rfl, L10, E10⟩
          obtain ⟨Wb, hWb, Gb, Yb⟩ := tokbox w10 (.string ⟨#[105, 100]⟩) (.slice Ay 2 cy) (.string (ofL Ty))
          have HWb := Kp.mk hWb
          have Fb := F9.tr (E10.tr Gb)
          have Db := D9.ext (E10.tr Gb) D9.lt
          have Xb := X9.ext (E10.tr Gb) X9.lt
          have LXb := rd_at LX9 (E10.tr Gb)
          have LYb := rd_at L10 Gb
          clear F9 D9 C9 L9 L10 LX9 X9 E10 Gb hWb cA2 q0 q1 q2
          go_upto_region 11 with fail
          rw [HWb.out]
          clear HWb
          obtain ⟨gx, hgx⟩ : ∃ gx, w8.heap.size = gx := ⟨_, rfl⟩
          obtain ⟨gy, hgy⟩ : ∃ gy, w10.heap.size = gy := ⟨_, rfl⟩
          obtain ⟨gd, hgd⟩ : ∃ gd, w4.heap.size = gd := ⟨_, rfl⟩
          rw [hgx] at Xb ⊢
          rw [hgy] at Yb ⊢
          rw [hgd] at Db ⊢
          have cBi := Kp.mk (show ∀ W, Tab W → Calls Tryz.prog 27 #[.agg #[.string ⟨#[105, 100]⟩, .slice Ay 2 cy, .string (ofL Ty)], .agg #[.string (ofL S), .slice Ad 0 cd, .string (ofL dt)]] W fun e w' => ∃ v, e = .returned v ∧ Ext W w' ∧ ∃ A c, v = .agg #[.string (ofL S), .slice A 0 c, .string (ofL BY)] from fun W h => by
            have q := hobind_any idS Ty S dt Ay 2 cy Ad cd [] W h (nil_rd W Ad cd) (by decide) (by omega) (by omega)
            rw [HBY.out] at q
            refine q.mono fun e w' ⟨v, h1, h2, h3⟩ => ?_
            obtain ⟨A, c, rfl⟩ := own_slice h2
            exact ⟨_, h1, h3, A, c, rfl⟩)
          have cBu := Kp.mk (show ∀ (y T B : List UInt8) (A : Option Addr) (c : Nat) (vd : Value) (W : World), bindL T dt = B → T.length = 32 → Tab W → RdLinks W W.heap.size (.slice A 2 c) [(S, SB), (y, [])] → RdToks W W.heap.size vd [⟨S, dt, Ad, cd, []⟩] → Calls Tryz.prog 28 #[.agg #[.string ⟨#[105, 100]⟩, .slice A 2 c, .string (ofL T)], vd] W fun e w' => ∃ v, e = .returned v ∧ Ext W w' ∧ ∃ A c A' c' t, v = .agg #[.string ⟨#[105, 100]⟩, .slice A 2 c, .string (ofL T), .slice A' 1 c'] ∧ RdLinks w' w'.heap.size (.slice A 2 c) [(S, SB), (y, [])] ∧ RdToks w' w'.heap.size (.slice A' 1 c') [t] ∧ t.plain = ⟨S, [], B⟩ from fun y T B A c vd W hB hT2 h1 h2 h3 => by
            have q := hobundle_any idS T A c [(S, SB), (y, [])] vd [⟨S, dt, Ad, cd, []⟩] W h1 h2 h3 (by simp) (by omega) (fun d hd => by rw [List.mem_singleton.1 hd]; exact ⟨by simp, by dsimp only; omega⟩) (by simp)
            refine q.mono fun e w' ⟨vl, vm, ts, h6, h7, h8, h9, h10⟩ => ?_
            obtain ⟨t, rfl⟩ : ∃ t, ts = [t] := by
              have h := congrArg List.length h9
              rw [List.length_map, List.length_map, List.length_map] at h
              exact List.length_eq_one_iff.1 h
            obtain ⟨A, c, rfl, _⟩ := h7.cells
            obtain ⟨A', c', rfl, _⟩ := h8.cells
            have h11 : t.plain = bindT ⟨idS, [(S, SB), (y, [])], T⟩ ⟨S, [], dt⟩ := (List.cons.inj h9).1
            exact ⟨_, h6, h10, A, c, A', c', t, rfl, h7, h8, by rw [h11]; unfold bindT; dsimp only; rw [hB]⟩)
          have okt : ∀ (t : TokA) (B : List UInt8), t.plain = ⟨S, [], B⟩ → B.length = 32 → ∀ d ∈ [t], OkT d := fun t B h hB d hd => by
            rw [List.mem_singleton.1 hd]
            have e1 : t.id = S := congrArg TokL.id h
            have e2 : t.l = [] := congrArg TokL.links h
            have e3 : t.tag = B := congrArg TokL.tag h
            exact ⟨by rw [e1]; omega, by rw [e3]; omega, fun x hx => (by rw [e2] at hx; cases hx), by rw [e2]; simp⟩
          have OKT := Kp.mk okt
          have cVe := Kp.mk (show ∀ (y T B : List UInt8) (A : Option Addr) (c : Nat) (A' : Option Addr) (c' : Nat) (t : TokA) (W : World), y.length ≤ 300 → T.length = 32 → B.length = 32 → Tab W → RdLinks W W.heap.size (.slice A 2 c) [(S, SB), (y, [])] → RdToks W W.heap.size (.slice A' 1 c') [t] → t.plain = ⟨S, [], B⟩ → Calls Tryz.prog 18 #[.string (ofL k), .agg #[.string ⟨#[105, 100]⟩, .slice A 2 c, .string (ofL T), .slice A' 1 c']] W fun e w' => ∃ v, e = .returned (.tuple #[v, .int .i64 (proveL k ⟨idS, [(S, SB), (y, [])], T⟩ [⟨S, [], B⟩]).2]) ∧ Ext W w' from fun y T B A c A' c' t W hy hT2 hB h1 h2 h3 h4 => by
            have q := verify_any k idS T A c [(S, SB), (y, [])] A' c' [t] W h1 h2 h3 hk10 (OKX.out y T A c hy hT2) (OKT.out t B h4 hB) (by simp)
            rw [show [t].map TokA.plain = [⟨S, [], B⟩] by rw [List.map_singleton, h4]] at q
            exact q.mono fun e w' ⟨v, h5, _, h7⟩ => ⟨v, h5, h7⟩)
          have cPr := Kp.mk (show ∀ (y T B : List UInt8) (A : Option Addr) (c : Nat) (A' : Option Addr) (c' : Nat) (t : TokA) (W : World), y.length ≤ 300 → T.length = 32 → B.length = 32 → RdLinks W W.heap.size (.slice A 2 c) [(S, SB), (y, [])] → RdToks W W.heap.size (.slice A' 1 c') [t] → t.plain = ⟨S, [], B⟩ → Calls Tryz.prog 19 #[.string (ofL k), .agg #[.string ⟨#[105, 100]⟩, .slice A 2 c, .string (ofL T), .slice A' 1 c']] W (RpPost W (proveL k ⟨idS, [(S, SB), (y, [])], T⟩ [⟨S, [], B⟩])) from fun y T B A c A' c' t W hy hT2 hB h2 h3 h4 => by
            have q := rprove_any k idS T A c [(S, SB), (y, [])] A' c' [t] W h2 h3 hk10 (OKX.out y T A c hy hT2) (OKT.out t B h4 hB) (by simp)
            rw [show [t].map TokA.plain = [⟨S, [], B⟩] by rw [List.map_singleton, h4]] at q
            exact q)
          have ha3 : a.length ≤ 300 := by omega
          have hb3 : b.length ≤ 300 := by omega
          have hsb := Fb.size
          clear okt hgx hgy hgd
          refine wp_region_tails (fun i v W => match i with
            | 0 => v = .agg #[.string ⟨#[105, 100]⟩, .slice Ax 2 cx, .string (ofL Tx)]
            | 1 => v = .agg #[.string ⟨#[105, 100]⟩, .slice Ay 2 cy, .string (ofL Ty)]
            | 2 => v = .agg #[.string (ofL S), .slice Ad 0 cd, .string (ofL dt)]
            | 3 => ∃ A c, v = .agg #[.string (ofL S), .slice A 0 c, .string (ofL BY)]
            | 4 => ∃ g4 A c, v = .slice (some ⟨g4, 0, none⟩) 1 1 ∧ W.ownsRow Wb.heap.size 33 3 (.slice (some ⟨g4, 0, none⟩) 1 1) 1 [.string (ofL S), .slice A 0 c, .string (ofL BY)]
            | 5 => ∃ g4 A c, v = .agg #[.string ⟨#[105, 100]⟩, .slice Ax 2 cx, .string (ofL Tx), .slice (some ⟨g4, 0, none⟩) 1 1] ∧ W.ownsRow Wb.heap.size 33 3 (.slice (some ⟨g4, 0, none⟩) 1 1) 1 [.string (ofL S), .slice A 0 c, .string (ofL BY)]
            | 6 => ∃ b6, v = .pointer (some ⟨b6, 0, none⟩) ∧ Wb.heap.size ≤ b6 ∧ Arr W b6 41 [.string ⟨#[]⟩, .slice none 0 0, .string ⟨#[]⟩, .slice none 0 0]
            | _ => True) 7 (by kernel_rfl) (by kernel_rfl) (by kernel_rfl) (by decide) (by kernel_rfl) (by kernel_rfl) (by kernel_rfl) ?_ ?_ ?_
          · intro i v W1 W2 e1 e2 h
            match i, h with
            | 0, h => exact h
            | 1, h => exact h
            | 2, h => exact h
            | 3, h => exact h
            | 4, ⟨g4, A, c, h1, h2⟩ => exact ⟨g4, A, c, h1, own_ext h2 (fun j _ hj => e2.block j hj)⟩
            | 5, ⟨g4, A, c, h1, h2⟩ => exact ⟨g4, A, c, h1, own_ext h2 (fun j _ hj => e2.block j hj)⟩
            | 6, ⟨b6, h1, h2, h3⟩ => exact ⟨b6, h1, h2, h3.ext e2 h3.lt⟩
            | (i + 7), h => exact h
          · refine localsR_cons (fun u W hW hd => ?_) ?_
            · have q0 := (Xb.ext hW Xb.lt).cell 0; have q1 := (Xb.ext hW Xb.lt).cell 1; have q2 := (Xb.ext hW Xb.lt).cell 2
              simp only [List.getElem?_cons_zero, List.getElem?_cons_succ] at q0 q1 q2
              exact leaves_val rfl (v := .agg #[.string ⟨#[105, 100]⟩, .slice Ax 2 cx, .string (ofL Tx)]) (by go_simp) rfl
            refine localsR_cons (fun u W hW hd => ?_) ?_
            · have q0 := (Yb.ext hW Yb.lt).cell 0; have q1 := (Yb.ext hW Yb.lt).cell 1; have q2 := (Yb.ext hW Yb.lt).cell 2
              simp only [List.getElem?_cons_zero, List.getElem?_cons_succ] at q0 q1 q2
              exact leaves_val rfl (v := .agg #[.string ⟨#[105, 100]⟩, .slice Ay 2 cy, .string (ofL Ty)]) (by go_simp) rfl
            refine localsR_cons (fun u W hW hd => ?_) ?_
            · have q0 := (Db.ext hW Db.lt).cell 0; have q1 := (Db.ext hW Db.lt).cell 1; have q2 := (Db.ext hW Db.lt).cell 2
              simp only [List.getElem?_cons_zero, List.getElem?_cons_succ] at q0 q1 q2
              exact leaves_val rfl (v := .agg #[.string (ofL S), .slice Ad 0 cd, .string (ofL dt)]) (by go_simp) rfl
            refine localsR_cons (fun u W hW hd => ?_) ?_
            · have h1 : u 1 = _ := hd 1 (by kernel_rfl)
              have h2 : u 2 = _ := hd 2 (by kernel_rfl)
              exact leaves_call rfl (f := 27) (args := #[.agg #[.string ⟨#[105, 100]⟩, .slice Ay 2 cy, .string (ofL Ty)], .agg #[.string (ofL S), .slice Ad 0 cd, .string (ofL dt)]]) (by go_simp) (cBi.out W (hT.ext (Fb.tr hW)))
            refine localsR_cons (fun u W hW hd => ?_) ?_
            · have h3 := hd 3 (by kernel_rfl)
              obtain ⟨A, c, e3⟩ := h3
              exact leaves_new rfl (v := .slice (some ⟨W.heap.size, 0, none⟩) 1 1) (w' := W.alloc (.cells #[.string (ofL S), .slice A 0 c, .string (ofL BY)] 33)) (by go_simp) ((Ext.rfl' W).al _) ⟨_, A, c, rfl, World.ownsRow_lit W #[.string (ofL S), .slice A 0 c, .string (ofL BY)] 1 hW.size (by decide) rfl⟩
            refine localsR_cons (fun u W hW hd => ?_) ?_
            · have h0 : u 0 = _ := hd 0 (by kernel_rfl)
              have h4 := hd 4 (by kernel_rfl)
              obtain ⟨g4, A, c, e4, o4⟩ := h4
              exact leaves_val rfl (v := .agg #[.string ⟨#[105, 100]⟩, .slice Ax 2 cx, .string (ofL Tx), .slice (some ⟨g4, 0, none⟩) 1 1]) (by go_simp) ⟨g4, A, c, rfl, o4⟩
            refine localsR_cons (fun u W hW hd => ?_) localsR_nil
            · exact leaves_new rfl (v := .pointer (some ⟨W.heap.size, 0, none⟩)) (w' := W.alloc (.cells #[.string ⟨#[]⟩, .slice none 0 0, .string ⟨#[]⟩, .slice none 0 0] 41)) (by go_simp) ((Ext.rfl' W).al _) ⟨_, rfl, hW.size, Arr.new W _ [.string ⟨#[]⟩, .slice none 0 0, .string ⟨#[]⟩, .slice none 0 0]⟩
          · intro u11 W11 hW11 hV
            obtain ⟨g4, Am, cm, h5, o5⟩ := hV 5 (by decide)
            obtain ⟨b6, h6, hb6, A6⟩ := hV 6 (by decide)
            clear hV cBi
            have F11 := Fb.tr hW11
            have z0 := A6.frozen 0; have z1 := A6.frozen 1; have z2 := A6.frozen 2; have z3 := A6.frozen 3
            have q0 := A6.cell 0; have q1 := A6.cell 1; have q2 := A6.cell 2; have q3 := A6.cell 3
            simp only [List.getElem?_cons_zero, List.getElem?_cons_succ] at q0 q1 q2 q3
            obtain ⟨Wc, hWc⟩ : ∃ Wc : World, Wc = (((W11.setCell ⟨b6, 0, none⟩ (.string ⟨#[105, 100]⟩)).setCell ⟨b6, 1, none⟩ (.slice Ax 2 cx)).setCell ⟨b6, 2, none⟩ (.string (ofL Tx))).setCell ⟨b6, 3, none⟩ (.slice (some ⟨g4, 0, none⟩) 1 1) := ⟨_, rfl⟩
            have Ec : Ext Wb Wc := by rw [hWc]; exact (((hW11.st (p := ⟨b6, 0, none⟩) hb6 _).st (p := ⟨b6, 1, none⟩) hb6 _).st (p := ⟨b6, 2, none⟩) hb6 _).st (p := ⟨b6, 3, none⟩) hb6 _
            have Bc : Arr Wc b6 41 [.string ⟨#[105, 100]⟩, .slice Ax 2 cx, .string (ofL Tx), .slice (some ⟨g4, 0, none⟩) 1 1] := by rw [hWc]; exact (((A6.set 0 _).set 1 _).set 2 _).set 3 _
            have Oc := own_sets_other o5 A6 (by decide) (.string ⟨#[105, 100]⟩) (.slice Ax 2 cx) (.string (ofL Tx)) (.slice (some ⟨g4, 0, none⟩) 1 1)
            rw [← hWc] at Oc
            have HWc := Kp.mk hWc
            have Tc := one_tok (i := S) (t := BY) Oc
            have Fc := Fb.tr Ec
            have Xc := Xb.ext Ec Xb.lt; have Yc := Yb.ext Ec Yb.lt; have Dc := Db.ext Ec Db.lt
            have LXc := rd_at LXb Ec; have LYc := rd_at LYb Ec
            clear hWc o5 Oc A6 Fb Xb Yb Db LXb LYb Ec hW11 F11
            go_simp
            go_upto_region 12 with fail
            rw [← HWc.out]
            clear HWc q0 q1 q2 q3 z0 z1 z2 z3 h5 h6
            have q0 := Xc.cell 0; have q1 := Xc.cell 1; have q2 := Xc.cell 2
            have r0 := Dc.cell 0; have r1 := Dc.cell 1; have r2 := Dc.cell 2
            simp only [List.getElem?_cons_zero, List.getElem?_cons_succ] at q0 q1 q2 r0 r1 r2
            obtain ⟨Wd, hWd, Ed, Bd⟩ : ∃ V, Wc.alloc (.cells #[.string (ofL S), .slice Ad 0 cd, .string (ofL dt)] 33) = V ∧ Ext Wc V ∧ V.ownsRow Wc.heap.size 33 3 (.slice (some ⟨Wc.heap.size, 0, none⟩) 1 1) 1 [.string (ofL S), .slice Ad 0 cd, .string (ofL dt)] := ⟨_, rfl, (Ext.rfl' Wc).al _, World.ownsRow_lit Wc #[.string (ofL S), .slice Ad 0 cd, .string (ofL dt)] 1 (Nat.le_refl _) (by decide) rfl⟩
            have HWd := Kp.mk hWd
            have cB1 := Kp.mk (cBu.out a Tx BX Ax cx _ Wd HBX.out lx (hT.ext (Fc.tr Ed)) (rd_at LXc Ed) (one_tok Bd))
            clear hWd Bd
            go_wp2_with fail
            rw [HWd.out]
            refine cB1.out.mono ?_
            rintro e w12 ⟨v12, rfl, E12, A1, c1, A2, c2, t1, rfl, L12, T12, hp12⟩
            have E2 := Ed.tr E12
            have F12 := Fc.tr E2
            have cV1 := Kp.mk (cVe.out a Tx BX A1 c1 A2 c2 t1 w12 ha3 lx lBX (hT.ext F12) L12 T12 hp12)
            have Bd2 := Bc.ext E2 Bc.lt; have Xd := Xc.ext E2 Xc.lt; have Yd := Yc.ext E2 Yc.lt; have Dd := Dc.ext E2 Dc.lt
            have LXd := rd_at LXc E2; have LYd := rd_at LYc E2; have Td := Tc.at E2
            clear q0 q1 q2 r0 r1 r2 HWd cB1 Ed E12 Fc Bc Xc Yc Dc LXc LYc Tc L12 T12 E2
            go_wp2_with fail
            refine cV1.out.mono ?_
            rintro e w13 ⟨v13, rfl, E13⟩
            rw [HPX.out, HSA.out]
            have F13 := F12.tr E13
            have Be := Bd2.ext E13 Bd2.lt; have Ye := Yd.ext E13 Yd.lt; have De := Dd.ext E13 Dd.lt
            have LXe := rd_at LXd E13; have LYe := rd_at LYd E13; have Te := Td.at E13
            clear cV1 F12 E13 Bd2 Xd Yd Dd LXd LYd Td hp12
            have cV2 := Kp.mk (cVe.out a Tx BY Ax cx (some ⟨g4, 0, none⟩) 1 ⟨S, BY, Am, cm, []⟩ w13 ha3 lx lBY (hT.ext F13) LXe Te rfl)
            rw [HPM.out] at cV2
            have q0 := Be.cell 0; have q1 := Be.cell 1; have q2 := Be.cell 2; have q3 := Be.cell 3
            simp only [List.getElem?_cons_zero, List.getElem?_cons_succ] at q0 q1 q2 q3
            go_wp2_with fail
            refine cV2.out.mono ?_
            rintro e w14 ⟨v14, rfl, E14⟩
            have F14 := F13.tr E14
            have Bf := Be.ext E14 Be.lt; have Yf := Ye.ext E14 Ye.lt; have Df := De.ext E14 De.lt
            have LXf := rd_at LXe E14; have LYf := rd_at LYe E14; have Tf := Te.at E14
            clear cV2 F13 E14 Be Ye De LXe LYe Te q0 q1 q2 q3 cVe
            by_cases hbb : BX = BY
            · have hm := HM0.out hbb
              have hcl := HCL.out hbb
              rw [hm]
              obtain ⟨s2, hs2⟩ : ∃ s2, PM.1.sum = s2 := ⟨_, rfl⟩
              obtain ⟨s3, hs3⟩ : ∃ s3, PY.1.sum = s3 := ⟨_, rfl⟩
              have hln := HLN.out
              have hsh := HSH.out
              rw [hs2, hs3] at hcl hln hsh
              obtain ⟨n2, hn2⟩ : ∃ n2, s2.length = n2 := ⟨_, rfl⟩
              obtain ⟨n3, hn3⟩ : ∃ n3, s3.length = n3 := ⟨_, rfl⟩
              rw [hn2, hn3] at hsh
              obtain ⟨hsh2, hsh3⟩ := hsh
              have cP1 := Kp.mk (show ∀ W, Ext w14 W → Calls Tryz.prog 19 #[.string (ofL k), .agg #[.string ⟨#[105, 100]⟩, .slice Ax 2 cx, .string (ofL Tx), .slice (some ⟨g4, 0, none⟩) 1 1]] W fun e w' => ∃ v, e = .returned v ∧ Ext W w' ∧ ∃ vu vt n e A c, v = .agg #[vu, vt, .int .i64 n, .int .i64 e, .slice A n2 c] ∧ w'.ownsRow W.heap.size 9 1 (.slice A n2 c) n2 (s2.map Str) from fun W hW => by
                have q := cPr.out a Tx BY Ax cx (some ⟨g4, 0, none⟩) 1 ⟨S, BY, Am, cm, []⟩ W ha3 lx lBY (rd_at LXf hW) (Tf.at hW) rfl
                rw [HPM.out] at q
                refine q.mono fun e w' ⟨vu, vt, vs, h1, h2, h3, h4, h5⟩ => ?_
                obtain ⟨A, c, rfl⟩ := own_slice h4
                rw [hs2, hn2] at h4
                rw [hs2, hn2] at h1
                exact ⟨_, h1, h5, vu, vt, _, _, A, c, rfl, h4⟩)
              have cP2 := Kp.mk (show ∀ (A : Option Addr) (c : Nat) (A' : Option Addr) (c' : Nat) (t : TokA) (W : World), RdLinks W W.heap.size (.slice A 2 c) [(S, SB), (b, [])] → RdToks W W.heap.size (.slice A' 1 c') [t] → t.plain = ⟨S, [], BY⟩ → Calls Tryz.prog 19 #[.string (ofL k), .agg #[.string ⟨#[105, 100]⟩, .slice A 2 c, .string (ofL Ty), .slice A' 1 c']] W fun e w' => ∃ v, e = .returned v ∧ Ext W w' ∧ ∃ vu vt n e A c, v = .agg #[vu, vt, .int .i64 n, .int .i64 e, .slice A n3 c] ∧ Rd w' w'.heap.size 1 (.slice A n3 c) n3 (s3.map Str) from fun A c A' c' t W h1 h2 h3 => by
                have q := cPr.out b Ty BY A c A' c' t W hb3 ly lBY h1 h2 h3
                rw [HPY.out] at q
                refine q.mono fun e w' ⟨vu, vt, vs, h1, h2, h3, h4, h5⟩ => ?_
                obtain ⟨A, c, rfl⟩ := own_slice h4
                rw [hs3, hn3] at h4
                rw [hs3, hn3] at h1
                exact ⟨_, h1, h5, vu, vt, _, _, A, c, rfl, Rd.own h4 (by decide)⟩)
              have cCl := Kp.mk (show ∀ v W, Rd W W.heap.size 1 v (n2 + n3) (s2.map Str ++ s3.map Str) → Calls Tryz.prog 29 #[v] W fun e w' => e = .returned (.bool true) ∧ Ext W w' from fun v W h => by
                have hl : (s2 ++ s3).length = n2 + n3 := by rw [List.length_append, hn2, hn3]
                have q := clash_any (s2 ++ s3) v W (by rw [hl, List.map_append]; exact h) hln (by omega)
                refine q.mono fun e w' ⟨bb, h1, h2, h3⟩ => ?_
                obtain ⟨i, j, h4, h5, h6⟩ := clash_idx hcl
                exact ⟨by rw [h1, h2 i j h4 h5 h6], h3⟩)
              clear hln hcl hs2 hs3 hn2 hn3 hm hbb cPr
              have hs14 := F14.size
              go_upto_region 16 with fail
              refine wp_region_tails (fun i v W => match i with
                | 0 => v = .string (ofL k)
                | 1 => v = .agg #[.string ⟨#[105, 100]⟩, .slice Ax 2 cx, .string (ofL Tx), .slice (some ⟨g4, 0, none⟩) 1 1]
                | 2 => ∃ vu vt n e A c, v = .agg #[vu, vt, .int .i64 n, .int .i64 e, .slice A n2 c] ∧ W.ownsRow w14.heap.size 9 1 (.slice A n2 c) n2 (s2.map Str)
                | 3 => ∃ A c, v = .slice A n2 c ∧ W.ownsRow w14.heap.size 9 1 (.slice A n2 c) n2 (s2.map Str)
                | 4 => v = .string (ofL k)
                | 5 => v = .agg #[.string ⟨#[105, 100]⟩, .slice Ay 2 cy, .string (ofL Ty)]
                | 6 => v = .agg #[.string (ofL S), .slice Ad 0 cd, .string (ofL dt)]
                | 7 => ∃ g7, v = .slice (some ⟨g7, 0, none⟩) 1 1 ∧ RdToks W W.heap.size (.slice (some ⟨g7, 0, none⟩) 1 1) [⟨S, dt, Ad, cd, []⟩]
                | 8 => ∃ A c A' c' t, v = .agg #[.string ⟨#[105, 100]⟩, .slice A 2 c, .string (ofL Ty), .slice A' 1 c'] ∧ RdLinks W W.heap.size (.slice A 2 c) [(S, SB), (b, [])] ∧ RdToks W W.heap.size (.slice A' 1 c') [t] ∧ t.plain = ⟨S, [], BY⟩
                | 9 => ∃ vu vt n e A c, v = .agg #[vu, vt, .int .i64 n, .int .i64 e, .slice A n3 c] ∧ Rd W W.heap.size 1 (.slice A n3 c) n3 (s3.map Str)
                | 10 => ∃ A c, v = .slice A n3 c ∧ Rd W W.heap.size 1 (.slice A n3 c) n3 (s3.map Str)
                | _ => True) 11 (by kernel_rfl) (by kernel_rfl) (by kernel_rfl) (by decide) (by kernel_rfl) (by kernel_rfl) (by kernel_rfl) ?_ ?_ ?_
              · intro i v W1 W2 e1 e2 h
                match i, h with
                | 0, h => exact h
                | 1, h => exact h
                | 2, ⟨vu, vt, n, e, A, c, h1, h2⟩ => exact ⟨vu, vt, n, e, A, c, h1, own_ext h2 (fun j _ hj => e2.block j hj)⟩
                | 3, ⟨A, c, h1, h2⟩ => exact ⟨A, c, h1, own_ext h2 (fun j _ hj => e2.block j hj)⟩
                | 4, h => exact h
                | 5, h => exact h
                | 6, h => exact h
                | 7, ⟨g7, h1, h2⟩ => exact ⟨g7, h1, h2.at e2⟩
                | 8, ⟨A, c, A', c', t, h1, h2, h3, h4⟩ => exact ⟨A, c, A', c', t, h1, rd_at h2 e2, h3.at e2, h4⟩
                | 9, ⟨vu, vt, n, e, A, c, h1, h2⟩ => exact ⟨vu, vt, n, e, A, c, h1, rd_at h2 e2⟩
                | 10, ⟨A, c, h1, h2⟩ => exact ⟨A, c, h1, rd_at h2 e2⟩
                | (i + 11), h => exact h
              · refine localsR_cons (fun u W hW hd => leaves_val rfl (v := .string (ofL k)) (by go_simp) rfl) ?_
                refine localsR_cons (fun u W hW hd => ?_) ?_
                · have q0 := (Bf.ext hW Bf.lt).cell 0; have q1 := (Bf.ext hW Bf.lt).cell 1; have q2 := (Bf.ext hW Bf.lt).cell 2; have q3 := (Bf.ext hW Bf.lt).cell 3
                  simp only [List.getElem?_cons_zero, List.getElem?_cons_succ] at q0 q1 q2 q3
                  exact leaves_val rfl (v := .agg #[.string ⟨#[105, 100]⟩, .slice Ax 2 cx, .string (ofL Tx), .slice (some ⟨g4, 0, none⟩) 1 1]) (by go_simp) rfl
                refine localsR_cons (fun u W hW hd => ?_) ?_
                · have h0 : u 0 = _ := hd 0 (by kernel_rfl)
                  have h1 : u 1 = _ := hd 1 (by kernel_rfl)
                  exact leaves_call rfl (f := 19) (args := #[.string (ofL k), .agg #[.string ⟨#[105, 100]⟩, .slice Ax 2 cx, .string (ofL Tx), .slice (some ⟨g4, 0, none⟩) 1 1]]) (by go_simp) ((cP1.out W hW).mono (fun e9 W9 ⟨v9, h1, h2, vu, vt, n, e, A, c, h3, h4⟩ => ⟨v9, h1, h2, vu, vt, n, e, A, c, h3, own_more h4 hW.size⟩))
                refine localsR_cons (fun u W hW hd => ?_) ?_
                · have h2 := hd 2 (by kernel_rfl)
                  obtain ⟨vu, vt, n, e, A, c, e2, o2⟩ := h2
                  exact leaves_val rfl (v := .slice A n2 c) (by go_simp) ⟨A, c, rfl, o2⟩
                refine localsR_cons (fun u W hW hd => leaves_val rfl (v := .string (ofL k)) (by go_simp) rfl) ?_
                refine localsR_cons (fun u W hW hd => ?_) ?_
                · have q0 := (Yf.ext hW Yf.lt).cell 0; have q1 := (Yf.ext hW Yf.lt).cell 1; have q2 := (Yf.ext hW Yf.lt).cell 2
                  simp only [List.getElem?_cons_zero, List.getElem?_cons_succ] at q0 q1 q2
                  exact leaves_val rfl (v := .agg #[.string ⟨#[105, 100]⟩, .slice Ay 2 cy, .string (ofL Ty)]) (by go_simp) rfl
                refine localsR_cons (fun u W hW hd => ?_) ?_
                · have q0 := (Df.ext hW Df.lt).cell 0; have q1 := (Df.ext hW Df.lt).cell 1; have q2 := (Df.ext hW Df.lt).cell 2
                  simp only [List.getElem?_cons_zero, List.getElem?_cons_succ] at q0 q1 q2
                  exact leaves_val rfl (v := .agg #[.string (ofL S), .slice Ad 0 cd, .string (ofL dt)]) (by go_simp) rfl
                refine localsR_cons (fun u W hW hd => ?_) ?_
                · have h6 : u 6 = _ := hd 6 (by kernel_rfl)
                  exact leaves_new rfl (v := .slice (some ⟨W.heap.size, 0, none⟩) 1 1) (w' := W.alloc (.cells #[.string (ofL S), .slice Ad 0 cd, .string (ofL dt)] 33)) (by go_simp) ((Ext.rfl' W).al _) ⟨_, rfl, one_tok (World.ownsRow_lit W #[.string (ofL S), .slice Ad 0 cd, .string (ofL dt)] 1 (Nat.le_refl _) (by decide) rfl)⟩
                refine localsR_cons (fun u W hW hd => ?_) ?_
                · have h5 : u 5 = _ := hd 5 (by kernel_rfl)
                  have h7 := hd 7 (by kernel_rfl)
                  obtain ⟨g7, e7, t7⟩ := h7
                  exact leaves_call rfl (f := 28) (args := #[.agg #[.string ⟨#[105, 100]⟩, .slice Ay 2 cy, .string (ofL Ty)], .slice (some ⟨g7, 0, none⟩) 1 1]) (by go_simp) (cBu.out b Ty BY Ay cy _ W HBY.out ly (hT.ext (F14.tr hW)) (rd_at LYf hW) t7)
                refine localsR_cons (fun u W hW hd => ?_) ?_
                · have h4 : u 4 = _ := hd 4 (by kernel_rfl)
                  have h8 := hd 8 (by kernel_rfl)
                  obtain ⟨A, c, A', c', t, e8, l8, t8, p8⟩ := h8
                  exact leaves_call rfl (f := 19) (args := #[.string (ofL k), .agg #[.string ⟨#[105, 100]⟩, .slice A 2 c, .string (ofL Ty), .slice A' 1 c']]) (by go_simp) (cP2.out A c A' c' t W l8 t8 p8)
                refine localsR_cons (fun u W hW hd => ?_) localsR_nil
                · have h9 := hd 9 (by kernel_rfl)
                  obtain ⟨vu, vt, n, e, A, c, e9, o9⟩ := h9
                  exact leaves_val rfl (v := .slice A n3 c) (by go_simp) ⟨A, c, rfl, o9⟩
              · intro u16 W16 hW16 hV
                obtain ⟨A3, c3, h3, o3⟩ := hV 3 (by decide)
                obtain ⟨A9, c9, h10, o9⟩ := hV 10 (by decide)
                clear hV cP1 cP2 cBu
                have F16 := F14.tr hW16
                refine wpl_app_rd Tryz.elemStr rfl _ _ rfl o3 (vx := .slice A9 n3 c9) (by go_simp) (by go_simp) o9 (oneCell_str _) (by omega) (by omega) hW16.size ?_
                intro v17 w17 own17 hg17
                have F17 := F16.own hg17 o3 hs14
                have R17 := Rd.own own17 (by decide)
                clear own17 hg17 F16 o3 o9 hW16 Bf Yf Df LXf LYf Tf
                obtain ⟨A17, c17, e17⟩ : ∃ A c, v17 = .slice A (n2 + n3) c := by
                  obtain ⟨A, c, h, _⟩ := R17
                  exact ⟨A, c, h⟩
                subst e17
                go_wp2_with fail
                refine (cCl.out _ _ R17).mono ?_
                rintro e w18 ⟨rfl, E18⟩
                have F18 := F17.tr E18
                go_wp2
                exact bodyPost_ret (v := .bool true) (by simp [results, Tryz.results5, go_sem]) rfl ⟨rfl, F18⟩
            · rw [HMX.out hbb]
              have F1 := F14
              clear hbb Bf Yf Df LXf LYf Tf
              go_wp2_with fail
              refine (cW.out _ (hT.ext F1)).mono ?_
              rintro e w9 ⟨rfl, E9⟩
              go_wp2
              go_ret
              exact ⟨rfl, F1.tr E9⟩
  · have d1 : ((k.length : Int) != 32) = true := by simp; omega
    have F1 := Ext.rfl' w
    clear g1
    go_enter Tryz.func5, Tryz.ntmps5
    go_wp2_with fail
    refine (cW.out _ (hT.ext F1)).mono ?_
    rintro e w9 ⟨rfl, E9⟩
    go_wp2
    go_ret
    exact ⟨rfl, F1.tr E9⟩
theorem verifyBound_walk2 (a b c : ByteArray) (w : World) (hT : Tab w) (_ha : a.size ≤ maxLen) (_hb : b.size ≤ maxLen) (_hc : c.size ≤ maxLen) : Calls Tryz.prog 5 #[.string a, .string b, .string c] w fun e w' => e = .returned (.bool true) ∧ Ext w w' := by
  have q := verifyBound_walk (toL a) (toL b) (toL c) w hT
  rw [ofL_toL, ofL_toL, ofL_toL] at q
  exact q
end Go.Proofs.YtejhiekikblbiaaGreatDoor
