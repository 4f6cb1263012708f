/-
  Chapter 37's laws: VerifyTells returns true. Condition: the package's table holds the constants.
-/
import Derived.Test.YtejhiekikblbiaaGreatDoorVe10
import Derived.Test.YtejhiekikblbiaaGreatDoorRp2
import Derived.Test.YtejhiekikblbiaaGreatDoorMgJ
import Derived.Test.YtejhiekikblbiaaGreatDoorMgI
namespace Go.Proofs.YtejhiekikblbiaaGreatDoor
open Go.RowKit

theorem small_prove {id tag : List UInt8} {l : List LinkL} {more : List TokA} (h : SmallB id tag l more) : mostL ⟨id, l, tag⟩ (more.map TokA.plain) ≤ 2000 := by
  rw [mostS_all]
  have h1 := mostT_le ⟨id, l, tag⟩
  have h2 : ∀ m : List TokA, (∀ d ∈ m, Small d.id d.tag d.l) → mostS m ≤ 150 * m.length := by
    intro m
    induction m with
    | nil => intro _; simp [mostS]
    | cons d m ih =>
      intro hm
      have e1 := ih (fun x hx => hm x (by simp [hx]))
      have e2 := mostT_le d.plain
      have e3 := (hm d (by simp)).2.2.1
      have e4 : d.plain.links.length = d.l.length := rfl
      unfold mostS at *
      rw [List.map_cons, List.sum_cons, List.length_cons]
      omega
  have h3 := h2 more h.2.2
  have h4 := h.1
  have h5 := h.2.1.2.2.1
  dsimp only at h1
  omega
theorem p_box (w : World) (a b c d e : Value) : ∃ V, w.alloc (.cells #[a, b, c, d, e] 47) = V ∧ Ext w V ∧ Arr V w.heap.size 47 [a, b, c, d, e] := ⟨_, rfl, (Ext.rfl' w).al _, Arr.new w _ [a, b, c, d, e]⟩
set_option maxRecDepth 100000 in
set_option maxHeartbeats 16000000 in
theorem verifyTells_walk (k id tag : List UInt8) (A : Option Addr) (c : Nat) (l : List LinkL) (Am : Option Addr) (cm : Nat) (more : List TokA) (w : World) (hT : Tab w) (hl : RdLinks w w.heap.size (.slice A l.length c) l) (hm : RdToks w w.heap.size (.slice Am more.length cm) more) :
    Calls Tryz.prog 4 #[.string (ofL k), bunV id (.slice A l.length c) tag (.slice Am more.length cm)] w fun e w' => e = .returned (.bool true) ∧ Ext w w' := by
  have cW := Kp.mk veworks_any
  have zk : (ofL k).size = k.length := size_ofL _
  obtain ⟨W0, hW0, E0, B1⟩ := bun_box w (.string (ofL id)) (.slice A l.length c) (.string (ofL tag)) (.slice Am more.length cm)
  have HW := Kp.mk hW0
  have HL := Kp.mk hl; have HM := Kp.mk hm
  have cG := Kp.mk (great37_any id tag A c l Am cm more W0 (rd_at hl E0) (hm.at E0))
  unfold bunV at *
  have b0 := B1.cell 0; have b1 := B1.cell 1; have b2 := B1.cell 2; have b3 := B1.cell 3
  simp only [List.getElem?_cons_zero, List.getElem?_cons_succ] at b0 b1 b2 b3
  clear hW0 hl hm
  by_cases g1 : 100 < k.length
  · have F1 := E0
    go_enter Tryz.func4, Tryz.ntmps4
    go_upto_region 1 with fail
    rw [HW.out]
    clear HW
    go_wp2_with fail
    refine (cW.out _ (hT.ext F1)).mono ?_
    rintro e w9 ⟨rfl, E9⟩
    go_wp2
    go_ret
    exact ⟨rfl, F1.tr E9⟩
  · go_enter Tryz.func4, Tryz.ntmps4
    go_upto_region 1 with fail
    rw [HW.out]
    clear HW
    go_wp2_with fail
    refine cG.out.mono ?_
    rintro e w1 ⟨gb, rfl, hgb, E1⟩
    have F1 := E0.tr E1
    have B2 := B1.ext E1 B1.lt
    have hgb := Kp.mk hgb
    clear b0 b1 b2 b3 B1 E0 E1 cG
    have B1 := B2
    clear B2
    cases gb with
    | true =>
      clear hgb B1
      go_wp2_with fail
      refine (cW.out _ (hT.ext F1)).mono ?_
      rintro e w9 ⟨rfl, E9⟩
      go_wp2
      go_ret
      exact ⟨rfl, F1.tr E9⟩
    | false =>
      have HSB := Kp.mk (hgb.out rfl)
      have hmost := small_prove HSB.out
      have hwm := Nat.le_trans (work_most k ⟨id, l, tag⟩ (more.map TokA.plain)) hmost
      have hwle := work_most k ⟨id, l, tag⟩ (more.map TokA.plain)
      have hOT : OkT ⟨id, tag, A, c, l⟩ := smallB_ok HSB.out.2.1
      have hOM : ∀ d ∈ more, OkT d := fun d hd => smallB_ok (HSB.out.2.2 d hd)
      have hn10 : more.length ≤ 10 := HSB.out.1
      have hl70 : l.length ≤ 10000 := by have := hOT.2.2.2; dsimp only at this; exact this
      have hm70 : ∀ d ∈ more, d.l.length ≤ 10000 := fun d hd => (hOM d hd).2.2.2
      have cV := Kp.mk (fun (W : World) (h : Tab W) (hE : Ext w W) => verify_any k id tag A c l Am cm more W h (rd_at HL.out hE) (HM.out.at hE) (by omega) hOT hOM (by omega))
      have cP := Kp.mk (fun (W : World) (hE : Ext w W) => rprove_any k id tag A c l Am cm more W (rd_at HL.out hE) (HM.out.at hE) (by omega) hOT hOM (by omega))
      have cK := Kp.mk (fun (W : World) (h : Tab W) (hE : Ext w W) => vwork_any k id tag A c l Am cm more W h (rd_at HL.out hE) (HM.out.at hE) (by omega) hOT hOM (by omega))
      have cM := Kp.mk (fun (W : World) (hE : Ext w W) => vmost_any id tag A c l Am cm more W (rd_at HL.out hE) (HM.out.at hE) hl70 hm70 (by omega))
      have cN := Kp.mk (fun (W : World) (hE : Ext w W) => rmost_any id tag A c l Am cm more W (rd_at HL.out hE) (HM.out.at hE) hl70 hm70 (by omega))
      obtain ⟨X, hX⟩ : ∃ X, proveL k ⟨id, l, tag⟩ (more.map TokA.plain) = X := ⟨_, rfl⟩
      obtain ⟨mo, hmo⟩ : ∃ mo, mostL ⟨id, l, tag⟩ (more.map TokA.plain) = mo := ⟨_, rfl⟩
      rw [hX] at cV cP cK hwm hwle
      rw [hmo] at cM cN hmost hwle
      obtain ⟨⟨xu, xl, xt, xw, xs⟩, x⟩ := X
      unfold VerPost toldL at cV
      unfold RpPost at cP
      unfold bunV at cV cP cK cM cN
      dsimp only at cV cP cK hwm hwle
      clear hX hmo hOT hOM hl70 hm70 hgb HSB
      have b0 := B1.cell 0; have b1 := B1.cell 1; have b2 := B1.cell 2; have b3 := B1.cell 3
      simp only [List.getElem?_cons_zero, List.getElem?_cons_succ] at b0 b1 b2 b3
      go_wp2_with fail
      refine (cV.out _ (hT.ext F1) F1).mono ?_
      rintro e w2 ⟨v2, rfl, own2, E2⟩
      have F2 := F1.tr E2
      have B2 := B1.ext E2 B1.lt
      clear b0 b1 b2 b3 B1 E2 F1 cV
      have B1 := B2
      clear B2
      obtain ⟨tl, htl⟩ : ∃ tl, (if x = 0 then xt else []) = tl := ⟨_, rfl⟩
      rw [htl] at own2
      obtain ⟨A2, c2, rfl⟩ := own_slice own2
      obtain ⟨nt, hnt⟩ : ∃ nt, tl.length = nt := ⟨_, rfl⟩
      rw [hnt] at own2 ⊢
      have R2 := Rd.own own2 (by decide)
      have b0 := B1.cell 0; have b1 := B1.cell 1; have b2 := B1.cell 2; have b3 := B1.cell 3
      simp only [List.getElem?_cons_zero, List.getElem?_cons_succ] at b0 b1 b2 b3
      go_wp2_with fail
      refine (cP.out _ F2).mono ?_
      rintro e w3 ⟨vu, vt, vs, rfl, ou, ot, os, E3⟩
      have F3 := F2.tr E3
      have B2 := B1.ext E3 B1.lt
      have R3 := rd_at R2 E3
      clear b0 b1 b2 b3 B1 E3 F2 cP own2 R2
      have B1 := B2
      clear B2
      obtain ⟨Au, cu, rfl⟩ := own_slice ou
      obtain ⟨At, ct, rfl⟩ := own_slice ot
      obtain ⟨As, cs, rfl⟩ := own_slice os
      obtain ⟨W4, hW4, E4, P4⟩ := p_box w3 (.slice Au xu.length cu) (.slice At xt.length ct) (.int .i64 xw) (.int .i64 x) (.slice As xs.length cs)
      have HW4 := Kp.mk hW4
      have F4 := F3.tr E4
      have B4 := B1.ext E4 B1.lt
      have R4 := rd_at R3 E4
      have T4 : Rd W4 W4.heap.size 1 (.slice At xt.length ct) xt.length (xt.map Str) := rd_at (Rd.own ot (by decide)) E4
      clear hW4 ou ot os F3 E4 B1 R3
      go_upto_region 5 with fail
      rw [HW4.out]
      clear HW4
      by_cases hx : x = 0
      · subst hx
        rw [if_pos rfl] at htl
        subst htl
        have cS := Kp.mk (show ∀ W, Ext W4 W → Calls Tryz.prog 23 #[.slice A2 nt c2, .slice At xt.length ct] W fun e w' => e = .returned (.bool true) ∧ Ext W w' from fun W h => by
          have q := sameTexts_any xt xt (.slice A2 nt c2) (.slice At xt.length ct) W (by have h9 := rd_at R4 h; rw [hnt]; exact h9) (rd_at T4 h)
          rw [decide_eq_true rfl] at q
          exact q)
        clear hnt R4 T4
        refine wp_region_locals (fun i v W => match i with
          | 0 => v = .int .i64 (((0 : Nat) : Int))
          | 1 => v = .pointer (some ⟨w3.heap.size, 3, none⟩)
          | 2 => v = .int .i64 (((0 : Nat) : Int))
          | 3 => v = .bool false
          | 4 => v = .bool false
          | 5 => v = .string (ofL k)
          | 6 => v = .agg #[.string (ofL id), .slice A l.length c, .string (ofL tag), .slice Am more.length cm]
          | 7 => v = .int .i64 xw
          | 8 => v = .pointer (some ⟨w3.heap.size, 2, none⟩)
          | 9 => v = .int .i64 xw
          | 10 => v = .bool false
          | 11 => v = .bool false
          | 12 => v = .bool false
          | 13 => v = .agg #[.string (ofL id), .slice A l.length c, .string (ofL tag), .slice Am more.length cm]
          | 14 => v = .int .i64 mo
          | 15 => v = .agg #[.string (ofL id), .slice A l.length c, .string (ofL tag), .slice Am more.length cm]
          | 16 => v = .int .i64 mo
          | 17 => v = .bool false
          | 18 => v = .bool false
          | 19 => v = .bool false
          | 20 => v = .pointer (some ⟨w3.heap.size, 3, none⟩)
          | 21 => v = .int .i64 (((0 : Nat) : Int))
          | 22 => v = .bool false
          | 23 => v = .bool false
          | 24 => v = undef
          | 25 => v = undef
          | 26 => v = undef
          | 27 => v = .bool false
          | 28 => v = .bool false
          | _ => True) (by kernel_rfl) (by kernel_rfl) (by kernel_rfl) ?_ ?_ ?_
        · intro i v W1 W2 e1 e2 h
          match i, h with
          | 0, h => exact h
          | 1, h => exact h
          | 2, h => exact h
          | 3, h => exact h
          | 4, h => exact h
          | 5, h => exact h
          | 6, h => exact h
          | 7, h => exact h
          | 8, h => exact h
          | 9, h => exact h
          | 10, h => exact h
          | 11, h => exact h
          | 12, h => exact h
          | 13, h => exact h
          | 14, h => exact h
          | 15, h => exact h
          | 16, h => exact h
          | 17, h => exact h
          | 18, h => exact h
          | 19, h => exact h
          | 20, h => exact h
          | 21, h => exact h
          | 22, h => exact h
          | 23, h => exact h
          | 24, h => exact h
          | 25, h => exact h
          | 26, h => exact h
          | 27, h => exact h
          | 28, h => exact h
          | (i + 29), h => exact h
        · refine locals_cons (fun u W hW hd => leaves_val rfl (v := .int .i64 (((0 : Nat) : Int))) (by go_simp) rfl) ?_
          refine locals_cons (fun u W hW hd => leaves_val rfl (v := .pointer (some ⟨w3.heap.size, 3, none⟩)) (by go_simp) rfl) ?_
          refine locals_cons (fun u W hW hd => ?_) ?_
          · have h1 : u 1 = _ := hd 1 (by kernel_rfl)
            have p3 := (P4.ext hW P4.lt).cell 3
            simp only [List.getElem?_cons_zero, List.getElem?_cons_succ] at p3
            exact leaves_val rfl (v := .int .i64 (((0 : Nat) : Int))) (by go_simp) rfl
          refine locals_cons (fun u W hW hd => ?_) ?_
          · have h0 : u 0 = _ := hd 0 (by kernel_rfl)
            have h2 : u 2 = _ := hd 2 (by kernel_rfl)
            exact leaves_val rfl (v := .bool false) (by go_simp) rfl
          refine locals_cons (fun u W hW hd => ?_) ?_
          · have h3 : u 3 = _ := hd 3 (by kernel_rfl)
            exact leaves_val rfl (v := .bool false) (by go_simp) rfl
          refine locals_cons (fun u W hW hd => ?_) ?_
          · have h4 : u 4 = _ := hd 4 (by kernel_rfl)
            exact leaves_val (by simp [Region.wanted, yielded, go_sem, h4]) (v := .string (ofL k)) (by go_simp) rfl
          refine locals_cons (fun u W hW hd => ?_) ?_
          · have h4 : u 4 = _ := hd 4 (by kernel_rfl)
            have q0 := (B4.ext hW B4.lt).cell 0; have q1 := (B4.ext hW B4.lt).cell 1; have q2 := (B4.ext hW B4.lt).cell 2; have q3 := (B4.ext hW B4.lt).cell 3
            simp only [List.getElem?_cons_zero, List.getElem?_cons_succ] at q0 q1 q2 q3
            exact leaves_val (by simp [Region.wanted, yielded, go_sem, h4]) (v := .agg #[.string (ofL id), .slice A l.length c, .string (ofL tag), .slice Am more.length cm]) (by go_simp) rfl
          refine locals_cons (fun u W hW hd => ?_) ?_
          · have h4 : u 4 = _ := hd 4 (by kernel_rfl)
            have h5 : u 5 = _ := hd 5 (by kernel_rfl)
            have h6 : u 6 = _ := hd 6 (by kernel_rfl)
            exact leaves_call (by simp [Region.wanted, yielded, go_sem, h4]) (f := 20) (args := #[.string (ofL k), .agg #[.string (ofL id), .slice A l.length c, .string (ofL tag), .slice Am more.length cm]]) (by go_simp) ((cK.out W (hT.ext (F4.tr hW)) (F4.tr hW)).mono (by rintro e9 W9 ⟨rfl, h9⟩; exact ⟨_, rfl, h9, rfl⟩))
          refine locals_cons (fun u W hW hd => ?_) ?_
          · have h4 : u 4 = _ := hd 4 (by kernel_rfl)
            exact leaves_val (by simp [Region.wanted, yielded, go_sem, h4]) (v := .pointer (some ⟨w3.heap.size, 2, none⟩)) (by go_simp) rfl
          refine locals_cons (fun u W hW hd => ?_) ?_
          · have h4 : u 4 = _ := hd 4 (by kernel_rfl)
            have h8 : u 8 = _ := hd 8 (by kernel_rfl)
            have p2 := (P4.ext hW P4.lt).cell 2
            simp only [List.getElem?_cons_zero, List.getElem?_cons_succ] at p2
            exact leaves_val (by simp [Region.wanted, yielded, go_sem, h4]) (v := .int .i64 xw) (by go_simp) rfl
          refine locals_cons (fun u W hW hd => ?_) ?_
          · have h4 : u 4 = _ := hd 4 (by kernel_rfl)
            have h7 : u 7 = _ := hd 7 (by kernel_rfl)
            have h9 : u 9 = _ := hd 9 (by kernel_rfl)
            exact leaves_val (by simp [Region.wanted, yielded, go_sem, h4]) (v := .bool false) (by go_simp) rfl
          refine locals_cons (fun u W hW hd => ?_) ?_
          · have h4 : u 4 = _ := hd 4 (by kernel_rfl)
            have h10 : u 10 = _ := hd 10 (by kernel_rfl)
            exact leaves_val rfl (v := .bool false) (by go_simp) rfl
          refine locals_cons (fun u W hW hd => ?_) ?_
          · have h11 : u 11 = _ := hd 11 (by kernel_rfl)
            exact leaves_val rfl (v := .bool false) (by go_simp) rfl
          refine locals_cons (fun u W hW hd => ?_) ?_
          · have h12 : u 12 = _ := hd 12 (by kernel_rfl)
            have q0 := (B4.ext hW B4.lt).cell 0; have q1 := (B4.ext hW B4.lt).cell 1; have q2 := (B4.ext hW B4.lt).cell 2; have q3 := (B4.ext hW B4.lt).cell 3
            simp only [List.getElem?_cons_zero, List.getElem?_cons_succ] at q0 q1 q2 q3
            exact leaves_val (by simp [Region.wanted, yielded, go_sem, h12]) (v := .agg #[.string (ofL id), .slice A l.length c, .string (ofL tag), .slice Am more.length cm]) (by go_simp) rfl
          refine locals_cons (fun u W hW hd => ?_) ?_
          · have h12 : u 12 = _ := hd 12 (by kernel_rfl)
            have h13 : u 13 = _ := hd 13 (by kernel_rfl)
            exact leaves_call (by simp [Region.wanted, yielded, go_sem, h12]) (f := 21) (args := #[.agg #[.string (ofL id), .slice A l.length c, .string (ofL tag), .slice Am more.length cm]]) (by go_simp) ((cM.out W (F4.tr hW)).mono (by rintro e9 W9 ⟨rfl, h9⟩; exact ⟨_, rfl, h9, rfl⟩))
          refine locals_cons (fun u W hW hd => ?_) ?_
          · have h12 : u 12 = _ := hd 12 (by kernel_rfl)
            have q0 := (B4.ext hW B4.lt).cell 0; have q1 := (B4.ext hW B4.lt).cell 1; have q2 := (B4.ext hW B4.lt).cell 2; have q3 := (B4.ext hW B4.lt).cell 3
            simp only [List.getElem?_cons_zero, List.getElem?_cons_succ] at q0 q1 q2 q3
            exact leaves_val (by simp [Region.wanted, yielded, go_sem, h12]) (v := .agg #[.string (ofL id), .slice A l.length c, .string (ofL tag), .slice Am more.length cm]) (by go_simp) rfl
          refine locals_cons (fun u W hW hd => ?_) ?_
          · have h12 : u 12 = _ := hd 12 (by kernel_rfl)
            have h15 : u 15 = _ := hd 15 (by kernel_rfl)
            exact leaves_call (by simp [Region.wanted, yielded, go_sem, h12]) (f := 22) (args := #[.agg #[.string (ofL id), .slice A l.length c, .string (ofL tag), .slice Am more.length cm]]) (by go_simp) ((cN.out W (F4.tr hW)).mono (by rintro e9 W9 ⟨rfl, h9⟩; exact ⟨_, rfl, h9, rfl⟩))
          refine locals_cons (fun u W hW hd => ?_) ?_
          · have h12 : u 12 = _ := hd 12 (by kernel_rfl)
            have h14 : u 14 = _ := hd 14 (by kernel_rfl)
            have h16 : u 16 = _ := hd 16 (by kernel_rfl)
            exact leaves_val (by simp [Region.wanted, yielded, go_sem, h12]) (v := .bool false) (by go_simp) rfl
          refine locals_cons (fun u W hW hd => ?_) ?_
          · have h12 : u 12 = _ := hd 12 (by kernel_rfl)
            have h17 : u 17 = _ := hd 17 (by kernel_rfl)
            exact leaves_val rfl (v := .bool false) (by go_simp) rfl
          refine locals_cons (fun u W hW hd => ?_) ?_
          · have h18 : u 18 = _ := hd 18 (by kernel_rfl)
            exact leaves_val rfl (v := .bool false) (by go_simp) rfl
          refine locals_cons (fun u W hW hd => ?_) ?_
          · have h19 : u 19 = _ := hd 19 (by kernel_rfl)
            exact leaves_val (by simp [Region.wanted, yielded, go_sem, h19]) (v := .pointer (some ⟨w3.heap.size, 3, none⟩)) (by go_simp) rfl
          refine locals_cons (fun u W hW hd => ?_) ?_
          · have h19 : u 19 = _ := hd 19 (by kernel_rfl)
            have h20 : u 20 = _ := hd 20 (by kernel_rfl)
            have p3 := (P4.ext hW P4.lt).cell 3
            simp only [List.getElem?_cons_zero, List.getElem?_cons_succ] at p3
            exact leaves_val (by simp [Region.wanted, yielded, go_sem, h19]) (v := .int .i64 (((0 : Nat) : Int))) (by go_simp) rfl
          refine locals_cons (fun u W hW hd => ?_) ?_
          · have h19 : u 19 = _ := hd 19 (by kernel_rfl)
            have h21 : u 21 = _ := hd 21 (by kernel_rfl)
            exact leaves_val (by simp [Region.wanted, yielded, go_sem, h19]) (v := .bool false) (by go_simp) rfl
          refine locals_cons (fun u W hW hd => ?_) ?_
          · have h19 : u 19 = _ := hd 19 (by kernel_rfl)
            have h22 : u 22 = _ := hd 22 (by kernel_rfl)
            exact leaves_val (by simp [Region.wanted, yielded, go_sem, h19]) (v := .bool false) (by go_simp) rfl
          refine locals_cons (fun u W hW hd => ?_) ?_
          · have h23 : u 23 = _ := hd 23 (by kernel_rfl)
            exact .inr ⟨by simp [Region.wanted, yielded, go_sem, h23], rfl⟩
          refine locals_cons (fun u W hW hd => ?_) ?_
          · have h23 : u 23 = _ := hd 23 (by kernel_rfl)
            exact .inr ⟨by simp [Region.wanted, yielded, go_sem, h23], rfl⟩
          refine locals_cons (fun u W hW hd => ?_) ?_
          · have h23 : u 23 = _ := hd 23 (by kernel_rfl)
            exact .inr ⟨by simp [Region.wanted, yielded, go_sem, h23], rfl⟩
          refine locals_cons (fun u W hW hd => ?_) ?_
          · have h19 : u 19 = _ := hd 19 (by kernel_rfl)
            have h23 : u 23 = _ := hd 23 (by kernel_rfl)
            have h26 : u 26 = _ := hd 26 (by kernel_rfl)
            exact leaves_val (by simp [Region.wanted, yielded, go_sem, h19]) (v := .bool false) (by go_simp) rfl
          refine locals_cons (fun u W hW hd => ?_) locals_nil
          · have h19 : u 19 = _ := hd 19 (by kernel_rfl)
            have h27 : u 27 = _ := hd 27 (by kernel_rfl)
            exact leaves_val rfl (v := .bool false) (by go_simp) rfl
        · intro u5 W5 E5 hV
          have h28 : u5 28 = _ := hV 28 (by decide)
          clear hV
          have F5 := F4.tr E5
          have B5 := B4.ext E5 B4.lt
          have P5 := P4.ext E5 P4.lt
          go_simp
          go_upto_region 7 with fail
          refine wp_region_locals (fun i v W => match i with
            | 0 => v = .pointer (some ⟨w3.heap.size, 3, none⟩)
            | 1 => v = .int .i64 (((0 : Nat) : Int))
            | 2 => v = .bool false
            | 3 => v = .bool false
            | 4 => v = .slice A2 nt c2
            | 5 => v = .pointer (some ⟨w3.heap.size, 1, none⟩)
            | 6 => v = .slice At xt.length ct
            | 7 => v = .bool true
            | 8 => v = .bool true
            | 9 => v = .bool true
            | 10 => v = .string (ofL k)
            | 11 => v = .agg #[.string (ofL id), .slice A l.length c, .string (ofL tag), .slice Am more.length cm]
            | 12 => v = .int .i64 xw
            | 13 => v = .agg #[.string (ofL id), .slice A l.length c, .string (ofL tag), .slice Am more.length cm]
            | 14 => v = .int .i64 mo
            | 15 => v = .bool true
            | 16 => v = .bool true
            | 17 => v = .bool true
            | 18 => v = .bool true
            | 19 => v = .bool true
            | 20 => v = .bool true
            | _ => True) (by kernel_rfl) (by kernel_rfl) (by kernel_rfl) ?_ ?_ ?_
          · intro i v W1 W2 e1 e2 h
            match i, h with
            | 0, h => exact h
            | 1, h => exact h
            | 2, h => exact h
            | 3, h => exact h
            | 4, h => exact h
            | 5, h => exact h
            | 6, h => exact h
            | 7, h => exact h
            | 8, h => exact h
            | 9, h => exact h
            | 10, h => exact h
            | 11, h => exact h
            | 12, h => exact h
            | 13, h => exact h
            | 14, h => exact h
            | 15, h => exact h
            | 16, h => exact h
            | 17, h => exact h
            | 18, h => exact h
            | 19, h => exact h
            | 20, h => exact h
            | (i + 21), h => exact h
          · refine locals_cons (fun u W hW hd => leaves_val rfl (v := .pointer (some ⟨w3.heap.size, 3, none⟩)) (by go_simp) rfl) ?_
            refine locals_cons (fun u W hW hd => ?_) ?_
            · have h0 : u 0 = _ := hd 0 (by kernel_rfl)
              have p3 := (P5.ext hW P5.lt).cell 3
              simp only [List.getElem?_cons_zero, List.getElem?_cons_succ] at p3
              exact leaves_val rfl (v := .int .i64 (((0 : Nat) : Int))) (by go_simp) rfl
            refine locals_cons (fun u W hW hd => ?_) ?_
            · have h1 : u 1 = _ := hd 1 (by kernel_rfl)
              exact leaves_val rfl (v := .bool false) (by go_simp) rfl
            refine locals_cons (fun u W hW hd => ?_) ?_
            · have h2 : u 2 = _ := hd 2 (by kernel_rfl)
              exact leaves_val rfl (v := .bool false) (by go_simp) rfl
            refine locals_cons (fun u W hW hd => ?_) ?_
            · have h3 : u 3 = _ := hd 3 (by kernel_rfl)
              exact leaves_val (by simp [Region.wanted, yielded, go_sem, h3]) (v := .slice A2 nt c2) (by go_simp) rfl
            refine locals_cons (fun u W hW hd => ?_) ?_
            · have h3 : u 3 = _ := hd 3 (by kernel_rfl)
              exact leaves_val (by simp [Region.wanted, yielded, go_sem, h3]) (v := .pointer (some ⟨w3.heap.size, 1, none⟩)) (by go_simp) rfl
            refine locals_cons (fun u W hW hd => ?_) ?_
            · have h3 : u 3 = _ := hd 3 (by kernel_rfl)
              have h5 : u 5 = _ := hd 5 (by kernel_rfl)
              have p1 := (P5.ext hW P5.lt).cell 1
              simp only [List.getElem?_cons_zero, List.getElem?_cons_succ] at p1
              exact leaves_val (by simp [Region.wanted, yielded, go_sem, h3]) (v := .slice At xt.length ct) (by go_simp) rfl
            refine locals_cons (fun u W hW hd => ?_) ?_
            · have h3 : u 3 = _ := hd 3 (by kernel_rfl)
              have h4 : u 4 = _ := hd 4 (by kernel_rfl)
              have h6 : u 6 = _ := hd 6 (by kernel_rfl)
              exact leaves_call (by simp [Region.wanted, yielded, go_sem, h3]) (f := 23) (args := #[.slice A2 nt c2, .slice At xt.length ct]) (by go_simp) ((cS.out W (E5.tr hW)).mono (by rintro e9 W9 ⟨rfl, h9⟩; exact ⟨_, rfl, h9, rfl⟩))
            refine locals_cons (fun u W hW hd => ?_) ?_
            · have h3 : u 3 = _ := hd 3 (by kernel_rfl)
              have h7 : u 7 = _ := hd 7 (by kernel_rfl)
              exact leaves_val rfl (v := .bool true) (by go_simp) rfl
            refine locals_cons (fun u W hW hd => ?_) ?_
            · have h8 : u 8 = _ := hd 8 (by kernel_rfl)
              exact leaves_val rfl (v := .bool true) (by go_simp) rfl
            refine locals_cons (fun u W hW hd => ?_) ?_
            · have h9 : u 9 = _ := hd 9 (by kernel_rfl)
              exact leaves_val (by simp [Region.wanted, yielded, go_sem, h9]) (v := .string (ofL k)) (by go_simp) rfl
            refine locals_cons (fun u W hW hd => ?_) ?_
            · have h9 : u 9 = _ := hd 9 (by kernel_rfl)
              have q0 := (B5.ext hW B5.lt).cell 0; have q1 := (B5.ext hW B5.lt).cell 1; have q2 := (B5.ext hW B5.lt).cell 2; have q3 := (B5.ext hW B5.lt).cell 3
              simp only [List.getElem?_cons_zero, List.getElem?_cons_succ] at q0 q1 q2 q3
              exact leaves_val (by simp [Region.wanted, yielded, go_sem, h9]) (v := .agg #[.string (ofL id), .slice A l.length c, .string (ofL tag), .slice Am more.length cm]) (by go_simp) rfl
            refine locals_cons (fun u W hW hd => ?_) ?_
            · have h9 : u 9 = _ := hd 9 (by kernel_rfl)
              have h10 : u 10 = _ := hd 10 (by kernel_rfl)
              have h11 : u 11 = _ := hd 11 (by kernel_rfl)
              exact leaves_call (by simp [Region.wanted, yielded, go_sem, h9]) (f := 20) (args := #[.string (ofL k), .agg #[.string (ofL id), .slice A l.length c, .string (ofL tag), .slice Am more.length cm]]) (by go_simp) ((cK.out W (hT.ext (F5.tr hW)) (F5.tr hW)).mono (by rintro e9 W9 ⟨rfl, h9⟩; exact ⟨_, rfl, h9, rfl⟩))
            refine locals_cons (fun u W hW hd => ?_) ?_
            · have h9 : u 9 = _ := hd 9 (by kernel_rfl)
              have q0 := (B5.ext hW B5.lt).cell 0; have q1 := (B5.ext hW B5.lt).cell 1; have q2 := (B5.ext hW B5.lt).cell 2; have q3 := (B5.ext hW B5.lt).cell 3
              simp only [List.getElem?_cons_zero, List.getElem?_cons_succ] at q0 q1 q2 q3
              exact leaves_val (by simp [Region.wanted, yielded, go_sem, h9]) (v := .agg #[.string (ofL id), .slice A l.length c, .string (ofL tag), .slice Am more.length cm]) (by go_simp) rfl
            refine locals_cons (fun u W hW hd => ?_) ?_
            · have h9 : u 9 = _ := hd 9 (by kernel_rfl)
              have h13 : u 13 = _ := hd 13 (by kernel_rfl)
              exact leaves_call (by simp [Region.wanted, yielded, go_sem, h9]) (f := 21) (args := #[.agg #[.string (ofL id), .slice A l.length c, .string (ofL tag), .slice Am more.length cm]]) (by go_simp) ((cM.out W (F5.tr hW)).mono (by rintro e9 W9 ⟨rfl, h9⟩; exact ⟨_, rfl, h9, rfl⟩))
            refine locals_cons (fun u W hW hd => ?_) ?_
            · have h9 : u 9 = _ := hd 9 (by kernel_rfl)
              have h12 : u 12 = _ := hd 12 (by kernel_rfl)
              have h14 : u 14 = _ := hd 14 (by kernel_rfl)
              have hle : decide ((xw : Int) ≤ (mo : Int)) = true := by simp; omega
              exact leaves_val (by simp [Region.wanted, yielded, go_sem, h9]) (v := .bool true) (by go_simp) rfl
            refine locals_cons (fun u W hW hd => ?_) ?_
            · have h9 : u 9 = _ := hd 9 (by kernel_rfl)
              have h15 : u 15 = _ := hd 15 (by kernel_rfl)
              exact leaves_val rfl (v := .bool true) (by go_simp) rfl
            refine locals_cons (fun u W hW hd => ?_) ?_
            · have h16 : u 16 = _ := hd 16 (by kernel_rfl)
              exact leaves_val rfl (v := .bool true) (by go_simp) rfl
            refine locals_cons (fun u W hW hd => ?_) ?_
            · have h17 : u 17 = _ := hd 17 (by kernel_rfl)
              exact leaves_call (by simp [Region.wanted, yielded, go_sem, h17]) (f := 17) (args := #[]) (by go_simp) ((cW.out W (hT.ext (F5.tr hW))).mono (by rintro e9 W9 ⟨rfl, h9⟩; exact ⟨_, rfl, h9, rfl⟩))
            refine locals_cons (fun u W hW hd => ?_) ?_
            · have h17 : u 17 = _ := hd 17 (by kernel_rfl)
              have h18 : u 18 = _ := hd 18 (by kernel_rfl)
              exact leaves_val rfl (v := .bool true) (by go_simp) rfl
            refine locals_cons (fun u W hW hd => ?_) locals_nil
            · have h19 : u 19 = _ := hd 19 (by kernel_rfl)
              exact leaves_val rfl (v := .bool true) (by go_simp) rfl
          · intro u7 W7 E7 hV
            have h20 : u7 20 = .bool true := hV 20 (by decide)
            clear hV
            go_simp
            go_wp2
            exact bodyPost_ret (v := .bool true) (by simp [results, Tryz.results4, go_sem]) rfl ⟨rfl, F5.tr E7⟩
      · rw [if_neg hx] at htl
        subst htl
        have hnt0 : nt = 0 := hnt.symm
        subst hnt0
        have d1 : ((x : Int) != 0) = true := by simp; omega
        clear hnt R4 T4
        refine wp_region_locals (fun i v W => match i with
          | 0 => v = .int .i64 x
          | 1 => v = .pointer (some ⟨w3.heap.size, 3, none⟩)
          | 2 => v = .int .i64 x
          | 3 => v = .bool false
          | 4 => v = .bool false
          | 5 => v = .string (ofL k)
          | 6 => v = .agg #[.string (ofL id), .slice A l.length c, .string (ofL tag), .slice Am more.length cm]
          | 7 => v = .int .i64 xw
          | 8 => v = .pointer (some ⟨w3.heap.size, 2, none⟩)
          | 9 => v = .int .i64 xw
          | 10 => v = .bool false
          | 11 => v = .bool false
          | 12 => v = .bool false
          | 13 => v = .agg #[.string (ofL id), .slice A l.length c, .string (ofL tag), .slice Am more.length cm]
          | 14 => v = .int .i64 mo
          | 15 => v = .agg #[.string (ofL id), .slice A l.length c, .string (ofL tag), .slice Am more.length cm]
          | 16 => v = .int .i64 mo
          | 17 => v = .bool false
          | 18 => v = .bool false
          | 19 => v = .bool false
          | 20 => v = .pointer (some ⟨w3.heap.size, 3, none⟩)
          | 21 => v = .int .i64 x
          | 22 => v = .bool true
          | 23 => v = .bool true
          | 24 => v = .slice A2 0 c2
          | 25 => v = .int .i64 0
          | 26 => v = .bool false
          | 27 => v = .bool false
          | 28 => v = .bool false
          | _ => True) (by kernel_rfl) (by kernel_rfl) (by kernel_rfl) ?_ ?_ ?_
        · intro i v W1 W2 e1 e2 h
          match i, h with
          | 0, h => exact h
          | 1, h => exact h
          | 2, h => exact h
          | 3, h => exact h
          | 4, h => exact h
          | 5, h => exact h
          | 6, h => exact h
          | 7, h => exact h
          | 8, h => exact h
          | 9, h => exact h
          | 10, h => exact h
          | 11, h => exact h
          | 12, h => exact h
          | 13, h => exact h
          | 14, h => exact h
          | 15, h => exact h
          | 16, h => exact h
          | 17, h => exact h
          | 18, h => exact h
          | 19, h => exact h
          | 20, h => exact h
          | 21, h => exact h
          | 22, h => exact h
          | 23, h => exact h
          | 24, h => exact h
          | 25, h => exact h
          | 26, h => exact h
          | 27, h => exact h
          | 28, h => exact h
          | (i + 29), h => exact h
        · refine locals_cons (fun u W hW hd => leaves_val rfl (v := .int .i64 x) (by go_simp) rfl) ?_
          refine locals_cons (fun u W hW hd => leaves_val rfl (v := .pointer (some ⟨w3.heap.size, 3, none⟩)) (by go_simp) rfl) ?_
          refine locals_cons (fun u W hW hd => ?_) ?_
          · have h1 : u 1 = _ := hd 1 (by kernel_rfl)
            have p3 := (P4.ext hW P4.lt).cell 3
            simp only [List.getElem?_cons_zero, List.getElem?_cons_succ] at p3
            exact leaves_val rfl (v := .int .i64 x) (by go_simp) rfl
          refine locals_cons (fun u W hW hd => ?_) ?_
          · have h0 : u 0 = _ := hd 0 (by kernel_rfl)
            have h2 : u 2 = _ := hd 2 (by kernel_rfl)
            exact leaves_val rfl (v := .bool false) (by go_simp) rfl
          refine locals_cons (fun u W hW hd => ?_) ?_
          · have h3 : u 3 = _ := hd 3 (by kernel_rfl)
            exact leaves_val rfl (v := .bool false) (by go_simp) rfl
          refine locals_cons (fun u W hW hd => ?_) ?_
          · have h4 : u 4 = _ := hd 4 (by kernel_rfl)
            exact leaves_val (by simp [Region.wanted, yielded, go_sem, h4]) (v := .string (ofL k)) (by go_simp) rfl
          refine locals_cons (fun u W hW hd => ?_) ?_
          · have h4 : u 4 = _ := hd 4 (by kernel_rfl)
            have q0 := (B4.ext hW B4.lt).cell 0; have q1 := (B4.ext hW B4.lt).cell 1; have q2 := (B4.ext hW B4.lt).cell 2; have q3 := (B4.ext hW B4.lt).cell 3
            simp only [List.getElem?_cons_zero, List.getElem?_cons_succ] at q0 q1 q2 q3
            exact leaves_val (by simp [Region.wanted, yielded, go_sem, h4]) (v := .agg #[.string (ofL id), .slice A l.length c, .string (ofL tag), .slice Am more.length cm]) (by go_simp) rfl
          refine locals_cons (fun u W hW hd => ?_) ?_
          · have h4 : u 4 = _ := hd 4 (by kernel_rfl)
            have h5 : u 5 = _ := hd 5 (by kernel_rfl)
            have h6 : u 6 = _ := hd 6 (by kernel_rfl)
            exact leaves_call (by simp [Region.wanted, yielded, go_sem, h4]) (f := 20) (args := #[.string (ofL k), .agg #[.string (ofL id), .slice A l.length c, .string (ofL tag), .slice Am more.length cm]]) (by go_simp) ((cK.out W (hT.ext (F4.tr hW)) (F4.tr hW)).mono (by rintro e9 W9 ⟨rfl, h9⟩; exact ⟨_, rfl, h9, rfl⟩))
          refine locals_cons (fun u W hW hd => ?_) ?_
          · have h4 : u 4 = _ := hd 4 (by kernel_rfl)
            exact leaves_val (by simp [Region.wanted, yielded, go_sem, h4]) (v := .pointer (some ⟨w3.heap.size, 2, none⟩)) (by go_simp) rfl
          refine locals_cons (fun u W hW hd => ?_) ?_
          · have h4 : u 4 = _ := hd 4 (by kernel_rfl)
            have h8 : u 8 = _ := hd 8 (by kernel_rfl)
            have p2 := (P4.ext hW P4.lt).cell 2
            simp only [List.getElem?_cons_zero, List.getElem?_cons_succ] at p2
            exact leaves_val (by simp [Region.wanted, yielded, go_sem, h4]) (v := .int .i64 xw) (by go_simp) rfl
          refine locals_cons (fun u W hW hd => ?_) ?_
          · have h4 : u 4 = _ := hd 4 (by kernel_rfl)
            have h7 : u 7 = _ := hd 7 (by kernel_rfl)
            have h9 : u 9 = _ := hd 9 (by kernel_rfl)
            exact leaves_val (by simp [Region.wanted, yielded, go_sem, h4]) (v := .bool false) (by go_simp) rfl
          refine locals_cons (fun u W hW hd => ?_) ?_
          · have h4 : u 4 = _ := hd 4 (by kernel_rfl)
            have h10 : u 10 = _ := hd 10 (by kernel_rfl)
            exact leaves_val rfl (v := .bool false) (by go_simp) rfl
          refine locals_cons (fun u W hW hd => ?_) ?_
          · have h11 : u 11 = _ := hd 11 (by kernel_rfl)
            exact leaves_val rfl (v := .bool false) (by go_simp) rfl
          refine locals_cons (fun u W hW hd => ?_) ?_
          · have h12 : u 12 = _ := hd 12 (by kernel_rfl)
            have q0 := (B4.ext hW B4.lt).cell 0; have q1 := (B4.ext hW B4.lt).cell 1; have q2 := (B4.ext hW B4.lt).cell 2; have q3 := (B4.ext hW B4.lt).cell 3
            simp only [List.getElem?_cons_zero, List.getElem?_cons_succ] at q0 q1 q2 q3
            exact leaves_val (by simp [Region.wanted, yielded, go_sem, h12]) (v := .agg #[.string (ofL id), .slice A l.length c, .string (ofL tag), .slice Am more.length cm]) (by go_simp) rfl
          refine locals_cons (fun u W hW hd => ?_) ?_
          · have h12 : u 12 = _ := hd 12 (by kernel_rfl)
            have h13 : u 13 = _ := hd 13 (by kernel_rfl)
            exact leaves_call (by simp [Region.wanted, yielded, go_sem, h12]) (f := 21) (args := #[.agg #[.string (ofL id), .slice A l.length c, .string (ofL tag), .slice Am more.length cm]]) (by go_simp) ((cM.out W (F4.tr hW)).mono (by rintro e9 W9 ⟨rfl, h9⟩; exact ⟨_, rfl, h9, rfl⟩))
          refine locals_cons (fun u W hW hd => ?_) ?_
          · have h12 : u 12 = _ := hd 12 (by kernel_rfl)
            have q0 := (B4.ext hW B4.lt).cell 0; have q1 := (B4.ext hW B4.lt).cell 1; have q2 := (B4.ext hW B4.lt).cell 2; have q3 := (B4.ext hW B4.lt).cell 3
            simp only [List.getElem?_cons_zero, List.getElem?_cons_succ] at q0 q1 q2 q3
            exact leaves_val (by simp [Region.wanted, yielded, go_sem, h12]) (v := .agg #[.string (ofL id), .slice A l.length c, .string (ofL tag), .slice Am more.length cm]) (by go_simp) rfl
          refine locals_cons (fun u W hW hd => ?_) ?_
          · have h12 : u 12 = _ := hd 12 (by kernel_rfl)
            have h15 : u 15 = _ := hd 15 (by kernel_rfl)
            exact leaves_call (by simp [Region.wanted, yielded, go_sem, h12]) (f := 22) (args := #[.agg #[.string (ofL id), .slice A l.length c, .string (ofL tag), .slice Am more.length cm]]) (by go_simp) ((cN.out W (F4.tr hW)).mono (by rintro e9 W9 ⟨rfl, h9⟩; exact ⟨_, rfl, h9, rfl⟩))
          refine locals_cons (fun u W hW hd => ?_) ?_
          · have h12 : u 12 = _ := hd 12 (by kernel_rfl)
            have h14 : u 14 = _ := hd 14 (by kernel_rfl)
            have h16 : u 16 = _ := hd 16 (by kernel_rfl)
            exact leaves_val (by simp [Region.wanted, yielded, go_sem, h12]) (v := .bool false) (by go_simp) rfl
          refine locals_cons (fun u W hW hd => ?_) ?_
          · have h12 : u 12 = _ := hd 12 (by kernel_rfl)
            have h17 : u 17 = _ := hd 17 (by kernel_rfl)
            exact leaves_val rfl (v := .bool false) (by go_simp) rfl
          refine locals_cons (fun u W hW hd => ?_) ?_
          · have h18 : u 18 = _ := hd 18 (by kernel_rfl)
            exact leaves_val rfl (v := .bool false) (by go_simp) rfl
          refine locals_cons (fun u W hW hd => ?_) ?_
          · have h19 : u 19 = _ := hd 19 (by kernel_rfl)
            exact leaves_val (by simp [Region.wanted, yielded, go_sem, h19]) (v := .pointer (some ⟨w3.heap.size, 3, none⟩)) (by go_simp) rfl
          refine locals_cons (fun u W hW hd => ?_) ?_
          · have h19 : u 19 = _ := hd 19 (by kernel_rfl)
            have h20 : u 20 = _ := hd 20 (by kernel_rfl)
            have p3 := (P4.ext hW P4.lt).cell 3
            simp only [List.getElem?_cons_zero, List.getElem?_cons_succ] at p3
            exact leaves_val (by simp [Region.wanted, yielded, go_sem, h19]) (v := .int .i64 x) (by go_simp) rfl
          refine locals_cons (fun u W hW hd => ?_) ?_
          · have h19 : u 19 = _ := hd 19 (by kernel_rfl)
            have h21 : u 21 = _ := hd 21 (by kernel_rfl)
            exact leaves_val (by simp [Region.wanted, yielded, go_sem, h19]) (v := .bool true) (by go_simp) rfl
          refine locals_cons (fun u W hW hd => ?_) ?_
          · have h19 : u 19 = _ := hd 19 (by kernel_rfl)
            have h22 : u 22 = _ := hd 22 (by kernel_rfl)
            exact leaves_val (by simp [Region.wanted, yielded, go_sem, h19]) (v := .bool true) (by go_simp) rfl
          refine locals_cons (fun u W hW hd => ?_) ?_
          · have h23 : u 23 = _ := hd 23 (by kernel_rfl)
            exact leaves_val (by simp [Region.wanted, yielded, go_sem, h23]) (v := .slice A2 0 c2) (by go_simp) rfl
          refine locals_cons (fun u W hW hd => ?_) ?_
          · have h23 : u 23 = _ := hd 23 (by kernel_rfl)
            have h24 : u 24 = _ := hd 24 (by kernel_rfl)
            exact leaves_val (by simp [Region.wanted, yielded, go_sem, h23]) (v := .int .i64 0) (by go_simp) rfl
          refine locals_cons (fun u W hW hd => ?_) ?_
          · have h23 : u 23 = _ := hd 23 (by kernel_rfl)
            have h25 : u 25 = _ := hd 25 (by kernel_rfl)
            exact leaves_val (by simp [Region.wanted, yielded, go_sem, h23]) (v := .bool false) (by go_simp) rfl
          refine locals_cons (fun u W hW hd => ?_) ?_
          · have h19 : u 19 = _ := hd 19 (by kernel_rfl)
            have h23 : u 23 = _ := hd 23 (by kernel_rfl)
            have h26 : u 26 = _ := hd 26 (by kernel_rfl)
            exact leaves_val (by simp [Region.wanted, yielded, go_sem, h19]) (v := .bool false) (by go_simp) rfl
          refine locals_cons (fun u W hW hd => ?_) locals_nil
          · have h19 : u 19 = _ := hd 19 (by kernel_rfl)
            have h27 : u 27 = _ := hd 27 (by kernel_rfl)
            exact leaves_val rfl (v := .bool false) (by go_simp) rfl
        · intro u5 W5 E5 hV
          have h28 : u5 28 = _ := hV 28 (by decide)
          clear hV
          have F5 := F4.tr E5
          have B5 := B4.ext E5 B4.lt
          have P5 := P4.ext E5 P4.lt
          go_simp
          go_upto_region 7 with fail
          refine wp_region_locals (fun i v W => match i with
            | 0 => v = .pointer (some ⟨w3.heap.size, 3, none⟩)
            | 1 => v = .int .i64 x
            | 2 => v = .bool true
            | 3 => v = .bool true
            | 4 => v = undef
            | 5 => v = undef
            | 6 => v = undef
            | 7 => v = undef
            | 8 => v = .bool true
            | 9 => v = .bool true
            | 10 => v = .string (ofL k)
            | 11 => v = .agg #[.string (ofL id), .slice A l.length c, .string (ofL tag), .slice Am more.length cm]
            | 12 => v = .int .i64 xw
            | 13 => v = .agg #[.string (ofL id), .slice A l.length c, .string (ofL tag), .slice Am more.length cm]
            | 14 => v = .int .i64 mo
            | 15 => v = .bool true
            | 16 => v = .bool true
            | 17 => v = .bool true
            | 18 => v = .bool true
            | 19 => v = .bool true
            | 20 => v = .bool true
            | _ => True) (by kernel_rfl) (by kernel_rfl) (by kernel_rfl) ?_ ?_ ?_
          · intro i v W1 W2 e1 e2 h
            match i, h with
            | 0, h => exact h
            | 1, h => exact h
            | 2, h => exact h
            | 3, h => exact h
            | 4, h => exact h
            | 5, h => exact h
            | 6, h => exact h
            | 7, h => exact h
            | 8, h => exact h
            | 9, h => exact h
            | 10, h => exact h
            | 11, h => exact h
            | 12, h => exact h
            | 13, h => exact h
            | 14, h => exact h
            | 15, h => exact h
            | 16, h => exact h
            | 17, h => exact h
            | 18, h => exact h
            | 19, h => exact h
            | 20, h => exact h
            | (i + 21), h => exact h
          · refine locals_cons (fun u W hW hd => leaves_val rfl (v := .pointer (some ⟨w3.heap.size, 3, none⟩)) (by go_simp) rfl) ?_
            refine locals_cons (fun u W hW hd => ?_) ?_
            · have h0 : u 0 = _ := hd 0 (by kernel_rfl)
              have p3 := (P5.ext hW P5.lt).cell 3
              simp only [List.getElem?_cons_zero, List.getElem?_cons_succ] at p3
              exact leaves_val rfl (v := .int .i64 x) (by go_simp) rfl
            refine locals_cons (fun u W hW hd => ?_) ?_
            · have h1 : u 1 = _ := hd 1 (by kernel_rfl)
              exact leaves_val rfl (v := .bool true) (by go_simp) rfl
            refine locals_cons (fun u W hW hd => ?_) ?_
            · have h2 : u 2 = _ := hd 2 (by kernel_rfl)
              exact leaves_val rfl (v := .bool true) (by go_simp) rfl
            refine locals_cons (fun u W hW hd => ?_) ?_
            · have h3 : u 3 = _ := hd 3 (by kernel_rfl)
              exact .inr ⟨by simp [Region.wanted, yielded, go_sem, h3], rfl⟩
            refine locals_cons (fun u W hW hd => ?_) ?_
            · have h3 : u 3 = _ := hd 3 (by kernel_rfl)
              exact .inr ⟨by simp [Region.wanted, yielded, go_sem, h3], rfl⟩
            refine locals_cons (fun u W hW hd => ?_) ?_
            · have h3 : u 3 = _ := hd 3 (by kernel_rfl)
              exact .inr ⟨by simp [Region.wanted, yielded, go_sem, h3], rfl⟩
            refine locals_cons (fun u W hW hd => ?_) ?_
            · have h3 : u 3 = _ := hd 3 (by kernel_rfl)
              exact .inr ⟨by simp [Region.wanted, yielded, go_sem, h3], rfl⟩
            refine locals_cons (fun u W hW hd => ?_) ?_
            · have h3 : u 3 = _ := hd 3 (by kernel_rfl)
              have h7 : u 7 = _ := hd 7 (by kernel_rfl)
              exact leaves_val rfl (v := .bool true) (by go_simp) rfl
            refine locals_cons (fun u W hW hd => ?_) ?_
            · have h8 : u 8 = _ := hd 8 (by kernel_rfl)
              exact leaves_val rfl (v := .bool true) (by go_simp) rfl
            refine locals_cons (fun u W hW hd => ?_) ?_
            · have h9 : u 9 = _ := hd 9 (by kernel_rfl)
              exact leaves_val (by simp [Region.wanted, yielded, go_sem, h9]) (v := .string (ofL k)) (by go_simp) rfl
            refine locals_cons (fun u W hW hd => ?_) ?_
            · have h9 : u 9 = _ := hd 9 (by kernel_rfl)
              have q0 := (B5.ext hW B5.lt).cell 0; have q1 := (B5.ext hW B5.lt).cell 1; have q2 := (B5.ext hW B5.lt).cell 2; have q3 := (B5.ext hW B5.lt).cell 3
              simp only [List.getElem?_cons_zero, List.getElem?_cons_succ] at q0 q1 q2 q3
              exact leaves_val (by simp [Region.wanted, yielded, go_sem, h9]) (v := .agg #[.string (ofL id), .slice A l.length c, .string (ofL tag), .slice Am more.length cm]) (by go_simp) rfl
            refine locals_cons (fun u W hW hd => ?_) ?_
            · have h9 : u 9 = _ := hd 9 (by kernel_rfl)
              have h10 : u 10 = _ := hd 10 (by kernel_rfl)
              have h11 : u 11 = _ := hd 11 (by kernel_rfl)
              exact leaves_call (by simp [Region.wanted, yielded, go_sem, h9]) (f := 20) (args := #[.string (ofL k), .agg #[.string (ofL id), .slice A l.length c, .string (ofL tag), .slice Am more.length cm]]) (by go_simp) ((cK.out W (hT.ext (F5.tr hW)) (F5.tr hW)).mono (by rintro e9 W9 ⟨rfl, h9⟩; exact ⟨_, rfl, h9, rfl⟩))
            refine locals_cons (fun u W hW hd => ?_) ?_
            · have h9 : u 9 = _ := hd 9 (by kernel_rfl)
              have q0 := (B5.ext hW B5.lt).cell 0; have q1 := (B5.ext hW B5.lt).cell 1; have q2 := (B5.ext hW B5.lt).cell 2; have q3 := (B5.ext hW B5.lt).cell 3
              simp only [List.getElem?_cons_zero, List.getElem?_cons_succ] at q0 q1 q2 q3
              exact leaves_val (by simp [Region.wanted, yielded, go_sem, h9]) (v := .agg #[.string (ofL id), .slice A l.length c, .string (ofL tag), .slice Am more.length cm]) (by go_simp) rfl
            refine locals_cons (fun u W hW hd => ?_) ?_
            · have h9 : u 9 = _ := hd 9 (by kernel_rfl)
              have h13 : u 13 = _ := hd 13 (by kernel_rfl)
              exact leaves_call (by simp [Region.wanted, yielded, go_sem, h9]) (f := 21) (args := #[.agg #[.string (ofL id), .slice A l.length c, .string (ofL tag), .slice Am more.length cm]]) (by go_simp) ((cM.out W (F5.tr hW)).mono (by rintro e9 W9 ⟨rfl, h9⟩; exact ⟨_, rfl, h9, rfl⟩))
            refine locals_cons (fun u W hW hd => ?_) ?_
            · have h9 : u 9 = _ := hd 9 (by kernel_rfl)
              have h12 : u 12 = _ := hd 12 (by kernel_rfl)
              have h14 : u 14 = _ := hd 14 (by kernel_rfl)
              have hle : decide ((xw : Int) ≤ (mo : Int)) = true := by simp; omega
              exact leaves_val (by simp [Region.wanted, yielded, go_sem, h9]) (v := .bool true) (by go_simp) rfl
            refine locals_cons (fun u W hW hd => ?_) ?_
            · have h9 : u 9 = _ := hd 9 (by kernel_rfl)
              have h15 : u 15 = _ := hd 15 (by kernel_rfl)
              exact leaves_val rfl (v := .bool true) (by go_simp) rfl
            refine locals_cons (fun u W hW hd => ?_) ?_
            · have h16 : u 16 = _ := hd 16 (by kernel_rfl)
              exact leaves_val rfl (v := .bool true) (by go_simp) rfl
            refine locals_cons (fun u W hW hd => ?_) ?_
            · have h17 : u 17 = _ := hd 17 (by kernel_rfl)
              exact leaves_call (by simp [Region.wanted, yielded, go_sem, h17]) (f := 17) (args := #[]) (by go_simp) ((cW.out W (hT.ext (F5.tr hW))).mono (by rintro e9 W9 ⟨rfl, h9⟩; exact ⟨_, rfl, h9, rfl⟩))
            refine locals_cons (fun u W hW hd => ?_) ?_
            · have h17 : u 17 = _ := hd 17 (by kernel_rfl)
              have h18 : u 18 = _ := hd 18 (by kernel_rfl)
              exact leaves_val rfl (v := .bool true) (by go_simp) rfl
            refine locals_cons (fun u W hW hd => ?_) locals_nil
            · have h19 : u 19 = _ := hd 19 (by kernel_rfl)
              exact leaves_val rfl (v := .bool true) (by go_simp) rfl
          · intro u7 W7 E7 hV
            have h20 : u7 20 = .bool true := hV 20 (by decide)
            clear hV
            go_simp
            go_wp2
            exact bodyPost_ret (v := .bool true) (by simp [results, Tryz.results4, go_sem, h20]) rfl ⟨rfl, F5.tr E7⟩
theorem verifyTells_walk2 (a : ByteArray) (t : TokA) (Am : Option Addr) (cm : Nat) (more : List TokA) (w : World) (hT : Tab w) (_ha : a.size ≤ maxLen) (ht : TokOk w t) (hr : Rd w w.heap.size 3 (.slice Am more.length cm) more.length (toksCells more)) (hm : ∀ x ∈ more, TokOk w x) : Calls Tryz.prog 4 #[.string a, bunV t.id (.slice t.A t.l.length t.c) t.tag (.slice Am more.length cm)] w fun e w' => e = .returned (.bool true) ∧ Ext w w' := by
  have q := verifyTells_walk (toL a) t.id t.tag t.A t.c t.l Am cm more w hT ht.1 ⟨hr, fun x hx => (hm x hx).1⟩
  rw [ofL_toL] at q
  exact q
end Go.Proofs.YtejhiekikblbiaaGreatDoor
