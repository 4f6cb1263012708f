/-
  The verification's reference: the whole proof. No condition.
-/
import Derived.Test.YtejhiekikblbiaaGreatDoorRpT
namespace Go.Proofs.YtejhiekikblbiaaGreatDoor
open Go.RowKit

set_option maxRecDepth 100000 in
set_option maxHeartbeats 16000000 in
theorem rprove_any (k id tag : List UInt8) (A : Option Addr) (c : Nat) (l : List LinkL) (Am : Option Addr) (cm : Nat) (more : List TokA) (w : World) (hl : RdLinks w w.heap.size (.slice A l.length c) l) (hm : RdToks w w.heap.size (.slice Am more.length cm) more) (hk : k.length ≤ 10000) (ht : OkT ⟨id, tag, A, c, l⟩) (hml : ∀ d ∈ more, OkT d) (hn : more.length ≤ 10000) :
    Calls Tryz.prog 19 #[.string (ofL k), bunV id (.slice A l.length c) tag (.slice Am more.length cm)] w (RpPost w (proveL k ⟨id, l, tag⟩ (more.map TokA.plain))) := by
  obtain ⟨G, hG⟩ : ∃ G, greatB ⟨id, l, tag⟩ (more.map TokA.plain) = G := ⟨_, rfl⟩
  have HGB := Kp.mk (show G = (decide (8 < more.length) || decide (64 < l.length) || more.any fun d => decide (64 < d.l.length)) from by
    rw [← hG]
    unfold greatB
    rw [List.length_map, List.any_map]; rfl)
  obtain ⟨X, hX⟩ : ∃ X, proveL k ⟨id, l, tag⟩ (more.map TokA.plain) = X := ⟨_, rfl⟩
  have HG3 := Kp.mk (show G = true → X = (⟨List.replicate more.length false, [], [], 0, []⟩, 3) from fun h => by rw [← hX, prove_great (hG.trans h), List.length_map])
  have HT8 := Kp.mk (show G = false → lastL k id l ≠ tag → X = (⟨List.replicate more.length false, [], [], l.length + 1, textsL k id l⟩, 8) from fun h h2 => by rw [← hX, prove_tag8 (hG.trans h) h2, List.length_map])
  have HGO := Kp.mk (show G = false → lastL k id l = tag → ∀ s b, goL tag (more.map TokA.plain) (more.length + 2) (begL k ⟨id, l, tag⟩ (more.map TokA.plain)) 0 = (s, b) → X = (s, if (b && s.used.all _root_.id) = true then 0 else 11) from fun h h2 s b h3 => by
    rw [← hX]; exact prove_go (hG.trans h) h2 (by rw [List.length_map]; exact h3))
  have HSM := Kp.mk (show G = false → _ from fun h => great_small (hG.trans h))
  have HWK := Kp.mk (show X.1.work ≤ mostL ⟨id, l, tag⟩ (more.map TokA.plain) by rw [← hX]; exact work_most _ _ _)
  rw [hX]
  obtain ⟨W0, hW0, E0, hs0, B1, B2, B3⟩ := rp_boxes w (.string (ofL id)) (.slice A l.length c) (.string (ofL tag)) (.slice Am more.length cm)
  have HW := Kp.mk hW0
  have HL := Kp.mk hl; have HM := Kp.mk hm; have HML := Kp.mk hml; have HTT := Kp.mk ht
  have S0 : RpSt w W0 ⟨id, tag, A, c, l⟩ (.slice Am more.length cm) more ⟨List.replicate 0 false, [], [], 0, []⟩ [] [] [] (.slice none 0 0) (.slice none 0 0) (.slice none 0 0) (.slice none 0 0) (.slice none 0 0) (rpBx (.slice none 0 0) (.slice none 0 0) 0 0 (.slice none 0 0)) :=
    ⟨E0, B1, B2, B3, World.ownsRow_nil _ _ _ _, World.ownsRow_nil _ _ _ _, World.ownsRow_nil _ _ _ _, World.ownsRow_nil _ _ _ _, World.ownsRow_nil _ _ _ _, fun x hx => (by cases hx), fun r hr => (by cases hr), rfl, fun x hx => (by cases hx)⟩
  clear hG hX hW0 hl hm hml ht B1 B2 B3 hs0 E0
  unfold bunV at *
  go_enter Tryz.func19, Tryz.ntmps19
  go_upto_region 2 with fail
  rw [HW.out]
  clear HW
  go_wp2_with fail
  go_loopw [6] (fun i wr => ∃ (j : Nat) (vu : Value), i = .int .i64 j ∧ j ≤ more.length ∧ RpSt w wr ⟨id, tag, A, c, l⟩ (.slice Am more.length cm) more ⟨List.replicate j false, [], [], 0, []⟩ [] [] [] vu (.slice none 0 0) (.slice none 0 0) (.slice none 0 0) (.slice none 0 0) (rpBx vu (.slice none 0 0) 0 (rpE ((more.take j).any fun d => decide (64 < d.l.length))) (.slice none 0 0))) (fun i _ => more.length - (intOf i).toNat)
  case atStart => exact ⟨0, _, rfl, by omega, S0⟩
  case round =>
    clear S0
    obtain ⟨j, vu, rfl, hj, hS⟩ := hrel
    have b3 := hS.bun.cell 3
    simp only [List.getElem?_cons_zero, List.getElem?_cons_succ] at b3
    by_cases hlt : j < more.length
    · obtain ⟨bm, om, hAm, -, hcm⟩ := HM.out.tok j hlt
      subst hAm
      obtain ⟨d, hd⟩ : ∃ d, more[j] = d := ⟨_, rfl⟩
      have hnx := Kp.mk (show ((more.take (j + 1)).any fun d => decide (64 < d.l.length)) = (((more.take j).any fun d => decide (64 < d.l.length)) || decide (64 < d.l.length)) by
        rw [List.take_succ_eq_append_getElem hlt, List.any_append, hd]; simp)
      have hdl : d.l.length ≤ 10000 := by rw [← hd]; exact (HML.out _ (List.getElem_mem hlt)).2.2.2
      rw [hd] at hcm
      have HC := Kp.mk hcm
      obtain ⟨eb, heb⟩ : ∃ eb, ((more.take j).any fun d => decide (64 < d.l.length)) = eb := ⟨_, rfl⟩
      rw [heb] at hS hnx
      obtain ⟨Au, cu, rfl⟩ := own_slice hS.used
      simp only [List.length_replicate] at hS
      have own0 := own_eq hS.used rfl (show (List.replicate j false).length = j from List.length_replicate)
      have q0 := hS.box.cell 0
      rw [(rpBx_get _ _ _ _ _).1] at q0
      have z0 := hS.box.frozen 0
      clear hcm hd heb
      go_upto_region 6 with (at_builtin; refine wpl_app Tryz.elemBool rfl _ _ rfl own0 1 rfl rfl rfl bool_one (by omega) (by omega) (by have := hS.ext.size; omega) ?_; intro v5 w5 own5 hg5; obtain ⟨A5, c5, hv5⟩ := own_slice own5; subst hv5; have S5 := hS.usedTo (us := List.replicate (j + 1) false) (own_eq own5 (by rw [List.replicate_succ', List.map_append]; rfl) (by rw [List.length_replicate])) hg5; clear own5 hg5 own0 q0 z0 b3 hS; have q0 := S5.box.cell 0; have z0 := S5.box.frozen 0; have b3 := S5.bun.cell 3; rw [(rpBx_get _ _ _ _ _).1] at q0; simp only [List.getElem?_cons_zero, List.getElem?_cons_succ] at b3)
      obtain ⟨W6, hW6⟩ : ∃ W6 : World, W6 = w5.setCell ⟨w.heap.size + 1 + 1, 0, none⟩ (.slice A5 (j + 1) c5) := ⟨_, rfl⟩
      have S6 := (S5.set 0 (.slice A5 (j + 1) c5)).bxe (bx' := rpBx (.slice A5 (j + 1) c5) (.slice none 0 0) 0 (rpE eb) (.slice none 0 0)) rfl
      rw [← hW6] at S6 ⊢
      clear S5 q0 z0 b3 hW6
      have b3 := S6.bun.cell 3
      have q3 := S6.box.cell 3
      have z3 := S6.box.frozen 3
      rw [(rpBx_get _ _ _ _ _).2.2.2.1] at q3
      simp only [List.getElem?_cons_zero, List.getElem?_cons_succ] at b3
      obtain ⟨c0, c1, c2⟩ := HC.out W6 S6.ext
      by_cases hdd : 64 < d.l.length
      · have dd : decide ((64 : Int) < (d.l.length : Int)) = true := by simp; omega
        have hbx := Kp.mk (show rpBx (.slice A5 (j + 1) c5) (.slice none 0 0) 0 3 (.slice none 0 0) = rpBx (.slice A5 (j + 1) c5) (.slice none 0 0) 0 (rpE ((more.take (j + 1)).any fun d => decide (64 < d.l.length))) (.slice none 0 0) by rw [hnx.out, decide_eq_true hdd, Bool.or_true]; rfl)
        clear hnx hdd HC
        go_wp2
        go_roundw
        case rel => exact ⟨j + 1, _, by go_num, by omega, ((S6.set 3 (.int .i64 3)).bxe (bx' := rpBx (.slice A5 (j + 1) c5) (.slice none 0 0) 0 3 (.slice none 0 0)) rfl).bxe hbx.out⟩
        case measure => simp [intOf]; omega
      · have dd : decide ((64 : Int) < (d.l.length : Int)) = false := by simp; omega
        have hbx := Kp.mk (show rpBx (.slice A5 (j + 1) c5) (.slice none 0 0) 0 (rpE eb) (.slice none 0 0) = rpBx (.slice A5 (j + 1) c5) (.slice none 0 0) 0 (rpE ((more.take (j + 1)).any fun d => decide (64 < d.l.length))) (.slice none 0 0) by rw [hnx.out, decide_eq_false hdd, Bool.or_false])
        clear hnx hdd HC q3 z3
        go_wp2
        go_roundw
        case rel => exact ⟨j + 1, _, by go_num, by omega, S6.bxe hbx.out⟩
        case measure => simp [intOf]; omega
    · obtain rfl : j = more.length := by omega
      rw [List.take_length] at hS
      obtain ⟨Au, cu, rfl⟩ := own_slice hS.used
      simp only [List.length_replicate] at hS
      obtain ⟨eb, heb⟩ : ∃ eb, (more.any fun d => decide (64 < d.l.length)) = eb := ⟨_, rfl⟩
      rw [heb] at hS HGB
      have b1 := hS.bun.cell 1
      have q3 := hS.box.cell 3
      have z3 := hS.box.frozen 3
      rw [(rpBx_get _ _ _ _ _).2.2.2.1] at q3
      simp only [List.getElem?_cons_zero, List.getElem?_cons_succ] at b1
      clear heb hlt hj
      by_cases g1 : 8 < more.length
      · have d1 : decide ((8 : Int) < (more.length : Int)) = true := by simp; omega
        have hgt : G = true := by rw [HGB.out]; simp [g1]
        clear HGB g1
        go_upto_region 10 with fail
        obtain ⟨W9, hW9⟩ : ∃ W9 : World, W9 = wr.setCell ⟨w.heap.size + 1 + 1, 3, none⟩ (.int .i64 3) := ⟨_, rfl⟩
        have hS9 := (hS.set 3 (.int .i64 3)).bxe (bx' := rpBx (.slice Au more.length cu) (.slice none 0 0) 0 3 (.slice none 0 0)) rfl
        rw [← hW9] at hS9 ⊢
        have hX := HG3.out hgt
        subst hX
        clear hS hW9 b1 b3 q3 z3 HG3 HT8 HGO HSM HWK
        have q3 := hS9.box.cell 3
        rw [(rpBx_get _ _ _ _ _).2.2.2.1] at q3
        go_upto_region 11 with fail
        have hS := hS9.of (s' := ⟨List.replicate more.length false, [], [], 0, []⟩) rfl rfl rfl rfl
        clear q3 hS9
        have q0 := hS.box.cell 0; have q1 := hS.box.cell 1; have q2 := hS.box.cell 2; have q3 := hS.box.cell 3; have q4 := hS.box.cell 4
        have y0 := hS.res.cell 0; have y1 := hS.res.cell 1; have y2 := hS.res.cell 2; have y3 := hS.res.cell 3; have y4 := hS.res.cell 4
        have z0 := hS.res.frozen 0; have z1 := hS.res.frozen 1; have z2 := hS.res.frozen 2; have z3 := hS.res.frozen 3; have z4 := hS.res.frozen 4
        simp only [rpBx, rp0, List.getElem?_cons_zero, List.getElem?_cons_succ] at q0 q1 q2 q3 q4 y0 y1 y2 y3 y4
        go_wp2
        obtain ⟨_, rfl, hA', o1, o2, o3, E'⟩ := hS.five
        exact bodyPost_ret (results_cell_row rfl _ _ (w.heap.size + 1) _ _ _ _ rfl hA' Tryz.underlying47 rfl (by kernel_rfl)) rfl ⟨_, _, _, rfl, o1, o2, o3, E'⟩
      · have d1 : decide ((8 : Int) < (more.length : Int)) = false := by simp; omega
        by_cases g2 : 64 < l.length
        · have d2 : decide ((64 : Int) < (l.length : Int)) = true := by simp; omega
          have hgt : G = true := by rw [HGB.out]; simp [g2]
          clear HGB g1 g2
          go_upto_region 10 with fail
          obtain ⟨W9, hW9⟩ : ∃ W9 : World, W9 = wr.setCell ⟨w.heap.size + 1 + 1, 3, none⟩ (.int .i64 3) := ⟨_, rfl⟩
          have hS9 := (hS.set 3 (.int .i64 3)).bxe (bx' := rpBx (.slice Au more.length cu) (.slice none 0 0) 0 3 (.slice none 0 0)) rfl
          rw [← hW9] at hS9 ⊢
          have hX := HG3.out hgt
          subst hX
          clear hS hW9 b1 b3 q3 z3 HG3 HT8 HGO HSM HWK
          have q3 := hS9.box.cell 3
          rw [(rpBx_get _ _ _ _ _).2.2.2.1] at q3
          go_upto_region 11 with fail
          have hS := hS9.of (s' := ⟨List.replicate more.length false, [], [], 0, []⟩) rfl rfl rfl rfl
          clear q3 hS9
          have q0 := hS.box.cell 0; have q1 := hS.box.cell 1; have q2 := hS.box.cell 2; have q3 := hS.box.cell 3; have q4 := hS.box.cell 4
          have y0 := hS.res.cell 0; have y1 := hS.res.cell 1; have y2 := hS.res.cell 2; have y3 := hS.res.cell 3; have y4 := hS.res.cell 4
          have z0 := hS.res.frozen 0; have z1 := hS.res.frozen 1; have z2 := hS.res.frozen 2; have z3 := hS.res.frozen 3; have z4 := hS.res.frozen 4
          simp only [rpBx, rp0, List.getElem?_cons_zero, List.getElem?_cons_succ] at q0 q1 q2 q3 q4 y0 y1 y2 y3 y4
          go_wp2
          obtain ⟨_, rfl, hA', o1, o2, o3, E'⟩ := hS.five
          exact bodyPost_ret (results_cell_row rfl _ _ (w.heap.size + 1) _ _ _ _ rfl hA' Tryz.underlying47 rfl (by kernel_rfl)) rfl ⟨_, _, _, rfl, o1, o2, o3, E'⟩
        · have d2 : decide ((64 : Int) < (l.length : Int)) = false := by simp; omega
          cases eb with
          | true =>
            have hgt : G = true := by rw [HGB.out]; simp
            rw [show rpE true = 3 from rfl] at hS q3
            have hX := HG3.out hgt
            subst hX
            clear HGB g1 g2 z3 HG3 HT8 HGO HSM HWK
            go_upto_region 11 with fail
            replace hS := hS.of (s' := ⟨List.replicate more.length false, [], [], 0, []⟩) rfl rfl rfl rfl
            clear q3 b1 b3
            have q0 := hS.box.cell 0; have q1 := hS.box.cell 1; have q2 := hS.box.cell 2; have q3 := hS.box.cell 3; have q4 := hS.box.cell 4
            have y0 := hS.res.cell 0; have y1 := hS.res.cell 1; have y2 := hS.res.cell 2; have y3 := hS.res.cell 3; have y4 := hS.res.cell 4
            have z0 := hS.res.frozen 0; have z1 := hS.res.frozen 1; have z2 := hS.res.frozen 2; have z3 := hS.res.frozen 3; have z4 := hS.res.frozen 4
            simp only [rpBx, rp0, List.getElem?_cons_zero, List.getElem?_cons_succ] at q0 q1 q2 q3 q4 y0 y1 y2 y3 y4
            go_wp2
            obtain ⟨_, rfl, hA', o1, o2, o3, E'⟩ := hS.five
            exact bodyPost_ret (results_cell_row rfl _ _ (w.heap.size + 1) _ _ _ _ rfl hA' Tryz.underlying47 rfl (by kernel_rfl)) rfl ⟨_, _, _, rfl, o1, o2, o3, E'⟩
          | false =>
            have hgf : G = false := by rw [HGB.out]; simp; omega
            rw [show rpE false = 0 from rfl] at hS q3
            obtain ⟨hm8, hl64, hmd, hmost⟩ := HSM.out hgf
            rw [List.length_map] at hm8
            have HT8b := Kp.mk (HT8.out hgf)
            have HGOb := Kp.mk (HGO.out hgf)
            have hX2 : X.1.work ≤ 2000 := Nat.le_trans HWK.out hmost
            have HMD := Kp.mk hmd
            have b0 := hS.bun.cell 0; have b2 := hS.bun.cell 2
            simp only [List.getElem?_cons_zero, List.getElem?_cons_succ] at b0 b2
            have hi10 : id.length ≤ 10000 := HTT.out.1
            have ht10 : tag.length ≤ 10000 := HTT.out.2.1
            have hTS := Kp.mk (show Short1 l from HTT.out.short)
            have cT := Kp.mk (show ∀ W, Ext w W → _ from fun W hW => rtags_any k id tag (.slice A l.length c) l W (by omega) (by omega) (rd_at HL.out hW) hTS.out (by omega))
            have cX := Kp.mk (show ∀ W, Ext w W → _ from fun W hW => rctexts_any k id tag (.slice A l.length c) l W (by omega) (by omega) (rd_at HL.out hW) hTS.out (by omega))
            unfold tokV at cT cX
            clear HGB g1 g2 z3 HG3 HT8 HGO HSM HWK hmost hgf hmd
            go_wp2_with fail
            refine (cT.out _ hS.ext).mono ?_
            rintro e w1 ⟨v1, rfl, own1, E1⟩
            obtain ⟨gt, ct, rfl⟩ := ownsRow_succ own1
            have S1 := hS.up E1
            have hsw := S1.ext.size
            have own1b := own_more own1 hS.ext.size
            obtain ⟨W2, hW2⟩ : ∃ W2 : World, W2 = w1.alloc (.cells #[.slice (some ⟨gt, 0, none⟩) (l.length + 1) ct] 23) := ⟨_, rfl⟩
            have E2 : Ext w1 W2 := by rw [hW2]; exact (Ext.rfl' w1).al _
            have S2 := (S1.tagTo (x := ⟨k, ⟨id, tag, A, c, l⟩, gt, ct⟩) (W' := W2) (vg' := .slice (some ⟨w1.heap.size, 0, none⟩) 1 1) (by rw [hW2]; exact World.ownsRow_lit w1 #[.slice (some ⟨gt, 0, none⟩) (l.length + 1) ct] 1 hsw (by decide) rfl) (ext_grown E2) (.inl rfl)).know (x := ⟨k, ⟨id, tag, A, c, l⟩, gt, ct⟩) (own_ext own1b (fun j _ hj => E2.block j hj)) (by intro h; cases h) (by intro h; cases h)
            have HW2 := Kp.mk hW2
            clear hS cT q3 b0 b1 b2 b3 own1 own1b E1 hW2 E2
            go_upto_region 13 with fail
            rw [← HW2.out]
            have hs1 := S1.ext.size
            clear HW2 S1
            have b0 := S2.bun.cell 0; have b1 := S2.bun.cell 1; have b2 := S2.bun.cell 2
            simp only [List.getElem?_cons_zero, List.getElem?_cons_succ] at b0 b1 b2
            have hsw2 := S2.ext.size
            obtain ⟨W3, hW3⟩ : ∃ W3 : World, W3 = W2.alloc (.cells #[.string (ofL id), .slice A l.length c, .string (ofL tag)] 33) := ⟨_, rfl⟩
            have E3 : Ext W2 W3 := by rw [hW3]; exact (Ext.rfl' W2).al _
            have S3 := S2.tokTo (x := ⟨id, tag, A, c, l⟩) (W' := W3) (vk' := .slice (some ⟨W2.heap.size, 0, none⟩) 1 1) (by rw [hW3]; exact World.ownsRow_lit W2 #[.string (ofL id), .slice A l.length c, .string (ofL tag)] 1 hsw2 (by decide) rfl) (ext_grown E3)
            have HW3 := Kp.mk hW3
            go_upto_region 14 with fail
            rw [← HW3.out]
            clear HW3 S2 b0 b1 b2 hW3 E3 hsw2
            have r0 := S3.tags.cellAt 0 (by simp)
            simp only [List.map_cons, List.nil_append, List.getElem?_cons_zero, tagRef] at r0
            have q2 := S3.box.cell 2; have z2 := S3.box.frozen 2
            rw [(rpBx_get _ _ _ _ _).2.2.1] at q2
            obtain ⟨W4, hW4⟩ : ∃ W4 : World, W4 = W3.setCell ⟨w.heap.size + 1 + 1, 2, none⟩ (.int .i64 ((l.length : Int) + 1)) := ⟨_, rfl⟩
            have S4 := ((S3.set 2 (.int .i64 ((l.length : Int) + 1))).bxe (bx' := rpBx (.slice Au more.length cu) (.slice none 0 0) (l.length + 1) 0 (.slice none 0 0)) rfl)
            rw [← hW4] at S4
            have HW4 := Kp.mk hW4
            go_upto_region 15 with fail
            rw [← HW4.out]
            clear HW4 S3 q2 z2 r0 hW4
            have b0 := S4.bun.cell 0; have b1 := S4.bun.cell 1; have b2 := S4.bun.cell 2
            simp only [List.getElem?_cons_zero, List.getElem?_cons_succ] at b0 b1 b2
            go_wp2_with fail
            refine (cX.out _ S4.ext).mono ?_
            rintro e w5 ⟨v5, rfl, own5, E5⟩
            have own5b := own_more own5 S4.ext.size
            have S5 := S4.summed (xs := textsL k id l) (vs' := v5) (W' := w5) (own_eq own5b rfl (by rw [length_textsL]; simp)) (ext_grown E5) (.inr fun r hr => by have := (own5.lt r hr).1; omega)
            obtain ⟨As, cs, hvs⟩ := own_slice own5
            subst hvs
            dsimp only at S5
            have q4 := S5.box.cell 4; have z4 := S5.box.frozen 4
            rw [(rpBx_get _ _ _ _ _).2.2.2.2] at q4
            have S6 := (S5.set 4 (.slice As (2 + 2 * l.length) cs)).bxe (bx' := rpBx (.slice Au more.length cu) (.slice none 0 0) (l.length + 1) 0 (.slice As (2 + 2 * l.length) cs)) rfl
            obtain ⟨W6, hW6⟩ : ∃ W6 : World, W6 = w5.setCell ⟨w.heap.size + 1 + 1, 4, none⟩ (.slice As (2 + 2 * l.length) cs) := ⟨_, rfl⟩
            rw [← hW6] at S6
            have HW6 := Kp.mk hW6
            clear own5 own5b S4 E5 b0 b1 b2 hW6
            go_upto_region 16 with fail
            rw [← HW6.out]
            clear HW6 S5 q4 z4 cX
            obtain ⟨Z, hZ⟩ : ∃ Z, lastL k id l = Z := ⟨_, rfl⟩
            have hTg := (S6.each ⟨k, ⟨id, tag, A, c, l⟩, gt, ct⟩ (by simp)).1
            have cL := Kp.mk (show ∀ W, Ext W6 W → Calls Tryz.prog 50 #[.slice (some ⟨gt, 0, none⟩) (l.length + 1) ct] W fun e w' => e = .returned (.string (ofL Z)) ∧ Ext W w' from fun W hW => rlast_any W (tagsL k id l) Z _ l.length (Rd.own (own_ext hTg (fun j _ hj => hW.block j hj)) (by decide)) (by rw [tagsL_get k id l l.length (Nat.le_refl _), List.take_length, hZ]) (by omega))
            rw [hZ] at HT8b HGOb
            have HC0 := Kp.mk (show ∀ W, Ext W6 W → W.cell? ⟨w1.heap.size, 0, none⟩ = some (.slice (some ⟨gt, 0, none⟩) (l.length + 1) ct) from fun W hW => by
              have r0 := (S6.up hW).tags.cellAt 0 (by simp)
              simp only [List.map_cons, List.nil_append, List.getElem?_cons_zero, tagRef] at r0
              exact r0)
            have hbun := S6.bun
            clear hTg hZ
            refine wp_region_localsE (fun i v W => match i with
              | 0 => v = .slice (some ⟨w1.heap.size, 0, none⟩) 1 1
              | 1 => v = .pointer (some ⟨w1.heap.size, 0, none⟩)
              | 2 => v = .slice (some ⟨gt, 0, none⟩) (l.length + 1) ct
              | 3 => v = .string (ofL Z)
              | 4 => v = .pointer (some ⟨w.heap.size, 0, none⟩)
              | 5 => v = .pointer (some ⟨w.heap.size, 2, none⟩)
              | 6 => v = .string (ofL tag)
              | 7 => v = .bool (!(Z == tag))
              | _ => True) (by kernel_rfl) (by kernel_rfl) (by kernel_rfl) (by kernel_rfl) ?_ ?_ ?_
            · intro i v W1 W2 e1 e2 h
              match i, h with
              | 0, h => exact h
              | 1, h => exact h
              | 2, h => exact h
              | 3, h => exact h
              | 4, h => exact h
              | 5, h => exact h
              | 6, h => exact h
              | 7, h => exact h
              | (i + 8), h => exact h
            · intro HF
              refine locals_cons (fun u W hW hd => ?_) ?_
              · refine opLeaves_ev HF rfl fun ev zc zg zf zt => ?_
                have t7 : ev (.tmp 7) = .slice (some ⟨w1.heap.size, 0, none⟩) 1 1 := zt 7
                clear zt
                exact ev_val (v := .slice (some ⟨w1.heap.size, 0, none⟩) 1 1) (by go_simp) rfl
              refine locals_cons (fun u W hW hd => ?_) ?_
              · refine opLeaves_ev HF rfl fun ev zc zg zf zt => ?_
                have t74 : ev (.tmp 74) = u 0 := zt 74
                clear zt
                have h0 : u 0 = _ := hd 0 (by kernel_rfl)
                exact ev_val (v := .pointer (some ⟨w1.heap.size, 0, none⟩)) (by go_simp) rfl
              refine locals_cons (fun u W hW hd => ?_) ?_
              · refine opLeaves_ev HF rfl fun ev zc zg zf zt => ?_
                have t75 : ev (.tmp 75) = u 1 := zt 75
                clear zt
                have h1 : u 1 = _ := hd 1 (by kernel_rfl)
                have r0 := HC0.out W hW
                exact ev_val (v := .slice (some ⟨gt, 0, none⟩) (l.length + 1) ct) (by go_simp) rfl
              refine locals_cons (fun u W hW hd => ?_) ?_
              · refine opLeaves_ev HF rfl fun ev zc zg zf zt => ?_
                have t76 : ev (.tmp 76) = u 2 := zt 76
                clear zt
                have h2 : u 2 = _ := hd 2 (by kernel_rfl)
                exact ev_call (f := 50) (args := #[.slice (some ⟨gt, 0, none⟩) (l.length + 1) ct]) (by go_simp) ((cL.out W hW).mono (by rintro e9 W9 ⟨rfl, h9⟩; exact ⟨_, rfl, h9, rfl⟩))
              refine locals_cons (fun u W hW hd => ?_) ?_
              · refine opLeaves_ev HF rfl fun ev zc zg zf zt => ?_
                have t3 : ev (.tmp 3) = .pointer (some ⟨w.heap.size, 0, none⟩) := zt 3
                clear zt
                exact ev_val (v := .pointer (some ⟨w.heap.size, 0, none⟩)) (by go_simp) rfl
              refine locals_cons (fun u W hW hd => ?_) ?_
              · refine opLeaves_ev HF rfl fun ev zc zg zf zt => ?_
                have t78 : ev (.tmp 78) = u 4 := zt 78
                clear zt
                have h4 : u 4 = _ := hd 4 (by kernel_rfl)
                exact ev_val (v := .pointer (some ⟨w.heap.size, 2, none⟩)) (by go_simp) rfl
              refine locals_cons (fun u W hW hd => ?_) ?_
              · refine opLeaves_ev HF rfl fun ev zc zg zf zt => ?_
                have t79 : ev (.tmp 79) = u 5 := zt 79
                clear zt
                have h5 : u 5 = _ := hd 5 (by kernel_rfl)
                have b2 := (hbun.ext hW hbun.lt).cell 2
                simp only [List.getElem?_cons_zero, List.getElem?_cons_succ] at b2
                exact ev_val (v := .string (ofL tag)) (by go_simp) rfl
              refine locals_cons (fun u W hW hd => ?_) locals_nil
              · refine opLeaves_ev HF rfl fun ev zc zg zf zt => ?_
                have t77 : ev (.tmp 77) = u 3 := zt 77
                have t80 : ev (.tmp 80) = u 6 := zt 80
                clear zt
                have h3 : u 3 = _ := hd 3 (by kernel_rfl)
                have h6 : u 6 = _ := hd 6 (by kernel_rfl)
                exact ev_val (v := .bool (!(Z == tag))) (by go_simp) rfl
            · intro u16 W16 hW16 hV
              have h7 : u16 7 = .bool (!(Z == tag)) := hV 7 (by decide)
              clear hV cL HC0 hbun
              have hS := S6.up hW16
              clear S6 hW16
              by_cases hbd : Z = tag
              · have t1 : (Z == tag) = true := by simp [hbd]
                have HGOc := Kp.mk (HGOb.out hbd)
                rw [t1] at h7
                clear hbd t1 HT8b HGOb
                obtain ⟨M, hM⟩ : ∃ M, more.map TokA.plain = M := ⟨_, rfl⟩
                have hMl : M.length = more.length := by rw [← hM, List.length_map]
                rw [hM] at HGOc
                obtain ⟨⟨Rs, Rb⟩, hR⟩ : ∃ R, goL tag M (more.length + 2) (begL k ⟨id, l, tag⟩ M) 0 = R := ⟨_, rfl⟩
                have hXR := HGOc.out Rs Rb hR
                have hRw : Rs.work ≤ 2000 := by rw [hXR] at hX2; exact hX2
                have HXR := Kp.mk hXR
                have HR := Kp.mk hR
                have HMM := Kp.mk hM
                have S10 : RpSt w W16 ⟨id, tag, A, c, l⟩ (.slice Am more.length cm) more (begL k ⟨id, l, tag⟩ M) ([(⟨k, ⟨id, tag, A, c, l⟩, gt, ct⟩ : PvA)].map PvA.t) [⟨k, ⟨id, tag, A, c, l⟩, gt, ct⟩] [⟨k, ⟨id, tag, A, c, l⟩, gt, ct⟩] (.slice Au more.length cu) (.slice none 0 0) (.slice As (2 + 2 * l.length) cs) (.slice (some ⟨W2.heap.size, 0, none⟩) 1 1) (.slice (some ⟨w1.heap.size, 0, none⟩) 1 1) (rpBx (.slice Au more.length cu) (.slice none 0 0) (l.length + 1) 0 (.slice As (2 + 2 * l.length) cs)) :=
                  hS.of (by show _ = List.replicate M.length false; rw [hMl]) rfl rfl rfl
                have hsu0 : (textsL k id l).length ≤ 200 := by rw [length_textsL]; omega
                clear hS hXR hX2 hR hM HGOc
                go_simp
                go_wp2_with fail
                go_loopw [9, 8, 7] (fun i ak ag wr => ∃ (j f : Nat) (s : PrL) (L : List PvA) (vt vs vk vg : Value), vk = ak ∧ vg = ag ∧ i = .int .i64 j ∧ s.texts.length ≤ 64 * j ∧ s.sum.length ≤ 200 + 200 * (64 * j) ∧ j ≤ L.length ∧ f + j = more.length + 2 ∧ RpSt w wr ⟨id, tag, A, c, l⟩ (.slice Am more.length cm) more s (L.map PvA.t) L L (.slice Au more.length cu) vt vs vk vg (rpBx (.slice Au more.length cu) vt s.work 0 vs) ∧ goL tag M f s j = (Rs, Rb) ∧ SizeOk M s) (fun i _ _ _ => more.length + 2 - (intOf i).toNat)
                case atStart => exact ⟨0, more.length + 2, _, _, _, _, _, _, rfl, rfl, rfl, Nat.le_refl _, hsu0, by simp, rfl, S10, HR.out, begL_ok k _ M⟩
                case round =>
                  clear S10 hsu0
                  obtain ⟨j, f, s, L, vt, vs, vk, vg, rfl, rfl, rfl, htx, hsu, hj, hf, hS, hgo0, hsz0⟩ := hrel
                  have hgo := Kp.mk hgo0; have hsz := Kp.mk hsz0
                  have hLe : L.length ≤ more.length + 1 := by
                    have h1 := hsz0.le
                    have h2 := congrArg List.length hS.eq
                    rw [List.length_map] at h2
                    omega
                  clear hgo0 hsz0
                  by_cases hlt : j < L.length
                  · obtain ⟨f', rfl⟩ : ∃ f', f = f' + 1 := ⟨f - 1, by omega⟩
                    obtain ⟨gk, ck, rfl⟩ : ∃ gk ck, vk = .slice (some ⟨gk, 0, none⟩) L.length ck := by
                      rcases hS.toks.2 with ⟨_, h0⟩ | ⟨gl, cap, cur, rfl, _⟩
                      · rw [List.length_map] at h0; omega
                      · exact ⟨gl, cap, by rw [List.length_map]⟩
                    obtain ⟨x, hx⟩ : ∃ x, L[j] = x := ⟨_, rfl⟩
                    have hxm : x ∈ L := by rw [← hx]; exact List.getElem_mem hlt
                    have hxt := hS.mem x hxm
                    have hsx : s.list[j]? = some (x.k, x.t.plain) := by rw [hS.eq, List.getElem?_map, List.getElem?_eq_getElem hlt, hx]; rfl
                    have hxl : RdLinks w w.heap.size (.slice x.t.A x.t.l.length x.t.c) x.t.l := by
                      rcases hxt with h | h
                      · rw [h]; exact HL.out
                      · exact HM.out.2 _ h
                    have hxo : OkT x.t := by
                      rcases hxt with h | h
                      · rw [h]; exact HTT.out
                      · exact HML.out _ h
                    have hin := Kp.mk (show restGo tag M f' j (linksL tag M s (rootL x.k x.t.id) x.t.l) = (Rs, Rb) by have h := hgo.out; rw [goL_at hsx] at h; exact h)
                    have HXL := Kp.mk hxl; have HXO := Kp.mk hxo; have HSX := Kp.mk hsx
                    have hx64 : x.t.l.length ≤ 64 := by
                      rcases hxt with h | h
                      · rw [h]; exact hl64
                      · exact HMD.out x.t.plain (List.mem_map_of_mem h)
                    obtain ⟨xn, hxn⟩ : ∃ xn, x.t.l.length = xn := ⟨_, rfl⟩
                    rw [hxn] at hx64
                    have HXN := Kp.mk hxn
                    clear hgo hx hxm hxt hsx hxl hxo hxn
                    go_wp2_with fail
                    go_loopw [10, 8, 7] (fun i ak ag wr => ∃ (q : Nat) (s : PrL) (L : List PvA) (vt vs vk vg : Value), vk = ak ∧ vg = ag ∧ i = .int .i64 q ∧ s.texts.length ≤ 64 * j + q ∧ s.sum.length ≤ 200 + 200 * (64 * j + q) ∧ q ≤ xn ∧ RpSt w wr ⟨id, tag, A, c, l⟩ (.slice Am more.length cm) more s (L.map PvA.t) L L (.slice Au more.length cu) vt vs vk vg (rpBx (.slice Au more.length cu) vt s.work 0 vs) ∧ restGo tag M f' j (linksL tag M s (foldT (rootL x.k x.t.id) (x.t.l.take q)) (x.t.l.drop q)) = (Rs, Rb) ∧ SizeOk M s ∧ s.list[j]? = some (x.k, x.t.plain)) (fun i _ _ _ => xn - (intOf i).toNat)
                    case atStart => exact ⟨0, s, L, vt, vs, _, _, rfl, rfl, rfl, by omega, by omega, by omega, hS, hin.out, hsz.out, HSX.out⟩
                    case round =>
                      clear hS hin hsz HSX hLe hlt htx hsu
                      obtain ⟨q, s, L, vt, vs, vk, vg, rfl, rfl, rfl, htx, hsu, hq, hS, hin0, hsz0, hsx0⟩ := hrel
                      have hin := Kp.mk hin0; have hsz := Kp.mk hsz0; have HSX := Kp.mk hsx0
                      have hLe : L.length ≤ more.length + 1 := by
                        have h1 := hsz0.le
                        have h2 := congrArg List.length hS.eq
                        rw [List.length_map] at h2
                        omega
                      have hlt : j < L.length := by
                        have h1 := (List.getElem?_eq_some_iff.1 hsx0).1
                        rw [hS.eq, List.length_map] at h1
                        exact h1
                      clear hin0 hsz0 hsx0
                      obtain ⟨gk, ck, rfl⟩ : ∃ gk ck, vk = .slice (some ⟨gk, 0, none⟩) L.length ck := by
                        rcases hS.toks.2 with ⟨_, h0⟩ | ⟨gl, cap, cur, rfl, _⟩
                        · rw [List.length_map] at h0; omega
                        · exact ⟨gl, cap, by rw [List.length_map]⟩
                      obtain ⟨gg, cg, rfl⟩ : ∃ gg cg, vg = .slice (some ⟨gg, 0, none⟩) L.length cg := by
                        rcases hS.tags.2 with ⟨_, h0⟩ | ⟨gl, cap, cur, rfl, _⟩
                        · omega
                        · exact ⟨gl, cap, rfl⟩
                      obtain ⟨x', hx'⟩ : ∃ x', L[j] = x' := ⟨_, rfl⟩
                      have hxm' : x' ∈ L := by rw [← hx']; exact List.getElem_mem hlt
                      have hpe : x'.plain = (x.k, x.t.plain) := by
                        have h := HSX.out
                        rw [hS.eq, List.getElem?_map, List.getElem?_eq_getElem hlt, hx'] at h
                        exact Option.some.inj h
                      have hk' : x'.k = x.k := congrArg Prod.fst hpe
                      have hi' : x'.t.id = x.t.id := congrArg (fun p : List UInt8 × TokL => p.2.id) hpe
                      have hl' : x'.t.l = x.t.l := congrArg (fun p : List UInt8 × TokL => p.2.links) hpe
                      have hxl' : RdLinks w w.heap.size (.slice x'.t.A xn x'.t.c) x.t.l := by
                        rw [← HXN.out, ← hl']
                        rcases hS.mem x' hxm' with h | h
                        · rw [h]; exact HL.out
                        · exact HM.out.2 _ h
                      have hTk := own_eq hS.toks rfl (show (L.map PvA.t).length = L.length from List.length_map _)
                      have r1 := hTk.cellAt (j * 3 + 1) (by omega)
                      clear hTk
                      rw [(toksCells_get (L.map PvA.t) j (by rw [List.length_map]; exact hlt)).2.1, List.getElem_map, hx', hl', HXN.out] at r1
                      have HXL2 := Kp.mk hxl'
                      clear hxl'
                      by_cases hqn : q < xn
                      · have hql : q < x.t.l.length := by rw [HXN.out]; exact hqn
                        obtain ⟨bx, ox, eA, hbx, hcl2⟩ := HXL2.out.link (by omega)
                        obtain ⟨⟨ya, yb⟩, hy⟩ : ∃ y, x.t.l[q] = y := ⟨_, rfl⟩
                        have r2 := hcl2 q hql
                        rw [hy] at r2
                        obtain ⟨r2, r3⟩ := r2
                        have hyo := HXO.out.2.2.1 (ya, yb) (by rw [← hy]; exact List.getElem_mem hql)
                        have r2 := ((bcell hS.ext).1 bx _ hbx).trans r2
                        have r3 := ((bcell hS.ext).1 bx _ hbx).trans r3
                        have hstep := Kp.mk (show restGo tag M f' j (if yb = [] then linksL tag M ⟨s.used, s.list, s.texts ++ [ya], s.work, s.sum⟩ (foldT (rootL x.k x.t.id) (x.t.l.take (q + 1))) (x.t.l.drop (q + 1)) else
                            if (thirdL tag M s (foldT (rootL x.k x.t.id) (x.t.l.take q)) (ya, yb)).2 = true then linksL tag M (thirdL tag M s (foldT (rootL x.k x.t.id) (x.t.l.take q)) (ya, yb)).1 (foldT (rootL x.k x.t.id) (x.t.l.take (q + 1))) (x.t.l.drop (q + 1)) else ((thirdL tag M s (foldT (rootL x.k x.t.id) (x.t.l.take q)) (ya, yb)).1, false)) = (Rs, Rb) from by
                          have h := hin.out
                          rw [links_step hql, hy] at h
                          exact h)
                        rw [eA] at r1
                        obtain ⟨W25, hW25, E25, D25⟩ := link_box wr (.string (ofL ya)) (.string (ofL yb))
                        have HW25 := Kp.mk hW25
                        have S25 := hS.up E25
                        clear hcl2 hy eA hin hW25 E25 HXL2
                        go_upto_region 26 with fail
                        rw [HW25.out]
                        have l0 := D25.cell 0; have l1 := D25.cell 1
                        simp only [List.getElem?_cons_zero, List.getElem?_cons_succ] at l0 l1
                        have hsw25 := S25.ext.size
                        have hresl : w.heap.size + 1 + 1 < wr.heap.size := hS.box.lt
                        clear HW25 hS r1 r2 r3 hbx
                        by_cases hyb : yb = []
                        · subst hyb
                          have hst2 := Kp.mk (show restGo tag M f' j (linksL tag M ⟨s.used, s.list, s.texts ++ [ya], s.work, s.sum⟩ (foldT (rootL x.k x.t.id) (x.t.l.take (q + 1))) (x.t.l.drop (q + 1))) = (Rs, Rb) by have h := hstep.out; rw [if_pos rfl] at h; exact h)
                          clear hstep hpe hk' hi' hl' hx' hxm' D25 hyo hql
                          obtain ⟨At, cat, rfl⟩ := own_slice S25.texts
                          have q1 := S25.box.cell 1
                          rw [(rpBx_get _ _ _ _ _).2.1] at q1
                          have S26 := S25.up ((Ext.rfl' W25).al (.cells #[.string (ofL ya)] 9))
                          have hown := S26.texts
                          clear S25
                          go_wp2_with (at_builtin; refine wpl_app_blk (ad := ⟨W25.heap.size, 0, none⟩) (c := 1) (news := [Str ya]) Tryz.elemStr rfl _ _ rfl hown 1 rfl rfl rfl (fun j u h => cells_lit W25 [Str ya] 9 (0, 0) j u h) (by intro u hu; simp at hu; rw [hu]; rfl) (by omega) (by omega) (by rw [World.size_alloc]; omega) ?_; intro v5 w5 own5 hg5 hn5; obtain ⟨A5, c5, hv5⟩ := own_slice own5; subst hv5; have S5 := S26.told (xs := [ya]) own5 hg5 hn5; clear own5 hg5 hn5 hown S26 q1 l0 l1; have q1 := S5.box.cell 1; have z1 := S5.box.frozen 1; rw [(rpBx_get _ _ _ _ _).2.1] at q1)
                          go_roundw
                          case rel => exact ⟨q + 1, ⟨s.used, s.list, s.texts ++ [ya], s.work, s.sum⟩, L, _, vs, _, _, rfl, rfl, by go_num, by dsimp only; rw [List.length_append, List.length_singleton]; omega, by dsimp only; omega, by omega, (S5.set 1 _).bxe rfl, hst2.out, ⟨hsz.out.1, hsz.out.2⟩, HSX.out⟩
                          case measure => simp [intOf]; omega
                        · have dyb : yb.isEmpty = false := isEmpty_ne hyb
                          go_upto_region 28 with fail
                          rename_i hK2
                          refine rpThird hn hm8 ht10 htx hsu hLe hlt hx64 hqn hql hMl hRw HM HML HMD HMM HXR HXN hsz HSX hx' hxm' hpe hk' hi' hl' hyo hstep D25 S25 hsw25 hresl hyb ?hN ?hR hK2
                          case hR => exact ⟨fun _ _ h => h⟩
                          refine ⟨?_⟩
                          clear dyb hstep hx' hxm' hpe hk' hi' hl' D25 S25 hyo hql l0 l1 hsz HSX
                          intro _ _ _ _ _ _ _ _ _ _ _ _ _ _ _ _ _ _ _ _ _ _ _ _ _ _ _ _ _ _ _ _ _ _ _ _ _ _ _ _ _ _ _ _ _ _ _ _ _ _ _ _ _ _ _ _ _ _ _ _ _ _ _ _ _ _ _ _ _ _ _ _ _ _ _ _ _ _ _ _ _ _ _ _ _ _ _ _ _ _ _ _ _ _ _ _ _ _ _ _ _ _ _ _ _ _ _ _ _ _ _ _ _ _ _ _ _ _ _ _ _ _ _ _ _ _ _ _ _ _ _ _ _ _ _ _ _ _ _ _ _ _ _ _ _ _ _ _ _ _ _ s' L' vs' vk' vg' w' h1 h2 h3 h4 h5 h6
                          have HS5 := Kp.mk h5; have HS4 := Kp.mk h4; have HS6 := Kp.mk h6; have HS3 := Kp.mk h3
                          clear h3 h4 h5 h6
                          go_wp2
                          go_roundw
                          case rel => exact ⟨q + 1, s', L', vt, _, _, _, rfl, rfl, by go_num, h1, h2, by omega, HS3.out, HS4.out, HS5.out, HS6.out⟩
                          case measure => simp [intOf]; omega
                      · have hq2 : q = xn := by omega
                        have hgo2 := Kp.mk (show goL tag M f' s (j + 1) = (Rs, Rb) by
                          have h := hin.out
                          rw [List.drop_eq_nil_of_le (by rw [HXN.out]; omega)] at h
                          exact h)
                        clear hin
                        go_wp2
                        go_roundw
                        case rel => exact ⟨j + 1, f', s, L, vt, vs, _, _, rfl, rfl, by go_num, by omega, by omega, by omega, by omega, hS, hgo2.out, hsz.out⟩
                        case measure => simp [intOf]; omega
                  · have hfin := hgo.out
                    rw [goL_end (by have h2 := congrArg List.length hS.eq; rw [List.length_map] at h2; omega)] at hfin
                    obtain rfl : Rb = true := (congrArg Prod.snd hfin).symm
                    have hs' : s = Rs := congrArg Prod.fst hfin
                    subst hs'
                    have hXf := HXR.out
                    have hUl : s.used.length = more.length := by have h1 := hsz.out.1; omega
                    have hX : X = (s, rpF s.used more.length) := by rw [hXf, rpF_all _ (by omega), Bool.true_and]
                    have HX := Kp.mk hX
                    obtain ⟨At, cat, rfl⟩ := own_slice hS.texts
                    obtain ⟨Asm, csm, rfl⟩ := own_slice hS.sum
                    obtain ⟨Ak, ck, rfl⟩ := own_slice hS.toks
                    rw [List.length_map] at hS
                    have S52 := hS.bxe (bx' := rpBx (.slice Au more.length cu) (.slice At s.texts.length cat) s.work (rpF s.used 0) (.slice Asm s.sum.length csm)) (by rw [rpF_zero])
                    clear hfin hgo hsz htx hsu hf HXR HR hXf hX hS
                    go_wp2_with fail
                    go_loopw [18] (fun i wv => ∃ m : Nat, i = .int .i64 m ∧ m ≤ more.length ∧ RpSt w wv ⟨id, tag, A, c, l⟩ (.slice Am more.length cm) more s (L.map PvA.t) L L (.slice Au more.length cu) (.slice At s.texts.length cat) (.slice Asm s.sum.length csm) (.slice Ak L.length ck) vg (rpBx (.slice Au more.length cu) (.slice At s.texts.length cat) s.work (rpF s.used m) (.slice Asm s.sum.length csm))) (fun i _ => more.length - (intOf i).toNat)
                    case atStart => exact ⟨0, rfl, Nat.zero_le _, S52⟩
                    case round =>
                      clear S52
                      obtain ⟨m, rfl, hm, hS⟩ := hrel
                      have q0 := hS.box.cell 0
                      rw [(rpBx_get _ _ _ _ _).1] at q0
                      by_cases hlt : m < more.length
                      · obtain ⟨gu, rfl⟩ : ∃ gu, Au = some ⟨gu, 0, none⟩ := by
                          rcases hS.used.2 with ⟨h, _⟩ | ⟨gu, cap, cur, h, _⟩
                          · injection h with h1 h2 h3
                            omega
                          · injection h with h1 h2 h3
                            exact ⟨gu, h1⟩
                        have hown := own_eq hS.used rfl (show s.used.length = more.length by omega)
                        have hul : m < s.used.length := by omega
                        obtain ⟨ub, hub⟩ : ∃ ub, s.used[m] = ub := ⟨_, rfl⟩
                        have hus : s.used[m]? = some ub := by rw [List.getElem?_eq_getElem hul, hub]
                        have uc := hown.cellAt m (by omega)
                        rw [bool_cell hul, hub] at uc
                        cases ub with
                        | true =>
                          have hb := Kp.mk (rpF_true hus)
                          clear hown hul hub hus
                          go_wp2
                          go_roundw
                          case rel => exact ⟨m + 1, by go_num, by omega, hS.bxe (by rw [hb.out])⟩
                          case measure => simp [intOf]; omega
                        | false =>
                          have hb := Kp.mk (rpF_false hus)
                          have q3 := hS.box.cell 3
                          have z3 := hS.box.frozen 3
                          rw [(rpBx_get _ _ _ _ _).2.2.2.1] at q3
                          clear hown hul hub hus
                          go_wp2
                          go_roundw
                          case rel => exact ⟨m + 1, by go_num, by omega, ((hS.set 3 (.int .i64 11)).bxe (bx' := rpBx (.slice (some ⟨gu, 0, none⟩) more.length cu) (.slice At s.texts.length cat) s.work 11 (.slice Asm s.sum.length csm)) rfl).bxe (by rw [hb.out])⟩
                          case measure => simp [intOf]; omega
                      · obtain rfl : m = more.length := by omega
                        obtain ⟨ee, hee⟩ : ∃ ee, rpF s.used more.length = ee := ⟨_, rfl⟩
                        have hX := HX.out
                        rw [hee] at hS hX
                        subst hX
                        clear hee HX q0
                        have q0 := hS.box.cell 0; have q1 := hS.box.cell 1; have q2 := hS.box.cell 2; have q3 := hS.box.cell 3; have q4 := hS.box.cell 4
                        have y0 := hS.res.cell 0; have y1 := hS.res.cell 1; have y2 := hS.res.cell 2; have y3 := hS.res.cell 3; have y4 := hS.res.cell 4
                        have z0 := hS.res.frozen 0; have z1 := hS.res.frozen 1; have z2 := hS.res.frozen 2; have z3 := hS.res.frozen 3; have z4 := hS.res.frozen 4
                        simp only [rpBx, rp0, List.getElem?_cons_zero, List.getElem?_cons_succ] at q0 q1 q2 q3 q4 y0 y1 y2 y3 y4
                        go_wp2
                        obtain ⟨_, rfl, hA', o1, o2, o3, E'⟩ := hS.five
                        exact bodyPost_ret (results_cell_row rfl _ _ (w.heap.size + 1) _ _ _ _ rfl hA' Tryz.underlying47 rfl (by kernel_rfl)) rfl ⟨_, _, _, rfl, o1, o2, o3, E'⟩
              · have t1 : (Z == tag) = false := by simp [hbd]
                have hX := HT8b.out hbd
                subst hX
                rw [t1] at h7
                have q3 := hS.box.cell 3
                have z3 := hS.box.frozen 3
                rw [(rpBx_get _ _ _ _ _).2.2.2.1] at q3
                obtain ⟨W17, hW17⟩ : ∃ W17 : World, W17 = W16.setCell ⟨w.heap.size + 1 + 1, 3, none⟩ (.int .i64 8) := ⟨_, rfl⟩
                have hS9 := (hS.set 3 (.int .i64 8)).bxe (bx' := rpBx (.slice Au more.length cu) (.slice none 0 0) (l.length + 1) 8 (.slice As (2 + 2 * l.length) cs)) rfl
                rw [← hW17] at hS9
                have HW17 := Kp.mk hW17
                clear hS hbd t1 hW17 hX2 HT8b HGOb
                go_simp
                go_upto_region 18 with fail
                rw [← HW17.out]
                have hS := hS9.of (s' := ⟨List.replicate more.length false, [⟨k, ⟨id, l, tag⟩⟩], [], l.length + 1, textsL k id l⟩) rfl rfl rfl rfl
                clear hS9 q3 z3 h7 HW17
                have q0 := hS.box.cell 0; have q1 := hS.box.cell 1; have q2 := hS.box.cell 2; have q3 := hS.box.cell 3; have q4 := hS.box.cell 4
                have y0 := hS.res.cell 0; have y1 := hS.res.cell 1; have y2 := hS.res.cell 2; have y3 := hS.res.cell 3; have y4 := hS.res.cell 4
                have z0 := hS.res.frozen 0; have z1 := hS.res.frozen 1; have z2 := hS.res.frozen 2; have z3 := hS.res.frozen 3; have z4 := hS.res.frozen 4
                simp only [rpBx, rp0, List.getElem?_cons_zero, List.getElem?_cons_succ] at q0 q1 q2 q3 q4 y0 y1 y2 y3 y4
                go_wp2
                obtain ⟨_, rfl, hA', o1, o2, o3, E'⟩ := hS.five
                exact bodyPost_ret (results_cell_row rfl _ _ (w.heap.size + 1) _ _ _ _ rfl hA' Tryz.underlying47 rfl (by kernel_rfl)) rfl ⟨_, _, _, rfl, o1, o2, o3, E'⟩
end Go.Proofs.YtejhiekikblbiaaGreatDoor
