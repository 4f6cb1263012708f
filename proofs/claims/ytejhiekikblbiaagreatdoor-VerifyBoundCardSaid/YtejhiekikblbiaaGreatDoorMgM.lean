/-
  Package verify: is a bundle too much; a third party's link is proved. Condition: the package's table holds the constants. · Package verify: a proof is gone through. Condition: the package's table holds the constants. · Package verify: Verify; chapter 37's examples hold. Condition: the package's table holds the constants.
-/
import Derived.Test.YtejhiekikblbiaaGreatDoorVe3
import Derived.WalkMore
import Derived.Outline
import Derived.Test.YtejhiekikblbiaaGreatDoorMgJ
namespace Go.Proofs.YtejhiekikblbiaaGreatDoor
open Go.RowKit

theorem bun_box (w : World) (a b c d : Value) : ∃ V, w.alloc (.cells #[a, b, c, d] 41) = V ∧ Ext w V ∧ Arr V w.heap.size 41 [a, b, c, d] := ⟨_, rfl, (Ext.rfl' w).al _, Arr.new w _ [a, b, c, d]⟩
set_option maxRecDepth 100000 in
set_option maxHeartbeats 4000000 in
theorem vgreat_any (id tag : List UInt8) (A : Option Addr) (c : Nat) (l : List LinkL) (mv : Value) (more : List TokA) (w : World) (hm : RdToks w w.heap.size mv more) (hn : more.length ≤ 10000) (hl : l.length ≤ 100000) (hml : ∀ d ∈ more, d.l.length ≤ 100000) :
    Calls Tryz.prog 85 #[bunV id (.slice A l.length c) tag mv] w fun e w' => e = .returned (.bool (greatB ⟨id, l, tag⟩ (more.map TokA.plain))) ∧ Ext w w' := by
  obtain ⟨Am, cm, rfl, hmm, _⟩ := hm.cells
  obtain ⟨W0, hW0, E0, B1⟩ := bun_box w (.string (ofL id)) (.slice A l.length c) (.string (ofL tag)) (.slice Am more.length cm)
  have HW := Kp.mk hW0
  have HM := Kp.mk hm
  have HML := Kp.mk hml
  have q1 := B1.cell 1; have q3 := B1.cell 3
  simp only [List.getElem?_cons_zero, List.getElem?_cons_succ] at q1 q3
  have hG : greatB ⟨id, l, tag⟩ (more.map TokA.plain) = (decide (8 < more.length) || decide (64 < l.length) || more.any fun d => decide (64 < d.l.length)) := by
    unfold greatB
    rw [List.length_map, List.any_map]; rfl
  rw [hG]
  clear hm hW0 hml hG
  unfold bunV
  by_cases g1 : 8 < more.length
  · have d1 : decide ((8 : Int) < (more.length : Int)) = true := by simp; omega
    have e1 : decide (8 < more.length) = true := by simp; omega
    rw [e1]
    go_enter Tryz.func85, Tryz.ntmps85
    go_upto_region 1 with fail
    rw [HW.out]
    go_wp2
    go_ret
    exact ⟨rfl, E0⟩
  · have d1 : decide ((8 : Int) < (more.length : Int)) = false := by simp; omega
    have e1 : decide (8 < more.length) = false := by simp; omega
    rw [e1]
    by_cases g2 : 64 < l.length
    · have d2 : decide ((64 : Int) < (l.length : Int)) = true := by simp; omega
      have e2 : decide (64 < l.length) = true := by simp; omega
      rw [e2]
      go_enter Tryz.func85, Tryz.ntmps85
      go_upto_region 1 with fail
      rw [HW.out]
      go_wp2
      go_ret
      exact ⟨rfl, E0⟩
    · have d2 : decide ((64 : Int) < (l.length : Int)) = false := by simp; omega
      have e2 : decide (64 < l.length) = false := by simp; omega
      rw [e2]
      simp only [Bool.false_or]
      obtain ⟨R, hR⟩ : ∃ R, (more.any fun d => decide (64 < d.l.length)) = R := ⟨_, rfl⟩
      have HF := Kp.mk (show (∀ j (h : j < more.length), more[j].l.length ≤ 64) → R = false from fun h => by
        rw [← hR, List.any_eq_false]
        intro d hd
        obtain ⟨j, hj, rfl⟩ := List.mem_iff_getElem.1 hd
        have := h j hj
        simp; omega)
      have HG := Kp.mk (show ∀ j (h : j < more.length), 64 < more[j].l.length → R = true from fun j hj h => by
        rw [← hR, List.any_eq_true]
        exact ⟨more[j], List.getElem_mem hj, by simpa using h⟩)
      rw [hR]
      clear hR
      go_enter Tryz.func85, Tryz.ntmps85
      go_upto_region 1 with fail
      rw [HW.out]
      go_wp2_with fail
      clear q1 q3
      go_loopw [19] (fun i wr => ∃ k : Nat, k ≤ more.length ∧ i = .int .i64 k ∧ Ext w wr ∧ ∀ j (h : j < more.length), j < k → more[j].l.length ≤ 64) (fun i _ => more.length - (intOf i).toNat)
      case atStart => exact ⟨0, by omega, rfl, E0, fun j _ hj => absurd hj (by omega)⟩
      case round =>
        obtain ⟨k, hk, rfl, hE, hno0⟩ := hrel
        have hno := Kp.mk hno0
        clear hno0
        by_cases hlt : k < more.length
        · obtain ⟨b, off, rfl, _, hcell⟩ := HM.out.tok k hlt
          have HY := Kp.mk (HG.out k hlt)
          have hdl := HML.out _ (List.getElem_mem hlt)
          obtain ⟨d, hd⟩ : ∃ d, more[k] = d := ⟨_, rfl⟩
          have HD := Kp.mk hd
          rw [hd] at hcell HY hdl
          obtain ⟨r0, r1, r2⟩ := hcell wr hE
          have E6 : Ext w (wr.alloc (.cells #[.string (ofL d.id), .slice d.A d.l.length d.c, .string (ofL d.tag)] 33)) := hE.al _
          clear hcell hd hE
          by_cases g3 : 64 < d.l.length
          · have d3 : decide ((64 : Int) < (d.l.length : Int)) = true := by simp; omega
            have hR := HY.out g3
            go_wp2
            go_ret
            exact ⟨rfl, E6⟩
          · have d3 : decide ((64 : Int) < (d.l.length : Int)) = false := by simp; omega
            go_wp2
            go_roundw
            case rel =>
              refine ⟨k + 1, by omega, by go_num, E6, fun j h hj => ?_⟩
              rcases Nat.lt_or_ge j k with h9 | h9
              · exact hno.out j h h9
              · obtain rfl : j = k := by omega
                rw [HD.out]; omega
            case measure => simp [intOf]; omega
        · have hR := HF.out (fun j h => hno.out j h (by omega))
          go_wp2
          go_ret
          exact ⟨by subst hR; rfl, hE⟩

theorem link_box (w : World) (a b : Value) : ∃ V, w.alloc (.cells #[a, b] 72) = V ∧ Ext w V ∧ Arr V w.heap.size 72 [a, b] := ⟨_, rfl, (Ext.rfl' w).al _, Arr.new w _ [a, b]⟩
def ThirdPost (w : World) (g : Nat) (t : TokA) (mv : Value) (more : List TokA) (vu vt : Value) (r : PrL × Bool) (e : Ending) (V1 : World) : Prop := ∃ L' vl', e = .returned (.bool r.2) ∧ PrSt w V1 g t mv more r.1 L' vu vl' vt
theorem third_cases (T : List UInt8) (more : List TokL) (s : PrL) (tag : List UInt8) (l : LinkL) :
    ((openR (sealL tag) l.2).2 ≠ 0 → ∃ m, thirdL T more s tag l = (⟨s.used, s.list, s.texts, s.work + 1, m⟩, false)) ∧
    ((openR (sealL tag) l.2).2 = 0 → findL l.1 more s.used = none → ∃ m, thirdL T more s tag l = (⟨s.used, s.list, s.texts, s.work + 1, m⟩, false)) ∧
    ((openR (sealL tag) l.2).2 = 0 → ∀ i d, findL l.1 more s.used = some i → more[i]? = some d → bindL T (lastL (openR (sealL tag) l.2).1 d.id d.links) = d.tag → ∃ m, thirdL T more s tag l = (⟨s.used.set i true, s.list ++ [((openR (sealL tag) l.2).1, d)], s.texts, s.work + 1 + (d.links.length + 1) + 1, m⟩, true)) ∧
    ((openR (sealL tag) l.2).2 = 0 → ∀ i d, findL l.1 more s.used = some i → more[i]? = some d → bindL T (lastL (openR (sealL tag) l.2).1 d.id d.links) ≠ d.tag → ∃ m, thirdL T more s tag l = (⟨s.used.set i true, s.list, s.texts, s.work + 1 + (d.links.length + 1) + 1, m⟩, false)) := by
  refine ⟨fun h => ⟨_, thirdL_shut h⟩, fun h1 h2 => ⟨_, thirdL_none h1 h2⟩, fun h1 i d h2 h3 h4 => ?_, fun h1 i d h2 h3 h4 => ?_⟩
  · rw [thirdL_use h1 h2 h3]; unfold useL; rw [if_pos h4, decide_eq_true h4]; exact ⟨_, rfl⟩
  · rw [thirdL_use h1 h2 h3]; unfold useL; rw [if_neg h4, decide_eq_false h4]; exact ⟨_, rfl⟩
set_option maxRecDepth 100000 in
set_option maxHeartbeats 8000000 in
theorem vthird_any {w V0 : World} {g : Nat} {t : TokA} {A : Option Addr} {c : Nat} {more : List TokA} {s : PrL} {L : List PvA} {vu vl vt : Value} (hS : PrSt w V0 g t (.slice A more.length c) more s L vu vl vt) (hT : Tab w) (hm : RdToks w w.heap.size (.slice A more.length c) more) (hu : s.used.length = more.length) (hn : more.length ≤ 10000)
    (hml : ∀ d ∈ more, d.id.length ≤ 100000 ∧ d.tag.length ≤ 100000 ∧ Short1 d.l ∧ d.l.length ≤ 10000) (htt : t.tag.length ≤ 100000) (hwk : s.work ≤ 100000) (hL : L.length ≤ 10000) (tag : List UInt8) (l : LinkL) (htg : tag.length ≤ 100000) (hls : l.2.length ≤ 100000) :
    Calls Tryz.prog 88 #[.pointer (some ⟨g, 0, none⟩), .string (ofL tag), .agg #[.string (ofL l.1), .string (ofL l.2)]] V0 (ThirdPost w g t (.slice A more.length c) more vu vt (thirdL t.tag (more.map TokA.plain) s tag l)) := by
  obtain ⟨lt, lsl⟩ := l
  dsimp only at hls
  have H4 := third_cases t.tag (more.map TokA.plain) s tag (lt, lsl)
  obtain ⟨K, hK⟩ : ∃ K, sealL tag = K := ⟨_, rfl⟩
  have lK : K.length = 32 := by rw [← hK]; exact length_partsL _ _
  have cK := Kp.mk (show ∀ W, Tab W → Calls Tryz.prog 58 #[.string (ofL tag)] W fun e w' => e = .returned (.string (ofL K)) ∧ Ext W w' from fun W h => by rw [← hK]; exact seal_any tag W h htg)
  have cO := Kp.mk (show ∀ W, Tab W → _ from fun W h => open_any K lsl W h (by omega))
  have hTb := openR_bound K lsl
  rw [hK] at H4
  dsimp only at H4
  obtain ⟨O, hO⟩ : ∃ O, openR K lsl = O := ⟨_, rfl⟩
  rw [hO] at cO hTb H4
  obtain ⟨T, x⟩ := O
  unfold resV at cO
  dsimp only at cO hTb H4
  obtain ⟨F, hF⟩ : ∃ F, findL lt (more.map TokA.plain) s.used = F := ⟨_, rfl⟩
  rw [hF] at H4
  obtain ⟨r, hr⟩ : ∃ r, thirdL t.tag (more.map TokA.plain) s tag (lt, lsl) = r := ⟨_, rfl⟩
  rw [hr] at H4 ⊢
  have H4 := Kp.mk H4
  have HU := Kp.mk hu; have HM := Kp.mk hm; have HML := Kp.mk hml; have HLs := Kp.mk hL
  have hHF := Kp.mk hF
  obtain ⟨n1, hn1⟩ : ∃ n1, s.work + 1 = n1 := ⟨_, rfl⟩
  have W1k := Kp.mk (show IntKind.i64.wrap ((s.work : Int) + 1) = (n1 : Int) by rw [IntWalk.i64_in _ (by omega)]; omega)
  have hn1b : n1 ≤ 100001 := by omega
  have HN1 := Kp.mk hn1
  have hg0 := hS.box.lt
  obtain ⟨W0, hW0, E0, B1⟩ := link_box V0 (.string (ofL lt)) (.string (ofL lsl))
  have HW := Kp.mk hW0
  have S0 := hS.up E0
  have q7 := S0.box.cell 7
  rw [(prCells_get _ _ _ _ _ _).2.2.2.2.2.2.2] at q7
  have z7 := S0.box.frozen 7
  have S1 := S0.work n1
  have D1 : Arr (W0.setCell ⟨g, 7, none⟩ (.int .i64 n1)) V0.heap.size 72 [.string (ofL lt), .string (ofL lsl)] := B1.other _ (by omega)
  obtain ⟨W1, hW1⟩ : ∃ W1 : World, W1 = W0.setCell ⟨g, 7, none⟩ (.int .i64 n1) := ⟨_, rfl⟩
  rw [← hW1] at S1 D1
  have HW1 := Kp.mk hW1
  have w1 := W1k.out
  clear hr hF hO hK lK hW0 hW1 hS S0 E0 hm hu hml hL hn1
  go_enter Tryz.func88, Tryz.ntmps88
  go_upto_region 1 with fail
  rw [HW.out]
  go_upto_region 2 with fail
  rw [← HW1.out]
  clear q7 z7 w1 HW HW1 B1 W1k
  have F1 := S1.ext
  refine wp_region_stage [] (fun bs W => Ext W1 W) (fun bs i v W => match i with
    | 0 => v = .string (ofL tag)
    | 1 => v = .string (ofL K)
    | 2 => v = .pointer (some ⟨V0.heap.size, 1, none⟩)
    | 3 => v = .string (ofL lsl)
    | 4 => v = .tuple #[.string (ofL T), .int .i64 x]
    | 5 => v = .tuple #[.string (ofL T), .int .i64 x]
    | 6 => v = .string (ofL T)
    | 7 => v = .int .i64 x
    | 8 => v = .string (ofL T)
    | 9 => v = .int .i64 x
    | _ => True) (cs_inj (by decide)) (by decide) (by kernel_rfl) (by kernel_rfl) (by kernel_rfl) ((Ext.rfl' W1).dr) (fun bs W1 W2 h e => h.tr e) ?_ ?_ ?_
  · intro bs i v W1 W2 e1 e2 h
    match i, h with
    | 0, h => exact h
    | 1, h => exact h
    | 2, h => exact h
    | 3, h => exact h
    | 4, h => exact h
    | 5, h => exact h
    | 6, h => exact h
    | 7, h => exact h
    | 8, h => exact h
    | 9, h => exact h
    | (i + 10), h => exact h
  · refine localsQ_ord (by decide) (fun bs u W hbs hW hno hd => leaves_val rfl (v := .string (ofL tag)) (by go_simp) rfl) ?_
    refine localsQ_ord (by decide) (fun bs u W hbs hW hno hd => ?_) ?_
    · have h0 : u 0 = _ := hd 0 (by kernel_rfl)
      exact leaves_call rfl (f := 58) (args := #[.string (ofL tag)]) (by go_simp) ((cK.out W (hT.ext (F1.tr hW))).mono (by rintro e9 W9 ⟨rfl, h9⟩; exact ⟨_, rfl, h9, rfl⟩))
    refine localsQ_ord (by decide) (fun bs u W hbs hW hno hd => leaves_val rfl (v := .pointer (some ⟨V0.heap.size, 1, none⟩)) (by go_simp) rfl) ?_
    refine localsQ_ord (by decide) (fun bs u W hbs hW hno hd => ?_) ?_
    · have h2 : u 2 = _ := hd 2 (by kernel_rfl)
      have q1 := (D1.ext hW D1.lt).cell 1
      simp only [List.getElem?_cons_zero, List.getElem?_cons_succ] at q1
      exact leaves_val rfl (v := .string (ofL lsl)) (by go_simp) rfl
    refine localsQ_ord (by decide) (fun bs u W hbs hW hno hd => ?_) ?_
    · have h1 : u 1 = _ := hd 1 (by kernel_rfl)
      have h3 : u 3 = _ := hd 3 (by kernel_rfl)
      exact leaves_call rfl (f := 39) (args := #[.string (ofL K), .string (ofL lsl)]) (by go_simp) ((cO.out W (hT.ext (F1.tr hW))).mono (by rintro e9 W9 ⟨rfl, h9⟩; exact ⟨_, rfl, h9, rfl⟩))
    refine localsQ_ord (by decide) (fun bs u W hbs hW hno hd => ?_) ?_
    · have h4 : u 4 = _ := hd 4 (by kernel_rfl)
      exact leaves_val rfl (v := .tuple #[.string (ofL T), .int .i64 x]) (by go_simp) rfl
    refine localsQ_ord (by decide) (fun bs u W hbs hW hno hd => ?_) ?_
    · have h5 : u 5 = _ := hd 5 (by kernel_rfl)
      exact leaves_val rfl (v := .string (ofL T)) (by go_simp) rfl
    refine localsQ_ord (by decide) (fun bs u W hbs hW hno hd => ?_) ?_
    · have h5 : u 5 = _ := hd 5 (by kernel_rfl)
      exact leaves_val rfl (v := .int .i64 x) (by go_simp) rfl
    refine localsQ_ord (by decide) (fun bs u W hbs hW hno hd => ?_) ?_
    · have h6 : u 6 = _ := hd 6 (by kernel_rfl)
      exact leaves_val rfl (v := .string (ofL T)) (by go_simp) rfl
    refine localsQ_ord (by decide) (fun bs u W hbs hW hno hd => ?_) localsQ_nil
    · have h7 : u 7 = _ := hd 7 (by kernel_rfl)
      exact leaves_val rfl (v := .int .i64 x) (by go_simp) rfl
  · intro u W hW hV
    have h8 : u 8 = _ := hV 8 (by decide)
    have h9 : u 9 = _ := hV 9 (by decide)
    clear hV
    have S2 := S1.up hW
    have D2 := D1.ext hW D1.lt
    have hz2 : V0.heap.size < W.heap.size := D2.lt
    clear S1 D1 F1 cK cO hW
    go_simp
    by_cases hx : x = 0
    · subst hx
      have q0 := D2.cell 0
      simp only [List.getElem?_cons_zero] at q0
      have cF := Kp.mk (vfind_any S2 HM.out HU.out hn lt)
      dsimp only at cF
      rw [hHF.out] at cF
      clear D2
      go_wp2_with fail
      refine cF.out.mono ?_
      cases F with
      | none =>
        rintro e w2 ⟨rfl, S3⟩
        obtain ⟨m, rfl⟩ := H4.out.2.1 trivial rfl
        clear S2 cF q0
        go_wp2
        go_ret
        exact ⟨L, vl, rfl, S3.of rfl rfl rfl HN1.out.symm⟩
      | some i =>
        rintro e w2 ⟨rfl, S3⟩
        obtain ⟨hi, hui, d0, hd0, _⟩ := findL_some hHF.out
        rw [List.length_map] at hi
        obtain ⟨d, hd⟩ : ∃ d, more[i] = d := ⟨_, rfl⟩
        obtain rfl : d0 = d.plain := by
          rw [List.getElem?_map, List.getElem?_eq_getElem hi, hd] at hd0
          exact (Option.some.inj hd0).symm
        have hdm : d ∈ more := by rw [← hd]; exact List.getElem_mem hi
        obtain ⟨hdi, hdt, hds, hdn⟩ := HML.out d hdm
        have HD0 := Kp.mk hd0
        obtain ⟨b, off, rfl, _, hcell⟩ := HM.out.tok i hi
        rw [hd] at hcell
        obtain ⟨r0, r1, r2⟩ := hcell w2 S3.ext
        have q3 := S3.box.cell 3
        rw [(prCells_get _ _ _ _ _ _).2.2.2.1] at q3
        have dneg : decide ((i : Int) < 0) = false := by simp
        have cT := Kp.mk (vtags_any S3 hT T d (by omega) hdi (HM.out.2 d hdm) hds hdn (by dsimp only; omega))
        unfold tokAV tokV at cT
        dsimp only at cT
        have H4b := Kp.mk (show _ ∧ _ from ⟨fun h => H4.out.2.2.1 trivial i d.plain rfl HD0.out h, fun h => H4.out.2.2.2 trivial i d.plain rfl HD0.out h⟩)
        clear hcell hd hd0 hdi S2 cF q0 hui
        go_wp2_with fail
        refine cT.out.mono ?_
        rintro e w3 ⟨gt, ct, rfl, S4, htag, hvt, _⟩
        dsimp only at S4
        obtain ⟨s4, hs4⟩ : ∃ s4 : PrL, (⟨s.used.set i true, s.list, s.texts, n1 + (d.l.length + 1), s.sum⟩ : PrL) = s4 := ⟨_, rfl⟩
        rw [hs4] at S4
        obtain ⟨n4, hn4⟩ : ∃ n4, s4.work = n4 := ⟨_, rfl⟩
        obtain ⟨n5, hn5⟩ : ∃ n5, n4 + 1 = n5 := ⟨_, rfl⟩
        have hn4b : n4 ≤ 200000 := by rw [← hn4, ← hs4]; dsimp only; omega
        have W5k := Kp.mk (show IntKind.i64.wrap ((n4 : Int) + 1) = (n5 : Int) by rw [IntWalk.i64_in _ (by omega)]; omega)
        have HX := Kp.mk (show ∀ r, vl.ownBlock = some r → r < w3.heap.size from fun r e => (S4.list.lt r e).2)
        clear r0 r1 r2 q3 S3 cT
        go_upto_region 9 with fail
        obtain ⟨W4, hW4⟩ : ∃ W4 : World, W4 = w3.alloc (.cells #[.string (ofL d.id), .slice d.A d.l.length d.c, .string (ofL d.tag), .slice (some ⟨gt, 0, none⟩) (d.l.length + 1) ct] 121) := ⟨_, rfl⟩
        rw [← hW4]
        have E4 : Ext w3 W4 := by rw [hW4]; exact (Ext.rfl' w3).al _
        have B4 : Arr W4 w3.heap.size 121 [.string (ofL d.id), .slice d.A d.l.length d.c, .string (ofL d.tag), .slice (some ⟨gt, 0, none⟩) (d.l.length + 1) ct] := by rw [hW4]; exact Arr.new w3 _ _
        have S5 := S4.up E4
        have tag5 : TagsAt w W4 ⟨T, d, gt, ct⟩ := own_ext htag (fun j _ hj => E4.block j hj)
        have q7 := S5.box.cell 7
        rw [(prCells_get _ _ _ _ _ _).2.2.2.2.2.2.2, hn4] at q7
        have z7 := S5.box.frozen 7
        have w5 := W5k.out
        have S6 := S5.work n5
        have hgX : g < w3.heap.size := S4.box.lt
        have B6 : Arr (W4.setCell ⟨g, 7, none⟩ (.int .i64 n5)) w3.heap.size 121 [.string (ofL d.id), .slice d.A d.l.length d.c, .string (ofL d.tag), .slice (some ⟨gt, 0, none⟩) (d.l.length + 1) ct] := B4.other _ (by omega)
        have tag6 : TagsAt w (W4.setCell ⟨g, 7, none⟩ (.int .i64 n5)) ⟨T, d, gt, ct⟩ := own_set_other tag5 S5.box (by decide) _
        obtain ⟨W6, hW6⟩ : ∃ W6 : World, W6 = W4.setCell ⟨g, 7, none⟩ (.int .i64 n5) := ⟨_, rfl⟩
        rw [← hW6] at S6 B6 tag6
        have HW6 := Kp.mk hW6
        clear hW4 E4 B4 S5 tag5 S4 htag hW6
        go_upto_region 10 with fail
        rw [← HW6.out]
        obtain ⟨Z, hZ⟩ : ∃ Z, lastL T d.id d.l = Z := ⟨_, rfl⟩
        obtain ⟨Bd, hBd⟩ : ∃ Bd, bindL t.tag Z = Bd := ⟨_, rfl⟩
        have lZ : Z.length = 32 := by rw [← hZ]; exact length_lastL _ _ _
        have lB : Bd.length = 32 := by rw [← hBd]; exact length_partsL _ _
        have cL := Kp.mk (show ∀ W, Ext W6 W → Calls Tryz.prog 87 #[.agg #[.string (ofL d.id), .slice d.A d.l.length d.c, .string (ofL d.tag), .slice (some ⟨gt, 0, none⟩) (d.l.length + 1) ct]] W fun e w' => e = .returned (.string (ofL Z)) ∧ Ext W w' from fun W h => by
          have q := vlast_any w W ⟨T, d, gt, ct⟩ (own_ext tag6 (fun j _ hj => h.block j hj)) (by dsimp only; omega) (.string (ofL d.id)) (.string (ofL d.tag)) (.slice d.A d.l.length d.c)
          dsimp only at q
          rw [hZ] at q
          exact q)
        have cB := Kp.mk (show ∀ W, Tab W → Calls Tryz.prog 61 #[.string (ofL t.tag), .string (ofL Z)] W fun e w' => e = .returned (.string (ofL Bd)) ∧ Ext W w' from fun W h => by rw [← hBd]; exact bind_any t.tag Z W h htt (by omega))
        have cSm := Kp.mk (show ∀ W, Calls Tryz.prog 82 #[.string (ofL Bd), .string (ofL d.tag)] W fun e w' => e = .returned (.bool (Bd == d.tag)) ∧ Ext W w' from fun W => by
          have q := same_any Bd d.tag W (by omega) (by omega)
          rw [decide_eq_true lB, Bool.true_and] at q
          exact q)
        have F6 := S6.ext
        have H5 := Kp.mk (show (Bd = d.tag → ∃ m, r = (⟨s.used.set i true, s.list ++ [(T, d.plain)], s.texts, s.work + 1 + (d.l.length + 1) + 1, m⟩, true)) ∧ (Bd ≠ d.tag → ∃ m, r = (⟨s.used.set i true, s.list, s.texts, s.work + 1 + (d.l.length + 1) + 1, m⟩, false)) from by
          have h := H4b.out
          have e1 : bindL t.tag (lastL T d.plain.id d.plain.links) = Bd := by rw [← hBd, ← hZ]; rfl
          rw [e1] at h
          exact h)
        have HS4 := Kp.mk hs4
        have HN5 := Kp.mk (show n5 = s.work + 1 + (d.l.length + 1) + 1 by rw [← hn5, ← hn4, ← hs4]; dsimp only; rw [← HN1.out])
        have hLb := HLs.out
        clear q7 z7 w5 W5k hs4 hn4 hn5 hZ hBd H4b
        refine wp_region_stage [] (fun bs W => Ext W6 W) (fun bs i v W => match i with
          | 0 => v = .pointer (some ⟨g, 0, none⟩)
          | 1 => v = .pointer (some ⟨g, 0, none⟩)
          | 2 => v = .pointer (some ⟨g, 0, none⟩)
          | 3 => v = .pointer (some ⟨g, 0, none⟩)
          | 4 => v = .pointer (some ⟨g, 2, none⟩)
          | 5 => v = .string (ofL t.tag)
          | 6 => v = .agg #[.string (ofL d.id), .slice d.A d.l.length d.c, .string (ofL d.tag), .slice (some ⟨gt, 0, none⟩) (d.l.length + 1) ct]
          | 7 => v = .string (ofL Z)
          | 8 => v = .string (ofL Bd)
          | 9 => v = .pointer (some ⟨w3.heap.size, 0, none⟩)
          | 10 => v = .pointer (some ⟨w3.heap.size, 2, none⟩)
          | 11 => v = .string (ofL d.tag)
          | 12 => v = .bool (Bd == d.tag)
          | 13 => v = .bool (!(Bd == d.tag))
          | _ => True) (cs_inj (by decide)) (by decide) (by kernel_rfl) (by kernel_rfl) (by kernel_rfl) ((Ext.rfl' W6).dr) (fun bs W1 W2 h e => h.tr e) ?_ ?_ ?_
        · intro bs i v W1 W2 e1 e2 h
          match i, h with
          | 0, h => exact h
          | 1, h => exact h
          | 2, h => exact h
          | 3, h => exact h
          | 4, h => exact h
          | 5, h => exact h
          | 6, h => exact h
          | 7, h => exact h
          | 8, h => exact h
          | 9, h => exact h
          | 10, h => exact h
          | 11, h => exact h
          | 12, h => exact h
          | 13, h => exact h
          | (i + 14), h => exact h
        · refine localsQ_ord (by decide) (fun bs u W hbs hW hno hd => leaves_val rfl (v := .pointer (some ⟨g, 0, none⟩)) (by go_simp) rfl) ?_
          refine localsQ_ord (by decide) (fun bs u W hbs hW hno hd => ?_) ?_
          · have h0 : u 0 = _ := hd 0 (by kernel_rfl)
            exact leaves_val rfl (v := .pointer (some ⟨g, 0, none⟩)) (by go_simp) rfl
          refine localsQ_ord (by decide) (fun bs u W hbs hW hno hd => ?_) ?_
          · have h1 : u 1 = _ := hd 1 (by kernel_rfl)
            exact leaves_val rfl (v := .pointer (some ⟨g, 0, none⟩)) (by go_simp) rfl
          refine localsQ_ord (by decide) (fun bs u W hbs hW hno hd => ?_) ?_
          · have h2 : u 2 = _ := hd 2 (by kernel_rfl)
            exact leaves_val rfl (v := .pointer (some ⟨g, 0, none⟩)) (by go_simp) rfl
          refine localsQ_ord (by decide) (fun bs u W hbs hW hno hd => ?_) ?_
          · have h3 : u 3 = _ := hd 3 (by kernel_rfl)
            exact leaves_val rfl (v := .pointer (some ⟨g, 2, none⟩)) (by go_simp) rfl
          refine localsQ_ord (by decide) (fun bs u W hbs hW hno hd => ?_) ?_
          · have h4 : u 4 = _ := hd 4 (by kernel_rfl)
            have q2 := (S6.box.ext hW S6.box.lt).cell 2
            rw [(prCells_get _ _ _ _ _ _).2.2.1] at q2
            exact leaves_val rfl (v := .string (ofL t.tag)) (by go_simp) rfl
          refine localsQ_ord (by decide) (fun bs u W hbs hW hno hd => ?_) ?_
          · have q0 := (B6.ext hW B6.lt).cell 0; have q1 := (B6.ext hW B6.lt).cell 1; have q2 := (B6.ext hW B6.lt).cell 2; have q3 := (B6.ext hW B6.lt).cell 3
            simp only [List.getElem?_cons_zero, List.getElem?_cons_succ] at q0 q1 q2 q3
            exact leaves_val rfl (v := .agg #[.string (ofL d.id), .slice d.A d.l.length d.c, .string (ofL d.tag), .slice (some ⟨gt, 0, none⟩) (d.l.length + 1) ct]) (by go_simp) rfl
          refine localsQ_ord (by decide) (fun bs u W hbs hW hno hd => ?_) ?_
          · have h6 : u 6 = _ := hd 6 (by kernel_rfl)
            exact leaves_call rfl (f := 87) (args := #[.agg #[.string (ofL d.id), .slice d.A d.l.length d.c, .string (ofL d.tag), .slice (some ⟨gt, 0, none⟩) (d.l.length + 1) ct]]) (by go_simp) ((cL.out W hW).mono (by rintro e9 W9 ⟨rfl, h9⟩; exact ⟨_, rfl, h9, rfl⟩))
          refine localsQ_ord (by decide) (fun bs u W hbs hW hno hd => ?_) ?_
          · have h5 : u 5 = _ := hd 5 (by kernel_rfl)
            have h7 : u 7 = _ := hd 7 (by kernel_rfl)
            exact leaves_call rfl (f := 61) (args := #[.string (ofL t.tag), .string (ofL Z)]) (by go_simp) ((cB.out W (hT.ext (F6.tr hW))).mono (by rintro e9 W9 ⟨rfl, h9⟩; exact ⟨_, rfl, h9, rfl⟩))
          refine localsQ_ord (by decide) (fun bs u W hbs hW hno hd => leaves_val rfl (v := .pointer (some ⟨w3.heap.size, 0, none⟩)) (by go_simp) rfl) ?_
          refine localsQ_ord (by decide) (fun bs u W hbs hW hno hd => ?_) ?_
          · have h9 : u 9 = _ := hd 9 (by kernel_rfl)
            exact leaves_val rfl (v := .pointer (some ⟨w3.heap.size, 2, none⟩)) (by go_simp) rfl
          refine localsQ_ord (by decide) (fun bs u W hbs hW hno hd => ?_) ?_
          · have h10 : u 10 = _ := hd 10 (by kernel_rfl)
            have q2 := (B6.ext hW B6.lt).cell 2
            simp only [List.getElem?_cons_zero, List.getElem?_cons_succ] at q2
            exact leaves_val rfl (v := .string (ofL d.tag)) (by go_simp) rfl
          refine localsQ_ord (by decide) (fun bs u W hbs hW hno hd => ?_) ?_
          · have h8 : u 8 = _ := hd 8 (by kernel_rfl)
            have h11 : u 11 = _ := hd 11 (by kernel_rfl)
            exact leaves_call rfl (f := 82) (args := #[.string (ofL Bd), .string (ofL d.tag)]) (by go_simp) ((cSm.out W).mono (by rintro e9 W9 ⟨rfl, h9⟩; exact ⟨_, rfl, h9, rfl⟩))
          refine localsQ_ord (by decide) (fun bs u W hbs hW hno hd => ?_) localsQ_nil
          · have h12 : u 12 = _ := hd 12 (by kernel_rfl)
            exact leaves_val rfl (v := .bool (!(Bd == d.tag))) (by go_simp) rfl
        · intro u9 W7 hW7 hV
          have h13 : u9 13 = .bool (!(Bd == d.tag)) := hV 13 (by decide)
          clear hV cL cB cSm
          have S7 := S6.up hW7
          have B7 := B6.ext hW7 B6.lt
          have tag7 : TagsAt w W7 ⟨T, d, gt, ct⟩ := own_ext tag6 (fun j _ hj => hW7.block j hj)
          clear S6 B6 tag6 F6 hW7
          by_cases hbd : Bd = d.tag
          · have t1 : (Bd == d.tag) = true := by simp [hbd]
            obtain ⟨m, rfl⟩ := H5.out.1 hbd
            rw [t1] at h13
            clear hbd t1
            go_simp
            go_upto_region 12 with fail
            refine wp_region_stages [7] (fun bs W => Ext w W ∧ w.heap.size ≤ W.heap.size ∧ Arr W g 79 (prCells t (.slice (some ⟨b, off, none⟩) more.length c) vu vl vt n5) ∧ Arr W w3.heap.size 121 [.string (ofL d.id), .slice d.A d.l.length d.c, .string (ofL d.tag), .slice (some ⟨gt, 0, none⟩) (d.l.length + 1) ct] ∧ (bs[0]? = some false → PrSt w W g t (.slice (some ⟨b, off, none⟩) more.length c) more ⟨s4.used, s4.list, s4.texts, n5, s4.sum⟩ L vu vl vt ∧ TagsAt w W ⟨T, d, gt, ct⟩)) (fun bs i v W => match i with
              | 0 => v = .pointer (some ⟨g, 0, none⟩)
              | 1 => v = .pointer (some ⟨g, 0, none⟩)
              | 2 => v = .pointer (some ⟨g, 0, none⟩)
              | 3 => v = .pointer (some ⟨g, 5, none⟩)
              | 4 => v = vl
              | 5 => v = .agg #[.string (ofL d.id), .slice d.A d.l.length d.c, .string (ofL d.tag), .slice (some ⟨gt, 0, none⟩) (d.l.length + 1) ct]
              | 6 => ∃ b5, v = .slice (some ⟨b5, 0, none⟩) 1 1 ∧ (bs[0]? = some false → Arr W b5 121 [.string (ofL d.id), .slice d.A d.l.length d.c, .string (ofL d.tag), .slice (some ⟨gt, 0, none⟩) (d.l.length + 1) ct])
              | 7 => bs[0]? = some true ∧ PrLs w W g t (.slice (some ⟨b, off, none⟩) more.length c) more ⟨s4.used, s4.list, s4.texts, n5, s4.sum⟩ L vu vl vt v ⟨T, d, gt, ct⟩
              | 8 => v = .pointer (some ⟨g, 0, none⟩)
              | 9 => v = .pointer (some ⟨g, 5, none⟩)
              | _ => True) 10 (cs_inj (by decide)) (by decide) (by kernel_rfl) (by kernel_rfl) (by kernel_rfl) (by decide) (by kernel_rfl) (by kernel_rfl) (by kernel_rfl) (⟨S7.ext.dr, S7.ext.size, S7.box, B7, fun _ => ⟨S7.drew, tag7⟩⟩) (fun bs W1 W2 ⟨a, p, q, r, k⟩ e => ⟨a.tr e, by have := e.size; omega, q.ext e q.lt, r.ext e r.lt, fun hb => ⟨(k hb).1.up e, own_ext (k hb).2 (fun j _ hj => e.block j hj)⟩⟩) ?_ ?_ ?_
            · intro bs i v W1 W2 e1 e2 h
              match i, h with
              | 0, h => exact h
              | 1, h => exact h
              | 2, h => exact h
              | 3, h => exact h
              | 4, h => exact h
              | 5, h => exact h
              | 6, ⟨b5, h1, h2⟩ => exact ⟨b5, h1, fun hb => (h2 hb).ext e2 (h2 hb).lt⟩
              | 7, h => exact ⟨h.1, h.2.up e2⟩
              | 8, h => exact h
              | 9, h => exact h
              | (i + 10), h => exact h
            · refine localsT_ord (by decide) (fun bs u W hbs hW hno hd => leaves_val rfl (v := .pointer (some ⟨g, 0, none⟩)) (by go_simp) rfl) ?_
              refine localsT_ord (by decide) (fun bs u W hbs hW hno hd => leaves_val rfl (v := .pointer (some ⟨g, 0, none⟩)) (by go_simp) rfl) ?_
              refine localsT_ord (by decide) (fun bs u W hbs hW hno hd => ?_) ?_
              · have h1 : u 1 = _ := hd 1 (by kernel_rfl)
                exact leaves_val rfl (v := .pointer (some ⟨g, 0, none⟩)) (by go_simp) rfl
              refine localsT_ord (by decide) (fun bs u W hbs hW hno hd => ?_) ?_
              · have h2 : u 2 = _ := hd 2 (by kernel_rfl)
                exact leaves_val rfl (v := .pointer (some ⟨g, 5, none⟩)) (by go_simp) rfl
              refine localsT_ord (by decide) (fun bs u W hbs hW hno hd => ?_) ?_
              · have h3 : u 3 = _ := hd 3 (by kernel_rfl)
                have q5 := hW.2.2.1.cell 5
                rw [(prCells_get _ _ _ _ _ _).2.2.2.2.2.1] at q5
                exact leaves_val rfl (v := vl) (by go_simp) rfl
              refine localsT_ord (by decide) (fun bs u W hbs hW hno hd => ?_) ?_
              · have q0 := hW.2.2.2.1.cell 0; have q1 := hW.2.2.2.1.cell 1; have q2 := hW.2.2.2.1.cell 2; have q3 := hW.2.2.2.1.cell 3
                simp only [List.getElem?_cons_zero, List.getElem?_cons_succ] at q0 q1 q2 q3
                exact leaves_val rfl (v := .agg #[.string (ofL d.id), .slice d.A d.l.length d.c, .string (ofL d.tag), .slice (some ⟨gt, 0, none⟩) (d.l.length + 1) ct]) (by go_simp) rfl
              refine localsT_ord (by decide) (fun bs u W hbs hW hno hd => ?_) ?_
              · have h5 : u 5 = _ := hd 5 (by kernel_rfl)
                exact leaves_new rfl (v := .slice (some ⟨W.heap.size, 0, none⟩) 1 1) (w' := W.alloc (.cells #[.string (ofL d.id), .slice d.A d.l.length d.c, .string (ofL d.tag), .slice (some ⟨gt, 0, none⟩) (d.l.length + 1) ct] 121)) (by go_simp) ((Ext.rfl' W).al _) ⟨_, rfl, fun _ => Arr.new W _ [.string (ofL d.id), .slice d.A d.l.length d.c, .string (ofL d.tag), .slice (some ⟨gt, 0, none⟩) (d.l.length + 1) ct]⟩
              refine localsT_turn 0 rfl (fun q hq => cs_inj (cs := [7]) (by decide) 0 q _ rfl hq) (fun bs u W hbs hb0 hW hd hcs => ?_) ?_
              · have h4 : u 4 = _ := hd 4 (by kernel_rfl)
                have h6 := hd 6 (by kernel_rfl)
                have hset : (bs.set 0 true)[0]? = some true := List.getElem?_set_self (by rw [hbs]; decide)
                obtain ⟨hP, hTg⟩ := hW.2.2.2.2 hb0
                obtain ⟨b5, e5, hc5⟩ := h6
                have hA5 := hc5 hb0
                refine ⟨rfl, fun K Q hK => wp_app (ad := ⟨b5, 0, none⟩) (c := 1) (news := pvCells ⟨T, d, gt, ct⟩) Tryz.elemPv _ _ rfl hP.list 1 (by go_simp) (by go_simp) rfl ?_ ?_ (by omega) (by omega) hW.2.1 (fun v' w' own2 hg2 => hK v' w' ?_ ⟨hset, hP.listed own2 hg2 hTg hvt (.inr hdm)⟩ ?_)⟩
                · intro j y hy
                  rw [WideShapes.add_plain, hA5.cell, Nat.zero_add]
                  exact hy
                · exact fun u hu => oneCell_pvs [⟨T, d, gt, ct⟩] u (by simpa [pvsCells] using hu)
                · exact ⟨hW.1.own hg2 hP.list (Nat.le_refl _), by have := hg2.size; have := hW.2.1; omega, arr_kept_type hW.2.2.1 hP.list (by decide) hg2, arr_kept hW.2.2.2.1 hg2 (fun r e => by have := HX.out r e; omega), fun hb => by rw [hset] at hb; cases hb⟩
                · intro k h
                  match k, h with
                  | 0, h => exact h
                  | 1, h => exact h
                  | 2, h => exact h
                  | 3, h => exact h
                  | 4, h => exact h
                  | 5, h => exact h
                  | 6, ⟨b5, h1, h2⟩ => exact ⟨b5, h1, (fun hb => (by rw [hset] at hb; cases hb))⟩
                  | 7, h => rw [hb0] at h; cases h.1
                  | 8, h => exact h
                  | 9, h => exact h
                  | (k + 10), h => exact h
              refine localsT_ord (by decide) (fun bs u W hbs hW hno hd => ?_) ?_
              · have h0 : u 0 = _ := hd 0 (by kernel_rfl)
                exact leaves_val rfl (v := .pointer (some ⟨g, 0, none⟩)) (by go_simp) rfl
              refine localsT_ord (by decide) (fun bs u W hbs hW hno hd => ?_) localsT_nil
              · have h8 : u 8 = _ := hd 8 (by kernel_rfl)
                exact leaves_val rfl (v := .pointer (some ⟨g, 5, none⟩)) (by go_simp) rfl
            · intro u10 W hW hV
              obtain ⟨_, PL⟩ := hV 7 (by decide)
              have h9 : u10 9 = _ := hV 9 (by decide)
              obtain ⟨g6, c6, e6⟩ := ownsRow_succ PL.list
              rw [e6] at PL
              have q5 := PL.box.cell 5
              rw [(prCells_get _ _ _ _ _ _).2.2.2.2.2.1] at q5
              have z5 := PL.box.frozen 5
              have S9 := PL.store
              clear hV PL S7 B7 tag7 hW
              go_simp
              go_wp2
              go_ret
              exact ⟨_, _, rfl, S9.of (by rw [← HS4.out]) (by rw [← HS4.out]; rfl) (by rw [← HS4.out]) HN5.out⟩
          · have t1 : (Bd == d.tag) = false := by simp [hbd]
            obtain ⟨m, rfl⟩ := H5.out.2 hbd
            rw [t1] at h13
            clear hbd t1 B7 tag7
            go_simp
            go_wp2
            go_ret
            exact ⟨L, vl, rfl, S7.of (by rw [← HS4.out]) (by rw [← HS4.out]) (by rw [← HS4.out]) HN5.out⟩
    · have d : ((x : Int) != 0) = true := by simp; omega
      obtain ⟨m, rfl⟩ := H4.out.1 hx
      clear hx
      go_wp2
      go_ret
      exact ⟨L, vl, rfl, S2.of rfl rfl rfl HN1.out.symm⟩
end Go.Proofs.YtejhiekikblbiaaGreatDoor

namespace Go
open Go.Proofs.YtejhiekikblbiaaGreatDoor Go.RowKit
section
variable {P : Program} {t e : TypeId} {z : Value} {bytes : Nat}
/-- make([]T, n), elements of one cell, in a region that draws. -/
theorem leaves_make (E : Elem P t e z 1 bytes) (hz1 : z.cells = #[z]) {ops : Array Oper} {o : Oper} {a : Act} {w : World} {Vi : Value → World → Prop} (hw : Region.wanted o (yielded ops a.tmps) = true) (l c : Operand) (hop : o.op = Op.makeSlice t l c) {kl kc : IntKind} (n : Nat) (hl : a.eval l = .int kl n) (hc : a.eval c = .int kc n)
    (hb : n * bytes ≤ 140737488355328) (h63 : n ≤ 9223372036854775807) (hv : ∀ w', w'.ownsRow w.heap.size e 1 (.slice (some ⟨w.heap.size, 0, none⟩) n n) n (List.replicate n z) → Ext w w' → Vi (.slice (some ⟨w.heap.size, 0, none⟩) n n) w') : OpLeaves P ops Vi o a w := by
  obtain ⟨i, hi, hz, hsz, hby⟩ := E.hi
  obtain ⟨w', hrun, r1, r2⟩ := run_make_full (P := P) w w.heap.size t e i z 1 E.ht hi hz hsz kl kc n (by rw [hby, Nat.mul_comm]; omega) (by unfold maxLen; omega) (Nat.le_refl _)
  rw [hz1, Nat.mul_one, toList_madeCells_one] at r1
  have hE : Ext w w' := (Ext.rfl' w).gr r2 (fun k hk => by cases hk)
  refine leaves_new hw (v := .slice (some ⟨w.heap.size, 0, none⟩) n n) (w' := w') ?_ hE (hv w' r1 hE)
  simp [execOp, hop, hl, hc, hrun, Result.andThen]
end
end Go
namespace Go.Proofs.YtejhiekikblbiaaGreatDoor
open Go.RowKit

/-- A token that is not too long. -/
def OkT (d : TokA) : Prop := d.id.length ≤ 10000 ∧ d.tag.length ≤ 10000 ∧ (∀ x ∈ d.l, x.1.length ≤ 10000 ∧ x.2.length ≤ 10000) ∧ d.l.length ≤ 10000
theorem OkT.short {d : TokA} (h : OkT d) : Short1 d.l := fun x hx => by have := h.2.2.1 x hx; omega
def RunPost (w : World) (t : TokA) (mv : Value) (more : List TokA) (r : PrL × Nat) (e : Ending) (V1 : World) : Prop :=
  ∃ g L vu vl vt, e = .returned (.tuple #[.pointer (some ⟨g, 0, none⟩), .int .i64 r.2]) ∧ PrSt w V1 g t mv more r.1 L vu vl vt

set_option maxRecDepth 100000 in
set_option maxHeartbeats 16000000 in
theorem vrun_any (k id tag : List UInt8) (A : Option Addr) (c : Nat) (l : List LinkL) (Am : Option Addr) (cm : Nat) (more : List TokA) (w : World) (hT : Tab w) (hl : RdLinks w w.heap.size (.slice A l.length c) l) (hm : RdToks w w.heap.size (.slice Am more.length cm) more) (hk : k.length ≤ 10000) (ht : OkT ⟨id, tag, A, c, l⟩) (hml : ∀ d ∈ more, OkT d) (hn : more.length ≤ 10000) :
    Calls Tryz.prog 47 #[.string (ofL k), bunV id (.slice A l.length c) tag (.slice Am more.length cm)] w (RunPost w ⟨id, tag, A, c, l⟩ (.slice Am more.length cm) more (proveL k ⟨id, l, tag⟩ (more.map TokA.plain))) := by
  have cG := Kp.mk (show ∀ W, Ext w W → _ from fun W h => vgreat_any id tag A c l (.slice Am more.length cm) more W (hm.at h) hn (by have := ht.2.2.2; dsimp only at this; omega) (fun d hd => by have := (hml d hd).2.2.2; omega))
  obtain ⟨G, hG⟩ : ∃ G, greatB ⟨id, l, tag⟩ (more.map TokA.plain) = G := ⟨_, rfl⟩
  rw [hG] at cG
  obtain ⟨X, hX⟩ : ∃ X, proveL k ⟨id, l, tag⟩ (more.map TokA.plain) = X := ⟨_, rfl⟩
  have HG3 := Kp.mk (show G = true → X = (⟨List.replicate more.length false, [], [], 0, []⟩, 3) from fun h => by rw [← hX, prove_great (hG.trans h), List.length_map])
  have HT8 := Kp.mk (show G = false → lastL k id l ≠ tag → X = (⟨List.replicate more.length false, [], [], l.length + 1, textsL k id l⟩, 8) from fun h h2 => by rw [← hX, prove_tag8 (hG.trans h) h2, List.length_map])
  have HGO := Kp.mk (show G = false → lastL k id l = tag → ∀ s b, goL tag (more.map TokA.plain) (more.length + 2) (begL k ⟨id, l, tag⟩ (more.map TokA.plain)) 0 = (s, b) → X = (s, if (b && s.used.all _root_.id) = true then 0 else 11) from fun h h2 s b h3 => by
    rw [← hX]; exact prove_go (hG.trans h) h2 (by rw [List.length_map]; exact h3))
  have HSM := Kp.mk (show G = false → _ from fun h => great_small (hG.trans h))
  have HWK := Kp.mk (show X.1.work ≤ mostL ⟨id, l, tag⟩ (more.map TokA.plain) by rw [← hX]; exact work_most _ _ _)
  rw [hX]
  obtain ⟨W0, hW0, E0, B1⟩ := bun_box w (.string (ofL id)) (.slice A l.length c) (.string (ofL tag)) (.slice Am more.length cm)
  have HW := Kp.mk hW0
  have HL := Kp.mk hl; have HM := Kp.mk hm; have HML := Kp.mk hml; have HTT := Kp.mk ht
  clear hG hX hW0 hl hm hml ht
  unfold bunV at *
  go_enter Tryz.func47, Tryz.ntmps47
  go_wp2_with fail
  go_step3
  go_upto_region 1 with fail
  rw [HW.out]
  clear HW
  refine wp_region_stage [] (fun bs W => Ext W0 W) (fun bs i v W => match i with
    | 0 => v = .agg #[.string (ofL id), .slice A l.length c, .string (ofL tag), .slice Am more.length cm]
    | 1 => v = .pointer (some ⟨w.heap.size, 3, none⟩)
    | 2 => v = .slice Am more.length cm
    | 3 => v = .int .i64 more.length
    | 4 => ∃ gu, v = .slice (some ⟨gu, 0, none⟩) more.length more.length ∧ W.ownsRow w.heap.size 4 1 (.slice (some ⟨gu, 0, none⟩) more.length more.length) more.length (List.replicate more.length (.bool false))
    | 5 => ∃ gu, v = .agg #[.string (ofL id), .slice A l.length c, .string (ofL tag), .slice Am more.length cm, .slice (some ⟨gu, 0, none⟩) more.length more.length, .slice none 0 0, .slice none 0 0, .int .i64 0] ∧ W.ownsRow w.heap.size 4 1 (.slice (some ⟨gu, 0, none⟩) more.length more.length) more.length (List.replicate more.length (.bool false))
    | 6 => ∃ g gu, v = .pointer (some ⟨g, 0, none⟩) ∧ w.heap.size ≤ g ∧ Arr W g 79 (prCells ⟨id, tag, A, c, l⟩ (.slice Am more.length cm) (.slice (some ⟨gu, 0, none⟩) more.length more.length) (.slice none 0 0) (.slice none 0 0) 0) ∧ W.ownsRow w.heap.size 4 1 (.slice (some ⟨gu, 0, none⟩) more.length more.length) more.length (List.replicate more.length (.bool false))
    | 7 => ∃ g gu, v = .pointer (some ⟨g, 0, none⟩) ∧ w.heap.size ≤ g ∧ Arr W g 79 (prCells ⟨id, tag, A, c, l⟩ (.slice Am more.length cm) (.slice (some ⟨gu, 0, none⟩) more.length more.length) (.slice none 0 0) (.slice none 0 0) 0) ∧ W.ownsRow w.heap.size 4 1 (.slice (some ⟨gu, 0, none⟩) more.length more.length) more.length (List.replicate more.length (.bool false))
    | _ => True) (cs_inj (by decide)) (by decide) (by kernel_rfl) (by kernel_rfl) (by kernel_rfl) ((Ext.rfl' W0).dr) (fun bs W1 W2 h e => h.tr e) ?_ ?_ ?_
  · intro bs i v W1 W2 e1 e2 h
    match i, h with
    | 0, h => exact h
    | 1, h => exact h
    | 2, h => exact h
    | 3, h => exact h
    | 4, ⟨gu, h1, h2⟩ => exact ⟨gu, h1, own_ext h2 (fun j _ hj => e2.block j hj)⟩
    | 5, ⟨gu, h1, h2⟩ => exact ⟨gu, h1, own_ext h2 (fun j _ hj => e2.block j hj)⟩
    | 6, ⟨g, gu, h1, h2, h3, h4⟩ => exact ⟨g, gu, h1, h2, h3.ext e2 h3.lt, own_ext h4 (fun j _ hj => e2.block j hj)⟩
    | 7, ⟨g, gu, h1, h2, h3, h4⟩ => exact ⟨g, gu, h1, h2, h3.ext e2 h3.lt, own_ext h4 (fun j _ hj => e2.block j hj)⟩
    | (i + 8), h => exact h
  · refine localsQ_ord (by decide) (fun bs u W hbs hW hno hd => ?_) ?_
    · have q0 := (B1.ext hW B1.lt).cell 0; have q1 := (B1.ext hW B1.lt).cell 1; have q2 := (B1.ext hW B1.lt).cell 2; have q3 := (B1.ext hW B1.lt).cell 3
      simp only [List.getElem?_cons_zero, List.getElem?_cons_succ] at q0 q1 q2 q3
      exact leaves_val rfl (v := .agg #[.string (ofL id), .slice A l.length c, .string (ofL tag), .slice Am more.length cm]) (by go_simp) rfl
    refine localsQ_ord (by decide) (fun bs u W hbs hW hno hd => leaves_val rfl (v := .pointer (some ⟨w.heap.size, 3, none⟩)) (by go_simp) rfl) ?_
    refine localsQ_ord (by decide) (fun bs u W hbs hW hno hd => ?_) ?_
    · have h1 : u 1 = _ := hd 1 (by kernel_rfl)
      have q3 := (B1.ext hW B1.lt).cell 3
      simp only [List.getElem?_cons_zero, List.getElem?_cons_succ] at q3
      exact leaves_val rfl (v := .slice Am more.length cm) (by go_simp) rfl
    refine localsQ_ord (by decide) (fun bs u W hbs hW hno hd => ?_) ?_
    · have h2 : u 2 = _ := hd 2 (by kernel_rfl)
      exact leaves_val rfl (v := .int .i64 more.length) (by go_simp) rfl
    refine localsQ_ord (by decide) (fun bs u W hbs hW hno hd => ?_) ?_
    · have h3 : u 3 = _ := hd 3 (by kernel_rfl)
      exact leaves_make Tryz.elemBool rfl rfl _ _ rfl (kl := .i64) (kc := .i64) more.length (by go_simp) (by go_simp) (by omega) (by omega) (fun w' h1 h2 => ⟨_, rfl, own_more h1 (by have := hW.size; have := E0.size; omega)⟩)
    refine localsQ_ord (by decide) (fun bs u W hbs hW hno hd => ?_) ?_
    · have h0 : u 0 = _ := hd 0 (by kernel_rfl)
      have h4 := hd 4 (by kernel_rfl)
      obtain ⟨gu, e4, h4⟩ := h4
      exact leaves_val rfl (v := .agg #[.string (ofL id), .slice A l.length c, .string (ofL tag), .slice Am more.length cm, .slice (some ⟨gu, 0, none⟩) more.length more.length, .slice none 0 0, .slice none 0 0, .int .i64 0]) (by go_simp) ⟨gu, rfl, h4⟩
    refine localsQ_ord (by decide) (fun bs u W hbs hW hno hd => ?_) ?_
    · have h5 := hd 5 (by kernel_rfl)
      obtain ⟨gu, e5, h5⟩ := h5
      exact leaves_new rfl (v := .pointer (some ⟨W.heap.size, 0, none⟩)) (w' := W.alloc (.cells (prCells ⟨id, tag, A, c, l⟩ (.slice Am more.length cm) (.slice (some ⟨gu, 0, none⟩) more.length more.length) (.slice none 0 0) (.slice none 0 0) 0).toArray 79)) (by go_simp; rfl) ((Ext.rfl' W).al _) ⟨_, gu, rfl, by have := hW.size; have := E0.size; omega, Arr.new W _ _, own_ext h5 (fun j _ hj => ((Ext.rfl' W).al _).block j hj)⟩
    refine localsQ_ord (by decide) (fun bs u W hbs hW hno hd => ?_) localsQ_nil
    · have h6 := hd 6 (by kernel_rfl)
      exact leaves_val rfl (v := u 6) (by go_simp) h6
  · intro u W1 hW1 hV
    obtain ⟨g, gu, h7, hgw, A1, U1⟩ := hV 7 (by decide)
    clear hV
    have hgu := (U1.lt gu rfl).1
    have B2 := B1.ext hW1 B1.lt
    have S1 : PrSt w W1 g ⟨id, tag, A, c, l⟩ (.slice Am more.length cm) more ⟨List.replicate more.length false, [], [], 0, []⟩ [] (.slice (some ⟨gu, 0, none⟩) more.length more.length) (.slice none 0 0) (.slice none 0 0) :=
      ⟨E0.tr hW1, hgw, A1, own_eq U1 (by simp) rfl, World.ownsRow_nil _ _ _ _, World.ownsRow_nil _ _ _ _, rfl, fun x hx => (by cases hx), fun x hx => (by cases hx)⟩
    have hg1 : w.heap.size < g := by
      rcases Nat.lt_or_ge w.heap.size g with h | h
      · exact h
      · exfalso
        obtain rfl : g = w.heap.size := by omega
        unfold Arr at A1 B2
        rw [A1] at B2
        cases B2
    clear A1 U1 B1 E0 hW1
    have q0 := B2.cell 0; have q1 := B2.cell 1; have q2 := B2.cell 2; have q3 := B2.cell 3
    simp only [List.getElem?_cons_zero, List.getElem?_cons_succ] at q0 q1 q2 q3
    go_simp
    go_wp2_with fail
    refine (cG.out _ S1.ext).mono ?_
    rintro e w2 ⟨rfl, E2⟩
    have S2 := S1.up E2
    have B3 := B2.ext E2 B2.lt
    clear S1 B2 q0 q1 q2 q3 cG E2
    cases G with
    | true =>
      have hx := HG3.out rfl
      subst hx
      go_wp2
      exact bodyPost_ret (v := .tuple #[.pointer (some ⟨g, 0, none⟩), .int .i64 3]) (by simp [results, Tryz.results47, go_sem]) rfl ⟨g, [], _, _, _, rfl, S2⟩
    | false =>
      obtain ⟨hm8, hl64, hmd, hmost⟩ := HSM.out rfl
      rw [List.length_map] at hm8
      have HT8b := Kp.mk (HT8.out rfl)
      have HGOb := Kp.mk (HGO.out rfl)
      clear HT8 HGO
      have hX2 : X.1.work ≤ 2000 := Nat.le_trans HWK.out hmost
      have q0 := B3.cell 0; have q1 := B3.cell 1; have q2 := B3.cell 2
      simp only [List.getElem?_cons_zero, List.getElem?_cons_succ] at q0 q1 q2
      have cT := Kp.mk (vtags_any S2 hT k ⟨id, tag, A, c, l⟩ (by omega) (by have := HTT.out.1; dsimp only at this ⊢; omega) HL.out HTT.out.short (by have := HTT.out.2.2.2; dsimp only at this ⊢; omega) (by dsimp only; omega))
      unfold tokAV tokV at cT
      dsimp only at cT
      clear HG3 HSM HWK hmost
      go_wp2_with fail
      refine cT.out.mono ?_
      rintro e w3 ⟨gt, ct, rfl, S3, htag, hvt, G3⟩
      dsimp only at S3
      rw [Nat.zero_add] at S3
      have B4 : Arr w3 w.heap.size 41 [.string (ofL id), .slice A l.length c, .string (ofL tag), .slice Am more.length cm] := grownBy_at G3 B3 (fun r e => by cases e; omega)
      clear S2 B3 q0 q1 q2 cT G3
      obtain ⟨W4, hW4⟩ : ∃ W4 : World, W4 = w3.alloc (.cells #[.string (ofL id), .slice A l.length c, .string (ofL tag), .slice (some ⟨gt, 0, none⟩) (l.length + 1) ct] 121) := ⟨_, rfl⟩
      have E4 : Ext w3 W4 := by rw [hW4]; exact (Ext.rfl' w3).al _
      have C4 : Arr W4 w3.heap.size 121 [.string (ofL id), .slice A l.length c, .string (ofL tag), .slice (some ⟨gt, 0, none⟩) (l.length + 1) ct] := by rw [hW4]; exact Arr.new w3 _ _
      have HW4 := Kp.mk hW4
      have HX := Kp.mk (show w.heap.size < w3.heap.size from B4.lt)
      have S4 := S3.up E4
      have tag4 : TagsAt w W4 ⟨k, ⟨id, tag, A, c, l⟩, gt, ct⟩ := own_ext htag (fun j _ hj => E4.block j hj)
      have B5 := B4.ext E4 B4.lt
      clear S3 B4 E4 htag hW4
      go_upto_region 5 with fail
      rw [← HW4.out]
      clear HW4
      obtain ⟨Z, hZ⟩ : ∃ Z, lastL k id l = Z := ⟨_, rfl⟩
      have lZ : Z.length = 32 := by rw [← hZ]; exact length_lastL _ _ _
      have cL := Kp.mk (show ∀ W, Ext W4 W → Calls Tryz.prog 87 #[.agg #[.string (ofL id), .slice A l.length c, .string (ofL tag), .slice (some ⟨gt, 0, none⟩) (l.length + 1) ct]] W fun e w' => e = .returned (.string (ofL Z)) ∧ Ext W w' from fun W h => by
        have q := vlast_any w W ⟨k, ⟨id, tag, A, c, l⟩, gt, ct⟩ (own_ext tag4 (fun j _ hj => h.block j hj)) (by dsimp only; omega) (.string (ofL id)) (.string (ofL tag)) (.slice A l.length c)
        dsimp only at q
        rw [hZ] at q
        exact q)
      have cSm := Kp.mk (show ∀ W, Calls Tryz.prog 82 #[.string (ofL Z), .string (ofL tag)] W fun e w' => e = .returned (.bool (Z == tag)) ∧ Ext W w' from fun W => by
        have q := same_any Z tag W (by omega) (by have := HTT.out.2.1; dsimp only at this; omega)
        rw [decide_eq_true lZ, Bool.true_and] at q
        exact q)
      rw [hZ] at HT8b HGOb
      have F4 := S4.ext
      clear hZ
      refine wp_region_stage [] (fun bs W => Ext W4 W) (fun bs i v W => match i with
        | 0 => v = .agg #[.string (ofL id), .slice A l.length c, .string (ofL tag), .slice (some ⟨gt, 0, none⟩) (l.length + 1) ct]
        | 1 => v = .string (ofL Z)
        | 2 => v = .pointer (some ⟨w.heap.size, 0, none⟩)
        | 3 => v = .pointer (some ⟨w.heap.size, 2, none⟩)
        | 4 => v = .string (ofL tag)
        | 5 => v = .bool (Z == tag)
        | 6 => v = .bool (!(Z == tag))
        | _ => True) (cs_inj (by decide)) (by decide) (by kernel_rfl) (by kernel_rfl) (by kernel_rfl) ((Ext.rfl' W4).dr) (fun bs W1 W2 h e => h.tr e) ?_ ?_ ?_
      · intro bs i v W1 W2 e1 e2 h
        match i, h with
        | 0, h => exact h
        | 1, h => exact h
        | 2, h => exact h
        | 3, h => exact h
        | 4, h => exact h
        | 5, h => exact h
        | 6, h => exact h
        | (i + 7), h => exact h
      · refine localsQ_ord (by decide) (fun bs u W hbs hW hno hd => ?_) ?_
        · have q0 := (C4.ext hW C4.lt).cell 0; have q1 := (C4.ext hW C4.lt).cell 1; have q2 := (C4.ext hW C4.lt).cell 2; have q3 := (C4.ext hW C4.lt).cell 3
          simp only [List.getElem?_cons_zero, List.getElem?_cons_succ] at q0 q1 q2 q3
          exact leaves_val rfl (v := .agg #[.string (ofL id), .slice A l.length c, .string (ofL tag), .slice (some ⟨gt, 0, none⟩) (l.length + 1) ct]) (by go_simp) rfl
        refine localsQ_ord (by decide) (fun bs u W hbs hW hno hd => ?_) ?_
        · have h0 : u 0 = _ := hd 0 (by kernel_rfl)
          exact leaves_call rfl (f := 87) (args := #[.agg #[.string (ofL id), .slice A l.length c, .string (ofL tag), .slice (some ⟨gt, 0, none⟩) (l.length + 1) ct]]) (by go_simp) ((cL.out W hW).mono (by rintro e9 W9 ⟨rfl, h9⟩; exact ⟨_, rfl, h9, rfl⟩))
        refine localsQ_ord (by decide) (fun bs u W hbs hW hno hd => leaves_val rfl (v := .pointer (some ⟨w.heap.size, 0, none⟩)) (by go_simp) rfl) ?_
        refine localsQ_ord (by decide) (fun bs u W hbs hW hno hd => ?_) ?_
        · have h2 : u 2 = _ := hd 2 (by kernel_rfl)
          exact leaves_val rfl (v := .pointer (some ⟨w.heap.size, 2, none⟩)) (by go_simp) rfl
        refine localsQ_ord (by decide) (fun bs u W hbs hW hno hd => ?_) ?_
        · have h3 : u 3 = _ := hd 3 (by kernel_rfl)
          have q2 := (B5.ext hW B5.lt).cell 2
          simp only [List.getElem?_cons_zero, List.getElem?_cons_succ] at q2
          exact leaves_val rfl (v := .string (ofL tag)) (by go_simp) rfl
        refine localsQ_ord (by decide) (fun bs u W hbs hW hno hd => ?_) ?_
        · have h1 : u 1 = _ := hd 1 (by kernel_rfl)
          have h4 : u 4 = _ := hd 4 (by kernel_rfl)
          exact leaves_call rfl (f := 82) (args := #[.string (ofL Z), .string (ofL tag)]) (by go_simp) ((cSm.out W).mono (by rintro e9 W9 ⟨rfl, h9⟩; exact ⟨_, rfl, h9, rfl⟩))
        refine localsQ_ord (by decide) (fun bs u W hbs hW hno hd => ?_) localsQ_nil
        · have h5 : u 5 = _ := hd 5 (by kernel_rfl)
          exact leaves_val rfl (v := .bool (!(Z == tag))) (by go_simp) rfl
      · intro u5 W5 hW5 hV
        have h6 : u5 6 = .bool (!(Z == tag)) := hV 6 (by decide)
        clear hV cL cSm
        have S5 := S4.up hW5
        have C5 := C4.ext hW5 C4.lt
        have tag5 : TagsAt w W5 ⟨k, ⟨id, tag, A, c, l⟩, gt, ct⟩ := own_ext tag4 (fun j _ hj => hW5.block j hj)
        clear S4 C4 tag4 B5 F4 hW5
        by_cases hbd : Z = tag
        · have t1 : (Z == tag) = true := by simp [hbd]
          have HGOc := Kp.mk (HGOb.out hbd)
          rw [t1] at h6
          clear hbd t1 HT8b HGOb
          go_simp
          go_upto_region 7 with fail
          refine wp_region_stages [7] (fun bs W => Ext w W ∧ w.heap.size ≤ W.heap.size ∧ Arr W g 79 (prCells ⟨id, tag, A, c, l⟩ (.slice Am more.length cm) (.slice (some ⟨gu, 0, none⟩) more.length more.length) (.slice none 0 0) (.slice none 0 0) (l.length + 1)) ∧ Arr W w3.heap.size 121 [.string (ofL id), .slice A l.length c, .string (ofL tag), .slice (some ⟨gt, 0, none⟩) (l.length + 1) ct] ∧ (bs[0]? = some false → PrSt w W g ⟨id, tag, A, c, l⟩ (.slice Am more.length cm) more ⟨List.replicate more.length false, [], [], l.length + 1, []⟩ [] (.slice (some ⟨gu, 0, none⟩) more.length more.length) (.slice none 0 0) (.slice none 0 0) ∧ TagsAt w W ⟨k, ⟨id, tag, A, c, l⟩, gt, ct⟩)) (fun bs i v W => match i with
            | 0 => v = .pointer (some ⟨g, 0, none⟩)
            | 1 => v = .pointer (some ⟨g, 0, none⟩)
            | 2 => v = .pointer (some ⟨g, 0, none⟩)
            | 3 => v = .pointer (some ⟨g, 5, none⟩)
            | 4 => v = .slice none 0 0
            | 5 => v = .agg #[.string (ofL id), .slice A l.length c, .string (ofL tag), .slice (some ⟨gt, 0, none⟩) (l.length + 1) ct]
            | 6 => ∃ b5, v = .slice (some ⟨b5, 0, none⟩) 1 1 ∧ (bs[0]? = some false → Arr W b5 121 [.string (ofL id), .slice A l.length c, .string (ofL tag), .slice (some ⟨gt, 0, none⟩) (l.length + 1) ct])
            | 7 => bs[0]? = some true ∧ PrLs w W g ⟨id, tag, A, c, l⟩ (.slice Am more.length cm) more ⟨List.replicate more.length false, [], [], l.length + 1, []⟩ [] (.slice (some ⟨gu, 0, none⟩) more.length more.length) (.slice none 0 0) (.slice none 0 0) v ⟨k, ⟨id, tag, A, c, l⟩, gt, ct⟩
            | 8 => v = .pointer (some ⟨g, 0, none⟩)
            | 9 => v = .pointer (some ⟨g, 5, none⟩)
            | _ => True) 10 (cs_inj (by decide)) (by decide) (by kernel_rfl) (by kernel_rfl) (by kernel_rfl) (by decide) (by kernel_rfl) (by kernel_rfl) (by kernel_rfl) (⟨S5.ext.dr, S5.ext.size, S5.box, C5, fun _ => ⟨S5.drew, tag5⟩⟩) (fun bs W1 W2 ⟨a, p, q, r, k⟩ e => ⟨a.tr e, by have := e.size; omega, q.ext e q.lt, r.ext e r.lt, fun hb => ⟨(k hb).1.up e, own_ext (k hb).2 (fun j _ hj => e.block j hj)⟩⟩) ?_ ?_ ?_
          · intro bs i v W1 W2 e1 e2 h
            match i, h with
            | 0, h => exact h
            | 1, h => exact h
            | 2, h => exact h
            | 3, h => exact h
            | 4, h => exact h
            | 5, h => exact h
            | 6, ⟨b5, h1, h2⟩ => exact ⟨b5, h1, fun hb => (h2 hb).ext e2 (h2 hb).lt⟩
            | 7, h => exact ⟨h.1, h.2.up e2⟩
            | 8, h => exact h
            | 9, h => exact h
            | (i + 10), h => exact h
          · refine localsT_ord (by decide) (fun bs u W hbs hW hno hd => leaves_val rfl (v := .pointer (some ⟨g, 0, none⟩)) (by go_simp) rfl) ?_
            refine localsT_ord (by decide) (fun bs u W hbs hW hno hd => leaves_val rfl (v := .pointer (some ⟨g, 0, none⟩)) (by go_simp) rfl) ?_
            refine localsT_ord (by decide) (fun bs u W hbs hW hno hd => ?_) ?_
            · have h1 : u 1 = _ := hd 1 (by kernel_rfl)
              exact leaves_val rfl (v := .pointer (some ⟨g, 0, none⟩)) (by go_simp) rfl
            refine localsT_ord (by decide) (fun bs u W hbs hW hno hd => ?_) ?_
            · have h2 : u 2 = _ := hd 2 (by kernel_rfl)
              exact leaves_val rfl (v := .pointer (some ⟨g, 5, none⟩)) (by go_simp) rfl
            refine localsT_ord (by decide) (fun bs u W hbs hW hno hd => ?_) ?_
            · have h3 : u 3 = _ := hd 3 (by kernel_rfl)
              have q5 := hW.2.2.1.cell 5
              rw [(prCells_get _ _ _ _ _ _).2.2.2.2.2.1] at q5
              exact leaves_val rfl (v := .slice none 0 0) (by go_simp) rfl
            refine localsT_ord (by decide) (fun bs u W hbs hW hno hd => ?_) ?_
            · have q0 := hW.2.2.2.1.cell 0; have q1 := hW.2.2.2.1.cell 1; have q2 := hW.2.2.2.1.cell 2; have q3 := hW.2.2.2.1.cell 3
              simp only [List.getElem?_cons_zero, List.getElem?_cons_succ] at q0 q1 q2 q3
              exact leaves_val rfl (v := .agg #[.string (ofL id), .slice A l.length c, .string (ofL tag), .slice (some ⟨gt, 0, none⟩) (l.length + 1) ct]) (by go_simp) rfl
            refine localsT_ord (by decide) (fun bs u W hbs hW hno hd => ?_) ?_
            · have h5 : u 5 = _ := hd 5 (by kernel_rfl)
              exact leaves_new rfl (v := .slice (some ⟨W.heap.size, 0, none⟩) 1 1) (w' := W.alloc (.cells #[.string (ofL id), .slice A l.length c, .string (ofL tag), .slice (some ⟨gt, 0, none⟩) (l.length + 1) ct] 121)) (by go_simp) ((Ext.rfl' W).al _) ⟨_, rfl, fun _ => Arr.new W _ [.string (ofL id), .slice A l.length c, .string (ofL tag), .slice (some ⟨gt, 0, none⟩) (l.length + 1) ct]⟩
            refine localsT_turn 0 rfl (fun q hq => cs_inj (cs := [7]) (by decide) 0 q _ rfl hq) (fun bs u W hbs hb0 hW hd hcs => ?_) ?_
            · have h4 : u 4 = _ := hd 4 (by kernel_rfl)
              have h6 := hd 6 (by kernel_rfl)
              have hset : (bs.set 0 true)[0]? = some true := List.getElem?_set_self (by rw [hbs]; decide)
              obtain ⟨hP, hTg⟩ := hW.2.2.2.2 hb0
              obtain ⟨b5, e5, hc5⟩ := h6
              have hA5 := hc5 hb0
              refine ⟨rfl, fun K Q hK => wp_app (ad := ⟨b5, 0, none⟩) (c := 1) (news := pvCells ⟨k, ⟨id, tag, A, c, l⟩, gt, ct⟩) Tryz.elemPv _ _ rfl hP.list 1 (by go_simp) (by go_simp) rfl ?_ ?_ (by simp) (by simp) hW.2.1 (fun v' w' own2 hg2 => hK v' w' ?_ ⟨hset, hP.listed own2 hg2 hTg hvt (.inl rfl)⟩ ?_)⟩
              · intro j y hy
                rw [WideShapes.add_plain, hA5.cell, Nat.zero_add]
                exact hy
              · exact fun u hu => oneCell_pvs [⟨k, ⟨id, tag, A, c, l⟩, gt, ct⟩] u (by simpa [pvsCells] using hu)
              · exact ⟨hW.1.own hg2 hP.list (Nat.le_refl _), by have := hg2.size; have := hW.2.1; omega, arr_kept_type hW.2.2.1 hP.list (by decide) hg2, arr_kept hW.2.2.2.1 hg2 (fun r e => by cases e), fun hb => by rw [hset] at hb; cases hb⟩
              · intro k h
                match k, h with
                | 0, h => exact h
                | 1, h => exact h
                | 2, h => exact h
                | 3, h => exact h
                | 4, h => exact h
                | 5, h => exact h
                | 6, ⟨b5, h1, h2⟩ => exact ⟨b5, h1, (fun hb => (by rw [hset] at hb; cases hb))⟩
                | 7, h => rw [hb0] at h; cases h.1
                | 8, h => exact h
                | 9, h => exact h
                | (k + 10), h => exact h
            refine localsT_ord (by decide) (fun bs u W hbs hW hno hd => ?_) ?_
            · have h0 : u 0 = _ := hd 0 (by kernel_rfl)
              exact leaves_val rfl (v := .pointer (some ⟨g, 0, none⟩)) (by go_simp) rfl
            refine localsT_ord (by decide) (fun bs u W hbs hW hno hd => ?_) localsT_nil
            · have h8 : u 8 = _ := hd 8 (by kernel_rfl)
              exact leaves_val rfl (v := .pointer (some ⟨g, 5, none⟩)) (by go_simp) rfl
          · intro u10 W hW hV
            obtain ⟨_, PL⟩ := hV 7 (by decide)
            have h9 : u10 9 = _ := hV 9 (by decide)
            obtain ⟨g6, c6, e6⟩ := ownsRow_succ PL.list
            rw [e6] at PL
            have q5 := PL.box.cell 5
            rw [(prCells_get _ _ _ _ _ _).2.2.2.2.2.1] at q5
            have z5 := PL.box.frozen 5
            have S9 := PL.store
            dsimp only [List.nil_append, List.length_nil] at S9
            clear hV PL S5 C5 tag5 hW
            obtain ⟨W9, hW9⟩ : ∃ W9 : World, W9 = W.setCell ⟨g, 5, none⟩ (.slice (some ⟨g6, 0, none⟩) 1 c6) := ⟨_, rfl⟩
            have HW9 := Kp.mk hW9
            rw [← hW9] at S9
            go_simp
            go_wp2_with fail
            rw [← HW9.out]
            clear hW9 HW9 q5 z5 h6 h7 h9
            obtain ⟨M, hM⟩ : ∃ M, more.map TokA.plain = M := ⟨_, rfl⟩
            have hMl : M.length = more.length := by rw [← hM, List.length_map]
            rw [hM] at HGOc
            obtain ⟨⟨Rs, Rb⟩, hR⟩ : ∃ R, goL tag M (more.length + 2) (begL k ⟨id, l, tag⟩ M) 0 = R := ⟨_, rfl⟩
            have hXR := HGOc.out Rs Rb hR
            have hRw : Rs.work ≤ 2000 := by rw [hXR] at hX2; exact hX2
            have HXR := Kp.mk hXR
            have HR := Kp.mk hR
            have HMM := Kp.mk hM
            have S10 : PrSt w W9 g ⟨id, tag, A, c, l⟩ (.slice Am more.length cm) more (begL k ⟨id, l, tag⟩ M) [⟨k, ⟨id, tag, A, c, l⟩, gt, ct⟩] (.slice (some ⟨gu, 0, none⟩) more.length more.length) (.slice (some ⟨g6, 0, none⟩) 1 c6) (.slice none 0 0) :=
              S9.of (by show _ = List.replicate M.length false; rw [hMl]) rfl rfl rfl
            clear S9 hXR hX2 hR hM HGOc
            go_step3
            go_wp2_with fail
            go_loopw [9, 8] (fun i ft wr => ∃ (j f : Nat) (s : PrL) (L : List PvA) (vl vt : Value), i = .int .i64 j ∧ ft = .bool true ∧ s.texts.length ≤ 64 * j ∧ j ≤ L.length ∧ f + j = more.length + 2 ∧ PrSt w wr g ⟨id, tag, A, c, l⟩ (.slice Am more.length cm) more s L (.slice (some ⟨gu, 0, none⟩) more.length more.length) vl vt ∧ goL tag M f s j = (Rs, Rb) ∧ SizeOk M s) (fun i _ _ => more.length + 2 - (intOf i).toNat)
            case atStart => exact ⟨0, more.length + 2, _, _, _, _, rfl, rfl, Nat.le_refl _, by simp, rfl, S10, HR.out, begL_ok k _ M⟩
            case round =>
              clear S10
              obtain ⟨j, f, s, L, vl, vt, rfl, rfl, htx, hj, hf, hS, hgo0, hsz0⟩ := hrel
              have hgo := Kp.mk hgo0; have hsz := Kp.mk hsz0
              have hLe : L.length ≤ more.length + 1 := by
                have h1 := hsz0.le
                have h2 := congrArg List.length hS.eq
                rw [List.length_map] at h2
                omega
              clear hgo0 hsz0
              by_cases hlt : j < L.length
              · obtain ⟨f', rfl⟩ : ∃ f', f = f' + 1 := ⟨f - 1, by omega⟩
                obtain ⟨gl, cl, rfl⟩ : ∃ gl cl, vl = .slice (some ⟨gl, 0, none⟩) L.length cl := by
                  rcases hS.list.2 with ⟨_, h0⟩ | ⟨gl, cap, cur, rfl, _⟩
                  · omega
                  · exact ⟨gl, cap, rfl⟩
                have q5 := hS.box.cell 5
                rw [(prCells_get _ _ _ _ _ _).2.2.2.2.2.1] at q5
                have hLl : (pvsCells L).length = L.length * 4 := length_pvsCells L
                have r1 := hS.list.cellAt (j * 4 + 1) (by omega)
                rw [(pvsCells_get L j hlt).2.1] at r1
                obtain ⟨x, hx⟩ : ∃ x, L[j] = x := ⟨_, rfl⟩
                rw [hx] at r1
                have hxm : x ∈ L := by rw [← hx]; exact List.getElem_mem hlt
                have hxt := hS.mem x hxm
                have hsx : s.list[j]? = some (x.k, x.t.plain) := by rw [hS.eq, List.getElem?_map, List.getElem?_eq_getElem hlt, hx]; rfl
                have hxl : RdLinks w w.heap.size (.slice x.t.A x.t.l.length x.t.c) x.t.l := by
                  rcases hxt with h | h
                  · rw [h]; exact HL.out
                  · exact HM.out.2 _ h
                have hxo : OkT x.t := by
                  rcases hxt with h | h
                  · rw [h]; exact HTT.out
                  · exact HML.out _ h
                have hin := Kp.mk (show restGo tag M f' j (linksL tag M s (rootL x.k x.t.id) x.t.l) = (Rs, Rb) by have h := hgo.out; rw [goL_at hsx] at h; exact h)
                have HXL := Kp.mk hxl; have HXO := Kp.mk hxo; have HSX := Kp.mk hsx
                have hx4 := hxo.2.2.2
                have hx64 : x.t.l.length ≤ 64 := by
                  rcases hxt with h | h
                  · rw [h]; exact hl64
                  · have := hmd x.t.plain (List.mem_map_of_mem h)
                    exact this
                obtain ⟨xn, hxn⟩ : ∃ xn, x.t.l.length = xn := ⟨_, rfl⟩
                rw [hxn] at r1 hx4 hx64
                have HXN := Kp.mk hxn
                clear hgo hx hxm hxt hsx hxl hxo hxn
                go_wp2_with fail
                go_loopw [66, 8] (fun i ft wr => ∃ (q : Nat) (s : PrL) (L : List PvA) (vl vt : Value), i = .int .i64 q ∧ ft = .bool true ∧ s.texts.length ≤ 64 * j + q ∧ q ≤ xn ∧ PrSt w wr g ⟨id, tag, A, c, l⟩ (.slice Am more.length cm) more s L (.slice (some ⟨gu, 0, none⟩) more.length more.length) vl vt ∧ restGo tag M f' j (linksL tag M s (foldT (rootL x.k x.t.id) (x.t.l.take q)) (x.t.l.drop q)) = (Rs, Rb) ∧ SizeOk M s ∧ s.list[j]? = some (x.k, x.t.plain)) (fun i _ _ => xn - (intOf i).toNat)
                case atStart => exact ⟨0, s, L, _, vt, rfl, rfl, by omega, by omega, hS, hin.out, hsz.out, HSX.out⟩
                case round =>
                  clear hS hin hsz HSX q5 r1 hLl hLe hlt htx
                  obtain ⟨q, s, L, vl, vt, rfl, rfl, htx, hq, hS, hin0, hsz0, hsx0⟩ := hrel
                  have hin := Kp.mk hin0; have hsz := Kp.mk hsz0; have HSX := Kp.mk hsx0
                  have hLe : L.length ≤ more.length + 1 := by
                    have h1 := hsz0.le
                    have h2 := congrArg List.length hS.eq
                    rw [List.length_map] at h2
                    omega
                  have hlt : j < L.length := by
                    have h1 := (List.getElem?_eq_some_iff.1 hsx0).1
                    rw [hS.eq, List.length_map] at h1
                    exact h1
                  clear hin0 hsz0 hsx0
                  by_cases hqn : q < xn
                  · have hql : q < x.t.l.length := by rw [HXN.out]; exact hqn
                    obtain ⟨Ax, cx, e9, _, hcl⟩ := HXL.out.cells
                    obtain ⟨bx, ox, eA, hbx, hcl2⟩ := hcl (by omega)
                    clear hcl
                    cases e9
                    obtain ⟨⟨ya, yb⟩, hy⟩ : ∃ y, x.t.l[q] = y := ⟨_, rfl⟩
                    have r2 := hcl2 q hql
                    rw [hy] at r2
                    obtain ⟨r2, r3⟩ := r2
                    have hyo := HXO.out.2.2.1 (ya, yb) (by rw [← hy]; exact List.getElem_mem hql)
                    have r2 := ((bcell hS.ext).1 bx _ hbx).trans r2
                    have r3 := ((bcell hS.ext).1 bx _ hbx).trans r3
                    have hstep := Kp.mk (show restGo tag M f' j (if yb = [] then linksL tag M ⟨s.used, s.list, s.texts ++ [ya], s.work, s.sum⟩ (foldT (rootL x.k x.t.id) (x.t.l.take (q + 1))) (x.t.l.drop (q + 1)) else
                        if (thirdL tag M s (foldT (rootL x.k x.t.id) (x.t.l.take q)) (ya, yb)).2 = true then linksL tag M (thirdL tag M s (foldT (rootL x.k x.t.id) (x.t.l.take q)) (ya, yb)).1 (foldT (rootL x.k x.t.id) (x.t.l.take (q + 1))) (x.t.l.drop (q + 1)) else ((thirdL tag M s (foldT (rootL x.k x.t.id) (x.t.l.take q)) (ya, yb)).1, false)) = (Rs, Rb) from by
                      have h := hin.out
                      rw [links_step hql, hy] at h
                      exact h)
                    have hle : ∀ W, (binOp .eql 72 (.agg #[.string (ofL ya), .string (ofL yb)]) (.agg #[.string (ofL ya), .string ⟨#[]⟩])).run Tryz.prog W = .ok (.bool (linkEq (ya, yb) (ya, []))) W := fun W => link_eql (ya, yb) (ya, []) W
                    rw [eA]
                    clear hcl2 hy hql hin eA
                    by_cases hyb : yb = []
                    · subst hyb
                      rw [show linkEq (ya, []) (ya, []) = true from (linkEq_iff _ _).2 rfl] at hle
                      have hst2 := Kp.mk (show restGo tag M f' j (linksL tag M ⟨s.used, s.list, s.texts ++ [ya], s.work, s.sum⟩ (foldT (rootL x.k x.t.id) (x.t.l.take (q + 1))) (x.t.l.drop (q + 1))) = (Rs, Rb) by have h := hstep.out; rw [if_pos rfl] at h; exact h)
                      clear hstep
                      have HX2 := Kp.mk (show ∀ r, vt.ownBlock = some r → r < wr.heap.size from fun r e => (hS.texts.lt r e).2)
                      obtain ⟨W16, hW16⟩ : ∃ W16 : World, W16 = wr.alloc (.cells #[.string (ofL ya), .string (ofL [])] 72) := ⟨_, rfl⟩
                      have E16 : Ext wr W16 := by rw [hW16]; exact (Ext.rfl' wr).al _
                      have D16 : Arr W16 wr.heap.size 72 [.string (ofL ya), .string (ofL [])] := by rw [hW16]; exact Arr.new wr _ _
                      have S16 := hS.up E16
                      go_upto_region 16 with fail
                      rw [← hW16]
                      clear hW16 E16 hS hle r2 r3 hbx
                      have hj9 : j ≤ 9 := by omega
                      refine wp_region_stages [8] (fun bs W => Ext w W ∧ w.heap.size ≤ W.heap.size ∧ Arr W g 79 (prCells ⟨id, tag, A, c, l⟩ (.slice Am more.length cm) (.slice (some ⟨gu, 0, none⟩) more.length more.length) vl vt s.work) ∧ Arr W wr.heap.size 72 [.string (ofL ya), .string (ofL [])] ∧ (bs[0]? = some false → PrSt w W g ⟨id, tag, A, c, l⟩ (.slice Am more.length cm) more s L (.slice (some ⟨gu, 0, none⟩) more.length more.length) vl vt)) (fun bs i v W => match i with
                        | 0 => v = .pointer (some ⟨g, 0, none⟩)
                        | 1 => v = .pointer (some ⟨g, 0, none⟩)
                        | 2 => v = .pointer (some ⟨g, 0, none⟩)
                        | 3 => v = .pointer (some ⟨g, 6, none⟩)
                        | 4 => v = vt
                        | 5 => v = .pointer (some ⟨wr.heap.size, 0, none⟩)
                        | 6 => v = .string (ofL ya)
                        | 7 => ∃ b5, v = .slice (some ⟨b5, 0, none⟩) 1 1 ∧ (bs[0]? = some false → Arr W b5 9 [.string (ofL ya)])
                        | 8 => bs[0]? = some true ∧ PrTx w W g ⟨id, tag, A, c, l⟩ (.slice Am more.length cm) more s L (.slice (some ⟨gu, 0, none⟩) more.length more.length) vl vt v ya
                        | 9 => v = .pointer (some ⟨g, 0, none⟩)
                        | 10 => v = .pointer (some ⟨g, 6, none⟩)
                        | _ => True) 11 (cs_inj (by decide)) (by decide) (by kernel_rfl) (by kernel_rfl) (by kernel_rfl) (by decide) (by kernel_rfl) (by kernel_rfl) (by kernel_rfl) (⟨S16.ext.dr, S16.ext.size, S16.box, D16, fun _ => S16.drew⟩) (fun bs W1 W2 ⟨a, p, q, r, k⟩ e => ⟨a.tr e, by have := e.size; omega, q.ext e q.lt, r.ext e r.lt, fun hb => (k hb).up e⟩) ?_ ?_ ?_
                      · intro bs i v W1 W2 e1 e2 h
                        match i, h with
                        | 0, h => exact h
                        | 1, h => exact h
                        | 2, h => exact h
                        | 3, h => exact h
                        | 4, h => exact h
                        | 5, h => exact h
                        | 6, h => exact h
                        | 7, ⟨b5, h1, h2⟩ => exact ⟨b5, h1, fun hb => (h2 hb).ext e2 (h2 hb).lt⟩
                        | 8, h => exact ⟨h.1, h.2.up e2⟩
                        | 9, h => exact h
                        | 10, h => exact h
                        | (i + 11), h => exact h
                      · refine localsT_ord (by decide) (fun bs u W hbs hW hno hd => leaves_val rfl (v := .pointer (some ⟨g, 0, none⟩)) (by go_simp) rfl) ?_
                        refine localsT_ord (by decide) (fun bs u W hbs hW hno hd => leaves_val rfl (v := .pointer (some ⟨g, 0, none⟩)) (by go_simp) rfl) ?_
                        refine localsT_ord (by decide) (fun bs u W hbs hW hno hd => ?_) ?_
                        · have h1 : u 1 = _ := hd 1 (by kernel_rfl)
                          exact leaves_val rfl (v := .pointer (some ⟨g, 0, none⟩)) (by go_simp) rfl
                        refine localsT_ord (by decide) (fun bs u W hbs hW hno hd => ?_) ?_
                        · have h2 : u 2 = _ := hd 2 (by kernel_rfl)
                          exact leaves_val rfl (v := .pointer (some ⟨g, 6, none⟩)) (by go_simp) rfl
                        refine localsT_ord (by decide) (fun bs u W hbs hW hno hd => ?_) ?_
                        · have h3 : u 3 = _ := hd 3 (by kernel_rfl)
                          have q6 := hW.2.2.1.cell 6
                          rw [(prCells_get _ _ _ _ _ _).2.2.2.2.2.2.1] at q6
                          exact leaves_val rfl (v := vt) (by go_simp) rfl
                        refine localsT_ord (by decide) (fun bs u W hbs hW hno hd => leaves_val rfl (v := .pointer (some ⟨wr.heap.size, 0, none⟩)) (by go_simp) rfl) ?_
                        refine localsT_ord (by decide) (fun bs u W hbs hW hno hd => ?_) ?_
                        · have h5 : u 5 = _ := hd 5 (by kernel_rfl)
                          have q0 := hW.2.2.2.1.cell 0
                          simp only [List.getElem?_cons_zero] at q0
                          exact leaves_val rfl (v := .string (ofL ya)) (by go_simp) rfl
                        refine localsT_ord (by decide) (fun bs u W hbs hW hno hd => ?_) ?_
                        · have h6 : u 6 = _ := hd 6 (by kernel_rfl)
                          exact leaves_new rfl (v := .slice (some ⟨W.heap.size, 0, none⟩) 1 1) (w' := W.alloc (.cells #[.string (ofL ya)] 9)) (by go_simp) ((Ext.rfl' W).al _) ⟨_, rfl, fun _ => Arr.new W _ [.string (ofL ya)]⟩
                        refine localsT_turn 0 rfl (fun q hq => cs_inj (cs := [8]) (by decide) 0 q _ rfl hq) (fun bs u W hbs hb0 hW hd hcs => ?_) ?_
                        · have h4 : u 4 = _ := hd 4 (by kernel_rfl)
                          have h7 := hd 7 (by kernel_rfl)
                          have hset : (bs.set 0 true)[0]? = some true := List.getElem?_set_self (by rw [hbs]; decide)
                          have hP := hW.2.2.2.2 hb0
                          obtain ⟨b5, e5, hc5⟩ := h7
                          have hA5 := hc5 hb0
                          refine ⟨rfl, fun K Q hK => wp_app_blk (ad := ⟨b5, 0, none⟩) (c := 1) (news := [Str ya]) Tryz.elemStr _ _ rfl hP.texts 1 (by go_simp) (by go_simp) rfl ?_ (by simp [Str, Value.oneCell']) (by omega) (by omega) hW.2.1 (fun v' w' own2 hg2 hn2 => hK v' w' ?_ ⟨hset, hP.told own2 hg2 hn2⟩ ?_)⟩
                          · intro j y hy
                            rw [WideShapes.add_plain, hA5.cell, Nat.zero_add]
                            exact hy
                          · exact ⟨hW.1.own hg2 hP.texts (Nat.le_refl _), by have := hg2.size; have := hW.2.1; omega, arr_kept_type hW.2.2.1 hP.texts (by decide) hg2, arr_kept hW.2.2.2.1 hg2 (fun r e => by have := HX2.out r e; omega), fun hb => by rw [hset] at hb; cases hb⟩
                          · intro k h
                            match k, h with
                            | 0, h => exact h
                            | 1, h => exact h
                            | 2, h => exact h
                            | 3, h => exact h
                            | 4, h => exact h
                            | 5, h => exact h
                            | 6, h => exact h
                            | 7, ⟨b5, h1, h2⟩ => exact ⟨b5, h1, (fun hb => (by rw [hset] at hb; cases hb))⟩
                            | 8, h => rw [hb0] at h; cases h.1
                            | 9, h => exact h
                            | 10, h => exact h
                            | (k + 11), h => exact h
                        refine localsT_ord (by decide) (fun bs u W hbs hW hno hd => ?_) ?_
                        · have h0 : u 0 = _ := hd 0 (by kernel_rfl)
                          exact leaves_val rfl (v := .pointer (some ⟨g, 0, none⟩)) (by go_simp) rfl
                        refine localsT_ord (by decide) (fun bs u W hbs hW hno hd => ?_) localsT_nil
                        · have h9 : u 9 = _ := hd 9 (by kernel_rfl)
                          exact leaves_val rfl (v := .pointer (some ⟨g, 6, none⟩)) (by go_simp) rfl
                      · intro u16 W hW hV
                        obtain ⟨_, PT⟩ := hV 8 (by decide)
                        have h10 : u16 10 = _ := hV 10 (by decide)
                        obtain ⟨g7, c7, e7⟩ := ownsRow_succ PT.texts
                        rw [e7] at PT
                        have q6 := PT.box.cell 6
                        rw [(prCells_get _ _ _ _ _ _).2.2.2.2.2.2.1] at q6
                        have z6 := PT.box.frozen 6
                        have S18 := PT.store
                        clear hV PT S16 D16 hW
                        go_simp
                        go_wp2
                        go_roundw
                        case rel => exact ⟨q + 1, ⟨s.used, s.list, s.texts ++ [ya], s.work, s.sum⟩, L, vl, _, by go_num, rfl, by dsimp only; rw [List.length_append, List.length_singleton]; omega, by omega, S18, hst2.out, ⟨hsz.out.1, hsz.out.2⟩, HSX.out⟩
                        case measure => simp [intOf]; omega
                    · rw [show linkEq (ya, yb) (ya, []) = false from by
                        rw [Bool.eq_false_iff]
                        intro h
                        have := (linkEq_iff _ _).1 h
                        exact hyb (congrArg Prod.snd this)] at hle
                      have hst2 := Kp.mk (show restGo tag M f' j (if (thirdL tag M s (foldT (rootL x.k x.t.id) (x.t.l.take q)) (ya, yb)).2 = true then linksL tag M (thirdL tag M s (foldT (rootL x.k x.t.id) (x.t.l.take q)) (ya, yb)).1 (foldT (rootL x.k x.t.id) (x.t.l.take (q + 1))) (x.t.l.drop (q + 1)) else ((thirdL tag M s (foldT (rootL x.k x.t.id) (x.t.l.take q)) (ya, yb)).1, false)) = (Rs, Rb) by have h := hstep.out; rw [if_neg hyb] at h; exact h)
                      clear hstep
                      obtain ⟨gl, cl, rfl⟩ : ∃ gl cl, vl = .slice (some ⟨gl, 0, none⟩) L.length cl := by
                        rcases hS.list.2 with ⟨_, h0⟩ | ⟨gl, cap, cur, rfl, _⟩
                        · omega
                        · exact ⟨gl, cap, rfl⟩
                      obtain ⟨x', hx'⟩ : ∃ x', L[j] = x' := ⟨_, rfl⟩
                      have hxm' : x' ∈ L := by rw [← hx']; exact List.getElem_mem hlt
                      have hpe : x'.plain = (x.k, x.t.plain) := by
                        have h := HSX.out
                        rw [hS.eq, List.getElem?_map, List.getElem?_eq_getElem hlt, hx'] at h
                        exact Option.some.inj h
                      have hk' : x'.k = x.k := congrArg Prod.fst hpe
                      have hi' : x'.t.id = x.t.id := congrArg (fun p : List UInt8 × TokL => p.2.id) hpe
                      have hl' : x'.t.l = x.t.l := congrArg (fun p : List UInt8 × TokL => p.2.links) hpe
                      obtain ⟨TG, hTG⟩ : ∃ TG, foldT (rootL x.k x.t.id) (x.t.l.take q) = TG := ⟨_, rfl⟩
                      have lTG : TG.length = 32 := by rw [← hTG]; exact length_lastL x.k x.t.id _
                      have hwk : s.work ≤ 2000 := by
                        have h := congrArg (fun p : PrL × Bool => p.1.work) hst2.out
                        have h1 := restGo_rise (T := tag) (more := M) (f := f') (i := j) (x := (if (thirdL tag M s (foldT (rootL x.k x.t.id) (x.t.l.take q)) (ya, yb)).2 = true then linksL tag M (thirdL tag M s (foldT (rootL x.k x.t.id) (x.t.l.take q)) (ya, yb)).1 (foldT (rootL x.k x.t.id) (x.t.l.take (q + 1))) (x.t.l.drop (q + 1)) else ((thirdL tag M s (foldT (rootL x.k x.t.id) (x.t.l.take q)) (ya, yb)).1, false)))
                        have h2 : s.work ≤ (if (thirdL tag M s (foldT (rootL x.k x.t.id) (x.t.l.take q)) (ya, yb)).2 = true then linksL tag M (thirdL tag M s (foldT (rootL x.k x.t.id) (x.t.l.take q)) (ya, yb)).1 (foldT (rootL x.k x.t.id) (x.t.l.take (q + 1))) (x.t.l.drop (q + 1)) else ((thirdL tag M s (foldT (rootL x.k x.t.id) (x.t.l.take q)) (ya, yb)).1, false)).1.work := by
                          split
                          · exact Nat.le_trans third_rise (links_rise _ _ _)
                          · exact third_rise
                        dsimp only at h
                        omega
                      rw [hTG] at hst2
                      have hus : s.used.length = more.length := hsz.out.1.trans hMl
                      obtain ⟨W17, hW17⟩ : ∃ W17 : World, W17 = wr.alloc (.cells #[.string (ofL ya), .string (ofL yb)] 72) := ⟨_, rfl⟩
                      have E17 : Ext wr W17 := by rw [hW17]; exact (Ext.rfl' wr).al _
                      have D17 : Arr W17 wr.heap.size 72 [.string (ofL ya), .string (ofL yb)] := by rw [hW17]; exact Arr.new wr _ _
                      have S17 := hS.up E17
                      have hLl : (pvsCells L).length = L.length * 4 := length_pvsCells L
                      have C3 := Kp.mk (show ∀ W, Ext W17 W → W.cell? ⟨gl, j * 4 + 3, none⟩ = some (.slice (some ⟨x'.g, 0, none⟩) (xn + 1) x'.c) from fun W hW => by
                        have h := (S17.up hW).list.cellAt (j * 4 + 3) (by omega)
                        rw [(pvsCells_get L j hlt).2.2.2, hx', hl', HXN.out] at h
                        exact h)
                      have C4 := Kp.mk (show ∀ W, Ext W17 W → W.cell? ⟨x'.g, q, none⟩ = some (.string (ofL TG)) from fun W hW => by
                        have h := ((S17.up hW).tags x' hxm').1.cellAt q (by rw [hl', HXN.out]; omega)
                        rw [hk', hi', hl', List.getElem?_map, tagsL_get x.k x.t.id x.t.l q (by rw [HXN.out]; omega)] at h
                        rw [h]
                        show some (Str _) = _
                        rw [show lastL x.k x.t.id (x.t.l.take q) = TG from hTG]; rfl)
                      have cTh := Kp.mk (show ∀ W, Ext W17 W → _ from fun W hW => vthird_any (S17.up hW) hT HM.out hus hn (fun d hd => ⟨by have := (HML.out d hd).1; omega, by have := (HML.out d hd).2.1; omega, (HML.out d hd).short, (HML.out d hd).2.2.2⟩) (by have := HTT.out.2.1; dsimp only at this ⊢; omega) (by omega) (by omega) TG (ya, yb) (by omega) (by dsimp only at hyo ⊢; omega))
                      rw [HMM.out] at cTh
                      dsimp only at cTh
                      have hpre := Kp.mk (show ∀ y, (thirdL tag M s TG (ya, yb)).1.list[j]? = some y ↔ s.list[j]? = some y from fun y => by
                        obtain ⟨r, hr, _⟩ := third_list (T := tag) (more := M) (s := s) (tag := TG) (l := (ya, yb))
                        rw [hr, List.getElem?_append_left (by rw [hS.eq, List.length_map]; exact hlt)])
                      have hszT := Kp.mk (show (thirdL tag M s TG (ya, yb)).2 = true → SizeOk M (thirdL tag M s TG (ya, yb)).1 from fun h => hsz.out.third h)
                      have htxT := Kp.mk (show (thirdL tag M s TG (ya, yb)).1.texts = s.texts from third_texts)
                      obtain ⟨r, hr⟩ : ∃ r, thirdL tag M s TG (ya, yb) = r := ⟨_, rfl⟩
                      rw [hr] at cTh hst2 hpre hszT htxT
                      go_upto_region 17 with fail
                      rw [← hW17]
                      clear hW17 E17 hS hle r2 r3 hbx hx' hpe hk' hi' hl' hTG hr hxm' hus
                      refine wp_region_tails (fun i v W => match i with
                        | 0 => v = .pointer (some ⟨g, 0, none⟩)
                        | 1 => v = .pointer (some ⟨g, 0, none⟩)
                        | 2 => v = .pointer (some ⟨g, 0, none⟩)
                        | 3 => v = .pointer (some ⟨g, 5, none⟩)
                        | 4 => v = .slice (some ⟨gl, 0, none⟩) L.length cl
                        | 5 => v = .int .i64 j
                        | 6 => v = .pointer (some ⟨gl, j * 4, none⟩)
                        | 7 => v = .pointer (some ⟨gl, j * 4 + 3, none⟩)
                        | 8 => v = .slice (some ⟨x'.g, 0, none⟩) (xn + 1) x'.c
                        | 9 => v = .int .i64 q
                        | 10 => v = .pointer (some ⟨x'.g, q, none⟩)
                        | 11 => v = .string (ofL TG)
                        | 12 => v = .agg #[.string (ofL ya), .string (ofL yb)]
                        | _ => True) 13 (by kernel_rfl) (by kernel_rfl) (by kernel_rfl) (by decide) (by kernel_rfl) (by kernel_rfl) (by kernel_rfl) ?_ ?_ ?_
                      · intro i v W1 W2 e1 e2 h
                        match i, h with
                        | 0, h => exact h
                        | 1, h => exact h
                        | 2, h => exact h
                        | 3, h => exact h
                        | 4, h => exact h
                        | 5, h => exact h
                        | 6, h => exact h
                        | 7, h => exact h
                        | 8, h => exact h
                        | 9, h => exact h
                        | 10, h => exact h
                        | 11, h => exact h
                        | 12, h => exact h
                        | (i + 13), h => exact h
                      · refine localsR_cons (fun u W hW hd => leaves_val rfl (v := .pointer (some ⟨g, 0, none⟩)) (by go_simp) rfl) ?_
                        refine localsR_cons (fun u W hW hd => leaves_val rfl (v := .pointer (some ⟨g, 0, none⟩)) (by go_simp) rfl) ?_
                        refine localsR_cons (fun u W hW hd => ?_) ?_
                        · have h1 : u 1 = _ := hd 1 (by kernel_rfl)
                          exact leaves_val rfl (v := .pointer (some ⟨g, 0, none⟩)) (by go_simp) rfl
                        refine localsR_cons (fun u W hW hd => ?_) ?_
                        · have h2 : u 2 = _ := hd 2 (by kernel_rfl)
                          exact leaves_val rfl (v := .pointer (some ⟨g, 5, none⟩)) (by go_simp) rfl
                        refine localsR_cons (fun u W hW hd => ?_) ?_
                        · have h3 : u 3 = _ := hd 3 (by kernel_rfl)
                          have q5 := (S17.box.ext hW S17.box.lt).cell 5
                          rw [(prCells_get _ _ _ _ _ _).2.2.2.2.2.1] at q5
                          exact leaves_val rfl (v := .slice (some ⟨gl, 0, none⟩) L.length cl) (by go_simp) rfl
                        refine localsR_cons (fun u W hW hd => leaves_val rfl (v := .int .i64 j) (by go_simp) rfl) ?_
                        refine localsR_cons (fun u W hW hd => ?_) ?_
                        · have h4 : u 4 = _ := hd 4 (by kernel_rfl)
                          have h5 : u 5 = _ := hd 5 (by kernel_rfl)
                          exact leaves_val rfl (v := .pointer (some ⟨gl, j * 4, none⟩)) (by go_simp) rfl
                        refine localsR_cons (fun u W hW hd => ?_) ?_
                        · have h6 : u 6 = _ := hd 6 (by kernel_rfl)
                          exact leaves_val rfl (v := .pointer (some ⟨gl, j * 4 + 3, none⟩)) (by go_simp) rfl
                        refine localsR_cons (fun u W hW hd => ?_) ?_
                        · have h7 : u 7 = _ := hd 7 (by kernel_rfl)
                          have r3 := C3.out W hW
                          exact leaves_val rfl (v := .slice (some ⟨x'.g, 0, none⟩) (xn + 1) x'.c) (by go_simp) rfl
                        refine localsR_cons (fun u W hW hd => leaves_val rfl (v := .int .i64 q) (by go_simp) rfl) ?_
                        refine localsR_cons (fun u W hW hd => ?_) ?_
                        · have h8 : u 8 = _ := hd 8 (by kernel_rfl)
                          have h9 : u 9 = _ := hd 9 (by kernel_rfl)
                          exact leaves_val rfl (v := .pointer (some ⟨x'.g, q, none⟩)) (by go_simp; omega) rfl
                        refine localsR_cons (fun u W hW hd => ?_) ?_
                        · have h10 : u 10 = _ := hd 10 (by kernel_rfl)
                          have r4 := C4.out W hW
                          exact leaves_val rfl (v := .string (ofL TG)) (by go_simp) rfl
                        refine localsR_cons (fun u W hW hd => ?_) localsR_nil
                        · have q0 := (D17.ext hW D17.lt).cell 0; have q1 := (D17.ext hW D17.lt).cell 1
                          simp only [List.getElem?_cons_zero, List.getElem?_cons_succ] at q0 q1
                          exact leaves_val rfl (v := .agg #[.string (ofL ya), .string (ofL yb)]) (by go_simp) rfl
                      · intro u17 W18 hW18 hV
                        have h0 : u17 0 = _ := hV 0 (by decide)
                        have h11 : u17 11 = _ := hV 11 (by decide)
                        have h12 : u17 12 = _ := hV 12 (by decide)
                        have cTh := Kp.mk (cTh.out W18 hW18)
                        clear hV S17 D17 hW18 C3 C4
                        go_simp
                        go_wp2_with fail
                        refine cTh.out.mono ?_
                        obtain ⟨s', b'⟩ := r
                        dsimp only at hst2 hpre hszT htxT
                        rintro e W19 ⟨L', vl', rfl, S19⟩
                        dsimp only at S19
                        clear cTh h0 h11 h12
                        cases b' with
                        | true =>
                          have hst3 := Kp.mk (show restGo tag M f' j (linksL tag M s' (foldT (rootL x.k x.t.id) (x.t.l.take (q + 1))) (x.t.l.drop (q + 1))) = (Rs, Rb) by have h := hst2.out; rw [if_pos rfl] at h; exact h)
                          have hsz3 := Kp.mk (hszT.out rfl)
                          clear hst2 hszT
                          go_wp2
                          go_roundw
                          case rel => exact ⟨q + 1, s', L', vl', vt, by go_num, rfl, by rw [htxT.out]; omega, by omega, S19, hst3.out, hsz3.out, (hpre.out _).2 HSX.out⟩
                          case measure => simp [intOf]; omega
                        | false =>
                          have hfin := hst2.out
                          rw [if_neg (by simp)] at hfin
                          have hfin : (s', false) = (Rs, Rb) := hfin
                          obtain rfl : Rb = false := (congrArg Prod.snd hfin).symm
                          have hs' : s' = Rs := congrArg Prod.fst hfin
                          rw [hs'] at S19
                          clear hfin hst2 hs' hszT hpre htxT
                          have hSE := S19
                          obtain ⟨rb, hrb⟩ : ∃ rb, rb = false := ⟨_, rfl⟩
                          have q4 := hSE.box.cell 4
                          rw [(prCells_get _ _ _ _ _ _).2.2.2.2.1] at q4
                          go_wp2_with fail
                          go_loopw [108, 8] (fun i ft wr => ∃ kk : Nat, i = .int .i64 kk ∧ ft = .bool (rb && (Rs.used.take kk).all _root_.id) ∧ kk ≤ more.length ∧ PrSt w wr g ⟨id, tag, A, c, l⟩ (.slice Am more.length cm) more Rs _ (.slice (some ⟨gu, 0, none⟩) more.length more.length) _ _) (fun i _ _ => more.length - (intOf i).toNat)
                          case atStart => exact ⟨0, rfl, by simp [hrb], by omega, hSE⟩
                          case round =>
                            clear hSE
                            obtain ⟨kk, rfl, rfl, hkk, hSk⟩ := hrel
                            have hul : Rs.used.length = more.length := by have h := hSk.used.1; rw [List.length_map] at h; omega
                            by_cases hlk : kk < more.length
                            · have u4 := hSk.used.cellAt kk (by omega)
                              rw [bool_cell (by omega)] at u4
                              have hal := Kp.mk (all_take (l := Rs.used) (k := kk) (by omega))
                              obtain ⟨ub, hub⟩ : ∃ ub, Rs.used[kk]'(by omega) = ub := ⟨_, rfl⟩
                              obtain ⟨b1, hb1⟩ : ∃ b1, (rb && (Rs.used.take kk).all _root_.id) = b1 := ⟨_, rfl⟩
                              have hnx := Kp.mk (show (rb && (Rs.used.take (kk + 1)).all _root_.id) = (b1 && ub) by rw [hal.out, ← Bool.and_assoc, hb1, hub])
                              rw [hub] at u4
                              rw [hb1]
                              clear hub hb1 hal
                              cases b1 with
                              | true =>
                                go_wp2
                                go_roundw
                                case rel => exact ⟨kk + 1, by go_num, by rw [hnx.out]; rfl, by omega, hSk⟩
                                case measure => simp [intOf]; omega
                              | false =>
                                go_wp2
                                go_roundw
                                case rel => exact ⟨kk + 1, by go_num, by rw [hnx.out]; rfl, by omega, hSk⟩
                                case measure => simp [intOf]; omega
                            · obtain ⟨b1, hb1⟩ : ∃ b1, (rb && Rs.used.all _root_.id) = b1 := ⟨_, rfl⟩
                              rw [List.take_of_length_le (by omega), hb1]
                              have hX : X = (Rs, if b1 = true then 0 else 11) := by rw [HXR.out, ← hb1, hrb]
                              clear hb1 hrb HXR
                              subst hX
                              cases b1 with
                              | true =>
                                go_wp2
                                exact bodyPost_ret (v := .tuple #[.pointer (some ⟨g, 0, none⟩), .int .i64 0]) (by simp [results, Tryz.results47, go_sem]) rfl ⟨g, _, _, _, _, rfl, hSk⟩
                              | false =>
                                go_wp2
                                exact bodyPost_ret (v := .tuple #[.pointer (some ⟨g, 0, none⟩), .int .i64 11]) (by simp [results, Tryz.results47, go_sem]) rfl ⟨g, _, _, _, _, rfl, hSk⟩
                  · have hq2 : q = xn := by omega
                    have hgo := Kp.mk (show goL tag M f' s (j + 1) = (Rs, Rb) by
                      have h := hin.out
                      rw [List.drop_eq_nil_of_le (by rw [HXN.out]; omega)] at h
                      exact h)
                    clear hin
                    go_wp2
                    go_roundw
                    case rel => exact ⟨j + 1, f', s, L, vl, vt, by go_num, rfl, by omega, by omega, by omega, hS, hgo.out, hsz.out⟩
                    case measure => simp [intOf]; omega
              · have hfin := hgo.out
                rw [goL_end (by have h2 := congrArg List.length hS.eq; rw [List.length_map] at h2; omega)] at hfin
                obtain rfl : Rb = true := (congrArg Prod.snd hfin).symm
                have hs' : s = Rs := congrArg Prod.fst hfin
                have q5 := hS.box.cell 5
                rw [(prCells_get _ _ _ _ _ _).2.2.2.2.2.1] at q5
                obtain ⟨Al, cl, rfl⟩ := own_slice hS.list
                have hSE := hS
                rw [hs'] at hSE
                obtain ⟨rb, hrb⟩ : ∃ rb, rb = true := ⟨_, rfl⟩
                clear hfin hgo hS hs' htx hj hf hLe hsz
                have q4 := hSE.box.cell 4
                rw [(prCells_get _ _ _ _ _ _).2.2.2.2.1] at q4
                go_wp2_with fail
                go_loopw [108, 8] (fun i ft wr => ∃ kk : Nat, i = .int .i64 kk ∧ ft = .bool (rb && (Rs.used.take kk).all _root_.id) ∧ kk ≤ more.length ∧ PrSt w wr g ⟨id, tag, A, c, l⟩ (.slice Am more.length cm) more Rs _ (.slice (some ⟨gu, 0, none⟩) more.length more.length) _ _) (fun i _ _ => more.length - (intOf i).toNat)
                case atStart => exact ⟨0, rfl, by simp [hrb], by omega, hSE⟩
                case round =>
                  clear hSE
                  obtain ⟨kk, rfl, rfl, hkk, hSk⟩ := hrel
                  have hul : Rs.used.length = more.length := by have h := hSk.used.1; rw [List.length_map] at h; omega
                  by_cases hlk : kk < more.length
                  · have u4 := hSk.used.cellAt kk (by omega)
                    rw [bool_cell (by omega)] at u4
                    have hal := Kp.mk (all_take (l := Rs.used) (k := kk) (by omega))
                    obtain ⟨ub, hub⟩ : ∃ ub, Rs.used[kk]'(by omega) = ub := ⟨_, rfl⟩
                    obtain ⟨b1, hb1⟩ : ∃ b1, (rb && (Rs.used.take kk).all _root_.id) = b1 := ⟨_, rfl⟩
                    have hnx := Kp.mk (show (rb && (Rs.used.take (kk + 1)).all _root_.id) = (b1 && ub) by rw [hal.out, ← Bool.and_assoc, hb1, hub])
                    rw [hub] at u4
                    rw [hb1]
                    clear hub hb1 hal
                    cases b1 with
                    | true =>
                      go_wp2
                      go_roundw
                      case rel => exact ⟨kk + 1, by go_num, by rw [hnx.out]; rfl, by omega, hSk⟩
                      case measure => simp [intOf]; omega
                    | false =>
                      go_wp2
                      go_roundw
                      case rel => exact ⟨kk + 1, by go_num, by rw [hnx.out]; rfl, by omega, hSk⟩
                      case measure => simp [intOf]; omega
                  · obtain ⟨b1, hb1⟩ : ∃ b1, (rb && Rs.used.all _root_.id) = b1 := ⟨_, rfl⟩
                    rw [List.take_of_length_le (by omega), hb1]
                    have hX : X = (Rs, if b1 = true then 0 else 11) := by rw [HXR.out, ← hb1, hrb]
                    clear hb1 hrb HXR
                    subst hX
                    cases b1 with
                    | true =>
                      go_wp2
                      exact bodyPost_ret (v := .tuple #[.pointer (some ⟨g, 0, none⟩), .int .i64 0]) (by simp [results, Tryz.results47, go_sem]) rfl ⟨g, _, _, _, _, rfl, hSk⟩
                    | false =>
                      go_wp2
                      exact bodyPost_ret (v := .tuple #[.pointer (some ⟨g, 0, none⟩), .int .i64 11]) (by simp [results, Tryz.results47, go_sem]) rfl ⟨g, _, _, _, _, rfl, hSk⟩
        · have t1 : (Z == tag) = false := by simp [hbd]
          have hx := HT8b.out hbd
          subst hx
          rw [t1] at h6
          clear hbd t1 C5 tag5
          go_simp
          go_wp2
          exact bodyPost_ret (v := .tuple #[.pointer (some ⟨g, 0, none⟩), .int .i64 8]) (by simp [results, Tryz.results47, go_sem]) rfl ⟨g, [], _, _, _, rfl, S5.of rfl rfl rfl rfl⟩
end Go.Proofs.YtejhiekikblbiaaGreatDoor

namespace Go.Proofs.YtejhiekikblbiaaGreatDoor
open Go.RowKit

/-- What is told. -/
def toldL (r : PrL × Nat) : List (List UInt8) := if r.2 = 0 then r.1.texts else []
def VerPost (w : World) (r : PrL × Nat) (e : Ending) (w' : World) : Prop := ∃ v, e = .returned (.tuple #[v, .int .i64 r.2]) ∧ w'.ownsRow w.heap.size 9 1 v (toldL r).length ((toldL r).map Str) ∧ Ext w w'
set_option maxRecDepth 100000 in
set_option maxHeartbeats 4000000 in
theorem verify_any (k id tag : List UInt8) (A : Option Addr) (c : Nat) (l : List LinkL) (Am : Option Addr) (cm : Nat) (more : List TokA) (w : World) (hT : Tab w) (hl : RdLinks w w.heap.size (.slice A l.length c) l) (hm : RdToks w w.heap.size (.slice Am more.length cm) more) (hk : k.length ≤ 10000) (ht : OkT ⟨id, tag, A, c, l⟩) (hml : ∀ d ∈ more, OkT d) (hn : more.length ≤ 10000) :
    Calls Tryz.prog 18 #[.string (ofL k), bunV id (.slice A l.length c) tag (.slice Am more.length cm)] w (VerPost w (proveL k ⟨id, l, tag⟩ (more.map TokA.plain))) := by
  obtain ⟨W0, hW0, E0, B1⟩ := bun_box w (.string (ofL id)) (.slice A l.length c) (.string (ofL tag)) (.slice Am more.length cm)
  have cR := Kp.mk (vrun_any k id tag A c l Am cm more W0 (hT.ext E0) (rd_at hl E0) (hm.at E0) hk ht hml hn)
  obtain ⟨X, hX⟩ : ∃ X, proveL k ⟨id, l, tag⟩ (more.map TokA.plain) = X := ⟨_, rfl⟩
  rw [hX] at cR ⊢
  have HW := Kp.mk hW0
  obtain ⟨Xs, x⟩ := X
  unfold VerPost toldL
  unfold bunV at *
  dsimp only
  clear hW0 hX hl hm ht hml
  by_cases hx : x = 0
  · subst hx
    go_enter Tryz.func18, Tryz.ntmps18
    go_wp2_with fail
    rw [HW.out]
    refine cR.out.mono ?_
    rintro e w1 ⟨g, L, vu, vl, vt, rfl, S⟩
    dsimp only at S
    have q6 := S.box.cell 6
    rw [(prCells_get _ _ _ _ _ _).2.2.2.2.2.2.1] at q6
    obtain ⟨At, ct, rfl⟩ := own_slice S.texts
    have own := S.texts
    have F1 := E0.tr S.ext
    have hs := E0.size
    clear S cR HW B1
    go_wp2
    exact bodyPost_ret (v := .tuple #[.slice At Xs.texts.length ct, .int .i64 0]) (by simp [results, Tryz.results18, go_sem]) rfl ⟨_, rfl, own_more own hs, F1⟩
  · have d : ((x : Int) != 0) = true := by simp; omega
    rw [if_neg hx]
    go_enter Tryz.func18, Tryz.ntmps18
    go_wp2_with fail
    rw [HW.out]
    refine cR.out.mono ?_
    rintro e w1 ⟨g, L, vu, vl, vt, rfl, S⟩
    dsimp only at S
    have F1 := E0.tr S.ext
    clear S cR HW B1 hx
    go_wp2
    exact bodyPost_ret (v := .tuple #[.slice none 0 0, .int .i64 x]) (by simp [results, Tryz.results18, go_sem]) rfl ⟨_, rfl, World.ownsRow_nil _ _ _ _, F1⟩

def b9T : List UInt8 := [98, 101, 102, 111, 114, 101, 32, 57]
theorem head_not_x : (lastL [107] [97] [(b9T, [])]).head? ≠ some 120 := by decide +kernel
theorem nil_links (w : World) (A : Option Addr) (c : Nat) : RdLinks w w.heap.size (.slice A 0 c) [] := ⟨A, c, rfl, by decide, rfl, fun h => absurd h (by decide)⟩
theorem nil_toks (w : World) (A : Option Addr) (c : Nat) : RdToks w w.heap.size (.slice A 0 c) [] := ⟨⟨A, c, rfl, by decide, rfl, fun h => absurd h (by decide)⟩, fun t h => by cases h⟩
set_option maxRecDepth 100000 in
set_option maxHeartbeats 4000000 in
theorem veworks_any (w : World) (hT : Tab w) : Calls Tryz.prog 17 #[] w fun e w' => e = .returned (.bool true) ∧ Ext w w' := by
  have hne := head_not_x
  have hon := (Hon.own b9T (Hon.nil (k := [107]) (id := [97]))).prove (by decide) (by simp [withL]) (by simp)
  obtain ⟨R, hR⟩ : ∃ R, rootL [107] [97] = R := ⟨_, rfl⟩
  have lR : R.length = 32 := by rw [← hR]; exact length_partsL _ _
  obtain ⟨T, hTt⟩ : ∃ T, nextL R (b9T, []) = T := ⟨_, rfl⟩
  have lT : T.length = 32 := by rw [← hTt]; exact length_partsL _ _
  have hla : lastL [107] [97] [(b9T, [])] = T := by rw [← hTt, ← hR]; rfl
  have hw : withL ⟨[97], [], rootL [107] [97]⟩ (b9T, []) = ⟨[97], [(b9T, [])], T⟩ := by rw [hR]; unfold withL; dsimp only; rw [hTt]; rfl
  rw [hla] at hne
  rw [hw] at hon
  obtain ⟨T2, hT2⟩ : ∃ T2, 120 :: T.drop 1 = T2 := ⟨_, rfl⟩
  have hTn : lastL [107] [97] [(b9T, [])] ≠ T2 := by
    rw [hla, ← hT2]
    intro h
    rw [h] at hne
    exact hne rfl
  have lT2 : T2.length = 32 := by rw [← hT2, List.length_cons, List.length_drop, lT]
  have hp8 : proveL [107] ⟨[97], [(b9T, [])], T2⟩ [] = (⟨[], [], [], 2, textsL [107] [97] [(b9T, [])]⟩, 8) := prove_tag8 rfl hTn
  have cR := Kp.mk (show Calls Tryz.prog 24 #[.string ⟨#[107]⟩, .string ⟨#[97]⟩] w fun e w' => e = .returned (.string (ofL R)) ∧ Ext w w' from by rw [← hR]; exact root_any [107] [97] w hT (by decide) (by decide))
  have cA := Kp.mk (show ∀ W, Tab W → Calls Tryz.prog 26 #[.agg #[.string ⟨#[97]⟩, .slice none 0 0, .string (ofL R)], .string ⟨#[98, 101, 102, 111, 114, 101, 32, 57]⟩] W fun e w' => ∃ v, e = .returned (.tuple #[.agg #[.string ⟨#[97]⟩, v, .string (ofL T)], .int .i64 0]) ∧ w'.ownsRow W.heap.size 72 2 v 1 (linkCells [(b9T, [])]) ∧ Ext W w' from fun W h => by
    have h := hoadd_any [97] R b9T none 0 [] W h (nil_links W none 0) (by decide) (by omega) (by decide)
    rw [addL_ok (by simp) (by decide)] at h
    refine h.mono fun e w' ⟨v, h1, h2, h3⟩ => ⟨v, by rw [h1]; unfold withL tokV; dsimp only; rw [hTt]; rfl, h2, h3⟩)
  have cV := Kp.mk (show ∀ (A : Option Addr) (c : Nat) (W : World), Tab W → RdLinks W W.heap.size (.slice A 1 c) [(b9T, [])] → Calls Tryz.prog 18 #[.string ⟨#[107]⟩, .agg #[.string ⟨#[97]⟩, .slice A 1 c, .string (ofL T), .slice none 0 0]] W fun e w' => ∃ v, e = .returned (.tuple #[v, .int .i64 0]) ∧ w'.ownsRow W.heap.size 9 1 v 1 [.string ⟨#[98, 101, 102, 111, 114, 101, 32, 57]⟩] ∧ Ext W w' from fun A c W h1 h2 => by
    have h := verify_any [107] [97] T A c [(b9T, [])] none 0 [] W h1 h2 (nil_toks W none 0) (by decide) ⟨by simp, by dsimp only; omega, by intro x hx; simp at hx; rw [hx]; decide, by simp⟩ (by simp) (by decide)
    obtain ⟨ha, hb⟩ := hon
    have hX : proveL [107] ⟨[97], [(b9T, [])], T⟩ (boundM T []) = proveL [107] ⟨[97], [(b9T, [])], T⟩ (([] : List TokA).map TokA.plain) := rfl
    dsimp only at ha hb
    rw [hX] at ha hb
    refine h.mono fun e w' ⟨v, h1, h2, h3⟩ => ?_
    unfold toldL at h2
    rw [if_pos ha, hb] at h2
    rw [ha] at h1
    exact ⟨v, h1, h2, h3⟩)
  have cV2 := Kp.mk (show ∀ (A : Option Addr) (c : Nat) (W : World), Tab W → RdLinks W W.heap.size (.slice A 1 c) [(b9T, [])] → Calls Tryz.prog 18 #[.string ⟨#[107]⟩, .agg #[.string ⟨#[97]⟩, .slice A 1 c, .string (ofL T2), .slice none 0 0]] W fun e w' => ∃ v, e = .returned (.tuple #[v, .int .i64 8]) ∧ Ext W w' from fun A c W h1 h2 => by
    have h := verify_any [107] [97] T2 A c [(b9T, [])] none 0 [] W h1 h2 (nil_toks W none 0) (by decide) ⟨by simp, by dsimp only; omega, by intro x hx; simp at hx; rw [hx]; decide, by simp⟩ (by simp) (by decide)
    rw [show proveL [107] ⟨[97], [(b9T, [])], T2⟩ (([] : List TokA).map TokA.plain) = _ from hp8] at h
    refine h.mono fun e w' ⟨v, h1, _, h3⟩ => ⟨v, h1, h3⟩)
  have zT : (ofL T).size = 32 := by rw [size_ofL, lT]
  have ex : (ofL T).extract 1 32 = ofL (T.drop 1) := by rw [ofL_extract]; congr 1; rw [List.take_of_length_le (by rw [List.length_drop]; omega)]
  have ap : (⟨#[120]⟩ : ByteArray) ++ ofL (T.drop 1) = ofL T2 := by rw [← hT2]; exact ofL_append [120] (T.drop 1)
  have hmn : (⟨#[120]⟩ : ByteArray) ++ (ofL T).extract (min (1 : Int) 32).toNat 32 = ofL T2 := by rw [show (min (1 : Int) 32).toNat = 1 from by decide, ex, ap]
  have z1 : (ofL (T.drop 1)).size = 31 := by rw [size_ofL, List.length_drop, lT]
  clear hne hon hR hTt hla hw hT2 hTn hp8
  go_enter Tryz.func17, Tryz.ntmps17
  go_wp2_with fail
  refine cR.out.mono ?_
  rintro e w1 ⟨rfl, E1⟩
  go_wp2_with fail
  refine (cA.out _ (hT.ext E1)).mono ?_
  rintro e w2 ⟨v, rfl, own, E2⟩
  obtain ⟨g, c9, rfl⟩ := ownsRow_succ own
  have F2 := E1.tr E2
  obtain ⟨W3, hW3⟩ : ∃ W3 : World, W3 = w2.alloc (.cells #[.string ⟨#[97]⟩, .slice (some ⟨g, 0, none⟩) 1 c9, .string (ofL T)] 33) := ⟨_, rfl⟩
  have E3 : Ext w2 W3 := by rw [hW3]; exact (Ext.rfl' w2).al _
  have B3 : Arr W3 w2.heap.size 33 [.string ⟨#[97]⟩, .slice (some ⟨g, 0, none⟩) 1 c9, .string (ofL T)] := by rw [hW3]; exact Arr.new w2 _ _
  have L3 : RdLinks W3 W3.heap.size (.slice (some ⟨g, 0, none⟩) 1 c9) [(b9T, [])] := rd_at (own_links (l := [(b9T, [])]) own rfl) E3
  have F3 := F2.tr E3
  have hg3 : w2.heap.size ≠ g := by have := (own.lt g rfl).2; omega
  have lk3 : ∀ W, Ext W3 W → Arr W w2.heap.size 33 [.string ⟨#[97]⟩, .slice (some ⟨g, 0, none⟩) 1 c9, .string (ofL T)] := fun W h => B3.ext h B3.lt
  have OW := Kp.mk (own_ext own (fun j _ hj => E3.block j hj))
  have HW3 := Kp.mk hW3
  clear own cR cA E1 E2 hW3
  go_upto_region 2 with fail
  rw [← HW3.out]
  have q0 := B3.cell 0; have q1 := B3.cell 1; have q2 := B3.cell 2
  simp only [List.getElem?_cons_zero, List.getElem?_cons_succ] at q0 q1 q2
  go_wp2_with fail
  refine (cV.out _ _ _ (hT.ext F3) L3).mono ?_
  rintro e w4 ⟨v4, rfl, own4, E4⟩
  obtain ⟨g4, c4, rfl⟩ := ownsRow_succ own4
  have B4 := lk3 w4 E4
  have F4 := F3.tr E4
  have OW4 := own_ext OW.out (fun j _ hj => E4.block j hj)
  have hg4 : w2.heap.size ≠ g4 := by have := (own4.lt g4 rfl).1; have := B3.lt; omega
  clear q0 q1 q2 lk3 cV E3 HW3 L3
  have q0 := B4.cell 0; have q1 := B4.cell 1; have q2 := B4.cell 2
  have z2 := B4.frozen 2
  simp only [List.getElem?_cons_zero, List.getElem?_cons_succ] at q0 q1 q2
  obtain ⟨W5, hW5⟩ : ∃ W5 : World, W5 = w4.setCell ⟨w2.heap.size, 2, none⟩ (.string (ofL T2)) := ⟨_, rfl⟩
  have B5 : Arr W5 w2.heap.size 33 [.string ⟨#[97]⟩, .slice (some ⟨g, 0, none⟩) 1 c9, .string (ofL T2)] := by rw [hW5]; exact B4.set 2 _
  have L5 : RdLinks W5 W5.heap.size (.slice (some ⟨g, 0, none⟩) 1 c9) [(b9T, [])] := by rw [hW5]; exact own_links (l := [(b9T, [])]) (own_set_other OW4 B4 (by decide) _) rfl
  have O5 : W5.ownsRow W3.heap.size 9 1 (.slice (some ⟨g4, 0, none⟩) 1 c4) 1 [.string ⟨#[98, 101, 102, 111, 114, 101, 32, 57]⟩] := by rw [hW5]; exact own_set_other own4 B4 (by decide) _
  have F5 : Ext w W5 := by rw [hW5]; exact F4.st (p := ⟨w2.heap.size, 2, none⟩) F2.size _
  have HW5 := Kp.mk hW5
  clear hW5
  go_upto_region 4 with fail
  rw [← HW5.out]
  clear q0 q1 q2 z2 B4 OW4 own4 E4 OW HW5
  have q0 := B5.cell 0; have q1 := B5.cell 1; have q2 := B5.cell 2
  simp only [List.getElem?_cons_zero, List.getElem?_cons_succ] at q0 q1 q2
  go_wp2_with fail
  refine (cV2.out _ _ _ (hT.ext F5) L5).mono ?_
  rintro e w6 ⟨v6, rfl, E6⟩
  have r0 : w6.cell? ⟨g4, 0, none⟩ = some (.string ⟨#[98, 101, 102, 111, 114, 101, 32, 57]⟩) := ((bcell E6).1 g4 0 (O5.lt g4 rfl).2).trans (O5.cellAt 0 (by decide))
  have F6 := F5.tr E6
  clear q0 q1 q2 cV2 B5 L5 O5
  go_wp2
  go_ret
  exact ⟨rfl, F6⟩
end Go.Proofs.YtejhiekikblbiaaGreatDoor
