/-
  Package verify: is a bundle too much; a third party's link is proved. Condition: the package's table holds the constants.
-/
import Derived.Test.YtejhiekikblbiaaDoorVe3
namespace Go.Proofs.YtejhiekikblbiaaDoor
open Go.RowKit

theorem bun_box (w : World) (a b c d : Value) : ∃ V, w.alloc (.cells #[a, b, c, d] 32) = V ∧ Ext w V ∧ Arr V w.heap.size 32 [a, b, c, d] := ⟨_, rfl, (Ext.rfl' w).al _, Arr.new w _ [a, b, c, d]⟩
set_option maxRecDepth 100000 in
set_option maxHeartbeats 4000000 in
theorem vgreat_any (id tag : List UInt8) (A : Option Addr) (c : Nat) (l : List LinkL) (mv : Value) (more : List TokA) (w : World) (hm : RdToks w w.heap.size mv more) (hn : more.length ≤ 10000) (hl : l.length ≤ 100000) (hml : ∀ d ∈ more, d.l.length ≤ 100000) :
    Calls Tryd.prog 94 #[bunV id (.slice A l.length c) tag mv] w fun e w' => e = .returned (.bool (greatB ⟨id, l, tag⟩ (more.map TokA.plain))) ∧ Ext w w' := by
  obtain ⟨Am, cm, rfl, hmm, _⟩ := hm.cells
  obtain ⟨W0, hW0, E0, B1⟩ := bun_box w (.string (ofL id)) (.slice A l.length c) (.string (ofL tag)) (.slice Am more.length cm)
  have HW := Kp.mk hW0
  have HM := Kp.mk hm
  have HML := Kp.mk hml
  have q1 := B1.cell 1; have q3 := B1.cell 3
  simp only [List.getElem?_cons_zero, List.getElem?_cons_succ] at q1 q3
  have hG : greatB ⟨id, l, tag⟩ (more.map TokA.plain) = (decide (8 < more.length) || decide (64 < l.length) || more.any fun d => decide (64 < d.l.length)) := by
    unfold greatB
    rw [List.length_map, List.any_map]; rfl
  rw [hG]
  clear hm hW0 hml hG
  unfold bunV
  by_cases g1 : 8 < more.length
  · have d1 : decide ((8 : Int) < (more.length : Int)) = true := by simp; omega
    have e1 : decide (8 < more.length) = true := by simp; omega
    rw [e1]
    go_enter Tryd.func94, Tryd.ntmps94
    go_upto_region 1 with fail
    rw [HW.out]
    go_wp2
    go_ret
    exact ⟨rfl, E0⟩
  · have d1 : decide ((8 : Int) < (more.length : Int)) = false := by simp; omega
    have e1 : decide (8 < more.length) = false := by simp; omega
    rw [e1]
    by_cases g2 : 64 < l.length
    · have d2 : decide ((64 : Int) < (l.length : Int)) = true := by simp; omega
      have e2 : decide (64 < l.length) = true := by simp; omega
      rw [e2]
      go_enter Tryd.func94, Tryd.ntmps94
      go_upto_region 1 with fail
      rw [HW.out]
      go_wp2
      go_ret
      exact ⟨rfl, E0⟩
    · have d2 : decide ((64 : Int) < (l.length : Int)) = false := by simp; omega
      have e2 : decide (64 < l.length) = false := by simp; omega
      rw [e2]
      simp only [Bool.false_or]
      obtain ⟨R, hR⟩ : ∃ R, (more.any fun d => decide (64 < d.l.length)) = R := ⟨_, rfl⟩
      have HF := Kp.mk (show (∀ j (h : j < more.length), more[j].l.length ≤ 64) → R = false from fun h => by
        rw [← hR, List.any_eq_false]
        intro d hd
        obtain ⟨j, hj, rfl⟩ := List.mem_iff_getElem.1 hd
        have := h j hj
        simp; omega)
      have HG := Kp.mk (show ∀ j (h : j < more.length), 64 < more[j].l.length → R = true from fun j hj h => by
        rw [← hR, List.any_eq_true]
        exact ⟨more[j], List.getElem_mem hj, by simpa using h⟩)
      rw [hR]
      clear hR
      go_enter Tryd.func94, Tryd.ntmps94
      go_upto_region 1 with fail
      rw [HW.out]
      go_wp2_with fail
      clear q1 q3
      go_loopw [19] (fun i wr => ∃ k : Nat, k ≤ more.length ∧ i = .int .i64 k ∧ Ext w wr ∧ ∀ j (h : j < more.length), j < k → more[j].l.length ≤ 64) (fun i _ => more.length - (intOf i).toNat)
      case atStart => exact ⟨0, by omega, rfl, E0, fun j _ hj => absurd hj (by omega)⟩
      case round =>
        obtain ⟨k, hk, rfl, hE, hno0⟩ := hrel
        have hno := Kp.mk hno0
        clear hno0
        by_cases hlt : k < more.length
        · obtain ⟨b, off, rfl, _, hcell⟩ := HM.out.tok k hlt
          have HY := Kp.mk (HG.out k hlt)
          have hdl := HML.out _ (List.getElem_mem hlt)
          obtain ⟨d, hd⟩ : ∃ d, more[k] = d := ⟨_, rfl⟩
          have HD := Kp.mk hd
          rw [hd] at hcell HY hdl
          obtain ⟨r0, r1, r2⟩ := hcell wr hE
          have E6 : Ext w (wr.alloc (.cells #[.string (ofL d.id), .slice d.A d.l.length d.c, .string (ofL d.tag)] 24)) := hE.al _
          clear hcell hd hE
          by_cases g3 : 64 < d.l.length
          · have d3 : decide ((64 : Int) < (d.l.length : Int)) = true := by simp; omega
            have hR := HY.out g3
            go_wp2
            go_ret
            exact ⟨rfl, E6⟩
          · have d3 : decide ((64 : Int) < (d.l.length : Int)) = false := by simp; omega
            go_wp2
            go_roundw
            case rel =>
              refine ⟨k + 1, by omega, by go_num, E6, fun j h hj => ?_⟩
              rcases Nat.lt_or_ge j k with h9 | h9
              · exact hno.out j h h9
              · obtain rfl : j = k := by omega
                rw [HD.out]; omega
            case measure => simp [intOf]; omega
        · have hR := HF.out (fun j h => hno.out j h (by omega))
          go_wp2
          go_ret
          exact ⟨by subst hR; rfl, hE⟩

theorem link_box (w : World) (a b : Value) : ∃ V, w.alloc (.cells #[a, b] 52) = V ∧ Ext w V ∧ Arr V w.heap.size 52 [a, b] := ⟨_, rfl, (Ext.rfl' w).al _, Arr.new w _ [a, b]⟩
def ThirdPost (w : World) (g : Nat) (t : TokA) (mv : Value) (more : List TokA) (vu vt : Value) (r : PrL × Bool) (e : Ending) (V1 : World) : Prop := ∃ L' vl', e = .returned (.bool r.2) ∧ PrSt w V1 g t mv more r.1 L' vu vl' vt
theorem third_cases (T : List UInt8) (more : List TokL) (s : PrL) (tag : List UInt8) (l : LinkL) :
    ((openR (sealL tag) l.2).2 ≠ 0 → ∃ m, thirdL T more s tag l = (⟨s.used, s.list, s.texts, s.work + 1, m⟩, false)) ∧
    ((openR (sealL tag) l.2).2 = 0 → findL l.1 more s.used = none → ∃ m, thirdL T more s tag l = (⟨s.used, s.list, s.texts, s.work + 1, m⟩, false)) ∧
    ((openR (sealL tag) l.2).2 = 0 → ∀ i d, findL l.1 more s.used = some i → more[i]? = some d → bindL T (lastL (openR (sealL tag) l.2).1 d.id d.links) = d.tag → ∃ m, thirdL T more s tag l = (⟨s.used.set i true, s.list ++ [((openR (sealL tag) l.2).1, d)], s.texts, s.work + 1 + (d.links.length + 1) + 1, m⟩, true)) ∧
    ((openR (sealL tag) l.2).2 = 0 → ∀ i d, findL l.1 more s.used = some i → more[i]? = some d → bindL T (lastL (openR (sealL tag) l.2).1 d.id d.links) ≠ d.tag → ∃ m, thirdL T more s tag l = (⟨s.used.set i true, s.list, s.texts, s.work + 1 + (d.links.length + 1) + 1, m⟩, false)) := by
  refine ⟨fun h => ⟨_, thirdL_shut h⟩, fun h1 h2 => ⟨_, thirdL_none h1 h2⟩, fun h1 i d h2 h3 h4 => ?_, fun h1 i d h2 h3 h4 => ?_⟩
  · rw [thirdL_use h1 h2 h3]; unfold useL; rw [if_pos h4, decide_eq_true h4]; exact ⟨_, rfl⟩
  · rw [thirdL_use h1 h2 h3]; unfold useL; rw [if_neg h4, decide_eq_false h4]; exact ⟨_, rfl⟩
set_option maxRecDepth 100000 in
set_option maxHeartbeats 8000000 in
theorem vthird_any {w V0 : World} {g : Nat} {t : TokA} {A : Option Addr} {c : Nat} {more : List TokA} {s : PrL} {L : List PvA} {vu vl vt : Value} (hS : PrSt w V0 g t (.slice A more.length c) more s L vu vl vt) (hT : Tab w) (hm : RdToks w w.heap.size (.slice A more.length c) more) (hu : s.used.length = more.length) (hn : more.length ≤ 10000)
    (hml : ∀ d ∈ more, d.id.length ≤ 100000 ∧ d.tag.length ≤ 100000 ∧ Short1 d.l ∧ d.l.length ≤ 10000) (htt : t.tag.length ≤ 100000) (hwk : s.work ≤ 100000) (hL : L.length ≤ 10000) (tag : List UInt8) (l : LinkL) (htg : tag.length ≤ 100000) (hls : l.2.length ≤ 100000) :
    Calls Tryd.prog 97 #[.pointer (some ⟨g, 0, none⟩), .string (ofL tag), .agg #[.string (ofL l.1), .string (ofL l.2)]] V0 (ThirdPost w g t (.slice A more.length c) more vu vt (thirdL t.tag (more.map TokA.plain) s tag l)) := by
  obtain ⟨lt, lsl⟩ := l
  dsimp only at hls
  have H4 := third_cases t.tag (more.map TokA.plain) s tag (lt, lsl)
  obtain ⟨K, hK⟩ : ∃ K, sealL tag = K := ⟨_, rfl⟩
  have lK : K.length = 32 := by rw [← hK]; exact length_partsL _ _
  have cK := Kp.mk (show ∀ W, Tab W → Calls Tryd.prog 31 #[.string (ofL tag)] W fun e w' => e = .returned (.string (ofL K)) ∧ Ext W w' from fun W h => by rw [← hK]; exact seal_any tag W h htg)
  have cO := Kp.mk (show ∀ W, Tab W → _ from fun W h => open_any K lsl W h (by omega))
  have hTb := openR_bound K lsl
  rw [hK] at H4
  dsimp only at H4
  obtain ⟨O, hO⟩ : ∃ O, openR K lsl = O := ⟨_, rfl⟩
  rw [hO] at cO hTb H4
  obtain ⟨T, x⟩ := O
  unfold resV at cO
  dsimp only at cO hTb H4
  obtain ⟨F, hF⟩ : ∃ F, findL lt (more.map TokA.plain) s.used = F := ⟨_, rfl⟩
  rw [hF] at H4
  obtain ⟨r, hr⟩ : ∃ r, thirdL t.tag (more.map TokA.plain) s tag (lt, lsl) = r := ⟨_, rfl⟩
  rw [hr] at H4 ⊢
  have H4 := Kp.mk H4
  have HU := Kp.mk hu; have HM := Kp.mk hm; have HML := Kp.mk hml; have HLs := Kp.mk hL
  have hHF := Kp.mk hF
  obtain ⟨n1, hn1⟩ : ∃ n1, s.work + 1 = n1 := ⟨_, rfl⟩
  have W1k := Kp.mk (show IntKind.i64.wrap ((s.work : Int) + 1) = (n1 : Int) by rw [IntWalk.i64_in _ (by omega)]; omega)
  have hn1b : n1 ≤ 100001 := by omega
  have HN1 := Kp.mk hn1
  have hg0 := hS.box.lt
  obtain ⟨W0, hW0, E0, B1⟩ := link_box V0 (.string (ofL lt)) (.string (ofL lsl))
  have HW := Kp.mk hW0
  have S0 := hS.up E0
  have q7 := S0.box.cell 7
  rw [(prCells_get _ _ _ _ _ _).2.2.2.2.2.2.2] at q7
  have z7 := S0.box.frozen 7
  have S1 := S0.work n1
  have D1 : Arr (W0.setCell ⟨g, 7, none⟩ (.int .i64 n1)) V0.heap.size 52 [.string (ofL lt), .string (ofL lsl)] := B1.other _ (by omega)
  obtain ⟨W1, hW1⟩ : ∃ W1 : World, W1 = W0.setCell ⟨g, 7, none⟩ (.int .i64 n1) := ⟨_, rfl⟩
  rw [← hW1] at S1 D1
  have HW1 := Kp.mk hW1
  have w1 := W1k.out
  clear hr hF hO hK lK hW0 hW1 hS S0 E0 hm hu hml hL hn1
  go_enter Tryd.func97, Tryd.ntmps97
  go_upto_region 1 with fail
  rw [HW.out]
  go_upto_region 2 with fail
  rw [← HW1.out]
  clear q7 z7 w1 HW HW1 B1 W1k
  have F1 := S1.ext
  refine wp_region_stage [] (fun bs W => Ext W1 W) (fun bs i v W => match i with
    | 0 => v = .string (ofL tag)
    | 1 => v = .string (ofL K)
    | 2 => v = .pointer (some ⟨V0.heap.size, 1, none⟩)
    | 3 => v = .string (ofL lsl)
    | 4 => v = .tuple #[.string (ofL T), .int .i64 x]
    | 5 => v = .tuple #[.string (ofL T), .int .i64 x]
    | 6 => v = .string (ofL T)
    | 7 => v = .int .i64 x
    | 8 => v = .string (ofL T)
    | 9 => v = .int .i64 x
    | _ => True) (cs_inj (by decide)) (by decide) (by kernel_rfl) (by kernel_rfl) (by kernel_rfl) ((Ext.rfl' W1).dr) (fun bs W1 W2 h e => h.tr e) ?_ ?_ ?_
  · intro bs i v W1 W2 e1 e2 h
    match i, h with
    | 0, h => exact h
    | 1, h => exact h
    | 2, h => exact h
    | 3, h => exact h
    | 4, h => exact h
    | 5, h => exact h
    | 6, h => exact h
    | 7, h => exact h
    | 8, h => exact h
    | 9, h => exact h
    | (i + 10), h => exact h
  · refine localsQ_ord (by decide) (fun bs u W hbs hW hno hd => leaves_val rfl (v := .string (ofL tag)) (by go_simp) rfl) ?_
    refine localsQ_ord (by decide) (fun bs u W hbs hW hno hd => ?_) ?_
    · have h0 : u 0 = _ := hd 0 (by kernel_rfl)
      exact leaves_call rfl (f := 31) (args := #[.string (ofL tag)]) (by go_simp) ((cK.out W (hT.ext (F1.tr hW))).mono (by rintro e9 W9 ⟨rfl, h9⟩; exact ⟨_, rfl, h9, rfl⟩))
    refine localsQ_ord (by decide) (fun bs u W hbs hW hno hd => leaves_val rfl (v := .pointer (some ⟨V0.heap.size, 1, none⟩)) (by go_simp) rfl) ?_
    refine localsQ_ord (by decide) (fun bs u W hbs hW hno hd => ?_) ?_
    · have h2 : u 2 = _ := hd 2 (by kernel_rfl)
      have q1 := (D1.ext hW D1.lt).cell 1
      simp only [List.getElem?_cons_zero, List.getElem?_cons_succ] at q1
      exact leaves_val rfl (v := .string (ofL lsl)) (by go_simp) rfl
    refine localsQ_ord (by decide) (fun bs u W hbs hW hno hd => ?_) ?_
    · have h1 : u 1 = _ := hd 1 (by kernel_rfl)
      have h3 : u 3 = _ := hd 3 (by kernel_rfl)
      exact leaves_call rfl (f := 21) (args := #[.string (ofL K), .string (ofL lsl)]) (by go_simp) ((cO.out W (hT.ext (F1.tr hW))).mono (by rintro e9 W9 ⟨rfl, h9⟩; exact ⟨_, rfl, h9, rfl⟩))
    refine localsQ_ord (by decide) (fun bs u W hbs hW hno hd => ?_) ?_
    · have h4 : u 4 = _ := hd 4 (by kernel_rfl)
      exact leaves_val rfl (v := .tuple #[.string (ofL T), .int .i64 x]) (by go_simp) rfl
    refine localsQ_ord (by decide) (fun bs u W hbs hW hno hd => ?_) ?_
    · have h5 : u 5 = _ := hd 5 (by kernel_rfl)
      exact leaves_val rfl (v := .string (ofL T)) (by go_simp) rfl
    refine localsQ_ord (by decide) (fun bs u W hbs hW hno hd => ?_) ?_
    · have h5 : u 5 = _ := hd 5 (by kernel_rfl)
      exact leaves_val rfl (v := .int .i64 x) (by go_simp) rfl
    refine localsQ_ord (by decide) (fun bs u W hbs hW hno hd => ?_) ?_
    · have h6 : u 6 = _ := hd 6 (by kernel_rfl)
      exact leaves_val rfl (v := .string (ofL T)) (by go_simp) rfl
    refine localsQ_ord (by decide) (fun bs u W hbs hW hno hd => ?_) localsQ_nil
    · have h7 : u 7 = _ := hd 7 (by kernel_rfl)
      exact leaves_val rfl (v := .int .i64 x) (by go_simp) rfl
  · intro u W hW hV
    have h8 : u 8 = _ := hV 8 (by decide)
    have h9 : u 9 = _ := hV 9 (by decide)
    clear hV
    have S2 := S1.up hW
    have D2 := D1.ext hW D1.lt
    have hz2 : V0.heap.size < W.heap.size := D2.lt
    clear S1 D1 F1 cK cO hW
    go_simp
    by_cases hx : x = 0
    · subst hx
      have q0 := D2.cell 0
      simp only [List.getElem?_cons_zero] at q0
      have cF := Kp.mk (vfind_any S2 HM.out HU.out hn lt)
      dsimp only at cF
      rw [hHF.out] at cF
      clear D2
      go_wp2_with fail
      refine cF.out.mono ?_
      cases F with
      | none =>
        rintro e w2 ⟨rfl, S3⟩
        obtain ⟨m, rfl⟩ := H4.out.2.1 trivial rfl
        clear S2 cF q0
        go_wp2
        go_ret
        exact ⟨L, vl, rfl, S3.of rfl rfl rfl HN1.out.symm⟩
      | some i =>
        rintro e w2 ⟨rfl, S3⟩
        obtain ⟨hi, hui, d0, hd0, _⟩ := findL_some hHF.out
        rw [List.length_map] at hi
        obtain ⟨d, hd⟩ : ∃ d, more[i] = d := ⟨_, rfl⟩
        obtain rfl : d0 = d.plain := by
          rw [List.getElem?_map, List.getElem?_eq_getElem hi, hd] at hd0
          exact (Option.some.inj hd0).symm
        have hdm : d ∈ more := by rw [← hd]; exact List.getElem_mem hi
        obtain ⟨hdi, hdt, hds, hdn⟩ := HML.out d hdm
        have HD0 := Kp.mk hd0
        obtain ⟨b, off, rfl, _, hcell⟩ := HM.out.tok i hi
        rw [hd] at hcell
        obtain ⟨r0, r1, r2⟩ := hcell w2 S3.ext
        have q3 := S3.box.cell 3
        rw [(prCells_get _ _ _ _ _ _).2.2.2.1] at q3
        have dneg : decide ((i : Int) < 0) = false := by simp
        have cT := Kp.mk (vtags_any S3 hT T d (by omega) hdi (HM.out.2 d hdm) hds hdn (by dsimp only; omega))
        unfold tokAV tokV at cT
        dsimp only at cT
        have H4b := Kp.mk (show _ ∧ _ from ⟨fun h => H4.out.2.2.1 trivial i d.plain rfl HD0.out h, fun h => H4.out.2.2.2 trivial i d.plain rfl HD0.out h⟩)
        clear hcell hd hd0 hdi S2 cF q0 hui
        go_wp2_with fail
        refine cT.out.mono ?_
        rintro e w3 ⟨gt, ct, rfl, S4, htag, hvt, _⟩
        dsimp only at S4
        obtain ⟨s4, hs4⟩ : ∃ s4 : PrL, (⟨s.used.set i true, s.list, s.texts, n1 + (d.l.length + 1), s.sum⟩ : PrL) = s4 := ⟨_, rfl⟩
        rw [hs4] at S4
        obtain ⟨n4, hn4⟩ : ∃ n4, s4.work = n4 := ⟨_, rfl⟩
        obtain ⟨n5, hn5⟩ : ∃ n5, n4 + 1 = n5 := ⟨_, rfl⟩
        have hn4b : n4 ≤ 200000 := by rw [← hn4, ← hs4]; dsimp only; omega
        have W5k := Kp.mk (show IntKind.i64.wrap ((n4 : Int) + 1) = (n5 : Int) by rw [IntWalk.i64_in _ (by omega)]; omega)
        have HX := Kp.mk (show ∀ r, vl.ownBlock = some r → r < w3.heap.size from fun r e => (S4.list.lt r e).2)
        clear r0 r1 r2 q3 S3 cT
        go_upto_region 9 with fail
        obtain ⟨W4, hW4⟩ : ∃ W4 : World, W4 = w3.alloc (.cells #[.string (ofL d.id), .slice d.A d.l.length d.c, .string (ofL d.tag), .slice (some ⟨gt, 0, none⟩) (d.l.length + 1) ct] 130) := ⟨_, rfl⟩
        rw [← hW4]
        have E4 : Ext w3 W4 := by rw [hW4]; exact (Ext.rfl' w3).al _
        have B4 : Arr W4 w3.heap.size 130 [.string (ofL d.id), .slice d.A d.l.length d.c, .string (ofL d.tag), .slice (some ⟨gt, 0, none⟩) (d.l.length + 1) ct] := by rw [hW4]; exact Arr.new w3 _ _
        have S5 := S4.up E4
        have tag5 : TagsAt w W4 ⟨T, d, gt, ct⟩ := own_ext htag (fun j _ hj => E4.block j hj)
        have q7 := S5.box.cell 7
        rw [(prCells_get _ _ _ _ _ _).2.2.2.2.2.2.2, hn4] at q7
        have z7 := S5.box.frozen 7
        have w5 := W5k.out
        have S6 := S5.work n5
        have hgX : g < w3.heap.size := S4.box.lt
        have B6 : Arr (W4.setCell ⟨g, 7, none⟩ (.int .i64 n5)) w3.heap.size 130 [.string (ofL d.id), .slice d.A d.l.length d.c, .string (ofL d.tag), .slice (some ⟨gt, 0, none⟩) (d.l.length + 1) ct] := B4.other _ (by omega)
        have tag6 : TagsAt w (W4.setCell ⟨g, 7, none⟩ (.int .i64 n5)) ⟨T, d, gt, ct⟩ := own_set_other tag5 S5.box (by decide) _
        obtain ⟨W6, hW6⟩ : ∃ W6 : World, W6 = W4.setCell ⟨g, 7, none⟩ (.int .i64 n5) := ⟨_, rfl⟩
        rw [← hW6] at S6 B6 tag6
        have HW6 := Kp.mk hW6
        clear hW4 E4 B4 S5 tag5 S4 htag hW6
        go_upto_region 10 with fail
        rw [← HW6.out]
        obtain ⟨Z, hZ⟩ : ∃ Z, lastL T d.id d.l = Z := ⟨_, rfl⟩
        obtain ⟨Bd, hBd⟩ : ∃ Bd, bindL t.tag Z = Bd := ⟨_, rfl⟩
        have lZ : Z.length = 32 := by rw [← hZ]; exact length_lastL _ _ _
        have lB : Bd.length = 32 := by rw [← hBd]; exact length_partsL _ _
        have cL := Kp.mk (show ∀ W, Ext W6 W → Calls Tryd.prog 96 #[.agg #[.string (ofL d.id), .slice d.A d.l.length d.c, .string (ofL d.tag), .slice (some ⟨gt, 0, none⟩) (d.l.length + 1) ct]] W fun e w' => e = .returned (.string (ofL Z)) ∧ Ext W w' from fun W h => by
          have q := vlast_any w W ⟨T, d, gt, ct⟩ (own_ext tag6 (fun j _ hj => h.block j hj)) (by dsimp only; omega) (.string (ofL d.id)) (.string (ofL d.tag)) (.slice d.A d.l.length d.c)
          dsimp only at q
          rw [hZ] at q
          exact q)
        have cB := Kp.mk (show ∀ W, Tab W → Calls Tryd.prog 44 #[.string (ofL t.tag), .string (ofL Z)] W fun e w' => e = .returned (.string (ofL Bd)) ∧ Ext W w' from fun W h => by rw [← hBd]; exact bind_any t.tag Z W h htt (by omega))
        have cSm := Kp.mk (show ∀ W, Calls Tryd.prog 53 #[.string (ofL Bd), .string (ofL d.tag)] W fun e w' => e = .returned (.bool (Bd == d.tag)) ∧ Ext W w' from fun W => by
          have q := same_any Bd d.tag W (by omega) (by omega)
          rw [decide_eq_true lB, Bool.true_and] at q
          exact q)
        have F6 := S6.ext
        have H5 := Kp.mk (show (Bd = d.tag → ∃ m, r = (⟨s.used.set i true, s.list ++ [(T, d.plain)], s.texts, s.work + 1 + (d.l.length + 1) + 1, m⟩, true)) ∧ (Bd ≠ d.tag → ∃ m, r = (⟨s.used.set i true, s.list, s.texts, s.work + 1 + (d.l.length + 1) + 1, m⟩, false)) from by
          have h := H4b.out
          have e1 : bindL t.tag (lastL T d.plain.id d.plain.links) = Bd := by rw [← hBd, ← hZ]; rfl
          rw [e1] at h
          exact h)
        have HS4 := Kp.mk hs4
        have HN5 := Kp.mk (show n5 = s.work + 1 + (d.l.length + 1) + 1 by rw [← hn5, ← hn4, ← hs4]; dsimp only; rw [← HN1.out])
        have hLb := HLs.out
        clear q7 z7 w5 W5k hs4 hn4 hn5 hZ hBd H4b
        refine wp_region_stage [] (fun bs W => Ext W6 W) (fun bs i v W => match i with
          | 0 => v = .pointer (some ⟨g, 0, none⟩)
          | 1 => v = .pointer (some ⟨g, 0, none⟩)
          | 2 => v = .pointer (some ⟨g, 0, none⟩)
          | 3 => v = .pointer (some ⟨g, 0, none⟩)
          | 4 => v = .pointer (some ⟨g, 2, none⟩)
          | 5 => v = .string (ofL t.tag)
          | 6 => v = .agg #[.string (ofL d.id), .slice d.A d.l.length d.c, .string (ofL d.tag), .slice (some ⟨gt, 0, none⟩) (d.l.length + 1) ct]
          | 7 => v = .string (ofL Z)
          | 8 => v = .string (ofL Bd)
          | 9 => v = .pointer (some ⟨w3.heap.size, 0, none⟩)
          | 10 => v = .pointer (some ⟨w3.heap.size, 2, none⟩)
          | 11 => v = .string (ofL d.tag)
          | 12 => v = .bool (Bd == d.tag)
          | 13 => v = .bool (!(Bd == d.tag))
          | _ => True) (cs_inj (by decide)) (by decide) (by kernel_rfl) (by kernel_rfl) (by kernel_rfl) ((Ext.rfl' W6).dr) (fun bs W1 W2 h e => h.tr e) ?_ ?_ ?_
        · intro bs i v W1 W2 e1 e2 h
          match i, h with
          | 0, h => exact h
          | 1, h => exact h
          | 2, h => exact h
          | 3, h => exact h
          | 4, h => exact h
          | 5, h => exact h
          | 6, h => exact h
          | 7, h => exact h
          | 8, h => exact h
          | 9, h => exact h
          | 10, h => exact h
          | 11, h => exact h
          | 12, h => exact h
          | 13, h => exact h
          | (i + 14), h => exact h
        · refine localsQ_ord (by decide) (fun bs u W hbs hW hno hd => leaves_val rfl (v := .pointer (some ⟨g, 0, none⟩)) (by go_simp) rfl) ?_
          refine localsQ_ord (by decide) (fun bs u W hbs hW hno hd => ?_) ?_
          · have h0 : u 0 = _ := hd 0 (by kernel_rfl)
            exact leaves_val rfl (v := .pointer (some ⟨g, 0, none⟩)) (by go_simp) rfl
          refine localsQ_ord (by decide) (fun bs u W hbs hW hno hd => ?_) ?_
          · have h1 : u 1 = _ := hd 1 (by kernel_rfl)
            exact leaves_val rfl (v := .pointer (some ⟨g, 0, none⟩)) (by go_simp) rfl
          refine localsQ_ord (by decide) (fun bs u W hbs hW hno hd => ?_) ?_
          · have h2 : u 2 = _ := hd 2 (by kernel_rfl)
            exact leaves_val rfl (v := .pointer (some ⟨g, 0, none⟩)) (by go_simp) rfl
          refine localsQ_ord (by decide) (fun bs u W hbs hW hno hd => ?_) ?_
          · have h3 : u 3 = _ := hd 3 (by kernel_rfl)
            exact leaves_val rfl (v := .pointer (some ⟨g, 2, none⟩)) (by go_simp) rfl
          refine localsQ_ord (by decide) (fun bs u W hbs hW hno hd => ?_) ?_
          · have h4 : u 4 = _ := hd 4 (by kernel_rfl)
            have q2 := (S6.box.ext hW S6.box.lt).cell 2
            rw [(prCells_get _ _ _ _ _ _).2.2.1] at q2
            exact leaves_val rfl (v := .string (ofL t.tag)) (by go_simp) rfl
          refine localsQ_ord (by decide) (fun bs u W hbs hW hno hd => ?_) ?_
          · have q0 := (B6.ext hW B6.lt).cell 0; have q1 := (B6.ext hW B6.lt).cell 1; have q2 := (B6.ext hW B6.lt).cell 2; have q3 := (B6.ext hW B6.lt).cell 3
            simp only [List.getElem?_cons_zero, List.getElem?_cons_succ] at q0 q1 q2 q3
            exact leaves_val rfl (v := .agg #[.string (ofL d.id), .slice d.A d.l.length d.c, .string (ofL d.tag), .slice (some ⟨gt, 0, none⟩) (d.l.length + 1) ct]) (by go_simp) rfl
          refine localsQ_ord (by decide) (fun bs u W hbs hW hno hd => ?_) ?_
          · have h6 : u 6 = _ := hd 6 (by kernel_rfl)
            exact leaves_call rfl (f := 96) (args := #[.agg #[.string (ofL d.id), .slice d.A d.l.length d.c, .string (ofL d.tag), .slice (some ⟨gt, 0, none⟩) (d.l.length + 1) ct]]) (by go_simp) ((cL.out W hW).mono (by rintro e9 W9 ⟨rfl, h9⟩; exact ⟨_, rfl, h9, rfl⟩))
          refine localsQ_ord (by decide) (fun bs u W hbs hW hno hd => ?_) ?_
          · have h5 : u 5 = _ := hd 5 (by kernel_rfl)
            have h7 : u 7 = _ := hd 7 (by kernel_rfl)
            exact leaves_call rfl (f := 44) (args := #[.string (ofL t.tag), .string (ofL Z)]) (by go_simp) ((cB.out W (hT.ext (F6.tr hW))).mono (by rintro e9 W9 ⟨rfl, h9⟩; exact ⟨_, rfl, h9, rfl⟩))
          refine localsQ_ord (by decide) (fun bs u W hbs hW hno hd => leaves_val rfl (v := .pointer (some ⟨w3.heap.size, 0, none⟩)) (by go_simp) rfl) ?_
          refine localsQ_ord (by decide) (fun bs u W hbs hW hno hd => ?_) ?_
          · have h9 : u 9 = _ := hd 9 (by kernel_rfl)
            exact leaves_val rfl (v := .pointer (some ⟨w3.heap.size, 2, none⟩)) (by go_simp) rfl
          refine localsQ_ord (by decide) (fun bs u W hbs hW hno hd => ?_) ?_
          · have h10 : u 10 = _ := hd 10 (by kernel_rfl)
            have q2 := (B6.ext hW B6.lt).cell 2
            simp only [List.getElem?_cons_zero, List.getElem?_cons_succ] at q2
            exact leaves_val rfl (v := .string (ofL d.tag)) (by go_simp) rfl
          refine localsQ_ord (by decide) (fun bs u W hbs hW hno hd => ?_) ?_
          · have h8 : u 8 = _ := hd 8 (by kernel_rfl)
            have h11 : u 11 = _ := hd 11 (by kernel_rfl)
            exact leaves_call rfl (f := 53) (args := #[.string (ofL Bd), .string (ofL d.tag)]) (by go_simp) ((cSm.out W).mono (by rintro e9 W9 ⟨rfl, h9⟩; exact ⟨_, rfl, h9, rfl⟩))
          refine localsQ_ord (by decide) (fun bs u W hbs hW hno hd => ?_) localsQ_nil
          · have h12 : u 12 = _ := hd 12 (by kernel_rfl)
            exact leaves_val rfl (v := .bool (!(Bd == d.tag))) (by go_simp) rfl
        · intro u9 W7 hW7 hV
          have h13 : u9 13 = .bool (!(Bd == d.tag)) := hV 13 (by decide)
          clear hV cL cB cSm
          have S7 := S6.up hW7
          have B7 := B6.ext hW7 B6.lt
          have tag7 : TagsAt w W7 ⟨T, d, gt, ct⟩ := own_ext tag6 (fun j _ hj => hW7.block j hj)
          clear S6 B6 tag6 F6 hW7
          by_cases hbd : Bd = d.tag
          · have t1 : (Bd == d.tag) = true := by simp [hbd]
            obtain ⟨m, rfl⟩ := H5.out.1 hbd
            rw [t1] at h13
            clear hbd t1
            go_simp
            go_upto_region 12 with fail
            refine wp_region_stages [7] (fun bs W => Ext w W ∧ w.heap.size ≤ W.heap.size ∧ Arr W g 94 (prCells t (.slice (some ⟨b, off, none⟩) more.length c) vu vl vt n5) ∧ Arr W w3.heap.size 130 [.string (ofL d.id), .slice d.A d.l.length d.c, .string (ofL d.tag), .slice (some ⟨gt, 0, none⟩) (d.l.length + 1) ct] ∧ (bs[0]? = some false → PrSt w W g t (.slice (some ⟨b, off, none⟩) more.length c) more ⟨s4.used, s4.list, s4.texts, n5, s4.sum⟩ L vu vl vt ∧ TagsAt w W ⟨T, d, gt, ct⟩)) (fun bs i v W => match i with
              | 0 => v = .pointer (some ⟨g, 0, none⟩)
              | 1 => v = .pointer (some ⟨g, 0, none⟩)
              | 2 => v = .pointer (some ⟨g, 0, none⟩)
              | 3 => v = .pointer (some ⟨g, 5, none⟩)
              | 4 => v = vl
              | 5 => v = .agg #[.string (ofL d.id), .slice d.A d.l.length d.c, .string (ofL d.tag), .slice (some ⟨gt, 0, none⟩) (d.l.length + 1) ct]
              | 6 => ∃ b5, v = .slice (some ⟨b5, 0, none⟩) 1 1 ∧ (bs[0]? = some false → Arr W b5 130 [.string (ofL d.id), .slice d.A d.l.length d.c, .string (ofL d.tag), .slice (some ⟨gt, 0, none⟩) (d.l.length + 1) ct])
              | 7 => bs[0]? = some true ∧ PrLs w W g t (.slice (some ⟨b, off, none⟩) more.length c) more ⟨s4.used, s4.list, s4.texts, n5, s4.sum⟩ L vu vl vt v ⟨T, d, gt, ct⟩
              | 8 => v = .pointer (some ⟨g, 0, none⟩)
              | 9 => v = .pointer (some ⟨g, 5, none⟩)
              | _ => True) 10 (cs_inj (by decide)) (by decide) (by kernel_rfl) (by kernel_rfl) (by kernel_rfl) (by decide) (by kernel_rfl) (by kernel_rfl) (by kernel_rfl) (⟨S7.ext.dr, S7.ext.size, S7.box, B7, fun _ => ⟨S7.drew, tag7⟩⟩) (fun bs W1 W2 ⟨a, p, q, r, k⟩ e => ⟨a.tr e, by have := e.size; omega, q.ext e q.lt, r.ext e r.lt, fun hb => ⟨(k hb).1.up e, own_ext (k hb).2 (fun j _ hj => e.block j hj)⟩⟩) ?_ ?_ ?_
            · intro bs i v W1 W2 e1 e2 h
              match i, h with
              | 0, h => exact h
              | 1, h => exact h
              | 2, h => exact h
              | 3, h => exact h
              | 4, h => exact h
              | 5, h => exact h
              | 6, ⟨b5, h1, h2⟩ => exact ⟨b5, h1, fun hb => (h2 hb).ext e2 (h2 hb).lt⟩
              | 7, h => exact ⟨h.1, h.2.up e2⟩
              | 8, h => exact h
              | 9, h => exact h
              | (i + 10), h => exact h
            · refine localsT_ord (by decide) (fun bs u W hbs hW hno hd => leaves_val rfl (v := .pointer (some ⟨g, 0, none⟩)) (by go_simp) rfl) ?_
              refine localsT_ord (by decide) (fun bs u W hbs hW hno hd => leaves_val rfl (v := .pointer (some ⟨g, 0, none⟩)) (by go_simp) rfl) ?_
              refine localsT_ord (by decide) (fun bs u W hbs hW hno hd => ?_) ?_
              · have h1 : u 1 = _ := hd 1 (by kernel_rfl)
                exact leaves_val rfl (v := .pointer (some ⟨g, 0, none⟩)) (by go_simp) rfl
              refine localsT_ord (by decide) (fun bs u W hbs hW hno hd => ?_) ?_
              · have h2 : u 2 = _ := hd 2 (by kernel_rfl)
                exact leaves_val rfl (v := .pointer (some ⟨g, 5, none⟩)) (by go_simp) rfl
              refine localsT_ord (by decide) (fun bs u W hbs hW hno hd => ?_) ?_
              · have h3 : u 3 = _ := hd 3 (by kernel_rfl)
                have q5 := hW.2.2.1.cell 5
                rw [(prCells_get _ _ _ _ _ _).2.2.2.2.2.1] at q5
                exact leaves_val rfl (v := vl) (by go_simp) rfl
              refine localsT_ord (by decide) (fun bs u W hbs hW hno hd => ?_) ?_
              · have q0 := hW.2.2.2.1.cell 0; have q1 := hW.2.2.2.1.cell 1; have q2 := hW.2.2.2.1.cell 2; have q3 := hW.2.2.2.1.cell 3
                simp only [List.getElem?_cons_zero, List.getElem?_cons_succ] at q0 q1 q2 q3
                exact leaves_val rfl (v := .agg #[.string (ofL d.id), .slice d.A d.l.length d.c, .string (ofL d.tag), .slice (some ⟨gt, 0, none⟩) (d.l.length + 1) ct]) (by go_simp) rfl
              refine localsT_ord (by decide) (fun bs u W hbs hW hno hd => ?_) ?_
              · have h5 : u 5 = _ := hd 5 (by kernel_rfl)
                exact leaves_new rfl (v := .slice (some ⟨W.heap.size, 0, none⟩) 1 1) (w' := W.alloc (.cells #[.string (ofL d.id), .slice d.A d.l.length d.c, .string (ofL d.tag), .slice (some ⟨gt, 0, none⟩) (d.l.length + 1) ct] 130)) (by go_simp) ((Ext.rfl' W).al _) ⟨_, rfl, fun _ => Arr.new W _ [.string (ofL d.id), .slice d.A d.l.length d.c, .string (ofL d.tag), .slice (some ⟨gt, 0, none⟩) (d.l.length + 1) ct]⟩
              refine localsT_turn 0 rfl (fun q hq => cs_inj (cs := [7]) (by decide) 0 q _ rfl hq) (fun bs u W hbs hb0 hW hd hcs => ?_) ?_
              · have h4 : u 4 = _ := hd 4 (by kernel_rfl)
                have h6 := hd 6 (by kernel_rfl)
                have hset : (bs.set 0 true)[0]? = some true := List.getElem?_set_self (by rw [hbs]; decide)
                obtain ⟨hP, hTg⟩ := hW.2.2.2.2 hb0
                obtain ⟨b5, e5, hc5⟩ := h6
                have hA5 := hc5 hb0
                refine ⟨rfl, fun K Q hK => wp_app (ad := ⟨b5, 0, none⟩) (c := 1) (news := pvCells ⟨T, d, gt, ct⟩) Tryd.elemPv _ _ rfl hP.list 1 (by go_simp) (by go_simp) rfl ?_ ?_ (by omega) (by omega) hW.2.1 (fun v' w' own2 hg2 => hK v' w' ?_ ⟨hset, hP.listed own2 hg2 hTg hvt (.inr hdm)⟩ ?_)⟩
                · intro j y hy
                  rw [WideShapes.add_plain, hA5.cell, Nat.zero_add]
                  exact hy
                · exact fun u hu => oneCell_pvs [⟨T, d, gt, ct⟩] u (by simpa [pvsCells] using hu)
                · exact ⟨hW.1.own hg2 hP.list (Nat.le_refl _), by have := hg2.size; have := hW.2.1; omega, arr_kept_type hW.2.2.1 hP.list (by decide) hg2, arr_kept hW.2.2.2.1 hg2 (fun r e => by have := HX.out r e; omega), fun hb => by rw [hset] at hb; cases hb⟩
                · intro k h
                  match k, h with
                  | 0, h => exact h
                  | 1, h => exact h
                  | 2, h => exact h
                  | 3, h => exact h
                  | 4, h => exact h
                  | 5, h => exact h
                  | 6, ⟨b5, h1, h2⟩ => exact ⟨b5, h1, (fun hb => (by rw [hset] at hb; cases hb))⟩
                  | 7, h => rw [hb0] at h; cases h.1
                  | 8, h => exact h
                  | 9, h => exact h
                  | (k + 10), h => exact h
              refine localsT_ord (by decide) (fun bs u W hbs hW hno hd => ?_) ?_
              · have h0 : u 0 = _ := hd 0 (by kernel_rfl)
                exact leaves_val rfl (v := .pointer (some ⟨g, 0, none⟩)) (by go_simp) rfl
              refine localsT_ord (by decide) (fun bs u W hbs hW hno hd => ?_) localsT_nil
              · have h8 : u 8 = _ := hd 8 (by kernel_rfl)
                exact leaves_val rfl (v := .pointer (some ⟨g, 5, none⟩)) (by go_simp) rfl
            · intro u10 W hW hV
              obtain ⟨_, PL⟩ := hV 7 (by decide)
              have h9 : u10 9 = _ := hV 9 (by decide)
              obtain ⟨g6, c6, e6⟩ := ownsRow_succ PL.list
              rw [e6] at PL
              have q5 := PL.box.cell 5
              rw [(prCells_get _ _ _ _ _ _).2.2.2.2.2.1] at q5
              have z5 := PL.box.frozen 5
              have S9 := PL.store
              clear hV PL S7 B7 tag7 hW
              go_simp
              go_wp2
              go_ret
              exact ⟨_, _, rfl, S9.of (by rw [← HS4.out]) (by rw [← HS4.out]; rfl) (by rw [← HS4.out]) HN5.out⟩
          · have t1 : (Bd == d.tag) = false := by simp [hbd]
            obtain ⟨m, rfl⟩ := H5.out.2 hbd
            rw [t1] at h13
            clear hbd t1 B7 tag7
            go_simp
            go_wp2
            go_ret
            exact ⟨L, vl, rfl, S7.of (by rw [← HS4.out]) (by rw [← HS4.out]) (by rw [← HS4.out]) HN5.out⟩
    · have d : ((x : Int) != 0) = true := by simp; omega
      obtain ⟨m, rfl⟩ := H4.out.1 hx
      clear hx
      go_wp2
      go_ret
      exact ⟨L, vl, rfl, S2.of rfl rfl rfl HN1.out.symm⟩
end Go.Proofs.YtejhiekikblbiaaDoor
